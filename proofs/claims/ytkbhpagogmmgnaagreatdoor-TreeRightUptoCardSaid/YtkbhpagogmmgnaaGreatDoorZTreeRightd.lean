/- Part 4: what the law TreeRight needs, put together out of texts of this session. -/
import Derived.Test.YtkbhpagogmmgnaaGreatDoorZTreeRightc
section
namespace Go.Proofs.YtkbhpagogmmgnaaGreatDoor.Fw
open Go Go.Hw Go.Proofs
set_option linter.unusedVariables false
set_option maxRecDepth 100000
set_option synthInstance.maxHeartbeats 400000
set_option synthInstance.maxSize 1000
abbrev TB (m : Heap) : Prop := TBb 5 0 m
theorem TB.sub {m h : Heap} (t : TB m) (s : Sub m h) : TB h := TBb.sub t s
structure T_Type where
 Kind : Int
 Name : ByteArray
 Args : (List T_Type)
def T_Type.E (h : Heap) : T_Type → List Value → Prop
 | ⟨f0, f1, f2⟩, cs => ∃ A2 c2, cs = [.int .i64 f0, .string f1, .slice A2 f2.length c2] ∧ f2.length ≤ c2 ∧ (∀ i (hi : i < f2.length), ∃ a ds, A2 = some a ∧ cellsH h (a.add (i * 3)) 0 3 = some ds ∧ T_Type.E h f2[i] ds)
 termination_by x => SizeOf.sizeOf x
 decreasing_by
   all_goals
     have h1 := List.sizeOf_lt_of_mem (List.getElem_mem hi)
     first
     | (simp_all; omega)
theorem T_Type.iff {h : Heap} {x : T_Type} {cs : List Value} : T_Type.E h x cs ↔ ∃ A2 c2, cs = [.int .i64 x.Kind, .string x.Name, .slice A2 x.Args.length c2] ∧ x.Args.length ≤ c2 ∧ Rd 3 T_Type.E h A2 x.Args := by
 cases x
 rw [T_Type.E]
 exact Iff.rfl
theorem T_Type.mono {m h : Heap} (s : Sub m h) : ∀ (x : T_Type) (cs : List Value), T_Type.E m x cs → T_Type.E h x cs
 | ⟨f0, f1, f2⟩, cs, e => by
   rw [T_Type.E] at e ⊢
   obtain ⟨A2, c2, h1, k2, r2⟩ := e
   exact ⟨A2, c2, h1, k2, fun i hi => let ⟨a, ds, h1, h2, h3⟩ := r2 i hi; ⟨a, ds, h1, s.cells _ _ h2, T_Type.mono s _ _ h3⟩⟩
 termination_by x => SizeOf.sizeOf x
 decreasing_by
   all_goals
     have h1 := List.sizeOf_lt_of_mem (List.getElem_mem hi)
     first
     | (simp_all; omega)
theorem T_Type.T : Tell 3 T_Type.E := ⟨fun _ _ x cs s e => T_Type.mono s x cs e, by intro h x cs e; obtain ⟨A2, c2, rfl, k2, r2⟩ := T_Type.iff.1 e; rfl, by intro h x cs e; obtain ⟨A2, c2, rfl, k2, r2⟩ := T_Type.iff.1 e; exact Flats.cons trivial (Flats.cons trivial (Flats.cons trivial Flats.nil))⟩
def T_Type.Q : T_Type → Prop
 | ⟨f0, f1, f2⟩ => (-9223372036854775808 ≤ f0 ∧ f0 ≤ 9223372036854775807) ∧ (f1.size ≤ 140737488351232) ∧ (f2.length * 48 ≤ 140737488351232 ∧ ∀ i (hi : i < f2.length), T_Type.Q f2[i])
 termination_by x => SizeOf.sizeOf x
 decreasing_by
   all_goals
     have h1 := List.sizeOf_lt_of_mem (List.getElem_mem hi)
     first
     | (simp_all; omega)
theorem T_Type.Q_iff {x : T_Type} : T_Type.Q x ↔ (-9223372036854775808 ≤ x.Kind ∧ x.Kind ≤ 9223372036854775807) ∧ (x.Name.size ≤ 140737488351232) ∧ (x.Args.length * 48 ≤ 140737488351232 ∧ ∀ a ∈ x.Args, T_Type.Q a) := by
 obtain ⟨f0, f1, f2⟩ := x
 rw [T_Type.Q]
 show _ ↔ (-9223372036854775808 ≤ f0 ∧ f0 ≤ 9223372036854775807) ∧ (f1.size ≤ 140737488351232) ∧ (f2.length * 48 ≤ 140737488351232 ∧ ∀ a ∈ f2, T_Type.Q a)
 rw [← forall_get (l := f2) (p := T_Type.Q)]
theorem T_Type.tells {H : Type} {enc : TypeId × Value → H} {W : World} : Tells enc Tryz.prog W 44 T_Type.E T_Type.Q := tells_rec fun N ih => tellsU_map (tellsU_struct (t := 44) (fs := [(3, 0), (9, 1), (42, 2)]) (T := 3) (by kernel_rfl) (by kernel_rfl) (tfU_cons (s := 1) (f := 3) (by kernel_rfl) (Tells.up (tells_i64 (t := 3) (by kernel_rfl))) (tfU_cons (s := 1) (f := 9) (by kernel_rfl) (Tells.up (tells_strL (t := 9) (by kernel_rfl))) (tfU_cons (s := 1) (f := 42) (by kernel_rfl) (tellsU_slice (t := 42) (e := 44) (sz := 3) (B := 48) (by kernel_rfl) (by kernel_rfl) (by kernel_rfl) ih) tfU_nil)))) (by
 rintro ⟨x0, x1, x2, ⟨⟩⟩ cs e q
 obtain ⟨c0, r0, rfl, e0, c1, r1, rfl, e1, c2, r2, rfl, e2, eN⟩ := e
 obtain rfl : c0 = [.int .i64 x0] := e0
 obtain rfl : c1 = [.string x1] := e1
 obtain ⟨A2, k2, rfl, l2, R2⟩ := e2
 obtain rfl : r2 = [] := eN
 exact ⟨⟨x0, x1, x2⟩, T_Type.iff.2 ⟨_, _, rfl, l2, R2⟩, T_Type.Q_iff.2 ⟨q.1, q.2.1, q.2.2.1⟩⟩)
def T_Type.bulk : T_Type → Nat
 | ⟨f0, f1, f2⟩ => (1 + ((f1.size + 1) + (((f2.attach.map fun y => T_Type.bulk y.1).sum + 1) + (0)))) + 1
 termination_by x => SizeOf.sizeOf x
 decreasing_by
   all_goals
     have h1 := List.sizeOf_lt_of_mem y.2
     first
     | (simp_all; omega)
theorem T_Type.bulk_eq (x : T_Type) : T_Type.bulk x = (1 + ((x.Name.size + 1) + (((List.map T_Type.bulk x.Args).sum + 1) + (0)))) + 1 := by
 obtain ⟨f0, f1, f2⟩ := x
 rw [T_Type.bulk]
 rw [(List.attach_map_val : (f2.attach.map fun i => T_Type.bulk i.1) = f2.map T_Type.bulk)]
theorem T_Type.kt {H : Type} {bk : DataW H → Nat} {enc : TypeId × Value → H} {W : World} {N : Nat} (M : Measure bk) : KT N bk enc Tryz.prog W 44 T_Type.E T_Type.bulk := kt_rec (fun N ih => kt_map (kt_struct M (t := 44) (fs := [(3, 0), (9, 1), (42, 2)]) (T := 3) (by kernel_rfl) (by kernel_rfl) (ktf_cons (s := 1) (f := 3) (by kernel_rfl) (tell_int .i64) (kt_one M) (ktf_cons (s := 1) (f := 9) (by kernel_rfl) tell_str (kt_str (t := 9) M (by kernel_rfl)) (ktf_cons (s := 1) (f := 42) (by kernel_rfl) (tell_row T_Type.T) (kt_slice M (t := 42) (e := 44) (sz := 3) (by kernel_rfl) (by kernel_rfl) ih) ktf_nil)))) (fun x cs e => by
 obtain ⟨A2, c2, rfl, k2, r2⟩ := T_Type.iff.1 e
 exact ⟨(x.Kind, x.Name, x.Args, ()), ⟨[.int .i64 x.Kind], _, rfl, rfl, ⟨[.string x.Name], _, rfl, rfl, ⟨[.slice A2 x.Args.length c2], _, rfl, ⟨_, _, rfl, k2, r2⟩, rfl⟩⟩⟩, by rw [T_Type.bulk_eq]; exact Nat.le_refl _⟩)) N
structure T_Make where
 Name : ByteArray
 Args : (List T_Type)
def T_Make.E (h : Heap) (x : T_Make) (cs : List Value) : Prop := ∃ A1 c1, cs = [.string x.Name, .slice A1 x.Args.length c1] ∧ x.Args.length ≤ c1 ∧ Rd 3 T_Type.E h A1 x.Args
theorem T_Make.T : Tell 2 T_Make.E := ⟨by rintro m h x _ s ⟨A1, c1, rfl, k1, r1⟩; exact ⟨_, _, rfl, k1, r1.sub T_Type.T s⟩, by rintro h x _ ⟨A1, c1, rfl, k1, r1⟩; rfl, by rintro h x _ ⟨A1, c1, rfl, k1, r1⟩; exact Flats.cons trivial (Flats.cons trivial Flats.nil)⟩
def T_Make.Q (x : T_Make) : Prop := (x.Name.size ≤ 140737488351232) ∧ (x.Args.length * 48 ≤ 140737488351232 ∧ ∀ a ∈ x.Args, (T_Type.Q a))
theorem T_Make.tells {H : Type} {enc : TypeId × Value → H} {W : World} : Tells enc Tryz.prog W 62 T_Make.E T_Make.Q := tells_map (tells_struct (t := 62) (fs := [(9, 0), (42, 1)]) (T := 2) (by kernel_rfl) (by kernel_rfl) (tf_cons (s := 1) (f := 9) (by kernel_rfl) (tells_strL (t := 9) (by kernel_rfl)) (tf_cons (s := 1) (f := 42) (by kernel_rfl) (tells_sliceL (t := 42) (e := 44) (sz := 3) (B := 48) (by kernel_rfl) (by kernel_rfl) (by kernel_rfl) T_Type.tells) tf_nil))) (by
 rintro ⟨x0, x1, ⟨⟩⟩ cs e q
 obtain ⟨c0, r0, rfl, e0, c1, r1, rfl, e1, eN⟩ := e
 obtain rfl : c0 = [.string x0] := e0
 obtain ⟨A1, k1, rfl, l1, R1⟩ := e1
 obtain rfl : r1 = [] := eN
 exact ⟨⟨x0, x1⟩, ⟨_, _, rfl, l1, R1⟩, q.1, q.2.1⟩)
def T_Make.bulk (x : T_Make) : Nat := ((x.Name.size + 1) + (((List.map T_Type.bulk x.Args).sum + 1) + (0))) + 1
theorem T_Make.kt {H : Type} {bk : DataW H → Nat} {enc : TypeId × Value → H} {W : World} {N : Nat} (M : Measure bk) : KT N bk enc Tryz.prog W 62 T_Make.E T_Make.bulk := kt_down (kt_map (kt_struct M (t := 62) (fs := [(9, 0), (42, 1)]) (T := 2) (by kernel_rfl) (by kernel_rfl) (ktf_cons (s := 1) (f := 9) (by kernel_rfl) tell_str (kt_str (t := 9) M (by kernel_rfl)) (ktf_cons (s := 1) (f := 42) (by kernel_rfl) (tell_row T_Type.T) (kt_slice M (t := 42) (e := 44) (sz := 3) (by kernel_rfl) (by kernel_rfl) (T_Type.kt M)) ktf_nil))) (fun x cs e => by
 obtain ⟨A1, c1, rfl, k1, r1⟩ := e
 exact ⟨(x.Name, x.Args, ()), ⟨[.string x.Name], _, rfl, rfl, ⟨[.slice A1 x.Args.length c1], _, rfl, ⟨_, _, rfl, k1, r1⟩, rfl⟩⟩, Nat.le_refl _⟩))
structure T_Data where
 Name : ByteArray
 Params : (List ByteArray)
 Makes : (List T_Make)
def T_Data.E (h : Heap) (x : T_Data) (cs : List Value) : Prop := ∃ A1 c1 A2 c2, cs = [.string x.Name, .slice A1 x.Params.length c1, .slice A2 x.Makes.length c2] ∧ x.Params.length ≤ c1 ∧ Rd 1 eStr h A1 x.Params ∧ x.Makes.length ≤ c2 ∧ Rd 2 T_Make.E h A2 x.Makes
theorem T_Data.T : Tell 3 T_Data.E := ⟨by rintro m h x _ s ⟨A1, c1, A2, c2, rfl, k1, r1, k2, r2⟩; exact ⟨_, _, _, _, rfl, k1, r1.sub tell_str s, k2, r2.sub T_Make.T s⟩, by rintro h x _ ⟨A1, c1, A2, c2, rfl, k1, r1, k2, r2⟩; rfl, by rintro h x _ ⟨A1, c1, A2, c2, rfl, k1, r1, k2, r2⟩; exact Flats.cons trivial (Flats.cons trivial (Flats.cons trivial Flats.nil))⟩
def T_Data.Q (x : T_Data) : Prop := (x.Name.size ≤ 140737488351232) ∧ (x.Params.length * 16 ≤ 140737488351232 ∧ ∀ a ∈ x.Params, (a.size ≤ 140737488351232)) ∧ (x.Makes.length * 40 ≤ 140737488351232 ∧ ∀ a ∈ x.Makes, (T_Make.Q a))
theorem T_Data.tells {H : Type} {enc : TypeId × Value → H} {W : World} : Tells enc Tryz.prog W 40 T_Data.E T_Data.Q := tells_map (tells_struct (t := 40) (fs := [(9, 0), (37, 1), (38, 2)]) (T := 3) (by kernel_rfl) (by kernel_rfl) (tf_cons (s := 1) (f := 9) (by kernel_rfl) (tells_strL (t := 9) (by kernel_rfl)) (tf_cons (s := 1) (f := 37) (by kernel_rfl) (tells_sliceL (t := 37) (e := 9) (sz := 1) (B := 16) (by kernel_rfl) (by kernel_rfl) (by kernel_rfl) (tells_strL (t := 9) (by kernel_rfl))) (tf_cons (s := 1) (f := 38) (by kernel_rfl) (tells_sliceL (t := 38) (e := 62) (sz := 2) (B := 40) (by kernel_rfl) (by kernel_rfl) (by kernel_rfl) T_Make.tells) tf_nil)))) (by
 rintro ⟨x0, x1, x2, ⟨⟩⟩ cs e q
 obtain ⟨c0, r0, rfl, e0, c1, r1, rfl, e1, c2, r2, rfl, e2, eN⟩ := e
 obtain rfl : c0 = [.string x0] := e0
 obtain ⟨A1, k1, rfl, l1, R1⟩ := e1
 obtain ⟨A2, k2, rfl, l2, R2⟩ := e2
 obtain rfl : r2 = [] := eN
 exact ⟨⟨x0, x1, x2⟩, ⟨_, _, _, _, rfl, l1, R1, l2, R2⟩, q.1, q.2.1, q.2.2.1⟩)
def T_Data.bulk (x : T_Data) : Nat := ((x.Name.size + 1) + (((List.map (fun s : ByteArray => s.size + 1) x.Params).sum + 1) + (((List.map T_Make.bulk x.Makes).sum + 1) + (0)))) + 1
theorem T_Data.kt {H : Type} {bk : DataW H → Nat} {enc : TypeId × Value → H} {W : World} {N : Nat} (M : Measure bk) : KT N bk enc Tryz.prog W 40 T_Data.E T_Data.bulk := kt_down (kt_map (kt_struct M (t := 40) (fs := [(9, 0), (37, 1), (38, 2)]) (T := 3) (by kernel_rfl) (by kernel_rfl) (ktf_cons (s := 1) (f := 9) (by kernel_rfl) tell_str (kt_str (t := 9) M (by kernel_rfl)) (ktf_cons (s := 1) (f := 37) (by kernel_rfl) (tell_row tell_str) (kt_slice M (t := 37) (e := 9) (sz := 1) (by kernel_rfl) (by kernel_rfl) (kt_str (t := 9) M (by kernel_rfl))) (ktf_cons (s := 1) (f := 38) (by kernel_rfl) (tell_row T_Make.T) (kt_slice M (t := 38) (e := 62) (sz := 2) (by kernel_rfl) (by kernel_rfl) (T_Make.kt M)) ktf_nil)))) (fun x cs e => by
 obtain ⟨A1, c1, A2, c2, rfl, k1, r1, k2, r2⟩ := e
 exact ⟨(x.Name, x.Params, x.Makes, ()), ⟨[.string x.Name], _, rfl, rfl, ⟨[.slice A1 x.Params.length c1], _, rfl, ⟨_, _, rfl, k1, r1⟩, ⟨[.slice A2 x.Makes.length c2], _, rfl, ⟨_, _, rfl, k2, r2⟩, rfl⟩⟩⟩, Nat.le_refl _⟩))
structure T_Pat where
 Kind : Int
 Num : Int
 Text : ByteArray
 Args : (List T_Pat)
def T_Pat.E (h : Heap) : T_Pat → List Value → Prop
 | ⟨f0, f1, f2, f3⟩, cs => ∃ A3 c3, cs = [.int .i64 f0, .int .i64 f1, .string f2, .slice A3 f3.length c3] ∧ f3.length ≤ c3 ∧ (∀ i (hi : i < f3.length), ∃ a ds, A3 = some a ∧ cellsH h (a.add (i * 4)) 0 4 = some ds ∧ T_Pat.E h f3[i] ds)
 termination_by x => SizeOf.sizeOf x
 decreasing_by
   all_goals
     have h1 := List.sizeOf_lt_of_mem (List.getElem_mem hi)
     first
     | (simp_all; omega)
theorem T_Pat.iff {h : Heap} {x : T_Pat} {cs : List Value} : T_Pat.E h x cs ↔ ∃ A3 c3, cs = [.int .i64 x.Kind, .int .i64 x.Num, .string x.Text, .slice A3 x.Args.length c3] ∧ x.Args.length ≤ c3 ∧ Rd 4 T_Pat.E h A3 x.Args := by
 cases x
 rw [T_Pat.E]
 exact Iff.rfl
theorem T_Pat.mono {m h : Heap} (s : Sub m h) : ∀ (x : T_Pat) (cs : List Value), T_Pat.E m x cs → T_Pat.E h x cs
 | ⟨f0, f1, f2, f3⟩, cs, e => by
   rw [T_Pat.E] at e ⊢
   obtain ⟨A3, c3, h1, k3, r3⟩ := e
   exact ⟨A3, c3, h1, k3, fun i hi => let ⟨a, ds, h1, h2, h3⟩ := r3 i hi; ⟨a, ds, h1, s.cells _ _ h2, T_Pat.mono s _ _ h3⟩⟩
 termination_by x => SizeOf.sizeOf x
 decreasing_by
   all_goals
     have h1 := List.sizeOf_lt_of_mem (List.getElem_mem hi)
     first
     | (simp_all; omega)
theorem T_Pat.T : Tell 4 T_Pat.E := ⟨fun _ _ x cs s e => T_Pat.mono s x cs e, by intro h x cs e; obtain ⟨A3, c3, rfl, k3, r3⟩ := T_Pat.iff.1 e; rfl, by intro h x cs e; obtain ⟨A3, c3, rfl, k3, r3⟩ := T_Pat.iff.1 e; exact Flats.cons trivial (Flats.cons trivial (Flats.cons trivial (Flats.cons trivial Flats.nil)))⟩
def T_Pat.Q : T_Pat → Prop
 | ⟨f0, f1, f2, f3⟩ => (-9223372036854775808 ≤ f0 ∧ f0 ≤ 9223372036854775807) ∧ (-9223372036854775808 ≤ f1 ∧ f1 ≤ 9223372036854775807) ∧ (f2.size ≤ 140737488351232) ∧ (f3.length * 56 ≤ 140737488351232 ∧ ∀ i (hi : i < f3.length), T_Pat.Q f3[i])
 termination_by x => SizeOf.sizeOf x
 decreasing_by
   all_goals
     have h1 := List.sizeOf_lt_of_mem (List.getElem_mem hi)
     first
     | (simp_all; omega)
theorem T_Pat.Q_iff {x : T_Pat} : T_Pat.Q x ↔ (-9223372036854775808 ≤ x.Kind ∧ x.Kind ≤ 9223372036854775807) ∧ (-9223372036854775808 ≤ x.Num ∧ x.Num ≤ 9223372036854775807) ∧ (x.Text.size ≤ 140737488351232) ∧ (x.Args.length * 56 ≤ 140737488351232 ∧ ∀ a ∈ x.Args, T_Pat.Q a) := by
 obtain ⟨f0, f1, f2, f3⟩ := x
 rw [T_Pat.Q]
 show _ ↔ (-9223372036854775808 ≤ f0 ∧ f0 ≤ 9223372036854775807) ∧ (-9223372036854775808 ≤ f1 ∧ f1 ≤ 9223372036854775807) ∧ (f2.size ≤ 140737488351232) ∧ (f3.length * 56 ≤ 140737488351232 ∧ ∀ a ∈ f3, T_Pat.Q a)
 rw [← forall_get (l := f3) (p := T_Pat.Q)]
theorem T_Pat.tells {H : Type} {enc : TypeId × Value → H} {W : World} : Tells enc Tryz.prog W 95 T_Pat.E T_Pat.Q := tells_rec fun N ih => tellsU_map (tellsU_struct (t := 95) (fs := [(3, 0), (3, 1), (9, 2), (93, 3)]) (T := 4) (by kernel_rfl) (by kernel_rfl) (tfU_cons (s := 1) (f := 3) (by kernel_rfl) (Tells.up (tells_i64 (t := 3) (by kernel_rfl))) (tfU_cons (s := 1) (f := 3) (by kernel_rfl) (Tells.up (tells_i64 (t := 3) (by kernel_rfl))) (tfU_cons (s := 1) (f := 9) (by kernel_rfl) (Tells.up (tells_strL (t := 9) (by kernel_rfl))) (tfU_cons (s := 1) (f := 93) (by kernel_rfl) (tellsU_slice (t := 93) (e := 95) (sz := 4) (B := 56) (by kernel_rfl) (by kernel_rfl) (by kernel_rfl) ih) tfU_nil))))) (by
 rintro ⟨x0, x1, x2, x3, ⟨⟩⟩ cs e q
 obtain ⟨c0, r0, rfl, e0, c1, r1, rfl, e1, c2, r2, rfl, e2, c3, r3, rfl, e3, eN⟩ := e
 obtain rfl : c0 = [.int .i64 x0] := e0
 obtain rfl : c1 = [.int .i64 x1] := e1
 obtain rfl : c2 = [.string x2] := e2
 obtain ⟨A3, k3, rfl, l3, R3⟩ := e3
 obtain rfl : r3 = [] := eN
 exact ⟨⟨x0, x1, x2, x3⟩, T_Pat.iff.2 ⟨_, _, rfl, l3, R3⟩, T_Pat.Q_iff.2 ⟨q.1, q.2.1, q.2.2.1, q.2.2.2.1⟩⟩)
def T_Pat.bulk : T_Pat → Nat
 | ⟨f0, f1, f2, f3⟩ => (1 + (1 + ((f2.size + 1) + (((f3.attach.map fun y => T_Pat.bulk y.1).sum + 1) + (0))))) + 1
 termination_by x => SizeOf.sizeOf x
 decreasing_by
   all_goals
     have h1 := List.sizeOf_lt_of_mem y.2
     first
     | (simp_all; omega)
theorem T_Pat.bulk_eq (x : T_Pat) : T_Pat.bulk x = (1 + (1 + ((x.Text.size + 1) + (((List.map T_Pat.bulk x.Args).sum + 1) + (0))))) + 1 := by
 obtain ⟨f0, f1, f2, f3⟩ := x
 rw [T_Pat.bulk]
 rw [(List.attach_map_val : (f3.attach.map fun i => T_Pat.bulk i.1) = f3.map T_Pat.bulk)]
theorem T_Pat.kt {H : Type} {bk : DataW H → Nat} {enc : TypeId × Value → H} {W : World} {N : Nat} (M : Measure bk) : KT N bk enc Tryz.prog W 95 T_Pat.E T_Pat.bulk := kt_rec (fun N ih => kt_map (kt_struct M (t := 95) (fs := [(3, 0), (3, 1), (9, 2), (93, 3)]) (T := 4) (by kernel_rfl) (by kernel_rfl) (ktf_cons (s := 1) (f := 3) (by kernel_rfl) (tell_int .i64) (kt_one M) (ktf_cons (s := 1) (f := 3) (by kernel_rfl) (tell_int .i64) (kt_one M) (ktf_cons (s := 1) (f := 9) (by kernel_rfl) tell_str (kt_str (t := 9) M (by kernel_rfl)) (ktf_cons (s := 1) (f := 93) (by kernel_rfl) (tell_row T_Pat.T) (kt_slice M (t := 93) (e := 95) (sz := 4) (by kernel_rfl) (by kernel_rfl) ih) ktf_nil))))) (fun x cs e => by
 obtain ⟨A3, c3, rfl, k3, r3⟩ := T_Pat.iff.1 e
 exact ⟨(x.Kind, x.Num, x.Text, x.Args, ()), ⟨[.int .i64 x.Kind], _, rfl, rfl, ⟨[.int .i64 x.Num], _, rfl, rfl, ⟨[.string x.Text], _, rfl, rfl, ⟨[.slice A3 x.Args.length c3], _, rfl, ⟨_, _, rfl, k3, r3⟩, rfl⟩⟩⟩⟩, by rw [T_Pat.bulk_eq]; exact Nat.le_refl _⟩)) N
mutual
structure T_Expr where
 Kind : Int
 Num : Int
 Text : ByteArray
 Names : (List ByteArray)
 Types : (List T_Type)
 Args : (List T_Expr)
 Arms : (List T_Arm)
 At : Int
structure T_Arm where
 Pat : T_Pat
 Body : T_Expr
end
theorem T_Arm.lt_Body (x : T_Arm) : SizeOf.sizeOf x.Body < SizeOf.sizeOf x := by cases x; simp; omega
def T_Expr.E (h : Heap) : T_Expr → List Value → Prop
 | ⟨f0, f1, f2, f3, f4, f5, f6, f7⟩, cs => ∃ A3 c3 A4 c4 A5 c5 A6 c6, cs = [.int .i64 f0, .int .i64 f1, .string f2, .slice A3 f3.length c3, .slice A4 f4.length c4, .slice A5 f5.length c5, .slice A6 f6.length c6, .int .i64 f7] ∧ f3.length ≤ c3 ∧ Rd 1 eStr h A3 f3 ∧ f4.length ≤ c4 ∧ Rd 3 T_Type.E h A4 f4 ∧ f5.length ≤ c5 ∧ (∀ i (hi : i < f5.length), ∃ a ds, A5 = some a ∧ cellsH h (a.add (i * 8)) 0 8 = some ds ∧ T_Expr.E h f5[i] ds) ∧ f6.length ≤ c6 ∧ (∀ i (hi : i < f6.length), ∃ a ds, A6 = some a ∧ cellsH h (a.add (i * 12)) 0 12 = some ds ∧ ∃ d0 d1, ds = d0 ++ d1 ∧ T_Pat.E h f6[i].Pat d0 ∧ T_Expr.E h f6[i].Body d1)
 termination_by x => SizeOf.sizeOf x
 decreasing_by
   all_goals
     have h1 := List.sizeOf_lt_of_mem (List.getElem_mem hi)
     first
     | (simp_all; omega)
     | (have h2 := T_Arm.lt_Body (f6[i]'hi); simp_all; omega)
def T_Arm.E (h : Heap) (x : T_Arm) (cs : List Value) : Prop := ∃ d0 d1, cs = d0 ++ d1 ∧ T_Pat.E h x.Pat d0 ∧ T_Expr.E h x.Body d1
theorem T_Expr.iff {h : Heap} {x : T_Expr} {cs : List Value} : T_Expr.E h x cs ↔ ∃ A3 c3 A4 c4 A5 c5 A6 c6, cs = [.int .i64 x.Kind, .int .i64 x.Num, .string x.Text, .slice A3 x.Names.length c3, .slice A4 x.Types.length c4, .slice A5 x.Args.length c5, .slice A6 x.Arms.length c6, .int .i64 x.At] ∧ x.Names.length ≤ c3 ∧ Rd 1 eStr h A3 x.Names ∧ x.Types.length ≤ c4 ∧ Rd 3 T_Type.E h A4 x.Types ∧ x.Args.length ≤ c5 ∧ Rd 8 T_Expr.E h A5 x.Args ∧ x.Arms.length ≤ c6 ∧ Rd 12 T_Arm.E h A6 x.Arms := by
 cases x
 rw [T_Expr.E]
 exact Iff.rfl
theorem T_Expr.mono {m h : Heap} (s : Sub m h) : ∀ (x : T_Expr) (cs : List Value), T_Expr.E m x cs → T_Expr.E h x cs
 | ⟨f0, f1, f2, f3, f4, f5, f6, f7⟩, cs, e => by
   rw [T_Expr.E] at e ⊢
   obtain ⟨A3, c3, A4, c4, A5, c5, A6, c6, h1, k3, r3, k4, r4, k5, r5, k6, r6⟩ := e
   exact ⟨A3, c3, A4, c4, A5, c5, A6, c6, h1, k3, r3.sub tell_str s, k4, r4.sub T_Type.T s, k5, fun i hi => let ⟨a, ds, h1, h2, h3⟩ := r5 i hi; ⟨a, ds, h1, s.cells _ _ h2, T_Expr.mono s _ _ h3⟩, k6, fun i hi => let ⟨a, ds, h1, h2, d0, d1, h4, e0, e1⟩ := r6 i hi; ⟨a, ds, h1, s.cells _ _ h2, d0, d1, h4, T_Pat.T.mono _ _ _ _ s e0, T_Expr.mono s _ _ e1⟩⟩
 termination_by x => SizeOf.sizeOf x
 decreasing_by
   all_goals
     have h1 := List.sizeOf_lt_of_mem (List.getElem_mem hi)
     first
     | (simp_all; omega)
     | (have h2 := T_Arm.lt_Body (f6[i]'hi); simp_all; omega)
theorem T_Expr.T : Tell 8 T_Expr.E := ⟨fun _ _ x cs s e => T_Expr.mono s x cs e, by intro h x cs e; obtain ⟨A3, c3, A4, c4, A5, c5, A6, c6, rfl, k3, r3, k4, r4, k5, r5, k6, r6⟩ := T_Expr.iff.1 e; rfl, by intro h x cs e; obtain ⟨A3, c3, A4, c4, A5, c5, A6, c6, rfl, k3, r3, k4, r4, k5, r5, k6, r6⟩ := T_Expr.iff.1 e; exact Flats.cons trivial (Flats.cons trivial (Flats.cons trivial (Flats.cons trivial (Flats.cons trivial (Flats.cons trivial (Flats.cons trivial (Flats.cons trivial Flats.nil)))))))⟩
theorem T_Arm.iff {h : Heap} {x : T_Arm} {cs : List Value} : T_Arm.E h x cs ↔ ∃ A3 c3 A7 c7 A8 c8 A9 c9 A10 c10, cs = [.int .i64 x.Pat.Kind, .int .i64 x.Pat.Num, .string x.Pat.Text, .slice A3 x.Pat.Args.length c3, .int .i64 x.Body.Kind, .int .i64 x.Body.Num, .string x.Body.Text, .slice A7 x.Body.Names.length c7, .slice A8 x.Body.Types.length c8, .slice A9 x.Body.Args.length c9, .slice A10 x.Body.Arms.length c10, .int .i64 x.Body.At] ∧ x.Pat.Args.length ≤ c3 ∧ Rd 4 T_Pat.E h A3 x.Pat.Args ∧ x.Body.Names.length ≤ c7 ∧ Rd 1 eStr h A7 x.Body.Names ∧ x.Body.Types.length ≤ c8 ∧ Rd 3 T_Type.E h A8 x.Body.Types ∧ x.Body.Args.length ≤ c9 ∧ Rd 8 T_Expr.E h A9 x.Body.Args ∧ x.Body.Arms.length ≤ c10 ∧ Rd 12 T_Arm.E h A10 x.Body.Arms := by
 constructor
 · rintro ⟨d0, d1, rfl, e0, e1⟩
   obtain ⟨A3, c3, rfl, k3, r3⟩ := T_Pat.iff.1 e0
   obtain ⟨A7, c7, A8, c8, A9, c9, A10, c10, rfl, k7, r7, k8, r8, k9, r9, k10, r10⟩ := T_Expr.iff.1 e1
   exact ⟨A3, c3, A7, c7, A8, c8, A9, c9, A10, c10, rfl, k3, r3, k7, r7, k8, r8, k9, r9, k10, r10⟩
 · rintro ⟨A3, c3, A7, c7, A8, c8, A9, c9, A10, c10, rfl, k3, r3, k7, r7, k8, r8, k9, r9, k10, r10⟩
   exact ⟨[.int .i64 x.Pat.Kind, .int .i64 x.Pat.Num, .string x.Pat.Text, .slice A3 x.Pat.Args.length c3], [.int .i64 x.Body.Kind, .int .i64 x.Body.Num, .string x.Body.Text, .slice A7 x.Body.Names.length c7, .slice A8 x.Body.Types.length c8, .slice A9 x.Body.Args.length c9, .slice A10 x.Body.Arms.length c10, .int .i64 x.Body.At], rfl, T_Pat.iff.2 ⟨A3, c3, rfl, k3, r3⟩, T_Expr.iff.2 ⟨A7, c7, A8, c8, A9, c9, A10, c10, rfl, k7, r7, k8, r8, k9, r9, k10, r10⟩⟩
theorem T_Arm.T : Tell 12 T_Arm.E := ⟨by rintro m h x _ s ⟨d0, d1, rfl, e0, e1⟩; exact ⟨d0, d1, rfl, T_Pat.T.mono _ _ _ _ s e0, T_Expr.T.mono _ _ _ _ s e1⟩, by intro h x cs e; obtain ⟨A3, c3, A7, c7, A8, c8, A9, c9, A10, c10, rfl, k3, r3, k7, r7, k8, r8, k9, r9, k10, r10⟩ := T_Arm.iff.1 e; rfl, by intro h x cs e; obtain ⟨A3, c3, A7, c7, A8, c8, A9, c9, A10, c10, rfl, k3, r3, k7, r7, k8, r8, k9, r9, k10, r10⟩ := T_Arm.iff.1 e; exact Flats.cons trivial (Flats.cons trivial (Flats.cons trivial (Flats.cons trivial (Flats.cons trivial (Flats.cons trivial (Flats.cons trivial (Flats.cons trivial (Flats.cons trivial (Flats.cons trivial (Flats.cons trivial (Flats.cons trivial Flats.nil)))))))))))⟩
def T_Expr.Q : T_Expr → Prop
 | ⟨f0, f1, f2, f3, f4, f5, f6, f7⟩ => (-9223372036854775808 ≤ f0 ∧ f0 ≤ 9223372036854775807) ∧ (-9223372036854775808 ≤ f1 ∧ f1 ≤ 9223372036854775807) ∧ (f2.size ≤ 140737488351232) ∧ (f3.length * 16 ≤ 140737488351232 ∧ ∀ a ∈ f3, (a.size ≤ 140737488351232)) ∧ (f4.length * 48 ≤ 140737488351232 ∧ ∀ a ∈ f4, (T_Type.Q a)) ∧ (f5.length * 136 ≤ 140737488351232 ∧ ∀ i (hi : i < f5.length), T_Expr.Q f5[i]) ∧ (f6.length * 192 ≤ 140737488351232 ∧ ∀ i (hi : i < f6.length), (T_Pat.Q f6[i].Pat) ∧ (T_Expr.Q f6[i].Body)) ∧ (-9223372036854775808 ≤ f7 ∧ f7 ≤ 9223372036854775807)
 termination_by x => SizeOf.sizeOf x
 decreasing_by
   all_goals
     have h1 := List.sizeOf_lt_of_mem (List.getElem_mem hi)
     first
     | (simp_all; omega)
     | (have h2 := T_Arm.lt_Body (f6[i]'hi); simp_all; omega)
def T_Arm.Q (x : T_Arm) : Prop := (T_Pat.Q x.Pat) ∧ (T_Expr.Q x.Body)
theorem T_Expr.Q_iff {x : T_Expr} : T_Expr.Q x ↔ (-9223372036854775808 ≤ x.Kind ∧ x.Kind ≤ 9223372036854775807) ∧ (-9223372036854775808 ≤ x.Num ∧ x.Num ≤ 9223372036854775807) ∧ (x.Text.size ≤ 140737488351232) ∧ (x.Names.length * 16 ≤ 140737488351232 ∧ ∀ a ∈ x.Names, (a.size ≤ 140737488351232)) ∧ (x.Types.length * 48 ≤ 140737488351232 ∧ ∀ a ∈ x.Types, (T_Type.Q a)) ∧ (x.Args.length * 136 ≤ 140737488351232 ∧ ∀ a ∈ x.Args, T_Expr.Q a) ∧ (x.Arms.length * 192 ≤ 140737488351232 ∧ ∀ a ∈ x.Arms, T_Arm.Q a) ∧ (-9223372036854775808 ≤ x.At ∧ x.At ≤ 9223372036854775807) := by
 obtain ⟨f0, f1, f2, f3, f4, f5, f6, f7⟩ := x
 rw [T_Expr.Q]
 show _ ↔ (-9223372036854775808 ≤ f0 ∧ f0 ≤ 9223372036854775807) ∧ (-9223372036854775808 ≤ f1 ∧ f1 ≤ 9223372036854775807) ∧ (f2.size ≤ 140737488351232) ∧ (f3.length * 16 ≤ 140737488351232 ∧ ∀ a ∈ f3, (a.size ≤ 140737488351232)) ∧ (f4.length * 48 ≤ 140737488351232 ∧ ∀ a ∈ f4, (T_Type.Q a)) ∧ (f5.length * 136 ≤ 140737488351232 ∧ ∀ a ∈ f5, T_Expr.Q a) ∧ (f6.length * 192 ≤ 140737488351232 ∧ ∀ a ∈ f6, T_Arm.Q a) ∧ (-9223372036854775808 ≤ f7 ∧ f7 ≤ 9223372036854775807)
 rw [← forall_get (l := f5) (p := T_Expr.Q), ← forall_get (l := f6) (p := T_Arm.Q)]
 exact Iff.rfl
theorem T_Arm.tellsU {H : Type} {enc : TypeId × Value → H} {W : World} {N : Nat} (ih : TellsU N enc Tryz.prog W 48 T_Expr.E T_Expr.Q) : TellsU (N + 1) enc Tryz.prog W 97 T_Arm.E T_Arm.Q := tellsU_map (tellsU_struct (t := 97) (fs := [(95, 0), (48, 4)]) (T := 12) (by kernel_rfl) (by kernel_rfl) (tfU_cons (s := 4) (f := 95) (by kernel_rfl) (Tells.up T_Pat.tells) (tfU_cons (s := 8) (f := 48) (by kernel_rfl) ih tfU_nil))) (by
 rintro ⟨x0, x1, ⟨⟩⟩ cs e q
 obtain ⟨c0, r0, rfl, e0, c1, r1, rfl, e1, eN⟩ := e
 obtain rfl : r1 = [] := eN
 exact ⟨⟨x0, x1⟩, ⟨_, _, by simp, e0, e1⟩, q.1, q.2.1⟩)
theorem T_Expr.tells {H : Type} {enc : TypeId × Value → H} {W : World} : Tells enc Tryz.prog W 48 T_Expr.E T_Expr.Q := tells_rec fun N ih => tellsU_map (tellsU_struct (t := 48) (fs := [(3, 0), (3, 1), (9, 2), (37, 3), (42, 4), (45, 5), (46, 6), (3, 7)]) (T := 8) (by kernel_rfl) (by kernel_rfl) (tfU_cons (s := 1) (f := 3) (by kernel_rfl) (Tells.up (tells_i64 (t := 3) (by kernel_rfl))) (tfU_cons (s := 1) (f := 3) (by kernel_rfl) (Tells.up (tells_i64 (t := 3) (by kernel_rfl))) (tfU_cons (s := 1) (f := 9) (by kernel_rfl) (Tells.up (tells_strL (t := 9) (by kernel_rfl))) (tfU_cons (s := 1) (f := 37) (by kernel_rfl) (Tells.up (tells_sliceL (t := 37) (e := 9) (sz := 1) (B := 16) (by kernel_rfl) (by kernel_rfl) (by kernel_rfl) (tells_strL (t := 9) (by kernel_rfl)))) (tfU_cons (s := 1) (f := 42) (by kernel_rfl) (Tells.up (tells_sliceL (t := 42) (e := 44) (sz := 3) (B := 48) (by kernel_rfl) (by kernel_rfl) (by kernel_rfl) T_Type.tells)) (tfU_cons (s := 1) (f := 45) (by kernel_rfl) (tellsU_slice (t := 45) (e := 48) (sz := 8) (B := 136) (by kernel_rfl) (by kernel_rfl) (by kernel_rfl) ih) (tfU_cons (s := 1) (f := 46) (by kernel_rfl) (tellsU_slice (t := 46) (e := 97) (sz := 12) (B := 192) (by kernel_rfl) (by kernel_rfl) (by kernel_rfl) (tellsU_down (T_Arm.tellsU ih))) (tfU_cons (s := 1) (f := 3) (by kernel_rfl) (Tells.up (tells_i64 (t := 3) (by kernel_rfl))) tfU_nil))))))))) (by
 rintro ⟨x0, x1, x2, x3, x4, x5, x6, x7, ⟨⟩⟩ cs e q
 obtain ⟨c0, r0, rfl, e0, c1, r1, rfl, e1, c2, r2, rfl, e2, c3, r3, rfl, e3, c4, r4, rfl, e4, c5, r5, rfl, e5, c6, r6, rfl, e6, c7, r7, rfl, e7, eN⟩ := e
 obtain rfl : c0 = [.int .i64 x0] := e0
 obtain rfl : c1 = [.int .i64 x1] := e1
 obtain rfl : c2 = [.string x2] := e2
 obtain ⟨A3, k3, rfl, l3, R3⟩ := e3
 obtain ⟨A4, k4, rfl, l4, R4⟩ := e4
 obtain ⟨A5, k5, rfl, l5, R5⟩ := e5
 obtain ⟨A6, k6, rfl, l6, R6⟩ := e6
 obtain rfl : c7 = [.int .i64 x7] := e7
 obtain rfl : r7 = [] := eN
 exact ⟨⟨x0, x1, x2, x3, x4, x5, x6, x7⟩, T_Expr.iff.2 ⟨_, _, _, _, _, _, _, _, rfl, l3, R3, l4, R4, l5, R5, l6, R6⟩, T_Expr.Q_iff.2 ⟨q.1, q.2.1, q.2.2.1, q.2.2.2.1, q.2.2.2.2.1, q.2.2.2.2.2.1, q.2.2.2.2.2.2.1, q.2.2.2.2.2.2.2.1⟩⟩)
def T_Expr.bulk : T_Expr → Nat
 | ⟨f0, f1, f2, f3, f4, f5, f6, f7⟩ => (1 + (1 + ((f2.size + 1) + (((List.map (fun s : ByteArray => s.size + 1) f3).sum + 1) + (((List.map T_Type.bulk f4).sum + 1) + (((f5.attach.map fun y => T_Expr.bulk y.1).sum + 1) + (((f6.attach.map fun y => ((T_Pat.bulk y.1.Pat) + ((T_Expr.bulk y.1.Body) + (0))) + 1).sum + 1) + (1 + (0))))))))) + 1
 termination_by x => SizeOf.sizeOf x
 decreasing_by
   all_goals
     have h1 := List.sizeOf_lt_of_mem y.2
     first
     | (simp_all; omega)
     | (have h2 := T_Arm.lt_Body y.1; simp_all; omega)
def T_Arm.bulk (x : T_Arm) : Nat := ((T_Pat.bulk x.Pat) + ((T_Expr.bulk x.Body) + (0))) + 1
theorem T_Expr.bulk_eq (x : T_Expr) : T_Expr.bulk x = (1 + (1 + ((x.Text.size + 1) + (((List.map (fun s : ByteArray => s.size + 1) x.Names).sum + 1) + (((List.map T_Type.bulk x.Types).sum + 1) + (((List.map T_Expr.bulk x.Args).sum + 1) + (((List.map T_Arm.bulk x.Arms).sum + 1) + (1 + (0))))))))) + 1 := by
 obtain ⟨f0, f1, f2, f3, f4, f5, f6, f7⟩ := x
 rw [T_Expr.bulk]
 rw [(List.attach_map_val : (f5.attach.map fun i => T_Expr.bulk i.1) = f5.map T_Expr.bulk)]
 rw [show (f6.attach.map fun y => ((T_Pat.bulk y.1.Pat) + ((T_Expr.bulk y.1.Body) + (0))) + 1) = (f6.attach.map fun y => T_Arm.bulk y.1) from rfl, (List.attach_map_val : (f6.attach.map fun i => T_Arm.bulk i.1) = f6.map T_Arm.bulk)]
theorem T_Arm.ktU {H : Type} {bk : DataW H → Nat} {enc : TypeId × Value → H} {W : World} {N : Nat} (M : Measure bk) (ih : KT N bk enc Tryz.prog W 48 T_Expr.E T_Expr.bulk) : KT (N + 1) bk enc Tryz.prog W 97 T_Arm.E T_Arm.bulk := kt_map (kt_struct M (t := 97) (fs := [(95, 0), (48, 4)]) (T := 12) (by kernel_rfl) (by kernel_rfl) (ktf_cons (s := 4) (f := 95) (by kernel_rfl) T_Pat.T (T_Pat.kt M) (ktf_cons (s := 8) (f := 48) (by kernel_rfl) T_Expr.T ih ktf_nil))) (fun x cs e => by
 obtain ⟨d0, d1, rfl, e0, e1⟩ := e
 exact ⟨(x.Pat, x.Body, ()), ⟨d0, _, rfl, e0, ⟨d1, _, (List.append_nil _).symm, e1, rfl⟩⟩, Nat.le_refl _⟩)
theorem T_Expr.kt {H : Type} {bk : DataW H → Nat} {enc : TypeId × Value → H} {W : World} {N : Nat} (M : Measure bk) : KT N bk enc Tryz.prog W 48 T_Expr.E T_Expr.bulk := kt_rec (fun N ih => kt_map (kt_struct M (t := 48) (fs := [(3, 0), (3, 1), (9, 2), (37, 3), (42, 4), (45, 5), (46, 6), (3, 7)]) (T := 8) (by kernel_rfl) (by kernel_rfl) (ktf_cons (s := 1) (f := 3) (by kernel_rfl) (tell_int .i64) (kt_one M) (ktf_cons (s := 1) (f := 3) (by kernel_rfl) (tell_int .i64) (kt_one M) (ktf_cons (s := 1) (f := 9) (by kernel_rfl) tell_str (kt_str (t := 9) M (by kernel_rfl)) (ktf_cons (s := 1) (f := 37) (by kernel_rfl) (tell_row tell_str) (kt_slice M (t := 37) (e := 9) (sz := 1) (by kernel_rfl) (by kernel_rfl) (kt_str (t := 9) M (by kernel_rfl))) (ktf_cons (s := 1) (f := 42) (by kernel_rfl) (tell_row T_Type.T) (kt_slice M (t := 42) (e := 44) (sz := 3) (by kernel_rfl) (by kernel_rfl) (T_Type.kt M)) (ktf_cons (s := 1) (f := 45) (by kernel_rfl) (tell_row T_Expr.T) (kt_slice M (t := 45) (e := 48) (sz := 8) (by kernel_rfl) (by kernel_rfl) ih) (ktf_cons (s := 1) (f := 46) (by kernel_rfl) (tell_row T_Arm.T) (kt_slice M (t := 46) (e := 97) (sz := 12) (by kernel_rfl) (by kernel_rfl) (kt_down (T_Arm.ktU M ih))) (ktf_cons (s := 1) (f := 3) (by kernel_rfl) (tell_int .i64) (kt_one M) ktf_nil))))))))) (fun x cs e => by
 obtain ⟨A3, c3, A4, c4, A5, c5, A6, c6, rfl, k3, r3, k4, r4, k5, r5, k6, r6⟩ := T_Expr.iff.1 e
 exact ⟨(x.Kind, x.Num, x.Text, x.Names, x.Types, x.Args, x.Arms, x.At, ()), ⟨[.int .i64 x.Kind], _, rfl, rfl, ⟨[.int .i64 x.Num], _, rfl, rfl, ⟨[.string x.Text], _, rfl, rfl, ⟨[.slice A3 x.Names.length c3], _, rfl, ⟨_, _, rfl, k3, r3⟩, ⟨[.slice A4 x.Types.length c4], _, rfl, ⟨_, _, rfl, k4, r4⟩, ⟨[.slice A5 x.Args.length c5], _, rfl, ⟨_, _, rfl, k5, r5⟩, ⟨[.slice A6 x.Arms.length c6], _, rfl, ⟨_, _, rfl, k6, r6⟩, ⟨[.int .i64 x.At], _, rfl, rfl, rfl⟩⟩⟩⟩⟩⟩⟩⟩, by rw [T_Expr.bulk_eq]; exact Nat.le_refl _⟩)) N
structure T_fo where
 text_ : Int
 low_ : Int
 high_ : Int
 num_ : Bool
 arms_ : Bool
def T_fo.E (h : Heap) (x : T_fo) (cs : List Value) : Prop := cs = [.int .i64 x.text_, .int .i64 x.low_, .int .i64 x.high_, .bool x.num_, .bool x.arms_]
theorem T_fo.T : Tell 5 T_fo.E := ⟨by rintro m h x _ s rfl; exact rfl, by rintro h x _ rfl; rfl, by rintro h x _ rfl; exact Flats.cons trivial (Flats.cons trivial (Flats.cons trivial (Flats.cons trivial (Flats.cons trivial Flats.nil))))⟩
theorem T_fo.keep {m h : Heap} {x : T_fo} {cs : List Value} (e : T_fo.E m x cs) : T_fo.E h x cs := e
structure T_Func where
 Name : ByteArray
 Params : (List ByteArray)
 Names : (List ByteArray)
 Types : (List T_Type)
 Out : T_Type
 Body : T_Expr
def T_Func.E (h : Heap) (x : T_Func) (cs : List Value) : Prop := ∃ A1 c1 A2 c2 A3 c3 A6 c6 A10 c10 A11 c11 A12 c12 A13 c13, cs = [.string x.Name, .slice A1 x.Params.length c1, .slice A2 x.Names.length c2, .slice A3 x.Types.length c3, .int .i64 x.Out.Kind, .string x.Out.Name, .slice A6 x.Out.Args.length c6, .int .i64 x.Body.Kind, .int .i64 x.Body.Num, .string x.Body.Text, .slice A10 x.Body.Names.length c10, .slice A11 x.Body.Types.length c11, .slice A12 x.Body.Args.length c12, .slice A13 x.Body.Arms.length c13, .int .i64 x.Body.At] ∧ x.Params.length ≤ c1 ∧ Rd 1 eStr h A1 x.Params ∧ x.Names.length ≤ c2 ∧ Rd 1 eStr h A2 x.Names ∧ x.Types.length ≤ c3 ∧ Rd 3 T_Type.E h A3 x.Types ∧ x.Out.Args.length ≤ c6 ∧ Rd 3 T_Type.E h A6 x.Out.Args ∧ x.Body.Names.length ≤ c10 ∧ Rd 1 eStr h A10 x.Body.Names ∧ x.Body.Types.length ≤ c11 ∧ Rd 3 T_Type.E h A11 x.Body.Types ∧ x.Body.Args.length ≤ c12 ∧ Rd 8 T_Expr.E h A12 x.Body.Args ∧ x.Body.Arms.length ≤ c13 ∧ Rd 12 T_Arm.E h A13 x.Body.Arms
theorem T_Func.T : Tell 15 T_Func.E := ⟨by rintro m h x _ s ⟨A1, c1, A2, c2, A3, c3, A6, c6, A10, c10, A11, c11, A12, c12, A13, c13, rfl, k1, r1, k2, r2, k3, r3, k6, r6, k10, r10, k11, r11, k12, r12, k13, r13⟩; exact ⟨_, _, _, _, _, _, _, _, _, _, _, _, _, _, _, _, rfl, k1, r1.sub tell_str s, k2, r2.sub tell_str s, k3, r3.sub T_Type.T s, k6, r6.sub T_Type.T s, k10, r10.sub tell_str s, k11, r11.sub T_Type.T s, k12, r12.sub T_Expr.T s, k13, r13.sub T_Arm.T s⟩, by rintro h x _ ⟨A1, c1, A2, c2, A3, c3, A6, c6, A10, c10, A11, c11, A12, c12, A13, c13, rfl, k1, r1, k2, r2, k3, r3, k6, r6, k10, r10, k11, r11, k12, r12, k13, r13⟩; rfl, by rintro h x _ ⟨A1, c1, A2, c2, A3, c3, A6, c6, A10, c10, A11, c11, A12, c12, A13, c13, rfl, k1, r1, k2, r2, k3, r3, k6, r6, k10, r10, k11, r11, k12, r12, k13, r13⟩; exact Flats.cons trivial (Flats.cons trivial (Flats.cons trivial (Flats.cons trivial (Flats.cons trivial (Flats.cons trivial (Flats.cons trivial (Flats.cons trivial (Flats.cons trivial (Flats.cons trivial (Flats.cons trivial (Flats.cons trivial (Flats.cons trivial (Flats.cons trivial (Flats.cons trivial Flats.nil))))))))))))))⟩
def T_Func.Q (x : T_Func) : Prop := (x.Name.size ≤ 140737488351232) ∧ (x.Params.length * 16 ≤ 140737488351232 ∧ ∀ a ∈ x.Params, (a.size ≤ 140737488351232)) ∧ (x.Names.length * 16 ≤ 140737488351232 ∧ ∀ a ∈ x.Names, (a.size ≤ 140737488351232)) ∧ (x.Types.length * 48 ≤ 140737488351232 ∧ ∀ a ∈ x.Types, (T_Type.Q a)) ∧ (T_Type.Q x.Out) ∧ (T_Expr.Q x.Body)
theorem T_Func.tells {H : Type} {enc : TypeId × Value → H} {W : World} : Tells enc Tryz.prog W 50 T_Func.E T_Func.Q := tells_map (tells_struct (t := 50) (fs := [(9, 0), (37, 1), (37, 2), (42, 3), (44, 4), (48, 7)]) (T := 15) (by kernel_rfl) (by kernel_rfl) (tf_cons (s := 1) (f := 9) (by kernel_rfl) (tells_strL (t := 9) (by kernel_rfl)) (tf_cons (s := 1) (f := 37) (by kernel_rfl) (tells_sliceL (t := 37) (e := 9) (sz := 1) (B := 16) (by kernel_rfl) (by kernel_rfl) (by kernel_rfl) (tells_strL (t := 9) (by kernel_rfl))) (tf_cons (s := 1) (f := 37) (by kernel_rfl) (tells_sliceL (t := 37) (e := 9) (sz := 1) (B := 16) (by kernel_rfl) (by kernel_rfl) (by kernel_rfl) (tells_strL (t := 9) (by kernel_rfl))) (tf_cons (s := 1) (f := 42) (by kernel_rfl) (tells_sliceL (t := 42) (e := 44) (sz := 3) (B := 48) (by kernel_rfl) (by kernel_rfl) (by kernel_rfl) T_Type.tells) (tf_cons (s := 3) (f := 44) (by kernel_rfl) T_Type.tells (tf_cons (s := 8) (f := 48) (by kernel_rfl) T_Expr.tells tf_nil))))))) (by
 rintro ⟨x0, x1, x2, x3, x4, x5, ⟨⟩⟩ cs e q
 obtain ⟨c0, r0, rfl, e0, c1, r1, rfl, e1, c2, r2, rfl, e2, c3, r3, rfl, e3, c4, r4, rfl, e4, c5, r5, rfl, e5, eN⟩ := e
 obtain rfl : c0 = [.string x0] := e0
 obtain ⟨A1, k1, rfl, l1, R1⟩ := e1
 obtain ⟨A2, k2, rfl, l2, R2⟩ := e2
 obtain ⟨A3, k3, rfl, l3, R3⟩ := e3
 obtain ⟨A4_2, k4_2, rfl, l4_2, R4_2⟩ := T_Type.iff.1 e4
 obtain ⟨A5_3, k5_3, A5_4, k5_4, A5_5, k5_5, A5_6, k5_6, rfl, l5_3, R5_3, l5_4, R5_4, l5_5, R5_5, l5_6, R5_6⟩ := T_Expr.iff.1 e5
 obtain rfl : r5 = [] := eN
 exact ⟨⟨x0, x1, x2, x3, x4, x5⟩, ⟨_, _, _, _, _, _, _, _, _, _, _, _, _, _, _, _, rfl, l1, R1, l2, R2, l3, R3, l4_2, R4_2, l5_3, R5_3, l5_4, R5_4, l5_5, R5_5, l5_6, R5_6⟩, q.1, q.2.1, q.2.2.1, q.2.2.2.1, q.2.2.2.2.1, q.2.2.2.2.2.1⟩)
def T_Func.bulk (x : T_Func) : Nat := ((x.Name.size + 1) + (((List.map (fun s : ByteArray => s.size + 1) x.Params).sum + 1) + (((List.map (fun s : ByteArray => s.size + 1) x.Names).sum + 1) + (((List.map T_Type.bulk x.Types).sum + 1) + ((T_Type.bulk x.Out) + ((T_Expr.bulk x.Body) + (0))))))) + 1
theorem T_Func.kt {H : Type} {bk : DataW H → Nat} {enc : TypeId × Value → H} {W : World} {N : Nat} (M : Measure bk) : KT N bk enc Tryz.prog W 50 T_Func.E T_Func.bulk := kt_down (kt_map (kt_struct M (t := 50) (fs := [(9, 0), (37, 1), (37, 2), (42, 3), (44, 4), (48, 7)]) (T := 15) (by kernel_rfl) (by kernel_rfl) (ktf_cons (s := 1) (f := 9) (by kernel_rfl) tell_str (kt_str (t := 9) M (by kernel_rfl)) (ktf_cons (s := 1) (f := 37) (by kernel_rfl) (tell_row tell_str) (kt_slice M (t := 37) (e := 9) (sz := 1) (by kernel_rfl) (by kernel_rfl) (kt_str (t := 9) M (by kernel_rfl))) (ktf_cons (s := 1) (f := 37) (by kernel_rfl) (tell_row tell_str) (kt_slice M (t := 37) (e := 9) (sz := 1) (by kernel_rfl) (by kernel_rfl) (kt_str (t := 9) M (by kernel_rfl))) (ktf_cons (s := 1) (f := 42) (by kernel_rfl) (tell_row T_Type.T) (kt_slice M (t := 42) (e := 44) (sz := 3) (by kernel_rfl) (by kernel_rfl) (T_Type.kt M)) (ktf_cons (s := 3) (f := 44) (by kernel_rfl) T_Type.T (T_Type.kt M) (ktf_cons (s := 8) (f := 48) (by kernel_rfl) T_Expr.T (T_Expr.kt M) ktf_nil))))))) (fun x cs e => by
 obtain ⟨A1, c1, A2, c2, A3, c3, A4_2, c4_2, A5_3, c5_3, A5_4, c5_4, A5_5, c5_5, A5_6, c5_6, rfl, k1, r1, k2, r2, k3, r3, k4_2, r4_2, k5_3, r5_3, k5_4, r5_4, k5_5, r5_5, k5_6, r5_6⟩ := e
 exact ⟨(x.Name, x.Params, x.Names, x.Types, x.Out, x.Body, ()), ⟨[.string x.Name], _, rfl, rfl, ⟨[.slice A1 x.Params.length c1], _, rfl, ⟨_, _, rfl, k1, r1⟩, ⟨[.slice A2 x.Names.length c2], _, rfl, ⟨_, _, rfl, k2, r2⟩, ⟨[.slice A3 x.Types.length c3], _, rfl, ⟨_, _, rfl, k3, r3⟩, ⟨[.int .i64 x.Out.Kind, .string x.Out.Name, .slice A4_2 x.Out.Args.length c4_2], _, rfl, T_Type.iff.2 ⟨_, _, rfl, k4_2, r4_2⟩, ⟨[.int .i64 x.Body.Kind, .int .i64 x.Body.Num, .string x.Body.Text, .slice A5_3 x.Body.Names.length c5_3, .slice A5_4 x.Body.Types.length c5_4, .slice A5_5 x.Body.Args.length c5_5, .slice A5_6 x.Body.Arms.length c5_6, .int .i64 x.Body.At], _, rfl, T_Expr.iff.2 ⟨_, _, _, _, _, _, _, _, rfl, k5_3, r5_3, k5_4, r5_4, k5_5, r5_5, k5_6, r5_6⟩, rfl⟩⟩⟩⟩⟩⟩, Nat.le_refl _⟩))
structure T_Use where
 Name : ByteArray
 Low : Int
 High : Int
def T_Use.E (h : Heap) (x : T_Use) (cs : List Value) : Prop := cs = [.string x.Name, .int .i64 x.Low, .int .i64 x.High]
theorem T_Use.T : Tell 3 T_Use.E := ⟨by rintro m h x _ s rfl; exact rfl, by rintro h x _ rfl; rfl, by rintro h x _ rfl; exact Flats.cons trivial (Flats.cons trivial (Flats.cons trivial Flats.nil))⟩
def T_Use.Q (x : T_Use) : Prop := (x.Name.size ≤ 140737488351232) ∧ (-9223372036854775808 ≤ x.Low ∧ x.Low ≤ 9223372036854775807) ∧ (-9223372036854775808 ≤ x.High ∧ x.High ≤ 9223372036854775807)
theorem T_Use.tells {H : Type} {enc : TypeId × Value → H} {W : World} : Tells enc Tryz.prog W 36 T_Use.E T_Use.Q := tells_map (tells_struct (t := 36) (fs := [(9, 0), (3, 1), (3, 2)]) (T := 3) (by kernel_rfl) (by kernel_rfl) (tf_cons (s := 1) (f := 9) (by kernel_rfl) (tells_strL (t := 9) (by kernel_rfl)) (tf_cons (s := 1) (f := 3) (by kernel_rfl) (tells_i64 (t := 3) (by kernel_rfl)) (tf_cons (s := 1) (f := 3) (by kernel_rfl) (tells_i64 (t := 3) (by kernel_rfl)) tf_nil)))) (by
 rintro ⟨x0, x1, x2, ⟨⟩⟩ cs e q
 obtain ⟨c0, r0, rfl, e0, c1, r1, rfl, e1, c2, r2, rfl, e2, eN⟩ := e
 obtain rfl : c0 = [.string x0] := e0
 obtain rfl : c1 = [.int .i64 x1] := e1
 obtain rfl : c2 = [.int .i64 x2] := e2
 obtain rfl : r2 = [] := eN
 exact ⟨⟨x0, x1, x2⟩, rfl, q.1, q.2.1, q.2.2.1⟩)
def T_Use.bulk (x : T_Use) : Nat := ((x.Name.size + 1) + (1 + (1 + (0)))) + 1
theorem T_Use.kt {H : Type} {bk : DataW H → Nat} {enc : TypeId × Value → H} {W : World} {N : Nat} (M : Measure bk) : KT N bk enc Tryz.prog W 36 T_Use.E T_Use.bulk := kt_down (kt_map (kt_struct M (t := 36) (fs := [(9, 0), (3, 1), (3, 2)]) (T := 3) (by kernel_rfl) (by kernel_rfl) (ktf_cons (s := 1) (f := 9) (by kernel_rfl) tell_str (kt_str (t := 9) M (by kernel_rfl)) (ktf_cons (s := 1) (f := 3) (by kernel_rfl) (tell_int .i64) (kt_one M) (ktf_cons (s := 1) (f := 3) (by kernel_rfl) (tell_int .i64) (kt_one M) ktf_nil)))) (fun x cs e => by
 obtain rfl := e
 exact ⟨(x.Name, x.Low, x.High, ()), ⟨[.string x.Name], _, rfl, rfl, ⟨[.int .i64 x.Low], _, rfl, rfl, ⟨[.int .i64 x.High], _, rfl, rfl, rfl⟩⟩⟩, Nat.le_refl _⟩))
structure T_Trait where
 Name : ByteArray
 Funcs : (List T_Func)
def T_Trait.E (h : Heap) (x : T_Trait) (cs : List Value) : Prop := ∃ A1 c1, cs = [.string x.Name, .slice A1 x.Funcs.length c1] ∧ x.Funcs.length ≤ c1 ∧ Rd 15 T_Func.E h A1 x.Funcs
theorem T_Trait.T : Tell 2 T_Trait.E := ⟨by rintro m h x _ s ⟨A1, c1, rfl, k1, r1⟩; exact ⟨_, _, rfl, k1, r1.sub T_Func.T s⟩, by rintro h x _ ⟨A1, c1, rfl, k1, r1⟩; rfl, by rintro h x _ ⟨A1, c1, rfl, k1, r1⟩; exact Flats.cons trivial (Flats.cons trivial Flats.nil)⟩
def T_Trait.Q (x : T_Trait) : Prop := (x.Name.size ≤ 140737488351232) ∧ (x.Funcs.length * 272 ≤ 140737488351232 ∧ ∀ a ∈ x.Funcs, (T_Func.Q a))
theorem T_Trait.tells {H : Type} {enc : TypeId × Value → H} {W : World} : Tells enc Tryz.prog W 65 T_Trait.E T_Trait.Q := tells_map (tells_struct (t := 65) (fs := [(9, 0), (26, 1)]) (T := 2) (by kernel_rfl) (by kernel_rfl) (tf_cons (s := 1) (f := 9) (by kernel_rfl) (tells_strL (t := 9) (by kernel_rfl)) (tf_cons (s := 1) (f := 26) (by kernel_rfl) (tells_sliceL (t := 26) (e := 50) (sz := 15) (B := 272) (by kernel_rfl) (by kernel_rfl) (by kernel_rfl) T_Func.tells) tf_nil))) (by
 rintro ⟨x0, x1, ⟨⟩⟩ cs e q
 obtain ⟨c0, r0, rfl, e0, c1, r1, rfl, e1, eN⟩ := e
 obtain rfl : c0 = [.string x0] := e0
 obtain ⟨A1, k1, rfl, l1, R1⟩ := e1
 obtain rfl : r1 = [] := eN
 exact ⟨⟨x0, x1⟩, ⟨_, _, rfl, l1, R1⟩, q.1, q.2.1⟩)
def T_Trait.bulk (x : T_Trait) : Nat := ((x.Name.size + 1) + (((List.map T_Func.bulk x.Funcs).sum + 1) + (0))) + 1
theorem T_Trait.kt {H : Type} {bk : DataW H → Nat} {enc : TypeId × Value → H} {W : World} {N : Nat} (M : Measure bk) : KT N bk enc Tryz.prog W 65 T_Trait.E T_Trait.bulk := kt_down (kt_map (kt_struct M (t := 65) (fs := [(9, 0), (26, 1)]) (T := 2) (by kernel_rfl) (by kernel_rfl) (ktf_cons (s := 1) (f := 9) (by kernel_rfl) tell_str (kt_str (t := 9) M (by kernel_rfl)) (ktf_cons (s := 1) (f := 26) (by kernel_rfl) (tell_row T_Func.T) (kt_slice M (t := 26) (e := 50) (sz := 15) (by kernel_rfl) (by kernel_rfl) (T_Func.kt M)) ktf_nil))) (fun x cs e => by
 obtain ⟨A1, c1, rfl, k1, r1⟩ := e
 exact ⟨(x.Name, x.Funcs, ()), ⟨[.string x.Name], _, rfl, rfl, ⟨[.slice A1 x.Funcs.length c1], _, rfl, ⟨_, _, rfl, k1, r1⟩, rfl⟩⟩, Nat.le_refl _⟩))
structure T_Impl where
 Trait : ByteArray
 For : ByteArray
 Funcs : (List T_Func)
def T_Impl.E (h : Heap) (x : T_Impl) (cs : List Value) : Prop := ∃ A2 c2, cs = [.string x.Trait, .string x.For, .slice A2 x.Funcs.length c2] ∧ x.Funcs.length ≤ c2 ∧ Rd 15 T_Func.E h A2 x.Funcs
theorem T_Impl.T : Tell 3 T_Impl.E := ⟨by rintro m h x _ s ⟨A2, c2, rfl, k2, r2⟩; exact ⟨_, _, rfl, k2, r2.sub T_Func.T s⟩, by rintro h x _ ⟨A2, c2, rfl, k2, r2⟩; rfl, by rintro h x _ ⟨A2, c2, rfl, k2, r2⟩; exact Flats.cons trivial (Flats.cons trivial (Flats.cons trivial Flats.nil))⟩
def T_Impl.Q (x : T_Impl) : Prop := (x.Trait.size ≤ 140737488351232) ∧ (x.For.size ≤ 140737488351232) ∧ (x.Funcs.length * 272 ≤ 140737488351232 ∧ ∀ a ∈ x.Funcs, (T_Func.Q a))
theorem T_Impl.tells {H : Type} {enc : TypeId × Value → H} {W : World} : Tells enc Tryz.prog W 68 T_Impl.E T_Impl.Q := tells_map (tells_struct (t := 68) (fs := [(9, 0), (9, 1), (26, 2)]) (T := 3) (by kernel_rfl) (by kernel_rfl) (tf_cons (s := 1) (f := 9) (by kernel_rfl) (tells_strL (t := 9) (by kernel_rfl)) (tf_cons (s := 1) (f := 9) (by kernel_rfl) (tells_strL (t := 9) (by kernel_rfl)) (tf_cons (s := 1) (f := 26) (by kernel_rfl) (tells_sliceL (t := 26) (e := 50) (sz := 15) (B := 272) (by kernel_rfl) (by kernel_rfl) (by kernel_rfl) T_Func.tells) tf_nil)))) (by
 rintro ⟨x0, x1, x2, ⟨⟩⟩ cs e q
 obtain ⟨c0, r0, rfl, e0, c1, r1, rfl, e1, c2, r2, rfl, e2, eN⟩ := e
 obtain rfl : c0 = [.string x0] := e0
 obtain rfl : c1 = [.string x1] := e1
 obtain ⟨A2, k2, rfl, l2, R2⟩ := e2
 obtain rfl : r2 = [] := eN
 exact ⟨⟨x0, x1, x2⟩, ⟨_, _, rfl, l2, R2⟩, q.1, q.2.1, q.2.2.1⟩)
def T_Impl.bulk (x : T_Impl) : Nat := ((x.Trait.size + 1) + ((x.For.size + 1) + (((List.map T_Func.bulk x.Funcs).sum + 1) + (0)))) + 1
theorem T_Impl.kt {H : Type} {bk : DataW H → Nat} {enc : TypeId × Value → H} {W : World} {N : Nat} (M : Measure bk) : KT N bk enc Tryz.prog W 68 T_Impl.E T_Impl.bulk := kt_down (kt_map (kt_struct M (t := 68) (fs := [(9, 0), (9, 1), (26, 2)]) (T := 3) (by kernel_rfl) (by kernel_rfl) (ktf_cons (s := 1) (f := 9) (by kernel_rfl) tell_str (kt_str (t := 9) M (by kernel_rfl)) (ktf_cons (s := 1) (f := 9) (by kernel_rfl) tell_str (kt_str (t := 9) M (by kernel_rfl)) (ktf_cons (s := 1) (f := 26) (by kernel_rfl) (tell_row T_Func.T) (kt_slice M (t := 26) (e := 50) (sz := 15) (by kernel_rfl) (by kernel_rfl) (T_Func.kt M)) ktf_nil)))) (fun x cs e => by
 obtain ⟨A2, c2, rfl, k2, r2⟩ := e
 exact ⟨(x.Trait, x.For, x.Funcs, ()), ⟨[.string x.Trait], _, rfl, rfl, ⟨[.string x.For], _, rfl, rfl, ⟨[.slice A2 x.Funcs.length c2], _, rfl, ⟨_, _, rfl, k2, r2⟩, rfl⟩⟩⟩, Nat.le_refl _⟩))
structure T_Actor where
 Name : ByteArray
 Names : (List ByteArray)
 Types : (List T_Type)
 Msg : T_Type
 Body : T_Expr
def T_Actor.E (h : Heap) (x : T_Actor) (cs : List Value) : Prop := ∃ A1 c1 A2 c2 A5 c5 A9 c9 A10 c10 A11 c11 A12 c12, cs = [.string x.Name, .slice A1 x.Names.length c1, .slice A2 x.Types.length c2, .int .i64 x.Msg.Kind, .string x.Msg.Name, .slice A5 x.Msg.Args.length c5, .int .i64 x.Body.Kind, .int .i64 x.Body.Num, .string x.Body.Text, .slice A9 x.Body.Names.length c9, .slice A10 x.Body.Types.length c10, .slice A11 x.Body.Args.length c11, .slice A12 x.Body.Arms.length c12, .int .i64 x.Body.At] ∧ x.Names.length ≤ c1 ∧ Rd 1 eStr h A1 x.Names ∧ x.Types.length ≤ c2 ∧ Rd 3 T_Type.E h A2 x.Types ∧ x.Msg.Args.length ≤ c5 ∧ Rd 3 T_Type.E h A5 x.Msg.Args ∧ x.Body.Names.length ≤ c9 ∧ Rd 1 eStr h A9 x.Body.Names ∧ x.Body.Types.length ≤ c10 ∧ Rd 3 T_Type.E h A10 x.Body.Types ∧ x.Body.Args.length ≤ c11 ∧ Rd 8 T_Expr.E h A11 x.Body.Args ∧ x.Body.Arms.length ≤ c12 ∧ Rd 12 T_Arm.E h A12 x.Body.Arms
theorem T_Actor.T : Tell 14 T_Actor.E := ⟨by rintro m h x _ s ⟨A1, c1, A2, c2, A5, c5, A9, c9, A10, c10, A11, c11, A12, c12, rfl, k1, r1, k2, r2, k5, r5, k9, r9, k10, r10, k11, r11, k12, r12⟩; exact ⟨_, _, _, _, _, _, _, _, _, _, _, _, _, _, rfl, k1, r1.sub tell_str s, k2, r2.sub T_Type.T s, k5, r5.sub T_Type.T s, k9, r9.sub tell_str s, k10, r10.sub T_Type.T s, k11, r11.sub T_Expr.T s, k12, r12.sub T_Arm.T s⟩, by rintro h x _ ⟨A1, c1, A2, c2, A5, c5, A9, c9, A10, c10, A11, c11, A12, c12, rfl, k1, r1, k2, r2, k5, r5, k9, r9, k10, r10, k11, r11, k12, r12⟩; rfl, by rintro h x _ ⟨A1, c1, A2, c2, A5, c5, A9, c9, A10, c10, A11, c11, A12, c12, rfl, k1, r1, k2, r2, k5, r5, k9, r9, k10, r10, k11, r11, k12, r12⟩; exact Flats.cons trivial (Flats.cons trivial (Flats.cons trivial (Flats.cons trivial (Flats.cons trivial (Flats.cons trivial (Flats.cons trivial (Flats.cons trivial (Flats.cons trivial (Flats.cons trivial (Flats.cons trivial (Flats.cons trivial (Flats.cons trivial (Flats.cons trivial Flats.nil)))))))))))))⟩
def T_Actor.Q (x : T_Actor) : Prop := (x.Name.size ≤ 140737488351232) ∧ (x.Names.length * 16 ≤ 140737488351232 ∧ ∀ a ∈ x.Names, (a.size ≤ 140737488351232)) ∧ (x.Types.length * 48 ≤ 140737488351232 ∧ ∀ a ∈ x.Types, (T_Type.Q a)) ∧ (T_Type.Q x.Msg) ∧ (T_Expr.Q x.Body)
theorem T_Actor.tells {H : Type} {enc : TypeId × Value → H} {W : World} : Tells enc Tryz.prog W 53 T_Actor.E T_Actor.Q := tells_map (tells_struct (t := 53) (fs := [(9, 0), (37, 1), (42, 2), (44, 3), (48, 6)]) (T := 14) (by kernel_rfl) (by kernel_rfl) (tf_cons (s := 1) (f := 9) (by kernel_rfl) (tells_strL (t := 9) (by kernel_rfl)) (tf_cons (s := 1) (f := 37) (by kernel_rfl) (tells_sliceL (t := 37) (e := 9) (sz := 1) (B := 16) (by kernel_rfl) (by kernel_rfl) (by kernel_rfl) (tells_strL (t := 9) (by kernel_rfl))) (tf_cons (s := 1) (f := 42) (by kernel_rfl) (tells_sliceL (t := 42) (e := 44) (sz := 3) (B := 48) (by kernel_rfl) (by kernel_rfl) (by kernel_rfl) T_Type.tells) (tf_cons (s := 3) (f := 44) (by kernel_rfl) T_Type.tells (tf_cons (s := 8) (f := 48) (by kernel_rfl) T_Expr.tells tf_nil)))))) (by
 rintro ⟨x0, x1, x2, x3, x4, ⟨⟩⟩ cs e q
 obtain ⟨c0, r0, rfl, e0, c1, r1, rfl, e1, c2, r2, rfl, e2, c3, r3, rfl, e3, c4, r4, rfl, e4, eN⟩ := e
 obtain rfl : c0 = [.string x0] := e0
 obtain ⟨A1, k1, rfl, l1, R1⟩ := e1
 obtain ⟨A2, k2, rfl, l2, R2⟩ := e2
 obtain ⟨A3_2, k3_2, rfl, l3_2, R3_2⟩ := T_Type.iff.1 e3
 obtain ⟨A4_3, k4_3, A4_4, k4_4, A4_5, k4_5, A4_6, k4_6, rfl, l4_3, R4_3, l4_4, R4_4, l4_5, R4_5, l4_6, R4_6⟩ := T_Expr.iff.1 e4
 obtain rfl : r4 = [] := eN
 exact ⟨⟨x0, x1, x2, x3, x4⟩, ⟨_, _, _, _, _, _, _, _, _, _, _, _, _, _, rfl, l1, R1, l2, R2, l3_2, R3_2, l4_3, R4_3, l4_4, R4_4, l4_5, R4_5, l4_6, R4_6⟩, q.1, q.2.1, q.2.2.1, q.2.2.2.1, q.2.2.2.2.1⟩)
def T_Actor.bulk (x : T_Actor) : Nat := ((x.Name.size + 1) + (((List.map (fun s : ByteArray => s.size + 1) x.Names).sum + 1) + (((List.map T_Type.bulk x.Types).sum + 1) + ((T_Type.bulk x.Msg) + ((T_Expr.bulk x.Body) + (0)))))) + 1
theorem T_Actor.kt {H : Type} {bk : DataW H → Nat} {enc : TypeId × Value → H} {W : World} {N : Nat} (M : Measure bk) : KT N bk enc Tryz.prog W 53 T_Actor.E T_Actor.bulk := kt_down (kt_map (kt_struct M (t := 53) (fs := [(9, 0), (37, 1), (42, 2), (44, 3), (48, 6)]) (T := 14) (by kernel_rfl) (by kernel_rfl) (ktf_cons (s := 1) (f := 9) (by kernel_rfl) tell_str (kt_str (t := 9) M (by kernel_rfl)) (ktf_cons (s := 1) (f := 37) (by kernel_rfl) (tell_row tell_str) (kt_slice M (t := 37) (e := 9) (sz := 1) (by kernel_rfl) (by kernel_rfl) (kt_str (t := 9) M (by kernel_rfl))) (ktf_cons (s := 1) (f := 42) (by kernel_rfl) (tell_row T_Type.T) (kt_slice M (t := 42) (e := 44) (sz := 3) (by kernel_rfl) (by kernel_rfl) (T_Type.kt M)) (ktf_cons (s := 3) (f := 44) (by kernel_rfl) T_Type.T (T_Type.kt M) (ktf_cons (s := 8) (f := 48) (by kernel_rfl) T_Expr.T (T_Expr.kt M) ktf_nil)))))) (fun x cs e => by
 obtain ⟨A1, c1, A2, c2, A3_2, c3_2, A4_3, c4_3, A4_4, c4_4, A4_5, c4_5, A4_6, c4_6, rfl, k1, r1, k2, r2, k3_2, r3_2, k4_3, r4_3, k4_4, r4_4, k4_5, r4_5, k4_6, r4_6⟩ := e
 exact ⟨(x.Name, x.Names, x.Types, x.Msg, x.Body, ()), ⟨[.string x.Name], _, rfl, rfl, ⟨[.slice A1 x.Names.length c1], _, rfl, ⟨_, _, rfl, k1, r1⟩, ⟨[.slice A2 x.Types.length c2], _, rfl, ⟨_, _, rfl, k2, r2⟩, ⟨[.int .i64 x.Msg.Kind, .string x.Msg.Name, .slice A3_2 x.Msg.Args.length c3_2], _, rfl, T_Type.iff.2 ⟨_, _, rfl, k3_2, r3_2⟩, ⟨[.int .i64 x.Body.Kind, .int .i64 x.Body.Num, .string x.Body.Text, .slice A4_3 x.Body.Names.length c4_3, .slice A4_4 x.Body.Types.length c4_4, .slice A4_5 x.Body.Args.length c4_5, .slice A4_6 x.Body.Arms.length c4_6, .int .i64 x.Body.At], _, rfl, T_Expr.iff.2 ⟨_, _, _, _, _, _, _, _, rfl, k4_3, r4_3, k4_4, r4_4, k4_5, r4_5, k4_6, r4_6⟩, rfl⟩⟩⟩⟩⟩, Nat.le_refl _⟩))
structure T_Program where
 Name : ByteArray
 Version : Int
 Uses : (List T_Use)
 Datas : (List T_Data)
 Traits : (List T_Trait)
 Impls : (List T_Impl)
 Funcs : (List T_Func)
 Actors : (List T_Actor)
def T_Program.E (h : Heap) (x : T_Program) (cs : List Value) : Prop := ∃ A2 c2 A3 c3 A4 c4 A5 c5 A6 c6 A7 c7, cs = [.string x.Name, .int .i64 x.Version, .slice A2 x.Uses.length c2, .slice A3 x.Datas.length c3, .slice A4 x.Traits.length c4, .slice A5 x.Impls.length c5, .slice A6 x.Funcs.length c6, .slice A7 x.Actors.length c7] ∧ x.Uses.length ≤ c2 ∧ Rd 3 T_Use.E h A2 x.Uses ∧ x.Datas.length ≤ c3 ∧ Rd 3 T_Data.E h A3 x.Datas ∧ x.Traits.length ≤ c4 ∧ Rd 2 T_Trait.E h A4 x.Traits ∧ x.Impls.length ≤ c5 ∧ Rd 3 T_Impl.E h A5 x.Impls ∧ x.Funcs.length ≤ c6 ∧ Rd 15 T_Func.E h A6 x.Funcs ∧ x.Actors.length ≤ c7 ∧ Rd 14 T_Actor.E h A7 x.Actors
theorem T_Program.T : Tell 8 T_Program.E := ⟨by rintro m h x _ s ⟨A2, c2, A3, c3, A4, c4, A5, c5, A6, c6, A7, c7, rfl, k2, r2, k3, r3, k4, r4, k5, r5, k6, r6, k7, r7⟩; exact ⟨_, _, _, _, _, _, _, _, _, _, _, _, rfl, k2, r2.sub T_Use.T s, k3, r3.sub T_Data.T s, k4, r4.sub T_Trait.T s, k5, r5.sub T_Impl.T s, k6, r6.sub T_Func.T s, k7, r7.sub T_Actor.T s⟩, by rintro h x _ ⟨A2, c2, A3, c3, A4, c4, A5, c5, A6, c6, A7, c7, rfl, k2, r2, k3, r3, k4, r4, k5, r5, k6, r6, k7, r7⟩; rfl, by rintro h x _ ⟨A2, c2, A3, c3, A4, c4, A5, c5, A6, c6, A7, c7, rfl, k2, r2, k3, r3, k4, r4, k5, r5, k6, r6, k7, r7⟩; exact Flats.cons trivial (Flats.cons trivial (Flats.cons trivial (Flats.cons trivial (Flats.cons trivial (Flats.cons trivial (Flats.cons trivial (Flats.cons trivial Flats.nil)))))))⟩
def T_Program.Q (x : T_Program) : Prop := (x.Name.size ≤ 140737488351232) ∧ (-9223372036854775808 ≤ x.Version ∧ x.Version ≤ 9223372036854775807) ∧ (x.Uses.length * 32 ≤ 140737488351232 ∧ ∀ a ∈ x.Uses, (T_Use.Q a)) ∧ (x.Datas.length * 64 ≤ 140737488351232 ∧ ∀ a ∈ x.Datas, (T_Data.Q a)) ∧ (x.Traits.length * 40 ≤ 140737488351232 ∧ ∀ a ∈ x.Traits, (T_Trait.Q a)) ∧ (x.Impls.length * 56 ≤ 140737488351232 ∧ ∀ a ∈ x.Impls, (T_Impl.Q a)) ∧ (x.Funcs.length * 272 ≤ 140737488351232 ∧ ∀ a ∈ x.Funcs, (T_Func.Q a)) ∧ (x.Actors.length * 248 ≤ 140737488351232 ∧ ∀ a ∈ x.Actors, (T_Actor.Q a))
theorem T_Program.tells {H : Type} {enc : TypeId × Value → H} {W : World} : Tells enc Tryz.prog W 29 T_Program.E T_Program.Q := tells_map (tells_struct (t := 29) (fs := [(9, 0), (3, 1), (22, 2), (23, 3), (24, 4), (25, 5), (26, 6), (27, 7)]) (T := 8) (by kernel_rfl) (by kernel_rfl) (tf_cons (s := 1) (f := 9) (by kernel_rfl) (tells_strL (t := 9) (by kernel_rfl)) (tf_cons (s := 1) (f := 3) (by kernel_rfl) (tells_i64 (t := 3) (by kernel_rfl)) (tf_cons (s := 1) (f := 22) (by kernel_rfl) (tells_sliceL (t := 22) (e := 36) (sz := 3) (B := 32) (by kernel_rfl) (by kernel_rfl) (by kernel_rfl) T_Use.tells) (tf_cons (s := 1) (f := 23) (by kernel_rfl) (tells_sliceL (t := 23) (e := 40) (sz := 3) (B := 64) (by kernel_rfl) (by kernel_rfl) (by kernel_rfl) T_Data.tells) (tf_cons (s := 1) (f := 24) (by kernel_rfl) (tells_sliceL (t := 24) (e := 65) (sz := 2) (B := 40) (by kernel_rfl) (by kernel_rfl) (by kernel_rfl) T_Trait.tells) (tf_cons (s := 1) (f := 25) (by kernel_rfl) (tells_sliceL (t := 25) (e := 68) (sz := 3) (B := 56) (by kernel_rfl) (by kernel_rfl) (by kernel_rfl) T_Impl.tells) (tf_cons (s := 1) (f := 26) (by kernel_rfl) (tells_sliceL (t := 26) (e := 50) (sz := 15) (B := 272) (by kernel_rfl) (by kernel_rfl) (by kernel_rfl) T_Func.tells) (tf_cons (s := 1) (f := 27) (by kernel_rfl) (tells_sliceL (t := 27) (e := 53) (sz := 14) (B := 248) (by kernel_rfl) (by kernel_rfl) (by kernel_rfl) T_Actor.tells) tf_nil))))))))) (by
 rintro ⟨x0, x1, x2, x3, x4, x5, x6, x7, ⟨⟩⟩ cs e q
 obtain ⟨c0, r0, rfl, e0, c1, r1, rfl, e1, c2, r2, rfl, e2, c3, r3, rfl, e3, c4, r4, rfl, e4, c5, r5, rfl, e5, c6, r6, rfl, e6, c7, r7, rfl, e7, eN⟩ := e
 obtain rfl : c0 = [.string x0] := e0
 obtain rfl : c1 = [.int .i64 x1] := e1
 obtain ⟨A2, k2, rfl, l2, R2⟩ := e2
 obtain ⟨A3, k3, rfl, l3, R3⟩ := e3
 obtain ⟨A4, k4, rfl, l4, R4⟩ := e4
 obtain ⟨A5, k5, rfl, l5, R5⟩ := e5
 obtain ⟨A6, k6, rfl, l6, R6⟩ := e6
 obtain ⟨A7, k7, rfl, l7, R7⟩ := e7
 obtain rfl : r7 = [] := eN
 exact ⟨⟨x0, x1, x2, x3, x4, x5, x6, x7⟩, ⟨_, _, _, _, _, _, _, _, _, _, _, _, rfl, l2, R2, l3, R3, l4, R4, l5, R5, l6, R6, l7, R7⟩, q.1, q.2.1, q.2.2.1, q.2.2.2.1, q.2.2.2.2.1, q.2.2.2.2.2.1, q.2.2.2.2.2.2.1, q.2.2.2.2.2.2.2.1⟩)
def T_Program.bulk (x : T_Program) : Nat := ((x.Name.size + 1) + (1 + (((List.map T_Use.bulk x.Uses).sum + 1) + (((List.map T_Data.bulk x.Datas).sum + 1) + (((List.map T_Trait.bulk x.Traits).sum + 1) + (((List.map T_Impl.bulk x.Impls).sum + 1) + (((List.map T_Func.bulk x.Funcs).sum + 1) + (((List.map T_Actor.bulk x.Actors).sum + 1) + (0))))))))) + 1
theorem T_Program.kt {H : Type} {bk : DataW H → Nat} {enc : TypeId × Value → H} {W : World} {N : Nat} (M : Measure bk) : KT N bk enc Tryz.prog W 29 T_Program.E T_Program.bulk := kt_down (kt_map (kt_struct M (t := 29) (fs := [(9, 0), (3, 1), (22, 2), (23, 3), (24, 4), (25, 5), (26, 6), (27, 7)]) (T := 8) (by kernel_rfl) (by kernel_rfl) (ktf_cons (s := 1) (f := 9) (by kernel_rfl) tell_str (kt_str (t := 9) M (by kernel_rfl)) (ktf_cons (s := 1) (f := 3) (by kernel_rfl) (tell_int .i64) (kt_one M) (ktf_cons (s := 1) (f := 22) (by kernel_rfl) (tell_row T_Use.T) (kt_slice M (t := 22) (e := 36) (sz := 3) (by kernel_rfl) (by kernel_rfl) (T_Use.kt M)) (ktf_cons (s := 1) (f := 23) (by kernel_rfl) (tell_row T_Data.T) (kt_slice M (t := 23) (e := 40) (sz := 3) (by kernel_rfl) (by kernel_rfl) (T_Data.kt M)) (ktf_cons (s := 1) (f := 24) (by kernel_rfl) (tell_row T_Trait.T) (kt_slice M (t := 24) (e := 65) (sz := 2) (by kernel_rfl) (by kernel_rfl) (T_Trait.kt M)) (ktf_cons (s := 1) (f := 25) (by kernel_rfl) (tell_row T_Impl.T) (kt_slice M (t := 25) (e := 68) (sz := 3) (by kernel_rfl) (by kernel_rfl) (T_Impl.kt M)) (ktf_cons (s := 1) (f := 26) (by kernel_rfl) (tell_row T_Func.T) (kt_slice M (t := 26) (e := 50) (sz := 15) (by kernel_rfl) (by kernel_rfl) (T_Func.kt M)) (ktf_cons (s := 1) (f := 27) (by kernel_rfl) (tell_row T_Actor.T) (kt_slice M (t := 27) (e := 53) (sz := 14) (by kernel_rfl) (by kernel_rfl) (T_Actor.kt M)) ktf_nil))))))))) (fun x cs e => by
 obtain ⟨A2, c2, A3, c3, A4, c4, A5, c5, A6, c6, A7, c7, rfl, k2, r2, k3, r3, k4, r4, k5, r5, k6, r6, k7, r7⟩ := e
 exact ⟨(x.Name, x.Version, x.Uses, x.Datas, x.Traits, x.Impls, x.Funcs, x.Actors, ()), ⟨[.string x.Name], _, rfl, rfl, ⟨[.int .i64 x.Version], _, rfl, rfl, ⟨[.slice A2 x.Uses.length c2], _, rfl, ⟨_, _, rfl, k2, r2⟩, ⟨[.slice A3 x.Datas.length c3], _, rfl, ⟨_, _, rfl, k3, r3⟩, ⟨[.slice A4 x.Traits.length c4], _, rfl, ⟨_, _, rfl, k4, r4⟩, ⟨[.slice A5 x.Impls.length c5], _, rfl, ⟨_, _, rfl, k5, r5⟩, ⟨[.slice A6 x.Funcs.length c6], _, rfl, ⟨_, _, rfl, k6, r6⟩, ⟨[.slice A7 x.Actors.length c7], _, rfl, ⟨_, _, rfl, k7, r7⟩, rfl⟩⟩⟩⟩⟩⟩⟩⟩, Nat.le_refl _⟩))
structure T_jd where
 e_ : Int
def T_jd.E (h : Heap) (x : T_jd) (cs : List Value) : Prop := cs = [.int .i64 x.e_]
theorem T_jd.T : Tell 1 T_jd.E := ⟨by rintro m h x _ s rfl; exact rfl, by rintro h x _ rfl; rfl, by rintro h x _ rfl; exact Flats.cons trivial Flats.nil⟩
theorem T_jd.keep {m h : Heap} {x : T_jd} {cs : List Value} (e : T_jd.E m x cs) : T_jd.E h x cs := e
theorem T_Type.g0 {m : Heap} {x : T_Type} {cs : List Value} (e : T_Type.E m x cs) : cs[0]? = some (Value.int .i64 x.Kind) := by
 obtain ⟨A2, c2, rfl, k2, r2⟩ := T_Type.iff.1 e
 exact rfl
theorem T_Type.g1 {m : Heap} {x : T_Type} {cs : List Value} (e : T_Type.E m x cs) : cs[1]? = some (Value.string x.Name) := by
 obtain ⟨A2, c2, rfl, k2, r2⟩ := T_Type.iff.1 e
 exact rfl
theorem T_Type.g2 {m : Heap} {x : T_Type} {cs : List Value} (e : T_Type.E m x cs) : ∃ A c, cs[2]? = some (.slice A (List.length x.Args) c) ∧ List.length x.Args ≤ c ∧ Rd 3 T_Type.E m A x.Args := by
 obtain ⟨A2, c2, rfl, k2, r2⟩ := T_Type.iff.1 e
 exact ⟨_, _, rfl, k2, r2⟩
theorem T_Data.g0 {m : Heap} {x : T_Data} {cs : List Value} (e : T_Data.E m x cs) : cs[0]? = some (Value.string x.Name) := by
 obtain ⟨A1, c1, A2, c2, rfl, k1, r1, k2, r2⟩ := e
 exact rfl
theorem T_Data.g2 {m : Heap} {x : T_Data} {cs : List Value} (e : T_Data.E m x cs) : ∃ A c, cs[2]? = some (.slice A (List.length x.Makes) c) ∧ List.length x.Makes ≤ c ∧ Rd 2 T_Make.E m A x.Makes := by
 obtain ⟨A1, c1, A2, c2, rfl, k1, r1, k2, r2⟩ := e
 exact ⟨_, _, rfl, k2, r2⟩
theorem T_Data.g1 {m : Heap} {x : T_Data} {cs : List Value} (e : T_Data.E m x cs) : ∃ A c, cs[1]? = some (.slice A (List.length x.Params) c) ∧ List.length x.Params ≤ c ∧ Rd 1 eStr m A x.Params := by
 obtain ⟨A1, c1, A2, c2, rfl, k1, r1, k2, r2⟩ := e
 exact ⟨_, _, rfl, k1, r1⟩
theorem T_Make.g0 {m : Heap} {x : T_Make} {cs : List Value} (e : T_Make.E m x cs) : cs[0]? = some (Value.string x.Name) := by
 obtain ⟨A1, c1, rfl, k1, r1⟩ := e
 exact rfl
theorem T_Make.g1 {m : Heap} {x : T_Make} {cs : List Value} (e : T_Make.E m x cs) : ∃ A c, cs[1]? = some (.slice A (List.length x.Args) c) ∧ List.length x.Args ≤ c ∧ Rd 3 T_Type.E m A x.Args := by
 obtain ⟨A1, c1, rfl, k1, r1⟩ := e
 exact ⟨_, _, rfl, k1, r1⟩
theorem T_Pat.g0 {m : Heap} {x : T_Pat} {cs : List Value} (e : T_Pat.E m x cs) : cs[0]? = some (Value.int .i64 x.Kind) := by
 obtain ⟨A3, c3, rfl, k3, r3⟩ := T_Pat.iff.1 e
 exact rfl
theorem T_Pat.g1 {m : Heap} {x : T_Pat} {cs : List Value} (e : T_Pat.E m x cs) : cs[1]? = some (Value.int .i64 x.Num) := by
 obtain ⟨A3, c3, rfl, k3, r3⟩ := T_Pat.iff.1 e
 exact rfl
theorem T_Pat.g2 {m : Heap} {x : T_Pat} {cs : List Value} (e : T_Pat.E m x cs) : cs[2]? = some (Value.string x.Text) := by
 obtain ⟨A3, c3, rfl, k3, r3⟩ := T_Pat.iff.1 e
 exact rfl
theorem T_Pat.g3 {m : Heap} {x : T_Pat} {cs : List Value} (e : T_Pat.E m x cs) : ∃ A c, cs[3]? = some (.slice A (List.length x.Args) c) ∧ List.length x.Args ≤ c ∧ Rd 4 T_Pat.E m A x.Args := by
 obtain ⟨A3, c3, rfl, k3, r3⟩ := T_Pat.iff.1 e
 exact ⟨_, _, rfl, k3, r3⟩
theorem T_Arm.u0_95 {m : Heap} {x : T_Arm} {cs : List Value} (e : T_Arm.E m x cs) : T_Pat.E m x.Pat (List.take 4 (List.drop 0 cs)) := by
 obtain ⟨A3, c3, A7, c7, A8, c8, A9, c9, A10, c10, rfl, k3, r3, k7, r7, k8, r8, k9, r9, k10, r10⟩ := T_Arm.iff.1 e
 exact (T_Pat.iff.2 ⟨_, _, rfl, k3, r3⟩)
theorem T_Arm.u4_48 {m : Heap} {x : T_Arm} {cs : List Value} (e : T_Arm.E m x cs) : T_Expr.E m x.Body (List.take 8 (List.drop 4 cs)) := by
 obtain ⟨A3, c3, A7, c7, A8, c8, A9, c9, A10, c10, rfl, k3, r3, k7, r7, k8, r8, k9, r9, k10, r10⟩ := T_Arm.iff.1 e
 exact (T_Expr.iff.2 ⟨_, _, _, _, _, _, _, _, rfl, k7, r7, k8, r8, k9, r9, k10, r10⟩)
theorem T_Expr.g0 {m : Heap} {x : T_Expr} {cs : List Value} (e : T_Expr.E m x cs) : cs[0]? = some (Value.int .i64 x.Kind) := by
 obtain ⟨A3, c3, A4, c4, A5, c5, A6, c6, rfl, k3, r3, k4, r4, k5, r5, k6, r6⟩ := T_Expr.iff.1 e
 exact rfl
theorem T_Expr.g1 {m : Heap} {x : T_Expr} {cs : List Value} (e : T_Expr.E m x cs) : cs[1]? = some (Value.int .i64 x.Num) := by
 obtain ⟨A3, c3, A4, c4, A5, c5, A6, c6, rfl, k3, r3, k4, r4, k5, r5, k6, r6⟩ := T_Expr.iff.1 e
 exact rfl
theorem T_Expr.g2 {m : Heap} {x : T_Expr} {cs : List Value} (e : T_Expr.E m x cs) : cs[2]? = some (Value.string x.Text) := by
 obtain ⟨A3, c3, A4, c4, A5, c5, A6, c6, rfl, k3, r3, k4, r4, k5, r5, k6, r6⟩ := T_Expr.iff.1 e
 exact rfl
theorem T_Expr.g3 {m : Heap} {x : T_Expr} {cs : List Value} (e : T_Expr.E m x cs) : ∃ A c, cs[3]? = some (.slice A (List.length x.Names) c) ∧ List.length x.Names ≤ c ∧ Rd 1 eStr m A x.Names := by
 obtain ⟨A3, c3, A4, c4, A5, c5, A6, c6, rfl, k3, r3, k4, r4, k5, r5, k6, r6⟩ := T_Expr.iff.1 e
 exact ⟨_, _, rfl, k3, r3⟩
theorem T_Expr.g4 {m : Heap} {x : T_Expr} {cs : List Value} (e : T_Expr.E m x cs) : ∃ A c, cs[4]? = some (.slice A (List.length x.Types) c) ∧ List.length x.Types ≤ c ∧ Rd 3 T_Type.E m A x.Types := by
 obtain ⟨A3, c3, A4, c4, A5, c5, A6, c6, rfl, k3, r3, k4, r4, k5, r5, k6, r6⟩ := T_Expr.iff.1 e
 exact ⟨_, _, rfl, k4, r4⟩
theorem T_Expr.g5 {m : Heap} {x : T_Expr} {cs : List Value} (e : T_Expr.E m x cs) : ∃ A c, cs[5]? = some (.slice A (List.length x.Args) c) ∧ List.length x.Args ≤ c ∧ Rd 8 T_Expr.E m A x.Args := by
 obtain ⟨A3, c3, A4, c4, A5, c5, A6, c6, rfl, k3, r3, k4, r4, k5, r5, k6, r6⟩ := T_Expr.iff.1 e
 exact ⟨_, _, rfl, k5, r5⟩
theorem T_Expr.g6 {m : Heap} {x : T_Expr} {cs : List Value} (e : T_Expr.E m x cs) : ∃ A c, cs[6]? = some (.slice A (List.length x.Arms) c) ∧ List.length x.Arms ≤ c ∧ Rd 12 T_Arm.E m A x.Arms := by
 obtain ⟨A3, c3, A4, c4, A5, c5, A6, c6, rfl, k3, r3, k4, r4, k5, r5, k6, r6⟩ := T_Expr.iff.1 e
 exact ⟨_, _, rfl, k6, r6⟩
theorem T_fo.g3 {m : Heap} {x : T_fo} {cs : List Value} (e : T_fo.E m x cs) : cs[3]? = some (Value.bool x.num_) := by
 obtain rfl := e
 exact rfl
theorem T_fo.g2 {m : Heap} {x : T_fo} {cs : List Value} (e : T_fo.E m x cs) : cs[2]? = some (Value.int .i64 x.high_) := by
 obtain rfl := e
 exact rfl
theorem T_fo.g0 {m : Heap} {x : T_fo} {cs : List Value} (e : T_fo.E m x cs) : cs[0]? = some (Value.int .i64 x.text_) := by
 obtain rfl := e
 exact rfl
theorem T_fo.g1 {m : Heap} {x : T_fo} {cs : List Value} (e : T_fo.E m x cs) : cs[1]? = some (Value.int .i64 x.low_) := by
 obtain rfl := e
 exact rfl
theorem T_fo.g4 {m : Heap} {x : T_fo} {cs : List Value} (e : T_fo.E m x cs) : cs[4]? = some (Value.bool x.arms_) := by
 obtain rfl := e
 exact rfl
theorem T_Func.g0 {m : Heap} {x : T_Func} {cs : List Value} (e : T_Func.E m x cs) : cs[0]? = some (Value.string x.Name) := by
 obtain ⟨A1, c1, A2, c2, A3, c3, A6, c6, A10, c10, A11, c11, A12, c12, A13, c13, rfl, k1, r1, k2, r2, k3, r3, k6, r6, k10, r10, k11, r11, k12, r12, k13, r13⟩ := e
 exact rfl
theorem T_Func.g2 {m : Heap} {x : T_Func} {cs : List Value} (e : T_Func.E m x cs) : ∃ A c, cs[2]? = some (.slice A (List.length x.Names) c) ∧ List.length x.Names ≤ c ∧ Rd 1 eStr m A x.Names := by
 obtain ⟨A1, c1, A2, c2, A3, c3, A6, c6, A10, c10, A11, c11, A12, c12, A13, c13, rfl, k1, r1, k2, r2, k3, r3, k6, r6, k10, r10, k11, r11, k12, r12, k13, r13⟩ := e
 exact ⟨_, _, rfl, k2, r2⟩
theorem T_Func.g3 {m : Heap} {x : T_Func} {cs : List Value} (e : T_Func.E m x cs) : ∃ A c, cs[3]? = some (.slice A (List.length x.Types) c) ∧ List.length x.Types ≤ c ∧ Rd 3 T_Type.E m A x.Types := by
 obtain ⟨A1, c1, A2, c2, A3, c3, A6, c6, A10, c10, A11, c11, A12, c12, A13, c13, rfl, k1, r1, k2, r2, k3, r3, k6, r6, k10, r10, k11, r11, k12, r12, k13, r13⟩ := e
 exact ⟨_, _, rfl, k3, r3⟩
theorem T_Func.g1 {m : Heap} {x : T_Func} {cs : List Value} (e : T_Func.E m x cs) : ∃ A c, cs[1]? = some (.slice A (List.length x.Params) c) ∧ List.length x.Params ≤ c ∧ Rd 1 eStr m A x.Params := by
 obtain ⟨A1, c1, A2, c2, A3, c3, A6, c6, A10, c10, A11, c11, A12, c12, A13, c13, rfl, k1, r1, k2, r2, k3, r3, k6, r6, k10, r10, k11, r11, k12, r12, k13, r13⟩ := e
 exact ⟨_, _, rfl, k1, r1⟩
theorem T_Func.u4_44 {m : Heap} {x : T_Func} {cs : List Value} (e : T_Func.E m x cs) : T_Type.E m x.Out (List.take 3 (List.drop 4 cs)) := by
 obtain ⟨A1, c1, A2, c2, A3, c3, A6, c6, A10, c10, A11, c11, A12, c12, A13, c13, rfl, k1, r1, k2, r2, k3, r3, k6, r6, k10, r10, k11, r11, k12, r12, k13, r13⟩ := e
 exact (T_Type.iff.2 ⟨_, _, rfl, k6, r6⟩)
theorem T_Func.u7_48 {m : Heap} {x : T_Func} {cs : List Value} (e : T_Func.E m x cs) : T_Expr.E m x.Body (List.take 8 (List.drop 7 cs)) := by
 obtain ⟨A1, c1, A2, c2, A3, c3, A6, c6, A10, c10, A11, c11, A12, c12, A13, c13, rfl, k1, r1, k2, r2, k3, r3, k6, r6, k10, r10, k11, r11, k12, r12, k13, r13⟩ := e
 exact (T_Expr.iff.2 ⟨_, _, _, _, _, _, _, _, rfl, k10, r10, k11, r11, k12, r12, k13, r13⟩)
theorem T_Program.g4 {m : Heap} {x : T_Program} {cs : List Value} (e : T_Program.E m x cs) : ∃ A c, cs[4]? = some (.slice A (List.length x.Traits) c) ∧ List.length x.Traits ≤ c ∧ Rd 2 T_Trait.E m A x.Traits := by
 obtain ⟨A2, c2, A3, c3, A4, c4, A5, c5, A6, c6, A7, c7, rfl, k2, r2, k3, r3, k4, r4, k5, r5, k6, r6, k7, r7⟩ := e
 exact ⟨_, _, rfl, k4, r4⟩
theorem T_Trait.g0 {m : Heap} {x : T_Trait} {cs : List Value} (e : T_Trait.E m x cs) : cs[0]? = some (Value.string x.Name) := by
 obtain ⟨A1, c1, rfl, k1, r1⟩ := e
 exact rfl
theorem T_Trait.g1 {m : Heap} {x : T_Trait} {cs : List Value} (e : T_Trait.E m x cs) : ∃ A c, cs[1]? = some (.slice A (List.length x.Funcs) c) ∧ List.length x.Funcs ≤ c ∧ Rd 15 T_Func.E m A x.Funcs := by
 obtain ⟨A1, c1, rfl, k1, r1⟩ := e
 exact ⟨_, _, rfl, k1, r1⟩
theorem T_Program.g5 {m : Heap} {x : T_Program} {cs : List Value} (e : T_Program.E m x cs) : ∃ A c, cs[5]? = some (.slice A (List.length x.Impls) c) ∧ List.length x.Impls ≤ c ∧ Rd 3 T_Impl.E m A x.Impls := by
 obtain ⟨A2, c2, A3, c3, A4, c4, A5, c5, A6, c6, A7, c7, rfl, k2, r2, k3, r3, k4, r4, k5, r5, k6, r6, k7, r7⟩ := e
 exact ⟨_, _, rfl, k5, r5⟩
theorem T_Impl.g1 {m : Heap} {x : T_Impl} {cs : List Value} (e : T_Impl.E m x cs) : cs[1]? = some (Value.string x.For) := by
 obtain ⟨A2, c2, rfl, k2, r2⟩ := e
 exact rfl
theorem T_Impl.g0 {m : Heap} {x : T_Impl} {cs : List Value} (e : T_Impl.E m x cs) : cs[0]? = some (Value.string x.Trait) := by
 obtain ⟨A2, c2, rfl, k2, r2⟩ := e
 exact rfl
theorem T_Impl.g2 {m : Heap} {x : T_Impl} {cs : List Value} (e : T_Impl.E m x cs) : ∃ A c, cs[2]? = some (.slice A (List.length x.Funcs) c) ∧ List.length x.Funcs ≤ c ∧ Rd 15 T_Func.E m A x.Funcs := by
 obtain ⟨A2, c2, rfl, k2, r2⟩ := e
 exact ⟨_, _, rfl, k2, r2⟩
theorem T_Actor.g0 {m : Heap} {x : T_Actor} {cs : List Value} (e : T_Actor.E m x cs) : cs[0]? = some (Value.string x.Name) := by
 obtain ⟨A1, c1, A2, c2, A5, c5, A9, c9, A10, c10, A11, c11, A12, c12, rfl, k1, r1, k2, r2, k5, r5, k9, r9, k10, r10, k11, r11, k12, r12⟩ := e
 exact rfl
theorem T_Actor.g1 {m : Heap} {x : T_Actor} {cs : List Value} (e : T_Actor.E m x cs) : ∃ A c, cs[1]? = some (.slice A (List.length x.Names) c) ∧ List.length x.Names ≤ c ∧ Rd 1 eStr m A x.Names := by
 obtain ⟨A1, c1, A2, c2, A5, c5, A9, c9, A10, c10, A11, c11, A12, c12, rfl, k1, r1, k2, r2, k5, r5, k9, r9, k10, r10, k11, r11, k12, r12⟩ := e
 exact ⟨_, _, rfl, k1, r1⟩
theorem T_Actor.g2 {m : Heap} {x : T_Actor} {cs : List Value} (e : T_Actor.E m x cs) : ∃ A c, cs[2]? = some (.slice A (List.length x.Types) c) ∧ List.length x.Types ≤ c ∧ Rd 3 T_Type.E m A x.Types := by
 obtain ⟨A1, c1, A2, c2, A5, c5, A9, c9, A10, c10, A11, c11, A12, c12, rfl, k1, r1, k2, r2, k5, r5, k9, r9, k10, r10, k11, r11, k12, r12⟩ := e
 exact ⟨_, _, rfl, k2, r2⟩
theorem T_Actor.u3_44 {m : Heap} {x : T_Actor} {cs : List Value} (e : T_Actor.E m x cs) : T_Type.E m x.Msg (List.take 3 (List.drop 3 cs)) := by
 obtain ⟨A1, c1, A2, c2, A5, c5, A9, c9, A10, c10, A11, c11, A12, c12, rfl, k1, r1, k2, r2, k5, r5, k9, r9, k10, r10, k11, r11, k12, r12⟩ := e
 exact (T_Type.iff.2 ⟨_, _, rfl, k5, r5⟩)
theorem T_Actor.u6_48 {m : Heap} {x : T_Actor} {cs : List Value} (e : T_Actor.E m x cs) : T_Expr.E m x.Body (List.take 8 (List.drop 6 cs)) := by
 obtain ⟨A1, c1, A2, c2, A5, c5, A9, c9, A10, c10, A11, c11, A12, c12, rfl, k1, r1, k2, r2, k5, r5, k9, r9, k10, r10, k11, r11, k12, r12⟩ := e
 exact (T_Expr.iff.2 ⟨_, _, _, _, _, _, _, _, rfl, k9, r9, k10, r10, k11, r11, k12, r12⟩)
theorem T_Program.g2 {m : Heap} {x : T_Program} {cs : List Value} (e : T_Program.E m x cs) : ∃ A c, cs[2]? = some (.slice A (List.length x.Uses) c) ∧ List.length x.Uses ≤ c ∧ Rd 3 T_Use.E m A x.Uses := by
 obtain ⟨A2, c2, A3, c3, A4, c4, A5, c5, A6, c6, A7, c7, rfl, k2, r2, k3, r3, k4, r4, k5, r5, k6, r6, k7, r7⟩ := e
 exact ⟨_, _, rfl, k2, r2⟩
theorem T_Program.g3 {m : Heap} {x : T_Program} {cs : List Value} (e : T_Program.E m x cs) : ∃ A c, cs[3]? = some (.slice A (List.length x.Datas) c) ∧ List.length x.Datas ≤ c ∧ Rd 3 T_Data.E m A x.Datas := by
 obtain ⟨A2, c2, A3, c3, A4, c4, A5, c5, A6, c6, A7, c7, rfl, k2, r2, k3, r3, k4, r4, k5, r5, k6, r6, k7, r7⟩ := e
 exact ⟨_, _, rfl, k3, r3⟩
theorem T_Program.g6 {m : Heap} {x : T_Program} {cs : List Value} (e : T_Program.E m x cs) : ∃ A c, cs[6]? = some (.slice A (List.length x.Funcs) c) ∧ List.length x.Funcs ≤ c ∧ Rd 15 T_Func.E m A x.Funcs := by
 obtain ⟨A2, c2, A3, c3, A4, c4, A5, c5, A6, c6, A7, c7, rfl, k2, r2, k3, r3, k4, r4, k5, r5, k6, r6, k7, r7⟩ := e
 exact ⟨_, _, rfl, k6, r6⟩
theorem T_Program.g7 {m : Heap} {x : T_Program} {cs : List Value} (e : T_Program.E m x cs) : ∃ A c, cs[7]? = some (.slice A (List.length x.Actors) c) ∧ List.length x.Actors ≤ c ∧ Rd 14 T_Actor.E m A x.Actors := by
 obtain ⟨A2, c2, A3, c3, A4, c4, A5, c5, A6, c6, A7, c7, rfl, k2, r2, k3, r3, k4, r4, k5, r5, k6, r6, k7, r7⟩ := e
 exact ⟨_, _, rfl, k7, r7⟩
theorem T_Program.g0 {m : Heap} {x : T_Program} {cs : List Value} (e : T_Program.E m x cs) : cs[0]? = some (Value.string x.Name) := by
 obtain ⟨A2, c2, A3, c3, A4, c4, A5, c5, A6, c6, A7, c7, rfl, k2, r2, k3, r3, k4, r4, k5, r5, k6, r6, k7, r7⟩ := e
 exact rfl
theorem T_Program.g1 {m : Heap} {x : T_Program} {cs : List Value} (e : T_Program.E m x cs) : cs[1]? = some (Value.int .i64 x.Version) := by
 obtain ⟨A2, c2, A3, c3, A4, c4, A5, c5, A6, c6, A7, c7, rfl, k2, r2, k3, r3, k4, r4, k5, r5, k6, r6, k7, r7⟩ := e
 exact rfl
theorem T_Use.g0 {m : Heap} {x : T_Use} {cs : List Value} (e : T_Use.E m x cs) : cs[0]? = some (Value.string x.Name) := by
 obtain rfl := e
 exact rfl
theorem T_Use.g1 {m : Heap} {x : T_Use} {cs : List Value} (e : T_Use.E m x cs) : cs[1]? = some (Value.int .i64 x.Low) := by
 obtain rfl := e
 exact rfl
theorem T_Use.g2 {m : Heap} {x : T_Use} {cs : List Value} (e : T_Use.E m x cs) : cs[2]? = some (Value.int .i64 x.High) := by
 obtain rfl := e
 exact rfl
theorem T_jd.g0 {m : Heap} {x : T_jd} {cs : List Value} (e : T_jd.E m x cs) : cs[0]? = some (Value.int .i64 x.e_) := by
 obtain rfl := e
 exact rfl
theorem T_jd.s0 {m : Heap} {x : T_jd} {cs : List Value} (e : T_jd.E m x cs) (v : Int) : T_jd.E m { x with e_ := v } (cs.set 0 (Value.int .i64 v)) := by
 obtain rfl := e
 exact rfl
def tk_low.post (W : Nat → Prop) (h0 m0 : Heap) (r : Bool) (v : Value) (h : Heap) : Prop := ∃ m , Hold W h0 m0 h m [] ∧ v = .bool r
noncomputable def tk_low (x_0 : Int) : Option (Bool) :=
 if x_0 ≥ (97 : Int) then (some ((decide (x_0 ≤ (122 : Int))))) else (some (false))
theorem tk_low.walk {W h m x_0} (O : Hold W h m h m []) {r} (e : tk_low x_0 = some r) : Run Tryz.prog 23 #[Value.int .u8 x_0] h (tk_low.post W h m r) := by
 unfold tk_low at e
 refine f23.run ?_
 unfold f23.runT
 refine split_dec_e e (fun c1 e => ?_) (fun c1 e => ?_)
 · cases e
   exact ⟨_, O.pick [], rfl⟩
 · cases e
   exact ⟨_, O.pick [], rfl⟩
def tk_great.post (W : Nat → Prop) (h0 m0 : Heap) (r : Bool) (v : Value) (h : Heap) : Prop := ∃ m , Hold W h0 m0 h m [] ∧ v = .bool r
noncomputable def tk_great (x_0 : Int) : Option (Bool) :=
 if x_0 ≥ (65 : Int) then (some ((decide (x_0 ≤ (90 : Int))))) else (some (false))
theorem tk_great.walk {W h m x_0} (O : Hold W h m h m []) {r} (e : tk_great x_0 = some r) : Run Tryz.prog 42 #[Value.int .u8 x_0] h (tk_great.post W h m r) := by
 unfold tk_great at e
 refine f42.run ?_
 unfold f42.runT
 refine split_dec_e e (fun c1 e => ?_) (fun c1 e => ?_)
 · cases e
   exact ⟨_, O.pick [], rfl⟩
 · cases e
   exact ⟨_, O.pick [], rfl⟩
def tk_digit.post (W : Nat → Prop) (h0 m0 : Heap) (r : Bool) (v : Value) (h : Heap) : Prop := ∃ m , Hold W h0 m0 h m [] ∧ v = .bool r
noncomputable def tk_digit (x_0 : Int) : Option (Bool) :=
 if x_0 ≥ (48 : Int) then (some ((decide (x_0 ≤ (57 : Int))))) else (some (false))
theorem tk_digit.walk {W h m x_0} (O : Hold W h m h m []) {r} (e : tk_digit x_0 = some r) : Run Tryz.prog 67 #[Value.int .u8 x_0] h (tk_digit.post W h m r) := by
 unfold tk_digit at e
 refine f67.run ?_
 unfold f67.runT
 refine split_dec_e e (fun c1 e => ?_) (fun c1 e => ?_)
 · cases e
   exact ⟨_, O.pick [], rfl⟩
 · cases e
   exact ⟨_, O.pick [], rfl⟩
def tk_inner.post (W : Nat → Prop) (h0 m0 : Heap) (r : Bool) (v : Value) (h : Heap) : Prop := ∃ m , Hold W h0 m0 h m [] ∧ v = .bool r
noncomputable def tk_inner (x_0 : Int) : Option (Bool) :=
 Option.bind (tk_low x_0) fun y1 => if y1 = true then (some (true)) else (Option.bind (tk_great x_0) fun y8 => if y8 = true then (some (true)) else (Option.bind (tk_digit x_0) fun y15 => if y15 = true then (some (true)) else (some ((x_0 == (95 : Int))))))
theorem tk_inner.walk {W h m x_0} (O : Hold W h m h m []) {r} (e : tk_inner x_0 = some r) : Run Tryz.prog 40 #[Value.int .u8 x_0] h (tk_inner.post W h m r) := by
 unfold tk_inner at e
 refine f40.run ?_
 unfold f40.runT
 obtain ⟨y1, g2, e⟩ := bind_e e
 refine (tk_low.walk (Hold.start (W := No) O.s)  g2).mono ?_
 rintro _ h3 ⟨m4, Q5, rfl⟩
 have O7 := Hold.nm (O.retC Q5 vfs_nil)
 refine ⟨_, rfl, ?_⟩
 refine split_any_e e (fun c24 e => ?_) (fun c24 e => ?_)
 · cases e
   exact ⟨_, O7.pick [], rfl⟩
 · obtain ⟨y8, g9, e⟩ := bind_e e
   refine (tk_great.walk (Hold.start (W := No) O7.s)  g9).mono ?_
   rintro _ h10 ⟨m11, Q12, rfl⟩
   have O14 := Hold.nm (O7.retC Q12 vfs_nil)
   refine ⟨_, rfl, ?_⟩
   refine split_any_e e (fun c23 e => ?_) (fun c23 e => ?_)
   · cases e
     exact ⟨_, O14.pick [], rfl⟩
   · obtain ⟨y15, g16, e⟩ := bind_e e
     refine (tk_digit.walk (Hold.start (W := No) O14.s)  g16).mono ?_
     rintro _ h17 ⟨m18, Q19, rfl⟩
     have O21 := Hold.nm (O14.retC Q19 vfs_nil)
     refine ⟨_, rfl, ?_⟩
     refine split_any_e e (fun c22 e => ?_) (fun c22 e => ?_)
     · cases e
       exact ⟨_, O21.pick [], rfl⟩
     · cases e
       exact ⟨_, O21.pick [], rfl⟩
def tk_name.post (W : Nat → Prop) (h0 m0 : Heap) (r : Bool) (v : Value) (h : Heap) : Prop := ∃ m , Hold W h0 m0 h m [] ∧ v = .bool r
inductive tk_name.l0_k.Pt where
 | l0 (a_23 : List Int) (x_24 : Int) (x_25 : Int)
noncomputable def tk_name.l0_k.body (go : (p : tk_name.l0_k.Pt) → Option (Bool)) : (p : tk_name.l0_k.Pt) → Option (Bool)
 | .l0 a_23 x_24 x_25 => if x_25 < x_24 then (Option.bind (gi a_23 x_25) fun y1 => Option.bind (tk_inner y1) fun y8 => if y8 = true then ((go (.l0 a_23 x_24 (IntKind.wrap .i64 (x_25 + (1 : Int)))))) else (some (false))) else (some (true))
theorem tk_name.l0_k.mono : MonoF (β := fun _ => (Bool)) tk_name.l0_k.body := fun f g hfg p => match p with
 | .l0 a_23 x_24 x_25 => LeO.ite (LeO.bind (LeO.refl _) fun y1 => LeO.bind (LeO.refl _) fun y8 => LeO.ite ((hfg _)) (LeO.refl _)) (LeO.refl _)
noncomputable def tk_name.l0_k.go (p : tk_name.l0_k.Pt) : Option (Bool) := fixF (β := fun _ => (Bool)) tk_name.l0_k.body p
noncomputable def tk_name.l0 (a_23 x_24 x_25) := tk_name.l0_k.go (.l0 a_23 x_24 x_25)
theorem tk_name.l0_eq (a_23 x_24 x_25) : tk_name.l0 a_23 x_24 x_25 = if x_25 < x_24 then (Option.bind (gi a_23 x_25) fun y1 => Option.bind (tk_inner y1) fun y8 => if y8 = true then ((tk_name.l0 a_23 x_24 (IntKind.wrap .i64 (x_25 + (1 : Int))))) else (some (false))) else (some (true)) := fixF_eq tk_name.l0_k.mono _
def tk_name.l0_k.I : (p : tk_name.l0_k.Pt) → (Bool) → Prop
 | .l0 a_23 x_24 x_25, r => ∀ {W h0 m0 h m A_23 n_23 c_23} (O : Hold W h0 m0 h m []) (ne_23 : n_23 = List.length a_23) (k_23 : List.length a_23 ≤ c_23) (r_23 : Rd 1 (eInt .u8) m A_23 a_23), f22.l0 (tk_name.post W h0 m0 r) A_23 n_23 c_23 x_24 x_25 h
theorem tk_name.l0_k.step_l0 (go : (p : tk_name.l0_k.Pt) → Option (Bool)) (ih : ∀ p r, go p = some r → tk_name.l0_k.I p r) (a_23 x_24 x_25) (r) (e : tk_name.l0_k.body go (.l0 a_23 x_24 x_25) = some r) : tk_name.l0_k.I (.l0 a_23 x_24 x_25) r := by
 unfold tk_name.l0_k.body at e
 intro W h0 m0 h m A_23 n_23 c_23 O ne_23 k_23 r_23
 subst ne_23
 refine f22.l0_in ?_
 unfold f22.l0T
 refine split_dec_e e (fun c16 e => ?_) (fun c16 e => ?_)
 · obtain ⟨y1, g2, e⟩ := bind_e e
   refine r_23.addr rfl g2 fun a3 cs4 ha5 hc6 he7 => ?_
   obtain rfl : cs4 = [(Value.int .u8 y1)] := he7
   refine ⟨_, ld0 O.s hc6 rfl, _, rfl, ?_⟩
   obtain ⟨y8, g9, e⟩ := bind_e e
   refine (tk_inner.walk (Hold.start (W := No) O.s)  g9).mono ?_
   rintro _ h10 ⟨m11, Q12, rfl⟩
   have O14 := Hold.nm (O.retC Q12 vfs_nil)
   refine ⟨_, rfl, ?_⟩
   refine split_not ?_
   refine split_any_e e (fun c15 e => ?_) (fun c15 e => ?_)
   · exact (ih _ _ e) (O14.pick []).nm rfl k_23 r_23
   · cases e
     exact ⟨_, O14.pick [], rfl⟩
 · cases e
   exact ⟨_, O.pick [], rfl⟩
theorem tk_name.l0_k.all {p : tk_name.l0_k.Pt} {r : (Bool)} (e : tk_name.l0_k.go p = some r) : tk_name.l0_k.I p r := fixF_ind (β := fun _ => (Bool)) tk_name.l0_k.mono (I := tk_name.l0_k.I) (fun go ih p r e => match p with
 | .l0 a_23 x_24 x_25 => tk_name.l0_k.step_l0 go ih a_23 x_24 x_25 r e
 ) e
noncomputable def tk_name.j0 (s_0 : ByteArray) : Option (Bool) :=
 (tk_name.l0 (bytesI s_0) (((List.length (bytesI s_0)) : Nat) : Int) (0 : Int))
theorem tk_name.j0.walk {W h0 m0 h m s_0} (O : Hold W h0 m0 h m []) {r} (e : tk_name.j0 s_0 = some r) : f22.j0 (tk_name.post W h0 m0 r) s_0 h := by
 unfold tk_name.j0 at e
 refine f22.j0_in ?_
 unfold f22.j0T
 refine O.s2b (u := .string) (e := 5) (by kernel_rfl) (by kernel_rfl) (by kernel_rfl) fun h1 m2 A3 c4 x5 u6 r7 k8 O9 => ?_
 refine ⟨_, _, _, rfl, ?_⟩
 have O10 := O9.nm
 exact (tk_name.l0_k.all e) (O10.pick []).nm rfl k8 r7
noncomputable def tk_name (s_0 : ByteArray) (p_1 : Int → Option Bool) : Option (Bool) :=
 if ((ByteArray.size s_0 : Nat) : Int) < (1 : Int) then (some (false)) else (if ((ByteArray.size s_0 : Nat) : Int) > (16 : Int) then (some (false)) else (Option.bind (gb s_0 (0 : Int)) fun y1 => Option.bind (p_1 y1) fun y7 => if y7 = true then ((tk_name.j0 s_0)) else (some (false))))
theorem tk_name.walk {p_1 : Int → Option Bool} {W h m fv_1 s_0} (O : Hold W h m h m []) (f_1 : ∀ h' m', Sub m m' → Sub m' h' → ∀ (x0 : Int) (r : Bool), p_1 x0 = some r → CallF Tryz.prog fv_1 [.int .u8 x0] h' (fun v h'' => v = .bool r ∧ Ext h' h'')) {r} (e : tk_name s_0 p_1 = some r) : Run Tryz.prog 22 #[Value.string s_0, fv_1] h (tk_name.post W h m r) := by
 unfold tk_name at e
 refine f22.run ?_
 unfold f22.runT
 refine split_dec_e e (fun c14 e => ?_) (fun c14 e => ?_)
 · cases e
   exact ⟨_, O.pick [], rfl⟩
 · refine split_dec_e e (fun c13 e => ?_) (fun c13 e => ?_)
   · cases e
     exact ⟨_, O.pick [], rfl⟩
   · obtain ⟨y1, g2, e⟩ := bind_e e
     obtain ⟨q3, b4, q5, q6⟩ := gb_e g2
     refine ⟨q3, _, q5, ?_⟩
     try rw [← q6]
     obtain ⟨y7, g8, e⟩ := bind_e e
     refine CallF.mono (f_1 _ _ (Sub.refl _) O.s _ _ g8) ?_
     rintro _ h9 ⟨rfl, x10⟩
     have O11 := O.ext x10
     refine ⟨_, rfl, ?_⟩
     refine split_not ?_
     refine split_any_e e (fun c12 e => ?_) (fun c12 e => ?_)
     · exact tk_name.j0.walk (O11.pick []).nm  e
     · cases e
       exact ⟨_, O11.pick [], rfl⟩
def tk_Words.post (W : Nat → Prop) (h0 m0 : Heap) (r : (List ByteArray)) (v : Value) (h : Heap) : Prop := ∃ m A0 n0 c0, Hold W h0 m0 h m [rR (aE tell_str) A0 c0 r] ∧ v = .slice A0 n0 c0 ∧ n0 = List.length r
noncomputable def tk_Words  : Option ((List ByteArray)) :=
 some (([(ByteArray.mk #[97, 99, 116, 111, 114]), (ByteArray.mk #[97, 102, 116, 101, 114]), (ByteArray.mk #[97, 110, 100]), (ByteArray.mk #[97, 112, 112, 108, 121]), (ByteArray.mk #[98, 101, 99, 111, 109, 101]), (ByteArray.mk #[98, 111, 111, 108]), (ByteArray.mk #[99, 101, 108, 108]), (ByteArray.mk #[100, 97, 116, 97]), (ByteArray.mk #[101, 108, 115, 101]), (ByteArray.mk #[102, 97, 105, 108]), (ByteArray.mk #[102, 97, 108, 115, 101]), (ByteArray.mk #[102, 110]), (ByteArray.mk #[102, 111, 114]), (ByteArray.mk #[102, 117, 110]), (ByteArray.mk #[103, 101, 116]), (ByteArray.mk #[105, 102]), (ByteArray.mk #[105, 109, 112, 108]), (ByteArray.mk #[105, 110]), (ByteArray.mk #[105, 110, 116]), (ByteArray.mk #[108, 101, 116]), (ByteArray.mk #[108, 105, 110, 107]), (ByteArray.mk #[109, 97, 116, 99, 104]), (ByteArray.mk #[109, 111, 100, 117, 108, 101]), (ByteArray.mk #[110, 111, 116]), (ByteArray.mk #[111, 114]), (ByteArray.mk #[112, 117, 116]), (ByteArray.mk #[114, 101, 99, 101, 105, 118, 101]), (ByteArray.mk #[115, 97, 121]), (ByteArray.mk #[115, 101, 108, 102]), (ByteArray.mk #[115, 101, 110, 100]), (ByteArray.mk #[115, 112, 97, 119, 110]), (ByteArray.mk #[116, 101, 120, 116]), (ByteArray.mk #[116, 104, 101, 110]), (ByteArray.mk #[116, 114, 97, 105, 116]), (ByteArray.mk #[116, 114, 117, 101]), (ByteArray.mk #[117, 110, 105, 116]), (ByteArray.mk #[117, 115, 101]), (ByteArray.mk #[119, 97, 116, 99, 104])] : List ByteArray))
theorem tk_Words.walk {W h m} (O : Hold W h m h m []) {r} (e : tk_Words  = some r) : Run Tryz.prog 41 #[] h (tk_Words.post W h m r) := by
 unfold tk_Words at e
 refine f41.run ?_
 unfold f41.runT
 refine O.new fun h1 x2 O3 => ?_
 have O5 := O3.rowE (l := ([(ByteArray.mk #[97, 99, 116, 111, 114]), (ByteArray.mk #[97, 102, 116, 101, 114]), (ByteArray.mk #[97, 110, 100]), (ByteArray.mk #[97, 112, 112, 108, 121]), (ByteArray.mk #[98, 101, 99, 111, 109, 101]), (ByteArray.mk #[98, 111, 111, 108]), (ByteArray.mk #[99, 101, 108, 108]), (ByteArray.mk #[100, 97, 116, 97]), (ByteArray.mk #[101, 108, 115, 101]), (ByteArray.mk #[102, 97, 105, 108]), (ByteArray.mk #[102, 97, 108, 115, 101]), (ByteArray.mk #[102, 110]), (ByteArray.mk #[102, 111, 114]), (ByteArray.mk #[102, 117, 110]), (ByteArray.mk #[103, 101, 116]), (ByteArray.mk #[105, 102]), (ByteArray.mk #[105, 109, 112, 108]), (ByteArray.mk #[105, 110]), (ByteArray.mk #[105, 110, 116]), (ByteArray.mk #[108, 101, 116]), (ByteArray.mk #[108, 105, 110, 107]), (ByteArray.mk #[109, 97, 116, 99, 104]), (ByteArray.mk #[109, 111, 100, 117, 108, 101]), (ByteArray.mk #[110, 111, 116]), (ByteArray.mk #[111, 114]), (ByteArray.mk #[112, 117, 116]), (ByteArray.mk #[114, 101, 99, 101, 105, 118, 101]), (ByteArray.mk #[115, 97, 121]), (ByteArray.mk #[115, 101, 108, 102]), (ByteArray.mk #[115, 101, 110, 100]), (ByteArray.mk #[115, 112, 97, 119, 110]), (ByteArray.mk #[116, 101, 120, 116]), (ByteArray.mk #[116, 104, 101, 110]), (ByteArray.mk #[116, 114, 97, 105, 116]), (ByteArray.mk #[116, 114, 117, 101]), (ByteArray.mk #[117, 110, 105, 116]), (ByteArray.mk #[117, 115, 101]), (ByteArray.mk #[119, 97, 116, 99, 104])] : List ByteArray)) 0 rfl tell_str (show CsE _ _ _ _ _ from (CsE.cons (c1 := [(Value.string (ByteArray.mk #[97, 99, 116, 111, 114]))]) rfl rfl (CsE.cons (c1 := [(Value.string (ByteArray.mk #[97, 102, 116, 101, 114]))]) rfl rfl (CsE.cons (c1 := [(Value.string (ByteArray.mk #[97, 110, 100]))]) rfl rfl (CsE.cons (c1 := [(Value.string (ByteArray.mk #[97, 112, 112, 108, 121]))]) rfl rfl (CsE.cons (c1 := [(Value.string (ByteArray.mk #[98, 101, 99, 111, 109, 101]))]) rfl rfl (CsE.cons (c1 := [(Value.string (ByteArray.mk #[98, 111, 111, 108]))]) rfl rfl (CsE.cons (c1 := [(Value.string (ByteArray.mk #[99, 101, 108, 108]))]) rfl rfl (CsE.cons (c1 := [(Value.string (ByteArray.mk #[100, 97, 116, 97]))]) rfl rfl (CsE.cons (c1 := [(Value.string (ByteArray.mk #[101, 108, 115, 101]))]) rfl rfl (CsE.cons (c1 := [(Value.string (ByteArray.mk #[102, 97, 105, 108]))]) rfl rfl (CsE.cons (c1 := [(Value.string (ByteArray.mk #[102, 97, 108, 115, 101]))]) rfl rfl (CsE.cons (c1 := [(Value.string (ByteArray.mk #[102, 110]))]) rfl rfl (CsE.cons (c1 := [(Value.string (ByteArray.mk #[102, 111, 114]))]) rfl rfl (CsE.cons (c1 := [(Value.string (ByteArray.mk #[102, 117, 110]))]) rfl rfl (CsE.cons (c1 := [(Value.string (ByteArray.mk #[103, 101, 116]))]) rfl rfl (CsE.cons (c1 := [(Value.string (ByteArray.mk #[105, 102]))]) rfl rfl (CsE.cons (c1 := [(Value.string (ByteArray.mk #[105, 109, 112, 108]))]) rfl rfl (CsE.cons (c1 := [(Value.string (ByteArray.mk #[105, 110]))]) rfl rfl (CsE.cons (c1 := [(Value.string (ByteArray.mk #[105, 110, 116]))]) rfl rfl (CsE.cons (c1 := [(Value.string (ByteArray.mk #[108, 101, 116]))]) rfl rfl (CsE.cons (c1 := [(Value.string (ByteArray.mk #[108, 105, 110, 107]))]) rfl rfl (CsE.cons (c1 := [(Value.string (ByteArray.mk #[109, 97, 116, 99, 104]))]) rfl rfl (CsE.cons (c1 := [(Value.string (ByteArray.mk #[109, 111, 100, 117, 108, 101]))]) rfl rfl (CsE.cons (c1 := [(Value.string (ByteArray.mk #[110, 111, 116]))]) rfl rfl (CsE.cons (c1 := [(Value.string (ByteArray.mk #[111, 114]))]) rfl rfl (CsE.cons (c1 := [(Value.string (ByteArray.mk #[112, 117, 116]))]) rfl rfl (CsE.cons (c1 := [(Value.string (ByteArray.mk #[114, 101, 99, 101, 105, 118, 101]))]) rfl rfl (CsE.cons (c1 := [(Value.string (ByteArray.mk #[115, 97, 121]))]) rfl rfl (CsE.cons (c1 := [(Value.string (ByteArray.mk #[115, 101, 108, 102]))]) rfl rfl (CsE.cons (c1 := [(Value.string (ByteArray.mk #[115, 101, 110, 100]))]) rfl rfl (CsE.cons (c1 := [(Value.string (ByteArray.mk #[115, 112, 97, 119, 110]))]) rfl rfl (CsE.cons (c1 := [(Value.string (ByteArray.mk #[116, 101, 120, 116]))]) rfl rfl (CsE.cons (c1 := [(Value.string (ByteArray.mk #[116, 104, 101, 110]))]) rfl rfl (CsE.cons (c1 := [(Value.string (ByteArray.mk #[116, 114, 97, 105, 116]))]) rfl rfl (CsE.cons (c1 := [(Value.string (ByteArray.mk #[116, 114, 117, 101]))]) rfl rfl (CsE.cons (c1 := [(Value.string (ByteArray.mk #[117, 110, 105, 116]))]) rfl rfl (CsE.cons (c1 := [(Value.string (ByteArray.mk #[117, 115, 101]))]) rfl rfl (CsE.cons (c1 := [(Value.string (ByteArray.mk #[119, 97, 116, 99, 104]))]) rfl rfl CsE.nil))))))))))))))))))))))))))))))))))))))) rfl
 have O6 := O5.nm
 cases e
 exact ⟨_, _, _, _, O6.pick [0], rfl, rfl⟩
def tk_IsWord.post (W : Nat → Prop) (h0 m0 : Heap) (r : Bool) (v : Value) (h : Heap) : Prop := ∃ m , Hold W h0 m0 h m [] ∧ v = .bool r
inductive tk_IsWord.l0_k.Pt where
 | l0 (s_0 : ByteArray) (a_5 : List ByteArray) (x_6 : Int) (x_7 : Int)
noncomputable def tk_IsWord.l0_k.body (go : (p : tk_IsWord.l0_k.Pt) → Option (Bool)) : (p : tk_IsWord.l0_k.Pt) → Option (Bool)
 | .l0 s_0 a_5 x_6 x_7 => if x_7 < x_6 then (Option.bind (gi a_5 x_7) fun y1 => if y1 = s_0 then (some (true)) else ((go (.l0 s_0 a_5 x_6 (IntKind.wrap .i64 (x_7 + (1 : Int))))))) else (some (false))
theorem tk_IsWord.l0_k.mono : MonoF (β := fun _ => (Bool)) tk_IsWord.l0_k.body := fun f g hfg p => match p with
 | .l0 s_0 a_5 x_6 x_7 => LeO.ite (LeO.bind (LeO.refl _) fun y1 => LeO.ite (LeO.refl _) ((hfg _))) (LeO.refl _)
noncomputable def tk_IsWord.l0_k.go (p : tk_IsWord.l0_k.Pt) : Option (Bool) := fixF (β := fun _ => (Bool)) tk_IsWord.l0_k.body p
noncomputable def tk_IsWord.l0 (s_0 a_5 x_6 x_7) := tk_IsWord.l0_k.go (.l0 s_0 a_5 x_6 x_7)
theorem tk_IsWord.l0_eq (s_0 a_5 x_6 x_7) : tk_IsWord.l0 s_0 a_5 x_6 x_7 = if x_7 < x_6 then (Option.bind (gi a_5 x_7) fun y1 => if y1 = s_0 then (some (true)) else ((tk_IsWord.l0 s_0 a_5 x_6 (IntKind.wrap .i64 (x_7 + (1 : Int)))))) else (some (false)) := fixF_eq tk_IsWord.l0_k.mono _
def tk_IsWord.l0_k.I : (p : tk_IsWord.l0_k.Pt) → (Bool) → Prop
 | .l0 s_0 a_5 x_6 x_7, r => ∀ {W h0 m0 h m A_5 n_5 c_5} (O : Hold W h0 m0 h m [rR (aE tell_str) A_5 c_5 a_5]) (ne_5 : n_5 = List.length a_5), f24.l0 (tk_IsWord.post W h0 m0 r) s_0 A_5 n_5 c_5 x_6 x_7 h
theorem tk_IsWord.l0_k.step_l0 (go : (p : tk_IsWord.l0_k.Pt) → Option (Bool)) (ih : ∀ p r, go p = some r → tk_IsWord.l0_k.I p r) (s_0 a_5 x_6 x_7) (r) (e : tk_IsWord.l0_k.body go (.l0 s_0 a_5 x_6 x_7) = some r) : tk_IsWord.l0_k.I (.l0 s_0 a_5 x_6 x_7) r := by
 unfold tk_IsWord.l0_k.body at e
 intro W h0 m0 h m A_5 n_5 c_5 O ne_5
 subst ne_5
 refine f24.l0_in ?_
 unfold f24.l0T
 refine split_dec_e e (fun c9 e => ?_) (fun c9 e => ?_)
 · obtain ⟨y1, g2, e⟩ := bind_e e
   refine (O.os 0 rfl).addr rfl g2 fun a3 cs4 ha5 hc6 he7 => ?_
   obtain rfl : cs4 = [(Value.string y1)] := he7
   refine ⟨_, ld0 (Sub.refl _) hc6 rfl, _, rfl, ?_⟩
   try rw [ba_list y1 s_0]
   refine split_dec_e e (fun c8 e => ?_) (fun c8 e => ?_)
   · cases e
     exact ⟨_, O.pick [], rfl⟩
   · exact (ih _ _ e) (O.pick [0]).nm rfl
 · cases e
   exact ⟨_, O.pick [], rfl⟩
theorem tk_IsWord.l0_k.all {p : tk_IsWord.l0_k.Pt} {r : (Bool)} (e : tk_IsWord.l0_k.go p = some r) : tk_IsWord.l0_k.I p r := fixF_ind (β := fun _ => (Bool)) tk_IsWord.l0_k.mono (I := tk_IsWord.l0_k.I) (fun go ih p r e => match p with
 | .l0 s_0 a_5 x_6 x_7 => tk_IsWord.l0_k.step_l0 go ih s_0 a_5 x_6 x_7 r e
 ) e
noncomputable def tk_IsWord (s_0 : ByteArray) : Option (Bool) :=
 Option.bind (tk_Words ) fun y1 => (tk_IsWord.l0 s_0 y1 (((List.length y1) : Nat) : Int) (0 : Int))
theorem tk_IsWord.walk {W h m s_0} (O : Hold W h m h m []) {r} (e : tk_IsWord s_0 = some r) : Run Tryz.prog 24 #[Value.string s_0] h (tk_IsWord.post W h m r) := by
 unfold tk_IsWord at e
 refine f24.run ?_
 unfold f24.runT
 obtain ⟨y1, g2, e⟩ := bind_e e
 refine (tk_Words.walk (Hold.start (W := No) O.s)  g2).mono ?_
 rintro _ h3 ⟨m4, A7, n8, c9, Q5, rfl, ne10⟩
 have O12 := Hold.nm (O.retC Q5 (vfs_cons (rR_vf (aE_vf (fun _ _ _ _ h => h))) vfs_nil))
 subst ne10
 refine ⟨_, _, _, rfl, ?_⟩
 exact (tk_IsWord.l0_k.all e) (O12.pick [0]).nm rfl
def tk_IsLow.post (W : Nat → Prop) (h0 m0 : Heap) (r : Bool) (v : Value) (h : Heap) : Prop := ∃ m , Hold W h0 m0 h m [] ∧ v = .bool r
noncomputable def tk_IsLow (s_0 : ByteArray) : Option (Bool) :=
 Option.bind (tk_name s_0 (fun z7 => tk_low z7)) fun y1 => if y1 = true then (Option.bind (tk_IsWord s_0) fun y16 => some ((!y16))) else (some (false))
theorem tk_IsLow.walk {W h m s_0} (O : Hold W h m h m []) {r} (e : tk_IsLow s_0 = some r) : Run Tryz.prog 6 #[Value.string s_0] h (tk_IsLow.post W h m r) := by
 unfold tk_IsLow at e
 refine f6.run ?_
 unfold f6.runT
 obtain ⟨y1, g2, e⟩ := bind_e e
 refine (tk_name.walk (Hold.start (W := No) O.s) (fun h8 m9 u10 s11 x14 r12 e13 => CallF.of [Value.int .u8 x14] f23.ok rfl ((tk_low.walk (Hold.start (W := No) s11)  e13).mono (fun _ _ h => let ⟨_, t, e⟩ := h; ⟨e, t.S.ext⟩))) g2).mono ?_
 rintro _ h3 ⟨m4, Q5, rfl⟩
 have O15 := Hold.nm (O.retC Q5 vfs_nil)
 refine ⟨_, rfl, ?_⟩
 refine split_any_e e (fun c23 e => ?_) (fun c23 e => ?_)
 · obtain ⟨y16, g17, e⟩ := bind_e e
   refine (tk_IsWord.walk (Hold.start (W := No) O15.s)  g17).mono ?_
   rintro _ h18 ⟨m19, Q20, rfl⟩
   have O22 := Hold.nm (O15.retC Q20 vfs_nil)
   refine ⟨_, rfl, ?_⟩
   cases e
   exact ⟨_, O22.pick [], rfl⟩
 · cases e
   exact ⟨_, O15.pick [], rfl⟩
def tk_IsUp.post (W : Nat → Prop) (h0 m0 : Heap) (r : Bool) (v : Value) (h : Heap) : Prop := ∃ m , Hold W h0 m0 h m [] ∧ v = .bool r
noncomputable def tk_IsUp (s_0 : ByteArray) : Option (Bool) :=
 Option.bind (tk_name s_0 (fun z7 => tk_great z7)) fun y1 => some (y1)
theorem tk_IsUp.walk {W h m s_0} (O : Hold W h m h m []) {r} (e : tk_IsUp s_0 = some r) : Run Tryz.prog 25 #[Value.string s_0] h (tk_IsUp.post W h m r) := by
 unfold tk_IsUp at e
 refine f25.run ?_
 unfold f25.runT
 obtain ⟨y1, g2, e⟩ := bind_e e
 refine (tk_name.walk (Hold.start (W := No) O.s) (fun h8 m9 u10 s11 x14 r12 e13 => CallF.of [Value.int .u8 x14] f42.ok rfl ((tk_great.walk (Hold.start (W := No) s11)  e13).mono (fun _ _ h => let ⟨_, t, e⟩ := h; ⟨e, t.S.ext⟩))) g2).mono ?_
 rintro _ h3 ⟨m4, Q5, rfl⟩
 have O15 := Hold.nm (O.retC Q5 vfs_nil)
 refine ⟨_, rfl, ?_⟩
 cases e
 exact ⟨_, O15.pick [], rfl⟩
def tr_lows.post (W : Nat → Prop) (h0 m0 : Heap) (r : Int) (v : Value) (h : Heap) : Prop := ∃ m , Hold W h0 m0 h m [] ∧ v = .int .i64 r
inductive tr_lows.l0_k.Pt where
 | l0 (a_8 : List ByteArray) (x_9 : Int) (x_10 : Int)
noncomputable def tr_lows.l0_k.body (go : (p : tr_lows.l0_k.Pt) → Option (Int)) : (p : tr_lows.l0_k.Pt) → Option (Int)
 | .l0 a_8 x_9 x_10 => if x_10 < x_9 then (Option.bind (gi a_8 x_10) fun y1 => Option.bind (tk_IsLow y1) fun y8 => if y8 = true then ((go (.l0 a_8 x_9 (IntKind.wrap .i64 (x_10 + (1 : Int)))))) else (some ((3 : Int)))) else (some ((0 : Int)))
theorem tr_lows.l0_k.mono : MonoF (β := fun _ => (Int)) tr_lows.l0_k.body := fun f g hfg p => match p with
 | .l0 a_8 x_9 x_10 => LeO.ite (LeO.bind (LeO.refl _) fun y1 => LeO.bind (LeO.refl _) fun y8 => LeO.ite ((hfg _)) (LeO.refl _)) (LeO.refl _)
noncomputable def tr_lows.l0_k.go (p : tr_lows.l0_k.Pt) : Option (Int) := fixF (β := fun _ => (Int)) tr_lows.l0_k.body p
noncomputable def tr_lows.l0 (a_8 x_9 x_10) := tr_lows.l0_k.go (.l0 a_8 x_9 x_10)
theorem tr_lows.l0_eq (a_8 x_9 x_10) : tr_lows.l0 a_8 x_9 x_10 = if x_10 < x_9 then (Option.bind (gi a_8 x_10) fun y1 => Option.bind (tk_IsLow y1) fun y8 => if y8 = true then ((tr_lows.l0 a_8 x_9 (IntKind.wrap .i64 (x_10 + (1 : Int))))) else (some ((3 : Int)))) else (some ((0 : Int))) := fixF_eq tr_lows.l0_k.mono _
def tr_lows.l0_k.I : (p : tr_lows.l0_k.Pt) → (Int) → Prop
 | .l0 a_8 x_9 x_10, r => ∀ {W h0 m0 h m A_8 n_8 c_8} (O : Hold W h0 m0 h m []) (ne_8 : n_8 = List.length a_8) (k_8 : List.length a_8 ≤ c_8) (r_8 : Rd 1 eStr m A_8 a_8), f26.l0 (tr_lows.post W h0 m0 r) A_8 n_8 c_8 x_9 x_10 h
theorem tr_lows.l0_k.step_l0 (go : (p : tr_lows.l0_k.Pt) → Option (Int)) (ih : ∀ p r, go p = some r → tr_lows.l0_k.I p r) (a_8 x_9 x_10) (r) (e : tr_lows.l0_k.body go (.l0 a_8 x_9 x_10) = some r) : tr_lows.l0_k.I (.l0 a_8 x_9 x_10) r := by
 unfold tr_lows.l0_k.body at e
 intro W h0 m0 h m A_8 n_8 c_8 O ne_8 k_8 r_8
 subst ne_8
 refine f26.l0_in ?_
 unfold f26.l0T
 refine split_dec_e e (fun c16 e => ?_) (fun c16 e => ?_)
 · obtain ⟨y1, g2, e⟩ := bind_e e
   refine r_8.addr rfl g2 fun a3 cs4 ha5 hc6 he7 => ?_
   obtain rfl : cs4 = [(Value.string y1)] := he7
   refine ⟨_, ld0 O.s hc6 rfl, _, rfl, ?_⟩
   obtain ⟨y8, g9, e⟩ := bind_e e
   refine (tk_IsLow.walk (Hold.start (W := No) O.s)  g9).mono ?_
   rintro _ h10 ⟨m11, Q12, rfl⟩
   have O14 := Hold.nm (O.retC Q12 vfs_nil)
   refine ⟨_, rfl, ?_⟩
   refine split_not ?_
   refine split_any_e e (fun c15 e => ?_) (fun c15 e => ?_)
   · exact (ih _ _ e) (O14.pick []).nm rfl k_8 r_8
   · cases e
     exact ⟨_, O14.pick [], rfl⟩
 · cases e
   exact ⟨_, O.pick [], rfl⟩
theorem tr_lows.l0_k.all {p : tr_lows.l0_k.Pt} {r : (Int)} (e : tr_lows.l0_k.go p = some r) : tr_lows.l0_k.I p r := fixF_ind (β := fun _ => (Int)) tr_lows.l0_k.mono (I := tr_lows.l0_k.I) (fun go ih p r e => match p with
 | .l0 a_8 x_9 x_10 => tr_lows.l0_k.step_l0 go ih a_8 x_9 x_10 r e
 ) e
noncomputable def tr_lows (a_0 : List ByteArray) : Option (Int) :=
 if (((List.length a_0) : Nat) : Int) > (6 : Int) then (some ((2 : Int))) else ((tr_lows.l0 a_0 (((List.length a_0) : Nat) : Int) (0 : Int)))
theorem tr_lows.walk {W h m A_0 n_0 c_0 a_0} (O : Hold W h m h m []) (ne_0 : n_0 = List.length a_0) (k_0 : List.length a_0 ≤ c_0) (r_0 : Rd 1 eStr m A_0 a_0) {r} (e : tr_lows a_0 = some r) : Run Tryz.prog 26 #[Value.slice A_0 n_0 c_0] h (tr_lows.post W h m r) := by
 unfold tr_lows at e
 subst ne_0
 refine f26.run ?_
 unfold f26.runT
 refine split_dec_e e (fun c1 e => ?_) (fun c1 e => ?_)
 · cases e
   exact ⟨_, O.pick [], rfl⟩
 · exact (tr_lows.l0_k.all e) (O.pick []).nm rfl k_0 r_0
def tr_typ.post (W : Nat → Prop) (h0 m0 : Heap) (r : Int) (v : Value) (h : Heap) : Prop := ∃ m , Hold W h0 m0 h m [] ∧ v = .int .i64 r
def tr_types.post (W : Nat → Prop) (h0 m0 : Heap) (r : Int) (v : Value) (h : Heap) : Prop := ∃ m , Hold W h0 m0 h m [] ∧ v = .int .i64 r
inductive tr_types_k.Pt where
 | f_27 (a_0 : List T_Type) (x_1 : Int)
 | l0_27 (x_1 : Int) (a_8 : List T_Type) (x_9 : Int) (x_10 : Int)
 | f_43 (y_0 : T_Type) (x_1 : Int)
 | j2_43 (x_1 : Int) (y_2 : T_Type) (x_5 : Int) (x_6 : Int) (b_7 : Bool) (x_11 : Int) (b_12 : Bool)
 | j3_43 (x_1 : Int) (y_2 : T_Type) (b_7 : Bool) (b_44 : Bool)
 | j0_43 (x_1 : Int) (y_2 : T_Type) (x_5 : Int) (x_6 : Int) (b_7 : Bool)
 | j1_43 (x_1 : Int) (y_2 : T_Type)
noncomputable def tr_types_k.body (go : (p : tr_types_k.Pt) → Option (Int)) : (p : tr_types_k.Pt) → Option (Int)
 | .f_27 a_0 x_1 => (go (.l0_27 x_1 a_0 (((List.length a_0) : Nat) : Int) (0 : Int)))
 | .l0_27 x_1 a_8 x_9 x_10 => if x_10 < x_9 then (Option.bind (gi a_8 x_10) fun y1 => Option.bind ((go (.f_43 y1 x_1))) fun y14 => if y14 = (0 : Int) then ((go (.l0_27 x_1 a_8 x_9 (IntKind.wrap .i64 (x_10 + (1 : Int)))))) else (some (y14))) else (some ((0 : Int)))
 | .f_43 y_0 x_1 => if x_1 < (1 : Int) then (some ((2 : Int))) else (if y_0.Kind = (1 : Int) then ((go (.j2_43 x_1 y_0 (0 : Int) (0 : Int) false y_0.Kind (y_0.Kind == (1 : Int))))) else (if y_0.Kind = (2 : Int) then ((go (.j2_43 x_1 y_0 (0 : Int) (0 : Int) false y_0.Kind (y_0.Kind == (2 : Int))))) else (if y_0.Kind = (3 : Int) then ((go (.j2_43 x_1 y_0 (0 : Int) (0 : Int) false y_0.Kind (y_0.Kind == (3 : Int))))) else ((go (.j2_43 x_1 y_0 (0 : Int) (0 : Int) false y_0.Kind (y_0.Kind == (4 : Int))))))))
 | .j2_43 x_1 y_2 x_5 x_6 b_7 x_11 b_12 => if b_12 = true then ((go (.j0_43 x_1 y_2 x_5 x_6 b_7))) else (if x_11 = (5 : Int) then (Option.bind (tk_IsLow y_2.Name) fun y1 => if y1 = true then ((go (.j0_43 x_1 y_2 x_5 x_6 true))) else ((go (.j0_43 x_1 y_2 x_5 x_6 (decide (y_2.Name = (ByteArray.mk #[115, 101, 108, 102]))))))) else (if x_11 = (6 : Int) then (Option.bind (tk_IsUp y_2.Name) fun y9 => if y9 = true then (if y_2.Name = (ByteArray.mk #[82, 101, 102]) then ((go (.j0_43 x_1 y_2 x_5 (6 : Int) false))) else ((go (.j0_43 x_1 y_2 x_5 (6 : Int) (!(decide (y_2.Name = (ByteArray.mk #[67, 101, 108, 108])))))))) else ((go (.j0_43 x_1 y_2 x_5 (6 : Int) false)))) else (if x_11 = (7 : Int) then ((go (.j0_43 x_1 y_2 (1 : Int) (7 : Int) b_7))) else (if x_11 = (8 : Int) then ((go (.j3_43 x_1 y_2 b_7 (x_11 == (8 : Int))))) else ((go (.j3_43 x_1 y_2 b_7 (x_11 == (9 : Int)))))))))
 | .j3_43 x_1 y_2 b_7 b_44 => if b_44 = true then ((go (.j0_43 x_1 y_2 (1 : Int) (1 : Int) b_7))) else (some ((3 : Int)))
 | .j0_43 x_1 y_2 x_5 x_6 b_7 => if (((List.length y_2.Args) : Nat) : Int) > (7 : Int) then (some ((2 : Int))) else (if (((List.length y_2.Args) : Nat) : Int) < x_5 then (some ((3 : Int))) else (if (((List.length y_2.Args) : Nat) : Int) > x_6 then (some ((3 : Int))) else (if b_7 = true then (if b_7 = true then ((go (.j1_43 x_1 y_2))) else (if y_2.Kind = (5 : Int) then (some ((3 : Int))) else (if y_2.Kind = (6 : Int) then (some ((3 : Int))) else ((go (.j1_43 x_1 y_2)))))) else (if y_2.Name = (ByteArray.mk #[]) then (if b_7 = true then ((go (.j1_43 x_1 y_2))) else (if y_2.Kind = (5 : Int) then (some ((3 : Int))) else (if y_2.Kind = (6 : Int) then (some ((3 : Int))) else ((go (.j1_43 x_1 y_2)))))) else (some ((3 : Int)))))))
 | .j1_43 x_1 y_2 => Option.bind ((go (.f_27 y_2.Args (IntKind.wrap .i64 (x_1 - (1 : Int)))))) fun y6 => some (y6)
theorem tr_types_k.mono : MonoF (β := fun _ => (Int)) tr_types_k.body := fun f g hfg p => match p with
 | .f_27 a_0 x_1 => (hfg _)
 | .l0_27 x_1 a_8 x_9 x_10 => LeO.ite (LeO.bind (LeO.refl _) fun y1 => LeO.bind ((hfg _)) fun y14 => LeO.ite ((hfg _)) (LeO.refl _)) (LeO.refl _)
 | .f_43 y_0 x_1 => LeO.ite (LeO.refl _) (LeO.ite ((hfg _)) (LeO.ite ((hfg _)) (LeO.ite ((hfg _)) ((hfg _)))))
 | .j2_43 x_1 y_2 x_5 x_6 b_7 x_11 b_12 => LeO.ite ((hfg _)) (LeO.ite (LeO.bind (LeO.refl _) fun y1 => LeO.ite ((hfg _)) ((hfg _))) (LeO.ite (LeO.bind (LeO.refl _) fun y9 => LeO.ite (LeO.ite ((hfg _)) ((hfg _))) ((hfg _))) (LeO.ite ((hfg _)) (LeO.ite ((hfg _)) ((hfg _))))))
 | .j3_43 x_1 y_2 b_7 b_44 => LeO.ite ((hfg _)) (LeO.refl _)
 | .j0_43 x_1 y_2 x_5 x_6 b_7 => LeO.ite (LeO.refl _) (LeO.ite (LeO.refl _) (LeO.ite (LeO.refl _) (LeO.ite (LeO.ite ((hfg _)) (LeO.ite (LeO.refl _) (LeO.ite (LeO.refl _) ((hfg _))))) (LeO.ite (LeO.ite ((hfg _)) (LeO.ite (LeO.refl _) (LeO.ite (LeO.refl _) ((hfg _))))) (LeO.refl _)))))
 | .j1_43 x_1 y_2 => LeO.bind ((hfg _)) fun y6 => LeO.refl _
noncomputable def tr_types_k.go (p : tr_types_k.Pt) : Option (Int) := fixF (β := fun _ => (Int)) tr_types_k.body p
noncomputable def tr_types (a_0 x_1) := tr_types_k.go (.f_27 a_0 x_1)
noncomputable def tr_types.l0 (x_1 a_8 x_9 x_10) := tr_types_k.go (.l0_27 x_1 a_8 x_9 x_10)
noncomputable def tr_typ (y_0 x_1) := tr_types_k.go (.f_43 y_0 x_1)
noncomputable def tr_typ.j2 (x_1 y_2 x_5 x_6 b_7 x_11 b_12) := tr_types_k.go (.j2_43 x_1 y_2 x_5 x_6 b_7 x_11 b_12)
noncomputable def tr_typ.j3 (x_1 y_2 b_7 b_44) := tr_types_k.go (.j3_43 x_1 y_2 b_7 b_44)
noncomputable def tr_typ.j0 (x_1 y_2 x_5 x_6 b_7) := tr_types_k.go (.j0_43 x_1 y_2 x_5 x_6 b_7)
noncomputable def tr_typ.j1 (x_1 y_2) := tr_types_k.go (.j1_43 x_1 y_2)
theorem tr_types_eq (a_0 x_1) : tr_types a_0 x_1 = (tr_types.l0 x_1 a_0 (((List.length a_0) : Nat) : Int) (0 : Int)) := fixF_eq tr_types_k.mono _
theorem tr_types.l0_eq (x_1 a_8 x_9 x_10) : tr_types.l0 x_1 a_8 x_9 x_10 = if x_10 < x_9 then (Option.bind (gi a_8 x_10) fun y1 => Option.bind ((tr_typ y1 x_1)) fun y14 => if y14 = (0 : Int) then ((tr_types.l0 x_1 a_8 x_9 (IntKind.wrap .i64 (x_10 + (1 : Int))))) else (some (y14))) else (some ((0 : Int))) := fixF_eq tr_types_k.mono _
theorem tr_typ_eq (y_0 x_1) : tr_typ y_0 x_1 = if x_1 < (1 : Int) then (some ((2 : Int))) else (if y_0.Kind = (1 : Int) then ((tr_typ.j2 x_1 y_0 (0 : Int) (0 : Int) false y_0.Kind (y_0.Kind == (1 : Int)))) else (if y_0.Kind = (2 : Int) then ((tr_typ.j2 x_1 y_0 (0 : Int) (0 : Int) false y_0.Kind (y_0.Kind == (2 : Int)))) else (if y_0.Kind = (3 : Int) then ((tr_typ.j2 x_1 y_0 (0 : Int) (0 : Int) false y_0.Kind (y_0.Kind == (3 : Int)))) else ((tr_typ.j2 x_1 y_0 (0 : Int) (0 : Int) false y_0.Kind (y_0.Kind == (4 : Int))))))) := fixF_eq tr_types_k.mono _
theorem tr_typ.j2_eq (x_1 y_2 x_5 x_6 b_7 x_11 b_12) : tr_typ.j2 x_1 y_2 x_5 x_6 b_7 x_11 b_12 = if b_12 = true then ((tr_typ.j0 x_1 y_2 x_5 x_6 b_7)) else (if x_11 = (5 : Int) then (Option.bind (tk_IsLow y_2.Name) fun y1 => if y1 = true then ((tr_typ.j0 x_1 y_2 x_5 x_6 true)) else ((tr_typ.j0 x_1 y_2 x_5 x_6 (decide (y_2.Name = (ByteArray.mk #[115, 101, 108, 102])))))) else (if x_11 = (6 : Int) then (Option.bind (tk_IsUp y_2.Name) fun y9 => if y9 = true then (if y_2.Name = (ByteArray.mk #[82, 101, 102]) then ((tr_typ.j0 x_1 y_2 x_5 (6 : Int) false)) else ((tr_typ.j0 x_1 y_2 x_5 (6 : Int) (!(decide (y_2.Name = (ByteArray.mk #[67, 101, 108, 108]))))))) else ((tr_typ.j0 x_1 y_2 x_5 (6 : Int) false))) else (if x_11 = (7 : Int) then ((tr_typ.j0 x_1 y_2 (1 : Int) (7 : Int) b_7)) else (if x_11 = (8 : Int) then ((tr_typ.j3 x_1 y_2 b_7 (x_11 == (8 : Int)))) else ((tr_typ.j3 x_1 y_2 b_7 (x_11 == (9 : Int)))))))) := fixF_eq tr_types_k.mono _
theorem tr_typ.j3_eq (x_1 y_2 b_7 b_44) : tr_typ.j3 x_1 y_2 b_7 b_44 = if b_44 = true then ((tr_typ.j0 x_1 y_2 (1 : Int) (1 : Int) b_7)) else (some ((3 : Int))) := fixF_eq tr_types_k.mono _
theorem tr_typ.j0_eq (x_1 y_2 x_5 x_6 b_7) : tr_typ.j0 x_1 y_2 x_5 x_6 b_7 = if (((List.length y_2.Args) : Nat) : Int) > (7 : Int) then (some ((2 : Int))) else (if (((List.length y_2.Args) : Nat) : Int) < x_5 then (some ((3 : Int))) else (if (((List.length y_2.Args) : Nat) : Int) > x_6 then (some ((3 : Int))) else (if b_7 = true then (if b_7 = true then ((tr_typ.j1 x_1 y_2)) else (if y_2.Kind = (5 : Int) then (some ((3 : Int))) else (if y_2.Kind = (6 : Int) then (some ((3 : Int))) else ((tr_typ.j1 x_1 y_2))))) else (if y_2.Name = (ByteArray.mk #[]) then (if b_7 = true then ((tr_typ.j1 x_1 y_2)) else (if y_2.Kind = (5 : Int) then (some ((3 : Int))) else (if y_2.Kind = (6 : Int) then (some ((3 : Int))) else ((tr_typ.j1 x_1 y_2))))) else (some ((3 : Int))))))) := fixF_eq tr_types_k.mono _
theorem tr_typ.j1_eq (x_1 y_2) : tr_typ.j1 x_1 y_2 = Option.bind ((tr_types y_2.Args (IntKind.wrap .i64 (x_1 - (1 : Int))))) fun y6 => some (y6) := fixF_eq tr_types_k.mono _
def tr_types_k.I : (p : tr_types_k.Pt) → (Int) → Prop
 | .f_27 a_0 x_1, r => ∀ {W h m A_0 n_0 c_0} (O : Hold W h m h m []) (ne_0 : n_0 = List.length a_0) (k_0 : List.length a_0 ≤ c_0) (r_0 : Rd 3 T_Type.E m A_0 a_0), Run Tryz.prog 27 #[Value.slice A_0 n_0 c_0, Value.int .i64 x_1] h (tr_types.post W h m r)
 | .l0_27 x_1 a_8 x_9 x_10, r => ∀ {W h0 m0 h m A_8 n_8 c_8} (O : Hold W h0 m0 h m []) (ne_8 : n_8 = List.length a_8) (k_8 : List.length a_8 ≤ c_8) (r_8 : Rd 3 T_Type.E m A_8 a_8), f27.l0 (tr_types.post W h0 m0 r) x_1 A_8 n_8 c_8 x_9 x_10 h
 | .f_43 y_0 x_1, r => ∀ {W h m cs_0} (O : Hold W h m h m []) (e_0 : T_Type.E m y_0 cs_0), Run Tryz.prog 43 #[Value.agg cs_0.toArray, Value.int .i64 x_1] h (tr_typ.post W h m r)
 | .j2_43 x_1 y_2 x_5 x_6 b_7 x_11 b_12, r => ∀ {W h0 m0 h m bk_2 cs_2} (O : Hold W h0 m0 h m [rV bk_2 44 cs_2]) (e_2 : T_Type.E m y_2 cs_2), f43.j2 (tr_typ.post W h0 m0 r) x_1 (⟨bk_2, 0, none⟩ : Addr) x_5 x_6 b_7 x_11 b_12 h
 | .j3_43 x_1 y_2 b_7 b_44, r => ∀ {W h0 m0 h m bk_2 cs_2} (O : Hold W h0 m0 h m [rV bk_2 44 cs_2]) (e_2 : T_Type.E m y_2 cs_2), f43.j3 (tr_typ.post W h0 m0 r) x_1 (⟨bk_2, 0, none⟩ : Addr) b_7 b_44 h
 | .j0_43 x_1 y_2 x_5 x_6 b_7, r => ∀ {W h0 m0 h m bk_2 cs_2} (O : Hold W h0 m0 h m [rV bk_2 44 cs_2]) (e_2 : T_Type.E m y_2 cs_2), f43.j0 (tr_typ.post W h0 m0 r) x_1 (⟨bk_2, 0, none⟩ : Addr) x_5 x_6 b_7 h
 | .j1_43 x_1 y_2, r => ∀ {W h0 m0 h m bk_2 cs_2} (O : Hold W h0 m0 h m [rV bk_2 44 cs_2]) (e_2 : T_Type.E m y_2 cs_2), f43.j1 (tr_typ.post W h0 m0 r) x_1 (⟨bk_2, 0, none⟩ : Addr) h
theorem tr_types_k.step_f_27 (go : (p : tr_types_k.Pt) → Option (Int)) (ih : ∀ p r, go p = some r → tr_types_k.I p r) (a_0 x_1) (r) (e : tr_types_k.body go (.f_27 a_0 x_1) = some r) : tr_types_k.I (.f_27 a_0 x_1) r := by
 unfold tr_types_k.body at e
 intro W h m A_0 n_0 c_0 O ne_0 k_0 r_0
 subst ne_0
 refine f27.run ?_
 unfold f27.runT
 exact (ih _ _ e) (O.pick []).nm rfl k_0 r_0
theorem tr_types_k.step_l0_27 (go : (p : tr_types_k.Pt) → Option (Int)) (ih : ∀ p r, go p = some r → tr_types_k.I p r) (x_1 a_8 x_9 x_10) (r) (e : tr_types_k.body go (.l0_27 x_1 a_8 x_9 x_10) = some r) : tr_types_k.I (.l0_27 x_1 a_8 x_9 x_10) r := by
 unfold tr_types_k.body at e
 intro W h0 m0 h m A_8 n_8 c_8 O ne_8 k_8 r_8
 subst ne_8
 refine f27.l0_in ?_
 unfold f27.l0T
 refine split_dec_e e (fun c22 e => ?_) (fun c22 e => ?_)
 · obtain ⟨y1, g2, e⟩ := bind_e e
   refine r_8.addr rfl g2 fun a3 cs4 ha5 hc6 he7 => ?_
   refine ⟨_, ldAn O.s hc6 rfl, ?_⟩
   refine O.new fun h8 x9 O10 => ?_
   refine ⟨_, rfl, (T_Type.T.len _ _ _ he7), ?_⟩
   refine O10.stA 0 rfl (T_Type.T.len _ _ _ he7) (T_Type.T.flat _ _ _ he7) fun h12 O13 => ?_
   refine ⟨_, ldAn (Sub.refl _) (O13.all 0 rfl) (T_Type.T.len _ _ _ he7), ?_⟩
   obtain ⟨y14, g15, e⟩ := bind_e e
   refine ((ih _ _ g15) (Hold.start (W := No) O13.s) he7).mono ?_
   rintro _ h16 ⟨m17, Q18, rfl⟩
   have O20 := Hold.nm (O13.retC Q18 vfs_nil)
   refine ⟨_, rfl, ?_⟩
   refine split_ne_e e (fun c21 e => ?_) (fun c21 e => ?_)
   · cases e
     exact ⟨_, O20.pick [], rfl⟩
   · exact (ih _ _ e) (O20.pick []).nm rfl k_8 r_8
 · cases e
   exact ⟨_, O.pick [], rfl⟩
theorem tr_types_k.step_f_43 (go : (p : tr_types_k.Pt) → Option (Int)) (ih : ∀ p r, go p = some r → tr_types_k.I p r) (y_0 x_1) (r) (e : tr_types_k.body go (.f_43 y_0 x_1) = some r) : tr_types_k.I (.f_43 y_0 x_1) r := by
 unfold tr_types_k.body at e
 intro W h m cs_0 O e_0
 refine f43.run ?_
 unfold f43.runT
 refine O.new fun h1 x2 O3 => ?_
 refine split_dec_e e (fun c13 e => ?_) (fun c13 e => ?_)
 · have O5 := O3.nm
   cases e
   exact ⟨_, O5.pick [], rfl⟩
 · refine ⟨_, ld0 (Sub.refl _) (O3.all 0 rfl) (T_Type.g0 e_0), _, rfl, ?_⟩
   refine split_eq_e e (fun c12 e => ?_) (fun c12 e => ?_)
   · have O6 := O3.nm
     exact (ih _ _ e) (O6.pick [0]).nm e_0
   · refine split_eq_e e (fun c11 e => ?_) (fun c11 e => ?_)
     · have O7 := O3.nm
       exact (ih _ _ e) (O7.pick [0]).nm e_0
     · refine split_eq_e e (fun c10 e => ?_) (fun c10 e => ?_)
       · have O8 := O3.nm
         exact (ih _ _ e) (O8.pick [0]).nm e_0
       · have O9 := O3.nm
         exact (ih _ _ e) (O9.pick [0]).nm e_0
set_option maxHeartbeats 4000000 in
theorem tr_types_k.step_j2_43 (go : (p : tr_types_k.Pt) → Option (Int)) (ih : ∀ p r, go p = some r → tr_types_k.I p r) (x_1 y_2 x_5 x_6 b_7 x_11 b_12) (r) (e : tr_types_k.body go (.j2_43 x_1 y_2 x_5 x_6 b_7 x_11 b_12) = some r) : tr_types_k.I (.j2_43 x_1 y_2 x_5 x_6 b_7 x_11 b_12) r := by
 unfold tr_types_k.body at e
 intro W h0 m0 h m bk_2 cs_2 O e_2
 refine f43.j2_in ?_
 unfold f43.j2T
 refine split_any_e e (fun c22 e => ?_) (fun c22 e => ?_)
 · exact (ih _ _ e) (O.pick [0]).nm e_2
 · refine split_eq_e e (fun c21 e => ?_) (fun c21 e => ?_)
   · refine ⟨_, ldk (k := 1) (Sub.refl _) (O.all 0 rfl) (T_Type.g1 e_2), _, rfl, ?_⟩
     obtain ⟨y1, g2, e⟩ := bind_e e
     refine (tk_IsLow.walk (Hold.start (W := No) O.s)  g2).mono ?_
     rintro _ h3 ⟨m4, Q5, rfl⟩
     have O7 := Hold.nm (O.retC Q5 vfs_nil)
     refine ⟨_, rfl, ?_⟩
     refine split_any_e e (fun c8 e => ?_) (fun c8 e => ?_)
     · exact (ih _ _ e) (O7.pick [0]).nm e_2
     · refine ⟨_, ldk (k := 1) (Sub.refl _) (O7.all 0 rfl) (T_Type.g1 e_2), _, rfl, ?_⟩
       try rw [ba_list y_2.Name (ByteArray.mk #[115, 101, 108, 102])]
       exact (ih _ _ e) (O7.pick [0]).nm e_2
   · refine split_eq_e e (fun c20 e => ?_) (fun c20 e => ?_)
     · refine ⟨_, ldk (k := 1) (Sub.refl _) (O.all 0 rfl) (T_Type.g1 e_2), _, rfl, ?_⟩
       obtain ⟨y9, g10, e⟩ := bind_e e
       refine (tk_IsUp.walk (Hold.start (W := No) O.s)  g10).mono ?_
       rintro _ h11 ⟨m12, Q13, rfl⟩
       have O15 := Hold.nm (O.retC Q13 vfs_nil)
       refine ⟨_, rfl, ?_⟩
       refine split_any_e e (fun c17 e => ?_) (fun c17 e => ?_)
       · refine ⟨_, ldk (k := 1) (Sub.refl _) (O15.all 0 rfl) (T_Type.g1 e_2), _, rfl, ?_⟩
         try rw [ba_list y_2.Name (ByteArray.mk #[82, 101, 102])]
         refine split_not ?_
         refine split_dec_e e (fun c16 e => ?_) (fun c16 e => ?_)
         · exact (ih _ _ e) (O15.pick [0]).nm e_2
         · refine ⟨_, ldk (k := 1) (Sub.refl _) (O15.all 0 rfl) (T_Type.g1 e_2), _, rfl, ?_⟩
           try rw [ba_list y_2.Name (ByteArray.mk #[67, 101, 108, 108])]
           exact (ih _ _ e) (O15.pick [0]).nm e_2
       · exact (ih _ _ e) (O15.pick [0]).nm e_2
     · refine split_eq_e e (fun c19 e => ?_) (fun c19 e => ?_)
       · exact (ih _ _ e) (O.pick [0]).nm e_2
       · refine split_eq_e e (fun c18 e => ?_) (fun c18 e => ?_)
         · exact (ih _ _ e) (O.pick [0]).nm e_2
         · exact (ih _ _ e) (O.pick [0]).nm e_2
theorem tr_types_k.step_j3_43 (go : (p : tr_types_k.Pt) → Option (Int)) (ih : ∀ p r, go p = some r → tr_types_k.I p r) (x_1 y_2 b_7 b_44) (r) (e : tr_types_k.body go (.j3_43 x_1 y_2 b_7 b_44) = some r) : tr_types_k.I (.j3_43 x_1 y_2 b_7 b_44) r := by
 unfold tr_types_k.body at e
 intro W h0 m0 h m bk_2 cs_2 O e_2
 refine f43.j3_in ?_
 unfold f43.j3T
 refine split_any_e e (fun c1 e => ?_) (fun c1 e => ?_)
 · exact (ih _ _ e) (O.pick [0]).nm e_2
 · cases e
   exact ⟨_, O.pick [], rfl⟩
set_option maxHeartbeats 4000000 in
theorem tr_types_k.step_j0_43 (go : (p : tr_types_k.Pt) → Option (Int)) (ih : ∀ p r, go p = some r → tr_types_k.I p r) (x_1 y_2 x_5 x_6 b_7) (r) (e : tr_types_k.body go (.j0_43 x_1 y_2 x_5 x_6 b_7) = some r) : tr_types_k.I (.j0_43 x_1 y_2 x_5 x_6 b_7) r := by
 unfold tr_types_k.body at e
 intro W h0 m0 h m bk_2 cs_2 O e_2
 refine f43.j0_in ?_
 unfold f43.j0T
 obtain ⟨A1, c2, q3, k4, r5⟩ := T_Type.g2 e_2
 refine ⟨_, ldk (k := 2) (Sub.refl _) (O.all 0 rfl) q3, _, _, _, rfl, ?_⟩
 refine split_dec_e e (fun c26 e => ?_) (fun c26 e => ?_)
 · cases e
   exact ⟨_, O.pick [], rfl⟩
 · obtain ⟨A6, c7, q8, k9, r10⟩ := T_Type.g2 e_2
   refine ⟨_, ldk (k := 2) (Sub.refl _) (O.all 0 rfl) q8, _, _, _, rfl, ?_⟩
   refine split_dec_e e (fun c25 e => ?_) (fun c25 e => ?_)
   · cases e
     exact ⟨_, O.pick [], rfl⟩
   · obtain ⟨A11, c12, q13, k14, r15⟩ := T_Type.g2 e_2
     refine ⟨_, ldk (k := 2) (Sub.refl _) (O.all 0 rfl) q13, _, _, _, rfl, ?_⟩
     refine split_dec_e e (fun c24 e => ?_) (fun c24 e => ?_)
     · cases e
       exact ⟨_, O.pick [], rfl⟩
     · refine split_not ?_
       refine split_any_e e (fun c23 e => ?_) (fun c23 e => ?_)
       · refine split_not ?_
         refine split_any_e e (fun c18 e => ?_) (fun c18 e => ?_)
         · exact (ih _ _ e) (O.pick [0]).nm e_2
         · refine ⟨_, ld0 (Sub.refl _) (O.all 0 rfl) (T_Type.g0 e_2), _, rfl, ?_⟩
           refine split_eq_e e (fun c17 e => ?_) (fun c17 e => ?_)
           · cases e
             exact ⟨_, O.pick [], rfl⟩
           · refine ⟨_, ld0 (Sub.refl _) (O.all 0 rfl) (T_Type.g0 e_2), _, rfl, ?_⟩
             refine split_eq_e e (fun c16 e => ?_) (fun c16 e => ?_)
             · cases e
               exact ⟨_, O.pick [], rfl⟩
             · exact (ih _ _ e) (O.pick [0]).nm e_2
       · refine ⟨_, ldk (k := 1) (Sub.refl _) (O.all 0 rfl) (T_Type.g1 e_2), _, rfl, ?_⟩
         try rw [ba_list y_2.Name (ByteArray.mk #[])]
         refine split_not ?_
         refine split_dec_e e (fun c22 e => ?_) (fun c22 e => ?_)
         · refine split_not ?_
           refine split_any_e e (fun c21 e => ?_) (fun c21 e => ?_)
           · exact (ih _ _ e) (O.pick [0]).nm e_2
           · refine ⟨_, ld0 (Sub.refl _) (O.all 0 rfl) (T_Type.g0 e_2), _, rfl, ?_⟩
             refine split_eq_e e (fun c20 e => ?_) (fun c20 e => ?_)
             · cases e
               exact ⟨_, O.pick [], rfl⟩
             · refine ⟨_, ld0 (Sub.refl _) (O.all 0 rfl) (T_Type.g0 e_2), _, rfl, ?_⟩
               refine split_eq_e e (fun c19 e => ?_) (fun c19 e => ?_)
               · cases e
                 exact ⟨_, O.pick [], rfl⟩
               · exact (ih _ _ e) (O.pick [0]).nm e_2
         · cases e
           exact ⟨_, O.pick [], rfl⟩
theorem tr_types_k.step_j1_43 (go : (p : tr_types_k.Pt) → Option (Int)) (ih : ∀ p r, go p = some r → tr_types_k.I p r) (x_1 y_2) (r) (e : tr_types_k.body go (.j1_43 x_1 y_2) = some r) : tr_types_k.I (.j1_43 x_1 y_2) r := by
 unfold tr_types_k.body at e
 intro W h0 m0 h m bk_2 cs_2 O e_2
 refine f43.j1_in ?_
 unfold f43.j1T
 obtain ⟨A1, c2, q3, k4, r5⟩ := T_Type.g2 e_2
 refine ⟨_, ldk (k := 2) (Sub.refl _) (O.all 0 rfl) q3, _, _, _, rfl, ?_⟩
 obtain ⟨y6, g7, e⟩ := bind_e e
 refine ((ih _ _ g7) (Hold.start (W := No) O.s) rfl k4 r5).mono ?_
 rintro _ h8 ⟨m9, Q10, rfl⟩
 have O12 := Hold.nm (O.retC Q10 vfs_nil)
 refine ⟨_, rfl, ?_⟩
 cases e
 exact ⟨_, O12.pick [], rfl⟩
theorem tr_types_k.all {p : tr_types_k.Pt} {r : (Int)} (e : tr_types_k.go p = some r) : tr_types_k.I p r := fixF_ind (β := fun _ => (Int)) tr_types_k.mono (I := tr_types_k.I) (fun go ih p r e => match p with
 | .f_27 a_0 x_1 => tr_types_k.step_f_27 go ih a_0 x_1 r e
 | .l0_27 x_1 a_8 x_9 x_10 => tr_types_k.step_l0_27 go ih x_1 a_8 x_9 x_10 r e
 | .f_43 y_0 x_1 => tr_types_k.step_f_43 go ih y_0 x_1 r e
 | .j2_43 x_1 y_2 x_5 x_6 b_7 x_11 b_12 => tr_types_k.step_j2_43 go ih x_1 y_2 x_5 x_6 b_7 x_11 b_12 r e
 | .j3_43 x_1 y_2 b_7 b_44 => tr_types_k.step_j3_43 go ih x_1 y_2 b_7 b_44 r e
 | .j0_43 x_1 y_2 x_5 x_6 b_7 => tr_types_k.step_j0_43 go ih x_1 y_2 x_5 x_6 b_7 r e
 | .j1_43 x_1 y_2 => tr_types_k.step_j1_43 go ih x_1 y_2 r e
 ) e
theorem tr_types.walk {W h m A_0 n_0 c_0 a_0 x_1} (O : Hold W h m h m []) (ne_0 : n_0 = List.length a_0) (k_0 : List.length a_0 ≤ c_0) (r_0 : Rd 3 T_Type.E m A_0 a_0) {r} (e : tr_types a_0 x_1 = some r) : Run Tryz.prog 27 #[Value.slice A_0 n_0 c_0, Value.int .i64 x_1] h (tr_types.post W h m r) := tr_types_k.all (p := .f_27 a_0 x_1) e O ne_0 k_0 r_0
def tr_data.post (W : Nat → Prop) (h0 m0 : Heap) (r : Int) (v : Value) (h : Heap) : Prop := ∃ m , Hold W h0 m0 h m [] ∧ v = .int .i64 r
inductive tr_data.l0_k.Pt where
 | l0 (a_38 : List T_Make) (x_39 : Int) (x_40 : Int)
noncomputable def tr_data.l0_k.body (go : (p : tr_data.l0_k.Pt) → Option (Int)) : (p : tr_data.l0_k.Pt) → Option (Int)
 | .l0 a_38 x_39 x_40 => if x_40 < x_39 then (Option.bind (gi a_38 x_40) fun y1 => Option.bind (tk_IsUp y1.Name) fun y14 => if y14 = true then (if (((List.length y1.Args) : Nat) : Int) > (6 : Int) then (some ((2 : Int))) else (Option.bind (tr_types y1.Args (40 : Int)) fun y31 => if y31 = (0 : Int) then ((go (.l0 a_38 x_39 (IntKind.wrap .i64 (x_40 + (1 : Int)))))) else (some (y31)))) else (some ((3 : Int)))) else (some ((0 : Int)))
theorem tr_data.l0_k.mono : MonoF (β := fun _ => (Int)) tr_data.l0_k.body := fun f g hfg p => match p with
 | .l0 a_38 x_39 x_40 => LeO.ite (LeO.bind (LeO.refl _) fun y1 => LeO.bind (LeO.refl _) fun y14 => LeO.ite (LeO.ite (LeO.refl _) (LeO.bind (LeO.refl _) fun y31 => LeO.ite ((hfg _)) (LeO.refl _))) (LeO.refl _)) (LeO.refl _)
noncomputable def tr_data.l0_k.go (p : tr_data.l0_k.Pt) : Option (Int) := fixF (β := fun _ => (Int)) tr_data.l0_k.body p
noncomputable def tr_data.l0 (a_38 x_39 x_40) := tr_data.l0_k.go (.l0 a_38 x_39 x_40)
theorem tr_data.l0_eq (a_38 x_39 x_40) : tr_data.l0 a_38 x_39 x_40 = if x_40 < x_39 then (Option.bind (gi a_38 x_40) fun y1 => Option.bind (tk_IsUp y1.Name) fun y14 => if y14 = true then (if (((List.length y1.Args) : Nat) : Int) > (6 : Int) then (some ((2 : Int))) else (Option.bind (tr_types y1.Args (40 : Int)) fun y31 => if y31 = (0 : Int) then ((tr_data.l0 a_38 x_39 (IntKind.wrap .i64 (x_40 + (1 : Int))))) else (some (y31)))) else (some ((3 : Int)))) else (some ((0 : Int))) := fixF_eq tr_data.l0_k.mono _
def tr_data.l0_k.I : (p : tr_data.l0_k.Pt) → (Int) → Prop
 | .l0 a_38 x_39 x_40, r => ∀ {W h0 m0 h m A_38 n_38 c_38} (O : Hold W h0 m0 h m []) (ne_38 : n_38 = List.length a_38) (k_38 : List.length a_38 ≤ c_38) (r_38 : Rd 2 T_Make.E m A_38 a_38), f7.l0 (tr_data.post W h0 m0 r) A_38 n_38 c_38 x_39 x_40 h
set_option maxHeartbeats 4000000 in
theorem tr_data.l0_k.step_l0 (go : (p : tr_data.l0_k.Pt) → Option (Int)) (ih : ∀ p r, go p = some r → tr_data.l0_k.I p r) (a_38 x_39 x_40) (r) (e : tr_data.l0_k.body go (.l0 a_38 x_39 x_40) = some r) : tr_data.l0_k.I (.l0 a_38 x_39 x_40) r := by
 unfold tr_data.l0_k.body at e
 intro W h0 m0 h m A_38 n_38 c_38 O ne_38 k_38 r_38
 subst ne_38
 refine f7.l0_in ?_
 unfold f7.l0T
 refine split_dec_e e (fun c41 e => ?_) (fun c41 e => ?_)
 · obtain ⟨y1, g2, e⟩ := bind_e e
   refine r_38.addr rfl g2 fun a3 cs4 ha5 hc6 he7 => ?_
   refine ⟨_, ldAn O.s hc6 rfl, ?_⟩
   refine O.new fun h8 x9 O10 => ?_
   refine ⟨_, rfl, (T_Make.T.len _ _ _ he7), ?_⟩
   refine O10.stA 0 rfl (T_Make.T.len _ _ _ he7) (T_Make.T.flat _ _ _ he7) fun h12 O13 => ?_
   refine ⟨_, ld0 (Sub.refl _) (O13.all 0 rfl) (T_Make.g0 he7), _, rfl, ?_⟩
   obtain ⟨y14, g15, e⟩ := bind_e e
   refine (tk_IsUp.walk (Hold.start (W := No) O13.s)  g15).mono ?_
   rintro _ h16 ⟨m17, Q18, rfl⟩
   have O20 := Hold.nm (O13.retC Q18 vfs_nil)
   refine ⟨_, rfl, ?_⟩
   refine split_not ?_
   refine split_any_e e (fun c40 e => ?_) (fun c40 e => ?_)
   · obtain ⟨A21, c22, q23, k24, r25⟩ := T_Make.g1 he7
     refine ⟨_, ldk (k := 1) (Sub.refl _) (O20.all 0 rfl) q23, _, _, _, rfl, ?_⟩
     refine split_dec_e e (fun c39 e => ?_) (fun c39 e => ?_)
     · cases e
       exact ⟨_, O20.pick [], rfl⟩
     · obtain ⟨A26, c27, q28, k29, r30⟩ := T_Make.g1 he7
       refine ⟨_, ldk (k := 1) (Sub.refl _) (O20.all 0 rfl) q28, _, _, _, rfl, ?_⟩
       obtain ⟨y31, g32, e⟩ := bind_e e
       refine (tr_types.walk (Hold.start (W := No) O20.s) rfl k29 r30 g32).mono ?_
       rintro _ h33 ⟨m34, Q35, rfl⟩
       have O37 := Hold.nm (O20.retC Q35 vfs_nil)
       refine ⟨_, rfl, ?_⟩
       refine split_ne_e e (fun c38 e => ?_) (fun c38 e => ?_)
       · cases e
         exact ⟨_, O37.pick [], rfl⟩
       · exact (ih _ _ e) (O37.pick []).nm rfl k_38 r_38
   · cases e
     exact ⟨_, O20.pick [], rfl⟩
 · cases e
   exact ⟨_, O.pick [], rfl⟩
theorem tr_data.l0_k.all {p : tr_data.l0_k.Pt} {r : (Int)} (e : tr_data.l0_k.go p = some r) : tr_data.l0_k.I p r := fixF_ind (β := fun _ => (Int)) tr_data.l0_k.mono (I := tr_data.l0_k.I) (fun go ih p r e => match p with
 | .l0 a_38 x_39 x_40 => tr_data.l0_k.step_l0 go ih a_38 x_39 x_40 r e
 ) e
noncomputable def tr_data.j0 (y_1 : T_Data) : Option (Int) :=
 Option.bind (tr_lows y_1.Params) fun y6 => if y6 = (0 : Int) then (if (((List.length y_1.Makes) : Nat) : Int) > (12 : Int) then (some ((2 : Int))) else ((tr_data.l0 y_1.Makes (((List.length y_1.Makes) : Nat) : Int) (0 : Int)))) else (some (y6))
theorem tr_data.j0.walk {W h0 m0 h m bk_1 cs_1 y_1} (O : Hold W h0 m0 h m [rV bk_1 40 cs_1]) (e_1 : T_Data.E m y_1 cs_1) {r} (e : tr_data.j0 y_1 = some r) : f7.j0 (tr_data.post W h0 m0 r) (⟨bk_1, 0, none⟩ : Addr) h := by
 unfold tr_data.j0 at e
 refine f7.j0_in ?_
 unfold f7.j0T
 obtain ⟨A1, c2, q3, k4, r5⟩ := T_Data.g1 e_1
 refine ⟨_, ldk (k := 1) (Sub.refl _) (O.all 0 rfl) q3, _, _, _, rfl, ?_⟩
 obtain ⟨y6, g7, e⟩ := bind_e e
 refine (tr_lows.walk (Hold.start (W := No) O.s) rfl k4 r5 g7).mono ?_
 rintro _ h8 ⟨m9, Q10, rfl⟩
 have O12 := Hold.nm (O.retC Q10 vfs_nil)
 refine ⟨_, rfl, ?_⟩
 refine split_ne_e e (fun c24 e => ?_) (fun c24 e => ?_)
 · cases e
   exact ⟨_, O12.pick [], rfl⟩
 · obtain ⟨A13, c14, q15, k16, r17⟩ := T_Data.g2 e_1
   refine ⟨_, ldk (k := 2) (Sub.refl _) (O12.all 0 rfl) q15, _, _, _, rfl, ?_⟩
   refine split_dec_e e (fun c23 e => ?_) (fun c23 e => ?_)
   · cases e
     exact ⟨_, O12.pick [], rfl⟩
   · obtain ⟨A18, c19, q20, k21, r22⟩ := T_Data.g2 e_1
     refine ⟨_, ldk (k := 2) (Sub.refl _) (O12.all 0 rfl) q20, _, _, _, rfl, ?_⟩
     exact (tr_data.l0_k.all e) (O12.pick []).nm rfl k21 r22
noncomputable def tr_data (y_0 : T_Data) : Option (Int) :=
 Option.bind (tk_IsUp y_0.Name) fun y5 => if y5 = true then (if y_0.Name = (ByteArray.mk #[82, 101, 102]) then (some ((3 : Int))) else (if y_0.Name = (ByteArray.mk #[67, 101, 108, 108]) then (some ((3 : Int))) else (if (((List.length y_0.Makes) : Nat) : Int) < (1 : Int) then (some ((3 : Int))) else ((tr_data.j0 y_0))))) else (some ((3 : Int)))
theorem tr_data.walk {W h m cs_0 y_0} (O : Hold W h m h m []) (e_0 : T_Data.E m y_0 cs_0) {r} (e : tr_data y_0 = some r) : Run Tryz.prog 7 #[Value.agg cs_0.toArray] h (tr_data.post W h m r) := by
 unfold tr_data at e
 refine f7.run ?_
 unfold f7.runT
 refine O.new fun h1 x2 O3 => ?_
 refine ⟨_, ld0 (Sub.refl _) (O3.all 0 rfl) (T_Data.g0 e_0), _, rfl, ?_⟩
 obtain ⟨y5, g6, e⟩ := bind_e e
 refine (tk_IsUp.walk (Hold.start (W := No) O3.s)  g6).mono ?_
 rintro _ h7 ⟨m8, Q9, rfl⟩
 have O11 := Hold.nm (O3.retC Q9 vfs_nil)
 refine ⟨_, rfl, ?_⟩
 refine split_not ?_
 refine split_any_e e (fun c20 e => ?_) (fun c20 e => ?_)
 · refine ⟨_, ld0 (Sub.refl _) (O11.all 0 rfl) (T_Data.g0 e_0), _, rfl, ?_⟩
   try rw [ba_list y_0.Name (ByteArray.mk #[82, 101, 102])]
   refine split_dec_e e (fun c19 e => ?_) (fun c19 e => ?_)
   · cases e
     exact ⟨_, O11.pick [], rfl⟩
   · refine ⟨_, ld0 (Sub.refl _) (O11.all 0 rfl) (T_Data.g0 e_0), _, rfl, ?_⟩
     try rw [ba_list y_0.Name (ByteArray.mk #[67, 101, 108, 108])]
     refine split_dec_e e (fun c18 e => ?_) (fun c18 e => ?_)
     · cases e
       exact ⟨_, O11.pick [], rfl⟩
     · obtain ⟨A12, c13, q14, k15, r16⟩ := T_Data.g2 e_0
       refine ⟨_, ldk (k := 2) (Sub.refl _) (O11.all 0 rfl) q14, _, _, _, rfl, ?_⟩
       refine split_dec_e e (fun c17 e => ?_) (fun c17 e => ?_)
       · cases e
         exact ⟨_, O11.pick [], rfl⟩
       · exact tr_data.j0.walk (O11.pick [0]).nm e_0 e
 · cases e
   exact ⟨_, O11.pick [], rfl⟩
def slices_Equal_44.post (W : Nat → Prop) (h0 m0 : Heap) (r : Bool) (v : Value) (h : Heap) : Prop := ∃ m , Hold W h0 m0 h m [] ∧ v = .bool r
inductive slices_Equal_44.l0_k.Pt where
 | l0 (a_0 : List ByteArray) (a_1 : List ByteArray) (x_12 : Int) (x_13 : Int)
noncomputable def slices_Equal_44.l0_k.body (go : (p : slices_Equal_44.l0_k.Pt) → Option (Bool)) : (p : slices_Equal_44.l0_k.Pt) → Option (Bool)
 | .l0 a_0 a_1 x_12 x_13 => if x_13 < x_12 then (Option.bind (gi a_0 x_13) fun y1 => Option.bind (gi a_1 x_13) fun y8 => if y1 = y8 then ((go (.l0 a_0 a_1 x_12 (IntKind.wrap .i64 (x_13 + (1 : Int)))))) else (some (false))) else (some (true))
theorem slices_Equal_44.l0_k.mono : MonoF (β := fun _ => (Bool)) slices_Equal_44.l0_k.body := fun f g hfg p => match p with
 | .l0 a_0 a_1 x_12 x_13 => LeO.ite (LeO.bind (LeO.refl _) fun y1 => LeO.bind (LeO.refl _) fun y8 => LeO.ite ((hfg _)) (LeO.refl _)) (LeO.refl _)
noncomputable def slices_Equal_44.l0_k.go (p : slices_Equal_44.l0_k.Pt) : Option (Bool) := fixF (β := fun _ => (Bool)) slices_Equal_44.l0_k.body p
noncomputable def slices_Equal_44.l0 (a_0 a_1 x_12 x_13) := slices_Equal_44.l0_k.go (.l0 a_0 a_1 x_12 x_13)
theorem slices_Equal_44.l0_eq (a_0 a_1 x_12 x_13) : slices_Equal_44.l0 a_0 a_1 x_12 x_13 = if x_13 < x_12 then (Option.bind (gi a_0 x_13) fun y1 => Option.bind (gi a_1 x_13) fun y8 => if y1 = y8 then ((slices_Equal_44.l0 a_0 a_1 x_12 (IntKind.wrap .i64 (x_13 + (1 : Int))))) else (some (false))) else (some (true)) := fixF_eq slices_Equal_44.l0_k.mono _
def slices_Equal_44.l0_k.I : (p : slices_Equal_44.l0_k.Pt) → (Bool) → Prop
 | .l0 a_0 a_1 x_12 x_13, r => ∀ {W h0 m0 h m A_0 n_0 c_0 A_1 n_1 c_1} (O : Hold W h0 m0 h m []) (ne_0 : n_0 = List.length a_0) (k_0 : List.length a_0 ≤ c_0) (r_0 : Rd 1 eStr m A_0 a_0) (ne_1 : n_1 = List.length a_1) (k_1 : List.length a_1 ≤ c_1) (r_1 : Rd 1 eStr m A_1 a_1), f44.l0 (slices_Equal_44.post W h0 m0 r) A_0 n_0 c_0 A_1 n_1 c_1 x_12 x_13 h
theorem slices_Equal_44.l0_k.step_l0 (go : (p : slices_Equal_44.l0_k.Pt) → Option (Bool)) (ih : ∀ p r, go p = some r → slices_Equal_44.l0_k.I p r) (a_0 a_1 x_12 x_13) (r) (e : slices_Equal_44.l0_k.body go (.l0 a_0 a_1 x_12 x_13) = some r) : slices_Equal_44.l0_k.I (.l0 a_0 a_1 x_12 x_13) r := by
 unfold slices_Equal_44.l0_k.body at e
 intro W h0 m0 h m A_0 n_0 c_0 A_1 n_1 c_1 O ne_0 k_0 r_0 ne_1 k_1 r_1
 subst ne_0
 subst ne_1
 refine f44.l0_in ?_
 unfold f44.l0T
 refine split_dec_e e (fun c16 e => ?_) (fun c16 e => ?_)
 · obtain ⟨y1, g2, e⟩ := bind_e e
   refine r_0.addr rfl g2 fun a3 cs4 ha5 hc6 he7 => ?_
   obtain rfl : cs4 = [(Value.string y1)] := he7
   obtain ⟨y8, g9, e⟩ := bind_e e
   refine r_1.addr rfl g9 fun a10 cs11 ha12 hc13 he14 => ?_
   obtain rfl : cs11 = [(Value.string y8)] := he14
   refine ⟨_, ld0 O.s hc6 rfl, _, rfl, ?_⟩
   refine ⟨_, ld0 O.s hc13 rfl, _, rfl, ?_⟩
   try rw [ba_list y1 y8]
   refine split_not ?_
   refine split_dec_e e (fun c15 e => ?_) (fun c15 e => ?_)
   · exact (ih _ _ e) (O.pick []).nm rfl k_0 r_0 rfl k_1 r_1
   · cases e
     exact ⟨_, O.pick [], rfl⟩
 · cases e
   exact ⟨_, O.pick [], rfl⟩
theorem slices_Equal_44.l0_k.all {p : slices_Equal_44.l0_k.Pt} {r : (Bool)} (e : slices_Equal_44.l0_k.go p = some r) : slices_Equal_44.l0_k.I p r := fixF_ind (β := fun _ => (Bool)) slices_Equal_44.l0_k.mono (I := slices_Equal_44.l0_k.I) (fun go ih p r e => match p with
 | .l0 a_0 a_1 x_12 x_13 => slices_Equal_44.l0_k.step_l0 go ih a_0 a_1 x_12 x_13 r e
 ) e
noncomputable def slices_Equal_44 (a_0 : List ByteArray) (a_1 : List ByteArray) : Option (Bool) :=
 if (((List.length a_0) : Nat) : Int) = (((List.length a_1) : Nat) : Int) then ((slices_Equal_44.l0 a_0 a_1 (((List.length a_0) : Nat) : Int) (0 : Int))) else (some (false))
theorem slices_Equal_44.walk {W h m A_0 n_0 c_0 A_1 n_1 c_1 a_0 a_1} (O : Hold W h m h m []) (ne_0 : n_0 = List.length a_0) (k_0 : List.length a_0 ≤ c_0) (r_0 : Rd 1 eStr m A_0 a_0) (ne_1 : n_1 = List.length a_1) (k_1 : List.length a_1 ≤ c_1) (r_1 : Rd 1 eStr m A_1 a_1) {r} (e : slices_Equal_44 a_0 a_1 = some r) : Run Tryz.prog 44 #[Value.slice A_0 n_0 c_0, Value.slice A_1 n_1 c_1] h (slices_Equal_44.post W h m r) := by
 unfold slices_Equal_44 at e
 subst ne_0
 subst ne_1
 refine f44.run ?_
 unfold f44.runT
 refine split_ne_e e (fun c1 e => ?_) (fun c1 e => ?_)
 · cases e
   exact ⟨_, O.pick [], rfl⟩
 · exact (slices_Equal_44.l0_k.all e) (O.pick []).nm rfl k_0 r_0 rfl k_1 r_1
def sEF_45_s1.post (W : Nat → Prop) (h0 m0 : Heap) (r : Bool) (v : Value) (h : Heap) : Prop := ∃ m , Hold W h0 m0 h m [] ∧ v = .bool r
def tr_SameType.post (W : Nat → Prop) (h0 m0 : Heap) (r : Bool) (v : Value) (h : Heap) : Prop := ∃ m , Hold W h0 m0 h m [] ∧ v = .bool r
inductive tr_SameType_k.Pt where
 | f_46 (y_0 : T_Type) (y_1 : T_Type)
 | f_1000000 (a_0 : List T_Type) (a_1 : List T_Type)
 | l0_1000000 (a_1 : List T_Type) (a_15 : List T_Type) (x_16 : Int) (x_17 : Int)
noncomputable def tr_SameType_k.body (go : (p : tr_SameType_k.Pt) → Option (Bool)) : (p : tr_SameType_k.Pt) → Option (Bool)
 | .f_46 y_0 y_1 => if y_0.Kind = y_1.Kind then (if y_0.Name = y_1.Name then (Option.bind ((go (.f_1000000 y_0.Args y_1.Args))) fun y19 => some (y19)) else (some (false))) else (some (false))
 | .f_1000000 a_0 a_1 => if (((List.length a_0) : Nat) : Int) = (((List.length a_1) : Nat) : Int) then ((go (.l0_1000000 a_1 a_0 (((List.length a_0) : Nat) : Int) (0 : Int)))) else (some (false))
 | .l0_1000000 a_1 a_15 x_16 x_17 => if x_17 < x_16 then (Option.bind (gi a_15 x_17) fun y1 => Option.bind (gi a_1 x_17) fun y14 => Option.bind ((go (.f_46 y1 y14))) fun y27 => if y27 = true then ((go (.l0_1000000 a_1 a_15 x_16 (IntKind.wrap .i64 (x_17 + (1 : Int)))))) else (some (false))) else (some (true))
theorem tr_SameType_k.mono : MonoF (β := fun _ => (Bool)) tr_SameType_k.body := fun f g hfg p => match p with
 | .f_46 y_0 y_1 => LeO.ite (LeO.ite (LeO.bind ((hfg _)) fun y19 => LeO.refl _) (LeO.refl _)) (LeO.refl _)
 | .f_1000000 a_0 a_1 => LeO.ite ((hfg _)) (LeO.refl _)
 | .l0_1000000 a_1 a_15 x_16 x_17 => LeO.ite (LeO.bind (LeO.refl _) fun y1 => LeO.bind (LeO.refl _) fun y14 => LeO.bind ((hfg _)) fun y27 => LeO.ite ((hfg _)) (LeO.refl _)) (LeO.refl _)
noncomputable def tr_SameType_k.go (p : tr_SameType_k.Pt) : Option (Bool) := fixF (β := fun _ => (Bool)) tr_SameType_k.body p
noncomputable def tr_SameType (y_0 y_1) := tr_SameType_k.go (.f_46 y_0 y_1)
noncomputable def sEF_45_s1 (a_0 a_1) := tr_SameType_k.go (.f_1000000 a_0 a_1)
noncomputable def sEF_45_s1.l0 (a_1 a_15 x_16 x_17) := tr_SameType_k.go (.l0_1000000 a_1 a_15 x_16 x_17)
theorem sEF_45_s1_eq (a_0 a_1) : sEF_45_s1 a_0 a_1 = if (((List.length a_0) : Nat) : Int) = (((List.length a_1) : Nat) : Int) then ((sEF_45_s1.l0 a_1 a_0 (((List.length a_0) : Nat) : Int) (0 : Int))) else (some (false)) := fixF_eq tr_SameType_k.mono _
theorem sEF_45_s1.l0_eq (a_1 a_15 x_16 x_17) : sEF_45_s1.l0 a_1 a_15 x_16 x_17 = if x_17 < x_16 then (Option.bind (gi a_15 x_17) fun y1 => Option.bind (gi a_1 x_17) fun y14 => Option.bind ((tr_SameType y1 y14)) fun y27 => if y27 = true then ((sEF_45_s1.l0 a_1 a_15 x_16 (IntKind.wrap .i64 (x_17 + (1 : Int))))) else (some (false))) else (some (true)) := fixF_eq tr_SameType_k.mono _
def tr_SameType_k.I : (p : tr_SameType_k.Pt) → (Bool) → Prop
 | .f_46 y_0 y_1, r => ∀ {W h m cs_0 cs_1} (O : Hold W h m h m []) (e_0 : T_Type.E m y_0 cs_0) (e_1 : T_Type.E m y_1 cs_1), Run Tryz.prog 46 #[Value.agg cs_0.toArray, Value.agg cs_1.toArray] h (tr_SameType.post W h m r)
 | .f_1000000 a_0 a_1, r => ∀ {W h m A_0 n_0 c_0 A_1 n_1 c_1} (O : Hold W h m h m []) (ne_0 : n_0 = List.length a_0) (k_0 : List.length a_0 ≤ c_0) (r_0 : Rd 3 T_Type.E m A_0 a_0) (ne_1 : n_1 = List.length a_1) (k_1 : List.length a_1 ≤ c_1) (r_1 : Rd 3 T_Type.E m A_1 a_1), Run Tryz.prog 45 #[Value.slice A_0 n_0 c_0, Value.slice A_1 n_1 c_1, (Value.func (.func 46) #[] #[])] h (sEF_45_s1.post W h m r)
 | .l0_1000000 a_1 a_15 x_16 x_17, r => ∀ {W h0 m0 h m A_1 n_1 c_1 A_15 n_15 c_15} (O : Hold W h0 m0 h m []) (ne_1 : n_1 = List.length a_1) (k_1 : List.length a_1 ≤ c_1) (r_1 : Rd 3 T_Type.E m A_1 a_1) (ne_15 : n_15 = List.length a_15) (k_15 : List.length a_15 ≤ c_15) (r_15 : Rd 3 T_Type.E m A_15 a_15), f45.l0 (sEF_45_s1.post W h0 m0 r) A_1 n_1 c_1 (Value.func (.func 46) #[] #[]) A_15 n_15 c_15 x_16 x_17 h
theorem tr_SameType_k.step_f_46 (go : (p : tr_SameType_k.Pt) → Option (Bool)) (ih : ∀ p r, go p = some r → tr_SameType_k.I p r) (y_0 y_1) (r) (e : tr_SameType_k.body go (.f_46 y_0 y_1) = some r) : tr_SameType_k.I (.f_46 y_0 y_1) r := by
 unfold tr_SameType_k.body at e
 intro W h m cs_0 cs_1 O e_0 e_1
 refine f46.run ?_
 unfold f46.runT
 refine O.new fun h1 x2 O3 => ?_
 refine O3.new fun h5 x6 O7 => ?_
 refine ⟨_, ld0 (Sub.refl _) (O7.all 0 rfl) (T_Type.g0 e_0), _, rfl, ?_⟩
 refine ⟨_, ld0 (Sub.refl _) (O7.all 1 rfl) (T_Type.g0 e_1), _, rfl, ?_⟩
 refine split_eq_e e (fun c29 e => ?_) (fun c29 e => ?_)
 · refine ⟨_, ldk (k := 1) (Sub.refl _) (O7.all 0 rfl) (T_Type.g1 e_0), _, rfl, ?_⟩
   refine ⟨_, ldk (k := 1) (Sub.refl _) (O7.all 1 rfl) (T_Type.g1 e_1), _, rfl, ?_⟩
   try rw [ba_list y_0.Name y_1.Name]
   refine split_dec_e e (fun c27 e => ?_) (fun c27 e => ?_)
   · obtain ⟨A9, c10, q11, k12, r13⟩ := T_Type.g2 e_0
     refine ⟨_, ldk (k := 2) (Sub.refl _) (O7.all 0 rfl) q11, _, _, _, rfl, ?_⟩
     obtain ⟨A14, c15, q16, k17, r18⟩ := T_Type.g2 e_1
     refine ⟨_, ldk (k := 2) (Sub.refl _) (O7.all 1 rfl) q16, _, _, _, rfl, ?_⟩
     obtain ⟨y19, g20, e⟩ := bind_e e
     refine ((ih _ _ g20) (Hold.start (W := No) O7.s) rfl k12 r13 rfl k17 r18).mono ?_
     rintro _ h21 ⟨m22, Q23, rfl⟩
     have O25 := Hold.nm (O7.retC Q23 vfs_nil)
     refine ⟨_, rfl, ?_⟩
     cases e
     exact ⟨_, O25.pick [], rfl⟩
   · have O26 := O7.nm
     cases e
     exact ⟨_, O26.pick [], rfl⟩
 · have O28 := O7.nm
   cases e
   exact ⟨_, O28.pick [], rfl⟩
theorem tr_SameType_k.step_f_1000000 (go : (p : tr_SameType_k.Pt) → Option (Bool)) (ih : ∀ p r, go p = some r → tr_SameType_k.I p r) (a_0 a_1) (r) (e : tr_SameType_k.body go (.f_1000000 a_0 a_1) = some r) : tr_SameType_k.I (.f_1000000 a_0 a_1) r := by
 unfold tr_SameType_k.body at e
 intro W h m A_0 n_0 c_0 A_1 n_1 c_1 O ne_0 k_0 r_0 ne_1 k_1 r_1
 subst ne_0
 subst ne_1
 refine f45.run ?_
 unfold f45.runT
 refine split_ne_e e (fun c1 e => ?_) (fun c1 e => ?_)
 · cases e
   exact ⟨_, O.pick [], rfl⟩
 · exact (ih _ _ e) (O.pick []).nm rfl k_1 r_1 rfl k_0 r_0
theorem tr_SameType_k.step_l0_1000000 (go : (p : tr_SameType_k.Pt) → Option (Bool)) (ih : ∀ p r, go p = some r → tr_SameType_k.I p r) (a_1 a_15 x_16 x_17) (r) (e : tr_SameType_k.body go (.l0_1000000 a_1 a_15 x_16 x_17) = some r) : tr_SameType_k.I (.l0_1000000 a_1 a_15 x_16 x_17) r := by
 unfold tr_SameType_k.body at e
 intro W h0 m0 h m A_1 n_1 c_1 A_15 n_15 c_15 O ne_1 k_1 r_1 ne_15 k_15 r_15
 subst ne_1
 subst ne_15
 refine f45.l0_in ?_
 unfold f45.l0T
 refine split_dec_e e (fun c35 e => ?_) (fun c35 e => ?_)
 · obtain ⟨y1, g2, e⟩ := bind_e e
   refine r_15.addr rfl g2 fun a3 cs4 ha5 hc6 he7 => ?_
   refine ⟨_, ldAn O.s hc6 rfl, ?_⟩
   refine O.new fun h8 x9 O10 => ?_
   refine ⟨_, rfl, (T_Type.T.len _ _ _ he7), ?_⟩
   refine O10.stA 0 rfl (T_Type.T.len _ _ _ he7) (T_Type.T.flat _ _ _ he7) fun h12 O13 => ?_
   obtain ⟨y14, g15, e⟩ := bind_e e
   refine r_1.addr rfl g15 fun a16 cs17 ha18 hc19 he20 => ?_
   refine ⟨_, ldAn O13.s hc19 rfl, ?_⟩
   refine O13.new fun h21 x22 O23 => ?_
   refine ⟨_, rfl, (T_Type.T.len _ _ _ he20), ?_⟩
   refine O23.stA 1 rfl (T_Type.T.len _ _ _ he20) (T_Type.T.flat _ _ _ he20) fun h25 O26 => ?_
   refine ⟨_, ldAn (Sub.refl _) (O26.all 0 rfl) (T_Type.T.len _ _ _ he7), ?_⟩
   refine ⟨_, ldAn (Sub.refl _) (O26.all 1 rfl) (T_Type.T.len _ _ _ he20), ?_⟩
   obtain ⟨y27, g28, e⟩ := bind_e e
   refine CallF.of [(Value.agg (List.toArray cs4)), (Value.agg (List.toArray cs17))] f46.ok rfl ?_
   refine ((ih _ _ g28) (Hold.start (W := No) O26.s) he7 he20).mono ?_
   rintro _ h29 ⟨m30, Q31, rfl⟩
   have O33 := Hold.nm (O26.retC Q31 vfs_nil)
   refine ⟨_, rfl, ?_⟩
   refine split_not ?_
   refine split_any_e e (fun c34 e => ?_) (fun c34 e => ?_)
   · exact (ih _ _ e) (O33.pick []).nm rfl k_1 r_1 rfl k_15 r_15
   · cases e
     exact ⟨_, O33.pick [], rfl⟩
 · cases e
   exact ⟨_, O.pick [], rfl⟩
theorem tr_SameType_k.all {p : tr_SameType_k.Pt} {r : (Bool)} (e : tr_SameType_k.go p = some r) : tr_SameType_k.I p r := fixF_ind (β := fun _ => (Bool)) tr_SameType_k.mono (I := tr_SameType_k.I) (fun go ih p r e => match p with
 | .f_46 y_0 y_1 => tr_SameType_k.step_f_46 go ih y_0 y_1 r e
 | .f_1000000 a_0 a_1 => tr_SameType_k.step_f_1000000 go ih a_0 a_1 r e
 | .l0_1000000 a_1 a_15 x_16 x_17 => tr_SameType_k.step_l0_1000000 go ih a_1 a_15 x_16 x_17 r e
 ) e
theorem sEF_45_s1.walk {W h m A_0 n_0 c_0 A_1 n_1 c_1 a_0 a_1} (O : Hold W h m h m []) (ne_0 : n_0 = List.length a_0) (k_0 : List.length a_0 ≤ c_0) (r_0 : Rd 3 T_Type.E m A_0 a_0) (ne_1 : n_1 = List.length a_1) (k_1 : List.length a_1 ≤ c_1) (r_1 : Rd 3 T_Type.E m A_1 a_1) {r} (e : sEF_45_s1 a_0 a_1 = some r) : Run Tryz.prog 45 #[Value.slice A_0 n_0 c_0, Value.slice A_1 n_1 c_1, (Value.func (.func 46) #[] #[])] h (sEF_45_s1.post W h m r) := tr_SameType_k.all (p := .f_1000000 a_0 a_1) e O ne_0 k_0 r_0 ne_1 k_1 r_1
def sEF_87_s2.post (W : Nat → Prop) (h0 m0 : Heap) (r : Bool) (v : Value) (h : Heap) : Prop := ∃ m , Hold W h0 m0 h m [] ∧ v = .bool r
def tr_SamePat.post (W : Nat → Prop) (h0 m0 : Heap) (r : Bool) (v : Value) (h : Heap) : Prop := ∃ m , Hold W h0 m0 h m [] ∧ v = .bool r
inductive tr_SamePat_k.Pt where
 | f_68 (y_0 : T_Pat) (y_1 : T_Pat)
 | f_1000001 (a_0 : List T_Pat) (a_1 : List T_Pat)
 | l0_1000001 (a_1 : List T_Pat) (a_15 : List T_Pat) (x_16 : Int) (x_17 : Int)
noncomputable def tr_SamePat_k.body (go : (p : tr_SamePat_k.Pt) → Option (Bool)) : (p : tr_SamePat_k.Pt) → Option (Bool)
 | .f_68 y_0 y_1 => if y_0.Kind = y_1.Kind then (if y_0.Num = y_1.Num then (if y_0.Text = y_1.Text then (Option.bind ((go (.f_1000001 y_0.Args y_1.Args))) fun y19 => some (y19)) else (some (false))) else (some (false))) else (some (false))
 | .f_1000001 a_0 a_1 => if (((List.length a_0) : Nat) : Int) = (((List.length a_1) : Nat) : Int) then ((go (.l0_1000001 a_1 a_0 (((List.length a_0) : Nat) : Int) (0 : Int)))) else (some (false))
 | .l0_1000001 a_1 a_15 x_16 x_17 => if x_17 < x_16 then (Option.bind (gi a_15 x_17) fun y1 => Option.bind (gi a_1 x_17) fun y14 => Option.bind ((go (.f_68 y1 y14))) fun y27 => if y27 = true then ((go (.l0_1000001 a_1 a_15 x_16 (IntKind.wrap .i64 (x_17 + (1 : Int)))))) else (some (false))) else (some (true))
theorem tr_SamePat_k.mono : MonoF (β := fun _ => (Bool)) tr_SamePat_k.body := fun f g hfg p => match p with
 | .f_68 y_0 y_1 => LeO.ite (LeO.ite (LeO.ite (LeO.bind ((hfg _)) fun y19 => LeO.refl _) (LeO.refl _)) (LeO.refl _)) (LeO.refl _)
 | .f_1000001 a_0 a_1 => LeO.ite ((hfg _)) (LeO.refl _)
 | .l0_1000001 a_1 a_15 x_16 x_17 => LeO.ite (LeO.bind (LeO.refl _) fun y1 => LeO.bind (LeO.refl _) fun y14 => LeO.bind ((hfg _)) fun y27 => LeO.ite ((hfg _)) (LeO.refl _)) (LeO.refl _)
noncomputable def tr_SamePat_k.go (p : tr_SamePat_k.Pt) : Option (Bool) := fixF (β := fun _ => (Bool)) tr_SamePat_k.body p
noncomputable def tr_SamePat (y_0 y_1) := tr_SamePat_k.go (.f_68 y_0 y_1)
noncomputable def sEF_87_s2 (a_0 a_1) := tr_SamePat_k.go (.f_1000001 a_0 a_1)
def tr_SamePat_k.I : (p : tr_SamePat_k.Pt) → (Bool) → Prop
 | .f_68 y_0 y_1, r => ∀ {W h m cs_0 cs_1} (O : Hold W h m h m []) (e_0 : T_Pat.E m y_0 cs_0) (e_1 : T_Pat.E m y_1 cs_1), Run Tryz.prog 68 #[Value.agg cs_0.toArray, Value.agg cs_1.toArray] h (tr_SamePat.post W h m r)
 | .f_1000001 a_0 a_1, r => ∀ {W h m A_0 n_0 c_0 A_1 n_1 c_1} (O : Hold W h m h m []) (ne_0 : n_0 = List.length a_0) (k_0 : List.length a_0 ≤ c_0) (r_0 : Rd 4 T_Pat.E m A_0 a_0) (ne_1 : n_1 = List.length a_1) (k_1 : List.length a_1 ≤ c_1) (r_1 : Rd 4 T_Pat.E m A_1 a_1), Run Tryz.prog 87 #[Value.slice A_0 n_0 c_0, Value.slice A_1 n_1 c_1, (Value.func (.func 68) #[] #[])] h (sEF_87_s2.post W h m r)
 | .l0_1000001 a_1 a_15 x_16 x_17, r => ∀ {W h0 m0 h m A_1 n_1 c_1 A_15 n_15 c_15} (O : Hold W h0 m0 h m []) (ne_1 : n_1 = List.length a_1) (k_1 : List.length a_1 ≤ c_1) (r_1 : Rd 4 T_Pat.E m A_1 a_1) (ne_15 : n_15 = List.length a_15) (k_15 : List.length a_15 ≤ c_15) (r_15 : Rd 4 T_Pat.E m A_15 a_15), f87.l0 (sEF_87_s2.post W h0 m0 r) A_1 n_1 c_1 (Value.func (.func 68) #[] #[]) A_15 n_15 c_15 x_16 x_17 h
set_option maxHeartbeats 4000000 in
theorem tr_SamePat_k.step_f_68 (go : (p : tr_SamePat_k.Pt) → Option (Bool)) (ih : ∀ p r, go p = some r → tr_SamePat_k.I p r) (y_0 y_1) (r) (e : tr_SamePat_k.body go (.f_68 y_0 y_1) = some r) : tr_SamePat_k.I (.f_68 y_0 y_1) r := by
 unfold tr_SamePat_k.body at e
 intro W h m cs_0 cs_1 O e_0 e_1
 refine f68.run ?_
 unfold f68.runT
 refine O.new fun h1 x2 O3 => ?_
 refine O3.new fun h5 x6 O7 => ?_
 refine ⟨_, ld0 (Sub.refl _) (O7.all 0 rfl) (T_Pat.g0 e_0), _, rfl, ?_⟩
 refine ⟨_, ld0 (Sub.refl _) (O7.all 1 rfl) (T_Pat.g0 e_1), _, rfl, ?_⟩
 refine split_eq_e e (fun c31 e => ?_) (fun c31 e => ?_)
 · refine ⟨_, ldk (k := 1) (Sub.refl _) (O7.all 0 rfl) (T_Pat.g1 e_0), _, rfl, ?_⟩
   refine ⟨_, ldk (k := 1) (Sub.refl _) (O7.all 1 rfl) (T_Pat.g1 e_1), _, rfl, ?_⟩
   refine split_eq_e e (fun c29 e => ?_) (fun c29 e => ?_)
   · refine ⟨_, ldk (k := 2) (Sub.refl _) (O7.all 0 rfl) (T_Pat.g2 e_0), _, rfl, ?_⟩
     refine ⟨_, ldk (k := 2) (Sub.refl _) (O7.all 1 rfl) (T_Pat.g2 e_1), _, rfl, ?_⟩
     try rw [ba_list y_0.Text y_1.Text]
     refine split_dec_e e (fun c27 e => ?_) (fun c27 e => ?_)
     · obtain ⟨A9, c10, q11, k12, r13⟩ := T_Pat.g3 e_0
       refine ⟨_, ldk (k := 3) (Sub.refl _) (O7.all 0 rfl) q11, _, _, _, rfl, ?_⟩
       obtain ⟨A14, c15, q16, k17, r18⟩ := T_Pat.g3 e_1
       refine ⟨_, ldk (k := 3) (Sub.refl _) (O7.all 1 rfl) q16, _, _, _, rfl, ?_⟩
       obtain ⟨y19, g20, e⟩ := bind_e e
       refine ((ih _ _ g20) (Hold.start (W := No) O7.s) rfl k12 r13 rfl k17 r18).mono ?_
       rintro _ h21 ⟨m22, Q23, rfl⟩
       have O25 := Hold.nm (O7.retC Q23 vfs_nil)
       refine ⟨_, rfl, ?_⟩
       cases e
       exact ⟨_, O25.pick [], rfl⟩
     · have O26 := O7.nm
       cases e
       exact ⟨_, O26.pick [], rfl⟩
   · have O28 := O7.nm
     cases e
     exact ⟨_, O28.pick [], rfl⟩
 · have O30 := O7.nm
   cases e
   exact ⟨_, O30.pick [], rfl⟩
theorem tr_SamePat_k.step_f_1000001 (go : (p : tr_SamePat_k.Pt) → Option (Bool)) (ih : ∀ p r, go p = some r → tr_SamePat_k.I p r) (a_0 a_1) (r) (e : tr_SamePat_k.body go (.f_1000001 a_0 a_1) = some r) : tr_SamePat_k.I (.f_1000001 a_0 a_1) r := by
 unfold tr_SamePat_k.body at e
 intro W h m A_0 n_0 c_0 A_1 n_1 c_1 O ne_0 k_0 r_0 ne_1 k_1 r_1
 subst ne_0
 subst ne_1
 refine f87.run ?_
 unfold f87.runT
 refine split_ne_e e (fun c1 e => ?_) (fun c1 e => ?_)
 · cases e
   exact ⟨_, O.pick [], rfl⟩
 · exact (ih _ _ e) (O.pick []).nm rfl k_1 r_1 rfl k_0 r_0
theorem tr_SamePat_k.step_l0_1000001 (go : (p : tr_SamePat_k.Pt) → Option (Bool)) (ih : ∀ p r, go p = some r → tr_SamePat_k.I p r) (a_1 a_15 x_16 x_17) (r) (e : tr_SamePat_k.body go (.l0_1000001 a_1 a_15 x_16 x_17) = some r) : tr_SamePat_k.I (.l0_1000001 a_1 a_15 x_16 x_17) r := by
 unfold tr_SamePat_k.body at e
 intro W h0 m0 h m A_1 n_1 c_1 A_15 n_15 c_15 O ne_1 k_1 r_1 ne_15 k_15 r_15
 subst ne_1
 subst ne_15
 refine f87.l0_in ?_
 unfold f87.l0T
 refine split_dec_e e (fun c35 e => ?_) (fun c35 e => ?_)
 · obtain ⟨y1, g2, e⟩ := bind_e e
   refine r_15.addr rfl g2 fun a3 cs4 ha5 hc6 he7 => ?_
   refine ⟨_, ldAn O.s hc6 rfl, ?_⟩
   refine O.new fun h8 x9 O10 => ?_
   refine ⟨_, rfl, (T_Pat.T.len _ _ _ he7), ?_⟩
   refine O10.stA 0 rfl (T_Pat.T.len _ _ _ he7) (T_Pat.T.flat _ _ _ he7) fun h12 O13 => ?_
   obtain ⟨y14, g15, e⟩ := bind_e e
   refine r_1.addr rfl g15 fun a16 cs17 ha18 hc19 he20 => ?_
   refine ⟨_, ldAn O13.s hc19 rfl, ?_⟩
   refine O13.new fun h21 x22 O23 => ?_
   refine ⟨_, rfl, (T_Pat.T.len _ _ _ he20), ?_⟩
   refine O23.stA 1 rfl (T_Pat.T.len _ _ _ he20) (T_Pat.T.flat _ _ _ he20) fun h25 O26 => ?_
   refine ⟨_, ldAn (Sub.refl _) (O26.all 0 rfl) (T_Pat.T.len _ _ _ he7), ?_⟩
   refine ⟨_, ldAn (Sub.refl _) (O26.all 1 rfl) (T_Pat.T.len _ _ _ he20), ?_⟩
   obtain ⟨y27, g28, e⟩ := bind_e e
   refine CallF.of [(Value.agg (List.toArray cs4)), (Value.agg (List.toArray cs17))] f68.ok rfl ?_
   refine ((ih _ _ g28) (Hold.start (W := No) O26.s) he7 he20).mono ?_
   rintro _ h29 ⟨m30, Q31, rfl⟩
   have O33 := Hold.nm (O26.retC Q31 vfs_nil)
   refine ⟨_, rfl, ?_⟩
   refine split_not ?_
   refine split_any_e e (fun c34 e => ?_) (fun c34 e => ?_)
   · exact (ih _ _ e) (O33.pick []).nm rfl k_1 r_1 rfl k_15 r_15
   · cases e
     exact ⟨_, O33.pick [], rfl⟩
 · cases e
   exact ⟨_, O.pick [], rfl⟩
theorem tr_SamePat_k.all {p : tr_SamePat_k.Pt} {r : (Bool)} (e : tr_SamePat_k.go p = some r) : tr_SamePat_k.I p r := fixF_ind (β := fun _ => (Bool)) tr_SamePat_k.mono (I := tr_SamePat_k.I) (fun go ih p r e => match p with
 | .f_68 y_0 y_1 => tr_SamePat_k.step_f_68 go ih y_0 y_1 r e
 | .f_1000001 a_0 a_1 => tr_SamePat_k.step_f_1000001 go ih a_0 a_1 r e
 | .l0_1000001 a_1 a_15 x_16 x_17 => tr_SamePat_k.step_l0_1000001 go ih a_1 a_15 x_16 x_17 r e
 ) e
theorem tr_SamePat.walk {W h m cs_0 cs_1 y_0 y_1} (O : Hold W h m h m []) (e_0 : T_Pat.E m y_0 cs_0) (e_1 : T_Pat.E m y_1 cs_1) {r} (e : tr_SamePat y_0 y_1 = some r) : Run Tryz.prog 68 #[Value.agg cs_0.toArray, Value.agg cs_1.toArray] h (tr_SamePat.post W h m r) := tr_SamePat_k.all (p := .f_68 y_0 y_1) e O e_0 e_1
def sEF_48_s4.post (W : Nat → Prop) (h0 m0 : Heap) (r : Bool) (v : Value) (h : Heap) : Prop := ∃ m , Hold W h0 m0 h m [] ∧ v = .bool r
def sEF_47_s3.post (W : Nat → Prop) (h0 m0 : Heap) (r : Bool) (v : Value) (h : Heap) : Prop := ∃ m , Hold W h0 m0 h m [] ∧ v = .bool r
def tr_sameArm.post (W : Nat → Prop) (h0 m0 : Heap) (r : Bool) (v : Value) (h : Heap) : Prop := ∃ m , Hold W h0 m0 h m [] ∧ v = .bool r
def tr_SameExpr.post (W : Nat → Prop) (h0 m0 : Heap) (r : Bool) (v : Value) (h : Heap) : Prop := ∃ m , Hold W h0 m0 h m [] ∧ v = .bool r
inductive tr_SameExpr_k.Pt where
 | f_29 (y_0 : T_Expr) (y_1 : T_Expr)
 | f_49 (y_0 : T_Arm) (y_1 : T_Arm)
 | f_1000002 (a_0 : List T_Expr) (a_1 : List T_Expr)
 | l0_1000002 (a_1 : List T_Expr) (a_15 : List T_Expr) (x_16 : Int) (x_17 : Int)
 | f_1000003 (a_0 : List T_Arm) (a_1 : List T_Arm)
 | l0_1000003 (a_1 : List T_Arm) (a_15 : List T_Arm) (x_16 : Int) (x_17 : Int)
noncomputable def tr_SameExpr_k.body (go : (p : tr_SameExpr_k.Pt) → Option (Bool)) : (p : tr_SameExpr_k.Pt) → Option (Bool)
 | .f_29 y_0 y_1 => if y_0.Kind = y_1.Kind then (if y_0.Num = y_1.Num then (if y_0.Text = y_1.Text then (Option.bind (slices_Equal_44 y_0.Names y_1.Names) fun y19 => if y19 = true then (Option.bind (sEF_45_s1 y_0.Types y_1.Types) fun y36 => if y36 = true then (Option.bind ((go (.f_1000002 y_0.Args y_1.Args))) fun y53 => if y53 = true then (Option.bind ((go (.f_1000003 y_0.Arms y_1.Arms))) fun y70 => some (y70)) else (some (false))) else (some (false))) else (some (false))) else (some (false))) else (some (false))) else (some (false))
 | .f_49 y_0 y_1 => Option.bind (tr_SamePat y_0.Pat y_1.Pat) fun y9 => if y9 = true then (Option.bind ((go (.f_29 y_0.Body y_1.Body))) fun y16 => some (y16)) else (some (false))
 | .f_1000002 a_0 a_1 => if (((List.length a_0) : Nat) : Int) = (((List.length a_1) : Nat) : Int) then ((go (.l0_1000002 a_1 a_0 (((List.length a_0) : Nat) : Int) (0 : Int)))) else (some (false))
 | .l0_1000002 a_1 a_15 x_16 x_17 => if x_17 < x_16 then (Option.bind (gi a_15 x_17) fun y1 => Option.bind (gi a_1 x_17) fun y14 => Option.bind ((go (.f_29 y1 y14))) fun y27 => if y27 = true then ((go (.l0_1000002 a_1 a_15 x_16 (IntKind.wrap .i64 (x_17 + (1 : Int)))))) else (some (false))) else (some (true))
 | .f_1000003 a_0 a_1 => if (((List.length a_0) : Nat) : Int) = (((List.length a_1) : Nat) : Int) then ((go (.l0_1000003 a_1 a_0 (((List.length a_0) : Nat) : Int) (0 : Int)))) else (some (false))
 | .l0_1000003 a_1 a_15 x_16 x_17 => if x_17 < x_16 then (Option.bind (gi a_15 x_17) fun y1 => Option.bind (gi a_1 x_17) fun y14 => Option.bind ((go (.f_49 y1 y14))) fun y27 => if y27 = true then ((go (.l0_1000003 a_1 a_15 x_16 (IntKind.wrap .i64 (x_17 + (1 : Int)))))) else (some (false))) else (some (true))
theorem tr_SameExpr_k.mono : MonoF (β := fun _ => (Bool)) tr_SameExpr_k.body := fun f g hfg p => match p with
 | .f_29 y_0 y_1 => LeO.ite (LeO.ite (LeO.ite (LeO.bind (LeO.refl _) fun y19 => LeO.ite (LeO.bind (LeO.refl _) fun y36 => LeO.ite (LeO.bind ((hfg _)) fun y53 => LeO.ite (LeO.bind ((hfg _)) fun y70 => LeO.refl _) (LeO.refl _)) (LeO.refl _)) (LeO.refl _)) (LeO.refl _)) (LeO.refl _)) (LeO.refl _)
 | .f_49 y_0 y_1 => LeO.bind (LeO.refl _) fun y9 => LeO.ite (LeO.bind ((hfg _)) fun y16 => LeO.refl _) (LeO.refl _)
 | .f_1000002 a_0 a_1 => LeO.ite ((hfg _)) (LeO.refl _)
 | .l0_1000002 a_1 a_15 x_16 x_17 => LeO.ite (LeO.bind (LeO.refl _) fun y1 => LeO.bind (LeO.refl _) fun y14 => LeO.bind ((hfg _)) fun y27 => LeO.ite ((hfg _)) (LeO.refl _)) (LeO.refl _)
 | .f_1000003 a_0 a_1 => LeO.ite ((hfg _)) (LeO.refl _)
 | .l0_1000003 a_1 a_15 x_16 x_17 => LeO.ite (LeO.bind (LeO.refl _) fun y1 => LeO.bind (LeO.refl _) fun y14 => LeO.bind ((hfg _)) fun y27 => LeO.ite ((hfg _)) (LeO.refl _)) (LeO.refl _)
noncomputable def tr_SameExpr_k.go (p : tr_SameExpr_k.Pt) : Option (Bool) := fixF (β := fun _ => (Bool)) tr_SameExpr_k.body p
noncomputable def tr_SameExpr (y_0 y_1) := tr_SameExpr_k.go (.f_29 y_0 y_1)
noncomputable def tr_sameArm (y_0 y_1) := tr_SameExpr_k.go (.f_49 y_0 y_1)
noncomputable def sEF_47_s3 (a_0 a_1) := tr_SameExpr_k.go (.f_1000002 a_0 a_1)
noncomputable def sEF_47_s3.l0 (a_1 a_15 x_16 x_17) := tr_SameExpr_k.go (.l0_1000002 a_1 a_15 x_16 x_17)
noncomputable def sEF_48_s4 (a_0 a_1) := tr_SameExpr_k.go (.f_1000003 a_0 a_1)
noncomputable def sEF_48_s4.l0 (a_1 a_15 x_16 x_17) := tr_SameExpr_k.go (.l0_1000003 a_1 a_15 x_16 x_17)
theorem tr_SameExpr_eq (y_0 y_1) : tr_SameExpr y_0 y_1 = if y_0.Kind = y_1.Kind then (if y_0.Num = y_1.Num then (if y_0.Text = y_1.Text then (Option.bind (slices_Equal_44 y_0.Names y_1.Names) fun y19 => if y19 = true then (Option.bind (sEF_45_s1 y_0.Types y_1.Types) fun y36 => if y36 = true then (Option.bind ((sEF_47_s3 y_0.Args y_1.Args)) fun y53 => if y53 = true then (Option.bind ((sEF_48_s4 y_0.Arms y_1.Arms)) fun y70 => some (y70)) else (some (false))) else (some (false))) else (some (false))) else (some (false))) else (some (false))) else (some (false)) := fixF_eq tr_SameExpr_k.mono _
theorem sEF_47_s3_eq (a_0 a_1) : sEF_47_s3 a_0 a_1 = if (((List.length a_0) : Nat) : Int) = (((List.length a_1) : Nat) : Int) then ((sEF_47_s3.l0 a_1 a_0 (((List.length a_0) : Nat) : Int) (0 : Int))) else (some (false)) := fixF_eq tr_SameExpr_k.mono _
theorem sEF_47_s3.l0_eq (a_1 a_15 x_16 x_17) : sEF_47_s3.l0 a_1 a_15 x_16 x_17 = if x_17 < x_16 then (Option.bind (gi a_15 x_17) fun y1 => Option.bind (gi a_1 x_17) fun y14 => Option.bind ((tr_SameExpr y1 y14)) fun y27 => if y27 = true then ((sEF_47_s3.l0 a_1 a_15 x_16 (IntKind.wrap .i64 (x_17 + (1 : Int))))) else (some (false))) else (some (true)) := fixF_eq tr_SameExpr_k.mono _
theorem sEF_48_s4_eq (a_0 a_1) : sEF_48_s4 a_0 a_1 = if (((List.length a_0) : Nat) : Int) = (((List.length a_1) : Nat) : Int) then ((sEF_48_s4.l0 a_1 a_0 (((List.length a_0) : Nat) : Int) (0 : Int))) else (some (false)) := fixF_eq tr_SameExpr_k.mono _
theorem sEF_48_s4.l0_eq (a_1 a_15 x_16 x_17) : sEF_48_s4.l0 a_1 a_15 x_16 x_17 = if x_17 < x_16 then (Option.bind (gi a_15 x_17) fun y1 => Option.bind (gi a_1 x_17) fun y14 => Option.bind ((tr_sameArm y1 y14)) fun y27 => if y27 = true then ((sEF_48_s4.l0 a_1 a_15 x_16 (IntKind.wrap .i64 (x_17 + (1 : Int))))) else (some (false))) else (some (true)) := fixF_eq tr_SameExpr_k.mono _
def tr_SameExpr_k.I : (p : tr_SameExpr_k.Pt) → (Bool) → Prop
 | .f_29 y_0 y_1, r => ∀ {W h m cs_0 cs_1} (O : Hold W h m h m []) (e_0 : T_Expr.E m y_0 cs_0) (e_1 : T_Expr.E m y_1 cs_1), Run Tryz.prog 29 #[Value.agg cs_0.toArray, Value.agg cs_1.toArray] h (tr_SameExpr.post W h m r)
 | .f_49 y_0 y_1, r => ∀ {W h m cs_0 cs_1} (O : Hold W h m h m []) (e_0 : T_Arm.E m y_0 cs_0) (e_1 : T_Arm.E m y_1 cs_1), Run Tryz.prog 49 #[Value.agg cs_0.toArray, Value.agg cs_1.toArray] h (tr_sameArm.post W h m r)
 | .f_1000002 a_0 a_1, r => ∀ {W h m A_0 n_0 c_0 A_1 n_1 c_1} (O : Hold W h m h m []) (ne_0 : n_0 = List.length a_0) (k_0 : List.length a_0 ≤ c_0) (r_0 : Rd 8 T_Expr.E m A_0 a_0) (ne_1 : n_1 = List.length a_1) (k_1 : List.length a_1 ≤ c_1) (r_1 : Rd 8 T_Expr.E m A_1 a_1), Run Tryz.prog 47 #[Value.slice A_0 n_0 c_0, Value.slice A_1 n_1 c_1, (Value.func (.func 29) #[] #[])] h (sEF_47_s3.post W h m r)
 | .l0_1000002 a_1 a_15 x_16 x_17, r => ∀ {W h0 m0 h m A_1 n_1 c_1 A_15 n_15 c_15} (O : Hold W h0 m0 h m []) (ne_1 : n_1 = List.length a_1) (k_1 : List.length a_1 ≤ c_1) (r_1 : Rd 8 T_Expr.E m A_1 a_1) (ne_15 : n_15 = List.length a_15) (k_15 : List.length a_15 ≤ c_15) (r_15 : Rd 8 T_Expr.E m A_15 a_15), f47.l0 (sEF_47_s3.post W h0 m0 r) A_1 n_1 c_1 (Value.func (.func 29) #[] #[]) A_15 n_15 c_15 x_16 x_17 h
 | .f_1000003 a_0 a_1, r => ∀ {W h m A_0 n_0 c_0 A_1 n_1 c_1} (O : Hold W h m h m []) (ne_0 : n_0 = List.length a_0) (k_0 : List.length a_0 ≤ c_0) (r_0 : Rd 12 T_Arm.E m A_0 a_0) (ne_1 : n_1 = List.length a_1) (k_1 : List.length a_1 ≤ c_1) (r_1 : Rd 12 T_Arm.E m A_1 a_1), Run Tryz.prog 48 #[Value.slice A_0 n_0 c_0, Value.slice A_1 n_1 c_1, (Value.func (.func 49) #[] #[])] h (sEF_48_s4.post W h m r)
 | .l0_1000003 a_1 a_15 x_16 x_17, r => ∀ {W h0 m0 h m A_1 n_1 c_1 A_15 n_15 c_15} (O : Hold W h0 m0 h m []) (ne_1 : n_1 = List.length a_1) (k_1 : List.length a_1 ≤ c_1) (r_1 : Rd 12 T_Arm.E m A_1 a_1) (ne_15 : n_15 = List.length a_15) (k_15 : List.length a_15 ≤ c_15) (r_15 : Rd 12 T_Arm.E m A_15 a_15), f48.l0 (sEF_48_s4.post W h0 m0 r) A_1 n_1 c_1 (Value.func (.func 49) #[] #[]) A_15 n_15 c_15 x_16 x_17 h
set_option maxHeartbeats 4000000 in
theorem tr_SameExpr_k.step_f_29 (go : (p : tr_SameExpr_k.Pt) → Option (Bool)) (ih : ∀ p r, go p = some r → tr_SameExpr_k.I p r) (y_0 y_1) (r) (e : tr_SameExpr_k.body go (.f_29 y_0 y_1) = some r) : tr_SameExpr_k.I (.f_29 y_0 y_1) r := by
 unfold tr_SameExpr_k.body at e
 intro W h m cs_0 cs_1 O e_0 e_1
 refine f29.run ?_
 unfold f29.runT
 refine O.new fun h1 x2 O3 => ?_
 refine O3.new fun h5 x6 O7 => ?_
 refine ⟨_, ld0 (Sub.refl _) (O7.all 0 rfl) (T_Expr.g0 e_0), _, rfl, ?_⟩
 refine ⟨_, ld0 (Sub.refl _) (O7.all 1 rfl) (T_Expr.g0 e_1), _, rfl, ?_⟩
 refine split_eq_e e (fun c85 e => ?_) (fun c85 e => ?_)
 · refine ⟨_, ldk (k := 1) (Sub.refl _) (O7.all 0 rfl) (T_Expr.g1 e_0), _, rfl, ?_⟩
   refine ⟨_, ldk (k := 1) (Sub.refl _) (O7.all 1 rfl) (T_Expr.g1 e_1), _, rfl, ?_⟩
   refine split_eq_e e (fun c83 e => ?_) (fun c83 e => ?_)
   · refine ⟨_, ldk (k := 2) (Sub.refl _) (O7.all 0 rfl) (T_Expr.g2 e_0), _, rfl, ?_⟩
     refine ⟨_, ldk (k := 2) (Sub.refl _) (O7.all 1 rfl) (T_Expr.g2 e_1), _, rfl, ?_⟩
     try rw [ba_list y_0.Text y_1.Text]
     refine split_dec_e e (fun c81 e => ?_) (fun c81 e => ?_)
     · obtain ⟨A9, c10, q11, k12, r13⟩ := T_Expr.g3 e_0
       refine ⟨_, ldk (k := 3) (Sub.refl _) (O7.all 0 rfl) q11, _, _, _, rfl, ?_⟩
       obtain ⟨A14, c15, q16, k17, r18⟩ := T_Expr.g3 e_1
       refine ⟨_, ldk (k := 3) (Sub.refl _) (O7.all 1 rfl) q16, _, _, _, rfl, ?_⟩
       obtain ⟨y19, g20, e⟩ := bind_e e
       refine (slices_Equal_44.walk (Hold.start (W := No) O7.s) rfl k12 r13 rfl k17 r18 g20).mono ?_
       rintro _ h21 ⟨m22, Q23, rfl⟩
       have O25 := Hold.nm (O7.retC Q23 vfs_nil)
       refine ⟨_, rfl, ?_⟩
       refine split_any_e e (fun c79 e => ?_) (fun c79 e => ?_)
       · obtain ⟨A26, c27, q28, k29, r30⟩ := T_Expr.g4 e_0
         refine ⟨_, ldk (k := 4) (Sub.refl _) (O25.all 0 rfl) q28, _, _, _, rfl, ?_⟩
         obtain ⟨A31, c32, q33, k34, r35⟩ := T_Expr.g4 e_1
         refine ⟨_, ldk (k := 4) (Sub.refl _) (O25.all 1 rfl) q33, _, _, _, rfl, ?_⟩
         obtain ⟨y36, g37, e⟩ := bind_e e
         refine (sEF_45_s1.walk (Hold.start (W := No) O25.s) rfl k29 r30 rfl k34 r35 g37).mono ?_
         rintro _ h38 ⟨m39, Q40, rfl⟩
         have O42 := Hold.nm (O25.retC Q40 vfs_nil)
         refine ⟨_, rfl, ?_⟩
         refine split_any_e e (fun c78 e => ?_) (fun c78 e => ?_)
         · obtain ⟨A43, c44, q45, k46, r47⟩ := T_Expr.g5 e_0
           refine ⟨_, ldk (k := 5) (Sub.refl _) (O42.all 0 rfl) q45, _, _, _, rfl, ?_⟩
           obtain ⟨A48, c49, q50, k51, r52⟩ := T_Expr.g5 e_1
           refine ⟨_, ldk (k := 5) (Sub.refl _) (O42.all 1 rfl) q50, _, _, _, rfl, ?_⟩
           obtain ⟨y53, g54, e⟩ := bind_e e
           refine ((ih _ _ g54) (Hold.start (W := No) O42.s) rfl k46 r47 rfl k51 r52).mono ?_
           rintro _ h55 ⟨m56, Q57, rfl⟩
           have O59 := Hold.nm (O42.retC Q57 vfs_nil)
           refine ⟨_, rfl, ?_⟩
           refine split_any_e e (fun c77 e => ?_) (fun c77 e => ?_)
           · obtain ⟨A60, c61, q62, k63, r64⟩ := T_Expr.g6 e_0
             refine ⟨_, ldk (k := 6) (Sub.refl _) (O59.all 0 rfl) q62, _, _, _, rfl, ?_⟩
             obtain ⟨A65, c66, q67, k68, r69⟩ := T_Expr.g6 e_1
             refine ⟨_, ldk (k := 6) (Sub.refl _) (O59.all 1 rfl) q67, _, _, _, rfl, ?_⟩
             obtain ⟨y70, g71, e⟩ := bind_e e
             refine ((ih _ _ g71) (Hold.start (W := No) O59.s) rfl k63 r64 rfl k68 r69).mono ?_
             rintro _ h72 ⟨m73, Q74, rfl⟩
             have O76 := Hold.nm (O59.retC Q74 vfs_nil)
             refine ⟨_, rfl, ?_⟩
             cases e
             exact ⟨_, O76.pick [], rfl⟩
           · cases e
             exact ⟨_, O59.pick [], rfl⟩
         · cases e
           exact ⟨_, O42.pick [], rfl⟩
       · cases e
         exact ⟨_, O25.pick [], rfl⟩
     · have O80 := O7.nm
       cases e
       exact ⟨_, O80.pick [], rfl⟩
   · have O82 := O7.nm
     cases e
     exact ⟨_, O82.pick [], rfl⟩
 · have O84 := O7.nm
   cases e
   exact ⟨_, O84.pick [], rfl⟩
theorem tr_SameExpr_k.step_f_49 (go : (p : tr_SameExpr_k.Pt) → Option (Bool)) (ih : ∀ p r, go p = some r → tr_SameExpr_k.I p r) (y_0 y_1) (r) (e : tr_SameExpr_k.body go (.f_49 y_0 y_1) = some r) : tr_SameExpr_k.I (.f_49 y_0 y_1) r := by
 unfold tr_SameExpr_k.body at e
 intro W h m cs_0 cs_1 O e_0 e_1
 refine f49.run ?_
 unfold f49.runT
 refine O.new fun h1 x2 O3 => ?_
 refine O3.new fun h5 x6 O7 => ?_
 refine ⟨_, ldA0n (Sub.refl _) (O7.all 0 rfl) 4 (le_len (T_Arm.T.len _ _ _ e_0) (by decide)), ?_⟩
 refine ⟨_, ldA0n (Sub.refl _) (O7.all 1 rfl) 4 (le_len (T_Arm.T.len _ _ _ e_1) (by decide)), ?_⟩
 obtain ⟨y9, g10, e⟩ := bind_e e
 refine (tr_SamePat.walk (Hold.start (W := No) O7.s) (T_Arm.u0_95 e_0) (T_Arm.u0_95 e_1) g10).mono ?_
 rintro _ h11 ⟨m12, Q13, rfl⟩
 have O15 := Hold.nm (O7.retC Q13 vfs_nil)
 refine ⟨_, rfl, ?_⟩
 refine split_any_e e (fun c23 e => ?_) (fun c23 e => ?_)
 · refine ⟨_, ldAkn (Sub.refl _) (O15.all 0 rfl) 4 8 (le_len (T_Arm.T.len _ _ _ e_0) (by decide)), ?_⟩
   refine ⟨_, ldAkn (Sub.refl _) (O15.all 1 rfl) 4 8 (le_len (T_Arm.T.len _ _ _ e_1) (by decide)), ?_⟩
   obtain ⟨y16, g17, e⟩ := bind_e e
   refine ((ih _ _ g17) (Hold.start (W := No) O15.s) (T_Arm.u4_48 e_0) (T_Arm.u4_48 e_1)).mono ?_
   rintro _ h18 ⟨m19, Q20, rfl⟩
   have O22 := Hold.nm (O15.retC Q20 vfs_nil)
   refine ⟨_, rfl, ?_⟩
   cases e
   exact ⟨_, O22.pick [], rfl⟩
 · cases e
   exact ⟨_, O15.pick [], rfl⟩
theorem tr_SameExpr_k.step_f_1000002 (go : (p : tr_SameExpr_k.Pt) → Option (Bool)) (ih : ∀ p r, go p = some r → tr_SameExpr_k.I p r) (a_0 a_1) (r) (e : tr_SameExpr_k.body go (.f_1000002 a_0 a_1) = some r) : tr_SameExpr_k.I (.f_1000002 a_0 a_1) r := by
 unfold tr_SameExpr_k.body at e
 intro W h m A_0 n_0 c_0 A_1 n_1 c_1 O ne_0 k_0 r_0 ne_1 k_1 r_1
 subst ne_0
 subst ne_1
 refine f47.run ?_
 unfold f47.runT
 refine split_ne_e e (fun c1 e => ?_) (fun c1 e => ?_)
 · cases e
   exact ⟨_, O.pick [], rfl⟩
 · exact (ih _ _ e) (O.pick []).nm rfl k_1 r_1 rfl k_0 r_0
theorem tr_SameExpr_k.step_l0_1000002 (go : (p : tr_SameExpr_k.Pt) → Option (Bool)) (ih : ∀ p r, go p = some r → tr_SameExpr_k.I p r) (a_1 a_15 x_16 x_17) (r) (e : tr_SameExpr_k.body go (.l0_1000002 a_1 a_15 x_16 x_17) = some r) : tr_SameExpr_k.I (.l0_1000002 a_1 a_15 x_16 x_17) r := by
 unfold tr_SameExpr_k.body at e
 intro W h0 m0 h m A_1 n_1 c_1 A_15 n_15 c_15 O ne_1 k_1 r_1 ne_15 k_15 r_15
 subst ne_1
 subst ne_15
 refine f47.l0_in ?_
 unfold f47.l0T
 refine split_dec_e e (fun c35 e => ?_) (fun c35 e => ?_)
 · obtain ⟨y1, g2, e⟩ := bind_e e
   refine r_15.addr rfl g2 fun a3 cs4 ha5 hc6 he7 => ?_
   refine ⟨_, ldAn O.s hc6 rfl, ?_⟩
   refine O.new fun h8 x9 O10 => ?_
   refine ⟨_, rfl, (T_Expr.T.len _ _ _ he7), ?_⟩
   refine O10.stA 0 rfl (T_Expr.T.len _ _ _ he7) (T_Expr.T.flat _ _ _ he7) fun h12 O13 => ?_
   obtain ⟨y14, g15, e⟩ := bind_e e
   refine r_1.addr rfl g15 fun a16 cs17 ha18 hc19 he20 => ?_
   refine ⟨_, ldAn O13.s hc19 rfl, ?_⟩
   refine O13.new fun h21 x22 O23 => ?_
   refine ⟨_, rfl, (T_Expr.T.len _ _ _ he20), ?_⟩
   refine O23.stA 1 rfl (T_Expr.T.len _ _ _ he20) (T_Expr.T.flat _ _ _ he20) fun h25 O26 => ?_
   refine ⟨_, ldAn (Sub.refl _) (O26.all 0 rfl) (T_Expr.T.len _ _ _ he7), ?_⟩
   refine ⟨_, ldAn (Sub.refl _) (O26.all 1 rfl) (T_Expr.T.len _ _ _ he20), ?_⟩
   obtain ⟨y27, g28, e⟩ := bind_e e
   refine CallF.of [(Value.agg (List.toArray cs4)), (Value.agg (List.toArray cs17))] f29.ok rfl ?_
   refine ((ih _ _ g28) (Hold.start (W := No) O26.s) he7 he20).mono ?_
   rintro _ h29 ⟨m30, Q31, rfl⟩
   have O33 := Hold.nm (O26.retC Q31 vfs_nil)
   refine ⟨_, rfl, ?_⟩
   refine split_not ?_
   refine split_any_e e (fun c34 e => ?_) (fun c34 e => ?_)
   · exact (ih _ _ e) (O33.pick []).nm rfl k_1 r_1 rfl k_15 r_15
   · cases e
     exact ⟨_, O33.pick [], rfl⟩
 · cases e
   exact ⟨_, O.pick [], rfl⟩
theorem tr_SameExpr_k.step_f_1000003 (go : (p : tr_SameExpr_k.Pt) → Option (Bool)) (ih : ∀ p r, go p = some r → tr_SameExpr_k.I p r) (a_0 a_1) (r) (e : tr_SameExpr_k.body go (.f_1000003 a_0 a_1) = some r) : tr_SameExpr_k.I (.f_1000003 a_0 a_1) r := by
 unfold tr_SameExpr_k.body at e
 intro W h m A_0 n_0 c_0 A_1 n_1 c_1 O ne_0 k_0 r_0 ne_1 k_1 r_1
 subst ne_0
 subst ne_1
 refine f48.run ?_
 unfold f48.runT
 refine split_ne_e e (fun c1 e => ?_) (fun c1 e => ?_)
 · cases e
   exact ⟨_, O.pick [], rfl⟩
 · exact (ih _ _ e) (O.pick []).nm rfl k_1 r_1 rfl k_0 r_0
theorem tr_SameExpr_k.step_l0_1000003 (go : (p : tr_SameExpr_k.Pt) → Option (Bool)) (ih : ∀ p r, go p = some r → tr_SameExpr_k.I p r) (a_1 a_15 x_16 x_17) (r) (e : tr_SameExpr_k.body go (.l0_1000003 a_1 a_15 x_16 x_17) = some r) : tr_SameExpr_k.I (.l0_1000003 a_1 a_15 x_16 x_17) r := by
 unfold tr_SameExpr_k.body at e
 intro W h0 m0 h m A_1 n_1 c_1 A_15 n_15 c_15 O ne_1 k_1 r_1 ne_15 k_15 r_15
 subst ne_1
 subst ne_15
 refine f48.l0_in ?_
 unfold f48.l0T
 refine split_dec_e e (fun c35 e => ?_) (fun c35 e => ?_)
 · obtain ⟨y1, g2, e⟩ := bind_e e
   refine r_15.addr rfl g2 fun a3 cs4 ha5 hc6 he7 => ?_
   refine ⟨_, ldAn O.s hc6 rfl, ?_⟩
   refine O.new fun h8 x9 O10 => ?_
   refine ⟨_, rfl, (T_Arm.T.len _ _ _ he7), ?_⟩
   refine O10.stA 0 rfl (T_Arm.T.len _ _ _ he7) (T_Arm.T.flat _ _ _ he7) fun h12 O13 => ?_
   obtain ⟨y14, g15, e⟩ := bind_e e
   refine r_1.addr rfl g15 fun a16 cs17 ha18 hc19 he20 => ?_
   refine ⟨_, ldAn O13.s hc19 rfl, ?_⟩
   refine O13.new fun h21 x22 O23 => ?_
   refine ⟨_, rfl, (T_Arm.T.len _ _ _ he20), ?_⟩
   refine O23.stA 1 rfl (T_Arm.T.len _ _ _ he20) (T_Arm.T.flat _ _ _ he20) fun h25 O26 => ?_
   refine ⟨_, ldAn (Sub.refl _) (O26.all 0 rfl) (T_Arm.T.len _ _ _ he7), ?_⟩
   refine ⟨_, ldAn (Sub.refl _) (O26.all 1 rfl) (T_Arm.T.len _ _ _ he20), ?_⟩
   obtain ⟨y27, g28, e⟩ := bind_e e
   refine CallF.of [(Value.agg (List.toArray cs4)), (Value.agg (List.toArray cs17))] f49.ok rfl ?_
   refine ((ih _ _ g28) (Hold.start (W := No) O26.s) he7 he20).mono ?_
   rintro _ h29 ⟨m30, Q31, rfl⟩
   have O33 := Hold.nm (O26.retC Q31 vfs_nil)
   refine ⟨_, rfl, ?_⟩
   refine split_not ?_
   refine split_any_e e (fun c34 e => ?_) (fun c34 e => ?_)
   · exact (ih _ _ e) (O33.pick []).nm rfl k_1 r_1 rfl k_15 r_15
   · cases e
     exact ⟨_, O33.pick [], rfl⟩
 · cases e
   exact ⟨_, O.pick [], rfl⟩
theorem tr_SameExpr_k.all {p : tr_SameExpr_k.Pt} {r : (Bool)} (e : tr_SameExpr_k.go p = some r) : tr_SameExpr_k.I p r := fixF_ind (β := fun _ => (Bool)) tr_SameExpr_k.mono (I := tr_SameExpr_k.I) (fun go ih p r e => match p with
 | .f_29 y_0 y_1 => tr_SameExpr_k.step_f_29 go ih y_0 y_1 r e
 | .f_49 y_0 y_1 => tr_SameExpr_k.step_f_49 go ih y_0 y_1 r e
 | .f_1000002 a_0 a_1 => tr_SameExpr_k.step_f_1000002 go ih a_0 a_1 r e
 | .l0_1000002 a_1 a_15 x_16 x_17 => tr_SameExpr_k.step_l0_1000002 go ih a_1 a_15 x_16 x_17 r e
 | .f_1000003 a_0 a_1 => tr_SameExpr_k.step_f_1000003 go ih a_0 a_1 r e
 | .l0_1000003 a_1 a_15 x_16 x_17 => tr_SameExpr_k.step_l0_1000003 go ih a_1 a_15 x_16 x_17 r e
 ) e
theorem tr_SameExpr.walk {W h m cs_0 cs_1 y_0 y_1} (O : Hold W h m h m []) (e_0 : T_Expr.E m y_0 cs_0) (e_1 : T_Expr.E m y_1 cs_1) {r} (e : tr_SameExpr y_0 y_1 = some r) : Run Tryz.prog 29 #[Value.agg cs_0.toArray, Value.agg cs_1.toArray] h (tr_SameExpr.post W h m r) := tr_SameExpr_k.all (p := .f_29 y_0 y_1) e O e_0 e_1
def tr_patSize.post (W : Nat → Prop) (h0 m0 : Heap) (r : Int) (v : Value) (h : Heap) : Prop := ∃ m , Hold W h0 m0 h m [] ∧ v = .int .i64 r
inductive tr_patSize_k.Pt where
 | f (y_0 : T_Pat)
 | l0 (x_3 : Int) (a_7 : List T_Pat) (x_8 : Int) (x_9 : Int)
noncomputable def tr_patSize_k.body (go : (p : tr_patSize_k.Pt) → Option (Int)) : (p : tr_patSize_k.Pt) → Option (Int)
 | .f y_0 => (go (.l0 (1 : Int) y_0.Args (((List.length y_0.Args) : Nat) : Int) (0 : Int)))
 | .l0 x_3 a_7 x_8 x_9 => if x_9 < x_8 then (Option.bind (gi a_7 x_9) fun y1 => Option.bind ((go (.f y1))) fun y14 => (go (.l0 (IntKind.wrap .i64 (x_3 + y14)) a_7 x_8 (IntKind.wrap .i64 (x_9 + (1 : Int)))))) else (some (x_3))
theorem tr_patSize_k.mono : MonoF (β := fun _ => (Int)) tr_patSize_k.body := fun f g hfg p => match p with
 | .f y_0 => (hfg _)
 | .l0 x_3 a_7 x_8 x_9 => LeO.ite (LeO.bind (LeO.refl _) fun y1 => LeO.bind ((hfg _)) fun y14 => (hfg _)) (LeO.refl _)
noncomputable def tr_patSize_k.go (p : tr_patSize_k.Pt) : Option (Int) := fixF (β := fun _ => (Int)) tr_patSize_k.body p
noncomputable def tr_patSize (y_0) := tr_patSize_k.go (.f y_0)
noncomputable def tr_patSize.l0 (x_3 a_7 x_8 x_9) := tr_patSize_k.go (.l0 x_3 a_7 x_8 x_9)
theorem tr_patSize_eq (y_0) : tr_patSize y_0 = (tr_patSize.l0 (1 : Int) y_0.Args (((List.length y_0.Args) : Nat) : Int) (0 : Int)) := fixF_eq tr_patSize_k.mono _
theorem tr_patSize.l0_eq (x_3 a_7 x_8 x_9) : tr_patSize.l0 x_3 a_7 x_8 x_9 = if x_9 < x_8 then (Option.bind (gi a_7 x_9) fun y1 => Option.bind ((tr_patSize y1)) fun y14 => (tr_patSize.l0 (IntKind.wrap .i64 (x_3 + y14)) a_7 x_8 (IntKind.wrap .i64 (x_9 + (1 : Int))))) else (some (x_3)) := fixF_eq tr_patSize_k.mono _
def tr_patSize_k.I : (p : tr_patSize_k.Pt) → (Int) → Prop
 | .f y_0, r => ∀ {W h m cs_0} (O : Hold W h m h m []) (e_0 : T_Pat.E m y_0 cs_0), Run Tryz.prog 69 #[Value.agg cs_0.toArray] h (tr_patSize.post W h m r)
 | .l0 x_3 a_7 x_8 x_9, r => ∀ {W h0 m0 h m A_7 n_7 c_7} (O : Hold W h0 m0 h m []) (ne_7 : n_7 = List.length a_7) (k_7 : List.length a_7 ≤ c_7) (r_7 : Rd 4 T_Pat.E m A_7 a_7), f69.l0 (tr_patSize.post W h0 m0 r) x_3 A_7 n_7 c_7 x_8 x_9 h
theorem tr_patSize_k.step_f (go : (p : tr_patSize_k.Pt) → Option (Int)) (ih : ∀ p r, go p = some r → tr_patSize_k.I p r) (y_0) (r) (e : tr_patSize_k.body go (.f y_0) = some r) : tr_patSize_k.I (.f y_0) r := by
 unfold tr_patSize_k.body at e
 intro W h m cs_0 O e_0
 refine f69.run ?_
 unfold f69.runT
 refine O.new fun h1 x2 O3 => ?_
 obtain ⟨A5, c6, q7, k8, r9⟩ := T_Pat.g3 e_0
 refine ⟨_, ldk (k := 3) (Sub.refl _) (O3.all 0 rfl) q7, _, _, _, rfl, ?_⟩
 have O10 := O3.nm
 exact (ih _ _ e) (O10.pick []).nm rfl k8 r9
theorem tr_patSize_k.step_l0 (go : (p : tr_patSize_k.Pt) → Option (Int)) (ih : ∀ p r, go p = some r → tr_patSize_k.I p r) (x_3 a_7 x_8 x_9) (r) (e : tr_patSize_k.body go (.l0 x_3 a_7 x_8 x_9) = some r) : tr_patSize_k.I (.l0 x_3 a_7 x_8 x_9) r := by
 unfold tr_patSize_k.body at e
 intro W h0 m0 h m A_7 n_7 c_7 O ne_7 k_7 r_7
 subst ne_7
 refine f69.l0_in ?_
 unfold f69.l0T
 refine split_dec_e e (fun c21 e => ?_) (fun c21 e => ?_)
 · obtain ⟨y1, g2, e⟩ := bind_e e
   refine r_7.addr rfl g2 fun a3 cs4 ha5 hc6 he7 => ?_
   refine ⟨_, ldAn O.s hc6 rfl, ?_⟩
   refine O.new fun h8 x9 O10 => ?_
   refine ⟨_, rfl, (T_Pat.T.len _ _ _ he7), ?_⟩
   refine O10.stA 0 rfl (T_Pat.T.len _ _ _ he7) (T_Pat.T.flat _ _ _ he7) fun h12 O13 => ?_
   refine ⟨_, ldAn (Sub.refl _) (O13.all 0 rfl) (T_Pat.T.len _ _ _ he7), ?_⟩
   obtain ⟨y14, g15, e⟩ := bind_e e
   refine ((ih _ _ g15) (Hold.start (W := No) O13.s) he7).mono ?_
   rintro _ h16 ⟨m17, Q18, rfl⟩
   have O20 := Hold.nm (O13.retC Q18 vfs_nil)
   refine ⟨_, rfl, ?_⟩
   exact (ih _ _ e) (O20.pick []).nm rfl k_7 r_7
 · cases e
   exact ⟨_, O.pick [], rfl⟩
theorem tr_patSize_k.all {p : tr_patSize_k.Pt} {r : (Int)} (e : tr_patSize_k.go p = some r) : tr_patSize_k.I p r := fixF_ind (β := fun _ => (Int)) tr_patSize_k.mono (I := tr_patSize_k.I) (fun go ih p r e => match p with
 | .f y_0 => tr_patSize_k.step_f go ih y_0 r e
 | .l0 x_3 a_7 x_8 x_9 => tr_patSize_k.step_l0 go ih x_3 a_7 x_8 x_9 r e
 ) e
theorem tr_patSize.walk {W h m cs_0 y_0} (O : Hold W h m h m []) (e_0 : T_Pat.E m y_0 cs_0) {r} (e : tr_patSize y_0 = some r) : Run Tryz.prog 69 #[Value.agg cs_0.toArray] h (tr_patSize.post W h m r) := tr_patSize_k.all (p := .f y_0) e O e_0
def tr_Size.post (W : Nat → Prop) (h0 m0 : Heap) (r : Int) (v : Value) (h : Heap) : Prop := ∃ m , Hold W h0 m0 h m [] ∧ v = .int .i64 r
inductive tr_Size_k.Pt where
 | f (y_0 : T_Expr)
 | l0 (y_1 : T_Expr) (x_3 : Int) (a_9 : List T_Expr) (x_10 : Int) (x_11 : Int)
 | l1 (x_3 : Int) (a_21 : List T_Arm) (x_22 : Int) (x_23 : Int)
noncomputable def tr_Size_k.body (go : (p : tr_Size_k.Pt) → Option (Int)) : (p : tr_Size_k.Pt) → Option (Int)
 | .f y_0 => (go (.l0 y_0 (1 : Int) y_0.Args (((List.length y_0.Args) : Nat) : Int) (0 : Int)))
 | .l0 y_1 x_3 a_9 x_10 x_11 => if x_11 < x_10 then (Option.bind (gi a_9 x_11) fun y1 => Option.bind ((go (.f y1))) fun y14 => (go (.l0 y_1 (IntKind.wrap .i64 (x_3 + y14)) a_9 x_10 (IntKind.wrap .i64 (x_11 + (1 : Int)))))) else ((go (.l1 x_3 y_1.Arms (((List.length y_1.Arms) : Nat) : Int) (0 : Int))))
 | .l1 x_3 a_21 x_22 x_23 => if x_23 < x_22 then (Option.bind (gi a_21 x_23) fun y1 => Option.bind ((go (.f y1.Body))) fun y14 => Option.bind (tr_patSize y1.Pat) fun y21 => (go (.l1 (IntKind.wrap .i64 (x_3 + (IntKind.wrap .i64 (y14 + y21)))) a_21 x_22 (IntKind.wrap .i64 (x_23 + (1 : Int)))))) else (some (x_3))
theorem tr_Size_k.mono : MonoF (β := fun _ => (Int)) tr_Size_k.body := fun f g hfg p => match p with
 | .f y_0 => (hfg _)
 | .l0 y_1 x_3 a_9 x_10 x_11 => LeO.ite (LeO.bind (LeO.refl _) fun y1 => LeO.bind ((hfg _)) fun y14 => (hfg _)) ((hfg _))
 | .l1 x_3 a_21 x_22 x_23 => LeO.ite (LeO.bind (LeO.refl _) fun y1 => LeO.bind ((hfg _)) fun y14 => LeO.bind (LeO.refl _) fun y21 => (hfg _)) (LeO.refl _)
noncomputable def tr_Size_k.go (p : tr_Size_k.Pt) : Option (Int) := fixF (β := fun _ => (Int)) tr_Size_k.body p
noncomputable def tr_Size (y_0) := tr_Size_k.go (.f y_0)
noncomputable def tr_Size.l0 (y_1 x_3 a_9 x_10 x_11) := tr_Size_k.go (.l0 y_1 x_3 a_9 x_10 x_11)
noncomputable def tr_Size.l1 (x_3 a_21 x_22 x_23) := tr_Size_k.go (.l1 x_3 a_21 x_22 x_23)
theorem tr_Size_eq (y_0) : tr_Size y_0 = (tr_Size.l0 y_0 (1 : Int) y_0.Args (((List.length y_0.Args) : Nat) : Int) (0 : Int)) := fixF_eq tr_Size_k.mono _
theorem tr_Size.l0_eq (y_1 x_3 a_9 x_10 x_11) : tr_Size.l0 y_1 x_3 a_9 x_10 x_11 = if x_11 < x_10 then (Option.bind (gi a_9 x_11) fun y1 => Option.bind ((tr_Size y1)) fun y14 => (tr_Size.l0 y_1 (IntKind.wrap .i64 (x_3 + y14)) a_9 x_10 (IntKind.wrap .i64 (x_11 + (1 : Int))))) else ((tr_Size.l1 x_3 y_1.Arms (((List.length y_1.Arms) : Nat) : Int) (0 : Int))) := fixF_eq tr_Size_k.mono _
theorem tr_Size.l1_eq (x_3 a_21 x_22 x_23) : tr_Size.l1 x_3 a_21 x_22 x_23 = if x_23 < x_22 then (Option.bind (gi a_21 x_23) fun y1 => Option.bind ((tr_Size y1.Body)) fun y14 => Option.bind (tr_patSize y1.Pat) fun y21 => (tr_Size.l1 (IntKind.wrap .i64 (x_3 + (IntKind.wrap .i64 (y14 + y21)))) a_21 x_22 (IntKind.wrap .i64 (x_23 + (1 : Int))))) else (some (x_3)) := fixF_eq tr_Size_k.mono _
def tr_Size_k.I : (p : tr_Size_k.Pt) → (Int) → Prop
 | .f y_0, r => ∀ {W h m cs_0} (O : Hold W h m h m []) (e_0 : T_Expr.E m y_0 cs_0), Run Tryz.prog 50 #[Value.agg cs_0.toArray] h (tr_Size.post W h m r)
 | .l0 y_1 x_3 a_9 x_10 x_11, r => ∀ {W h0 m0 h m bk_1 cs_1 A_9 n_9 c_9} (O : Hold W h0 m0 h m [rV bk_1 48 cs_1]) (e_1 : T_Expr.E m y_1 cs_1) (ne_9 : n_9 = List.length a_9) (k_9 : List.length a_9 ≤ c_9) (r_9 : Rd 8 T_Expr.E m A_9 a_9), f50.l0 (tr_Size.post W h0 m0 r) (⟨bk_1, 0, none⟩ : Addr) x_3 A_9 n_9 c_9 x_10 x_11 h
 | .l1 x_3 a_21 x_22 x_23, r => ∀ {W h0 m0 h m A_21 n_21 c_21} (O : Hold W h0 m0 h m []) (ne_21 : n_21 = List.length a_21) (k_21 : List.length a_21 ≤ c_21) (r_21 : Rd 12 T_Arm.E m A_21 a_21), f50.l1 (tr_Size.post W h0 m0 r) x_3 A_21 n_21 c_21 x_22 x_23 h
theorem tr_Size_k.step_f (go : (p : tr_Size_k.Pt) → Option (Int)) (ih : ∀ p r, go p = some r → tr_Size_k.I p r) (y_0) (r) (e : tr_Size_k.body go (.f y_0) = some r) : tr_Size_k.I (.f y_0) r := by
 unfold tr_Size_k.body at e
 intro W h m cs_0 O e_0
 refine f50.run ?_
 unfold f50.runT
 refine O.new fun h1 x2 O3 => ?_
 obtain ⟨A5, c6, q7, k8, r9⟩ := T_Expr.g5 e_0
 refine ⟨_, ldk (k := 5) (Sub.refl _) (O3.all 0 rfl) q7, _, _, _, rfl, ?_⟩
 have O10 := O3.nm
 exact (ih _ _ e) (O10.pick [0]).nm e_0 rfl k8 r9
theorem tr_Size_k.step_l0 (go : (p : tr_Size_k.Pt) → Option (Int)) (ih : ∀ p r, go p = some r → tr_Size_k.I p r) (y_1 x_3 a_9 x_10 x_11) (r) (e : tr_Size_k.body go (.l0 y_1 x_3 a_9 x_10 x_11) = some r) : tr_Size_k.I (.l0 y_1 x_3 a_9 x_10 x_11) r := by
 unfold tr_Size_k.body at e
 intro W h0 m0 h m bk_1 cs_1 A_9 n_9 c_9 O e_1 ne_9 k_9 r_9
 subst ne_9
 refine f50.l0_in ?_
 unfold f50.l0T
 refine split_dec_e e (fun c26 e => ?_) (fun c26 e => ?_)
 · obtain ⟨y1, g2, e⟩ := bind_e e
   refine r_9.addr rfl g2 fun a3 cs4 ha5 hc6 he7 => ?_
   refine ⟨_, ldAn O.s hc6 rfl, ?_⟩
   refine O.new fun h8 x9 O10 => ?_
   refine ⟨_, rfl, (T_Expr.T.len _ _ _ he7), ?_⟩
   refine O10.stA 1 rfl (T_Expr.T.len _ _ _ he7) (T_Expr.T.flat _ _ _ he7) fun h12 O13 => ?_
   refine ⟨_, ldAn (Sub.refl _) (O13.all 1 rfl) (T_Expr.T.len _ _ _ he7), ?_⟩
   obtain ⟨y14, g15, e⟩ := bind_e e
   refine ((ih _ _ g15) (Hold.start (W := No) O13.s) he7).mono ?_
   rintro _ h16 ⟨m17, Q18, rfl⟩
   have O20 := Hold.nm (O13.retC Q18 vfs_nil)
   refine ⟨_, rfl, ?_⟩
   exact (ih _ _ e) (O20.pick [0]).nm e_1 rfl k_9 r_9
 · obtain ⟨A21, c22, q23, k24, r25⟩ := T_Expr.g6 e_1
   refine ⟨_, ldk (k := 6) (Sub.refl _) (O.all 0 rfl) q23, _, _, _, rfl, ?_⟩
   exact (ih _ _ e) (O.pick []).nm rfl k24 r25
theorem tr_Size_k.step_l1 (go : (p : tr_Size_k.Pt) → Option (Int)) (ih : ∀ p r, go p = some r → tr_Size_k.I p r) (x_3 a_21 x_22 x_23) (r) (e : tr_Size_k.body go (.l1 x_3 a_21 x_22 x_23) = some r) : tr_Size_k.I (.l1 x_3 a_21 x_22 x_23) r := by
 unfold tr_Size_k.body at e
 intro W h0 m0 h m A_21 n_21 c_21 O ne_21 k_21 r_21
 subst ne_21
 refine f50.l1_in ?_
 unfold f50.l1T
 refine split_dec_e e (fun c28 e => ?_) (fun c28 e => ?_)
 · obtain ⟨y1, g2, e⟩ := bind_e e
   refine r_21.addr rfl g2 fun a3 cs4 ha5 hc6 he7 => ?_
   refine ⟨_, ldAn O.s hc6 rfl, ?_⟩
   refine O.new fun h8 x9 O10 => ?_
   refine ⟨_, rfl, (T_Arm.T.len _ _ _ he7), ?_⟩
   refine O10.stA 0 rfl (T_Arm.T.len _ _ _ he7) (T_Arm.T.flat _ _ _ he7) fun h12 O13 => ?_
   refine ⟨_, ldAkn (Sub.refl _) (O13.all 0 rfl) 4 8 (le_len (T_Arm.T.len _ _ _ he7) (by decide)), ?_⟩
   refine ⟨_, ldA0n (Sub.refl _) (O13.all 0 rfl) 4 (le_len (T_Arm.T.len _ _ _ he7) (by decide)), ?_⟩
   obtain ⟨y14, g15, e⟩ := bind_e e
   refine ((ih _ _ g15) (Hold.start (W := No) O13.s) (T_Arm.u4_48 he7)).mono ?_
   rintro _ h16 ⟨m17, Q18, rfl⟩
   have O20 := Hold.nm (O13.retC Q18 vfs_nil)
   refine ⟨_, rfl, ?_⟩
   refine ⟨Q18.S.ext, ?_⟩
   obtain ⟨y21, g22, e⟩ := bind_e e
   refine (tr_patSize.walk (Hold.start (W := No) O20.s) (T_Arm.u0_95 he7) g22).mono ?_
   rintro _ h23 ⟨m24, Q25, rfl⟩
   have O27 := Hold.nm (O20.retC Q25 vfs_nil)
   refine ⟨_, rfl, ?_⟩
   exact (ih _ _ e) (O27.pick []).nm rfl k_21 r_21
 · cases e
   exact ⟨_, O.pick [], rfl⟩
theorem tr_Size_k.all {p : tr_Size_k.Pt} {r : (Int)} (e : tr_Size_k.go p = some r) : tr_Size_k.I p r := fixF_ind (β := fun _ => (Int)) tr_Size_k.mono (I := tr_Size_k.I) (fun go ih p r e => match p with
 | .f y_0 => tr_Size_k.step_f go ih y_0 r e
 | .l0 y_1 x_3 a_9 x_10 x_11 => tr_Size_k.step_l0 go ih y_1 x_3 a_9 x_10 x_11 r e
 | .l1 x_3 a_21 x_22 x_23 => tr_Size_k.step_l1 go ih x_3 a_21 x_22 x_23 r e
 ) e
theorem tr_Size.walk {W h m cs_0 y_0} (O : Hold W h m h m []) (e_0 : T_Expr.E m y_0 cs_0) {r} (e : tr_Size y_0 = some r) : Run Tryz.prog 50 #[Value.agg cs_0.toArray] h (tr_Size.post W h m r) := tr_Size_k.all (p := .f y_0) e O e_0
def tr_patDeep.post (W : Nat → Prop) (h0 m0 : Heap) (r : Int) (v : Value) (h : Heap) : Prop := ∃ m , Hold W h0 m0 h m [] ∧ v = .int .i64 r
inductive tr_patDeep_k.Pt where
 | f (y_0 : T_Pat)
 | l0 (x_3 : Int) (a_7 : List T_Pat) (x_8 : Int) (x_9 : Int)
noncomputable def tr_patDeep_k.body (go : (p : tr_patDeep_k.Pt) → Option (Int)) : (p : tr_patDeep_k.Pt) → Option (Int)
 | .f y_0 => (go (.l0 (0 : Int) y_0.Args (((List.length y_0.Args) : Nat) : Int) (0 : Int)))
 | .l0 x_3 a_7 x_8 x_9 => if x_9 < x_8 then (Option.bind (gi a_7 x_9) fun y1 => Option.bind ((go (.f y1))) fun y14 => (go (.l0 (if y14 > x_3 then y14 else x_3) a_7 x_8 (IntKind.wrap .i64 (x_9 + (1 : Int)))))) else (some ((IntKind.wrap .i64 (x_3 + (1 : Int)))))
theorem tr_patDeep_k.mono : MonoF (β := fun _ => (Int)) tr_patDeep_k.body := fun f g hfg p => match p with
 | .f y_0 => (hfg _)
 | .l0 x_3 a_7 x_8 x_9 => LeO.ite (LeO.bind (LeO.refl _) fun y1 => LeO.bind ((hfg _)) fun y14 => (hfg _)) (LeO.refl _)
noncomputable def tr_patDeep_k.go (p : tr_patDeep_k.Pt) : Option (Int) := fixF (β := fun _ => (Int)) tr_patDeep_k.body p
noncomputable def tr_patDeep (y_0) := tr_patDeep_k.go (.f y_0)
noncomputable def tr_patDeep.l0 (x_3 a_7 x_8 x_9) := tr_patDeep_k.go (.l0 x_3 a_7 x_8 x_9)
theorem tr_patDeep_eq (y_0) : tr_patDeep y_0 = (tr_patDeep.l0 (0 : Int) y_0.Args (((List.length y_0.Args) : Nat) : Int) (0 : Int)) := fixF_eq tr_patDeep_k.mono _
theorem tr_patDeep.l0_eq (x_3 a_7 x_8 x_9) : tr_patDeep.l0 x_3 a_7 x_8 x_9 = if x_9 < x_8 then (Option.bind (gi a_7 x_9) fun y1 => Option.bind ((tr_patDeep y1)) fun y14 => (tr_patDeep.l0 (if y14 > x_3 then y14 else x_3) a_7 x_8 (IntKind.wrap .i64 (x_9 + (1 : Int))))) else (some ((IntKind.wrap .i64 (x_3 + (1 : Int))))) := fixF_eq tr_patDeep_k.mono _
def tr_patDeep_k.I : (p : tr_patDeep_k.Pt) → (Int) → Prop
 | .f y_0, r => ∀ {W h m cs_0} (O : Hold W h m h m []) (e_0 : T_Pat.E m y_0 cs_0), Run Tryz.prog 70 #[Value.agg cs_0.toArray] h (tr_patDeep.post W h m r)
 | .l0 x_3 a_7 x_8 x_9, r => ∀ {W h0 m0 h m A_7 n_7 c_7} (O : Hold W h0 m0 h m []) (ne_7 : n_7 = List.length a_7) (k_7 : List.length a_7 ≤ c_7) (r_7 : Rd 4 T_Pat.E m A_7 a_7), f70.l0 (tr_patDeep.post W h0 m0 r) x_3 A_7 n_7 c_7 x_8 x_9 h
theorem tr_patDeep_k.step_f (go : (p : tr_patDeep_k.Pt) → Option (Int)) (ih : ∀ p r, go p = some r → tr_patDeep_k.I p r) (y_0) (r) (e : tr_patDeep_k.body go (.f y_0) = some r) : tr_patDeep_k.I (.f y_0) r := by
 unfold tr_patDeep_k.body at e
 intro W h m cs_0 O e_0
 refine f70.run ?_
 unfold f70.runT
 refine O.new fun h1 x2 O3 => ?_
 obtain ⟨A5, c6, q7, k8, r9⟩ := T_Pat.g3 e_0
 refine ⟨_, ldk (k := 3) (Sub.refl _) (O3.all 0 rfl) q7, _, _, _, rfl, ?_⟩
 have O10 := O3.nm
 exact (ih _ _ e) (O10.pick []).nm rfl k8 r9
theorem tr_patDeep_k.step_l0 (go : (p : tr_patDeep_k.Pt) → Option (Int)) (ih : ∀ p r, go p = some r → tr_patDeep_k.I p r) (x_3 a_7 x_8 x_9) (r) (e : tr_patDeep_k.body go (.l0 x_3 a_7 x_8 x_9) = some r) : tr_patDeep_k.I (.l0 x_3 a_7 x_8 x_9) r := by
 unfold tr_patDeep_k.body at e
 intro W h0 m0 h m A_7 n_7 c_7 O ne_7 k_7 r_7
 subst ne_7
 refine f70.l0_in ?_
 unfold f70.l0T
 refine split_dec_e e (fun c21 e => ?_) (fun c21 e => ?_)
 · obtain ⟨y1, g2, e⟩ := bind_e e
   refine r_7.addr rfl g2 fun a3 cs4 ha5 hc6 he7 => ?_
   refine ⟨_, ldAn O.s hc6 rfl, ?_⟩
   refine O.new fun h8 x9 O10 => ?_
   refine ⟨_, rfl, (T_Pat.T.len _ _ _ he7), ?_⟩
   refine O10.stA 0 rfl (T_Pat.T.len _ _ _ he7) (T_Pat.T.flat _ _ _ he7) fun h12 O13 => ?_
   refine ⟨_, ldAn (Sub.refl _) (O13.all 0 rfl) (T_Pat.T.len _ _ _ he7), ?_⟩
   obtain ⟨y14, g15, e⟩ := bind_e e
   refine ((ih _ _ g15) (Hold.start (W := No) O13.s) he7).mono ?_
   rintro _ h16 ⟨m17, Q18, rfl⟩
   have O20 := Hold.nm (O13.retC Q18 vfs_nil)
   refine ⟨_, rfl, ?_⟩
   exact (ih _ _ e) (O20.pick []).nm rfl k_7 r_7
 · cases e
   exact ⟨_, O.pick [], rfl⟩
theorem tr_patDeep_k.all {p : tr_patDeep_k.Pt} {r : (Int)} (e : tr_patDeep_k.go p = some r) : tr_patDeep_k.I p r := fixF_ind (β := fun _ => (Int)) tr_patDeep_k.mono (I := tr_patDeep_k.I) (fun go ih p r e => match p with
 | .f y_0 => tr_patDeep_k.step_f go ih y_0 r e
 | .l0 x_3 a_7 x_8 x_9 => tr_patDeep_k.step_l0 go ih x_3 a_7 x_8 x_9 r e
 ) e
theorem tr_patDeep.walk {W h m cs_0 y_0} (O : Hold W h m h m []) (e_0 : T_Pat.E m y_0 cs_0) {r} (e : tr_patDeep y_0 = some r) : Run Tryz.prog 70 #[Value.agg cs_0.toArray] h (tr_patDeep.post W h m r) := tr_patDeep_k.all (p := .f y_0) e O e_0
def tr_Deep.post (W : Nat → Prop) (h0 m0 : Heap) (r : Int) (v : Value) (h : Heap) : Prop := ∃ m , Hold W h0 m0 h m [] ∧ v = .int .i64 r
inductive tr_Deep_k.Pt where
 | f (y_0 : T_Expr)
 | l0 (y_1 : T_Expr) (x_3 : Int) (a_9 : List T_Expr) (x_10 : Int) (x_11 : Int)
 | l1 (x_3 : Int) (a_21 : List T_Arm) (x_22 : Int) (x_23 : Int)
noncomputable def tr_Deep_k.body (go : (p : tr_Deep_k.Pt) → Option (Int)) : (p : tr_Deep_k.Pt) → Option (Int)
 | .f y_0 => (go (.l0 y_0 (0 : Int) y_0.Args (((List.length y_0.Args) : Nat) : Int) (0 : Int)))
 | .l0 y_1 x_3 a_9 x_10 x_11 => if x_11 < x_10 then (Option.bind (gi a_9 x_11) fun y1 => Option.bind ((go (.f y1))) fun y14 => (go (.l0 y_1 (if y14 > x_3 then y14 else x_3) a_9 x_10 (IntKind.wrap .i64 (x_11 + (1 : Int)))))) else ((go (.l1 x_3 y_1.Arms (((List.length y_1.Arms) : Nat) : Int) (0 : Int))))
 | .l1 x_3 a_21 x_22 x_23 => if x_23 < x_22 then (Option.bind (gi a_21 x_23) fun y1 => Option.bind ((go (.f y1.Body))) fun y14 => Option.bind (tr_patDeep y1.Pat) fun y21 => (go (.l1 (if y21 > (if y14 > x_3 then y14 else x_3) then y21 else (if y14 > x_3 then y14 else x_3)) a_21 x_22 (IntKind.wrap .i64 (x_23 + (1 : Int)))))) else (some ((IntKind.wrap .i64 (x_3 + (1 : Int)))))
theorem tr_Deep_k.mono : MonoF (β := fun _ => (Int)) tr_Deep_k.body := fun f g hfg p => match p with
 | .f y_0 => (hfg _)
 | .l0 y_1 x_3 a_9 x_10 x_11 => LeO.ite (LeO.bind (LeO.refl _) fun y1 => LeO.bind ((hfg _)) fun y14 => (hfg _)) ((hfg _))
 | .l1 x_3 a_21 x_22 x_23 => LeO.ite (LeO.bind (LeO.refl _) fun y1 => LeO.bind ((hfg _)) fun y14 => LeO.bind (LeO.refl _) fun y21 => (hfg _)) (LeO.refl _)
noncomputable def tr_Deep_k.go (p : tr_Deep_k.Pt) : Option (Int) := fixF (β := fun _ => (Int)) tr_Deep_k.body p
noncomputable def tr_Deep (y_0) := tr_Deep_k.go (.f y_0)
noncomputable def tr_Deep.l0 (y_1 x_3 a_9 x_10 x_11) := tr_Deep_k.go (.l0 y_1 x_3 a_9 x_10 x_11)
noncomputable def tr_Deep.l1 (x_3 a_21 x_22 x_23) := tr_Deep_k.go (.l1 x_3 a_21 x_22 x_23)
theorem tr_Deep_eq (y_0) : tr_Deep y_0 = (tr_Deep.l0 y_0 (0 : Int) y_0.Args (((List.length y_0.Args) : Nat) : Int) (0 : Int)) := fixF_eq tr_Deep_k.mono _
theorem tr_Deep.l0_eq (y_1 x_3 a_9 x_10 x_11) : tr_Deep.l0 y_1 x_3 a_9 x_10 x_11 = if x_11 < x_10 then (Option.bind (gi a_9 x_11) fun y1 => Option.bind ((tr_Deep y1)) fun y14 => (tr_Deep.l0 y_1 (if y14 > x_3 then y14 else x_3) a_9 x_10 (IntKind.wrap .i64 (x_11 + (1 : Int))))) else ((tr_Deep.l1 x_3 y_1.Arms (((List.length y_1.Arms) : Nat) : Int) (0 : Int))) := fixF_eq tr_Deep_k.mono _
theorem tr_Deep.l1_eq (x_3 a_21 x_22 x_23) : tr_Deep.l1 x_3 a_21 x_22 x_23 = if x_23 < x_22 then (Option.bind (gi a_21 x_23) fun y1 => Option.bind ((tr_Deep y1.Body)) fun y14 => Option.bind (tr_patDeep y1.Pat) fun y21 => (tr_Deep.l1 (if y21 > (if y14 > x_3 then y14 else x_3) then y21 else (if y14 > x_3 then y14 else x_3)) a_21 x_22 (IntKind.wrap .i64 (x_23 + (1 : Int))))) else (some ((IntKind.wrap .i64 (x_3 + (1 : Int))))) := fixF_eq tr_Deep_k.mono _
def tr_Deep_k.I : (p : tr_Deep_k.Pt) → (Int) → Prop
 | .f y_0, r => ∀ {W h m cs_0} (O : Hold W h m h m []) (e_0 : T_Expr.E m y_0 cs_0), Run Tryz.prog 51 #[Value.agg cs_0.toArray] h (tr_Deep.post W h m r)
 | .l0 y_1 x_3 a_9 x_10 x_11, r => ∀ {W h0 m0 h m bk_1 cs_1 A_9 n_9 c_9} (O : Hold W h0 m0 h m [rV bk_1 48 cs_1]) (e_1 : T_Expr.E m y_1 cs_1) (ne_9 : n_9 = List.length a_9) (k_9 : List.length a_9 ≤ c_9) (r_9 : Rd 8 T_Expr.E m A_9 a_9), f51.l0 (tr_Deep.post W h0 m0 r) (⟨bk_1, 0, none⟩ : Addr) x_3 A_9 n_9 c_9 x_10 x_11 h
 | .l1 x_3 a_21 x_22 x_23, r => ∀ {W h0 m0 h m A_21 n_21 c_21} (O : Hold W h0 m0 h m []) (ne_21 : n_21 = List.length a_21) (k_21 : List.length a_21 ≤ c_21) (r_21 : Rd 12 T_Arm.E m A_21 a_21), f51.l1 (tr_Deep.post W h0 m0 r) x_3 A_21 n_21 c_21 x_22 x_23 h
theorem tr_Deep_k.step_f (go : (p : tr_Deep_k.Pt) → Option (Int)) (ih : ∀ p r, go p = some r → tr_Deep_k.I p r) (y_0) (r) (e : tr_Deep_k.body go (.f y_0) = some r) : tr_Deep_k.I (.f y_0) r := by
 unfold tr_Deep_k.body at e
 intro W h m cs_0 O e_0
 refine f51.run ?_
 unfold f51.runT
 refine O.new fun h1 x2 O3 => ?_
 obtain ⟨A5, c6, q7, k8, r9⟩ := T_Expr.g5 e_0
 refine ⟨_, ldk (k := 5) (Sub.refl _) (O3.all 0 rfl) q7, _, _, _, rfl, ?_⟩
 have O10 := O3.nm
 exact (ih _ _ e) (O10.pick [0]).nm e_0 rfl k8 r9
theorem tr_Deep_k.step_l0 (go : (p : tr_Deep_k.Pt) → Option (Int)) (ih : ∀ p r, go p = some r → tr_Deep_k.I p r) (y_1 x_3 a_9 x_10 x_11) (r) (e : tr_Deep_k.body go (.l0 y_1 x_3 a_9 x_10 x_11) = some r) : tr_Deep_k.I (.l0 y_1 x_3 a_9 x_10 x_11) r := by
 unfold tr_Deep_k.body at e
 intro W h0 m0 h m bk_1 cs_1 A_9 n_9 c_9 O e_1 ne_9 k_9 r_9
 subst ne_9
 refine f51.l0_in ?_
 unfold f51.l0T
 refine split_dec_e e (fun c26 e => ?_) (fun c26 e => ?_)
 · obtain ⟨y1, g2, e⟩ := bind_e e
   refine r_9.addr rfl g2 fun a3 cs4 ha5 hc6 he7 => ?_
   refine ⟨_, ldAn O.s hc6 rfl, ?_⟩
   refine O.new fun h8 x9 O10 => ?_
   refine ⟨_, rfl, (T_Expr.T.len _ _ _ he7), ?_⟩
   refine O10.stA 1 rfl (T_Expr.T.len _ _ _ he7) (T_Expr.T.flat _ _ _ he7) fun h12 O13 => ?_
   refine ⟨_, ldAn (Sub.refl _) (O13.all 1 rfl) (T_Expr.T.len _ _ _ he7), ?_⟩
   obtain ⟨y14, g15, e⟩ := bind_e e
   refine ((ih _ _ g15) (Hold.start (W := No) O13.s) he7).mono ?_
   rintro _ h16 ⟨m17, Q18, rfl⟩
   have O20 := Hold.nm (O13.retC Q18 vfs_nil)
   refine ⟨_, rfl, ?_⟩
   exact (ih _ _ e) (O20.pick [0]).nm e_1 rfl k_9 r_9
 · obtain ⟨A21, c22, q23, k24, r25⟩ := T_Expr.g6 e_1
   refine ⟨_, ldk (k := 6) (Sub.refl _) (O.all 0 rfl) q23, _, _, _, rfl, ?_⟩
   exact (ih _ _ e) (O.pick []).nm rfl k24 r25
theorem tr_Deep_k.step_l1 (go : (p : tr_Deep_k.Pt) → Option (Int)) (ih : ∀ p r, go p = some r → tr_Deep_k.I p r) (x_3 a_21 x_22 x_23) (r) (e : tr_Deep_k.body go (.l1 x_3 a_21 x_22 x_23) = some r) : tr_Deep_k.I (.l1 x_3 a_21 x_22 x_23) r := by
 unfold tr_Deep_k.body at e
 intro W h0 m0 h m A_21 n_21 c_21 O ne_21 k_21 r_21
 subst ne_21
 refine f51.l1_in ?_
 unfold f51.l1T
 refine split_dec_e e (fun c28 e => ?_) (fun c28 e => ?_)
 · obtain ⟨y1, g2, e⟩ := bind_e e
   refine r_21.addr rfl g2 fun a3 cs4 ha5 hc6 he7 => ?_
   refine ⟨_, ldAn O.s hc6 rfl, ?_⟩
   refine O.new fun h8 x9 O10 => ?_
   refine ⟨_, rfl, (T_Arm.T.len _ _ _ he7), ?_⟩
   refine O10.stA 0 rfl (T_Arm.T.len _ _ _ he7) (T_Arm.T.flat _ _ _ he7) fun h12 O13 => ?_
   refine ⟨_, ldAkn (Sub.refl _) (O13.all 0 rfl) 4 8 (le_len (T_Arm.T.len _ _ _ he7) (by decide)), ?_⟩
   refine ⟨_, ldA0n (Sub.refl _) (O13.all 0 rfl) 4 (le_len (T_Arm.T.len _ _ _ he7) (by decide)), ?_⟩
   obtain ⟨y14, g15, e⟩ := bind_e e
   refine ((ih _ _ g15) (Hold.start (W := No) O13.s) (T_Arm.u4_48 he7)).mono ?_
   rintro _ h16 ⟨m17, Q18, rfl⟩
   have O20 := Hold.nm (O13.retC Q18 vfs_nil)
   refine ⟨_, rfl, ?_⟩
   refine ⟨Q18.S.ext, ?_⟩
   obtain ⟨y21, g22, e⟩ := bind_e e
   refine (tr_patDeep.walk (Hold.start (W := No) O20.s) (T_Arm.u0_95 he7) g22).mono ?_
   rintro _ h23 ⟨m24, Q25, rfl⟩
   have O27 := Hold.nm (O20.retC Q25 vfs_nil)
   refine ⟨_, rfl, ?_⟩
   exact (ih _ _ e) (O27.pick []).nm rfl k_21 r_21
 · cases e
   exact ⟨_, O.pick [], rfl⟩
theorem tr_Deep_k.all {p : tr_Deep_k.Pt} {r : (Int)} (e : tr_Deep_k.go p = some r) : tr_Deep_k.I p r := fixF_ind (β := fun _ => (Int)) tr_Deep_k.mono (I := tr_Deep_k.I) (fun go ih p r e => match p with
 | .f y_0 => tr_Deep_k.step_f go ih y_0 r e
 | .l0 y_1 x_3 a_9 x_10 x_11 => tr_Deep_k.step_l0 go ih y_1 x_3 a_9 x_10 x_11 r e
 | .l1 x_3 a_21 x_22 x_23 => tr_Deep_k.step_l1 go ih x_3 a_21 x_22 x_23 r e
 ) e
theorem tr_Deep.walk {W h m cs_0 y_0} (O : Hold W h m h m []) (e_0 : T_Expr.E m y_0 cs_0) {r} (e : tr_Deep y_0 = some r) : Run Tryz.prog 51 #[Value.agg cs_0.toArray] h (tr_Deep.post W h m r) := tr_Deep_k.all (p := .f y_0) e O e_0
def tr_formOf.post (W : Nat → Prop) (h0 m0 : Heap) (r : T_fo × Bool) (v : Value) (h : Heap) : Prop := ∃ m cs0, Hold W h0 m0 h m [] ∧ v = .tuple #[.agg cs0.toArray, .bool r.2] ∧ T_fo.E m r.1 cs0
noncomputable def tr_formOf.j0 (y_2 : T_fo) : Option (T_fo × Bool) :=
 some ((T_fo.mk (0 : Int) (0 : Int) (0 : Int) false false), false)
theorem tr_formOf.j0.walk {W h0 m0 h m bk_2 cs_2 y_2} (O : Hold W h0 m0 h m [rV bk_2 115 cs_2]) (e_2 : T_fo.E m y_2 cs_2) {r} (e : tr_formOf.j0 y_2 = some r) : f71.j0 (tr_formOf.post W h0 m0 r) (⟨bk_2, 0, none⟩ : Addr) h := by
 unfold tr_formOf.j0 at e
 refine f71.j0_in ?_
 unfold f71.j0T
 refine ⟨_, rfl, rfl, ?_⟩
 refine O.stA 0 rfl ((T_fo.T.len _ _ _ e_2)).symm (Flats.cons trivial (Flats.cons trivial (Flats.cons trivial (Flats.cons trivial (Flats.cons trivial Flats.nil))))) fun h1 O2 => ?_
 refine ⟨_, ldAn (Sub.refl _) (O2.all 0 rfl) rfl, ?_⟩
 have O3 := O2.nm
 cases e
 exact ⟨_, _, O3.pick [], rfl, (show T_fo.E _ (T_fo.mk (0 : Int) (0 : Int) (0 : Int) false false) [(Value.int .i64 (0 : Int)), (Value.int .i64 (0 : Int)), (Value.int .i64 (0 : Int)), (Value.bool false), (Value.bool false)] from rfl)⟩
noncomputable def tr_formOf.j5 (y_2 : T_fo) (b_54 : Bool) : Option (T_fo × Bool) :=
 if b_54 = true then (some ((T_fo.mk (0 : Int) (1 : Int) (1 : Int) false false), true)) else ((tr_formOf.j0 y_2))
theorem tr_formOf.j5.walk {W h0 m0 h m bk_2 cs_2 y_2 b_54} (O : Hold W h0 m0 h m [rV bk_2 115 cs_2]) (e_2 : T_fo.E m y_2 cs_2) {r} (e : tr_formOf.j5 y_2 b_54 = some r) : f71.j5 (tr_formOf.post W h0 m0 r) (⟨bk_2, 0, none⟩ : Addr) b_54 h := by
 unfold tr_formOf.j5 at e
 refine f71.j5_in ?_
 unfold f71.j5T
 refine split_any_e e (fun c4 e => ?_) (fun c4 e => ?_)
 · refine ⟨_, rfl, rfl, ?_⟩
   refine O.stA 0 rfl ((T_fo.T.len _ _ _ e_2)).symm (Flats.cons trivial (Flats.cons trivial (Flats.cons trivial (Flats.cons trivial (Flats.cons trivial Flats.nil))))) fun h1 O2 => ?_
   refine ⟨_, ldAn (Sub.refl _) (O2.all 0 rfl) rfl, ?_⟩
   have O3 := O2.nm
   cases e
   exact ⟨_, _, O3.pick [], rfl, (show T_fo.E _ (T_fo.mk (0 : Int) (1 : Int) (1 : Int) false false) [(Value.int .i64 (0 : Int)), (Value.int .i64 (1 : Int)), (Value.int .i64 (1 : Int)), (Value.bool false), (Value.bool false)] from rfl)⟩
 · exact tr_formOf.j0.walk (O.pick [0]).nm e_2 e
noncomputable def tr_formOf.j4 (y_2 : T_fo) (x_4 : Int) (b_47 : Bool) : Option (T_fo × Bool) :=
 if b_47 = true then (some ((T_fo.mk (0 : Int) (2 : Int) (2 : Int) false false), true)) else (if x_4 = (17 : Int) then (some ((T_fo.mk (0 : Int) (0 : Int) (6 : Int) false false), true)) else (if x_4 = (19 : Int) then ((tr_formOf.j5 y_2 (x_4 == (19 : Int)))) else (if x_4 = (20 : Int) then ((tr_formOf.j5 y_2 (x_4 == (20 : Int)))) else (if x_4 = (21 : Int) then ((tr_formOf.j5 y_2 (x_4 == (21 : Int)))) else (if x_4 = (22 : Int) then ((tr_formOf.j5 y_2 (x_4 == (22 : Int)))) else (if x_4 = (24 : Int) then ((tr_formOf.j5 y_2 (x_4 == (24 : Int)))) else ((tr_formOf.j5 y_2 (x_4 == (25 : Int))))))))))
theorem tr_formOf.j4.walk {W h0 m0 h m bk_2 cs_2 y_2 x_4 b_47} (O : Hold W h0 m0 h m [rV bk_2 115 cs_2]) (e_2 : T_fo.E m y_2 cs_2) {r} (e : tr_formOf.j4 y_2 x_4 b_47 = some r) : f71.j4 (tr_formOf.post W h0 m0 r) (⟨bk_2, 0, none⟩ : Addr) x_4 b_47 h := by
 unfold tr_formOf.j4 at e
 refine f71.j4_in ?_
 unfold f71.j4T
 refine split_any_e e (fun c13 e => ?_) (fun c13 e => ?_)
 · refine ⟨_, rfl, rfl, ?_⟩
   refine O.stA 0 rfl ((T_fo.T.len _ _ _ e_2)).symm (Flats.cons trivial (Flats.cons trivial (Flats.cons trivial (Flats.cons trivial (Flats.cons trivial Flats.nil))))) fun h1 O2 => ?_
   refine ⟨_, ldAn (Sub.refl _) (O2.all 0 rfl) rfl, ?_⟩
   have O3 := O2.nm
   cases e
   exact ⟨_, _, O3.pick [], rfl, (show T_fo.E _ (T_fo.mk (0 : Int) (2 : Int) (2 : Int) false false) [(Value.int .i64 (0 : Int)), (Value.int .i64 (2 : Int)), (Value.int .i64 (2 : Int)), (Value.bool false), (Value.bool false)] from rfl)⟩
 · refine split_eq_e e (fun c12 e => ?_) (fun c12 e => ?_)
   · refine ⟨_, rfl, rfl, ?_⟩
     refine O.stA 0 rfl ((T_fo.T.len _ _ _ e_2)).symm (Flats.cons trivial (Flats.cons trivial (Flats.cons trivial (Flats.cons trivial (Flats.cons trivial Flats.nil))))) fun h4 O5 => ?_
     refine ⟨_, ldAn (Sub.refl _) (O5.all 0 rfl) rfl, ?_⟩
     have O6 := O5.nm
     cases e
     exact ⟨_, _, O6.pick [], rfl, (show T_fo.E _ (T_fo.mk (0 : Int) (0 : Int) (6 : Int) false false) [(Value.int .i64 (0 : Int)), (Value.int .i64 (0 : Int)), (Value.int .i64 (6 : Int)), (Value.bool false), (Value.bool false)] from rfl)⟩
   · refine split_eq_e e (fun c11 e => ?_) (fun c11 e => ?_)
     · exact tr_formOf.j5.walk (O.pick [0]).nm e_2 e
     · refine split_eq_e e (fun c10 e => ?_) (fun c10 e => ?_)
       · exact tr_formOf.j5.walk (O.pick [0]).nm e_2 e
       · refine split_eq_e e (fun c9 e => ?_) (fun c9 e => ?_)
         · exact tr_formOf.j5.walk (O.pick [0]).nm e_2 e
         · refine split_eq_e e (fun c8 e => ?_) (fun c8 e => ?_)
           · exact tr_formOf.j5.walk (O.pick [0]).nm e_2 e
           · refine split_eq_e e (fun c7 e => ?_) (fun c7 e => ?_)
             · exact tr_formOf.j5.walk (O.pick [0]).nm e_2 e
             · exact tr_formOf.j5.walk (O.pick [0]).nm e_2 e
noncomputable def tr_formOf.j3 (y_2 : T_fo) (x_4 : Int) (b_37 : Bool) : Option (T_fo × Bool) :=
 if b_37 = true then (some ((T_fo.mk (2 : Int) (0 : Int) (6 : Int) false false), true)) else (if x_4 = (13 : Int) then (some ((T_fo.mk (0 : Int) (1 : Int) (1 : Int) false true), true)) else (if x_4 = (18 : Int) then (some ((T_fo.mk (0 : Int) (0 : Int) (1 : Int) true true), true)) else (if x_4 = (15 : Int) then ((tr_formOf.j4 y_2 x_4 (x_4 == (15 : Int)))) else ((tr_formOf.j4 y_2 x_4 (x_4 == (23 : Int)))))))
theorem tr_formOf.j3.walk {W h0 m0 h m bk_2 cs_2 y_2 x_4 b_37} (O : Hold W h0 m0 h m [rV bk_2 115 cs_2]) (e_2 : T_fo.E m y_2 cs_2) {r} (e : tr_formOf.j3 y_2 x_4 b_37 = some r) : f71.j3 (tr_formOf.post W h0 m0 r) (⟨bk_2, 0, none⟩ : Addr) x_4 b_37 h := by
 unfold tr_formOf.j3 at e
 refine f71.j3_in ?_
 unfold f71.j3T
 refine split_any_e e (fun c13 e => ?_) (fun c13 e => ?_)
 · refine ⟨_, rfl, rfl, ?_⟩
   refine O.stA 0 rfl ((T_fo.T.len _ _ _ e_2)).symm (Flats.cons trivial (Flats.cons trivial (Flats.cons trivial (Flats.cons trivial (Flats.cons trivial Flats.nil))))) fun h1 O2 => ?_
   refine ⟨_, ldAn (Sub.refl _) (O2.all 0 rfl) rfl, ?_⟩
   have O3 := O2.nm
   cases e
   exact ⟨_, _, O3.pick [], rfl, (show T_fo.E _ (T_fo.mk (2 : Int) (0 : Int) (6 : Int) false false) [(Value.int .i64 (2 : Int)), (Value.int .i64 (0 : Int)), (Value.int .i64 (6 : Int)), (Value.bool false), (Value.bool false)] from rfl)⟩
 · refine split_eq_e e (fun c12 e => ?_) (fun c12 e => ?_)
   · refine ⟨_, rfl, rfl, ?_⟩
     refine O.stA 0 rfl ((T_fo.T.len _ _ _ e_2)).symm (Flats.cons trivial (Flats.cons trivial (Flats.cons trivial (Flats.cons trivial (Flats.cons trivial Flats.nil))))) fun h4 O5 => ?_
     refine ⟨_, ldAn (Sub.refl _) (O5.all 0 rfl) rfl, ?_⟩
     have O6 := O5.nm
     cases e
     exact ⟨_, _, O6.pick [], rfl, (show T_fo.E _ (T_fo.mk (0 : Int) (1 : Int) (1 : Int) false true) [(Value.int .i64 (0 : Int)), (Value.int .i64 (1 : Int)), (Value.int .i64 (1 : Int)), (Value.bool false), (Value.bool true)] from rfl)⟩
   · refine split_eq_e e (fun c11 e => ?_) (fun c11 e => ?_)
     · refine ⟨_, rfl, rfl, ?_⟩
       refine O.stA 0 rfl ((T_fo.T.len _ _ _ e_2)).symm (Flats.cons trivial (Flats.cons trivial (Flats.cons trivial (Flats.cons trivial (Flats.cons trivial Flats.nil))))) fun h7 O8 => ?_
       refine ⟨_, ldAn (Sub.refl _) (O8.all 0 rfl) rfl, ?_⟩
       have O9 := O8.nm
       cases e
       exact ⟨_, _, O9.pick [], rfl, (show T_fo.E _ (T_fo.mk (0 : Int) (0 : Int) (1 : Int) true true) [(Value.int .i64 (0 : Int)), (Value.int .i64 (0 : Int)), (Value.int .i64 (1 : Int)), (Value.bool true), (Value.bool true)] from rfl)⟩
     · refine split_eq_e e (fun c10 e => ?_) (fun c10 e => ?_)
       · exact tr_formOf.j4.walk (O.pick [0]).nm e_2 e
       · exact tr_formOf.j4.walk (O.pick [0]).nm e_2 e
noncomputable def tr_formOf.j2 (y_2 : T_fo) (x_4 : Int) (b_9 : Bool) : Option (T_fo × Bool) :=
 if b_9 = true then (some ((T_fo.mk (0 : Int) (0 : Int) (0 : Int) true false), true)) else (if x_4 = (4 : Int) then (some ((T_fo.mk (3 : Int) (0 : Int) (0 : Int) false false), true)) else (if x_4 = (5 : Int) then (some ((T_fo.mk (1 : Int) (0 : Int) (0 : Int) false false), true)) else (if x_4 = (6 : Int) then (some ((T_fo.mk (1 : Int) (2 : Int) (2 : Int) false false), true)) else (if x_4 = (7 : Int) then (some ((T_fo.mk (0 : Int) (3 : Int) (3 : Int) false false), true)) else (if x_4 = (8 : Int) then (some ((T_fo.mk (4 : Int) (1 : Int) (2 : Int) false false), true)) else (if x_4 = (9 : Int) then (some ((T_fo.mk (1 : Int) (0 : Int) (6 : Int) false false), true)) else (if x_4 = (10 : Int) then (some ((T_fo.mk (0 : Int) (1 : Int) (1 : Int) false false), true)) else (if x_4 = (11 : Int) then (some ((T_fo.mk (0 : Int) (1 : Int) (7 : Int) false false), true)) else (if x_4 = (12 : Int) then ((tr_formOf.j3 y_2 x_4 (x_4 == (12 : Int)))) else ((tr_formOf.j3 y_2 x_4 (x_4 == (14 : Int)))))))))))))
set_option maxHeartbeats 4000000 in
theorem tr_formOf.j2.walk {W h0 m0 h m bk_2 cs_2 y_2 x_4 b_9} (O : Hold W h0 m0 h m [rV bk_2 115 cs_2]) (e_2 : T_fo.E m y_2 cs_2) {r} (e : tr_formOf.j2 y_2 x_4 b_9 = some r) : f71.j2 (tr_formOf.post W h0 m0 r) (⟨bk_2, 0, none⟩ : Addr) x_4 b_9 h := by
 unfold tr_formOf.j2 at e
 refine f71.j2_in ?_
 unfold f71.j2T
 refine split_any_e e (fun c37 e => ?_) (fun c37 e => ?_)
 · refine ⟨_, rfl, rfl, ?_⟩
   refine O.stA 0 rfl ((T_fo.T.len _ _ _ e_2)).symm (Flats.cons trivial (Flats.cons trivial (Flats.cons trivial (Flats.cons trivial (Flats.cons trivial Flats.nil))))) fun h1 O2 => ?_
   refine ⟨_, ldAn (Sub.refl _) (O2.all 0 rfl) rfl, ?_⟩
   have O3 := O2.nm
   cases e
   exact ⟨_, _, O3.pick [], rfl, (show T_fo.E _ (T_fo.mk (0 : Int) (0 : Int) (0 : Int) true false) [(Value.int .i64 (0 : Int)), (Value.int .i64 (0 : Int)), (Value.int .i64 (0 : Int)), (Value.bool true), (Value.bool false)] from rfl)⟩
 · refine split_eq_e e (fun c36 e => ?_) (fun c36 e => ?_)
   · refine ⟨_, rfl, rfl, ?_⟩
     refine O.stA 0 rfl ((T_fo.T.len _ _ _ e_2)).symm (Flats.cons trivial (Flats.cons trivial (Flats.cons trivial (Flats.cons trivial (Flats.cons trivial Flats.nil))))) fun h4 O5 => ?_
     refine ⟨_, ldAn (Sub.refl _) (O5.all 0 rfl) rfl, ?_⟩
     have O6 := O5.nm
     cases e
     exact ⟨_, _, O6.pick [], rfl, (show T_fo.E _ (T_fo.mk (3 : Int) (0 : Int) (0 : Int) false false) [(Value.int .i64 (3 : Int)), (Value.int .i64 (0 : Int)), (Value.int .i64 (0 : Int)), (Value.bool false), (Value.bool false)] from rfl)⟩
   · refine split_eq_e e (fun c35 e => ?_) (fun c35 e => ?_)
     · refine ⟨_, rfl, rfl, ?_⟩
       refine O.stA 0 rfl ((T_fo.T.len _ _ _ e_2)).symm (Flats.cons trivial (Flats.cons trivial (Flats.cons trivial (Flats.cons trivial (Flats.cons trivial Flats.nil))))) fun h7 O8 => ?_
       refine ⟨_, ldAn (Sub.refl _) (O8.all 0 rfl) rfl, ?_⟩
       have O9 := O8.nm
       cases e
       exact ⟨_, _, O9.pick [], rfl, (show T_fo.E _ (T_fo.mk (1 : Int) (0 : Int) (0 : Int) false false) [(Value.int .i64 (1 : Int)), (Value.int .i64 (0 : Int)), (Value.int .i64 (0 : Int)), (Value.bool false), (Value.bool false)] from rfl)⟩
     · refine split_eq_e e (fun c34 e => ?_) (fun c34 e => ?_)
       · refine ⟨_, rfl, rfl, ?_⟩
         refine O.stA 0 rfl ((T_fo.T.len _ _ _ e_2)).symm (Flats.cons trivial (Flats.cons trivial (Flats.cons trivial (Flats.cons trivial (Flats.cons trivial Flats.nil))))) fun h10 O11 => ?_
         refine ⟨_, ldAn (Sub.refl _) (O11.all 0 rfl) rfl, ?_⟩
         have O12 := O11.nm
         cases e
         exact ⟨_, _, O12.pick [], rfl, (show T_fo.E _ (T_fo.mk (1 : Int) (2 : Int) (2 : Int) false false) [(Value.int .i64 (1 : Int)), (Value.int .i64 (2 : Int)), (Value.int .i64 (2 : Int)), (Value.bool false), (Value.bool false)] from rfl)⟩
       · refine split_eq_e e (fun c33 e => ?_) (fun c33 e => ?_)
         · refine ⟨_, rfl, rfl, ?_⟩
           refine O.stA 0 rfl ((T_fo.T.len _ _ _ e_2)).symm (Flats.cons trivial (Flats.cons trivial (Flats.cons trivial (Flats.cons trivial (Flats.cons trivial Flats.nil))))) fun h13 O14 => ?_
           refine ⟨_, ldAn (Sub.refl _) (O14.all 0 rfl) rfl, ?_⟩
           have O15 := O14.nm
           cases e
           exact ⟨_, _, O15.pick [], rfl, (show T_fo.E _ (T_fo.mk (0 : Int) (3 : Int) (3 : Int) false false) [(Value.int .i64 (0 : Int)), (Value.int .i64 (3 : Int)), (Value.int .i64 (3 : Int)), (Value.bool false), (Value.bool false)] from rfl)⟩
         · refine split_eq_e e (fun c32 e => ?_) (fun c32 e => ?_)
           · refine ⟨_, rfl, rfl, ?_⟩
             refine O.stA 0 rfl ((T_fo.T.len _ _ _ e_2)).symm (Flats.cons trivial (Flats.cons trivial (Flats.cons trivial (Flats.cons trivial (Flats.cons trivial Flats.nil))))) fun h16 O17 => ?_
             refine ⟨_, ldAn (Sub.refl _) (O17.all 0 rfl) rfl, ?_⟩
             have O18 := O17.nm
             cases e
             exact ⟨_, _, O18.pick [], rfl, (show T_fo.E _ (T_fo.mk (4 : Int) (1 : Int) (2 : Int) false false) [(Value.int .i64 (4 : Int)), (Value.int .i64 (1 : Int)), (Value.int .i64 (2 : Int)), (Value.bool false), (Value.bool false)] from rfl)⟩
           · refine split_eq_e e (fun c31 e => ?_) (fun c31 e => ?_)
             · refine ⟨_, rfl, rfl, ?_⟩
               refine O.stA 0 rfl ((T_fo.T.len _ _ _ e_2)).symm (Flats.cons trivial (Flats.cons trivial (Flats.cons trivial (Flats.cons trivial (Flats.cons trivial Flats.nil))))) fun h19 O20 => ?_
               refine ⟨_, ldAn (Sub.refl _) (O20.all 0 rfl) rfl, ?_⟩
               have O21 := O20.nm
               cases e
               exact ⟨_, _, O21.pick [], rfl, (show T_fo.E _ (T_fo.mk (1 : Int) (0 : Int) (6 : Int) false false) [(Value.int .i64 (1 : Int)), (Value.int .i64 (0 : Int)), (Value.int .i64 (6 : Int)), (Value.bool false), (Value.bool false)] from rfl)⟩
             · refine split_eq_e e (fun c30 e => ?_) (fun c30 e => ?_)
               · refine ⟨_, rfl, rfl, ?_⟩
                 refine O.stA 0 rfl ((T_fo.T.len _ _ _ e_2)).symm (Flats.cons trivial (Flats.cons trivial (Flats.cons trivial (Flats.cons trivial (Flats.cons trivial Flats.nil))))) fun h22 O23 => ?_
                 refine ⟨_, ldAn (Sub.refl _) (O23.all 0 rfl) rfl, ?_⟩
                 have O24 := O23.nm
                 cases e
                 exact ⟨_, _, O24.pick [], rfl, (show T_fo.E _ (T_fo.mk (0 : Int) (1 : Int) (1 : Int) false false) [(Value.int .i64 (0 : Int)), (Value.int .i64 (1 : Int)), (Value.int .i64 (1 : Int)), (Value.bool false), (Value.bool false)] from rfl)⟩
               · refine split_eq_e e (fun c29 e => ?_) (fun c29 e => ?_)
                 · refine ⟨_, rfl, rfl, ?_⟩
                   refine O.stA 0 rfl ((T_fo.T.len _ _ _ e_2)).symm (Flats.cons trivial (Flats.cons trivial (Flats.cons trivial (Flats.cons trivial (Flats.cons trivial Flats.nil))))) fun h25 O26 => ?_
                   refine ⟨_, ldAn (Sub.refl _) (O26.all 0 rfl) rfl, ?_⟩
                   have O27 := O26.nm
                   cases e
                   exact ⟨_, _, O27.pick [], rfl, (show T_fo.E _ (T_fo.mk (0 : Int) (1 : Int) (7 : Int) false false) [(Value.int .i64 (0 : Int)), (Value.int .i64 (1 : Int)), (Value.int .i64 (7 : Int)), (Value.bool false), (Value.bool false)] from rfl)⟩
                 · refine split_eq_e e (fun c28 e => ?_) (fun c28 e => ?_)
                   · exact tr_formOf.j3.walk (O.pick [0]).nm e_2 e
                   · exact tr_formOf.j3.walk (O.pick [0]).nm e_2 e
noncomputable def tr_formOf.j1 (y_2 : T_fo) (x_4 : Int) (b_5 : Bool) : Option (T_fo × Bool) :=
 if b_5 = true then (some ((T_fo.mk (0 : Int) (0 : Int) (0 : Int) false false), true)) else (if x_4 = (2 : Int) then ((tr_formOf.j2 y_2 x_4 (x_4 == (2 : Int)))) else ((tr_formOf.j2 y_2 x_4 (x_4 == (3 : Int)))))
theorem tr_formOf.j1.walk {W h0 m0 h m bk_2 cs_2 y_2 x_4 b_5} (O : Hold W h0 m0 h m [rV bk_2 115 cs_2]) (e_2 : T_fo.E m y_2 cs_2) {r} (e : tr_formOf.j1 y_2 x_4 b_5 = some r) : f71.j1 (tr_formOf.post W h0 m0 r) (⟨bk_2, 0, none⟩ : Addr) x_4 b_5 h := by
 unfold tr_formOf.j1 at e
 refine f71.j1_in ?_
 unfold f71.j1T
 refine split_any_e e (fun c5 e => ?_) (fun c5 e => ?_)
 · refine ⟨_, rfl, rfl, ?_⟩
   refine O.stA 0 rfl ((T_fo.T.len _ _ _ e_2)).symm (Flats.cons trivial (Flats.cons trivial (Flats.cons trivial (Flats.cons trivial (Flats.cons trivial Flats.nil))))) fun h1 O2 => ?_
   refine ⟨_, ldAn (Sub.refl _) (O2.all 0 rfl) rfl, ?_⟩
   have O3 := O2.nm
   cases e
   exact ⟨_, _, O3.pick [], rfl, (show T_fo.E _ (T_fo.mk (0 : Int) (0 : Int) (0 : Int) false false) [(Value.int .i64 (0 : Int)), (Value.int .i64 (0 : Int)), (Value.int .i64 (0 : Int)), (Value.bool false), (Value.bool false)] from rfl)⟩
 · refine split_eq_e e (fun c4 e => ?_) (fun c4 e => ?_)
   · exact tr_formOf.j2.walk (O.pick [0]).nm e_2 e
   · exact tr_formOf.j2.walk (O.pick [0]).nm e_2 e
noncomputable def tr_formOf (x_0 : Int) : Option (T_fo × Bool) :=
 if x_0 = (1 : Int) then ((tr_formOf.j1 (T_fo.mk (0 : Int) (0 : Int) (0 : Int) false false) x_0 (x_0 == (1 : Int)))) else ((tr_formOf.j1 (T_fo.mk (0 : Int) (0 : Int) (0 : Int) false false) x_0 (x_0 == (16 : Int))))
theorem tr_formOf.walk {W h m x_0} (O : Hold W h m h m []) {r} (e : tr_formOf x_0 = some r) : Run Tryz.prog 71 #[Value.int .i64 x_0] h (tr_formOf.post W h m r) := by
 unfold tr_formOf at e
 refine f71.run ?_
 unfold f71.runT
 refine O.new fun h1 x2 O3 => ?_
 refine split_eq_e e (fun c7 e => ?_) (fun c7 e => ?_)
 · have O5 := O3.nm
   exact tr_formOf.j1.walk (O5.pick [0]).nm (show T_fo.E _ (T_fo.mk (0 : Int) (0 : Int) (0 : Int) false false) [(Value.int .i64 (0 : Int)), (Value.int .i64 (0 : Int)), (Value.int .i64 (0 : Int)), (Value.bool false), (Value.bool false)] from rfl) e
 · have O6 := O3.nm
   exact tr_formOf.j1.walk (O6.pick [0]).nm (show T_fo.E _ (T_fo.mk (0 : Int) (0 : Int) (0 : Int) false false) [(Value.int .i64 (0 : Int)), (Value.int .i64 (0 : Int)), (Value.int .i64 (0 : Int)), (Value.bool false), (Value.bool false)] from rfl) e
def tr_texted.post (W : Nat → Prop) (h0 m0 : Heap) (r : Bool) (v : Value) (h : Heap) : Prop := ∃ m , Hold W h0 m0 h m [] ∧ v = .bool r
noncomputable def tr_texted.j0 (y_2 : T_Expr) (b_31 : Bool) : Option (Bool) :=
 if b_31 = true then (some (((((List.length y_2.Args) : Nat) : Int) == (2 : Int)))) else (some (false))
theorem tr_texted.j0.walk {W h0 m0 h m bk_2 cs_2 y_2 b_31} (O : Hold W h0 m0 h m [rV bk_2 48 cs_2]) (e_2 : T_Expr.E m y_2 cs_2) {r} (e : tr_texted.j0 y_2 b_31 = some r) : f72.j0 (tr_texted.post W h0 m0 r) (⟨bk_2, 0, none⟩ : Addr) b_31 h := by
 unfold tr_texted.j0 at e
 refine f72.j0_in ?_
 unfold f72.j0T
 refine split_any_e e (fun c6 e => ?_) (fun c6 e => ?_)
 · obtain ⟨A1, c2, q3, k4, r5⟩ := T_Expr.g5 e_2
   refine ⟨_, ldk (k := 5) (Sub.refl _) (O.all 0 rfl) q3, _, _, _, rfl, ?_⟩
   cases e
   exact ⟨_, O.pick [], rfl⟩
 · cases e
   exact ⟨_, O.pick [], rfl⟩
noncomputable def tr_texted (y_0 : T_Expr) (x_1 : Int) : Option (Bool) :=
 if x_1 = (0 : Int) then (some ((decide (y_0.Text = (ByteArray.mk #[]))))) else (if x_1 = (1 : Int) then (Option.bind (tk_IsLow y_0.Text) fun y6 => some (y6)) else (if x_1 = (2 : Int) then (Option.bind (tk_IsUp y_0.Text) fun y13 => some (y13)) else (if x_1 = (3 : Int) then (some (true)) else (if y_0.Text = (ByteArray.mk #[110, 111, 116]) then (some (((((List.length y_0.Args) : Nat) : Int) == (1 : Int)))) else (if y_0.Text = (ByteArray.mk #[43]) then ((tr_texted.j0 y_0 (decide (y_0.Text = (ByteArray.mk #[43]))))) else (if y_0.Text = (ByteArray.mk #[45]) then ((tr_texted.j0 y_0 (decide (y_0.Text = (ByteArray.mk #[45]))))) else (if y_0.Text = (ByteArray.mk #[42]) then ((tr_texted.j0 y_0 (decide (y_0.Text = (ByteArray.mk #[42]))))) else (if y_0.Text = (ByteArray.mk #[47]) then ((tr_texted.j0 y_0 (decide (y_0.Text = (ByteArray.mk #[47]))))) else (if y_0.Text = (ByteArray.mk #[37]) then ((tr_texted.j0 y_0 (decide (y_0.Text = (ByteArray.mk #[37]))))) else (if y_0.Text = (ByteArray.mk #[60]) then ((tr_texted.j0 y_0 (decide (y_0.Text = (ByteArray.mk #[60]))))) else (if y_0.Text = (ByteArray.mk #[61]) then ((tr_texted.j0 y_0 (decide (y_0.Text = (ByteArray.mk #[61]))))) else (if y_0.Text = (ByteArray.mk #[94]) then ((tr_texted.j0 y_0 (decide (y_0.Text = (ByteArray.mk #[94]))))) else (if y_0.Text = (ByteArray.mk #[97, 110, 100]) then ((tr_texted.j0 y_0 (decide (y_0.Text = (ByteArray.mk #[97, 110, 100]))))) else ((tr_texted.j0 y_0 (decide (y_0.Text = (ByteArray.mk #[111, 114]))))))))))))))))))
set_option maxHeartbeats 4000000 in
theorem tr_texted.walk {W h m cs_0 y_0 x_1} (O : Hold W h m h m []) (e_0 : T_Expr.E m y_0 cs_0) {r} (e : tr_texted y_0 x_1 = some r) : Run Tryz.prog 72 #[Value.agg cs_0.toArray, Value.int .i64 x_1] h (tr_texted.post W h m r) := by
 unfold tr_texted at e
 refine f72.run ?_
 unfold f72.runT
 refine O.new fun h1 x2 O3 => ?_
 refine split_eq_e e (fun c50 e => ?_) (fun c50 e => ?_)
 · refine ⟨_, ldk (k := 2) (Sub.refl _) (O3.all 0 rfl) (T_Expr.g2 e_0), _, rfl, ?_⟩
   try rw [ba_list y_0.Text (ByteArray.mk #[])]
   have O5 := O3.nm
   cases e
   exact ⟨_, O5.pick [], rfl⟩
 · refine split_eq_e e (fun c49 e => ?_) (fun c49 e => ?_)
   · refine ⟨_, ldk (k := 2) (Sub.refl _) (O3.all 0 rfl) (T_Expr.g2 e_0), _, rfl, ?_⟩
     obtain ⟨y6, g7, e⟩ := bind_e e
     refine (tk_IsLow.walk (Hold.start (W := No) O3.s)  g7).mono ?_
     rintro _ h8 ⟨m9, Q10, rfl⟩
     have O12 := Hold.nm (O3.retC Q10 vfs_nil)
     refine ⟨_, rfl, ?_⟩
     cases e
     exact ⟨_, O12.pick [], rfl⟩
   · refine split_eq_e e (fun c48 e => ?_) (fun c48 e => ?_)
     · refine ⟨_, ldk (k := 2) (Sub.refl _) (O3.all 0 rfl) (T_Expr.g2 e_0), _, rfl, ?_⟩
       obtain ⟨y13, g14, e⟩ := bind_e e
       refine (tk_IsUp.walk (Hold.start (W := No) O3.s)  g14).mono ?_
       rintro _ h15 ⟨m16, Q17, rfl⟩
       have O19 := Hold.nm (O3.retC Q17 vfs_nil)
       refine ⟨_, rfl, ?_⟩
       cases e
       exact ⟨_, O19.pick [], rfl⟩
     · refine split_eq_e e (fun c47 e => ?_) (fun c47 e => ?_)
       · have O20 := O3.nm
         cases e
         exact ⟨_, O20.pick [], rfl⟩
       · refine ⟨_, ldk (k := 2) (Sub.refl _) (O3.all 0 rfl) (T_Expr.g2 e_0), _, rfl, ?_⟩
         try rw [ba_list y_0.Text (ByteArray.mk #[110, 111, 116])]
         refine split_dec_e e (fun c46 e => ?_) (fun c46 e => ?_)
         · obtain ⟨A21, c22, q23, k24, r25⟩ := T_Expr.g5 e_0
           refine ⟨_, ldk (k := 5) (Sub.refl _) (O3.all 0 rfl) q23, _, _, _, rfl, ?_⟩
           have O26 := O3.nm
           cases e
           exact ⟨_, O26.pick [], rfl⟩
         · try rw [ba_list y_0.Text (ByteArray.mk #[43])]
           refine split_dec_e e (fun c45 e => ?_) (fun c45 e => ?_)
           · have O27 := O3.nm
             exact tr_texted.j0.walk (O27.pick [0]).nm e_0 e
           · try rw [ba_list y_0.Text (ByteArray.mk #[45])]
             refine split_dec_e e (fun c44 e => ?_) (fun c44 e => ?_)
             · have O28 := O3.nm
               exact tr_texted.j0.walk (O28.pick [0]).nm e_0 e
             · try rw [ba_list y_0.Text (ByteArray.mk #[42])]
               refine split_dec_e e (fun c43 e => ?_) (fun c43 e => ?_)
               · have O29 := O3.nm
                 exact tr_texted.j0.walk (O29.pick [0]).nm e_0 e
               · try rw [ba_list y_0.Text (ByteArray.mk #[47])]
                 refine split_dec_e e (fun c42 e => ?_) (fun c42 e => ?_)
                 · have O30 := O3.nm
                   exact tr_texted.j0.walk (O30.pick [0]).nm e_0 e
                 · try rw [ba_list y_0.Text (ByteArray.mk #[37])]
                   refine split_dec_e e (fun c41 e => ?_) (fun c41 e => ?_)
                   · have O31 := O3.nm
                     exact tr_texted.j0.walk (O31.pick [0]).nm e_0 e
                   · try rw [ba_list y_0.Text (ByteArray.mk #[60])]
                     refine split_dec_e e (fun c40 e => ?_) (fun c40 e => ?_)
                     · have O32 := O3.nm
                       exact tr_texted.j0.walk (O32.pick [0]).nm e_0 e
                     · try rw [ba_list y_0.Text (ByteArray.mk #[61])]
                       refine split_dec_e e (fun c39 e => ?_) (fun c39 e => ?_)
                       · have O33 := O3.nm
                         exact tr_texted.j0.walk (O33.pick [0]).nm e_0 e
                       · try rw [ba_list y_0.Text (ByteArray.mk #[94])]
                         refine split_dec_e e (fun c38 e => ?_) (fun c38 e => ?_)
                         · have O34 := O3.nm
                           exact tr_texted.j0.walk (O34.pick [0]).nm e_0 e
                         · try rw [ba_list y_0.Text (ByteArray.mk #[97, 110, 100])]
                           refine split_dec_e e (fun c37 e => ?_) (fun c37 e => ?_)
                           · have O35 := O3.nm
                             exact tr_texted.j0.walk (O35.pick [0]).nm e_0 e
                           · try rw [ba_list y_0.Text (ByteArray.mk #[111, 114])]
                             have O36 := O3.nm
                             exact tr_texted.j0.walk (O36.pick [0]).nm e_0 e
def tr_numbered.post (W : Nat → Prop) (h0 m0 : Heap) (r : Bool) (v : Value) (h : Heap) : Prop := ∃ m , Hold W h0 m0 h m [] ∧ v = .bool r
noncomputable def tr_numbered (y_0 : T_Expr) (y_1 : T_fo) : Option (Bool) :=
 if y_0.Kind = (3 : Int) then (if y_0.Num = (0 : Int) then (some (true)) else (some ((y_0.Num == (1 : Int))))) else (if y_0.Kind = (18 : Int) then (if y_0.Num = (-1 : Int) then (if (((List.length y_0.Args) : Nat) : Int) = (0 : Int) then (some (true)) else (if y_0.Num ≥ (0 : Int) then (if y_0.Num ≤ (1000000 : Int) then (some (((((List.length y_0.Args) : Nat) : Int) == (1 : Int)))) else (some (false))) else (some (false)))) else (if y_0.Num ≥ (0 : Int) then (if y_0.Num ≤ (1000000 : Int) then (some (((((List.length y_0.Args) : Nat) : Int) == (1 : Int)))) else (some (false))) else (some (false)))) else (if y_1.num_ = true then (some (true)) else (some ((y_0.Num == (0 : Int))))))
set_option maxHeartbeats 4000000 in
theorem tr_numbered.walk {W h m cs_0 cs_1 y_0 y_1} (O : Hold W h m h m []) (e_0 : T_Expr.E m y_0 cs_0) (e_1 : T_fo.E m y_1 cs_1) {r} (e : tr_numbered y_0 y_1 = some r) : Run Tryz.prog 73 #[Value.agg cs_0.toArray, Value.agg cs_1.toArray] h (tr_numbered.post W h m r) := by
 unfold tr_numbered at e
 refine f73.run ?_
 unfold f73.runT
 refine O.new fun h1 x2 O3 => ?_
 refine O3.new fun h5 x6 O7 => ?_
 refine ⟨_, ld0 (Sub.refl _) (O7.all 0 rfl) (T_Expr.g0 e_0), _, rfl, ?_⟩
 refine split_eq_e e (fun c44 e => ?_) (fun c44 e => ?_)
 · refine ⟨_, ldk (k := 1) (Sub.refl _) (O7.all 0 rfl) (T_Expr.g1 e_0), _, rfl, ?_⟩
   refine split_eq_e e (fun c11 e => ?_) (fun c11 e => ?_)
   · have O9 := O7.nm
     cases e
     exact ⟨_, O9.pick [], rfl⟩
   · refine ⟨_, ldk (k := 1) (Sub.refl _) (O7.all 0 rfl) (T_Expr.g1 e_0), _, rfl, ?_⟩
     have O10 := O7.nm
     cases e
     exact ⟨_, O10.pick [], rfl⟩
 · refine split_eq_e e (fun c43 e => ?_) (fun c43 e => ?_)
   · refine ⟨_, ldk (k := 1) (Sub.refl _) (O7.all 0 rfl) (T_Expr.g1 e_0), _, rfl, ?_⟩
     refine split_eq_e e (fun c39 e => ?_) (fun c39 e => ?_)
     · obtain ⟨A12, c13, q14, k15, r16⟩ := T_Expr.g5 e_0
       refine ⟨_, ldk (k := 5) (Sub.refl _) (O7.all 0 rfl) q14, _, _, _, rfl, ?_⟩
       refine split_eq_e e (fun c28 e => ?_) (fun c28 e => ?_)
       · have O17 := O7.nm
         cases e
         exact ⟨_, O17.pick [], rfl⟩
       · refine ⟨_, ldk (k := 1) (Sub.refl _) (O7.all 0 rfl) (T_Expr.g1 e_0), _, rfl, ?_⟩
         refine split_dec_e e (fun c27 e => ?_) (fun c27 e => ?_)
         · refine ⟨_, ldk (k := 1) (Sub.refl _) (O7.all 0 rfl) (T_Expr.g1 e_0), _, rfl, ?_⟩
           refine split_dec_e e (fun c25 e => ?_) (fun c25 e => ?_)
           · obtain ⟨A18, c19, q20, k21, r22⟩ := T_Expr.g5 e_0
             refine ⟨_, ldk (k := 5) (Sub.refl _) (O7.all 0 rfl) q20, _, _, _, rfl, ?_⟩
             have O23 := O7.nm
             cases e
             exact ⟨_, O23.pick [], rfl⟩
           · have O24 := O7.nm
             cases e
             exact ⟨_, O24.pick [], rfl⟩
         · have O26 := O7.nm
           cases e
           exact ⟨_, O26.pick [], rfl⟩
     · refine ⟨_, ldk (k := 1) (Sub.refl _) (O7.all 0 rfl) (T_Expr.g1 e_0), _, rfl, ?_⟩
       refine split_dec_e e (fun c38 e => ?_) (fun c38 e => ?_)
       · refine ⟨_, ldk (k := 1) (Sub.refl _) (O7.all 0 rfl) (T_Expr.g1 e_0), _, rfl, ?_⟩
         refine split_dec_e e (fun c36 e => ?_) (fun c36 e => ?_)
         · obtain ⟨A29, c30, q31, k32, r33⟩ := T_Expr.g5 e_0
           refine ⟨_, ldk (k := 5) (Sub.refl _) (O7.all 0 rfl) q31, _, _, _, rfl, ?_⟩
           have O34 := O7.nm
           cases e
           exact ⟨_, O34.pick [], rfl⟩
         · have O35 := O7.nm
           cases e
           exact ⟨_, O35.pick [], rfl⟩
       · have O37 := O7.nm
         cases e
         exact ⟨_, O37.pick [], rfl⟩
   · refine ⟨_, ldk (k := 3) (Sub.refl _) (O7.all 1 rfl) (T_fo.g3 e_1), _, rfl, ?_⟩
     refine split_any_e e (fun c42 e => ?_) (fun c42 e => ?_)
     · have O40 := O7.nm
       cases e
       exact ⟨_, O40.pick [], rfl⟩
     · refine ⟨_, ldk (k := 1) (Sub.refl _) (O7.all 0 rfl) (T_Expr.g1 e_0), _, rfl, ?_⟩
       have O41 := O7.nm
       cases e
       exact ⟨_, O41.pick [], rfl⟩
end Go.Proofs.YtkbhpagogmmgnaaGreatDoor.Fw

end
