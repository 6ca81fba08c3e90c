/- Data of the given program, and pure functions of its functions, with the walks. Printed by a program of this session. -/
import Derived.Test.YtilmfjdagnbbaaaFwHeapPuts
import Derived.Test.YtilmfjdagnbbaaaHwW
namespace Go.Proofs.Ytilmfjdagnbbaaa.Fw
open Go Go.Hw Go.Proofs
set_option linter.unusedVariables false

structure T_heap_Object where
  At : Int
  Kind : Int
  Num : Int
  Text : ByteArray
  Parts : (List Int)
def T_heap_Object.E (h : Heap) (x : T_heap_Object) (cs : List Value) : Prop := ∃ A4 c4, cs = [.int .i64 x.At, .int .i64 x.Kind, .int .i64 x.Num, .string x.Text, .slice A4 x.Parts.length c4] ∧ x.Parts.length ≤ c4 ∧ Rd 1 (eInt .u64) h A4 x.Parts
theorem T_heap_Object.T : Tell 5 T_heap_Object.E := ⟨by rintro m h x _ s ⟨A4, c4, rfl, k4, r4⟩; exact ⟨_, _, rfl, k4, r4.sub (tell_int .u64) s⟩, by rintro h x _ ⟨A4, c4, rfl, k4, r4⟩; rfl, by rintro h x _ ⟨A4, c4, rfl, k4, r4⟩; exact Flats.cons trivial (Flats.cons trivial (Flats.cons trivial (Flats.cons trivial (Flats.cons trivial Flats.nil))))⟩
def T_heap_Object.Q (x : T_heap_Object) : Prop := (-9223372036854775808 ≤ x.At ∧ x.At ≤ 9223372036854775807) ∧ (-9223372036854775808 ≤ x.Kind ∧ x.Kind ≤ 9223372036854775807) ∧ (-9223372036854775808 ≤ x.Num ∧ x.Num ≤ 9223372036854775807) ∧ (x.Text.size ≤ 140737488351232) ∧ (x.Parts.length * 8 ≤ 140737488351232 ∧ ∀ a ∈ x.Parts, (0 ≤ a ∧ a ≤ 18446744073709551615))
theorem T_heap_Object.tells {H : Type} {enc : TypeId × Value → H} {W : World} : Tells enc Try.prog W 88 T_heap_Object.E T_heap_Object.Q := tells_map (tells_struct (t := 88) (fs := [(3, 0), (3, 1), (3, 2), (9, 3), (85, 4)]) (T := 5) (by kernel_rfl) (by kernel_rfl) (tf_cons (s := 1) (f := 3) (by kernel_rfl) (tells_i64 (t := 3) (by kernel_rfl)) (tf_cons (s := 1) (f := 3) (by kernel_rfl) (tells_i64 (t := 3) (by kernel_rfl)) (tf_cons (s := 1) (f := 3) (by kernel_rfl) (tells_i64 (t := 3) (by kernel_rfl)) (tf_cons (s := 1) (f := 9) (by kernel_rfl) (tells_strL (t := 9) (by kernel_rfl)) (tf_cons (s := 1) (f := 85) (by kernel_rfl) (tells_sliceL (t := 85) (e := 105) (sz := 1) (B := 8) (by kernel_rfl) (by kernel_rfl) (by kernel_rfl) (tells_u64 (t := 105) (by kernel_rfl))) tf_nil)))))) (by
  rintro ⟨x0, x1, x2, x3, x4, ⟨⟩⟩ cs e q
  obtain ⟨c0, r0, rfl, e0, c1, r1, rfl, e1, c2, r2, rfl, e2, c3, r3, rfl, e3, c4, r4, rfl, e4, eN⟩ := e
  obtain rfl : c0 = [.int .i64 x0] := e0
  obtain rfl : c1 = [.int .i64 x1] := e1
  obtain rfl : c2 = [.int .i64 x2] := e2
  obtain rfl : c3 = [.string x3] := e3
  obtain ⟨A4, k4, rfl, l4, R4⟩ := e4
  obtain rfl : r4 = [] := eN
  exact ⟨⟨x0, x1, x2, x3, x4⟩, ⟨_, _, rfl, l4, R4⟩, q.1, q.2.1, q.2.2.1, q.2.2.2.1, q.2.2.2.2.1⟩)

/-! ### 109 roadstead/heap.right -/
def heap_right.post (W : Nat → Prop) (h0 m0 : Heap) (r : Bool) (v : Value) (h : Heap) : Prop := ∃ m , St W h0 m0 h m ∧ v = .bool r
noncomputable def heap_right.j0 (y1 : T_heap_Object) : Option (Bool) :=
  if y1.Kind = (5 : Int) then (some ((decide ((((List.length y1.Parts) : Nat) : Int) ≤ (1 : Int))))) else (some (true))
set_option maxRecDepth 100000 in
theorem heap_right.j0.walk {h0 m0 h m : Heap} {bk1 : Nat} {cs1 : List Value} {y1 : T_heap_Object} (S : St No h0 m0 h m) (o1 : OB No h0 h m bk1 cs1 88) (e1 : T_heap_Object.E m y1 cs1) {r : Bool} (e : heap_right.j0 y1 = some r) : f109.j0 (heap_right.post No h0 m0 r) (⟨bk1, 0, none⟩ : Addr) h := by
  unfold heap_right.j0 at e
  obtain ⟨Ae1_4, ce1_4, rfl, ke1_4, re1_4⟩ := e1
  refine f109.j0_in ?_
  unfold f109.j0T
  refine ⟨_, ldk (k := 1) (Sub.refl _) o1.all rfl, _, rfl, ?_⟩
  refine split_ne_e e (fun c16 e => ?_) (fun c16 e => ?_)
  · cases e
    exact ⟨_, S, rfl⟩
  · refine ⟨_, ldk (k := 4) (Sub.refl _) o1.all rfl, _, _, _, rfl, ?_⟩
    cases e
    exact ⟨_, S, rfl⟩

noncomputable def heap_right.j3 (y1 : T_heap_Object) (b24 : Bool) : Option (Bool) :=
  if b24 = true then (if b24 = true then (some (false)) else ((heap_right.j0 y1))) else (if y1.Kind = (1 : Int) then ((heap_right.j0 y1)) else (if y1.Kind = (4 : Int) then ((heap_right.j0 y1)) else (if y1.Num = (0 : Int) then ((heap_right.j0 y1)) else (some (false)))))
set_option maxRecDepth 100000 in
theorem heap_right.j3.walk {h0 m0 h m : Heap} {bk1 : Nat} {cs1 : List Value} {y1 : T_heap_Object} {b24 : Bool} (S : St No h0 m0 h m) (o1 : OB No h0 h m bk1 cs1 88) (e1 : T_heap_Object.E m y1 cs1) {r : Bool} (e : heap_right.j3 y1 b24 = some r) : f109.j3 (heap_right.post No h0 m0 r) (⟨bk1, 0, none⟩ : Addr) b24 h := by
  unfold heap_right.j3 at e
  obtain ⟨Ae1_4, ce1_4, rfl, ke1_4, re1_4⟩ := e1
  refine f109.j3_in ?_
  unfold f109.j3T
  refine split_any_e e (fun c21 e => ?_) (fun c21 e => ?_)
  · refine split_any_e e (fun c17 e => ?_) (fun c17 e => ?_)
    · cases e
      exact ⟨_, S, rfl⟩
    · exact heap_right.j0.walk S o1 (show T_heap_Object.E _ y1 [(Value.int .i64 y1.At), (Value.int .i64 y1.Kind), (Value.int .i64 y1.Num), (Value.string y1.Text), (Value.slice Ae1_4 (List.length y1.Parts) ce1_4)] from ⟨_, _, rfl, ke1_4, re1_4⟩) e
  · refine ⟨_, ldk (k := 1) (Sub.refl _) o1.all rfl, _, rfl, ?_⟩
    refine split_ne_e e (fun c20 e => ?_) (fun c20 e => ?_)
    · refine ⟨_, ldk (k := 1) (Sub.refl _) o1.all rfl, _, rfl, ?_⟩
      refine split_ne_e e (fun c19 e => ?_) (fun c19 e => ?_)
      · refine ⟨_, ldk (k := 2) (Sub.refl _) o1.all rfl, _, rfl, ?_⟩
        refine split_ne_e e (fun c18 e => ?_) (fun c18 e => ?_)
        · cases e
          exact ⟨_, S, rfl⟩
        · exact heap_right.j0.walk S o1 (show T_heap_Object.E _ y1 [(Value.int .i64 y1.At), (Value.int .i64 y1.Kind), (Value.int .i64 y1.Num), (Value.string y1.Text), (Value.slice Ae1_4 (List.length y1.Parts) ce1_4)] from ⟨_, _, rfl, ke1_4, re1_4⟩) e
      · exact heap_right.j0.walk S o1 (show T_heap_Object.E _ y1 [(Value.int .i64 y1.At), (Value.int .i64 y1.Kind), (Value.int .i64 y1.Num), (Value.string y1.Text), (Value.slice Ae1_4 (List.length y1.Parts) ce1_4)] from ⟨_, _, rfl, ke1_4, re1_4⟩) e
    · exact heap_right.j0.walk S o1 (show T_heap_Object.E _ y1 [(Value.int .i64 y1.At), (Value.int .i64 y1.Kind), (Value.int .i64 y1.Num), (Value.string y1.Text), (Value.slice Ae1_4 (List.length y1.Parts) ce1_4)] from ⟨_, _, rfl, ke1_4, re1_4⟩) e

noncomputable def heap_right.j2 (y1 : T_heap_Object) (b24 : Bool) : Option (Bool) :=
  if b24 = true then (if b24 = true then (some (false)) else ((heap_right.j0 y1))) else (if y1.Kind = (2 : Int) then ((heap_right.j3 y1 false)) else (if y1.Kind = (3 : Int) then ((heap_right.j3 y1 false)) else ((heap_right.j3 y1 (!(decide (y1.Text = (ByteArray.mk #[]))))))))
set_option maxRecDepth 100000 in
theorem heap_right.j2.walk {h0 m0 h m : Heap} {bk1 : Nat} {cs1 : List Value} {y1 : T_heap_Object} {b24 : Bool} (S : St No h0 m0 h m) (o1 : OB No h0 h m bk1 cs1 88) (e1 : T_heap_Object.E m y1 cs1) {r : Bool} (e : heap_right.j2 y1 b24 = some r) : f109.j2 (heap_right.post No h0 m0 r) (⟨bk1, 0, none⟩ : Addr) b24 h := by
  unfold heap_right.j2 at e
  obtain ⟨Ae1_4, ce1_4, rfl, ke1_4, re1_4⟩ := e1
  refine f109.j2_in ?_
  unfold f109.j2T
  refine split_any_e e (fun c15 e => ?_) (fun c15 e => ?_)
  · refine split_any_e e (fun c12 e => ?_) (fun c12 e => ?_)
    · cases e
      exact ⟨_, S, rfl⟩
    · exact heap_right.j0.walk S o1 (show T_heap_Object.E _ y1 [(Value.int .i64 y1.At), (Value.int .i64 y1.Kind), (Value.int .i64 y1.Num), (Value.string y1.Text), (Value.slice Ae1_4 (List.length y1.Parts) ce1_4)] from ⟨_, _, rfl, ke1_4, re1_4⟩) e
  · refine ⟨_, ldk (k := 1) (Sub.refl _) o1.all rfl, _, rfl, ?_⟩
    refine split_ne_e e (fun c14 e => ?_) (fun c14 e => ?_)
    · refine ⟨_, ldk (k := 1) (Sub.refl _) o1.all rfl, _, rfl, ?_⟩
      refine split_ne_e e (fun c13 e => ?_) (fun c13 e => ?_)
      · refine ⟨_, ldk (k := 3) (Sub.refl _) o1.all rfl, _, rfl, ?_⟩
        try rw [ba_list y1.Text (ByteArray.mk #[])]
        exact heap_right.j3.walk S o1 (show T_heap_Object.E _ y1 [(Value.int .i64 y1.At), (Value.int .i64 y1.Kind), (Value.int .i64 y1.Num), (Value.string y1.Text), (Value.slice Ae1_4 (List.length y1.Parts) ce1_4)] from ⟨_, _, rfl, ke1_4, re1_4⟩) e
      · exact heap_right.j3.walk S o1 (show T_heap_Object.E _ y1 [(Value.int .i64 y1.At), (Value.int .i64 y1.Kind), (Value.int .i64 y1.Num), (Value.string y1.Text), (Value.slice Ae1_4 (List.length y1.Parts) ce1_4)] from ⟨_, _, rfl, ke1_4, re1_4⟩) e
    · exact heap_right.j3.walk S o1 (show T_heap_Object.E _ y1 [(Value.int .i64 y1.At), (Value.int .i64 y1.Kind), (Value.int .i64 y1.Num), (Value.string y1.Text), (Value.slice Ae1_4 (List.length y1.Parts) ce1_4)] from ⟨_, _, rfl, ke1_4, re1_4⟩) e

noncomputable def heap_right.j1 (y1 : T_heap_Object) (b3 : Bool) : Option (Bool) :=
  if b3 = true then (some (false)) else (if y1.Kind = (1 : Int) then ((heap_right.j2 y1 (decide ((((List.length y1.Parts) : Nat) : Int) > (0 : Int))))) else (if y1.Kind = (2 : Int) then ((heap_right.j2 y1 (decide ((((List.length y1.Parts) : Nat) : Int) > (0 : Int))))) else ((heap_right.j2 y1 false))))
set_option maxRecDepth 100000 in
theorem heap_right.j1.walk {h0 m0 h m : Heap} {bk1 : Nat} {cs1 : List Value} {y1 : T_heap_Object} {b3 : Bool} (S : St No h0 m0 h m) (o1 : OB No h0 h m bk1 cs1 88) (e1 : T_heap_Object.E m y1 cs1) {r : Bool} (e : heap_right.j1 y1 b3 = some r) : f109.j1 (heap_right.post No h0 m0 r) (⟨bk1, 0, none⟩ : Addr) b3 h := by
  unfold heap_right.j1 at e
  obtain ⟨Ae1_4, ce1_4, rfl, ke1_4, re1_4⟩ := e1
  refine f109.j1_in ?_
  unfold f109.j1T
  refine split_any_e e (fun c11 e => ?_) (fun c11 e => ?_)
  · cases e
    exact ⟨_, S, rfl⟩
  · refine ⟨_, ldk (k := 1) (Sub.refl _) o1.all rfl, _, rfl, ?_⟩
    refine split_eq_e e (fun c10 e => ?_) (fun c10 e => ?_)
    · refine ⟨_, ldk (k := 4) (Sub.refl _) o1.all rfl, _, _, _, rfl, ?_⟩
      exact heap_right.j2.walk S o1 (show T_heap_Object.E _ y1 [(Value.int .i64 y1.At), (Value.int .i64 y1.Kind), (Value.int .i64 y1.Num), (Value.string y1.Text), (Value.slice Ae1_4 (List.length y1.Parts) ce1_4)] from ⟨_, _, rfl, ke1_4, re1_4⟩) e
    · refine ⟨_, ldk (k := 1) (Sub.refl _) o1.all rfl, _, rfl, ?_⟩
      refine split_eq_e e (fun c9 e => ?_) (fun c9 e => ?_)
      · refine ⟨_, ldk (k := 4) (Sub.refl _) o1.all rfl, _, _, _, rfl, ?_⟩
        exact heap_right.j2.walk S o1 (show T_heap_Object.E _ y1 [(Value.int .i64 y1.At), (Value.int .i64 y1.Kind), (Value.int .i64 y1.Num), (Value.string y1.Text), (Value.slice Ae1_4 (List.length y1.Parts) ce1_4)] from ⟨_, _, rfl, ke1_4, re1_4⟩) e
      · exact heap_right.j2.walk S o1 (show T_heap_Object.E _ y1 [(Value.int .i64 y1.At), (Value.int .i64 y1.Kind), (Value.int .i64 y1.Num), (Value.string y1.Text), (Value.slice Ae1_4 (List.length y1.Parts) ce1_4)] from ⟨_, _, rfl, ke1_4, re1_4⟩) e

noncomputable def heap_right (y0 : T_heap_Object) : Option (Bool) :=
  if ((ByteArray.size y0.Text : Nat) : Int) > (64 : Int) then ((heap_right.j1 y0 true)) else (if (((List.length y0.Parts) : Nat) : Int) > (400 : Int) then ((heap_right.j1 y0 true)) else (if y0.Kind < (1 : Int) then ((heap_right.j1 y0 true)) else ((heap_right.j1 y0 (decide (y0.Kind > (5 : Int)))))))
set_option maxRecDepth 100000 in
theorem heap_right.walk {h m : Heap} {cs0 : List Value} {y0 : T_heap_Object} (s : Sub m h) (e0 : T_heap_Object.E m y0 cs0) {r : Bool} (e : heap_right y0 = some r) : Run Try.prog 109 #[Value.agg cs0.toArray] h (heap_right.post No h m r) := by
  unfold heap_right at e
  obtain ⟨Ae0_4, ce0_4, rfl, ke0_4, re0_4⟩ := e0
  have S : St No h m h m := .refl s
  refine f109.run ?_
  unfold f109.runT
  refine new_in S fun h1 o2 x3 => ?_
  have S4 := S.ext' x3
  have o2 : OB _ _ h1 _ (Array.size h) [(Value.int .i64 y0.At), (Value.int .i64 y0.Kind), (Value.int .i64 y0.Num), (Value.string y0.Text), (Value.slice Ae0_4 (List.length y0.Parts) ce0_4)] 88 := o2
  refine ⟨_, ldk (k := 3) (Sub.refl _) o2.all rfl, _, rfl, ?_⟩
  refine split_dec_e e (fun c8 e => ?_) (fun c8 e => ?_)
  · exact heap_right.j1.walk S4 o2 (show T_heap_Object.E _ y0 [(Value.int .i64 y0.At), (Value.int .i64 y0.Kind), (Value.int .i64 y0.Num), (Value.string y0.Text), (Value.slice Ae0_4 (List.length y0.Parts) ce0_4)] from ⟨_, _, rfl, ke0_4, re0_4⟩) e
  · refine ⟨_, ldk (k := 4) (Sub.refl _) o2.all rfl, _, _, _, rfl, ?_⟩
    refine split_dec_e e (fun c7 e => ?_) (fun c7 e => ?_)
    · exact heap_right.j1.walk S4 o2 (show T_heap_Object.E _ y0 [(Value.int .i64 y0.At), (Value.int .i64 y0.Kind), (Value.int .i64 y0.Num), (Value.string y0.Text), (Value.slice Ae0_4 (List.length y0.Parts) ce0_4)] from ⟨_, _, rfl, ke0_4, re0_4⟩) e
    · refine ⟨_, ldk (k := 1) (Sub.refl _) o2.all rfl, _, rfl, ?_⟩
      refine split_dec_e e (fun c6 e => ?_) (fun c6 e => ?_)
      · exact heap_right.j1.walk S4 o2 (show T_heap_Object.E _ y0 [(Value.int .i64 y0.At), (Value.int .i64 y0.Kind), (Value.int .i64 y0.Num), (Value.string y0.Text), (Value.slice Ae0_4 (List.length y0.Parts) ce0_4)] from ⟨_, _, rfl, ke0_4, re0_4⟩) e
      · refine ⟨_, ldk (k := 1) (Sub.refl _) o2.all rfl, _, rfl, ?_⟩
        exact heap_right.j1.walk S4 o2 (show T_heap_Object.E _ y0 [(Value.int .i64 y0.At), (Value.int .i64 y0.Kind), (Value.int .i64 y0.Num), (Value.string y0.Text), (Value.slice Ae0_4 (List.length y0.Parts) ce0_4)] from ⟨_, _, rfl, ke0_4, re0_4⟩) e

/-! ### 110 roadstead/heap.room -/
def heap_room.post (W : Nat → Prop) (h0 m0 : Heap) (r : Int) (v : Value) (h : Heap) : Prop := ∃ m , St W h0 m0 h m ∧ v = .int .i64 r
noncomputable def heap_room.j0 (x7 : Int) (b19 : Bool) : Option (Int) :=
  if b19 = true then (some ((IntKind.wrap .i64 (x7 + (1 : Int))))) else (some (x7))
set_option maxRecDepth 100000 in
theorem heap_room.j0.walk {h0 m0 h m : Heap} {x7 : Int} {b19 : Bool} (S : St No h0 m0 h m)  {r : Int} (e : heap_room.j0 x7 b19 = some r) : f110.j0 (heap_room.post No h0 m0 r) x7 b19 h := by
  unfold heap_room.j0 at e
  refine f110.j0_in ?_
  unfold f110.j0T
  refine split_any_e e (fun c2 e => ?_) (fun c2 e => ?_)
  · cases e
    exact ⟨_, S, rfl⟩
  · cases e
    exact ⟨_, S, rfl⟩

noncomputable def heap_room (x0 : Int) (x1 : Int) (x2 : Int) : Option (Int) :=
  if x0 = (1 : Int) then ((heap_room.j0 (IntKind.wrap .i64 ((IntKind.wrap .i64 ((1 : Int) + (IntKind.wrap .i64 (Int.tdiv (IntKind.wrap .i64 (x1 + (7 : Int))) (8 : Int))))) + x2)) true)) else ((heap_room.j0 (IntKind.wrap .i64 ((IntKind.wrap .i64 ((1 : Int) + (IntKind.wrap .i64 (Int.tdiv (IntKind.wrap .i64 (x1 + (7 : Int))) (8 : Int))))) + x2)) (x0 == (4 : Int))))
set_option maxRecDepth 100000 in
theorem heap_room.walk {h m : Heap} {x0 : Int} {x1 : Int} {x2 : Int} (s : Sub m h)  {r : Int} (e : heap_room x0 x1 x2 = some r) : Run Try.prog 110 #[Value.int .i64 x0, Value.int .i64 x1, Value.int .i64 x2] h (heap_room.post No h m r) := by
  unfold heap_room at e
  have S : St No h m h m := .refl s
  refine f110.run ?_
  unfold f110.runT
  refine ⟨by decide, ?_⟩
  refine split_eq_e e (fun c1 e => ?_) (fun c1 e => ?_)
  · exact heap_room.j0.walk S  e
  · exact heap_room.j0.walk S  e

/-! ### 111 slices.Clone[roadstead/heap.Heap,uint64] -/
def slices_Clone_111.post (W : Nat → Prop) (h0 m0 : Heap) (r : (List Int)) (v : Value) (h : Heap) : Prop := ∃ m A0 n0 c0, St W h0 m0 h m ∧ v = .slice A0 n0 c0 ∧ n0 = r.length ∧ OS W h0 1 (eInt .u64) h m A0 r c0
noncomputable def slices_Clone_111 (a0 : List Int) : Option (List Int) := ap 8 ([] : List Int) a0
set_option maxRecDepth 100000 in
theorem slices_Clone_111.walk {h m : Heap} {A0 : Option Addr} {n0 c0 : Nat} {a0 : List Int} (s : Sub m h) (ne0 : n0 = List.length a0) (k0 : List.length a0 ≤ c0) (r0 : Rd 1 (eInt .u64) m A0 a0) {r : List Int} (e : slices_Clone_111 a0 = some r) : Run Try.prog 111 #[Value.slice A0 n0 c0] h (slices_Clone_111.post No h m r) := by
  unfold slices_Clone_111 at e
  subst ne0
  have S : St No h m h m := .refl s
  refine f111.run ?_
  unfold f111.runT
  cases A0 with
  | none =>
    refine split_t ?_
    obtain rfl := Rd.void r0
    obtain rfl : [] = r := by have := (ap_e e).2; simpa using this
    exact ⟨m, none, 0, 0, S, rfl, rfl, OS.nil⟩
  | some a =>
    refine split_f ?_
    refine new_in S fun h1 _ x1 => ?_
    have S1 := S.ext' x1
    have o2 : OS No h 1 (eInt .u64) h1 m (some ⟨Array.size h, 0, none⟩) ([] : List Int) 0 := .inl ⟨rfl, rfl⟩
    refine o2.app (tell_int .u64) S1 rfl rfl (r0.srcE (tell_int .u64) S1.s rfl) (by decide) e fun A4 c4 h4 o4 t4 n4 => ?_
    refine ⟨_, _, _, rfl, ?_⟩
    exact ⟨m, _, _, _, S1.then t4 (fun i _ hi => o2.wr i hi), rfl, rfl, o4⟩
theorem slices_Clone_111.val (l : List Int) (h : l.length * 8 ≤ 140737488355328) : slices_Clone_111 l = some l := ap_nil h

/-! ### 112 roadstead/heap.head -/
def heap_head.post (W : Nat → Prop) (h0 m0 : Heap) (r : Int) (v : Value) (h : Heap) : Prop := ∃ m , St W h0 m0 h m ∧ v = .int .u64 r
noncomputable def heap_head (y0 : T_heap_Object) : Option (Int) :=
  some ((bitsI .or .u64 (bitsI .or .u64 (IntKind.wrap .u64 y0.Kind) (shlI .u64 (IntKind.wrap .u64 ((ByteArray.size y0.Text : Nat) : Int)) (8 : Int))) (shlI .u64 (IntKind.wrap .u64 (((List.length y0.Parts) : Nat) : Int)) (20 : Int))))
set_option maxRecDepth 100000 in
theorem heap_head.walk {h m : Heap} {cs0 : List Value} {y0 : T_heap_Object} (s : Sub m h) (e0 : T_heap_Object.E m y0 cs0) {r : Int} (e : heap_head y0 = some r) : Run Try.prog 112 #[Value.agg cs0.toArray] h (heap_head.post No h m r) := by
  unfold heap_head at e
  obtain ⟨Ae0_4, ce0_4, rfl, ke0_4, re0_4⟩ := e0
  have S : St No h m h m := .refl s
  refine f112.run ?_
  unfold f112.runT
  refine new_in S fun h1 o2 x3 => ?_
  have S4 := S.ext' x3
  have o2 : OB _ _ h1 _ (Array.size h) [(Value.int .i64 y0.At), (Value.int .i64 y0.Kind), (Value.int .i64 y0.Num), (Value.string y0.Text), (Value.slice Ae0_4 (List.length y0.Parts) ce0_4)] 88 := o2
  refine ⟨_, ldk (k := 1) (Sub.refl _) o2.all rfl, _, rfl, ?_⟩
  refine ⟨_, ldk (k := 3) (Sub.refl _) o2.all rfl, _, rfl, ?_⟩
  refine ⟨by decide, ?_⟩
  refine ⟨_, ldk (k := 4) (Sub.refl _) o2.all rfl, _, _, _, rfl, ?_⟩
  refine ⟨by decide, ?_⟩
  cases e
  exact ⟨_, S4, rfl⟩

/-! ### 42 roadstead/heap.Put -/
def heap_Put.post (W : Nat → Prop) (h0 m0 : Heap) (r : (List Int) × Int × Int) (v : Value) (h : Heap) : Prop := ∃ m A0 n0 c0, St W h0 m0 h m ∧ v = .tuple #[.slice A0 n0 c0, .int .i64 r.2.1, .int .i64 r.2.2] ∧ n0 = r.1.length ∧ OS W h0 1 (eInt .u64) h m A0 r.1 c0
inductive heap_Put.l0_k.Pt where
  | l0 (a0 : List Int) (y3 : T_heap_Object) (a7 : List Int) (x8 : Int)
  | l1 (a0 : List Int) (y3 : T_heap_Object) (a7 : List Int) (x8 : Int) (x9 : Int) (x56 : Int)
noncomputable def heap_Put.l0_k.body (go : (p : heap_Put.l0_k.Pt) → Option ((List Int) × Int × Int)) : (p : heap_Put.l0_k.Pt) → Option ((List Int) × Int × Int)
  | .l0 a0 y3 a7 x8 => if x8 < ((ByteArray.size y3.Text : Nat) : Int) then ((go (.l1 a0 y3 a7 x8 (0 : Int) (0 : Int)))) else (Option.bind (ap 8 a7 y3.Parts) fun l100 => some (l100, (((List.length a0) : Nat) : Int), (0 : Int)))
  | .l1 a0 y3 a7 x8 x9 x56 => if x56 < (8 : Int) then (if (IntKind.wrap .i64 (x8 + x56)) < ((ByteArray.size y3.Text : Nat) : Int) then (Option.bind (gb y3.Text (IntKind.wrap .i64 (x8 + x56))) fun y113 => if 0 ≤ (IntKind.wrap .i64 ((8 : Int) * x56)) then ((go (.l1 a0 y3 a7 x8 (bitsI .or .u64 x9 (shlI .u64 (IntKind.wrap .u64 y113) (IntKind.wrap .i64 ((8 : Int) * x56)))) (IntKind.wrap .i64 (x56 + (1 : Int)))))) else none) else ((go (.l1 a0 y3 a7 x8 x9 (IntKind.wrap .i64 (x56 + (1 : Int))))))) else (Option.bind (ap 8 a7 ([x9] : List Int)) fun l131 => (go (.l0 a0 y3 l131 (IntKind.wrap .i64 (x8 + (8 : Int))))))
theorem heap_Put.l0_k.mono : MonoF (β := fun _ => ((List Int) × Int × Int)) heap_Put.l0_k.body := fun f g hfg p => match p with
  | .l0 a0 y3 a7 x8 => LeO.ite ((hfg _)) (LeO.bind (LeO.refl _) fun l100 => LeO.refl _)
  | .l1 a0 y3 a7 x8 x9 x56 => LeO.ite (LeO.ite (LeO.bind (LeO.refl _) fun y113 => LeO.ite ((hfg _)) (LeO.refl _)) ((hfg _))) (LeO.bind (LeO.refl _) fun l131 => (hfg _))
noncomputable def heap_Put.l0_k.go (p : heap_Put.l0_k.Pt) : Option ((List Int) × Int × Int) := fixF (β := fun _ => ((List Int) × Int × Int)) heap_Put.l0_k.body p
noncomputable def heap_Put.l0 (a0 : List Int) (y3 : T_heap_Object) (a7 : List Int) (x8 : Int) : Option ((List Int) × Int × Int) := heap_Put.l0_k.go (.l0 a0 y3 a7 x8)
noncomputable def heap_Put.l1 (a0 : List Int) (y3 : T_heap_Object) (a7 : List Int) (x8 : Int) (x9 : Int) (x56 : Int) : Option ((List Int) × Int × Int) := heap_Put.l0_k.go (.l1 a0 y3 a7 x8 x9 x56)
theorem heap_Put.l0_eq (a0 : List Int) (y3 : T_heap_Object) (a7 : List Int) (x8 : Int) : heap_Put.l0 a0 y3 a7 x8 = if x8 < ((ByteArray.size y3.Text : Nat) : Int) then ((heap_Put.l1 a0 y3 a7 x8 (0 : Int) (0 : Int))) else (Option.bind (ap 8 a7 y3.Parts) fun l100 => some (l100, (((List.length a0) : Nat) : Int), (0 : Int))) := fixF_eq heap_Put.l0_k.mono _
theorem heap_Put.l1_eq (a0 : List Int) (y3 : T_heap_Object) (a7 : List Int) (x8 : Int) (x9 : Int) (x56 : Int) : heap_Put.l1 a0 y3 a7 x8 x9 x56 = if x56 < (8 : Int) then (if (IntKind.wrap .i64 (x8 + x56)) < ((ByteArray.size y3.Text : Nat) : Int) then (Option.bind (gb y3.Text (IntKind.wrap .i64 (x8 + x56))) fun y113 => if 0 ≤ (IntKind.wrap .i64 ((8 : Int) * x56)) then ((heap_Put.l1 a0 y3 a7 x8 (bitsI .or .u64 x9 (shlI .u64 (IntKind.wrap .u64 y113) (IntKind.wrap .i64 ((8 : Int) * x56)))) (IntKind.wrap .i64 (x56 + (1 : Int))))) else none) else ((heap_Put.l1 a0 y3 a7 x8 x9 (IntKind.wrap .i64 (x56 + (1 : Int)))))) else (Option.bind (ap 8 a7 ([x9] : List Int)) fun l131 => (heap_Put.l0 a0 y3 l131 (IntKind.wrap .i64 (x8 + (8 : Int))))) := fixF_eq heap_Put.l0_k.mono _
def heap_Put.l0_k.I : (p : heap_Put.l0_k.Pt) → ((List Int) × Int × Int) → Prop
  | .l0 a0 y3 a7 x8, r => ∀ (h0 m0 h m : Heap) (A0 : Option Addr) (n0 c0 : Nat) (bk3 : Nat) (cs3 : List Value) (A7 : Option Addr) (n7 c7 : Nat) (S : St No h0 m0 h m) (ne0 : n0 = List.length a0) (k0 : List.length a0 ≤ c0) (r0 : Rd 1 (eInt .u64) m A0 a0) (o3 : OB No h0 h m bk3 cs3 88) (e3 : T_heap_Object.E m y3 cs3) (ne7 : n7 = List.length a7) (o7 : OS No h0 1 (eInt .u64) h m A7 a7 c7) (d0_1 : Dj (fb bk3) (fp A7 c7)), f42.l0 (heap_Put.post No h0 m0 r) A0 n0 c0 (⟨bk3, 0, none⟩ : Addr) A7 n7 c7 x8 h
  | .l1 a0 y3 a7 x8 x9 x56, r => ∀ (h0 m0 h m : Heap) (A0 : Option Addr) (n0 c0 : Nat) (bk3 : Nat) (cs3 : List Value) (A7 : Option Addr) (n7 c7 : Nat) (S : St No h0 m0 h m) (ne0 : n0 = List.length a0) (k0 : List.length a0 ≤ c0) (r0 : Rd 1 (eInt .u64) m A0 a0) (o3 : OB No h0 h m bk3 cs3 88) (e3 : T_heap_Object.E m y3 cs3) (ne7 : n7 = List.length a7) (o7 : OS No h0 1 (eInt .u64) h m A7 a7 c7) (d0_1 : Dj (fb bk3) (fp A7 c7)), f42.l1 (heap_Put.post No h0 m0 r) A0 n0 c0 (⟨bk3, 0, none⟩ : Addr) A7 n7 c7 x8 x9 x56 h
set_option maxRecDepth 100000 in
theorem heap_Put.l0_k.step_l0 (go : (p : heap_Put.l0_k.Pt) → Option ((List Int) × Int × Int)) (ih : ∀ p r, go p = some r → heap_Put.l0_k.I p r) (a0 : List Int) (y3 : T_heap_Object) (a7 : List Int) (x8 : Int) (r : (List Int) × Int × Int) (e : heap_Put.l0_k.body go (.l0 a0 y3 a7 x8) = some r) : heap_Put.l0_k.I (.l0 a0 y3 a7 x8) r := by
  unfold heap_Put.l0_k.body at e
  intro h0 m0 h m A0 n0 c0 bk3 cs3 A7 n7 c7 S ne0 k0 r0 o3 e3 ne7 o7 d0_1
  subst ne0
  obtain ⟨Ae3_4, ce3_4, rfl, ke3_4, re3_4⟩ := e3
  subst ne7
  refine f42.l0_in ?_
  unfold f42.l0T
  refine ⟨_, ldk (k := 3) (Sub.refl _) o3.all rfl, _, rfl, ?_⟩
  refine split_dec_e e (fun c112 e => ?_) (fun c112 e => ?_)
  · exact (ih _ _ e) _ _ _ _ _ _ _ _ _ _ _ _ S rfl k0 r0 o3 (show T_heap_Object.E _ y3 [(Value.int .i64 y3.At), (Value.int .i64 y3.Kind), (Value.int .i64 y3.Num), (Value.string y3.Text), (Value.slice Ae3_4 (List.length y3.Parts) ce3_4)] from ⟨_, _, rfl, ke3_4, re3_4⟩) rfl o7 d0_1
  · refine ⟨_, ldk (k := 4) (Sub.refl _) o3.all rfl, _, _, _, rfl, ?_⟩
    obtain ⟨l100, g101, e⟩ := bind_e e
    refine o7.app (tell_int .u64) S rfl rfl (Rd.srcE re3_4 (tell_int .u64) S.s rfl) (by decide) g101 fun A102 c103 h104 o105 t106 n107 => ?_
    refine ⟨_, _, _, rfl, ?_⟩
    have d109 : Dj (fb bk3) (fp A102 c103) := Dj.app d0_1 o3.lt n107
    have S110 := S.then t106 (fun i _ hi => o7.wr i hi)
    have o111 := o3.step t106 (d0_1).symm
    cases e
    exact ⟨_, _, _, _, S110, rfl, rfl, o105⟩
set_option maxRecDepth 100000 in
theorem heap_Put.l0_k.step_l1 (go : (p : heap_Put.l0_k.Pt) → Option ((List Int) × Int × Int)) (ih : ∀ p r, go p = some r → heap_Put.l0_k.I p r) (a0 : List Int) (y3 : T_heap_Object) (a7 : List Int) (x8 : Int) (x9 : Int) (x56 : Int) (r : (List Int) × Int × Int) (e : heap_Put.l0_k.body go (.l1 a0 y3 a7 x8 x9 x56) = some r) : heap_Put.l0_k.I (.l1 a0 y3 a7 x8 x9 x56) r := by
  unfold heap_Put.l0_k.body at e
  intro h0 m0 h m A0 n0 c0 bk3 cs3 A7 n7 c7 S ne0 k0 r0 o3 e3 ne7 o7 d0_1
  subst ne0
  obtain ⟨Ae3_4, ce3_4, rfl, ke3_4, re3_4⟩ := e3
  subst ne7
  refine f42.l1_in ?_
  unfold f42.l1T
  refine split_dec_e e (fun c145 e => ?_) (fun c145 e => ?_)
  · refine ⟨_, ldk (k := 3) (Sub.refl _) o3.all rfl, _, rfl, ?_⟩
    refine split_dec_e e (fun c120 e => ?_) (fun c120 e => ?_)
    · refine ⟨_, ldk (k := 3) (Sub.refl _) o3.all rfl, _, rfl, ?_⟩
      obtain ⟨y113, g114, e⟩ := bind_e e
      obtain ⟨q115, b116, q117, q118⟩ := gb_e g114
      refine ⟨q115, _, q117, ?_⟩
      try rw [← q118]
      obtain ⟨g119, e⟩ := guard_e e
      refine ⟨g119, ?_⟩
      exact (ih _ _ e) _ _ _ _ _ _ _ _ _ _ _ _ S rfl k0 r0 o3 (show T_heap_Object.E _ y3 [(Value.int .i64 y3.At), (Value.int .i64 y3.Kind), (Value.int .i64 y3.Num), (Value.string y3.Text), (Value.slice Ae3_4 (List.length y3.Parts) ce3_4)] from ⟨_, _, rfl, ke3_4, re3_4⟩) rfl o7 d0_1
    · exact (ih _ _ e) _ _ _ _ _ _ _ _ _ _ _ _ S rfl k0 r0 o3 (show T_heap_Object.E _ y3 [(Value.int .i64 y3.At), (Value.int .i64 y3.Kind), (Value.int .i64 y3.Num), (Value.string y3.Text), (Value.slice Ae3_4 (List.length y3.Parts) ce3_4)] from ⟨_, _, rfl, ke3_4, re3_4⟩) rfl o7 d0_1
  · refine new_in S fun h121 o122 x123 => ?_
    have d126 : Dj (fb bk3) (fb (Array.size h)) := Dj.new o3.lt
    have d127 : Dj (fp A7 c7) (fb (Array.size h)) := Dj.new o7.lt
    have o128 := o3.ext x123
    have o129 := o7.ext (tell_int .u64) S.s x123
    have S124 := S.ext' x123
    have o122 : OB _ _ h121 _ (Array.size h) [(Value.int .u64 x9)] 105 := o122
    have o130 : OS _ _ 1 (eInt .u64) h121 m (some ⟨(Array.size h), 0, none⟩) ([x9] : List Int) 1 := OB.row o122 (CsE.cons (c1 := [(Value.int .u64 x9)]) rfl rfl CsE.nil) rfl
    obtain ⟨l131, g132, e⟩ := bind_e e
    refine o129.app (tell_int .u64) S124 rfl rfl (o130.srcE rfl) (by decide) g132 fun A133 c134 h135 o136 t137 n138 => ?_
    refine ⟨_, _, _, rfl, ?_⟩
    have d140 : Dj (fb bk3) (fp A133 c134) := Dj.app d0_1 o128.lt n138
    have d141 : Dj (fp (some ⟨(Array.size h), 0, none⟩) 1) (fp A133 c134) := Dj.app ((d127.row)).symm o130.lt n138
    have S142 := S124.then t137 (fun i _ hi => o129.wr i hi)
    have o143 := o128.step t137 (d0_1).symm
    have o144 := o130.step (tell_int .u64) t137 (d127.row)
    exact (ih _ _ e) _ _ _ _ _ _ _ _ _ _ _ _ S142 rfl k0 r0 o143 (show T_heap_Object.E _ y3 [(Value.int .i64 y3.At), (Value.int .i64 y3.Kind), (Value.int .i64 y3.Num), (Value.string y3.Text), (Value.slice Ae3_4 (List.length y3.Parts) ce3_4)] from ⟨_, _, rfl, ke3_4, re3_4⟩) rfl o136 d140
theorem heap_Put.l0_k.all {p : heap_Put.l0_k.Pt} {r : ((List Int) × Int × Int)} (e : heap_Put.l0_k.go p = some r) : heap_Put.l0_k.I p r := fixF_ind (β := fun _ => ((List Int) × Int × Int)) heap_Put.l0_k.mono (I := heap_Put.l0_k.I) (fun go ih p r e => match p with
  | .l0 a0 y3 a7 x8 => heap_Put.l0_k.step_l0 go ih a0 y3 a7 x8 r e
  | .l1 a0 y3 a7 x8 x9 x56 => heap_Put.l0_k.step_l1 go ih a0 y3 a7 x8 x9 x56 r e
  ) e
theorem heap_Put.l0.walk {h0 m0 h m : Heap} {A0 : Option Addr} {n0 c0 : Nat} {bk3 : Nat} {cs3 : List Value} {A7 : Option Addr} {n7 c7 : Nat} {a0 : List Int} {y3 : T_heap_Object} {a7 : List Int} {x8 : Int} (S : St No h0 m0 h m) (ne0 : n0 = List.length a0) (k0 : List.length a0 ≤ c0) (r0 : Rd 1 (eInt .u64) m A0 a0) (o3 : OB No h0 h m bk3 cs3 88) (e3 : T_heap_Object.E m y3 cs3) (ne7 : n7 = List.length a7) (o7 : OS No h0 1 (eInt .u64) h m A7 a7 c7) (d0_1 : Dj (fb bk3) (fp A7 c7)) {r : (List Int) × Int × Int} (e : heap_Put.l0 a0 y3 a7 x8 = some r) : f42.l0 (heap_Put.post No h0 m0 r) A0 n0 c0 (⟨bk3, 0, none⟩ : Addr) A7 n7 c7 x8 h := heap_Put.l0_k.all (p := .l0 a0 y3 a7 x8) e h0 m0 h m A0 n0 c0 bk3 cs3 A7 n7 c7 S ne0 k0 r0 o3 e3 ne7 o7 d0_1
theorem heap_Put.l1.walk {h0 m0 h m : Heap} {A0 : Option Addr} {n0 c0 : Nat} {bk3 : Nat} {cs3 : List Value} {A7 : Option Addr} {n7 c7 : Nat} {a0 : List Int} {y3 : T_heap_Object} {a7 : List Int} {x8 : Int} {x9 : Int} {x56 : Int} (S : St No h0 m0 h m) (ne0 : n0 = List.length a0) (k0 : List.length a0 ≤ c0) (r0 : Rd 1 (eInt .u64) m A0 a0) (o3 : OB No h0 h m bk3 cs3 88) (e3 : T_heap_Object.E m y3 cs3) (ne7 : n7 = List.length a7) (o7 : OS No h0 1 (eInt .u64) h m A7 a7 c7) (d0_1 : Dj (fb bk3) (fp A7 c7)) {r : (List Int) × Int × Int} (e : heap_Put.l1 a0 y3 a7 x8 x9 x56 = some r) : f42.l1 (heap_Put.post No h0 m0 r) A0 n0 c0 (⟨bk3, 0, none⟩ : Addr) A7 n7 c7 x8 x9 x56 h := heap_Put.l0_k.all (p := .l1 a0 y3 a7 x8 x9 x56) e h0 m0 h m A0 n0 c0 bk3 cs3 A7 n7 c7 S ne0 k0 r0 o3 e3 ne7 o7 d0_1

noncomputable def heap_Put.j0 (a0 : List Int) (y3 : T_heap_Object) (a7 : List Int) : Option ((List Int) × Int × Int) :=
  (heap_Put.l0 a0 y3 a7 (0 : Int))
set_option maxRecDepth 100000 in
theorem heap_Put.j0.walk {h0 m0 h m : Heap} {A0 : Option Addr} {n0 c0 : Nat} {bk3 : Nat} {cs3 : List Value} {A7 : Option Addr} {n7 c7 : Nat} {a0 : List Int} {y3 : T_heap_Object} {a7 : List Int} (S : St No h0 m0 h m) (ne0 : n0 = List.length a0) (k0 : List.length a0 ≤ c0) (r0 : Rd 1 (eInt .u64) m A0 a0) (o3 : OB No h0 h m bk3 cs3 88) (e3 : T_heap_Object.E m y3 cs3) (ne7 : n7 = List.length a7) (o7 : OS No h0 1 (eInt .u64) h m A7 a7 c7) (d0_1 : Dj (fb bk3) (fp A7 c7)) {r : (List Int) × Int × Int} (e : heap_Put.j0 a0 y3 a7 = some r) : f42.j0 (heap_Put.post No h0 m0 r) A0 n0 c0 (⟨bk3, 0, none⟩ : Addr) A7 n7 c7 h := by
  unfold heap_Put.j0 at e
  subst ne0
  obtain ⟨Ae3_4, ce3_4, rfl, ke3_4, re3_4⟩ := e3
  subst ne7
  refine f42.j0_in ?_
  unfold f42.j0T
  exact heap_Put.l0.walk S rfl k0 r0 o3 (show T_heap_Object.E _ y3 [(Value.int .i64 y3.At), (Value.int .i64 y3.Kind), (Value.int .i64 y3.Num), (Value.string y3.Text), (Value.slice Ae3_4 (List.length y3.Parts) ce3_4)] from ⟨_, _, rfl, ke3_4, re3_4⟩) rfl o7 d0_1 e

noncomputable def heap_Put.j1 (a0 : List Int) (y3 : T_heap_Object) (a7 : List Int) (b42 : Bool) : Option ((List Int) × Int × Int) :=
  if b42 = true then (Option.bind (ap 8 a7 ([(IntKind.wrap .u64 y3.Num)] : List Int)) fun l85 => (heap_Put.j0 a0 y3 l85)) else ((heap_Put.j0 a0 y3 a7))
set_option maxRecDepth 100000 in
theorem heap_Put.j1.walk {h0 m0 h m : Heap} {A0 : Option Addr} {n0 c0 : Nat} {bk3 : Nat} {cs3 : List Value} {A7 : Option Addr} {n7 c7 : Nat} {a0 : List Int} {y3 : T_heap_Object} {a7 : List Int} {b42 : Bool} (S : St No h0 m0 h m) (ne0 : n0 = List.length a0) (k0 : List.length a0 ≤ c0) (r0 : Rd 1 (eInt .u64) m A0 a0) (o3 : OB No h0 h m bk3 cs3 88) (e3 : T_heap_Object.E m y3 cs3) (ne7 : n7 = List.length a7) (o7 : OS No h0 1 (eInt .u64) h m A7 a7 c7) (d0_1 : Dj (fb bk3) (fp A7 c7)) {r : (List Int) × Int × Int} (e : heap_Put.j1 a0 y3 a7 b42 = some r) : f42.j1 (heap_Put.post No h0 m0 r) A0 n0 c0 (⟨bk3, 0, none⟩ : Addr) A7 n7 c7 b42 h := by
  unfold heap_Put.j1 at e
  subst ne0
  obtain ⟨Ae3_4, ce3_4, rfl, ke3_4, re3_4⟩ := e3
  subst ne7
  refine f42.j1_in ?_
  unfold f42.j1T
  refine split_any_e e (fun c99 e => ?_) (fun c99 e => ?_)
  · refine ⟨_, ldk (k := 2) (Sub.refl _) o3.all rfl, _, rfl, ?_⟩
    refine new_in S fun h75 o76 x77 => ?_
    have d80 : Dj (fb bk3) (fb (Array.size h)) := Dj.new o3.lt
    have d81 : Dj (fp A7 c7) (fb (Array.size h)) := Dj.new o7.lt
    have o82 := o3.ext x77
    have o83 := o7.ext (tell_int .u64) S.s x77
    have S78 := S.ext' x77
    have o76 : OB _ _ h75 _ (Array.size h) [(Value.int .u64 (IntKind.wrap .u64 y3.Num))] 105 := o76
    have o84 : OS _ _ 1 (eInt .u64) h75 m (some ⟨(Array.size h), 0, none⟩) ([(IntKind.wrap .u64 y3.Num)] : List Int) 1 := OB.row o76 (CsE.cons (c1 := [(Value.int .u64 (IntKind.wrap .u64 y3.Num))]) rfl rfl CsE.nil) rfl
    obtain ⟨l85, g86, e⟩ := bind_e e
    refine o83.app (tell_int .u64) S78 rfl rfl (o84.srcE rfl) (by decide) g86 fun A87 c88 h89 o90 t91 n92 => ?_
    refine ⟨_, _, _, rfl, ?_⟩
    have d94 : Dj (fb bk3) (fp A87 c88) := Dj.app d0_1 o82.lt n92
    have d95 : Dj (fp (some ⟨(Array.size h), 0, none⟩) 1) (fp A87 c88) := Dj.app ((d81.row)).symm o84.lt n92
    have S96 := S78.then t91 (fun i _ hi => o83.wr i hi)
    have o97 := o82.step t91 (d0_1).symm
    have o98 := o84.step (tell_int .u64) t91 (d81.row)
    exact heap_Put.j0.walk S96 rfl k0 r0 o97 (show T_heap_Object.E _ y3 [(Value.int .i64 y3.At), (Value.int .i64 y3.Kind), (Value.int .i64 y3.Num), (Value.string y3.Text), (Value.slice Ae3_4 (List.length y3.Parts) ce3_4)] from ⟨_, _, rfl, ke3_4, re3_4⟩) rfl o90 d94 e
  · exact heap_Put.j0.walk S rfl k0 r0 o3 (show T_heap_Object.E _ y3 [(Value.int .i64 y3.At), (Value.int .i64 y3.Kind), (Value.int .i64 y3.Num), (Value.string y3.Text), (Value.slice Ae3_4 (List.length y3.Parts) ce3_4)] from ⟨_, _, rfl, ke3_4, re3_4⟩) rfl o7 d0_1 e

noncomputable def heap_Put (a0 : List Int) (y1 : T_heap_Object) : Option ((List Int) × Int × Int) :=
  Option.bind (heap_right y1) fun y6 => if y6 = true then (Option.bind (heap_room y1.Kind ((ByteArray.size y1.Text : Nat) : Int) (((List.length y1.Parts) : Nat) : Int)) fun y13 => if (((List.length a0) : Nat) : Int) > (IntKind.wrap .i64 ((4000 : Int) - y13)) then (some (([] : List Int), (0 : Int), (6 : Int))) else (Option.bind (slices_Clone_111 a0) fun y22 => Option.bind (heap_head y1) fun y38 => Option.bind (ap 8 y22 ([y38] : List Int)) fun l56 => if y1.Kind = (1 : Int) then ((heap_Put.j1 a0 y1 l56 true)) else ((heap_Put.j1 a0 y1 l56 (y1.Kind == (4 : Int)))))) else (some (([] : List Int), (0 : Int), (1 : Int)))
set_option maxRecDepth 100000 in
theorem heap_Put.walk {h m : Heap} {A0 : Option Addr} {n0 c0 : Nat} {cs1 : List Value} {a0 : List Int} {y1 : T_heap_Object} (s : Sub m h) (ne0 : n0 = List.length a0) (k0 : List.length a0 ≤ c0) (r0 : Rd 1 (eInt .u64) m A0 a0) (e1 : T_heap_Object.E m y1 cs1) {r : (List Int) × Int × Int} (e : heap_Put a0 y1 = some r) : Run Try.prog 42 #[Value.slice A0 n0 c0, Value.agg cs1.toArray] h (heap_Put.post No h m r) := by
  unfold heap_Put at e
  subst ne0
  obtain ⟨Ae1_4, ce1_4, rfl, ke1_4, re1_4⟩ := e1
  have S : St No h m h m := .refl s
  refine f42.run ?_
  unfold f42.runT
  refine new_in S fun h1 o2 x3 => ?_
  have S4 := S.ext' x3
  have o2 : OB _ _ h1 _ (Array.size h) [(Value.int .i64 y1.At), (Value.int .i64 y1.Kind), (Value.int .i64 y1.Num), (Value.string y1.Text), (Value.slice Ae1_4 (List.length y1.Parts) ce1_4)] 88 := o2
  refine ⟨_, ldA (Sub.refl _) o2.all, ?_⟩
  obtain ⟨y6, g7, e⟩ := bind_e e
  refine (heap_right.walk S4.s (show T_heap_Object.E _ y1 [(Value.int .i64 y1.At), (Value.int .i64 y1.Kind), (Value.int .i64 y1.Num), (Value.string y1.Text), (Value.slice Ae1_4 (List.length y1.Parts) ce1_4)] from ⟨_, _, rfl, ke1_4, re1_4⟩) g7).mono ?_
  rintro _ h8 ⟨m9, T10, rfl⟩
  have S11 := S4.grow T10
  have o12 := o2.step T10 Dj.no
  refine ⟨_, rfl, ?_⟩
  refine split_not ?_
  refine split_any_e e (fun c74 e => ?_) (fun c74 e => ?_)
  · refine ⟨_, ldk (k := 1) (Sub.refl _) o12.all rfl, _, rfl, ?_⟩
    refine ⟨_, ldk (k := 3) (Sub.refl _) o12.all rfl, _, rfl, ?_⟩
    refine ⟨_, ldk (k := 4) (Sub.refl _) o12.all rfl, _, _, _, rfl, ?_⟩
    obtain ⟨y13, g14, e⟩ := bind_e e
    refine (heap_room.walk S11.s  g14).mono ?_
    rintro _ h15 ⟨m16, T17, rfl⟩
    have S18 := S11.grow T17
    have o19 := o12.step T17 Dj.no
    refine ⟨_, rfl, ?_⟩
    refine split_dec_e e (fun c71 e => ?_) (fun c71 e => ?_)
    · have o21 : OS No h 1 (eInt .u64) h15 m16 none ([] : List Int) 0 := .inl ⟨rfl, rfl⟩
      cases e
      exact ⟨_, _, _, _, S18, rfl, rfl, o21⟩
    · refine ⟨_, ldA (Sub.refl _) o19.all, ?_⟩
      obtain ⟨y22, g23, e⟩ := bind_e e
      refine (slices_Clone_111.walk S18.s rfl k0 (r0.sub (tell_int .u64) (T10.up.trans T17.up)) g23).mono ?_
      rintro _ h24 ⟨m25, A27, n28, c29, T26, rfl, ne30, o31⟩
      subst ne30
      have nw36 := o31.newNo
      have d37 : Dj (fb (Array.size h)) (fp A27 c29) := fun i h1 h2 => absurd (o19.lt i h1) (Nat.not_lt.2 (nw36 i h2))
      have o35 := o31.take S18 (fun _ h => h.elim)
      have S33 := S18.grow T26
      have o34 := o19.step T26 Dj.no
      refine ⟨_, _, _, rfl, ?_⟩
      refine ⟨T26.ext, ?_⟩
      obtain ⟨y38, g39, e⟩ := bind_e e
      refine (heap_head.walk S33.s (show T_heap_Object.E _ y1 [(Value.int .i64 y1.At), (Value.int .i64 y1.Kind), (Value.int .i64 y1.Num), (Value.string y1.Text), (Value.slice Ae1_4 (List.length y1.Parts) ce1_4)] from ⟨_, _, rfl, ke1_4, (re1_4.sub (tell_int .u64) (T10.up.trans (T17.up.trans T26.up)))⟩) g39).mono ?_
      rintro _ h40 ⟨m41, T42, rfl⟩
      have S43 := S33.grow T42
      have o44 := o34.step T42 Dj.no
      have o45 := o35.step (tell_int .u64) T42 Dj.no
      refine ⟨_, rfl, ?_⟩
      refine new_in S43 fun h46 o47 x48 => ?_
      have d51 : Dj (fb (Array.size h)) (fb (Array.size h40)) := Dj.new o44.lt
      have d52 : Dj (fp A27 c29) (fb (Array.size h40)) := Dj.new o45.lt
      have o53 := o44.ext x48
      have o54 := o45.ext (tell_int .u64) S43.s x48
      have S49 := S43.ext' x48
      have o47 : OB _ _ h46 _ (Array.size h40) [(Value.int .u64 y38)] 105 := o47
      have o55 : OS _ _ 1 (eInt .u64) h46 m41 (some ⟨(Array.size h40), 0, none⟩) ([y38] : List Int) 1 := OB.row o47 (CsE.cons (c1 := [(Value.int .u64 y38)]) rfl rfl CsE.nil) rfl
      obtain ⟨l56, g57, e⟩ := bind_e e
      refine o54.app (tell_int .u64) S49 rfl rfl (o55.srcE rfl) (by decide) g57 fun A58 c59 h60 o61 t62 n63 => ?_
      refine ⟨_, _, _, rfl, ?_⟩
      have d65 : Dj (fb (Array.size h)) (fp A58 c59) := Dj.app d37 o53.lt n63
      have d66 : Dj (fp (some ⟨(Array.size h40), 0, none⟩) 1) (fp A58 c59) := Dj.app ((d52.row)).symm o55.lt n63
      have S67 := S49.then t62 (fun i _ hi => o54.wr i hi)
      have o68 := o53.step t62 (d37).symm
      have o69 := o55.step (tell_int .u64) t62 (d52.row)
      refine ⟨_, ldk (k := 1) (Sub.refl _) o68.all rfl, _, rfl, ?_⟩
      refine split_eq_e e (fun c70 e => ?_) (fun c70 e => ?_)
      · exact heap_Put.j1.walk S67 rfl k0 (r0.sub (tell_int .u64) (T10.up.trans (T17.up.trans (T26.up.trans T42.up)))) o68 (show T_heap_Object.E _ y1 [(Value.int .i64 y1.At), (Value.int .i64 y1.Kind), (Value.int .i64 y1.Num), (Value.string y1.Text), (Value.slice Ae1_4 (List.length y1.Parts) ce1_4)] from ⟨_, _, rfl, ke1_4, (re1_4.sub (tell_int .u64) (T10.up.trans (T17.up.trans (T26.up.trans T42.up))))⟩) rfl o61 d65 e
      · refine ⟨_, ldk (k := 1) (Sub.refl _) o68.all rfl, _, rfl, ?_⟩
        exact heap_Put.j1.walk S67 rfl k0 (r0.sub (tell_int .u64) (T10.up.trans (T17.up.trans (T26.up.trans T42.up)))) o68 (show T_heap_Object.E _ y1 [(Value.int .i64 y1.At), (Value.int .i64 y1.Kind), (Value.int .i64 y1.Num), (Value.string y1.Text), (Value.slice Ae1_4 (List.length y1.Parts) ce1_4)] from ⟨_, _, rfl, ke1_4, (re1_4.sub (tell_int .u64) (T10.up.trans (T17.up.trans (T26.up.trans T42.up))))⟩) rfl o61 d65 e
  · have o73 : OS No h 1 (eInt .u64) h8 m9 none ([] : List Int) 0 := .inl ⟨rfl, rfl⟩
    cases e
    exact ⟨_, _, _, _, S11, rfl, rfl, o73⟩

/-! ### 113 slices.Equal[roadstead/heap.Heap,uint64] -/
def slices_Equal_113.post (W : Nat → Prop) (h0 m0 : Heap) (r : Bool) (v : Value) (h : Heap) : Prop := ∃ m , St W h0 m0 h m ∧ v = .bool r
inductive slices_Equal_113.l0_k.Pt where
  | l0 (a0 : List Int) (a1 : List Int) (x12 : Int) (x13 : Int)
noncomputable def slices_Equal_113.l0_k.body (go : (p : slices_Equal_113.l0_k.Pt) → Option (Bool)) : (p : slices_Equal_113.l0_k.Pt) → Option (Bool)
  | .l0 a0 a1 x12 x13 => if x13 < x12 then (Option.bind (gi a0 x13) fun y2 => Option.bind (gi a1 x13) fun y9 => if y2 = y9 then ((go (.l0 a0 a1 x12 (IntKind.wrap .i64 (x13 + (1 : Int)))))) else (some (false))) else (some (true))
theorem slices_Equal_113.l0_k.mono : MonoF (β := fun _ => (Bool)) slices_Equal_113.l0_k.body := fun f g hfg p => match p with
  | .l0 a0 a1 x12 x13 => LeO.ite (LeO.bind (LeO.refl _) fun y2 => LeO.bind (LeO.refl _) fun y9 => LeO.ite ((hfg _)) (LeO.refl _)) (LeO.refl _)
noncomputable def slices_Equal_113.l0_k.go (p : slices_Equal_113.l0_k.Pt) : Option (Bool) := fixF (β := fun _ => (Bool)) slices_Equal_113.l0_k.body p
noncomputable def slices_Equal_113.l0 (a0 : List Int) (a1 : List Int) (x12 : Int) (x13 : Int) : Option (Bool) := slices_Equal_113.l0_k.go (.l0 a0 a1 x12 x13)
theorem slices_Equal_113.l0_eq (a0 : List Int) (a1 : List Int) (x12 : Int) (x13 : Int) : slices_Equal_113.l0 a0 a1 x12 x13 = if x13 < x12 then (Option.bind (gi a0 x13) fun y2 => Option.bind (gi a1 x13) fun y9 => if y2 = y9 then ((slices_Equal_113.l0 a0 a1 x12 (IntKind.wrap .i64 (x13 + (1 : Int))))) else (some (false))) else (some (true)) := fixF_eq slices_Equal_113.l0_k.mono _
def slices_Equal_113.l0_k.I : (p : slices_Equal_113.l0_k.Pt) → (Bool) → Prop
  | .l0 a0 a1 x12 x13, r => ∀ (h0 m0 h m : Heap) (A0 : Option Addr) (n0 c0 : Nat) (A1 : Option Addr) (n1 c1 : Nat) (S : St No h0 m0 h m) (ne0 : n0 = List.length a0) (k0 : List.length a0 ≤ c0) (r0 : Rd 1 (eInt .u64) m A0 a0) (ne1 : n1 = List.length a1) (k1 : List.length a1 ≤ c1) (r1 : Rd 1 (eInt .u64) m A1 a1), f113.l0 (slices_Equal_113.post No h0 m0 r) A0 n0 c0 A1 n1 c1 x12 x13 h
set_option maxRecDepth 100000 in
theorem slices_Equal_113.l0_k.step_l0 (go : (p : slices_Equal_113.l0_k.Pt) → Option (Bool)) (ih : ∀ p r, go p = some r → slices_Equal_113.l0_k.I p r) (a0 : List Int) (a1 : List Int) (x12 : Int) (x13 : Int) (r : Bool) (e : slices_Equal_113.l0_k.body go (.l0 a0 a1 x12 x13) = some r) : slices_Equal_113.l0_k.I (.l0 a0 a1 x12 x13) r := by
  unfold slices_Equal_113.l0_k.body at e
  intro h0 m0 h m A0 n0 c0 A1 n1 c1 S ne0 k0 r0 ne1 k1 r1
  subst ne0
  subst ne1
  refine f113.l0_in ?_
  unfold f113.l0T
  refine split_dec_e e (fun c17 e => ?_) (fun c17 e => ?_)
  · obtain ⟨y2, g3, e⟩ := bind_e e
    refine r0.addr rfl g3 fun a4 cs5 ha6 hc7 he8 => ?_
    obtain rfl : cs5 = [(Value.int .u64 y2)] := he8
    obtain ⟨y9, g10, e⟩ := bind_e e
    refine r1.addr rfl g10 fun a11 cs12 ha13 hc14 he15 => ?_
    obtain rfl : cs12 = [(Value.int .u64 y9)] := he15
    refine ⟨_, ld0 S.s hc7 rfl, _, rfl, ?_⟩
    refine ⟨_, ld0 S.s hc14 rfl, _, rfl, ?_⟩
    refine split_ne_e e (fun c16 e => ?_) (fun c16 e => ?_)
    · cases e
      exact ⟨_, S, rfl⟩
    · exact (ih _ _ e) _ _ _ _ _ _ _ _ _ _ S rfl k0 r0 rfl k1 r1
  · cases e
    exact ⟨_, S, rfl⟩
theorem slices_Equal_113.l0_k.all {p : slices_Equal_113.l0_k.Pt} {r : (Bool)} (e : slices_Equal_113.l0_k.go p = some r) : slices_Equal_113.l0_k.I p r := fixF_ind (β := fun _ => (Bool)) slices_Equal_113.l0_k.mono (I := slices_Equal_113.l0_k.I) (fun go ih p r e => match p with
  | .l0 a0 a1 x12 x13 => slices_Equal_113.l0_k.step_l0 go ih a0 a1 x12 x13 r e
  ) e
theorem slices_Equal_113.l0.walk {h0 m0 h m : Heap} {A0 : Option Addr} {n0 c0 : Nat} {A1 : Option Addr} {n1 c1 : Nat} {a0 : List Int} {a1 : List Int} {x12 : Int} {x13 : Int} (S : St No h0 m0 h m) (ne0 : n0 = List.length a0) (k0 : List.length a0 ≤ c0) (r0 : Rd 1 (eInt .u64) m A0 a0) (ne1 : n1 = List.length a1) (k1 : List.length a1 ≤ c1) (r1 : Rd 1 (eInt .u64) m A1 a1) {r : Bool} (e : slices_Equal_113.l0 a0 a1 x12 x13 = some r) : f113.l0 (slices_Equal_113.post No h0 m0 r) A0 n0 c0 A1 n1 c1 x12 x13 h := slices_Equal_113.l0_k.all (p := .l0 a0 a1 x12 x13) e h0 m0 h m A0 n0 c0 A1 n1 c1 S ne0 k0 r0 ne1 k1 r1

noncomputable def slices_Equal_113 (a0 : List Int) (a1 : List Int) : Option (Bool) :=
  if (((List.length a0) : Nat) : Int) = (((List.length a1) : Nat) : Int) then ((slices_Equal_113.l0 a0 a1 (((List.length a0) : Nat) : Int) (0 : Int))) else (some (false))
set_option maxRecDepth 100000 in
theorem slices_Equal_113.walk {h m : Heap} {A0 : Option Addr} {n0 c0 : Nat} {A1 : Option Addr} {n1 c1 : Nat} {a0 : List Int} {a1 : List Int} (s : Sub m h) (ne0 : n0 = List.length a0) (k0 : List.length a0 ≤ c0) (r0 : Rd 1 (eInt .u64) m A0 a0) (ne1 : n1 = List.length a1) (k1 : List.length a1 ≤ c1) (r1 : Rd 1 (eInt .u64) m A1 a1) {r : Bool} (e : slices_Equal_113 a0 a1 = some r) : Run Try.prog 113 #[Value.slice A0 n0 c0, Value.slice A1 n1 c1] h (slices_Equal_113.post No h m r) := by
  unfold slices_Equal_113 at e
  subst ne0
  subst ne1
  have S : St No h m h m := .refl s
  refine f113.run ?_
  unfold f113.runT
  refine split_ne_e e (fun c1 e => ?_) (fun c1 e => ?_)
  · cases e
    exact ⟨_, S, rfl⟩
  · exact slices_Equal_113.l0.walk S rfl k0 r0 rfl k1 r1 e
theorem slices_Equal_113.val (l m : List Int) (hl : l.length ≤ 4611686018427387904) : ∃ b, slices_Equal_113 l m = some b ∧ (b = true ↔ l = m) := equal_val (R := fun x y => x = y) (fun a b n i => slices_Equal_113.l0_eq a b n i) (fun _ _ => rfl) (fun _ _ => Iff.rfl) l m hl

/-! ### 43 roadstead/heap.At -/
def heap_At.post (W : Nat → Prop) (h0 m0 : Heap) (r : T_heap_Object × Int) (v : Value) (h : Heap) : Prop := ∃ m cs0, St W h0 m0 h m ∧ v = .tuple #[.agg cs0.toArray, .int .i64 r.2] ∧ T_heap_Object.E m r.1 cs0
noncomputable def heap_At.j6 (y4 : T_heap_Object) (y10 : T_heap_Object) : Option (T_heap_Object × Int) :=
  some (y10, (0 : Int))
set_option maxRecDepth 100000 in
theorem heap_At.j6.walk {h0 m0 h m : Heap} {bk4 : Nat} {cs4 : List Value} {bk10 : Nat} {cs10 : List Value} {y4 : T_heap_Object} {y10 : T_heap_Object} (S : St No h0 m0 h m) (o4 : OB No h0 h m bk4 cs4 88) (e4 : T_heap_Object.E m y4 cs4) (o10 : OB No h0 h m bk10 cs10 88) (e10 : T_heap_Object.E m y10 cs10) (d0_1 : Dj (fb bk4) (fb bk10)) {r : T_heap_Object × Int} (e : heap_At.j6 y4 y10 = some r) : f43.j6 (heap_At.post No h0 m0 r) (⟨bk4, 0, none⟩ : Addr) (⟨bk10, 0, none⟩ : Addr) h := by
  unfold heap_At.j6 at e
  obtain ⟨Ae4_4, ce4_4, rfl, ke4_4, re4_4⟩ := e4
  obtain ⟨Ae10_4, ce10_4, rfl, ke10_4, re10_4⟩ := e10
  refine f43.j6_in ?_
  unfold f43.j6T
  refine ⟨_, ldA (Sub.refl _) o10.all, ?_⟩
  obtain ⟨h207, w208, o209, t210⟩ := o4.stA S.s [(Value.int .i64 y10.At), (Value.int .i64 y10.Kind), (Value.int .i64 y10.Num), (Value.string y10.Text), (Value.slice Ae10_4 (List.length y10.Parts) ce10_4)] rfl (Flats.cons trivial (Flats.cons trivial (Flats.cons trivial (Flats.cons trivial (Flats.cons trivial Flats.nil)))))
  refine ⟨[(Value.int .i64 y10.At), (Value.int .i64 y10.Kind), (Value.int .i64 y10.Num), (Value.string y10.Text), (Value.slice Ae10_4 (List.length y10.Parts) ce10_4)], rfl, rfl, h207, w208, ?_⟩
  have o209 : OB _ _ h207 _ bk4 [(Value.int .i64 y10.At), (Value.int .i64 y10.Kind), (Value.int .i64 y10.Num), (Value.string y10.Text), (Value.slice Ae10_4 (List.length y10.Parts) ce10_4)] 88 := o209
  have S211 := S.then t210 (fun i _ hi => o4.wr i hi)
  have o212 := o10.step t210 d0_1
  refine ⟨_, ldA (Sub.refl _) o209.all, ?_⟩
  cases e
  exact ⟨_, _, S211, rfl, (show T_heap_Object.E _ y10 [(Value.int .i64 y10.At), (Value.int .i64 y10.Kind), (Value.int .i64 y10.Num), (Value.string y10.Text), (Value.slice Ae10_4 (List.length y10.Parts) ce10_4)] from ⟨_, _, rfl, ke10_4, re10_4⟩)⟩

noncomputable def heap_At.j7 (y4 : T_heap_Object) (y10 : T_heap_Object) (b131 : Bool) : Option (T_heap_Object × Int) :=
  if b131 = true then (some ((T_heap_Object.mk (0 : Int) (0 : Int) (0 : Int) (ByteArray.mk #[]) ([] : List Int)), (3 : Int))) else ((heap_At.j6 y4 y10))
set_option maxRecDepth 100000 in
theorem heap_At.j7.walk {h0 m0 h m : Heap} {bk4 : Nat} {cs4 : List Value} {bk10 : Nat} {cs10 : List Value} {y4 : T_heap_Object} {y10 : T_heap_Object} {b131 : Bool} (S : St No h0 m0 h m) (o4 : OB No h0 h m bk4 cs4 88) (e4 : T_heap_Object.E m y4 cs4) (o10 : OB No h0 h m bk10 cs10 88) (e10 : T_heap_Object.E m y10 cs10) (d0_1 : Dj (fb bk4) (fb bk10)) {r : T_heap_Object × Int} (e : heap_At.j7 y4 y10 b131 = some r) : f43.j7 (heap_At.post No h0 m0 r) (⟨bk4, 0, none⟩ : Addr) (⟨bk10, 0, none⟩ : Addr) b131 h := by
  unfold heap_At.j7 at e
  obtain ⟨Ae4_4, ce4_4, rfl, ke4_4, re4_4⟩ := e4
  obtain ⟨Ae10_4, ce10_4, rfl, ke10_4, re10_4⟩ := e10
  refine f43.j7_in ?_
  unfold f43.j7T
  refine split_any_e e (fun c206 e => ?_) (fun c206 e => ?_)
  · obtain ⟨h200, w201, o202, t203⟩ := o4.stA S.s [(Value.int .i64 (0 : Int)), (Value.int .i64 (0 : Int)), (Value.int .i64 (0 : Int)), (Value.string (ByteArray.mk #[])), (Value.slice none 0 0)] rfl (Flats.cons trivial (Flats.cons trivial (Flats.cons trivial (Flats.cons trivial (Flats.cons trivial Flats.nil)))))
    refine ⟨[(Value.int .i64 (0 : Int)), (Value.int .i64 (0 : Int)), (Value.int .i64 (0 : Int)), (Value.string (ByteArray.mk #[])), (Value.slice none 0 0)], rfl, rfl, h200, w201, ?_⟩
    have o202 : OB _ _ h200 _ bk4 [(Value.int .i64 (0 : Int)), (Value.int .i64 (0 : Int)), (Value.int .i64 (0 : Int)), (Value.string (ByteArray.mk #[])), (Value.slice none 0 0)] 88 := o202
    have S204 := S.then t203 (fun i _ hi => o4.wr i hi)
    have o205 := o10.step t203 d0_1
    refine ⟨_, ldA (Sub.refl _) o202.all, ?_⟩
    cases e
    exact ⟨_, _, S204, rfl, (show T_heap_Object.E _ (T_heap_Object.mk (0 : Int) (0 : Int) (0 : Int) (ByteArray.mk #[]) ([] : List Int)) [(Value.int .i64 (0 : Int)), (Value.int .i64 (0 : Int)), (Value.int .i64 (0 : Int)), (Value.string (ByteArray.mk #[])), (Value.slice none 0 0)] from ⟨_, _, rfl, (Nat.le_refl 0), Rd.nil⟩)⟩
  · exact heap_At.j6.walk S o4 (show T_heap_Object.E _ y4 [(Value.int .i64 y4.At), (Value.int .i64 y4.Kind), (Value.int .i64 y4.Num), (Value.string y4.Text), (Value.slice Ae4_4 (List.length y4.Parts) ce4_4)] from ⟨_, _, rfl, ke4_4, re4_4⟩) o10 (show T_heap_Object.E _ y10 [(Value.int .i64 y10.At), (Value.int .i64 y10.Kind), (Value.int .i64 y10.Num), (Value.string y10.Text), (Value.slice Ae10_4 (List.length y10.Parts) ce10_4)] from ⟨_, _, rfl, ke10_4, re10_4⟩) d0_1 e

inductive heap_At.l0_k.Pt where
  | l0 (a0 : List Int) (x1 : Int) (y4 : T_heap_Object) (x8 : Int) (x9 : Int) (x10_0 : Int) (x10_1 : Int) (x10_2 : Int) (s10_3 : ByteArray) (a10_4 : List Int) (a11 : List Int) (x74 : Int) (x75 : Int)
noncomputable def heap_At.l0_k.body (go : (p : heap_At.l0_k.Pt) → Option (T_heap_Object × Int)) : (p : heap_At.l0_k.Pt) → Option (T_heap_Object × Int)
  | .l0 a0 x1 y4 x8 x9 x10_0 x10_1 x10_2 s10_3 a10_4 a11 x74 x75 => if x75 < x74 then (Option.bind (gi a0 (IntKind.wrap .i64 (x1 + (IntKind.wrap .i64 (Int.tdiv x75 (8 : Int)))))) fun y69 => if 0 ≤ (IntKind.wrap .i64 ((8 : Int) * (Int.tmod x75 (8 : Int)))) then (Option.bind (ap 1 a11 ([(IntKind.wrap .u8 (shrI .u64 y69 (IntKind.wrap .i64 ((8 : Int) * (Int.tmod x75 (8 : Int))))))] : List Int)) fun l91 => (go (.l0 a0 x1 y4 x8 x9 x10_0 x10_1 x10_2 s10_3 a10_4 l91 x74 (IntKind.wrap .i64 (x75 + (1 : Int)))))) else none) else (Option.bind (sls a0 (IntKind.wrap .i64 (x1 + (IntKind.wrap .i64 (Int.tdiv (IntKind.wrap .i64 (x8 + (7 : Int))) (8 : Int))))) (IntKind.wrap .i64 ((IntKind.wrap .i64 (x1 + (IntKind.wrap .i64 (Int.tdiv (IntKind.wrap .i64 (x8 + (7 : Int))) (8 : Int))))) + x9))) fun l117 => Option.bind (ap 8 a10_4 l117) fun l122 => Option.bind (heap_Put ([] : List Int) (T_heap_Object.mk x10_0 x10_1 x10_2 (bytesOf a11) l122)) fun y157 => if y157.2.2 = (0 : Int) then (Option.bind (sls a0 x10_0 (IntKind.wrap .i64 ((IntKind.wrap .i64 (x1 + (IntKind.wrap .i64 (Int.tdiv (IntKind.wrap .i64 (x8 + (7 : Int))) (8 : Int))))) + x9))) fun l177 => Option.bind (slices_Equal_113 y157.1 l177) fun y182 => (heap_At.j7 y4 (T_heap_Object.mk x10_0 x10_1 x10_2 (bytesOf a11) l122) (!y182))) else ((heap_At.j7 y4 (T_heap_Object.mk x10_0 x10_1 x10_2 (bytesOf a11) l122) true)))
theorem heap_At.l0_k.mono : MonoF (β := fun _ => (T_heap_Object × Int)) heap_At.l0_k.body := fun f g hfg p => match p with
  | .l0 a0 x1 y4 x8 x9 x10_0 x10_1 x10_2 s10_3 a10_4 a11 x74 x75 => LeO.ite (LeO.bind (LeO.refl _) fun y69 => LeO.ite (LeO.bind (LeO.refl _) fun l91 => (hfg _)) (LeO.refl _)) (LeO.bind (LeO.refl _) fun l117 => LeO.bind (LeO.refl _) fun l122 => LeO.bind (LeO.refl _) fun y157 => LeO.ite (LeO.bind (LeO.refl _) fun l177 => LeO.bind (LeO.refl _) fun y182 => (LeO.refl _)) ((LeO.refl _)))
noncomputable def heap_At.l0_k.go (p : heap_At.l0_k.Pt) : Option (T_heap_Object × Int) := fixF (β := fun _ => (T_heap_Object × Int)) heap_At.l0_k.body p
noncomputable def heap_At.l0 (a0 : List Int) (x1 : Int) (y4 : T_heap_Object) (x8 : Int) (x9 : Int) (x10_0 : Int) (x10_1 : Int) (x10_2 : Int) (s10_3 : ByteArray) (a10_4 : List Int) (a11 : List Int) (x74 : Int) (x75 : Int) : Option (T_heap_Object × Int) := heap_At.l0_k.go (.l0 a0 x1 y4 x8 x9 x10_0 x10_1 x10_2 s10_3 a10_4 a11 x74 x75)
theorem heap_At.l0_eq (a0 : List Int) (x1 : Int) (y4 : T_heap_Object) (x8 : Int) (x9 : Int) (x10_0 : Int) (x10_1 : Int) (x10_2 : Int) (s10_3 : ByteArray) (a10_4 : List Int) (a11 : List Int) (x74 : Int) (x75 : Int) : heap_At.l0 a0 x1 y4 x8 x9 x10_0 x10_1 x10_2 s10_3 a10_4 a11 x74 x75 = if x75 < x74 then (Option.bind (gi a0 (IntKind.wrap .i64 (x1 + (IntKind.wrap .i64 (Int.tdiv x75 (8 : Int)))))) fun y69 => if 0 ≤ (IntKind.wrap .i64 ((8 : Int) * (Int.tmod x75 (8 : Int)))) then (Option.bind (ap 1 a11 ([(IntKind.wrap .u8 (shrI .u64 y69 (IntKind.wrap .i64 ((8 : Int) * (Int.tmod x75 (8 : Int))))))] : List Int)) fun l91 => (heap_At.l0 a0 x1 y4 x8 x9 x10_0 x10_1 x10_2 s10_3 a10_4 l91 x74 (IntKind.wrap .i64 (x75 + (1 : Int))))) else none) else (Option.bind (sls a0 (IntKind.wrap .i64 (x1 + (IntKind.wrap .i64 (Int.tdiv (IntKind.wrap .i64 (x8 + (7 : Int))) (8 : Int))))) (IntKind.wrap .i64 ((IntKind.wrap .i64 (x1 + (IntKind.wrap .i64 (Int.tdiv (IntKind.wrap .i64 (x8 + (7 : Int))) (8 : Int))))) + x9))) fun l117 => Option.bind (ap 8 a10_4 l117) fun l122 => Option.bind (heap_Put ([] : List Int) (T_heap_Object.mk x10_0 x10_1 x10_2 (bytesOf a11) l122)) fun y157 => if y157.2.2 = (0 : Int) then (Option.bind (sls a0 x10_0 (IntKind.wrap .i64 ((IntKind.wrap .i64 (x1 + (IntKind.wrap .i64 (Int.tdiv (IntKind.wrap .i64 (x8 + (7 : Int))) (8 : Int))))) + x9))) fun l177 => Option.bind (slices_Equal_113 y157.1 l177) fun y182 => (heap_At.j7 y4 (T_heap_Object.mk x10_0 x10_1 x10_2 (bytesOf a11) l122) (!y182))) else ((heap_At.j7 y4 (T_heap_Object.mk x10_0 x10_1 x10_2 (bytesOf a11) l122) true))) := fixF_eq heap_At.l0_k.mono _
def heap_At.l0_k.I : (p : heap_At.l0_k.Pt) → (T_heap_Object × Int) → Prop
  | .l0 a0 x1 y4 x8 x9 x10_0 x10_1 x10_2 s10_3 a10_4 a11 x74 x75, r => ∀ (h0 m0 h m : Heap) (A0 : Option Addr) (n0 c0 : Nat) (bk4 : Nat) (cs4 : List Value) (bk10 : Nat) (A10_4 : Option Addr) (n10_4 c10_4 : Nat) (A11 : Option Addr) (n11 c11 : Nat) (S : St No h0 m0 h m) (ne0 : n0 = List.length a0) (k0 : List.length a0 ≤ c0) (r0 : Rd 1 (eInt .u64) m A0 a0) (o4 : OB No h0 h m bk4 cs4 88) (e4 : T_heap_Object.E m y4 cs4) (o10 : OB No h0 h m bk10 [(Value.int .i64 x10_0), (Value.int .i64 x10_1), (Value.int .i64 x10_2), (Value.string s10_3), (Value.slice A10_4 n10_4 c10_4)] 88) (ne10_4 : n10_4 = List.length a10_4) (o10_4 : OS No h0 1 (eInt .u64) h m A10_4 a10_4 c10_4) (ne11 : n11 = List.length a11) (o11 : OS No h0 1 (eInt .u8) h m A11 a11 c11) (d0_1 : Dj (fb bk4) (fb bk10)) (d0_2 : Dj (fb bk4) (fp A10_4 c10_4)) (d0_3 : Dj (fb bk4) (fp A11 c11)) (d1_2 : Dj (fb bk10) (fp A10_4 c10_4)) (d1_3 : Dj (fb bk10) (fp A11 c11)) (d2_3 : Dj (fp A10_4 c10_4) (fp A11 c11)), f43.l0 (heap_At.post No h0 m0 r) A0 n0 c0 x1 (⟨bk4, 0, none⟩ : Addr) x8 x9 (⟨bk10, 0, none⟩ : Addr) A11 n11 c11 x74 x75 h
set_option maxRecDepth 100000 in
theorem heap_At.l0_k.step_l0 (go : (p : heap_At.l0_k.Pt) → Option (T_heap_Object × Int)) (ih : ∀ p r, go p = some r → heap_At.l0_k.I p r) (a0 : List Int) (x1 : Int) (y4 : T_heap_Object) (x8 : Int) (x9 : Int) (x10_0 : Int) (x10_1 : Int) (x10_2 : Int) (s10_3 : ByteArray) (a10_4 : List Int) (a11 : List Int) (x74 : Int) (x75 : Int) (r : T_heap_Object × Int) (e : heap_At.l0_k.body go (.l0 a0 x1 y4 x8 x9 x10_0 x10_1 x10_2 s10_3 a10_4 a11 x74 x75) = some r) : heap_At.l0_k.I (.l0 a0 x1 y4 x8 x9 x10_0 x10_1 x10_2 s10_3 a10_4 a11 x74 x75) r := by
  unfold heap_At.l0_k.body at e
  intro h0 m0 h m A0 n0 c0 bk4 cs4 bk10 A10_4 n10_4 c10_4 A11 n11 c11 S ne0 k0 r0 o4 e4 o10 ne10_4 o10_4 ne11 o11 d0_1 d0_2 d0_3 d1_2 d1_3 d2_3
  subst ne0
  obtain ⟨Ae4_4, ce4_4, rfl, ke4_4, re4_4⟩ := e4
  subst ne10_4
  subst ne11
  refine f43.l0_in ?_
  unfold f43.l0T
  refine split_dec_e e (fun c199 e => ?_) (fun c199 e => ?_)
  · refine ⟨by decide, ?_⟩
    obtain ⟨y69, g70, e⟩ := bind_e e
    refine r0.addr rfl g70 fun a71 cs72 ha73 hc74 he75 => ?_
    obtain rfl : cs72 = [(Value.int .u64 y69)] := he75
    refine ⟨_, ld0 S.s hc74 rfl, _, rfl, ?_⟩
    refine ⟨by decide, ?_⟩
    obtain ⟨g76, e⟩ := guard_e e
    refine ⟨g76, ?_⟩
    refine new_in S fun h77 o78 x79 => ?_
    have d82 : Dj (fb bk4) (fb (Array.size h)) := Dj.new o4.lt
    have d83 : Dj (fp A10_4 c10_4) (fb (Array.size h)) := Dj.new o10_4.lt
    have d84 : Dj (fb bk10) (fb (Array.size h)) := Dj.new o10.lt
    have d85 : Dj (fp A11 c11) (fb (Array.size h)) := Dj.new o11.lt
    have o86 := o4.ext x79
    have o87 := o10_4.ext (tell_int .u64) S.s x79
    have o88 := o10.ext x79
    have o89 := o11.ext (tell_int .u8) S.s x79
    have S80 := S.ext' x79
    have o78 : OB _ _ h77 _ (Array.size h) [(Value.int .u8 (IntKind.wrap .u8 (shrI .u64 y69 (IntKind.wrap .i64 ((8 : Int) * (Int.tmod x75 (8 : Int)))))))] 5 := o78
    have o90 : OS _ _ 1 (eInt .u8) h77 m (some ⟨(Array.size h), 0, none⟩) ([(IntKind.wrap .u8 (shrI .u64 y69 (IntKind.wrap .i64 ((8 : Int) * (Int.tmod x75 (8 : Int))))))] : List Int) 1 := OB.row o78 (CsE.cons (c1 := [(Value.int .u8 (IntKind.wrap .u8 (shrI .u64 y69 (IntKind.wrap .i64 ((8 : Int) * (Int.tmod x75 (8 : Int)))))))]) rfl rfl CsE.nil) rfl
    obtain ⟨l91, g92, e⟩ := bind_e e
    refine o89.app (tell_int .u8) S80 rfl rfl (o90.srcE rfl) (by decide) g92 fun A93 c94 h95 o96 t97 n98 => ?_
    refine ⟨_, _, _, rfl, ?_⟩
    have d100 : Dj (fb bk4) (fp A93 c94) := Dj.app d0_3 o86.lt n98
    have d101 : Dj (fp A10_4 c10_4) (fp A93 c94) := Dj.app d2_3 o87.lt n98
    have d102 : Dj (fb bk10) (fp A93 c94) := Dj.app d1_3 o88.lt n98
    have d103 : Dj (fp (some ⟨(Array.size h), 0, none⟩) 1) (fp A93 c94) := Dj.app ((d85.row)).symm o90.lt n98
    have S104 := S80.then t97 (fun i _ hi => o89.wr i hi)
    have o105 := o86.step t97 (d0_3).symm
    have o106 := o87.step (tell_int .u64) t97 (d2_3).symm
    have o107 := o88.step t97 (d1_3).symm
    have o108 := o90.step (tell_int .u8) t97 (d85.row)
    exact (ih _ _ e) _ _ _ _ _ _ _ _ _ _ _ _ _ _ _ _ S104 rfl k0 r0 o105 (show T_heap_Object.E _ y4 [(Value.int .i64 y4.At), (Value.int .i64 y4.Kind), (Value.int .i64 y4.Num), (Value.string y4.Text), (Value.slice Ae4_4 (List.length y4.Parts) ce4_4)] from ⟨_, _, rfl, ke4_4, re4_4⟩) o107 rfl o106 rfl o96 d0_1 d0_2 d100 d1_2 d102 d101
  · refine gen_b2s' (e := 5) (by kernel_rfl) (by kernel_rfl) (by kernel_rfl) (o11.rd (tell_int .u8) S.s) rfl ?_
    refine ⟨_, rfl, ?_⟩
    refine ⟨by decide, ?_⟩
    obtain ⟨h109, w110, o111, t112⟩ := o10.st (k := 3) S.s (v := (Value.string (bytesOf a11))) (Nat.le_of_ble_eq_true rfl) trivial
    refine ⟨h109, w110, ?_⟩
    have o111 : OB _ _ h109 _ bk10 [(Value.int .i64 x10_0), (Value.int .i64 x10_1), (Value.int .i64 x10_2), (Value.string (bytesOf a11)), (Value.slice A10_4 (List.length a10_4) c10_4)] 88 := o111
    have S113 := S.then t112 (fun i _ hi => o10.wr i hi)
    have o114 := o4.step t112 (d0_1).symm
    have o115 := o10_4.step (tell_int .u64) t112 d1_2
    have o116 := o11.step (tell_int .u8) t112 d1_3
    obtain ⟨l117, g118, e⟩ := bind_e e
    have q119 := sls_e g118
    refine ⟨q119.1, q119.2.1, cap_in q119.2.2.1 k0, ?_⟩
    try rw [q119.2.2.2.1]
    have k120 : List.length l117 ≤ (c0 - Int.toNat (IntKind.wrap .i64 (x1 + (IntKind.wrap .i64 (Int.tdiv (IntKind.wrap .i64 (x8 + (7 : Int))) (8 : Int)))))) := sls_cap g118 k0
    have r121 := r0.sls g118 (le_mx q119.2.2.1 k0)
    refine ⟨_, ldk (k := 4) (Sub.refl _) o111.all rfl, _, _, _, rfl, ?_⟩
    obtain ⟨l122, g123, e⟩ := bind_e e
    refine o115.app (tell_int .u64) S113 rfl rfl (Rd.srcE r121 (tell_int .u64) S113.s rfl) (by decide) g123 fun A124 c125 h126 o127 t128 n129 => ?_
    refine ⟨_, _, _, rfl, ?_⟩
    have d131 : Dj (fb bk4) (fp A124 c125) := Dj.app d0_2 o114.lt n129
    have d132 : Dj (fb bk10) (fp A124 c125) := Dj.app d1_2 o111.lt n129
    have d133 : Dj (fp A11 c11) (fp A124 c125) := Dj.app (d2_3).symm o116.lt n129
    have S134 := S113.then t128 (fun i _ hi => o115.wr i hi)
    have o135 := o114.step t128 (d0_2).symm
    have o136 := o111.step t128 (d1_2).symm
    have o137 := o116.step (tell_int .u8) t128 d2_3
    obtain ⟨h138, w139, o140, t141⟩ := o136.st (k := 4) S134.s (v := (Value.slice A124 (List.length l122) c125)) (Nat.le_of_ble_eq_true rfl) trivial
    refine ⟨h138, w139, ?_⟩
    have o140 : OB _ _ h138 _ bk10 [(Value.int .i64 x10_0), (Value.int .i64 x10_1), (Value.int .i64 x10_2), (Value.string (bytesOf a11)), (Value.slice A124 (List.length l122) c125)] 88 := o140
    have S142 := S134.then t141 (fun i _ hi => o136.wr i hi)
    have o143 := o135.step t141 (d0_1).symm
    have o144 := o137.step (tell_int .u8) t141 d1_3
    have o145 := o127.step (tell_int .u64) t141 d132
    refine ⟨_, ldA (Sub.refl _) o140.all, ?_⟩
    obtain ⟨y157, g158, e⟩ := bind_e e
    obtain ⟨m150, L149, u146, s147, t148⟩ := St.lend S142.s (fp A124 c125)
    have r151 : Rd 1 (eInt .u64) m150 A124 l122 := o145.lent (tell_int .u64) S142.s L149 (fun _ h => h)
    have k152 := o145.cap
    have S153 := S142.then t148 (fun i _ hi => o145.wr i hi)
    have o154 := o143.step t148 (d131).symm
    have o155 := o140.step t148 (d132).symm
    have o156 := o144.step (tell_int .u8) t148 (d133).symm
    refine (heap_Put.walk S153.s rfl (Nat.le_refl 0) Rd.nil (show T_heap_Object.E _ (T_heap_Object.mk x10_0 x10_1 x10_2 (bytesOf a11) l122) [(Value.int .i64 x10_0), (Value.int .i64 x10_1), (Value.int .i64 x10_2), (Value.string (bytesOf a11)), (Value.slice A124 (List.length l122) c125)] from ⟨_, _, rfl, k152, r151⟩) g158).mono ?_
    rintro _ h159 ⟨m160, A162, n163, c164, T161, rfl, ne165, o166⟩
    subst ne165
    have nw173 := o166.newNo
    have d174 : Dj (fb bk4) (fp A162 c164) := fun i h1 h2 => absurd (o154.lt i h1) (Nat.not_lt.2 (nw173 i h2))
    have d175 : Dj (fb bk10) (fp A162 c164) := fun i h1 h2 => absurd (o155.lt i h1) (Nat.not_lt.2 (nw173 i h2))
    have d176 : Dj (fp A11 c11) (fp A162 c164) := fun i h1 h2 => absurd (o156.lt i h1) (Nat.not_lt.2 (nw173 i h2))
    have o172 := o166.take S153 (fun _ h => h.elim)
    have S168 := S153.grow T161
    have o169 := o154.step T161 Dj.no
    have o170 := o155.step T161 Dj.no
    have o171 := o156.step (tell_int .u8) T161 Dj.no
    refine ⟨_, _, _, _, _, rfl, ?_⟩
    refine split_ne_e e (fun c198 e => ?_) (fun c198 e => ?_)
    · exact heap_At.j7.walk S168 o169 (show T_heap_Object.E _ y4 [(Value.int .i64 y4.At), (Value.int .i64 y4.Kind), (Value.int .i64 y4.Num), (Value.string y4.Text), (Value.slice Ae4_4 (List.length y4.Parts) ce4_4)] from ⟨_, _, rfl, ke4_4, (re4_4.sub (tell_int .u64) (t148.up.trans T161.up))⟩) o170 (show T_heap_Object.E _ (T_heap_Object.mk x10_0 x10_1 x10_2 (bytesOf a11) l122) [(Value.int .i64 x10_0), (Value.int .i64 x10_1), (Value.int .i64 x10_2), (Value.string (bytesOf a11)), (Value.slice A124 (List.length l122) c125)] from ⟨_, _, rfl, k152, (r151.sub (tell_int .u64) T161.up)⟩) d0_1 e
    · refine ⟨_, ld0 (Sub.refl _) o170.all rfl, _, rfl, ?_⟩
      obtain ⟨l177, g178, e⟩ := bind_e e
      have q179 := sls_e g178
      refine ⟨q179.1, q179.2.1, cap_in q179.2.2.1 k0, ?_⟩
      try rw [q179.2.2.2.1]
      have k180 : List.length l177 ≤ (c0 - Int.toNat x10_0) := sls_cap g178 k0
      have r181 := r0.sls g178 (le_mx q179.2.2.1 k0)
      obtain ⟨y182, g183, e⟩ := bind_e e
      obtain ⟨m187, L188, u189, s190, t191⟩ := St.lend S168.s (fp A162 c164)
      refine (slices_Equal_113.walk s190 rfl o172.cap (o172.lent (tell_int .u64) S168.s L188 (fun _ h => h)) rfl k180 (r181.sub (tell_int .u64) (t148.up.trans (T161.up.trans u189))) g183).mono ?_
      rintro _ h184 ⟨m185, T186, rfl⟩
      have x192 := T186.ext
      have o194 := o169.ext x192
      have o195 := o170.ext x192
      have o196 := o171.ext (tell_int .u8) S168.s x192
      have o197 := o172.ext (tell_int .u64) S168.s x192
      have S193 := S168.ext' x192
      refine ⟨_, rfl, ?_⟩
      exact heap_At.j7.walk S193 o194 (show T_heap_Object.E _ y4 [(Value.int .i64 y4.At), (Value.int .i64 y4.Kind), (Value.int .i64 y4.Num), (Value.string y4.Text), (Value.slice Ae4_4 (List.length y4.Parts) ce4_4)] from ⟨_, _, rfl, ke4_4, (re4_4.sub (tell_int .u64) (t148.up.trans T161.up))⟩) o195 (show T_heap_Object.E _ (T_heap_Object.mk x10_0 x10_1 x10_2 (bytesOf a11) l122) [(Value.int .i64 x10_0), (Value.int .i64 x10_1), (Value.int .i64 x10_2), (Value.string (bytesOf a11)), (Value.slice A124 (List.length l122) c125)] from ⟨_, _, rfl, k152, (r151.sub (tell_int .u64) T161.up)⟩) d0_1 e
theorem heap_At.l0_k.all {p : heap_At.l0_k.Pt} {r : (T_heap_Object × Int)} (e : heap_At.l0_k.go p = some r) : heap_At.l0_k.I p r := fixF_ind (β := fun _ => (T_heap_Object × Int)) heap_At.l0_k.mono (I := heap_At.l0_k.I) (fun go ih p r e => match p with
  | .l0 a0 x1 y4 x8 x9 x10_0 x10_1 x10_2 s10_3 a10_4 a11 x74 x75 => heap_At.l0_k.step_l0 go ih a0 x1 y4 x8 x9 x10_0 x10_1 x10_2 s10_3 a10_4 a11 x74 x75 r e
  ) e
theorem heap_At.l0.walk {h0 m0 h m : Heap} {A0 : Option Addr} {n0 c0 : Nat} {bk4 : Nat} {cs4 : List Value} {bk10 : Nat} {A10_4 : Option Addr} {n10_4 c10_4 : Nat} {A11 : Option Addr} {n11 c11 : Nat} {a0 : List Int} {x1 : Int} {y4 : T_heap_Object} {x8 : Int} {x9 : Int} {x10_0 : Int} {x10_1 : Int} {x10_2 : Int} {s10_3 : ByteArray} {a10_4 : List Int} {a11 : List Int} {x74 : Int} {x75 : Int} (S : St No h0 m0 h m) (ne0 : n0 = List.length a0) (k0 : List.length a0 ≤ c0) (r0 : Rd 1 (eInt .u64) m A0 a0) (o4 : OB No h0 h m bk4 cs4 88) (e4 : T_heap_Object.E m y4 cs4) (o10 : OB No h0 h m bk10 [(Value.int .i64 x10_0), (Value.int .i64 x10_1), (Value.int .i64 x10_2), (Value.string s10_3), (Value.slice A10_4 n10_4 c10_4)] 88) (ne10_4 : n10_4 = List.length a10_4) (o10_4 : OS No h0 1 (eInt .u64) h m A10_4 a10_4 c10_4) (ne11 : n11 = List.length a11) (o11 : OS No h0 1 (eInt .u8) h m A11 a11 c11) (d0_1 : Dj (fb bk4) (fb bk10)) (d0_2 : Dj (fb bk4) (fp A10_4 c10_4)) (d0_3 : Dj (fb bk4) (fp A11 c11)) (d1_2 : Dj (fb bk10) (fp A10_4 c10_4)) (d1_3 : Dj (fb bk10) (fp A11 c11)) (d2_3 : Dj (fp A10_4 c10_4) (fp A11 c11)) {r : T_heap_Object × Int} (e : heap_At.l0 a0 x1 y4 x8 x9 x10_0 x10_1 x10_2 s10_3 a10_4 a11 x74 x75 = some r) : f43.l0 (heap_At.post No h0 m0 r) A0 n0 c0 x1 (⟨bk4, 0, none⟩ : Addr) x8 x9 (⟨bk10, 0, none⟩ : Addr) A11 n11 c11 x74 x75 h := heap_At.l0_k.all (p := .l0 a0 x1 y4 x8 x9 x10_0 x10_1 x10_2 s10_3 a10_4 a11 x74 x75) e h0 m0 h m A0 n0 c0 bk4 cs4 bk10 A10_4 n10_4 c10_4 A11 n11 c11 S ne0 k0 r0 o4 e4 o10 ne10_4 o10_4 ne11 o11 d0_1 d0_2 d0_3 d1_2 d1_3 d2_3

noncomputable def heap_At.j4 (a0 : List Int) (x1 : Int) (y4 : T_heap_Object) (x8 : Int) (x9 : Int) (x10_0 : Int) (x10_1 : Int) (x10_2 : Int) (s10_3 : ByteArray) (a10_4 : List Int) : Option (T_heap_Object × Int) :=
  (heap_At.l0 a0 x1 y4 x8 x9 x10_0 x10_1 x10_2 s10_3 a10_4 ([] : List Int) x8 (0 : Int))
set_option maxRecDepth 100000 in
theorem heap_At.j4.walk {h0 m0 h m : Heap} {A0 : Option Addr} {n0 c0 : Nat} {bk4 : Nat} {cs4 : List Value} {bk10 : Nat} {A10_4 : Option Addr} {n10_4 c10_4 : Nat} {a0 : List Int} {x1 : Int} {y4 : T_heap_Object} {x8 : Int} {x9 : Int} {x10_0 : Int} {x10_1 : Int} {x10_2 : Int} {s10_3 : ByteArray} {a10_4 : List Int} (S : St No h0 m0 h m) (ne0 : n0 = List.length a0) (k0 : List.length a0 ≤ c0) (r0 : Rd 1 (eInt .u64) m A0 a0) (o4 : OB No h0 h m bk4 cs4 88) (e4 : T_heap_Object.E m y4 cs4) (o10 : OB No h0 h m bk10 [(Value.int .i64 x10_0), (Value.int .i64 x10_1), (Value.int .i64 x10_2), (Value.string s10_3), (Value.slice A10_4 n10_4 c10_4)] 88) (ne10_4 : n10_4 = List.length a10_4) (o10_4 : OS No h0 1 (eInt .u64) h m A10_4 a10_4 c10_4) (d0_1 : Dj (fb bk4) (fb bk10)) (d0_2 : Dj (fb bk4) (fp A10_4 c10_4)) (d1_2 : Dj (fb bk10) (fp A10_4 c10_4)) {r : T_heap_Object × Int} (e : heap_At.j4 a0 x1 y4 x8 x9 x10_0 x10_1 x10_2 s10_3 a10_4 = some r) : f43.j4 (heap_At.post No h0 m0 r) A0 n0 c0 x1 (⟨bk4, 0, none⟩ : Addr) x8 x9 (⟨bk10, 0, none⟩ : Addr) h := by
  unfold heap_At.j4 at e
  subst ne0
  obtain ⟨Ae4_4, ce4_4, rfl, ke4_4, re4_4⟩ := e4
  subst ne10_4
  refine f43.j4_in ?_
  unfold f43.j4T
  have o68 : OS No h0 1 (eInt .u8) h m none ([] : List Int) 0 := .inl ⟨rfl, rfl⟩
  exact heap_At.l0.walk S rfl k0 r0 o4 (show T_heap_Object.E _ y4 [(Value.int .i64 y4.At), (Value.int .i64 y4.Kind), (Value.int .i64 y4.Num), (Value.string y4.Text), (Value.slice Ae4_4 (List.length y4.Parts) ce4_4)] from ⟨_, _, rfl, ke4_4, re4_4⟩) o10 rfl o10_4 rfl o68 d0_1 d0_2 (show Dj (fb bk4) (fp none 0) from Dj.nil) d1_2 (show Dj (fb bk10) (fp none 0) from Dj.nil) (show Dj (fp A10_4 c10_4) (fp none 0) from Dj.nil) e

noncomputable def heap_At.j5 (a0 : List Int) (x1 : Int) (y4 : T_heap_Object) (x8 : Int) (x9 : Int) (x10_0 : Int) (x10_1 : Int) (x10_2 : Int) (s10_3 : ByteArray) (a10_4 : List Int) (b65 : Bool) : Option (T_heap_Object × Int) :=
  if b65 = true then (Option.bind (gi a0 x1) fun y52 => (heap_At.j4 a0 (IntKind.wrap .i64 (x1 + (1 : Int))) y4 x8 x9 x10_0 x10_1 (IntKind.wrap .i64 y52) s10_3 a10_4)) else ((heap_At.j4 a0 x1 y4 x8 x9 x10_0 x10_1 x10_2 s10_3 a10_4))
set_option maxRecDepth 100000 in
theorem heap_At.j5.walk {h0 m0 h m : Heap} {A0 : Option Addr} {n0 c0 : Nat} {bk4 : Nat} {cs4 : List Value} {bk10 : Nat} {A10_4 : Option Addr} {n10_4 c10_4 : Nat} {a0 : List Int} {x1 : Int} {y4 : T_heap_Object} {x8 : Int} {x9 : Int} {x10_0 : Int} {x10_1 : Int} {x10_2 : Int} {s10_3 : ByteArray} {a10_4 : List Int} {b65 : Bool} (S : St No h0 m0 h m) (ne0 : n0 = List.length a0) (k0 : List.length a0 ≤ c0) (r0 : Rd 1 (eInt .u64) m A0 a0) (o4 : OB No h0 h m bk4 cs4 88) (e4 : T_heap_Object.E m y4 cs4) (o10 : OB No h0 h m bk10 [(Value.int .i64 x10_0), (Value.int .i64 x10_1), (Value.int .i64 x10_2), (Value.string s10_3), (Value.slice A10_4 n10_4 c10_4)] 88) (ne10_4 : n10_4 = List.length a10_4) (o10_4 : OS No h0 1 (eInt .u64) h m A10_4 a10_4 c10_4) (d0_1 : Dj (fb bk4) (fb bk10)) (d0_2 : Dj (fb bk4) (fp A10_4 c10_4)) (d1_2 : Dj (fb bk10) (fp A10_4 c10_4)) {r : T_heap_Object × Int} (e : heap_At.j5 a0 x1 y4 x8 x9 x10_0 x10_1 x10_2 s10_3 a10_4 b65 = some r) : f43.j5 (heap_At.post No h0 m0 r) A0 n0 c0 x1 (⟨bk4, 0, none⟩ : Addr) x8 x9 (⟨bk10, 0, none⟩ : Addr) b65 h := by
  unfold heap_At.j5 at e
  subst ne0
  obtain ⟨Ae4_4, ce4_4, rfl, ke4_4, re4_4⟩ := e4
  subst ne10_4
  refine f43.j5_in ?_
  unfold f43.j5T
  refine split_any_e e (fun c66 e => ?_) (fun c66 e => ?_)
  · obtain ⟨y52, g53, e⟩ := bind_e e
    refine r0.addr rfl g53 fun a54 cs55 ha56 hc57 he58 => ?_
    obtain rfl : cs55 = [(Value.int .u64 y52)] := he58
    refine ⟨_, ld0 S.s hc57 rfl, _, rfl, ?_⟩
    obtain ⟨h59, w60, o61, t62⟩ := o10.st (k := 2) S.s (v := (Value.int .i64 (IntKind.wrap .i64 y52))) (Nat.le_of_ble_eq_true rfl) trivial
    refine ⟨h59, w60, ?_⟩
    have o61 : OB _ _ h59 _ bk10 [(Value.int .i64 x10_0), (Value.int .i64 x10_1), (Value.int .i64 (IntKind.wrap .i64 y52)), (Value.string s10_3), (Value.slice A10_4 (List.length a10_4) c10_4)] 88 := o61
    have S63 := S.then t62 (fun i _ hi => o10.wr i hi)
    have o64 := o4.step t62 (d0_1).symm
    have o65 := o10_4.step (tell_int .u64) t62 d1_2
    exact heap_At.j4.walk S63 rfl k0 r0 o64 (show T_heap_Object.E _ y4 [(Value.int .i64 y4.At), (Value.int .i64 y4.Kind), (Value.int .i64 y4.Num), (Value.string y4.Text), (Value.slice Ae4_4 (List.length y4.Parts) ce4_4)] from ⟨_, _, rfl, ke4_4, re4_4⟩) o61 rfl o65 d0_1 d0_2 d1_2 e
  · exact heap_At.j4.walk S rfl k0 r0 o4 (show T_heap_Object.E _ y4 [(Value.int .i64 y4.At), (Value.int .i64 y4.Kind), (Value.int .i64 y4.Num), (Value.string y4.Text), (Value.slice Ae4_4 (List.length y4.Parts) ce4_4)] from ⟨_, _, rfl, ke4_4, re4_4⟩) o10 rfl o10_4 d0_1 d0_2 d1_2 e

noncomputable def heap_At.j2 (a0 : List Int) (x1 : Int) (y4 : T_heap_Object) (x7 : Int) (x8 : Int) (x9 : Int) : Option (T_heap_Object × Int) :=
  if x7 = (1 : Int) then ((heap_At.j5 a0 (IntKind.wrap .i64 (x1 + (1 : Int))) y4 x8 x9 x1 x7 (0 : Int) (ByteArray.mk #[]) ([] : List Int) true)) else ((heap_At.j5 a0 (IntKind.wrap .i64 (x1 + (1 : Int))) y4 x8 x9 x1 x7 (0 : Int) (ByteArray.mk #[]) ([] : List Int) (x7 == (4 : Int))))
set_option maxRecDepth 100000 in
theorem heap_At.j2.walk {h0 m0 h m : Heap} {A0 : Option Addr} {n0 c0 : Nat} {bk4 : Nat} {cs4 : List Value} {a0 : List Int} {x1 : Int} {y4 : T_heap_Object} {x7 : Int} {x8 : Int} {x9 : Int} (S : St No h0 m0 h m) (ne0 : n0 = List.length a0) (k0 : List.length a0 ≤ c0) (r0 : Rd 1 (eInt .u64) m A0 a0) (o4 : OB No h0 h m bk4 cs4 88) (e4 : T_heap_Object.E m y4 cs4) {r : T_heap_Object × Int} (e : heap_At.j2 a0 x1 y4 x7 x8 x9 = some r) : f43.j2 (heap_At.post No h0 m0 r) A0 n0 c0 x1 (⟨bk4, 0, none⟩ : Addr) x7 x8 x9 h := by
  unfold heap_At.j2 at e
  subst ne0
  obtain ⟨Ae4_4, ce4_4, rfl, ke4_4, re4_4⟩ := e4
  refine f43.j2_in ?_
  unfold f43.j2T
  refine new_in S fun h34 o35 x36 => ?_
  have d39 : Dj (fb bk4) (fb (Array.size h)) := Dj.new o4.lt
  have o40 := o4.ext x36
  have S37 := S.ext' x36
  have o35 : OB _ _ h34 _ (Array.size h) [(Value.int .i64 (0 : Int)), (Value.int .i64 (0 : Int)), (Value.int .i64 (0 : Int)), (Value.string (ByteArray.mk #[])), (Value.slice none 0 0)] 88 := o35
  obtain ⟨h41, w42, o43, t44⟩ := o35.stA S37.s [(Value.int .i64 x1), (Value.int .i64 x7), (Value.int .i64 (0 : Int)), (Value.string (ByteArray.mk #[])), (Value.slice none 0 0)] rfl (Flats.cons trivial (Flats.cons trivial (Flats.cons trivial (Flats.cons trivial (Flats.cons trivial Flats.nil)))))
  refine ⟨[(Value.int .i64 x1), (Value.int .i64 x7), (Value.int .i64 (0 : Int)), (Value.string (ByteArray.mk #[])), (Value.slice none 0 0)], rfl, rfl, h41, w42, ?_⟩
  have o43 : OB _ _ h41 _ (Array.size h) [(Value.int .i64 x1), (Value.int .i64 x7), (Value.int .i64 (0 : Int)), (Value.string (ByteArray.mk #[])), (Value.slice none 0 0)] 88 := o43
  have S45 := S37.then t44 (fun i _ hi => o35.wr i hi)
  have o46 := o40.step t44 (d39).symm
  refine split_eq_e e (fun c51 e => ?_) (fun c51 e => ?_)
  · have o48 : OS No h0 1 (eInt .u64) h41 m none ([] : List Int) 0 := .inl ⟨rfl, rfl⟩
    exact heap_At.j5.walk S45 rfl k0 r0 o46 (show T_heap_Object.E _ y4 [(Value.int .i64 y4.At), (Value.int .i64 y4.Kind), (Value.int .i64 y4.Num), (Value.string y4.Text), (Value.slice Ae4_4 (List.length y4.Parts) ce4_4)] from ⟨_, _, rfl, ke4_4, re4_4⟩) o43 rfl o48 d39 (show Dj (fb bk4) (fp none 0) from Dj.nil) (show Dj (fb (Array.size h)) (fp none 0) from Dj.nil) e
  · have o50 : OS No h0 1 (eInt .u64) h41 m none ([] : List Int) 0 := .inl ⟨rfl, rfl⟩
    exact heap_At.j5.walk S45 rfl k0 r0 o46 (show T_heap_Object.E _ y4 [(Value.int .i64 y4.At), (Value.int .i64 y4.Kind), (Value.int .i64 y4.Num), (Value.string y4.Text), (Value.slice Ae4_4 (List.length y4.Parts) ce4_4)] from ⟨_, _, rfl, ke4_4, re4_4⟩) o43 rfl o50 d39 (show Dj (fb bk4) (fp none 0) from Dj.nil) (show Dj (fb (Array.size h)) (fp none 0) from Dj.nil) e

noncomputable def heap_At.j3 (a0 : List Int) (x1 : Int) (y4 : T_heap_Object) (x7 : Int) (x8 : Int) (x9 : Int) (b53 : Bool) : Option (T_heap_Object × Int) :=
  if b53 = true then (some ((T_heap_Object.mk (0 : Int) (0 : Int) (0 : Int) (ByteArray.mk #[]) ([] : List Int)), (3 : Int))) else ((heap_At.j2 a0 x1 y4 x7 x8 x9))
set_option maxRecDepth 100000 in
theorem heap_At.j3.walk {h0 m0 h m : Heap} {A0 : Option Addr} {n0 c0 : Nat} {bk4 : Nat} {cs4 : List Value} {a0 : List Int} {x1 : Int} {y4 : T_heap_Object} {x7 : Int} {x8 : Int} {x9 : Int} {b53 : Bool} (S : St No h0 m0 h m) (ne0 : n0 = List.length a0) (k0 : List.length a0 ≤ c0) (r0 : Rd 1 (eInt .u64) m A0 a0) (o4 : OB No h0 h m bk4 cs4 88) (e4 : T_heap_Object.E m y4 cs4) {r : T_heap_Object × Int} (e : heap_At.j3 a0 x1 y4 x7 x8 x9 b53 = some r) : f43.j3 (heap_At.post No h0 m0 r) A0 n0 c0 x1 (⟨bk4, 0, none⟩ : Addr) x7 x8 x9 b53 h := by
  unfold heap_At.j3 at e
  subst ne0
  obtain ⟨Ae4_4, ce4_4, rfl, ke4_4, re4_4⟩ := e4
  refine f43.j3_in ?_
  unfold f43.j3T
  refine split_any_e e (fun c33 e => ?_) (fun c33 e => ?_)
  · obtain ⟨h28, w29, o30, t31⟩ := o4.stA S.s [(Value.int .i64 (0 : Int)), (Value.int .i64 (0 : Int)), (Value.int .i64 (0 : Int)), (Value.string (ByteArray.mk #[])), (Value.slice none 0 0)] rfl (Flats.cons trivial (Flats.cons trivial (Flats.cons trivial (Flats.cons trivial (Flats.cons trivial Flats.nil)))))
    refine ⟨[(Value.int .i64 (0 : Int)), (Value.int .i64 (0 : Int)), (Value.int .i64 (0 : Int)), (Value.string (ByteArray.mk #[])), (Value.slice none 0 0)], rfl, rfl, h28, w29, ?_⟩
    have o30 : OB _ _ h28 _ bk4 [(Value.int .i64 (0 : Int)), (Value.int .i64 (0 : Int)), (Value.int .i64 (0 : Int)), (Value.string (ByteArray.mk #[])), (Value.slice none 0 0)] 88 := o30
    have S32 := S.then t31 (fun i _ hi => o4.wr i hi)
    refine ⟨_, ldA (Sub.refl _) o30.all, ?_⟩
    cases e
    exact ⟨_, _, S32, rfl, (show T_heap_Object.E _ (T_heap_Object.mk (0 : Int) (0 : Int) (0 : Int) (ByteArray.mk #[]) ([] : List Int)) [(Value.int .i64 (0 : Int)), (Value.int .i64 (0 : Int)), (Value.int .i64 (0 : Int)), (Value.string (ByteArray.mk #[])), (Value.slice none 0 0)] from ⟨_, _, rfl, (Nat.le_refl 0), Rd.nil⟩)⟩
  · exact heap_At.j2.walk S rfl k0 r0 o4 (show T_heap_Object.E _ y4 [(Value.int .i64 y4.At), (Value.int .i64 y4.Kind), (Value.int .i64 y4.Num), (Value.string y4.Text), (Value.slice Ae4_4 (List.length y4.Parts) ce4_4)] from ⟨_, _, rfl, ke4_4, re4_4⟩) e

noncomputable def heap_At.j0 (a0 : List Int) (x1 : Int) (y4 : T_heap_Object) : Option (T_heap_Object × Int) :=
  Option.bind (gi a0 x1) fun y13 => if (shrI .u64 y13 (32 : Int)) = (0 : Int) then (Option.bind (heap_room (IntKind.wrap .i64 (bitsI .and .u64 y13 (255 : Int))) (IntKind.wrap .i64 (bitsI .and .u64 (shrI .u64 y13 (8 : Int)) (4095 : Int))) (IntKind.wrap .i64 (bitsI .and .u64 (shrI .u64 y13 (20 : Int)) (4095 : Int)))) fun y20 => (heap_At.j3 a0 x1 y4 (IntKind.wrap .i64 (bitsI .and .u64 y13 (255 : Int))) (IntKind.wrap .i64 (bitsI .and .u64 (shrI .u64 y13 (8 : Int)) (4095 : Int))) (IntKind.wrap .i64 (bitsI .and .u64 (shrI .u64 y13 (20 : Int)) (4095 : Int))) (decide (y20 > (IntKind.wrap .i64 ((((List.length a0) : Nat) : Int) - x1)))))) else ((heap_At.j3 a0 x1 y4 (IntKind.wrap .i64 (bitsI .and .u64 y13 (255 : Int))) (IntKind.wrap .i64 (bitsI .and .u64 (shrI .u64 y13 (8 : Int)) (4095 : Int))) (IntKind.wrap .i64 (bitsI .and .u64 (shrI .u64 y13 (20 : Int)) (4095 : Int))) true))
set_option maxRecDepth 100000 in
theorem heap_At.j0.walk {h0 m0 h m : Heap} {A0 : Option Addr} {n0 c0 : Nat} {bk4 : Nat} {cs4 : List Value} {a0 : List Int} {x1 : Int} {y4 : T_heap_Object} (S : St No h0 m0 h m) (ne0 : n0 = List.length a0) (k0 : List.length a0 ≤ c0) (r0 : Rd 1 (eInt .u64) m A0 a0) (o4 : OB No h0 h m bk4 cs4 88) (e4 : T_heap_Object.E m y4 cs4) {r : T_heap_Object × Int} (e : heap_At.j0 a0 x1 y4 = some r) : f43.j0 (heap_At.post No h0 m0 r) A0 n0 c0 x1 (⟨bk4, 0, none⟩ : Addr) h := by
  unfold heap_At.j0 at e
  subst ne0
  obtain ⟨Ae4_4, ce4_4, rfl, ke4_4, re4_4⟩ := e4
  refine f43.j0_in ?_
  unfold f43.j0T
  obtain ⟨y13, g14, e⟩ := bind_e e
  refine r0.addr rfl g14 fun a15 cs16 ha17 hc18 he19 => ?_
  obtain rfl : cs16 = [(Value.int .u64 y13)] := he19
  refine ⟨_, ld0 S.s hc18 rfl, _, rfl, ?_⟩
  refine ⟨by decide, ?_⟩
  refine ⟨by decide, ?_⟩
  refine ⟨by decide, ?_⟩
  refine split_ne_e e (fun c27 e => ?_) (fun c27 e => ?_)
  · exact heap_At.j3.walk S rfl k0 r0 o4 (show T_heap_Object.E _ y4 [(Value.int .i64 y4.At), (Value.int .i64 y4.Kind), (Value.int .i64 y4.Num), (Value.string y4.Text), (Value.slice Ae4_4 (List.length y4.Parts) ce4_4)] from ⟨_, _, rfl, ke4_4, re4_4⟩) e
  · obtain ⟨y20, g21, e⟩ := bind_e e
    refine (heap_room.walk S.s  g21).mono ?_
    rintro _ h22 ⟨m23, T24, rfl⟩
    have S25 := S.grow T24
    have o26 := o4.step T24 Dj.no
    refine ⟨_, rfl, ?_⟩
    exact heap_At.j3.walk S25 rfl k0 (r0.sub (tell_int .u64) T24.up) o26 (show T_heap_Object.E _ y4 [(Value.int .i64 y4.At), (Value.int .i64 y4.Kind), (Value.int .i64 y4.Num), (Value.string y4.Text), (Value.slice Ae4_4 (List.length y4.Parts) ce4_4)] from ⟨_, _, rfl, ke4_4, (re4_4.sub (tell_int .u64) T24.up)⟩) e

noncomputable def heap_At.j1 (a0 : List Int) (x1 : Int) (y4 : T_heap_Object) (b23 : Bool) : Option (T_heap_Object × Int) :=
  if b23 = true then (some ((T_heap_Object.mk (0 : Int) (0 : Int) (0 : Int) (ByteArray.mk #[]) ([] : List Int)), (4 : Int))) else ((heap_At.j0 a0 x1 y4))
set_option maxRecDepth 100000 in
theorem heap_At.j1.walk {h0 m0 h m : Heap} {A0 : Option Addr} {n0 c0 : Nat} {bk4 : Nat} {cs4 : List Value} {a0 : List Int} {x1 : Int} {y4 : T_heap_Object} {b23 : Bool} (S : St No h0 m0 h m) (ne0 : n0 = List.length a0) (k0 : List.length a0 ≤ c0) (r0 : Rd 1 (eInt .u64) m A0 a0) (o4 : OB No h0 h m bk4 cs4 88) (e4 : T_heap_Object.E m y4 cs4) {r : T_heap_Object × Int} (e : heap_At.j1 a0 x1 y4 b23 = some r) : f43.j1 (heap_At.post No h0 m0 r) A0 n0 c0 x1 (⟨bk4, 0, none⟩ : Addr) b23 h := by
  unfold heap_At.j1 at e
  subst ne0
  obtain ⟨Ae4_4, ce4_4, rfl, ke4_4, re4_4⟩ := e4
  refine f43.j1_in ?_
  unfold f43.j1T
  refine split_any_e e (fun c12 e => ?_) (fun c12 e => ?_)
  · obtain ⟨h7, w8, o9, t10⟩ := o4.stA S.s [(Value.int .i64 (0 : Int)), (Value.int .i64 (0 : Int)), (Value.int .i64 (0 : Int)), (Value.string (ByteArray.mk #[])), (Value.slice none 0 0)] rfl (Flats.cons trivial (Flats.cons trivial (Flats.cons trivial (Flats.cons trivial (Flats.cons trivial Flats.nil)))))
    refine ⟨[(Value.int .i64 (0 : Int)), (Value.int .i64 (0 : Int)), (Value.int .i64 (0 : Int)), (Value.string (ByteArray.mk #[])), (Value.slice none 0 0)], rfl, rfl, h7, w8, ?_⟩
    have o9 : OB _ _ h7 _ bk4 [(Value.int .i64 (0 : Int)), (Value.int .i64 (0 : Int)), (Value.int .i64 (0 : Int)), (Value.string (ByteArray.mk #[])), (Value.slice none 0 0)] 88 := o9
    have S11 := S.then t10 (fun i _ hi => o4.wr i hi)
    refine ⟨_, ldA (Sub.refl _) o9.all, ?_⟩
    cases e
    exact ⟨_, _, S11, rfl, (show T_heap_Object.E _ (T_heap_Object.mk (0 : Int) (0 : Int) (0 : Int) (ByteArray.mk #[]) ([] : List Int)) [(Value.int .i64 (0 : Int)), (Value.int .i64 (0 : Int)), (Value.int .i64 (0 : Int)), (Value.string (ByteArray.mk #[])), (Value.slice none 0 0)] from ⟨_, _, rfl, (Nat.le_refl 0), Rd.nil⟩)⟩
  · exact heap_At.j0.walk S rfl k0 r0 o4 (show T_heap_Object.E _ y4 [(Value.int .i64 y4.At), (Value.int .i64 y4.Kind), (Value.int .i64 y4.Num), (Value.string y4.Text), (Value.slice Ae4_4 (List.length y4.Parts) ce4_4)] from ⟨_, _, rfl, ke4_4, re4_4⟩) e

noncomputable def heap_At (a0 : List Int) (x1 : Int) : Option (T_heap_Object × Int) :=
  if x1 < (0 : Int) then ((heap_At.j1 a0 x1 (T_heap_Object.mk (0 : Int) (0 : Int) (0 : Int) (ByteArray.mk #[]) ([] : List Int)) true)) else ((heap_At.j1 a0 x1 (T_heap_Object.mk (0 : Int) (0 : Int) (0 : Int) (ByteArray.mk #[]) ([] : List Int)) (decide (x1 ≥ (((List.length a0) : Nat) : Int)))))
set_option maxRecDepth 100000 in
theorem heap_At.walk {h m : Heap} {A0 : Option Addr} {n0 c0 : Nat} {a0 : List Int} {x1 : Int} (s : Sub m h) (ne0 : n0 = List.length a0) (k0 : List.length a0 ≤ c0) (r0 : Rd 1 (eInt .u64) m A0 a0) {r : T_heap_Object × Int} (e : heap_At a0 x1 = some r) : Run Try.prog 43 #[Value.slice A0 n0 c0, Value.int .i64 x1] h (heap_At.post No h m r) := by
  unfold heap_At at e
  subst ne0
  have S : St No h m h m := .refl s
  refine f43.run ?_
  unfold f43.runT
  refine new_in S fun h1 o2 x3 => ?_
  have S4 := S.ext' x3
  have o2 : OB _ _ h1 _ (Array.size h) [(Value.int .i64 (0 : Int)), (Value.int .i64 (0 : Int)), (Value.int .i64 (0 : Int)), (Value.string (ByteArray.mk #[])), (Value.slice none 0 0)] 88 := o2
  refine split_dec_e e (fun c6 e => ?_) (fun c6 e => ?_)
  · exact heap_At.j1.walk S4 rfl k0 r0 o2 (show T_heap_Object.E _ (T_heap_Object.mk (0 : Int) (0 : Int) (0 : Int) (ByteArray.mk #[]) ([] : List Int)) [(Value.int .i64 (0 : Int)), (Value.int .i64 (0 : Int)), (Value.int .i64 (0 : Int)), (Value.string (ByteArray.mk #[])), (Value.slice none 0 0)] from ⟨_, _, rfl, (Nat.le_refl 0), Rd.nil⟩) e
  · exact heap_At.j1.walk S4 rfl k0 r0 o2 (show T_heap_Object.E _ (T_heap_Object.mk (0 : Int) (0 : Int) (0 : Int) (ByteArray.mk #[]) ([] : List Int)) [(Value.int .i64 (0 : Int)), (Value.int .i64 (0 : Int)), (Value.int .i64 (0 : Int)), (Value.string (ByteArray.mk #[])), (Value.slice none 0 0)] from ⟨_, _, rfl, (Nat.le_refl 0), Rd.nil⟩) e

/-! ### 44 roadstead/heap.Objects -/
def heap_Objects.post (W : Nat → Prop) (h0 m0 : Heap) (r : (List T_heap_Object) × Int) (v : Value) (h : Heap) : Prop := ∃ m A0 n0 c0, St W h0 m0 h m ∧ v = .tuple #[.slice A0 n0 c0, .int .i64 r.2] ∧ n0 = r.1.length ∧ OS W h0 5 T_heap_Object.E h m A0 r.1 c0
inductive heap_Objects.l0_k.Pt where
  | l0 (a0 : List Int) (a4 : List T_heap_Object) (x5 : Int)
noncomputable def heap_Objects.l0_k.body (go : (p : heap_Objects.l0_k.Pt) → Option ((List T_heap_Object) × Int)) : (p : heap_Objects.l0_k.Pt) → Option ((List T_heap_Object) × Int)
  | .l0 a0 a4 x5 => if x5 < (((List.length a0) : Nat) : Int) then (Option.bind (heap_At a0 x5) fun y6 => if y6.2 = (0 : Int) then (Option.bind (ap 64 a4 ([y6.1] : List T_heap_Object)) fun l40 => Option.bind (heap_room y6.1.Kind ((ByteArray.size y6.1.Text : Nat) : Int) (((List.length y6.1.Parts) : Nat) : Int)) fun y54 => (go (.l0 a0 l40 (IntKind.wrap .i64 (x5 + y54))))) else (some (([] : List T_heap_Object), (3 : Int)))) else (some (a4, (0 : Int)))
theorem heap_Objects.l0_k.mono : MonoF (β := fun _ => ((List T_heap_Object) × Int)) heap_Objects.l0_k.body := fun f g hfg p => match p with
  | .l0 a0 a4 x5 => LeO.ite (LeO.bind (LeO.refl _) fun y6 => LeO.ite (LeO.bind (LeO.refl _) fun l40 => LeO.bind (LeO.refl _) fun y54 => (hfg _)) (LeO.refl _)) (LeO.refl _)
noncomputable def heap_Objects.l0_k.go (p : heap_Objects.l0_k.Pt) : Option ((List T_heap_Object) × Int) := fixF (β := fun _ => ((List T_heap_Object) × Int)) heap_Objects.l0_k.body p
noncomputable def heap_Objects.l0 (a0 : List Int) (a4 : List T_heap_Object) (x5 : Int) : Option ((List T_heap_Object) × Int) := heap_Objects.l0_k.go (.l0 a0 a4 x5)
theorem heap_Objects.l0_eq (a0 : List Int) (a4 : List T_heap_Object) (x5 : Int) : heap_Objects.l0 a0 a4 x5 = if x5 < (((List.length a0) : Nat) : Int) then (Option.bind (heap_At a0 x5) fun y6 => if y6.2 = (0 : Int) then (Option.bind (ap 64 a4 ([y6.1] : List T_heap_Object)) fun l40 => Option.bind (heap_room y6.1.Kind ((ByteArray.size y6.1.Text : Nat) : Int) (((List.length y6.1.Parts) : Nat) : Int)) fun y54 => (heap_Objects.l0 a0 l40 (IntKind.wrap .i64 (x5 + y54)))) else (some (([] : List T_heap_Object), (3 : Int)))) else (some (a4, (0 : Int))) := fixF_eq heap_Objects.l0_k.mono _
def heap_Objects.l0_k.I : (p : heap_Objects.l0_k.Pt) → ((List T_heap_Object) × Int) → Prop
  | .l0 a0 a4 x5, r => ∀ (h0 m0 h m : Heap) (A0 : Option Addr) (n0 c0 : Nat) (A4 : Option Addr) (n4 c4 : Nat) (S : St No h0 m0 h m) (ne0 : n0 = List.length a0) (k0 : List.length a0 ≤ c0) (r0 : Rd 1 (eInt .u64) m A0 a0) (ne4 : n4 = List.length a4) (o4 : OS No h0 5 T_heap_Object.E h m A4 a4 c4), f44.l0 (heap_Objects.post No h0 m0 r) A0 n0 c0 A4 n4 c4 x5 h
set_option maxRecDepth 100000 in
theorem heap_Objects.l0_k.step_l0 (go : (p : heap_Objects.l0_k.Pt) → Option ((List T_heap_Object) × Int)) (ih : ∀ p r, go p = some r → heap_Objects.l0_k.I p r) (a0 : List Int) (a4 : List T_heap_Object) (x5 : Int) (r : (List T_heap_Object) × Int) (e : heap_Objects.l0_k.body go (.l0 a0 a4 x5) = some r) : heap_Objects.l0_k.I (.l0 a0 a4 x5) r := by
  unfold heap_Objects.l0_k.body at e
  intro h0 m0 h m A0 n0 c0 A4 n4 c4 S ne0 k0 r0 ne4 o4
  subst ne0
  subst ne4
  refine f44.l0_in ?_
  unfold f44.l0T
  refine split_dec_e e (fun c63 e => ?_) (fun c63 e => ?_)
  · obtain ⟨y6, g7, e⟩ := bind_e e
    refine (heap_At.walk S.s rfl k0 r0 g7).mono ?_
    rintro _ h8 ⟨m9, cs11, T10, rfl, he12⟩
    obtain ⟨Ahe12_4, che12_4, rfl, khe12_4, rhe12_4⟩ := he12
    have S13 := S.grow T10
    have o14 := o4.step T_heap_Object.T T10 Dj.no
    refine ⟨_, _, rfl, ?_⟩
    refine new_in S13 fun h15 o16 x17 => ?_
    have d20 : Dj (fp A4 c4) (fb (Array.size h8)) := Dj.new o14.lt
    have o21 := o14.ext T_heap_Object.T S13.s x17
    have S18 := S13.ext' x17
    have o16 : OB _ _ h15 _ (Array.size h8) [(Value.int .i64 (0 : Int)), (Value.int .i64 (0 : Int)), (Value.int .i64 (0 : Int)), (Value.string (ByteArray.mk #[])), (Value.slice none 0 0)] 88 := o16
    obtain ⟨h22, w23, o24, t25⟩ := o16.stA S18.s [(Value.int .i64 y6.1.At), (Value.int .i64 y6.1.Kind), (Value.int .i64 y6.1.Num), (Value.string y6.1.Text), (Value.slice Ahe12_4 (List.length y6.1.Parts) che12_4)] rfl (Flats.cons trivial (Flats.cons trivial (Flats.cons trivial (Flats.cons trivial (Flats.cons trivial Flats.nil)))))
    refine ⟨[(Value.int .i64 y6.1.At), (Value.int .i64 y6.1.Kind), (Value.int .i64 y6.1.Num), (Value.string y6.1.Text), (Value.slice Ahe12_4 (List.length y6.1.Parts) che12_4)], rfl, rfl, h22, w23, ?_⟩
    have o24 : OB _ _ h22 _ (Array.size h8) [(Value.int .i64 y6.1.At), (Value.int .i64 y6.1.Kind), (Value.int .i64 y6.1.Num), (Value.string y6.1.Text), (Value.slice Ahe12_4 (List.length y6.1.Parts) che12_4)] 88 := o24
    have S26 := S18.then t25 (fun i _ hi => o16.wr i hi)
    have o27 := o21.step T_heap_Object.T t25 (d20).symm
    refine split_ne_e e (fun c62 e => ?_) (fun c62 e => ?_)
    · have o29 : OS No h0 5 T_heap_Object.E h22 m9 none ([] : List T_heap_Object) 0 := .inl ⟨rfl, rfl⟩
      cases e
      exact ⟨_, _, _, _, S26, rfl, rfl, o29⟩
    · refine ⟨_, ldA (Sub.refl _) o24.all, ?_⟩
      refine ⟨[(Value.int .i64 y6.1.At), (Value.int .i64 y6.1.Kind), (Value.int .i64 y6.1.Num), (Value.string y6.1.Text), (Value.slice Ahe12_4 (List.length y6.1.Parts) che12_4)], rfl, rfl, ?_⟩
      refine new_in S26 fun h30 o31 x32 => ?_
      have d35 : Dj (fp A4 c4) (fb (Array.size h22)) := Dj.new o27.lt
      have d36 : Dj (fb (Array.size h8)) (fb (Array.size h22)) := Dj.new o24.lt
      have o37 := o27.ext T_heap_Object.T S26.s x32
      have o38 := o24.ext x32
      have S33 := S26.ext' x32
      have o31 : OB _ _ h30 _ (Array.size h22) [(Value.int .i64 y6.1.At), (Value.int .i64 y6.1.Kind), (Value.int .i64 y6.1.Num), (Value.string y6.1.Text), (Value.slice Ahe12_4 (List.length y6.1.Parts) che12_4)] 88 := o31
      have o39 : OS _ _ 5 T_heap_Object.E h30 m9 (some ⟨(Array.size h22), 0, none⟩) ([y6.1] : List T_heap_Object) 1 := OB.row o31 (CsE.cons (c1 := [(Value.int .i64 y6.1.At), (Value.int .i64 y6.1.Kind), (Value.int .i64 y6.1.Num), (Value.string y6.1.Text), (Value.slice Ahe12_4 (List.length y6.1.Parts) che12_4)]) (show T_heap_Object.E _ y6.1 [(Value.int .i64 y6.1.At), (Value.int .i64 y6.1.Kind), (Value.int .i64 y6.1.Num), (Value.string y6.1.Text), (Value.slice Ahe12_4 (List.length y6.1.Parts) che12_4)] from ⟨_, _, rfl, khe12_4, rhe12_4⟩) rfl CsE.nil) rfl
      obtain ⟨l40, g41, e⟩ := bind_e e
      refine o37.app T_heap_Object.T S33 rfl rfl (o39.srcE rfl) (by decide) g41 fun A42 c43 h44 o45 t46 n47 => ?_
      refine ⟨_, _, _, rfl, ?_⟩
      have d49 : Dj (fb (Array.size h8)) (fp A42 c43) := Dj.app (d20).symm o38.lt n47
      have d50 : Dj (fp (some ⟨(Array.size h22), 0, none⟩) 1) (fp A42 c43) := Dj.app ((d35.row)).symm o39.lt n47
      have S51 := S33.then t46 (fun i _ hi => o37.wr i hi)
      have o52 := o38.step t46 d20
      have o53 := o39.step T_heap_Object.T t46 (d35.row)
      refine ⟨_, ldk (k := 1) (Sub.refl _) o52.all rfl, _, rfl, ?_⟩
      refine ⟨_, ldk (k := 3) (Sub.refl _) o52.all rfl, _, rfl, ?_⟩
      refine ⟨_, ldk (k := 4) (Sub.refl _) o52.all rfl, _, _, _, rfl, ?_⟩
      obtain ⟨y54, g55, e⟩ := bind_e e
      refine (heap_room.walk S51.s  g55).mono ?_
      rintro _ h56 ⟨m57, T58, rfl⟩
      have S59 := S51.grow T58
      have o60 := o52.step T58 Dj.no
      have o61 := o45.step T_heap_Object.T T58 Dj.no
      refine ⟨_, rfl, ?_⟩
      exact (ih _ _ e) _ _ _ _ _ _ _ _ _ _ S59 rfl k0 (r0.sub (tell_int .u64) (T10.up.trans T58.up)) rfl o61
  · cases e
    exact ⟨_, _, _, _, S, rfl, rfl, o4⟩
theorem heap_Objects.l0_k.all {p : heap_Objects.l0_k.Pt} {r : ((List T_heap_Object) × Int)} (e : heap_Objects.l0_k.go p = some r) : heap_Objects.l0_k.I p r := fixF_ind (β := fun _ => ((List T_heap_Object) × Int)) heap_Objects.l0_k.mono (I := heap_Objects.l0_k.I) (fun go ih p r e => match p with
  | .l0 a0 a4 x5 => heap_Objects.l0_k.step_l0 go ih a0 a4 x5 r e
  ) e
theorem heap_Objects.l0.walk {h0 m0 h m : Heap} {A0 : Option Addr} {n0 c0 : Nat} {A4 : Option Addr} {n4 c4 : Nat} {a0 : List Int} {a4 : List T_heap_Object} {x5 : Int} (S : St No h0 m0 h m) (ne0 : n0 = List.length a0) (k0 : List.length a0 ≤ c0) (r0 : Rd 1 (eInt .u64) m A0 a0) (ne4 : n4 = List.length a4) (o4 : OS No h0 5 T_heap_Object.E h m A4 a4 c4) {r : (List T_heap_Object) × Int} (e : heap_Objects.l0 a0 a4 x5 = some r) : f44.l0 (heap_Objects.post No h0 m0 r) A0 n0 c0 A4 n4 c4 x5 h := heap_Objects.l0_k.all (p := .l0 a0 a4 x5) e h0 m0 h m A0 n0 c0 A4 n4 c4 S ne0 k0 r0 ne4 o4

noncomputable def heap_Objects (a0 : List Int) : Option ((List T_heap_Object) × Int) :=
  if (((List.length a0) : Nat) : Int) > (4000 : Int) then (some (([] : List T_heap_Object), (2 : Int))) else ((heap_Objects.l0 a0 ([] : List T_heap_Object) (0 : Int)))
set_option maxRecDepth 100000 in
theorem heap_Objects.walk {h m : Heap} {A0 : Option Addr} {n0 c0 : Nat} {a0 : List Int} (s : Sub m h) (ne0 : n0 = List.length a0) (k0 : List.length a0 ≤ c0) (r0 : Rd 1 (eInt .u64) m A0 a0) {r : (List T_heap_Object) × Int} (e : heap_Objects a0 = some r) : Run Try.prog 44 #[Value.slice A0 n0 c0] h (heap_Objects.post No h m r) := by
  unfold heap_Objects at e
  subst ne0
  have S : St No h m h m := .refl s
  refine f44.run ?_
  unfold f44.runT
  refine split_dec_e e (fun c5 e => ?_) (fun c5 e => ?_)
  · have o2 : OS No h 5 T_heap_Object.E h m none ([] : List T_heap_Object) 0 := .inl ⟨rfl, rfl⟩
    cases e
    exact ⟨_, _, _, _, S, rfl, rfl, o2⟩
  · have o4 : OS No h 5 T_heap_Object.E h m none ([] : List T_heap_Object) 0 := .inl ⟨rfl, rfl⟩
    exact heap_Objects.l0.walk S rfl k0 r0 rfl o4 e

/-! ### 48 roadstead/roadref3.In -/
def roadref3_In.post (W : Nat → Prop) (h0 m0 : Heap) (r : Bool) (v : Value) (h : Heap) : Prop := ∃ m , St W h0 m0 h m ∧ v = .bool r
noncomputable def roadref3_In (x0 : Int) (x1 : Int) (x2 : Int) : Option (Bool) :=
  if x0 ≥ x1 then (some ((decide (x0 ≤ x2)))) else (some (false))
set_option maxRecDepth 100000 in
theorem roadref3_In.walk {h m : Heap} {x0 : Int} {x1 : Int} {x2 : Int} (s : Sub m h)  {r : Bool} (e : roadref3_In x0 x1 x2 = some r) : Run Try.prog 48 #[Value.int .i64 x0, Value.int .i64 x1, Value.int .i64 x2] h (roadref3_In.post No h m r) := by
  unfold roadref3_In at e
  have S : St No h m h m := .refl s
  refine f48.run ?_
  unfold f48.runT
  refine split_dec_e e (fun c1 e => ?_) (fun c1 e => ?_)
  · cases e
    exact ⟨_, S, rfl⟩
  · cases e
    exact ⟨_, S, rfl⟩

/-! ### 49 roadstead/roadref3.ObjectIs -/
def roadref3_ObjectIs.post (W : Nat → Prop) (h0 m0 : Heap) (r : Bool) (v : Value) (h : Heap) : Prop := ∃ m , St W h0 m0 h m ∧ v = .bool r
noncomputable def roadref3_ObjectIs.j1 (y1 : T_heap_Object) (b3 : Bool) (b4 : Bool) (b5 : Bool) : Option (Bool) :=
  if b3 = true then (if b4 = true then (if b5 = true then (some (true)) else (some (((((List.length y1.Parts) : Nat) : Int) == (0 : Int))))) else (if y1.Num = (0 : Int) then (if b5 = true then (some (true)) else (some (((((List.length y1.Parts) : Nat) : Int) == (0 : Int))))) else (some (false)))) else (if y1.Text = (ByteArray.mk #[]) then (if b4 = true then (if b5 = true then (some (true)) else (some (((((List.length y1.Parts) : Nat) : Int) == (0 : Int))))) else (if y1.Num = (0 : Int) then (if b5 = true then (some (true)) else (some (((((List.length y1.Parts) : Nat) : Int) == (0 : Int))))) else (some (false)))) else (some (false)))
set_option maxRecDepth 100000 in
theorem roadref3_ObjectIs.j1.walk {h0 m0 h m : Heap} {bk1 : Nat} {cs1 : List Value} {y1 : T_heap_Object} {b3 : Bool} {b4 : Bool} {b5 : Bool} (S : St No h0 m0 h m) (o1 : OB No h0 h m bk1 cs1 88) (e1 : T_heap_Object.E m y1 cs1) {r : Bool} (e : roadref3_ObjectIs.j1 y1 b3 b4 b5 = some r) : f49.j1 (roadref3_ObjectIs.post No h0 m0 r) (⟨bk1, 0, none⟩ : Addr) b3 b4 b5 h := by
  unfold roadref3_ObjectIs.j1 at e
  obtain ⟨Ae1_4, ce1_4, rfl, ke1_4, re1_4⟩ := e1
  refine f49.j1_in ?_
  unfold f49.j1T
  refine split_any_e e (fun c30 e => ?_) (fun c30 e => ?_)
  · refine split_any_e e (fun c24 e => ?_) (fun c24 e => ?_)
    · refine split_any_e e (fun c21 e => ?_) (fun c21 e => ?_)
      · cases e
        exact ⟨_, S, rfl⟩
      · refine ⟨_, ldk (k := 4) (Sub.refl _) o1.all rfl, _, _, _, rfl, ?_⟩
        cases e
        exact ⟨_, S, rfl⟩
    · refine ⟨_, ldk (k := 2) (Sub.refl _) o1.all rfl, _, rfl, ?_⟩
      refine split_eq_e e (fun c23 e => ?_) (fun c23 e => ?_)
      · refine split_any_e e (fun c22 e => ?_) (fun c22 e => ?_)
        · cases e
          exact ⟨_, S, rfl⟩
        · refine ⟨_, ldk (k := 4) (Sub.refl _) o1.all rfl, _, _, _, rfl, ?_⟩
          cases e
          exact ⟨_, S, rfl⟩
      · cases e
        exact ⟨_, S, rfl⟩
  · refine ⟨_, ldk (k := 3) (Sub.refl _) o1.all rfl, _, rfl, ?_⟩
    try rw [ba_list y1.Text (ByteArray.mk #[])]
    refine split_dec_e e (fun c29 e => ?_) (fun c29 e => ?_)
    · refine split_any_e e (fun c28 e => ?_) (fun c28 e => ?_)
      · refine split_any_e e (fun c25 e => ?_) (fun c25 e => ?_)
        · cases e
          exact ⟨_, S, rfl⟩
        · refine ⟨_, ldk (k := 4) (Sub.refl _) o1.all rfl, _, _, _, rfl, ?_⟩
          cases e
          exact ⟨_, S, rfl⟩
      · refine ⟨_, ldk (k := 2) (Sub.refl _) o1.all rfl, _, rfl, ?_⟩
        refine split_eq_e e (fun c27 e => ?_) (fun c27 e => ?_)
        · refine split_any_e e (fun c26 e => ?_) (fun c26 e => ?_)
          · cases e
            exact ⟨_, S, rfl⟩
          · refine ⟨_, ldk (k := 4) (Sub.refl _) o1.all rfl, _, _, _, rfl, ?_⟩
            cases e
            exact ⟨_, S, rfl⟩
        · cases e
          exact ⟨_, S, rfl⟩
    · cases e
      exact ⟨_, S, rfl⟩

noncomputable def roadref3_ObjectIs.j0 (y1 : T_heap_Object) (b3 : Bool) (b4 : Bool) (b5 : Bool) : Option (Bool) :=
  Option.bind (roadref3_In y1.Kind (1 : Int) (5 : Int)) fun y9 => if y9 = true then (if ((ByteArray.size y1.Text : Nat) : Int) > (64 : Int) then (some (false)) else (if (((List.length y1.Parts) : Nat) : Int) > (400 : Int) then (some (false)) else (if y1.Kind = (5 : Int) then (if (((List.length y1.Parts) : Nat) : Int) > (1 : Int) then (some (false)) else ((roadref3_ObjectIs.j1 y1 b3 b4 b5))) else ((roadref3_ObjectIs.j1 y1 b3 b4 b5))))) else (some (false))
set_option maxRecDepth 100000 in
theorem roadref3_ObjectIs.j0.walk {h0 m0 h m : Heap} {bk1 : Nat} {cs1 : List Value} {y1 : T_heap_Object} {b3 : Bool} {b4 : Bool} {b5 : Bool} (S : St No h0 m0 h m) (o1 : OB No h0 h m bk1 cs1 88) (e1 : T_heap_Object.E m y1 cs1) {r : Bool} (e : roadref3_ObjectIs.j0 y1 b3 b4 b5 = some r) : f49.j0 (roadref3_ObjectIs.post No h0 m0 r) (⟨bk1, 0, none⟩ : Addr) b3 b4 b5 h := by
  unfold roadref3_ObjectIs.j0 at e
  obtain ⟨Ae1_4, ce1_4, rfl, ke1_4, re1_4⟩ := e1
  refine f49.j0_in ?_
  unfold f49.j0T
  refine ⟨_, ldk (k := 1) (Sub.refl _) o1.all rfl, _, rfl, ?_⟩
  obtain ⟨y9, g10, e⟩ := bind_e e
  refine (roadref3_In.walk S.s  g10).mono ?_
  rintro _ h11 ⟨m12, T13, rfl⟩
  have S14 := S.grow T13
  have o15 := o1.step T13 Dj.no
  refine ⟨_, rfl, ?_⟩
  refine split_not ?_
  refine split_any_e e (fun c20 e => ?_) (fun c20 e => ?_)
  · refine ⟨_, ldk (k := 3) (Sub.refl _) o15.all rfl, _, rfl, ?_⟩
    refine split_dec_e e (fun c19 e => ?_) (fun c19 e => ?_)
    · cases e
      exact ⟨_, S14, rfl⟩
    · refine ⟨_, ldk (k := 4) (Sub.refl _) o15.all rfl, _, _, _, rfl, ?_⟩
      refine split_dec_e e (fun c18 e => ?_) (fun c18 e => ?_)
      · cases e
        exact ⟨_, S14, rfl⟩
      · refine ⟨_, ldk (k := 1) (Sub.refl _) o15.all rfl, _, rfl, ?_⟩
        refine split_eq_e e (fun c17 e => ?_) (fun c17 e => ?_)
        · refine ⟨_, ldk (k := 4) (Sub.refl _) o15.all rfl, _, _, _, rfl, ?_⟩
          refine split_dec_e e (fun c16 e => ?_) (fun c16 e => ?_)
          · cases e
            exact ⟨_, S14, rfl⟩
          · exact roadref3_ObjectIs.j1.walk S14 o15 (show T_heap_Object.E _ y1 [(Value.int .i64 y1.At), (Value.int .i64 y1.Kind), (Value.int .i64 y1.Num), (Value.string y1.Text), (Value.slice Ae1_4 (List.length y1.Parts) ce1_4)] from ⟨_, _, rfl, ke1_4, (re1_4.sub (tell_int .u64) T13.up)⟩) e
        · exact roadref3_ObjectIs.j1.walk S14 o15 (show T_heap_Object.E _ y1 [(Value.int .i64 y1.At), (Value.int .i64 y1.Kind), (Value.int .i64 y1.Num), (Value.string y1.Text), (Value.slice Ae1_4 (List.length y1.Parts) ce1_4)] from ⟨_, _, rfl, ke1_4, (re1_4.sub (tell_int .u64) T13.up)⟩) e
  · cases e
    exact ⟨_, S14, rfl⟩

noncomputable def roadref3_ObjectIs (y0 : T_heap_Object) : Option (Bool) :=
  if y0.Kind = (2 : Int) then (if y0.Kind = (1 : Int) then ((roadref3_ObjectIs.j0 y0 true true (decide (y0.Kind > (2 : Int))))) else ((roadref3_ObjectIs.j0 y0 true (y0.Kind == (4 : Int)) (decide (y0.Kind > (2 : Int)))))) else (if y0.Kind = (1 : Int) then ((roadref3_ObjectIs.j0 y0 (y0.Kind == (3 : Int)) true (decide (y0.Kind > (2 : Int))))) else ((roadref3_ObjectIs.j0 y0 (y0.Kind == (3 : Int)) (y0.Kind == (4 : Int)) (decide (y0.Kind > (2 : Int))))))
set_option maxRecDepth 100000 in
theorem roadref3_ObjectIs.walk {h m : Heap} {cs0 : List Value} {y0 : T_heap_Object} (s : Sub m h) (e0 : T_heap_Object.E m y0 cs0) {r : Bool} (e : roadref3_ObjectIs y0 = some r) : Run Try.prog 49 #[Value.agg cs0.toArray] h (roadref3_ObjectIs.post No h m r) := by
  unfold roadref3_ObjectIs at e
  obtain ⟨Ae0_4, ce0_4, rfl, ke0_4, re0_4⟩ := e0
  have S : St No h m h m := .refl s
  refine f49.run ?_
  unfold f49.runT
  refine new_in S fun h1 o2 x3 => ?_
  have S4 := S.ext' x3
  have o2 : OB _ _ h1 _ (Array.size h) [(Value.int .i64 y0.At), (Value.int .i64 y0.Kind), (Value.int .i64 y0.Num), (Value.string y0.Text), (Value.slice Ae0_4 (List.length y0.Parts) ce0_4)] 88 := o2
  refine ⟨_, ldk (k := 1) (Sub.refl _) o2.all rfl, _, rfl, ?_⟩
  refine split_eq_e e (fun c8 e => ?_) (fun c8 e => ?_)
  · refine ⟨_, ldk (k := 1) (Sub.refl _) o2.all rfl, _, rfl, ?_⟩
    refine split_eq_e e (fun c6 e => ?_) (fun c6 e => ?_)
    · refine ⟨_, ldk (k := 1) (Sub.refl _) o2.all rfl, _, rfl, ?_⟩
      exact roadref3_ObjectIs.j0.walk S4 o2 (show T_heap_Object.E _ y0 [(Value.int .i64 y0.At), (Value.int .i64 y0.Kind), (Value.int .i64 y0.Num), (Value.string y0.Text), (Value.slice Ae0_4 (List.length y0.Parts) ce0_4)] from ⟨_, _, rfl, ke0_4, re0_4⟩) e
    · refine ⟨_, ldk (k := 1) (Sub.refl _) o2.all rfl, _, rfl, ?_⟩
      refine ⟨_, ldk (k := 1) (Sub.refl _) o2.all rfl, _, rfl, ?_⟩
      exact roadref3_ObjectIs.j0.walk S4 o2 (show T_heap_Object.E _ y0 [(Value.int .i64 y0.At), (Value.int .i64 y0.Kind), (Value.int .i64 y0.Num), (Value.string y0.Text), (Value.slice Ae0_4 (List.length y0.Parts) ce0_4)] from ⟨_, _, rfl, ke0_4, re0_4⟩) e
  · refine ⟨_, ldk (k := 1) (Sub.refl _) o2.all rfl, _, rfl, ?_⟩
    refine ⟨_, ldk (k := 1) (Sub.refl _) o2.all rfl, _, rfl, ?_⟩
    refine split_eq_e e (fun c7 e => ?_) (fun c7 e => ?_)
    · refine ⟨_, ldk (k := 1) (Sub.refl _) o2.all rfl, _, rfl, ?_⟩
      exact roadref3_ObjectIs.j0.walk S4 o2 (show T_heap_Object.E _ y0 [(Value.int .i64 y0.At), (Value.int .i64 y0.Kind), (Value.int .i64 y0.Num), (Value.string y0.Text), (Value.slice Ae0_4 (List.length y0.Parts) ce0_4)] from ⟨_, _, rfl, ke0_4, re0_4⟩) e
    · refine ⟨_, ldk (k := 1) (Sub.refl _) o2.all rfl, _, rfl, ?_⟩
      refine ⟨_, ldk (k := 1) (Sub.refl _) o2.all rfl, _, rfl, ?_⟩
      exact roadref3_ObjectIs.j0.walk S4 o2 (show T_heap_Object.E _ y0 [(Value.int .i64 y0.At), (Value.int .i64 y0.Kind), (Value.int .i64 y0.Num), (Value.string y0.Text), (Value.slice Ae0_4 (List.length y0.Parts) ce0_4)] from ⟨_, _, rfl, ke0_4, re0_4⟩) e

/-! ### 50 roadstead/roadref3.ObjectWords -/
def roadref3_ObjectWords.post (W : Nat → Prop) (h0 m0 : Heap) (r : (List Int)) (v : Value) (h : Heap) : Prop := ∃ m A0 n0 c0, St W h0 m0 h m ∧ v = .slice A0 n0 c0 ∧ n0 = r.length ∧ OS W h0 1 (eInt .u64) h m A0 r c0
inductive roadref3_ObjectWords.l0_k.Pt where
  | l0 (y1 : T_heap_Object) (a3 : List Int) (s4 : ByteArray)
  | l1 (y1 : T_heap_Object) (a3 : List Int) (s4 : ByteArray) (x5 : Int) (x6 : Int) (x7 : Int)
noncomputable def roadref3_ObjectWords.l0_k.body (go : (p : roadref3_ObjectWords.l0_k.Pt) → Option ((List Int))) : (p : roadref3_ObjectWords.l0_k.Pt) → Option ((List Int))
  | .l0 y1 a3 s4 => if s4 = (ByteArray.mk #[]) then (Option.bind (ap 8 a3 y1.Parts) fun l40 => some (l40)) else ((go (.l1 y1 a3 s4 (if ((ByteArray.size s4 : Nat) : Int) < (8 : Int) then ((ByteArray.size s4 : Nat) : Int) else (8 : Int)) (0 : Int) (IntKind.wrap .i64 ((if ((ByteArray.size s4 : Nat) : Int) < (8 : Int) then ((ByteArray.size s4 : Nat) : Int) else (8 : Int)) - (1 : Int))))))
  | .l1 y1 a3 s4 x5 x6 x7 => if x7 ≥ (0 : Int) then (Option.bind (gb s4 x7) fun y53 => (go (.l1 y1 a3 s4 x5 (IntKind.wrap .u64 ((IntKind.wrap .u64 ((256 : Int) * x6)) + (IntKind.wrap .u64 y53))) (IntKind.wrap .i64 (x7 - (1 : Int)))))) else (if 0 ≤ x5 ∧ x5 ≤ ((ByteArray.size s4 : Nat) : Int) ∧ ((ByteArray.size s4 : Nat) : Int) ≤ ((ByteArray.size s4 : Nat) : Int) then (Option.bind (ap 8 a3 ([x6] : List Int)) fun l70 => (go (.l0 y1 l70 (ByteArray.extract s4 (Int.toNat x5) (Int.toNat ((ByteArray.size s4 : Nat) : Int)))))) else none)
theorem roadref3_ObjectWords.l0_k.mono : MonoF (β := fun _ => ((List Int))) roadref3_ObjectWords.l0_k.body := fun f g hfg p => match p with
  | .l0 y1 a3 s4 => LeO.ite (LeO.bind (LeO.refl _) fun l40 => LeO.refl _) ((hfg _))
  | .l1 y1 a3 s4 x5 x6 x7 => LeO.ite (LeO.bind (LeO.refl _) fun y53 => (hfg _)) (LeO.ite (LeO.bind (LeO.refl _) fun l70 => (hfg _)) (LeO.refl _))
noncomputable def roadref3_ObjectWords.l0_k.go (p : roadref3_ObjectWords.l0_k.Pt) : Option ((List Int)) := fixF (β := fun _ => ((List Int))) roadref3_ObjectWords.l0_k.body p
noncomputable def roadref3_ObjectWords.l0 (y1 : T_heap_Object) (a3 : List Int) (s4 : ByteArray) : Option ((List Int)) := roadref3_ObjectWords.l0_k.go (.l0 y1 a3 s4)
noncomputable def roadref3_ObjectWords.l1 (y1 : T_heap_Object) (a3 : List Int) (s4 : ByteArray) (x5 : Int) (x6 : Int) (x7 : Int) : Option ((List Int)) := roadref3_ObjectWords.l0_k.go (.l1 y1 a3 s4 x5 x6 x7)
theorem roadref3_ObjectWords.l0_eq (y1 : T_heap_Object) (a3 : List Int) (s4 : ByteArray) : roadref3_ObjectWords.l0 y1 a3 s4 = if s4 = (ByteArray.mk #[]) then (Option.bind (ap 8 a3 y1.Parts) fun l40 => some (l40)) else ((roadref3_ObjectWords.l1 y1 a3 s4 (if ((ByteArray.size s4 : Nat) : Int) < (8 : Int) then ((ByteArray.size s4 : Nat) : Int) else (8 : Int)) (0 : Int) (IntKind.wrap .i64 ((if ((ByteArray.size s4 : Nat) : Int) < (8 : Int) then ((ByteArray.size s4 : Nat) : Int) else (8 : Int)) - (1 : Int))))) := fixF_eq roadref3_ObjectWords.l0_k.mono _
theorem roadref3_ObjectWords.l1_eq (y1 : T_heap_Object) (a3 : List Int) (s4 : ByteArray) (x5 : Int) (x6 : Int) (x7 : Int) : roadref3_ObjectWords.l1 y1 a3 s4 x5 x6 x7 = if x7 ≥ (0 : Int) then (Option.bind (gb s4 x7) fun y53 => (roadref3_ObjectWords.l1 y1 a3 s4 x5 (IntKind.wrap .u64 ((IntKind.wrap .u64 ((256 : Int) * x6)) + (IntKind.wrap .u64 y53))) (IntKind.wrap .i64 (x7 - (1 : Int))))) else (if 0 ≤ x5 ∧ x5 ≤ ((ByteArray.size s4 : Nat) : Int) ∧ ((ByteArray.size s4 : Nat) : Int) ≤ ((ByteArray.size s4 : Nat) : Int) then (Option.bind (ap 8 a3 ([x6] : List Int)) fun l70 => (roadref3_ObjectWords.l0 y1 l70 (ByteArray.extract s4 (Int.toNat x5) (Int.toNat ((ByteArray.size s4 : Nat) : Int))))) else none) := fixF_eq roadref3_ObjectWords.l0_k.mono _
def roadref3_ObjectWords.l0_k.I : (p : roadref3_ObjectWords.l0_k.Pt) → ((List Int)) → Prop
  | .l0 y1 a3 s4, r => ∀ (h0 m0 h m : Heap) (bk1 : Nat) (cs1 : List Value) (A3 : Option Addr) (n3 c3 : Nat) (S : St No h0 m0 h m) (o1 : OB No h0 h m bk1 cs1 88) (e1 : T_heap_Object.E m y1 cs1) (ne3 : n3 = List.length a3) (o3 : OS No h0 1 (eInt .u64) h m A3 a3 c3) (d0_1 : Dj (fb bk1) (fp A3 c3)), f50.l0 (roadref3_ObjectWords.post No h0 m0 r) (⟨bk1, 0, none⟩ : Addr) A3 n3 c3 s4 h
  | .l1 y1 a3 s4 x5 x6 x7, r => ∀ (h0 m0 h m : Heap) (bk1 : Nat) (cs1 : List Value) (A3 : Option Addr) (n3 c3 : Nat) (S : St No h0 m0 h m) (o1 : OB No h0 h m bk1 cs1 88) (e1 : T_heap_Object.E m y1 cs1) (ne3 : n3 = List.length a3) (o3 : OS No h0 1 (eInt .u64) h m A3 a3 c3) (d0_1 : Dj (fb bk1) (fp A3 c3)), f50.l1 (roadref3_ObjectWords.post No h0 m0 r) (⟨bk1, 0, none⟩ : Addr) A3 n3 c3 s4 x5 x6 x7 h
set_option maxRecDepth 100000 in
theorem roadref3_ObjectWords.l0_k.step_l0 (go : (p : roadref3_ObjectWords.l0_k.Pt) → Option ((List Int))) (ih : ∀ p r, go p = some r → roadref3_ObjectWords.l0_k.I p r) (y1 : T_heap_Object) (a3 : List Int) (s4 : ByteArray) (r : (List Int)) (e : roadref3_ObjectWords.l0_k.body go (.l0 y1 a3 s4) = some r) : roadref3_ObjectWords.l0_k.I (.l0 y1 a3 s4) r := by
  unfold roadref3_ObjectWords.l0_k.body at e
  intro h0 m0 h m bk1 cs1 A3 n3 c3 S o1 e1 ne3 o3 d0_1
  obtain ⟨Ae1_4, ce1_4, rfl, ke1_4, re1_4⟩ := e1
  subst ne3
  refine f50.l0_in ?_
  unfold f50.l0T
  try rw [ba_list s4 (ByteArray.mk #[])]
  refine split_not ?_
  refine split_dec_e e (fun c52 e => ?_) (fun c52 e => ?_)
  · refine ⟨_, ldk (k := 4) (Sub.refl _) o1.all rfl, _, _, _, rfl, ?_⟩
    obtain ⟨l40, g41, e⟩ := bind_e e
    refine o3.app (tell_int .u64) S rfl rfl (Rd.srcE re1_4 (tell_int .u64) S.s rfl) (by decide) g41 fun A42 c43 h44 o45 t46 n47 => ?_
    refine ⟨_, _, _, rfl, ?_⟩
    have d49 : Dj (fb bk1) (fp A42 c43) := Dj.app d0_1 o1.lt n47
    have S50 := S.then t46 (fun i _ hi => o3.wr i hi)
    have o51 := o1.step t46 (d0_1).symm
    cases e
    exact ⟨_, _, _, _, S50, rfl, rfl, o45⟩
  · exact (ih _ _ e) _ _ _ _ _ _ _ _ _ S o1 (show T_heap_Object.E _ y1 [(Value.int .i64 y1.At), (Value.int .i64 y1.Kind), (Value.int .i64 y1.Num), (Value.string y1.Text), (Value.slice Ae1_4 (List.length y1.Parts) ce1_4)] from ⟨_, _, rfl, ke1_4, re1_4⟩) rfl o3 d0_1
set_option maxRecDepth 100000 in
theorem roadref3_ObjectWords.l0_k.step_l1 (go : (p : roadref3_ObjectWords.l0_k.Pt) → Option ((List Int))) (ih : ∀ p r, go p = some r → roadref3_ObjectWords.l0_k.I p r) (y1 : T_heap_Object) (a3 : List Int) (s4 : ByteArray) (x5 : Int) (x6 : Int) (x7 : Int) (r : (List Int)) (e : roadref3_ObjectWords.l0_k.body go (.l1 y1 a3 s4 x5 x6 x7) = some r) : roadref3_ObjectWords.l0_k.I (.l1 y1 a3 s4 x5 x6 x7) r := by
  unfold roadref3_ObjectWords.l0_k.body at e
  intro h0 m0 h m bk1 cs1 A3 n3 c3 S o1 e1 ne3 o3 d0_1
  obtain ⟨Ae1_4, ce1_4, rfl, ke1_4, re1_4⟩ := e1
  subst ne3
  refine f50.l1_in ?_
  unfold f50.l1T
  refine split_dec_e e (fun c84 e => ?_) (fun c84 e => ?_)
  · obtain ⟨y53, g54, e⟩ := bind_e e
    obtain ⟨q55, b56, q57, q58⟩ := gb_e g54
    refine ⟨q55, _, q57, ?_⟩
    try rw [← q58]
    exact (ih _ _ e) _ _ _ _ _ _ _ _ _ S o1 (show T_heap_Object.E _ y1 [(Value.int .i64 y1.At), (Value.int .i64 y1.Kind), (Value.int .i64 y1.Num), (Value.string y1.Text), (Value.slice Ae1_4 (List.length y1.Parts) ce1_4)] from ⟨_, _, rfl, ke1_4, re1_4⟩) rfl o3 d0_1
  · obtain ⟨g59, e⟩ := guard_e e
    refine ⟨g59.1, g59.2.1, g59.2.2, ?_⟩
    refine new_in S fun h60 o61 x62 => ?_
    have d65 : Dj (fb bk1) (fb (Array.size h)) := Dj.new o1.lt
    have d66 : Dj (fp A3 c3) (fb (Array.size h)) := Dj.new o3.lt
    have o67 := o1.ext x62
    have o68 := o3.ext (tell_int .u64) S.s x62
    have S63 := S.ext' x62
    have o61 : OB _ _ h60 _ (Array.size h) [(Value.int .u64 x6)] 105 := o61
    have o69 : OS _ _ 1 (eInt .u64) h60 m (some ⟨(Array.size h), 0, none⟩) ([x6] : List Int) 1 := OB.row o61 (CsE.cons (c1 := [(Value.int .u64 x6)]) rfl rfl CsE.nil) rfl
    obtain ⟨l70, g71, e⟩ := bind_e e
    refine o68.app (tell_int .u64) S63 rfl rfl (o69.srcE rfl) (by decide) g71 fun A72 c73 h74 o75 t76 n77 => ?_
    refine ⟨_, _, _, rfl, ?_⟩
    have d79 : Dj (fb bk1) (fp A72 c73) := Dj.app d0_1 o67.lt n77
    have d80 : Dj (fp (some ⟨(Array.size h), 0, none⟩) 1) (fp A72 c73) := Dj.app ((d66.row)).symm o69.lt n77
    have S81 := S63.then t76 (fun i _ hi => o68.wr i hi)
    have o82 := o67.step t76 (d0_1).symm
    have o83 := o69.step (tell_int .u64) t76 (d66.row)
    exact (ih _ _ e) _ _ _ _ _ _ _ _ _ S81 o82 (show T_heap_Object.E _ y1 [(Value.int .i64 y1.At), (Value.int .i64 y1.Kind), (Value.int .i64 y1.Num), (Value.string y1.Text), (Value.slice Ae1_4 (List.length y1.Parts) ce1_4)] from ⟨_, _, rfl, ke1_4, re1_4⟩) rfl o75 d79
theorem roadref3_ObjectWords.l0_k.all {p : roadref3_ObjectWords.l0_k.Pt} {r : ((List Int))} (e : roadref3_ObjectWords.l0_k.go p = some r) : roadref3_ObjectWords.l0_k.I p r := fixF_ind (β := fun _ => ((List Int))) roadref3_ObjectWords.l0_k.mono (I := roadref3_ObjectWords.l0_k.I) (fun go ih p r e => match p with
  | .l0 y1 a3 s4 => roadref3_ObjectWords.l0_k.step_l0 go ih y1 a3 s4 r e
  | .l1 y1 a3 s4 x5 x6 x7 => roadref3_ObjectWords.l0_k.step_l1 go ih y1 a3 s4 x5 x6 x7 r e
  ) e
theorem roadref3_ObjectWords.l0.walk {h0 m0 h m : Heap} {bk1 : Nat} {cs1 : List Value} {A3 : Option Addr} {n3 c3 : Nat} {y1 : T_heap_Object} {a3 : List Int} {s4 : ByteArray} (S : St No h0 m0 h m) (o1 : OB No h0 h m bk1 cs1 88) (e1 : T_heap_Object.E m y1 cs1) (ne3 : n3 = List.length a3) (o3 : OS No h0 1 (eInt .u64) h m A3 a3 c3) (d0_1 : Dj (fb bk1) (fp A3 c3)) {r : (List Int)} (e : roadref3_ObjectWords.l0 y1 a3 s4 = some r) : f50.l0 (roadref3_ObjectWords.post No h0 m0 r) (⟨bk1, 0, none⟩ : Addr) A3 n3 c3 s4 h := roadref3_ObjectWords.l0_k.all (p := .l0 y1 a3 s4) e h0 m0 h m bk1 cs1 A3 n3 c3 S o1 e1 ne3 o3 d0_1
theorem roadref3_ObjectWords.l1.walk {h0 m0 h m : Heap} {bk1 : Nat} {cs1 : List Value} {A3 : Option Addr} {n3 c3 : Nat} {y1 : T_heap_Object} {a3 : List Int} {s4 : ByteArray} {x5 : Int} {x6 : Int} {x7 : Int} (S : St No h0 m0 h m) (o1 : OB No h0 h m bk1 cs1 88) (e1 : T_heap_Object.E m y1 cs1) (ne3 : n3 = List.length a3) (o3 : OS No h0 1 (eInt .u64) h m A3 a3 c3) (d0_1 : Dj (fb bk1) (fp A3 c3)) {r : (List Int)} (e : roadref3_ObjectWords.l1 y1 a3 s4 x5 x6 x7 = some r) : f50.l1 (roadref3_ObjectWords.post No h0 m0 r) (⟨bk1, 0, none⟩ : Addr) A3 n3 c3 s4 x5 x6 x7 h := roadref3_ObjectWords.l0_k.all (p := .l1 y1 a3 s4 x5 x6 x7) e h0 m0 h m bk1 cs1 A3 n3 c3 S o1 e1 ne3 o3 d0_1

noncomputable def roadref3_ObjectWords.j0 (y1 : T_heap_Object) (a3 : List Int) : Option ((List Int)) :=
  (roadref3_ObjectWords.l0 y1 a3 y1.Text)
set_option maxRecDepth 100000 in
theorem roadref3_ObjectWords.j0.walk {h0 m0 h m : Heap} {bk1 : Nat} {cs1 : List Value} {A3 : Option Addr} {n3 c3 : Nat} {y1 : T_heap_Object} {a3 : List Int} (S : St No h0 m0 h m) (o1 : OB No h0 h m bk1 cs1 88) (e1 : T_heap_Object.E m y1 cs1) (ne3 : n3 = List.length a3) (o3 : OS No h0 1 (eInt .u64) h m A3 a3 c3) (d0_1 : Dj (fb bk1) (fp A3 c3)) {r : (List Int)} (e : roadref3_ObjectWords.j0 y1 a3 = some r) : f50.j0 (roadref3_ObjectWords.post No h0 m0 r) (⟨bk1, 0, none⟩ : Addr) A3 n3 c3 h := by
  unfold roadref3_ObjectWords.j0 at e
  obtain ⟨Ae1_4, ce1_4, rfl, ke1_4, re1_4⟩ := e1
  subst ne3
  refine f50.j0_in ?_
  unfold f50.j0T
  refine ⟨_, ldk (k := 3) (Sub.refl _) o1.all rfl, _, rfl, ?_⟩
  exact roadref3_ObjectWords.l0.walk S o1 (show T_heap_Object.E _ y1 [(Value.int .i64 y1.At), (Value.int .i64 y1.Kind), (Value.int .i64 y1.Num), (Value.string y1.Text), (Value.slice Ae1_4 (List.length y1.Parts) ce1_4)] from ⟨_, _, rfl, ke1_4, re1_4⟩) rfl o3 d0_1 e

noncomputable def roadref3_ObjectWords.j1 (y1 : T_heap_Object) (a3 : List Int) (b31 : Bool) : Option ((List Int)) :=
  if b31 = true then (Option.bind (ap 8 a3 ([(IntKind.wrap .u64 y1.Num)] : List Int)) fun l25 => (roadref3_ObjectWords.j0 y1 l25)) else ((roadref3_ObjectWords.j0 y1 a3))
set_option maxRecDepth 100000 in
theorem roadref3_ObjectWords.j1.walk {h0 m0 h m : Heap} {bk1 : Nat} {cs1 : List Value} {A3 : Option Addr} {n3 c3 : Nat} {y1 : T_heap_Object} {a3 : List Int} {b31 : Bool} (S : St No h0 m0 h m) (o1 : OB No h0 h m bk1 cs1 88) (e1 : T_heap_Object.E m y1 cs1) (ne3 : n3 = List.length a3) (o3 : OS No h0 1 (eInt .u64) h m A3 a3 c3) (d0_1 : Dj (fb bk1) (fp A3 c3)) {r : (List Int)} (e : roadref3_ObjectWords.j1 y1 a3 b31 = some r) : f50.j1 (roadref3_ObjectWords.post No h0 m0 r) (⟨bk1, 0, none⟩ : Addr) A3 n3 c3 b31 h := by
  unfold roadref3_ObjectWords.j1 at e
  obtain ⟨Ae1_4, ce1_4, rfl, ke1_4, re1_4⟩ := e1
  subst ne3
  refine f50.j1_in ?_
  unfold f50.j1T
  refine split_any_e e (fun c39 e => ?_) (fun c39 e => ?_)
  · refine ⟨_, ldk (k := 2) (Sub.refl _) o1.all rfl, _, rfl, ?_⟩
    refine new_in S fun h15 o16 x17 => ?_
    have d20 : Dj (fb bk1) (fb (Array.size h)) := Dj.new o1.lt
    have d21 : Dj (fp A3 c3) (fb (Array.size h)) := Dj.new o3.lt
    have o22 := o1.ext x17
    have o23 := o3.ext (tell_int .u64) S.s x17
    have S18 := S.ext' x17
    have o16 : OB _ _ h15 _ (Array.size h) [(Value.int .u64 (IntKind.wrap .u64 y1.Num))] 105 := o16
    have o24 : OS _ _ 1 (eInt .u64) h15 m (some ⟨(Array.size h), 0, none⟩) ([(IntKind.wrap .u64 y1.Num)] : List Int) 1 := OB.row o16 (CsE.cons (c1 := [(Value.int .u64 (IntKind.wrap .u64 y1.Num))]) rfl rfl CsE.nil) rfl
    obtain ⟨l25, g26, e⟩ := bind_e e
    refine o23.app (tell_int .u64) S18 rfl rfl (o24.srcE rfl) (by decide) g26 fun A27 c28 h29 o30 t31 n32 => ?_
    refine ⟨_, _, _, rfl, ?_⟩
    have d34 : Dj (fb bk1) (fp A27 c28) := Dj.app d0_1 o22.lt n32
    have d35 : Dj (fp (some ⟨(Array.size h), 0, none⟩) 1) (fp A27 c28) := Dj.app ((d21.row)).symm o24.lt n32
    have S36 := S18.then t31 (fun i _ hi => o23.wr i hi)
    have o37 := o22.step t31 (d0_1).symm
    have o38 := o24.step (tell_int .u64) t31 (d21.row)
    exact roadref3_ObjectWords.j0.walk S36 o37 (show T_heap_Object.E _ y1 [(Value.int .i64 y1.At), (Value.int .i64 y1.Kind), (Value.int .i64 y1.Num), (Value.string y1.Text), (Value.slice Ae1_4 (List.length y1.Parts) ce1_4)] from ⟨_, _, rfl, ke1_4, re1_4⟩) rfl o30 d34 e
  · exact roadref3_ObjectWords.j0.walk S o1 (show T_heap_Object.E _ y1 [(Value.int .i64 y1.At), (Value.int .i64 y1.Kind), (Value.int .i64 y1.Num), (Value.string y1.Text), (Value.slice Ae1_4 (List.length y1.Parts) ce1_4)] from ⟨_, _, rfl, ke1_4, re1_4⟩) rfl o3 d0_1 e

noncomputable def roadref3_ObjectWords (y0 : T_heap_Object) : Option ((List Int)) :=
  if y0.Kind = (1 : Int) then ((roadref3_ObjectWords.j1 y0 ([(IntKind.wrap .u64 ((IntKind.wrap .u64 ((IntKind.wrap .u64 y0.Kind) + (IntKind.wrap .u64 ((256 : Int) * (IntKind.wrap .u64 ((ByteArray.size y0.Text : Nat) : Int)))))) + (IntKind.wrap .u64 ((1048576 : Int) * (IntKind.wrap .u64 (((List.length y0.Parts) : Nat) : Int))))))] : List Int) true)) else ((roadref3_ObjectWords.j1 y0 ([(IntKind.wrap .u64 ((IntKind.wrap .u64 ((IntKind.wrap .u64 y0.Kind) + (IntKind.wrap .u64 ((256 : Int) * (IntKind.wrap .u64 ((ByteArray.size y0.Text : Nat) : Int)))))) + (IntKind.wrap .u64 ((1048576 : Int) * (IntKind.wrap .u64 (((List.length y0.Parts) : Nat) : Int))))))] : List Int) (y0.Kind == (4 : Int))))
set_option maxRecDepth 100000 in
theorem roadref3_ObjectWords.walk {h m : Heap} {cs0 : List Value} {y0 : T_heap_Object} (s : Sub m h) (e0 : T_heap_Object.E m y0 cs0) {r : (List Int)} (e : roadref3_ObjectWords y0 = some r) : Run Try.prog 50 #[Value.agg cs0.toArray] h (roadref3_ObjectWords.post No h m r) := by
  unfold roadref3_ObjectWords at e
  obtain ⟨Ae0_4, ce0_4, rfl, ke0_4, re0_4⟩ := e0
  have S : St No h m h m := .refl s
  refine f50.run ?_
  unfold f50.runT
  refine new_in S fun h1 o2 x3 => ?_
  have S4 := S.ext' x3
  have o2 : OB _ _ h1 _ (Array.size h) [(Value.int .i64 y0.At), (Value.int .i64 y0.Kind), (Value.int .i64 y0.Num), (Value.string y0.Text), (Value.slice Ae0_4 (List.length y0.Parts) ce0_4)] 88 := o2
  refine ⟨_, ldk (k := 1) (Sub.refl _) o2.all rfl, _, rfl, ?_⟩
  refine ⟨_, ldk (k := 3) (Sub.refl _) o2.all rfl, _, rfl, ?_⟩
  refine ⟨_, ldk (k := 4) (Sub.refl _) o2.all rfl, _, _, _, rfl, ?_⟩
  refine new_in S4 fun h6 o7 x8 => ?_
  have d11 : Dj (fb (Array.size h)) (fb (Array.size h1)) := Dj.new o2.lt
  have o12 := o2.ext x8
  have S9 := S4.ext' x8
  have o7 : OB _ _ h6 _ (Array.size h1) [(Value.int .u64 (IntKind.wrap .u64 ((IntKind.wrap .u64 ((IntKind.wrap .u64 y0.Kind) + (IntKind.wrap .u64 ((256 : Int) * (IntKind.wrap .u64 ((ByteArray.size y0.Text : Nat) : Int)))))) + (IntKind.wrap .u64 ((1048576 : Int) * (IntKind.wrap .u64 (((List.length y0.Parts) : Nat) : Int)))))))] 105 := o7
  have o13 : OS _ _ 1 (eInt .u64) h6 m (some ⟨(Array.size h1), 0, none⟩) ([(IntKind.wrap .u64 ((IntKind.wrap .u64 ((IntKind.wrap .u64 y0.Kind) + (IntKind.wrap .u64 ((256 : Int) * (IntKind.wrap .u64 ((ByteArray.size y0.Text : Nat) : Int)))))) + (IntKind.wrap .u64 ((1048576 : Int) * (IntKind.wrap .u64 (((List.length y0.Parts) : Nat) : Int))))))] : List Int) 1 := OB.row o7 (CsE.cons (c1 := [(Value.int .u64 (IntKind.wrap .u64 ((IntKind.wrap .u64 ((IntKind.wrap .u64 y0.Kind) + (IntKind.wrap .u64 ((256 : Int) * (IntKind.wrap .u64 ((ByteArray.size y0.Text : Nat) : Int)))))) + (IntKind.wrap .u64 ((1048576 : Int) * (IntKind.wrap .u64 (((List.length y0.Parts) : Nat) : Int)))))))]) rfl rfl CsE.nil) rfl
  refine ⟨_, ldk (k := 1) (Sub.refl _) o12.all rfl, _, rfl, ?_⟩
  refine split_eq_e e (fun c14 e => ?_) (fun c14 e => ?_)
  · exact roadref3_ObjectWords.j1.walk S9 o12 (show T_heap_Object.E _ y0 [(Value.int .i64 y0.At), (Value.int .i64 y0.Kind), (Value.int .i64 y0.Num), (Value.string y0.Text), (Value.slice Ae0_4 (List.length y0.Parts) ce0_4)] from ⟨_, _, rfl, ke0_4, re0_4⟩) rfl o13 (d11.row) e
  · refine ⟨_, ldk (k := 1) (Sub.refl _) o12.all rfl, _, rfl, ?_⟩
    exact roadref3_ObjectWords.j1.walk S9 o12 (show T_heap_Object.E _ y0 [(Value.int .i64 y0.At), (Value.int .i64 y0.Kind), (Value.int .i64 y0.Num), (Value.string y0.Text), (Value.slice Ae0_4 (List.length y0.Parts) ce0_4)] from ⟨_, _, rfl, ke0_4, re0_4⟩) rfl o13 (d11.row) e

/-! ### 47 roadstead/roadref3.ObjectAt -/
def roadref3_ObjectAt.post (W : Nat → Prop) (h0 m0 : Heap) (r : T_heap_Object × Bool) (v : Value) (h : Heap) : Prop := ∃ m cs0, St W h0 m0 h m ∧ v = .tuple #[.agg cs0.toArray, .bool r.2] ∧ T_heap_Object.E m r.1 cs0
inductive roadref3_ObjectAt.l1_k.Pt where
  | l1 (a0 : List Int) (x1 : Int) (y4 : T_heap_Object) (y6 : T_heap_Object) (a125 : List Int) (x126 : Int) (x127 : Int)
noncomputable def roadref3_ObjectAt.l1_k.body (go : (p : roadref3_ObjectAt.l1_k.Pt) → Option (T_heap_Object × Bool)) : (p : roadref3_ObjectAt.l1_k.Pt) → Option (T_heap_Object × Bool)
  | .l1 a0 x1 y4 y6 a125 x126 x127 => if x127 < x126 then (Option.bind (gi a125 x127) fun y206 => Option.bind (gi a0 (IntKind.wrap .i64 (x1 + x127))) fun y213 => if y213 = y206 then ((go (.l1 a0 x1 y4 y6 a125 x126 (IntKind.wrap .i64 (x127 + (1 : Int)))))) else (some ((T_heap_Object.mk (0 : Int) (0 : Int) (0 : Int) (ByteArray.mk #[]) ([] : List Int)), false))) else (some (y6, true))
theorem roadref3_ObjectAt.l1_k.mono : MonoF (β := fun _ => (T_heap_Object × Bool)) roadref3_ObjectAt.l1_k.body := fun f g hfg p => match p with
  | .l1 a0 x1 y4 y6 a125 x126 x127 => LeO.ite (LeO.bind (LeO.refl _) fun y206 => LeO.bind (LeO.refl _) fun y213 => LeO.ite ((hfg _)) (LeO.refl _)) (LeO.refl _)
noncomputable def roadref3_ObjectAt.l1_k.go (p : roadref3_ObjectAt.l1_k.Pt) : Option (T_heap_Object × Bool) := fixF (β := fun _ => (T_heap_Object × Bool)) roadref3_ObjectAt.l1_k.body p
noncomputable def roadref3_ObjectAt.l1 (a0 : List Int) (x1 : Int) (y4 : T_heap_Object) (y6 : T_heap_Object) (a125 : List Int) (x126 : Int) (x127 : Int) : Option (T_heap_Object × Bool) := roadref3_ObjectAt.l1_k.go (.l1 a0 x1 y4 y6 a125 x126 x127)
theorem roadref3_ObjectAt.l1_eq (a0 : List Int) (x1 : Int) (y4 : T_heap_Object) (y6 : T_heap_Object) (a125 : List Int) (x126 : Int) (x127 : Int) : roadref3_ObjectAt.l1 a0 x1 y4 y6 a125 x126 x127 = if x127 < x126 then (Option.bind (gi a125 x127) fun y206 => Option.bind (gi a0 (IntKind.wrap .i64 (x1 + x127))) fun y213 => if y213 = y206 then ((roadref3_ObjectAt.l1 a0 x1 y4 y6 a125 x126 (IntKind.wrap .i64 (x127 + (1 : Int))))) else (some ((T_heap_Object.mk (0 : Int) (0 : Int) (0 : Int) (ByteArray.mk #[]) ([] : List Int)), false))) else (some (y6, true)) := fixF_eq roadref3_ObjectAt.l1_k.mono _
def roadref3_ObjectAt.l1_k.I : (p : roadref3_ObjectAt.l1_k.Pt) → (T_heap_Object × Bool) → Prop
  | .l1 a0 x1 y4 y6 a125 x126 x127, r => ∀ (h0 m0 h m : Heap) (A0 : Option Addr) (n0 c0 : Nat) (bk4 : Nat) (cs4 : List Value) (bk6 : Nat) (cs6 : List Value) (A125 : Option Addr) (n125 c125 : Nat) (S : St No h0 m0 h m) (ne0 : n0 = List.length a0) (k0 : List.length a0 ≤ c0) (r0 : Rd 1 (eInt .u64) m A0 a0) (o4 : OB No h0 h m bk4 cs4 88) (e4 : T_heap_Object.E m y4 cs4) (o6 : OB No h0 h m bk6 cs6 88) (e6 : T_heap_Object.E m y6 cs6) (ne125 : n125 = List.length a125) (o125 : OS No h0 1 (eInt .u64) h m A125 a125 c125) (d0_1 : Dj (fb bk4) (fb bk6)) (d0_2 : Dj (fb bk4) (fp A125 c125)) (d1_2 : Dj (fb bk6) (fp A125 c125)), f47.l1 (roadref3_ObjectAt.post No h0 m0 r) A0 n0 c0 x1 (⟨bk4, 0, none⟩ : Addr) (⟨bk6, 0, none⟩ : Addr) A125 n125 c125 x126 x127 h
set_option maxRecDepth 100000 in
theorem roadref3_ObjectAt.l1_k.step_l1 (go : (p : roadref3_ObjectAt.l1_k.Pt) → Option (T_heap_Object × Bool)) (ih : ∀ p r, go p = some r → roadref3_ObjectAt.l1_k.I p r) (a0 : List Int) (x1 : Int) (y4 : T_heap_Object) (y6 : T_heap_Object) (a125 : List Int) (x126 : Int) (x127 : Int) (r : T_heap_Object × Bool) (e : roadref3_ObjectAt.l1_k.body go (.l1 a0 x1 y4 y6 a125 x126 x127) = some r) : roadref3_ObjectAt.l1_k.I (.l1 a0 x1 y4 y6 a125 x126 x127) r := by
  unfold roadref3_ObjectAt.l1_k.body at e
  intro h0 m0 h m A0 n0 c0 bk4 cs4 bk6 cs6 A125 n125 c125 S ne0 k0 r0 o4 e4 o6 e6 ne125 o125 d0_1 d0_2 d1_2
  subst ne0
  obtain ⟨Ae4_4, ce4_4, rfl, ke4_4, re4_4⟩ := e4
  obtain ⟨Ae6_4, ce6_4, rfl, ke6_4, re6_4⟩ := e6
  subst ne125
  refine f47.l1_in ?_
  unfold f47.l1T
  refine split_dec_e e (fun c235 e => ?_) (fun c235 e => ?_)
  · obtain ⟨y206, g207, e⟩ := bind_e e
    refine o125.addr rfl g207 fun a208 cs209 ha210 hc211 he212 => ?_
    obtain rfl : cs209 = [(Value.int .u64 y206)] := he212
    refine ⟨_, ld0 (Sub.refl _) hc211 rfl, _, rfl, ?_⟩
    obtain ⟨y213, g214, e⟩ := bind_e e
    refine r0.addr rfl g214 fun a215 cs216 ha217 hc218 he219 => ?_
    obtain rfl : cs216 = [(Value.int .u64 y213)] := he219
    refine ⟨_, ld0 S.s hc218 rfl, _, rfl, ?_⟩
    refine split_ne_e e (fun c227 e => ?_) (fun c227 e => ?_)
    · obtain ⟨h220, w221, o222, t223⟩ := o4.stA S.s [(Value.int .i64 (0 : Int)), (Value.int .i64 (0 : Int)), (Value.int .i64 (0 : Int)), (Value.string (ByteArray.mk #[])), (Value.slice none 0 0)] rfl (Flats.cons trivial (Flats.cons trivial (Flats.cons trivial (Flats.cons trivial (Flats.cons trivial Flats.nil)))))
      refine ⟨[(Value.int .i64 (0 : Int)), (Value.int .i64 (0 : Int)), (Value.int .i64 (0 : Int)), (Value.string (ByteArray.mk #[])), (Value.slice none 0 0)], rfl, rfl, h220, w221, ?_⟩
      have o222 : OB _ _ h220 _ bk4 [(Value.int .i64 (0 : Int)), (Value.int .i64 (0 : Int)), (Value.int .i64 (0 : Int)), (Value.string (ByteArray.mk #[])), (Value.slice none 0 0)] 88 := o222
      have S224 := S.then t223 (fun i _ hi => o4.wr i hi)
      have o225 := o6.step t223 d0_1
      have o226 := o125.step (tell_int .u64) t223 d0_2
      refine ⟨_, ldA (Sub.refl _) o222.all, ?_⟩
      cases e
      exact ⟨_, _, S224, rfl, (show T_heap_Object.E _ (T_heap_Object.mk (0 : Int) (0 : Int) (0 : Int) (ByteArray.mk #[]) ([] : List Int)) [(Value.int .i64 (0 : Int)), (Value.int .i64 (0 : Int)), (Value.int .i64 (0 : Int)), (Value.string (ByteArray.mk #[])), (Value.slice none 0 0)] from ⟨_, _, rfl, (Nat.le_refl 0), Rd.nil⟩)⟩
    · exact (ih _ _ e) _ _ _ _ _ _ _ _ _ _ _ _ _ _ S rfl k0 r0 o4 (show T_heap_Object.E _ y4 [(Value.int .i64 y4.At), (Value.int .i64 y4.Kind), (Value.int .i64 y4.Num), (Value.string y4.Text), (Value.slice Ae4_4 (List.length y4.Parts) ce4_4)] from ⟨_, _, rfl, ke4_4, re4_4⟩) o6 (show T_heap_Object.E _ y6 [(Value.int .i64 y6.At), (Value.int .i64 y6.Kind), (Value.int .i64 y6.Num), (Value.string y6.Text), (Value.slice Ae6_4 (List.length y6.Parts) ce6_4)] from ⟨_, _, rfl, ke6_4, re6_4⟩) rfl o125 d0_1 d0_2 d1_2
  · refine ⟨_, ldA (Sub.refl _) o6.all, ?_⟩
    obtain ⟨h228, w229, o230, t231⟩ := o4.stA S.s [(Value.int .i64 y6.At), (Value.int .i64 y6.Kind), (Value.int .i64 y6.Num), (Value.string y6.Text), (Value.slice Ae6_4 (List.length y6.Parts) ce6_4)] rfl (Flats.cons trivial (Flats.cons trivial (Flats.cons trivial (Flats.cons trivial (Flats.cons trivial Flats.nil)))))
    refine ⟨[(Value.int .i64 y6.At), (Value.int .i64 y6.Kind), (Value.int .i64 y6.Num), (Value.string y6.Text), (Value.slice Ae6_4 (List.length y6.Parts) ce6_4)], rfl, rfl, h228, w229, ?_⟩
    have o230 : OB _ _ h228 _ bk4 [(Value.int .i64 y6.At), (Value.int .i64 y6.Kind), (Value.int .i64 y6.Num), (Value.string y6.Text), (Value.slice Ae6_4 (List.length y6.Parts) ce6_4)] 88 := o230
    have S232 := S.then t231 (fun i _ hi => o4.wr i hi)
    have o233 := o6.step t231 d0_1
    have o234 := o125.step (tell_int .u64) t231 d0_2
    refine ⟨_, ldA (Sub.refl _) o230.all, ?_⟩
    cases e
    exact ⟨_, _, S232, rfl, (show T_heap_Object.E _ y6 [(Value.int .i64 y6.At), (Value.int .i64 y6.Kind), (Value.int .i64 y6.Num), (Value.string y6.Text), (Value.slice Ae6_4 (List.length y6.Parts) ce6_4)] from ⟨_, _, rfl, ke6_4, re6_4⟩)⟩
theorem roadref3_ObjectAt.l1_k.all {p : roadref3_ObjectAt.l1_k.Pt} {r : (T_heap_Object × Bool)} (e : roadref3_ObjectAt.l1_k.go p = some r) : roadref3_ObjectAt.l1_k.I p r := fixF_ind (β := fun _ => (T_heap_Object × Bool)) roadref3_ObjectAt.l1_k.mono (I := roadref3_ObjectAt.l1_k.I) (fun go ih p r e => match p with
  | .l1 a0 x1 y4 y6 a125 x126 x127 => roadref3_ObjectAt.l1_k.step_l1 go ih a0 x1 y4 y6 a125 x126 x127 r e
  ) e
theorem roadref3_ObjectAt.l1.walk {h0 m0 h m : Heap} {A0 : Option Addr} {n0 c0 : Nat} {bk4 : Nat} {cs4 : List Value} {bk6 : Nat} {cs6 : List Value} {A125 : Option Addr} {n125 c125 : Nat} {a0 : List Int} {x1 : Int} {y4 : T_heap_Object} {y6 : T_heap_Object} {a125 : List Int} {x126 : Int} {x127 : Int} (S : St No h0 m0 h m) (ne0 : n0 = List.length a0) (k0 : List.length a0 ≤ c0) (r0 : Rd 1 (eInt .u64) m A0 a0) (o4 : OB No h0 h m bk4 cs4 88) (e4 : T_heap_Object.E m y4 cs4) (o6 : OB No h0 h m bk6 cs6 88) (e6 : T_heap_Object.E m y6 cs6) (ne125 : n125 = List.length a125) (o125 : OS No h0 1 (eInt .u64) h m A125 a125 c125) (d0_1 : Dj (fb bk4) (fb bk6)) (d0_2 : Dj (fb bk4) (fp A125 c125)) (d1_2 : Dj (fb bk6) (fp A125 c125)) {r : T_heap_Object × Bool} (e : roadref3_ObjectAt.l1 a0 x1 y4 y6 a125 x126 x127 = some r) : f47.l1 (roadref3_ObjectAt.post No h0 m0 r) A0 n0 c0 x1 (⟨bk4, 0, none⟩ : Addr) (⟨bk6, 0, none⟩ : Addr) A125 n125 c125 x126 x127 h := roadref3_ObjectAt.l1_k.all (p := .l1 a0 x1 y4 y6 a125 x126 x127) e h0 m0 h m A0 n0 c0 bk4 cs4 bk6 cs6 A125 n125 c125 S ne0 k0 r0 o4 e4 o6 e6 ne125 o125 d0_1 d0_2 d1_2

inductive roadref3_ObjectAt.l0_k.Pt where
  | l0 (a0 : List Int) (x1 : Int) (y4 : T_heap_Object) (x6_0 : Int) (x6_1 : Int) (x6_2 : Int) (s6_3 : ByteArray) (a6_4 : List Int) (x8 : Int) (a9 : List Int) (x10 : Int) (x84 : Int) (x85 : Int)
  | l2 (a0 : List Int) (x1 : Int) (y4 : T_heap_Object) (x6_0 : Int) (x6_1 : Int) (x6_2 : Int) (s6_3 : ByteArray) (a6_4 : List Int) (x8 : Int) (a9 : List Int) (x10 : Int) (x12 : Int) (x84 : Int) (x85 : Int) (x94 : Int) (x95 : Int)
noncomputable def roadref3_ObjectAt.l0_k.body (go : (p : roadref3_ObjectAt.l0_k.Pt) → Option (T_heap_Object × Bool)) : (p : roadref3_ObjectAt.l0_k.Pt) → Option (T_heap_Object × Bool)
  | .l0 a0 x1 y4 x6_0 x6_1 x6_2 s6_3 a6_4 x8 a9 x10 x84 x85 => if x85 < x84 then (Option.bind (gi a9 (IntKind.wrap .i64 (Int.tdiv x85 (8 : Int)))) fun y107 => (go (.l2 a0 x1 y4 x6_0 x6_1 x6_2 s6_3 a6_4 x8 a9 x10 y107 x84 x85 (Int.tmod x85 (8 : Int)) (0 : Int)))) else (Option.bind (sls a9 x10 (IntKind.wrap .i64 (x10 + x8))) fun l114 => Option.bind (ap 8 a6_4 l114) fun l119 => Option.bind (roadref3_ObjectIs (T_heap_Object.mk x6_0 x6_1 x6_2 s6_3 l119)) fun y150 => if y150 = true then (Option.bind (roadref3_ObjectWords (T_heap_Object.mk x6_0 x6_1 x6_2 s6_3 l119)) fun y158 => (roadref3_ObjectAt.l1 a0 x1 y4 (T_heap_Object.mk x6_0 x6_1 x6_2 s6_3 l119) y158 (((List.length y158) : Nat) : Int) (0 : Int))) else (some ((T_heap_Object.mk (0 : Int) (0 : Int) (0 : Int) (ByteArray.mk #[]) ([] : List Int)), false)))
  | .l2 a0 x1 y4 x6_0 x6_1 x6_2 s6_3 a6_4 x8 a9 x10 x12 x84 x85 x94 x95 => if x95 < x94 then ((go (.l2 a0 x1 y4 x6_0 x6_1 x6_2 s6_3 a6_4 x8 a9 x10 (IntKind.wrap .u64 (Int.tdiv x12 (256 : Int))) x84 x85 x94 (IntKind.wrap .i64 (x95 + (1 : Int)))))) else (if ByteArray.size s6_3 + ByteArray.size (bytesOf ([(IntKind.wrap .u8 (Int.tmod x12 (256 : Int)))] : List Int)) ≤ 9223372036854775807 then ((go (.l0 a0 x1 y4 x6_0 x6_1 x6_2 (s6_3 ++ (bytesOf ([(IntKind.wrap .u8 (Int.tmod x12 (256 : Int)))] : List Int))) a6_4 x8 a9 x10 x84 (IntKind.wrap .i64 (x85 + (1 : Int)))))) else none)
theorem roadref3_ObjectAt.l0_k.mono : MonoF (β := fun _ => (T_heap_Object × Bool)) roadref3_ObjectAt.l0_k.body := fun f g hfg p => match p with
  | .l0 a0 x1 y4 x6_0 x6_1 x6_2 s6_3 a6_4 x8 a9 x10 x84 x85 => LeO.ite (LeO.bind (LeO.refl _) fun y107 => (hfg _)) (LeO.bind (LeO.refl _) fun l114 => LeO.bind (LeO.refl _) fun l119 => LeO.bind (LeO.refl _) fun y150 => LeO.ite (LeO.bind (LeO.refl _) fun y158 => (LeO.refl _)) (LeO.refl _))
  | .l2 a0 x1 y4 x6_0 x6_1 x6_2 s6_3 a6_4 x8 a9 x10 x12 x84 x85 x94 x95 => LeO.ite ((hfg _)) (LeO.ite ((hfg _)) (LeO.refl _))
noncomputable def roadref3_ObjectAt.l0_k.go (p : roadref3_ObjectAt.l0_k.Pt) : Option (T_heap_Object × Bool) := fixF (β := fun _ => (T_heap_Object × Bool)) roadref3_ObjectAt.l0_k.body p
noncomputable def roadref3_ObjectAt.l0 (a0 : List Int) (x1 : Int) (y4 : T_heap_Object) (x6_0 : Int) (x6_1 : Int) (x6_2 : Int) (s6_3 : ByteArray) (a6_4 : List Int) (x8 : Int) (a9 : List Int) (x10 : Int) (x84 : Int) (x85 : Int) : Option (T_heap_Object × Bool) := roadref3_ObjectAt.l0_k.go (.l0 a0 x1 y4 x6_0 x6_1 x6_2 s6_3 a6_4 x8 a9 x10 x84 x85)
noncomputable def roadref3_ObjectAt.l2 (a0 : List Int) (x1 : Int) (y4 : T_heap_Object) (x6_0 : Int) (x6_1 : Int) (x6_2 : Int) (s6_3 : ByteArray) (a6_4 : List Int) (x8 : Int) (a9 : List Int) (x10 : Int) (x12 : Int) (x84 : Int) (x85 : Int) (x94 : Int) (x95 : Int) : Option (T_heap_Object × Bool) := roadref3_ObjectAt.l0_k.go (.l2 a0 x1 y4 x6_0 x6_1 x6_2 s6_3 a6_4 x8 a9 x10 x12 x84 x85 x94 x95)
theorem roadref3_ObjectAt.l0_eq (a0 : List Int) (x1 : Int) (y4 : T_heap_Object) (x6_0 : Int) (x6_1 : Int) (x6_2 : Int) (s6_3 : ByteArray) (a6_4 : List Int) (x8 : Int) (a9 : List Int) (x10 : Int) (x84 : Int) (x85 : Int) : roadref3_ObjectAt.l0 a0 x1 y4 x6_0 x6_1 x6_2 s6_3 a6_4 x8 a9 x10 x84 x85 = if x85 < x84 then (Option.bind (gi a9 (IntKind.wrap .i64 (Int.tdiv x85 (8 : Int)))) fun y107 => (roadref3_ObjectAt.l2 a0 x1 y4 x6_0 x6_1 x6_2 s6_3 a6_4 x8 a9 x10 y107 x84 x85 (Int.tmod x85 (8 : Int)) (0 : Int))) else (Option.bind (sls a9 x10 (IntKind.wrap .i64 (x10 + x8))) fun l114 => Option.bind (ap 8 a6_4 l114) fun l119 => Option.bind (roadref3_ObjectIs (T_heap_Object.mk x6_0 x6_1 x6_2 s6_3 l119)) fun y150 => if y150 = true then (Option.bind (roadref3_ObjectWords (T_heap_Object.mk x6_0 x6_1 x6_2 s6_3 l119)) fun y158 => (roadref3_ObjectAt.l1 a0 x1 y4 (T_heap_Object.mk x6_0 x6_1 x6_2 s6_3 l119) y158 (((List.length y158) : Nat) : Int) (0 : Int))) else (some ((T_heap_Object.mk (0 : Int) (0 : Int) (0 : Int) (ByteArray.mk #[]) ([] : List Int)), false))) := fixF_eq roadref3_ObjectAt.l0_k.mono _
theorem roadref3_ObjectAt.l2_eq (a0 : List Int) (x1 : Int) (y4 : T_heap_Object) (x6_0 : Int) (x6_1 : Int) (x6_2 : Int) (s6_3 : ByteArray) (a6_4 : List Int) (x8 : Int) (a9 : List Int) (x10 : Int) (x12 : Int) (x84 : Int) (x85 : Int) (x94 : Int) (x95 : Int) : roadref3_ObjectAt.l2 a0 x1 y4 x6_0 x6_1 x6_2 s6_3 a6_4 x8 a9 x10 x12 x84 x85 x94 x95 = if x95 < x94 then ((roadref3_ObjectAt.l2 a0 x1 y4 x6_0 x6_1 x6_2 s6_3 a6_4 x8 a9 x10 (IntKind.wrap .u64 (Int.tdiv x12 (256 : Int))) x84 x85 x94 (IntKind.wrap .i64 (x95 + (1 : Int))))) else (if ByteArray.size s6_3 + ByteArray.size (bytesOf ([(IntKind.wrap .u8 (Int.tmod x12 (256 : Int)))] : List Int)) ≤ 9223372036854775807 then ((roadref3_ObjectAt.l0 a0 x1 y4 x6_0 x6_1 x6_2 (s6_3 ++ (bytesOf ([(IntKind.wrap .u8 (Int.tmod x12 (256 : Int)))] : List Int))) a6_4 x8 a9 x10 x84 (IntKind.wrap .i64 (x85 + (1 : Int))))) else none) := fixF_eq roadref3_ObjectAt.l0_k.mono _
def roadref3_ObjectAt.l0_k.I : (p : roadref3_ObjectAt.l0_k.Pt) → (T_heap_Object × Bool) → Prop
  | .l0 a0 x1 y4 x6_0 x6_1 x6_2 s6_3 a6_4 x8 a9 x10 x84 x85, r => ∀ (h0 m0 h m : Heap) (A0 : Option Addr) (n0 c0 : Nat) (bk4 : Nat) (cs4 : List Value) (bk6 : Nat) (A6_4 : Option Addr) (n6_4 c6_4 : Nat) (A9 : Option Addr) (n9 c9 : Nat) (S : St No h0 m0 h m) (ne0 : n0 = List.length a0) (k0 : List.length a0 ≤ c0) (r0 : Rd 1 (eInt .u64) m A0 a0) (o4 : OB No h0 h m bk4 cs4 88) (e4 : T_heap_Object.E m y4 cs4) (o6 : OB No h0 h m bk6 [(Value.int .i64 x6_0), (Value.int .i64 x6_1), (Value.int .i64 x6_2), (Value.string s6_3), (Value.slice A6_4 n6_4 c6_4)] 88) (ne6_4 : n6_4 = List.length a6_4) (o6_4 : OS No h0 1 (eInt .u64) h m A6_4 a6_4 c6_4) (ne9 : n9 = List.length a9) (k9 : List.length a9 ≤ c9) (r9 : Rd 1 (eInt .u64) m A9 a9) (d0_1 : Dj (fb bk4) (fb bk6)) (d0_2 : Dj (fb bk4) (fp A6_4 c6_4)) (d1_2 : Dj (fb bk6) (fp A6_4 c6_4)), f47.l0 (roadref3_ObjectAt.post No h0 m0 r) A0 n0 c0 x1 (⟨bk4, 0, none⟩ : Addr) (⟨bk6, 0, none⟩ : Addr) x8 A9 n9 c9 x10 x84 x85 h
  | .l2 a0 x1 y4 x6_0 x6_1 x6_2 s6_3 a6_4 x8 a9 x10 x12 x84 x85 x94 x95, r => ∀ (h0 m0 h m : Heap) (A0 : Option Addr) (n0 c0 : Nat) (bk4 : Nat) (cs4 : List Value) (bk6 : Nat) (A6_4 : Option Addr) (n6_4 c6_4 : Nat) (A9 : Option Addr) (n9 c9 : Nat) (S : St No h0 m0 h m) (ne0 : n0 = List.length a0) (k0 : List.length a0 ≤ c0) (r0 : Rd 1 (eInt .u64) m A0 a0) (o4 : OB No h0 h m bk4 cs4 88) (e4 : T_heap_Object.E m y4 cs4) (o6 : OB No h0 h m bk6 [(Value.int .i64 x6_0), (Value.int .i64 x6_1), (Value.int .i64 x6_2), (Value.string s6_3), (Value.slice A6_4 n6_4 c6_4)] 88) (ne6_4 : n6_4 = List.length a6_4) (o6_4 : OS No h0 1 (eInt .u64) h m A6_4 a6_4 c6_4) (ne9 : n9 = List.length a9) (k9 : List.length a9 ≤ c9) (r9 : Rd 1 (eInt .u64) m A9 a9) (d0_1 : Dj (fb bk4) (fb bk6)) (d0_2 : Dj (fb bk4) (fp A6_4 c6_4)) (d1_2 : Dj (fb bk6) (fp A6_4 c6_4)), f47.l2 (roadref3_ObjectAt.post No h0 m0 r) A0 n0 c0 x1 (⟨bk4, 0, none⟩ : Addr) (⟨bk6, 0, none⟩ : Addr) x8 A9 n9 c9 x10 x12 x84 x85 x94 x95 h
set_option maxRecDepth 100000 in
theorem roadref3_ObjectAt.l0_k.step_l0 (go : (p : roadref3_ObjectAt.l0_k.Pt) → Option (T_heap_Object × Bool)) (ih : ∀ p r, go p = some r → roadref3_ObjectAt.l0_k.I p r) (a0 : List Int) (x1 : Int) (y4 : T_heap_Object) (x6_0 : Int) (x6_1 : Int) (x6_2 : Int) (s6_3 : ByteArray) (a6_4 : List Int) (x8 : Int) (a9 : List Int) (x10 : Int) (x84 : Int) (x85 : Int) (r : T_heap_Object × Bool) (e : roadref3_ObjectAt.l0_k.body go (.l0 a0 x1 y4 x6_0 x6_1 x6_2 s6_3 a6_4 x8 a9 x10 x84 x85) = some r) : roadref3_ObjectAt.l0_k.I (.l0 a0 x1 y4 x6_0 x6_1 x6_2 s6_3 a6_4 x8 a9 x10 x84 x85) r := by
  unfold roadref3_ObjectAt.l0_k.body at e
  intro h0 m0 h m A0 n0 c0 bk4 cs4 bk6 A6_4 n6_4 c6_4 A9 n9 c9 S ne0 k0 r0 o4 e4 o6 ne6_4 o6_4 ne9 k9 r9 d0_1 d0_2 d1_2
  subst ne0
  obtain ⟨Ae4_4, ce4_4, rfl, ke4_4, re4_4⟩ := e4
  subst ne6_4
  subst ne9
  refine f47.l0_in ?_
  unfold f47.l0T
  refine split_dec_e e (fun c183 e => ?_) (fun c183 e => ?_)
  · refine ⟨by decide, ?_⟩
    obtain ⟨y107, g108, e⟩ := bind_e e
    refine r9.addr rfl g108 fun a109 cs110 ha111 hc112 he113 => ?_
    obtain rfl : cs110 = [(Value.int .u64 y107)] := he113
    refine ⟨_, ld0 S.s hc112 rfl, _, rfl, ?_⟩
    refine ⟨by decide, ?_⟩
    exact (ih _ _ e) _ _ _ _ _ _ _ _ _ _ _ _ _ _ _ _ S rfl k0 r0 o4 (show T_heap_Object.E _ y4 [(Value.int .i64 y4.At), (Value.int .i64 y4.Kind), (Value.int .i64 y4.Num), (Value.string y4.Text), (Value.slice Ae4_4 (List.length y4.Parts) ce4_4)] from ⟨_, _, rfl, ke4_4, re4_4⟩) o6 rfl o6_4 rfl k9 r9 d0_1 d0_2 d1_2
  · obtain ⟨l114, g115, e⟩ := bind_e e
    have q116 := sls_e g115
    refine ⟨q116.1, q116.2.1, cap_in q116.2.2.1 k9, ?_⟩
    try rw [q116.2.2.2.1]
    have k117 : List.length l114 ≤ (c9 - Int.toNat x10) := sls_cap g115 k9
    have r118 := r9.sls g115 (le_mx q116.2.2.1 k9)
    refine ⟨_, ldk (k := 4) (Sub.refl _) o6.all rfl, _, _, _, rfl, ?_⟩
    obtain ⟨l119, g120, e⟩ := bind_e e
    refine o6_4.app (tell_int .u64) S rfl rfl (Rd.srcE r118 (tell_int .u64) S.s rfl) (by decide) g120 fun A121 c122 h123 o124 t125 n126 => ?_
    refine ⟨_, _, _, rfl, ?_⟩
    have d128 : Dj (fb bk4) (fp A121 c122) := Dj.app d0_2 o4.lt n126
    have d129 : Dj (fb bk6) (fp A121 c122) := Dj.app d1_2 o6.lt n126
    have S130 := S.then t125 (fun i _ hi => o6_4.wr i hi)
    have o131 := o4.step t125 (d0_2).symm
    have o132 := o6.step t125 (d1_2).symm
    obtain ⟨h133, w134, o135, t136⟩ := o132.st (k := 4) S130.s (v := (Value.slice A121 (List.length l119) c122)) (Nat.le_of_ble_eq_true rfl) trivial
    refine ⟨h133, w134, ?_⟩
    have o135 : OB _ _ h133 _ bk6 [(Value.int .i64 x6_0), (Value.int .i64 x6_1), (Value.int .i64 x6_2), (Value.string s6_3), (Value.slice A121 (List.length l119) c122)] 88 := o135
    have S137 := S130.then t136 (fun i _ hi => o132.wr i hi)
    have o138 := o131.step t136 (d0_1).symm
    have o139 := o124.step (tell_int .u64) t136 d129
    refine ⟨_, ldA (Sub.refl _) o135.all, ?_⟩
    obtain ⟨y150, g151, e⟩ := bind_e e
    obtain ⟨m144, L143, u140, s141, t142⟩ := St.lend S137.s (fp A121 c122)
    have r145 : Rd 1 (eInt .u64) m144 A121 l119 := o139.lent (tell_int .u64) S137.s L143 (fun _ h => h)
    have k146 := o139.cap
    have S147 := S137.then t142 (fun i _ hi => o139.wr i hi)
    have o148 := o138.step t142 (d128).symm
    have o149 := o135.step t142 (d129).symm
    refine (roadref3_ObjectIs.walk S147.s (show T_heap_Object.E _ (T_heap_Object.mk x6_0 x6_1 x6_2 s6_3 l119) [(Value.int .i64 x6_0), (Value.int .i64 x6_1), (Value.int .i64 x6_2), (Value.string s6_3), (Value.slice A121 (List.length l119) c122)] from ⟨_, _, rfl, k146, r145⟩) g151).mono ?_
    rintro _ h152 ⟨m153, T154, rfl⟩
    have S155 := S147.grow T154
    have o156 := o148.step T154 Dj.no
    have o157 := o149.step T154 Dj.no
    refine ⟨_, rfl, ?_⟩
    refine split_not ?_
    refine split_any_e e (fun c182 e => ?_) (fun c182 e => ?_)
    · refine ⟨_, ldA (Sub.refl _) o157.all, ?_⟩
      obtain ⟨y158, g159, e⟩ := bind_e e
      refine (roadref3_ObjectWords.walk S155.s (show T_heap_Object.E _ (T_heap_Object.mk x6_0 x6_1 x6_2 s6_3 l119) [(Value.int .i64 x6_0), (Value.int .i64 x6_1), (Value.int .i64 x6_2), (Value.string s6_3), (Value.slice A121 (List.length l119) c122)] from ⟨_, _, rfl, k146, (r145.sub (tell_int .u64) T154.up)⟩) g159).mono ?_
      rintro _ h160 ⟨m161, A163, n164, c165, T162, rfl, ne166, o167⟩
      subst ne166
      have nw173 := o167.newNo
      have d174 : Dj (fb bk4) (fp A163 c165) := fun i h1 h2 => absurd (o156.lt i h1) (Nat.not_lt.2 (nw173 i h2))
      have d175 : Dj (fb bk6) (fp A163 c165) := fun i h1 h2 => absurd (o157.lt i h1) (Nat.not_lt.2 (nw173 i h2))
      have o172 := o167.take S155 (fun _ h => h.elim)
      have S169 := S155.grow T162
      have o170 := o156.step T162 Dj.no
      have o171 := o157.step T162 Dj.no
      refine ⟨_, _, _, rfl, ?_⟩
      exact roadref3_ObjectAt.l1.walk S169 rfl k0 (r0.sub (tell_int .u64) (t142.up.trans (T154.up.trans T162.up))) o170 (show T_heap_Object.E _ y4 [(Value.int .i64 y4.At), (Value.int .i64 y4.Kind), (Value.int .i64 y4.Num), (Value.string y4.Text), (Value.slice Ae4_4 (List.length y4.Parts) ce4_4)] from ⟨_, _, rfl, ke4_4, (re4_4.sub (tell_int .u64) (t142.up.trans (T154.up.trans T162.up)))⟩) o171 (show T_heap_Object.E _ (T_heap_Object.mk x6_0 x6_1 x6_2 s6_3 l119) [(Value.int .i64 x6_0), (Value.int .i64 x6_1), (Value.int .i64 x6_2), (Value.string s6_3), (Value.slice A121 (List.length l119) c122)] from ⟨_, _, rfl, k146, (r145.sub (tell_int .u64) (T154.up.trans T162.up))⟩) rfl o172 d0_1 d174 d175 e
    · obtain ⟨h176, w177, o178, t179⟩ := o156.stA S155.s [(Value.int .i64 (0 : Int)), (Value.int .i64 (0 : Int)), (Value.int .i64 (0 : Int)), (Value.string (ByteArray.mk #[])), (Value.slice none 0 0)] rfl (Flats.cons trivial (Flats.cons trivial (Flats.cons trivial (Flats.cons trivial (Flats.cons trivial Flats.nil)))))
      refine ⟨[(Value.int .i64 (0 : Int)), (Value.int .i64 (0 : Int)), (Value.int .i64 (0 : Int)), (Value.string (ByteArray.mk #[])), (Value.slice none 0 0)], rfl, rfl, h176, w177, ?_⟩
      have o178 : OB _ _ h176 _ bk4 [(Value.int .i64 (0 : Int)), (Value.int .i64 (0 : Int)), (Value.int .i64 (0 : Int)), (Value.string (ByteArray.mk #[])), (Value.slice none 0 0)] 88 := o178
      have S180 := S155.then t179 (fun i _ hi => o156.wr i hi)
      have o181 := o157.step t179 d0_1
      refine ⟨_, ldA (Sub.refl _) o178.all, ?_⟩
      cases e
      exact ⟨_, _, S180, rfl, (show T_heap_Object.E _ (T_heap_Object.mk (0 : Int) (0 : Int) (0 : Int) (ByteArray.mk #[]) ([] : List Int)) [(Value.int .i64 (0 : Int)), (Value.int .i64 (0 : Int)), (Value.int .i64 (0 : Int)), (Value.string (ByteArray.mk #[])), (Value.slice none 0 0)] from ⟨_, _, rfl, (Nat.le_refl 0), Rd.nil⟩)⟩
set_option maxRecDepth 100000 in
theorem roadref3_ObjectAt.l0_k.step_l2 (go : (p : roadref3_ObjectAt.l0_k.Pt) → Option (T_heap_Object × Bool)) (ih : ∀ p r, go p = some r → roadref3_ObjectAt.l0_k.I p r) (a0 : List Int) (x1 : Int) (y4 : T_heap_Object) (x6_0 : Int) (x6_1 : Int) (x6_2 : Int) (s6_3 : ByteArray) (a6_4 : List Int) (x8 : Int) (a9 : List Int) (x10 : Int) (x12 : Int) (x84 : Int) (x85 : Int) (x94 : Int) (x95 : Int) (r : T_heap_Object × Bool) (e : roadref3_ObjectAt.l0_k.body go (.l2 a0 x1 y4 x6_0 x6_1 x6_2 s6_3 a6_4 x8 a9 x10 x12 x84 x85 x94 x95) = some r) : roadref3_ObjectAt.l0_k.I (.l2 a0 x1 y4 x6_0 x6_1 x6_2 s6_3 a6_4 x8 a9 x10 x12 x84 x85 x94 x95) r := by
  unfold roadref3_ObjectAt.l0_k.body at e
  intro h0 m0 h m A0 n0 c0 bk4 cs4 bk6 A6_4 n6_4 c6_4 A9 n9 c9 S ne0 k0 r0 o4 e4 o6 ne6_4 o6_4 ne9 k9 r9 d0_1 d0_2 d1_2
  subst ne0
  obtain ⟨Ae4_4, ce4_4, rfl, ke4_4, re4_4⟩ := e4
  subst ne6_4
  subst ne9
  refine f47.l2_in ?_
  unfold f47.l2T
  refine split_dec_e e (fun c205 e => ?_) (fun c205 e => ?_)
  · refine ⟨by decide, ?_⟩
    exact (ih _ _ e) _ _ _ _ _ _ _ _ _ _ _ _ _ _ _ _ S rfl k0 r0 o4 (show T_heap_Object.E _ y4 [(Value.int .i64 y4.At), (Value.int .i64 y4.Kind), (Value.int .i64 y4.Num), (Value.string y4.Text), (Value.slice Ae4_4 (List.length y4.Parts) ce4_4)] from ⟨_, _, rfl, ke4_4, re4_4⟩) o6 rfl o6_4 rfl k9 r9 d0_1 d0_2 d1_2
  · refine ⟨_, ldk (k := 3) (Sub.refl _) o6.all rfl, _, rfl, ?_⟩
    refine ⟨by decide, ?_⟩
    refine new_in S fun h184 o185 x186 => ?_
    have d189 : Dj (fb bk4) (fb (Array.size h)) := Dj.new o4.lt
    have d190 : Dj (fp A6_4 c6_4) (fb (Array.size h)) := Dj.new o6_4.lt
    have d191 : Dj (fb bk6) (fb (Array.size h)) := Dj.new o6.lt
    have o192 := o4.ext x186
    have o193 := o6_4.ext (tell_int .u64) S.s x186
    have o194 := o6.ext x186
    have S187 := S.ext' x186
    have o185 : OB _ _ h184 _ (Array.size h) [(Value.int .u8 (IntKind.wrap .u8 (Int.tmod x12 (256 : Int))))] 5 := o185
    have o195 : OS _ _ 1 (eInt .u8) h184 m (some ⟨(Array.size h), 0, none⟩) ([(IntKind.wrap .u8 (Int.tmod x12 (256 : Int)))] : List Int) 1 := OB.row o185 (CsE.cons (c1 := [(Value.int .u8 (IntKind.wrap .u8 (Int.tmod x12 (256 : Int))))]) rfl rfl CsE.nil) rfl
    refine gen_b2s' (e := 5) (by kernel_rfl) (by kernel_rfl) (by kernel_rfl) (o195.rd (tell_int .u8) S187.s) rfl ?_
    refine ⟨_, rfl, ?_⟩
    obtain ⟨g196, e⟩ := guard_e e
    refine ⟨g196, ?_⟩
    obtain ⟨h197, w198, o199, t200⟩ := o194.st (k := 3) S187.s (v := (Value.string (s6_3 ++ (bytesOf ([(IntKind.wrap .u8 (Int.tmod x12 (256 : Int)))] : List Int))))) (Nat.le_of_ble_eq_true rfl) trivial
    refine ⟨h197, w198, ?_⟩
    have o199 : OB _ _ h197 _ bk6 [(Value.int .i64 x6_0), (Value.int .i64 x6_1), (Value.int .i64 x6_2), (Value.string (s6_3 ++ (bytesOf ([(IntKind.wrap .u8 (Int.tmod x12 (256 : Int)))] : List Int)))), (Value.slice A6_4 (List.length a6_4) c6_4)] 88 := o199
    have S201 := S187.then t200 (fun i _ hi => o194.wr i hi)
    have o202 := o192.step t200 (d0_1).symm
    have o203 := o193.step (tell_int .u64) t200 d1_2
    have o204 := o195.step (tell_int .u8) t200 (d191.row)
    exact (ih _ _ e) _ _ _ _ _ _ _ _ _ _ _ _ _ _ _ _ S201 rfl k0 r0 o202 (show T_heap_Object.E _ y4 [(Value.int .i64 y4.At), (Value.int .i64 y4.Kind), (Value.int .i64 y4.Num), (Value.string y4.Text), (Value.slice Ae4_4 (List.length y4.Parts) ce4_4)] from ⟨_, _, rfl, ke4_4, re4_4⟩) o199 rfl o203 rfl k9 r9 d0_1 d0_2 d1_2
theorem roadref3_ObjectAt.l0_k.all {p : roadref3_ObjectAt.l0_k.Pt} {r : (T_heap_Object × Bool)} (e : roadref3_ObjectAt.l0_k.go p = some r) : roadref3_ObjectAt.l0_k.I p r := fixF_ind (β := fun _ => (T_heap_Object × Bool)) roadref3_ObjectAt.l0_k.mono (I := roadref3_ObjectAt.l0_k.I) (fun go ih p r e => match p with
  | .l0 a0 x1 y4 x6_0 x6_1 x6_2 s6_3 a6_4 x8 a9 x10 x84 x85 => roadref3_ObjectAt.l0_k.step_l0 go ih a0 x1 y4 x6_0 x6_1 x6_2 s6_3 a6_4 x8 a9 x10 x84 x85 r e
  | .l2 a0 x1 y4 x6_0 x6_1 x6_2 s6_3 a6_4 x8 a9 x10 x12 x84 x85 x94 x95 => roadref3_ObjectAt.l0_k.step_l2 go ih a0 x1 y4 x6_0 x6_1 x6_2 s6_3 a6_4 x8 a9 x10 x12 x84 x85 x94 x95 r e
  ) e
theorem roadref3_ObjectAt.l0.walk {h0 m0 h m : Heap} {A0 : Option Addr} {n0 c0 : Nat} {bk4 : Nat} {cs4 : List Value} {bk6 : Nat} {A6_4 : Option Addr} {n6_4 c6_4 : Nat} {A9 : Option Addr} {n9 c9 : Nat} {a0 : List Int} {x1 : Int} {y4 : T_heap_Object} {x6_0 : Int} {x6_1 : Int} {x6_2 : Int} {s6_3 : ByteArray} {a6_4 : List Int} {x8 : Int} {a9 : List Int} {x10 : Int} {x84 : Int} {x85 : Int} (S : St No h0 m0 h m) (ne0 : n0 = List.length a0) (k0 : List.length a0 ≤ c0) (r0 : Rd 1 (eInt .u64) m A0 a0) (o4 : OB No h0 h m bk4 cs4 88) (e4 : T_heap_Object.E m y4 cs4) (o6 : OB No h0 h m bk6 [(Value.int .i64 x6_0), (Value.int .i64 x6_1), (Value.int .i64 x6_2), (Value.string s6_3), (Value.slice A6_4 n6_4 c6_4)] 88) (ne6_4 : n6_4 = List.length a6_4) (o6_4 : OS No h0 1 (eInt .u64) h m A6_4 a6_4 c6_4) (ne9 : n9 = List.length a9) (k9 : List.length a9 ≤ c9) (r9 : Rd 1 (eInt .u64) m A9 a9) (d0_1 : Dj (fb bk4) (fb bk6)) (d0_2 : Dj (fb bk4) (fp A6_4 c6_4)) (d1_2 : Dj (fb bk6) (fp A6_4 c6_4)) {r : T_heap_Object × Bool} (e : roadref3_ObjectAt.l0 a0 x1 y4 x6_0 x6_1 x6_2 s6_3 a6_4 x8 a9 x10 x84 x85 = some r) : f47.l0 (roadref3_ObjectAt.post No h0 m0 r) A0 n0 c0 x1 (⟨bk4, 0, none⟩ : Addr) (⟨bk6, 0, none⟩ : Addr) x8 A9 n9 c9 x10 x84 x85 h := roadref3_ObjectAt.l0_k.all (p := .l0 a0 x1 y4 x6_0 x6_1 x6_2 s6_3 a6_4 x8 a9 x10 x84 x85) e h0 m0 h m A0 n0 c0 bk4 cs4 bk6 A6_4 n6_4 c6_4 A9 n9 c9 S ne0 k0 r0 o4 e4 o6 ne6_4 o6_4 ne9 k9 r9 d0_1 d0_2 d1_2
theorem roadref3_ObjectAt.l2.walk {h0 m0 h m : Heap} {A0 : Option Addr} {n0 c0 : Nat} {bk4 : Nat} {cs4 : List Value} {bk6 : Nat} {A6_4 : Option Addr} {n6_4 c6_4 : Nat} {A9 : Option Addr} {n9 c9 : Nat} {a0 : List Int} {x1 : Int} {y4 : T_heap_Object} {x6_0 : Int} {x6_1 : Int} {x6_2 : Int} {s6_3 : ByteArray} {a6_4 : List Int} {x8 : Int} {a9 : List Int} {x10 : Int} {x12 : Int} {x84 : Int} {x85 : Int} {x94 : Int} {x95 : Int} (S : St No h0 m0 h m) (ne0 : n0 = List.length a0) (k0 : List.length a0 ≤ c0) (r0 : Rd 1 (eInt .u64) m A0 a0) (o4 : OB No h0 h m bk4 cs4 88) (e4 : T_heap_Object.E m y4 cs4) (o6 : OB No h0 h m bk6 [(Value.int .i64 x6_0), (Value.int .i64 x6_1), (Value.int .i64 x6_2), (Value.string s6_3), (Value.slice A6_4 n6_4 c6_4)] 88) (ne6_4 : n6_4 = List.length a6_4) (o6_4 : OS No h0 1 (eInt .u64) h m A6_4 a6_4 c6_4) (ne9 : n9 = List.length a9) (k9 : List.length a9 ≤ c9) (r9 : Rd 1 (eInt .u64) m A9 a9) (d0_1 : Dj (fb bk4) (fb bk6)) (d0_2 : Dj (fb bk4) (fp A6_4 c6_4)) (d1_2 : Dj (fb bk6) (fp A6_4 c6_4)) {r : T_heap_Object × Bool} (e : roadref3_ObjectAt.l2 a0 x1 y4 x6_0 x6_1 x6_2 s6_3 a6_4 x8 a9 x10 x12 x84 x85 x94 x95 = some r) : f47.l2 (roadref3_ObjectAt.post No h0 m0 r) A0 n0 c0 x1 (⟨bk4, 0, none⟩ : Addr) (⟨bk6, 0, none⟩ : Addr) x8 A9 n9 c9 x10 x12 x84 x85 x94 x95 h := roadref3_ObjectAt.l0_k.all (p := .l2 a0 x1 y4 x6_0 x6_1 x6_2 s6_3 a6_4 x8 a9 x10 x12 x84 x85 x94 x95) e h0 m0 h m A0 n0 c0 bk4 cs4 bk6 A6_4 n6_4 c6_4 A9 n9 c9 S ne0 k0 r0 o4 e4 o6 ne6_4 o6_4 ne9 k9 r9 d0_1 d0_2 d1_2

noncomputable def roadref3_ObjectAt.j2 (a0 : List Int) (x1 : Int) (y4 : T_heap_Object) (x6_0 : Int) (x6_1 : Int) (x6_2 : Int) (s6_3 : ByteArray) (a6_4 : List Int) (x7 : Int) (x8 : Int) (a9 : List Int) : Option (T_heap_Object × Bool) :=
  if (((List.length a9) : Nat) : Int) < (IntKind.wrap .i64 ((IntKind.wrap .i64 (Int.tdiv (IntKind.wrap .i64 (x7 + (7 : Int))) (8 : Int))) + x8)) then (some ((T_heap_Object.mk (0 : Int) (0 : Int) (0 : Int) (ByteArray.mk #[]) ([] : List Int)), false)) else ((roadref3_ObjectAt.l0 a0 x1 y4 x6_0 x6_1 x6_2 s6_3 a6_4 x8 a9 (IntKind.wrap .i64 (Int.tdiv (IntKind.wrap .i64 (x7 + (7 : Int))) (8 : Int))) x7 (0 : Int)))
set_option maxRecDepth 100000 in
theorem roadref3_ObjectAt.j2.walk {h0 m0 h m : Heap} {A0 : Option Addr} {n0 c0 : Nat} {bk4 : Nat} {cs4 : List Value} {bk6 : Nat} {A6_4 : Option Addr} {n6_4 c6_4 : Nat} {A9 : Option Addr} {n9 c9 : Nat} {a0 : List Int} {x1 : Int} {y4 : T_heap_Object} {x6_0 : Int} {x6_1 : Int} {x6_2 : Int} {s6_3 : ByteArray} {a6_4 : List Int} {x7 : Int} {x8 : Int} {a9 : List Int} (S : St No h0 m0 h m) (ne0 : n0 = List.length a0) (k0 : List.length a0 ≤ c0) (r0 : Rd 1 (eInt .u64) m A0 a0) (o4 : OB No h0 h m bk4 cs4 88) (e4 : T_heap_Object.E m y4 cs4) (o6 : OB No h0 h m bk6 [(Value.int .i64 x6_0), (Value.int .i64 x6_1), (Value.int .i64 x6_2), (Value.string s6_3), (Value.slice A6_4 n6_4 c6_4)] 88) (ne6_4 : n6_4 = List.length a6_4) (o6_4 : OS No h0 1 (eInt .u64) h m A6_4 a6_4 c6_4) (ne9 : n9 = List.length a9) (k9 : List.length a9 ≤ c9) (r9 : Rd 1 (eInt .u64) m A9 a9) (d0_1 : Dj (fb bk4) (fb bk6)) (d0_2 : Dj (fb bk4) (fp A6_4 c6_4)) (d1_2 : Dj (fb bk6) (fp A6_4 c6_4)) {r : T_heap_Object × Bool} (e : roadref3_ObjectAt.j2 a0 x1 y4 x6_0 x6_1 x6_2 s6_3 a6_4 x7 x8 a9 = some r) : f47.j2 (roadref3_ObjectAt.post No h0 m0 r) A0 n0 c0 x1 (⟨bk4, 0, none⟩ : Addr) (⟨bk6, 0, none⟩ : Addr) x7 x8 A9 n9 c9 h := by
  unfold roadref3_ObjectAt.j2 at e
  subst ne0
  obtain ⟨Ae4_4, ce4_4, rfl, ke4_4, re4_4⟩ := e4
  subst ne6_4
  subst ne9
  refine f47.j2_in ?_
  unfold f47.j2T
  refine ⟨by decide, ?_⟩
  refine split_dec_e e (fun c106 e => ?_) (fun c106 e => ?_)
  · obtain ⟨h99, w100, o101, t102⟩ := o4.stA S.s [(Value.int .i64 (0 : Int)), (Value.int .i64 (0 : Int)), (Value.int .i64 (0 : Int)), (Value.string (ByteArray.mk #[])), (Value.slice none 0 0)] rfl (Flats.cons trivial (Flats.cons trivial (Flats.cons trivial (Flats.cons trivial (Flats.cons trivial Flats.nil)))))
    refine ⟨[(Value.int .i64 (0 : Int)), (Value.int .i64 (0 : Int)), (Value.int .i64 (0 : Int)), (Value.string (ByteArray.mk #[])), (Value.slice none 0 0)], rfl, rfl, h99, w100, ?_⟩
    have o101 : OB _ _ h99 _ bk4 [(Value.int .i64 (0 : Int)), (Value.int .i64 (0 : Int)), (Value.int .i64 (0 : Int)), (Value.string (ByteArray.mk #[])), (Value.slice none 0 0)] 88 := o101
    have S103 := S.then t102 (fun i _ hi => o4.wr i hi)
    have o104 := o6_4.step (tell_int .u64) t102 d0_2
    have o105 := o6.step t102 d0_1
    refine ⟨_, ldA (Sub.refl _) o101.all, ?_⟩
    cases e
    exact ⟨_, _, S103, rfl, (show T_heap_Object.E _ (T_heap_Object.mk (0 : Int) (0 : Int) (0 : Int) (ByteArray.mk #[]) ([] : List Int)) [(Value.int .i64 (0 : Int)), (Value.int .i64 (0 : Int)), (Value.int .i64 (0 : Int)), (Value.string (ByteArray.mk #[])), (Value.slice none 0 0)] from ⟨_, _, rfl, (Nat.le_refl 0), Rd.nil⟩)⟩
  · exact roadref3_ObjectAt.l0.walk S rfl k0 r0 o4 (show T_heap_Object.E _ y4 [(Value.int .i64 y4.At), (Value.int .i64 y4.Kind), (Value.int .i64 y4.Num), (Value.string y4.Text), (Value.slice Ae4_4 (List.length y4.Parts) ce4_4)] from ⟨_, _, rfl, ke4_4, re4_4⟩) o6 rfl o6_4 rfl k9 r9 d0_1 d0_2 d1_2 e

noncomputable def roadref3_ObjectAt.j3 (a0 : List Int) (x1 : Int) (y4 : T_heap_Object) (x6_0 : Int) (x6_1 : Int) (x6_2 : Int) (s6_3 : ByteArray) (a6_4 : List Int) (x7 : Int) (x8 : Int) (a9 : List Int) (b62 : Bool) : Option (T_heap_Object × Bool) :=
  if b62 = true then (if (((List.length a9) : Nat) : Int) = (0 : Int) then (some ((T_heap_Object.mk (0 : Int) (0 : Int) (0 : Int) (ByteArray.mk #[]) ([] : List Int)), false)) else (Option.bind (gi a9 (0 : Int)) fun y78 => Option.bind (sls a9 (1 : Int) (((List.length a9) : Nat) : Int)) fun l85 => (roadref3_ObjectAt.j2 a0 x1 y4 x6_0 x6_1 (IntKind.wrap .i64 y78) s6_3 a6_4 x7 x8 l85))) else ((roadref3_ObjectAt.j2 a0 x1 y4 x6_0 x6_1 x6_2 s6_3 a6_4 x7 x8 a9))
set_option maxRecDepth 100000 in
theorem roadref3_ObjectAt.j3.walk {h0 m0 h m : Heap} {A0 : Option Addr} {n0 c0 : Nat} {bk4 : Nat} {cs4 : List Value} {bk6 : Nat} {A6_4 : Option Addr} {n6_4 c6_4 : Nat} {A9 : Option Addr} {n9 c9 : Nat} {a0 : List Int} {x1 : Int} {y4 : T_heap_Object} {x6_0 : Int} {x6_1 : Int} {x6_2 : Int} {s6_3 : ByteArray} {a6_4 : List Int} {x7 : Int} {x8 : Int} {a9 : List Int} {b62 : Bool} (S : St No h0 m0 h m) (ne0 : n0 = List.length a0) (k0 : List.length a0 ≤ c0) (r0 : Rd 1 (eInt .u64) m A0 a0) (o4 : OB No h0 h m bk4 cs4 88) (e4 : T_heap_Object.E m y4 cs4) (o6 : OB No h0 h m bk6 [(Value.int .i64 x6_0), (Value.int .i64 x6_1), (Value.int .i64 x6_2), (Value.string s6_3), (Value.slice A6_4 n6_4 c6_4)] 88) (ne6_4 : n6_4 = List.length a6_4) (o6_4 : OS No h0 1 (eInt .u64) h m A6_4 a6_4 c6_4) (ne9 : n9 = List.length a9) (k9 : List.length a9 ≤ c9) (r9 : Rd 1 (eInt .u64) m A9 a9) (d0_1 : Dj (fb bk4) (fb bk6)) (d0_2 : Dj (fb bk4) (fp A6_4 c6_4)) (d1_2 : Dj (fb bk6) (fp A6_4 c6_4)) {r : T_heap_Object × Bool} (e : roadref3_ObjectAt.j3 a0 x1 y4 x6_0 x6_1 x6_2 s6_3 a6_4 x7 x8 a9 b62 = some r) : f47.j3 (roadref3_ObjectAt.post No h0 m0 r) A0 n0 c0 x1 (⟨bk4, 0, none⟩ : Addr) (⟨bk6, 0, none⟩ : Addr) x7 x8 A9 n9 c9 b62 h := by
  unfold roadref3_ObjectAt.j3 at e
  subst ne0
  obtain ⟨Ae4_4, ce4_4, rfl, ke4_4, re4_4⟩ := e4
  subst ne6_4
  subst ne9
  refine f47.j3_in ?_
  unfold f47.j3T
  refine split_any_e e (fun c98 e => ?_) (fun c98 e => ?_)
  · refine split_eq_e e (fun c97 e => ?_) (fun c97 e => ?_)
    · obtain ⟨h71, w72, o73, t74⟩ := o4.stA S.s [(Value.int .i64 (0 : Int)), (Value.int .i64 (0 : Int)), (Value.int .i64 (0 : Int)), (Value.string (ByteArray.mk #[])), (Value.slice none 0 0)] rfl (Flats.cons trivial (Flats.cons trivial (Flats.cons trivial (Flats.cons trivial (Flats.cons trivial Flats.nil)))))
      refine ⟨[(Value.int .i64 (0 : Int)), (Value.int .i64 (0 : Int)), (Value.int .i64 (0 : Int)), (Value.string (ByteArray.mk #[])), (Value.slice none 0 0)], rfl, rfl, h71, w72, ?_⟩
      have o73 : OB _ _ h71 _ bk4 [(Value.int .i64 (0 : Int)), (Value.int .i64 (0 : Int)), (Value.int .i64 (0 : Int)), (Value.string (ByteArray.mk #[])), (Value.slice none 0 0)] 88 := o73
      have S75 := S.then t74 (fun i _ hi => o4.wr i hi)
      have o76 := o6_4.step (tell_int .u64) t74 d0_2
      have o77 := o6.step t74 d0_1
      refine ⟨_, ldA (Sub.refl _) o73.all, ?_⟩
      cases e
      exact ⟨_, _, S75, rfl, (show T_heap_Object.E _ (T_heap_Object.mk (0 : Int) (0 : Int) (0 : Int) (ByteArray.mk #[]) ([] : List Int)) [(Value.int .i64 (0 : Int)), (Value.int .i64 (0 : Int)), (Value.int .i64 (0 : Int)), (Value.string (ByteArray.mk #[])), (Value.slice none 0 0)] from ⟨_, _, rfl, (Nat.le_refl 0), Rd.nil⟩)⟩
    · obtain ⟨y78, g79, e⟩ := bind_e e
      refine r9.addr rfl g79 fun a80 cs81 ha82 hc83 he84 => ?_
      obtain rfl : cs81 = [(Value.int .u64 y78)] := he84
      obtain ⟨l85, g86, e⟩ := bind_e e
      have q87 := sls_e g86
      refine ⟨q87.1, q87.2.1, cap_in q87.2.2.1 k9, ?_⟩
      try rw [q87.2.2.2.1]
      have k88 : List.length l85 ≤ (c9 - Int.toNat (1 : Int)) := sls_cap g86 k9
      have r89 := r9.sls g86 (le_mx q87.2.2.1 k9)
      refine ⟨_, ld0 S.s hc83 rfl, _, rfl, ?_⟩
      obtain ⟨h90, w91, o92, t93⟩ := o6.st (k := 2) S.s (v := (Value.int .i64 (IntKind.wrap .i64 y78))) (Nat.le_of_ble_eq_true rfl) trivial
      refine ⟨h90, w91, ?_⟩
      have o92 : OB _ _ h90 _ bk6 [(Value.int .i64 x6_0), (Value.int .i64 x6_1), (Value.int .i64 (IntKind.wrap .i64 y78)), (Value.string s6_3), (Value.slice A6_4 (List.length a6_4) c6_4)] 88 := o92
      have S94 := S.then t93 (fun i _ hi => o6.wr i hi)
      have o95 := o4.step t93 (d0_1).symm
      have o96 := o6_4.step (tell_int .u64) t93 d1_2
      exact roadref3_ObjectAt.j2.walk S94 rfl k0 r0 o95 (show T_heap_Object.E _ y4 [(Value.int .i64 y4.At), (Value.int .i64 y4.Kind), (Value.int .i64 y4.Num), (Value.string y4.Text), (Value.slice Ae4_4 (List.length y4.Parts) ce4_4)] from ⟨_, _, rfl, ke4_4, re4_4⟩) o92 rfl o96 rfl k88 r89 d0_1 d0_2 d1_2 e
  · exact roadref3_ObjectAt.j2.walk S rfl k0 r0 o4 (show T_heap_Object.E _ y4 [(Value.int .i64 y4.At), (Value.int .i64 y4.Kind), (Value.int .i64 y4.Num), (Value.string y4.Text), (Value.slice Ae4_4 (List.length y4.Parts) ce4_4)] from ⟨_, _, rfl, ke4_4, re4_4⟩) o6 rfl o6_4 rfl k9 r9 d0_1 d0_2 d1_2 e

noncomputable def roadref3_ObjectAt.j0 (a0 : List Int) (x1 : Int) (y4 : T_heap_Object) : Option (T_heap_Object × Bool) :=
  Option.bind (gi a0 x1) fun y27 => Option.bind (gi a0 x1) fun y47 => Option.bind (gi a0 x1) fun y54 => Option.bind (sls a0 (IntKind.wrap .i64 (x1 + (1 : Int))) (((List.length a0) : Nat) : Int)) fun l61 => if (IntKind.wrap .i64 (Int.tmod y27 (256 : Int))) = (1 : Int) then ((roadref3_ObjectAt.j3 a0 x1 y4 x1 (IntKind.wrap .i64 (Int.tmod y27 (256 : Int))) (0 : Int) (ByteArray.mk #[]) ([] : List Int) (IntKind.wrap .i64 (Int.tmod (IntKind.wrap .u64 (Int.tdiv y47 (256 : Int))) (4096 : Int))) (IntKind.wrap .i64 (IntKind.wrap .u64 (Int.tdiv y54 (1048576 : Int)))) l61 true)) else ((roadref3_ObjectAt.j3 a0 x1 y4 x1 (IntKind.wrap .i64 (Int.tmod y27 (256 : Int))) (0 : Int) (ByteArray.mk #[]) ([] : List Int) (IntKind.wrap .i64 (Int.tmod (IntKind.wrap .u64 (Int.tdiv y47 (256 : Int))) (4096 : Int))) (IntKind.wrap .i64 (IntKind.wrap .u64 (Int.tdiv y54 (1048576 : Int)))) l61 ((IntKind.wrap .i64 (Int.tmod y27 (256 : Int))) == (4 : Int))))
set_option maxRecDepth 100000 in
theorem roadref3_ObjectAt.j0.walk {h0 m0 h m : Heap} {A0 : Option Addr} {n0 c0 : Nat} {bk4 : Nat} {cs4 : List Value} {a0 : List Int} {x1 : Int} {y4 : T_heap_Object} (S : St No h0 m0 h m) (ne0 : n0 = List.length a0) (k0 : List.length a0 ≤ c0) (r0 : Rd 1 (eInt .u64) m A0 a0) (o4 : OB No h0 h m bk4 cs4 88) (e4 : T_heap_Object.E m y4 cs4) {r : T_heap_Object × Bool} (e : roadref3_ObjectAt.j0 a0 x1 y4 = some r) : f47.j0 (roadref3_ObjectAt.post No h0 m0 r) A0 n0 c0 x1 (⟨bk4, 0, none⟩ : Addr) h := by
  unfold roadref3_ObjectAt.j0 at e
  subst ne0
  obtain ⟨Ae4_4, ce4_4, rfl, ke4_4, re4_4⟩ := e4
  refine f47.j0_in ?_
  unfold f47.j0T
  obtain ⟨y27, g28, e⟩ := bind_e e
  refine r0.addr rfl g28 fun a29 cs30 ha31 hc32 he33 => ?_
  obtain rfl : cs30 = [(Value.int .u64 y27)] := he33
  refine ⟨_, ld0 S.s hc32 rfl, _, rfl, ?_⟩
  refine ⟨by decide, ?_⟩
  refine new_in S fun h34 o35 x36 => ?_
  have d39 : Dj (fb bk4) (fb (Array.size h)) := Dj.new o4.lt
  have o40 := o4.ext x36
  have S37 := S.ext' x36
  have o35 : OB _ _ h34 _ (Array.size h) [(Value.int .i64 (0 : Int)), (Value.int .i64 (0 : Int)), (Value.int .i64 (0 : Int)), (Value.string (ByteArray.mk #[])), (Value.slice none 0 0)] 88 := o35
  obtain ⟨h41, w42, o43, t44⟩ := o35.stA S37.s [(Value.int .i64 x1), (Value.int .i64 (IntKind.wrap .i64 (Int.tmod y27 (256 : Int)))), (Value.int .i64 (0 : Int)), (Value.string (ByteArray.mk #[])), (Value.slice none 0 0)] rfl (Flats.cons trivial (Flats.cons trivial (Flats.cons trivial (Flats.cons trivial (Flats.cons trivial Flats.nil)))))
  refine ⟨[(Value.int .i64 x1), (Value.int .i64 (IntKind.wrap .i64 (Int.tmod y27 (256 : Int)))), (Value.int .i64 (0 : Int)), (Value.string (ByteArray.mk #[])), (Value.slice none 0 0)], rfl, rfl, h41, w42, ?_⟩
  have o43 : OB _ _ h41 _ (Array.size h) [(Value.int .i64 x1), (Value.int .i64 (IntKind.wrap .i64 (Int.tmod y27 (256 : Int)))), (Value.int .i64 (0 : Int)), (Value.string (ByteArray.mk #[])), (Value.slice none 0 0)] 88 := o43
  have S45 := S37.then t44 (fun i _ hi => o35.wr i hi)
  have o46 := o40.step t44 (d39).symm
  obtain ⟨y47, g48, e⟩ := bind_e e
  refine r0.addr rfl g48 fun a49 cs50 ha51 hc52 he53 => ?_
  obtain rfl : cs50 = [(Value.int .u64 y47)] := he53
  obtain ⟨y54, g55, e⟩ := bind_e e
  refine r0.addr rfl g55 fun a56 cs57 ha58 hc59 he60 => ?_
  obtain rfl : cs57 = [(Value.int .u64 y54)] := he60
  refine ⟨_, ld0 S45.s hc52 rfl, _, rfl, ?_⟩
  refine ⟨by decide, ?_⟩
  refine ⟨by decide, ?_⟩
  refine ⟨_, ld0 S45.s hc59 rfl, _, rfl, ?_⟩
  refine ⟨by decide, ?_⟩
  obtain ⟨l61, g62, e⟩ := bind_e e
  have q63 := sls_e g62
  refine ⟨q63.1, q63.2.1, cap_in q63.2.2.1 k0, ?_⟩
  try rw [q63.2.2.2.1]
  have k64 : List.length l61 ≤ (c0 - Int.toNat (IntKind.wrap .i64 (x1 + (1 : Int)))) := sls_cap g62 k0
  have r65 := r0.sls g62 (le_mx q63.2.2.1 k0)
  refine ⟨_, ldk (k := 1) (Sub.refl _) o43.all rfl, _, rfl, ?_⟩
  refine split_eq_e e (fun c70 e => ?_) (fun c70 e => ?_)
  · have o67 : OS No h0 1 (eInt .u64) h41 m none ([] : List Int) 0 := .inl ⟨rfl, rfl⟩
    exact roadref3_ObjectAt.j3.walk S45 rfl k0 r0 o46 (show T_heap_Object.E _ y4 [(Value.int .i64 y4.At), (Value.int .i64 y4.Kind), (Value.int .i64 y4.Num), (Value.string y4.Text), (Value.slice Ae4_4 (List.length y4.Parts) ce4_4)] from ⟨_, _, rfl, ke4_4, re4_4⟩) o43 rfl o67 rfl k64 r65 d39 (show Dj (fb bk4) (fp none 0) from Dj.nil) (show Dj (fb (Array.size h)) (fp none 0) from Dj.nil) e
  · refine ⟨_, ldk (k := 1) (Sub.refl _) o43.all rfl, _, rfl, ?_⟩
    have o69 : OS No h0 1 (eInt .u64) h41 m none ([] : List Int) 0 := .inl ⟨rfl, rfl⟩
    exact roadref3_ObjectAt.j3.walk S45 rfl k0 r0 o46 (show T_heap_Object.E _ y4 [(Value.int .i64 y4.At), (Value.int .i64 y4.Kind), (Value.int .i64 y4.Num), (Value.string y4.Text), (Value.slice Ae4_4 (List.length y4.Parts) ce4_4)] from ⟨_, _, rfl, ke4_4, re4_4⟩) o43 rfl o69 rfl k64 r65 d39 (show Dj (fb bk4) (fp none 0) from Dj.nil) (show Dj (fb (Array.size h)) (fp none 0) from Dj.nil) e

noncomputable def roadref3_ObjectAt.j1 (a0 : List Int) (x1 : Int) (y4 : T_heap_Object) (b28 : Bool) : Option (T_heap_Object × Bool) :=
  if b28 = true then (some ((T_heap_Object.mk (0 : Int) (0 : Int) (0 : Int) (ByteArray.mk #[]) ([] : List Int)), false)) else ((roadref3_ObjectAt.j0 a0 x1 y4))
set_option maxRecDepth 100000 in
theorem roadref3_ObjectAt.j1.walk {h0 m0 h m : Heap} {A0 : Option Addr} {n0 c0 : Nat} {bk4 : Nat} {cs4 : List Value} {a0 : List Int} {x1 : Int} {y4 : T_heap_Object} {b28 : Bool} (S : St No h0 m0 h m) (ne0 : n0 = List.length a0) (k0 : List.length a0 ≤ c0) (r0 : Rd 1 (eInt .u64) m A0 a0) (o4 : OB No h0 h m bk4 cs4 88) (e4 : T_heap_Object.E m y4 cs4) {r : T_heap_Object × Bool} (e : roadref3_ObjectAt.j1 a0 x1 y4 b28 = some r) : f47.j1 (roadref3_ObjectAt.post No h0 m0 r) A0 n0 c0 x1 (⟨bk4, 0, none⟩ : Addr) b28 h := by
  unfold roadref3_ObjectAt.j1 at e
  subst ne0
  obtain ⟨Ae4_4, ce4_4, rfl, ke4_4, re4_4⟩ := e4
  refine f47.j1_in ?_
  unfold f47.j1T
  refine split_any_e e (fun c26 e => ?_) (fun c26 e => ?_)
  · obtain ⟨h21, w22, o23, t24⟩ := o4.stA S.s [(Value.int .i64 (0 : Int)), (Value.int .i64 (0 : Int)), (Value.int .i64 (0 : Int)), (Value.string (ByteArray.mk #[])), (Value.slice none 0 0)] rfl (Flats.cons trivial (Flats.cons trivial (Flats.cons trivial (Flats.cons trivial (Flats.cons trivial Flats.nil)))))
    refine ⟨[(Value.int .i64 (0 : Int)), (Value.int .i64 (0 : Int)), (Value.int .i64 (0 : Int)), (Value.string (ByteArray.mk #[])), (Value.slice none 0 0)], rfl, rfl, h21, w22, ?_⟩
    have o23 : OB _ _ h21 _ bk4 [(Value.int .i64 (0 : Int)), (Value.int .i64 (0 : Int)), (Value.int .i64 (0 : Int)), (Value.string (ByteArray.mk #[])), (Value.slice none 0 0)] 88 := o23
    have S25 := S.then t24 (fun i _ hi => o4.wr i hi)
    refine ⟨_, ldA (Sub.refl _) o23.all, ?_⟩
    cases e
    exact ⟨_, _, S25, rfl, (show T_heap_Object.E _ (T_heap_Object.mk (0 : Int) (0 : Int) (0 : Int) (ByteArray.mk #[]) ([] : List Int)) [(Value.int .i64 (0 : Int)), (Value.int .i64 (0 : Int)), (Value.int .i64 (0 : Int)), (Value.string (ByteArray.mk #[])), (Value.slice none 0 0)] from ⟨_, _, rfl, (Nat.le_refl 0), Rd.nil⟩)⟩
  · exact roadref3_ObjectAt.j0.walk S rfl k0 r0 o4 (show T_heap_Object.E _ y4 [(Value.int .i64 y4.At), (Value.int .i64 y4.Kind), (Value.int .i64 y4.Num), (Value.string y4.Text), (Value.slice Ae4_4 (List.length y4.Parts) ce4_4)] from ⟨_, _, rfl, ke4_4, re4_4⟩) e

noncomputable def roadref3_ObjectAt (a0 : List Int) (x1 : Int) : Option (T_heap_Object × Bool) :=
  Option.bind (roadref3_In x1 (0 : Int) (IntKind.wrap .i64 ((((List.length a0) : Nat) : Int) - (1 : Int)))) fun y6 => if y6 = true then (Option.bind (gi a0 x1) fun y13 => (roadref3_ObjectAt.j1 a0 x1 (T_heap_Object.mk (0 : Int) (0 : Int) (0 : Int) (ByteArray.mk #[]) ([] : List Int)) (decide ((IntKind.wrap .u64 (Int.tdiv y13 (4294967296 : Int))) > (0 : Int))))) else ((roadref3_ObjectAt.j1 a0 x1 (T_heap_Object.mk (0 : Int) (0 : Int) (0 : Int) (ByteArray.mk #[]) ([] : List Int)) true))
set_option maxRecDepth 100000 in
theorem roadref3_ObjectAt.walk {h m : Heap} {A0 : Option Addr} {n0 c0 : Nat} {a0 : List Int} {x1 : Int} (s : Sub m h) (ne0 : n0 = List.length a0) (k0 : List.length a0 ≤ c0) (r0 : Rd 1 (eInt .u64) m A0 a0) {r : T_heap_Object × Bool} (e : roadref3_ObjectAt a0 x1 = some r) : Run Try.prog 47 #[Value.slice A0 n0 c0, Value.int .i64 x1] h (roadref3_ObjectAt.post No h m r) := by
  unfold roadref3_ObjectAt at e
  subst ne0
  have S : St No h m h m := .refl s
  refine f47.run ?_
  unfold f47.runT
  refine new_in S fun h1 o2 x3 => ?_
  have S4 := S.ext' x3
  have o2 : OB _ _ h1 _ (Array.size h) [(Value.int .i64 (0 : Int)), (Value.int .i64 (0 : Int)), (Value.int .i64 (0 : Int)), (Value.string (ByteArray.mk #[])), (Value.slice none 0 0)] 88 := o2
  obtain ⟨y6, g7, e⟩ := bind_e e
  refine (roadref3_In.walk S4.s  g7).mono ?_
  rintro _ h8 ⟨m9, T10, rfl⟩
  have S11 := S4.grow T10
  have o12 := o2.step T10 Dj.no
  refine ⟨_, rfl, ?_⟩
  refine split_not ?_
  refine split_any_e e (fun c20 e => ?_) (fun c20 e => ?_)
  · obtain ⟨y13, g14, e⟩ := bind_e e
    refine (r0.sub (tell_int .u64) T10.up).addr rfl g14 fun a15 cs16 ha17 hc18 he19 => ?_
    obtain rfl : cs16 = [(Value.int .u64 y13)] := he19
    refine ⟨_, ld0 S11.s hc18 rfl, _, rfl, ?_⟩
    refine ⟨by decide, ?_⟩
    exact roadref3_ObjectAt.j1.walk S11 rfl k0 (r0.sub (tell_int .u64) T10.up) o12 (show T_heap_Object.E _ (T_heap_Object.mk (0 : Int) (0 : Int) (0 : Int) (ByteArray.mk #[]) ([] : List Int)) [(Value.int .i64 (0 : Int)), (Value.int .i64 (0 : Int)), (Value.int .i64 (0 : Int)), (Value.string (ByteArray.mk #[])), (Value.slice none 0 0)] from ⟨_, _, rfl, (Nat.le_refl 0), Rd.nil⟩) e
  · exact roadref3_ObjectAt.j1.walk S11 rfl k0 (r0.sub (tell_int .u64) T10.up) o12 (show T_heap_Object.E _ (T_heap_Object.mk (0 : Int) (0 : Int) (0 : Int) (ByteArray.mk #[]) ([] : List Int)) [(Value.int .i64 (0 : Int)), (Value.int .i64 (0 : Int)), (Value.int .i64 (0 : Int)), (Value.string (ByteArray.mk #[])), (Value.slice none 0 0)] from ⟨_, _, rfl, (Nat.le_refl 0), Rd.nil⟩) e

/-! ### 45 roadstead/roadref3.HeapObjects -/
def roadref3_HeapObjects.post (W : Nat → Prop) (h0 m0 : Heap) (r : (List T_heap_Object) × Int) (v : Value) (h : Heap) : Prop := ∃ m A0 n0 c0, St W h0 m0 h m ∧ v = .tuple #[.slice A0 n0 c0, .int .i64 r.2] ∧ n0 = r.1.length ∧ OS W h0 5 T_heap_Object.E h m A0 r.1 c0
inductive roadref3_HeapObjects.l0_k.Pt where
  | l0 (a0 : List Int) (a4 : List T_heap_Object) (x5 : Int)
noncomputable def roadref3_HeapObjects.l0_k.body (go : (p : roadref3_HeapObjects.l0_k.Pt) → Option ((List T_heap_Object) × Int)) : (p : roadref3_HeapObjects.l0_k.Pt) → Option ((List T_heap_Object) × Int)
  | .l0 a0 a4 x5 => if x5 < (((List.length a0) : Nat) : Int) then (Option.bind (roadref3_ObjectAt a0 x5) fun y6 => if y6.2 = true then (Option.bind (ap 64 a4 ([y6.1] : List T_heap_Object)) fun l38 => Option.bind (roadref3_ObjectWords y6.1) fun y52 => (go (.l0 a0 l38 (IntKind.wrap .i64 (x5 + (((List.length y52) : Nat) : Int)))))) else (some (([] : List T_heap_Object), (3 : Int)))) else (some (a4, (0 : Int)))
theorem roadref3_HeapObjects.l0_k.mono : MonoF (β := fun _ => ((List T_heap_Object) × Int)) roadref3_HeapObjects.l0_k.body := fun f g hfg p => match p with
  | .l0 a0 a4 x5 => LeO.ite (LeO.bind (LeO.refl _) fun y6 => LeO.ite (LeO.bind (LeO.refl _) fun l38 => LeO.bind (LeO.refl _) fun y52 => (hfg _)) (LeO.refl _)) (LeO.refl _)
noncomputable def roadref3_HeapObjects.l0_k.go (p : roadref3_HeapObjects.l0_k.Pt) : Option ((List T_heap_Object) × Int) := fixF (β := fun _ => ((List T_heap_Object) × Int)) roadref3_HeapObjects.l0_k.body p
noncomputable def roadref3_HeapObjects.l0 (a0 : List Int) (a4 : List T_heap_Object) (x5 : Int) : Option ((List T_heap_Object) × Int) := roadref3_HeapObjects.l0_k.go (.l0 a0 a4 x5)
theorem roadref3_HeapObjects.l0_eq (a0 : List Int) (a4 : List T_heap_Object) (x5 : Int) : roadref3_HeapObjects.l0 a0 a4 x5 = if x5 < (((List.length a0) : Nat) : Int) then (Option.bind (roadref3_ObjectAt a0 x5) fun y6 => if y6.2 = true then (Option.bind (ap 64 a4 ([y6.1] : List T_heap_Object)) fun l38 => Option.bind (roadref3_ObjectWords y6.1) fun y52 => (roadref3_HeapObjects.l0 a0 l38 (IntKind.wrap .i64 (x5 + (((List.length y52) : Nat) : Int))))) else (some (([] : List T_heap_Object), (3 : Int)))) else (some (a4, (0 : Int))) := fixF_eq roadref3_HeapObjects.l0_k.mono _
def roadref3_HeapObjects.l0_k.I : (p : roadref3_HeapObjects.l0_k.Pt) → ((List T_heap_Object) × Int) → Prop
  | .l0 a0 a4 x5, r => ∀ (h0 m0 h m : Heap) (A0 : Option Addr) (n0 c0 : Nat) (A4 : Option Addr) (n4 c4 : Nat) (S : St No h0 m0 h m) (ne0 : n0 = List.length a0) (k0 : List.length a0 ≤ c0) (r0 : Rd 1 (eInt .u64) m A0 a0) (ne4 : n4 = List.length a4) (o4 : OS No h0 5 T_heap_Object.E h m A4 a4 c4), f45.l0 (roadref3_HeapObjects.post No h0 m0 r) A0 n0 c0 A4 n4 c4 x5 h
set_option maxRecDepth 100000 in
theorem roadref3_HeapObjects.l0_k.step_l0 (go : (p : roadref3_HeapObjects.l0_k.Pt) → Option ((List T_heap_Object) × Int)) (ih : ∀ p r, go p = some r → roadref3_HeapObjects.l0_k.I p r) (a0 : List Int) (a4 : List T_heap_Object) (x5 : Int) (r : (List T_heap_Object) × Int) (e : roadref3_HeapObjects.l0_k.body go (.l0 a0 a4 x5) = some r) : roadref3_HeapObjects.l0_k.I (.l0 a0 a4 x5) r := by
  unfold roadref3_HeapObjects.l0_k.body at e
  intro h0 m0 h m A0 n0 c0 A4 n4 c4 S ne0 k0 r0 ne4 o4
  subst ne0
  subst ne4
  refine f45.l0_in ?_
  unfold f45.l0T
  refine split_dec_e e (fun c73 e => ?_) (fun c73 e => ?_)
  · obtain ⟨y6, g7, e⟩ := bind_e e
    refine (roadref3_ObjectAt.walk S.s rfl k0 r0 g7).mono ?_
    rintro _ h8 ⟨m9, cs11, T10, rfl, he12⟩
    obtain ⟨Ahe12_4, che12_4, rfl, khe12_4, rhe12_4⟩ := he12
    have S13 := S.grow T10
    have o14 := o4.step T_heap_Object.T T10 Dj.no
    refine ⟨_, _, rfl, ?_⟩
    refine new_in S13 fun h15 o16 x17 => ?_
    have d20 : Dj (fp A4 c4) (fb (Array.size h8)) := Dj.new o14.lt
    have o21 := o14.ext T_heap_Object.T S13.s x17
    have S18 := S13.ext' x17
    have o16 : OB _ _ h15 _ (Array.size h8) [(Value.int .i64 (0 : Int)), (Value.int .i64 (0 : Int)), (Value.int .i64 (0 : Int)), (Value.string (ByteArray.mk #[])), (Value.slice none 0 0)] 88 := o16
    obtain ⟨h22, w23, o24, t25⟩ := o16.stA S18.s [(Value.int .i64 y6.1.At), (Value.int .i64 y6.1.Kind), (Value.int .i64 y6.1.Num), (Value.string y6.1.Text), (Value.slice Ahe12_4 (List.length y6.1.Parts) che12_4)] rfl (Flats.cons trivial (Flats.cons trivial (Flats.cons trivial (Flats.cons trivial (Flats.cons trivial Flats.nil)))))
    refine ⟨[(Value.int .i64 y6.1.At), (Value.int .i64 y6.1.Kind), (Value.int .i64 y6.1.Num), (Value.string y6.1.Text), (Value.slice Ahe12_4 (List.length y6.1.Parts) che12_4)], rfl, rfl, h22, w23, ?_⟩
    have o24 : OB _ _ h22 _ (Array.size h8) [(Value.int .i64 y6.1.At), (Value.int .i64 y6.1.Kind), (Value.int .i64 y6.1.Num), (Value.string y6.1.Text), (Value.slice Ahe12_4 (List.length y6.1.Parts) che12_4)] 88 := o24
    have S26 := S18.then t25 (fun i _ hi => o16.wr i hi)
    have o27 := o21.step T_heap_Object.T t25 (d20).symm
    refine split_not ?_
    refine split_any_e e (fun c72 e => ?_) (fun c72 e => ?_)
    · refine ⟨_, ldA (Sub.refl _) o24.all, ?_⟩
      refine ⟨[(Value.int .i64 y6.1.At), (Value.int .i64 y6.1.Kind), (Value.int .i64 y6.1.Num), (Value.string y6.1.Text), (Value.slice Ahe12_4 (List.length y6.1.Parts) che12_4)], rfl, rfl, ?_⟩
      refine new_in S26 fun h28 o29 x30 => ?_
      have d33 : Dj (fp A4 c4) (fb (Array.size h22)) := Dj.new o27.lt
      have d34 : Dj (fb (Array.size h8)) (fb (Array.size h22)) := Dj.new o24.lt
      have o35 := o27.ext T_heap_Object.T S26.s x30
      have o36 := o24.ext x30
      have S31 := S26.ext' x30
      have o29 : OB _ _ h28 _ (Array.size h22) [(Value.int .i64 y6.1.At), (Value.int .i64 y6.1.Kind), (Value.int .i64 y6.1.Num), (Value.string y6.1.Text), (Value.slice Ahe12_4 (List.length y6.1.Parts) che12_4)] 88 := o29
      have o37 : OS _ _ 5 T_heap_Object.E h28 m9 (some ⟨(Array.size h22), 0, none⟩) ([y6.1] : List T_heap_Object) 1 := OB.row o29 (CsE.cons (c1 := [(Value.int .i64 y6.1.At), (Value.int .i64 y6.1.Kind), (Value.int .i64 y6.1.Num), (Value.string y6.1.Text), (Value.slice Ahe12_4 (List.length y6.1.Parts) che12_4)]) (show T_heap_Object.E _ y6.1 [(Value.int .i64 y6.1.At), (Value.int .i64 y6.1.Kind), (Value.int .i64 y6.1.Num), (Value.string y6.1.Text), (Value.slice Ahe12_4 (List.length y6.1.Parts) che12_4)] from ⟨_, _, rfl, khe12_4, rhe12_4⟩) rfl CsE.nil) rfl
      obtain ⟨l38, g39, e⟩ := bind_e e
      refine o35.app T_heap_Object.T S31 rfl rfl (o37.srcE rfl) (by decide) g39 fun A40 c41 h42 o43 t44 n45 => ?_
      refine ⟨_, _, _, rfl, ?_⟩
      have d47 : Dj (fb (Array.size h8)) (fp A40 c41) := Dj.app (d20).symm o36.lt n45
      have d48 : Dj (fp (some ⟨(Array.size h22), 0, none⟩) 1) (fp A40 c41) := Dj.app ((d33.row)).symm o37.lt n45
      have S49 := S31.then t44 (fun i _ hi => o35.wr i hi)
      have o50 := o36.step t44 d20
      have o51 := o37.step T_heap_Object.T t44 (d33.row)
      refine ⟨_, ldA (Sub.refl _) o50.all, ?_⟩
      obtain ⟨y52, g53, e⟩ := bind_e e
      refine (roadref3_ObjectWords.walk S49.s (show T_heap_Object.E _ y6.1 [(Value.int .i64 y6.1.At), (Value.int .i64 y6.1.Kind), (Value.int .i64 y6.1.Num), (Value.string y6.1.Text), (Value.slice Ahe12_4 (List.length y6.1.Parts) che12_4)] from ⟨_, _, rfl, khe12_4, rhe12_4⟩) g53).mono ?_
      rintro _ h54 ⟨m55, A57, n58, c59, T56, rfl, ne60, o61⟩
      subst ne60
      have nw67 := o61.newNo
      have d68 : Dj (fb (Array.size h8)) (fp A57 c59) := fun i h1 h2 => absurd (o50.lt i h1) (Nat.not_lt.2 (nw67 i h2))
      have d69 : Dj (fp A40 c41) (fp A57 c59) := fun i h1 h2 => absurd (o43.lt i h1) (Nat.not_lt.2 (nw67 i h2))
      have o66 := o61.take S49 (fun _ h => h.elim)
      have S63 := S49.grow T56
      have o64 := o50.step T56 Dj.no
      have o65 := o43.step T_heap_Object.T T56 Dj.no
      refine ⟨_, _, _, rfl, ?_⟩
      exact (ih _ _ e) _ _ _ _ _ _ _ _ _ _ S63 rfl k0 (r0.sub (tell_int .u64) (T10.up.trans T56.up)) rfl o65
    · have o71 : OS No h0 5 T_heap_Object.E h22 m9 none ([] : List T_heap_Object) 0 := .inl ⟨rfl, rfl⟩
      cases e
      exact ⟨_, _, _, _, S26, rfl, rfl, o71⟩
  · cases e
    exact ⟨_, _, _, _, S, rfl, rfl, o4⟩
theorem roadref3_HeapObjects.l0_k.all {p : roadref3_HeapObjects.l0_k.Pt} {r : ((List T_heap_Object) × Int)} (e : roadref3_HeapObjects.l0_k.go p = some r) : roadref3_HeapObjects.l0_k.I p r := fixF_ind (β := fun _ => ((List T_heap_Object) × Int)) roadref3_HeapObjects.l0_k.mono (I := roadref3_HeapObjects.l0_k.I) (fun go ih p r e => match p with
  | .l0 a0 a4 x5 => roadref3_HeapObjects.l0_k.step_l0 go ih a0 a4 x5 r e
  ) e
theorem roadref3_HeapObjects.l0.walk {h0 m0 h m : Heap} {A0 : Option Addr} {n0 c0 : Nat} {A4 : Option Addr} {n4 c4 : Nat} {a0 : List Int} {a4 : List T_heap_Object} {x5 : Int} (S : St No h0 m0 h m) (ne0 : n0 = List.length a0) (k0 : List.length a0 ≤ c0) (r0 : Rd 1 (eInt .u64) m A0 a0) (ne4 : n4 = List.length a4) (o4 : OS No h0 5 T_heap_Object.E h m A4 a4 c4) {r : (List T_heap_Object) × Int} (e : roadref3_HeapObjects.l0 a0 a4 x5 = some r) : f45.l0 (roadref3_HeapObjects.post No h0 m0 r) A0 n0 c0 A4 n4 c4 x5 h := roadref3_HeapObjects.l0_k.all (p := .l0 a0 a4 x5) e h0 m0 h m A0 n0 c0 A4 n4 c4 S ne0 k0 r0 ne4 o4

noncomputable def roadref3_HeapObjects (a0 : List Int) : Option ((List T_heap_Object) × Int) :=
  if (((List.length a0) : Nat) : Int) > (4000 : Int) then (some (([] : List T_heap_Object), (2 : Int))) else ((roadref3_HeapObjects.l0 a0 ([] : List T_heap_Object) (0 : Int)))
set_option maxRecDepth 100000 in
theorem roadref3_HeapObjects.walk {h m : Heap} {A0 : Option Addr} {n0 c0 : Nat} {a0 : List Int} (s : Sub m h) (ne0 : n0 = List.length a0) (k0 : List.length a0 ≤ c0) (r0 : Rd 1 (eInt .u64) m A0 a0) {r : (List T_heap_Object) × Int} (e : roadref3_HeapObjects a0 = some r) : Run Try.prog 45 #[Value.slice A0 n0 c0] h (roadref3_HeapObjects.post No h m r) := by
  unfold roadref3_HeapObjects at e
  subst ne0
  have S : St No h m h m := .refl s
  refine f45.run ?_
  unfold f45.runT
  refine split_dec_e e (fun c5 e => ?_) (fun c5 e => ?_)
  · have o2 : OS No h 5 T_heap_Object.E h m none ([] : List T_heap_Object) 0 := .inl ⟨rfl, rfl⟩
    cases e
    exact ⟨_, _, _, _, S, rfl, rfl, o2⟩
  · have o4 : OS No h 5 T_heap_Object.E h m none ([] : List T_heap_Object) 0 := .inl ⟨rfl, rfl⟩
    exact roadref3_HeapObjects.l0.walk S rfl k0 r0 rfl o4 e

/-! ### 51 roadstead/roadref3.SameWords -/
def roadref3_SameWords.post (W : Nat → Prop) (h0 m0 : Heap) (r : Bool) (v : Value) (h : Heap) : Prop := ∃ m , St W h0 m0 h m ∧ v = .bool r
inductive roadref3_SameWords.l0_k.Pt where
  | l0 (a0 : List Int) (a1 : List Int) (x12 : Int) (x13 : Int)
noncomputable def roadref3_SameWords.l0_k.body (go : (p : roadref3_SameWords.l0_k.Pt) → Option (Bool)) : (p : roadref3_SameWords.l0_k.Pt) → Option (Bool)
  | .l0 a0 a1 x12 x13 => if x13 < x12 then (Option.bind (gi a0 x13) fun y2 => Option.bind (gi a1 x13) fun y9 => if y2 = y9 then ((go (.l0 a0 a1 x12 (IntKind.wrap .i64 (x13 + (1 : Int)))))) else (some (false))) else (some (true))
theorem roadref3_SameWords.l0_k.mono : MonoF (β := fun _ => (Bool)) roadref3_SameWords.l0_k.body := fun f g hfg p => match p with
  | .l0 a0 a1 x12 x13 => LeO.ite (LeO.bind (LeO.refl _) fun y2 => LeO.bind (LeO.refl _) fun y9 => LeO.ite ((hfg _)) (LeO.refl _)) (LeO.refl _)
noncomputable def roadref3_SameWords.l0_k.go (p : roadref3_SameWords.l0_k.Pt) : Option (Bool) := fixF (β := fun _ => (Bool)) roadref3_SameWords.l0_k.body p
noncomputable def roadref3_SameWords.l0 (a0 : List Int) (a1 : List Int) (x12 : Int) (x13 : Int) : Option (Bool) := roadref3_SameWords.l0_k.go (.l0 a0 a1 x12 x13)
theorem roadref3_SameWords.l0_eq (a0 : List Int) (a1 : List Int) (x12 : Int) (x13 : Int) : roadref3_SameWords.l0 a0 a1 x12 x13 = if x13 < x12 then (Option.bind (gi a0 x13) fun y2 => Option.bind (gi a1 x13) fun y9 => if y2 = y9 then ((roadref3_SameWords.l0 a0 a1 x12 (IntKind.wrap .i64 (x13 + (1 : Int))))) else (some (false))) else (some (true)) := fixF_eq roadref3_SameWords.l0_k.mono _
def roadref3_SameWords.l0_k.I : (p : roadref3_SameWords.l0_k.Pt) → (Bool) → Prop
  | .l0 a0 a1 x12 x13, r => ∀ (h0 m0 h m : Heap) (A0 : Option Addr) (n0 c0 : Nat) (A1 : Option Addr) (n1 c1 : Nat) (S : St No h0 m0 h m) (ne0 : n0 = List.length a0) (k0 : List.length a0 ≤ c0) (r0 : Rd 1 (eInt .u64) m A0 a0) (ne1 : n1 = List.length a1) (k1 : List.length a1 ≤ c1) (r1 : Rd 1 (eInt .u64) m A1 a1), f51.l0 (roadref3_SameWords.post No h0 m0 r) A0 n0 c0 A1 n1 c1 x12 x13 h
set_option maxRecDepth 100000 in
theorem roadref3_SameWords.l0_k.step_l0 (go : (p : roadref3_SameWords.l0_k.Pt) → Option (Bool)) (ih : ∀ p r, go p = some r → roadref3_SameWords.l0_k.I p r) (a0 : List Int) (a1 : List Int) (x12 : Int) (x13 : Int) (r : Bool) (e : roadref3_SameWords.l0_k.body go (.l0 a0 a1 x12 x13) = some r) : roadref3_SameWords.l0_k.I (.l0 a0 a1 x12 x13) r := by
  unfold roadref3_SameWords.l0_k.body at e
  intro h0 m0 h m A0 n0 c0 A1 n1 c1 S ne0 k0 r0 ne1 k1 r1
  subst ne0
  subst ne1
  refine f51.l0_in ?_
  unfold f51.l0T
  refine split_dec_e e (fun c17 e => ?_) (fun c17 e => ?_)
  · obtain ⟨y2, g3, e⟩ := bind_e e
    refine r0.addr rfl g3 fun a4 cs5 ha6 hc7 he8 => ?_
    obtain rfl : cs5 = [(Value.int .u64 y2)] := he8
    obtain ⟨y9, g10, e⟩ := bind_e e
    refine r1.addr rfl g10 fun a11 cs12 ha13 hc14 he15 => ?_
    obtain rfl : cs12 = [(Value.int .u64 y9)] := he15
    refine ⟨_, ld0 S.s hc7 rfl, _, rfl, ?_⟩
    refine ⟨_, ld0 S.s hc14 rfl, _, rfl, ?_⟩
    refine split_ne_e e (fun c16 e => ?_) (fun c16 e => ?_)
    · cases e
      exact ⟨_, S, rfl⟩
    · exact (ih _ _ e) _ _ _ _ _ _ _ _ _ _ S rfl k0 r0 rfl k1 r1
  · cases e
    exact ⟨_, S, rfl⟩
theorem roadref3_SameWords.l0_k.all {p : roadref3_SameWords.l0_k.Pt} {r : (Bool)} (e : roadref3_SameWords.l0_k.go p = some r) : roadref3_SameWords.l0_k.I p r := fixF_ind (β := fun _ => (Bool)) roadref3_SameWords.l0_k.mono (I := roadref3_SameWords.l0_k.I) (fun go ih p r e => match p with
  | .l0 a0 a1 x12 x13 => roadref3_SameWords.l0_k.step_l0 go ih a0 a1 x12 x13 r e
  ) e
theorem roadref3_SameWords.l0.walk {h0 m0 h m : Heap} {A0 : Option Addr} {n0 c0 : Nat} {A1 : Option Addr} {n1 c1 : Nat} {a0 : List Int} {a1 : List Int} {x12 : Int} {x13 : Int} (S : St No h0 m0 h m) (ne0 : n0 = List.length a0) (k0 : List.length a0 ≤ c0) (r0 : Rd 1 (eInt .u64) m A0 a0) (ne1 : n1 = List.length a1) (k1 : List.length a1 ≤ c1) (r1 : Rd 1 (eInt .u64) m A1 a1) {r : Bool} (e : roadref3_SameWords.l0 a0 a1 x12 x13 = some r) : f51.l0 (roadref3_SameWords.post No h0 m0 r) A0 n0 c0 A1 n1 c1 x12 x13 h := roadref3_SameWords.l0_k.all (p := .l0 a0 a1 x12 x13) e h0 m0 h m A0 n0 c0 A1 n1 c1 S ne0 k0 r0 ne1 k1 r1

noncomputable def roadref3_SameWords (a0 : List Int) (a1 : List Int) : Option (Bool) :=
  if (((List.length a0) : Nat) : Int) = (((List.length a1) : Nat) : Int) then ((roadref3_SameWords.l0 a0 a1 (((List.length a0) : Nat) : Int) (0 : Int))) else (some (false))
set_option maxRecDepth 100000 in
theorem roadref3_SameWords.walk {h m : Heap} {A0 : Option Addr} {n0 c0 : Nat} {A1 : Option Addr} {n1 c1 : Nat} {a0 : List Int} {a1 : List Int} (s : Sub m h) (ne0 : n0 = List.length a0) (k0 : List.length a0 ≤ c0) (r0 : Rd 1 (eInt .u64) m A0 a0) (ne1 : n1 = List.length a1) (k1 : List.length a1 ≤ c1) (r1 : Rd 1 (eInt .u64) m A1 a1) {r : Bool} (e : roadref3_SameWords a0 a1 = some r) : Run Try.prog 51 #[Value.slice A0 n0 c0, Value.slice A1 n1 c1] h (roadref3_SameWords.post No h m r) := by
  unfold roadref3_SameWords at e
  subst ne0
  subst ne1
  have S : St No h m h m := .refl s
  refine f51.run ?_
  unfold f51.runT
  refine split_ne_e e (fun c1 e => ?_) (fun c1 e => ?_)
  · cases e
    exact ⟨_, S, rfl⟩
  · exact roadref3_SameWords.l0.walk S rfl k0 r0 rfl k1 r1 e

/-! ### 46 roadstead/roadref3.SameObject -/
def roadref3_SameObject.post (W : Nat → Prop) (h0 m0 : Heap) (r : Bool) (v : Value) (h : Heap) : Prop := ∃ m , St W h0 m0 h m ∧ v = .bool r
noncomputable def roadref3_SameObject (y0 : T_heap_Object) (y1 : T_heap_Object) : Option (Bool) :=
  if y0.At = y1.At then (if y0.Kind = y1.Kind then (if y0.Num = y1.Num then (if y0.Text = y1.Text then (Option.bind (roadref3_SameWords y0.Parts y1.Parts) fun y13 => some (y13)) else (some (false))) else (some (false))) else (some (false))) else (some (false))
set_option maxRecDepth 100000 in
theorem roadref3_SameObject.walk {h m : Heap} {cs0 : List Value} {cs1 : List Value} {y0 : T_heap_Object} {y1 : T_heap_Object} (s : Sub m h) (e0 : T_heap_Object.E m y0 cs0) (e1 : T_heap_Object.E m y1 cs1) {r : Bool} (e : roadref3_SameObject y0 y1 = some r) : Run Try.prog 46 #[Value.agg cs0.toArray, Value.agg cs1.toArray] h (roadref3_SameObject.post No h m r) := by
  unfold roadref3_SameObject at e
  obtain ⟨Ae0_4, ce0_4, rfl, ke0_4, re0_4⟩ := e0
  obtain ⟨Ae1_4, ce1_4, rfl, ke1_4, re1_4⟩ := e1
  have S : St No h m h m := .refl s
  refine f46.run ?_
  unfold f46.runT
  refine new_in S fun h1 o2 x3 => ?_
  have S4 := S.ext' x3
  have o2 : OB _ _ h1 _ (Array.size h) [(Value.int .i64 y0.At), (Value.int .i64 y0.Kind), (Value.int .i64 y0.Num), (Value.string y0.Text), (Value.slice Ae0_4 (List.length y0.Parts) ce0_4)] 88 := o2
  refine new_in S4 fun h6 o7 x8 => ?_
  have d11 : Dj (fb (Array.size h)) (fb (Array.size h1)) := Dj.new o2.lt
  have o12 := o2.ext x8
  have S9 := S4.ext' x8
  have o7 : OB _ _ h6 _ (Array.size h1) [(Value.int .i64 y1.At), (Value.int .i64 y1.Kind), (Value.int .i64 y1.Num), (Value.string y1.Text), (Value.slice Ae1_4 (List.length y1.Parts) ce1_4)] 88 := o7
  refine ⟨_, ld0 (Sub.refl _) o12.all rfl, _, rfl, ?_⟩
  refine ⟨_, ld0 (Sub.refl _) o7.all rfl, _, rfl, ?_⟩
  refine split_eq_e e (fun c24 e => ?_) (fun c24 e => ?_)
  · refine ⟨_, ldk (k := 1) (Sub.refl _) o12.all rfl, _, rfl, ?_⟩
    refine ⟨_, ldk (k := 1) (Sub.refl _) o7.all rfl, _, rfl, ?_⟩
    refine split_eq_e e (fun c23 e => ?_) (fun c23 e => ?_)
    · refine ⟨_, ldk (k := 2) (Sub.refl _) o12.all rfl, _, rfl, ?_⟩
      refine ⟨_, ldk (k := 2) (Sub.refl _) o7.all rfl, _, rfl, ?_⟩
      refine split_eq_e e (fun c22 e => ?_) (fun c22 e => ?_)
      · refine ⟨_, ldk (k := 3) (Sub.refl _) o12.all rfl, _, rfl, ?_⟩
        refine ⟨_, ldk (k := 3) (Sub.refl _) o7.all rfl, _, rfl, ?_⟩
        try rw [ba_list y0.Text y1.Text]
        refine split_dec_e e (fun c21 e => ?_) (fun c21 e => ?_)
        · refine ⟨_, ldk (k := 4) (Sub.refl _) o12.all rfl, _, _, _, rfl, ?_⟩
          refine ⟨_, ldk (k := 4) (Sub.refl _) o7.all rfl, _, _, _, rfl, ?_⟩
          obtain ⟨y13, g14, e⟩ := bind_e e
          refine (roadref3_SameWords.walk S9.s rfl ke0_4 re0_4 rfl ke1_4 re1_4 g14).mono ?_
          rintro _ h15 ⟨m16, T17, rfl⟩
          have S18 := S9.grow T17
          have o19 := o12.step T17 Dj.no
          have o20 := o7.step T17 Dj.no
          refine ⟨_, rfl, ?_⟩
          cases e
          exact ⟨_, S18, rfl⟩
        · cases e
          exact ⟨_, S9, rfl⟩
      · cases e
        exact ⟨_, S9, rfl⟩
    · cases e
      exact ⟨_, S9, rfl⟩
  · cases e
    exact ⟨_, S9, rfl⟩

/-! ### 114 slices.Grow[roadstead/heap.Heap,uint64] -/
def slices_Grow_114.post (W : Nat → Prop) (h0 m0 : Heap) (r : (List Int)) (v : Value) (h : Heap) : Prop := ∃ m A0 n0 c0, St W h0 m0 h m ∧ v = .slice A0 n0 c0 ∧ n0 = r.length ∧ OS W h0 1 (eInt .u64) h m A0 r c0
noncomputable def slices_Grow_114 (x1 : Int) : Option (List Int) := if gro 8 x1 = true then some [] else none
set_option maxRecDepth 100000 in
theorem slices_Grow_114.walk {h m : Heap} {x1 : Int} (s : Sub m h) {r : List Int} (e : slices_Grow_114 x1 = some r) : Run Try.prog 114 #[Value.slice none 0 0, Value.int .i64 x1] h (slices_Grow_114.post No h m r) := by
  unfold slices_Grow_114 at e
  have S : St No h m h m := .refl s
  obtain ⟨g, e⟩ := guard_e e
  cases e
  refine f114.run ?_
  unfold f114.runT
  refine split_dec (fun c => absurd c (by have := of_decide_eq_true (show decide _ = true from g); omega)) (fun _ => ?_)
  refine f114.j0_in ?_
  unfold f114.j0T
  exact grow_nil S rfl (by decide) g (fun A' c' h' o' x' => ⟨m, _, _, _, S.ext' x', rfl, rfl, o'⟩)

/-! ### 52 slices.Concat[roadstead/heap.Heap,uint64] -/
def slices_Concat_52.post (W : Nat → Prop) (h0 m0 : Heap) (r : (List Int)) (v : Value) (h : Heap) : Prop := ∃ m A0 n0 c0, St W h0 m0 h m ∧ v = .slice A0 n0 c0 ∧ n0 = r.length ∧ OS W h0 1 (eInt .u64) h m A0 r c0
inductive slices_Concat_52.l1_k.Pt where
  | l1 (a6 : List Int) (a25 : List (List Int)) (x26 : Int) (x27 : Int)
noncomputable def slices_Concat_52.l1_k.body (go : (p : slices_Concat_52.l1_k.Pt) → Option ((List Int))) : (p : slices_Concat_52.l1_k.Pt) → Option ((List Int))
  | .l1 a6 a25 x26 x27 => if x27 < x26 then (Option.bind (gi a25 x27) fun y24 => Option.bind (ap 8 a6 y24) fun l31 => (go (.l1 l31 a25 x26 (IntKind.wrap .i64 (x27 + (1 : Int)))))) else (some (a6))
theorem slices_Concat_52.l1_k.mono : MonoF (β := fun _ => ((List Int))) slices_Concat_52.l1_k.body := fun f g hfg p => match p with
  | .l1 a6 a25 x26 x27 => LeO.ite (LeO.bind (LeO.refl _) fun y24 => LeO.bind (LeO.refl _) fun l31 => (hfg _)) (LeO.refl _)
noncomputable def slices_Concat_52.l1_k.go (p : slices_Concat_52.l1_k.Pt) : Option ((List Int)) := fixF (β := fun _ => ((List Int))) slices_Concat_52.l1_k.body p
noncomputable def slices_Concat_52.l1 (a6 : List Int) (a25 : List (List Int)) (x26 : Int) (x27 : Int) : Option ((List Int)) := slices_Concat_52.l1_k.go (.l1 a6 a25 x26 x27)
theorem slices_Concat_52.l1_eq (a6 : List Int) (a25 : List (List Int)) (x26 : Int) (x27 : Int) : slices_Concat_52.l1 a6 a25 x26 x27 = if x27 < x26 then (Option.bind (gi a25 x27) fun y24 => Option.bind (ap 8 a6 y24) fun l31 => (slices_Concat_52.l1 l31 a25 x26 (IntKind.wrap .i64 (x27 + (1 : Int))))) else (some (a6)) := fixF_eq slices_Concat_52.l1_k.mono _
def slices_Concat_52.l1_k.I : (p : slices_Concat_52.l1_k.Pt) → ((List Int)) → Prop
  | .l1 a6 a25 x26 x27, r => ∀ (h0 m0 h m : Heap) (A6 : Option Addr) (n6 c6 : Nat) (A25 : Option Addr) (n25 c25 : Nat) (S : St No h0 m0 h m) (ne6 : n6 = List.length a6) (o6 : OS No h0 1 (eInt .u64) h m A6 a6 c6) (ne25 : n25 = List.length a25) (k25 : List.length a25 ≤ c25) (r25 : Rd 1 (eRow 1 (eInt .u64)) m A25 a25), f52.l1 (slices_Concat_52.post No h0 m0 r) A6 n6 c6 A25 n25 c25 x26 x27 h
set_option maxRecDepth 100000 in
theorem slices_Concat_52.l1_k.step_l1 (go : (p : slices_Concat_52.l1_k.Pt) → Option ((List Int))) (ih : ∀ p r, go p = some r → slices_Concat_52.l1_k.I p r) (a6 : List Int) (a25 : List (List Int)) (x26 : Int) (x27 : Int) (r : (List Int)) (e : slices_Concat_52.l1_k.body go (.l1 a6 a25 x26 x27) = some r) : slices_Concat_52.l1_k.I (.l1 a6 a25 x26 x27) r := by
  unfold slices_Concat_52.l1_k.body at e
  intro h0 m0 h m A6 n6 c6 A25 n25 c25 S ne6 o6 ne25 k25 r25
  subst ne6
  subst ne25
  refine f52.l1_in ?_
  unfold f52.l1T
  refine split_dec_e e (fun c41 e => ?_) (fun c41 e => ?_)
  · obtain ⟨y24, g25, e⟩ := bind_e e
    refine r25.addr rfl g25 fun a26 cs27 ha28 hc29 he30 => ?_
    obtain ⟨Aa26_0, ca26_0, rfl, ka26_0, ra26_0⟩ := he30
    refine ⟨_, ld0 S.s hc29 rfl, _, _, _, rfl, ?_⟩
    obtain ⟨l31, g32, e⟩ := bind_e e
    refine o6.app (tell_int .u64) S rfl rfl (Rd.srcE ra26_0 (tell_int .u64) S.s rfl) (by decide) g32 fun A33 c34 h35 o36 t37 n38 => ?_
    refine ⟨_, _, _, rfl, ?_⟩
    have S40 := S.then t37 (fun i _ hi => o6.wr i hi)
    exact (ih _ _ e) _ _ _ _ _ _ _ _ _ _ S40 rfl o36 rfl k25 r25
  · cases e
    exact ⟨_, _, _, _, S, rfl, rfl, o6⟩
theorem slices_Concat_52.l1_k.all {p : slices_Concat_52.l1_k.Pt} {r : ((List Int))} (e : slices_Concat_52.l1_k.go p = some r) : slices_Concat_52.l1_k.I p r := fixF_ind (β := fun _ => ((List Int))) slices_Concat_52.l1_k.mono (I := slices_Concat_52.l1_k.I) (fun go ih p r e => match p with
  | .l1 a6 a25 x26 x27 => slices_Concat_52.l1_k.step_l1 go ih a6 a25 x26 x27 r e
  ) e
theorem slices_Concat_52.l1.walk {h0 m0 h m : Heap} {A6 : Option Addr} {n6 c6 : Nat} {A25 : Option Addr} {n25 c25 : Nat} {a6 : List Int} {a25 : List (List Int)} {x26 : Int} {x27 : Int} (S : St No h0 m0 h m) (ne6 : n6 = List.length a6) (o6 : OS No h0 1 (eInt .u64) h m A6 a6 c6) (ne25 : n25 = List.length a25) (k25 : List.length a25 ≤ c25) (r25 : Rd 1 (eRow 1 (eInt .u64)) m A25 a25) {r : (List Int)} (e : slices_Concat_52.l1 a6 a25 x26 x27 = some r) : f52.l1 (slices_Concat_52.post No h0 m0 r) A6 n6 c6 A25 n25 c25 x26 x27 h := slices_Concat_52.l1_k.all (p := .l1 a6 a25 x26 x27) e h0 m0 h m A6 n6 c6 A25 n25 c25 S ne6 o6 ne25 k25 r25

inductive slices_Concat_52.l0_k.Pt where
  | l0 (a0 : List (List Int)) (x3 : Int) (a9 : List (List Int)) (x10 : Int) (x11 : Int)
noncomputable def slices_Concat_52.l0_k.body (go : (p : slices_Concat_52.l0_k.Pt) → Option ((List Int))) : (p : slices_Concat_52.l0_k.Pt) → Option ((List Int))
  | .l0 a0 x3 a9 x10 x11 => if x11 < x10 then (Option.bind (gi a9 x11) fun y1 => if (IntKind.wrap .i64 (x3 + (((List.length y1) : Nat) : Int))) < (0 : Int) then ((none : Option _)) else ((go (.l0 a0 (IntKind.wrap .i64 (x3 + (((List.length y1) : Nat) : Int))) a9 x10 (IntKind.wrap .i64 (x11 + (1 : Int))))))) else (Option.bind (slices_Grow_114 x3) fun y9 => (slices_Concat_52.l1 y9 a0 (((List.length a0) : Nat) : Int) (0 : Int)))
theorem slices_Concat_52.l0_k.mono : MonoF (β := fun _ => ((List Int))) slices_Concat_52.l0_k.body := fun f g hfg p => match p with
  | .l0 a0 x3 a9 x10 x11 => LeO.ite (LeO.bind (LeO.refl _) fun y1 => LeO.ite (LeO.refl _) ((hfg _))) (LeO.bind (LeO.refl _) fun y9 => (LeO.refl _))
noncomputable def slices_Concat_52.l0_k.go (p : slices_Concat_52.l0_k.Pt) : Option ((List Int)) := fixF (β := fun _ => ((List Int))) slices_Concat_52.l0_k.body p
noncomputable def slices_Concat_52.l0 (a0 : List (List Int)) (x3 : Int) (a9 : List (List Int)) (x10 : Int) (x11 : Int) : Option ((List Int)) := slices_Concat_52.l0_k.go (.l0 a0 x3 a9 x10 x11)
theorem slices_Concat_52.l0_eq (a0 : List (List Int)) (x3 : Int) (a9 : List (List Int)) (x10 : Int) (x11 : Int) : slices_Concat_52.l0 a0 x3 a9 x10 x11 = if x11 < x10 then (Option.bind (gi a9 x11) fun y1 => if (IntKind.wrap .i64 (x3 + (((List.length y1) : Nat) : Int))) < (0 : Int) then ((none : Option _)) else ((slices_Concat_52.l0 a0 (IntKind.wrap .i64 (x3 + (((List.length y1) : Nat) : Int))) a9 x10 (IntKind.wrap .i64 (x11 + (1 : Int)))))) else (Option.bind (slices_Grow_114 x3) fun y9 => (slices_Concat_52.l1 y9 a0 (((List.length a0) : Nat) : Int) (0 : Int))) := fixF_eq slices_Concat_52.l0_k.mono _
def slices_Concat_52.l0_k.I : (p : slices_Concat_52.l0_k.Pt) → ((List Int)) → Prop
  | .l0 a0 x3 a9 x10 x11, r => ∀ (h0 m0 h m : Heap) (A0 : Option Addr) (n0 c0 : Nat) (A9 : Option Addr) (n9 c9 : Nat) (S : St No h0 m0 h m) (ne0 : n0 = List.length a0) (k0 : List.length a0 ≤ c0) (r0 : Rd 1 (eRow 1 (eInt .u64)) m A0 a0) (ne9 : n9 = List.length a9) (k9 : List.length a9 ≤ c9) (r9 : Rd 1 (eRow 1 (eInt .u64)) m A9 a9), f52.l0 (slices_Concat_52.post No h0 m0 r) A0 n0 c0 x3 A9 n9 c9 x10 x11 h
set_option maxRecDepth 100000 in
theorem slices_Concat_52.l0_k.step_l0 (go : (p : slices_Concat_52.l0_k.Pt) → Option ((List Int))) (ih : ∀ p r, go p = some r → slices_Concat_52.l0_k.I p r) (a0 : List (List Int)) (x3 : Int) (a9 : List (List Int)) (x10 : Int) (x11 : Int) (r : (List Int)) (e : slices_Concat_52.l0_k.body go (.l0 a0 x3 a9 x10 x11) = some r) : slices_Concat_52.l0_k.I (.l0 a0 x3 a9 x10 x11) r := by
  unfold slices_Concat_52.l0_k.body at e
  intro h0 m0 h m A0 n0 c0 A9 n9 c9 S ne0 k0 r0 ne9 k9 r9
  subst ne0
  subst ne9
  refine f52.l0_in ?_
  unfold f52.l0T
  refine split_dec_e e (fun c23 e => ?_) (fun c23 e => ?_)
  · obtain ⟨y1, g2, e⟩ := bind_e e
    refine r9.addr rfl g2 fun a3 cs4 ha5 hc6 he7 => ?_
    obtain ⟨Aa3_0, ca3_0, rfl, ka3_0, ra3_0⟩ := he7
    refine ⟨_, ld0 S.s hc6 rfl, _, _, _, rfl, ?_⟩
    refine split_dec_e e (fun c8 e => ?_) (fun c8 e => ?_)
    · cases e
    · exact (ih _ _ e) _ _ _ _ _ _ _ _ _ _ S rfl k0 r0 rfl k9 r9
  · obtain ⟨y9, g10, e⟩ := bind_e e
    refine (slices_Grow_114.walk S.s  g10).mono ?_
    rintro _ h11 ⟨m12, A14, n15, c16, T13, rfl, ne17, o18⟩
    subst ne17
    have nw22 := o18.newNo
    have o21 := o18.take S (fun _ h => h.elim)
    have S20 := S.grow T13
    refine ⟨_, _, _, rfl, ?_⟩
    exact slices_Concat_52.l1.walk S20 rfl o21 rfl k0 (r0.sub (tell_row (tell_int .u64)) T13.up) e
theorem slices_Concat_52.l0_k.all {p : slices_Concat_52.l0_k.Pt} {r : ((List Int))} (e : slices_Concat_52.l0_k.go p = some r) : slices_Concat_52.l0_k.I p r := fixF_ind (β := fun _ => ((List Int))) slices_Concat_52.l0_k.mono (I := slices_Concat_52.l0_k.I) (fun go ih p r e => match p with
  | .l0 a0 x3 a9 x10 x11 => slices_Concat_52.l0_k.step_l0 go ih a0 x3 a9 x10 x11 r e
  ) e
theorem slices_Concat_52.l0.walk {h0 m0 h m : Heap} {A0 : Option Addr} {n0 c0 : Nat} {A9 : Option Addr} {n9 c9 : Nat} {a0 : List (List Int)} {x3 : Int} {a9 : List (List Int)} {x10 : Int} {x11 : Int} (S : St No h0 m0 h m) (ne0 : n0 = List.length a0) (k0 : List.length a0 ≤ c0) (r0 : Rd 1 (eRow 1 (eInt .u64)) m A0 a0) (ne9 : n9 = List.length a9) (k9 : List.length a9 ≤ c9) (r9 : Rd 1 (eRow 1 (eInt .u64)) m A9 a9) {r : (List Int)} (e : slices_Concat_52.l0 a0 x3 a9 x10 x11 = some r) : f52.l0 (slices_Concat_52.post No h0 m0 r) A0 n0 c0 x3 A9 n9 c9 x10 x11 h := slices_Concat_52.l0_k.all (p := .l0 a0 x3 a9 x10 x11) e h0 m0 h m A0 n0 c0 A9 n9 c9 S ne0 k0 r0 ne9 k9 r9

noncomputable def slices_Concat_52 (a0 : List (List Int)) : Option ((List Int)) :=
  (slices_Concat_52.l0 a0 (0 : Int) a0 (((List.length a0) : Nat) : Int) (0 : Int))
set_option maxRecDepth 100000 in
theorem slices_Concat_52.walk {h m : Heap} {A0 : Option Addr} {n0 c0 : Nat} {a0 : List (List Int)} (s : Sub m h) (ne0 : n0 = List.length a0) (k0 : List.length a0 ≤ c0) (r0 : Rd 1 (eRow 1 (eInt .u64)) m A0 a0) {r : (List Int)} (e : slices_Concat_52 a0 = some r) : Run Try.prog 52 #[Value.slice A0 n0 c0] h (slices_Concat_52.post No h m r) := by
  unfold slices_Concat_52 at e
  subst ne0
  have S : St No h m h m := .refl s
  refine f52.run ?_
  unfold f52.runT
  exact slices_Concat_52.l0.walk S rfl k0 r0 rfl k0 r0 e
theorem slices_Concat_52.val (ls : List (List Int)) (hl : ls.length ≤ 4611686018427387904) (hs : ls.flatten.length * 8 ≤ 140737488355328) : slices_Concat_52 ls = some ls.flatten := concat_val (B := 8) (by decide) (fun r a n i => slices_Concat_52.l1_eq r a n i) (fun a s b n i => slices_Concat_52.l0_eq a s b n i) (gr := slices_Grow_114) (fun _ => rfl) (fun _ => rfl) ls hl hs

/-! ### 7 roadstead/roadlaw3.HeapPuts -/
def roadlaw3_HeapPuts.post (W : Nat → Prop) (h0 m0 : Heap) (r : Bool) (v : Value) (h : Heap) : Prop := ∃ m , St W h0 m0 h m ∧ v = .bool r
noncomputable def roadlaw3_HeapPuts.j1 (a0 : List Int) (y4 : T_heap_Object) (a7 : List Int) (x8 : Int) (x9 : Int) : Option (Bool) :=
  Option.bind (roadref3_ObjectIs y4) fun y213 => if y213 = true then (Option.bind (roadref3_ObjectWords y4) fun y221 => if (IntKind.wrap .i64 ((((List.length a0) : Nat) : Int) + (((List.length y221) : Nat) : Int))) > (4000 : Int) then (if (((List.length a7) : Nat) : Int) = (0 : Int) then (if x8 = (0 : Int) then (some ((x9 == (6 : Int)))) else (some (false))) else (some (false))) else (Option.bind (slices_Concat_52 ([a0, y221] : List (List Int))) fun y261 => Option.bind (roadref3_SameWords a7 y261) fun y287 => if y287 = true then (if x8 = (((List.length a0) : Nat) : Int) then (some ((x9 == (0 : Int)))) else (some (false))) else (some (false)))) else (if (((List.length a7) : Nat) : Int) = (0 : Int) then (if x8 = (0 : Int) then (some ((x9 == (1 : Int)))) else (some (false))) else (some (false)))
set_option maxRecDepth 100000 in
theorem roadlaw3_HeapPuts.j1.walk {h0 m0 h m : Heap} {A0 : Option Addr} {n0 c0 : Nat} {bk4 : Nat} {cs4 : List Value} {A7 : Option Addr} {n7 c7 : Nat} {a0 : List Int} {y4 : T_heap_Object} {a7 : List Int} {x8 : Int} {x9 : Int} (S : St No h0 m0 h m) (ne0 : n0 = List.length a0) (k0 : List.length a0 ≤ c0) (r0 : Rd 1 (eInt .u64) m A0 a0) (o4 : OB No h0 h m bk4 cs4 88) (e4 : T_heap_Object.E m y4 cs4) (ne7 : n7 = List.length a7) (o7 : OS No h0 1 (eInt .u64) h m A7 a7 c7) (d0_1 : Dj (fb bk4) (fp A7 c7)) {r : Bool} (e : roadlaw3_HeapPuts.j1 a0 y4 a7 x8 x9 = some r) : f7.j1 (roadlaw3_HeapPuts.post No h0 m0 r) A0 n0 c0 (⟨bk4, 0, none⟩ : Addr) A7 n7 c7 x8 x9 h := by
  unfold roadlaw3_HeapPuts.j1 at e
  subst ne0
  obtain ⟨Ae4_4, ce4_4, rfl, ke4_4, re4_4⟩ := e4
  subst ne7
  refine f7.j1_in ?_
  unfold f7.j1T
  refine ⟨_, ldA (Sub.refl _) o4.all, ?_⟩
  obtain ⟨y213, g214, e⟩ := bind_e e
  refine (roadref3_ObjectIs.walk S.s (show T_heap_Object.E _ y4 [(Value.int .i64 y4.At), (Value.int .i64 y4.Kind), (Value.int .i64 y4.Num), (Value.string y4.Text), (Value.slice Ae4_4 (List.length y4.Parts) ce4_4)] from ⟨_, _, rfl, ke4_4, re4_4⟩) g214).mono ?_
  rintro _ h215 ⟨m216, T217, rfl⟩
  have S218 := S.grow T217
  have o219 := o4.step T217 Dj.no
  have o220 := o7.step (tell_int .u64) T217 Dj.no
  refine ⟨_, rfl, ?_⟩
  refine split_not ?_
  refine split_any_e e (fun c308 e => ?_) (fun c308 e => ?_)
  · refine ⟨_, ldA (Sub.refl _) o219.all, ?_⟩
    obtain ⟨y221, g222, e⟩ := bind_e e
    refine (roadref3_ObjectWords.walk S218.s (show T_heap_Object.E _ y4 [(Value.int .i64 y4.At), (Value.int .i64 y4.Kind), (Value.int .i64 y4.Num), (Value.string y4.Text), (Value.slice Ae4_4 (List.length y4.Parts) ce4_4)] from ⟨_, _, rfl, ke4_4, (re4_4.sub (tell_int .u64) T217.up)⟩) g222).mono ?_
    rintro _ h223 ⟨m224, A226, n227, c228, T225, rfl, ne229, o230⟩
    subst ne229
    have nw236 := o230.newNo
    have d237 : Dj (fb bk4) (fp A226 c228) := fun i h1 h2 => absurd (o219.lt i h1) (Nat.not_lt.2 (nw236 i h2))
    have d238 : Dj (fp A7 c7) (fp A226 c228) := fun i h1 h2 => absurd (o220.lt i h1) (Nat.not_lt.2 (nw236 i h2))
    have o235 := o230.take S218 (fun _ h => h.elim)
    have S232 := S218.grow T225
    have o233 := o219.step T225 Dj.no
    have o234 := o220.step (tell_int .u64) T225 Dj.no
    refine ⟨_, _, _, rfl, ?_⟩
    refine split_dec_e e (fun c305 e => ?_) (fun c305 e => ?_)
    · refine split_eq_e e (fun c240 e => ?_) (fun c240 e => ?_)
      · refine split_eq_e e (fun c239 e => ?_) (fun c239 e => ?_)
        · cases e
          exact ⟨_, S232, rfl⟩
        · cases e
          exact ⟨_, S232, rfl⟩
      · cases e
        exact ⟨_, S232, rfl⟩
    · obtain ⟨m245, L244, u241, s242, t243⟩ := St.lend S232.s (fp A226 c228)
      have r246 : Rd 1 (eInt .u64) m245 A226 y221 := o235.lent (tell_int .u64) S232.s L244 (fun _ h => h)
      have k247 := o235.cap
      have S248 := S232.then t243 (fun i _ hi => o235.wr i hi)
      have o249 := o233.step t243 (d237).symm
      have o250 := o234.step (tell_int .u64) t243 (d238).symm
      refine new_in S248 fun h251 o252 x253 => ?_
      have d256 : Dj (fb bk4) (fb (Array.size h223)) := Dj.new o249.lt
      have d257 : Dj (fp A7 c7) (fb (Array.size h223)) := Dj.new o250.lt
      have o258 := o249.ext x253
      have o259 := o250.ext (tell_int .u64) S248.s x253
      have S254 := S248.ext' x253
      have o252 : OB _ _ h251 _ (Array.size h223) [(Value.slice A0 (List.length a0) c0), (Value.slice A226 (List.length y221) c228)] 86 := o252
      have o260 : OS _ _ 1 (eRow 1 (eInt .u64)) h251 m245 (some ⟨(Array.size h223), 0, none⟩) ([a0, y221] : List (List Int)) 2 := OB.row o252 (CsE.cons (c1 := [(Value.slice A0 (List.length a0) c0)]) ⟨_, _, rfl, k0, (r0.sub (tell_int .u64) (T217.up.trans (T225.up.trans t243.up)))⟩ rfl (CsE.cons (c1 := [(Value.slice A226 (List.length y221) c228)]) ⟨_, _, rfl, k247, r246⟩ rfl CsE.nil)) rfl
      obtain ⟨y261, g262, e⟩ := bind_e e
      obtain ⟨m266, L267, u268, s269, t270⟩ := St.lend S254.s (fp (some ⟨(Array.size h223), 0, none⟩) 2)
      refine (slices_Concat_52.walk s269 rfl o260.cap (o260.lent (tell_row (tell_int .u64)) S254.s L267 (fun _ h => h)) g262).mono ?_
      rintro _ h263 ⟨m264, A271, n272, c273, T265, rfl, ne274, o275⟩
      have x277 := T265.ext
      subst ne274
      have nw283 := o275.newNo
      have o275 := (o275.unlend (m := m245) (fun _ _ h => h) S254.s).take S254 (fun _ h => h.elim)
      have d284 : Dj (fb bk4) (fp A271 c273) := fun i h1 h2 => absurd (o258.lt i h1) (Nat.not_lt.2 (nw283 i h2))
      have d285 : Dj (fp A7 c7) (fp A271 c273) := fun i h1 h2 => absurd (o259.lt i h1) (Nat.not_lt.2 (nw283 i h2))
      have d286 : Dj (fp (some ⟨(Array.size h223), 0, none⟩) 2) (fp A271 c273) := fun i h1 h2 => absurd (o260.lt i h1) (Nat.not_lt.2 (nw283 i h2))
      have o279 := o258.ext x277
      have o280 := o259.ext (tell_int .u64) S254.s x277
      have o281 := o260.ext (tell_row (tell_int .u64)) S254.s x277
      have S278 := S254.ext' x277
      refine ⟨_, _, _, rfl, ?_⟩
      obtain ⟨y287, g288, e⟩ := bind_e e
      obtain ⟨m292, L293, u294, s295, t296⟩ := St.lend S278.s (fun i => (fp A7 c7) i ∨ (fp A271 c273) i)
      refine (roadref3_SameWords.walk s295 rfl o280.cap (o280.lent (tell_int .u64) S278.s L293 (fun _ h => (.inl h))) rfl o275.cap (o275.lent (tell_int .u64) S278.s L293 (fun _ h => (.inr h))) g288).mono ?_
      rintro _ h289 ⟨m290, T291, rfl⟩
      have x297 := T291.ext
      have o299 := o279.ext x297
      have o300 := o280.ext (tell_int .u64) S278.s x297
      have o301 := o281.ext (tell_row (tell_int .u64)) S278.s x297
      have o302 := o275.ext (tell_int .u64) S278.s x297
      have S298 := S278.ext' x297
      refine ⟨_, rfl, ?_⟩
      refine split_any_e e (fun c304 e => ?_) (fun c304 e => ?_)
      · refine split_eq_e e (fun c303 e => ?_) (fun c303 e => ?_)
        · cases e
          exact ⟨_, S298, rfl⟩
        · cases e
          exact ⟨_, S298, rfl⟩
      · cases e
        exact ⟨_, S298, rfl⟩
  · refine split_eq_e e (fun c307 e => ?_) (fun c307 e => ?_)
    · refine split_eq_e e (fun c306 e => ?_) (fun c306 e => ?_)
      · cases e
        exact ⟨_, S218, rfl⟩
      · cases e
        exact ⟨_, S218, rfl⟩
    · cases e
      exact ⟨_, S218, rfl⟩

inductive roadlaw3_HeapPuts.l0_k.Pt where
  | l0 (a0 : List Int) (x2 : Int) (y4 : T_heap_Object) (a7 : List Int) (x8 : Int) (x9 : Int) (y10 : T_heap_Object) (x11 : Int) (a12 : List T_heap_Object) (a14 : List T_heap_Object) (x54 : Int) (x55 : Int)
noncomputable def roadlaw3_HeapPuts.l0_k.body (go : (p : roadlaw3_HeapPuts.l0_k.Pt) → Option (Bool)) : (p : roadlaw3_HeapPuts.l0_k.Pt) → Option (Bool)
  | .l0 a0 x2 y4 a7 x8 x9 y10 x11 a12 a14 x54 x55 => if x55 < x54 then (Option.bind (gi a12 x55) fun y92 => Option.bind (gi a14 x55) fun y99 => Option.bind (roadref3_SameObject y92 y99) fun y106 => if y106 = true then ((go (.l0 a0 x2 y4 a7 x8 x9 y10 x11 a12 a14 x54 (IntKind.wrap .i64 (x55 + (1 : Int)))))) else (some (false))) else (Option.bind (roadref3_ObjectAt a0 x2) fun y118 => Option.bind (roadref3_In x2 (0 : Int) (IntKind.wrap .i64 ((((List.length a0) : Nat) : Int) - (1 : Int)))) fun y156 => if y156 = true then (if y118.2 = true then (if x11 = (0 : Int) then (Option.bind (roadref3_SameObject y10 y118.1) fun y168 => if y168 = true then ((roadlaw3_HeapPuts.j1 a0 y4 a7 x8 x9)) else (some (false))) else (some (false))) else (if x11 = (3 : Int) then (Option.bind (roadref3_SameObject y10 (T_heap_Object.mk (0 : Int) (0 : Int) (0 : Int) (ByteArray.mk #[]) ([] : (List Int)))) fun y182 => if y182 = true then ((roadlaw3_HeapPuts.j1 a0 y4 a7 x8 x9)) else (some (false))) else (some (false)))) else (if x11 = (4 : Int) then (Option.bind (roadref3_SameObject y10 (T_heap_Object.mk (0 : Int) (0 : Int) (0 : Int) (ByteArray.mk #[]) ([] : (List Int)))) fun y197 => if y197 = true then ((roadlaw3_HeapPuts.j1 a0 y4 a7 x8 x9)) else (some (false))) else (some (false))))
theorem roadlaw3_HeapPuts.l0_k.mono : MonoF (β := fun _ => (Bool)) roadlaw3_HeapPuts.l0_k.body := fun f g hfg p => match p with
  | .l0 a0 x2 y4 a7 x8 x9 y10 x11 a12 a14 x54 x55 => LeO.ite (LeO.bind (LeO.refl _) fun y92 => LeO.bind (LeO.refl _) fun y99 => LeO.bind (LeO.refl _) fun y106 => LeO.ite ((hfg _)) (LeO.refl _)) (LeO.bind (LeO.refl _) fun y118 => LeO.bind (LeO.refl _) fun y156 => LeO.ite (LeO.ite (LeO.ite (LeO.bind (LeO.refl _) fun y168 => LeO.ite ((LeO.refl _)) (LeO.refl _)) (LeO.refl _)) (LeO.ite (LeO.bind (LeO.refl _) fun y182 => LeO.ite ((LeO.refl _)) (LeO.refl _)) (LeO.refl _))) (LeO.ite (LeO.bind (LeO.refl _) fun y197 => LeO.ite ((LeO.refl _)) (LeO.refl _)) (LeO.refl _)))
noncomputable def roadlaw3_HeapPuts.l0_k.go (p : roadlaw3_HeapPuts.l0_k.Pt) : Option (Bool) := fixF (β := fun _ => (Bool)) roadlaw3_HeapPuts.l0_k.body p
noncomputable def roadlaw3_HeapPuts.l0 (a0 : List Int) (x2 : Int) (y4 : T_heap_Object) (a7 : List Int) (x8 : Int) (x9 : Int) (y10 : T_heap_Object) (x11 : Int) (a12 : List T_heap_Object) (a14 : List T_heap_Object) (x54 : Int) (x55 : Int) : Option (Bool) := roadlaw3_HeapPuts.l0_k.go (.l0 a0 x2 y4 a7 x8 x9 y10 x11 a12 a14 x54 x55)
theorem roadlaw3_HeapPuts.l0_eq (a0 : List Int) (x2 : Int) (y4 : T_heap_Object) (a7 : List Int) (x8 : Int) (x9 : Int) (y10 : T_heap_Object) (x11 : Int) (a12 : List T_heap_Object) (a14 : List T_heap_Object) (x54 : Int) (x55 : Int) : roadlaw3_HeapPuts.l0 a0 x2 y4 a7 x8 x9 y10 x11 a12 a14 x54 x55 = if x55 < x54 then (Option.bind (gi a12 x55) fun y92 => Option.bind (gi a14 x55) fun y99 => Option.bind (roadref3_SameObject y92 y99) fun y106 => if y106 = true then ((roadlaw3_HeapPuts.l0 a0 x2 y4 a7 x8 x9 y10 x11 a12 a14 x54 (IntKind.wrap .i64 (x55 + (1 : Int))))) else (some (false))) else (Option.bind (roadref3_ObjectAt a0 x2) fun y118 => Option.bind (roadref3_In x2 (0 : Int) (IntKind.wrap .i64 ((((List.length a0) : Nat) : Int) - (1 : Int)))) fun y156 => if y156 = true then (if y118.2 = true then (if x11 = (0 : Int) then (Option.bind (roadref3_SameObject y10 y118.1) fun y168 => if y168 = true then ((roadlaw3_HeapPuts.j1 a0 y4 a7 x8 x9)) else (some (false))) else (some (false))) else (if x11 = (3 : Int) then (Option.bind (roadref3_SameObject y10 (T_heap_Object.mk (0 : Int) (0 : Int) (0 : Int) (ByteArray.mk #[]) ([] : (List Int)))) fun y182 => if y182 = true then ((roadlaw3_HeapPuts.j1 a0 y4 a7 x8 x9)) else (some (false))) else (some (false)))) else (if x11 = (4 : Int) then (Option.bind (roadref3_SameObject y10 (T_heap_Object.mk (0 : Int) (0 : Int) (0 : Int) (ByteArray.mk #[]) ([] : (List Int)))) fun y197 => if y197 = true then ((roadlaw3_HeapPuts.j1 a0 y4 a7 x8 x9)) else (some (false))) else (some (false)))) := fixF_eq roadlaw3_HeapPuts.l0_k.mono _
def roadlaw3_HeapPuts.l0_k.I : (p : roadlaw3_HeapPuts.l0_k.Pt) → (Bool) → Prop
  | .l0 a0 x2 y4 a7 x8 x9 y10 x11 a12 a14 x54 x55, r => ∀ (h0 m0 h m : Heap) (A0 : Option Addr) (n0 c0 : Nat) (bk4 : Nat) (cs4 : List Value) (A7 : Option Addr) (n7 c7 : Nat) (bk10 : Nat) (cs10 : List Value) (A12 : Option Addr) (n12 c12 : Nat) (A14 : Option Addr) (n14 c14 : Nat) (S : St No h0 m0 h m) (ne0 : n0 = List.length a0) (k0 : List.length a0 ≤ c0) (r0 : Rd 1 (eInt .u64) m A0 a0) (o4 : OB No h0 h m bk4 cs4 88) (e4 : T_heap_Object.E m y4 cs4) (ne7 : n7 = List.length a7) (o7 : OS No h0 1 (eInt .u64) h m A7 a7 c7) (o10 : OB No h0 h m bk10 cs10 88) (e10 : T_heap_Object.E m y10 cs10) (ne12 : n12 = List.length a12) (o12 : OS No h0 5 T_heap_Object.E h m A12 a12 c12) (ne14 : n14 = List.length a14) (o14 : OS No h0 5 T_heap_Object.E h m A14 a14 c14) (d0_1 : Dj (fb bk4) (fp A7 c7)) (d0_2 : Dj (fb bk4) (fb bk10)) (d0_3 : Dj (fb bk4) (fp A12 c12)) (d0_4 : Dj (fb bk4) (fp A14 c14)) (d1_2 : Dj (fp A7 c7) (fb bk10)) (d1_3 : Dj (fp A7 c7) (fp A12 c12)) (d1_4 : Dj (fp A7 c7) (fp A14 c14)) (d2_3 : Dj (fb bk10) (fp A12 c12)) (d2_4 : Dj (fb bk10) (fp A14 c14)) (d3_4 : Dj (fp A12 c12) (fp A14 c14)), f7.l0 (roadlaw3_HeapPuts.post No h0 m0 r) A0 n0 c0 x2 (⟨bk4, 0, none⟩ : Addr) A7 n7 c7 x8 x9 (⟨bk10, 0, none⟩ : Addr) x11 A12 n12 c12 A14 n14 c14 x54 x55 h
set_option maxRecDepth 100000 in
theorem roadlaw3_HeapPuts.l0_k.step_l0 (go : (p : roadlaw3_HeapPuts.l0_k.Pt) → Option (Bool)) (ih : ∀ p r, go p = some r → roadlaw3_HeapPuts.l0_k.I p r) (a0 : List Int) (x2 : Int) (y4 : T_heap_Object) (a7 : List Int) (x8 : Int) (x9 : Int) (y10 : T_heap_Object) (x11 : Int) (a12 : List T_heap_Object) (a14 : List T_heap_Object) (x54 : Int) (x55 : Int) (r : Bool) (e : roadlaw3_HeapPuts.l0_k.body go (.l0 a0 x2 y4 a7 x8 x9 y10 x11 a12 a14 x54 x55) = some r) : roadlaw3_HeapPuts.l0_k.I (.l0 a0 x2 y4 a7 x8 x9 y10 x11 a12 a14 x54 x55) r := by
  unfold roadlaw3_HeapPuts.l0_k.body at e
  intro h0 m0 h m A0 n0 c0 bk4 cs4 A7 n7 c7 bk10 cs10 A12 n12 c12 A14 n14 c14 S ne0 k0 r0 o4 e4 ne7 o7 o10 e10 ne12 o12 ne14 o14 d0_1 d0_2 d0_3 d0_4 d1_2 d1_3 d1_4 d2_3 d2_4 d3_4
  subst ne0
  obtain ⟨Ae4_4, ce4_4, rfl, ke4_4, re4_4⟩ := e4
  subst ne7
  obtain ⟨Ae10_4, ce10_4, rfl, ke10_4, re10_4⟩ := e10
  subst ne12
  subst ne14
  refine f7.l0_in ?_
  unfold f7.l0T
  refine split_dec_e e (fun c212 e => ?_) (fun c212 e => ?_)
  · obtain ⟨y92, g93, e⟩ := bind_e e
    refine o12.addr rfl g93 fun a94 cs95 ha96 hc97 he98 => ?_
    obtain ⟨Aa94_4, ca94_4, rfl, ka94_4, ra94_4⟩ := he98
    obtain ⟨y99, g100, e⟩ := bind_e e
    refine o14.addr rfl g100 fun a101 cs102 ha103 hc104 he105 => ?_
    obtain ⟨Aa101_4, ca101_4, rfl, ka101_4, ra101_4⟩ := he105
    refine ⟨_, ldA (Sub.refl _) hc97, ?_⟩
    refine ⟨_, ldA (Sub.refl _) hc104, ?_⟩
    obtain ⟨y106, g107, e⟩ := bind_e e
    refine (roadref3_SameObject.walk S.s (show T_heap_Object.E _ y92 [(Value.int .i64 y92.At), (Value.int .i64 y92.Kind), (Value.int .i64 y92.Num), (Value.string y92.Text), (Value.slice Aa94_4 (List.length y92.Parts) ca94_4)] from ⟨_, _, rfl, ka94_4, ra94_4⟩) (show T_heap_Object.E _ y99 [(Value.int .i64 y99.At), (Value.int .i64 y99.Kind), (Value.int .i64 y99.Num), (Value.string y99.Text), (Value.slice Aa101_4 (List.length y99.Parts) ca101_4)] from ⟨_, _, rfl, ka101_4, ra101_4⟩) g107).mono ?_
    rintro _ h108 ⟨m109, T110, rfl⟩
    have S111 := S.grow T110
    have o112 := o4.step T110 Dj.no
    have o113 := o7.step (tell_int .u64) T110 Dj.no
    have o114 := o10.step T110 Dj.no
    have o115 := o12.step T_heap_Object.T T110 Dj.no
    have o116 := o14.step T_heap_Object.T T110 Dj.no
    refine ⟨_, rfl, ?_⟩
    refine split_not ?_
    refine split_any_e e (fun c117 e => ?_) (fun c117 e => ?_)
    · exact (ih _ _ e) _ _ _ _ _ _ _ _ _ _ _ _ _ _ _ _ _ _ _ _ S111 rfl k0 (r0.sub (tell_int .u64) T110.up) o112 (show T_heap_Object.E _ y4 [(Value.int .i64 y4.At), (Value.int .i64 y4.Kind), (Value.int .i64 y4.Num), (Value.string y4.Text), (Value.slice Ae4_4 (List.length y4.Parts) ce4_4)] from ⟨_, _, rfl, ke4_4, (re4_4.sub (tell_int .u64) T110.up)⟩) rfl o113 o114 (show T_heap_Object.E _ y10 [(Value.int .i64 y10.At), (Value.int .i64 y10.Kind), (Value.int .i64 y10.Num), (Value.string y10.Text), (Value.slice Ae10_4 (List.length y10.Parts) ce10_4)] from ⟨_, _, rfl, ke10_4, (re10_4.sub (tell_int .u64) T110.up)⟩) rfl o115 rfl o116 d0_1 d0_2 d0_3 d0_4 d1_2 d1_3 d1_4 d2_3 d2_4 d3_4
    · cases e
      exact ⟨_, S111, rfl⟩
  · obtain ⟨y118, g119, e⟩ := bind_e e
    refine (roadref3_ObjectAt.walk S.s rfl k0 r0 g119).mono ?_
    rintro _ h120 ⟨m121, cs123, T122, rfl, he124⟩
    obtain ⟨Ahe124_4, che124_4, rfl, khe124_4, rhe124_4⟩ := he124
    have S125 := S.grow T122
    have o126 := o4.step T122 Dj.no
    have o127 := o7.step (tell_int .u64) T122 Dj.no
    have o128 := o10.step T122 Dj.no
    have o129 := o12.step T_heap_Object.T T122 Dj.no
    have o130 := o14.step T_heap_Object.T T122 Dj.no
    refine ⟨_, _, rfl, ?_⟩
    refine new_in S125 fun h131 o132 x133 => ?_
    have d136 : Dj (fb bk4) (fb (Array.size h120)) := Dj.new o126.lt
    have d137 : Dj (fp A7 c7) (fb (Array.size h120)) := Dj.new o127.lt
    have d138 : Dj (fb bk10) (fb (Array.size h120)) := Dj.new o128.lt
    have d139 : Dj (fp A12 c12) (fb (Array.size h120)) := Dj.new o129.lt
    have d140 : Dj (fp A14 c14) (fb (Array.size h120)) := Dj.new o130.lt
    have o141 := o126.ext x133
    have o142 := o127.ext (tell_int .u64) S125.s x133
    have o143 := o128.ext x133
    have o144 := o129.ext T_heap_Object.T S125.s x133
    have o145 := o130.ext T_heap_Object.T S125.s x133
    have S134 := S125.ext' x133
    have o132 : OB _ _ h131 _ (Array.size h120) [(Value.int .i64 (0 : Int)), (Value.int .i64 (0 : Int)), (Value.int .i64 (0 : Int)), (Value.string (ByteArray.mk #[])), (Value.slice none 0 0)] 88 := o132
    obtain ⟨h146, w147, o148, t149⟩ := o132.stA S134.s [(Value.int .i64 y118.1.At), (Value.int .i64 y118.1.Kind), (Value.int .i64 y118.1.Num), (Value.string y118.1.Text), (Value.slice Ahe124_4 (List.length y118.1.Parts) che124_4)] rfl (Flats.cons trivial (Flats.cons trivial (Flats.cons trivial (Flats.cons trivial (Flats.cons trivial Flats.nil)))))
    refine ⟨[(Value.int .i64 y118.1.At), (Value.int .i64 y118.1.Kind), (Value.int .i64 y118.1.Num), (Value.string y118.1.Text), (Value.slice Ahe124_4 (List.length y118.1.Parts) che124_4)], rfl, rfl, h146, w147, ?_⟩
    have o148 : OB _ _ h146 _ (Array.size h120) [(Value.int .i64 y118.1.At), (Value.int .i64 y118.1.Kind), (Value.int .i64 y118.1.Num), (Value.string y118.1.Text), (Value.slice Ahe124_4 (List.length y118.1.Parts) che124_4)] 88 := o148
    have S150 := S134.then t149 (fun i _ hi => o132.wr i hi)
    have o151 := o141.step t149 (d136).symm
    have o152 := o142.step (tell_int .u64) t149 (d137).symm
    have o153 := o143.step t149 (d138).symm
    have o154 := o144.step T_heap_Object.T t149 (d139).symm
    have o155 := o145.step T_heap_Object.T t149 (d140).symm
    obtain ⟨y156, g157, e⟩ := bind_e e
    refine (roadref3_In.walk S150.s  g157).mono ?_
    rintro _ h158 ⟨m159, T160, rfl⟩
    have S161 := S150.grow T160
    have o162 := o151.step T160 Dj.no
    have o163 := o152.step (tell_int .u64) T160 Dj.no
    have o164 := o153.step T160 Dj.no
    have o165 := o154.step T_heap_Object.T T160 Dj.no
    have o166 := o155.step T_heap_Object.T T160 Dj.no
    have o167 := o148.step T160 Dj.no
    refine ⟨_, rfl, ?_⟩
    refine split_not ?_
    refine split_any_e e (fun c211 e => ?_) (fun c211 e => ?_)
    · refine split_not ?_
      refine split_any_e e (fun c196 e => ?_) (fun c196 e => ?_)
      · refine split_ne_e e (fun c181 e => ?_) (fun c181 e => ?_)
        · cases e
          exact ⟨_, S161, rfl⟩
        · refine ⟨_, ldA (Sub.refl _) o164.all, ?_⟩
          refine ⟨_, ldA (Sub.refl _) o167.all, ?_⟩
          obtain ⟨y168, g169, e⟩ := bind_e e
          refine (roadref3_SameObject.walk S161.s (show T_heap_Object.E _ y10 [(Value.int .i64 y10.At), (Value.int .i64 y10.Kind), (Value.int .i64 y10.Num), (Value.string y10.Text), (Value.slice Ae10_4 (List.length y10.Parts) ce10_4)] from ⟨_, _, rfl, ke10_4, (re10_4.sub (tell_int .u64) (T122.up.trans T160.up))⟩) (show T_heap_Object.E _ y118.1 [(Value.int .i64 y118.1.At), (Value.int .i64 y118.1.Kind), (Value.int .i64 y118.1.Num), (Value.string y118.1.Text), (Value.slice Ahe124_4 (List.length y118.1.Parts) che124_4)] from ⟨_, _, rfl, khe124_4, (rhe124_4.sub (tell_int .u64) T160.up)⟩) g169).mono ?_
          rintro _ h170 ⟨m171, T172, rfl⟩
          have S173 := S161.grow T172
          have o174 := o162.step T172 Dj.no
          have o175 := o163.step (tell_int .u64) T172 Dj.no
          have o176 := o164.step T172 Dj.no
          have o177 := o165.step T_heap_Object.T T172 Dj.no
          have o178 := o166.step T_heap_Object.T T172 Dj.no
          have o179 := o167.step T172 Dj.no
          refine ⟨_, rfl, ?_⟩
          refine split_not ?_
          refine split_any_e e (fun c180 e => ?_) (fun c180 e => ?_)
          · exact roadlaw3_HeapPuts.j1.walk S173 rfl k0 (r0.sub (tell_int .u64) (T122.up.trans (T160.up.trans T172.up))) o174 (show T_heap_Object.E _ y4 [(Value.int .i64 y4.At), (Value.int .i64 y4.Kind), (Value.int .i64 y4.Num), (Value.string y4.Text), (Value.slice Ae4_4 (List.length y4.Parts) ce4_4)] from ⟨_, _, rfl, ke4_4, (re4_4.sub (tell_int .u64) (T122.up.trans (T160.up.trans T172.up)))⟩) rfl o175 d0_1 e
          · cases e
            exact ⟨_, S173, rfl⟩
      · refine split_ne_e e (fun c195 e => ?_) (fun c195 e => ?_)
        · cases e
          exact ⟨_, S161, rfl⟩
        · refine ⟨_, ldA (Sub.refl _) o164.all, ?_⟩
          obtain ⟨y182, g183, e⟩ := bind_e e
          refine (roadref3_SameObject.walk S161.s (show T_heap_Object.E _ y10 [(Value.int .i64 y10.At), (Value.int .i64 y10.Kind), (Value.int .i64 y10.Num), (Value.string y10.Text), (Value.slice Ae10_4 (List.length y10.Parts) ce10_4)] from ⟨_, _, rfl, ke10_4, (re10_4.sub (tell_int .u64) (T122.up.trans T160.up))⟩) (show T_heap_Object.E _ (T_heap_Object.mk (0 : Int) (0 : Int) (0 : Int) (ByteArray.mk #[]) ([] : (List Int))) [(Value.int .i64 (0 : Int)), (Value.int .i64 (0 : Int)), (Value.int .i64 (0 : Int)), (Value.string (ByteArray.mk #[])), (Value.slice none 0 0)] from ⟨_, _, rfl, (Nat.le_refl 0), Rd.nil⟩) g183).mono ?_
          rintro _ h184 ⟨m185, T186, rfl⟩
          have S187 := S161.grow T186
          have o188 := o162.step T186 Dj.no
          have o189 := o163.step (tell_int .u64) T186 Dj.no
          have o190 := o164.step T186 Dj.no
          have o191 := o165.step T_heap_Object.T T186 Dj.no
          have o192 := o166.step T_heap_Object.T T186 Dj.no
          have o193 := o167.step T186 Dj.no
          refine ⟨_, rfl, ?_⟩
          refine split_not ?_
          refine split_any_e e (fun c194 e => ?_) (fun c194 e => ?_)
          · exact roadlaw3_HeapPuts.j1.walk S187 rfl k0 (r0.sub (tell_int .u64) (T122.up.trans (T160.up.trans T186.up))) o188 (show T_heap_Object.E _ y4 [(Value.int .i64 y4.At), (Value.int .i64 y4.Kind), (Value.int .i64 y4.Num), (Value.string y4.Text), (Value.slice Ae4_4 (List.length y4.Parts) ce4_4)] from ⟨_, _, rfl, ke4_4, (re4_4.sub (tell_int .u64) (T122.up.trans (T160.up.trans T186.up)))⟩) rfl o189 d0_1 e
          · cases e
            exact ⟨_, S187, rfl⟩
    · refine split_ne_e e (fun c210 e => ?_) (fun c210 e => ?_)
      · cases e
        exact ⟨_, S161, rfl⟩
      · refine ⟨_, ldA (Sub.refl _) o164.all, ?_⟩
        obtain ⟨y197, g198, e⟩ := bind_e e
        refine (roadref3_SameObject.walk S161.s (show T_heap_Object.E _ y10 [(Value.int .i64 y10.At), (Value.int .i64 y10.Kind), (Value.int .i64 y10.Num), (Value.string y10.Text), (Value.slice Ae10_4 (List.length y10.Parts) ce10_4)] from ⟨_, _, rfl, ke10_4, (re10_4.sub (tell_int .u64) (T122.up.trans T160.up))⟩) (show T_heap_Object.E _ (T_heap_Object.mk (0 : Int) (0 : Int) (0 : Int) (ByteArray.mk #[]) ([] : (List Int))) [(Value.int .i64 (0 : Int)), (Value.int .i64 (0 : Int)), (Value.int .i64 (0 : Int)), (Value.string (ByteArray.mk #[])), (Value.slice none 0 0)] from ⟨_, _, rfl, (Nat.le_refl 0), Rd.nil⟩) g198).mono ?_
        rintro _ h199 ⟨m200, T201, rfl⟩
        have S202 := S161.grow T201
        have o203 := o162.step T201 Dj.no
        have o204 := o163.step (tell_int .u64) T201 Dj.no
        have o205 := o164.step T201 Dj.no
        have o206 := o165.step T_heap_Object.T T201 Dj.no
        have o207 := o166.step T_heap_Object.T T201 Dj.no
        have o208 := o167.step T201 Dj.no
        refine ⟨_, rfl, ?_⟩
        refine split_not ?_
        refine split_any_e e (fun c209 e => ?_) (fun c209 e => ?_)
        · exact roadlaw3_HeapPuts.j1.walk S202 rfl k0 (r0.sub (tell_int .u64) (T122.up.trans (T160.up.trans T201.up))) o203 (show T_heap_Object.E _ y4 [(Value.int .i64 y4.At), (Value.int .i64 y4.Kind), (Value.int .i64 y4.Num), (Value.string y4.Text), (Value.slice Ae4_4 (List.length y4.Parts) ce4_4)] from ⟨_, _, rfl, ke4_4, (re4_4.sub (tell_int .u64) (T122.up.trans (T160.up.trans T201.up)))⟩) rfl o204 d0_1 e
        · cases e
          exact ⟨_, S202, rfl⟩
theorem roadlaw3_HeapPuts.l0_k.all {p : roadlaw3_HeapPuts.l0_k.Pt} {r : (Bool)} (e : roadlaw3_HeapPuts.l0_k.go p = some r) : roadlaw3_HeapPuts.l0_k.I p r := fixF_ind (β := fun _ => (Bool)) roadlaw3_HeapPuts.l0_k.mono (I := roadlaw3_HeapPuts.l0_k.I) (fun go ih p r e => match p with
  | .l0 a0 x2 y4 a7 x8 x9 y10 x11 a12 a14 x54 x55 => roadlaw3_HeapPuts.l0_k.step_l0 go ih a0 x2 y4 a7 x8 x9 y10 x11 a12 a14 x54 x55 r e
  ) e
theorem roadlaw3_HeapPuts.l0.walk {h0 m0 h m : Heap} {A0 : Option Addr} {n0 c0 : Nat} {bk4 : Nat} {cs4 : List Value} {A7 : Option Addr} {n7 c7 : Nat} {bk10 : Nat} {cs10 : List Value} {A12 : Option Addr} {n12 c12 : Nat} {A14 : Option Addr} {n14 c14 : Nat} {a0 : List Int} {x2 : Int} {y4 : T_heap_Object} {a7 : List Int} {x8 : Int} {x9 : Int} {y10 : T_heap_Object} {x11 : Int} {a12 : List T_heap_Object} {a14 : List T_heap_Object} {x54 : Int} {x55 : Int} (S : St No h0 m0 h m) (ne0 : n0 = List.length a0) (k0 : List.length a0 ≤ c0) (r0 : Rd 1 (eInt .u64) m A0 a0) (o4 : OB No h0 h m bk4 cs4 88) (e4 : T_heap_Object.E m y4 cs4) (ne7 : n7 = List.length a7) (o7 : OS No h0 1 (eInt .u64) h m A7 a7 c7) (o10 : OB No h0 h m bk10 cs10 88) (e10 : T_heap_Object.E m y10 cs10) (ne12 : n12 = List.length a12) (o12 : OS No h0 5 T_heap_Object.E h m A12 a12 c12) (ne14 : n14 = List.length a14) (o14 : OS No h0 5 T_heap_Object.E h m A14 a14 c14) (d0_1 : Dj (fb bk4) (fp A7 c7)) (d0_2 : Dj (fb bk4) (fb bk10)) (d0_3 : Dj (fb bk4) (fp A12 c12)) (d0_4 : Dj (fb bk4) (fp A14 c14)) (d1_2 : Dj (fp A7 c7) (fb bk10)) (d1_3 : Dj (fp A7 c7) (fp A12 c12)) (d1_4 : Dj (fp A7 c7) (fp A14 c14)) (d2_3 : Dj (fb bk10) (fp A12 c12)) (d2_4 : Dj (fb bk10) (fp A14 c14)) (d3_4 : Dj (fp A12 c12) (fp A14 c14)) {r : Bool} (e : roadlaw3_HeapPuts.l0 a0 x2 y4 a7 x8 x9 y10 x11 a12 a14 x54 x55 = some r) : f7.l0 (roadlaw3_HeapPuts.post No h0 m0 r) A0 n0 c0 x2 (⟨bk4, 0, none⟩ : Addr) A7 n7 c7 x8 x9 (⟨bk10, 0, none⟩ : Addr) x11 A12 n12 c12 A14 n14 c14 x54 x55 h := roadlaw3_HeapPuts.l0_k.all (p := .l0 a0 x2 y4 a7 x8 x9 y10 x11 a12 a14 x54 x55) e h0 m0 h m A0 n0 c0 bk4 cs4 A7 n7 c7 bk10 cs10 A12 n12 c12 A14 n14 c14 S ne0 k0 r0 o4 e4 ne7 o7 o10 e10 ne12 o12 ne14 o14 d0_1 d0_2 d0_3 d0_4 d1_2 d1_3 d1_4 d2_3 d2_4 d3_4

noncomputable def roadlaw3_HeapPuts.j0 (a0 : List Int) (x2 : Int) (y4 : T_heap_Object) (a7 : List Int) (x8 : Int) (x9 : Int) (y10 : T_heap_Object) (x11 : Int) (a12 : List T_heap_Object) (a14 : List T_heap_Object) : Option (Bool) :=
  (roadlaw3_HeapPuts.l0 a0 x2 y4 a7 x8 x9 y10 x11 a12 a14 (((List.length a12) : Nat) : Int) (0 : Int))
set_option maxRecDepth 100000 in
theorem roadlaw3_HeapPuts.j0.walk {h0 m0 h m : Heap} {A0 : Option Addr} {n0 c0 : Nat} {bk4 : Nat} {cs4 : List Value} {A7 : Option Addr} {n7 c7 : Nat} {bk10 : Nat} {cs10 : List Value} {A12 : Option Addr} {n12 c12 : Nat} {A14 : Option Addr} {n14 c14 : Nat} {a0 : List Int} {x2 : Int} {y4 : T_heap_Object} {a7 : List Int} {x8 : Int} {x9 : Int} {y10 : T_heap_Object} {x11 : Int} {a12 : List T_heap_Object} {a14 : List T_heap_Object} (S : St No h0 m0 h m) (ne0 : n0 = List.length a0) (k0 : List.length a0 ≤ c0) (r0 : Rd 1 (eInt .u64) m A0 a0) (o4 : OB No h0 h m bk4 cs4 88) (e4 : T_heap_Object.E m y4 cs4) (ne7 : n7 = List.length a7) (o7 : OS No h0 1 (eInt .u64) h m A7 a7 c7) (o10 : OB No h0 h m bk10 cs10 88) (e10 : T_heap_Object.E m y10 cs10) (ne12 : n12 = List.length a12) (o12 : OS No h0 5 T_heap_Object.E h m A12 a12 c12) (ne14 : n14 = List.length a14) (o14 : OS No h0 5 T_heap_Object.E h m A14 a14 c14) (d0_1 : Dj (fb bk4) (fp A7 c7)) (d0_2 : Dj (fb bk4) (fb bk10)) (d0_3 : Dj (fb bk4) (fp A12 c12)) (d0_4 : Dj (fb bk4) (fp A14 c14)) (d1_2 : Dj (fp A7 c7) (fb bk10)) (d1_3 : Dj (fp A7 c7) (fp A12 c12)) (d1_4 : Dj (fp A7 c7) (fp A14 c14)) (d2_3 : Dj (fb bk10) (fp A12 c12)) (d2_4 : Dj (fb bk10) (fp A14 c14)) (d3_4 : Dj (fp A12 c12) (fp A14 c14)) {r : Bool} (e : roadlaw3_HeapPuts.j0 a0 x2 y4 a7 x8 x9 y10 x11 a12 a14 = some r) : f7.j0 (roadlaw3_HeapPuts.post No h0 m0 r) A0 n0 c0 x2 (⟨bk4, 0, none⟩ : Addr) A7 n7 c7 x8 x9 (⟨bk10, 0, none⟩ : Addr) x11 A12 n12 c12 A14 n14 c14 h := by
  unfold roadlaw3_HeapPuts.j0 at e
  subst ne0
  obtain ⟨Ae4_4, ce4_4, rfl, ke4_4, re4_4⟩ := e4
  subst ne7
  obtain ⟨Ae10_4, ce10_4, rfl, ke10_4, re10_4⟩ := e10
  subst ne12
  subst ne14
  refine f7.j0_in ?_
  unfold f7.j0T
  exact roadlaw3_HeapPuts.l0.walk S rfl k0 r0 o4 (show T_heap_Object.E _ y4 [(Value.int .i64 y4.At), (Value.int .i64 y4.Kind), (Value.int .i64 y4.Num), (Value.string y4.Text), (Value.slice Ae4_4 (List.length y4.Parts) ce4_4)] from ⟨_, _, rfl, ke4_4, re4_4⟩) rfl o7 o10 (show T_heap_Object.E _ y10 [(Value.int .i64 y10.At), (Value.int .i64 y10.Kind), (Value.int .i64 y10.Num), (Value.string y10.Text), (Value.slice Ae10_4 (List.length y10.Parts) ce10_4)] from ⟨_, _, rfl, ke10_4, re10_4⟩) rfl o12 rfl o14 d0_1 d0_2 d0_3 d0_4 d1_2 d1_3 d1_4 d2_3 d2_4 d3_4 e

noncomputable def roadlaw3_HeapPuts (a0 : List Int) (y1 : T_heap_Object) (x2 : Int) : Option (Bool) :=
  Option.bind (heap_Put a0 y1) fun y6 => Option.bind (heap_At a0 x2) fun y22 => Option.bind (heap_Objects a0) fun y48 => Option.bind (roadref3_HeapObjects a0) fun y68 => if y48.2 = y68.2 then (if (((List.length y48.1) : Nat) : Int) = (((List.length y68.1) : Nat) : Int) then ((roadlaw3_HeapPuts.j0 a0 x2 y1 y6.1 y6.2.1 y6.2.2 y22.1 y22.2 y48.1 y68.1)) else (some (false))) else (some (false))
set_option maxRecDepth 100000 in
theorem roadlaw3_HeapPuts.walk {h m : Heap} {A0 : Option Addr} {n0 c0 : Nat} {cs1 : List Value} {a0 : List Int} {y1 : T_heap_Object} {x2 : Int} (s : Sub m h) (ne0 : n0 = List.length a0) (k0 : List.length a0 ≤ c0) (r0 : Rd 1 (eInt .u64) m A0 a0) (e1 : T_heap_Object.E m y1 cs1) {r : Bool} (e : roadlaw3_HeapPuts a0 y1 x2 = some r) : Run Try.prog 7 #[Value.slice A0 n0 c0, Value.agg cs1.toArray, Value.int .i64 x2] h (roadlaw3_HeapPuts.post No h m r) := by
  unfold roadlaw3_HeapPuts at e
  subst ne0
  obtain ⟨Ae1_4, ce1_4, rfl, ke1_4, re1_4⟩ := e1
  have S : St No h m h m := .refl s
  refine f7.run ?_
  unfold f7.runT
  refine new_in S fun h1 o2 x3 => ?_
  have S4 := S.ext' x3
  have o2 : OB _ _ h1 _ (Array.size h) [(Value.int .i64 y1.At), (Value.int .i64 y1.Kind), (Value.int .i64 y1.Num), (Value.string y1.Text), (Value.slice Ae1_4 (List.length y1.Parts) ce1_4)] 88 := o2
  refine ⟨_, ldA (Sub.refl _) o2.all, ?_⟩
  obtain ⟨y6, g7, e⟩ := bind_e e
  refine (heap_Put.walk S4.s rfl k0 r0 (show T_heap_Object.E _ y1 [(Value.int .i64 y1.At), (Value.int .i64 y1.Kind), (Value.int .i64 y1.Num), (Value.string y1.Text), (Value.slice Ae1_4 (List.length y1.Parts) ce1_4)] from ⟨_, _, rfl, ke1_4, re1_4⟩) g7).mono ?_
  rintro _ h8 ⟨m9, A11, n12, c13, T10, rfl, ne14, o15⟩
  subst ne14
  have nw20 := o15.newNo
  have d21 : Dj (fb (Array.size h)) (fp A11 c13) := fun i h1 h2 => absurd (o2.lt i h1) (Nat.not_lt.2 (nw20 i h2))
  have o19 := o15.take S4 (fun _ h => h.elim)
  have S17 := S4.grow T10
  have o18 := o2.step T10 Dj.no
  refine ⟨_, _, _, _, _, rfl, ?_⟩
  obtain ⟨y22, g23, e⟩ := bind_e e
  refine (heap_At.walk S17.s rfl k0 (r0.sub (tell_int .u64) T10.up) g23).mono ?_
  rintro _ h24 ⟨m25, cs27, T26, rfl, he28⟩
  obtain ⟨Ahe28_4, che28_4, rfl, khe28_4, rhe28_4⟩ := he28
  have S29 := S17.grow T26
  have o30 := o18.step T26 Dj.no
  have o31 := o19.step (tell_int .u64) T26 Dj.no
  refine ⟨_, _, rfl, ?_⟩
  refine new_in S29 fun h32 o33 x34 => ?_
  have d37 : Dj (fb (Array.size h)) (fb (Array.size h24)) := Dj.new o30.lt
  have d38 : Dj (fp A11 c13) (fb (Array.size h24)) := Dj.new o31.lt
  have o39 := o30.ext x34
  have o40 := o31.ext (tell_int .u64) S29.s x34
  have S35 := S29.ext' x34
  have o33 : OB _ _ h32 _ (Array.size h24) [(Value.int .i64 (0 : Int)), (Value.int .i64 (0 : Int)), (Value.int .i64 (0 : Int)), (Value.string (ByteArray.mk #[])), (Value.slice none 0 0)] 88 := o33
  obtain ⟨h41, w42, o43, t44⟩ := o33.stA S35.s [(Value.int .i64 y22.1.At), (Value.int .i64 y22.1.Kind), (Value.int .i64 y22.1.Num), (Value.string y22.1.Text), (Value.slice Ahe28_4 (List.length y22.1.Parts) che28_4)] rfl (Flats.cons trivial (Flats.cons trivial (Flats.cons trivial (Flats.cons trivial (Flats.cons trivial Flats.nil)))))
  refine ⟨[(Value.int .i64 y22.1.At), (Value.int .i64 y22.1.Kind), (Value.int .i64 y22.1.Num), (Value.string y22.1.Text), (Value.slice Ahe28_4 (List.length y22.1.Parts) che28_4)], rfl, rfl, h41, w42, ?_⟩
  have o43 : OB _ _ h41 _ (Array.size h24) [(Value.int .i64 y22.1.At), (Value.int .i64 y22.1.Kind), (Value.int .i64 y22.1.Num), (Value.string y22.1.Text), (Value.slice Ahe28_4 (List.length y22.1.Parts) che28_4)] 88 := o43
  have S45 := S35.then t44 (fun i _ hi => o33.wr i hi)
  have o46 := o39.step t44 (d37).symm
  have o47 := o40.step (tell_int .u64) t44 (d38).symm
  obtain ⟨y48, g49, e⟩ := bind_e e
  refine (heap_Objects.walk S45.s rfl k0 (r0.sub (tell_int .u64) (T10.up.trans T26.up)) g49).mono ?_
  rintro _ h50 ⟨m51, A53, n54, c55, T52, rfl, ne56, o57⟩
  subst ne56
  have nw64 := o57.newNo
  have d65 : Dj (fb (Array.size h)) (fp A53 c55) := fun i h1 h2 => absurd (o46.lt i h1) (Nat.not_lt.2 (nw64 i h2))
  have d66 : Dj (fp A11 c13) (fp A53 c55) := fun i h1 h2 => absurd (o47.lt i h1) (Nat.not_lt.2 (nw64 i h2))
  have d67 : Dj (fb (Array.size h24)) (fp A53 c55) := fun i h1 h2 => absurd (o43.lt i h1) (Nat.not_lt.2 (nw64 i h2))
  have o63 := o57.take S45 (fun _ h => h.elim)
  have S59 := S45.grow T52
  have o60 := o46.step T52 Dj.no
  have o61 := o47.step (tell_int .u64) T52 Dj.no
  have o62 := o43.step T52 Dj.no
  refine ⟨_, _, _, _, rfl, ?_⟩
  obtain ⟨y68, g69, e⟩ := bind_e e
  refine (roadref3_HeapObjects.walk S59.s rfl k0 (r0.sub (tell_int .u64) (T10.up.trans (T26.up.trans T52.up))) g69).mono ?_
  rintro _ h70 ⟨m71, A73, n74, c75, T72, rfl, ne76, o77⟩
  subst ne76
  have nw85 := o77.newNo
  have d86 : Dj (fb (Array.size h)) (fp A73 c75) := fun i h1 h2 => absurd (o60.lt i h1) (Nat.not_lt.2 (nw85 i h2))
  have d87 : Dj (fp A11 c13) (fp A73 c75) := fun i h1 h2 => absurd (o61.lt i h1) (Nat.not_lt.2 (nw85 i h2))
  have d88 : Dj (fb (Array.size h24)) (fp A73 c75) := fun i h1 h2 => absurd (o62.lt i h1) (Nat.not_lt.2 (nw85 i h2))
  have d89 : Dj (fp A53 c55) (fp A73 c75) := fun i h1 h2 => absurd (o63.lt i h1) (Nat.not_lt.2 (nw85 i h2))
  have o84 := o77.take S59 (fun _ h => h.elim)
  have S79 := S59.grow T72
  have o80 := o60.step T72 Dj.no
  have o81 := o61.step (tell_int .u64) T72 Dj.no
  have o82 := o62.step T72 Dj.no
  have o83 := o63.step T_heap_Object.T T72 Dj.no
  refine ⟨_, _, _, _, rfl, ?_⟩
  refine split_ne_e e (fun c91 e => ?_) (fun c91 e => ?_)
  · cases e
    exact ⟨_, S79, rfl⟩
  · refine split_ne_e e (fun c90 e => ?_) (fun c90 e => ?_)
    · cases e
      exact ⟨_, S79, rfl⟩
    · exact roadlaw3_HeapPuts.j0.walk S79 rfl k0 (r0.sub (tell_int .u64) (T10.up.trans (T26.up.trans (T52.up.trans T72.up)))) o80 (show T_heap_Object.E _ y1 [(Value.int .i64 y1.At), (Value.int .i64 y1.Kind), (Value.int .i64 y1.Num), (Value.string y1.Text), (Value.slice Ae1_4 (List.length y1.Parts) ce1_4)] from ⟨_, _, rfl, ke1_4, (re1_4.sub (tell_int .u64) (T10.up.trans (T26.up.trans (T52.up.trans T72.up))))⟩) rfl o81 o82 (show T_heap_Object.E _ y22.1 [(Value.int .i64 y22.1.At), (Value.int .i64 y22.1.Kind), (Value.int .i64 y22.1.Num), (Value.string y22.1.Text), (Value.slice Ahe28_4 (List.length y22.1.Parts) che28_4)] from ⟨_, _, rfl, khe28_4, (rhe28_4.sub (tell_int .u64) (T52.up.trans T72.up))⟩) rfl o83 rfl o84 d21 d37 d65 d86 d38 d66 d87 d67 d88 d89 e

end Go.Proofs.Ytilmfjdagnbbaaa.Fw
