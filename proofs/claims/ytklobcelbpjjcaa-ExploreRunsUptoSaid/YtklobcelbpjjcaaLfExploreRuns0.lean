/- Data of the given program, and pure functions of its functions, with the walks. Printed by a program of this session. -/
import Derived.Test.YtklobcelbpjjcaaFwExploreRuns
import Derived.Test.YtklobcelbpjjcaaHwOg
import Derived.Test.YtklobcelbpjjcaaHwWa
namespace Go.Proofs.Ytklobcelbpjjcaa.Fw
open Go Go.Hw Go.Proofs
set_option linter.unusedVariables false

structure T_explore_Do where
  Kind : Int
  Cell : Int
  By : Int
def T_explore_Do.E (h : Heap) (x : T_explore_Do) (cs : List Value) : Prop := cs = [.int .i64 x.Kind, .int .i64 x.Cell, .int .i64 x.By]
theorem T_explore_Do.T : Tell 3 T_explore_Do.E := ⟨by rintro m h x _ s rfl; exact rfl, by rintro h x _ rfl; rfl, by rintro h x _ rfl; exact Flats.cons trivial (Flats.cons trivial (Flats.cons trivial Flats.nil))⟩
theorem T_explore_Do.keep {m h : Heap} {x : T_explore_Do} {cs : List Value} (e : T_explore_Do.E m x cs) : T_explore_Do.E h x cs := e
def T_explore_Do.Q (x : T_explore_Do) : Prop := (-9223372036854775808 ≤ x.Kind ∧ x.Kind ≤ 9223372036854775807) ∧ (-9223372036854775808 ≤ x.Cell ∧ x.Cell ≤ 9223372036854775807) ∧ (-9223372036854775808 ≤ x.By ∧ x.By ≤ 9223372036854775807)
theorem T_explore_Do.tells {H : Type} {enc : TypeId × Value → H} {W : World} : Tells enc Try.prog W 105 T_explore_Do.E T_explore_Do.Q := tells_map (tells_struct (t := 105) (fs := [(3, 0), (3, 1), (3, 2)]) (T := 3) (by kernel_rfl) (by kernel_rfl) (tf_cons (s := 1) (f := 3) (by kernel_rfl) (tells_i64 (t := 3) (by kernel_rfl)) (tf_cons (s := 1) (f := 3) (by kernel_rfl) (tells_i64 (t := 3) (by kernel_rfl)) (tf_cons (s := 1) (f := 3) (by kernel_rfl) (tells_i64 (t := 3) (by kernel_rfl)) tf_nil)))) (by
  rintro ⟨x0, x1, x2, ⟨⟩⟩ cs e q
  obtain ⟨c0, r0, rfl, e0, c1, r1, rfl, e1, c2, r2, rfl, e2, eN⟩ := e
  obtain rfl : c0 = [.int .i64 x0] := e0
  obtain rfl : c1 = [.int .i64 x1] := e1
  obtain rfl : c2 = [.int .i64 x2] := e2
  obtain rfl : r2 = [] := eN
  exact ⟨⟨x0, x1, x2⟩, rfl, q.1, q.2.1, q.2.2.1⟩)
def T_explore_Do.bulk (x : T_explore_Do) : Nat := (1 + (1 + (1 + (0)))) + 1
theorem T_explore_Do.kt {H : Type} {bk : DataW H → Nat} {enc : TypeId × Value → H} {W : World} {N : Nat} (M : Measure bk) : KT N bk enc Try.prog W 105 T_explore_Do.E T_explore_Do.bulk := kt_down (kt_map (kt_struct M (t := 105) (fs := [(3, 0), (3, 1), (3, 2)]) (T := 3) (by kernel_rfl) (by kernel_rfl) (ktf_cons (s := 1) (f := 3) (by kernel_rfl) (tell_int .i64) (kt_one M) (ktf_cons (s := 1) (f := 3) (by kernel_rfl) (tell_int .i64) (kt_one M) (ktf_cons (s := 1) (f := 3) (by kernel_rfl) (tell_int .i64) (kt_one M) ktf_nil)))) (fun x cs e => by
  obtain rfl := e
  exact ⟨(x.Kind, x.Cell, x.By, ()), ⟨[.int .i64 x.Kind], _, rfl, rfl, ⟨[.int .i64 x.Cell], _, rfl, rfl, ⟨[.int .i64 x.By], _, rfl, rfl, rfl⟩⟩⟩, Nat.le_refl _⟩))
structure T_explore_State where
  Cells : (List Int)
  Hands : (List Int)
  At : (List Int)
def T_explore_State.E (h : Heap) (x : T_explore_State) (cs : List Value) : Prop := cs = [.int .i64 (List.getD x.Cells 0 (0 : Int)), .int .i64 (List.getD x.Cells 1 (0 : Int)), .int .i64 (List.getD x.Cells 2 (0 : Int)), .int .i64 (List.getD x.Cells 3 (0 : Int)), .int .i64 (List.getD x.Hands 0 (0 : Int)), .int .i64 (List.getD x.Hands 1 (0 : Int)), .int .i64 (List.getD x.Hands 2 (0 : Int)), .int .i64 (List.getD x.Hands 3 (0 : Int)), .int .i64 (List.getD x.At 0 (0 : Int)), .int .i64 (List.getD x.At 1 (0 : Int)), .int .i64 (List.getD x.At 2 (0 : Int)), .int .i64 (List.getD x.At 3 (0 : Int))] ∧ x.Cells.length = 4 ∧ x.Hands.length = 4 ∧ x.At.length = 4
theorem T_explore_State.T : Tell 12 T_explore_State.E := ⟨by rintro m h x _ s ⟨rfl, q0, q1, q2⟩; exact ⟨rfl, q0, q1, q2⟩, by rintro h x _ ⟨rfl, q0, q1, q2⟩; rfl, by rintro h x _ ⟨rfl, q0, q1, q2⟩; exact Flats.cons trivial (Flats.cons trivial (Flats.cons trivial (Flats.cons trivial (Flats.cons trivial (Flats.cons trivial (Flats.cons trivial (Flats.cons trivial (Flats.cons trivial (Flats.cons trivial (Flats.cons trivial (Flats.cons trivial Flats.nil)))))))))))⟩
theorem T_explore_State.keep {m h : Heap} {x : T_explore_State} {cs : List Value} (e : T_explore_State.E m x cs) : T_explore_State.E h x cs := e
structure T_roadref4_Do where
  Kind : Int
  Cell : Int
  By : Int
def T_roadref4_Do.E (h : Heap) (x : T_roadref4_Do) (cs : List Value) : Prop := cs = [.int .i64 x.Kind, .int .i64 x.Cell, .int .i64 x.By]
theorem T_roadref4_Do.T : Tell 3 T_roadref4_Do.E := ⟨by rintro m h x _ s rfl; exact rfl, by rintro h x _ rfl; rfl, by rintro h x _ rfl; exact Flats.cons trivial (Flats.cons trivial (Flats.cons trivial Flats.nil))⟩
theorem T_roadref4_Do.keep {m h : Heap} {x : T_roadref4_Do} {cs : List Value} (e : T_roadref4_Do.E m x cs) : T_roadref4_Do.E h x cs := e
def T_roadref4_Do.Q (x : T_roadref4_Do) : Prop := (-9223372036854775808 ≤ x.Kind ∧ x.Kind ≤ 9223372036854775807) ∧ (-9223372036854775808 ≤ x.Cell ∧ x.Cell ≤ 9223372036854775807) ∧ (-9223372036854775808 ≤ x.By ∧ x.By ≤ 9223372036854775807)
theorem T_roadref4_Do.tells {H : Type} {enc : TypeId × Value → H} {W : World} : Tells enc Try.prog W 122 T_roadref4_Do.E T_roadref4_Do.Q := tells_map (tells_struct (t := 122) (fs := [(3, 0), (3, 1), (3, 2)]) (T := 3) (by kernel_rfl) (by kernel_rfl) (tf_cons (s := 1) (f := 3) (by kernel_rfl) (tells_i64 (t := 3) (by kernel_rfl)) (tf_cons (s := 1) (f := 3) (by kernel_rfl) (tells_i64 (t := 3) (by kernel_rfl)) (tf_cons (s := 1) (f := 3) (by kernel_rfl) (tells_i64 (t := 3) (by kernel_rfl)) tf_nil)))) (by
  rintro ⟨x0, x1, x2, ⟨⟩⟩ cs e q
  obtain ⟨c0, r0, rfl, e0, c1, r1, rfl, e1, c2, r2, rfl, e2, eN⟩ := e
  obtain rfl : c0 = [.int .i64 x0] := e0
  obtain rfl : c1 = [.int .i64 x1] := e1
  obtain rfl : c2 = [.int .i64 x2] := e2
  obtain rfl : r2 = [] := eN
  exact ⟨⟨x0, x1, x2⟩, rfl, q.1, q.2.1, q.2.2.1⟩)
def T_roadref4_Do.bulk (x : T_roadref4_Do) : Nat := (1 + (1 + (1 + (0)))) + 1
theorem T_roadref4_Do.kt {H : Type} {bk : DataW H → Nat} {enc : TypeId × Value → H} {W : World} {N : Nat} (M : Measure bk) : KT N bk enc Try.prog W 122 T_roadref4_Do.E T_roadref4_Do.bulk := kt_down (kt_map (kt_struct M (t := 122) (fs := [(3, 0), (3, 1), (3, 2)]) (T := 3) (by kernel_rfl) (by kernel_rfl) (ktf_cons (s := 1) (f := 3) (by kernel_rfl) (tell_int .i64) (kt_one M) (ktf_cons (s := 1) (f := 3) (by kernel_rfl) (tell_int .i64) (kt_one M) (ktf_cons (s := 1) (f := 3) (by kernel_rfl) (tell_int .i64) (kt_one M) ktf_nil)))) (fun x cs e => by
  obtain rfl := e
  exact ⟨(x.Kind, x.Cell, x.By, ()), ⟨[.int .i64 x.Kind], _, rfl, rfl, ⟨[.int .i64 x.Cell], _, rfl, rfl, ⟨[.int .i64 x.By], _, rfl, rfl, rfl⟩⟩⟩, Nat.le_refl _⟩))
structure T_part_Step where
  Who : Int
  Reads : Int
  Writes : Int
def T_part_Step.E (h : Heap) (x : T_part_Step) (cs : List Value) : Prop := cs = [.int .i64 x.Who, .int .i64 x.Reads, .int .i64 x.Writes]
theorem T_part_Step.T : Tell 3 T_part_Step.E := ⟨by rintro m h x _ s rfl; exact rfl, by rintro h x _ rfl; rfl, by rintro h x _ rfl; exact Flats.cons trivial (Flats.cons trivial (Flats.cons trivial Flats.nil))⟩
theorem T_part_Step.keep {m h : Heap} {x : T_part_Step} {cs : List Value} (e : T_part_Step.E m x cs) : T_part_Step.E h x cs := e
def T_part_Step.Q (x : T_part_Step) : Prop := (-9223372036854775808 ≤ x.Who ∧ x.Who ≤ 9223372036854775807) ∧ (-9223372036854775808 ≤ x.Reads ∧ x.Reads ≤ 9223372036854775807) ∧ (-9223372036854775808 ≤ x.Writes ∧ x.Writes ≤ 9223372036854775807)
theorem T_part_Step.tells {H : Type} {enc : TypeId × Value → H} {W : World} : Tells enc Try.prog W 126 T_part_Step.E T_part_Step.Q := tells_map (tells_struct (t := 126) (fs := [(3, 0), (3, 1), (3, 2)]) (T := 3) (by kernel_rfl) (by kernel_rfl) (tf_cons (s := 1) (f := 3) (by kernel_rfl) (tells_i64 (t := 3) (by kernel_rfl)) (tf_cons (s := 1) (f := 3) (by kernel_rfl) (tells_i64 (t := 3) (by kernel_rfl)) (tf_cons (s := 1) (f := 3) (by kernel_rfl) (tells_i64 (t := 3) (by kernel_rfl)) tf_nil)))) (by
  rintro ⟨x0, x1, x2, ⟨⟩⟩ cs e q
  obtain ⟨c0, r0, rfl, e0, c1, r1, rfl, e1, c2, r2, rfl, e2, eN⟩ := e
  obtain rfl : c0 = [.int .i64 x0] := e0
  obtain rfl : c1 = [.int .i64 x1] := e1
  obtain rfl : c2 = [.int .i64 x2] := e2
  obtain rfl : r2 = [] := eN
  exact ⟨⟨x0, x1, x2⟩, rfl, q.1, q.2.1, q.2.2.1⟩)
def T_part_Step.bulk (x : T_part_Step) : Nat := (1 + (1 + (1 + (0)))) + 1
theorem T_part_Step.kt {H : Type} {bk : DataW H → Nat} {enc : TypeId × Value → H} {W : World} {N : Nat} (M : Measure bk) : KT N bk enc Try.prog W 126 T_part_Step.E T_part_Step.bulk := kt_down (kt_map (kt_struct M (t := 126) (fs := [(3, 0), (3, 1), (3, 2)]) (T := 3) (by kernel_rfl) (by kernel_rfl) (ktf_cons (s := 1) (f := 3) (by kernel_rfl) (tell_int .i64) (kt_one M) (ktf_cons (s := 1) (f := 3) (by kernel_rfl) (tell_int .i64) (kt_one M) (ktf_cons (s := 1) (f := 3) (by kernel_rfl) (tell_int .i64) (kt_one M) ktf_nil)))) (fun x cs e => by
  obtain rfl := e
  exact ⟨(x.Who, x.Reads, x.Writes, ()), ⟨[.int .i64 x.Who], _, rfl, rfl, ⟨[.int .i64 x.Reads], _, rfl, rfl, ⟨[.int .i64 x.Writes], _, rfl, rfl, rfl⟩⟩⟩, Nat.le_refl _⟩))
structure T_roadref4_State where
  Cells : (List Int)
  Hands : (List Int)
  At : (List Int)
def T_roadref4_State.E (h : Heap) (x : T_roadref4_State) (cs : List Value) : Prop := cs = [.int .i64 (List.getD x.Cells 0 (0 : Int)), .int .i64 (List.getD x.Cells 1 (0 : Int)), .int .i64 (List.getD x.Cells 2 (0 : Int)), .int .i64 (List.getD x.Cells 3 (0 : Int)), .int .i64 (List.getD x.Hands 0 (0 : Int)), .int .i64 (List.getD x.Hands 1 (0 : Int)), .int .i64 (List.getD x.Hands 2 (0 : Int)), .int .i64 (List.getD x.Hands 3 (0 : Int)), .int .i64 (List.getD x.At 0 (0 : Int)), .int .i64 (List.getD x.At 1 (0 : Int)), .int .i64 (List.getD x.At 2 (0 : Int)), .int .i64 (List.getD x.At 3 (0 : Int))] ∧ x.Cells.length = 4 ∧ x.Hands.length = 4 ∧ x.At.length = 4
theorem T_roadref4_State.T : Tell 12 T_roadref4_State.E := ⟨by rintro m h x _ s ⟨rfl, q0, q1, q2⟩; exact ⟨rfl, q0, q1, q2⟩, by rintro h x _ ⟨rfl, q0, q1, q2⟩; rfl, by rintro h x _ ⟨rfl, q0, q1, q2⟩; exact Flats.cons trivial (Flats.cons trivial (Flats.cons trivial (Flats.cons trivial (Flats.cons trivial (Flats.cons trivial (Flats.cons trivial (Flats.cons trivial (Flats.cons trivial (Flats.cons trivial (Flats.cons trivial (Flats.cons trivial Flats.nil)))))))))))⟩
theorem T_roadref4_State.keep {m h : Heap} {x : T_roadref4_State} {cs : List Value} (e : T_roadref4_State.E m x cs) : T_roadref4_State.E h x cs := e
structure T_roadref4_Step where
  Who : Int
  Reads : Int
  Writes : Int
def T_roadref4_Step.E (h : Heap) (x : T_roadref4_Step) (cs : List Value) : Prop := cs = [.int .i64 x.Who, .int .i64 x.Reads, .int .i64 x.Writes]
theorem T_roadref4_Step.T : Tell 3 T_roadref4_Step.E := ⟨by rintro m h x _ s rfl; exact rfl, by rintro h x _ rfl; rfl, by rintro h x _ rfl; exact Flats.cons trivial (Flats.cons trivial (Flats.cons trivial Flats.nil))⟩
theorem T_roadref4_Step.keep {m h : Heap} {x : T_roadref4_Step} {cs : List Value} (e : T_roadref4_Step.E m x cs) : T_roadref4_Step.E h x cs := e
def T_roadref4_Step.Q (x : T_roadref4_Step) : Prop := (-9223372036854775808 ≤ x.Who ∧ x.Who ≤ 9223372036854775807) ∧ (-9223372036854775808 ≤ x.Reads ∧ x.Reads ≤ 9223372036854775807) ∧ (-9223372036854775808 ≤ x.Writes ∧ x.Writes ≤ 9223372036854775807)
theorem T_roadref4_Step.tells {H : Type} {enc : TypeId × Value → H} {W : World} : Tells enc Try.prog W 121 T_roadref4_Step.E T_roadref4_Step.Q := tells_map (tells_struct (t := 121) (fs := [(3, 0), (3, 1), (3, 2)]) (T := 3) (by kernel_rfl) (by kernel_rfl) (tf_cons (s := 1) (f := 3) (by kernel_rfl) (tells_i64 (t := 3) (by kernel_rfl)) (tf_cons (s := 1) (f := 3) (by kernel_rfl) (tells_i64 (t := 3) (by kernel_rfl)) (tf_cons (s := 1) (f := 3) (by kernel_rfl) (tells_i64 (t := 3) (by kernel_rfl)) tf_nil)))) (by
  rintro ⟨x0, x1, x2, ⟨⟩⟩ cs e q
  obtain ⟨c0, r0, rfl, e0, c1, r1, rfl, e1, c2, r2, rfl, e2, eN⟩ := e
  obtain rfl : c0 = [.int .i64 x0] := e0
  obtain rfl : c1 = [.int .i64 x1] := e1
  obtain rfl : c2 = [.int .i64 x2] := e2
  obtain rfl : r2 = [] := eN
  exact ⟨⟨x0, x1, x2⟩, rfl, q.1, q.2.1, q.2.2.1⟩)
def T_roadref4_Step.bulk (x : T_roadref4_Step) : Nat := (1 + (1 + (1 + (0)))) + 1
theorem T_roadref4_Step.kt {H : Type} {bk : DataW H → Nat} {enc : TypeId × Value → H} {W : World} {N : Nat} (M : Measure bk) : KT N bk enc Try.prog W 121 T_roadref4_Step.E T_roadref4_Step.bulk := kt_down (kt_map (kt_struct M (t := 121) (fs := [(3, 0), (3, 1), (3, 2)]) (T := 3) (by kernel_rfl) (by kernel_rfl) (ktf_cons (s := 1) (f := 3) (by kernel_rfl) (tell_int .i64) (kt_one M) (ktf_cons (s := 1) (f := 3) (by kernel_rfl) (tell_int .i64) (kt_one M) (ktf_cons (s := 1) (f := 3) (by kernel_rfl) (tell_int .i64) (kt_one M) ktf_nil)))) (fun x cs e => by
  obtain rfl := e
  exact ⟨(x.Who, x.Reads, x.Writes, ()), ⟨[.int .i64 x.Who], _, rfl, rfl, ⟨[.int .i64 x.Reads], _, rfl, rfl, ⟨[.int .i64 x.Writes], _, rfl, rfl, rfl⟩⟩⟩, Nat.le_refl _⟩))
theorem T_explore_Do.g0 {m : Heap} {x : T_explore_Do} {cs : List Value} (e : T_explore_Do.E m x cs) : cs[0]? = some (Value.int .i64 x.Kind) := by
  obtain rfl := e
  exact rfl
theorem T_explore_Do.g1 {m : Heap} {x : T_explore_Do} {cs : List Value} (e : T_explore_Do.E m x cs) : cs[1]? = some (Value.int .i64 x.Cell) := by
  obtain rfl := e
  exact rfl
theorem T_explore_Do.g2 {m : Heap} {x : T_explore_Do} {cs : List Value} (e : T_explore_Do.E m x cs) : cs[2]? = some (Value.int .i64 x.By) := by
  obtain rfl := e
  exact rfl
theorem T_roadref4_Do.g0 {m : Heap} {x : T_roadref4_Do} {cs : List Value} (e : T_roadref4_Do.E m x cs) : cs[0]? = some (Value.int .i64 x.Kind) := by
  obtain rfl := e
  exact rfl
theorem T_roadref4_Do.g1 {m : Heap} {x : T_roadref4_Do} {cs : List Value} (e : T_roadref4_Do.E m x cs) : cs[1]? = some (Value.int .i64 x.Cell) := by
  obtain rfl := e
  exact rfl
theorem T_roadref4_Do.g2 {m : Heap} {x : T_roadref4_Do} {cs : List Value} (e : T_roadref4_Do.E m x cs) : cs[2]? = some (Value.int .i64 x.By) := by
  obtain rfl := e
  exact rfl
theorem T_roadref4_Step.g0 {m : Heap} {x : T_roadref4_Step} {cs : List Value} (e : T_roadref4_Step.E m x cs) : cs[0]? = some (Value.int .i64 x.Who) := by
  obtain rfl := e
  exact rfl
theorem T_roadref4_Step.g1 {m : Heap} {x : T_roadref4_Step} {cs : List Value} (e : T_roadref4_Step.E m x cs) : cs[1]? = some (Value.int .i64 x.Reads) := by
  obtain rfl := e
  exact rfl
theorem T_roadref4_Step.g2 {m : Heap} {x : T_roadref4_Step} {cs : List Value} (e : T_roadref4_Step.E m x cs) : cs[2]? = some (Value.int .i64 x.Writes) := by
  obtain rfl := e
  exact rfl

/-! ### 112 slices.Grow[[]roadstead/explore.Do,roadstead/explore.Do] -/
def slices_Grow_112.post (W : Nat → Prop) (h0 m0 : Heap) (r : (List T_explore_Do)) (v : Value) (h : Heap) : Prop := ∃ m A0 n0 c0, Hold W h0 m0 h m [rR (aE T_explore_Do.T) A0 c0 r] ∧ v = .slice A0 n0 c0 ∧ n0 = List.length r
noncomputable def slices_Grow_112 (x1 : Int) : Option (List T_explore_Do) := if gro 24 x1 = true then some [] else none
set_option maxRecDepth 100000 in
theorem slices_Grow_112.walk {W : Nat → Prop} {h m : Heap} {x1 : Int} (O : Hold W h m h m []) {r : List T_explore_Do} (e : slices_Grow_112 x1 = some r) : Run Try.prog 112 #[Value.slice none 0 0, Value.int .i64 x1] h (slices_Grow_112.post W h m r) := by
  unfold slices_Grow_112 at e
  have S : St No h m h m := .refl O.s
  obtain ⟨g, e⟩ := guard_e e
  cases e
  refine f112.run ?_
  unfold f112.runT
  refine split_dec (fun c => absurd c (by have := of_decide_eq_true (show decide _ = true from g); omega)) (fun _ => ?_)
  refine f112.j0_in ?_
  unfold f112.j0T
  exact grow_nil S rfl (by decide) g (fun A' c' h' o' x' => ⟨m, _, _, _, O.add (R := rR (aE T_explore_Do.T) A' c' []) (St.of_ext O.s x') o'.rowP o'.newNo, rfl, rfl⟩)

/-! ### 99 slices.Concat[[]roadstead/explore.Do,roadstead/explore.Do] -/
def slices_Concat_99.post (W : Nat → Prop) (h0 m0 : Heap) (r : (List T_explore_Do)) (v : Value) (h : Heap) : Prop := ∃ m A0 n0 c0, Hold W h0 m0 h m [rR (aE T_explore_Do.T) A0 c0 r] ∧ v = .slice A0 n0 c0 ∧ n0 = List.length r
inductive slices_Concat_99.l1_k.Pt where
  | l1 (a_6 : List T_explore_Do) (a_25 : List (List T_explore_Do)) (x_26 : Int) (x_27 : Int)
noncomputable def slices_Concat_99.l1_k.body (go : (p : slices_Concat_99.l1_k.Pt) → Option ((List T_explore_Do))) : (p : slices_Concat_99.l1_k.Pt) → Option ((List T_explore_Do))
  | .l1 a_6 a_25 x_26 x_27 => if x_27 < x_26 then (Option.bind (gi a_25 x_27) fun y1 => Option.bind (ap 24 a_6 y1) fun l8 => (go (.l1 l8 a_25 x_26 (IntKind.wrap .i64 (x_27 + (1 : Int)))))) else (some (a_6))
theorem slices_Concat_99.l1_k.mono : MonoF (β := fun _ => ((List T_explore_Do))) slices_Concat_99.l1_k.body := fun f g hfg p => match p with
  | .l1 a_6 a_25 x_26 x_27 => LeO.ite (LeO.bind (LeO.refl _) fun y1 => LeO.bind (LeO.refl _) fun l8 => (hfg _)) (LeO.refl _)
noncomputable def slices_Concat_99.l1_k.go (p : slices_Concat_99.l1_k.Pt) : Option ((List T_explore_Do)) := fixF (β := fun _ => ((List T_explore_Do))) slices_Concat_99.l1_k.body p
noncomputable def slices_Concat_99.l1 (a_6 : List T_explore_Do) (a_25 : List (List T_explore_Do)) (x_26 : Int) (x_27 : Int) : Option ((List T_explore_Do)) := slices_Concat_99.l1_k.go (.l1 a_6 a_25 x_26 x_27)
theorem slices_Concat_99.l1_eq (a_6 : List T_explore_Do) (a_25 : List (List T_explore_Do)) (x_26 : Int) (x_27 : Int) : slices_Concat_99.l1 a_6 a_25 x_26 x_27 = if x_27 < x_26 then (Option.bind (gi a_25 x_27) fun y1 => Option.bind (ap 24 a_6 y1) fun l8 => (slices_Concat_99.l1 l8 a_25 x_26 (IntKind.wrap .i64 (x_27 + (1 : Int))))) else (some (a_6)) := fixF_eq slices_Concat_99.l1_k.mono _
def slices_Concat_99.l1_k.I : (p : slices_Concat_99.l1_k.Pt) → ((List T_explore_Do)) → Prop
  | .l1 a_6 a_25 x_26 x_27, r => ∀ (W : Nat → Prop) (h0 m0 h m : Heap) (A_6 : Option Addr) (n_6 c_6 : Nat) (A_25 : Option Addr) (n_25 c_25 : Nat) (O : Hold W h0 m0 h m [rR (aE T_explore_Do.T) A_6 c_6 a_6]) (ne_6 : n_6 = List.length a_6) (ne_25 : n_25 = List.length a_25) (k_25 : List.length a_25 ≤ c_25) (r_25 : Rd 1 (eRow 3 T_explore_Do.E) m A_25 a_25), f99.l1 (slices_Concat_99.post W h0 m0 r) A_6 n_6 c_6 A_25 n_25 c_25 x_26 x_27 h
set_option maxRecDepth 100000 in
theorem slices_Concat_99.l1_k.step_l1 (go : (p : slices_Concat_99.l1_k.Pt) → Option ((List T_explore_Do))) (ih : ∀ p r, go p = some r → slices_Concat_99.l1_k.I p r) (a_6 : List T_explore_Do) (a_25 : List (List T_explore_Do)) (x_26 : Int) (x_27 : Int) (r : (List T_explore_Do)) (e : slices_Concat_99.l1_k.body go (.l1 a_6 a_25 x_26 x_27) = some r) : slices_Concat_99.l1_k.I (.l1 a_6 a_25 x_26 x_27) r := by
  unfold slices_Concat_99.l1_k.body at e
  intro W h0 m0 h m A_6 n_6 c_6 A_25 n_25 c_25 O ne_6 ne_25 k_25 r_25
  subst ne_6
  subst ne_25
  refine f99.l1_in ?_
  unfold f99.l1T
  refine split_dec_e e (fun c17 e => ?_) (fun c17 e => ?_)
  · obtain ⟨y1, g2, e⟩ := bind_e e
    refine r_25.addr rfl g2 fun a3 cs4 ha5 hc6 he7 => ?_
    obtain ⟨Acs4_0, ccs4_0, rfl, kcs4_0, rcs4_0⟩ := id he7
    refine ⟨_, ld0 O.s hc6 rfl, _, _, _, rfl, ?_⟩
    obtain ⟨l8, g9, e⟩ := bind_e e
    refine O.app 0 rfl rfl rfl (Rd.srcE rcs4_0 T_explore_Do.T O.s rfl) (by decide) g9 fun A10 c11 h12 O13 => ?_
    refine ⟨_, _, _, rfl, ?_⟩
    have O16 := O13.nm
    exact (ih _ _ e) _ _ _ _ _ _ _ _ _ _ _ (O16.pick [0]).nm rfl rfl k_25 r_25
  · cases e
    exact ⟨_, _, _, _, O.pick [0], rfl, rfl⟩
theorem slices_Concat_99.l1_k.all {p : slices_Concat_99.l1_k.Pt} {r : ((List T_explore_Do))} (e : slices_Concat_99.l1_k.go p = some r) : slices_Concat_99.l1_k.I p r := fixF_ind (β := fun _ => ((List T_explore_Do))) slices_Concat_99.l1_k.mono (I := slices_Concat_99.l1_k.I) (fun go ih p r e => match p with
  | .l1 a_6 a_25 x_26 x_27 => slices_Concat_99.l1_k.step_l1 go ih a_6 a_25 x_26 x_27 r e
  ) e
theorem slices_Concat_99.l1.walk {W : Nat → Prop} {h0 m0 h m : Heap} {A_6 : Option Addr} {n_6 c_6 : Nat} {A_25 : Option Addr} {n_25 c_25 : Nat} {a_6 : List T_explore_Do} {a_25 : List (List T_explore_Do)} {x_26 : Int} {x_27 : Int} (O : Hold W h0 m0 h m [rR (aE T_explore_Do.T) A_6 c_6 a_6]) (ne_6 : n_6 = List.length a_6) (ne_25 : n_25 = List.length a_25) (k_25 : List.length a_25 ≤ c_25) (r_25 : Rd 1 (eRow 3 T_explore_Do.E) m A_25 a_25) {r : (List T_explore_Do)} (e : slices_Concat_99.l1 a_6 a_25 x_26 x_27 = some r) : f99.l1 (slices_Concat_99.post W h0 m0 r) A_6 n_6 c_6 A_25 n_25 c_25 x_26 x_27 h := slices_Concat_99.l1_k.all (p := .l1 a_6 a_25 x_26 x_27) e W h0 m0 h m A_6 n_6 c_6 A_25 n_25 c_25 O ne_6 ne_25 k_25 r_25

inductive slices_Concat_99.l0_k.Pt where
  | l0 (a_0 : List (List T_explore_Do)) (x_3 : Int) (a_9 : List (List T_explore_Do)) (x_10 : Int) (x_11 : Int)
noncomputable def slices_Concat_99.l0_k.body (go : (p : slices_Concat_99.l0_k.Pt) → Option ((List T_explore_Do))) : (p : slices_Concat_99.l0_k.Pt) → Option ((List T_explore_Do))
  | .l0 a_0 x_3 a_9 x_10 x_11 => if x_11 < x_10 then (Option.bind (gi a_9 x_11) fun y1 => if (IntKind.wrap .i64 (x_3 + (((List.length y1) : Nat) : Int))) < (0 : Int) then ((none : Option _)) else ((go (.l0 a_0 (IntKind.wrap .i64 (x_3 + (((List.length y1) : Nat) : Int))) a_9 x_10 (IntKind.wrap .i64 (x_11 + (1 : Int))))))) else (Option.bind (slices_Grow_112 x_3) fun y9 => (slices_Concat_99.l1 y9 a_0 (((List.length a_0) : Nat) : Int) (0 : Int)))
theorem slices_Concat_99.l0_k.mono : MonoF (β := fun _ => ((List T_explore_Do))) slices_Concat_99.l0_k.body := fun f g hfg p => match p with
  | .l0 a_0 x_3 a_9 x_10 x_11 => LeO.ite (LeO.bind (LeO.refl _) fun y1 => LeO.ite (LeO.refl _) ((hfg _))) (LeO.bind (LeO.refl _) fun y9 => (LeO.refl _))
noncomputable def slices_Concat_99.l0_k.go (p : slices_Concat_99.l0_k.Pt) : Option ((List T_explore_Do)) := fixF (β := fun _ => ((List T_explore_Do))) slices_Concat_99.l0_k.body p
noncomputable def slices_Concat_99.l0 (a_0 : List (List T_explore_Do)) (x_3 : Int) (a_9 : List (List T_explore_Do)) (x_10 : Int) (x_11 : Int) : Option ((List T_explore_Do)) := slices_Concat_99.l0_k.go (.l0 a_0 x_3 a_9 x_10 x_11)
theorem slices_Concat_99.l0_eq (a_0 : List (List T_explore_Do)) (x_3 : Int) (a_9 : List (List T_explore_Do)) (x_10 : Int) (x_11 : Int) : slices_Concat_99.l0 a_0 x_3 a_9 x_10 x_11 = if x_11 < x_10 then (Option.bind (gi a_9 x_11) fun y1 => if (IntKind.wrap .i64 (x_3 + (((List.length y1) : Nat) : Int))) < (0 : Int) then ((none : Option _)) else ((slices_Concat_99.l0 a_0 (IntKind.wrap .i64 (x_3 + (((List.length y1) : Nat) : Int))) a_9 x_10 (IntKind.wrap .i64 (x_11 + (1 : Int)))))) else (Option.bind (slices_Grow_112 x_3) fun y9 => (slices_Concat_99.l1 y9 a_0 (((List.length a_0) : Nat) : Int) (0 : Int))) := fixF_eq slices_Concat_99.l0_k.mono _
def slices_Concat_99.l0_k.I : (p : slices_Concat_99.l0_k.Pt) → ((List T_explore_Do)) → Prop
  | .l0 a_0 x_3 a_9 x_10 x_11, r => ∀ (W : Nat → Prop) (h0 m0 h m : Heap) (A_0 : Option Addr) (n_0 c_0 : Nat) (A_9 : Option Addr) (n_9 c_9 : Nat) (O : Hold W h0 m0 h m []) (ne_0 : n_0 = List.length a_0) (k_0 : List.length a_0 ≤ c_0) (r_0 : Rd 1 (eRow 3 T_explore_Do.E) m A_0 a_0) (ne_9 : n_9 = List.length a_9) (k_9 : List.length a_9 ≤ c_9) (r_9 : Rd 1 (eRow 3 T_explore_Do.E) m A_9 a_9), f99.l0 (slices_Concat_99.post W h0 m0 r) A_0 n_0 c_0 x_3 A_9 n_9 c_9 x_10 x_11 h
set_option maxRecDepth 100000 in
theorem slices_Concat_99.l0_k.step_l0 (go : (p : slices_Concat_99.l0_k.Pt) → Option ((List T_explore_Do))) (ih : ∀ p r, go p = some r → slices_Concat_99.l0_k.I p r) (a_0 : List (List T_explore_Do)) (x_3 : Int) (a_9 : List (List T_explore_Do)) (x_10 : Int) (x_11 : Int) (r : (List T_explore_Do)) (e : slices_Concat_99.l0_k.body go (.l0 a_0 x_3 a_9 x_10 x_11) = some r) : slices_Concat_99.l0_k.I (.l0 a_0 x_3 a_9 x_10 x_11) r := by
  unfold slices_Concat_99.l0_k.body at e
  intro W h0 m0 h m A_0 n_0 c_0 A_9 n_9 c_9 O ne_0 k_0 r_0 ne_9 k_9 r_9
  subst ne_0
  subst ne_9
  refine f99.l0_in ?_
  unfold f99.l0T
  refine split_dec_e e (fun c21 e => ?_) (fun c21 e => ?_)
  · obtain ⟨y1, g2, e⟩ := bind_e e
    refine r_9.addr rfl g2 fun a3 cs4 ha5 hc6 he7 => ?_
    obtain ⟨Acs4_0, ccs4_0, rfl, kcs4_0, rcs4_0⟩ := id he7
    refine ⟨_, ld0 O.s hc6 rfl, _, _, _, rfl, ?_⟩
    refine split_dec_e e (fun c8 e => ?_) (fun c8 e => ?_)
    · cases e
    · exact (ih _ _ e) _ _ _ _ _ _ _ _ _ _ _ (O.pick []).nm rfl k_0 r_0 rfl k_9 r_9
  · obtain ⟨y9, g10, e⟩ := bind_e e
    refine (slices_Grow_112.walk (Hold.start (W := No) O.s)  g10).mono ?_
    rintro _ h11 ⟨m12, A15, n16, c17, Q13, rfl, ne18⟩
    have O20 := Hold.nm (O.retC Q13 (vfs_cons (rR_vf (aE_vf (fun _ _ _ _ h => T_explore_Do.keep h))) vfs_nil))
    subst ne18
    refine ⟨_, _, _, rfl, ?_⟩
    exact slices_Concat_99.l1.walk (O20.pick [0]).nm rfl rfl k_0 r_0 e
theorem slices_Concat_99.l0_k.all {p : slices_Concat_99.l0_k.Pt} {r : ((List T_explore_Do))} (e : slices_Concat_99.l0_k.go p = some r) : slices_Concat_99.l0_k.I p r := fixF_ind (β := fun _ => ((List T_explore_Do))) slices_Concat_99.l0_k.mono (I := slices_Concat_99.l0_k.I) (fun go ih p r e => match p with
  | .l0 a_0 x_3 a_9 x_10 x_11 => slices_Concat_99.l0_k.step_l0 go ih a_0 x_3 a_9 x_10 x_11 r e
  ) e
theorem slices_Concat_99.l0.walk {W : Nat → Prop} {h0 m0 h m : Heap} {A_0 : Option Addr} {n_0 c_0 : Nat} {A_9 : Option Addr} {n_9 c_9 : Nat} {a_0 : List (List T_explore_Do)} {x_3 : Int} {a_9 : List (List T_explore_Do)} {x_10 : Int} {x_11 : Int} (O : Hold W h0 m0 h m []) (ne_0 : n_0 = List.length a_0) (k_0 : List.length a_0 ≤ c_0) (r_0 : Rd 1 (eRow 3 T_explore_Do.E) m A_0 a_0) (ne_9 : n_9 = List.length a_9) (k_9 : List.length a_9 ≤ c_9) (r_9 : Rd 1 (eRow 3 T_explore_Do.E) m A_9 a_9) {r : (List T_explore_Do)} (e : slices_Concat_99.l0 a_0 x_3 a_9 x_10 x_11 = some r) : f99.l0 (slices_Concat_99.post W h0 m0 r) A_0 n_0 c_0 x_3 A_9 n_9 c_9 x_10 x_11 h := slices_Concat_99.l0_k.all (p := .l0 a_0 x_3 a_9 x_10 x_11) e W h0 m0 h m A_0 n_0 c_0 A_9 n_9 c_9 O ne_0 k_0 r_0 ne_9 k_9 r_9

noncomputable def slices_Concat_99 (a_0 : List (List T_explore_Do)) : Option ((List T_explore_Do)) :=
  (slices_Concat_99.l0 a_0 (0 : Int) a_0 (((List.length a_0) : Nat) : Int) (0 : Int))
set_option maxRecDepth 100000 in
theorem slices_Concat_99.walk {W : Nat → Prop} {h m : Heap} {A_0 : Option Addr} {n_0 c_0 : Nat} {a_0 : List (List T_explore_Do)} (O : Hold W h m h m []) (ne_0 : n_0 = List.length a_0) (k_0 : List.length a_0 ≤ c_0) (r_0 : Rd 1 (eRow 3 T_explore_Do.E) m A_0 a_0) {r : (List T_explore_Do)} (e : slices_Concat_99 a_0 = some r) : Run Try.prog 99 #[Value.slice A_0 n_0 c_0] h (slices_Concat_99.post W h m r) := by
  unfold slices_Concat_99 at e
  subst ne_0
  refine f99.run ?_
  unfold f99.runT
  exact slices_Concat_99.l0.walk (O.pick []).nm rfl k_0 r_0 rfl k_0 r_0 e
theorem slices_Concat_99.val (ls : List (List T_explore_Do)) (hl : ls.length ≤ 4611686018427387904) (hs : ls.flatten.length * 24 ≤ 140737488355328) : slices_Concat_99 ls = some ls.flatten := concat_val (B := 24) (by decide) (fun r a n i => slices_Concat_99.l1_eq r a n i) (fun a s b n i => slices_Concat_99.l0_eq a s b n i) (gr := slices_Grow_112) (fun _ => rfl) (fun _ => rfl) ls hl hs

/-! ### 58 roadstead/explore.Check -/
def explore_Check.post (W : Nat → Prop) (h0 m0 : Heap) (r : Int) (v : Value) (h : Heap) : Prop := ∃ m , Hold W h0 m0 h m [] ∧ v = .int .i64 r
inductive explore_Check.l0_k.Pt where
  | l0 (a_14 : List (List T_explore_Do)) (x_15 : Int) (x_16 : Int)
  | l1 (a_14 : List (List T_explore_Do)) (x_15 : Int) (x_16 : Int) (a_20 : List T_explore_Do) (x_21 : Int) (x_22 : Int)
  | j0 (y_6 : T_explore_Do) (a_14 : List (List T_explore_Do)) (x_15 : Int) (x_16 : Int) (a_20 : List T_explore_Do) (x_21 : Int) (x_22 : Int)
noncomputable def explore_Check.l0_k.body (go : (p : explore_Check.l0_k.Pt) → Option (Int)) : (p : explore_Check.l0_k.Pt) → Option (Int)
  | .l0 a_14 x_15 x_16 => if x_16 < x_15 then (Option.bind (gi a_14 x_16) fun y1 => (go (.l1 a_14 x_15 x_16 y1 (((List.length y1) : Nat) : Int) (0 : Int)))) else (some ((0 : Int)))
  | .l1 a_14 x_15 x_16 a_20 x_21 x_22 => if x_22 < x_21 then (Option.bind (gi a_20 x_22) fun y1 => if y1.Kind < (1 : Int) then (some ((3 : Int))) else (if y1.Kind > (4 : Int) then (some ((3 : Int))) else ((go (.j0 y1 a_14 x_15 x_16 a_20 x_21 x_22))))) else ((go (.l0 a_14 x_15 (IntKind.wrap .i64 (x_16 + (1 : Int))))))
  | .j0 y_6 a_14 x_15 x_16 a_20 x_21 x_22 => if y_6.Cell < (0 : Int) then (some ((1 : Int))) else (if y_6.Cell ≥ (4 : Int) then (some ((1 : Int))) else (if y_6.By < (-1000 : Int) then (some ((1 : Int))) else (if y_6.By > (1000 : Int) then (some ((1 : Int))) else ((go (.l1 a_14 x_15 x_16 a_20 x_21 (IntKind.wrap .i64 (x_22 + (1 : Int)))))))))
theorem explore_Check.l0_k.mono : MonoF (β := fun _ => (Int)) explore_Check.l0_k.body := fun f g hfg p => match p with
  | .l0 a_14 x_15 x_16 => LeO.ite (LeO.bind (LeO.refl _) fun y1 => (hfg _)) (LeO.refl _)
  | .l1 a_14 x_15 x_16 a_20 x_21 x_22 => LeO.ite (LeO.bind (LeO.refl _) fun y1 => LeO.ite (LeO.refl _) (LeO.ite (LeO.refl _) ((hfg _)))) ((hfg _))
  | .j0 y_6 a_14 x_15 x_16 a_20 x_21 x_22 => LeO.ite (LeO.refl _) (LeO.ite (LeO.refl _) (LeO.ite (LeO.refl _) (LeO.ite (LeO.refl _) ((hfg _)))))
noncomputable def explore_Check.l0_k.go (p : explore_Check.l0_k.Pt) : Option (Int) := fixF (β := fun _ => (Int)) explore_Check.l0_k.body p
noncomputable def explore_Check.l0 (a_14 : List (List T_explore_Do)) (x_15 : Int) (x_16 : Int) : Option (Int) := explore_Check.l0_k.go (.l0 a_14 x_15 x_16)
noncomputable def explore_Check.l1 (a_14 : List (List T_explore_Do)) (x_15 : Int) (x_16 : Int) (a_20 : List T_explore_Do) (x_21 : Int) (x_22 : Int) : Option (Int) := explore_Check.l0_k.go (.l1 a_14 x_15 x_16 a_20 x_21 x_22)
noncomputable def explore_Check.j0 (y_6 : T_explore_Do) (a_14 : List (List T_explore_Do)) (x_15 : Int) (x_16 : Int) (a_20 : List T_explore_Do) (x_21 : Int) (x_22 : Int) : Option (Int) := explore_Check.l0_k.go (.j0 y_6 a_14 x_15 x_16 a_20 x_21 x_22)
theorem explore_Check.l0_eq (a_14 : List (List T_explore_Do)) (x_15 : Int) (x_16 : Int) : explore_Check.l0 a_14 x_15 x_16 = if x_16 < x_15 then (Option.bind (gi a_14 x_16) fun y1 => (explore_Check.l1 a_14 x_15 x_16 y1 (((List.length y1) : Nat) : Int) (0 : Int))) else (some ((0 : Int))) := fixF_eq explore_Check.l0_k.mono _
theorem explore_Check.l1_eq (a_14 : List (List T_explore_Do)) (x_15 : Int) (x_16 : Int) (a_20 : List T_explore_Do) (x_21 : Int) (x_22 : Int) : explore_Check.l1 a_14 x_15 x_16 a_20 x_21 x_22 = if x_22 < x_21 then (Option.bind (gi a_20 x_22) fun y1 => if y1.Kind < (1 : Int) then (some ((3 : Int))) else (if y1.Kind > (4 : Int) then (some ((3 : Int))) else ((explore_Check.j0 y1 a_14 x_15 x_16 a_20 x_21 x_22)))) else ((explore_Check.l0 a_14 x_15 (IntKind.wrap .i64 (x_16 + (1 : Int))))) := fixF_eq explore_Check.l0_k.mono _
theorem explore_Check.j0_eq (y_6 : T_explore_Do) (a_14 : List (List T_explore_Do)) (x_15 : Int) (x_16 : Int) (a_20 : List T_explore_Do) (x_21 : Int) (x_22 : Int) : explore_Check.j0 y_6 a_14 x_15 x_16 a_20 x_21 x_22 = if y_6.Cell < (0 : Int) then (some ((1 : Int))) else (if y_6.Cell ≥ (4 : Int) then (some ((1 : Int))) else (if y_6.By < (-1000 : Int) then (some ((1 : Int))) else (if y_6.By > (1000 : Int) then (some ((1 : Int))) else ((explore_Check.l1 a_14 x_15 x_16 a_20 x_21 (IntKind.wrap .i64 (x_22 + (1 : Int)))))))) := fixF_eq explore_Check.l0_k.mono _
def explore_Check.l0_k.I : (p : explore_Check.l0_k.Pt) → (Int) → Prop
  | .l0 a_14 x_15 x_16, r => ∀ (W : Nat → Prop) (h0 m0 h m : Heap) (A_14 : Option Addr) (n_14 c_14 : Nat) (O : Hold W h0 m0 h m []) (ne_14 : n_14 = List.length a_14) (k_14 : List.length a_14 ≤ c_14) (r_14 : Rd 1 (eRow 3 T_explore_Do.E) m A_14 a_14), f58.l0 (explore_Check.post W h0 m0 r) A_14 n_14 c_14 x_15 x_16 h
  | .l1 a_14 x_15 x_16 a_20 x_21 x_22, r => ∀ (W : Nat → Prop) (h0 m0 h m : Heap) (A_14 : Option Addr) (n_14 c_14 : Nat) (A_20 : Option Addr) (n_20 c_20 : Nat) (O : Hold W h0 m0 h m []) (ne_14 : n_14 = List.length a_14) (k_14 : List.length a_14 ≤ c_14) (r_14 : Rd 1 (eRow 3 T_explore_Do.E) m A_14 a_14) (ne_20 : n_20 = List.length a_20) (k_20 : List.length a_20 ≤ c_20) (r_20 : Rd 3 T_explore_Do.E m A_20 a_20), f58.l1 (explore_Check.post W h0 m0 r) A_14 n_14 c_14 x_15 x_16 A_20 n_20 c_20 x_21 x_22 h
  | .j0 y_6 a_14 x_15 x_16 a_20 x_21 x_22, r => ∀ (W : Nat → Prop) (h0 m0 h m : Heap) (bk_6 : Nat) (cs_6 : List Value) (A_14 : Option Addr) (n_14 c_14 : Nat) (A_20 : Option Addr) (n_20 c_20 : Nat) (O : Hold W h0 m0 h m [rV bk_6 105 cs_6]) (e_6 : T_explore_Do.E m y_6 cs_6) (ne_14 : n_14 = List.length a_14) (k_14 : List.length a_14 ≤ c_14) (r_14 : Rd 1 (eRow 3 T_explore_Do.E) m A_14 a_14) (ne_20 : n_20 = List.length a_20) (k_20 : List.length a_20 ≤ c_20) (r_20 : Rd 3 T_explore_Do.E m A_20 a_20), f58.j0 (explore_Check.post W h0 m0 r) (⟨bk_6, 0, none⟩ : Addr) A_14 n_14 c_14 x_15 x_16 A_20 n_20 c_20 x_21 x_22 h
set_option maxRecDepth 100000 in
theorem explore_Check.l0_k.step_l0 (go : (p : explore_Check.l0_k.Pt) → Option (Int)) (ih : ∀ p r, go p = some r → explore_Check.l0_k.I p r) (a_14 : List (List T_explore_Do)) (x_15 : Int) (x_16 : Int) (r : Int) (e : explore_Check.l0_k.body go (.l0 a_14 x_15 x_16) = some r) : explore_Check.l0_k.I (.l0 a_14 x_15 x_16) r := by
  unfold explore_Check.l0_k.body at e
  intro W h0 m0 h m A_14 n_14 c_14 O ne_14 k_14 r_14
  subst ne_14
  refine f58.l0_in ?_
  unfold f58.l0T
  refine split_dec_e e (fun c8 e => ?_) (fun c8 e => ?_)
  · obtain ⟨y1, g2, e⟩ := bind_e e
    refine r_14.addr rfl g2 fun a3 cs4 ha5 hc6 he7 => ?_
    obtain ⟨Acs4_0, ccs4_0, rfl, kcs4_0, rcs4_0⟩ := id he7
    refine ⟨_, ld0 O.s hc6 rfl, _, _, _, rfl, ?_⟩
    exact (ih _ _ e) _ _ _ _ _ _ _ _ _ _ _ (O.pick []).nm rfl k_14 r_14 rfl kcs4_0 rcs4_0
  · cases e
    exact ⟨_, O.pick [], rfl⟩
set_option maxRecDepth 100000 in
theorem explore_Check.l0_k.step_l1 (go : (p : explore_Check.l0_k.Pt) → Option (Int)) (ih : ∀ p r, go p = some r → explore_Check.l0_k.I p r) (a_14 : List (List T_explore_Do)) (x_15 : Int) (x_16 : Int) (a_20 : List T_explore_Do) (x_21 : Int) (x_22 : Int) (r : Int) (e : explore_Check.l0_k.body go (.l1 a_14 x_15 x_16 a_20 x_21 x_22) = some r) : explore_Check.l0_k.I (.l1 a_14 x_15 x_16 a_20 x_21 x_22) r := by
  unfold explore_Check.l0_k.body at e
  intro W h0 m0 h m A_14 n_14 c_14 A_20 n_20 c_20 O ne_14 k_14 r_14 ne_20 k_20 r_20
  subst ne_14
  subst ne_20
  refine f58.l1_in ?_
  unfold f58.l1T
  refine split_dec_e e (fun c19 e => ?_) (fun c19 e => ?_)
  · obtain ⟨y1, g2, e⟩ := bind_e e
    refine r_20.addr rfl g2 fun a3 cs4 ha5 hc6 he7 => ?_
    refine ⟨_, ldAn O.s hc6 rfl, ?_⟩
    refine O.new fun h8 x9 O10 => ?_
    refine ⟨_, rfl, (T_explore_Do.T.len _ _ _ he7), ?_⟩
    refine O10.stA 0 rfl (T_explore_Do.T.len _ _ _ he7) (T_explore_Do.T.flat _ _ _ he7) fun h12 O13 => ?_
    refine ⟨_, ld0 (Sub.refl _) (O13.all 0 rfl) (T_explore_Do.g0 he7), _, rfl, ?_⟩
    refine split_dec_e e (fun c18 e => ?_) (fun c18 e => ?_)
    · have O14 := O13.nm
      cases e
      exact ⟨_, O14.pick [], rfl⟩
    · refine ⟨_, ld0 (Sub.refl _) (O13.all 0 rfl) (T_explore_Do.g0 he7), _, rfl, ?_⟩
      refine split_dec_e e (fun c17 e => ?_) (fun c17 e => ?_)
      · have O15 := O13.nm
        cases e
        exact ⟨_, O15.pick [], rfl⟩
      · have O16 := O13.nm
        exact (ih _ _ e) _ _ _ _ _ _ _ _ _ _ _ _ _ (O16.pick [0]).nm he7 rfl k_14 r_14 rfl k_20 r_20
  · exact (ih _ _ e) _ _ _ _ _ _ _ _ (O.pick []).nm rfl k_14 r_14
set_option maxRecDepth 100000 in
theorem explore_Check.l0_k.step_j0 (go : (p : explore_Check.l0_k.Pt) → Option (Int)) (ih : ∀ p r, go p = some r → explore_Check.l0_k.I p r) (y_6 : T_explore_Do) (a_14 : List (List T_explore_Do)) (x_15 : Int) (x_16 : Int) (a_20 : List T_explore_Do) (x_21 : Int) (x_22 : Int) (r : Int) (e : explore_Check.l0_k.body go (.j0 y_6 a_14 x_15 x_16 a_20 x_21 x_22) = some r) : explore_Check.l0_k.I (.j0 y_6 a_14 x_15 x_16 a_20 x_21 x_22) r := by
  unfold explore_Check.l0_k.body at e
  intro W h0 m0 h m bk_6 cs_6 A_14 n_14 c_14 A_20 n_20 c_20 O e_6 ne_14 k_14 r_14 ne_20 k_20 r_20
  subst ne_14
  subst ne_20
  refine f58.j0_in ?_
  unfold f58.j0T
  refine ⟨_, ldk (k := 1) (Sub.refl _) (O.all 0 rfl) (T_explore_Do.g1 e_6), _, rfl, ?_⟩
  refine split_dec_e e (fun c4 e => ?_) (fun c4 e => ?_)
  · cases e
    exact ⟨_, O.pick [], rfl⟩
  · refine ⟨_, ldk (k := 1) (Sub.refl _) (O.all 0 rfl) (T_explore_Do.g1 e_6), _, rfl, ?_⟩
    refine split_dec_e e (fun c3 e => ?_) (fun c3 e => ?_)
    · cases e
      exact ⟨_, O.pick [], rfl⟩
    · refine ⟨_, ldk (k := 2) (Sub.refl _) (O.all 0 rfl) (T_explore_Do.g2 e_6), _, rfl, ?_⟩
      refine split_dec_e e (fun c2 e => ?_) (fun c2 e => ?_)
      · cases e
        exact ⟨_, O.pick [], rfl⟩
      · refine ⟨_, ldk (k := 2) (Sub.refl _) (O.all 0 rfl) (T_explore_Do.g2 e_6), _, rfl, ?_⟩
        refine split_dec_e e (fun c1 e => ?_) (fun c1 e => ?_)
        · cases e
          exact ⟨_, O.pick [], rfl⟩
        · exact (ih _ _ e) _ _ _ _ _ _ _ _ _ _ _ (O.pick []).nm rfl k_14 r_14 rfl k_20 r_20
theorem explore_Check.l0_k.all {p : explore_Check.l0_k.Pt} {r : (Int)} (e : explore_Check.l0_k.go p = some r) : explore_Check.l0_k.I p r := fixF_ind (β := fun _ => (Int)) explore_Check.l0_k.mono (I := explore_Check.l0_k.I) (fun go ih p r e => match p with
  | .l0 a_14 x_15 x_16 => explore_Check.l0_k.step_l0 go ih a_14 x_15 x_16 r e
  | .l1 a_14 x_15 x_16 a_20 x_21 x_22 => explore_Check.l0_k.step_l1 go ih a_14 x_15 x_16 a_20 x_21 x_22 r e
  | .j0 y_6 a_14 x_15 x_16 a_20 x_21 x_22 => explore_Check.l0_k.step_j0 go ih y_6 a_14 x_15 x_16 a_20 x_21 x_22 r e
  ) e
theorem explore_Check.l0.walk {W : Nat → Prop} {h0 m0 h m : Heap} {A_14 : Option Addr} {n_14 c_14 : Nat} {a_14 : List (List T_explore_Do)} {x_15 : Int} {x_16 : Int} (O : Hold W h0 m0 h m []) (ne_14 : n_14 = List.length a_14) (k_14 : List.length a_14 ≤ c_14) (r_14 : Rd 1 (eRow 3 T_explore_Do.E) m A_14 a_14) {r : Int} (e : explore_Check.l0 a_14 x_15 x_16 = some r) : f58.l0 (explore_Check.post W h0 m0 r) A_14 n_14 c_14 x_15 x_16 h := explore_Check.l0_k.all (p := .l0 a_14 x_15 x_16) e W h0 m0 h m A_14 n_14 c_14 O ne_14 k_14 r_14
theorem explore_Check.l1.walk {W : Nat → Prop} {h0 m0 h m : Heap} {A_14 : Option Addr} {n_14 c_14 : Nat} {A_20 : Option Addr} {n_20 c_20 : Nat} {a_14 : List (List T_explore_Do)} {x_15 : Int} {x_16 : Int} {a_20 : List T_explore_Do} {x_21 : Int} {x_22 : Int} (O : Hold W h0 m0 h m []) (ne_14 : n_14 = List.length a_14) (k_14 : List.length a_14 ≤ c_14) (r_14 : Rd 1 (eRow 3 T_explore_Do.E) m A_14 a_14) (ne_20 : n_20 = List.length a_20) (k_20 : List.length a_20 ≤ c_20) (r_20 : Rd 3 T_explore_Do.E m A_20 a_20) {r : Int} (e : explore_Check.l1 a_14 x_15 x_16 a_20 x_21 x_22 = some r) : f58.l1 (explore_Check.post W h0 m0 r) A_14 n_14 c_14 x_15 x_16 A_20 n_20 c_20 x_21 x_22 h := explore_Check.l0_k.all (p := .l1 a_14 x_15 x_16 a_20 x_21 x_22) e W h0 m0 h m A_14 n_14 c_14 A_20 n_20 c_20 O ne_14 k_14 r_14 ne_20 k_20 r_20
theorem explore_Check.j0.walk {W : Nat → Prop} {h0 m0 h m : Heap} {bk_6 : Nat} {cs_6 : List Value} {A_14 : Option Addr} {n_14 c_14 : Nat} {A_20 : Option Addr} {n_20 c_20 : Nat} {y_6 : T_explore_Do} {a_14 : List (List T_explore_Do)} {x_15 : Int} {x_16 : Int} {a_20 : List T_explore_Do} {x_21 : Int} {x_22 : Int} (O : Hold W h0 m0 h m [rV bk_6 105 cs_6]) (e_6 : T_explore_Do.E m y_6 cs_6) (ne_14 : n_14 = List.length a_14) (k_14 : List.length a_14 ≤ c_14) (r_14 : Rd 1 (eRow 3 T_explore_Do.E) m A_14 a_14) (ne_20 : n_20 = List.length a_20) (k_20 : List.length a_20 ≤ c_20) (r_20 : Rd 3 T_explore_Do.E m A_20 a_20) {r : Int} (e : explore_Check.j0 y_6 a_14 x_15 x_16 a_20 x_21 x_22 = some r) : f58.j0 (explore_Check.post W h0 m0 r) (⟨bk_6, 0, none⟩ : Addr) A_14 n_14 c_14 x_15 x_16 A_20 n_20 c_20 x_21 x_22 h := explore_Check.l0_k.all (p := .j0 y_6 a_14 x_15 x_16 a_20 x_21 x_22) e W h0 m0 h m bk_6 cs_6 A_14 n_14 c_14 A_20 n_20 c_20 O e_6 ne_14 k_14 r_14 ne_20 k_20 r_20

noncomputable def explore_Check (a_0 : List (List T_explore_Do)) : Option (Int) :=
  if (((List.length a_0) : Nat) : Int) > (4 : Int) then (some ((2 : Int))) else (Option.bind (slices_Concat_99 a_0) fun y1 => if (((List.length y1) : Nat) : Int) > (12 : Int) then (some ((2 : Int))) else ((explore_Check.l0 a_0 (((List.length a_0) : Nat) : Int) (0 : Int))))
set_option maxRecDepth 100000 in
theorem explore_Check.walk {W : Nat → Prop} {h m : Heap} {A_0 : Option Addr} {n_0 c_0 : Nat} {a_0 : List (List T_explore_Do)} (O : Hold W h m h m []) (ne_0 : n_0 = List.length a_0) (k_0 : List.length a_0 ≤ c_0) (r_0 : Rd 1 (eRow 3 T_explore_Do.E) m A_0 a_0) {r : Int} (e : explore_Check a_0 = some r) : Run Try.prog 58 #[Value.slice A_0 n_0 c_0] h (explore_Check.post W h m r) := by
  unfold explore_Check at e
  subst ne_0
  refine f58.run ?_
  unfold f58.runT
  refine split_dec_e e (fun c14 e => ?_) (fun c14 e => ?_)
  · cases e
    exact ⟨_, O.pick [], rfl⟩
  · obtain ⟨y1, g2, e⟩ := bind_e e
    refine (slices_Concat_99.walk (Hold.start (W := No) O.s) rfl k_0 r_0 g2).mono ?_
    rintro _ h3 ⟨m4, A7, n8, c9, Q5, rfl, ne10⟩
    have O12 := Hold.nm (O.retC Q5 (vfs_cons (rR_vf (aE_vf (fun _ _ _ _ h => T_explore_Do.keep h))) vfs_nil))
    subst ne10
    refine ⟨_, _, _, rfl, ?_⟩
    refine split_dec_e e (fun c13 e => ?_) (fun c13 e => ?_)
    · cases e
      exact ⟨_, O12.pick [], rfl⟩
    · exact explore_Check.l0.walk (O12.pick []).nm rfl k_0 r_0 e

/-! ### 95 roadstead/explore.may -/
def explore_may.post (W : Nat → Prop) (h0 m0 : Heap) (r : Bool) (v : Value) (h : Heap) : Prop := ∃ m , Hold W h0 m0 h m [] ∧ v = .bool r
noncomputable def explore_may (a_0 : List (List T_explore_Do)) (y_1 : T_explore_State) (x_2 : Int) : Option (Bool) :=
  Option.bind (gi y_1.At x_2) fun y5 => Option.bind (gi a_0 x_2) fun y7 => if y5 = (((List.length y7) : Nat) : Int) then (some (false)) else (Option.bind (gi a_0 x_2) fun y15 => Option.bind (gi y_1.At x_2) fun y22 => Option.bind (gi y15 y22) fun y24 => if y24.Kind = (4 : Int) then (Option.bind (gi y_1.Cells y24.Cell) fun y38 => some ((y38 == y24.By))) else (some (true)))
set_option maxHeartbeats 4000000 in
set_option maxRecDepth 100000 in
theorem explore_may.walk {W : Nat → Prop} {h m : Heap} {A_0 : Option Addr} {n_0 c_0 : Nat} {cs_1 : List Value} {a_0 : List (List T_explore_Do)} {y_1 : T_explore_State} {x_2 : Int} (O : Hold W h m h m []) (ne_0 : n_0 = List.length a_0) (k_0 : List.length a_0 ≤ c_0) (r_0 : Rd 1 (eRow 3 T_explore_Do.E) m A_0 a_0) (e_1 : T_explore_State.E m y_1 cs_1) {r : Bool} (e : explore_may a_0 y_1 x_2 = some r) : Run Try.prog 95 #[Value.slice A_0 n_0 c_0, Value.agg cs_1.toArray, Value.int .i64 x_2] h (explore_may.post W h m r) := by
  unfold explore_may at e
  subst ne_0
  obtain ⟨rfl, qe_1_0, qe_1_1, qe_1_2⟩ := id e_1
  refine f95.run ?_
  unfold f95.runT
  refine O.new fun h1 x2 O3 => ?_
  obtain ⟨y5, g6, e⟩ := bind_e e
  refine ⟨gi_le g6, gi_ltn g6 qe_1_2, ?_⟩
  obtain ⟨y7, g8, e⟩ := bind_e e
  refine r_0.addr rfl g8 fun a9 cs10 ha11 hc12 he13 => ?_
  obtain ⟨Acs10_0, ccs10_0, rfl, kcs10_0, rcs10_0⟩ := id he13
  refine ⟨_, ldArr (n := 4) (off := 8) (f := (fun n : Int => Value.int .i64 n)) (d := (0 : Int)) (Sub.refl _) (O3.all 0 rfl) rfl qe_1_2 g6, _, rfl, ?_⟩
  refine ⟨_, ld0 O3.s hc12 rfl, _, _, _, rfl, ?_⟩
  refine split_eq_e e (fun c42 e => ?_) (fun c42 e => ?_)
  · have O14 := O3.nm
    cases e
    exact ⟨_, O14.pick [], rfl⟩
  · obtain ⟨y15, g16, e⟩ := bind_e e
    refine r_0.addr rfl g16 fun a17 cs18 ha19 hc20 he21 => ?_
    obtain ⟨Acs18_0, ccs18_0, rfl, kcs18_0, rcs18_0⟩ := id he21
    obtain ⟨y22, g23, e⟩ := bind_e e
    refine ⟨gi_le g23, gi_ltn g23 qe_1_2, ?_⟩
    refine ⟨_, ld0 O3.s hc20 rfl, _, _, _, rfl, ?_⟩
    refine ⟨_, ldArr (n := 4) (off := 8) (f := (fun n : Int => Value.int .i64 n)) (d := (0 : Int)) (Sub.refl _) (O3.all 0 rfl) rfl qe_1_2 g23, _, rfl, ?_⟩
    obtain ⟨y24, g25, e⟩ := bind_e e
    refine rcs18_0.addr rfl g25 fun a26 cs27 ha28 hc29 he30 => ?_
    refine ⟨_, ldAn O3.s hc29 rfl, ?_⟩
    refine O3.new fun h31 x32 O33 => ?_
    refine ⟨x32, ?_⟩
    refine ⟨_, rfl, (T_explore_Do.T.len _ _ _ he30), ?_⟩
    refine O33.stA 1 rfl (T_explore_Do.T.len _ _ _ he30) (T_explore_Do.T.flat _ _ _ he30) fun h35 O36 => ?_
    refine ⟨_, ld0 (Sub.refl _) (O36.all 1 rfl) (T_explore_Do.g0 he30), _, rfl, ?_⟩
    refine split_ne_e e (fun c41 e => ?_) (fun c41 e => ?_)
    · have O37 := O36.nm
      cases e
      exact ⟨_, O37.pick [], rfl⟩
    · refine ⟨_, ldk (k := 1) (Sub.refl _) (O36.all 1 rfl) (T_explore_Do.g1 he30), _, rfl, ?_⟩
      obtain ⟨y38, g39, e⟩ := bind_e e
      refine ⟨gi_le g39, gi_ltn g39 qe_1_0, ?_⟩
      refine ⟨_, ldArr0 (n := 4) (f := (fun n : Int => Value.int .i64 n)) (d := (0 : Int)) (Sub.refl _) (O36.all 0 rfl) rfl qe_1_0 g39, _, rfl, ?_⟩
      refine ⟨_, ldk (k := 2) (Sub.refl _) (O36.all 1 rfl) (T_explore_Do.g2 he30), _, rfl, ?_⟩
      have O40 := O36.nm
      cases e
      exact ⟨_, O40.pick [], rfl⟩

/-! ### 96 roadstead/explore.step -/
def explore_step.post (W : Nat → Prop) (h0 m0 : Heap) (r : T_explore_State) (v : Value) (h : Heap) : Prop := ∃ m cs0, Hold W h0 m0 h m [] ∧ v = .agg cs0.toArray ∧ T_explore_State.E m r cs0
noncomputable def explore_step.j0 (x_2 : Int) (y_4 : T_explore_State) (y_6 : T_explore_State) : Option (T_explore_State) :=
  Option.bind (gi y_4.At x_2) fun y1 => Option.bind (gi y_4.At x_2) fun y3 => Option.bind (some (List.set y_4.At (Int.toNat x_2) (IntKind.wrap .i64 (y1 + (1 : Int))))) fun l5 => some ((T_explore_State.mk y_4.Cells y_4.Hands l5))
set_option maxRecDepth 100000 in
theorem explore_step.j0.walk {W : Nat → Prop} {h0 m0 h m : Heap} {bk_4 : Nat} {cs_4 : List Value} {bk_6 : Nat} {cs_6 : List Value} {x_2 : Int} {y_4 : T_explore_State} {y_6 : T_explore_State} (O : Hold W h0 m0 h m [rV bk_4 101 cs_4, rV bk_6 101 cs_6]) (e_4 : T_explore_State.E m y_4 cs_4) (e_6 : T_explore_State.E m y_6 cs_6) {r : T_explore_State} (e : explore_step.j0 x_2 y_4 y_6 = some r) : f96.j0 (explore_step.post W h0 m0 r) x_2 (⟨bk_4, 0, none⟩ : Addr) (⟨bk_6, 0, none⟩ : Addr) h := by
  unfold explore_step.j0 at e
  obtain ⟨rfl, qe_4_0, qe_4_1, qe_4_2⟩ := id e_4
  obtain ⟨rfl, qe_6_0, qe_6_1, qe_6_2⟩ := id e_6
  refine f96.j0_in ?_
  unfold f96.j0T
  obtain ⟨y1, g2, e⟩ := bind_e e
  refine ⟨gi_le g2, gi_ltn g2 qe_4_2, ?_⟩
  refine ⟨_, ldArr (n := 4) (off := 8) (f := (fun n : Int => Value.int .i64 n)) (d := (0 : Int)) (Sub.refl _) (O.all 0 rfl) rfl qe_4_2 g2, _, rfl, ?_⟩
  obtain ⟨y3, g4, e⟩ := bind_e e
  refine ⟨gi_le g4, gi_ltn g4 qe_4_2, ?_⟩
  obtain ⟨l5, g6, e⟩ := bind_e e
  replace g6 := Option.some.inj g6
  have q7 : List.length l5 = 4 := by rw [← g6, List.length_set]; exact qe_4_2
  obtain ⟨h8, w9, o10, t11⟩ := (O.ob 0 rfl).stArr (n := 4) (off := 8) (f := (fun n : Int => Value.int .i64 n)) (d := (0 : Int)) (v := (IntKind.wrap .i64 (y1 + (1 : Int)))) O.s rfl (Nat.le_of_ble_eq_true rfl) qe_4_2 g4 trivial
  rw [g6] at o10
  refine ⟨h8, w9, ?_⟩
  have O12 := O.setV 0 rfl (cs' := [(Value.int .i64 (List.getD y_4.Cells 0 (0 : Int))), (Value.int .i64 (List.getD y_4.Cells 1 (0 : Int))), (Value.int .i64 (List.getD y_4.Cells 2 (0 : Int))), (Value.int .i64 (List.getD y_4.Cells 3 (0 : Int))), (Value.int .i64 (List.getD y_4.Hands 0 (0 : Int))), (Value.int .i64 (List.getD y_4.Hands 1 (0 : Int))), (Value.int .i64 (List.getD y_4.Hands 2 (0 : Int))), (Value.int .i64 (List.getD y_4.Hands 3 (0 : Int))), (Value.int .i64 (List.getD l5 0 (0 : Int))), (Value.int .i64 (List.getD l5 1 (0 : Int))), (Value.int .i64 (List.getD l5 2 (0 : Int))), (Value.int .i64 (List.getD l5 3 (0 : Int)))]) o10 t11
  refine ⟨_, ldAn (Sub.refl _) (O12.all 0 rfl) rfl, ?_⟩
  refine ⟨_, rfl, rfl, ?_⟩
  refine O12.stA 1 rfl rfl (Flats.cons trivial (Flats.cons trivial (Flats.cons trivial (Flats.cons trivial (Flats.cons trivial (Flats.cons trivial (Flats.cons trivial (Flats.cons trivial (Flats.cons trivial (Flats.cons trivial (Flats.cons trivial (Flats.cons trivial Flats.nil)))))))))))) fun h13 O14 => ?_
  refine ⟨_, ldAn (Sub.refl _) (O14.all 1 rfl) rfl, ?_⟩
  have O15 := O14.nm
  cases e
  exact ⟨_, _, O15.pick [], rfl, (show T_explore_State.E _ (T_explore_State.mk y_4.Cells y_4.Hands l5) [(Value.int .i64 (List.getD y_4.Cells 0 (0 : Int))), (Value.int .i64 (List.getD y_4.Cells 1 (0 : Int))), (Value.int .i64 (List.getD y_4.Cells 2 (0 : Int))), (Value.int .i64 (List.getD y_4.Cells 3 (0 : Int))), (Value.int .i64 (List.getD y_4.Hands 0 (0 : Int))), (Value.int .i64 (List.getD y_4.Hands 1 (0 : Int))), (Value.int .i64 (List.getD y_4.Hands 2 (0 : Int))), (Value.int .i64 (List.getD y_4.Hands 3 (0 : Int))), (Value.int .i64 (List.getD l5 0 (0 : Int))), (Value.int .i64 (List.getD l5 1 (0 : Int))), (Value.int .i64 (List.getD l5 2 (0 : Int))), (Value.int .i64 (List.getD l5 3 (0 : Int)))] from ⟨rfl, qe_4_0, qe_4_1, q7⟩)⟩

noncomputable def explore_step (a_0 : List (List T_explore_Do)) (y_1 : T_explore_State) (x_2 : Int) : Option (T_explore_State) :=
  Option.bind (gi a_0 x_2) fun y9 => Option.bind (gi y_1.At x_2) fun y16 => Option.bind (gi y9 y16) fun y18 => if y18.Kind = (1 : Int) then (Option.bind (gi y_1.Cells y18.Cell) fun y31 => Option.bind (gi y_1.Hands x_2) fun y33 => Option.bind (some (List.set y_1.Hands (Int.toNat x_2) y31)) fun l35 => (explore_step.j0 x_2 (T_explore_State.mk y_1.Cells l35 y_1.At) (T_explore_State.mk (List.replicate 4 (0 : Int)) (List.replicate 4 (0 : Int)) (List.replicate 4 (0 : Int))))) else (if y18.Kind = (2 : Int) then (Option.bind (gi y_1.Hands x_2) fun y44 => Option.bind (gi y_1.Cells y18.Cell) fun y46 => Option.bind (some (List.set y_1.Cells (Int.toNat y18.Cell) (IntKind.wrap .i64 (y44 + y18.By)))) fun l48 => (explore_step.j0 x_2 (T_explore_State.mk l48 y_1.Hands y_1.At) (T_explore_State.mk (List.replicate 4 (0 : Int)) (List.replicate 4 (0 : Int)) (List.replicate 4 (0 : Int))))) else (if y18.Kind = (3 : Int) then (Option.bind (gi y_1.Cells y18.Cell) fun y57 => Option.bind (gi y_1.Cells y18.Cell) fun y59 => Option.bind (some (List.set y_1.Cells (Int.toNat y18.Cell) (IntKind.wrap .i64 (y57 + y18.By)))) fun l61 => (explore_step.j0 x_2 (T_explore_State.mk l61 y_1.Hands y_1.At) (T_explore_State.mk (List.replicate 4 (0 : Int)) (List.replicate 4 (0 : Int)) (List.replicate 4 (0 : Int))))) else ((explore_step.j0 x_2 y_1 (T_explore_State.mk (List.replicate 4 (0 : Int)) (List.replicate 4 (0 : Int)) (List.replicate 4 (0 : Int)))))))
set_option maxHeartbeats 4000000 in
set_option maxRecDepth 100000 in
theorem explore_step.walk {W : Nat → Prop} {h m : Heap} {A_0 : Option Addr} {n_0 c_0 : Nat} {cs_1 : List Value} {a_0 : List (List T_explore_Do)} {y_1 : T_explore_State} {x_2 : Int} (O : Hold W h m h m []) (ne_0 : n_0 = List.length a_0) (k_0 : List.length a_0 ≤ c_0) (r_0 : Rd 1 (eRow 3 T_explore_Do.E) m A_0 a_0) (e_1 : T_explore_State.E m y_1 cs_1) {r : T_explore_State} (e : explore_step a_0 y_1 x_2 = some r) : Run Try.prog 96 #[Value.slice A_0 n_0 c_0, Value.agg cs_1.toArray, Value.int .i64 x_2] h (explore_step.post W h m r) := by
  unfold explore_step at e
  subst ne_0
  obtain ⟨rfl, qe_1_0, qe_1_1, qe_1_2⟩ := id e_1
  refine f96.run ?_
  unfold f96.runT
  refine O.new fun h1 x2 O3 => ?_
  refine O3.new fun h5 x6 O7 => ?_
  obtain ⟨y9, g10, e⟩ := bind_e e
  refine r_0.addr rfl g10 fun a11 cs12 ha13 hc14 he15 => ?_
  obtain ⟨Acs12_0, ccs12_0, rfl, kcs12_0, rcs12_0⟩ := id he15
  obtain ⟨y16, g17, e⟩ := bind_e e
  refine ⟨gi_le g17, gi_ltn g17 qe_1_2, ?_⟩
  refine ⟨_, ld0 O7.s hc14 rfl, _, _, _, rfl, ?_⟩
  refine ⟨_, ldArr (n := 4) (off := 8) (f := (fun n : Int => Value.int .i64 n)) (d := (0 : Int)) (Sub.refl _) (O7.all 0 rfl) rfl qe_1_2 g17, _, rfl, ?_⟩
  obtain ⟨y18, g19, e⟩ := bind_e e
  refine rcs12_0.addr rfl g19 fun a20 cs21 ha22 hc23 he24 => ?_
  refine ⟨_, ldAn O7.s hc23 rfl, ?_⟩
  refine O7.new fun h25 x26 O27 => ?_
  refine ⟨x26, ?_⟩
  refine ⟨_, rfl, (T_explore_Do.T.len _ _ _ he24), ?_⟩
  refine O27.stA 2 rfl (T_explore_Do.T.len _ _ _ he24) (T_explore_Do.T.flat _ _ _ he24) fun h29 O30 => ?_
  refine ⟨_, ld0 (Sub.refl _) (O30.all 2 rfl) (T_explore_Do.g0 he24), _, rfl, ?_⟩
  refine split_eq_e e (fun c73 e => ?_) (fun c73 e => ?_)
  · refine ⟨_, ldk (k := 1) (Sub.refl _) (O30.all 2 rfl) (T_explore_Do.g1 he24), _, rfl, ?_⟩
    obtain ⟨y31, g32, e⟩ := bind_e e
    refine ⟨gi_le g32, gi_ltn g32 qe_1_0, ?_⟩
    refine ⟨_, ldArr0 (n := 4) (f := (fun n : Int => Value.int .i64 n)) (d := (0 : Int)) (Sub.refl _) (O30.all 0 rfl) rfl qe_1_0 g32, _, rfl, ?_⟩
    obtain ⟨y33, g34, e⟩ := bind_e e
    refine ⟨gi_le g34, gi_ltn g34 qe_1_1, ?_⟩
    obtain ⟨l35, g36, e⟩ := bind_e e
    replace g36 := Option.some.inj g36
    have q37 : List.length l35 = 4 := by rw [← g36, List.length_set]; exact qe_1_1
    obtain ⟨h38, w39, o40, t41⟩ := (O30.ob 0 rfl).stArr (n := 4) (off := 4) (f := (fun n : Int => Value.int .i64 n)) (d := (0 : Int)) (v := y31) O30.s rfl (Nat.le_of_ble_eq_true rfl) qe_1_1 g34 trivial
    rw [g36] at o40
    refine ⟨h38, w39, ?_⟩
    have O42 := O30.setV 0 rfl (cs' := [(Value.int .i64 (List.getD y_1.Cells 0 (0 : Int))), (Value.int .i64 (List.getD y_1.Cells 1 (0 : Int))), (Value.int .i64 (List.getD y_1.Cells 2 (0 : Int))), (Value.int .i64 (List.getD y_1.Cells 3 (0 : Int))), (Value.int .i64 (List.getD l35 0 (0 : Int))), (Value.int .i64 (List.getD l35 1 (0 : Int))), (Value.int .i64 (List.getD l35 2 (0 : Int))), (Value.int .i64 (List.getD l35 3 (0 : Int))), (Value.int .i64 (List.getD y_1.At 0 (0 : Int))), (Value.int .i64 (List.getD y_1.At 1 (0 : Int))), (Value.int .i64 (List.getD y_1.At 2 (0 : Int))), (Value.int .i64 (List.getD y_1.At 3 (0 : Int)))]) o40 t41
    have O43 := O42.nm
    exact explore_step.j0.walk (O43.pick [0, 1]).nm (show T_explore_State.E _ (T_explore_State.mk y_1.Cells l35 y_1.At) [(Value.int .i64 (List.getD y_1.Cells 0 (0 : Int))), (Value.int .i64 (List.getD y_1.Cells 1 (0 : Int))), (Value.int .i64 (List.getD y_1.Cells 2 (0 : Int))), (Value.int .i64 (List.getD y_1.Cells 3 (0 : Int))), (Value.int .i64 (List.getD l35 0 (0 : Int))), (Value.int .i64 (List.getD l35 1 (0 : Int))), (Value.int .i64 (List.getD l35 2 (0 : Int))), (Value.int .i64 (List.getD l35 3 (0 : Int))), (Value.int .i64 (List.getD y_1.At 0 (0 : Int))), (Value.int .i64 (List.getD y_1.At 1 (0 : Int))), (Value.int .i64 (List.getD y_1.At 2 (0 : Int))), (Value.int .i64 (List.getD y_1.At 3 (0 : Int)))] from ⟨rfl, qe_1_0, q37, qe_1_2⟩) (show T_explore_State.E _ (T_explore_State.mk (List.replicate 4 (0 : Int)) (List.replicate 4 (0 : Int)) (List.replicate 4 (0 : Int))) [(Value.int .i64 (0 : Int)), (Value.int .i64 (0 : Int)), (Value.int .i64 (0 : Int)), (Value.int .i64 (0 : Int)), (Value.int .i64 (0 : Int)), (Value.int .i64 (0 : Int)), (Value.int .i64 (0 : Int)), (Value.int .i64 (0 : Int)), (Value.int .i64 (0 : Int)), (Value.int .i64 (0 : Int)), (Value.int .i64 (0 : Int)), (Value.int .i64 (0 : Int))] from ⟨rfl, rfl, rfl, rfl⟩) e
  · refine split_eq_e e (fun c72 e => ?_) (fun c72 e => ?_)
    · obtain ⟨y44, g45, e⟩ := bind_e e
      refine ⟨gi_le g45, gi_ltn g45 qe_1_1, ?_⟩
      refine ⟨_, ldk (k := 1) (Sub.refl _) (O30.all 2 rfl) (T_explore_Do.g1 he24), _, rfl, ?_⟩
      refine ⟨_, ldArr (n := 4) (off := 4) (f := (fun n : Int => Value.int .i64 n)) (d := (0 : Int)) (Sub.refl _) (O30.all 0 rfl) rfl qe_1_1 g45, _, rfl, ?_⟩
      refine ⟨_, ldk (k := 2) (Sub.refl _) (O30.all 2 rfl) (T_explore_Do.g2 he24), _, rfl, ?_⟩
      obtain ⟨y46, g47, e⟩ := bind_e e
      refine ⟨gi_le g47, gi_ltn g47 qe_1_0, ?_⟩
      obtain ⟨l48, g49, e⟩ := bind_e e
      replace g49 := Option.some.inj g49
      have q50 : List.length l48 = 4 := by rw [← g49, List.length_set]; exact qe_1_0
      obtain ⟨h51, w52, o53, t54⟩ := (O30.ob 0 rfl).stArr0 (n := 4) (f := (fun n : Int => Value.int .i64 n)) (d := (0 : Int)) (v := (IntKind.wrap .i64 (y44 + y18.By))) O30.s rfl (Nat.le_of_ble_eq_true rfl) qe_1_0 g47 trivial
      rw [g49] at o53
      refine ⟨h51, w52, ?_⟩
      have O55 := O30.setV 0 rfl (cs' := [(Value.int .i64 (List.getD l48 0 (0 : Int))), (Value.int .i64 (List.getD l48 1 (0 : Int))), (Value.int .i64 (List.getD l48 2 (0 : Int))), (Value.int .i64 (List.getD l48 3 (0 : Int))), (Value.int .i64 (List.getD y_1.Hands 0 (0 : Int))), (Value.int .i64 (List.getD y_1.Hands 1 (0 : Int))), (Value.int .i64 (List.getD y_1.Hands 2 (0 : Int))), (Value.int .i64 (List.getD y_1.Hands 3 (0 : Int))), (Value.int .i64 (List.getD y_1.At 0 (0 : Int))), (Value.int .i64 (List.getD y_1.At 1 (0 : Int))), (Value.int .i64 (List.getD y_1.At 2 (0 : Int))), (Value.int .i64 (List.getD y_1.At 3 (0 : Int)))]) o53 t54
      have O56 := O55.nm
      exact explore_step.j0.walk (O56.pick [0, 1]).nm (show T_explore_State.E _ (T_explore_State.mk l48 y_1.Hands y_1.At) [(Value.int .i64 (List.getD l48 0 (0 : Int))), (Value.int .i64 (List.getD l48 1 (0 : Int))), (Value.int .i64 (List.getD l48 2 (0 : Int))), (Value.int .i64 (List.getD l48 3 (0 : Int))), (Value.int .i64 (List.getD y_1.Hands 0 (0 : Int))), (Value.int .i64 (List.getD y_1.Hands 1 (0 : Int))), (Value.int .i64 (List.getD y_1.Hands 2 (0 : Int))), (Value.int .i64 (List.getD y_1.Hands 3 (0 : Int))), (Value.int .i64 (List.getD y_1.At 0 (0 : Int))), (Value.int .i64 (List.getD y_1.At 1 (0 : Int))), (Value.int .i64 (List.getD y_1.At 2 (0 : Int))), (Value.int .i64 (List.getD y_1.At 3 (0 : Int)))] from ⟨rfl, q50, qe_1_1, qe_1_2⟩) (show T_explore_State.E _ (T_explore_State.mk (List.replicate 4 (0 : Int)) (List.replicate 4 (0 : Int)) (List.replicate 4 (0 : Int))) [(Value.int .i64 (0 : Int)), (Value.int .i64 (0 : Int)), (Value.int .i64 (0 : Int)), (Value.int .i64 (0 : Int)), (Value.int .i64 (0 : Int)), (Value.int .i64 (0 : Int)), (Value.int .i64 (0 : Int)), (Value.int .i64 (0 : Int)), (Value.int .i64 (0 : Int)), (Value.int .i64 (0 : Int)), (Value.int .i64 (0 : Int)), (Value.int .i64 (0 : Int))] from ⟨rfl, rfl, rfl, rfl⟩) e
    · refine split_eq_e e (fun c71 e => ?_) (fun c71 e => ?_)
      · refine ⟨_, ldk (k := 1) (Sub.refl _) (O30.all 2 rfl) (T_explore_Do.g1 he24), _, rfl, ?_⟩
        obtain ⟨y57, g58, e⟩ := bind_e e
        refine ⟨gi_le g58, gi_ltn g58 qe_1_0, ?_⟩
        refine ⟨_, ldArr0 (n := 4) (f := (fun n : Int => Value.int .i64 n)) (d := (0 : Int)) (Sub.refl _) (O30.all 0 rfl) rfl qe_1_0 g58, _, rfl, ?_⟩
        refine ⟨_, ldk (k := 2) (Sub.refl _) (O30.all 2 rfl) (T_explore_Do.g2 he24), _, rfl, ?_⟩
        obtain ⟨y59, g60, e⟩ := bind_e e
        refine ⟨gi_le g60, gi_ltn g60 qe_1_0, ?_⟩
        obtain ⟨l61, g62, e⟩ := bind_e e
        replace g62 := Option.some.inj g62
        have q63 : List.length l61 = 4 := by rw [← g62, List.length_set]; exact qe_1_0
        obtain ⟨h64, w65, o66, t67⟩ := (O30.ob 0 rfl).stArr0 (n := 4) (f := (fun n : Int => Value.int .i64 n)) (d := (0 : Int)) (v := (IntKind.wrap .i64 (y57 + y18.By))) O30.s rfl (Nat.le_of_ble_eq_true rfl) qe_1_0 g60 trivial
        rw [g62] at o66
        refine ⟨h64, w65, ?_⟩
        have O68 := O30.setV 0 rfl (cs' := [(Value.int .i64 (List.getD l61 0 (0 : Int))), (Value.int .i64 (List.getD l61 1 (0 : Int))), (Value.int .i64 (List.getD l61 2 (0 : Int))), (Value.int .i64 (List.getD l61 3 (0 : Int))), (Value.int .i64 (List.getD y_1.Hands 0 (0 : Int))), (Value.int .i64 (List.getD y_1.Hands 1 (0 : Int))), (Value.int .i64 (List.getD y_1.Hands 2 (0 : Int))), (Value.int .i64 (List.getD y_1.Hands 3 (0 : Int))), (Value.int .i64 (List.getD y_1.At 0 (0 : Int))), (Value.int .i64 (List.getD y_1.At 1 (0 : Int))), (Value.int .i64 (List.getD y_1.At 2 (0 : Int))), (Value.int .i64 (List.getD y_1.At 3 (0 : Int)))]) o66 t67
        have O69 := O68.nm
        exact explore_step.j0.walk (O69.pick [0, 1]).nm (show T_explore_State.E _ (T_explore_State.mk l61 y_1.Hands y_1.At) [(Value.int .i64 (List.getD l61 0 (0 : Int))), (Value.int .i64 (List.getD l61 1 (0 : Int))), (Value.int .i64 (List.getD l61 2 (0 : Int))), (Value.int .i64 (List.getD l61 3 (0 : Int))), (Value.int .i64 (List.getD y_1.Hands 0 (0 : Int))), (Value.int .i64 (List.getD y_1.Hands 1 (0 : Int))), (Value.int .i64 (List.getD y_1.Hands 2 (0 : Int))), (Value.int .i64 (List.getD y_1.Hands 3 (0 : Int))), (Value.int .i64 (List.getD y_1.At 0 (0 : Int))), (Value.int .i64 (List.getD y_1.At 1 (0 : Int))), (Value.int .i64 (List.getD y_1.At 2 (0 : Int))), (Value.int .i64 (List.getD y_1.At 3 (0 : Int)))] from ⟨rfl, q63, qe_1_1, qe_1_2⟩) (show T_explore_State.E _ (T_explore_State.mk (List.replicate 4 (0 : Int)) (List.replicate 4 (0 : Int)) (List.replicate 4 (0 : Int))) [(Value.int .i64 (0 : Int)), (Value.int .i64 (0 : Int)), (Value.int .i64 (0 : Int)), (Value.int .i64 (0 : Int)), (Value.int .i64 (0 : Int)), (Value.int .i64 (0 : Int)), (Value.int .i64 (0 : Int)), (Value.int .i64 (0 : Int)), (Value.int .i64 (0 : Int)), (Value.int .i64 (0 : Int)), (Value.int .i64 (0 : Int)), (Value.int .i64 (0 : Int))] from ⟨rfl, rfl, rfl, rfl⟩) e
      · have O70 := O30.nm
        exact explore_step.j0.walk (O70.pick [0, 1]).nm (show T_explore_State.E _ y_1 [(Value.int .i64 (List.getD y_1.Cells 0 (0 : Int))), (Value.int .i64 (List.getD y_1.Cells 1 (0 : Int))), (Value.int .i64 (List.getD y_1.Cells 2 (0 : Int))), (Value.int .i64 (List.getD y_1.Cells 3 (0 : Int))), (Value.int .i64 (List.getD y_1.Hands 0 (0 : Int))), (Value.int .i64 (List.getD y_1.Hands 1 (0 : Int))), (Value.int .i64 (List.getD y_1.Hands 2 (0 : Int))), (Value.int .i64 (List.getD y_1.Hands 3 (0 : Int))), (Value.int .i64 (List.getD y_1.At 0 (0 : Int))), (Value.int .i64 (List.getD y_1.At 1 (0 : Int))), (Value.int .i64 (List.getD y_1.At 2 (0 : Int))), (Value.int .i64 (List.getD y_1.At 3 (0 : Int)))] from ⟨rfl, qe_1_0, qe_1_1, qe_1_2⟩) (show T_explore_State.E _ (T_explore_State.mk (List.replicate 4 (0 : Int)) (List.replicate 4 (0 : Int)) (List.replicate 4 (0 : Int))) [(Value.int .i64 (0 : Int)), (Value.int .i64 (0 : Int)), (Value.int .i64 (0 : Int)), (Value.int .i64 (0 : Int)), (Value.int .i64 (0 : Int)), (Value.int .i64 (0 : Int)), (Value.int .i64 (0 : Int)), (Value.int .i64 (0 : Int)), (Value.int .i64 (0 : Int)), (Value.int .i64 (0 : Int)), (Value.int .i64 (0 : Int)), (Value.int .i64 (0 : Int))] from ⟨rfl, rfl, rfl, rfl⟩) e

/-! ### 54 roadstead/explore.Run -/
def explore_Run.post (W : Nat → Prop) (h0 m0 : Heap) (r : T_explore_State × Int × Int) (v : Value) (h : Heap) : Prop := ∃ m cs0, Hold W h0 m0 h m [] ∧ v = .tuple #[.agg cs0.toArray, .int .i64 r.2.1, .int .i64 r.2.2] ∧ T_explore_State.E m r.1 cs0
inductive explore_Run.l0_k.Pt where
  | l0 (a_0 : List (List T_explore_Do)) (a_1 : List Int) (y_4 : T_explore_State) (y_8 : T_explore_State) (a_17 : List Int) (x_18 : Int) (x_19 : Int)
  | j1 (a_0 : List (List T_explore_Do)) (a_1 : List Int) (y_4 : T_explore_State) (y_8 : T_explore_State) (x_9 : Int) (x_10 : Int) (a_17 : List Int) (x_18 : Int) (x_19 : Int) (b_31 : Bool)
  | j0 (a_0 : List (List T_explore_Do)) (a_1 : List Int) (y_4 : T_explore_State) (y_8 : T_explore_State) (x_9 : Int) (x_10 : Int) (a_17 : List Int) (x_18 : Int) (x_19 : Int)
noncomputable def explore_Run.l0_k.body (go : (p : explore_Run.l0_k.Pt) → Option (T_explore_State × Int × Int)) : (p : explore_Run.l0_k.Pt) → Option (T_explore_State × Int × Int)
  | .l0 a_0 a_1 y_4 y_8 a_17 x_18 x_19 => if x_19 < x_18 then (Option.bind (gi a_17 x_19) fun y1 => if y1 < (0 : Int) then ((go (.j1 a_0 a_1 y_4 y_8 x_19 y1 a_17 x_18 x_19 true))) else ((go (.j1 a_0 a_1 y_4 y_8 x_19 y1 a_17 x_18 x_19 (decide (y1 ≥ (((List.length a_0) : Nat) : Int))))))) else (some (y_8, (((List.length a_1) : Nat) : Int), (0 : Int)))
  | .j1 a_0 a_1 y_4 y_8 x_9 x_10 a_17 x_18 x_19 b_31 => if b_31 = true then (some ((T_explore_State.mk (List.replicate 4 (0 : Int)) (List.replicate 4 (0 : Int)) (List.replicate 4 (0 : Int))), (0 : Int), (1 : Int))) else ((go (.j0 a_0 a_1 y_4 y_8 x_9 x_10 a_17 x_18 x_19)))
  | .j0 a_0 a_1 y_4 y_8 x_9 x_10 a_17 x_18 x_19 => Option.bind (explore_may a_0 y_8 x_10) fun y1 => if y1 = true then (Option.bind (explore_step a_0 y_8 x_10) fun y8 => (go (.l0 a_0 a_1 y_4 y8 a_17 x_18 (IntKind.wrap .i64 (x_19 + (1 : Int)))))) else (some (y_8, x_9, (0 : Int)))
theorem explore_Run.l0_k.mono : MonoF (β := fun _ => (T_explore_State × Int × Int)) explore_Run.l0_k.body := fun f g hfg p => match p with
  | .l0 a_0 a_1 y_4 y_8 a_17 x_18 x_19 => LeO.ite (LeO.bind (LeO.refl _) fun y1 => LeO.ite ((hfg _)) ((hfg _))) (LeO.refl _)
  | .j1 a_0 a_1 y_4 y_8 x_9 x_10 a_17 x_18 x_19 b_31 => LeO.ite (LeO.refl _) ((hfg _))
  | .j0 a_0 a_1 y_4 y_8 x_9 x_10 a_17 x_18 x_19 => LeO.bind (LeO.refl _) fun y1 => LeO.ite (LeO.bind (LeO.refl _) fun y8 => (hfg _)) (LeO.refl _)
noncomputable def explore_Run.l0_k.go (p : explore_Run.l0_k.Pt) : Option (T_explore_State × Int × Int) := fixF (β := fun _ => (T_explore_State × Int × Int)) explore_Run.l0_k.body p
noncomputable def explore_Run.l0 (a_0 : List (List T_explore_Do)) (a_1 : List Int) (y_4 : T_explore_State) (y_8 : T_explore_State) (a_17 : List Int) (x_18 : Int) (x_19 : Int) : Option (T_explore_State × Int × Int) := explore_Run.l0_k.go (.l0 a_0 a_1 y_4 y_8 a_17 x_18 x_19)
noncomputable def explore_Run.j1 (a_0 : List (List T_explore_Do)) (a_1 : List Int) (y_4 : T_explore_State) (y_8 : T_explore_State) (x_9 : Int) (x_10 : Int) (a_17 : List Int) (x_18 : Int) (x_19 : Int) (b_31 : Bool) : Option (T_explore_State × Int × Int) := explore_Run.l0_k.go (.j1 a_0 a_1 y_4 y_8 x_9 x_10 a_17 x_18 x_19 b_31)
noncomputable def explore_Run.j0 (a_0 : List (List T_explore_Do)) (a_1 : List Int) (y_4 : T_explore_State) (y_8 : T_explore_State) (x_9 : Int) (x_10 : Int) (a_17 : List Int) (x_18 : Int) (x_19 : Int) : Option (T_explore_State × Int × Int) := explore_Run.l0_k.go (.j0 a_0 a_1 y_4 y_8 x_9 x_10 a_17 x_18 x_19)
theorem explore_Run.l0_eq (a_0 : List (List T_explore_Do)) (a_1 : List Int) (y_4 : T_explore_State) (y_8 : T_explore_State) (a_17 : List Int) (x_18 : Int) (x_19 : Int) : explore_Run.l0 a_0 a_1 y_4 y_8 a_17 x_18 x_19 = if x_19 < x_18 then (Option.bind (gi a_17 x_19) fun y1 => if y1 < (0 : Int) then ((explore_Run.j1 a_0 a_1 y_4 y_8 x_19 y1 a_17 x_18 x_19 true)) else ((explore_Run.j1 a_0 a_1 y_4 y_8 x_19 y1 a_17 x_18 x_19 (decide (y1 ≥ (((List.length a_0) : Nat) : Int)))))) else (some (y_8, (((List.length a_1) : Nat) : Int), (0 : Int))) := fixF_eq explore_Run.l0_k.mono _
theorem explore_Run.j1_eq (a_0 : List (List T_explore_Do)) (a_1 : List Int) (y_4 : T_explore_State) (y_8 : T_explore_State) (x_9 : Int) (x_10 : Int) (a_17 : List Int) (x_18 : Int) (x_19 : Int) (b_31 : Bool) : explore_Run.j1 a_0 a_1 y_4 y_8 x_9 x_10 a_17 x_18 x_19 b_31 = if b_31 = true then (some ((T_explore_State.mk (List.replicate 4 (0 : Int)) (List.replicate 4 (0 : Int)) (List.replicate 4 (0 : Int))), (0 : Int), (1 : Int))) else ((explore_Run.j0 a_0 a_1 y_4 y_8 x_9 x_10 a_17 x_18 x_19)) := fixF_eq explore_Run.l0_k.mono _
theorem explore_Run.j0_eq (a_0 : List (List T_explore_Do)) (a_1 : List Int) (y_4 : T_explore_State) (y_8 : T_explore_State) (x_9 : Int) (x_10 : Int) (a_17 : List Int) (x_18 : Int) (x_19 : Int) : explore_Run.j0 a_0 a_1 y_4 y_8 x_9 x_10 a_17 x_18 x_19 = Option.bind (explore_may a_0 y_8 x_10) fun y1 => if y1 = true then (Option.bind (explore_step a_0 y_8 x_10) fun y8 => (explore_Run.l0 a_0 a_1 y_4 y8 a_17 x_18 (IntKind.wrap .i64 (x_19 + (1 : Int))))) else (some (y_8, x_9, (0 : Int))) := fixF_eq explore_Run.l0_k.mono _
def explore_Run.l0_k.I : (p : explore_Run.l0_k.Pt) → (T_explore_State × Int × Int) → Prop
  | .l0 a_0 a_1 y_4 y_8 a_17 x_18 x_19, r => ∀ (W : Nat → Prop) (h0 m0 h m : Heap) (A_0 : Option Addr) (n_0 c_0 : Nat) (A_1 : Option Addr) (n_1 c_1 : Nat) (bk_4 : Nat) (cs_4 : List Value) (bk_8 : Nat) (cs_8 : List Value) (A_17 : Option Addr) (n_17 c_17 : Nat) (O : Hold W h0 m0 h m [rV bk_4 101 cs_4, rV bk_8 101 cs_8]) (ne_0 : n_0 = List.length a_0) (k_0 : List.length a_0 ≤ c_0) (r_0 : Rd 1 (eRow 3 T_explore_Do.E) m A_0 a_0) (ne_1 : n_1 = List.length a_1) (k_1 : List.length a_1 ≤ c_1) (r_1 : Rd 1 (eInt .i64) m A_1 a_1) (e_4 : T_explore_State.E m y_4 cs_4) (e_8 : T_explore_State.E m y_8 cs_8) (ne_17 : n_17 = List.length a_17) (k_17 : List.length a_17 ≤ c_17) (r_17 : Rd 1 (eInt .i64) m A_17 a_17), f54.l0 (explore_Run.post W h0 m0 r) A_0 n_0 c_0 A_1 n_1 c_1 (⟨bk_4, 0, none⟩ : Addr) (⟨bk_8, 0, none⟩ : Addr) A_17 n_17 c_17 x_18 x_19 h
  | .j1 a_0 a_1 y_4 y_8 x_9 x_10 a_17 x_18 x_19 b_31, r => ∀ (W : Nat → Prop) (h0 m0 h m : Heap) (A_0 : Option Addr) (n_0 c_0 : Nat) (A_1 : Option Addr) (n_1 c_1 : Nat) (bk_4 : Nat) (cs_4 : List Value) (bk_8 : Nat) (cs_8 : List Value) (A_17 : Option Addr) (n_17 c_17 : Nat) (O : Hold W h0 m0 h m [rV bk_4 101 cs_4, rV bk_8 101 cs_8]) (ne_0 : n_0 = List.length a_0) (k_0 : List.length a_0 ≤ c_0) (r_0 : Rd 1 (eRow 3 T_explore_Do.E) m A_0 a_0) (ne_1 : n_1 = List.length a_1) (k_1 : List.length a_1 ≤ c_1) (r_1 : Rd 1 (eInt .i64) m A_1 a_1) (e_4 : T_explore_State.E m y_4 cs_4) (e_8 : T_explore_State.E m y_8 cs_8) (ne_17 : n_17 = List.length a_17) (k_17 : List.length a_17 ≤ c_17) (r_17 : Rd 1 (eInt .i64) m A_17 a_17), f54.j1 (explore_Run.post W h0 m0 r) A_0 n_0 c_0 A_1 n_1 c_1 (⟨bk_4, 0, none⟩ : Addr) (⟨bk_8, 0, none⟩ : Addr) x_9 x_10 A_17 n_17 c_17 x_18 x_19 b_31 h
  | .j0 a_0 a_1 y_4 y_8 x_9 x_10 a_17 x_18 x_19, r => ∀ (W : Nat → Prop) (h0 m0 h m : Heap) (A_0 : Option Addr) (n_0 c_0 : Nat) (A_1 : Option Addr) (n_1 c_1 : Nat) (bk_4 : Nat) (cs_4 : List Value) (bk_8 : Nat) (cs_8 : List Value) (A_17 : Option Addr) (n_17 c_17 : Nat) (O : Hold W h0 m0 h m [rV bk_4 101 cs_4, rV bk_8 101 cs_8]) (ne_0 : n_0 = List.length a_0) (k_0 : List.length a_0 ≤ c_0) (r_0 : Rd 1 (eRow 3 T_explore_Do.E) m A_0 a_0) (ne_1 : n_1 = List.length a_1) (k_1 : List.length a_1 ≤ c_1) (r_1 : Rd 1 (eInt .i64) m A_1 a_1) (e_4 : T_explore_State.E m y_4 cs_4) (e_8 : T_explore_State.E m y_8 cs_8) (ne_17 : n_17 = List.length a_17) (k_17 : List.length a_17 ≤ c_17) (r_17 : Rd 1 (eInt .i64) m A_17 a_17), f54.j0 (explore_Run.post W h0 m0 r) A_0 n_0 c_0 A_1 n_1 c_1 (⟨bk_4, 0, none⟩ : Addr) (⟨bk_8, 0, none⟩ : Addr) x_9 x_10 A_17 n_17 c_17 x_18 x_19 h
set_option maxRecDepth 100000 in
theorem explore_Run.l0_k.step_l0 (go : (p : explore_Run.l0_k.Pt) → Option (T_explore_State × Int × Int)) (ih : ∀ p r, go p = some r → explore_Run.l0_k.I p r) (a_0 : List (List T_explore_Do)) (a_1 : List Int) (y_4 : T_explore_State) (y_8 : T_explore_State) (a_17 : List Int) (x_18 : Int) (x_19 : Int) (r : T_explore_State × Int × Int) (e : explore_Run.l0_k.body go (.l0 a_0 a_1 y_4 y_8 a_17 x_18 x_19) = some r) : explore_Run.l0_k.I (.l0 a_0 a_1 y_4 y_8 a_17 x_18 x_19) r := by
  unfold explore_Run.l0_k.body at e
  intro W h0 m0 h m A_0 n_0 c_0 A_1 n_1 c_1 bk_4 cs_4 bk_8 cs_8 A_17 n_17 c_17 O ne_0 k_0 r_0 ne_1 k_1 r_1 e_4 e_8 ne_17 k_17 r_17
  subst ne_0
  subst ne_1
  obtain ⟨rfl, qe_4_0, qe_4_1, qe_4_2⟩ := id e_4
  obtain ⟨rfl, qe_8_0, qe_8_1, qe_8_2⟩ := id e_8
  subst ne_17
  refine f54.l0_in ?_
  unfold f54.l0T
  refine split_dec_e e (fun c12 e => ?_) (fun c12 e => ?_)
  · obtain ⟨y1, g2, e⟩ := bind_e e
    refine r_17.addr rfl g2 fun a3 cs4 ha5 hc6 he7 => ?_
    obtain rfl : cs4 = [(Value.int .i64 y1)] := he7
    refine ⟨_, ld0 O.s hc6 rfl, _, rfl, ?_⟩
    refine split_dec_e e (fun c8 e => ?_) (fun c8 e => ?_)
    · exact (ih _ _ e) _ _ _ _ _ _ _ _ _ _ _ _ _ _ _ _ _ _ (O.pick [0, 1]).nm rfl k_0 r_0 rfl k_1 r_1 (show T_explore_State.E _ y_4 [(Value.int .i64 (List.getD y_4.Cells 0 (0 : Int))), (Value.int .i64 (List.getD y_4.Cells 1 (0 : Int))), (Value.int .i64 (List.getD y_4.Cells 2 (0 : Int))), (Value.int .i64 (List.getD y_4.Cells 3 (0 : Int))), (Value.int .i64 (List.getD y_4.Hands 0 (0 : Int))), (Value.int .i64 (List.getD y_4.Hands 1 (0 : Int))), (Value.int .i64 (List.getD y_4.Hands 2 (0 : Int))), (Value.int .i64 (List.getD y_4.Hands 3 (0 : Int))), (Value.int .i64 (List.getD y_4.At 0 (0 : Int))), (Value.int .i64 (List.getD y_4.At 1 (0 : Int))), (Value.int .i64 (List.getD y_4.At 2 (0 : Int))), (Value.int .i64 (List.getD y_4.At 3 (0 : Int)))] from ⟨rfl, qe_4_0, qe_4_1, qe_4_2⟩) (show T_explore_State.E _ y_8 [(Value.int .i64 (List.getD y_8.Cells 0 (0 : Int))), (Value.int .i64 (List.getD y_8.Cells 1 (0 : Int))), (Value.int .i64 (List.getD y_8.Cells 2 (0 : Int))), (Value.int .i64 (List.getD y_8.Cells 3 (0 : Int))), (Value.int .i64 (List.getD y_8.Hands 0 (0 : Int))), (Value.int .i64 (List.getD y_8.Hands 1 (0 : Int))), (Value.int .i64 (List.getD y_8.Hands 2 (0 : Int))), (Value.int .i64 (List.getD y_8.Hands 3 (0 : Int))), (Value.int .i64 (List.getD y_8.At 0 (0 : Int))), (Value.int .i64 (List.getD y_8.At 1 (0 : Int))), (Value.int .i64 (List.getD y_8.At 2 (0 : Int))), (Value.int .i64 (List.getD y_8.At 3 (0 : Int)))] from ⟨rfl, qe_8_0, qe_8_1, qe_8_2⟩) rfl k_17 r_17
    · exact (ih _ _ e) _ _ _ _ _ _ _ _ _ _ _ _ _ _ _ _ _ _ (O.pick [0, 1]).nm rfl k_0 r_0 rfl k_1 r_1 (show T_explore_State.E _ y_4 [(Value.int .i64 (List.getD y_4.Cells 0 (0 : Int))), (Value.int .i64 (List.getD y_4.Cells 1 (0 : Int))), (Value.int .i64 (List.getD y_4.Cells 2 (0 : Int))), (Value.int .i64 (List.getD y_4.Cells 3 (0 : Int))), (Value.int .i64 (List.getD y_4.Hands 0 (0 : Int))), (Value.int .i64 (List.getD y_4.Hands 1 (0 : Int))), (Value.int .i64 (List.getD y_4.Hands 2 (0 : Int))), (Value.int .i64 (List.getD y_4.Hands 3 (0 : Int))), (Value.int .i64 (List.getD y_4.At 0 (0 : Int))), (Value.int .i64 (List.getD y_4.At 1 (0 : Int))), (Value.int .i64 (List.getD y_4.At 2 (0 : Int))), (Value.int .i64 (List.getD y_4.At 3 (0 : Int)))] from ⟨rfl, qe_4_0, qe_4_1, qe_4_2⟩) (show T_explore_State.E _ y_8 [(Value.int .i64 (List.getD y_8.Cells 0 (0 : Int))), (Value.int .i64 (List.getD y_8.Cells 1 (0 : Int))), (Value.int .i64 (List.getD y_8.Cells 2 (0 : Int))), (Value.int .i64 (List.getD y_8.Cells 3 (0 : Int))), (Value.int .i64 (List.getD y_8.Hands 0 (0 : Int))), (Value.int .i64 (List.getD y_8.Hands 1 (0 : Int))), (Value.int .i64 (List.getD y_8.Hands 2 (0 : Int))), (Value.int .i64 (List.getD y_8.Hands 3 (0 : Int))), (Value.int .i64 (List.getD y_8.At 0 (0 : Int))), (Value.int .i64 (List.getD y_8.At 1 (0 : Int))), (Value.int .i64 (List.getD y_8.At 2 (0 : Int))), (Value.int .i64 (List.getD y_8.At 3 (0 : Int)))] from ⟨rfl, qe_8_0, qe_8_1, qe_8_2⟩) rfl k_17 r_17
  · refine ⟨_, ldAn (Sub.refl _) (O.all 1 rfl) rfl, ?_⟩
    refine ⟨_, rfl, rfl, ?_⟩
    refine O.stA 0 rfl rfl (Flats.cons trivial (Flats.cons trivial (Flats.cons trivial (Flats.cons trivial (Flats.cons trivial (Flats.cons trivial (Flats.cons trivial (Flats.cons trivial (Flats.cons trivial (Flats.cons trivial (Flats.cons trivial (Flats.cons trivial Flats.nil)))))))))))) fun h9 O10 => ?_
    refine ⟨_, ldAn (Sub.refl _) (O10.all 0 rfl) rfl, ?_⟩
    have O11 := O10.nm
    cases e
    exact ⟨_, _, O11.pick [], rfl, (show T_explore_State.E _ y_8 [(Value.int .i64 (List.getD y_8.Cells 0 (0 : Int))), (Value.int .i64 (List.getD y_8.Cells 1 (0 : Int))), (Value.int .i64 (List.getD y_8.Cells 2 (0 : Int))), (Value.int .i64 (List.getD y_8.Cells 3 (0 : Int))), (Value.int .i64 (List.getD y_8.Hands 0 (0 : Int))), (Value.int .i64 (List.getD y_8.Hands 1 (0 : Int))), (Value.int .i64 (List.getD y_8.Hands 2 (0 : Int))), (Value.int .i64 (List.getD y_8.Hands 3 (0 : Int))), (Value.int .i64 (List.getD y_8.At 0 (0 : Int))), (Value.int .i64 (List.getD y_8.At 1 (0 : Int))), (Value.int .i64 (List.getD y_8.At 2 (0 : Int))), (Value.int .i64 (List.getD y_8.At 3 (0 : Int)))] from ⟨rfl, qe_8_0, qe_8_1, qe_8_2⟩)⟩
set_option maxRecDepth 100000 in
theorem explore_Run.l0_k.step_j1 (go : (p : explore_Run.l0_k.Pt) → Option (T_explore_State × Int × Int)) (ih : ∀ p r, go p = some r → explore_Run.l0_k.I p r) (a_0 : List (List T_explore_Do)) (a_1 : List Int) (y_4 : T_explore_State) (y_8 : T_explore_State) (x_9 : Int) (x_10 : Int) (a_17 : List Int) (x_18 : Int) (x_19 : Int) (b_31 : Bool) (r : T_explore_State × Int × Int) (e : explore_Run.l0_k.body go (.j1 a_0 a_1 y_4 y_8 x_9 x_10 a_17 x_18 x_19 b_31) = some r) : explore_Run.l0_k.I (.j1 a_0 a_1 y_4 y_8 x_9 x_10 a_17 x_18 x_19 b_31) r := by
  unfold explore_Run.l0_k.body at e
  intro W h0 m0 h m A_0 n_0 c_0 A_1 n_1 c_1 bk_4 cs_4 bk_8 cs_8 A_17 n_17 c_17 O ne_0 k_0 r_0 ne_1 k_1 r_1 e_4 e_8 ne_17 k_17 r_17
  subst ne_0
  subst ne_1
  obtain ⟨rfl, qe_4_0, qe_4_1, qe_4_2⟩ := id e_4
  obtain ⟨rfl, qe_8_0, qe_8_1, qe_8_2⟩ := id e_8
  subst ne_17
  refine f54.j1_in ?_
  unfold f54.j1T
  refine split_any_e e (fun c4 e => ?_) (fun c4 e => ?_)
  · refine ⟨_, rfl, rfl, ?_⟩
    refine O.stA 0 rfl rfl (Flats.cons trivial (Flats.cons trivial (Flats.cons trivial (Flats.cons trivial (Flats.cons trivial (Flats.cons trivial (Flats.cons trivial (Flats.cons trivial (Flats.cons trivial (Flats.cons trivial (Flats.cons trivial (Flats.cons trivial Flats.nil)))))))))))) fun h1 O2 => ?_
    refine ⟨_, ldAn (Sub.refl _) (O2.all 0 rfl) rfl, ?_⟩
    have O3 := O2.nm
    cases e
    exact ⟨_, _, O3.pick [], rfl, (show T_explore_State.E _ (T_explore_State.mk (List.replicate 4 (0 : Int)) (List.replicate 4 (0 : Int)) (List.replicate 4 (0 : Int))) [(Value.int .i64 (0 : Int)), (Value.int .i64 (0 : Int)), (Value.int .i64 (0 : Int)), (Value.int .i64 (0 : Int)), (Value.int .i64 (0 : Int)), (Value.int .i64 (0 : Int)), (Value.int .i64 (0 : Int)), (Value.int .i64 (0 : Int)), (Value.int .i64 (0 : Int)), (Value.int .i64 (0 : Int)), (Value.int .i64 (0 : Int)), (Value.int .i64 (0 : Int))] from ⟨rfl, rfl, rfl, rfl⟩)⟩
  · exact (ih _ _ e) _ _ _ _ _ _ _ _ _ _ _ _ _ _ _ _ _ _ (O.pick [0, 1]).nm rfl k_0 r_0 rfl k_1 r_1 (show T_explore_State.E _ y_4 [(Value.int .i64 (List.getD y_4.Cells 0 (0 : Int))), (Value.int .i64 (List.getD y_4.Cells 1 (0 : Int))), (Value.int .i64 (List.getD y_4.Cells 2 (0 : Int))), (Value.int .i64 (List.getD y_4.Cells 3 (0 : Int))), (Value.int .i64 (List.getD y_4.Hands 0 (0 : Int))), (Value.int .i64 (List.getD y_4.Hands 1 (0 : Int))), (Value.int .i64 (List.getD y_4.Hands 2 (0 : Int))), (Value.int .i64 (List.getD y_4.Hands 3 (0 : Int))), (Value.int .i64 (List.getD y_4.At 0 (0 : Int))), (Value.int .i64 (List.getD y_4.At 1 (0 : Int))), (Value.int .i64 (List.getD y_4.At 2 (0 : Int))), (Value.int .i64 (List.getD y_4.At 3 (0 : Int)))] from ⟨rfl, qe_4_0, qe_4_1, qe_4_2⟩) (show T_explore_State.E _ y_8 [(Value.int .i64 (List.getD y_8.Cells 0 (0 : Int))), (Value.int .i64 (List.getD y_8.Cells 1 (0 : Int))), (Value.int .i64 (List.getD y_8.Cells 2 (0 : Int))), (Value.int .i64 (List.getD y_8.Cells 3 (0 : Int))), (Value.int .i64 (List.getD y_8.Hands 0 (0 : Int))), (Value.int .i64 (List.getD y_8.Hands 1 (0 : Int))), (Value.int .i64 (List.getD y_8.Hands 2 (0 : Int))), (Value.int .i64 (List.getD y_8.Hands 3 (0 : Int))), (Value.int .i64 (List.getD y_8.At 0 (0 : Int))), (Value.int .i64 (List.getD y_8.At 1 (0 : Int))), (Value.int .i64 (List.getD y_8.At 2 (0 : Int))), (Value.int .i64 (List.getD y_8.At 3 (0 : Int)))] from ⟨rfl, qe_8_0, qe_8_1, qe_8_2⟩) rfl k_17 r_17
set_option maxRecDepth 100000 in
theorem explore_Run.l0_k.step_j0 (go : (p : explore_Run.l0_k.Pt) → Option (T_explore_State × Int × Int)) (ih : ∀ p r, go p = some r → explore_Run.l0_k.I p r) (a_0 : List (List T_explore_Do)) (a_1 : List Int) (y_4 : T_explore_State) (y_8 : T_explore_State) (x_9 : Int) (x_10 : Int) (a_17 : List Int) (x_18 : Int) (x_19 : Int) (r : T_explore_State × Int × Int) (e : explore_Run.l0_k.body go (.j0 a_0 a_1 y_4 y_8 x_9 x_10 a_17 x_18 x_19) = some r) : explore_Run.l0_k.I (.j0 a_0 a_1 y_4 y_8 x_9 x_10 a_17 x_18 x_19) r := by
  unfold explore_Run.l0_k.body at e
  intro W h0 m0 h m A_0 n_0 c_0 A_1 n_1 c_1 bk_4 cs_4 bk_8 cs_8 A_17 n_17 c_17 O ne_0 k_0 r_0 ne_1 k_1 r_1 e_4 e_8 ne_17 k_17 r_17
  subst ne_0
  subst ne_1
  obtain ⟨rfl, qe_4_0, qe_4_1, qe_4_2⟩ := id e_4
  obtain ⟨rfl, qe_8_0, qe_8_1, qe_8_2⟩ := id e_8
  subst ne_17
  refine f54.j0_in ?_
  unfold f54.j0T
  refine ⟨_, ldAn (Sub.refl _) (O.all 1 rfl) rfl, ?_⟩
  obtain ⟨y1, g2, e⟩ := bind_e e
  refine (explore_may.walk (Hold.start (W := No) O.s) rfl k_0 r_0 (show T_explore_State.E _ y_8 [(Value.int .i64 (List.getD y_8.Cells 0 (0 : Int))), (Value.int .i64 (List.getD y_8.Cells 1 (0 : Int))), (Value.int .i64 (List.getD y_8.Cells 2 (0 : Int))), (Value.int .i64 (List.getD y_8.Cells 3 (0 : Int))), (Value.int .i64 (List.getD y_8.Hands 0 (0 : Int))), (Value.int .i64 (List.getD y_8.Hands 1 (0 : Int))), (Value.int .i64 (List.getD y_8.Hands 2 (0 : Int))), (Value.int .i64 (List.getD y_8.Hands 3 (0 : Int))), (Value.int .i64 (List.getD y_8.At 0 (0 : Int))), (Value.int .i64 (List.getD y_8.At 1 (0 : Int))), (Value.int .i64 (List.getD y_8.At 2 (0 : Int))), (Value.int .i64 (List.getD y_8.At 3 (0 : Int)))] from ⟨rfl, qe_8_0, qe_8_1, qe_8_2⟩) g2).mono ?_
  rintro _ h3 ⟨m4, Q5, rfl⟩
  have O7 := Hold.nm (O.retC Q5 vfs_nil)
  refine ⟨_, rfl, ?_⟩
  refine split_not ?_
  refine split_any_e e (fun c24 e => ?_) (fun c24 e => ?_)
  · refine ⟨_, ldAn (Sub.refl _) (O7.all 1 rfl) rfl, ?_⟩
    obtain ⟨y8, g9, e⟩ := bind_e e
    refine (explore_step.walk (Hold.start (W := No) O7.s) rfl k_0 r_0 (show T_explore_State.E _ y_8 [(Value.int .i64 (List.getD y_8.Cells 0 (0 : Int))), (Value.int .i64 (List.getD y_8.Cells 1 (0 : Int))), (Value.int .i64 (List.getD y_8.Cells 2 (0 : Int))), (Value.int .i64 (List.getD y_8.Cells 3 (0 : Int))), (Value.int .i64 (List.getD y_8.Hands 0 (0 : Int))), (Value.int .i64 (List.getD y_8.Hands 1 (0 : Int))), (Value.int .i64 (List.getD y_8.Hands 2 (0 : Int))), (Value.int .i64 (List.getD y_8.Hands 3 (0 : Int))), (Value.int .i64 (List.getD y_8.At 0 (0 : Int))), (Value.int .i64 (List.getD y_8.At 1 (0 : Int))), (Value.int .i64 (List.getD y_8.At 2 (0 : Int))), (Value.int .i64 (List.getD y_8.At 3 (0 : Int)))] from ⟨rfl, qe_8_0, qe_8_1, qe_8_2⟩) g9).mono ?_
    rintro _ h10 ⟨m11, cs15, Q12, rfl, he16⟩
    have O17 := Hold.nm (O7.retC Q12 vfs_nil)
    obtain ⟨rfl, qhe16_0, qhe16_1, qhe16_2⟩ := id he16
    refine ⟨_, rfl, rfl, ?_⟩
    refine O17.stA 1 rfl rfl (Flats.cons trivial (Flats.cons trivial (Flats.cons trivial (Flats.cons trivial (Flats.cons trivial (Flats.cons trivial (Flats.cons trivial (Flats.cons trivial (Flats.cons trivial (Flats.cons trivial (Flats.cons trivial (Flats.cons trivial Flats.nil)))))))))))) fun h18 O19 => ?_
    have O20 := O19.nm
    exact (ih _ _ e) _ _ _ _ _ _ _ _ _ _ _ _ _ _ _ _ _ _ (O20.pick [0, 1]).nm rfl k_0 r_0 rfl k_1 r_1 (show T_explore_State.E _ y_4 [(Value.int .i64 (List.getD y_4.Cells 0 (0 : Int))), (Value.int .i64 (List.getD y_4.Cells 1 (0 : Int))), (Value.int .i64 (List.getD y_4.Cells 2 (0 : Int))), (Value.int .i64 (List.getD y_4.Cells 3 (0 : Int))), (Value.int .i64 (List.getD y_4.Hands 0 (0 : Int))), (Value.int .i64 (List.getD y_4.Hands 1 (0 : Int))), (Value.int .i64 (List.getD y_4.Hands 2 (0 : Int))), (Value.int .i64 (List.getD y_4.Hands 3 (0 : Int))), (Value.int .i64 (List.getD y_4.At 0 (0 : Int))), (Value.int .i64 (List.getD y_4.At 1 (0 : Int))), (Value.int .i64 (List.getD y_4.At 2 (0 : Int))), (Value.int .i64 (List.getD y_4.At 3 (0 : Int)))] from ⟨rfl, qe_4_0, qe_4_1, qe_4_2⟩) (show T_explore_State.E _ y8 [(Value.int .i64 (List.getD y8.Cells 0 (0 : Int))), (Value.int .i64 (List.getD y8.Cells 1 (0 : Int))), (Value.int .i64 (List.getD y8.Cells 2 (0 : Int))), (Value.int .i64 (List.getD y8.Cells 3 (0 : Int))), (Value.int .i64 (List.getD y8.Hands 0 (0 : Int))), (Value.int .i64 (List.getD y8.Hands 1 (0 : Int))), (Value.int .i64 (List.getD y8.Hands 2 (0 : Int))), (Value.int .i64 (List.getD y8.Hands 3 (0 : Int))), (Value.int .i64 (List.getD y8.At 0 (0 : Int))), (Value.int .i64 (List.getD y8.At 1 (0 : Int))), (Value.int .i64 (List.getD y8.At 2 (0 : Int))), (Value.int .i64 (List.getD y8.At 3 (0 : Int)))] from ⟨rfl, qhe16_0, qhe16_1, qhe16_2⟩) rfl k_17 r_17
  · refine ⟨_, ldAn (Sub.refl _) (O7.all 1 rfl) rfl, ?_⟩
    refine ⟨_, rfl, rfl, ?_⟩
    refine O7.stA 0 rfl rfl (Flats.cons trivial (Flats.cons trivial (Flats.cons trivial (Flats.cons trivial (Flats.cons trivial (Flats.cons trivial (Flats.cons trivial (Flats.cons trivial (Flats.cons trivial (Flats.cons trivial (Flats.cons trivial (Flats.cons trivial Flats.nil)))))))))))) fun h21 O22 => ?_
    refine ⟨_, ldAn (Sub.refl _) (O22.all 0 rfl) rfl, ?_⟩
    have O23 := O22.nm
    cases e
    exact ⟨_, _, O23.pick [], rfl, (show T_explore_State.E _ y_8 [(Value.int .i64 (List.getD y_8.Cells 0 (0 : Int))), (Value.int .i64 (List.getD y_8.Cells 1 (0 : Int))), (Value.int .i64 (List.getD y_8.Cells 2 (0 : Int))), (Value.int .i64 (List.getD y_8.Cells 3 (0 : Int))), (Value.int .i64 (List.getD y_8.Hands 0 (0 : Int))), (Value.int .i64 (List.getD y_8.Hands 1 (0 : Int))), (Value.int .i64 (List.getD y_8.Hands 2 (0 : Int))), (Value.int .i64 (List.getD y_8.Hands 3 (0 : Int))), (Value.int .i64 (List.getD y_8.At 0 (0 : Int))), (Value.int .i64 (List.getD y_8.At 1 (0 : Int))), (Value.int .i64 (List.getD y_8.At 2 (0 : Int))), (Value.int .i64 (List.getD y_8.At 3 (0 : Int)))] from ⟨rfl, qe_8_0, qe_8_1, qe_8_2⟩)⟩
theorem explore_Run.l0_k.all {p : explore_Run.l0_k.Pt} {r : (T_explore_State × Int × Int)} (e : explore_Run.l0_k.go p = some r) : explore_Run.l0_k.I p r := fixF_ind (β := fun _ => (T_explore_State × Int × Int)) explore_Run.l0_k.mono (I := explore_Run.l0_k.I) (fun go ih p r e => match p with
  | .l0 a_0 a_1 y_4 y_8 a_17 x_18 x_19 => explore_Run.l0_k.step_l0 go ih a_0 a_1 y_4 y_8 a_17 x_18 x_19 r e
  | .j1 a_0 a_1 y_4 y_8 x_9 x_10 a_17 x_18 x_19 b_31 => explore_Run.l0_k.step_j1 go ih a_0 a_1 y_4 y_8 x_9 x_10 a_17 x_18 x_19 b_31 r e
  | .j0 a_0 a_1 y_4 y_8 x_9 x_10 a_17 x_18 x_19 => explore_Run.l0_k.step_j0 go ih a_0 a_1 y_4 y_8 x_9 x_10 a_17 x_18 x_19 r e
  ) e
theorem explore_Run.l0.walk {W : Nat → Prop} {h0 m0 h m : Heap} {A_0 : Option Addr} {n_0 c_0 : Nat} {A_1 : Option Addr} {n_1 c_1 : Nat} {bk_4 : Nat} {cs_4 : List Value} {bk_8 : Nat} {cs_8 : List Value} {A_17 : Option Addr} {n_17 c_17 : Nat} {a_0 : List (List T_explore_Do)} {a_1 : List Int} {y_4 : T_explore_State} {y_8 : T_explore_State} {a_17 : List Int} {x_18 : Int} {x_19 : Int} (O : Hold W h0 m0 h m [rV bk_4 101 cs_4, rV bk_8 101 cs_8]) (ne_0 : n_0 = List.length a_0) (k_0 : List.length a_0 ≤ c_0) (r_0 : Rd 1 (eRow 3 T_explore_Do.E) m A_0 a_0) (ne_1 : n_1 = List.length a_1) (k_1 : List.length a_1 ≤ c_1) (r_1 : Rd 1 (eInt .i64) m A_1 a_1) (e_4 : T_explore_State.E m y_4 cs_4) (e_8 : T_explore_State.E m y_8 cs_8) (ne_17 : n_17 = List.length a_17) (k_17 : List.length a_17 ≤ c_17) (r_17 : Rd 1 (eInt .i64) m A_17 a_17) {r : T_explore_State × Int × Int} (e : explore_Run.l0 a_0 a_1 y_4 y_8 a_17 x_18 x_19 = some r) : f54.l0 (explore_Run.post W h0 m0 r) A_0 n_0 c_0 A_1 n_1 c_1 (⟨bk_4, 0, none⟩ : Addr) (⟨bk_8, 0, none⟩ : Addr) A_17 n_17 c_17 x_18 x_19 h := explore_Run.l0_k.all (p := .l0 a_0 a_1 y_4 y_8 a_17 x_18 x_19) e W h0 m0 h m A_0 n_0 c_0 A_1 n_1 c_1 bk_4 cs_4 bk_8 cs_8 A_17 n_17 c_17 O ne_0 k_0 r_0 ne_1 k_1 r_1 e_4 e_8 ne_17 k_17 r_17
theorem explore_Run.j1.walk {W : Nat → Prop} {h0 m0 h m : Heap} {A_0 : Option Addr} {n_0 c_0 : Nat} {A_1 : Option Addr} {n_1 c_1 : Nat} {bk_4 : Nat} {cs_4 : List Value} {bk_8 : Nat} {cs_8 : List Value} {A_17 : Option Addr} {n_17 c_17 : Nat} {a_0 : List (List T_explore_Do)} {a_1 : List Int} {y_4 : T_explore_State} {y_8 : T_explore_State} {x_9 : Int} {x_10 : Int} {a_17 : List Int} {x_18 : Int} {x_19 : Int} {b_31 : Bool} (O : Hold W h0 m0 h m [rV bk_4 101 cs_4, rV bk_8 101 cs_8]) (ne_0 : n_0 = List.length a_0) (k_0 : List.length a_0 ≤ c_0) (r_0 : Rd 1 (eRow 3 T_explore_Do.E) m A_0 a_0) (ne_1 : n_1 = List.length a_1) (k_1 : List.length a_1 ≤ c_1) (r_1 : Rd 1 (eInt .i64) m A_1 a_1) (e_4 : T_explore_State.E m y_4 cs_4) (e_8 : T_explore_State.E m y_8 cs_8) (ne_17 : n_17 = List.length a_17) (k_17 : List.length a_17 ≤ c_17) (r_17 : Rd 1 (eInt .i64) m A_17 a_17) {r : T_explore_State × Int × Int} (e : explore_Run.j1 a_0 a_1 y_4 y_8 x_9 x_10 a_17 x_18 x_19 b_31 = some r) : f54.j1 (explore_Run.post W h0 m0 r) A_0 n_0 c_0 A_1 n_1 c_1 (⟨bk_4, 0, none⟩ : Addr) (⟨bk_8, 0, none⟩ : Addr) x_9 x_10 A_17 n_17 c_17 x_18 x_19 b_31 h := explore_Run.l0_k.all (p := .j1 a_0 a_1 y_4 y_8 x_9 x_10 a_17 x_18 x_19 b_31) e W h0 m0 h m A_0 n_0 c_0 A_1 n_1 c_1 bk_4 cs_4 bk_8 cs_8 A_17 n_17 c_17 O ne_0 k_0 r_0 ne_1 k_1 r_1 e_4 e_8 ne_17 k_17 r_17
theorem explore_Run.j0.walk {W : Nat → Prop} {h0 m0 h m : Heap} {A_0 : Option Addr} {n_0 c_0 : Nat} {A_1 : Option Addr} {n_1 c_1 : Nat} {bk_4 : Nat} {cs_4 : List Value} {bk_8 : Nat} {cs_8 : List Value} {A_17 : Option Addr} {n_17 c_17 : Nat} {a_0 : List (List T_explore_Do)} {a_1 : List Int} {y_4 : T_explore_State} {y_8 : T_explore_State} {x_9 : Int} {x_10 : Int} {a_17 : List Int} {x_18 : Int} {x_19 : Int} (O : Hold W h0 m0 h m [rV bk_4 101 cs_4, rV bk_8 101 cs_8]) (ne_0 : n_0 = List.length a_0) (k_0 : List.length a_0 ≤ c_0) (r_0 : Rd 1 (eRow 3 T_explore_Do.E) m A_0 a_0) (ne_1 : n_1 = List.length a_1) (k_1 : List.length a_1 ≤ c_1) (r_1 : Rd 1 (eInt .i64) m A_1 a_1) (e_4 : T_explore_State.E m y_4 cs_4) (e_8 : T_explore_State.E m y_8 cs_8) (ne_17 : n_17 = List.length a_17) (k_17 : List.length a_17 ≤ c_17) (r_17 : Rd 1 (eInt .i64) m A_17 a_17) {r : T_explore_State × Int × Int} (e : explore_Run.j0 a_0 a_1 y_4 y_8 x_9 x_10 a_17 x_18 x_19 = some r) : f54.j0 (explore_Run.post W h0 m0 r) A_0 n_0 c_0 A_1 n_1 c_1 (⟨bk_4, 0, none⟩ : Addr) (⟨bk_8, 0, none⟩ : Addr) x_9 x_10 A_17 n_17 c_17 x_18 x_19 h := explore_Run.l0_k.all (p := .j0 a_0 a_1 y_4 y_8 x_9 x_10 a_17 x_18 x_19) e W h0 m0 h m A_0 n_0 c_0 A_1 n_1 c_1 bk_4 cs_4 bk_8 cs_8 A_17 n_17 c_17 O ne_0 k_0 r_0 ne_1 k_1 r_1 e_4 e_8 ne_17 k_17 r_17

noncomputable def explore_Run (a_0 : List (List T_explore_Do)) (a_1 : List Int) : Option (T_explore_State × Int × Int) :=
  Option.bind (explore_Check a_0) fun y5 => if y5 = (0 : Int) then ((explore_Run.l0 a_0 a_1 (T_explore_State.mk (List.replicate 4 (0 : Int)) (List.replicate 4 (0 : Int)) (List.replicate 4 (0 : Int))) (T_explore_State.mk (List.replicate 4 (0 : Int)) (List.replicate 4 (0 : Int)) (List.replicate 4 (0 : Int))) a_1 (((List.length a_1) : Nat) : Int) (0 : Int))) else (some ((T_explore_State.mk (List.replicate 4 (0 : Int)) (List.replicate 4 (0 : Int)) (List.replicate 4 (0 : Int))), (0 : Int), y5))
set_option maxRecDepth 100000 in
theorem explore_Run.walk {W : Nat → Prop} {h m : Heap} {A_0 : Option Addr} {n_0 c_0 : Nat} {A_1 : Option Addr} {n_1 c_1 : Nat} {a_0 : List (List T_explore_Do)} {a_1 : List Int} (O : Hold W h m h m []) (ne_0 : n_0 = List.length a_0) (k_0 : List.length a_0 ≤ c_0) (r_0 : Rd 1 (eRow 3 T_explore_Do.E) m A_0 a_0) (ne_1 : n_1 = List.length a_1) (k_1 : List.length a_1 ≤ c_1) (r_1 : Rd 1 (eInt .i64) m A_1 a_1) {r : T_explore_State × Int × Int} (e : explore_Run a_0 a_1 = some r) : Run Try.prog 54 #[Value.slice A_0 n_0 c_0, Value.slice A_1 n_1 c_1] h (explore_Run.post W h m r) := by
  unfold explore_Run at e
  subst ne_0
  subst ne_1
  refine f54.run ?_
  unfold f54.runT
  refine O.new fun h1 x2 O3 => ?_
  obtain ⟨y5, g6, e⟩ := bind_e e
  refine (explore_Check.walk (Hold.start (W := No) O3.s) rfl k_0 r_0 g6).mono ?_
  rintro _ h7 ⟨m8, Q9, rfl⟩
  have O11 := Hold.nm (O3.retC Q9 vfs_nil)
  refine ⟨_, rfl, ?_⟩
  refine split_ne_e e (fun c20 e => ?_) (fun c20 e => ?_)
  · refine ⟨_, rfl, rfl, ?_⟩
    refine O11.stA 0 rfl rfl (Flats.cons trivial (Flats.cons trivial (Flats.cons trivial (Flats.cons trivial (Flats.cons trivial (Flats.cons trivial (Flats.cons trivial (Flats.cons trivial (Flats.cons trivial (Flats.cons trivial (Flats.cons trivial (Flats.cons trivial Flats.nil)))))))))))) fun h12 O13 => ?_
    refine ⟨_, ldAn (Sub.refl _) (O13.all 0 rfl) rfl, ?_⟩
    have O14 := O13.nm
    cases e
    exact ⟨_, _, O14.pick [], rfl, (show T_explore_State.E _ (T_explore_State.mk (List.replicate 4 (0 : Int)) (List.replicate 4 (0 : Int)) (List.replicate 4 (0 : Int))) [(Value.int .i64 (0 : Int)), (Value.int .i64 (0 : Int)), (Value.int .i64 (0 : Int)), (Value.int .i64 (0 : Int)), (Value.int .i64 (0 : Int)), (Value.int .i64 (0 : Int)), (Value.int .i64 (0 : Int)), (Value.int .i64 (0 : Int)), (Value.int .i64 (0 : Int)), (Value.int .i64 (0 : Int)), (Value.int .i64 (0 : Int)), (Value.int .i64 (0 : Int))] from ⟨rfl, rfl, rfl, rfl⟩)⟩
  · refine O11.new fun h15 x16 O17 => ?_
    have O19 := O17.nm
    exact explore_Run.l0.walk (O19.pick [0, 1]).nm rfl k_0 r_0 rfl k_1 r_1 (show T_explore_State.E _ (T_explore_State.mk (List.replicate 4 (0 : Int)) (List.replicate 4 (0 : Int)) (List.replicate 4 (0 : Int))) [(Value.int .i64 (0 : Int)), (Value.int .i64 (0 : Int)), (Value.int .i64 (0 : Int)), (Value.int .i64 (0 : Int)), (Value.int .i64 (0 : Int)), (Value.int .i64 (0 : Int)), (Value.int .i64 (0 : Int)), (Value.int .i64 (0 : Int)), (Value.int .i64 (0 : Int)), (Value.int .i64 (0 : Int)), (Value.int .i64 (0 : Int)), (Value.int .i64 (0 : Int))] from ⟨rfl, rfl, rfl, rfl⟩) (show T_explore_State.E _ (T_explore_State.mk (List.replicate 4 (0 : Int)) (List.replicate 4 (0 : Int)) (List.replicate 4 (0 : Int))) [(Value.int .i64 (0 : Int)), (Value.int .i64 (0 : Int)), (Value.int .i64 (0 : Int)), (Value.int .i64 (0 : Int)), (Value.int .i64 (0 : Int)), (Value.int .i64 (0 : Int)), (Value.int .i64 (0 : Int)), (Value.int .i64 (0 : Int)), (Value.int .i64 (0 : Int)), (Value.int .i64 (0 : Int)), (Value.int .i64 (0 : Int)), (Value.int .i64 (0 : Int))] from ⟨rfl, rfl, rfl, rfl⟩) rfl k_1 r_1 e

/-! ### 55 roadstead/roadlaw4.progs -/
def roadlaw4_progs.post (W : Nat → Prop) (h0 m0 : Heap) (r : (List (List T_explore_Do))) (v : Value) (h : Heap) : Prop := ∃ m A0 n0 c0, Hold W h0 m0 h m [rR (aRow (aE T_explore_Do.T)) A0 c0 r] ∧ v = .slice A0 n0 c0 ∧ n0 = List.length r
inductive roadlaw4_progs.l0_k.Pt where
  | l0 (a_3 : List (List T_explore_Do)) (a_11 : List (List T_roadref4_Do)) (x_12 : Int) (x_13 : Int)
  | l1 (a_3 : List (List T_explore_Do)) (x_4 : Int) (a_11 : List (List T_roadref4_Do)) (x_12 : Int) (x_13 : Int) (a_18 : List T_roadref4_Do) (x_19 : Int) (x_20 : Int)
noncomputable def roadlaw4_progs.l0_k.body (go : (p : roadlaw4_progs.l0_k.Pt) → Option ((List (List T_explore_Do)))) : (p : roadlaw4_progs.l0_k.Pt) → Option ((List (List T_explore_Do)))
  | .l0 a_3 a_11 x_12 x_13 => if x_13 < x_12 then (Option.bind (gi a_11 x_13) fun y1 => (go (.l1 a_3 x_13 a_11 x_12 x_13 y1 (((List.length y1) : Nat) : Int) (0 : Int)))) else (some (a_3))
  | .l1 a_3 x_4 a_11 x_12 x_13 a_18 x_19 x_20 => if x_20 < x_19 then (Option.bind (gi a_18 x_20) fun y1 => Option.bind (gi a_3 x_4) fun y16 => Option.bind (ap 24 y16 ([(T_explore_Do.mk y1.Kind y1.Cell y1.By)] : List T_explore_Do)) fun l31 => Option.bind (some (List.set a_3 (Int.toNat x_4) l31)) fun l46 => (go (.l1 l46 x_4 a_11 x_12 x_13 a_18 x_19 (IntKind.wrap .i64 (x_20 + (1 : Int)))))) else ((go (.l0 a_3 a_11 x_12 (IntKind.wrap .i64 (x_13 + (1 : Int))))))
theorem roadlaw4_progs.l0_k.mono : MonoF (β := fun _ => ((List (List T_explore_Do)))) roadlaw4_progs.l0_k.body := fun f g hfg p => match p with
  | .l0 a_3 a_11 x_12 x_13 => LeO.ite (LeO.bind (LeO.refl _) fun y1 => (hfg _)) (LeO.refl _)
  | .l1 a_3 x_4 a_11 x_12 x_13 a_18 x_19 x_20 => LeO.ite (LeO.bind (LeO.refl _) fun y1 => LeO.bind (LeO.refl _) fun y16 => LeO.bind (LeO.refl _) fun l31 => LeO.bind (LeO.refl _) fun l46 => (hfg _)) ((hfg _))
noncomputable def roadlaw4_progs.l0_k.go (p : roadlaw4_progs.l0_k.Pt) : Option ((List (List T_explore_Do))) := fixF (β := fun _ => ((List (List T_explore_Do)))) roadlaw4_progs.l0_k.body p
noncomputable def roadlaw4_progs.l0 (a_3 : List (List T_explore_Do)) (a_11 : List (List T_roadref4_Do)) (x_12 : Int) (x_13 : Int) : Option ((List (List T_explore_Do))) := roadlaw4_progs.l0_k.go (.l0 a_3 a_11 x_12 x_13)
noncomputable def roadlaw4_progs.l1 (a_3 : List (List T_explore_Do)) (x_4 : Int) (a_11 : List (List T_roadref4_Do)) (x_12 : Int) (x_13 : Int) (a_18 : List T_roadref4_Do) (x_19 : Int) (x_20 : Int) : Option ((List (List T_explore_Do))) := roadlaw4_progs.l0_k.go (.l1 a_3 x_4 a_11 x_12 x_13 a_18 x_19 x_20)
theorem roadlaw4_progs.l0_eq (a_3 : List (List T_explore_Do)) (a_11 : List (List T_roadref4_Do)) (x_12 : Int) (x_13 : Int) : roadlaw4_progs.l0 a_3 a_11 x_12 x_13 = if x_13 < x_12 then (Option.bind (gi a_11 x_13) fun y1 => (roadlaw4_progs.l1 a_3 x_13 a_11 x_12 x_13 y1 (((List.length y1) : Nat) : Int) (0 : Int))) else (some (a_3)) := fixF_eq roadlaw4_progs.l0_k.mono _
theorem roadlaw4_progs.l1_eq (a_3 : List (List T_explore_Do)) (x_4 : Int) (a_11 : List (List T_roadref4_Do)) (x_12 : Int) (x_13 : Int) (a_18 : List T_roadref4_Do) (x_19 : Int) (x_20 : Int) : roadlaw4_progs.l1 a_3 x_4 a_11 x_12 x_13 a_18 x_19 x_20 = if x_20 < x_19 then (Option.bind (gi a_18 x_20) fun y1 => Option.bind (gi a_3 x_4) fun y16 => Option.bind (ap 24 y16 ([(T_explore_Do.mk y1.Kind y1.Cell y1.By)] : List T_explore_Do)) fun l31 => Option.bind (some (List.set a_3 (Int.toNat x_4) l31)) fun l46 => (roadlaw4_progs.l1 l46 x_4 a_11 x_12 x_13 a_18 x_19 (IntKind.wrap .i64 (x_20 + (1 : Int))))) else ((roadlaw4_progs.l0 a_3 a_11 x_12 (IntKind.wrap .i64 (x_13 + (1 : Int))))) := fixF_eq roadlaw4_progs.l0_k.mono _
def roadlaw4_progs.l0_k.I : (p : roadlaw4_progs.l0_k.Pt) → ((List (List T_explore_Do))) → Prop
  | .l0 a_3 a_11 x_12 x_13, r => ∀ (W : Nat → Prop) (h0 m0 h m : Heap) (A_3 : Option Addr) (n_3 c_3 : Nat) (A_11 : Option Addr) (n_11 c_11 : Nat) (O : Hold W h0 m0 h m [rR (aRow (aE T_explore_Do.T)) A_3 c_3 a_3]) (ne_3 : n_3 = List.length a_3) (ne_11 : n_11 = List.length a_11) (k_11 : List.length a_11 ≤ c_11) (r_11 : Rd 1 (eRow 3 T_roadref4_Do.E) m A_11 a_11), f55.l0 (roadlaw4_progs.post W h0 m0 r) A_3 n_3 c_3 A_11 n_11 c_11 x_12 x_13 h
  | .l1 a_3 x_4 a_11 x_12 x_13 a_18 x_19 x_20, r => ∀ (W : Nat → Prop) (h0 m0 h m : Heap) (A_3 : Option Addr) (n_3 c_3 : Nat) (A_11 : Option Addr) (n_11 c_11 : Nat) (A_18 : Option Addr) (n_18 c_18 : Nat) (O : Hold W h0 m0 h m [rR (aRow (aE T_explore_Do.T)) A_3 c_3 a_3]) (ne_3 : n_3 = List.length a_3) (ne_11 : n_11 = List.length a_11) (k_11 : List.length a_11 ≤ c_11) (r_11 : Rd 1 (eRow 3 T_roadref4_Do.E) m A_11 a_11) (ne_18 : n_18 = List.length a_18) (k_18 : List.length a_18 ≤ c_18) (r_18 : Rd 3 T_roadref4_Do.E m A_18 a_18), f55.l1 (roadlaw4_progs.post W h0 m0 r) A_3 n_3 c_3 x_4 A_11 n_11 c_11 x_12 x_13 A_18 n_18 c_18 x_19 x_20 h
set_option maxRecDepth 100000 in
theorem roadlaw4_progs.l0_k.step_l0 (go : (p : roadlaw4_progs.l0_k.Pt) → Option ((List (List T_explore_Do)))) (ih : ∀ p r, go p = some r → roadlaw4_progs.l0_k.I p r) (a_3 : List (List T_explore_Do)) (a_11 : List (List T_roadref4_Do)) (x_12 : Int) (x_13 : Int) (r : (List (List T_explore_Do))) (e : roadlaw4_progs.l0_k.body go (.l0 a_3 a_11 x_12 x_13) = some r) : roadlaw4_progs.l0_k.I (.l0 a_3 a_11 x_12 x_13) r := by
  unfold roadlaw4_progs.l0_k.body at e
  intro W h0 m0 h m A_3 n_3 c_3 A_11 n_11 c_11 O ne_3 ne_11 k_11 r_11
  subst ne_3
  subst ne_11
  refine f55.l0_in ?_
  unfold f55.l0T
  refine split_dec_e e (fun c8 e => ?_) (fun c8 e => ?_)
  · obtain ⟨y1, g2, e⟩ := bind_e e
    refine r_11.addr rfl g2 fun a3 cs4 ha5 hc6 he7 => ?_
    obtain ⟨Acs4_0, ccs4_0, rfl, kcs4_0, rcs4_0⟩ := id he7
    refine ⟨_, ld0 O.s hc6 rfl, _, _, _, rfl, ?_⟩
    exact (ih _ _ e) _ _ _ _ _ _ _ _ _ _ _ _ _ _ (O.pick [0]).nm rfl rfl k_11 r_11 rfl kcs4_0 rcs4_0
  · cases e
    exact ⟨_, _, _, _, O.pick [0], rfl, rfl⟩
set_option maxHeartbeats 4000000 in
set_option maxRecDepth 100000 in
theorem roadlaw4_progs.l0_k.step_l1 (go : (p : roadlaw4_progs.l0_k.Pt) → Option ((List (List T_explore_Do)))) (ih : ∀ p r, go p = some r → roadlaw4_progs.l0_k.I p r) (a_3 : List (List T_explore_Do)) (x_4 : Int) (a_11 : List (List T_roadref4_Do)) (x_12 : Int) (x_13 : Int) (a_18 : List T_roadref4_Do) (x_19 : Int) (x_20 : Int) (r : (List (List T_explore_Do))) (e : roadlaw4_progs.l0_k.body go (.l1 a_3 x_4 a_11 x_12 x_13 a_18 x_19 x_20) = some r) : roadlaw4_progs.l0_k.I (.l1 a_3 x_4 a_11 x_12 x_13 a_18 x_19 x_20) r := by
  unfold roadlaw4_progs.l0_k.body at e
  intro W h0 m0 h m A_3 n_3 c_3 A_11 n_11 c_11 A_18 n_18 c_18 O ne_3 ne_11 k_11 r_11 ne_18 k_18 r_18
  subst ne_3
  subst ne_11
  subst ne_18
  refine f55.l1_in ?_
  unfold f55.l1T
  refine split_dec_e e (fun c52 e => ?_) (fun c52 e => ?_)
  · obtain ⟨y1, g2, e⟩ := bind_e e
    refine r_18.addr rfl g2 fun a3 cs4 ha5 hc6 he7 => ?_
    refine ⟨_, ldAn O.s hc6 rfl, ?_⟩
    refine O.new fun h8 x9 O10 => ?_
    refine ⟨_, rfl, (T_roadref4_Do.T.len _ _ _ he7), ?_⟩
    refine O10.stA 1 rfl (T_roadref4_Do.T.len _ _ _ he7) (T_roadref4_Do.T.flat _ _ _ he7) fun h12 O13 => ?_
    obtain ⟨y16, g17, e⟩ := bind_e e
    refine O13.adr 0 rfl rfl g17 fun a14 ha15 => ?_
    obtain ⟨hs18, O19⟩ := O13.openX 0 rfl g17
    obtain ⟨A20, c21, hx22, hc23, k24⟩ := O19.hdX 0 rfl ha15 g17
    refine ⟨_, ld0 (Sub.refl _) hc23 rfl, _, _, _, rfl, ?_⟩
    refine ⟨_, ld0 (Sub.refl _) (O19.all 1 rfl) (T_roadref4_Do.g0 he7), _, rfl, ?_⟩
    refine ⟨_, ldk (k := 1) (Sub.refl _) (O19.all 1 rfl) (T_roadref4_Do.g1 he7), _, rfl, ?_⟩
    refine ⟨_, ldk (k := 2) (Sub.refl _) (O19.all 1 rfl) (T_roadref4_Do.g2 he7), _, rfl, ?_⟩
    refine ⟨Ext.refl _, ?_⟩
    refine ⟨[(Value.int .i64 y1.Kind), (Value.int .i64 y1.Cell), (Value.int .i64 y1.By)], rfl, rfl, ?_⟩
    refine O19.new fun h26 x27 O28 => ?_
    refine ⟨x27, ?_⟩
    obtain ⟨l31, g32, e⟩ := bind_e e
    have O30 := O28.takeX 0 rfl hx22 g17
    have O39 := O30.rowE (l := ([(T_explore_Do.mk y1.Kind y1.Cell y1.By)] : List T_explore_Do)) 2 rfl T_explore_Do.T (show CsE _ _ _ _ _ from (CsE.cons (c1 := [(Value.int .i64 y1.Kind), (Value.int .i64 y1.Cell), (Value.int .i64 y1.By)]) (show T_explore_Do.E _ (T_explore_Do.mk y1.Kind y1.Cell y1.By) [(Value.int .i64 y1.Kind), (Value.int .i64 y1.Cell), (Value.int .i64 y1.By)] from rfl) rfl CsE.nil)) rfl
    refine O39.app 3 rfl rfl rfl ((O39.os 2 rfl).srcE rfl) (by decide) g32 fun A33 c34 h35 O36 => ?_
    refine ⟨_, _, _, rfl, ?_⟩
    have O40 := O36.nm
    refine O40.adrX 0 rfl rfl g17 fun a41 ha42 => ?_
    obtain ⟨l46, g47, e⟩ := bind_e e
    replace g47 := Option.some.inj g47
    refine O40.hdSt 0 rfl ha42 (v := (Value.slice A33 (List.length l31) c34)) trivial fun h43 O44 => ?_
    have hx48 := hs_set (v := (Value.slice A33 (List.length l31) c34)) hx22
    have O45 := O44.putX 0 3 rfl rfl hx48 rfl g47
    have O50 := O45.closeX 0 rfl
    have O51 := O50.nm
    exact (ih _ _ e) _ _ _ _ _ _ _ _ _ _ _ _ _ _ (O51.pick [0]).nm (lset' g47) rfl k_11 r_11 rfl k_18 r_18
  · exact (ih _ _ e) _ _ _ _ _ _ _ _ _ _ _ (O.pick [0]).nm rfl rfl k_11 r_11
theorem roadlaw4_progs.l0_k.all {p : roadlaw4_progs.l0_k.Pt} {r : ((List (List T_explore_Do)))} (e : roadlaw4_progs.l0_k.go p = some r) : roadlaw4_progs.l0_k.I p r := fixF_ind (β := fun _ => ((List (List T_explore_Do)))) roadlaw4_progs.l0_k.mono (I := roadlaw4_progs.l0_k.I) (fun go ih p r e => match p with
  | .l0 a_3 a_11 x_12 x_13 => roadlaw4_progs.l0_k.step_l0 go ih a_3 a_11 x_12 x_13 r e
  | .l1 a_3 x_4 a_11 x_12 x_13 a_18 x_19 x_20 => roadlaw4_progs.l0_k.step_l1 go ih a_3 x_4 a_11 x_12 x_13 a_18 x_19 x_20 r e
  ) e
theorem roadlaw4_progs.l0.walk {W : Nat → Prop} {h0 m0 h m : Heap} {A_3 : Option Addr} {n_3 c_3 : Nat} {A_11 : Option Addr} {n_11 c_11 : Nat} {a_3 : List (List T_explore_Do)} {a_11 : List (List T_roadref4_Do)} {x_12 : Int} {x_13 : Int} (O : Hold W h0 m0 h m [rR (aRow (aE T_explore_Do.T)) A_3 c_3 a_3]) (ne_3 : n_3 = List.length a_3) (ne_11 : n_11 = List.length a_11) (k_11 : List.length a_11 ≤ c_11) (r_11 : Rd 1 (eRow 3 T_roadref4_Do.E) m A_11 a_11) {r : (List (List T_explore_Do))} (e : roadlaw4_progs.l0 a_3 a_11 x_12 x_13 = some r) : f55.l0 (roadlaw4_progs.post W h0 m0 r) A_3 n_3 c_3 A_11 n_11 c_11 x_12 x_13 h := roadlaw4_progs.l0_k.all (p := .l0 a_3 a_11 x_12 x_13) e W h0 m0 h m A_3 n_3 c_3 A_11 n_11 c_11 O ne_3 ne_11 k_11 r_11
theorem roadlaw4_progs.l1.walk {W : Nat → Prop} {h0 m0 h m : Heap} {A_3 : Option Addr} {n_3 c_3 : Nat} {A_11 : Option Addr} {n_11 c_11 : Nat} {A_18 : Option Addr} {n_18 c_18 : Nat} {a_3 : List (List T_explore_Do)} {x_4 : Int} {a_11 : List (List T_roadref4_Do)} {x_12 : Int} {x_13 : Int} {a_18 : List T_roadref4_Do} {x_19 : Int} {x_20 : Int} (O : Hold W h0 m0 h m [rR (aRow (aE T_explore_Do.T)) A_3 c_3 a_3]) (ne_3 : n_3 = List.length a_3) (ne_11 : n_11 = List.length a_11) (k_11 : List.length a_11 ≤ c_11) (r_11 : Rd 1 (eRow 3 T_roadref4_Do.E) m A_11 a_11) (ne_18 : n_18 = List.length a_18) (k_18 : List.length a_18 ≤ c_18) (r_18 : Rd 3 T_roadref4_Do.E m A_18 a_18) {r : (List (List T_explore_Do))} (e : roadlaw4_progs.l1 a_3 x_4 a_11 x_12 x_13 a_18 x_19 x_20 = some r) : f55.l1 (roadlaw4_progs.post W h0 m0 r) A_3 n_3 c_3 x_4 A_11 n_11 c_11 x_12 x_13 A_18 n_18 c_18 x_19 x_20 h := roadlaw4_progs.l0_k.all (p := .l1 a_3 x_4 a_11 x_12 x_13 a_18 x_19 x_20) e W h0 m0 h m A_3 n_3 c_3 A_11 n_11 c_11 A_18 n_18 c_18 O ne_3 ne_11 k_11 r_11 ne_18 k_18 r_18

noncomputable def roadlaw4_progs (a_0 : List (List T_roadref4_Do)) : Option ((List (List T_explore_Do))) :=
  Option.bind (mks 24 (((List.length a_0) : Nat) : Int) ([] : (List T_explore_Do))) fun l1 => (roadlaw4_progs.l0 l1 a_0 (((List.length a_0) : Nat) : Int) (0 : Int))
set_option maxRecDepth 100000 in
theorem roadlaw4_progs.walk {W : Nat → Prop} {h m : Heap} {A_0 : Option Addr} {n_0 c_0 : Nat} {a_0 : List (List T_roadref4_Do)} (O : Hold W h m h m []) (ne_0 : n_0 = List.length a_0) (k_0 : List.length a_0 ≤ c_0) (r_0 : Rd 1 (eRow 3 T_roadref4_Do.E) m A_0 a_0) {r : (List (List T_explore_Do))} (e : roadlaw4_progs a_0 = some r) : Run Try.prog 55 #[Value.slice A_0 n_0 c_0] h (roadlaw4_progs.post W h m r) := by
  unfold roadlaw4_progs at e
  subst ne_0
  refine f55.run ?_
  unfold f55.runT
  obtain ⟨l1, g2, e⟩ := bind_e e
  have q3 := mks_e g2
  refine ⟨q3.1, Int.le_refl _, q3.2.1, q3.2.2.1, ?_⟩
  refine O.new fun h4 x5 O6 => ?_
  have O7 := O6.made 0 rfl (aRow (aE T_explore_Do.T)) g2 aRow_nil
  try rw [q3.2.2.2.1]
  have O9 := O7.nm
  exact roadlaw4_progs.l0.walk (O9.pick [0]).nm rfl rfl k_0 r_0 e

/-! ### 97 roadstead/explore.as -/
def explore_as.post (W : Nat → Prop) (h0 m0 : Heap) (r : T_part_Step) (v : Value) (h : Heap) : Prop := ∃ m cs0, Hold W h0 m0 h m [] ∧ v = .agg cs0.toArray ∧ T_part_Step.E m r cs0
noncomputable def explore_as (y_0 : T_explore_Do) (x_1 : Int) : Option (T_part_Step) :=
  if 0 ≤ y_0.Cell then (if y_0.Kind = (2 : Int) then (some ((T_part_Step.mk x_1 (0 : Int) (shlI .i64 (1 : Int) y_0.Cell)))) else (if y_0.Kind = (3 : Int) then (some ((T_part_Step.mk x_1 (shlI .i64 (1 : Int) y_0.Cell) (shlI .i64 (1 : Int) y_0.Cell)))) else (some ((T_part_Step.mk x_1 (shlI .i64 (1 : Int) y_0.Cell) (0 : Int)))))) else none
set_option maxRecDepth 100000 in
theorem explore_as.walk {W : Nat → Prop} {h m : Heap} {cs_0 : List Value} {y_0 : T_explore_Do} {x_1 : Int} (O : Hold W h m h m []) (e_0 : T_explore_Do.E m y_0 cs_0) {r : T_part_Step} (e : explore_as y_0 x_1 = some r) : Run Try.prog 97 #[Value.agg cs_0.toArray, Value.int .i64 x_1] h (explore_as.post W h m r) := by
  unfold explore_as at e
  refine f97.run ?_
  unfold f97.runT
  refine O.new fun h1 x2 O3 => ?_
  refine O3.new fun h5 x6 O7 => ?_
  refine ⟨_, ldk (k := 1) (Sub.refl _) (O7.all 0 rfl) (T_explore_Do.g1 e_0), _, rfl, ?_⟩
  obtain ⟨g9, e⟩ := guard_e e
  refine ⟨g9, ?_⟩
  refine ⟨_, ld0 (Sub.refl _) (O7.all 0 rfl) (T_explore_Do.g0 e_0), _, rfl, ?_⟩
  refine split_eq_e e (fun c20 e => ?_) (fun c20 e => ?_)
  · refine ⟨_, rfl, rfl, ?_⟩
    refine O7.stA 1 rfl rfl (Flats.cons trivial (Flats.cons trivial (Flats.cons trivial Flats.nil))) fun h10 O11 => ?_
    refine ⟨_, ldAn (Sub.refl _) (O11.all 1 rfl) rfl, ?_⟩
    have O12 := O11.nm
    cases e
    exact ⟨_, _, O12.pick [], rfl, (show T_part_Step.E _ (T_part_Step.mk x_1 (0 : Int) (shlI .i64 (1 : Int) y_0.Cell)) [(Value.int .i64 x_1), (Value.int .i64 (0 : Int)), (Value.int .i64 (shlI .i64 (1 : Int) y_0.Cell))] from rfl)⟩
  · refine split_eq_e e (fun c19 e => ?_) (fun c19 e => ?_)
    · refine ⟨_, rfl, rfl, ?_⟩
      refine O7.stA 1 rfl rfl (Flats.cons trivial (Flats.cons trivial (Flats.cons trivial Flats.nil))) fun h13 O14 => ?_
      refine ⟨_, ldAn (Sub.refl _) (O14.all 1 rfl) rfl, ?_⟩
      have O15 := O14.nm
      cases e
      exact ⟨_, _, O15.pick [], rfl, (show T_part_Step.E _ (T_part_Step.mk x_1 (shlI .i64 (1 : Int) y_0.Cell) (shlI .i64 (1 : Int) y_0.Cell)) [(Value.int .i64 x_1), (Value.int .i64 (shlI .i64 (1 : Int) y_0.Cell)), (Value.int .i64 (shlI .i64 (1 : Int) y_0.Cell))] from rfl)⟩
    · refine ⟨_, rfl, rfl, ?_⟩
      refine O7.stA 1 rfl rfl (Flats.cons trivial (Flats.cons trivial (Flats.cons trivial Flats.nil))) fun h16 O17 => ?_
      refine ⟨_, ldAn (Sub.refl _) (O17.all 1 rfl) rfl, ?_⟩
      have O18 := O17.nm
      cases e
      exact ⟨_, _, O18.pick [], rfl, (show T_part_Step.E _ (T_part_Step.mk x_1 (shlI .i64 (1 : Int) y_0.Cell) (0 : Int)) [(Value.int .i64 x_1), (Value.int .i64 (shlI .i64 (1 : Int) y_0.Cell)), (Value.int .i64 (0 : Int))] from rfl)⟩

/-! ### 56 roadstead/explore.Steps -/
def explore_Steps.post (W : Nat → Prop) (h0 m0 : Heap) (r : (List T_part_Step) × Int) (v : Value) (h : Heap) : Prop := ∃ m A0 n0 c0, Hold W h0 m0 h m [rR (aE T_part_Step.T) A0 c0 r.1] ∧ v = .tuple #[.slice A0 n0 c0, .int .i64 r.2] ∧ n0 = List.length r.1
inductive explore_Steps.l0_k.Pt where
  | l0 (a_0 : List (List T_explore_Do)) (y_7 : (List Int)) (a_8 : List T_part_Step) (a_16 : List Int) (x_17 : Int) (x_18 : Int)
  | j1 (a_0 : List (List T_explore_Do)) (y_7 : (List Int)) (a_8 : List T_part_Step) (x_10 : Int) (a_16 : List Int) (x_17 : Int) (x_18 : Int) (b_29 : Bool)
  | j0 (a_0 : List (List T_explore_Do)) (y_7 : (List Int)) (a_8 : List T_part_Step) (x_10 : Int) (a_16 : List Int) (x_17 : Int) (x_18 : Int)
noncomputable def explore_Steps.l0_k.body (go : (p : explore_Steps.l0_k.Pt) → Option ((List T_part_Step) × Int)) : (p : explore_Steps.l0_k.Pt) → Option ((List T_part_Step) × Int)
  | .l0 a_0 y_7 a_8 a_16 x_17 x_18 => if x_18 < x_17 then (Option.bind (gi a_16 x_18) fun y1 => if y1 < (0 : Int) then ((go (.j1 a_0 y_7 a_8 y1 a_16 x_17 x_18 true))) else ((go (.j1 a_0 y_7 a_8 y1 a_16 x_17 x_18 (decide (y1 ≥ (((List.length a_0) : Nat) : Int))))))) else (some (a_8, (0 : Int)))
  | .j1 a_0 y_7 a_8 x_10 a_16 x_17 x_18 b_29 => if b_29 = true then (some (([] : List T_part_Step), (1 : Int))) else ((go (.j0 a_0 y_7 a_8 x_10 a_16 x_17 x_18)))
  | .j0 a_0 y_7 a_8 x_10 a_16 x_17 x_18 => Option.bind (gi y_7 x_10) fun y1 => Option.bind (gi a_0 x_10) fun y3 => if y1 = (((List.length y3) : Nat) : Int) then (some (([] : List T_part_Step), (8 : Int))) else (Option.bind (gi a_0 x_10) fun y13 => Option.bind (gi y_7 x_10) fun y20 => Option.bind (gi y13 y20) fun y22 => Option.bind (explore_as y22 x_10) fun y29 => Option.bind (ap 24 a_8 ([y29] : List T_part_Step)) fun l44 => Option.bind (gi y_7 x_10) fun y53 => Option.bind (gi y_7 x_10) fun y55 => Option.bind (some (List.set y_7 (Int.toNat x_10) (IntKind.wrap .i64 (y53 + (1 : Int))))) fun l57 => (go (.l0 a_0 l57 l44 a_16 x_17 (IntKind.wrap .i64 (x_18 + (1 : Int))))))
theorem explore_Steps.l0_k.mono : MonoF (β := fun _ => ((List T_part_Step) × Int)) explore_Steps.l0_k.body := fun f g hfg p => match p with
  | .l0 a_0 y_7 a_8 a_16 x_17 x_18 => LeO.ite (LeO.bind (LeO.refl _) fun y1 => LeO.ite ((hfg _)) ((hfg _))) (LeO.refl _)
  | .j1 a_0 y_7 a_8 x_10 a_16 x_17 x_18 b_29 => LeO.ite (LeO.refl _) ((hfg _))
  | .j0 a_0 y_7 a_8 x_10 a_16 x_17 x_18 => LeO.bind (LeO.refl _) fun y1 => LeO.bind (LeO.refl _) fun y3 => LeO.ite (LeO.refl _) (LeO.bind (LeO.refl _) fun y13 => LeO.bind (LeO.refl _) fun y20 => LeO.bind (LeO.refl _) fun y22 => LeO.bind (LeO.refl _) fun y29 => LeO.bind (LeO.refl _) fun l44 => LeO.bind (LeO.refl _) fun y53 => LeO.bind (LeO.refl _) fun y55 => LeO.bind (LeO.refl _) fun l57 => (hfg _))
noncomputable def explore_Steps.l0_k.go (p : explore_Steps.l0_k.Pt) : Option ((List T_part_Step) × Int) := fixF (β := fun _ => ((List T_part_Step) × Int)) explore_Steps.l0_k.body p
noncomputable def explore_Steps.l0 (a_0 : List (List T_explore_Do)) (y_7 : (List Int)) (a_8 : List T_part_Step) (a_16 : List Int) (x_17 : Int) (x_18 : Int) : Option ((List T_part_Step) × Int) := explore_Steps.l0_k.go (.l0 a_0 y_7 a_8 a_16 x_17 x_18)
noncomputable def explore_Steps.j1 (a_0 : List (List T_explore_Do)) (y_7 : (List Int)) (a_8 : List T_part_Step) (x_10 : Int) (a_16 : List Int) (x_17 : Int) (x_18 : Int) (b_29 : Bool) : Option ((List T_part_Step) × Int) := explore_Steps.l0_k.go (.j1 a_0 y_7 a_8 x_10 a_16 x_17 x_18 b_29)
noncomputable def explore_Steps.j0 (a_0 : List (List T_explore_Do)) (y_7 : (List Int)) (a_8 : List T_part_Step) (x_10 : Int) (a_16 : List Int) (x_17 : Int) (x_18 : Int) : Option ((List T_part_Step) × Int) := explore_Steps.l0_k.go (.j0 a_0 y_7 a_8 x_10 a_16 x_17 x_18)
theorem explore_Steps.l0_eq (a_0 : List (List T_explore_Do)) (y_7 : (List Int)) (a_8 : List T_part_Step) (a_16 : List Int) (x_17 : Int) (x_18 : Int) : explore_Steps.l0 a_0 y_7 a_8 a_16 x_17 x_18 = if x_18 < x_17 then (Option.bind (gi a_16 x_18) fun y1 => if y1 < (0 : Int) then ((explore_Steps.j1 a_0 y_7 a_8 y1 a_16 x_17 x_18 true)) else ((explore_Steps.j1 a_0 y_7 a_8 y1 a_16 x_17 x_18 (decide (y1 ≥ (((List.length a_0) : Nat) : Int)))))) else (some (a_8, (0 : Int))) := fixF_eq explore_Steps.l0_k.mono _
theorem explore_Steps.j1_eq (a_0 : List (List T_explore_Do)) (y_7 : (List Int)) (a_8 : List T_part_Step) (x_10 : Int) (a_16 : List Int) (x_17 : Int) (x_18 : Int) (b_29 : Bool) : explore_Steps.j1 a_0 y_7 a_8 x_10 a_16 x_17 x_18 b_29 = if b_29 = true then (some (([] : List T_part_Step), (1 : Int))) else ((explore_Steps.j0 a_0 y_7 a_8 x_10 a_16 x_17 x_18)) := fixF_eq explore_Steps.l0_k.mono _
theorem explore_Steps.j0_eq (a_0 : List (List T_explore_Do)) (y_7 : (List Int)) (a_8 : List T_part_Step) (x_10 : Int) (a_16 : List Int) (x_17 : Int) (x_18 : Int) : explore_Steps.j0 a_0 y_7 a_8 x_10 a_16 x_17 x_18 = Option.bind (gi y_7 x_10) fun y1 => Option.bind (gi a_0 x_10) fun y3 => if y1 = (((List.length y3) : Nat) : Int) then (some (([] : List T_part_Step), (8 : Int))) else (Option.bind (gi a_0 x_10) fun y13 => Option.bind (gi y_7 x_10) fun y20 => Option.bind (gi y13 y20) fun y22 => Option.bind (explore_as y22 x_10) fun y29 => Option.bind (ap 24 a_8 ([y29] : List T_part_Step)) fun l44 => Option.bind (gi y_7 x_10) fun y53 => Option.bind (gi y_7 x_10) fun y55 => Option.bind (some (List.set y_7 (Int.toNat x_10) (IntKind.wrap .i64 (y53 + (1 : Int))))) fun l57 => (explore_Steps.l0 a_0 l57 l44 a_16 x_17 (IntKind.wrap .i64 (x_18 + (1 : Int))))) := fixF_eq explore_Steps.l0_k.mono _
def explore_Steps.l0_k.I : (p : explore_Steps.l0_k.Pt) → ((List T_part_Step) × Int) → Prop
  | .l0 a_0 y_7 a_8 a_16 x_17 x_18, r => ∀ (W : Nat → Prop) (h0 m0 h m : Heap) (A_0 : Option Addr) (n_0 c_0 : Nat) (bk_7 : Nat) (cs_7 : List Value) (A_8 : Option Addr) (n_8 c_8 : Nat) (A_16 : Option Addr) (n_16 c_16 : Nat) (O : Hold W h0 m0 h m [rV bk_7 99 cs_7, rR (aE T_part_Step.T) A_8 c_8 a_8]) (ne_0 : n_0 = List.length a_0) (k_0 : List.length a_0 ≤ c_0) (r_0 : Rd 1 (eRow 3 T_explore_Do.E) m A_0 a_0) (e_7 : (eArr 4 (fun n : Int => Value.int .i64 n) (0 : Int)) m y_7 cs_7) (ne_8 : n_8 = List.length a_8) (ne_16 : n_16 = List.length a_16) (k_16 : List.length a_16 ≤ c_16) (r_16 : Rd 1 (eInt .i64) m A_16 a_16), f56.l0 (explore_Steps.post W h0 m0 r) A_0 n_0 c_0 (⟨bk_7, 0, none⟩ : Addr) A_8 n_8 c_8 A_16 n_16 c_16 x_17 x_18 h
  | .j1 a_0 y_7 a_8 x_10 a_16 x_17 x_18 b_29, r => ∀ (W : Nat → Prop) (h0 m0 h m : Heap) (A_0 : Option Addr) (n_0 c_0 : Nat) (bk_7 : Nat) (cs_7 : List Value) (A_8 : Option Addr) (n_8 c_8 : Nat) (A_16 : Option Addr) (n_16 c_16 : Nat) (O : Hold W h0 m0 h m [rV bk_7 99 cs_7, rR (aE T_part_Step.T) A_8 c_8 a_8]) (ne_0 : n_0 = List.length a_0) (k_0 : List.length a_0 ≤ c_0) (r_0 : Rd 1 (eRow 3 T_explore_Do.E) m A_0 a_0) (e_7 : (eArr 4 (fun n : Int => Value.int .i64 n) (0 : Int)) m y_7 cs_7) (ne_8 : n_8 = List.length a_8) (ne_16 : n_16 = List.length a_16) (k_16 : List.length a_16 ≤ c_16) (r_16 : Rd 1 (eInt .i64) m A_16 a_16), f56.j1 (explore_Steps.post W h0 m0 r) A_0 n_0 c_0 (⟨bk_7, 0, none⟩ : Addr) A_8 n_8 c_8 x_10 A_16 n_16 c_16 x_17 x_18 b_29 h
  | .j0 a_0 y_7 a_8 x_10 a_16 x_17 x_18, r => ∀ (W : Nat → Prop) (h0 m0 h m : Heap) (A_0 : Option Addr) (n_0 c_0 : Nat) (bk_7 : Nat) (cs_7 : List Value) (A_8 : Option Addr) (n_8 c_8 : Nat) (A_16 : Option Addr) (n_16 c_16 : Nat) (O : Hold W h0 m0 h m [rV bk_7 99 cs_7, rR (aE T_part_Step.T) A_8 c_8 a_8]) (ne_0 : n_0 = List.length a_0) (k_0 : List.length a_0 ≤ c_0) (r_0 : Rd 1 (eRow 3 T_explore_Do.E) m A_0 a_0) (e_7 : (eArr 4 (fun n : Int => Value.int .i64 n) (0 : Int)) m y_7 cs_7) (ne_8 : n_8 = List.length a_8) (ne_16 : n_16 = List.length a_16) (k_16 : List.length a_16 ≤ c_16) (r_16 : Rd 1 (eInt .i64) m A_16 a_16), f56.j0 (explore_Steps.post W h0 m0 r) A_0 n_0 c_0 (⟨bk_7, 0, none⟩ : Addr) A_8 n_8 c_8 x_10 A_16 n_16 c_16 x_17 x_18 h
set_option maxRecDepth 100000 in
theorem explore_Steps.l0_k.step_l0 (go : (p : explore_Steps.l0_k.Pt) → Option ((List T_part_Step) × Int)) (ih : ∀ p r, go p = some r → explore_Steps.l0_k.I p r) (a_0 : List (List T_explore_Do)) (y_7 : (List Int)) (a_8 : List T_part_Step) (a_16 : List Int) (x_17 : Int) (x_18 : Int) (r : (List T_part_Step) × Int) (e : explore_Steps.l0_k.body go (.l0 a_0 y_7 a_8 a_16 x_17 x_18) = some r) : explore_Steps.l0_k.I (.l0 a_0 y_7 a_8 a_16 x_17 x_18) r := by
  unfold explore_Steps.l0_k.body at e
  intro W h0 m0 h m A_0 n_0 c_0 bk_7 cs_7 A_8 n_8 c_8 A_16 n_16 c_16 O ne_0 k_0 r_0 e_7 ne_8 ne_16 k_16 r_16
  subst ne_0
  have qe_7_0 := e_7.1
  obtain rfl : cs_7 = [(Value.int .i64 (List.getD y_7 0 (0 : Int))), (Value.int .i64 (List.getD y_7 1 (0 : Int))), (Value.int .i64 (List.getD y_7 2 (0 : Int))), (Value.int .i64 (List.getD y_7 3 (0 : Int)))] := e_7.2
  subst ne_8
  subst ne_16
  refine f56.l0_in ?_
  unfold f56.l0T
  refine split_dec_e e (fun c9 e => ?_) (fun c9 e => ?_)
  · obtain ⟨y1, g2, e⟩ := bind_e e
    refine r_16.addr rfl g2 fun a3 cs4 ha5 hc6 he7 => ?_
    obtain rfl : cs4 = [(Value.int .i64 y1)] := he7
    refine ⟨_, ld0 O.s hc6 rfl, _, rfl, ?_⟩
    refine split_dec_e e (fun c8 e => ?_) (fun c8 e => ?_)
    · exact (ih _ _ e) _ _ _ _ _ _ _ _ _ _ _ _ _ _ _ _ (O.pick [0, 1]).nm rfl k_0 r_0 ⟨qe_7_0, rfl⟩ rfl rfl k_16 r_16
    · exact (ih _ _ e) _ _ _ _ _ _ _ _ _ _ _ _ _ _ _ _ (O.pick [0, 1]).nm rfl k_0 r_0 ⟨qe_7_0, rfl⟩ rfl rfl k_16 r_16
  · cases e
    exact ⟨_, _, _, _, O.pick [1], rfl, rfl⟩
set_option maxRecDepth 100000 in
theorem explore_Steps.l0_k.step_j1 (go : (p : explore_Steps.l0_k.Pt) → Option ((List T_part_Step) × Int)) (ih : ∀ p r, go p = some r → explore_Steps.l0_k.I p r) (a_0 : List (List T_explore_Do)) (y_7 : (List Int)) (a_8 : List T_part_Step) (x_10 : Int) (a_16 : List Int) (x_17 : Int) (x_18 : Int) (b_29 : Bool) (r : (List T_part_Step) × Int) (e : explore_Steps.l0_k.body go (.j1 a_0 y_7 a_8 x_10 a_16 x_17 x_18 b_29) = some r) : explore_Steps.l0_k.I (.j1 a_0 y_7 a_8 x_10 a_16 x_17 x_18 b_29) r := by
  unfold explore_Steps.l0_k.body at e
  intro W h0 m0 h m A_0 n_0 c_0 bk_7 cs_7 A_8 n_8 c_8 A_16 n_16 c_16 O ne_0 k_0 r_0 e_7 ne_8 ne_16 k_16 r_16
  subst ne_0
  have qe_7_0 := e_7.1
  obtain rfl : cs_7 = [(Value.int .i64 (List.getD y_7 0 (0 : Int))), (Value.int .i64 (List.getD y_7 1 (0 : Int))), (Value.int .i64 (List.getD y_7 2 (0 : Int))), (Value.int .i64 (List.getD y_7 3 (0 : Int)))] := e_7.2
  subst ne_8
  subst ne_16
  refine f56.j1_in ?_
  unfold f56.j1T
  refine split_any_e e (fun c4 e => ?_) (fun c4 e => ?_)
  · have O1 := O.nil (aE T_part_Step.T) none
    have O3 := O1.nm
    cases e
    exact ⟨_, _, _, _, O3.pick [2], rfl, rfl⟩
  · exact (ih _ _ e) _ _ _ _ _ _ _ _ _ _ _ _ _ _ _ _ (O.pick [0, 1]).nm rfl k_0 r_0 ⟨qe_7_0, rfl⟩ rfl rfl k_16 r_16
set_option maxHeartbeats 4000000 in
set_option maxRecDepth 100000 in
theorem explore_Steps.l0_k.step_j0 (go : (p : explore_Steps.l0_k.Pt) → Option ((List T_part_Step) × Int)) (ih : ∀ p r, go p = some r → explore_Steps.l0_k.I p r) (a_0 : List (List T_explore_Do)) (y_7 : (List Int)) (a_8 : List T_part_Step) (x_10 : Int) (a_16 : List Int) (x_17 : Int) (x_18 : Int) (r : (List T_part_Step) × Int) (e : explore_Steps.l0_k.body go (.j0 a_0 y_7 a_8 x_10 a_16 x_17 x_18) = some r) : explore_Steps.l0_k.I (.j0 a_0 y_7 a_8 x_10 a_16 x_17 x_18) r := by
  unfold explore_Steps.l0_k.body at e
  intro W h0 m0 h m A_0 n_0 c_0 bk_7 cs_7 A_8 n_8 c_8 A_16 n_16 c_16 O ne_0 k_0 r_0 e_7 ne_8 ne_16 k_16 r_16
  subst ne_0
  have qe_7_0 := e_7.1
  obtain rfl : cs_7 = [(Value.int .i64 (List.getD y_7 0 (0 : Int))), (Value.int .i64 (List.getD y_7 1 (0 : Int))), (Value.int .i64 (List.getD y_7 2 (0 : Int))), (Value.int .i64 (List.getD y_7 3 (0 : Int)))] := e_7.2
  subst ne_8
  subst ne_16
  refine f56.j0_in ?_
  unfold f56.j0T
  obtain ⟨y1, g2, e⟩ := bind_e e
  refine ⟨gi_le g2, gi_ltn g2 qe_7_0, ?_⟩
  obtain ⟨y3, g4, e⟩ := bind_e e
  refine r_0.addr rfl g4 fun a5 cs6 ha7 hc8 he9 => ?_
  obtain ⟨Acs6_0, ccs6_0, rfl, kcs6_0, rcs6_0⟩ := id he9
  refine ⟨_, ldArr0 (n := 4) (f := (fun n : Int => Value.int .i64 n)) (d := (0 : Int)) (Sub.refl _) (O.all 0 rfl) rfl qe_7_0 g2, _, rfl, ?_⟩
  refine ⟨_, ld0 O.s hc8 rfl, _, _, _, rfl, ?_⟩
  refine split_eq_e e (fun c66 e => ?_) (fun c66 e => ?_)
  · have O10 := O.nil (aE T_part_Step.T) none
    have O12 := O10.nm
    cases e
    exact ⟨_, _, _, _, O12.pick [2], rfl, rfl⟩
  · obtain ⟨y13, g14, e⟩ := bind_e e
    refine r_0.addr rfl g14 fun a15 cs16 ha17 hc18 he19 => ?_
    obtain ⟨Acs16_0, ccs16_0, rfl, kcs16_0, rcs16_0⟩ := id he19
    obtain ⟨y20, g21, e⟩ := bind_e e
    refine ⟨gi_le g21, gi_ltn g21 qe_7_0, ?_⟩
    refine ⟨_, ld0 O.s hc18 rfl, _, _, _, rfl, ?_⟩
    refine ⟨_, ldArr0 (n := 4) (f := (fun n : Int => Value.int .i64 n)) (d := (0 : Int)) (Sub.refl _) (O.all 0 rfl) rfl qe_7_0 g21, _, rfl, ?_⟩
    obtain ⟨y22, g23, e⟩ := bind_e e
    refine rcs16_0.addr rfl g23 fun a24 cs25 ha26 hc27 he28 => ?_
    refine ⟨_, ldAn O.s hc27 rfl, ?_⟩
    obtain ⟨y29, g30, e⟩ := bind_e e
    refine (explore_as.walk (Hold.start (W := No) O.s) he28 g30).mono ?_
    rintro _ h31 ⟨m32, cs36, Q33, rfl, he37⟩
    replace he37 : T_part_Step.E m y29 cs36 := T_part_Step.keep he37
    have O38 := Hold.nm (O.retC Q33 vfs_nil)
    refine ⟨cs36, rfl, (T_part_Step.T.len _ _ _ he37), ?_⟩
    refine O38.new fun h39 x40 O41 => ?_
    have O43 := O41.recell 2 rfl (cs' := cs36 ++ []) rfl
    obtain ⟨l44, g45, e⟩ := bind_e e
    have O52 := O43.rowE (l := ([y29] : List T_part_Step)) 2 rfl T_part_Step.T (show CsE _ _ _ _ _ from (CsE.cons he37 (T_part_Step.T.len _ _ _ he37) CsE.nil)) rfl
    refine O52.app 1 rfl rfl rfl ((O52.os 2 rfl).srcE rfl) (by decide) g45 fun A46 c47 h48 O49 => ?_
    refine ⟨_, _, _, rfl, ?_⟩
    obtain ⟨y53, g54, e⟩ := bind_e e
    refine ⟨gi_le g54, gi_ltn g54 qe_7_0, ?_⟩
    refine ⟨_, ldArr0 (n := 4) (f := (fun n : Int => Value.int .i64 n)) (d := (0 : Int)) (Sub.refl _) (O49.all 0 rfl) rfl qe_7_0 g54, _, rfl, ?_⟩
    obtain ⟨y55, g56, e⟩ := bind_e e
    refine ⟨gi_le g56, gi_ltn g56 qe_7_0, ?_⟩
    obtain ⟨l57, g58, e⟩ := bind_e e
    replace g58 := Option.some.inj g58
    have q59 : List.length l57 = 4 := by rw [← g58, List.length_set]; exact qe_7_0
    obtain ⟨h60, w61, o62, t63⟩ := (O49.ob 0 rfl).stArr0 (n := 4) (f := (fun n : Int => Value.int .i64 n)) (d := (0 : Int)) (v := (IntKind.wrap .i64 (y53 + (1 : Int)))) O49.s rfl (Nat.le_of_ble_eq_true rfl) qe_7_0 g56 trivial
    rw [g58] at o62
    refine ⟨h60, w61, ?_⟩
    have O64 := O49.setV 0 rfl (cs' := [(Value.int .i64 (List.getD l57 0 (0 : Int))), (Value.int .i64 (List.getD l57 1 (0 : Int))), (Value.int .i64 (List.getD l57 2 (0 : Int))), (Value.int .i64 (List.getD l57 3 (0 : Int)))]) o62 t63
    have O65 := O64.nm
    exact (ih _ _ e) _ _ _ _ _ _ _ _ _ _ _ _ _ _ _ _ (O65.pick [0, 1]).nm rfl k_0 r_0 ⟨q59, rfl⟩ rfl rfl k_16 r_16
theorem explore_Steps.l0_k.all {p : explore_Steps.l0_k.Pt} {r : ((List T_part_Step) × Int)} (e : explore_Steps.l0_k.go p = some r) : explore_Steps.l0_k.I p r := fixF_ind (β := fun _ => ((List T_part_Step) × Int)) explore_Steps.l0_k.mono (I := explore_Steps.l0_k.I) (fun go ih p r e => match p with
  | .l0 a_0 y_7 a_8 a_16 x_17 x_18 => explore_Steps.l0_k.step_l0 go ih a_0 y_7 a_8 a_16 x_17 x_18 r e
  | .j1 a_0 y_7 a_8 x_10 a_16 x_17 x_18 b_29 => explore_Steps.l0_k.step_j1 go ih a_0 y_7 a_8 x_10 a_16 x_17 x_18 b_29 r e
  | .j0 a_0 y_7 a_8 x_10 a_16 x_17 x_18 => explore_Steps.l0_k.step_j0 go ih a_0 y_7 a_8 x_10 a_16 x_17 x_18 r e
  ) e
theorem explore_Steps.l0.walk {W : Nat → Prop} {h0 m0 h m : Heap} {A_0 : Option Addr} {n_0 c_0 : Nat} {bk_7 : Nat} {cs_7 : List Value} {A_8 : Option Addr} {n_8 c_8 : Nat} {A_16 : Option Addr} {n_16 c_16 : Nat} {a_0 : List (List T_explore_Do)} {y_7 : (List Int)} {a_8 : List T_part_Step} {a_16 : List Int} {x_17 : Int} {x_18 : Int} (O : Hold W h0 m0 h m [rV bk_7 99 cs_7, rR (aE T_part_Step.T) A_8 c_8 a_8]) (ne_0 : n_0 = List.length a_0) (k_0 : List.length a_0 ≤ c_0) (r_0 : Rd 1 (eRow 3 T_explore_Do.E) m A_0 a_0) (e_7 : (eArr 4 (fun n : Int => Value.int .i64 n) (0 : Int)) m y_7 cs_7) (ne_8 : n_8 = List.length a_8) (ne_16 : n_16 = List.length a_16) (k_16 : List.length a_16 ≤ c_16) (r_16 : Rd 1 (eInt .i64) m A_16 a_16) {r : (List T_part_Step) × Int} (e : explore_Steps.l0 a_0 y_7 a_8 a_16 x_17 x_18 = some r) : f56.l0 (explore_Steps.post W h0 m0 r) A_0 n_0 c_0 (⟨bk_7, 0, none⟩ : Addr) A_8 n_8 c_8 A_16 n_16 c_16 x_17 x_18 h := explore_Steps.l0_k.all (p := .l0 a_0 y_7 a_8 a_16 x_17 x_18) e W h0 m0 h m A_0 n_0 c_0 bk_7 cs_7 A_8 n_8 c_8 A_16 n_16 c_16 O ne_0 k_0 r_0 e_7 ne_8 ne_16 k_16 r_16
theorem explore_Steps.j1.walk {W : Nat → Prop} {h0 m0 h m : Heap} {A_0 : Option Addr} {n_0 c_0 : Nat} {bk_7 : Nat} {cs_7 : List Value} {A_8 : Option Addr} {n_8 c_8 : Nat} {A_16 : Option Addr} {n_16 c_16 : Nat} {a_0 : List (List T_explore_Do)} {y_7 : (List Int)} {a_8 : List T_part_Step} {x_10 : Int} {a_16 : List Int} {x_17 : Int} {x_18 : Int} {b_29 : Bool} (O : Hold W h0 m0 h m [rV bk_7 99 cs_7, rR (aE T_part_Step.T) A_8 c_8 a_8]) (ne_0 : n_0 = List.length a_0) (k_0 : List.length a_0 ≤ c_0) (r_0 : Rd 1 (eRow 3 T_explore_Do.E) m A_0 a_0) (e_7 : (eArr 4 (fun n : Int => Value.int .i64 n) (0 : Int)) m y_7 cs_7) (ne_8 : n_8 = List.length a_8) (ne_16 : n_16 = List.length a_16) (k_16 : List.length a_16 ≤ c_16) (r_16 : Rd 1 (eInt .i64) m A_16 a_16) {r : (List T_part_Step) × Int} (e : explore_Steps.j1 a_0 y_7 a_8 x_10 a_16 x_17 x_18 b_29 = some r) : f56.j1 (explore_Steps.post W h0 m0 r) A_0 n_0 c_0 (⟨bk_7, 0, none⟩ : Addr) A_8 n_8 c_8 x_10 A_16 n_16 c_16 x_17 x_18 b_29 h := explore_Steps.l0_k.all (p := .j1 a_0 y_7 a_8 x_10 a_16 x_17 x_18 b_29) e W h0 m0 h m A_0 n_0 c_0 bk_7 cs_7 A_8 n_8 c_8 A_16 n_16 c_16 O ne_0 k_0 r_0 e_7 ne_8 ne_16 k_16 r_16
theorem explore_Steps.j0.walk {W : Nat → Prop} {h0 m0 h m : Heap} {A_0 : Option Addr} {n_0 c_0 : Nat} {bk_7 : Nat} {cs_7 : List Value} {A_8 : Option Addr} {n_8 c_8 : Nat} {A_16 : Option Addr} {n_16 c_16 : Nat} {a_0 : List (List T_explore_Do)} {y_7 : (List Int)} {a_8 : List T_part_Step} {x_10 : Int} {a_16 : List Int} {x_17 : Int} {x_18 : Int} (O : Hold W h0 m0 h m [rV bk_7 99 cs_7, rR (aE T_part_Step.T) A_8 c_8 a_8]) (ne_0 : n_0 = List.length a_0) (k_0 : List.length a_0 ≤ c_0) (r_0 : Rd 1 (eRow 3 T_explore_Do.E) m A_0 a_0) (e_7 : (eArr 4 (fun n : Int => Value.int .i64 n) (0 : Int)) m y_7 cs_7) (ne_8 : n_8 = List.length a_8) (ne_16 : n_16 = List.length a_16) (k_16 : List.length a_16 ≤ c_16) (r_16 : Rd 1 (eInt .i64) m A_16 a_16) {r : (List T_part_Step) × Int} (e : explore_Steps.j0 a_0 y_7 a_8 x_10 a_16 x_17 x_18 = some r) : f56.j0 (explore_Steps.post W h0 m0 r) A_0 n_0 c_0 (⟨bk_7, 0, none⟩ : Addr) A_8 n_8 c_8 x_10 A_16 n_16 c_16 x_17 x_18 h := explore_Steps.l0_k.all (p := .j0 a_0 y_7 a_8 x_10 a_16 x_17 x_18) e W h0 m0 h m A_0 n_0 c_0 bk_7 cs_7 A_8 n_8 c_8 A_16 n_16 c_16 O ne_0 k_0 r_0 e_7 ne_8 ne_16 k_16 r_16

noncomputable def explore_Steps (a_0 : List (List T_explore_Do)) (a_1 : List Int) : Option ((List T_part_Step) × Int) :=
  Option.bind (explore_Check a_0) fun y1 => if y1 = (0 : Int) then ((explore_Steps.l0 a_0 (List.replicate 4 (0 : Int)) ([] : List T_part_Step) a_1 (((List.length a_1) : Nat) : Int) (0 : Int))) else (some (([] : List T_part_Step), y1))
set_option maxRecDepth 100000 in
theorem explore_Steps.walk {W : Nat → Prop} {h m : Heap} {A_0 : Option Addr} {n_0 c_0 : Nat} {A_1 : Option Addr} {n_1 c_1 : Nat} {a_0 : List (List T_explore_Do)} {a_1 : List Int} (O : Hold W h m h m []) (ne_0 : n_0 = List.length a_0) (k_0 : List.length a_0 ≤ c_0) (r_0 : Rd 1 (eRow 3 T_explore_Do.E) m A_0 a_0) (ne_1 : n_1 = List.length a_1) (k_1 : List.length a_1 ≤ c_1) (r_1 : Rd 1 (eInt .i64) m A_1 a_1) {r : (List T_part_Step) × Int} (e : explore_Steps a_0 a_1 = some r) : Run Try.prog 56 #[Value.slice A_0 n_0 c_0, Value.slice A_1 n_1 c_1] h (explore_Steps.post W h m r) := by
  unfold explore_Steps at e
  subst ne_0
  subst ne_1
  refine f56.run ?_
  unfold f56.runT
  obtain ⟨y1, g2, e⟩ := bind_e e
  refine (explore_Check.walk (Hold.start (W := No) O.s) rfl k_0 r_0 g2).mono ?_
  rintro _ h3 ⟨m4, Q5, rfl⟩
  have O7 := Hold.nm (O.retC Q5 vfs_nil)
  refine ⟨_, rfl, ?_⟩
  refine split_ne_e e (fun c18 e => ?_) (fun c18 e => ?_)
  · have O8 := O7.nil (aE T_part_Step.T) none
    have O10 := O8.nm
    cases e
    exact ⟨_, _, _, _, O10.pick [0], rfl, rfl⟩
  · refine O7.new fun h11 x12 O13 => ?_
    have O15 := O13.nil (aE T_part_Step.T) none
    have O17 := O15.nm
    exact explore_Steps.l0.walk (O17.pick [0, 1]).nm rfl k_0 r_0 ⟨rfl, rfl⟩ rfl rfl k_1 r_1 e

/-! ### 83 roadstead/roadref4.within -/
def roadref4_within.post (W : Nat → Prop) (h0 m0 : Heap) (r : Bool) (v : Value) (h : Heap) : Prop := ∃ m , Hold W h0 m0 h m [] ∧ v = .bool r
noncomputable def roadref4_within (x_0 : Int) (x_1 : Int) (x_2 : Int) : Option (Bool) :=
  if x_0 ≥ x_1 then (some ((decide (x_0 ≤ x_2)))) else (some (false))
set_option maxRecDepth 100000 in
theorem roadref4_within.walk {W : Nat → Prop} {h m : Heap} {x_0 : Int} {x_1 : Int} {x_2 : Int} (O : Hold W h m h m []) {r : Bool} (e : roadref4_within x_0 x_1 x_2 = some r) : Run Try.prog 83 #[Value.int .i64 x_0, Value.int .i64 x_1, Value.int .i64 x_2] h (roadref4_within.post W h m r) := by
  unfold roadref4_within at e
  refine f83.run ?_
  unfold f83.runT
  refine split_dec_e e (fun c1 e => ?_) (fun c1 e => ?_)
  · cases e
    exact ⟨_, O.pick [], rfl⟩
  · cases e
    exact ⟨_, O.pick [], rfl⟩

/-! ### 111 slices.Grow[[]roadstead/roadref4.Do,roadstead/roadref4.Do] -/
def slices_Grow_111.post (W : Nat → Prop) (h0 m0 : Heap) (r : (List T_roadref4_Do)) (v : Value) (h : Heap) : Prop := ∃ m A0 n0 c0, Hold W h0 m0 h m [rR (aE T_roadref4_Do.T) A0 c0 r] ∧ v = .slice A0 n0 c0 ∧ n0 = List.length r
noncomputable def slices_Grow_111 (x1 : Int) : Option (List T_roadref4_Do) := if gro 24 x1 = true then some [] else none
set_option maxRecDepth 100000 in
theorem slices_Grow_111.walk {W : Nat → Prop} {h m : Heap} {x1 : Int} (O : Hold W h m h m []) {r : List T_roadref4_Do} (e : slices_Grow_111 x1 = some r) : Run Try.prog 111 #[Value.slice none 0 0, Value.int .i64 x1] h (slices_Grow_111.post W h m r) := by
  unfold slices_Grow_111 at e
  have S : St No h m h m := .refl O.s
  obtain ⟨g, e⟩ := guard_e e
  cases e
  refine f111.run ?_
  unfold f111.runT
  refine split_dec (fun c => absurd c (by have := of_decide_eq_true (show decide _ = true from g); omega)) (fun _ => ?_)
  refine f111.j0_in ?_
  unfold f111.j0T
  exact grow_nil S rfl (by decide) g (fun A' c' h' o' x' => ⟨m, _, _, _, O.add (R := rR (aE T_roadref4_Do.T) A' c' []) (St.of_ext O.s x') o'.rowP o'.newNo, rfl, rfl⟩)

/-! ### 98 slices.Concat[[]roadstead/roadref4.Do,roadstead/roadref4.Do] -/
def slices_Concat_98.post (W : Nat → Prop) (h0 m0 : Heap) (r : (List T_roadref4_Do)) (v : Value) (h : Heap) : Prop := ∃ m A0 n0 c0, Hold W h0 m0 h m [rR (aE T_roadref4_Do.T) A0 c0 r] ∧ v = .slice A0 n0 c0 ∧ n0 = List.length r
inductive slices_Concat_98.l1_k.Pt where
  | l1 (a_6 : List T_roadref4_Do) (a_25 : List (List T_roadref4_Do)) (x_26 : Int) (x_27 : Int)
noncomputable def slices_Concat_98.l1_k.body (go : (p : slices_Concat_98.l1_k.Pt) → Option ((List T_roadref4_Do))) : (p : slices_Concat_98.l1_k.Pt) → Option ((List T_roadref4_Do))
  | .l1 a_6 a_25 x_26 x_27 => if x_27 < x_26 then (Option.bind (gi a_25 x_27) fun y1 => Option.bind (ap 24 a_6 y1) fun l8 => (go (.l1 l8 a_25 x_26 (IntKind.wrap .i64 (x_27 + (1 : Int)))))) else (some (a_6))
theorem slices_Concat_98.l1_k.mono : MonoF (β := fun _ => ((List T_roadref4_Do))) slices_Concat_98.l1_k.body := fun f g hfg p => match p with
  | .l1 a_6 a_25 x_26 x_27 => LeO.ite (LeO.bind (LeO.refl _) fun y1 => LeO.bind (LeO.refl _) fun l8 => (hfg _)) (LeO.refl _)
noncomputable def slices_Concat_98.l1_k.go (p : slices_Concat_98.l1_k.Pt) : Option ((List T_roadref4_Do)) := fixF (β := fun _ => ((List T_roadref4_Do))) slices_Concat_98.l1_k.body p
noncomputable def slices_Concat_98.l1 (a_6 : List T_roadref4_Do) (a_25 : List (List T_roadref4_Do)) (x_26 : Int) (x_27 : Int) : Option ((List T_roadref4_Do)) := slices_Concat_98.l1_k.go (.l1 a_6 a_25 x_26 x_27)
theorem slices_Concat_98.l1_eq (a_6 : List T_roadref4_Do) (a_25 : List (List T_roadref4_Do)) (x_26 : Int) (x_27 : Int) : slices_Concat_98.l1 a_6 a_25 x_26 x_27 = if x_27 < x_26 then (Option.bind (gi a_25 x_27) fun y1 => Option.bind (ap 24 a_6 y1) fun l8 => (slices_Concat_98.l1 l8 a_25 x_26 (IntKind.wrap .i64 (x_27 + (1 : Int))))) else (some (a_6)) := fixF_eq slices_Concat_98.l1_k.mono _
def slices_Concat_98.l1_k.I : (p : slices_Concat_98.l1_k.Pt) → ((List T_roadref4_Do)) → Prop
  | .l1 a_6 a_25 x_26 x_27, r => ∀ (W : Nat → Prop) (h0 m0 h m : Heap) (A_6 : Option Addr) (n_6 c_6 : Nat) (A_25 : Option Addr) (n_25 c_25 : Nat) (O : Hold W h0 m0 h m [rR (aE T_roadref4_Do.T) A_6 c_6 a_6]) (ne_6 : n_6 = List.length a_6) (ne_25 : n_25 = List.length a_25) (k_25 : List.length a_25 ≤ c_25) (r_25 : Rd 1 (eRow 3 T_roadref4_Do.E) m A_25 a_25), f98.l1 (slices_Concat_98.post W h0 m0 r) A_6 n_6 c_6 A_25 n_25 c_25 x_26 x_27 h
set_option maxRecDepth 100000 in
theorem slices_Concat_98.l1_k.step_l1 (go : (p : slices_Concat_98.l1_k.Pt) → Option ((List T_roadref4_Do))) (ih : ∀ p r, go p = some r → slices_Concat_98.l1_k.I p r) (a_6 : List T_roadref4_Do) (a_25 : List (List T_roadref4_Do)) (x_26 : Int) (x_27 : Int) (r : (List T_roadref4_Do)) (e : slices_Concat_98.l1_k.body go (.l1 a_6 a_25 x_26 x_27) = some r) : slices_Concat_98.l1_k.I (.l1 a_6 a_25 x_26 x_27) r := by
  unfold slices_Concat_98.l1_k.body at e
  intro W h0 m0 h m A_6 n_6 c_6 A_25 n_25 c_25 O ne_6 ne_25 k_25 r_25
  subst ne_6
  subst ne_25
  refine f98.l1_in ?_
  unfold f98.l1T
  refine split_dec_e e (fun c17 e => ?_) (fun c17 e => ?_)
  · obtain ⟨y1, g2, e⟩ := bind_e e
    refine r_25.addr rfl g2 fun a3 cs4 ha5 hc6 he7 => ?_
    obtain ⟨Acs4_0, ccs4_0, rfl, kcs4_0, rcs4_0⟩ := id he7
    refine ⟨_, ld0 O.s hc6 rfl, _, _, _, rfl, ?_⟩
    obtain ⟨l8, g9, e⟩ := bind_e e
    refine O.app 0 rfl rfl rfl (Rd.srcE rcs4_0 T_roadref4_Do.T O.s rfl) (by decide) g9 fun A10 c11 h12 O13 => ?_
    refine ⟨_, _, _, rfl, ?_⟩
    have O16 := O13.nm
    exact (ih _ _ e) _ _ _ _ _ _ _ _ _ _ _ (O16.pick [0]).nm rfl rfl k_25 r_25
  · cases e
    exact ⟨_, _, _, _, O.pick [0], rfl, rfl⟩
theorem slices_Concat_98.l1_k.all {p : slices_Concat_98.l1_k.Pt} {r : ((List T_roadref4_Do))} (e : slices_Concat_98.l1_k.go p = some r) : slices_Concat_98.l1_k.I p r := fixF_ind (β := fun _ => ((List T_roadref4_Do))) slices_Concat_98.l1_k.mono (I := slices_Concat_98.l1_k.I) (fun go ih p r e => match p with
  | .l1 a_6 a_25 x_26 x_27 => slices_Concat_98.l1_k.step_l1 go ih a_6 a_25 x_26 x_27 r e
  ) e
theorem slices_Concat_98.l1.walk {W : Nat → Prop} {h0 m0 h m : Heap} {A_6 : Option Addr} {n_6 c_6 : Nat} {A_25 : Option Addr} {n_25 c_25 : Nat} {a_6 : List T_roadref4_Do} {a_25 : List (List T_roadref4_Do)} {x_26 : Int} {x_27 : Int} (O : Hold W h0 m0 h m [rR (aE T_roadref4_Do.T) A_6 c_6 a_6]) (ne_6 : n_6 = List.length a_6) (ne_25 : n_25 = List.length a_25) (k_25 : List.length a_25 ≤ c_25) (r_25 : Rd 1 (eRow 3 T_roadref4_Do.E) m A_25 a_25) {r : (List T_roadref4_Do)} (e : slices_Concat_98.l1 a_6 a_25 x_26 x_27 = some r) : f98.l1 (slices_Concat_98.post W h0 m0 r) A_6 n_6 c_6 A_25 n_25 c_25 x_26 x_27 h := slices_Concat_98.l1_k.all (p := .l1 a_6 a_25 x_26 x_27) e W h0 m0 h m A_6 n_6 c_6 A_25 n_25 c_25 O ne_6 ne_25 k_25 r_25

inductive slices_Concat_98.l0_k.Pt where
  | l0 (a_0 : List (List T_roadref4_Do)) (x_3 : Int) (a_9 : List (List T_roadref4_Do)) (x_10 : Int) (x_11 : Int)
noncomputable def slices_Concat_98.l0_k.body (go : (p : slices_Concat_98.l0_k.Pt) → Option ((List T_roadref4_Do))) : (p : slices_Concat_98.l0_k.Pt) → Option ((List T_roadref4_Do))
  | .l0 a_0 x_3 a_9 x_10 x_11 => if x_11 < x_10 then (Option.bind (gi a_9 x_11) fun y1 => if (IntKind.wrap .i64 (x_3 + (((List.length y1) : Nat) : Int))) < (0 : Int) then ((none : Option _)) else ((go (.l0 a_0 (IntKind.wrap .i64 (x_3 + (((List.length y1) : Nat) : Int))) a_9 x_10 (IntKind.wrap .i64 (x_11 + (1 : Int))))))) else (Option.bind (slices_Grow_111 x_3) fun y9 => (slices_Concat_98.l1 y9 a_0 (((List.length a_0) : Nat) : Int) (0 : Int)))
theorem slices_Concat_98.l0_k.mono : MonoF (β := fun _ => ((List T_roadref4_Do))) slices_Concat_98.l0_k.body := fun f g hfg p => match p with
  | .l0 a_0 x_3 a_9 x_10 x_11 => LeO.ite (LeO.bind (LeO.refl _) fun y1 => LeO.ite (LeO.refl _) ((hfg _))) (LeO.bind (LeO.refl _) fun y9 => (LeO.refl _))
noncomputable def slices_Concat_98.l0_k.go (p : slices_Concat_98.l0_k.Pt) : Option ((List T_roadref4_Do)) := fixF (β := fun _ => ((List T_roadref4_Do))) slices_Concat_98.l0_k.body p
noncomputable def slices_Concat_98.l0 (a_0 : List (List T_roadref4_Do)) (x_3 : Int) (a_9 : List (List T_roadref4_Do)) (x_10 : Int) (x_11 : Int) : Option ((List T_roadref4_Do)) := slices_Concat_98.l0_k.go (.l0 a_0 x_3 a_9 x_10 x_11)
theorem slices_Concat_98.l0_eq (a_0 : List (List T_roadref4_Do)) (x_3 : Int) (a_9 : List (List T_roadref4_Do)) (x_10 : Int) (x_11 : Int) : slices_Concat_98.l0 a_0 x_3 a_9 x_10 x_11 = if x_11 < x_10 then (Option.bind (gi a_9 x_11) fun y1 => if (IntKind.wrap .i64 (x_3 + (((List.length y1) : Nat) : Int))) < (0 : Int) then ((none : Option _)) else ((slices_Concat_98.l0 a_0 (IntKind.wrap .i64 (x_3 + (((List.length y1) : Nat) : Int))) a_9 x_10 (IntKind.wrap .i64 (x_11 + (1 : Int)))))) else (Option.bind (slices_Grow_111 x_3) fun y9 => (slices_Concat_98.l1 y9 a_0 (((List.length a_0) : Nat) : Int) (0 : Int))) := fixF_eq slices_Concat_98.l0_k.mono _
def slices_Concat_98.l0_k.I : (p : slices_Concat_98.l0_k.Pt) → ((List T_roadref4_Do)) → Prop
  | .l0 a_0 x_3 a_9 x_10 x_11, r => ∀ (W : Nat → Prop) (h0 m0 h m : Heap) (A_0 : Option Addr) (n_0 c_0 : Nat) (A_9 : Option Addr) (n_9 c_9 : Nat) (O : Hold W h0 m0 h m []) (ne_0 : n_0 = List.length a_0) (k_0 : List.length a_0 ≤ c_0) (r_0 : Rd 1 (eRow 3 T_roadref4_Do.E) m A_0 a_0) (ne_9 : n_9 = List.length a_9) (k_9 : List.length a_9 ≤ c_9) (r_9 : Rd 1 (eRow 3 T_roadref4_Do.E) m A_9 a_9), f98.l0 (slices_Concat_98.post W h0 m0 r) A_0 n_0 c_0 x_3 A_9 n_9 c_9 x_10 x_11 h
set_option maxRecDepth 100000 in
theorem slices_Concat_98.l0_k.step_l0 (go : (p : slices_Concat_98.l0_k.Pt) → Option ((List T_roadref4_Do))) (ih : ∀ p r, go p = some r → slices_Concat_98.l0_k.I p r) (a_0 : List (List T_roadref4_Do)) (x_3 : Int) (a_9 : List (List T_roadref4_Do)) (x_10 : Int) (x_11 : Int) (r : (List T_roadref4_Do)) (e : slices_Concat_98.l0_k.body go (.l0 a_0 x_3 a_9 x_10 x_11) = some r) : slices_Concat_98.l0_k.I (.l0 a_0 x_3 a_9 x_10 x_11) r := by
  unfold slices_Concat_98.l0_k.body at e
  intro W h0 m0 h m A_0 n_0 c_0 A_9 n_9 c_9 O ne_0 k_0 r_0 ne_9 k_9 r_9
  subst ne_0
  subst ne_9
  refine f98.l0_in ?_
  unfold f98.l0T
  refine split_dec_e e (fun c21 e => ?_) (fun c21 e => ?_)
  · obtain ⟨y1, g2, e⟩ := bind_e e
    refine r_9.addr rfl g2 fun a3 cs4 ha5 hc6 he7 => ?_
    obtain ⟨Acs4_0, ccs4_0, rfl, kcs4_0, rcs4_0⟩ := id he7
    refine ⟨_, ld0 O.s hc6 rfl, _, _, _, rfl, ?_⟩
    refine split_dec_e e (fun c8 e => ?_) (fun c8 e => ?_)
    · cases e
    · exact (ih _ _ e) _ _ _ _ _ _ _ _ _ _ _ (O.pick []).nm rfl k_0 r_0 rfl k_9 r_9
  · obtain ⟨y9, g10, e⟩ := bind_e e
    refine (slices_Grow_111.walk (Hold.start (W := No) O.s)  g10).mono ?_
    rintro _ h11 ⟨m12, A15, n16, c17, Q13, rfl, ne18⟩
    have O20 := Hold.nm (O.retC Q13 (vfs_cons (rR_vf (aE_vf (fun _ _ _ _ h => T_roadref4_Do.keep h))) vfs_nil))
    subst ne18
    refine ⟨_, _, _, rfl, ?_⟩
    exact slices_Concat_98.l1.walk (O20.pick [0]).nm rfl rfl k_0 r_0 e
theorem slices_Concat_98.l0_k.all {p : slices_Concat_98.l0_k.Pt} {r : ((List T_roadref4_Do))} (e : slices_Concat_98.l0_k.go p = some r) : slices_Concat_98.l0_k.I p r := fixF_ind (β := fun _ => ((List T_roadref4_Do))) slices_Concat_98.l0_k.mono (I := slices_Concat_98.l0_k.I) (fun go ih p r e => match p with
  | .l0 a_0 x_3 a_9 x_10 x_11 => slices_Concat_98.l0_k.step_l0 go ih a_0 x_3 a_9 x_10 x_11 r e
  ) e
theorem slices_Concat_98.l0.walk {W : Nat → Prop} {h0 m0 h m : Heap} {A_0 : Option Addr} {n_0 c_0 : Nat} {A_9 : Option Addr} {n_9 c_9 : Nat} {a_0 : List (List T_roadref4_Do)} {x_3 : Int} {a_9 : List (List T_roadref4_Do)} {x_10 : Int} {x_11 : Int} (O : Hold W h0 m0 h m []) (ne_0 : n_0 = List.length a_0) (k_0 : List.length a_0 ≤ c_0) (r_0 : Rd 1 (eRow 3 T_roadref4_Do.E) m A_0 a_0) (ne_9 : n_9 = List.length a_9) (k_9 : List.length a_9 ≤ c_9) (r_9 : Rd 1 (eRow 3 T_roadref4_Do.E) m A_9 a_9) {r : (List T_roadref4_Do)} (e : slices_Concat_98.l0 a_0 x_3 a_9 x_10 x_11 = some r) : f98.l0 (slices_Concat_98.post W h0 m0 r) A_0 n_0 c_0 x_3 A_9 n_9 c_9 x_10 x_11 h := slices_Concat_98.l0_k.all (p := .l0 a_0 x_3 a_9 x_10 x_11) e W h0 m0 h m A_0 n_0 c_0 A_9 n_9 c_9 O ne_0 k_0 r_0 ne_9 k_9 r_9

noncomputable def slices_Concat_98 (a_0 : List (List T_roadref4_Do)) : Option ((List T_roadref4_Do)) :=
  (slices_Concat_98.l0 a_0 (0 : Int) a_0 (((List.length a_0) : Nat) : Int) (0 : Int))
set_option maxRecDepth 100000 in
theorem slices_Concat_98.walk {W : Nat → Prop} {h m : Heap} {A_0 : Option Addr} {n_0 c_0 : Nat} {a_0 : List (List T_roadref4_Do)} (O : Hold W h m h m []) (ne_0 : n_0 = List.length a_0) (k_0 : List.length a_0 ≤ c_0) (r_0 : Rd 1 (eRow 3 T_roadref4_Do.E) m A_0 a_0) {r : (List T_roadref4_Do)} (e : slices_Concat_98 a_0 = some r) : Run Try.prog 98 #[Value.slice A_0 n_0 c_0] h (slices_Concat_98.post W h m r) := by
  unfold slices_Concat_98 at e
  subst ne_0
  refine f98.run ?_
  unfold f98.runT
  exact slices_Concat_98.l0.walk (O.pick []).nm rfl k_0 r_0 rfl k_0 r_0 e
theorem slices_Concat_98.val (ls : List (List T_roadref4_Do)) (hl : ls.length ≤ 4611686018427387904) (hs : ls.flatten.length * 24 ≤ 140737488355328) : slices_Concat_98 ls = some ls.flatten := concat_val (B := 24) (by decide) (fun r a n i => slices_Concat_98.l1_eq r a n i) (fun a s b n i => slices_Concat_98.l0_eq a s b n i) (gr := slices_Grow_111) (fun _ => rfl) (fun _ => rfl) ls hl hs

/-! ### 57 roadstead/roadref4.Progs -/
def roadref4_Progs.post (W : Nat → Prop) (h0 m0 : Heap) (r : Int) (v : Value) (h : Heap) : Prop := ∃ m , Hold W h0 m0 h m [] ∧ v = .int .i64 r
inductive roadref4_Progs.l0_k.Pt where
  | l0 (a_15 : List T_roadref4_Do) (x_16 : Int) (x_17 : Int)
noncomputable def roadref4_Progs.l0_k.body (go : (p : roadref4_Progs.l0_k.Pt) → Option (Int)) : (p : roadref4_Progs.l0_k.Pt) → Option (Int)
  | .l0 a_15 x_16 x_17 => if x_17 < x_16 then (Option.bind (gi a_15 x_17) fun y1 => Option.bind (roadref4_within y1.Kind (1 : Int) (4 : Int)) fun y14 => if y14 = true then (Option.bind (roadref4_within y1.Cell (0 : Int) (3 : Int)) fun y21 => if y21 = true then (Option.bind (roadref4_within y1.By (-1000 : Int) (1000 : Int)) fun y28 => if y28 = true then ((go (.l0 a_15 x_16 (IntKind.wrap .i64 (x_17 + (1 : Int)))))) else (some ((1 : Int)))) else (some ((1 : Int)))) else (some ((3 : Int)))) else (some ((0 : Int)))
theorem roadref4_Progs.l0_k.mono : MonoF (β := fun _ => (Int)) roadref4_Progs.l0_k.body := fun f g hfg p => match p with
  | .l0 a_15 x_16 x_17 => LeO.ite (LeO.bind (LeO.refl _) fun y1 => LeO.bind (LeO.refl _) fun y14 => LeO.ite (LeO.bind (LeO.refl _) fun y21 => LeO.ite (LeO.bind (LeO.refl _) fun y28 => LeO.ite ((hfg _)) (LeO.refl _)) (LeO.refl _)) (LeO.refl _)) (LeO.refl _)
noncomputable def roadref4_Progs.l0_k.go (p : roadref4_Progs.l0_k.Pt) : Option (Int) := fixF (β := fun _ => (Int)) roadref4_Progs.l0_k.body p
noncomputable def roadref4_Progs.l0 (a_15 : List T_roadref4_Do) (x_16 : Int) (x_17 : Int) : Option (Int) := roadref4_Progs.l0_k.go (.l0 a_15 x_16 x_17)
theorem roadref4_Progs.l0_eq (a_15 : List T_roadref4_Do) (x_16 : Int) (x_17 : Int) : roadref4_Progs.l0 a_15 x_16 x_17 = if x_17 < x_16 then (Option.bind (gi a_15 x_17) fun y1 => Option.bind (roadref4_within y1.Kind (1 : Int) (4 : Int)) fun y14 => if y14 = true then (Option.bind (roadref4_within y1.Cell (0 : Int) (3 : Int)) fun y21 => if y21 = true then (Option.bind (roadref4_within y1.By (-1000 : Int) (1000 : Int)) fun y28 => if y28 = true then ((roadref4_Progs.l0 a_15 x_16 (IntKind.wrap .i64 (x_17 + (1 : Int))))) else (some ((1 : Int)))) else (some ((1 : Int)))) else (some ((3 : Int)))) else (some ((0 : Int))) := fixF_eq roadref4_Progs.l0_k.mono _
def roadref4_Progs.l0_k.I : (p : roadref4_Progs.l0_k.Pt) → (Int) → Prop
  | .l0 a_15 x_16 x_17, r => ∀ (W : Nat → Prop) (h0 m0 h m : Heap) (A_15 : Option Addr) (n_15 c_15 : Nat) (O : Hold W h0 m0 h m [rR (aE T_roadref4_Do.T) A_15 c_15 a_15]) (ne_15 : n_15 = List.length a_15), f57.l0 (roadref4_Progs.post W h0 m0 r) A_15 n_15 c_15 x_16 x_17 h
set_option maxHeartbeats 4000000 in
set_option maxRecDepth 100000 in
theorem roadref4_Progs.l0_k.step_l0 (go : (p : roadref4_Progs.l0_k.Pt) → Option (Int)) (ih : ∀ p r, go p = some r → roadref4_Progs.l0_k.I p r) (a_15 : List T_roadref4_Do) (x_16 : Int) (x_17 : Int) (r : Int) (e : roadref4_Progs.l0_k.body go (.l0 a_15 x_16 x_17) = some r) : roadref4_Progs.l0_k.I (.l0 a_15 x_16 x_17) r := by
  unfold roadref4_Progs.l0_k.body at e
  intro W h0 m0 h m A_15 n_15 c_15 O ne_15
  subst ne_15
  refine f57.l0_in ?_
  unfold f57.l0T
  refine split_dec_e e (fun c38 e => ?_) (fun c38 e => ?_)
  · obtain ⟨y1, g2, e⟩ := bind_e e
    refine (O.os 0 rfl).addr rfl g2 fun a3 cs4 ha5 hc6 he7 => ?_
    refine ⟨_, ldAn (Sub.refl _) hc6 rfl, ?_⟩
    refine O.new fun h8 x9 O10 => ?_
    refine ⟨_, rfl, (T_roadref4_Do.T.len _ _ _ he7), ?_⟩
    refine O10.stA 1 rfl (T_roadref4_Do.T.len _ _ _ he7) (T_roadref4_Do.T.flat _ _ _ he7) fun h12 O13 => ?_
    refine ⟨_, ld0 (Sub.refl _) (O13.all 1 rfl) (T_roadref4_Do.g0 he7), _, rfl, ?_⟩
    obtain ⟨y14, g15, e⟩ := bind_e e
    refine (roadref4_within.walk (Hold.start (W := No) O13.s)  g15).mono ?_
    rintro _ h16 ⟨m17, Q18, rfl⟩
    have O20 := Hold.nm (O13.retC Q18 vfs_nil)
    refine ⟨_, rfl, ?_⟩
    refine split_not ?_
    refine split_any_e e (fun c37 e => ?_) (fun c37 e => ?_)
    · refine ⟨_, ldk (k := 1) (Sub.refl _) (O20.all 1 rfl) (T_roadref4_Do.g1 he7), _, rfl, ?_⟩
      obtain ⟨y21, g22, e⟩ := bind_e e
      refine (roadref4_within.walk (Hold.start (W := No) O20.s)  g22).mono ?_
      rintro _ h23 ⟨m24, Q25, rfl⟩
      have O27 := Hold.nm (O20.retC Q25 vfs_nil)
      refine ⟨_, rfl, ?_⟩
      refine split_not ?_
      refine split_any_e e (fun c36 e => ?_) (fun c36 e => ?_)
      · refine ⟨_, ldk (k := 2) (Sub.refl _) (O27.all 1 rfl) (T_roadref4_Do.g2 he7), _, rfl, ?_⟩
        obtain ⟨y28, g29, e⟩ := bind_e e
        refine (roadref4_within.walk (Hold.start (W := No) O27.s)  g29).mono ?_
        rintro _ h30 ⟨m31, Q32, rfl⟩
        have O34 := Hold.nm (O27.retC Q32 vfs_nil)
        refine ⟨_, rfl, ?_⟩
        refine split_not ?_
        refine split_any_e e (fun c35 e => ?_) (fun c35 e => ?_)
        · exact (ih _ _ e) _ _ _ _ _ _ _ _ (O34.pick [0]).nm rfl
        · cases e
          exact ⟨_, O34.pick [], rfl⟩
      · cases e
        exact ⟨_, O27.pick [], rfl⟩
    · cases e
      exact ⟨_, O20.pick [], rfl⟩
  · cases e
    exact ⟨_, O.pick [], rfl⟩
theorem roadref4_Progs.l0_k.all {p : roadref4_Progs.l0_k.Pt} {r : (Int)} (e : roadref4_Progs.l0_k.go p = some r) : roadref4_Progs.l0_k.I p r := fixF_ind (β := fun _ => (Int)) roadref4_Progs.l0_k.mono (I := roadref4_Progs.l0_k.I) (fun go ih p r e => match p with
  | .l0 a_15 x_16 x_17 => roadref4_Progs.l0_k.step_l0 go ih a_15 x_16 x_17 r e
  ) e
theorem roadref4_Progs.l0.walk {W : Nat → Prop} {h0 m0 h m : Heap} {A_15 : Option Addr} {n_15 c_15 : Nat} {a_15 : List T_roadref4_Do} {x_16 : Int} {x_17 : Int} (O : Hold W h0 m0 h m [rR (aE T_roadref4_Do.T) A_15 c_15 a_15]) (ne_15 : n_15 = List.length a_15) {r : Int} (e : roadref4_Progs.l0 a_15 x_16 x_17 = some r) : f57.l0 (roadref4_Progs.post W h0 m0 r) A_15 n_15 c_15 x_16 x_17 h := roadref4_Progs.l0_k.all (p := .l0 a_15 x_16 x_17) e W h0 m0 h m A_15 n_15 c_15 O ne_15

noncomputable def roadref4_Progs.j0 (a_0 : List (List T_roadref4_Do)) : Option (Int) :=
  Option.bind (slices_Concat_98 a_0) fun y1 => (roadref4_Progs.l0 y1 (((List.length y1) : Nat) : Int) (0 : Int))
set_option maxRecDepth 100000 in
theorem roadref4_Progs.j0.walk {W : Nat → Prop} {h0 m0 h m : Heap} {A_0 : Option Addr} {n_0 c_0 : Nat} {a_0 : List (List T_roadref4_Do)} (O : Hold W h0 m0 h m []) (ne_0 : n_0 = List.length a_0) (k_0 : List.length a_0 ≤ c_0) (r_0 : Rd 1 (eRow 3 T_roadref4_Do.E) m A_0 a_0) {r : Int} (e : roadref4_Progs.j0 a_0 = some r) : f57.j0 (roadref4_Progs.post W h0 m0 r) A_0 n_0 c_0 h := by
  unfold roadref4_Progs.j0 at e
  subst ne_0
  refine f57.j0_in ?_
  unfold f57.j0T
  obtain ⟨y1, g2, e⟩ := bind_e e
  refine (slices_Concat_98.walk (Hold.start (W := No) O.s) rfl k_0 r_0 g2).mono ?_
  rintro _ h3 ⟨m4, A7, n8, c9, Q5, rfl, ne10⟩
  have O12 := Hold.nm (O.retC Q5 (vfs_cons (rR_vf (aE_vf (fun _ _ _ _ h => T_roadref4_Do.keep h))) vfs_nil))
  subst ne10
  refine ⟨_, _, _, rfl, ?_⟩
  exact roadref4_Progs.l0.walk (O12.pick [0]).nm rfl e

noncomputable def roadref4_Progs (a_0 : List (List T_roadref4_Do)) : Option (Int) :=
  if (((List.length a_0) : Nat) : Int) > (4 : Int) then (some ((2 : Int))) else (Option.bind (slices_Concat_98 a_0) fun y1 => if (((List.length y1) : Nat) : Int) > (12 : Int) then (some ((2 : Int))) else ((roadref4_Progs.j0 a_0)))
set_option maxRecDepth 100000 in
theorem roadref4_Progs.walk {W : Nat → Prop} {h m : Heap} {A_0 : Option Addr} {n_0 c_0 : Nat} {a_0 : List (List T_roadref4_Do)} (O : Hold W h m h m []) (ne_0 : n_0 = List.length a_0) (k_0 : List.length a_0 ≤ c_0) (r_0 : Rd 1 (eRow 3 T_roadref4_Do.E) m A_0 a_0) {r : Int} (e : roadref4_Progs a_0 = some r) : Run Try.prog 57 #[Value.slice A_0 n_0 c_0] h (roadref4_Progs.post W h m r) := by
  unfold roadref4_Progs at e
  subst ne_0
  refine f57.run ?_
  unfold f57.runT
  refine split_dec_e e (fun c14 e => ?_) (fun c14 e => ?_)
  · cases e
    exact ⟨_, O.pick [], rfl⟩
  · obtain ⟨y1, g2, e⟩ := bind_e e
    refine (slices_Concat_98.walk (Hold.start (W := No) O.s) rfl k_0 r_0 g2).mono ?_
    rintro _ h3 ⟨m4, A7, n8, c9, Q5, rfl, ne10⟩
    have O12 := Hold.nm (O.retC Q5 (vfs_cons (rR_vf (aE_vf (fun _ _ _ _ h => T_roadref4_Do.keep h))) vfs_nil))
    subst ne10
    refine ⟨_, _, _, rfl, ?_⟩
    refine split_dec_e e (fun c13 e => ?_) (fun c13 e => ?_)
    · cases e
      exact ⟨_, O12.pick [], rfl⟩
    · exact roadref4_Progs.j0.walk (O12.pick []).nm rfl k_0 r_0 e

/-! ### 59 (roadstead/roadref4.State).Can -/
def roadref4_State_Can.post (W : Nat → Prop) (h0 m0 : Heap) (r : Bool) (v : Value) (h : Heap) : Prop := ∃ m , Hold W h0 m0 h m [] ∧ v = .bool r
noncomputable def roadref4_State_Can (y_0 : T_roadref4_State) (a_1 : List (List T_roadref4_Do)) (x_2 : Int) : Option (Bool) :=
  Option.bind (gi y_0.At x_2) fun y5 => Option.bind (gi a_1 x_2) fun y7 => if y5 ≥ (((List.length y7) : Nat) : Int) then (some (false)) else (Option.bind (gi a_1 x_2) fun y15 => Option.bind (gi y_0.At x_2) fun y22 => Option.bind (gi y15 y22) fun y24 => if y24.Kind < (4 : Int) then (some (true)) else (Option.bind (gi y_0.Cells y24.Cell) fun y38 => some ((y38 == y24.By))))
set_option maxHeartbeats 4000000 in
set_option maxRecDepth 100000 in
theorem roadref4_State_Can.walk {W : Nat → Prop} {h m : Heap} {cs_0 : List Value} {A_1 : Option Addr} {n_1 c_1 : Nat} {y_0 : T_roadref4_State} {a_1 : List (List T_roadref4_Do)} {x_2 : Int} (O : Hold W h m h m []) (e_0 : T_roadref4_State.E m y_0 cs_0) (ne_1 : n_1 = List.length a_1) (k_1 : List.length a_1 ≤ c_1) (r_1 : Rd 1 (eRow 3 T_roadref4_Do.E) m A_1 a_1) {r : Bool} (e : roadref4_State_Can y_0 a_1 x_2 = some r) : Run Try.prog 59 #[Value.agg cs_0.toArray, Value.slice A_1 n_1 c_1, Value.int .i64 x_2] h (roadref4_State_Can.post W h m r) := by
  unfold roadref4_State_Can at e
  obtain ⟨rfl, qe_0_0, qe_0_1, qe_0_2⟩ := id e_0
  subst ne_1
  refine f59.run ?_
  unfold f59.runT
  refine O.new fun h1 x2 O3 => ?_
  obtain ⟨y5, g6, e⟩ := bind_e e
  refine ⟨gi_le g6, gi_ltn g6 qe_0_2, ?_⟩
  obtain ⟨y7, g8, e⟩ := bind_e e
  refine r_1.addr rfl g8 fun a9 cs10 ha11 hc12 he13 => ?_
  obtain ⟨Acs10_0, ccs10_0, rfl, kcs10_0, rcs10_0⟩ := id he13
  refine ⟨_, ldArr (n := 4) (off := 8) (f := (fun n : Int => Value.int .i64 n)) (d := (0 : Int)) (Sub.refl _) (O3.all 0 rfl) rfl qe_0_2 g6, _, rfl, ?_⟩
  refine ⟨_, ld0 O3.s hc12 rfl, _, _, _, rfl, ?_⟩
  refine split_dec_e e (fun c42 e => ?_) (fun c42 e => ?_)
  · have O14 := O3.nm
    cases e
    exact ⟨_, O14.pick [], rfl⟩
  · obtain ⟨y15, g16, e⟩ := bind_e e
    refine r_1.addr rfl g16 fun a17 cs18 ha19 hc20 he21 => ?_
    obtain ⟨Acs18_0, ccs18_0, rfl, kcs18_0, rcs18_0⟩ := id he21
    obtain ⟨y22, g23, e⟩ := bind_e e
    refine ⟨gi_le g23, gi_ltn g23 qe_0_2, ?_⟩
    refine ⟨_, ld0 O3.s hc20 rfl, _, _, _, rfl, ?_⟩
    refine ⟨_, ldArr (n := 4) (off := 8) (f := (fun n : Int => Value.int .i64 n)) (d := (0 : Int)) (Sub.refl _) (O3.all 0 rfl) rfl qe_0_2 g23, _, rfl, ?_⟩
    obtain ⟨y24, g25, e⟩ := bind_e e
    refine rcs18_0.addr rfl g25 fun a26 cs27 ha28 hc29 he30 => ?_
    refine ⟨_, ldAn O3.s hc29 rfl, ?_⟩
    refine O3.new fun h31 x32 O33 => ?_
    refine ⟨x32, ?_⟩
    refine ⟨_, rfl, (T_roadref4_Do.T.len _ _ _ he30), ?_⟩
    refine O33.stA 1 rfl (T_roadref4_Do.T.len _ _ _ he30) (T_roadref4_Do.T.flat _ _ _ he30) fun h35 O36 => ?_
    refine ⟨_, ld0 (Sub.refl _) (O36.all 1 rfl) (T_roadref4_Do.g0 he30), _, rfl, ?_⟩
    refine split_dec_e e (fun c41 e => ?_) (fun c41 e => ?_)
    · have O37 := O36.nm
      cases e
      exact ⟨_, O37.pick [], rfl⟩
    · refine ⟨_, ldk (k := 1) (Sub.refl _) (O36.all 1 rfl) (T_roadref4_Do.g1 he30), _, rfl, ?_⟩
      obtain ⟨y38, g39, e⟩ := bind_e e
      refine ⟨gi_le g39, gi_ltn g39 qe_0_0, ?_⟩
      refine ⟨_, ldArr0 (n := 4) (f := (fun n : Int => Value.int .i64 n)) (d := (0 : Int)) (Sub.refl _) (O36.all 0 rfl) rfl qe_0_0 g39, _, rfl, ?_⟩
      refine ⟨_, ldk (k := 2) (Sub.refl _) (O36.all 1 rfl) (T_roadref4_Do.g2 he30), _, rfl, ?_⟩
      have O40 := O36.nm
      cases e
      exact ⟨_, O40.pick [], rfl⟩

/-! ### 60 (roadstead/roadref4.State).Next -/
def roadref4_State_Next.post (W : Nat → Prop) (h0 m0 : Heap) (r : T_roadref4_State) (v : Value) (h : Heap) : Prop := ∃ m cs0, Hold W h0 m0 h m [] ∧ v = .agg cs0.toArray ∧ T_roadref4_State.E m r cs0
noncomputable def roadref4_State_Next (y_0 : T_roadref4_State) (a_1 : List (List T_roadref4_Do)) (x_2 : Int) : Option (T_roadref4_State) :=
  Option.bind (gi a_1 x_2) fun y9 => Option.bind (gi y_0.At x_2) fun y16 => Option.bind (gi y9 y16) fun y18 => Option.bind (gi y_0.At x_2) fun y31 => Option.bind (gi y_0.At x_2) fun y33 => Option.bind (some (List.set y_0.At (Int.toNat x_2) (IntKind.wrap .i64 (y31 + (1 : Int))))) fun l35 => Option.bind (gi y_0.Hands x_2) fun y44 => Option.bind (gi y_0.Cells y18.Cell) fun y46 => Option.bind (gi ([y46, y46, (IntKind.wrap .i64 (y44 + y18.By)), (IntKind.wrap .i64 (y46 + y18.By)), y46] : List Int) y18.Kind) fun y53 => Option.bind (gi y_0.Cells y18.Cell) fun y60 => Option.bind (some (List.set y_0.Cells (Int.toNat y18.Cell) y53)) fun l62 => if y18.Kind = (1 : Int) then (Option.bind (gi y_0.Hands x_2) fun y70 => Option.bind (some (List.set y_0.Hands (Int.toNat x_2) y46)) fun l72 => some ((T_roadref4_State.mk l62 l72 l35))) else (some ((T_roadref4_State.mk l62 y_0.Hands l35)))
set_option maxHeartbeats 4000000 in
set_option maxRecDepth 100000 in
theorem roadref4_State_Next.walk {W : Nat → Prop} {h m : Heap} {cs_0 : List Value} {A_1 : Option Addr} {n_1 c_1 : Nat} {y_0 : T_roadref4_State} {a_1 : List (List T_roadref4_Do)} {x_2 : Int} (O : Hold W h m h m []) (e_0 : T_roadref4_State.E m y_0 cs_0) (ne_1 : n_1 = List.length a_1) (k_1 : List.length a_1 ≤ c_1) (r_1 : Rd 1 (eRow 3 T_roadref4_Do.E) m A_1 a_1) {r : T_roadref4_State} (e : roadref4_State_Next y_0 a_1 x_2 = some r) : Run Try.prog 60 #[Value.agg cs_0.toArray, Value.slice A_1 n_1 c_1, Value.int .i64 x_2] h (roadref4_State_Next.post W h m r) := by
  unfold roadref4_State_Next at e
  obtain ⟨rfl, qe_0_0, qe_0_1, qe_0_2⟩ := id e_0
  subst ne_1
  refine f60.run ?_
  unfold f60.runT
  refine O.new fun h1 x2 O3 => ?_
  refine O3.new fun h5 x6 O7 => ?_
  obtain ⟨y9, g10, e⟩ := bind_e e
  refine r_1.addr rfl g10 fun a11 cs12 ha13 hc14 he15 => ?_
  obtain ⟨Acs12_0, ccs12_0, rfl, kcs12_0, rcs12_0⟩ := id he15
  obtain ⟨y16, g17, e⟩ := bind_e e
  refine ⟨gi_le g17, gi_ltn g17 qe_0_2, ?_⟩
  refine ⟨_, ld0 O7.s hc14 rfl, _, _, _, rfl, ?_⟩
  refine ⟨_, ldArr (n := 4) (off := 8) (f := (fun n : Int => Value.int .i64 n)) (d := (0 : Int)) (Sub.refl _) (O7.all 0 rfl) rfl qe_0_2 g17, _, rfl, ?_⟩
  obtain ⟨y18, g19, e⟩ := bind_e e
  refine rcs12_0.addr rfl g19 fun a20 cs21 ha22 hc23 he24 => ?_
  refine ⟨_, ldAn O7.s hc23 rfl, ?_⟩
  refine O7.new fun h25 x26 O27 => ?_
  refine ⟨x26, ?_⟩
  refine ⟨_, rfl, (T_roadref4_Do.T.len _ _ _ he24), ?_⟩
  refine O27.stA 2 rfl (T_roadref4_Do.T.len _ _ _ he24) (T_roadref4_Do.T.flat _ _ _ he24) fun h29 O30 => ?_
  obtain ⟨y31, g32, e⟩ := bind_e e
  refine ⟨gi_le g32, gi_ltn g32 qe_0_2, ?_⟩
  refine ⟨_, ldArr (n := 4) (off := 8) (f := (fun n : Int => Value.int .i64 n)) (d := (0 : Int)) (Sub.refl _) (O30.all 0 rfl) rfl qe_0_2 g32, _, rfl, ?_⟩
  obtain ⟨y33, g34, e⟩ := bind_e e
  refine ⟨gi_le g34, gi_ltn g34 qe_0_2, ?_⟩
  obtain ⟨l35, g36, e⟩ := bind_e e
  replace g36 := Option.some.inj g36
  have q37 : List.length l35 = 4 := by rw [← g36, List.length_set]; exact qe_0_2
  obtain ⟨h38, w39, o40, t41⟩ := (O30.ob 0 rfl).stArr (n := 4) (off := 8) (f := (fun n : Int => Value.int .i64 n)) (d := (0 : Int)) (v := (IntKind.wrap .i64 (y31 + (1 : Int)))) O30.s rfl (Nat.le_of_ble_eq_true rfl) qe_0_2 g34 trivial
  rw [g36] at o40
  refine ⟨h38, w39, ?_⟩
  have O42 := O30.setV 0 rfl (cs' := [(Value.int .i64 (List.getD y_0.Cells 0 (0 : Int))), (Value.int .i64 (List.getD y_0.Cells 1 (0 : Int))), (Value.int .i64 (List.getD y_0.Cells 2 (0 : Int))), (Value.int .i64 (List.getD y_0.Cells 3 (0 : Int))), (Value.int .i64 (List.getD y_0.Hands 0 (0 : Int))), (Value.int .i64 (List.getD y_0.Hands 1 (0 : Int))), (Value.int .i64 (List.getD y_0.Hands 2 (0 : Int))), (Value.int .i64 (List.getD y_0.Hands 3 (0 : Int))), (Value.int .i64 (List.getD l35 0 (0 : Int))), (Value.int .i64 (List.getD l35 1 (0 : Int))), (Value.int .i64 (List.getD l35 2 (0 : Int))), (Value.int .i64 (List.getD l35 3 (0 : Int)))]) o40 t41
  have O43 := O42.nm
  obtain ⟨y44, g45, e⟩ := bind_e e
  refine ⟨gi_le g45, gi_ltn g45 qe_0_1, ?_⟩
  refine ⟨_, ldk (k := 1) (Sub.refl _) (O43.all 2 rfl) (T_roadref4_Do.g1 he24), _, rfl, ?_⟩
  obtain ⟨y46, g47, e⟩ := bind_e e
  refine ⟨gi_le g47, gi_ltn g47 qe_0_0, ?_⟩
  refine ⟨_, ldArr0 (n := 4) (f := (fun n : Int => Value.int .i64 n)) (d := (0 : Int)) (Sub.refl _) (O43.all 0 rfl) rfl qe_0_0 g47, _, rfl, ?_⟩
  refine ⟨_, ldArr (n := 4) (off := 4) (f := (fun n : Int => Value.int .i64 n)) (d := (0 : Int)) (Sub.refl _) (O43.all 0 rfl) rfl qe_0_1 g45, _, rfl, ?_⟩
  refine ⟨_, ldk (k := 1) (Sub.refl _) (O43.all 2 rfl) (T_roadref4_Do.g1 he24), _, rfl, ?_⟩
  refine ⟨_, ldk (k := 2) (Sub.refl _) (O43.all 2 rfl) (T_roadref4_Do.g2 he24), _, rfl, ?_⟩
  refine ⟨_, ldk (k := 2) (Sub.refl _) (O43.all 2 rfl) (T_roadref4_Do.g2 he24), _, rfl, ?_⟩
  refine ⟨_, ld0 (Sub.refl _) (O43.all 2 rfl) (T_roadref4_Do.g0 he24), _, rfl, ?_⟩
  refine O43.new fun h48 x49 O50 => ?_
  refine ⟨x49, ?_⟩
  obtain ⟨y53, g54, e⟩ := bind_e e
  have O52 := O50.rowE (l := ([y46, y46, (IntKind.wrap .i64 (y44 + y18.By)), (IntKind.wrap .i64 (y46 + y18.By)), y46] : List Int)) 3 rfl (tell_int .i64) (show CsE _ _ _ _ _ from (CsE.cons (c1 := [(Value.int .i64 y46)]) rfl rfl (CsE.cons (c1 := [(Value.int .i64 y46)]) rfl rfl (CsE.cons (c1 := [(Value.int .i64 (IntKind.wrap .i64 (y44 + y18.By)))]) rfl rfl (CsE.cons (c1 := [(Value.int .i64 (IntKind.wrap .i64 (y46 + y18.By)))]) rfl rfl (CsE.cons (c1 := [(Value.int .i64 y46)]) rfl rfl CsE.nil)))))) rfl
  refine (O52.os 3 rfl).addrS rfl g54 fun cs56 hc58 he59 => ?_
  obtain rfl : cs56 = [(Value.int .i64 y53)] := he59
  refine ⟨_, ld0 (Sub.refl _) hc58 rfl, _, rfl, ?_⟩
  obtain ⟨y60, g61, e⟩ := bind_e e
  refine ⟨gi_le g61, gi_ltn g61 qe_0_0, ?_⟩
  obtain ⟨l62, g63, e⟩ := bind_e e
  replace g63 := Option.some.inj g63
  have q64 : List.length l62 = 4 := by rw [← g63, List.length_set]; exact qe_0_0
  obtain ⟨h65, w66, o67, t68⟩ := (O52.ob 0 rfl).stArr0 (n := 4) (f := (fun n : Int => Value.int .i64 n)) (d := (0 : Int)) (v := y53) O52.s rfl (Nat.le_of_ble_eq_true rfl) qe_0_0 g61 trivial
  rw [g63] at o67
  refine ⟨h65, w66, ?_⟩
  have O69 := O52.setV 0 rfl (cs' := [(Value.int .i64 (List.getD l62 0 (0 : Int))), (Value.int .i64 (List.getD l62 1 (0 : Int))), (Value.int .i64 (List.getD l62 2 (0 : Int))), (Value.int .i64 (List.getD l62 3 (0 : Int))), (Value.int .i64 (List.getD y_0.Hands 0 (0 : Int))), (Value.int .i64 (List.getD y_0.Hands 1 (0 : Int))), (Value.int .i64 (List.getD y_0.Hands 2 (0 : Int))), (Value.int .i64 (List.getD y_0.Hands 3 (0 : Int))), (Value.int .i64 (List.getD l35 0 (0 : Int))), (Value.int .i64 (List.getD l35 1 (0 : Int))), (Value.int .i64 (List.getD l35 2 (0 : Int))), (Value.int .i64 (List.getD l35 3 (0 : Int)))]) o67 t68
  refine ⟨_, ld0 (Sub.refl _) (O69.all 2 rfl) (T_roadref4_Do.g0 he24), _, rfl, ?_⟩
  refine split_eq_e e (fun c86 e => ?_) (fun c86 e => ?_)
  · obtain ⟨y70, g71, e⟩ := bind_e e
    refine ⟨gi_le g71, gi_ltn g71 qe_0_1, ?_⟩
    obtain ⟨l72, g73, e⟩ := bind_e e
    replace g73 := Option.some.inj g73
    have q74 : List.length l72 = 4 := by rw [← g73, List.length_set]; exact qe_0_1
    obtain ⟨h75, w76, o77, t78⟩ := (O69.ob 0 rfl).stArr (n := 4) (off := 4) (f := (fun n : Int => Value.int .i64 n)) (d := (0 : Int)) (v := y46) O69.s rfl (Nat.le_of_ble_eq_true rfl) qe_0_1 g71 trivial
    rw [g73] at o77
    refine ⟨h75, w76, ?_⟩
    have O79 := O69.setV 0 rfl (cs' := [(Value.int .i64 (List.getD l62 0 (0 : Int))), (Value.int .i64 (List.getD l62 1 (0 : Int))), (Value.int .i64 (List.getD l62 2 (0 : Int))), (Value.int .i64 (List.getD l62 3 (0 : Int))), (Value.int .i64 (List.getD l72 0 (0 : Int))), (Value.int .i64 (List.getD l72 1 (0 : Int))), (Value.int .i64 (List.getD l72 2 (0 : Int))), (Value.int .i64 (List.getD l72 3 (0 : Int))), (Value.int .i64 (List.getD l35 0 (0 : Int))), (Value.int .i64 (List.getD l35 1 (0 : Int))), (Value.int .i64 (List.getD l35 2 (0 : Int))), (Value.int .i64 (List.getD l35 3 (0 : Int)))]) o77 t78
    refine ⟨_, ldAn (Sub.refl _) (O79.all 0 rfl) rfl, ?_⟩
    refine ⟨_, rfl, rfl, ?_⟩
    refine O79.stA 1 rfl rfl (Flats.cons trivial (Flats.cons trivial (Flats.cons trivial (Flats.cons trivial (Flats.cons trivial (Flats.cons trivial (Flats.cons trivial (Flats.cons trivial (Flats.cons trivial (Flats.cons trivial (Flats.cons trivial (Flats.cons trivial Flats.nil)))))))))))) fun h80 O81 => ?_
    refine ⟨_, ldAn (Sub.refl _) (O81.all 1 rfl) rfl, ?_⟩
    have O82 := O81.nm
    cases e
    exact ⟨_, _, O82.pick [], rfl, (show T_roadref4_State.E _ (T_roadref4_State.mk l62 l72 l35) [(Value.int .i64 (List.getD l62 0 (0 : Int))), (Value.int .i64 (List.getD l62 1 (0 : Int))), (Value.int .i64 (List.getD l62 2 (0 : Int))), (Value.int .i64 (List.getD l62 3 (0 : Int))), (Value.int .i64 (List.getD l72 0 (0 : Int))), (Value.int .i64 (List.getD l72 1 (0 : Int))), (Value.int .i64 (List.getD l72 2 (0 : Int))), (Value.int .i64 (List.getD l72 3 (0 : Int))), (Value.int .i64 (List.getD l35 0 (0 : Int))), (Value.int .i64 (List.getD l35 1 (0 : Int))), (Value.int .i64 (List.getD l35 2 (0 : Int))), (Value.int .i64 (List.getD l35 3 (0 : Int)))] from ⟨rfl, q64, q74, q37⟩)⟩
  · refine ⟨_, ldAn (Sub.refl _) (O69.all 0 rfl) rfl, ?_⟩
    refine ⟨_, rfl, rfl, ?_⟩
    refine O69.stA 1 rfl rfl (Flats.cons trivial (Flats.cons trivial (Flats.cons trivial (Flats.cons trivial (Flats.cons trivial (Flats.cons trivial (Flats.cons trivial (Flats.cons trivial (Flats.cons trivial (Flats.cons trivial (Flats.cons trivial (Flats.cons trivial Flats.nil)))))))))))) fun h83 O84 => ?_
    refine ⟨_, ldAn (Sub.refl _) (O84.all 1 rfl) rfl, ?_⟩
    have O85 := O84.nm
    cases e
    exact ⟨_, _, O85.pick [], rfl, (show T_roadref4_State.E _ (T_roadref4_State.mk l62 y_0.Hands l35) [(Value.int .i64 (List.getD l62 0 (0 : Int))), (Value.int .i64 (List.getD l62 1 (0 : Int))), (Value.int .i64 (List.getD l62 2 (0 : Int))), (Value.int .i64 (List.getD l62 3 (0 : Int))), (Value.int .i64 (List.getD y_0.Hands 0 (0 : Int))), (Value.int .i64 (List.getD y_0.Hands 1 (0 : Int))), (Value.int .i64 (List.getD y_0.Hands 2 (0 : Int))), (Value.int .i64 (List.getD y_0.Hands 3 (0 : Int))), (Value.int .i64 (List.getD l35 0 (0 : Int))), (Value.int .i64 (List.getD l35 1 (0 : Int))), (Value.int .i64 (List.getD l35 2 (0 : Int))), (Value.int .i64 (List.getD l35 3 (0 : Int)))] from ⟨rfl, q64, qe_0_1, q37⟩)⟩

/-! ### 61 roadstead/roadlaw4.state -/
def roadlaw4_state.post (W : Nat → Prop) (h0 m0 : Heap) (r : T_explore_State) (v : Value) (h : Heap) : Prop := ∃ m cs0, Hold W h0 m0 h m [] ∧ v = .agg cs0.toArray ∧ T_explore_State.E m r cs0
noncomputable def roadlaw4_state (y_0 : T_roadref4_State) : Option (T_explore_State) :=
  some ((T_explore_State.mk y_0.Cells y_0.Hands y_0.At))
set_option maxRecDepth 100000 in
theorem roadlaw4_state.walk {W : Nat → Prop} {h m : Heap} {cs_0 : List Value} {y_0 : T_roadref4_State} (O : Hold W h m h m []) (e_0 : T_roadref4_State.E m y_0 cs_0) {r : T_explore_State} (e : roadlaw4_state y_0 = some r) : Run Try.prog 61 #[Value.agg cs_0.toArray] h (roadlaw4_state.post W h m r) := by
  unfold roadlaw4_state at e
  obtain ⟨rfl, qe_0_0, qe_0_1, qe_0_2⟩ := id e_0
  refine f61.run ?_
  unfold f61.runT
  refine O.new fun h1 x2 O3 => ?_
  refine O3.new fun h5 x6 O7 => ?_
  refine ⟨(Value.agg #[(Value.int .i64 (List.getD y_0.Cells 0 (0 : Int))), (Value.int .i64 (List.getD y_0.Cells 1 (0 : Int))), (Value.int .i64 (List.getD y_0.Cells 2 (0 : Int))), (Value.int .i64 (List.getD y_0.Cells 3 (0 : Int)))]), ldA0n (Sub.refl _) (O7.all 0 rfl) 4 (Nat.le_of_ble_eq_true rfl), ?_⟩
  refine ⟨(Value.agg #[(Value.int .i64 (List.getD y_0.Hands 0 (0 : Int))), (Value.int .i64 (List.getD y_0.Hands 1 (0 : Int))), (Value.int .i64 (List.getD y_0.Hands 2 (0 : Int))), (Value.int .i64 (List.getD y_0.Hands 3 (0 : Int)))]), ldAkn (Sub.refl _) (O7.all 0 rfl) 4 4 (Nat.le_of_ble_eq_true rfl), ?_⟩
  refine ⟨(Value.agg #[(Value.int .i64 (List.getD y_0.At 0 (0 : Int))), (Value.int .i64 (List.getD y_0.At 1 (0 : Int))), (Value.int .i64 (List.getD y_0.At 2 (0 : Int))), (Value.int .i64 (List.getD y_0.At 3 (0 : Int)))]), ldAkn (Sub.refl _) (O7.all 0 rfl) 8 4 (Nat.le_of_ble_eq_true rfl), ?_⟩
  refine ⟨[(Value.int .i64 (List.getD y_0.Cells 0 (0 : Int))), (Value.int .i64 (List.getD y_0.Cells 1 (0 : Int))), (Value.int .i64 (List.getD y_0.Cells 2 (0 : Int))), (Value.int .i64 (List.getD y_0.Cells 3 (0 : Int)))], rfl, rfl, ?_⟩
  refine ⟨[(Value.int .i64 (List.getD y_0.Hands 0 (0 : Int))), (Value.int .i64 (List.getD y_0.Hands 1 (0 : Int))), (Value.int .i64 (List.getD y_0.Hands 2 (0 : Int))), (Value.int .i64 (List.getD y_0.Hands 3 (0 : Int)))], rfl, rfl, ?_⟩
  refine ⟨[(Value.int .i64 (List.getD y_0.At 0 (0 : Int))), (Value.int .i64 (List.getD y_0.At 1 (0 : Int))), (Value.int .i64 (List.getD y_0.At 2 (0 : Int))), (Value.int .i64 (List.getD y_0.At 3 (0 : Int)))], rfl, rfl, ?_⟩
  refine ⟨_, rfl, rfl, ?_⟩
  refine O7.stA 1 rfl rfl (Flats.cons trivial (Flats.cons trivial (Flats.cons trivial (Flats.cons trivial (Flats.cons trivial (Flats.cons trivial (Flats.cons trivial (Flats.cons trivial (Flats.cons trivial (Flats.cons trivial (Flats.cons trivial (Flats.cons trivial Flats.nil)))))))))))) fun h9 O10 => ?_
  refine ⟨_, ldAn (Sub.refl _) (O10.all 1 rfl) rfl, ?_⟩
  have O11 := O10.nm
  cases e
  exact ⟨_, _, O11.pick [], rfl, (show T_explore_State.E _ (T_explore_State.mk y_0.Cells y_0.Hands y_0.At) [(Value.int .i64 (List.getD y_0.Cells 0 (0 : Int))), (Value.int .i64 (List.getD y_0.Cells 1 (0 : Int))), (Value.int .i64 (List.getD y_0.Cells 2 (0 : Int))), (Value.int .i64 (List.getD y_0.Cells 3 (0 : Int))), (Value.int .i64 (List.getD y_0.Hands 0 (0 : Int))), (Value.int .i64 (List.getD y_0.Hands 1 (0 : Int))), (Value.int .i64 (List.getD y_0.Hands 2 (0 : Int))), (Value.int .i64 (List.getD y_0.Hands 3 (0 : Int))), (Value.int .i64 (List.getD y_0.At 0 (0 : Int))), (Value.int .i64 (List.getD y_0.At 1 (0 : Int))), (Value.int .i64 (List.getD y_0.At 2 (0 : Int))), (Value.int .i64 (List.getD y_0.At 3 (0 : Int)))] from ⟨rfl, qe_0_0, qe_0_1, qe_0_2⟩)⟩

/-! ### 62 roadstead/roadlaw4.steps -/
def roadlaw4_steps.post (W : Nat → Prop) (h0 m0 : Heap) (r : (List T_part_Step)) (v : Value) (h : Heap) : Prop := ∃ m A0 n0 c0, Hold W h0 m0 h m [rR (aE T_part_Step.T) A0 c0 r] ∧ v = .slice A0 n0 c0 ∧ n0 = List.length r
inductive roadlaw4_steps.l0_k.Pt where
  | l0 (a_3 : List T_part_Step) (a_6 : List T_roadref4_Step) (x_7 : Int) (x_8 : Int)
noncomputable def roadlaw4_steps.l0_k.body (go : (p : roadlaw4_steps.l0_k.Pt) → Option ((List T_part_Step))) : (p : roadlaw4_steps.l0_k.Pt) → Option ((List T_part_Step))
  | .l0 a_3 a_6 x_7 x_8 => if x_8 < x_7 then (Option.bind (gi a_6 x_8) fun y1 => Option.bind (ap 24 a_3 ([(T_part_Step.mk y1.Who y1.Reads y1.Writes)] : List T_part_Step)) fun l18 => (go (.l0 l18 a_6 x_7 (IntKind.wrap .i64 (x_8 + (1 : Int)))))) else (some (a_3))
theorem roadlaw4_steps.l0_k.mono : MonoF (β := fun _ => ((List T_part_Step))) roadlaw4_steps.l0_k.body := fun f g hfg p => match p with
  | .l0 a_3 a_6 x_7 x_8 => LeO.ite (LeO.bind (LeO.refl _) fun y1 => LeO.bind (LeO.refl _) fun l18 => (hfg _)) (LeO.refl _)
noncomputable def roadlaw4_steps.l0_k.go (p : roadlaw4_steps.l0_k.Pt) : Option ((List T_part_Step)) := fixF (β := fun _ => ((List T_part_Step))) roadlaw4_steps.l0_k.body p
noncomputable def roadlaw4_steps.l0 (a_3 : List T_part_Step) (a_6 : List T_roadref4_Step) (x_7 : Int) (x_8 : Int) : Option ((List T_part_Step)) := roadlaw4_steps.l0_k.go (.l0 a_3 a_6 x_7 x_8)
theorem roadlaw4_steps.l0_eq (a_3 : List T_part_Step) (a_6 : List T_roadref4_Step) (x_7 : Int) (x_8 : Int) : roadlaw4_steps.l0 a_3 a_6 x_7 x_8 = if x_8 < x_7 then (Option.bind (gi a_6 x_8) fun y1 => Option.bind (ap 24 a_3 ([(T_part_Step.mk y1.Who y1.Reads y1.Writes)] : List T_part_Step)) fun l18 => (roadlaw4_steps.l0 l18 a_6 x_7 (IntKind.wrap .i64 (x_8 + (1 : Int))))) else (some (a_3)) := fixF_eq roadlaw4_steps.l0_k.mono _
def roadlaw4_steps.l0_k.I : (p : roadlaw4_steps.l0_k.Pt) → ((List T_part_Step)) → Prop
  | .l0 a_3 a_6 x_7 x_8, r => ∀ (W : Nat → Prop) (h0 m0 h m : Heap) (A_3 : Option Addr) (n_3 c_3 : Nat) (A_6 : Option Addr) (n_6 c_6 : Nat) (O : Hold W h0 m0 h m [rR (aE T_part_Step.T) A_3 c_3 a_3]) (ne_3 : n_3 = List.length a_3) (ne_6 : n_6 = List.length a_6) (k_6 : List.length a_6 ≤ c_6) (r_6 : Rd 3 T_roadref4_Step.E m A_6 a_6), f62.l0 (roadlaw4_steps.post W h0 m0 r) A_3 n_3 c_3 A_6 n_6 c_6 x_7 x_8 h
set_option maxRecDepth 100000 in
theorem roadlaw4_steps.l0_k.step_l0 (go : (p : roadlaw4_steps.l0_k.Pt) → Option ((List T_part_Step))) (ih : ∀ p r, go p = some r → roadlaw4_steps.l0_k.I p r) (a_3 : List T_part_Step) (a_6 : List T_roadref4_Step) (x_7 : Int) (x_8 : Int) (r : (List T_part_Step)) (e : roadlaw4_steps.l0_k.body go (.l0 a_3 a_6 x_7 x_8) = some r) : roadlaw4_steps.l0_k.I (.l0 a_3 a_6 x_7 x_8) r := by
  unfold roadlaw4_steps.l0_k.body at e
  intro W h0 m0 h m A_3 n_3 c_3 A_6 n_6 c_6 O ne_3 ne_6 k_6 r_6
  subst ne_3
  subst ne_6
  refine f62.l0_in ?_
  unfold f62.l0T
  refine split_dec_e e (fun c28 e => ?_) (fun c28 e => ?_)
  · obtain ⟨y1, g2, e⟩ := bind_e e
    refine r_6.addr rfl g2 fun a3 cs4 ha5 hc6 he7 => ?_
    refine ⟨_, ldAn O.s hc6 rfl, ?_⟩
    refine O.new fun h8 x9 O10 => ?_
    refine ⟨_, rfl, (T_roadref4_Step.T.len _ _ _ he7), ?_⟩
    refine O10.stA 1 rfl (T_roadref4_Step.T.len _ _ _ he7) (T_roadref4_Step.T.flat _ _ _ he7) fun h12 O13 => ?_
    refine ⟨_, ld0 (Sub.refl _) (O13.all 1 rfl) (T_roadref4_Step.g0 he7), _, rfl, ?_⟩
    refine ⟨_, ldk (k := 1) (Sub.refl _) (O13.all 1 rfl) (T_roadref4_Step.g1 he7), _, rfl, ?_⟩
    refine ⟨_, ldk (k := 2) (Sub.refl _) (O13.all 1 rfl) (T_roadref4_Step.g2 he7), _, rfl, ?_⟩
    refine ⟨[(Value.int .i64 y1.Who), (Value.int .i64 y1.Reads), (Value.int .i64 y1.Writes)], rfl, rfl, ?_⟩
    refine O13.new fun h14 x15 O16 => ?_
    obtain ⟨l18, g19, e⟩ := bind_e e
    have O26 := O16.rowE (l := ([(T_part_Step.mk y1.Who y1.Reads y1.Writes)] : List T_part_Step)) 2 rfl T_part_Step.T (show CsE _ _ _ _ _ from (CsE.cons (c1 := [(Value.int .i64 y1.Who), (Value.int .i64 y1.Reads), (Value.int .i64 y1.Writes)]) (show T_part_Step.E _ (T_part_Step.mk y1.Who y1.Reads y1.Writes) [(Value.int .i64 y1.Who), (Value.int .i64 y1.Reads), (Value.int .i64 y1.Writes)] from rfl) rfl CsE.nil)) rfl
    refine O26.app 0 rfl rfl rfl ((O26.os 2 rfl).srcE rfl) (by decide) g19 fun A20 c21 h22 O23 => ?_
    refine ⟨_, _, _, rfl, ?_⟩
    have O27 := O23.nm
    exact (ih _ _ e) _ _ _ _ _ _ _ _ _ _ _ (O27.pick [0]).nm rfl rfl k_6 r_6
  · cases e
    exact ⟨_, _, _, _, O.pick [0], rfl, rfl⟩
theorem roadlaw4_steps.l0_k.all {p : roadlaw4_steps.l0_k.Pt} {r : ((List T_part_Step))} (e : roadlaw4_steps.l0_k.go p = some r) : roadlaw4_steps.l0_k.I p r := fixF_ind (β := fun _ => ((List T_part_Step))) roadlaw4_steps.l0_k.mono (I := roadlaw4_steps.l0_k.I) (fun go ih p r e => match p with
  | .l0 a_3 a_6 x_7 x_8 => roadlaw4_steps.l0_k.step_l0 go ih a_3 a_6 x_7 x_8 r e
  ) e
theorem roadlaw4_steps.l0.walk {W : Nat → Prop} {h0 m0 h m : Heap} {A_3 : Option Addr} {n_3 c_3 : Nat} {A_6 : Option Addr} {n_6 c_6 : Nat} {a_3 : List T_part_Step} {a_6 : List T_roadref4_Step} {x_7 : Int} {x_8 : Int} (O : Hold W h0 m0 h m [rR (aE T_part_Step.T) A_3 c_3 a_3]) (ne_3 : n_3 = List.length a_3) (ne_6 : n_6 = List.length a_6) (k_6 : List.length a_6 ≤ c_6) (r_6 : Rd 3 T_roadref4_Step.E m A_6 a_6) {r : (List T_part_Step)} (e : roadlaw4_steps.l0 a_3 a_6 x_7 x_8 = some r) : f62.l0 (roadlaw4_steps.post W h0 m0 r) A_3 n_3 c_3 A_6 n_6 c_6 x_7 x_8 h := roadlaw4_steps.l0_k.all (p := .l0 a_3 a_6 x_7 x_8) e W h0 m0 h m A_3 n_3 c_3 A_6 n_6 c_6 O ne_3 ne_6 k_6 r_6

noncomputable def roadlaw4_steps (a_0 : List T_roadref4_Step) : Option ((List T_part_Step)) :=
  (roadlaw4_steps.l0 ([] : List T_part_Step) a_0 (((List.length a_0) : Nat) : Int) (0 : Int))
set_option maxRecDepth 100000 in
theorem roadlaw4_steps.walk {W : Nat → Prop} {h m : Heap} {A_0 : Option Addr} {n_0 c_0 : Nat} {a_0 : List T_roadref4_Step} (O : Hold W h m h m []) (ne_0 : n_0 = List.length a_0) (k_0 : List.length a_0 ≤ c_0) (r_0 : Rd 3 T_roadref4_Step.E m A_0 a_0) {r : (List T_part_Step)} (e : roadlaw4_steps a_0 = some r) : Run Try.prog 62 #[Value.slice A_0 n_0 c_0] h (roadlaw4_steps.post W h m r) := by
  unfold roadlaw4_steps at e
  subst ne_0
  refine f62.run ?_
  unfold f62.runT
  have O1 := O.nil (aE T_part_Step.T) none
  have O3 := O1.nm
  exact roadlaw4_steps.l0.walk (O3.pick [0]).nm rfl rfl k_0 r_0 e

/-! ### 63 (roadstead/roadref4.Do).Step -/
def roadref4_Do_Step.post (W : Nat → Prop) (h0 m0 : Heap) (r : T_roadref4_Step) (v : Value) (h : Heap) : Prop := ∃ m cs0, Hold W h0 m0 h m [] ∧ v = .agg cs0.toArray ∧ T_roadref4_Step.E m r cs0
noncomputable def roadref4_Do_Step (y_0 : T_roadref4_Do) (x_1 : Int) : Option (T_roadref4_Step) :=
  if 0 ≤ y_0.Cell then (Option.bind (gi ([(0 : Int), (shlI .i64 (1 : Int) y_0.Cell), (0 : Int), (shlI .i64 (1 : Int) y_0.Cell), (shlI .i64 (1 : Int) y_0.Cell)] : List Int) y_0.Kind) fun y15 => Option.bind (gi ([(0 : Int), (0 : Int), (shlI .i64 (1 : Int) y_0.Cell), (shlI .i64 (1 : Int) y_0.Cell), (0 : Int)] : List Int) y_0.Kind) fun y28 => some ((T_roadref4_Step.mk x_1 y15 y28))) else none
set_option maxHeartbeats 4000000 in
set_option maxRecDepth 100000 in
theorem roadref4_Do_Step.walk {W : Nat → Prop} {h m : Heap} {cs_0 : List Value} {y_0 : T_roadref4_Do} {x_1 : Int} (O : Hold W h m h m []) (e_0 : T_roadref4_Do.E m y_0 cs_0) {r : T_roadref4_Step} (e : roadref4_Do_Step y_0 x_1 = some r) : Run Try.prog 63 #[Value.agg cs_0.toArray, Value.int .i64 x_1] h (roadref4_Do_Step.post W h m r) := by
  unfold roadref4_Do_Step at e
  refine f63.run ?_
  unfold f63.runT
  refine O.new fun h1 x2 O3 => ?_
  refine O3.new fun h5 x6 O7 => ?_
  refine ⟨_, ldk (k := 1) (Sub.refl _) (O7.all 0 rfl) (T_roadref4_Do.g1 e_0), _, rfl, ?_⟩
  obtain ⟨g9, e⟩ := guard_e e
  refine ⟨g9, ?_⟩
  obtain ⟨y15, g16, e⟩ := bind_e e
  obtain ⟨y28, g29, e⟩ := bind_e e
  refine ⟨_, ld0 (Sub.refl _) (O7.all 0 rfl) (T_roadref4_Do.g0 e_0), _, rfl, ?_⟩
  refine ⟨_, ld0 (Sub.refl _) (O7.all 0 rfl) (T_roadref4_Do.g0 e_0), _, rfl, ?_⟩
  refine ⟨?_, ?_⟩
  · refine O7.new fun h38 x39 O40 => ?_
    refine ⟨x39, ?_⟩
    have O42 := O40.rowE (l := ([(0 : Int), (shlI .i64 (1 : Int) y_0.Cell), (0 : Int), (shlI .i64 (1 : Int) y_0.Cell), (shlI .i64 (1 : Int) y_0.Cell)] : List Int)) 2 rfl (tell_int .i64) (show CsE _ _ _ _ _ from (CsE.cons (c1 := [(Value.int .i64 (0 : Int))]) rfl rfl (CsE.cons (c1 := [(Value.int .i64 (shlI .i64 (1 : Int) y_0.Cell))]) rfl rfl (CsE.cons (c1 := [(Value.int .i64 (0 : Int))]) rfl rfl (CsE.cons (c1 := [(Value.int .i64 (shlI .i64 (1 : Int) y_0.Cell))]) rfl rfl (CsE.cons (c1 := [(Value.int .i64 (shlI .i64 (1 : Int) y_0.Cell))]) rfl rfl CsE.nil)))))) rfl
    refine (O42.os 2 rfl).addrS rfl g16 fun cs46 hc48 he49 => ?_
    obtain rfl : cs46 = [(Value.int .i64 y15)] := he49
    refine ⟨_, ld0 (Sub.refl _) hc48 rfl, _, rfl, ?_⟩
    refine O42.new fun h50 x51 O52 => ?_
    refine ⟨x51, ?_⟩
    have O54 := O52.nm
    have O55 := O54.rowE (l := ([(0 : Int), (0 : Int), (shlI .i64 (1 : Int) y_0.Cell), (shlI .i64 (1 : Int) y_0.Cell), (0 : Int)] : List Int)) 3 rfl (tell_int .i64) (show CsE _ _ _ _ _ from (CsE.cons (c1 := [(Value.int .i64 (0 : Int))]) rfl rfl (CsE.cons (c1 := [(Value.int .i64 (0 : Int))]) rfl rfl (CsE.cons (c1 := [(Value.int .i64 (shlI .i64 (1 : Int) y_0.Cell))]) rfl rfl (CsE.cons (c1 := [(Value.int .i64 (shlI .i64 (1 : Int) y_0.Cell))]) rfl rfl (CsE.cons (c1 := [(Value.int .i64 (0 : Int))]) rfl rfl CsE.nil)))))) rfl
    refine (O55.os 3 rfl).addrS rfl g29 fun cs59 hc61 he62 => ?_
    obtain rfl : cs59 = [(Value.int .i64 y28)] := he62
    refine ⟨_, ld0 (Sub.refl _) hc61 rfl, _, rfl, ?_⟩
    refine ⟨_, rfl, rfl, ?_⟩
    refine O55.stA 1 rfl rfl (Flats.cons trivial (Flats.cons trivial (Flats.cons trivial Flats.nil))) fun h63 O64 => ?_
    refine ⟨_, ldAn (Sub.refl _) (O64.all 1 rfl) rfl, ?_⟩
    have O65 := O64.nm
    cases e
    exact ⟨_, _, O65.pick [], rfl, (show T_roadref4_Step.E _ (T_roadref4_Step.mk x_1 y15 y28) [(Value.int .i64 x_1), (Value.int .i64 y15), (Value.int .i64 y28)] from rfl)⟩
  · refine O7.new fun h66 x67 O68 => ?_
    refine ⟨x67, ?_⟩
    have O70 := O68.rowE (l := ([(0 : Int), (0 : Int), (shlI .i64 (1 : Int) y_0.Cell), (shlI .i64 (1 : Int) y_0.Cell), (0 : Int)] : List Int)) 2 rfl (tell_int .i64) (show CsE _ _ _ _ _ from (CsE.cons (c1 := [(Value.int .i64 (0 : Int))]) rfl rfl (CsE.cons (c1 := [(Value.int .i64 (0 : Int))]) rfl rfl (CsE.cons (c1 := [(Value.int .i64 (shlI .i64 (1 : Int) y_0.Cell))]) rfl rfl (CsE.cons (c1 := [(Value.int .i64 (shlI .i64 (1 : Int) y_0.Cell))]) rfl rfl (CsE.cons (c1 := [(Value.int .i64 (0 : Int))]) rfl rfl CsE.nil)))))) rfl
    refine (O70.os 2 rfl).addrS rfl g29 fun cs74 hc76 he77 => ?_
    obtain rfl : cs74 = [(Value.int .i64 y28)] := he77
    refine ⟨_, ld0 (Sub.refl _) hc76 rfl, _, rfl, ?_⟩
    refine O70.new fun h78 x79 O80 => ?_
    refine ⟨x79, ?_⟩
    have O82 := O80.nm
    have O83 := O82.rowE (l := ([(0 : Int), (shlI .i64 (1 : Int) y_0.Cell), (0 : Int), (shlI .i64 (1 : Int) y_0.Cell), (shlI .i64 (1 : Int) y_0.Cell)] : List Int)) 3 rfl (tell_int .i64) (show CsE _ _ _ _ _ from (CsE.cons (c1 := [(Value.int .i64 (0 : Int))]) rfl rfl (CsE.cons (c1 := [(Value.int .i64 (shlI .i64 (1 : Int) y_0.Cell))]) rfl rfl (CsE.cons (c1 := [(Value.int .i64 (0 : Int))]) rfl rfl (CsE.cons (c1 := [(Value.int .i64 (shlI .i64 (1 : Int) y_0.Cell))]) rfl rfl (CsE.cons (c1 := [(Value.int .i64 (shlI .i64 (1 : Int) y_0.Cell))]) rfl rfl CsE.nil)))))) rfl
    refine (O83.os 3 rfl).addrS rfl g16 fun cs87 hc89 he90 => ?_
    obtain rfl : cs87 = [(Value.int .i64 y15)] := he90
    refine ⟨_, ld0 (Sub.refl _) hc89 rfl, _, rfl, ?_⟩
    refine ⟨_, rfl, rfl, ?_⟩
    refine O83.stA 1 rfl rfl (Flats.cons trivial (Flats.cons trivial (Flats.cons trivial Flats.nil))) fun h91 O92 => ?_
    refine ⟨_, ldAn (Sub.refl _) (O92.all 1 rfl) rfl, ?_⟩
    have O93 := O92.nm
    cases e
    exact ⟨_, _, O93.pick [], rfl, (show T_roadref4_Step.E _ (T_roadref4_Step.mk x_1 y15 y28) [(Value.int .i64 x_1), (Value.int .i64 y15), (Value.int .i64 y28)] from rfl)⟩

/-! ### 64 slices.Equal[[]roadstead/part.Step,roadstead/part.Step] -/
def slices_Equal_64.post (W : Nat → Prop) (h0 m0 : Heap) (r : Bool) (v : Value) (h : Heap) : Prop := ∃ m , Hold W h0 m0 h m [] ∧ v = .bool r
inductive slices_Equal_64.l0_k.Pt where
  | l0 (a_0 : List T_part_Step) (a_1 : List T_part_Step) (x_12 : Int) (x_13 : Int)
noncomputable def slices_Equal_64.l0_k.body (go : (p : slices_Equal_64.l0_k.Pt) → Option (Bool)) : (p : slices_Equal_64.l0_k.Pt) → Option (Bool)
  | .l0 a_0 a_1 x_12 x_13 => if x_13 < x_12 then (Option.bind (gi a_0 x_13) fun y1 => Option.bind (gi a_1 x_13) fun y8 => if ((y1.Who == y8.Who) && ((y1.Reads == y8.Reads) && ((y1.Writes == y8.Writes) && true))) = true then ((go (.l0 a_0 a_1 x_12 (IntKind.wrap .i64 (x_13 + (1 : Int)))))) else (some (false))) else (some (true))
theorem slices_Equal_64.l0_k.mono : MonoF (β := fun _ => (Bool)) slices_Equal_64.l0_k.body := fun f g hfg p => match p with
  | .l0 a_0 a_1 x_12 x_13 => LeO.ite (LeO.bind (LeO.refl _) fun y1 => LeO.bind (LeO.refl _) fun y8 => LeO.ite ((hfg _)) (LeO.refl _)) (LeO.refl _)
noncomputable def slices_Equal_64.l0_k.go (p : slices_Equal_64.l0_k.Pt) : Option (Bool) := fixF (β := fun _ => (Bool)) slices_Equal_64.l0_k.body p
noncomputable def slices_Equal_64.l0 (a_0 : List T_part_Step) (a_1 : List T_part_Step) (x_12 : Int) (x_13 : Int) : Option (Bool) := slices_Equal_64.l0_k.go (.l0 a_0 a_1 x_12 x_13)
theorem slices_Equal_64.l0_eq (a_0 : List T_part_Step) (a_1 : List T_part_Step) (x_12 : Int) (x_13 : Int) : slices_Equal_64.l0 a_0 a_1 x_12 x_13 = if x_13 < x_12 then (Option.bind (gi a_0 x_13) fun y1 => Option.bind (gi a_1 x_13) fun y8 => if ((y1.Who == y8.Who) && ((y1.Reads == y8.Reads) && ((y1.Writes == y8.Writes) && true))) = true then ((slices_Equal_64.l0 a_0 a_1 x_12 (IntKind.wrap .i64 (x_13 + (1 : Int))))) else (some (false))) else (some (true)) := fixF_eq slices_Equal_64.l0_k.mono _
def slices_Equal_64.l0_k.I : (p : slices_Equal_64.l0_k.Pt) → (Bool) → Prop
  | .l0 a_0 a_1 x_12 x_13, r => ∀ (W : Nat → Prop) (h0 m0 h m : Heap) (A_0 : Option Addr) (n_0 c_0 : Nat) (A_1 : Option Addr) (n_1 c_1 : Nat) (O : Hold W h0 m0 h m []) (ne_0 : n_0 = List.length a_0) (k_0 : List.length a_0 ≤ c_0) (r_0 : Rd 3 T_part_Step.E m A_0 a_0) (ne_1 : n_1 = List.length a_1) (k_1 : List.length a_1 ≤ c_1) (r_1 : Rd 3 T_part_Step.E m A_1 a_1), f64.l0 (slices_Equal_64.post W h0 m0 r) A_0 n_0 c_0 A_1 n_1 c_1 x_12 x_13 h
set_option maxRecDepth 100000 in
theorem slices_Equal_64.l0_k.step_l0 (go : (p : slices_Equal_64.l0_k.Pt) → Option (Bool)) (ih : ∀ p r, go p = some r → slices_Equal_64.l0_k.I p r) (a_0 : List T_part_Step) (a_1 : List T_part_Step) (x_12 : Int) (x_13 : Int) (r : Bool) (e : slices_Equal_64.l0_k.body go (.l0 a_0 a_1 x_12 x_13) = some r) : slices_Equal_64.l0_k.I (.l0 a_0 a_1 x_12 x_13) r := by
  unfold slices_Equal_64.l0_k.body at e
  intro W h0 m0 h m A_0 n_0 c_0 A_1 n_1 c_1 O ne_0 k_0 r_0 ne_1 k_1 r_1
  subst ne_0
  subst ne_1
  refine f64.l0_in ?_
  unfold f64.l0T
  refine split_dec_e e (fun c18 e => ?_) (fun c18 e => ?_)
  · obtain ⟨y1, g2, e⟩ := bind_e e
    refine r_0.addr rfl g2 fun a3 cs4 ha5 hc6 he7 => ?_
    obtain ⟨y8, g9, e⟩ := bind_e e
    refine r_1.addr rfl g9 fun a10 cs11 ha12 hc13 he14 => ?_
    refine ⟨_, ldAn O.s hc6 rfl, ?_⟩
    refine ⟨_, ldAn O.s hc13 rfl, ?_⟩
    obtain rfl : cs4 = [(Value.int .i64 y1.Who), (Value.int .i64 y1.Reads), (Value.int .i64 y1.Writes)] := he7
    obtain rfl : cs11 = [(Value.int .i64 y8.Who), (Value.int .i64 y8.Reads), (Value.int .i64 y8.Writes)] := he14
    refine gen_neq (b := ((y1.Who == y8.Who) && ((y1.Reads == y8.Reads) && ((y1.Writes == y8.Writes) && true)))) (by kernel_rfl) ?_
    refine ⟨_, rfl, ?_⟩
    refine split_not ?_
    refine split_any_e e (fun c17 e => ?_) (fun c17 e => ?_)
    · exact (ih _ _ e) _ _ _ _ _ _ _ _ _ _ _ (O.pick []).nm rfl k_0 r_0 rfl k_1 r_1
    · cases e
      exact ⟨_, O.pick [], rfl⟩
  · cases e
    exact ⟨_, O.pick [], rfl⟩
theorem slices_Equal_64.l0_k.all {p : slices_Equal_64.l0_k.Pt} {r : (Bool)} (e : slices_Equal_64.l0_k.go p = some r) : slices_Equal_64.l0_k.I p r := fixF_ind (β := fun _ => (Bool)) slices_Equal_64.l0_k.mono (I := slices_Equal_64.l0_k.I) (fun go ih p r e => match p with
  | .l0 a_0 a_1 x_12 x_13 => slices_Equal_64.l0_k.step_l0 go ih a_0 a_1 x_12 x_13 r e
  ) e
theorem slices_Equal_64.l0.walk {W : Nat → Prop} {h0 m0 h m : Heap} {A_0 : Option Addr} {n_0 c_0 : Nat} {A_1 : Option Addr} {n_1 c_1 : Nat} {a_0 : List T_part_Step} {a_1 : List T_part_Step} {x_12 : Int} {x_13 : Int} (O : Hold W h0 m0 h m []) (ne_0 : n_0 = List.length a_0) (k_0 : List.length a_0 ≤ c_0) (r_0 : Rd 3 T_part_Step.E m A_0 a_0) (ne_1 : n_1 = List.length a_1) (k_1 : List.length a_1 ≤ c_1) (r_1 : Rd 3 T_part_Step.E m A_1 a_1) {r : Bool} (e : slices_Equal_64.l0 a_0 a_1 x_12 x_13 = some r) : f64.l0 (slices_Equal_64.post W h0 m0 r) A_0 n_0 c_0 A_1 n_1 c_1 x_12 x_13 h := slices_Equal_64.l0_k.all (p := .l0 a_0 a_1 x_12 x_13) e W h0 m0 h m A_0 n_0 c_0 A_1 n_1 c_1 O ne_0 k_0 r_0 ne_1 k_1 r_1

noncomputable def slices_Equal_64 (a_0 : List T_part_Step) (a_1 : List T_part_Step) : Option (Bool) :=
  if (((List.length a_0) : Nat) : Int) = (((List.length a_1) : Nat) : Int) then ((slices_Equal_64.l0 a_0 a_1 (((List.length a_0) : Nat) : Int) (0 : Int))) else (some (false))
set_option maxRecDepth 100000 in
theorem slices_Equal_64.walk {W : Nat → Prop} {h m : Heap} {A_0 : Option Addr} {n_0 c_0 : Nat} {A_1 : Option Addr} {n_1 c_1 : Nat} {a_0 : List T_part_Step} {a_1 : List T_part_Step} (O : Hold W h m h m []) (ne_0 : n_0 = List.length a_0) (k_0 : List.length a_0 ≤ c_0) (r_0 : Rd 3 T_part_Step.E m A_0 a_0) (ne_1 : n_1 = List.length a_1) (k_1 : List.length a_1 ≤ c_1) (r_1 : Rd 3 T_part_Step.E m A_1 a_1) {r : Bool} (e : slices_Equal_64 a_0 a_1 = some r) : Run Try.prog 64 #[Value.slice A_0 n_0 c_0, Value.slice A_1 n_1 c_1] h (slices_Equal_64.post W h m r) := by
  unfold slices_Equal_64 at e
  subst ne_0
  subst ne_1
  refine f64.run ?_
  unfold f64.runT
  refine split_ne_e e (fun c1 e => ?_) (fun c1 e => ?_)
  · cases e
    exact ⟨_, O.pick [], rfl⟩
  · exact slices_Equal_64.l0.walk (O.pick []).nm rfl k_0 r_0 rfl k_1 r_1 e
theorem slices_Equal_64.val (l m : List T_part_Step) (hl : l.length ≤ 4611686018427387904) : ∃ b, slices_Equal_64 l m = some b ∧ (b = true ↔ l = m) := equal_val (R := fun x y => (x.Who == y.Who && (x.Reads == y.Reads && (x.Writes == y.Writes && true))) = true) (fun a b n i => slices_Equal_64.l0_eq a b n i) (fun _ _ => rfl) (fun x y => by cases x; cases y; simp) l m hl

end Go.Proofs.Ytklobcelbpjjcaa.Fw
