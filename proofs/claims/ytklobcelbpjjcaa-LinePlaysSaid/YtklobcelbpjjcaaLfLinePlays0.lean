/- Data of the given program, and pure functions of its functions, with the walks. Printed by a program of this session. -/
import Derived.Test.YtklobcelbpjjcaaFwLinePlays
import Derived.Test.YtklobcelbpjjcaaHwOg
namespace Go.Proofs.Ytklobcelbpjjcaa.Fw
open Go Go.Hw Go.Proofs
set_option linter.unusedVariables false
set_option synthInstance.maxHeartbeats 400000
set_option synthInstance.maxSize 1000

structure T_line_End where
  window_ : Int
  base_ : Int
  kept_ : (List (List Int))
  told_ : Int
  limit_ : Int
  want_ : Int
  read_ : (List (List Int))
  owe_ : Bool
def T_line_End.E (h : Heap) (x : T_line_End) (cs : List Value) : Prop := ∃ A2 c2 A6 c6, cs = [.int .i64 x.window_, .int .u32 x.base_, .slice A2 x.kept_.length c2, .int .i64 x.told_, .int .i64 x.limit_, .int .u32 x.want_, .slice A6 x.read_.length c6, .bool x.owe_] ∧ x.kept_.length ≤ c2 ∧ Rd 1 (eRow 1 (eInt .u8)) h A2 x.kept_ ∧ x.read_.length ≤ c6 ∧ Rd 1 (eRow 1 (eInt .u8)) h A6 x.read_
theorem T_line_End.T : Tell 8 T_line_End.E := ⟨by rintro m h x _ s ⟨A2, c2, A6, c6, rfl, k2, r2, k6, r6⟩; exact ⟨_, _, _, _, rfl, k2, r2.sub (tell_row (tell_int .u8)) s, k6, r6.sub (tell_row (tell_int .u8)) s⟩, by rintro h x _ ⟨A2, c2, A6, c6, rfl, k2, r2, k6, r6⟩; rfl, by rintro h x _ ⟨A2, c2, A6, c6, rfl, k2, r2, k6, r6⟩; exact Flats.cons trivial (Flats.cons trivial (Flats.cons trivial (Flats.cons trivial (Flats.cons trivial (Flats.cons trivial (Flats.cons trivial (Flats.cons trivial Flats.nil)))))))⟩
def T_line_End.Q (x : T_line_End) : Prop := (-9223372036854775808 ≤ x.window_ ∧ x.window_ ≤ 9223372036854775807) ∧ (0 ≤ x.base_ ∧ x.base_ ≤ 4294967295) ∧ (x.kept_.length * 24 ≤ 140737488351232 ∧ ∀ a ∈ x.kept_, (a.length * 1 ≤ 140737488351232 ∧ ∀ a' ∈ a, (0 ≤ a' ∧ a' ≤ 255))) ∧ (-9223372036854775808 ≤ x.told_ ∧ x.told_ ≤ 9223372036854775807) ∧ (-9223372036854775808 ≤ x.limit_ ∧ x.limit_ ≤ 9223372036854775807) ∧ (0 ≤ x.want_ ∧ x.want_ ≤ 4294967295) ∧ (x.read_.length * 24 ≤ 140737488351232 ∧ ∀ a ∈ x.read_, (a.length * 1 ≤ 140737488351232 ∧ ∀ a' ∈ a, (0 ≤ a' ∧ a' ≤ 255))) ∧ True
theorem T_line_End.tells {H : Type} {enc : TypeId × Value → H} {W : World} : Tells enc Try.prog W 152 T_line_End.E T_line_End.Q := tells_map (tells_struct (t := 152) (fs := [(3, 0), (56, 1), (47, 2), (3, 3), (3, 4), (56, 5), (47, 6), (4, 7)]) (T := 8) (by kernel_rfl) (by kernel_rfl) (tf_cons (s := 1) (f := 3) (by kernel_rfl) (tells_i64 (t := 3) (by kernel_rfl)) (tf_cons (s := 1) (f := 56) (by kernel_rfl) (tells_u32 (t := 56) (by kernel_rfl)) (tf_cons (s := 1) (f := 47) (by kernel_rfl) (tells_sliceL (t := 47) (e := 53) (sz := 1) (B := 24) (by kernel_rfl) (by kernel_rfl) (by kernel_rfl) (tells_sliceL (t := 53) (e := 5) (sz := 1) (B := 1) (by kernel_rfl) (by kernel_rfl) (by kernel_rfl) (tells_u8 (t := 5) (by kernel_rfl)))) (tf_cons (s := 1) (f := 3) (by kernel_rfl) (tells_i64 (t := 3) (by kernel_rfl)) (tf_cons (s := 1) (f := 3) (by kernel_rfl) (tells_i64 (t := 3) (by kernel_rfl)) (tf_cons (s := 1) (f := 56) (by kernel_rfl) (tells_u32 (t := 56) (by kernel_rfl)) (tf_cons (s := 1) (f := 47) (by kernel_rfl) (tells_sliceL (t := 47) (e := 53) (sz := 1) (B := 24) (by kernel_rfl) (by kernel_rfl) (by kernel_rfl) (tells_sliceL (t := 53) (e := 5) (sz := 1) (B := 1) (by kernel_rfl) (by kernel_rfl) (by kernel_rfl) (tells_u8 (t := 5) (by kernel_rfl)))) (tf_cons (s := 1) (f := 4) (by kernel_rfl) (tells_bool (t := 4) (by kernel_rfl)) tf_nil))))))))) (by
  rintro ⟨x0, x1, x2, x3, x4, x5, x6, x7, ⟨⟩⟩ cs e q
  obtain ⟨c0, r0, rfl, e0, c1, r1, rfl, e1, c2, r2, rfl, e2, c3, r3, rfl, e3, c4, r4, rfl, e4, c5, r5, rfl, e5, c6, r6, rfl, e6, c7, r7, rfl, e7, eN⟩ := e
  obtain rfl : c0 = [.int .i64 x0] := e0
  obtain rfl : c1 = [.int .u32 x1] := e1
  obtain ⟨A2, k2, rfl, l2, R2⟩ := e2
  obtain rfl : c3 = [.int .i64 x3] := e3
  obtain rfl : c4 = [.int .i64 x4] := e4
  obtain rfl : c5 = [.int .u32 x5] := e5
  obtain ⟨A6, k6, rfl, l6, R6⟩ := e6
  obtain rfl : c7 = [.bool x7] := e7
  obtain rfl : r7 = [] := eN
  exact ⟨⟨x0, x1, x2, x3, x4, x5, x6, x7⟩, ⟨_, _, _, _, rfl, l2, R2, l6, R6⟩, q.1, q.2.1, q.2.2.1, q.2.2.2.1, q.2.2.2.2.1, q.2.2.2.2.2.1, q.2.2.2.2.2.2.1, q.2.2.2.2.2.2.2.1⟩)
structure T_line_Packet where
  Seq : Int
  Ack : Int
  Has : Bool
  Window : Int
  Body : (List Int)
def T_line_Packet.E (h : Heap) (x : T_line_Packet) (cs : List Value) : Prop := ∃ A4 c4, cs = [.int .u32 x.Seq, .int .u32 x.Ack, .bool x.Has, .int .i64 x.Window, .slice A4 x.Body.length c4] ∧ x.Body.length ≤ c4 ∧ Rd 1 (eInt .u8) h A4 x.Body
theorem T_line_Packet.T : Tell 5 T_line_Packet.E := ⟨by rintro m h x _ s ⟨A4, c4, rfl, k4, r4⟩; exact ⟨_, _, rfl, k4, r4.sub (tell_int .u8) s⟩, by rintro h x _ ⟨A4, c4, rfl, k4, r4⟩; rfl, by rintro h x _ ⟨A4, c4, rfl, k4, r4⟩; exact Flats.cons trivial (Flats.cons trivial (Flats.cons trivial (Flats.cons trivial (Flats.cons trivial Flats.nil))))⟩
def T_line_Packet.Q (x : T_line_Packet) : Prop := (0 ≤ x.Seq ∧ x.Seq ≤ 4294967295) ∧ (0 ≤ x.Ack ∧ x.Ack ≤ 4294967295) ∧ True ∧ (-9223372036854775808 ≤ x.Window ∧ x.Window ≤ 9223372036854775807) ∧ (x.Body.length * 1 ≤ 140737488351232 ∧ ∀ a ∈ x.Body, (0 ≤ a ∧ a ≤ 255))
theorem T_line_Packet.tells {H : Type} {enc : TypeId × Value → H} {W : World} : Tells enc Try.prog W 58 T_line_Packet.E T_line_Packet.Q := tells_map (tells_struct (t := 58) (fs := [(56, 0), (56, 1), (4, 2), (3, 3), (53, 4)]) (T := 5) (by kernel_rfl) (by kernel_rfl) (tf_cons (s := 1) (f := 56) (by kernel_rfl) (tells_u32 (t := 56) (by kernel_rfl)) (tf_cons (s := 1) (f := 56) (by kernel_rfl) (tells_u32 (t := 56) (by kernel_rfl)) (tf_cons (s := 1) (f := 4) (by kernel_rfl) (tells_bool (t := 4) (by kernel_rfl)) (tf_cons (s := 1) (f := 3) (by kernel_rfl) (tells_i64 (t := 3) (by kernel_rfl)) (tf_cons (s := 1) (f := 53) (by kernel_rfl) (tells_sliceL (t := 53) (e := 5) (sz := 1) (B := 1) (by kernel_rfl) (by kernel_rfl) (by kernel_rfl) (tells_u8 (t := 5) (by kernel_rfl))) tf_nil)))))) (by
  rintro ⟨x0, x1, x2, x3, x4, ⟨⟩⟩ cs e q
  obtain ⟨c0, r0, rfl, e0, c1, r1, rfl, e1, c2, r2, rfl, e2, c3, r3, rfl, e3, c4, r4, rfl, e4, eN⟩ := e
  obtain rfl : c0 = [.int .u32 x0] := e0
  obtain rfl : c1 = [.int .u32 x1] := e1
  obtain rfl : c2 = [.bool x2] := e2
  obtain rfl : c3 = [.int .i64 x3] := e3
  obtain ⟨A4, k4, rfl, l4, R4⟩ := e4
  obtain rfl : r4 = [] := eN
  exact ⟨⟨x0, x1, x2, x3, x4⟩, ⟨_, _, rfl, l4, R4⟩, q.1, q.2.1, q.2.2.1, q.2.2.2.1, q.2.2.2.2.1⟩)
structure T_roadref4_Packet where
  Seq : Int
  Ack : Int
  Has : Bool
  Window : Int
  Body : (List Int)
def T_roadref4_Packet.E (h : Heap) (x : T_roadref4_Packet) (cs : List Value) : Prop := ∃ A4 c4, cs = [.int .u32 x.Seq, .int .u32 x.Ack, .bool x.Has, .int .i64 x.Window, .slice A4 x.Body.length c4] ∧ x.Body.length ≤ c4 ∧ Rd 1 (eInt .u8) h A4 x.Body
theorem T_roadref4_Packet.T : Tell 5 T_roadref4_Packet.E := ⟨by rintro m h x _ s ⟨A4, c4, rfl, k4, r4⟩; exact ⟨_, _, rfl, k4, r4.sub (tell_int .u8) s⟩, by rintro h x _ ⟨A4, c4, rfl, k4, r4⟩; rfl, by rintro h x _ ⟨A4, c4, rfl, k4, r4⟩; exact Flats.cons trivial (Flats.cons trivial (Flats.cons trivial (Flats.cons trivial (Flats.cons trivial Flats.nil))))⟩
def T_roadref4_Packet.Q (x : T_roadref4_Packet) : Prop := (0 ≤ x.Seq ∧ x.Seq ≤ 4294967295) ∧ (0 ≤ x.Ack ∧ x.Ack ≤ 4294967295) ∧ True ∧ (-9223372036854775808 ≤ x.Window ∧ x.Window ≤ 9223372036854775807) ∧ (x.Body.length * 1 ≤ 140737488351232 ∧ ∀ a ∈ x.Body, (0 ≤ a ∧ a ≤ 255))
theorem T_roadref4_Packet.tells {H : Type} {enc : TypeId × Value → H} {W : World} : Tells enc Try.prog W 66 T_roadref4_Packet.E T_roadref4_Packet.Q := tells_map (tells_struct (t := 66) (fs := [(56, 0), (56, 1), (4, 2), (3, 3), (53, 4)]) (T := 5) (by kernel_rfl) (by kernel_rfl) (tf_cons (s := 1) (f := 56) (by kernel_rfl) (tells_u32 (t := 56) (by kernel_rfl)) (tf_cons (s := 1) (f := 56) (by kernel_rfl) (tells_u32 (t := 56) (by kernel_rfl)) (tf_cons (s := 1) (f := 4) (by kernel_rfl) (tells_bool (t := 4) (by kernel_rfl)) (tf_cons (s := 1) (f := 3) (by kernel_rfl) (tells_i64 (t := 3) (by kernel_rfl)) (tf_cons (s := 1) (f := 53) (by kernel_rfl) (tells_sliceL (t := 53) (e := 5) (sz := 1) (B := 1) (by kernel_rfl) (by kernel_rfl) (by kernel_rfl) (tells_u8 (t := 5) (by kernel_rfl))) tf_nil)))))) (by
  rintro ⟨x0, x1, x2, x3, x4, ⟨⟩⟩ cs e q
  obtain ⟨c0, r0, rfl, e0, c1, r1, rfl, e1, c2, r2, rfl, e2, c3, r3, rfl, e3, c4, r4, rfl, e4, eN⟩ := e
  obtain rfl : c0 = [.int .u32 x0] := e0
  obtain rfl : c1 = [.int .u32 x1] := e1
  obtain rfl : c2 = [.bool x2] := e2
  obtain rfl : c3 = [.int .i64 x3] := e3
  obtain ⟨A4, k4, rfl, l4, R4⟩ := e4
  obtain rfl : r4 = [] := eN
  exact ⟨⟨x0, x1, x2, x3, x4⟩, ⟨_, _, rfl, l4, R4⟩, q.1, q.2.1, q.2.2.1, q.2.2.2.1, q.2.2.2.2.1⟩)
structure T_roadref4_End where
  Window : Int
  Limit : Int
  Base : Int
  Told : Int
  All : (List (List Int))
  Took : Int
  Read : Int
  Got : (List (List Int))
  Owe : Bool
def T_roadref4_End.E (h : Heap) (x : T_roadref4_End) (cs : List Value) : Prop := ∃ A4 c4 A7 c7, cs = [.int .i64 x.Window, .int .i64 x.Limit, .int .i64 x.Base, .int .i64 x.Told, .slice A4 x.All.length c4, .int .i64 x.Took, .int .i64 x.Read, .slice A7 x.Got.length c7, .bool x.Owe] ∧ x.All.length ≤ c4 ∧ Rd 1 (eRow 1 (eInt .u8)) h A4 x.All ∧ x.Got.length ≤ c7 ∧ Rd 1 (eRow 1 (eInt .u8)) h A7 x.Got
theorem T_roadref4_End.T : Tell 9 T_roadref4_End.E := ⟨by rintro m h x _ s ⟨A4, c4, A7, c7, rfl, k4, r4, k7, r7⟩; exact ⟨_, _, _, _, rfl, k4, r4.sub (tell_row (tell_int .u8)) s, k7, r7.sub (tell_row (tell_int .u8)) s⟩, by rintro h x _ ⟨A4, c4, A7, c7, rfl, k4, r4, k7, r7⟩; rfl, by rintro h x _ ⟨A4, c4, A7, c7, rfl, k4, r4, k7, r7⟩; exact Flats.cons trivial (Flats.cons trivial (Flats.cons trivial (Flats.cons trivial (Flats.cons trivial (Flats.cons trivial (Flats.cons trivial (Flats.cons trivial (Flats.cons trivial Flats.nil))))))))⟩
def T_roadref4_End.Q (x : T_roadref4_End) : Prop := (-9223372036854775808 ≤ x.Window ∧ x.Window ≤ 9223372036854775807) ∧ (-9223372036854775808 ≤ x.Limit ∧ x.Limit ≤ 9223372036854775807) ∧ (-9223372036854775808 ≤ x.Base ∧ x.Base ≤ 9223372036854775807) ∧ (-9223372036854775808 ≤ x.Told ∧ x.Told ≤ 9223372036854775807) ∧ (x.All.length * 24 ≤ 140737488351232 ∧ ∀ a ∈ x.All, (a.length * 1 ≤ 140737488351232 ∧ ∀ a' ∈ a, (0 ≤ a' ∧ a' ≤ 255))) ∧ (-9223372036854775808 ≤ x.Took ∧ x.Took ≤ 9223372036854775807) ∧ (-9223372036854775808 ≤ x.Read ∧ x.Read ≤ 9223372036854775807) ∧ (x.Got.length * 24 ≤ 140737488351232 ∧ ∀ a ∈ x.Got, (a.length * 1 ≤ 140737488351232 ∧ ∀ a' ∈ a, (0 ≤ a' ∧ a' ≤ 255))) ∧ True
theorem T_roadref4_End.tells {H : Type} {enc : TypeId × Value → H} {W : World} : Tells enc Try.prog W 61 T_roadref4_End.E T_roadref4_End.Q := tells_map (tells_struct (t := 61) (fs := [(3, 0), (3, 1), (3, 2), (3, 3), (47, 4), (3, 5), (3, 6), (47, 7), (4, 8)]) (T := 9) (by kernel_rfl) (by kernel_rfl) (tf_cons (s := 1) (f := 3) (by kernel_rfl) (tells_i64 (t := 3) (by kernel_rfl)) (tf_cons (s := 1) (f := 3) (by kernel_rfl) (tells_i64 (t := 3) (by kernel_rfl)) (tf_cons (s := 1) (f := 3) (by kernel_rfl) (tells_i64 (t := 3) (by kernel_rfl)) (tf_cons (s := 1) (f := 3) (by kernel_rfl) (tells_i64 (t := 3) (by kernel_rfl)) (tf_cons (s := 1) (f := 47) (by kernel_rfl) (tells_sliceL (t := 47) (e := 53) (sz := 1) (B := 24) (by kernel_rfl) (by kernel_rfl) (by kernel_rfl) (tells_sliceL (t := 53) (e := 5) (sz := 1) (B := 1) (by kernel_rfl) (by kernel_rfl) (by kernel_rfl) (tells_u8 (t := 5) (by kernel_rfl)))) (tf_cons (s := 1) (f := 3) (by kernel_rfl) (tells_i64 (t := 3) (by kernel_rfl)) (tf_cons (s := 1) (f := 3) (by kernel_rfl) (tells_i64 (t := 3) (by kernel_rfl)) (tf_cons (s := 1) (f := 47) (by kernel_rfl) (tells_sliceL (t := 47) (e := 53) (sz := 1) (B := 24) (by kernel_rfl) (by kernel_rfl) (by kernel_rfl) (tells_sliceL (t := 53) (e := 5) (sz := 1) (B := 1) (by kernel_rfl) (by kernel_rfl) (by kernel_rfl) (tells_u8 (t := 5) (by kernel_rfl)))) (tf_cons (s := 1) (f := 4) (by kernel_rfl) (tells_bool (t := 4) (by kernel_rfl)) tf_nil)))))))))) (by
  rintro ⟨x0, x1, x2, x3, x4, x5, x6, x7, x8, ⟨⟩⟩ cs e q
  obtain ⟨c0, r0, rfl, e0, c1, r1, rfl, e1, c2, r2, rfl, e2, c3, r3, rfl, e3, c4, r4, rfl, e4, c5, r5, rfl, e5, c6, r6, rfl, e6, c7, r7, rfl, e7, c8, r8, rfl, e8, eN⟩ := e
  obtain rfl : c0 = [.int .i64 x0] := e0
  obtain rfl : c1 = [.int .i64 x1] := e1
  obtain rfl : c2 = [.int .i64 x2] := e2
  obtain rfl : c3 = [.int .i64 x3] := e3
  obtain ⟨A4, k4, rfl, l4, R4⟩ := e4
  obtain rfl : c5 = [.int .i64 x5] := e5
  obtain rfl : c6 = [.int .i64 x6] := e6
  obtain ⟨A7, k7, rfl, l7, R7⟩ := e7
  obtain rfl : c8 = [.bool x8] := e8
  obtain rfl : r8 = [] := eN
  exact ⟨⟨x0, x1, x2, x3, x4, x5, x6, x7, x8⟩, ⟨_, _, _, _, rfl, l4, R4, l7, R7⟩, q.1, q.2.1, q.2.2.1, q.2.2.2.1, q.2.2.2.2.1, q.2.2.2.2.2.1, q.2.2.2.2.2.2.1, q.2.2.2.2.2.2.2.1, q.2.2.2.2.2.2.2.2.1⟩)
theorem T_line_Packet.s0 {m : Heap} {x : T_line_Packet} {cs : List Value} (e : T_line_Packet.E m x cs) (v : Int) : T_line_Packet.E m { x with Seq := v } (cs.set 0 (Value.int .u32 v)) := by
  obtain ⟨A4, c4, rfl, k4, r4⟩ := e
  exact ⟨_, _, rfl, k4, r4⟩
theorem T_line_Packet.s2 {m : Heap} {x : T_line_Packet} {cs : List Value} (e : T_line_Packet.E m x cs) (v : Bool) : T_line_Packet.E m { x with Has := v } (cs.set 2 (Value.bool v)) := by
  obtain ⟨A4, c4, rfl, k4, r4⟩ := e
  exact ⟨_, _, rfl, k4, r4⟩
theorem T_roadref4_Packet.g1 {m : Heap} {x : T_roadref4_Packet} {cs : List Value} (e : T_roadref4_Packet.E m x cs) : cs[1]? = some (Value.int .u32 x.Ack) := by
  obtain ⟨A4, c4, rfl, k4, r4⟩ := e
  exact rfl
theorem T_roadref4_Packet.g3 {m : Heap} {x : T_roadref4_Packet} {cs : List Value} (e : T_roadref4_Packet.E m x cs) : cs[3]? = some (Value.int .i64 x.Window) := by
  obtain ⟨A4, c4, rfl, k4, r4⟩ := e
  exact rfl
theorem T_roadref4_Packet.s0 {m : Heap} {x : T_roadref4_Packet} {cs : List Value} (e : T_roadref4_Packet.E m x cs) (v : Int) : T_roadref4_Packet.E m { x with Seq := v } (cs.set 0 (Value.int .u32 v)) := by
  obtain ⟨A4, c4, rfl, k4, r4⟩ := e
  exact ⟨_, _, rfl, k4, r4⟩
theorem T_line_Packet.g0 {m : Heap} {x : T_line_Packet} {cs : List Value} (e : T_line_Packet.E m x cs) : cs[0]? = some (Value.int .u32 x.Seq) := by
  obtain ⟨A4, c4, rfl, k4, r4⟩ := e
  exact rfl
theorem T_roadref4_Packet.g0 {m : Heap} {x : T_roadref4_Packet} {cs : List Value} (e : T_roadref4_Packet.E m x cs) : cs[0]? = some (Value.int .u32 x.Seq) := by
  obtain ⟨A4, c4, rfl, k4, r4⟩ := e
  exact rfl
theorem T_line_Packet.g1 {m : Heap} {x : T_line_Packet} {cs : List Value} (e : T_line_Packet.E m x cs) : cs[1]? = some (Value.int .u32 x.Ack) := by
  obtain ⟨A4, c4, rfl, k4, r4⟩ := e
  exact rfl
theorem T_line_Packet.g2 {m : Heap} {x : T_line_Packet} {cs : List Value} (e : T_line_Packet.E m x cs) : cs[2]? = some (Value.bool x.Has) := by
  obtain ⟨A4, c4, rfl, k4, r4⟩ := e
  exact rfl
theorem T_roadref4_Packet.g2 {m : Heap} {x : T_roadref4_Packet} {cs : List Value} (e : T_roadref4_Packet.E m x cs) : cs[2]? = some (Value.bool x.Has) := by
  obtain ⟨A4, c4, rfl, k4, r4⟩ := e
  exact rfl
theorem T_line_Packet.g3 {m : Heap} {x : T_line_Packet} {cs : List Value} (e : T_line_Packet.E m x cs) : cs[3]? = some (Value.int .i64 x.Window) := by
  obtain ⟨A4, c4, rfl, k4, r4⟩ := e
  exact rfl
theorem T_line_Packet.g4 {m : Heap} {x : T_line_Packet} {cs : List Value} (e : T_line_Packet.E m x cs) : ∃ A c, cs[4]? = some (.slice A (List.length x.Body) c) ∧ List.length x.Body ≤ c ∧ Rd 1 (eInt .u8) m A x.Body := by
  obtain ⟨A4, c4, rfl, k4, r4⟩ := e
  exact ⟨_, _, rfl, k4, r4⟩
theorem T_roadref4_Packet.g4 {m : Heap} {x : T_roadref4_Packet} {cs : List Value} (e : T_roadref4_Packet.E m x cs) : ∃ A c, cs[4]? = some (.slice A (List.length x.Body) c) ∧ List.length x.Body ≤ c ∧ Rd 1 (eInt .u8) m A x.Body := by
  obtain ⟨A4, c4, rfl, k4, r4⟩ := e
  exact ⟨_, _, rfl, k4, r4⟩
theorem T_line_End.g2 {m : Heap} {x : T_line_End} {cs : List Value} (e : T_line_End.E m x cs) : ∃ A c, cs[2]? = some (.slice A (List.length x.kept_) c) ∧ List.length x.kept_ ≤ c ∧ Rd 1 (eRow 1 (eInt .u8)) m A x.kept_ := by
  obtain ⟨A2, c2, A6, c6, rfl, k2, r2, k6, r6⟩ := e
  exact ⟨_, _, rfl, k2, r2⟩
theorem T_roadref4_End.g4 {m : Heap} {x : T_roadref4_End} {cs : List Value} (e : T_roadref4_End.E m x cs) : ∃ A c, cs[4]? = some (.slice A (List.length x.All) c) ∧ List.length x.All ≤ c ∧ Rd 1 (eRow 1 (eInt .u8)) m A x.All := by
  obtain ⟨A4, c4, A7, c7, rfl, k4, r4, k7, r7⟩ := e
  exact ⟨_, _, rfl, k4, r4⟩
theorem T_roadref4_End.g2 {m : Heap} {x : T_roadref4_End} {cs : List Value} (e : T_roadref4_End.E m x cs) : cs[2]? = some (Value.int .i64 x.Base) := by
  obtain ⟨A4, c4, A7, c7, rfl, k4, r4, k7, r7⟩ := e
  exact rfl
theorem T_roadref4_Packet.s1 {m : Heap} {x : T_roadref4_Packet} {cs : List Value} (e : T_roadref4_Packet.E m x cs) (v : Int) : T_roadref4_Packet.E m { x with Ack := v } (cs.set 1 (Value.int .u32 v)) := by
  obtain ⟨A4, c4, rfl, k4, r4⟩ := e
  exact ⟨_, _, rfl, k4, r4⟩
theorem T_roadref4_End.s1 {m : Heap} {x : T_roadref4_End} {cs : List Value} (e : T_roadref4_End.E m x cs) (v : Int) : T_roadref4_End.E m { x with Limit := v } (cs.set 1 (Value.int .i64 v)) := by
  obtain ⟨A4, c4, A7, c7, rfl, k4, r4, k7, r7⟩ := e
  exact ⟨_, _, _, _, rfl, k4, r4, k7, r7⟩

/-! ### 23 roadstead/line.New -/
def line_New.post (W : Nat → Prop) (h0 m0 : Heap) (r : (Option T_line_End) × Int) (v : Value) (h : Heap) : Prop := ∃ m p0, Sub m0 m ∧ Sub m h ∧ v = .tuple #[.pointer p0, .int .i64 r.2] ∧ ((r.1 = none ∧ p0 = none ∧ Hold W h0 m0 h m []) ∨ ∃ z b Anp_2 nnp_2 cnp_2 Anp_6 nnp_6 cnp_6, r.1 = some z ∧ p0 = some ⟨b, 0, none⟩ ∧ Hold W h0 m0 h m [rV b 152 [(Value.int .i64 z.window_), (Value.int .u32 z.base_), (Value.slice Anp_2 nnp_2 cnp_2), (Value.int .i64 z.told_), (Value.int .i64 z.limit_), (Value.int .u32 z.want_), (Value.slice Anp_6 nnp_6 cnp_6), (Value.bool z.owe_)], rR (aE (tell_row (tell_int .u8))) Anp_2 cnp_2 z.kept_, rR (aE (tell_row (tell_int .u8))) Anp_6 cnp_6 z.read_] ∧ nnp_2 = List.length z.kept_ ∧ nnp_6 = List.length z.read_)
noncomputable def line_New.j0 (x_0 : Int) : Option ((Option T_line_End) × Int) :=
  some (some (T_line_End.mk x_0 (0 : Int) ([] : List (List Int)) (0 : Int) x_0 (0 : Int) ([] : List (List Int)) false), (0 : Int))
set_option maxRecDepth 100000 in
theorem line_New.j0.walk {W : Nat → Prop} {h0 m0 h m : Heap} {x_0 : Int} (O : Hold W h0 m0 h m []) {r : (Option T_line_End) × Int} (e : line_New.j0 x_0 = some r) : f23.j0 (line_New.post W h0 m0 r) x_0 h := by
  unfold line_New.j0 at e
  refine f23.j0_in ?_
  unfold f23.j0T
  refine O.new fun h1 x2 O3 => ?_
  have O5 := O3.nil (aE (tell_row (tell_int .u8))) none
  have O7 := O5.nil (aE (tell_row (tell_int .u8))) none
  have O9 := O7.nm
  cases e
  exact ⟨_, _, O9.up, O9.s, rfl, .inr ⟨_, _, _, _, _, _, _, _, rfl, rfl, O9.pick [0, 1, 2], rfl, rfl⟩⟩

noncomputable def line_New.j1 (x_0 : Int) (b_9 : Bool) : Option ((Option T_line_End) × Int) :=
  if b_9 = true then (some ((none : Option T_line_End), (1 : Int))) else ((line_New.j0 x_0))
set_option maxRecDepth 100000 in
theorem line_New.j1.walk {W : Nat → Prop} {h0 m0 h m : Heap} {x_0 : Int} {b_9 : Bool} (O : Hold W h0 m0 h m []) {r : (Option T_line_End) × Int} (e : line_New.j1 x_0 b_9 = some r) : f23.j1 (line_New.post W h0 m0 r) x_0 b_9 h := by
  unfold line_New.j1 at e
  refine f23.j1_in ?_
  unfold f23.j1T
  refine split_any_e e (fun c1 e => ?_) (fun c1 e => ?_)
  · cases e
    exact ⟨_, _, O.up, O.s, rfl, .inl ⟨rfl, rfl, O.pick []⟩⟩
  · exact line_New.j0.walk (O.pick []).nm  e

noncomputable def line_New (x_0 : Int) : Option ((Option T_line_End) × Int) :=
  if x_0 < (1 : Int) then ((line_New.j1 x_0 true)) else ((line_New.j1 x_0 (decide (x_0 > (16 : Int)))))
set_option maxRecDepth 100000 in
theorem line_New.walk {W : Nat → Prop} {h m : Heap} {x_0 : Int} (O : Hold W h m h m []) {r : (Option T_line_End) × Int} (e : line_New x_0 = some r) : Run Try.prog 23 #[Value.int .i64 x_0] h (line_New.post W h m r) := by
  unfold line_New at e
  refine f23.run ?_
  unfold f23.runT
  refine split_dec_e e (fun c1 e => ?_) (fun c1 e => ?_)
  · exact line_New.j1.walk (O.pick []).nm  e
  · exact line_New.j1.walk (O.pick []).nm  e

/-! ### 82 slices.Clone[[]byte,byte] -/
def slices_Clone_82.post (W : Nat → Prop) (h0 m0 : Heap) (r : (List Int)) (v : Value) (h : Heap) : Prop := ∃ m A0 n0 c0, Hold W h0 m0 h m [rR (aE (tell_int .u8)) A0 c0 r] ∧ v = .slice A0 n0 c0 ∧ n0 = List.length r
noncomputable def slices_Clone_82 (a0 : List Int) : Option (List Int) := ap 1 ([] : List Int) a0
set_option maxRecDepth 100000 in
theorem slices_Clone_82.walk {W : Nat → Prop} {h m : Heap} {A0 : Option Addr} {n0 c0 : Nat} {a0 : List Int} (O : Hold W h m h m []) (ne0 : n0 = List.length a0) (k0 : List.length a0 ≤ c0) (r0 : Rd 1 (eInt .u8) m A0 a0) {r : List Int} (e : slices_Clone_82 a0 = some r) : Run Try.prog 82 #[Value.slice A0 n0 c0] h (slices_Clone_82.post W h m r) := by
  unfold slices_Clone_82 at e
  subst ne0
  refine f82.run ?_
  unfold f82.runT
  cases A0 with
  | none =>
    refine split_t ?_
    obtain rfl := Rd.void r0
    obtain rfl : [] = r := by have := (ap_e e).2; simpa using this
    exact ⟨m, none, 0, 0, O.nil (aE (tell_int .u8)) none, rfl, rfl⟩
  | some a =>
    refine split_f ?_
    refine O.new fun h1 x1 O1 => ?_
    refine O1.appE0 (tell_int .u8) rfl rfl (r0.srcE (tell_int .u8) O1.s rfl) (by decide) e fun A4 c4 h4 x4 O4 => ?_
    refine ⟨_, _, _, rfl, ?_⟩
    exact ⟨m, _, _, _, O4.pick [1], rfl, rfl⟩
theorem slices_Clone_82.val (l : List Int) (h : l.length * 1 ≤ 140737488355328) : slices_Clone_82 l = some l := ap_nil h

/-! ### 24 (*roadstead/line.End).Put -/
def line_End_Put.post (W : Nat → Prop) (bkio0 : Nat) (h0 m0 : Heap) (r : Int × T_line_End) (v : Value) (h : Heap) : Prop := ∃ m Aio0_2 nio0_2 cio0_2 Aio0_6 nio0_6 cio0_6, Hold W h0 m0 h m [rV bkio0 152 [(Value.int .i64 r.2.window_), (Value.int .u32 r.2.base_), (Value.slice Aio0_2 nio0_2 cio0_2), (Value.int .i64 r.2.told_), (Value.int .i64 r.2.limit_), (Value.int .u32 r.2.want_), (Value.slice Aio0_6 nio0_6 cio0_6), (Value.bool r.2.owe_)], rR (aE (tell_row (tell_int .u8))) Aio0_2 cio0_2 r.2.kept_, rR (aE (tell_row (tell_int .u8))) Aio0_6 cio0_6 r.2.read_] ∧ v = .int .i64 r.1 ∧ nio0_2 = List.length r.2.kept_ ∧ nio0_6 = List.length r.2.read_
noncomputable def line_End_Put (y_0 : T_line_End) (a_1 : List Int) : Option (Int × T_line_End) :=
  if (((List.length a_1) : Nat) : Int) > (1048576 : Int) then (some ((2 : Int), y_0)) else (if (((List.length y_0.kept_) : Nat) : Int) = y_0.window_ then (some ((9 : Int), y_0)) else (Option.bind (slices_Clone_82 a_1) fun y1 => Option.bind (ap 24 y_0.kept_ ([y1] : List (List Int))) fun l17 => some ((0 : Int), (T_line_End.mk y_0.window_ y_0.base_ l17 y_0.told_ y_0.limit_ y_0.want_ y_0.read_ y_0.owe_))))
set_option maxRecDepth 100000 in
theorem line_End_Put.walk {W : Nat → Prop} {h m : Heap} {bkio0 : Nat} {A_0_2 : Option Addr} {n_0_2 : Nat} {c_0_2 : Nat} {A_0_6 : Option Addr} {n_0_6 : Nat} {c_0_6 : Nat} {A_1 : Option Addr} {n_1 c_1 : Nat} {y_0 : T_line_End} {a_1 : List Int} (O : Hold W h m h m [rV bkio0 152 [(Value.int .i64 y_0.window_), (Value.int .u32 y_0.base_), (Value.slice A_0_2 n_0_2 c_0_2), (Value.int .i64 y_0.told_), (Value.int .i64 y_0.limit_), (Value.int .u32 y_0.want_), (Value.slice A_0_6 n_0_6 c_0_6), (Value.bool y_0.owe_)], rR (aE (tell_row (tell_int .u8))) A_0_2 c_0_2 y_0.kept_, rR (aE (tell_row (tell_int .u8))) A_0_6 c_0_6 y_0.read_]) (ne_0_2 : n_0_2 = List.length y_0.kept_) (ne_0_6 : n_0_6 = List.length y_0.read_) (ne_1 : n_1 = List.length a_1) (k_1 : List.length a_1 ≤ c_1) (r_1 : Rd 1 (eInt .u8) m A_1 a_1) {r : Int × T_line_End} (e : line_End_Put y_0 a_1 = some r) : Run Try.prog 24 #[Value.pointer (some ⟨bkio0, 0, none⟩), Value.slice A_1 n_1 c_1] h (line_End_Put.post W bkio0 h m r) := by
  unfold line_End_Put at e
  subst ne_0_2
  subst ne_0_6
  subst ne_1
  refine f24.run ?_
  unfold f24.runT
  refine split_dec_e e (fun c35 e => ?_) (fun c35 e => ?_)
  · cases e
    exact ⟨_, _, _, _, _, _, _, O.pick [0, 1, 2], rfl, rfl, rfl⟩
  · refine ⟨_, ldk (k := 2) (Sub.refl _) (O.all 0 rfl) rfl, _, _, _, rfl, ?_⟩
    refine ⟨_, ld0 (Sub.refl _) (O.all 0 rfl) rfl, _, rfl, ?_⟩
    refine split_eq_e e (fun c34 e => ?_) (fun c34 e => ?_)
    · cases e
      exact ⟨_, _, _, _, _, _, _, O.pick [0, 1, 2], rfl, rfl, rfl⟩
    · refine ⟨_, ldk (k := 2) (Sub.refl _) (O.all 0 rfl) rfl, _, _, _, rfl, ?_⟩
      obtain ⟨y1, g2, e⟩ := bind_e e
      refine (slices_Clone_82.walk (Hold.start (W := No) O.s) rfl k_1 r_1 g2).mono ?_
      rintro _ h3 ⟨m4, A7, n8, c9, Q5, rfl, ne10⟩
      have O12 := Hold.nm (O.retC Q5 (vfs_cons (rR_vf (aE_vf (fun _ _ _ _ h => h))) vfs_nil))
      subst ne10
      refine ⟨_, _, _, rfl, ?_⟩
      refine ⟨Q5.S.ext, ?_⟩
      refine O12.new fun h13 x14 O15 => ?_
      refine ⟨x14, ?_⟩
      obtain ⟨l17, g18, e⟩ := bind_e e
      obtain ⟨m25, u26, ⟨r27, k28⟩, O29⟩ := O15.frz 3 rfl
      replace r27 : Rd 1 (eInt .u8) m25 A7 y1 := r27
      have O30 := O29.rowE (l := ([y1] : List (List Int))) 4 rfl (tell_row (tell_int .u8)) (show CsE _ _ _ _ _ from (CsE.cons (c1 := [(Value.slice A7 (List.length y1) c9)]) ⟨_, _, rfl, k28, r27⟩ rfl CsE.nil)) rfl
      refine O30.app 1 rfl rfl rfl ((O30.os 4 rfl).srcE rfl) (by decide) g18 fun A19 c20 h21 O22 => ?_
      refine ⟨_, _, _, rfl, ?_⟩
      refine O22.st 0 rfl 2 (Nat.le_of_ble_eq_true rfl) trivial fun h31 O32 => ?_
      have O33 := O32.nm
      cases e
      exact ⟨_, _, _, _, _, _, _, O33.pick [0, 1, 2], rfl, rfl, rfl⟩

/-! ### 25 (*roadstead/line.End).Out -/
def line_End_Out.post (W : Nat → Prop) (bkio0 : Nat) (h0 m0 : Heap) (r : (List T_line_Packet) × T_line_End) (v : Value) (h : Heap) : Prop := ∃ m A0 n0 c0 Aio0_2 nio0_2 cio0_2 Aio0_6 nio0_6 cio0_6, Hold W h0 m0 h m [rR (aE T_line_Packet.T) A0 c0 r.1, rV bkio0 152 [(Value.int .i64 r.2.window_), (Value.int .u32 r.2.base_), (Value.slice Aio0_2 nio0_2 cio0_2), (Value.int .i64 r.2.told_), (Value.int .i64 r.2.limit_), (Value.int .u32 r.2.want_), (Value.slice Aio0_6 nio0_6 cio0_6), (Value.bool r.2.owe_)], rR (aE (tell_row (tell_int .u8))) Aio0_2 cio0_2 r.2.kept_, rR (aE (tell_row (tell_int .u8))) Aio0_6 cio0_6 r.2.read_] ∧ v = .slice A0 n0 c0 ∧ n0 = List.length r.1 ∧ nio0_2 = List.length r.2.kept_ ∧ nio0_6 = List.length r.2.read_
noncomputable def line_End_Out.j0 (x_io0_0 : Int) (x_io0_1 : Int) (a_io0_2 : (List (List Int))) (x_io0_3 : Int) (x_io0_4 : Int) (x_io0_5 : Int) (a_io0_6 : (List (List Int))) (b_io0_7 : Bool) (a_4 : List T_line_Packet) : Option ((List T_line_Packet) × T_line_End) :=
  some (a_4, (T_line_End.mk x_io0_0 x_io0_1 a_io0_2 x_io0_3 x_io0_4 x_io0_5 a_io0_6 false))
set_option maxRecDepth 100000 in
theorem line_End_Out.j0.walk {W : Nat → Prop} {h0 m0 h m : Heap} {bk_io0 : Nat} {A_io0_2_0 : Option Addr} {n_io0_2_0 : Nat} {c_io0_2_0 : Nat} {A_io0_6_0 : Option Addr} {n_io0_6_0 : Nat} {c_io0_6_0 : Nat} {A_4 : Option Addr} {n_4 c_4 : Nat} {x_io0_0 : Int} {x_io0_1 : Int} {a_io0_2 : (List (List Int))} {x_io0_3 : Int} {x_io0_4 : Int} {x_io0_5 : Int} {a_io0_6 : (List (List Int))} {b_io0_7 : Bool} {a_4 : List T_line_Packet} (O : Hold W h0 m0 h m [rV bk_io0 152 [(Value.int .i64 x_io0_0), (Value.int .u32 x_io0_1), (Value.slice A_io0_2_0 n_io0_2_0 c_io0_2_0), (Value.int .i64 x_io0_3), (Value.int .i64 x_io0_4), (Value.int .u32 x_io0_5), (Value.slice A_io0_6_0 n_io0_6_0 c_io0_6_0), (Value.bool b_io0_7)], rR (aE (tell_row (tell_int .u8))) A_io0_2_0 c_io0_2_0 a_io0_2, rR (aE (tell_row (tell_int .u8))) A_io0_6_0 c_io0_6_0 a_io0_6, rR (aE T_line_Packet.T) A_4 c_4 a_4]) (ne_io0_2_0 : n_io0_2_0 = List.length a_io0_2) (ne_io0_6_0 : n_io0_6_0 = List.length a_io0_6) (ne_4 : n_4 = List.length a_4) {r : (List T_line_Packet) × T_line_End} (e : line_End_Out.j0 x_io0_0 x_io0_1 a_io0_2 x_io0_3 x_io0_4 x_io0_5 a_io0_6 b_io0_7 a_4 = some r) : f25.j0 (line_End_Out.post W bk_io0 h0 m0 r) (⟨bk_io0, 0, none⟩ : Addr) A_4 n_4 c_4 h := by
  unfold line_End_Out.j0 at e
  subst ne_io0_2_0
  subst ne_io0_6_0
  subst ne_4
  refine f25.j0_in ?_
  unfold f25.j0T
  refine O.st 0 rfl 7 (Nat.le_of_ble_eq_true rfl) trivial fun h1 O2 => ?_
  have O3 := O2.nm
  cases e
  exact ⟨_, _, _, _, _, _, _, _, _, _, O3.pick [3, 0, 1, 2], rfl, rfl, rfl, rfl⟩

noncomputable def line_End_Out.j1 (x_io0_0 : Int) (x_io0_1 : Int) (a_io0_2 : (List (List Int))) (x_io0_3 : Int) (x_io0_4 : Int) (x_io0_5 : Int) (a_io0_6 : (List (List Int))) (b_io0_7 : Bool) (y_3 : T_line_Packet) (a_4 : List T_line_Packet) (b_78 : Bool) : Option ((List T_line_Packet) × T_line_End) :=
  if b_78 = true then (Option.bind (ap 48 a_4 ([({ y_3 with Seq := (IntKind.wrap .u32 (x_io0_1 + (IntKind.wrap .u32 (((List.length a_io0_2) : Nat) : Int)))) })] : List T_line_Packet)) fun l10 => (line_End_Out.j0 x_io0_0 x_io0_1 a_io0_2 x_io0_3 x_io0_4 x_io0_5 a_io0_6 b_io0_7 l10)) else ((line_End_Out.j0 x_io0_0 x_io0_1 a_io0_2 x_io0_3 x_io0_4 x_io0_5 a_io0_6 b_io0_7 a_4))
set_option maxRecDepth 100000 in
theorem line_End_Out.j1.walk {W : Nat → Prop} {h0 m0 h m : Heap} {bk_io0 : Nat} {A_io0_2_0 : Option Addr} {n_io0_2_0 : Nat} {c_io0_2_0 : Nat} {A_io0_6_0 : Option Addr} {n_io0_6_0 : Nat} {c_io0_6_0 : Nat} {bk_3 : Nat} {cs_3 : List Value} {A_4 : Option Addr} {n_4 c_4 : Nat} {x_io0_0 : Int} {x_io0_1 : Int} {a_io0_2 : (List (List Int))} {x_io0_3 : Int} {x_io0_4 : Int} {x_io0_5 : Int} {a_io0_6 : (List (List Int))} {b_io0_7 : Bool} {y_3 : T_line_Packet} {a_4 : List T_line_Packet} {b_78 : Bool} (O : Hold W h0 m0 h m [rV bk_io0 152 [(Value.int .i64 x_io0_0), (Value.int .u32 x_io0_1), (Value.slice A_io0_2_0 n_io0_2_0 c_io0_2_0), (Value.int .i64 x_io0_3), (Value.int .i64 x_io0_4), (Value.int .u32 x_io0_5), (Value.slice A_io0_6_0 n_io0_6_0 c_io0_6_0), (Value.bool b_io0_7)], rR (aE (tell_row (tell_int .u8))) A_io0_2_0 c_io0_2_0 a_io0_2, rR (aE (tell_row (tell_int .u8))) A_io0_6_0 c_io0_6_0 a_io0_6, rV bk_3 58 cs_3, rR (aE T_line_Packet.T) A_4 c_4 a_4]) (ne_io0_2_0 : n_io0_2_0 = List.length a_io0_2) (ne_io0_6_0 : n_io0_6_0 = List.length a_io0_6) (e_3 : T_line_Packet.E m y_3 cs_3) (ne_4 : n_4 = List.length a_4) {r : (List T_line_Packet) × T_line_End} (e : line_End_Out.j1 x_io0_0 x_io0_1 a_io0_2 x_io0_3 x_io0_4 x_io0_5 a_io0_6 b_io0_7 y_3 a_4 b_78 = some r) : f25.j1 (line_End_Out.post W bk_io0 h0 m0 r) (⟨bk_io0, 0, none⟩ : Addr) (⟨bk_3, 0, none⟩ : Addr) A_4 n_4 c_4 b_78 h := by
  unfold line_End_Out.j1 at e
  subst ne_io0_2_0
  subst ne_io0_6_0
  subst ne_4
  refine f25.j1_in ?_
  unfold f25.j1T
  refine split_any_e e (fun c20 e => ?_) (fun c20 e => ?_)
  · refine ⟨_, ldk (k := 1) (Sub.refl _) (O.all 0 rfl) rfl, _, rfl, ?_⟩
    refine ⟨_, ldk (k := 2) (Sub.refl _) (O.all 0 rfl) rfl, _, _, _, rfl, ?_⟩
    refine O.stE0 3 rfl (lt_len (T_line_Packet.T.len _ _ _ e_3) (by decide)) trivial (T_line_Packet.s0 e_3 (IntKind.wrap .u32 (x_io0_1 + (IntKind.wrap .u32 (((List.length a_io0_2) : Nat) : Int))))) fun h1 cs3 e4 O2 => ?_
    refine ⟨_, ldAn (Sub.refl _) (O2.all 3 rfl) (T_line_Packet.T.len _ _ _ e4), ?_⟩
    refine ⟨cs3, rfl, (T_line_Packet.T.len _ _ _ e4), ?_⟩
    refine O2.new fun h5 x6 O7 => ?_
    have O9 := O7.recell 5 rfl (cs' := cs3 ++ []) rfl
    obtain ⟨l10, g11, e⟩ := bind_e e
    have O18 := O9.rowE (l := ([({ y_3 with Seq := (IntKind.wrap .u32 (x_io0_1 + (IntKind.wrap .u32 (((List.length a_io0_2) : Nat) : Int)))) })] : List T_line_Packet)) 5 rfl T_line_Packet.T (show CsE _ _ _ _ _ from (CsE.cons e4 (T_line_Packet.T.len _ _ _ e4) CsE.nil)) rfl
    refine O18.app 4 rfl rfl rfl ((O18.os 5 rfl).srcE rfl) (by decide) g11 fun A12 c13 h14 O15 => ?_
    refine ⟨_, _, _, rfl, ?_⟩
    have O19 := O15.nm
    exact line_End_Out.j0.walk (O19.pick [0, 1, 2, 4]).nm rfl rfl rfl e
  · exact line_End_Out.j0.walk (O.pick [0, 1, 2, 4]).nm rfl rfl rfl e

inductive line_End_Out.l0_k.Pt where
  | l0 (x_io0_0 : Int) (x_io0_1 : Int) (a_io0_2 : (List (List Int))) (x_io0_3 : Int) (x_io0_4 : Int) (x_io0_5 : Int) (a_io0_6 : (List (List Int))) (b_io0_7 : Bool) (y_3 : T_line_Packet) (a_4 : List T_line_Packet)
noncomputable def line_End_Out.l0_k.body (go : (p : line_End_Out.l0_k.Pt) → Option ((List T_line_Packet) × T_line_End)) : (p : line_End_Out.l0_k.Pt) → Option ((List T_line_Packet) × T_line_End)
  | .l0 x_io0_0 x_io0_1 a_io0_2 x_io0_3 x_io0_4 x_io0_5 a_io0_6 b_io0_7 y_3 a_4 => if x_io0_3 < (if x_io0_4 < (((List.length a_io0_2) : Nat) : Int) then x_io0_4 else (((List.length a_io0_2) : Nat) : Int)) then (Option.bind (gi a_io0_2 x_io0_3) fun y1 => Option.bind (slices_Clone_82 y1) fun y8 => Option.bind (ap 48 a_4 ([(T_line_Packet.mk (({ ({ y_3 with Seq := (IntKind.wrap .u32 (x_io0_1 + (IntKind.wrap .u32 x_io0_3))) }) with Has := true }).Seq) (({ ({ y_3 with Seq := (IntKind.wrap .u32 (x_io0_1 + (IntKind.wrap .u32 x_io0_3))) }) with Has := true }).Ack) (({ ({ y_3 with Seq := (IntKind.wrap .u32 (x_io0_1 + (IntKind.wrap .u32 x_io0_3))) }) with Has := true }).Has) (({ ({ y_3 with Seq := (IntKind.wrap .u32 (x_io0_1 + (IntKind.wrap .u32 x_io0_3))) }) with Has := true }).Window) y8)] : List T_line_Packet)) fun l37 => (go (.l0 x_io0_0 x_io0_1 a_io0_2 (IntKind.wrap .i64 (x_io0_3 + (1 : Int))) x_io0_4 x_io0_5 a_io0_6 b_io0_7 (T_line_Packet.mk (({ ({ y_3 with Seq := (IntKind.wrap .u32 (x_io0_1 + (IntKind.wrap .u32 x_io0_3))) }) with Has := true }).Seq) (({ ({ y_3 with Seq := (IntKind.wrap .u32 (x_io0_1 + (IntKind.wrap .u32 x_io0_3))) }) with Has := true }).Ack) (({ ({ y_3 with Seq := (IntKind.wrap .u32 (x_io0_1 + (IntKind.wrap .u32 x_io0_3))) }) with Has := true }).Has) (({ ({ y_3 with Seq := (IntKind.wrap .u32 (x_io0_1 + (IntKind.wrap .u32 x_io0_3))) }) with Has := true }).Window) y8) l37))) else (if (((List.length a_4) : Nat) : Int) = (0 : Int) then ((line_End_Out.j1 x_io0_0 x_io0_1 a_io0_2 x_io0_3 x_io0_4 x_io0_5 a_io0_6 b_io0_7 y_3 a_4 b_io0_7)) else ((line_End_Out.j1 x_io0_0 x_io0_1 a_io0_2 x_io0_3 x_io0_4 x_io0_5 a_io0_6 b_io0_7 y_3 a_4 false)))
theorem line_End_Out.l0_k.mono : MonoF (β := fun _ => ((List T_line_Packet) × T_line_End)) line_End_Out.l0_k.body := fun f g hfg p => match p with
  | .l0 x_io0_0 x_io0_1 a_io0_2 x_io0_3 x_io0_4 x_io0_5 a_io0_6 b_io0_7 y_3 a_4 => LeO.ite (LeO.bind (LeO.refl _) fun y1 => LeO.bind (LeO.refl _) fun y8 => LeO.bind (LeO.refl _) fun l37 => (hfg _)) (LeO.ite ((LeO.refl _)) ((LeO.refl _)))
noncomputable def line_End_Out.l0_k.go (p : line_End_Out.l0_k.Pt) : Option ((List T_line_Packet) × T_line_End) := fixF (β := fun _ => ((List T_line_Packet) × T_line_End)) line_End_Out.l0_k.body p
noncomputable def line_End_Out.l0 (x_io0_0 : Int) (x_io0_1 : Int) (a_io0_2 : (List (List Int))) (x_io0_3 : Int) (x_io0_4 : Int) (x_io0_5 : Int) (a_io0_6 : (List (List Int))) (b_io0_7 : Bool) (y_3 : T_line_Packet) (a_4 : List T_line_Packet) : Option ((List T_line_Packet) × T_line_End) := line_End_Out.l0_k.go (.l0 x_io0_0 x_io0_1 a_io0_2 x_io0_3 x_io0_4 x_io0_5 a_io0_6 b_io0_7 y_3 a_4)
theorem line_End_Out.l0_eq (x_io0_0 : Int) (x_io0_1 : Int) (a_io0_2 : (List (List Int))) (x_io0_3 : Int) (x_io0_4 : Int) (x_io0_5 : Int) (a_io0_6 : (List (List Int))) (b_io0_7 : Bool) (y_3 : T_line_Packet) (a_4 : List T_line_Packet) : line_End_Out.l0 x_io0_0 x_io0_1 a_io0_2 x_io0_3 x_io0_4 x_io0_5 a_io0_6 b_io0_7 y_3 a_4 = if x_io0_3 < (if x_io0_4 < (((List.length a_io0_2) : Nat) : Int) then x_io0_4 else (((List.length a_io0_2) : Nat) : Int)) then (Option.bind (gi a_io0_2 x_io0_3) fun y1 => Option.bind (slices_Clone_82 y1) fun y8 => Option.bind (ap 48 a_4 ([(T_line_Packet.mk (({ ({ y_3 with Seq := (IntKind.wrap .u32 (x_io0_1 + (IntKind.wrap .u32 x_io0_3))) }) with Has := true }).Seq) (({ ({ y_3 with Seq := (IntKind.wrap .u32 (x_io0_1 + (IntKind.wrap .u32 x_io0_3))) }) with Has := true }).Ack) (({ ({ y_3 with Seq := (IntKind.wrap .u32 (x_io0_1 + (IntKind.wrap .u32 x_io0_3))) }) with Has := true }).Has) (({ ({ y_3 with Seq := (IntKind.wrap .u32 (x_io0_1 + (IntKind.wrap .u32 x_io0_3))) }) with Has := true }).Window) y8)] : List T_line_Packet)) fun l37 => (line_End_Out.l0 x_io0_0 x_io0_1 a_io0_2 (IntKind.wrap .i64 (x_io0_3 + (1 : Int))) x_io0_4 x_io0_5 a_io0_6 b_io0_7 (T_line_Packet.mk (({ ({ y_3 with Seq := (IntKind.wrap .u32 (x_io0_1 + (IntKind.wrap .u32 x_io0_3))) }) with Has := true }).Seq) (({ ({ y_3 with Seq := (IntKind.wrap .u32 (x_io0_1 + (IntKind.wrap .u32 x_io0_3))) }) with Has := true }).Ack) (({ ({ y_3 with Seq := (IntKind.wrap .u32 (x_io0_1 + (IntKind.wrap .u32 x_io0_3))) }) with Has := true }).Has) (({ ({ y_3 with Seq := (IntKind.wrap .u32 (x_io0_1 + (IntKind.wrap .u32 x_io0_3))) }) with Has := true }).Window) y8) l37)) else (if (((List.length a_4) : Nat) : Int) = (0 : Int) then ((line_End_Out.j1 x_io0_0 x_io0_1 a_io0_2 x_io0_3 x_io0_4 x_io0_5 a_io0_6 b_io0_7 y_3 a_4 b_io0_7)) else ((line_End_Out.j1 x_io0_0 x_io0_1 a_io0_2 x_io0_3 x_io0_4 x_io0_5 a_io0_6 b_io0_7 y_3 a_4 false))) := fixF_eq line_End_Out.l0_k.mono _
def line_End_Out.l0_k.I : (p : line_End_Out.l0_k.Pt) → ((List T_line_Packet) × T_line_End) → Prop
  | .l0 x_io0_0 x_io0_1 a_io0_2 x_io0_3 x_io0_4 x_io0_5 a_io0_6 b_io0_7 y_3 a_4, r => ∀ (W : Nat → Prop) (h0 m0 h m : Heap) (bk_io0 : Nat) (A_io0_2_0 : Option Addr) (n_io0_2_0 : Nat) (c_io0_2_0 : Nat) (A_io0_6_0 : Option Addr) (n_io0_6_0 : Nat) (c_io0_6_0 : Nat) (bk_3 : Nat) (cs_3 : List Value) (A_4 : Option Addr) (n_4 c_4 : Nat) (O : Hold W h0 m0 h m [rV bk_io0 152 [(Value.int .i64 x_io0_0), (Value.int .u32 x_io0_1), (Value.slice A_io0_2_0 n_io0_2_0 c_io0_2_0), (Value.int .i64 x_io0_3), (Value.int .i64 x_io0_4), (Value.int .u32 x_io0_5), (Value.slice A_io0_6_0 n_io0_6_0 c_io0_6_0), (Value.bool b_io0_7)], rR (aE (tell_row (tell_int .u8))) A_io0_2_0 c_io0_2_0 a_io0_2, rR (aE (tell_row (tell_int .u8))) A_io0_6_0 c_io0_6_0 a_io0_6, rV bk_3 58 cs_3, rR (aE T_line_Packet.T) A_4 c_4 a_4]) (ne_io0_2_0 : n_io0_2_0 = List.length a_io0_2) (ne_io0_6_0 : n_io0_6_0 = List.length a_io0_6) (e_3 : T_line_Packet.E m y_3 cs_3) (ne_4 : n_4 = List.length a_4), f25.l0 (line_End_Out.post W bk_io0 h0 m0 r) (⟨bk_io0, 0, none⟩ : Addr) (⟨bk_3, 0, none⟩ : Addr) A_4 n_4 c_4 h
set_option maxHeartbeats 4000000 in
set_option maxRecDepth 100000 in
theorem line_End_Out.l0_k.step_l0 (go : (p : line_End_Out.l0_k.Pt) → Option ((List T_line_Packet) × T_line_End)) (ih : ∀ p r, go p = some r → line_End_Out.l0_k.I p r) (x_io0_0 : Int) (x_io0_1 : Int) (a_io0_2 : (List (List Int))) (x_io0_3 : Int) (x_io0_4 : Int) (x_io0_5 : Int) (a_io0_6 : (List (List Int))) (b_io0_7 : Bool) (y_3 : T_line_Packet) (a_4 : List T_line_Packet) (r : (List T_line_Packet) × T_line_End) (e : line_End_Out.l0_k.body go (.l0 x_io0_0 x_io0_1 a_io0_2 x_io0_3 x_io0_4 x_io0_5 a_io0_6 b_io0_7 y_3 a_4) = some r) : line_End_Out.l0_k.I (.l0 x_io0_0 x_io0_1 a_io0_2 x_io0_3 x_io0_4 x_io0_5 a_io0_6 b_io0_7 y_3 a_4) r := by
  unfold line_End_Out.l0_k.body at e
  intro W h0 m0 h m bk_io0 A_io0_2_0 n_io0_2_0 c_io0_2_0 A_io0_6_0 n_io0_6_0 c_io0_6_0 bk_3 cs_3 A_4 n_4 c_4 O ne_io0_2_0 ne_io0_6_0 e_3 ne_4
  subst ne_io0_2_0
  subst ne_io0_6_0
  subst ne_4
  refine f25.l0_in ?_
  unfold f25.l0T
  refine ⟨_, ldk (k := 3) (Sub.refl _) (O.all 0 rfl) rfl, _, rfl, ?_⟩
  refine ⟨_, ldk (k := 2) (Sub.refl _) (O.all 0 rfl) rfl, _, _, _, rfl, ?_⟩
  refine ⟨_, ldk (k := 4) (Sub.refl _) (O.all 0 rfl) rfl, _, rfl, ?_⟩
  refine split_dec_e e (fun c56 e => ?_) (fun c56 e => ?_)
  · refine ⟨_, ldk (k := 1) (Sub.refl _) (O.all 0 rfl) rfl, _, rfl, ?_⟩
    refine ⟨_, ldk (k := 3) (Sub.refl _) (O.all 0 rfl) rfl, _, rfl, ?_⟩
    refine ⟨_, ldk (k := 2) (Sub.refl _) (O.all 0 rfl) rfl, _, _, _, rfl, ?_⟩
    refine ⟨_, ldk (k := 3) (Sub.refl _) (O.all 0 rfl) rfl, _, rfl, ?_⟩
    obtain ⟨y1, g2, e⟩ := bind_e e
    refine (O.os 1 rfl).addr rfl g2 fun a3 cs4 ha5 hc6 he7 => ?_
    obtain ⟨Acs4_0, ccs4_0, rfl, kcs4_0, rcs4_0⟩ := id he7
    refine ⟨_, ld0 (Sub.refl _) hc6 rfl, _, _, _, rfl, ?_⟩
    obtain ⟨y8, g9, e⟩ := bind_e e
    refine (slices_Clone_82.walk (Hold.start (W := No) O.s) rfl kcs4_0 rcs4_0 g9).mono ?_
    rintro _ h10 ⟨m11, A14, n15, c16, Q12, rfl, ne17⟩
    have O19 := Hold.nm (O.retC Q12 (vfs_cons (rR_vf (aE_vf (fun _ _ _ _ h => h))) vfs_nil))
    subst ne17
    refine ⟨_, _, _, rfl, ?_⟩
    refine ⟨Q12.S.ext, ?_⟩
    refine O19.stE0 3 rfl (lt_len (T_line_Packet.T.len _ _ _ e_3) (by decide)) trivial (T_line_Packet.s0 e_3 (IntKind.wrap .u32 (x_io0_1 + (IntKind.wrap .u32 x_io0_3)))) fun h20 cs22 e23 O21 => ?_
    refine O21.stE 3 rfl 2 (lt_len (T_line_Packet.T.len _ _ _ e23) (by decide)) trivial (T_line_Packet.s2 e23 true) fun h24 cs26 e27 O25 => ?_
    obtain ⟨Ae30_4, ce30_4, rfl, ke30_4, re30_4⟩ := id e27
    refine O25.st 3 rfl 4 (Nat.le_of_ble_eq_true rfl) trivial fun h31 O32 => ?_
    refine ⟨_, ldAn (Sub.refl _) (O32.all 3 rfl) rfl, ?_⟩
    refine ⟨[(Value.int .u32 (({ ({ y_3 with Seq := (IntKind.wrap .u32 (x_io0_1 + (IntKind.wrap .u32 x_io0_3))) }) with Has := true }).Seq)), (Value.int .u32 (({ ({ y_3 with Seq := (IntKind.wrap .u32 (x_io0_1 + (IntKind.wrap .u32 x_io0_3))) }) with Has := true }).Ack)), (Value.bool (({ ({ y_3 with Seq := (IntKind.wrap .u32 (x_io0_1 + (IntKind.wrap .u32 x_io0_3))) }) with Has := true }).Has)), (Value.int .i64 (({ ({ y_3 with Seq := (IntKind.wrap .u32 (x_io0_1 + (IntKind.wrap .u32 x_io0_3))) }) with Has := true }).Window)), (Value.slice A14 (List.length y8) c16)], rfl, rfl, ?_⟩
    refine O32.new fun h33 x34 O35 => ?_
    obtain ⟨l37, g38, e⟩ := bind_e e
    obtain ⟨m45, u46, ⟨r47, k48⟩, O49⟩ := O35.frz 5 rfl
    replace r47 : Rd 1 (eInt .u8) m45 A14 y8 := r47
    have O50 := O49.rowE (l := ([(T_line_Packet.mk (({ ({ y_3 with Seq := (IntKind.wrap .u32 (x_io0_1 + (IntKind.wrap .u32 x_io0_3))) }) with Has := true }).Seq) (({ ({ y_3 with Seq := (IntKind.wrap .u32 (x_io0_1 + (IntKind.wrap .u32 x_io0_3))) }) with Has := true }).Ack) (({ ({ y_3 with Seq := (IntKind.wrap .u32 (x_io0_1 + (IntKind.wrap .u32 x_io0_3))) }) with Has := true }).Has) (({ ({ y_3 with Seq := (IntKind.wrap .u32 (x_io0_1 + (IntKind.wrap .u32 x_io0_3))) }) with Has := true }).Window) y8)] : List T_line_Packet)) 6 rfl T_line_Packet.T (show CsE _ _ _ _ _ from (CsE.cons (c1 := [(Value.int .u32 (({ ({ y_3 with Seq := (IntKind.wrap .u32 (x_io0_1 + (IntKind.wrap .u32 x_io0_3))) }) with Has := true }).Seq)), (Value.int .u32 (({ ({ y_3 with Seq := (IntKind.wrap .u32 (x_io0_1 + (IntKind.wrap .u32 x_io0_3))) }) with Has := true }).Ack)), (Value.bool (({ ({ y_3 with Seq := (IntKind.wrap .u32 (x_io0_1 + (IntKind.wrap .u32 x_io0_3))) }) with Has := true }).Has)), (Value.int .i64 (({ ({ y_3 with Seq := (IntKind.wrap .u32 (x_io0_1 + (IntKind.wrap .u32 x_io0_3))) }) with Has := true }).Window)), (Value.slice A14 (List.length y8) c16)]) (show T_line_Packet.E _ (T_line_Packet.mk (({ ({ y_3 with Seq := (IntKind.wrap .u32 (x_io0_1 + (IntKind.wrap .u32 x_io0_3))) }) with Has := true }).Seq) (({ ({ y_3 with Seq := (IntKind.wrap .u32 (x_io0_1 + (IntKind.wrap .u32 x_io0_3))) }) with Has := true }).Ack) (({ ({ y_3 with Seq := (IntKind.wrap .u32 (x_io0_1 + (IntKind.wrap .u32 x_io0_3))) }) with Has := true }).Has) (({ ({ y_3 with Seq := (IntKind.wrap .u32 (x_io0_1 + (IntKind.wrap .u32 x_io0_3))) }) with Has := true }).Window) y8) [(Value.int .u32 (({ ({ y_3 with Seq := (IntKind.wrap .u32 (x_io0_1 + (IntKind.wrap .u32 x_io0_3))) }) with Has := true }).Seq)), (Value.int .u32 (({ ({ y_3 with Seq := (IntKind.wrap .u32 (x_io0_1 + (IntKind.wrap .u32 x_io0_3))) }) with Has := true }).Ack)), (Value.bool (({ ({ y_3 with Seq := (IntKind.wrap .u32 (x_io0_1 + (IntKind.wrap .u32 x_io0_3))) }) with Has := true }).Has)), (Value.int .i64 (({ ({ y_3 with Seq := (IntKind.wrap .u32 (x_io0_1 + (IntKind.wrap .u32 x_io0_3))) }) with Has := true }).Window)), (Value.slice A14 (List.length y8) c16)] from ⟨_, _, rfl, k48, r47⟩) rfl CsE.nil)) rfl
    refine O50.app 4 rfl rfl rfl ((O50.os 6 rfl).srcE rfl) (by decide) g38 fun A39 c40 h41 O42 => ?_
    refine ⟨_, _, _, rfl, ?_⟩
    have O51 := O42.nm
    refine ⟨_, ldk (k := 3) (Sub.refl _) (O51.all 0 rfl) rfl, _, rfl, ?_⟩
    refine O51.st 0 rfl 3 (Nat.le_of_ble_eq_true rfl) trivial fun h52 O53 => ?_
    have O54 := O53.nm
    exact (ih _ _ e) _ _ _ _ _ _ _ _ _ _ _ _ _ _ _ _ _ (O54.pick [0, 1, 2, 3, 4]).nm rfl rfl (show T_line_Packet.E _ (T_line_Packet.mk (({ ({ y_3 with Seq := (IntKind.wrap .u32 (x_io0_1 + (IntKind.wrap .u32 x_io0_3))) }) with Has := true }).Seq) (({ ({ y_3 with Seq := (IntKind.wrap .u32 (x_io0_1 + (IntKind.wrap .u32 x_io0_3))) }) with Has := true }).Ack) (({ ({ y_3 with Seq := (IntKind.wrap .u32 (x_io0_1 + (IntKind.wrap .u32 x_io0_3))) }) with Has := true }).Has) (({ ({ y_3 with Seq := (IntKind.wrap .u32 (x_io0_1 + (IntKind.wrap .u32 x_io0_3))) }) with Has := true }).Window) y8) [(Value.int .u32 (({ ({ y_3 with Seq := (IntKind.wrap .u32 (x_io0_1 + (IntKind.wrap .u32 x_io0_3))) }) with Has := true }).Seq)), (Value.int .u32 (({ ({ y_3 with Seq := (IntKind.wrap .u32 (x_io0_1 + (IntKind.wrap .u32 x_io0_3))) }) with Has := true }).Ack)), (Value.bool (({ ({ y_3 with Seq := (IntKind.wrap .u32 (x_io0_1 + (IntKind.wrap .u32 x_io0_3))) }) with Has := true }).Has)), (Value.int .i64 (({ ({ y_3 with Seq := (IntKind.wrap .u32 (x_io0_1 + (IntKind.wrap .u32 x_io0_3))) }) with Has := true }).Window)), (Value.slice A14 (List.length y8) c16)] from ⟨_, _, rfl, k48, r47⟩) rfl
  · refine split_eq_e e (fun c55 e => ?_) (fun c55 e => ?_)
    · refine ⟨_, ldk (k := 7) (Sub.refl _) (O.all 0 rfl) rfl, _, rfl, ?_⟩
      exact line_End_Out.j1.walk (O.pick [0, 1, 2, 3, 4]).nm rfl rfl e_3 rfl e
    · exact line_End_Out.j1.walk (O.pick [0, 1, 2, 3, 4]).nm rfl rfl e_3 rfl e
theorem line_End_Out.l0_k.all {p : line_End_Out.l0_k.Pt} {r : ((List T_line_Packet) × T_line_End)} (e : line_End_Out.l0_k.go p = some r) : line_End_Out.l0_k.I p r := fixF_ind (β := fun _ => ((List T_line_Packet) × T_line_End)) line_End_Out.l0_k.mono (I := line_End_Out.l0_k.I) (fun go ih p r e => match p with
  | .l0 x_io0_0 x_io0_1 a_io0_2 x_io0_3 x_io0_4 x_io0_5 a_io0_6 b_io0_7 y_3 a_4 => line_End_Out.l0_k.step_l0 go ih x_io0_0 x_io0_1 a_io0_2 x_io0_3 x_io0_4 x_io0_5 a_io0_6 b_io0_7 y_3 a_4 r e
  ) e
theorem line_End_Out.l0.walk {W : Nat → Prop} {h0 m0 h m : Heap} {bk_io0 : Nat} {A_io0_2_0 : Option Addr} {n_io0_2_0 : Nat} {c_io0_2_0 : Nat} {A_io0_6_0 : Option Addr} {n_io0_6_0 : Nat} {c_io0_6_0 : Nat} {bk_3 : Nat} {cs_3 : List Value} {A_4 : Option Addr} {n_4 c_4 : Nat} {x_io0_0 : Int} {x_io0_1 : Int} {a_io0_2 : (List (List Int))} {x_io0_3 : Int} {x_io0_4 : Int} {x_io0_5 : Int} {a_io0_6 : (List (List Int))} {b_io0_7 : Bool} {y_3 : T_line_Packet} {a_4 : List T_line_Packet} (O : Hold W h0 m0 h m [rV bk_io0 152 [(Value.int .i64 x_io0_0), (Value.int .u32 x_io0_1), (Value.slice A_io0_2_0 n_io0_2_0 c_io0_2_0), (Value.int .i64 x_io0_3), (Value.int .i64 x_io0_4), (Value.int .u32 x_io0_5), (Value.slice A_io0_6_0 n_io0_6_0 c_io0_6_0), (Value.bool b_io0_7)], rR (aE (tell_row (tell_int .u8))) A_io0_2_0 c_io0_2_0 a_io0_2, rR (aE (tell_row (tell_int .u8))) A_io0_6_0 c_io0_6_0 a_io0_6, rV bk_3 58 cs_3, rR (aE T_line_Packet.T) A_4 c_4 a_4]) (ne_io0_2_0 : n_io0_2_0 = List.length a_io0_2) (ne_io0_6_0 : n_io0_6_0 = List.length a_io0_6) (e_3 : T_line_Packet.E m y_3 cs_3) (ne_4 : n_4 = List.length a_4) {r : (List T_line_Packet) × T_line_End} (e : line_End_Out.l0 x_io0_0 x_io0_1 a_io0_2 x_io0_3 x_io0_4 x_io0_5 a_io0_6 b_io0_7 y_3 a_4 = some r) : f25.l0 (line_End_Out.post W bk_io0 h0 m0 r) (⟨bk_io0, 0, none⟩ : Addr) (⟨bk_3, 0, none⟩ : Addr) A_4 n_4 c_4 h := line_End_Out.l0_k.all (p := .l0 x_io0_0 x_io0_1 a_io0_2 x_io0_3 x_io0_4 x_io0_5 a_io0_6 b_io0_7 y_3 a_4) e W h0 m0 h m bk_io0 A_io0_2_0 n_io0_2_0 c_io0_2_0 A_io0_6_0 n_io0_6_0 c_io0_6_0 bk_3 cs_3 A_4 n_4 c_4 O ne_io0_2_0 ne_io0_6_0 e_3 ne_4

noncomputable def line_End_Out (y_0 : T_line_End) : Option ((List T_line_Packet) × T_line_End) :=
  (line_End_Out.l0 y_0.window_ y_0.base_ y_0.kept_ y_0.told_ y_0.limit_ y_0.want_ y_0.read_ y_0.owe_ (T_line_Packet.mk (0 : Int) y_0.want_ false (IntKind.wrap .i64 (y_0.window_ - (((List.length y_0.read_) : Nat) : Int))) ([] : List Int)) ([] : List T_line_Packet))
set_option maxRecDepth 100000 in
theorem line_End_Out.walk {W : Nat → Prop} {h m : Heap} {bkio0 : Nat} {A_0_2 : Option Addr} {n_0_2 : Nat} {c_0_2 : Nat} {A_0_6 : Option Addr} {n_0_6 : Nat} {c_0_6 : Nat} {y_0 : T_line_End} (O : Hold W h m h m [rV bkio0 152 [(Value.int .i64 y_0.window_), (Value.int .u32 y_0.base_), (Value.slice A_0_2 n_0_2 c_0_2), (Value.int .i64 y_0.told_), (Value.int .i64 y_0.limit_), (Value.int .u32 y_0.want_), (Value.slice A_0_6 n_0_6 c_0_6), (Value.bool y_0.owe_)], rR (aE (tell_row (tell_int .u8))) A_0_2 c_0_2 y_0.kept_, rR (aE (tell_row (tell_int .u8))) A_0_6 c_0_6 y_0.read_]) (ne_0_2 : n_0_2 = List.length y_0.kept_) (ne_0_6 : n_0_6 = List.length y_0.read_) {r : (List T_line_Packet) × T_line_End} (e : line_End_Out y_0 = some r) : Run Try.prog 25 #[Value.pointer (some ⟨bkio0, 0, none⟩)] h (line_End_Out.post W bkio0 h m r) := by
  unfold line_End_Out at e
  subst ne_0_2
  subst ne_0_6
  refine f25.run ?_
  unfold f25.runT
  refine ⟨_, ldk (k := 5) (Sub.refl _) (O.all 0 rfl) rfl, _, rfl, ?_⟩
  refine ⟨_, ld0 (Sub.refl _) (O.all 0 rfl) rfl, _, rfl, ?_⟩
  refine ⟨_, ldk (k := 6) (Sub.refl _) (O.all 0 rfl) rfl, _, _, _, rfl, ?_⟩
  refine ⟨?_, ?_⟩
  · refine O.new fun h10 x11 O12 => ?_
    refine ⟨x11, ?_⟩
    refine ⟨_, rfl, rfl, ?_⟩
    refine O12.stA 3 rfl rfl (Flats.cons trivial (Flats.cons trivial (Flats.cons trivial (Flats.cons trivial (Flats.cons trivial Flats.nil))))) fun h14 O15 => ?_
    have O16 := O15.nil (aE T_line_Packet.T) none
    have O18 := O16.nm
    exact line_End_Out.l0.walk (O18.pick [0, 1, 2, 3, 4]).nm rfl rfl (show T_line_Packet.E _ (T_line_Packet.mk (0 : Int) y_0.want_ false (IntKind.wrap .i64 (y_0.window_ - (((List.length y_0.read_) : Nat) : Int))) ([] : List Int)) [(Value.int .u32 (0 : Int)), (Value.int .u32 y_0.want_), (Value.bool false), (Value.int .i64 (IntKind.wrap .i64 (y_0.window_ - (((List.length y_0.read_) : Nat) : Int)))), (Value.slice none 0 0)] from ⟨_, _, rfl, (Nat.le_refl 0), Rd.nil⟩) rfl e
  · refine O.new fun h19 x20 O21 => ?_
    refine ⟨x20, ?_⟩
    refine ⟨_, rfl, rfl, ?_⟩
    refine O21.stA 3 rfl rfl (Flats.cons trivial (Flats.cons trivial (Flats.cons trivial (Flats.cons trivial (Flats.cons trivial Flats.nil))))) fun h23 O24 => ?_
    have O25 := O24.nil (aE T_line_Packet.T) none
    have O27 := O25.nm
    exact line_End_Out.l0.walk (O27.pick [0, 1, 2, 3, 4]).nm rfl rfl (show T_line_Packet.E _ (T_line_Packet.mk (0 : Int) y_0.want_ false (IntKind.wrap .i64 (y_0.window_ - (((List.length y_0.read_) : Nat) : Int))) ([] : List Int)) [(Value.int .u32 (0 : Int)), (Value.int .u32 y_0.want_), (Value.bool false), (Value.int .i64 (IntKind.wrap .i64 (y_0.window_ - (((List.length y_0.read_) : Nat) : Int)))), (Value.slice none 0 0)] from ⟨_, _, rfl, (Nat.le_refl 0), Rd.nil⟩) rfl e

/-! ### 26 roadstead/roadlaw4.at -/
def roadlaw4_at.post (W : Nat → Prop) (h0 m0 : Heap) (r : Int) (v : Value) (h : Heap) : Prop := ∃ m , Hold W h0 m0 h m [] ∧ v = .int .i64 r
noncomputable def roadlaw4_at (a_0 : List Int) (x_1 : Int) : Option (Int) :=
  if x_1 < (((List.length a_0) : Nat) : Int) then (Option.bind (gi a_0 x_1) fun y1 => some (y1)) else (some ((0 : Int)))
set_option maxRecDepth 100000 in
theorem roadlaw4_at.walk {W : Nat → Prop} {h m : Heap} {A_0 : Option Addr} {n_0 c_0 : Nat} {a_0 : List Int} {x_1 : Int} (O : Hold W h m h m []) (ne_0 : n_0 = List.length a_0) (k_0 : List.length a_0 ≤ c_0) (r_0 : Rd 1 (eInt .i64) m A_0 a_0) {r : Int} (e : roadlaw4_at a_0 x_1 = some r) : Run Try.prog 26 #[Value.slice A_0 n_0 c_0, Value.int .i64 x_1] h (roadlaw4_at.post W h m r) := by
  unfold roadlaw4_at at e
  subst ne_0
  refine f26.run ?_
  unfold f26.runT
  refine split_dec_e e (fun c8 e => ?_) (fun c8 e => ?_)
  · obtain ⟨y1, g2, e⟩ := bind_e e
    refine r_0.addr rfl g2 fun a3 cs4 ha5 hc6 he7 => ?_
    obtain rfl : cs4 = [(Value.int .i64 y1)] := he7
    refine ⟨_, ld0 O.s hc6 rfl, _, rfl, ?_⟩
    cases e
    exact ⟨_, O.pick [], rfl⟩
  · cases e
    exact ⟨_, O.pick [], rfl⟩

/-! ### 27 roadstead/roadlaw4.pick[[]byte] -/
def roadlaw4_pick_27.post (W : Nat → Prop) (h0 m0 : Heap) (r : (List Int)) (v : Value) (h : Heap) : Prop := ∃ m A0 n0 c0, Hold W h0 m0 h m [] ∧ v = .slice A0 n0 c0 ∧ n0 = List.length r ∧ List.length r ≤ c0 ∧ Rd 1 (eInt .u8) m A0 r
noncomputable def roadlaw4_pick_27 (a_0 : List (List Int)) (x_1 : Int) : Option ((List Int)) :=
  if (((List.length a_0) : Nat) : Int) = (0 : Int) then (some (([] : List Int))) else (if (IntKind.wrap .u64 (((List.length a_0) : Nat) : Int)) ≠ 0 then (Option.bind (gi a_0 (IntKind.wrap .i64 (Int.tmod (IntKind.wrap .u64 x_1) (IntKind.wrap .u64 (((List.length a_0) : Nat) : Int))))) fun y2 => some (y2)) else none)
set_option maxRecDepth 100000 in
theorem roadlaw4_pick_27.walk {W : Nat → Prop} {h m : Heap} {A_0 : Option Addr} {n_0 c_0 : Nat} {a_0 : List (List Int)} {x_1 : Int} (O : Hold W h m h m []) (ne_0 : n_0 = List.length a_0) (k_0 : List.length a_0 ≤ c_0) (r_0 : Rd 1 (eRow 1 (eInt .u8)) m A_0 a_0) {r : (List Int)} (e : roadlaw4_pick_27 a_0 x_1 = some r) : Run Try.prog 27 #[Value.slice A_0 n_0 c_0, Value.int .i64 x_1] h (roadlaw4_pick_27.post W h m r) := by
  unfold roadlaw4_pick_27 at e
  subst ne_0
  refine f27.run ?_
  unfold f27.runT
  refine split_eq_e e (fun c9 e => ?_) (fun c9 e => ?_)
  · cases e
    exact ⟨_, _, _, _, O.pick [], rfl, rfl, (Nat.le_refl 0), Rd.nil⟩
  · obtain ⟨g1, e⟩ := guard_e e
    refine ⟨g1, ?_⟩
    obtain ⟨y2, g3, e⟩ := bind_e e
    refine r_0.addr rfl g3 fun a4 cs5 ha6 hc7 he8 => ?_
    obtain ⟨Acs5_0, ccs5_0, rfl, kcs5_0, rcs5_0⟩ := id he8
    refine ⟨_, ld0 O.s hc7 rfl, _, _, _, rfl, ?_⟩
    cases e
    exact ⟨_, _, _, _, O.pick [], rfl, rfl, kcs5_0, rcs5_0⟩

/-! ### 28 slices.EqualFunc[[]roadstead/line.Packet,[]roadstead/roadref4.Packet,roadstead/line.Packet,roadstead/roadref4.Packet] -/
def slices_EqualFunc_28.post (W : Nat → Prop) (h0 m0 : Heap) (r : Bool) (v : Value) (h : Heap) : Prop := ∃ m , Hold W h0 m0 h m [] ∧ v = .bool r
inductive slices_EqualFunc_28.l0_k.Pt where
  | l0 (a_1 : List T_roadref4_Packet) (p_2 : T_line_Packet → T_roadref4_Packet → Option Bool) (a_15 : List T_line_Packet) (x_16 : Int) (x_17 : Int)
noncomputable def slices_EqualFunc_28.l0_k.body (go : (p : slices_EqualFunc_28.l0_k.Pt) → Option (Bool)) : (p : slices_EqualFunc_28.l0_k.Pt) → Option (Bool)
  | .l0 a_1 p_2 a_15 x_16 x_17 => if x_17 < x_16 then (Option.bind (gi a_15 x_17) fun y1 => Option.bind (gi a_1 x_17) fun y14 => Option.bind (p_2 y1 y14) fun y27 => if y27 = true then ((go (.l0 a_1 p_2 a_15 x_16 (IntKind.wrap .i64 (x_17 + (1 : Int)))))) else (some (false))) else (some (true))
theorem slices_EqualFunc_28.l0_k.mono : MonoF (β := fun _ => (Bool)) slices_EqualFunc_28.l0_k.body := fun f g hfg p => match p with
  | .l0 a_1 p_2 a_15 x_16 x_17 => LeO.ite (LeO.bind (LeO.refl _) fun y1 => LeO.bind (LeO.refl _) fun y14 => LeO.bind (LeO.refl _) fun y27 => LeO.ite ((hfg _)) (LeO.refl _)) (LeO.refl _)
noncomputable def slices_EqualFunc_28.l0_k.go (p : slices_EqualFunc_28.l0_k.Pt) : Option (Bool) := fixF (β := fun _ => (Bool)) slices_EqualFunc_28.l0_k.body p
noncomputable def slices_EqualFunc_28.l0 (a_1 : List T_roadref4_Packet) (p_2 : T_line_Packet → T_roadref4_Packet → Option Bool) (a_15 : List T_line_Packet) (x_16 : Int) (x_17 : Int) : Option (Bool) := slices_EqualFunc_28.l0_k.go (.l0 a_1 p_2 a_15 x_16 x_17)
theorem slices_EqualFunc_28.l0_eq (a_1 : List T_roadref4_Packet) (p_2 : T_line_Packet → T_roadref4_Packet → Option Bool) (a_15 : List T_line_Packet) (x_16 : Int) (x_17 : Int) : slices_EqualFunc_28.l0 a_1 p_2 a_15 x_16 x_17 = if x_17 < x_16 then (Option.bind (gi a_15 x_17) fun y1 => Option.bind (gi a_1 x_17) fun y14 => Option.bind (p_2 y1 y14) fun y27 => if y27 = true then ((slices_EqualFunc_28.l0 a_1 p_2 a_15 x_16 (IntKind.wrap .i64 (x_17 + (1 : Int))))) else (some (false))) else (some (true)) := fixF_eq slices_EqualFunc_28.l0_k.mono _
def slices_EqualFunc_28.l0_k.I : (p : slices_EqualFunc_28.l0_k.Pt) → (Bool) → Prop
  | .l0 a_1 p_2 a_15 x_16 x_17, r => ∀ (W : Nat → Prop) (h0 m0 h m : Heap) (A_1 : Option Addr) (n_1 c_1 : Nat) (fv_2 : Value) (A_15 : Option Addr) (n_15 c_15 : Nat) (O : Hold W h0 m0 h m []) (ne_1 : n_1 = List.length a_1) (k_1 : List.length a_1 ≤ c_1) (r_1 : Rd 5 T_roadref4_Packet.E m A_1 a_1) (f_2 : ∀ h' m', Sub m0 m' → Sub m' h' → ∀ (y0 : T_line_Packet) (cs0 : List Value) (_ : T_line_Packet.E m' y0 cs0) (y1 : T_roadref4_Packet) (cs1 : List Value) (_ : T_roadref4_Packet.E m' y1 cs1) (r : Bool), p_2 y0 y1 = some r → CallF Try.prog fv_2 [.agg cs0.toArray, .agg cs1.toArray] h' (fun v h'' => v = .bool r ∧ Ext h' h'')) (ne_15 : n_15 = List.length a_15) (k_15 : List.length a_15 ≤ c_15) (r_15 : Rd 5 T_line_Packet.E m A_15 a_15), f28.l0 (slices_EqualFunc_28.post W h0 m0 r) A_1 n_1 c_1 fv_2 A_15 n_15 c_15 x_16 x_17 h
set_option maxRecDepth 100000 in
theorem slices_EqualFunc_28.l0_k.step_l0 (go : (p : slices_EqualFunc_28.l0_k.Pt) → Option (Bool)) (ih : ∀ p r, go p = some r → slices_EqualFunc_28.l0_k.I p r) (a_1 : List T_roadref4_Packet) (p_2 : T_line_Packet → T_roadref4_Packet → Option Bool) (a_15 : List T_line_Packet) (x_16 : Int) (x_17 : Int) (r : Bool) (e : slices_EqualFunc_28.l0_k.body go (.l0 a_1 p_2 a_15 x_16 x_17) = some r) : slices_EqualFunc_28.l0_k.I (.l0 a_1 p_2 a_15 x_16 x_17) r := by
  unfold slices_EqualFunc_28.l0_k.body at e
  intro W h0 m0 h m A_1 n_1 c_1 fv_2 A_15 n_15 c_15 O ne_1 k_1 r_1 f_2 ne_15 k_15 r_15
  subst ne_1
  subst ne_15
  refine f28.l0_in ?_
  unfold f28.l0T
  refine split_dec_e e (fun c35 e => ?_) (fun c35 e => ?_)
  · obtain ⟨y1, g2, e⟩ := bind_e e
    refine r_15.addr rfl g2 fun a3 cs4 ha5 hc6 he7 => ?_
    refine ⟨_, ldAn O.s hc6 rfl, ?_⟩
    refine O.new fun h8 x9 O10 => ?_
    refine ⟨_, rfl, (T_line_Packet.T.len _ _ _ he7), ?_⟩
    refine O10.stA 0 rfl (T_line_Packet.T.len _ _ _ he7) (T_line_Packet.T.flat _ _ _ he7) fun h12 O13 => ?_
    obtain ⟨y14, g15, e⟩ := bind_e e
    refine r_1.addr rfl g15 fun a16 cs17 ha18 hc19 he20 => ?_
    refine ⟨_, ldAn O13.s hc19 rfl, ?_⟩
    refine O13.new fun h21 x22 O23 => ?_
    refine ⟨_, rfl, (T_roadref4_Packet.T.len _ _ _ he20), ?_⟩
    refine O23.stA 1 rfl (T_roadref4_Packet.T.len _ _ _ he20) (T_roadref4_Packet.T.flat _ _ _ he20) fun h25 O26 => ?_
    refine ⟨_, ldAn (Sub.refl _) (O26.all 0 rfl) (T_line_Packet.T.len _ _ _ he7), ?_⟩
    refine ⟨_, ldAn (Sub.refl _) (O26.all 1 rfl) (T_roadref4_Packet.T.len _ _ _ he20), ?_⟩
    obtain ⟨y27, g28, e⟩ := bind_e e
    refine CallF.mono (f_2 _ _ O.up O26.s _ _ he7 _ _ he20 _ g28) ?_
    rintro _ h29 ⟨rfl, x30⟩
    have O31 := O26.ext x30
    refine ⟨_, rfl, ?_⟩
    refine split_not ?_
    refine split_any_e e (fun c34 e => ?_) (fun c34 e => ?_)
    · have O32 := O31.nm
      exact (ih _ _ e) _ _ _ _ _ _ _ _ _ _ _ _ (O32.pick []).nm rfl k_1 r_1 f_2 rfl k_15 r_15
    · have O33 := O31.nm
      cases e
      exact ⟨_, O33.pick [], rfl⟩
  · cases e
    exact ⟨_, O.pick [], rfl⟩
theorem slices_EqualFunc_28.l0_k.all {p : slices_EqualFunc_28.l0_k.Pt} {r : (Bool)} (e : slices_EqualFunc_28.l0_k.go p = some r) : slices_EqualFunc_28.l0_k.I p r := fixF_ind (β := fun _ => (Bool)) slices_EqualFunc_28.l0_k.mono (I := slices_EqualFunc_28.l0_k.I) (fun go ih p r e => match p with
  | .l0 a_1 p_2 a_15 x_16 x_17 => slices_EqualFunc_28.l0_k.step_l0 go ih a_1 p_2 a_15 x_16 x_17 r e
  ) e
theorem slices_EqualFunc_28.l0.walk {W : Nat → Prop} {h0 m0 h m : Heap} {A_1 : Option Addr} {n_1 c_1 : Nat} {fv_2 : Value} {A_15 : Option Addr} {n_15 c_15 : Nat} {a_1 : List T_roadref4_Packet} {p_2 : T_line_Packet → T_roadref4_Packet → Option Bool} {a_15 : List T_line_Packet} {x_16 : Int} {x_17 : Int} (O : Hold W h0 m0 h m []) (ne_1 : n_1 = List.length a_1) (k_1 : List.length a_1 ≤ c_1) (r_1 : Rd 5 T_roadref4_Packet.E m A_1 a_1) (f_2 : ∀ h' m', Sub m0 m' → Sub m' h' → ∀ (y0 : T_line_Packet) (cs0 : List Value) (_ : T_line_Packet.E m' y0 cs0) (y1 : T_roadref4_Packet) (cs1 : List Value) (_ : T_roadref4_Packet.E m' y1 cs1) (r : Bool), p_2 y0 y1 = some r → CallF Try.prog fv_2 [.agg cs0.toArray, .agg cs1.toArray] h' (fun v h'' => v = .bool r ∧ Ext h' h'')) (ne_15 : n_15 = List.length a_15) (k_15 : List.length a_15 ≤ c_15) (r_15 : Rd 5 T_line_Packet.E m A_15 a_15) {r : Bool} (e : slices_EqualFunc_28.l0 a_1 p_2 a_15 x_16 x_17 = some r) : f28.l0 (slices_EqualFunc_28.post W h0 m0 r) A_1 n_1 c_1 fv_2 A_15 n_15 c_15 x_16 x_17 h := slices_EqualFunc_28.l0_k.all (p := .l0 a_1 p_2 a_15 x_16 x_17) e W h0 m0 h m A_1 n_1 c_1 fv_2 A_15 n_15 c_15 O ne_1 k_1 r_1 f_2 ne_15 k_15 r_15

noncomputable def slices_EqualFunc_28 (a_0 : List T_line_Packet) (a_1 : List T_roadref4_Packet) (p_2 : T_line_Packet → T_roadref4_Packet → Option Bool) : Option (Bool) :=
  if (((List.length a_0) : Nat) : Int) = (((List.length a_1) : Nat) : Int) then ((slices_EqualFunc_28.l0 a_1 p_2 a_0 (((List.length a_0) : Nat) : Int) (0 : Int))) else (some (false))
set_option maxRecDepth 100000 in
theorem slices_EqualFunc_28.walk {W : Nat → Prop} {h m : Heap} {A_0 : Option Addr} {n_0 c_0 : Nat} {A_1 : Option Addr} {n_1 c_1 : Nat} {fv_2 : Value} {a_0 : List T_line_Packet} {a_1 : List T_roadref4_Packet} {p_2 : T_line_Packet → T_roadref4_Packet → Option Bool} (O : Hold W h m h m []) (ne_0 : n_0 = List.length a_0) (k_0 : List.length a_0 ≤ c_0) (r_0 : Rd 5 T_line_Packet.E m A_0 a_0) (ne_1 : n_1 = List.length a_1) (k_1 : List.length a_1 ≤ c_1) (r_1 : Rd 5 T_roadref4_Packet.E m A_1 a_1) (f_2 : ∀ h' m', Sub m m' → Sub m' h' → ∀ (y0 : T_line_Packet) (cs0 : List Value) (_ : T_line_Packet.E m' y0 cs0) (y1 : T_roadref4_Packet) (cs1 : List Value) (_ : T_roadref4_Packet.E m' y1 cs1) (r : Bool), p_2 y0 y1 = some r → CallF Try.prog fv_2 [.agg cs0.toArray, .agg cs1.toArray] h' (fun v h'' => v = .bool r ∧ Ext h' h'')) {r : Bool} (e : slices_EqualFunc_28 a_0 a_1 p_2 = some r) : Run Try.prog 28 #[Value.slice A_0 n_0 c_0, Value.slice A_1 n_1 c_1, fv_2] h (slices_EqualFunc_28.post W h m r) := by
  unfold slices_EqualFunc_28 at e
  subst ne_0
  subst ne_1
  refine f28.run ?_
  unfold f28.runT
  refine split_ne_e e (fun c1 e => ?_) (fun c1 e => ?_)
  · cases e
    exact ⟨_, O.pick [], rfl⟩
  · exact slices_EqualFunc_28.l0.walk (O.pick []).nm rfl k_1 r_1 f_2 rfl k_0 r_0 e
theorem slices_EqualFunc_28.val {l : List T_line_Packet} {m : List T_roadref4_Packet} {p : T_line_Packet → T_roadref4_Packet → Option Bool} (q : T_line_Packet → T_roadref4_Packet → Bool) (hp : ∀ x ∈ l, ∀ y ∈ m, p x y = some (q x y)) (hl : l.length ≤ 4611686018427387904) : slices_EqualFunc_28 l m p = some (decide (l.length = m.length) && (l.zip m).all fun x => q x.1 x.2) := equalFunc_val (fun a b p n i => slices_EqualFunc_28.l0_eq b p a n i) (fun _ _ _ => rfl) q hp hl

/-! ### 29 (*roadstead/roadref4.End).Out -/
def roadref4_End_Out.post (W : Nat → Prop) (bkio0 : Nat) (h0 m0 : Heap) (r : (List T_roadref4_Packet) × T_roadref4_End) (v : Value) (h : Heap) : Prop := ∃ m A0 n0 c0 Aio0_4 nio0_4 cio0_4 Aio0_7 nio0_7 cio0_7, Hold W h0 m0 h m [rR (aE T_roadref4_Packet.T) A0 c0 r.1, rV bkio0 61 [(Value.int .i64 r.2.Window), (Value.int .i64 r.2.Limit), (Value.int .i64 r.2.Base), (Value.int .i64 r.2.Told), (Value.slice Aio0_4 nio0_4 cio0_4), (Value.int .i64 r.2.Took), (Value.int .i64 r.2.Read), (Value.slice Aio0_7 nio0_7 cio0_7), (Value.bool r.2.Owe)], rR (aE (tell_row (tell_int .u8))) Aio0_4 cio0_4 r.2.All, rR (aE (tell_row (tell_int .u8))) Aio0_7 cio0_7 r.2.Got] ∧ v = .slice A0 n0 c0 ∧ n0 = List.length r.1 ∧ nio0_4 = List.length r.2.All ∧ nio0_7 = List.length r.2.Got
noncomputable def roadref4_End_Out.j1 (x_io0_0 : Int) (x_io0_1 : Int) (x_io0_2 : Int) (x_io0_3 : Int) (a_io0_4 : (List (List Int))) (x_io0_5 : Int) (x_io0_6 : Int) (a_io0_7 : (List (List Int))) (b_io0_8 : Bool) (a_3 : List T_roadref4_Packet) : Option ((List T_roadref4_Packet) × T_roadref4_End) :=
  some (a_3, (T_roadref4_End.mk x_io0_0 x_io0_1 x_io0_2 x_io0_3 a_io0_4 x_io0_5 x_io0_6 a_io0_7 false))
set_option maxRecDepth 100000 in
theorem roadref4_End_Out.j1.walk {W : Nat → Prop} {h0 m0 h m : Heap} {bk_io0 : Nat} {A_io0_4_0 : Option Addr} {n_io0_4_0 : Nat} {c_io0_4_0 : Nat} {A_io0_7_0 : Option Addr} {n_io0_7_0 : Nat} {c_io0_7_0 : Nat} {A_3 : Option Addr} {n_3 c_3 : Nat} {x_io0_0 : Int} {x_io0_1 : Int} {x_io0_2 : Int} {x_io0_3 : Int} {a_io0_4 : (List (List Int))} {x_io0_5 : Int} {x_io0_6 : Int} {a_io0_7 : (List (List Int))} {b_io0_8 : Bool} {a_3 : List T_roadref4_Packet} (O : Hold W h0 m0 h m [rV bk_io0 61 [(Value.int .i64 x_io0_0), (Value.int .i64 x_io0_1), (Value.int .i64 x_io0_2), (Value.int .i64 x_io0_3), (Value.slice A_io0_4_0 n_io0_4_0 c_io0_4_0), (Value.int .i64 x_io0_5), (Value.int .i64 x_io0_6), (Value.slice A_io0_7_0 n_io0_7_0 c_io0_7_0), (Value.bool b_io0_8)], rR (aE (tell_row (tell_int .u8))) A_io0_4_0 c_io0_4_0 a_io0_4, rR (aE (tell_row (tell_int .u8))) A_io0_7_0 c_io0_7_0 a_io0_7, rR (aE T_roadref4_Packet.T) A_3 c_3 a_3]) (ne_io0_4_0 : n_io0_4_0 = List.length a_io0_4) (ne_io0_7_0 : n_io0_7_0 = List.length a_io0_7) (ne_3 : n_3 = List.length a_3) {r : (List T_roadref4_Packet) × T_roadref4_End} (e : roadref4_End_Out.j1 x_io0_0 x_io0_1 x_io0_2 x_io0_3 a_io0_4 x_io0_5 x_io0_6 a_io0_7 b_io0_8 a_3 = some r) : f29.j1 (roadref4_End_Out.post W bk_io0 h0 m0 r) (⟨bk_io0, 0, none⟩ : Addr) A_3 n_3 c_3 h := by
  unfold roadref4_End_Out.j1 at e
  subst ne_io0_4_0
  subst ne_io0_7_0
  subst ne_3
  refine f29.j1_in ?_
  unfold f29.j1T
  refine O.st 0 rfl 8 (Nat.le_of_ble_eq_true rfl) trivial fun h1 O2 => ?_
  have O3 := O2.nm
  cases e
  exact ⟨_, _, _, _, _, _, _, _, _, _, O3.pick [3, 0, 1, 2], rfl, rfl, rfl, rfl⟩

noncomputable def roadref4_End_Out.j2 (x_io0_0 : Int) (x_io0_1 : Int) (x_io0_2 : Int) (x_io0_3 : Int) (a_io0_4 : (List (List Int))) (x_io0_5 : Int) (x_io0_6 : Int) (a_io0_7 : (List (List Int))) (b_io0_8 : Bool) (a_3 : List T_roadref4_Packet) (y_4 : T_roadref4_Packet) (b_93 : Bool) : Option ((List T_roadref4_Packet) × T_roadref4_End) :=
  if b_93 = true then ((roadref4_End_Out.j1 x_io0_0 x_io0_1 x_io0_2 x_io0_3 a_io0_4 x_io0_5 x_io0_6 a_io0_7 b_io0_8 ([({ y_4 with Seq := (IntKind.wrap .u32 (((List.length a_io0_4) : Nat) : Int)) })] : List T_roadref4_Packet))) else ((roadref4_End_Out.j1 x_io0_0 x_io0_1 x_io0_2 x_io0_3 a_io0_4 x_io0_5 x_io0_6 a_io0_7 b_io0_8 a_3))
set_option maxRecDepth 100000 in
theorem roadref4_End_Out.j2.walk {W : Nat → Prop} {h0 m0 h m : Heap} {bk_io0 : Nat} {A_io0_4_0 : Option Addr} {n_io0_4_0 : Nat} {c_io0_4_0 : Nat} {A_io0_7_0 : Option Addr} {n_io0_7_0 : Nat} {c_io0_7_0 : Nat} {A_3 : Option Addr} {n_3 c_3 : Nat} {bk_4 : Nat} {cs_4 : List Value} {x_io0_0 : Int} {x_io0_1 : Int} {x_io0_2 : Int} {x_io0_3 : Int} {a_io0_4 : (List (List Int))} {x_io0_5 : Int} {x_io0_6 : Int} {a_io0_7 : (List (List Int))} {b_io0_8 : Bool} {a_3 : List T_roadref4_Packet} {y_4 : T_roadref4_Packet} {b_93 : Bool} (O : Hold W h0 m0 h m [rV bk_io0 61 [(Value.int .i64 x_io0_0), (Value.int .i64 x_io0_1), (Value.int .i64 x_io0_2), (Value.int .i64 x_io0_3), (Value.slice A_io0_4_0 n_io0_4_0 c_io0_4_0), (Value.int .i64 x_io0_5), (Value.int .i64 x_io0_6), (Value.slice A_io0_7_0 n_io0_7_0 c_io0_7_0), (Value.bool b_io0_8)], rR (aE (tell_row (tell_int .u8))) A_io0_4_0 c_io0_4_0 a_io0_4, rR (aE (tell_row (tell_int .u8))) A_io0_7_0 c_io0_7_0 a_io0_7, rR (aE T_roadref4_Packet.T) A_3 c_3 a_3, rV bk_4 66 cs_4]) (ne_io0_4_0 : n_io0_4_0 = List.length a_io0_4) (ne_io0_7_0 : n_io0_7_0 = List.length a_io0_7) (ne_3 : n_3 = List.length a_3) (e_4 : T_roadref4_Packet.E m y_4 cs_4) {r : (List T_roadref4_Packet) × T_roadref4_End} (e : roadref4_End_Out.j2 x_io0_0 x_io0_1 x_io0_2 x_io0_3 a_io0_4 x_io0_5 x_io0_6 a_io0_7 b_io0_8 a_3 y_4 b_93 = some r) : f29.j2 (roadref4_End_Out.post W bk_io0 h0 m0 r) (⟨bk_io0, 0, none⟩ : Addr) A_3 n_3 c_3 (⟨bk_4, 0, none⟩ : Addr) b_93 h := by
  unfold roadref4_End_Out.j2 at e
  subst ne_io0_4_0
  subst ne_io0_7_0
  subst ne_3
  refine f29.j2_in ?_
  unfold f29.j2T
  refine split_any_e e (fun c12 e => ?_) (fun c12 e => ?_)
  · refine ⟨_, ldk (k := 4) (Sub.refl _) (O.all 0 rfl) rfl, _, _, _, rfl, ?_⟩
    refine O.stE0 4 rfl (lt_len (T_roadref4_Packet.T.len _ _ _ e_4) (by decide)) trivial (T_roadref4_Packet.s0 e_4 (IntKind.wrap .u32 (((List.length a_io0_4) : Nat) : Int))) fun h1 cs3 e4 O2 => ?_
    refine ⟨_, ldAn (Sub.refl _) (O2.all 4 rfl) (T_roadref4_Packet.T.len _ _ _ e4), ?_⟩
    refine ⟨cs3, rfl, (T_roadref4_Packet.T.len _ _ _ e4), ?_⟩
    refine O2.new fun h5 x6 O7 => ?_
    have O9 := O7.recell 5 rfl (cs' := cs3 ++ []) rfl
    have O10 := O9.rowE (l := ([({ y_4 with Seq := (IntKind.wrap .u32 (((List.length a_io0_4) : Nat) : Int)) })] : List T_roadref4_Packet)) 5 rfl T_roadref4_Packet.T (show CsE _ _ _ _ _ from (CsE.cons e4 (T_roadref4_Packet.T.len _ _ _ e4) CsE.nil)) rfl
    have O11 := O10.nm
    exact roadref4_End_Out.j1.walk (O11.pick [0, 1, 2, 5]).nm rfl rfl rfl e
  · exact roadref4_End_Out.j1.walk (O.pick [0, 1, 2, 3]).nm rfl rfl rfl e

noncomputable def roadref4_End_Out.j0 (x_io0_0 : Int) (x_io0_1 : Int) (x_io0_2 : Int) (x_io0_3 : Int) (a_io0_4 : (List (List Int))) (x_io0_5 : Int) (x_io0_6 : Int) (a_io0_7 : (List (List Int))) (b_io0_8 : Bool) (a_3 : List T_roadref4_Packet) (y_4 : T_roadref4_Packet) : Option ((List T_roadref4_Packet) × T_roadref4_End) :=
  if (((List.length a_3) : Nat) : Int) = (0 : Int) then ((roadref4_End_Out.j2 x_io0_0 x_io0_1 x_io0_2 x_io0_3 a_io0_4 x_io0_5 x_io0_6 a_io0_7 b_io0_8 a_3 y_4 b_io0_8)) else ((roadref4_End_Out.j2 x_io0_0 x_io0_1 x_io0_2 x_io0_3 a_io0_4 x_io0_5 x_io0_6 a_io0_7 b_io0_8 a_3 y_4 false))
set_option maxRecDepth 100000 in
theorem roadref4_End_Out.j0.walk {W : Nat → Prop} {h0 m0 h m : Heap} {bk_io0 : Nat} {A_io0_4_0 : Option Addr} {n_io0_4_0 : Nat} {c_io0_4_0 : Nat} {A_io0_7_0 : Option Addr} {n_io0_7_0 : Nat} {c_io0_7_0 : Nat} {A_3 : Option Addr} {n_3 c_3 : Nat} {bk_4 : Nat} {cs_4 : List Value} {x_io0_0 : Int} {x_io0_1 : Int} {x_io0_2 : Int} {x_io0_3 : Int} {a_io0_4 : (List (List Int))} {x_io0_5 : Int} {x_io0_6 : Int} {a_io0_7 : (List (List Int))} {b_io0_8 : Bool} {a_3 : List T_roadref4_Packet} {y_4 : T_roadref4_Packet} (O : Hold W h0 m0 h m [rV bk_io0 61 [(Value.int .i64 x_io0_0), (Value.int .i64 x_io0_1), (Value.int .i64 x_io0_2), (Value.int .i64 x_io0_3), (Value.slice A_io0_4_0 n_io0_4_0 c_io0_4_0), (Value.int .i64 x_io0_5), (Value.int .i64 x_io0_6), (Value.slice A_io0_7_0 n_io0_7_0 c_io0_7_0), (Value.bool b_io0_8)], rR (aE (tell_row (tell_int .u8))) A_io0_4_0 c_io0_4_0 a_io0_4, rR (aE (tell_row (tell_int .u8))) A_io0_7_0 c_io0_7_0 a_io0_7, rR (aE T_roadref4_Packet.T) A_3 c_3 a_3, rV bk_4 66 cs_4]) (ne_io0_4_0 : n_io0_4_0 = List.length a_io0_4) (ne_io0_7_0 : n_io0_7_0 = List.length a_io0_7) (ne_3 : n_3 = List.length a_3) (e_4 : T_roadref4_Packet.E m y_4 cs_4) {r : (List T_roadref4_Packet) × T_roadref4_End} (e : roadref4_End_Out.j0 x_io0_0 x_io0_1 x_io0_2 x_io0_3 a_io0_4 x_io0_5 x_io0_6 a_io0_7 b_io0_8 a_3 y_4 = some r) : f29.j0 (roadref4_End_Out.post W bk_io0 h0 m0 r) (⟨bk_io0, 0, none⟩ : Addr) A_3 n_3 c_3 (⟨bk_4, 0, none⟩ : Addr) h := by
  unfold roadref4_End_Out.j0 at e
  subst ne_io0_4_0
  subst ne_io0_7_0
  subst ne_3
  refine f29.j0_in ?_
  unfold f29.j0T
  refine split_eq_e e (fun c1 e => ?_) (fun c1 e => ?_)
  · refine ⟨_, ldk (k := 8) (Sub.refl _) (O.all 0 rfl) rfl, _, rfl, ?_⟩
    exact roadref4_End_Out.j2.walk (O.pick [0, 1, 2, 3, 4]).nm rfl rfl rfl e_4 e
  · exact roadref4_End_Out.j2.walk (O.pick [0, 1, 2, 3, 4]).nm rfl rfl rfl e_4 e

inductive roadref4_End_Out.l0_k.Pt where
  | l0 (x_io0_0 : Int) (x_io0_1 : Int) (x_io0_2 : Int) (x_io0_3 : Int) (a_io0_4 : (List (List Int))) (x_io0_5 : Int) (x_io0_6 : Int) (a_io0_7 : (List (List Int))) (b_io0_8 : Bool) (a_3 : List T_roadref4_Packet) (y_4 : T_roadref4_Packet) (x_5 : Int)
  | j3 (x_io0_0 : Int) (x_io0_1 : Int) (x_io0_2 : Int) (x_io0_3 : Int) (a_io0_4 : (List (List Int))) (x_io0_5 : Int) (x_io0_6 : Int) (a_io0_7 : (List (List Int))) (b_io0_8 : Bool) (a_3 : List T_roadref4_Packet) (y_4 : T_roadref4_Packet) (x_5 : Int)
  | j4 (x_io0_0 : Int) (x_io0_1 : Int) (x_io0_2 : Int) (x_io0_3 : Int) (a_io0_4 : (List (List Int))) (x_io0_5 : Int) (x_io0_6 : Int) (a_io0_7 : (List (List Int))) (b_io0_8 : Bool) (a_3 : List T_roadref4_Packet) (y_4 : T_roadref4_Packet) (x_5 : Int)
noncomputable def roadref4_End_Out.l0_k.body (go : (p : roadref4_End_Out.l0_k.Pt) → Option ((List T_roadref4_Packet) × T_roadref4_End)) : (p : roadref4_End_Out.l0_k.Pt) → Option ((List T_roadref4_Packet) × T_roadref4_End)
  | .l0 x_io0_0 x_io0_1 x_io0_2 x_io0_3 a_io0_4 x_io0_5 x_io0_6 a_io0_7 b_io0_8 a_3 y_4 x_5 => if x_5 < (((List.length a_io0_4) : Nat) : Int) then (if x_5 < (IntKind.wrap .i64 (x_io0_2 + x_io0_1)) then ((go (.j3 x_io0_0 x_io0_1 x_io0_2 x_io0_3 a_io0_4 x_io0_5 x_io0_6 a_io0_7 b_io0_8 a_3 y_4 x_5))) else ((roadref4_End_Out.j0 x_io0_0 x_io0_1 x_io0_2 x_io0_3 a_io0_4 x_io0_5 x_io0_6 a_io0_7 b_io0_8 a_3 y_4))) else ((roadref4_End_Out.j0 x_io0_0 x_io0_1 x_io0_2 x_io0_3 a_io0_4 x_io0_5 x_io0_6 a_io0_7 b_io0_8 a_3 y_4))
  | .j3 x_io0_0 x_io0_1 x_io0_2 x_io0_3 a_io0_4 x_io0_5 x_io0_6 a_io0_7 b_io0_8 a_3 y_4 x_5 => if (IntKind.wrap .i64 (x_5 - x_io0_2)) ≥ x_io0_3 then (Option.bind (gi a_io0_4 x_5) fun y1 => Option.bind (ap 48 a_3 ([(T_roadref4_Packet.mk (IntKind.wrap .u32 x_5) y_4.Ack true y_4.Window y1)] : List T_roadref4_Packet)) fun l12 => (go (.j4 x_io0_0 x_io0_1 x_io0_2 (IntKind.wrap .i64 ((IntKind.wrap .i64 (x_5 - x_io0_2)) + (1 : Int))) a_io0_4 x_io0_5 x_io0_6 a_io0_7 b_io0_8 l12 y_4 x_5))) else ((go (.j4 x_io0_0 x_io0_1 x_io0_2 x_io0_3 a_io0_4 x_io0_5 x_io0_6 a_io0_7 b_io0_8 a_3 y_4 x_5)))
  | .j4 x_io0_0 x_io0_1 x_io0_2 x_io0_3 a_io0_4 x_io0_5 x_io0_6 a_io0_7 b_io0_8 a_3 y_4 x_5 => (go (.l0 x_io0_0 x_io0_1 x_io0_2 x_io0_3 a_io0_4 x_io0_5 x_io0_6 a_io0_7 b_io0_8 a_3 y_4 (IntKind.wrap .i64 (x_5 + (1 : Int)))))
theorem roadref4_End_Out.l0_k.mono : MonoF (β := fun _ => ((List T_roadref4_Packet) × T_roadref4_End)) roadref4_End_Out.l0_k.body := fun f g hfg p => match p with
  | .l0 x_io0_0 x_io0_1 x_io0_2 x_io0_3 a_io0_4 x_io0_5 x_io0_6 a_io0_7 b_io0_8 a_3 y_4 x_5 => LeO.ite (LeO.ite ((hfg _)) ((LeO.refl _))) ((LeO.refl _))
  | .j3 x_io0_0 x_io0_1 x_io0_2 x_io0_3 a_io0_4 x_io0_5 x_io0_6 a_io0_7 b_io0_8 a_3 y_4 x_5 => LeO.ite (LeO.bind (LeO.refl _) fun y1 => LeO.bind (LeO.refl _) fun l12 => (hfg _)) ((hfg _))
  | .j4 x_io0_0 x_io0_1 x_io0_2 x_io0_3 a_io0_4 x_io0_5 x_io0_6 a_io0_7 b_io0_8 a_3 y_4 x_5 => (hfg _)
noncomputable def roadref4_End_Out.l0_k.go (p : roadref4_End_Out.l0_k.Pt) : Option ((List T_roadref4_Packet) × T_roadref4_End) := fixF (β := fun _ => ((List T_roadref4_Packet) × T_roadref4_End)) roadref4_End_Out.l0_k.body p
noncomputable def roadref4_End_Out.l0 (x_io0_0 : Int) (x_io0_1 : Int) (x_io0_2 : Int) (x_io0_3 : Int) (a_io0_4 : (List (List Int))) (x_io0_5 : Int) (x_io0_6 : Int) (a_io0_7 : (List (List Int))) (b_io0_8 : Bool) (a_3 : List T_roadref4_Packet) (y_4 : T_roadref4_Packet) (x_5 : Int) : Option ((List T_roadref4_Packet) × T_roadref4_End) := roadref4_End_Out.l0_k.go (.l0 x_io0_0 x_io0_1 x_io0_2 x_io0_3 a_io0_4 x_io0_5 x_io0_6 a_io0_7 b_io0_8 a_3 y_4 x_5)
noncomputable def roadref4_End_Out.j3 (x_io0_0 : Int) (x_io0_1 : Int) (x_io0_2 : Int) (x_io0_3 : Int) (a_io0_4 : (List (List Int))) (x_io0_5 : Int) (x_io0_6 : Int) (a_io0_7 : (List (List Int))) (b_io0_8 : Bool) (a_3 : List T_roadref4_Packet) (y_4 : T_roadref4_Packet) (x_5 : Int) : Option ((List T_roadref4_Packet) × T_roadref4_End) := roadref4_End_Out.l0_k.go (.j3 x_io0_0 x_io0_1 x_io0_2 x_io0_3 a_io0_4 x_io0_5 x_io0_6 a_io0_7 b_io0_8 a_3 y_4 x_5)
noncomputable def roadref4_End_Out.j4 (x_io0_0 : Int) (x_io0_1 : Int) (x_io0_2 : Int) (x_io0_3 : Int) (a_io0_4 : (List (List Int))) (x_io0_5 : Int) (x_io0_6 : Int) (a_io0_7 : (List (List Int))) (b_io0_8 : Bool) (a_3 : List T_roadref4_Packet) (y_4 : T_roadref4_Packet) (x_5 : Int) : Option ((List T_roadref4_Packet) × T_roadref4_End) := roadref4_End_Out.l0_k.go (.j4 x_io0_0 x_io0_1 x_io0_2 x_io0_3 a_io0_4 x_io0_5 x_io0_6 a_io0_7 b_io0_8 a_3 y_4 x_5)
theorem roadref4_End_Out.l0_eq (x_io0_0 : Int) (x_io0_1 : Int) (x_io0_2 : Int) (x_io0_3 : Int) (a_io0_4 : (List (List Int))) (x_io0_5 : Int) (x_io0_6 : Int) (a_io0_7 : (List (List Int))) (b_io0_8 : Bool) (a_3 : List T_roadref4_Packet) (y_4 : T_roadref4_Packet) (x_5 : Int) : roadref4_End_Out.l0 x_io0_0 x_io0_1 x_io0_2 x_io0_3 a_io0_4 x_io0_5 x_io0_6 a_io0_7 b_io0_8 a_3 y_4 x_5 = if x_5 < (((List.length a_io0_4) : Nat) : Int) then (if x_5 < (IntKind.wrap .i64 (x_io0_2 + x_io0_1)) then ((roadref4_End_Out.j3 x_io0_0 x_io0_1 x_io0_2 x_io0_3 a_io0_4 x_io0_5 x_io0_6 a_io0_7 b_io0_8 a_3 y_4 x_5)) else ((roadref4_End_Out.j0 x_io0_0 x_io0_1 x_io0_2 x_io0_3 a_io0_4 x_io0_5 x_io0_6 a_io0_7 b_io0_8 a_3 y_4))) else ((roadref4_End_Out.j0 x_io0_0 x_io0_1 x_io0_2 x_io0_3 a_io0_4 x_io0_5 x_io0_6 a_io0_7 b_io0_8 a_3 y_4)) := fixF_eq roadref4_End_Out.l0_k.mono _
theorem roadref4_End_Out.j3_eq (x_io0_0 : Int) (x_io0_1 : Int) (x_io0_2 : Int) (x_io0_3 : Int) (a_io0_4 : (List (List Int))) (x_io0_5 : Int) (x_io0_6 : Int) (a_io0_7 : (List (List Int))) (b_io0_8 : Bool) (a_3 : List T_roadref4_Packet) (y_4 : T_roadref4_Packet) (x_5 : Int) : roadref4_End_Out.j3 x_io0_0 x_io0_1 x_io0_2 x_io0_3 a_io0_4 x_io0_5 x_io0_6 a_io0_7 b_io0_8 a_3 y_4 x_5 = if (IntKind.wrap .i64 (x_5 - x_io0_2)) ≥ x_io0_3 then (Option.bind (gi a_io0_4 x_5) fun y1 => Option.bind (ap 48 a_3 ([(T_roadref4_Packet.mk (IntKind.wrap .u32 x_5) y_4.Ack true y_4.Window y1)] : List T_roadref4_Packet)) fun l12 => (roadref4_End_Out.j4 x_io0_0 x_io0_1 x_io0_2 (IntKind.wrap .i64 ((IntKind.wrap .i64 (x_5 - x_io0_2)) + (1 : Int))) a_io0_4 x_io0_5 x_io0_6 a_io0_7 b_io0_8 l12 y_4 x_5)) else ((roadref4_End_Out.j4 x_io0_0 x_io0_1 x_io0_2 x_io0_3 a_io0_4 x_io0_5 x_io0_6 a_io0_7 b_io0_8 a_3 y_4 x_5)) := fixF_eq roadref4_End_Out.l0_k.mono _
theorem roadref4_End_Out.j4_eq (x_io0_0 : Int) (x_io0_1 : Int) (x_io0_2 : Int) (x_io0_3 : Int) (a_io0_4 : (List (List Int))) (x_io0_5 : Int) (x_io0_6 : Int) (a_io0_7 : (List (List Int))) (b_io0_8 : Bool) (a_3 : List T_roadref4_Packet) (y_4 : T_roadref4_Packet) (x_5 : Int) : roadref4_End_Out.j4 x_io0_0 x_io0_1 x_io0_2 x_io0_3 a_io0_4 x_io0_5 x_io0_6 a_io0_7 b_io0_8 a_3 y_4 x_5 = (roadref4_End_Out.l0 x_io0_0 x_io0_1 x_io0_2 x_io0_3 a_io0_4 x_io0_5 x_io0_6 a_io0_7 b_io0_8 a_3 y_4 (IntKind.wrap .i64 (x_5 + (1 : Int)))) := fixF_eq roadref4_End_Out.l0_k.mono _
def roadref4_End_Out.l0_k.I : (p : roadref4_End_Out.l0_k.Pt) → ((List T_roadref4_Packet) × T_roadref4_End) → Prop
  | .l0 x_io0_0 x_io0_1 x_io0_2 x_io0_3 a_io0_4 x_io0_5 x_io0_6 a_io0_7 b_io0_8 a_3 y_4 x_5, r => ∀ (W : Nat → Prop) (h0 m0 h m : Heap) (bk_io0 : Nat) (A_io0_4_0 : Option Addr) (n_io0_4_0 : Nat) (c_io0_4_0 : Nat) (A_io0_7_0 : Option Addr) (n_io0_7_0 : Nat) (c_io0_7_0 : Nat) (A_3 : Option Addr) (n_3 c_3 : Nat) (bk_4 : Nat) (cs_4 : List Value) (O : Hold W h0 m0 h m [rV bk_io0 61 [(Value.int .i64 x_io0_0), (Value.int .i64 x_io0_1), (Value.int .i64 x_io0_2), (Value.int .i64 x_io0_3), (Value.slice A_io0_4_0 n_io0_4_0 c_io0_4_0), (Value.int .i64 x_io0_5), (Value.int .i64 x_io0_6), (Value.slice A_io0_7_0 n_io0_7_0 c_io0_7_0), (Value.bool b_io0_8)], rR (aE (tell_row (tell_int .u8))) A_io0_4_0 c_io0_4_0 a_io0_4, rR (aE (tell_row (tell_int .u8))) A_io0_7_0 c_io0_7_0 a_io0_7, rR (aE T_roadref4_Packet.T) A_3 c_3 a_3, rV bk_4 66 cs_4]) (ne_io0_4_0 : n_io0_4_0 = List.length a_io0_4) (ne_io0_7_0 : n_io0_7_0 = List.length a_io0_7) (ne_3 : n_3 = List.length a_3) (e_4 : T_roadref4_Packet.E m y_4 cs_4), f29.l0 (roadref4_End_Out.post W bk_io0 h0 m0 r) (⟨bk_io0, 0, none⟩ : Addr) A_3 n_3 c_3 (⟨bk_4, 0, none⟩ : Addr) x_5 h
  | .j3 x_io0_0 x_io0_1 x_io0_2 x_io0_3 a_io0_4 x_io0_5 x_io0_6 a_io0_7 b_io0_8 a_3 y_4 x_5, r => ∀ (W : Nat → Prop) (h0 m0 h m : Heap) (bk_io0 : Nat) (A_io0_4_0 : Option Addr) (n_io0_4_0 : Nat) (c_io0_4_0 : Nat) (A_io0_7_0 : Option Addr) (n_io0_7_0 : Nat) (c_io0_7_0 : Nat) (A_3 : Option Addr) (n_3 c_3 : Nat) (bk_4 : Nat) (cs_4 : List Value) (O : Hold W h0 m0 h m [rV bk_io0 61 [(Value.int .i64 x_io0_0), (Value.int .i64 x_io0_1), (Value.int .i64 x_io0_2), (Value.int .i64 x_io0_3), (Value.slice A_io0_4_0 n_io0_4_0 c_io0_4_0), (Value.int .i64 x_io0_5), (Value.int .i64 x_io0_6), (Value.slice A_io0_7_0 n_io0_7_0 c_io0_7_0), (Value.bool b_io0_8)], rR (aE (tell_row (tell_int .u8))) A_io0_4_0 c_io0_4_0 a_io0_4, rR (aE (tell_row (tell_int .u8))) A_io0_7_0 c_io0_7_0 a_io0_7, rR (aE T_roadref4_Packet.T) A_3 c_3 a_3, rV bk_4 66 cs_4]) (ne_io0_4_0 : n_io0_4_0 = List.length a_io0_4) (ne_io0_7_0 : n_io0_7_0 = List.length a_io0_7) (ne_3 : n_3 = List.length a_3) (e_4 : T_roadref4_Packet.E m y_4 cs_4), f29.j3 (roadref4_End_Out.post W bk_io0 h0 m0 r) (⟨bk_io0, 0, none⟩ : Addr) A_3 n_3 c_3 (⟨bk_4, 0, none⟩ : Addr) x_5 h
  | .j4 x_io0_0 x_io0_1 x_io0_2 x_io0_3 a_io0_4 x_io0_5 x_io0_6 a_io0_7 b_io0_8 a_3 y_4 x_5, r => ∀ (W : Nat → Prop) (h0 m0 h m : Heap) (bk_io0 : Nat) (A_io0_4_0 : Option Addr) (n_io0_4_0 : Nat) (c_io0_4_0 : Nat) (A_io0_7_0 : Option Addr) (n_io0_7_0 : Nat) (c_io0_7_0 : Nat) (A_3 : Option Addr) (n_3 c_3 : Nat) (bk_4 : Nat) (cs_4 : List Value) (O : Hold W h0 m0 h m [rV bk_io0 61 [(Value.int .i64 x_io0_0), (Value.int .i64 x_io0_1), (Value.int .i64 x_io0_2), (Value.int .i64 x_io0_3), (Value.slice A_io0_4_0 n_io0_4_0 c_io0_4_0), (Value.int .i64 x_io0_5), (Value.int .i64 x_io0_6), (Value.slice A_io0_7_0 n_io0_7_0 c_io0_7_0), (Value.bool b_io0_8)], rR (aE (tell_row (tell_int .u8))) A_io0_4_0 c_io0_4_0 a_io0_4, rR (aE (tell_row (tell_int .u8))) A_io0_7_0 c_io0_7_0 a_io0_7, rR (aE T_roadref4_Packet.T) A_3 c_3 a_3, rV bk_4 66 cs_4]) (ne_io0_4_0 : n_io0_4_0 = List.length a_io0_4) (ne_io0_7_0 : n_io0_7_0 = List.length a_io0_7) (ne_3 : n_3 = List.length a_3) (e_4 : T_roadref4_Packet.E m y_4 cs_4), f29.j4 (roadref4_End_Out.post W bk_io0 h0 m0 r) (⟨bk_io0, 0, none⟩ : Addr) A_3 n_3 c_3 (⟨bk_4, 0, none⟩ : Addr) x_5 h
set_option maxRecDepth 100000 in
theorem roadref4_End_Out.l0_k.step_l0 (go : (p : roadref4_End_Out.l0_k.Pt) → Option ((List T_roadref4_Packet) × T_roadref4_End)) (ih : ∀ p r, go p = some r → roadref4_End_Out.l0_k.I p r) (x_io0_0 : Int) (x_io0_1 : Int) (x_io0_2 : Int) (x_io0_3 : Int) (a_io0_4 : (List (List Int))) (x_io0_5 : Int) (x_io0_6 : Int) (a_io0_7 : (List (List Int))) (b_io0_8 : Bool) (a_3 : List T_roadref4_Packet) (y_4 : T_roadref4_Packet) (x_5 : Int) (r : (List T_roadref4_Packet) × T_roadref4_End) (e : roadref4_End_Out.l0_k.body go (.l0 x_io0_0 x_io0_1 x_io0_2 x_io0_3 a_io0_4 x_io0_5 x_io0_6 a_io0_7 b_io0_8 a_3 y_4 x_5) = some r) : roadref4_End_Out.l0_k.I (.l0 x_io0_0 x_io0_1 x_io0_2 x_io0_3 a_io0_4 x_io0_5 x_io0_6 a_io0_7 b_io0_8 a_3 y_4 x_5) r := by
  unfold roadref4_End_Out.l0_k.body at e
  intro W h0 m0 h m bk_io0 A_io0_4_0 n_io0_4_0 c_io0_4_0 A_io0_7_0 n_io0_7_0 c_io0_7_0 A_3 n_3 c_3 bk_4 cs_4 O ne_io0_4_0 ne_io0_7_0 ne_3 e_4
  subst ne_io0_4_0
  subst ne_io0_7_0
  subst ne_3
  refine f29.l0_in ?_
  unfold f29.l0T
  refine ⟨_, ldk (k := 4) (Sub.refl _) (O.all 0 rfl) rfl, _, _, _, rfl, ?_⟩
  refine split_dec_e e (fun c2 e => ?_) (fun c2 e => ?_)
  · refine ⟨_, ldk (k := 2) (Sub.refl _) (O.all 0 rfl) rfl, _, rfl, ?_⟩
    refine ⟨_, ldk (k := 1) (Sub.refl _) (O.all 0 rfl) rfl, _, rfl, ?_⟩
    refine split_dec_e e (fun c1 e => ?_) (fun c1 e => ?_)
    · exact (ih _ _ e) _ _ _ _ _ _ _ _ _ _ _ _ _ _ _ _ _ (O.pick [0, 1, 2, 3, 4]).nm rfl rfl rfl e_4
    · exact roadref4_End_Out.j0.walk (O.pick [0, 1, 2, 3, 4]).nm rfl rfl rfl e_4 e
  · exact roadref4_End_Out.j0.walk (O.pick [0, 1, 2, 3, 4]).nm rfl rfl rfl e_4 e
set_option maxRecDepth 100000 in
theorem roadref4_End_Out.l0_k.step_j3 (go : (p : roadref4_End_Out.l0_k.Pt) → Option ((List T_roadref4_Packet) × T_roadref4_End)) (ih : ∀ p r, go p = some r → roadref4_End_Out.l0_k.I p r) (x_io0_0 : Int) (x_io0_1 : Int) (x_io0_2 : Int) (x_io0_3 : Int) (a_io0_4 : (List (List Int))) (x_io0_5 : Int) (x_io0_6 : Int) (a_io0_7 : (List (List Int))) (b_io0_8 : Bool) (a_3 : List T_roadref4_Packet) (y_4 : T_roadref4_Packet) (x_5 : Int) (r : (List T_roadref4_Packet) × T_roadref4_End) (e : roadref4_End_Out.l0_k.body go (.j3 x_io0_0 x_io0_1 x_io0_2 x_io0_3 a_io0_4 x_io0_5 x_io0_6 a_io0_7 b_io0_8 a_3 y_4 x_5) = some r) : roadref4_End_Out.l0_k.I (.j3 x_io0_0 x_io0_1 x_io0_2 x_io0_3 a_io0_4 x_io0_5 x_io0_6 a_io0_7 b_io0_8 a_3 y_4 x_5) r := by
  unfold roadref4_End_Out.l0_k.body at e
  intro W h0 m0 h m bk_io0 A_io0_4_0 n_io0_4_0 c_io0_4_0 A_io0_7_0 n_io0_7_0 c_io0_7_0 A_3 n_3 c_3 bk_4 cs_4 O ne_io0_4_0 ne_io0_7_0 ne_3 e_4
  subst ne_io0_4_0
  subst ne_io0_7_0
  subst ne_3
  refine f29.j3_in ?_
  unfold f29.j3T
  refine ⟨_, ldk (k := 2) (Sub.refl _) (O.all 0 rfl) rfl, _, rfl, ?_⟩
  refine ⟨_, ldk (k := 3) (Sub.refl _) (O.all 0 rfl) rfl, _, rfl, ?_⟩
  refine split_dec_e e (fun c24 e => ?_) (fun c24 e => ?_)
  · refine ⟨_, ldk (k := 1) (Sub.refl _) (O.all 4 rfl) (T_roadref4_Packet.g1 e_4), _, rfl, ?_⟩
    refine ⟨_, ldk (k := 3) (Sub.refl _) (O.all 4 rfl) (T_roadref4_Packet.g3 e_4), _, rfl, ?_⟩
    refine ⟨_, ldk (k := 4) (Sub.refl _) (O.all 0 rfl) rfl, _, _, _, rfl, ?_⟩
    obtain ⟨y1, g2, e⟩ := bind_e e
    refine (O.os 1 rfl).addr rfl g2 fun a3 cs4 ha5 hc6 he7 => ?_
    obtain ⟨Acs4_0, ccs4_0, rfl, kcs4_0, rcs4_0⟩ := id he7
    refine ⟨_, ld0 (Sub.refl _) hc6 rfl, _, _, _, rfl, ?_⟩
    refine ⟨[(Value.int .u32 (IntKind.wrap .u32 x_5)), (Value.int .u32 y_4.Ack), (Value.bool true), (Value.int .i64 y_4.Window), (Value.slice Acs4_0 (List.length y1) ccs4_0)], rfl, rfl, ?_⟩
    refine O.new fun h8 x9 O10 => ?_
    obtain ⟨l12, g13, e⟩ := bind_e e
    have O20 := O10.rowE (l := ([(T_roadref4_Packet.mk (IntKind.wrap .u32 x_5) y_4.Ack true y_4.Window y1)] : List T_roadref4_Packet)) 5 rfl T_roadref4_Packet.T (show CsE _ _ _ _ _ from (CsE.cons (c1 := [(Value.int .u32 (IntKind.wrap .u32 x_5)), (Value.int .u32 y_4.Ack), (Value.bool true), (Value.int .i64 y_4.Window), (Value.slice Acs4_0 (List.length y1) ccs4_0)]) (show T_roadref4_Packet.E _ (T_roadref4_Packet.mk (IntKind.wrap .u32 x_5) y_4.Ack true y_4.Window y1) [(Value.int .u32 (IntKind.wrap .u32 x_5)), (Value.int .u32 y_4.Ack), (Value.bool true), (Value.int .i64 y_4.Window), (Value.slice Acs4_0 (List.length y1) ccs4_0)] from ⟨_, _, rfl, kcs4_0, rcs4_0⟩) rfl CsE.nil)) rfl
    refine O20.app 3 rfl rfl rfl ((O20.os 5 rfl).srcE rfl) (by decide) g13 fun A14 c15 h16 O17 => ?_
    refine ⟨_, _, _, rfl, ?_⟩
    refine ⟨_, ldk (k := 2) (Sub.refl _) (O17.all 0 rfl) rfl, _, rfl, ?_⟩
    refine O17.st 0 rfl 3 (Nat.le_of_ble_eq_true rfl) trivial fun h21 O22 => ?_
    have O23 := O22.nm
    exact (ih _ _ e) _ _ _ _ _ _ _ _ _ _ _ _ _ _ _ _ _ (O23.pick [0, 1, 2, 3, 4]).nm rfl rfl rfl e_4
  · exact (ih _ _ e) _ _ _ _ _ _ _ _ _ _ _ _ _ _ _ _ _ (O.pick [0, 1, 2, 3, 4]).nm rfl rfl rfl e_4
set_option maxRecDepth 100000 in
theorem roadref4_End_Out.l0_k.step_j4 (go : (p : roadref4_End_Out.l0_k.Pt) → Option ((List T_roadref4_Packet) × T_roadref4_End)) (ih : ∀ p r, go p = some r → roadref4_End_Out.l0_k.I p r) (x_io0_0 : Int) (x_io0_1 : Int) (x_io0_2 : Int) (x_io0_3 : Int) (a_io0_4 : (List (List Int))) (x_io0_5 : Int) (x_io0_6 : Int) (a_io0_7 : (List (List Int))) (b_io0_8 : Bool) (a_3 : List T_roadref4_Packet) (y_4 : T_roadref4_Packet) (x_5 : Int) (r : (List T_roadref4_Packet) × T_roadref4_End) (e : roadref4_End_Out.l0_k.body go (.j4 x_io0_0 x_io0_1 x_io0_2 x_io0_3 a_io0_4 x_io0_5 x_io0_6 a_io0_7 b_io0_8 a_3 y_4 x_5) = some r) : roadref4_End_Out.l0_k.I (.j4 x_io0_0 x_io0_1 x_io0_2 x_io0_3 a_io0_4 x_io0_5 x_io0_6 a_io0_7 b_io0_8 a_3 y_4 x_5) r := by
  unfold roadref4_End_Out.l0_k.body at e
  intro W h0 m0 h m bk_io0 A_io0_4_0 n_io0_4_0 c_io0_4_0 A_io0_7_0 n_io0_7_0 c_io0_7_0 A_3 n_3 c_3 bk_4 cs_4 O ne_io0_4_0 ne_io0_7_0 ne_3 e_4
  subst ne_io0_4_0
  subst ne_io0_7_0
  subst ne_3
  refine f29.j4_in ?_
  unfold f29.j4T
  exact (ih _ _ e) _ _ _ _ _ _ _ _ _ _ _ _ _ _ _ _ _ (O.pick [0, 1, 2, 3, 4]).nm rfl rfl rfl e_4
theorem roadref4_End_Out.l0_k.all {p : roadref4_End_Out.l0_k.Pt} {r : ((List T_roadref4_Packet) × T_roadref4_End)} (e : roadref4_End_Out.l0_k.go p = some r) : roadref4_End_Out.l0_k.I p r := fixF_ind (β := fun _ => ((List T_roadref4_Packet) × T_roadref4_End)) roadref4_End_Out.l0_k.mono (I := roadref4_End_Out.l0_k.I) (fun go ih p r e => match p with
  | .l0 x_io0_0 x_io0_1 x_io0_2 x_io0_3 a_io0_4 x_io0_5 x_io0_6 a_io0_7 b_io0_8 a_3 y_4 x_5 => roadref4_End_Out.l0_k.step_l0 go ih x_io0_0 x_io0_1 x_io0_2 x_io0_3 a_io0_4 x_io0_5 x_io0_6 a_io0_7 b_io0_8 a_3 y_4 x_5 r e
  | .j3 x_io0_0 x_io0_1 x_io0_2 x_io0_3 a_io0_4 x_io0_5 x_io0_6 a_io0_7 b_io0_8 a_3 y_4 x_5 => roadref4_End_Out.l0_k.step_j3 go ih x_io0_0 x_io0_1 x_io0_2 x_io0_3 a_io0_4 x_io0_5 x_io0_6 a_io0_7 b_io0_8 a_3 y_4 x_5 r e
  | .j4 x_io0_0 x_io0_1 x_io0_2 x_io0_3 a_io0_4 x_io0_5 x_io0_6 a_io0_7 b_io0_8 a_3 y_4 x_5 => roadref4_End_Out.l0_k.step_j4 go ih x_io0_0 x_io0_1 x_io0_2 x_io0_3 a_io0_4 x_io0_5 x_io0_6 a_io0_7 b_io0_8 a_3 y_4 x_5 r e
  ) e
theorem roadref4_End_Out.l0.walk {W : Nat → Prop} {h0 m0 h m : Heap} {bk_io0 : Nat} {A_io0_4_0 : Option Addr} {n_io0_4_0 : Nat} {c_io0_4_0 : Nat} {A_io0_7_0 : Option Addr} {n_io0_7_0 : Nat} {c_io0_7_0 : Nat} {A_3 : Option Addr} {n_3 c_3 : Nat} {bk_4 : Nat} {cs_4 : List Value} {x_io0_0 : Int} {x_io0_1 : Int} {x_io0_2 : Int} {x_io0_3 : Int} {a_io0_4 : (List (List Int))} {x_io0_5 : Int} {x_io0_6 : Int} {a_io0_7 : (List (List Int))} {b_io0_8 : Bool} {a_3 : List T_roadref4_Packet} {y_4 : T_roadref4_Packet} {x_5 : Int} (O : Hold W h0 m0 h m [rV bk_io0 61 [(Value.int .i64 x_io0_0), (Value.int .i64 x_io0_1), (Value.int .i64 x_io0_2), (Value.int .i64 x_io0_3), (Value.slice A_io0_4_0 n_io0_4_0 c_io0_4_0), (Value.int .i64 x_io0_5), (Value.int .i64 x_io0_6), (Value.slice A_io0_7_0 n_io0_7_0 c_io0_7_0), (Value.bool b_io0_8)], rR (aE (tell_row (tell_int .u8))) A_io0_4_0 c_io0_4_0 a_io0_4, rR (aE (tell_row (tell_int .u8))) A_io0_7_0 c_io0_7_0 a_io0_7, rR (aE T_roadref4_Packet.T) A_3 c_3 a_3, rV bk_4 66 cs_4]) (ne_io0_4_0 : n_io0_4_0 = List.length a_io0_4) (ne_io0_7_0 : n_io0_7_0 = List.length a_io0_7) (ne_3 : n_3 = List.length a_3) (e_4 : T_roadref4_Packet.E m y_4 cs_4) {r : (List T_roadref4_Packet) × T_roadref4_End} (e : roadref4_End_Out.l0 x_io0_0 x_io0_1 x_io0_2 x_io0_3 a_io0_4 x_io0_5 x_io0_6 a_io0_7 b_io0_8 a_3 y_4 x_5 = some r) : f29.l0 (roadref4_End_Out.post W bk_io0 h0 m0 r) (⟨bk_io0, 0, none⟩ : Addr) A_3 n_3 c_3 (⟨bk_4, 0, none⟩ : Addr) x_5 h := roadref4_End_Out.l0_k.all (p := .l0 x_io0_0 x_io0_1 x_io0_2 x_io0_3 a_io0_4 x_io0_5 x_io0_6 a_io0_7 b_io0_8 a_3 y_4 x_5) e W h0 m0 h m bk_io0 A_io0_4_0 n_io0_4_0 c_io0_4_0 A_io0_7_0 n_io0_7_0 c_io0_7_0 A_3 n_3 c_3 bk_4 cs_4 O ne_io0_4_0 ne_io0_7_0 ne_3 e_4
theorem roadref4_End_Out.j3.walk {W : Nat → Prop} {h0 m0 h m : Heap} {bk_io0 : Nat} {A_io0_4_0 : Option Addr} {n_io0_4_0 : Nat} {c_io0_4_0 : Nat} {A_io0_7_0 : Option Addr} {n_io0_7_0 : Nat} {c_io0_7_0 : Nat} {A_3 : Option Addr} {n_3 c_3 : Nat} {bk_4 : Nat} {cs_4 : List Value} {x_io0_0 : Int} {x_io0_1 : Int} {x_io0_2 : Int} {x_io0_3 : Int} {a_io0_4 : (List (List Int))} {x_io0_5 : Int} {x_io0_6 : Int} {a_io0_7 : (List (List Int))} {b_io0_8 : Bool} {a_3 : List T_roadref4_Packet} {y_4 : T_roadref4_Packet} {x_5 : Int} (O : Hold W h0 m0 h m [rV bk_io0 61 [(Value.int .i64 x_io0_0), (Value.int .i64 x_io0_1), (Value.int .i64 x_io0_2), (Value.int .i64 x_io0_3), (Value.slice A_io0_4_0 n_io0_4_0 c_io0_4_0), (Value.int .i64 x_io0_5), (Value.int .i64 x_io0_6), (Value.slice A_io0_7_0 n_io0_7_0 c_io0_7_0), (Value.bool b_io0_8)], rR (aE (tell_row (tell_int .u8))) A_io0_4_0 c_io0_4_0 a_io0_4, rR (aE (tell_row (tell_int .u8))) A_io0_7_0 c_io0_7_0 a_io0_7, rR (aE T_roadref4_Packet.T) A_3 c_3 a_3, rV bk_4 66 cs_4]) (ne_io0_4_0 : n_io0_4_0 = List.length a_io0_4) (ne_io0_7_0 : n_io0_7_0 = List.length a_io0_7) (ne_3 : n_3 = List.length a_3) (e_4 : T_roadref4_Packet.E m y_4 cs_4) {r : (List T_roadref4_Packet) × T_roadref4_End} (e : roadref4_End_Out.j3 x_io0_0 x_io0_1 x_io0_2 x_io0_3 a_io0_4 x_io0_5 x_io0_6 a_io0_7 b_io0_8 a_3 y_4 x_5 = some r) : f29.j3 (roadref4_End_Out.post W bk_io0 h0 m0 r) (⟨bk_io0, 0, none⟩ : Addr) A_3 n_3 c_3 (⟨bk_4, 0, none⟩ : Addr) x_5 h := roadref4_End_Out.l0_k.all (p := .j3 x_io0_0 x_io0_1 x_io0_2 x_io0_3 a_io0_4 x_io0_5 x_io0_6 a_io0_7 b_io0_8 a_3 y_4 x_5) e W h0 m0 h m bk_io0 A_io0_4_0 n_io0_4_0 c_io0_4_0 A_io0_7_0 n_io0_7_0 c_io0_7_0 A_3 n_3 c_3 bk_4 cs_4 O ne_io0_4_0 ne_io0_7_0 ne_3 e_4
theorem roadref4_End_Out.j4.walk {W : Nat → Prop} {h0 m0 h m : Heap} {bk_io0 : Nat} {A_io0_4_0 : Option Addr} {n_io0_4_0 : Nat} {c_io0_4_0 : Nat} {A_io0_7_0 : Option Addr} {n_io0_7_0 : Nat} {c_io0_7_0 : Nat} {A_3 : Option Addr} {n_3 c_3 : Nat} {bk_4 : Nat} {cs_4 : List Value} {x_io0_0 : Int} {x_io0_1 : Int} {x_io0_2 : Int} {x_io0_3 : Int} {a_io0_4 : (List (List Int))} {x_io0_5 : Int} {x_io0_6 : Int} {a_io0_7 : (List (List Int))} {b_io0_8 : Bool} {a_3 : List T_roadref4_Packet} {y_4 : T_roadref4_Packet} {x_5 : Int} (O : Hold W h0 m0 h m [rV bk_io0 61 [(Value.int .i64 x_io0_0), (Value.int .i64 x_io0_1), (Value.int .i64 x_io0_2), (Value.int .i64 x_io0_3), (Value.slice A_io0_4_0 n_io0_4_0 c_io0_4_0), (Value.int .i64 x_io0_5), (Value.int .i64 x_io0_6), (Value.slice A_io0_7_0 n_io0_7_0 c_io0_7_0), (Value.bool b_io0_8)], rR (aE (tell_row (tell_int .u8))) A_io0_4_0 c_io0_4_0 a_io0_4, rR (aE (tell_row (tell_int .u8))) A_io0_7_0 c_io0_7_0 a_io0_7, rR (aE T_roadref4_Packet.T) A_3 c_3 a_3, rV bk_4 66 cs_4]) (ne_io0_4_0 : n_io0_4_0 = List.length a_io0_4) (ne_io0_7_0 : n_io0_7_0 = List.length a_io0_7) (ne_3 : n_3 = List.length a_3) (e_4 : T_roadref4_Packet.E m y_4 cs_4) {r : (List T_roadref4_Packet) × T_roadref4_End} (e : roadref4_End_Out.j4 x_io0_0 x_io0_1 x_io0_2 x_io0_3 a_io0_4 x_io0_5 x_io0_6 a_io0_7 b_io0_8 a_3 y_4 x_5 = some r) : f29.j4 (roadref4_End_Out.post W bk_io0 h0 m0 r) (⟨bk_io0, 0, none⟩ : Addr) A_3 n_3 c_3 (⟨bk_4, 0, none⟩ : Addr) x_5 h := roadref4_End_Out.l0_k.all (p := .j4 x_io0_0 x_io0_1 x_io0_2 x_io0_3 a_io0_4 x_io0_5 x_io0_6 a_io0_7 b_io0_8 a_3 y_4 x_5) e W h0 m0 h m bk_io0 A_io0_4_0 n_io0_4_0 c_io0_4_0 A_io0_7_0 n_io0_7_0 c_io0_7_0 A_3 n_3 c_3 bk_4 cs_4 O ne_io0_4_0 ne_io0_7_0 ne_3 e_4

noncomputable def roadref4_End_Out (y_0 : T_roadref4_End) : Option ((List T_roadref4_Packet) × T_roadref4_End) :=
  (roadref4_End_Out.l0 y_0.Window y_0.Limit y_0.Base y_0.Told y_0.All y_0.Took y_0.Read y_0.Got y_0.Owe ([] : List T_roadref4_Packet) (T_roadref4_Packet.mk (0 : Int) (IntKind.wrap .u32 y_0.Took) false (IntKind.wrap .i64 (y_0.Window - y_0.Read)) ([] : List Int)) y_0.Base)
set_option maxRecDepth 100000 in
theorem roadref4_End_Out.walk {W : Nat → Prop} {h m : Heap} {bkio0 : Nat} {A_0_4 : Option Addr} {n_0_4 : Nat} {c_0_4 : Nat} {A_0_7 : Option Addr} {n_0_7 : Nat} {c_0_7 : Nat} {y_0 : T_roadref4_End} (O : Hold W h m h m [rV bkio0 61 [(Value.int .i64 y_0.Window), (Value.int .i64 y_0.Limit), (Value.int .i64 y_0.Base), (Value.int .i64 y_0.Told), (Value.slice A_0_4 n_0_4 c_0_4), (Value.int .i64 y_0.Took), (Value.int .i64 y_0.Read), (Value.slice A_0_7 n_0_7 c_0_7), (Value.bool y_0.Owe)], rR (aE (tell_row (tell_int .u8))) A_0_4 c_0_4 y_0.All, rR (aE (tell_row (tell_int .u8))) A_0_7 c_0_7 y_0.Got]) (ne_0_4 : n_0_4 = List.length y_0.All) (ne_0_7 : n_0_7 = List.length y_0.Got) {r : (List T_roadref4_Packet) × T_roadref4_End} (e : roadref4_End_Out y_0 = some r) : Run Try.prog 29 #[Value.pointer (some ⟨bkio0, 0, none⟩)] h (roadref4_End_Out.post W bkio0 h m r) := by
  unfold roadref4_End_Out at e
  subst ne_0_4
  subst ne_0_7
  refine f29.run ?_
  unfold f29.runT
  refine ⟨_, ldk (k := 5) (Sub.refl _) (O.all 0 rfl) rfl, _, rfl, ?_⟩
  refine ⟨_, ld0 (Sub.refl _) (O.all 0 rfl) rfl, _, rfl, ?_⟩
  refine ⟨_, ldk (k := 6) (Sub.refl _) (O.all 0 rfl) rfl, _, rfl, ?_⟩
  refine ⟨?_, ?_⟩
  · refine O.new fun h10 x11 O12 => ?_
    refine ⟨x11, ?_⟩
    refine ⟨_, rfl, rfl, ?_⟩
    refine O12.stA 3 rfl rfl (Flats.cons trivial (Flats.cons trivial (Flats.cons trivial (Flats.cons trivial (Flats.cons trivial Flats.nil))))) fun h14 O15 => ?_
    refine ⟨_, ldk (k := 2) (Sub.refl _) (O15.all 0 rfl) rfl, _, rfl, ?_⟩
    have O16 := O15.nil (aE T_roadref4_Packet.T) none
    have O18 := O16.nm
    exact roadref4_End_Out.l0.walk (O18.pick [0, 1, 2, 4, 3]).nm rfl rfl rfl (show T_roadref4_Packet.E _ (T_roadref4_Packet.mk (0 : Int) (IntKind.wrap .u32 y_0.Took) false (IntKind.wrap .i64 (y_0.Window - y_0.Read)) ([] : List Int)) [(Value.int .u32 (0 : Int)), (Value.int .u32 (IntKind.wrap .u32 y_0.Took)), (Value.bool false), (Value.int .i64 (IntKind.wrap .i64 (y_0.Window - y_0.Read))), (Value.slice none 0 0)] from ⟨_, _, rfl, (Nat.le_refl 0), Rd.nil⟩) e
  · refine O.new fun h19 x20 O21 => ?_
    refine ⟨x20, ?_⟩
    refine ⟨_, rfl, rfl, ?_⟩
    refine O21.stA 3 rfl rfl (Flats.cons trivial (Flats.cons trivial (Flats.cons trivial (Flats.cons trivial (Flats.cons trivial Flats.nil))))) fun h23 O24 => ?_
    refine ⟨_, ldk (k := 2) (Sub.refl _) (O24.all 0 rfl) rfl, _, rfl, ?_⟩
    have O25 := O24.nil (aE T_roadref4_Packet.T) none
    have O27 := O25.nm
    exact roadref4_End_Out.l0.walk (O27.pick [0, 1, 2, 4, 3]).nm rfl rfl rfl (show T_roadref4_Packet.E _ (T_roadref4_Packet.mk (0 : Int) (IntKind.wrap .u32 y_0.Took) false (IntKind.wrap .i64 (y_0.Window - y_0.Read)) ([] : List Int)) [(Value.int .u32 (0 : Int)), (Value.int .u32 (IntKind.wrap .u32 y_0.Took)), (Value.bool false), (Value.int .i64 (IntKind.wrap .i64 (y_0.Window - y_0.Read))), (Value.slice none 0 0)] from ⟨_, _, rfl, (Nat.le_refl 0), Rd.nil⟩) e

/-! ### 37 bytes.Equal -/
def bytes_Equal.post (W : Nat → Prop) (h0 m0 : Heap) (r : Bool) (v : Value) (h : Heap) : Prop := ∃ m , Hold W h0 m0 h m [] ∧ v = .bool r
noncomputable def bytes_Equal (a_0 : List Int) (a_1 : List Int) : Option (Bool) :=
  some ((decide ((bytesOf a_0) = (bytesOf a_1))))
set_option maxRecDepth 100000 in
theorem bytes_Equal.walk {W : Nat → Prop} {h m : Heap} {A_0 : Option Addr} {n_0 c_0 : Nat} {A_1 : Option Addr} {n_1 c_1 : Nat} {a_0 : List Int} {a_1 : List Int} (O : Hold W h m h m []) (ne_0 : n_0 = List.length a_0) (k_0 : List.length a_0 ≤ c_0) (r_0 : Rd 1 (eInt .u8) m A_0 a_0) (ne_1 : n_1 = List.length a_1) (k_1 : List.length a_1 ≤ c_1) (r_1 : Rd 1 (eInt .u8) m A_1 a_1) {r : Bool} (e : bytes_Equal a_0 a_1 = some r) : Run Try.prog 37 #[Value.slice A_0 n_0 c_0, Value.slice A_1 n_1 c_1] h (bytes_Equal.post W h m r) := by
  unfold bytes_Equal at e
  subst ne_0
  subst ne_1
  refine f37.run ?_
  unfold f37.runT
  refine gen_b2s' (e := 5) (by kernel_rfl) (by kernel_rfl) (by kernel_rfl) (r_0.sub (tell_int .u8) O.s) rfl ?_
  refine ⟨_, rfl, ?_⟩
  refine gen_b2s' (e := 5) (by kernel_rfl) (by kernel_rfl) (by kernel_rfl) (r_1.sub (tell_int .u8) O.s) rfl ?_
  refine ⟨_, rfl, ?_⟩
  try rw [ba_list (bytesOf a_0) (bytesOf a_1)]
  cases e
  exact ⟨_, O.pick [], rfl⟩

/-! ### 30 roadstead/roadlaw4.same -/
def roadlaw4_same.post (W : Nat → Prop) (h0 m0 : Heap) (r : Bool) (v : Value) (h : Heap) : Prop := ∃ m , Hold W h0 m0 h m [] ∧ v = .bool r
noncomputable def roadlaw4_same (y_0 : T_line_Packet) (y_1 : T_roadref4_Packet) : Option (Bool) :=
  if y_0.Seq = y_1.Seq then (if y_0.Ack = y_1.Ack then (if (y_0.Has == y_1.Has) = true then (if y_0.Window = y_1.Window then (Option.bind (bytes_Equal y_0.Body y_1.Body) fun y19 => some (y19)) else (some (false))) else (some (false))) else (some (false))) else (some (false))
set_option maxHeartbeats 4000000 in
set_option maxRecDepth 100000 in
theorem roadlaw4_same.walk {W : Nat → Prop} {h m : Heap} {cs_0 : List Value} {cs_1 : List Value} {y_0 : T_line_Packet} {y_1 : T_roadref4_Packet} (O : Hold W h m h m []) (e_0 : T_line_Packet.E m y_0 cs_0) (e_1 : T_roadref4_Packet.E m y_1 cs_1) {r : Bool} (e : roadlaw4_same y_0 y_1 = some r) : Run Try.prog 30 #[Value.agg cs_0.toArray, Value.agg cs_1.toArray] h (roadlaw4_same.post W h m r) := by
  unfold roadlaw4_same at e
  refine f30.run ?_
  unfold f30.runT
  refine O.new fun h1 x2 O3 => ?_
  refine O3.new fun h5 x6 O7 => ?_
  refine ⟨_, ld0 (Sub.refl _) (O7.all 0 rfl) (T_line_Packet.g0 e_0), _, rfl, ?_⟩
  refine ⟨_, ld0 (Sub.refl _) (O7.all 1 rfl) (T_roadref4_Packet.g0 e_1), _, rfl, ?_⟩
  refine split_eq_e e (fun c33 e => ?_) (fun c33 e => ?_)
  · refine ⟨_, ldk (k := 1) (Sub.refl _) (O7.all 0 rfl) (T_line_Packet.g1 e_0), _, rfl, ?_⟩
    refine ⟨_, ldk (k := 1) (Sub.refl _) (O7.all 1 rfl) (T_roadref4_Packet.g1 e_1), _, rfl, ?_⟩
    refine split_eq_e e (fun c31 e => ?_) (fun c31 e => ?_)
    · refine ⟨_, ldk (k := 2) (Sub.refl _) (O7.all 0 rfl) (T_line_Packet.g2 e_0), _, rfl, ?_⟩
      refine ⟨_, ldk (k := 2) (Sub.refl _) (O7.all 1 rfl) (T_roadref4_Packet.g2 e_1), _, rfl, ?_⟩
      refine split_any_e e (fun c29 e => ?_) (fun c29 e => ?_)
      · refine ⟨_, ldk (k := 3) (Sub.refl _) (O7.all 0 rfl) (T_line_Packet.g3 e_0), _, rfl, ?_⟩
        refine ⟨_, ldk (k := 3) (Sub.refl _) (O7.all 1 rfl) (T_roadref4_Packet.g3 e_1), _, rfl, ?_⟩
        refine split_eq_e e (fun c27 e => ?_) (fun c27 e => ?_)
        · obtain ⟨A9, c10, q11, k12, r13⟩ := T_line_Packet.g4 e_0
          refine ⟨_, ldk (k := 4) (Sub.refl _) (O7.all 0 rfl) q11, _, _, _, rfl, ?_⟩
          obtain ⟨A14, c15, q16, k17, r18⟩ := T_roadref4_Packet.g4 e_1
          refine ⟨_, ldk (k := 4) (Sub.refl _) (O7.all 1 rfl) q16, _, _, _, rfl, ?_⟩
          obtain ⟨y19, g20, e⟩ := bind_e e
          refine (bytes_Equal.walk (Hold.start (W := No) O7.s) rfl k12 r13 rfl k17 r18 g20).mono ?_
          rintro _ h21 ⟨m22, Q23, rfl⟩
          have O25 := Hold.nm (O7.retC Q23 vfs_nil)
          refine ⟨_, rfl, ?_⟩
          cases e
          exact ⟨_, O25.pick [], rfl⟩
        · have O26 := O7.nm
          cases e
          exact ⟨_, O26.pick [], rfl⟩
      · have O28 := O7.nm
        cases e
        exact ⟨_, O28.pick [], rfl⟩
    · have O30 := O7.nm
      cases e
      exact ⟨_, O30.pick [], rfl⟩
  · have O32 := O7.nm
    cases e
    exact ⟨_, O32.pick [], rfl⟩

/-! ### 31 roadstead/roadlaw4.pick[roadstead/roadref4.Packet] -/
def roadlaw4_pick_31.post (W : Nat → Prop) (h0 m0 : Heap) (r : T_roadref4_Packet) (v : Value) (h : Heap) : Prop := ∃ m cs0, Hold W h0 m0 h m [] ∧ v = .agg cs0.toArray ∧ T_roadref4_Packet.E m r cs0
noncomputable def roadlaw4_pick_31 (a_0 : List T_roadref4_Packet) (x_1 : Int) : Option (T_roadref4_Packet) :=
  if (((List.length a_0) : Nat) : Int) = (0 : Int) then (some ((T_roadref4_Packet.mk (0 : Int) (0 : Int) false (0 : Int) ([] : List Int)))) else (if (IntKind.wrap .u64 (((List.length a_0) : Nat) : Int)) ≠ 0 then (Option.bind (gi a_0 (IntKind.wrap .i64 (Int.tmod (IntKind.wrap .u64 x_1) (IntKind.wrap .u64 (((List.length a_0) : Nat) : Int))))) fun y13 => some (y13)) else none)
set_option maxRecDepth 100000 in
theorem roadlaw4_pick_31.walk {W : Nat → Prop} {h m : Heap} {A_0 : Option Addr} {n_0 c_0 : Nat} {a_0 : List T_roadref4_Packet} {x_1 : Int} (O : Hold W h m h m []) (ne_0 : n_0 = List.length a_0) (k_0 : List.length a_0 ≤ c_0) (r_0 : Rd 5 T_roadref4_Packet.E m A_0 a_0) {r : T_roadref4_Packet} (e : roadlaw4_pick_31 a_0 x_1 = some r) : Run Try.prog 31 #[Value.slice A_0 n_0 c_0, Value.int .i64 x_1] h (roadlaw4_pick_31.post W h m r) := by
  unfold roadlaw4_pick_31 at e
  subst ne_0
  refine f31.run ?_
  unfold f31.runT
  refine O.new fun h1 x2 O3 => ?_
  refine O3.new fun h5 x6 O7 => ?_
  refine split_eq_e e (fun c23 e => ?_) (fun c23 e => ?_)
  · refine ⟨_, ldAn (Sub.refl _) (O7.all 1 rfl) rfl, ?_⟩
    refine ⟨_, rfl, rfl, ?_⟩
    refine O7.stA 0 rfl rfl (Flats.cons trivial (Flats.cons trivial (Flats.cons trivial (Flats.cons trivial (Flats.cons trivial Flats.nil))))) fun h9 O10 => ?_
    refine ⟨_, ldAn (Sub.refl _) (O10.all 0 rfl) rfl, ?_⟩
    have O11 := O10.nm
    cases e
    exact ⟨_, _, O11.pick [], rfl, (show T_roadref4_Packet.E _ (T_roadref4_Packet.mk (0 : Int) (0 : Int) false (0 : Int) ([] : List Int)) [(Value.int .u32 (0 : Int)), (Value.int .u32 (0 : Int)), (Value.bool false), (Value.int .i64 (0 : Int)), (Value.slice none 0 0)] from ⟨_, _, rfl, (Nat.le_refl 0), Rd.nil⟩)⟩
  · obtain ⟨g12, e⟩ := guard_e e
    refine ⟨g12, ?_⟩
    obtain ⟨y13, g14, e⟩ := bind_e e
    refine r_0.addr rfl g14 fun a15 cs16 ha17 hc18 he19 => ?_
    refine ⟨_, ldAn O7.s hc18 rfl, ?_⟩
    refine ⟨_, rfl, (T_roadref4_Packet.T.len _ _ _ he19), ?_⟩
    refine O7.stA 0 rfl (T_roadref4_Packet.T.len _ _ _ he19) (T_roadref4_Packet.T.flat _ _ _ he19) fun h20 O21 => ?_
    refine ⟨_, ldAn (Sub.refl _) (O21.all 0 rfl) (T_roadref4_Packet.T.len _ _ _ he19), ?_⟩
    have O22 := O21.nm
    cases e
    exact ⟨_, _, O22.pick [], rfl, he19⟩

/-! ### 83 roadstead/roadref4.within -/
def roadref4_within.post (W : Nat → Prop) (h0 m0 : Heap) (r : Bool) (v : Value) (h : Heap) : Prop := ∃ m , Hold W h0 m0 h m [] ∧ v = .bool r
noncomputable def roadref4_within (x_0 : Int) (x_1 : Int) (x_2 : Int) : Option (Bool) :=
  if x_0 ≥ x_1 then (some ((decide (x_0 ≤ x_2)))) else (some (false))
set_option maxRecDepth 100000 in
theorem roadref4_within.walk {W : Nat → Prop} {h m : Heap} {x_0 : Int} {x_1 : Int} {x_2 : Int} (O : Hold W h m h m []) {r : Bool} (e : roadref4_within x_0 x_1 x_2 = some r) : Run Try.prog 83 #[Value.int .i64 x_0, Value.int .i64 x_1, Value.int .i64 x_2] h (roadref4_within.post W h m r) := by
  unfold roadref4_within at e
  refine f83.run ?_
  unfold f83.runT
  refine split_dec_e e (fun c1 e => ?_) (fun c1 e => ?_)
  · cases e
    exact ⟨_, O.pick [], rfl⟩
  · cases e
    exact ⟨_, O.pick [], rfl⟩

/-! ### 32 (*roadstead/roadref4.End).Come -/
def roadref4_End_Come.post (W : Nat → Prop) (bkio0 : Nat) (h0 m0 : Heap) (r : T_roadref4_End) (v : Value) (h : Heap) : Prop := ∃ m Aio0_4 nio0_4 cio0_4 Aio0_7 nio0_7 cio0_7, Hold W h0 m0 h m [rV bkio0 61 [(Value.int .i64 r.Window), (Value.int .i64 r.Limit), (Value.int .i64 r.Base), (Value.int .i64 r.Told), (Value.slice Aio0_4 nio0_4 cio0_4), (Value.int .i64 r.Took), (Value.int .i64 r.Read), (Value.slice Aio0_7 nio0_7 cio0_7), (Value.bool r.Owe)], rR (aE (tell_row (tell_int .u8))) Aio0_4 cio0_4 r.All, rR (aE (tell_row (tell_int .u8))) Aio0_7 cio0_7 r.Got] ∧ v = .tuple #[] ∧ nio0_4 = List.length r.All ∧ nio0_7 = List.length r.Got
noncomputable def roadref4_End_Come.j5 (x_io0_0 : Int) (x_io0_1 : Int) (x_io0_2 : Int) (x_io0_3 : Int) (a_io0_4 : (List (List Int))) (x_io0_5 : Int) (x_io0_6 : Int) (a_io0_7 : (List (List Int))) (b_io0_8 : Bool) (y_3 : T_roadref4_Packet) (b_97 : Bool) : Option (T_roadref4_End) :=
  if b_97 = true then (Option.bind (ap 24 a_io0_7 ([y_3.Body] : List (List Int))) fun l14 => some ((T_roadref4_End.mk x_io0_0 x_io0_1 x_io0_2 x_io0_3 a_io0_4 (IntKind.wrap .i64 (x_io0_5 + (1 : Int))) (IntKind.wrap .i64 (x_io0_6 + (1 : Int))) l14 b_io0_8))) else (some ((T_roadref4_End.mk x_io0_0 x_io0_1 x_io0_2 x_io0_3 a_io0_4 x_io0_5 x_io0_6 a_io0_7 b_io0_8)))
set_option maxRecDepth 100000 in
theorem roadref4_End_Come.j5.walk {W : Nat → Prop} {h0 m0 h m : Heap} {bk_io0 : Nat} {A_io0_4_0 : Option Addr} {n_io0_4_0 : Nat} {c_io0_4_0 : Nat} {A_io0_7_0 : Option Addr} {n_io0_7_0 : Nat} {c_io0_7_0 : Nat} {bk_3 : Nat} {cs_3 : List Value} {x_io0_0 : Int} {x_io0_1 : Int} {x_io0_2 : Int} {x_io0_3 : Int} {a_io0_4 : (List (List Int))} {x_io0_5 : Int} {x_io0_6 : Int} {a_io0_7 : (List (List Int))} {b_io0_8 : Bool} {y_3 : T_roadref4_Packet} {b_97 : Bool} (O : Hold W h0 m0 h m [rV bk_io0 61 [(Value.int .i64 x_io0_0), (Value.int .i64 x_io0_1), (Value.int .i64 x_io0_2), (Value.int .i64 x_io0_3), (Value.slice A_io0_4_0 n_io0_4_0 c_io0_4_0), (Value.int .i64 x_io0_5), (Value.int .i64 x_io0_6), (Value.slice A_io0_7_0 n_io0_7_0 c_io0_7_0), (Value.bool b_io0_8)], rR (aE (tell_row (tell_int .u8))) A_io0_4_0 c_io0_4_0 a_io0_4, rR (aE (tell_row (tell_int .u8))) A_io0_7_0 c_io0_7_0 a_io0_7, rV bk_3 66 cs_3]) (ne_io0_4_0 : n_io0_4_0 = List.length a_io0_4) (ne_io0_7_0 : n_io0_7_0 = List.length a_io0_7) (e_3 : T_roadref4_Packet.E m y_3 cs_3) {r : T_roadref4_End} (e : roadref4_End_Come.j5 x_io0_0 x_io0_1 x_io0_2 x_io0_3 a_io0_4 x_io0_5 x_io0_6 a_io0_7 b_io0_8 y_3 b_97 = some r) : f32.j5 (roadref4_End_Come.post W bk_io0 h0 m0 r) (⟨bk_io0, 0, none⟩ : Addr) (⟨bk_3, 0, none⟩ : Addr) b_97 h := by
  unfold roadref4_End_Come.j5 at e
  subst ne_io0_4_0
  subst ne_io0_7_0
  refine f32.j5_in ?_
  unfold f32.j5T
  refine split_any_e e (fun c27 e => ?_) (fun c27 e => ?_)
  · refine ⟨_, ldk (k := 5) (Sub.refl _) (O.all 0 rfl) rfl, _, rfl, ?_⟩
    refine O.st 0 rfl 5 (Nat.le_of_ble_eq_true rfl) trivial fun h1 O2 => ?_
    refine ⟨_, ldk (k := 6) (Sub.refl _) (O2.all 0 rfl) rfl, _, rfl, ?_⟩
    refine O2.st 0 rfl 6 (Nat.le_of_ble_eq_true rfl) trivial fun h3 O4 => ?_
    refine ⟨_, ldk (k := 7) (Sub.refl _) (O4.all 0 rfl) rfl, _, _, _, rfl, ?_⟩
    obtain ⟨A5, c6, q7, k8, r9⟩ := T_roadref4_Packet.g4 e_3
    refine ⟨_, ldk (k := 4) (Sub.refl _) (O4.all 3 rfl) q7, _, _, _, rfl, ?_⟩
    refine O4.new fun h10 x11 O12 => ?_
    refine ⟨x11, ?_⟩
    obtain ⟨l14, g15, e⟩ := bind_e e
    have O22 := O12.rowE (l := ([y_3.Body] : List (List Int))) 4 rfl (tell_row (tell_int .u8)) (show CsE _ _ _ _ _ from (CsE.cons (c1 := [(Value.slice A5 (List.length y_3.Body) c6)]) ⟨_, _, rfl, k8, r9⟩ rfl CsE.nil)) rfl
    refine O22.app 2 rfl rfl rfl ((O22.os 4 rfl).srcE rfl) (by decide) g15 fun A16 c17 h18 O19 => ?_
    refine ⟨_, _, _, rfl, ?_⟩
    have O23 := O19.nm
    refine O23.st 0 rfl 7 (Nat.le_of_ble_eq_true rfl) trivial fun h24 O25 => ?_
    have O26 := O25.nm
    cases e
    exact ⟨_, _, _, _, _, _, _, O26.pick [0, 1, 2], rfl, rfl, rfl⟩
  · cases e
    exact ⟨_, _, _, _, _, _, _, O.pick [0, 1, 2], rfl, rfl, rfl⟩

noncomputable def roadref4_End_Come.j4 (x_io0_0 : Int) (x_io0_1 : Int) (x_io0_2 : Int) (x_io0_3 : Int) (a_io0_4 : (List (List Int))) (x_io0_5 : Int) (x_io0_6 : Int) (a_io0_7 : (List (List Int))) (b_io0_8 : Bool) (y_3 : T_roadref4_Packet) : Option (T_roadref4_End) :=
  if y_3.Has = true then (if y_3.Seq = (IntKind.wrap .u32 x_io0_5) then ((roadref4_End_Come.j5 x_io0_0 x_io0_1 x_io0_2 x_io0_3 a_io0_4 x_io0_5 x_io0_6 a_io0_7 true y_3 (decide (x_io0_6 < x_io0_0)))) else ((roadref4_End_Come.j5 x_io0_0 x_io0_1 x_io0_2 x_io0_3 a_io0_4 x_io0_5 x_io0_6 a_io0_7 true y_3 false))) else (some ((T_roadref4_End.mk x_io0_0 x_io0_1 x_io0_2 x_io0_3 a_io0_4 x_io0_5 x_io0_6 a_io0_7 b_io0_8)))
set_option maxRecDepth 100000 in
theorem roadref4_End_Come.j4.walk {W : Nat → Prop} {h0 m0 h m : Heap} {bk_io0 : Nat} {A_io0_4_0 : Option Addr} {n_io0_4_0 : Nat} {c_io0_4_0 : Nat} {A_io0_7_0 : Option Addr} {n_io0_7_0 : Nat} {c_io0_7_0 : Nat} {bk_3 : Nat} {cs_3 : List Value} {x_io0_0 : Int} {x_io0_1 : Int} {x_io0_2 : Int} {x_io0_3 : Int} {a_io0_4 : (List (List Int))} {x_io0_5 : Int} {x_io0_6 : Int} {a_io0_7 : (List (List Int))} {b_io0_8 : Bool} {y_3 : T_roadref4_Packet} (O : Hold W h0 m0 h m [rV bk_io0 61 [(Value.int .i64 x_io0_0), (Value.int .i64 x_io0_1), (Value.int .i64 x_io0_2), (Value.int .i64 x_io0_3), (Value.slice A_io0_4_0 n_io0_4_0 c_io0_4_0), (Value.int .i64 x_io0_5), (Value.int .i64 x_io0_6), (Value.slice A_io0_7_0 n_io0_7_0 c_io0_7_0), (Value.bool b_io0_8)], rR (aE (tell_row (tell_int .u8))) A_io0_4_0 c_io0_4_0 a_io0_4, rR (aE (tell_row (tell_int .u8))) A_io0_7_0 c_io0_7_0 a_io0_7, rV bk_3 66 cs_3]) (ne_io0_4_0 : n_io0_4_0 = List.length a_io0_4) (ne_io0_7_0 : n_io0_7_0 = List.length a_io0_7) (e_3 : T_roadref4_Packet.E m y_3 cs_3) {r : T_roadref4_End} (e : roadref4_End_Come.j4 x_io0_0 x_io0_1 x_io0_2 x_io0_3 a_io0_4 x_io0_5 x_io0_6 a_io0_7 b_io0_8 y_3 = some r) : f32.j4 (roadref4_End_Come.post W bk_io0 h0 m0 r) (⟨bk_io0, 0, none⟩ : Addr) (⟨bk_3, 0, none⟩ : Addr) h := by
  unfold roadref4_End_Come.j4 at e
  subst ne_io0_4_0
  subst ne_io0_7_0
  refine f32.j4_in ?_
  unfold f32.j4T
  refine ⟨_, ldk (k := 2) (Sub.refl _) (O.all 3 rfl) (T_roadref4_Packet.g2 e_3), _, rfl, ?_⟩
  refine split_any_e e (fun c6 e => ?_) (fun c6 e => ?_)
  · refine O.st 0 rfl 8 (Nat.le_of_ble_eq_true rfl) trivial fun h1 O2 => ?_
    refine ⟨_, ld0 (Sub.refl _) (O2.all 3 rfl) (T_roadref4_Packet.g0 e_3), _, rfl, ?_⟩
    refine ⟨_, ldk (k := 5) (Sub.refl _) (O2.all 0 rfl) rfl, _, rfl, ?_⟩
    refine split_eq_e e (fun c5 e => ?_) (fun c5 e => ?_)
    · refine ⟨_, ldk (k := 6) (Sub.refl _) (O2.all 0 rfl) rfl, _, rfl, ?_⟩
      refine ⟨_, ld0 (Sub.refl _) (O2.all 0 rfl) rfl, _, rfl, ?_⟩
      have O3 := O2.nm
      exact roadref4_End_Come.j5.walk (O3.pick [0, 1, 2, 3]).nm rfl rfl e_3 e
    · have O4 := O2.nm
      exact roadref4_End_Come.j5.walk (O4.pick [0, 1, 2, 3]).nm rfl rfl e_3 e
  · cases e
    exact ⟨_, _, _, _, _, _, _, O.pick [0, 1, 2], rfl, rfl, rfl⟩

noncomputable def roadref4_End_Come.j2 (x_io0_0 : Int) (x_io0_1 : Int) (x_io0_2 : Int) (x_io0_3 : Int) (a_io0_4 : (List (List Int))) (x_io0_5 : Int) (x_io0_6 : Int) (a_io0_7 : (List (List Int))) (b_io0_8 : Bool) (y_3 : T_roadref4_Packet) (x_4 : Int) : Option (T_roadref4_End) :=
  Option.bind (roadref4_within x_4 (1 : Int) (IntKind.wrap .i64 ((((List.length a_io0_4) : Nat) : Int) - x_io0_2))) fun y1 => if y1 = true then ((roadref4_End_Come.j4 x_io0_0 y_3.Window (IntKind.wrap .i64 (x_io0_2 + x_4)) (if (0 : Int) > (IntKind.wrap .i64 (x_io0_3 - x_4)) then (0 : Int) else (IntKind.wrap .i64 (x_io0_3 - x_4))) a_io0_4 x_io0_5 x_io0_6 a_io0_7 b_io0_8 y_3)) else ((roadref4_End_Come.j4 x_io0_0 x_io0_1 x_io0_2 x_io0_3 a_io0_4 x_io0_5 x_io0_6 a_io0_7 b_io0_8 y_3))
set_option maxRecDepth 100000 in
theorem roadref4_End_Come.j2.walk {W : Nat → Prop} {h0 m0 h m : Heap} {bk_io0 : Nat} {A_io0_4_0 : Option Addr} {n_io0_4_0 : Nat} {c_io0_4_0 : Nat} {A_io0_7_0 : Option Addr} {n_io0_7_0 : Nat} {c_io0_7_0 : Nat} {bk_3 : Nat} {cs_3 : List Value} {x_io0_0 : Int} {x_io0_1 : Int} {x_io0_2 : Int} {x_io0_3 : Int} {a_io0_4 : (List (List Int))} {x_io0_5 : Int} {x_io0_6 : Int} {a_io0_7 : (List (List Int))} {b_io0_8 : Bool} {y_3 : T_roadref4_Packet} {x_4 : Int} (O : Hold W h0 m0 h m [rV bk_io0 61 [(Value.int .i64 x_io0_0), (Value.int .i64 x_io0_1), (Value.int .i64 x_io0_2), (Value.int .i64 x_io0_3), (Value.slice A_io0_4_0 n_io0_4_0 c_io0_4_0), (Value.int .i64 x_io0_5), (Value.int .i64 x_io0_6), (Value.slice A_io0_7_0 n_io0_7_0 c_io0_7_0), (Value.bool b_io0_8)], rR (aE (tell_row (tell_int .u8))) A_io0_4_0 c_io0_4_0 a_io0_4, rR (aE (tell_row (tell_int .u8))) A_io0_7_0 c_io0_7_0 a_io0_7, rV bk_3 66 cs_3]) (ne_io0_4_0 : n_io0_4_0 = List.length a_io0_4) (ne_io0_7_0 : n_io0_7_0 = List.length a_io0_7) (e_3 : T_roadref4_Packet.E m y_3 cs_3) {r : T_roadref4_End} (e : roadref4_End_Come.j2 x_io0_0 x_io0_1 x_io0_2 x_io0_3 a_io0_4 x_io0_5 x_io0_6 a_io0_7 b_io0_8 y_3 x_4 = some r) : f32.j2 (roadref4_End_Come.post W bk_io0 h0 m0 r) (⟨bk_io0, 0, none⟩ : Addr) (⟨bk_3, 0, none⟩ : Addr) x_4 h := by
  unfold roadref4_End_Come.j2 at e
  subst ne_io0_4_0
  subst ne_io0_7_0
  refine f32.j2_in ?_
  unfold f32.j2T
  refine ⟨_, ldk (k := 4) (Sub.refl _) (O.all 0 rfl) rfl, _, _, _, rfl, ?_⟩
  refine ⟨_, ldk (k := 2) (Sub.refl _) (O.all 0 rfl) rfl, _, rfl, ?_⟩
  obtain ⟨y1, g2, e⟩ := bind_e e
  refine (roadref4_within.walk (Hold.start (W := No) O.s)  g2).mono ?_
  rintro _ h3 ⟨m4, Q5, rfl⟩
  have O7 := Hold.nm (O.retC Q5 vfs_nil)
  refine ⟨_, rfl, ?_⟩
  refine split_any_e e (fun c15 e => ?_) (fun c15 e => ?_)
  · refine ⟨_, ldk (k := 2) (Sub.refl _) (O7.all 0 rfl) rfl, _, rfl, ?_⟩
    refine O7.st 0 rfl 2 (Nat.le_of_ble_eq_true rfl) trivial fun h8 O9 => ?_
    refine ⟨_, ldk (k := 3) (Sub.refl _) (O9.all 3 rfl) (T_roadref4_Packet.g3 e_3), _, rfl, ?_⟩
    refine O9.st 0 rfl 1 (Nat.le_of_ble_eq_true rfl) trivial fun h10 O11 => ?_
    refine ⟨_, ldk (k := 3) (Sub.refl _) (O11.all 0 rfl) rfl, _, rfl, ?_⟩
    refine O11.st 0 rfl 3 (Nat.le_of_ble_eq_true rfl) trivial fun h12 O13 => ?_
    have O14 := O13.nm
    exact roadref4_End_Come.j4.walk (O14.pick [0, 1, 2, 3]).nm rfl rfl e_3 e
  · exact roadref4_End_Come.j4.walk (O7.pick [0, 1, 2, 3]).nm rfl rfl e_3 e

noncomputable def roadref4_End_Come.j3 (x_io0_0 : Int) (x_io0_1 : Int) (x_io0_2 : Int) (x_io0_3 : Int) (a_io0_4 : (List (List Int))) (x_io0_5 : Int) (x_io0_6 : Int) (a_io0_7 : (List (List Int))) (b_io0_8 : Bool) (y_3 : T_roadref4_Packet) (x_4 : Int) (b_33 : Bool) : Option (T_roadref4_End) :=
  if b_33 = true then ((roadref4_End_Come.j2 x_io0_0 y_3.Window x_io0_2 x_io0_3 a_io0_4 x_io0_5 x_io0_6 a_io0_7 b_io0_8 y_3 x_4)) else ((roadref4_End_Come.j2 x_io0_0 x_io0_1 x_io0_2 x_io0_3 a_io0_4 x_io0_5 x_io0_6 a_io0_7 b_io0_8 y_3 x_4))
set_option maxRecDepth 100000 in
theorem roadref4_End_Come.j3.walk {W : Nat → Prop} {h0 m0 h m : Heap} {bk_io0 : Nat} {A_io0_4_0 : Option Addr} {n_io0_4_0 : Nat} {c_io0_4_0 : Nat} {A_io0_7_0 : Option Addr} {n_io0_7_0 : Nat} {c_io0_7_0 : Nat} {bk_3 : Nat} {cs_3 : List Value} {x_io0_0 : Int} {x_io0_1 : Int} {x_io0_2 : Int} {x_io0_3 : Int} {a_io0_4 : (List (List Int))} {x_io0_5 : Int} {x_io0_6 : Int} {a_io0_7 : (List (List Int))} {b_io0_8 : Bool} {y_3 : T_roadref4_Packet} {x_4 : Int} {b_33 : Bool} (O : Hold W h0 m0 h m [rV bk_io0 61 [(Value.int .i64 x_io0_0), (Value.int .i64 x_io0_1), (Value.int .i64 x_io0_2), (Value.int .i64 x_io0_3), (Value.slice A_io0_4_0 n_io0_4_0 c_io0_4_0), (Value.int .i64 x_io0_5), (Value.int .i64 x_io0_6), (Value.slice A_io0_7_0 n_io0_7_0 c_io0_7_0), (Value.bool b_io0_8)], rR (aE (tell_row (tell_int .u8))) A_io0_4_0 c_io0_4_0 a_io0_4, rR (aE (tell_row (tell_int .u8))) A_io0_7_0 c_io0_7_0 a_io0_7, rV bk_3 66 cs_3]) (ne_io0_4_0 : n_io0_4_0 = List.length a_io0_4) (ne_io0_7_0 : n_io0_7_0 = List.length a_io0_7) (e_3 : T_roadref4_Packet.E m y_3 cs_3) {r : T_roadref4_End} (e : roadref4_End_Come.j3 x_io0_0 x_io0_1 x_io0_2 x_io0_3 a_io0_4 x_io0_5 x_io0_6 a_io0_7 b_io0_8 y_3 x_4 b_33 = some r) : f32.j3 (roadref4_End_Come.post W bk_io0 h0 m0 r) (⟨bk_io0, 0, none⟩ : Addr) (⟨bk_3, 0, none⟩ : Addr) x_4 b_33 h := by
  unfold roadref4_End_Come.j3 at e
  subst ne_io0_4_0
  subst ne_io0_7_0
  refine f32.j3_in ?_
  unfold f32.j3T
  refine split_any_e e (fun c4 e => ?_) (fun c4 e => ?_)
  · refine ⟨_, ldk (k := 3) (Sub.refl _) (O.all 3 rfl) (T_roadref4_Packet.g3 e_3), _, rfl, ?_⟩
    refine O.st 0 rfl 1 (Nat.le_of_ble_eq_true rfl) trivial fun h1 O2 => ?_
    have O3 := O2.nm
    exact roadref4_End_Come.j2.walk (O3.pick [0, 1, 2, 3]).nm rfl rfl e_3 e
  · exact roadref4_End_Come.j2.walk (O.pick [0, 1, 2, 3]).nm rfl rfl e_3 e

noncomputable def roadref4_End_Come.j1 (x_io0_0 : Int) (x_io0_1 : Int) (x_io0_2 : Int) (x_io0_3 : Int) (a_io0_4 : (List (List Int))) (x_io0_5 : Int) (x_io0_6 : Int) (a_io0_7 : (List (List Int))) (b_io0_8 : Bool) (y_3 : T_roadref4_Packet) (x_4 : Int) : Option (T_roadref4_End) :=
  if x_4 = (0 : Int) then ((roadref4_End_Come.j3 x_io0_0 x_io0_1 x_io0_2 x_io0_3 a_io0_4 x_io0_5 x_io0_6 a_io0_7 b_io0_8 y_3 x_4 (decide (y_3.Window > x_io0_1)))) else ((roadref4_End_Come.j3 x_io0_0 x_io0_1 x_io0_2 x_io0_3 a_io0_4 x_io0_5 x_io0_6 a_io0_7 b_io0_8 y_3 x_4 false))
set_option maxRecDepth 100000 in
theorem roadref4_End_Come.j1.walk {W : Nat → Prop} {h0 m0 h m : Heap} {bk_io0 : Nat} {A_io0_4_0 : Option Addr} {n_io0_4_0 : Nat} {c_io0_4_0 : Nat} {A_io0_7_0 : Option Addr} {n_io0_7_0 : Nat} {c_io0_7_0 : Nat} {bk_3 : Nat} {cs_3 : List Value} {x_io0_0 : Int} {x_io0_1 : Int} {x_io0_2 : Int} {x_io0_3 : Int} {a_io0_4 : (List (List Int))} {x_io0_5 : Int} {x_io0_6 : Int} {a_io0_7 : (List (List Int))} {b_io0_8 : Bool} {y_3 : T_roadref4_Packet} {x_4 : Int} (O : Hold W h0 m0 h m [rV bk_io0 61 [(Value.int .i64 x_io0_0), (Value.int .i64 x_io0_1), (Value.int .i64 x_io0_2), (Value.int .i64 x_io0_3), (Value.slice A_io0_4_0 n_io0_4_0 c_io0_4_0), (Value.int .i64 x_io0_5), (Value.int .i64 x_io0_6), (Value.slice A_io0_7_0 n_io0_7_0 c_io0_7_0), (Value.bool b_io0_8)], rR (aE (tell_row (tell_int .u8))) A_io0_4_0 c_io0_4_0 a_io0_4, rR (aE (tell_row (tell_int .u8))) A_io0_7_0 c_io0_7_0 a_io0_7, rV bk_3 66 cs_3]) (ne_io0_4_0 : n_io0_4_0 = List.length a_io0_4) (ne_io0_7_0 : n_io0_7_0 = List.length a_io0_7) (e_3 : T_roadref4_Packet.E m y_3 cs_3) {r : T_roadref4_End} (e : roadref4_End_Come.j1 x_io0_0 x_io0_1 x_io0_2 x_io0_3 a_io0_4 x_io0_5 x_io0_6 a_io0_7 b_io0_8 y_3 x_4 = some r) : f32.j1 (roadref4_End_Come.post W bk_io0 h0 m0 r) (⟨bk_io0, 0, none⟩ : Addr) (⟨bk_3, 0, none⟩ : Addr) x_4 h := by
  unfold roadref4_End_Come.j1 at e
  subst ne_io0_4_0
  subst ne_io0_7_0
  refine f32.j1_in ?_
  unfold f32.j1T
  refine split_eq_e e (fun c1 e => ?_) (fun c1 e => ?_)
  · refine ⟨_, ldk (k := 3) (Sub.refl _) (O.all 3 rfl) (T_roadref4_Packet.g3 e_3), _, rfl, ?_⟩
    refine ⟨_, ldk (k := 1) (Sub.refl _) (O.all 0 rfl) rfl, _, rfl, ?_⟩
    exact roadref4_End_Come.j3.walk (O.pick [0, 1, 2, 3]).nm rfl rfl e_3 e
  · exact roadref4_End_Come.j3.walk (O.pick [0, 1, 2, 3]).nm rfl rfl e_3 e

noncomputable def roadref4_End_Come.j0 (x_io0_0 : Int) (x_io0_1 : Int) (x_io0_2 : Int) (x_io0_3 : Int) (a_io0_4 : (List (List Int))) (x_io0_5 : Int) (x_io0_6 : Int) (a_io0_7 : (List (List Int))) (b_io0_8 : Bool) (y_3 : T_roadref4_Packet) (x_4 : Int) : Option (T_roadref4_End) :=
  if x_4 < (-2147483648 : Int) then ((roadref4_End_Come.j1 x_io0_0 x_io0_1 x_io0_2 x_io0_3 a_io0_4 x_io0_5 x_io0_6 a_io0_7 b_io0_8 y_3 (IntKind.wrap .i64 (x_4 + (4294967296 : Int))))) else ((roadref4_End_Come.j1 x_io0_0 x_io0_1 x_io0_2 x_io0_3 a_io0_4 x_io0_5 x_io0_6 a_io0_7 b_io0_8 y_3 x_4))
set_option maxRecDepth 100000 in
theorem roadref4_End_Come.j0.walk {W : Nat → Prop} {h0 m0 h m : Heap} {bk_io0 : Nat} {A_io0_4_0 : Option Addr} {n_io0_4_0 : Nat} {c_io0_4_0 : Nat} {A_io0_7_0 : Option Addr} {n_io0_7_0 : Nat} {c_io0_7_0 : Nat} {bk_3 : Nat} {cs_3 : List Value} {x_io0_0 : Int} {x_io0_1 : Int} {x_io0_2 : Int} {x_io0_3 : Int} {a_io0_4 : (List (List Int))} {x_io0_5 : Int} {x_io0_6 : Int} {a_io0_7 : (List (List Int))} {b_io0_8 : Bool} {y_3 : T_roadref4_Packet} {x_4 : Int} (O : Hold W h0 m0 h m [rV bk_io0 61 [(Value.int .i64 x_io0_0), (Value.int .i64 x_io0_1), (Value.int .i64 x_io0_2), (Value.int .i64 x_io0_3), (Value.slice A_io0_4_0 n_io0_4_0 c_io0_4_0), (Value.int .i64 x_io0_5), (Value.int .i64 x_io0_6), (Value.slice A_io0_7_0 n_io0_7_0 c_io0_7_0), (Value.bool b_io0_8)], rR (aE (tell_row (tell_int .u8))) A_io0_4_0 c_io0_4_0 a_io0_4, rR (aE (tell_row (tell_int .u8))) A_io0_7_0 c_io0_7_0 a_io0_7, rV bk_3 66 cs_3]) (ne_io0_4_0 : n_io0_4_0 = List.length a_io0_4) (ne_io0_7_0 : n_io0_7_0 = List.length a_io0_7) (e_3 : T_roadref4_Packet.E m y_3 cs_3) {r : T_roadref4_End} (e : roadref4_End_Come.j0 x_io0_0 x_io0_1 x_io0_2 x_io0_3 a_io0_4 x_io0_5 x_io0_6 a_io0_7 b_io0_8 y_3 x_4 = some r) : f32.j0 (roadref4_End_Come.post W bk_io0 h0 m0 r) (⟨bk_io0, 0, none⟩ : Addr) (⟨bk_3, 0, none⟩ : Addr) x_4 h := by
  unfold roadref4_End_Come.j0 at e
  subst ne_io0_4_0
  subst ne_io0_7_0
  refine f32.j0_in ?_
  unfold f32.j0T
  refine split_dec_e e (fun c1 e => ?_) (fun c1 e => ?_)
  · exact roadref4_End_Come.j1.walk (O.pick [0, 1, 2, 3]).nm rfl rfl e_3 e
  · exact roadref4_End_Come.j1.walk (O.pick [0, 1, 2, 3]).nm rfl rfl e_3 e

noncomputable def roadref4_End_Come (y_0 : T_roadref4_End) (y_1 : T_roadref4_Packet) : Option (T_roadref4_End) :=
  if (IntKind.wrap .i64 ((IntKind.wrap .i64 y_1.Ack) - (IntKind.wrap .i64 (IntKind.wrap .u32 y_0.Base)))) ≥ (2147483648 : Int) then ((roadref4_End_Come.j0 y_0.Window y_0.Limit y_0.Base y_0.Told y_0.All y_0.Took y_0.Read y_0.Got y_0.Owe y_1 (IntKind.wrap .i64 ((IntKind.wrap .i64 ((IntKind.wrap .i64 y_1.Ack) - (IntKind.wrap .i64 (IntKind.wrap .u32 y_0.Base)))) - (4294967296 : Int))))) else ((roadref4_End_Come.j0 y_0.Window y_0.Limit y_0.Base y_0.Told y_0.All y_0.Took y_0.Read y_0.Got y_0.Owe y_1 (IntKind.wrap .i64 ((IntKind.wrap .i64 y_1.Ack) - (IntKind.wrap .i64 (IntKind.wrap .u32 y_0.Base))))))
set_option maxRecDepth 100000 in
theorem roadref4_End_Come.walk {W : Nat → Prop} {h m : Heap} {bkio0 : Nat} {A_0_4 : Option Addr} {n_0_4 : Nat} {c_0_4 : Nat} {A_0_7 : Option Addr} {n_0_7 : Nat} {c_0_7 : Nat} {cs_1 : List Value} {y_0 : T_roadref4_End} {y_1 : T_roadref4_Packet} (O : Hold W h m h m [rV bkio0 61 [(Value.int .i64 y_0.Window), (Value.int .i64 y_0.Limit), (Value.int .i64 y_0.Base), (Value.int .i64 y_0.Told), (Value.slice A_0_4 n_0_4 c_0_4), (Value.int .i64 y_0.Took), (Value.int .i64 y_0.Read), (Value.slice A_0_7 n_0_7 c_0_7), (Value.bool y_0.Owe)], rR (aE (tell_row (tell_int .u8))) A_0_4 c_0_4 y_0.All, rR (aE (tell_row (tell_int .u8))) A_0_7 c_0_7 y_0.Got]) (ne_0_4 : n_0_4 = List.length y_0.All) (ne_0_7 : n_0_7 = List.length y_0.Got) (e_1 : T_roadref4_Packet.E m y_1 cs_1) {r : T_roadref4_End} (e : roadref4_End_Come y_0 y_1 = some r) : Run Try.prog 32 #[Value.pointer (some ⟨bkio0, 0, none⟩), Value.agg cs_1.toArray] h (roadref4_End_Come.post W bkio0 h m r) := by
  unfold roadref4_End_Come at e
  subst ne_0_4
  subst ne_0_7
  refine f32.run ?_
  unfold f32.runT
  refine O.new fun h1 x2 O3 => ?_
  refine ⟨_, ldk (k := 1) (Sub.refl _) (O3.all 3 rfl) (T_roadref4_Packet.g1 e_1), _, rfl, ?_⟩
  refine ⟨_, ldk (k := 2) (Sub.refl _) (O3.all 0 rfl) rfl, _, rfl, ?_⟩
  refine split_dec_e e (fun c7 e => ?_) (fun c7 e => ?_)
  · have O5 := O3.nm
    exact roadref4_End_Come.j0.walk (O5.pick [0, 1, 2, 3]).nm rfl rfl e_1 e
  · have O6 := O3.nm
    exact roadref4_End_Come.j0.walk (O6.pick [0, 1, 2, 3]).nm rfl rfl e_1 e

/-! ### 84 slices.Clone[[][]byte,[]byte] -/
def slices_Clone_84.post (W : Nat → Prop) (h0 m0 : Heap) (r : (List (List Int))) (v : Value) (h : Heap) : Prop := ∃ m A0 n0 c0, Hold W h0 m0 h m [rR (aE (tell_row (tell_int .u8))) A0 c0 r] ∧ v = .slice A0 n0 c0 ∧ n0 = List.length r
noncomputable def slices_Clone_84 (a0 : List (List Int)) : Option (List (List Int)) := ap 24 ([] : List (List Int)) a0
set_option maxRecDepth 100000 in
theorem slices_Clone_84.walk {W : Nat → Prop} {h m : Heap} {A0 : Option Addr} {n0 c0 : Nat} {a0 : List (List Int)} (O : Hold W h m h m []) (ne0 : n0 = List.length a0) (k0 : List.length a0 ≤ c0) (r0 : Rd 1 (eRow 1 (eInt .u8)) m A0 a0) {r : List (List Int)} (e : slices_Clone_84 a0 = some r) : Run Try.prog 84 #[Value.slice A0 n0 c0] h (slices_Clone_84.post W h m r) := by
  unfold slices_Clone_84 at e
  subst ne0
  refine f84.run ?_
  unfold f84.runT
  cases A0 with
  | none =>
    refine split_t ?_
    obtain rfl := Rd.void r0
    obtain rfl : [] = r := by have := (ap_e e).2; simpa using this
    exact ⟨m, none, 0, 0, O.nil (aE (tell_row (tell_int .u8))) none, rfl, rfl⟩
  | some a =>
    refine split_f ?_
    refine O.new fun h1 x1 O1 => ?_
    refine O1.appE0 (tell_row (tell_int .u8)) rfl rfl (r0.srcE (tell_row (tell_int .u8)) O1.s rfl) (by decide) e fun A4 c4 h4 x4 O4 => ?_
    refine ⟨_, _, _, rfl, ?_⟩
    exact ⟨m, _, _, _, O4.pick [1], rfl, rfl⟩
theorem slices_Clone_84.val (l : List (List Int)) (h : l.length * 24 ≤ 140737488355328) : slices_Clone_84 l = some l := ap_nil h

/-! ### 33 (*roadstead/line.End).Come -/
def line_End_Come.post (W : Nat → Prop) (bkio0 : Nat) (h0 m0 : Heap) (r : Int × T_line_End) (v : Value) (h : Heap) : Prop := ∃ m Aio0_2 nio0_2 cio0_2 Aio0_6 nio0_6 cio0_6, Hold W h0 m0 h m [rV bkio0 152 [(Value.int .i64 r.2.window_), (Value.int .u32 r.2.base_), (Value.slice Aio0_2 nio0_2 cio0_2), (Value.int .i64 r.2.told_), (Value.int .i64 r.2.limit_), (Value.int .u32 r.2.want_), (Value.slice Aio0_6 nio0_6 cio0_6), (Value.bool r.2.owe_)], rR (aE (tell_row (tell_int .u8))) Aio0_2 cio0_2 r.2.kept_, rR (aE (tell_row (tell_int .u8))) Aio0_6 cio0_6 r.2.read_] ∧ v = .int .i64 r.1 ∧ nio0_2 = List.length r.2.kept_ ∧ nio0_6 = List.length r.2.read_
noncomputable def line_End_Come.j3 (x_io0_0 : Int) (x_io0_1 : Int) (a_io0_2 : (List (List Int))) (x_io0_3 : Int) (x_io0_4 : Int) (x_io0_5 : Int) (a_io0_6 : (List (List Int))) (b_io0_7 : Bool) (y_3 : T_line_Packet) (b_110 : Bool) : Option (Int × T_line_End) :=
  if b_110 = true then (Option.bind (slices_Clone_82 y_3.Body) fun y6 => Option.bind (ap 24 a_io0_6 ([y6] : List (List Int))) fun l22 => some ((0 : Int), (T_line_End.mk x_io0_0 x_io0_1 a_io0_2 x_io0_3 x_io0_4 (IntKind.wrap .u32 (x_io0_5 + (1 : Int))) l22 b_io0_7))) else (some ((0 : Int), (T_line_End.mk x_io0_0 x_io0_1 a_io0_2 x_io0_3 x_io0_4 x_io0_5 a_io0_6 b_io0_7)))
set_option maxRecDepth 100000 in
theorem line_End_Come.j3.walk {W : Nat → Prop} {h0 m0 h m : Heap} {bk_io0 : Nat} {A_io0_2_0 : Option Addr} {n_io0_2_0 : Nat} {c_io0_2_0 : Nat} {A_io0_6_0 : Option Addr} {n_io0_6_0 : Nat} {c_io0_6_0 : Nat} {bk_3 : Nat} {cs_3 : List Value} {x_io0_0 : Int} {x_io0_1 : Int} {a_io0_2 : (List (List Int))} {x_io0_3 : Int} {x_io0_4 : Int} {x_io0_5 : Int} {a_io0_6 : (List (List Int))} {b_io0_7 : Bool} {y_3 : T_line_Packet} {b_110 : Bool} (O : Hold W h0 m0 h m [rV bk_io0 152 [(Value.int .i64 x_io0_0), (Value.int .u32 x_io0_1), (Value.slice A_io0_2_0 n_io0_2_0 c_io0_2_0), (Value.int .i64 x_io0_3), (Value.int .i64 x_io0_4), (Value.int .u32 x_io0_5), (Value.slice A_io0_6_0 n_io0_6_0 c_io0_6_0), (Value.bool b_io0_7)], rR (aE (tell_row (tell_int .u8))) A_io0_2_0 c_io0_2_0 a_io0_2, rR (aE (tell_row (tell_int .u8))) A_io0_6_0 c_io0_6_0 a_io0_6, rV bk_3 58 cs_3]) (ne_io0_2_0 : n_io0_2_0 = List.length a_io0_2) (ne_io0_6_0 : n_io0_6_0 = List.length a_io0_6) (e_3 : T_line_Packet.E m y_3 cs_3) {r : Int × T_line_End} (e : line_End_Come.j3 x_io0_0 x_io0_1 a_io0_2 x_io0_3 x_io0_4 x_io0_5 a_io0_6 b_io0_7 y_3 b_110 = some r) : f33.j3 (line_End_Come.post W bk_io0 h0 m0 r) (⟨bk_io0, 0, none⟩ : Addr) (⟨bk_3, 0, none⟩ : Addr) b_110 h := by
  unfold line_End_Come.j3 at e
  subst ne_io0_2_0
  subst ne_io0_6_0
  refine f33.j3_in ?_
  unfold f33.j3T
  refine split_any_e e (fun c42 e => ?_) (fun c42 e => ?_)
  · refine ⟨_, ldk (k := 6) (Sub.refl _) (O.all 0 rfl) rfl, _, _, _, rfl, ?_⟩
    obtain ⟨A1, c2, q3, k4, r5⟩ := T_line_Packet.g4 e_3
    refine ⟨_, ldk (k := 4) (Sub.refl _) (O.all 3 rfl) q3, _, _, _, rfl, ?_⟩
    obtain ⟨y6, g7, e⟩ := bind_e e
    refine (slices_Clone_82.walk (Hold.start (W := No) O.s) rfl k4 r5 g7).mono ?_
    rintro _ h8 ⟨m9, A12, n13, c14, Q10, rfl, ne15⟩
    have O17 := Hold.nm (O.retC Q10 (vfs_cons (rR_vf (aE_vf (fun _ _ _ _ h => h))) vfs_nil))
    subst ne15
    refine ⟨_, _, _, rfl, ?_⟩
    refine ⟨Q10.S.ext, ?_⟩
    refine O17.new fun h18 x19 O20 => ?_
    refine ⟨x19, ?_⟩
    obtain ⟨l22, g23, e⟩ := bind_e e
    obtain ⟨m30, u31, ⟨r32, k33⟩, O34⟩ := O20.frz 4 rfl
    replace r32 : Rd 1 (eInt .u8) m30 A12 y6 := r32
    have O35 := O34.rowE (l := ([y6] : List (List Int))) 5 rfl (tell_row (tell_int .u8)) (show CsE _ _ _ _ _ from (CsE.cons (c1 := [(Value.slice A12 (List.length y6) c14)]) ⟨_, _, rfl, k33, r32⟩ rfl CsE.nil)) rfl
    refine O35.app 2 rfl rfl rfl ((O35.os 5 rfl).srcE rfl) (by decide) g23 fun A24 c25 h26 O27 => ?_
    refine ⟨_, _, _, rfl, ?_⟩
    refine O27.st 0 rfl 6 (Nat.le_of_ble_eq_true rfl) trivial fun h36 O37 => ?_
    have O38 := O37.nm
    refine ⟨_, ldk (k := 5) (Sub.refl _) (O38.all 0 rfl) rfl, _, rfl, ?_⟩
    refine O38.st 0 rfl 5 (Nat.le_of_ble_eq_true rfl) trivial fun h39 O40 => ?_
    have O41 := O40.nm
    cases e
    exact ⟨_, _, _, _, _, _, _, O41.pick [0, 1, 2], rfl, rfl, rfl⟩
  · cases e
    exact ⟨_, _, _, _, _, _, _, O.pick [0, 1, 2], rfl, rfl, rfl⟩

noncomputable def line_End_Come.j1 (x_io0_0 : Int) (x_io0_1 : Int) (a_io0_2 : (List (List Int))) (x_io0_3 : Int) (x_io0_4 : Int) (x_io0_5 : Int) (a_io0_6 : (List (List Int))) (b_io0_7 : Bool) (y_3 : T_line_Packet) : Option (Int × T_line_End) :=
  if y_3.Has = true then (if y_3.Seq = x_io0_5 then ((line_End_Come.j3 x_io0_0 x_io0_1 a_io0_2 x_io0_3 x_io0_4 x_io0_5 a_io0_6 true y_3 (decide ((((List.length a_io0_6) : Nat) : Int) < x_io0_0)))) else ((line_End_Come.j3 x_io0_0 x_io0_1 a_io0_2 x_io0_3 x_io0_4 x_io0_5 a_io0_6 true y_3 false))) else (some ((0 : Int), (T_line_End.mk x_io0_0 x_io0_1 a_io0_2 x_io0_3 x_io0_4 x_io0_5 a_io0_6 b_io0_7)))
set_option maxRecDepth 100000 in
theorem line_End_Come.j1.walk {W : Nat → Prop} {h0 m0 h m : Heap} {bk_io0 : Nat} {A_io0_2_0 : Option Addr} {n_io0_2_0 : Nat} {c_io0_2_0 : Nat} {A_io0_6_0 : Option Addr} {n_io0_6_0 : Nat} {c_io0_6_0 : Nat} {bk_3 : Nat} {cs_3 : List Value} {x_io0_0 : Int} {x_io0_1 : Int} {a_io0_2 : (List (List Int))} {x_io0_3 : Int} {x_io0_4 : Int} {x_io0_5 : Int} {a_io0_6 : (List (List Int))} {b_io0_7 : Bool} {y_3 : T_line_Packet} (O : Hold W h0 m0 h m [rV bk_io0 152 [(Value.int .i64 x_io0_0), (Value.int .u32 x_io0_1), (Value.slice A_io0_2_0 n_io0_2_0 c_io0_2_0), (Value.int .i64 x_io0_3), (Value.int .i64 x_io0_4), (Value.int .u32 x_io0_5), (Value.slice A_io0_6_0 n_io0_6_0 c_io0_6_0), (Value.bool b_io0_7)], rR (aE (tell_row (tell_int .u8))) A_io0_2_0 c_io0_2_0 a_io0_2, rR (aE (tell_row (tell_int .u8))) A_io0_6_0 c_io0_6_0 a_io0_6, rV bk_3 58 cs_3]) (ne_io0_2_0 : n_io0_2_0 = List.length a_io0_2) (ne_io0_6_0 : n_io0_6_0 = List.length a_io0_6) (e_3 : T_line_Packet.E m y_3 cs_3) {r : Int × T_line_End} (e : line_End_Come.j1 x_io0_0 x_io0_1 a_io0_2 x_io0_3 x_io0_4 x_io0_5 a_io0_6 b_io0_7 y_3 = some r) : f33.j1 (line_End_Come.post W bk_io0 h0 m0 r) (⟨bk_io0, 0, none⟩ : Addr) (⟨bk_3, 0, none⟩ : Addr) h := by
  unfold line_End_Come.j1 at e
  subst ne_io0_2_0
  subst ne_io0_6_0
  refine f33.j1_in ?_
  unfold f33.j1T
  refine ⟨_, ldk (k := 2) (Sub.refl _) (O.all 3 rfl) (T_line_Packet.g2 e_3), _, rfl, ?_⟩
  refine split_not ?_
  refine split_any_e e (fun c6 e => ?_) (fun c6 e => ?_)
  · refine O.st 0 rfl 7 (Nat.le_of_ble_eq_true rfl) trivial fun h1 O2 => ?_
    refine ⟨_, ld0 (Sub.refl _) (O2.all 3 rfl) (T_line_Packet.g0 e_3), _, rfl, ?_⟩
    refine ⟨_, ldk (k := 5) (Sub.refl _) (O2.all 0 rfl) rfl, _, rfl, ?_⟩
    refine split_eq_e e (fun c5 e => ?_) (fun c5 e => ?_)
    · refine ⟨_, ldk (k := 6) (Sub.refl _) (O2.all 0 rfl) rfl, _, _, _, rfl, ?_⟩
      refine ⟨_, ld0 (Sub.refl _) (O2.all 0 rfl) rfl, _, rfl, ?_⟩
      have O3 := O2.nm
      exact line_End_Come.j3.walk (O3.pick [0, 1, 2, 3]).nm rfl rfl e_3 e
    · have O4 := O2.nm
      exact line_End_Come.j3.walk (O4.pick [0, 1, 2, 3]).nm rfl rfl e_3 e
  · cases e
    exact ⟨_, _, _, _, _, _, _, O.pick [0, 1, 2], rfl, rfl, rfl⟩

noncomputable def line_End_Come.j2 (x_io0_0 : Int) (x_io0_1 : Int) (a_io0_2 : (List (List Int))) (x_io0_3 : Int) (x_io0_4 : Int) (x_io0_5 : Int) (a_io0_6 : (List (List Int))) (b_io0_7 : Bool) (y_3 : T_line_Packet) (x_5 : Int) (b_27 : Bool) : Option (Int × T_line_End) :=
  if b_27 = true then (Option.bind (sls a_io0_2 x_5 (((List.length a_io0_2) : Nat) : Int)) fun l1 => Option.bind (slices_Clone_84 l1) fun y4 => (line_End_Come.j1 x_io0_0 (IntKind.wrap .u32 (x_io0_1 + (IntKind.wrap .u32 x_5))) y4 (if (IntKind.wrap .i64 (x_io0_3 - x_5)) > (0 : Int) then (IntKind.wrap .i64 (x_io0_3 - x_5)) else (0 : Int)) y_3.Window x_io0_5 a_io0_6 b_io0_7 y_3)) else (if x_5 = (0 : Int) then ((line_End_Come.j1 x_io0_0 x_io0_1 a_io0_2 x_io0_3 (if y_3.Window > x_io0_4 then y_3.Window else x_io0_4) x_io0_5 a_io0_6 b_io0_7 y_3)) else ((line_End_Come.j1 x_io0_0 x_io0_1 a_io0_2 x_io0_3 x_io0_4 x_io0_5 a_io0_6 b_io0_7 y_3)))
set_option maxHeartbeats 4000000 in
set_option maxRecDepth 100000 in
theorem line_End_Come.j2.walk {W : Nat → Prop} {h0 m0 h m : Heap} {bk_io0 : Nat} {A_io0_2_0 : Option Addr} {n_io0_2_0 : Nat} {c_io0_2_0 : Nat} {A_io0_6_0 : Option Addr} {n_io0_6_0 : Nat} {c_io0_6_0 : Nat} {bk_3 : Nat} {cs_3 : List Value} {x_io0_0 : Int} {x_io0_1 : Int} {a_io0_2 : (List (List Int))} {x_io0_3 : Int} {x_io0_4 : Int} {x_io0_5 : Int} {a_io0_6 : (List (List Int))} {b_io0_7 : Bool} {y_3 : T_line_Packet} {x_5 : Int} {b_27 : Bool} (O : Hold W h0 m0 h m [rV bk_io0 152 [(Value.int .i64 x_io0_0), (Value.int .u32 x_io0_1), (Value.slice A_io0_2_0 n_io0_2_0 c_io0_2_0), (Value.int .i64 x_io0_3), (Value.int .i64 x_io0_4), (Value.int .u32 x_io0_5), (Value.slice A_io0_6_0 n_io0_6_0 c_io0_6_0), (Value.bool b_io0_7)], rR (aE (tell_row (tell_int .u8))) A_io0_2_0 c_io0_2_0 a_io0_2, rR (aE (tell_row (tell_int .u8))) A_io0_6_0 c_io0_6_0 a_io0_6, rV bk_3 58 cs_3]) (ne_io0_2_0 : n_io0_2_0 = List.length a_io0_2) (ne_io0_6_0 : n_io0_6_0 = List.length a_io0_6) (e_3 : T_line_Packet.E m y_3 cs_3) {r : Int × T_line_End} (e : line_End_Come.j2 x_io0_0 x_io0_1 a_io0_2 x_io0_3 x_io0_4 x_io0_5 a_io0_6 b_io0_7 y_3 x_5 b_27 = some r) : f33.j2 (line_End_Come.post W bk_io0 h0 m0 r) (⟨bk_io0, 0, none⟩ : Addr) (⟨bk_3, 0, none⟩ : Addr) x_5 b_27 h := by
  unfold line_End_Come.j2 at e
  subst ne_io0_2_0
  subst ne_io0_6_0
  refine f33.j2_in ?_
  unfold f33.j2T
  refine split_any_e e (fun c36 e => ?_) (fun c36 e => ?_)
  · refine ⟨_, ldk (k := 2) (Sub.refl _) (O.all 0 rfl) rfl, _, _, _, rfl, ?_⟩
    obtain ⟨l1, g2, e⟩ := bind_e e
    have q3 := sls_e g2
    refine ⟨q3.1, q3.2.1, cap_in q3.2.2.1 (O.cap 1 rfl), ?_⟩
    try rw [q3.2.2.2.1]
    obtain ⟨y4, g5, e⟩ := bind_e e
    obtain ⟨m10, u11, s16, ⟨⟨r14, k15⟩, _⟩, B12, C13⟩ := O.lend0 [1]
    replace r14 : Rd 1 (eRow 1 (eInt .u8)) m10 A_io0_2_0 a_io0_2 := r14
    replace k15 : List.length a_io0_2 ≤ c_io0_2_0 := k15
    refine (slices_Clone_84.walk (Hold.start (W := No) s16) rfl (sls_cap g2 k15) (r14.sls g2 (le_mx q3.2.2.1 k15)) g5).mono ?_
    rintro _ h6 ⟨m7, A17, n18, c19, Q8, rfl, ne20⟩
    have O22 := Hold.nm (B12 Q8)
    subst ne20
    refine ⟨_, _, _, rfl, ?_⟩
    refine O22.st 0 rfl 2 (Nat.le_of_ble_eq_true rfl) trivial fun h23 O24 => ?_
    refine ⟨_, ldk (k := 1) (Sub.refl _) (O24.all 0 rfl) rfl, _, rfl, ?_⟩
    refine O24.st 0 rfl 1 (Nat.le_of_ble_eq_true rfl) trivial fun h25 O26 => ?_
    refine ⟨_, ldk (k := 3) (Sub.refl _) (O26.all 0 rfl) rfl, _, rfl, ?_⟩
    refine O26.st 0 rfl 3 (Nat.le_of_ble_eq_true rfl) trivial fun h27 O28 => ?_
    refine ⟨_, ldk (k := 3) (Sub.refl _) (O28.all 3 rfl) (T_line_Packet.g3 e_3), _, rfl, ?_⟩
    refine O28.st 0 rfl 4 (Nat.le_of_ble_eq_true rfl) trivial fun h29 O30 => ?_
    have O31 := O30.nm
    exact line_End_Come.j1.walk (O31.pick [0, 4, 2, 3]).nm rfl rfl (T_line_Packet.T.mono _ _ _ _ (u11.trans Q8.S.up) e_3) e
  · refine split_eq_e e (fun c35 e => ?_) (fun c35 e => ?_)
    · refine ⟨_, ldk (k := 4) (Sub.refl _) (O.all 0 rfl) rfl, _, rfl, ?_⟩
      refine ⟨_, ldk (k := 3) (Sub.refl _) (O.all 3 rfl) (T_line_Packet.g3 e_3), _, rfl, ?_⟩
      refine O.st 0 rfl 4 (Nat.le_of_ble_eq_true rfl) trivial fun h32 O33 => ?_
      have O34 := O33.nm
      exact line_End_Come.j1.walk (O34.pick [0, 1, 2, 3]).nm rfl rfl e_3 e
    · exact line_End_Come.j1.walk (O.pick [0, 1, 2, 3]).nm rfl rfl e_3 e

noncomputable def line_End_Come.j0 (x_io0_0 : Int) (x_io0_1 : Int) (a_io0_2 : (List (List Int))) (x_io0_3 : Int) (x_io0_4 : Int) (x_io0_5 : Int) (a_io0_6 : (List (List Int))) (b_io0_7 : Bool) (y_3 : T_line_Packet) : Option (Int × T_line_End) :=
  if (((List.length y_3.Body) : Nat) : Int) > (1048576 : Int) then (some ((2 : Int), (T_line_End.mk x_io0_0 x_io0_1 a_io0_2 x_io0_3 x_io0_4 x_io0_5 a_io0_6 b_io0_7))) else (if (IntKind.wrap .i64 (IntKind.wrap .i32 (IntKind.wrap .u32 (y_3.Ack - x_io0_1)))) > (0 : Int) then ((line_End_Come.j2 x_io0_0 x_io0_1 a_io0_2 x_io0_3 x_io0_4 x_io0_5 a_io0_6 b_io0_7 y_3 (IntKind.wrap .i64 (IntKind.wrap .i32 (IntKind.wrap .u32 (y_3.Ack - x_io0_1)))) (decide ((IntKind.wrap .i64 (IntKind.wrap .i32 (IntKind.wrap .u32 (y_3.Ack - x_io0_1)))) ≤ (((List.length a_io0_2) : Nat) : Int))))) else ((line_End_Come.j2 x_io0_0 x_io0_1 a_io0_2 x_io0_3 x_io0_4 x_io0_5 a_io0_6 b_io0_7 y_3 (IntKind.wrap .i64 (IntKind.wrap .i32 (IntKind.wrap .u32 (y_3.Ack - x_io0_1)))) false)))
set_option maxRecDepth 100000 in
theorem line_End_Come.j0.walk {W : Nat → Prop} {h0 m0 h m : Heap} {bk_io0 : Nat} {A_io0_2_0 : Option Addr} {n_io0_2_0 : Nat} {c_io0_2_0 : Nat} {A_io0_6_0 : Option Addr} {n_io0_6_0 : Nat} {c_io0_6_0 : Nat} {bk_3 : Nat} {cs_3 : List Value} {x_io0_0 : Int} {x_io0_1 : Int} {a_io0_2 : (List (List Int))} {x_io0_3 : Int} {x_io0_4 : Int} {x_io0_5 : Int} {a_io0_6 : (List (List Int))} {b_io0_7 : Bool} {y_3 : T_line_Packet} (O : Hold W h0 m0 h m [rV bk_io0 152 [(Value.int .i64 x_io0_0), (Value.int .u32 x_io0_1), (Value.slice A_io0_2_0 n_io0_2_0 c_io0_2_0), (Value.int .i64 x_io0_3), (Value.int .i64 x_io0_4), (Value.int .u32 x_io0_5), (Value.slice A_io0_6_0 n_io0_6_0 c_io0_6_0), (Value.bool b_io0_7)], rR (aE (tell_row (tell_int .u8))) A_io0_2_0 c_io0_2_0 a_io0_2, rR (aE (tell_row (tell_int .u8))) A_io0_6_0 c_io0_6_0 a_io0_6, rV bk_3 58 cs_3]) (ne_io0_2_0 : n_io0_2_0 = List.length a_io0_2) (ne_io0_6_0 : n_io0_6_0 = List.length a_io0_6) (e_3 : T_line_Packet.E m y_3 cs_3) {r : Int × T_line_End} (e : line_End_Come.j0 x_io0_0 x_io0_1 a_io0_2 x_io0_3 x_io0_4 x_io0_5 a_io0_6 b_io0_7 y_3 = some r) : f33.j0 (line_End_Come.post W bk_io0 h0 m0 r) (⟨bk_io0, 0, none⟩ : Addr) (⟨bk_3, 0, none⟩ : Addr) h := by
  unfold line_End_Come.j0 at e
  subst ne_io0_2_0
  subst ne_io0_6_0
  refine f33.j0_in ?_
  unfold f33.j0T
  obtain ⟨A1, c2, q3, k4, r5⟩ := T_line_Packet.g4 e_3
  refine ⟨_, ldk (k := 4) (Sub.refl _) (O.all 3 rfl) q3, _, _, _, rfl, ?_⟩
  refine split_dec_e e (fun c7 e => ?_) (fun c7 e => ?_)
  · cases e
    exact ⟨_, _, _, _, _, _, _, O.pick [0, 1, 2], rfl, rfl, rfl⟩
  · refine ⟨_, ldk (k := 1) (Sub.refl _) (O.all 3 rfl) (T_line_Packet.g1 e_3), _, rfl, ?_⟩
    refine ⟨_, ldk (k := 1) (Sub.refl _) (O.all 0 rfl) rfl, _, rfl, ?_⟩
    refine split_dec_e e (fun c6 e => ?_) (fun c6 e => ?_)
    · refine ⟨_, ldk (k := 2) (Sub.refl _) (O.all 0 rfl) rfl, _, _, _, rfl, ?_⟩
      exact line_End_Come.j2.walk (O.pick [0, 1, 2, 3]).nm rfl rfl e_3 e
    · exact line_End_Come.j2.walk (O.pick [0, 1, 2, 3]).nm rfl rfl e_3 e

noncomputable def line_End_Come (y_0 : T_line_End) (y_1 : T_line_Packet) : Option (Int × T_line_End) :=
  if y_1.Window < (0 : Int) then (some ((1 : Int), y_0)) else (if y_1.Window > (16 : Int) then (some ((1 : Int), y_0)) else ((line_End_Come.j0 y_0.window_ y_0.base_ y_0.kept_ y_0.told_ y_0.limit_ y_0.want_ y_0.read_ y_0.owe_ y_1)))
set_option maxRecDepth 100000 in
theorem line_End_Come.walk {W : Nat → Prop} {h m : Heap} {bkio0 : Nat} {A_0_2 : Option Addr} {n_0_2 : Nat} {c_0_2 : Nat} {A_0_6 : Option Addr} {n_0_6 : Nat} {c_0_6 : Nat} {cs_1 : List Value} {y_0 : T_line_End} {y_1 : T_line_Packet} (O : Hold W h m h m [rV bkio0 152 [(Value.int .i64 y_0.window_), (Value.int .u32 y_0.base_), (Value.slice A_0_2 n_0_2 c_0_2), (Value.int .i64 y_0.told_), (Value.int .i64 y_0.limit_), (Value.int .u32 y_0.want_), (Value.slice A_0_6 n_0_6 c_0_6), (Value.bool y_0.owe_)], rR (aE (tell_row (tell_int .u8))) A_0_2 c_0_2 y_0.kept_, rR (aE (tell_row (tell_int .u8))) A_0_6 c_0_6 y_0.read_]) (ne_0_2 : n_0_2 = List.length y_0.kept_) (ne_0_6 : n_0_6 = List.length y_0.read_) (e_1 : T_line_Packet.E m y_1 cs_1) {r : Int × T_line_End} (e : line_End_Come y_0 y_1 = some r) : Run Try.prog 33 #[Value.pointer (some ⟨bkio0, 0, none⟩), Value.agg cs_1.toArray] h (line_End_Come.post W bkio0 h m r) := by
  unfold line_End_Come at e
  subst ne_0_2
  subst ne_0_6
  refine f33.run ?_
  unfold f33.runT
  refine O.new fun h1 x2 O3 => ?_
  refine ⟨_, ldk (k := 3) (Sub.refl _) (O3.all 3 rfl) (T_line_Packet.g3 e_1), _, rfl, ?_⟩
  refine split_dec_e e (fun c9 e => ?_) (fun c9 e => ?_)
  · have O5 := O3.nm
    cases e
    exact ⟨_, _, _, _, _, _, _, O5.pick [0, 1, 2], rfl, rfl, rfl⟩
  · refine ⟨_, ldk (k := 3) (Sub.refl _) (O3.all 3 rfl) (T_line_Packet.g3 e_1), _, rfl, ?_⟩
    refine split_dec_e e (fun c8 e => ?_) (fun c8 e => ?_)
    · have O6 := O3.nm
      cases e
      exact ⟨_, _, _, _, _, _, _, O6.pick [0, 1, 2], rfl, rfl, rfl⟩
    · have O7 := O3.nm
      exact line_End_Come.j0.walk (O7.pick [0, 1, 2, 3]).nm rfl rfl e_1 e

/-! ### 34 roadstead/roadlaw4.packet -/
def roadlaw4_packet.post (W : Nat → Prop) (h0 m0 : Heap) (r : T_line_Packet) (v : Value) (h : Heap) : Prop := ∃ m cs0, Hold W h0 m0 h m [] ∧ v = .agg cs0.toArray ∧ T_line_Packet.E m r cs0
noncomputable def roadlaw4_packet (y_0 : T_roadref4_Packet) : Option (T_line_Packet) :=
  some ((T_line_Packet.mk y_0.Seq y_0.Ack y_0.Has y_0.Window y_0.Body))
set_option maxRecDepth 100000 in
theorem roadlaw4_packet.walk {W : Nat → Prop} {h m : Heap} {cs_0 : List Value} {y_0 : T_roadref4_Packet} (O : Hold W h m h m []) (e_0 : T_roadref4_Packet.E m y_0 cs_0) {r : T_line_Packet} (e : roadlaw4_packet y_0 = some r) : Run Try.prog 34 #[Value.agg cs_0.toArray] h (roadlaw4_packet.post W h m r) := by
  unfold roadlaw4_packet at e
  refine f34.run ?_
  unfold f34.runT
  refine O.new fun h1 x2 O3 => ?_
  refine O3.new fun h5 x6 O7 => ?_
  refine ⟨_, ld0 (Sub.refl _) (O7.all 0 rfl) (T_roadref4_Packet.g0 e_0), _, rfl, ?_⟩
  refine ⟨_, ldk (k := 1) (Sub.refl _) (O7.all 0 rfl) (T_roadref4_Packet.g1 e_0), _, rfl, ?_⟩
  refine ⟨_, ldk (k := 2) (Sub.refl _) (O7.all 0 rfl) (T_roadref4_Packet.g2 e_0), _, rfl, ?_⟩
  refine ⟨_, ldk (k := 3) (Sub.refl _) (O7.all 0 rfl) (T_roadref4_Packet.g3 e_0), _, rfl, ?_⟩
  obtain ⟨A9, c10, q11, k12, r13⟩ := T_roadref4_Packet.g4 e_0
  refine ⟨_, ldk (k := 4) (Sub.refl _) (O7.all 0 rfl) q11, _, _, _, rfl, ?_⟩
  refine ⟨_, rfl, rfl, ?_⟩
  refine O7.stA 1 rfl rfl (Flats.cons trivial (Flats.cons trivial (Flats.cons trivial (Flats.cons trivial (Flats.cons trivial Flats.nil))))) fun h14 O15 => ?_
  refine ⟨_, ldAn (Sub.refl _) (O15.all 1 rfl) rfl, ?_⟩
  have O16 := O15.nm
  cases e
  exact ⟨_, _, O16.pick [], rfl, (show T_line_Packet.E _ (T_line_Packet.mk y_0.Seq y_0.Ack y_0.Has y_0.Window y_0.Body) [(Value.int .u32 y_0.Seq), (Value.int .u32 y_0.Ack), (Value.bool y_0.Has), (Value.int .i64 y_0.Window), (Value.slice A9 (List.length y_0.Body) c10)] from ⟨_, _, rfl, k12, r13⟩)⟩

/-! ### 35 slices.EqualFunc[[][]byte,[][]byte,[]byte,[]byte] -/
def slices_EqualFunc_35.post (W : Nat → Prop) (h0 m0 : Heap) (r : Bool) (v : Value) (h : Heap) : Prop := ∃ m , Hold W h0 m0 h m [] ∧ v = .bool r
inductive slices_EqualFunc_35.l0_k.Pt where
  | l0 (a_1 : List (List Int)) (p_2 : (List Int) → (List Int) → Option Bool) (a_15 : List (List Int)) (x_16 : Int) (x_17 : Int)
noncomputable def slices_EqualFunc_35.l0_k.body (go : (p : slices_EqualFunc_35.l0_k.Pt) → Option (Bool)) : (p : slices_EqualFunc_35.l0_k.Pt) → Option (Bool)
  | .l0 a_1 p_2 a_15 x_16 x_17 => if x_17 < x_16 then (Option.bind (gi a_15 x_17) fun y1 => Option.bind (gi a_1 x_17) fun y8 => Option.bind (p_2 y1 y8) fun y15 => if y15 = true then ((go (.l0 a_1 p_2 a_15 x_16 (IntKind.wrap .i64 (x_17 + (1 : Int)))))) else (some (false))) else (some (true))
theorem slices_EqualFunc_35.l0_k.mono : MonoF (β := fun _ => (Bool)) slices_EqualFunc_35.l0_k.body := fun f g hfg p => match p with
  | .l0 a_1 p_2 a_15 x_16 x_17 => LeO.ite (LeO.bind (LeO.refl _) fun y1 => LeO.bind (LeO.refl _) fun y8 => LeO.bind (LeO.refl _) fun y15 => LeO.ite ((hfg _)) (LeO.refl _)) (LeO.refl _)
noncomputable def slices_EqualFunc_35.l0_k.go (p : slices_EqualFunc_35.l0_k.Pt) : Option (Bool) := fixF (β := fun _ => (Bool)) slices_EqualFunc_35.l0_k.body p
noncomputable def slices_EqualFunc_35.l0 (a_1 : List (List Int)) (p_2 : (List Int) → (List Int) → Option Bool) (a_15 : List (List Int)) (x_16 : Int) (x_17 : Int) : Option (Bool) := slices_EqualFunc_35.l0_k.go (.l0 a_1 p_2 a_15 x_16 x_17)
theorem slices_EqualFunc_35.l0_eq (a_1 : List (List Int)) (p_2 : (List Int) → (List Int) → Option Bool) (a_15 : List (List Int)) (x_16 : Int) (x_17 : Int) : slices_EqualFunc_35.l0 a_1 p_2 a_15 x_16 x_17 = if x_17 < x_16 then (Option.bind (gi a_15 x_17) fun y1 => Option.bind (gi a_1 x_17) fun y8 => Option.bind (p_2 y1 y8) fun y15 => if y15 = true then ((slices_EqualFunc_35.l0 a_1 p_2 a_15 x_16 (IntKind.wrap .i64 (x_17 + (1 : Int))))) else (some (false))) else (some (true)) := fixF_eq slices_EqualFunc_35.l0_k.mono _
def slices_EqualFunc_35.l0_k.I : (p : slices_EqualFunc_35.l0_k.Pt) → (Bool) → Prop
  | .l0 a_1 p_2 a_15 x_16 x_17, r => ∀ (W : Nat → Prop) (h0 m0 h m : Heap) (A_1 : Option Addr) (n_1 c_1 : Nat) (fv_2 : Value) (A_15 : Option Addr) (n_15 c_15 : Nat) (O : Hold W h0 m0 h m []) (ne_1 : n_1 = List.length a_1) (k_1 : List.length a_1 ≤ c_1) (r_1 : Rd 1 (eRow 1 (eInt .u8)) m A_1 a_1) (f_2 : ∀ h' m', Sub m0 m' → Sub m' h' → ∀ (A0 : Option Addr) (n0 c0 : Nat) (l0 : List Int) (_ : n0 = l0.length) (_ : l0.length ≤ c0) (_ : Rd 1 (eInt .u8) m' A0 l0) (A1 : Option Addr) (n1 c1 : Nat) (l1 : List Int) (_ : n1 = l1.length) (_ : l1.length ≤ c1) (_ : Rd 1 (eInt .u8) m' A1 l1) (r : Bool), p_2 l0 l1 = some r → CallF Try.prog fv_2 [.slice A0 n0 c0, .slice A1 n1 c1] h' (fun v h'' => v = .bool r ∧ Ext h' h'')) (ne_15 : n_15 = List.length a_15) (k_15 : List.length a_15 ≤ c_15) (r_15 : Rd 1 (eRow 1 (eInt .u8)) m A_15 a_15), f35.l0 (slices_EqualFunc_35.post W h0 m0 r) A_1 n_1 c_1 fv_2 A_15 n_15 c_15 x_16 x_17 h
set_option maxRecDepth 100000 in
theorem slices_EqualFunc_35.l0_k.step_l0 (go : (p : slices_EqualFunc_35.l0_k.Pt) → Option (Bool)) (ih : ∀ p r, go p = some r → slices_EqualFunc_35.l0_k.I p r) (a_1 : List (List Int)) (p_2 : (List Int) → (List Int) → Option Bool) (a_15 : List (List Int)) (x_16 : Int) (x_17 : Int) (r : Bool) (e : slices_EqualFunc_35.l0_k.body go (.l0 a_1 p_2 a_15 x_16 x_17) = some r) : slices_EqualFunc_35.l0_k.I (.l0 a_1 p_2 a_15 x_16 x_17) r := by
  unfold slices_EqualFunc_35.l0_k.body at e
  intro W h0 m0 h m A_1 n_1 c_1 fv_2 A_15 n_15 c_15 O ne_1 k_1 r_1 f_2 ne_15 k_15 r_15
  subst ne_1
  subst ne_15
  refine f35.l0_in ?_
  unfold f35.l0T
  refine split_dec_e e (fun c21 e => ?_) (fun c21 e => ?_)
  · obtain ⟨y1, g2, e⟩ := bind_e e
    refine r_15.addr rfl g2 fun a3 cs4 ha5 hc6 he7 => ?_
    obtain ⟨Acs4_0, ccs4_0, rfl, kcs4_0, rcs4_0⟩ := id he7
    refine ⟨_, ld0 O.s hc6 rfl, _, _, _, rfl, ?_⟩
    obtain ⟨y8, g9, e⟩ := bind_e e
    refine r_1.addr rfl g9 fun a10 cs11 ha12 hc13 he14 => ?_
    obtain ⟨Acs11_0, ccs11_0, rfl, kcs11_0, rcs11_0⟩ := id he14
    refine ⟨_, ld0 O.s hc13 rfl, _, _, _, rfl, ?_⟩
    obtain ⟨y15, g16, e⟩ := bind_e e
    refine CallF.mono (f_2 _ _ O.up O.s _ _ _ _ rfl kcs4_0 rcs4_0 _ _ _ _ rfl kcs11_0 rcs11_0 _ g16) ?_
    rintro _ h17 ⟨rfl, x18⟩
    have O19 := O.ext x18
    refine ⟨_, rfl, ?_⟩
    refine split_not ?_
    refine split_any_e e (fun c20 e => ?_) (fun c20 e => ?_)
    · exact (ih _ _ e) _ _ _ _ _ _ _ _ _ _ _ _ (O19.pick []).nm rfl k_1 r_1 f_2 rfl k_15 r_15
    · cases e
      exact ⟨_, O19.pick [], rfl⟩
  · cases e
    exact ⟨_, O.pick [], rfl⟩
theorem slices_EqualFunc_35.l0_k.all {p : slices_EqualFunc_35.l0_k.Pt} {r : (Bool)} (e : slices_EqualFunc_35.l0_k.go p = some r) : slices_EqualFunc_35.l0_k.I p r := fixF_ind (β := fun _ => (Bool)) slices_EqualFunc_35.l0_k.mono (I := slices_EqualFunc_35.l0_k.I) (fun go ih p r e => match p with
  | .l0 a_1 p_2 a_15 x_16 x_17 => slices_EqualFunc_35.l0_k.step_l0 go ih a_1 p_2 a_15 x_16 x_17 r e
  ) e
theorem slices_EqualFunc_35.l0.walk {W : Nat → Prop} {h0 m0 h m : Heap} {A_1 : Option Addr} {n_1 c_1 : Nat} {fv_2 : Value} {A_15 : Option Addr} {n_15 c_15 : Nat} {a_1 : List (List Int)} {p_2 : (List Int) → (List Int) → Option Bool} {a_15 : List (List Int)} {x_16 : Int} {x_17 : Int} (O : Hold W h0 m0 h m []) (ne_1 : n_1 = List.length a_1) (k_1 : List.length a_1 ≤ c_1) (r_1 : Rd 1 (eRow 1 (eInt .u8)) m A_1 a_1) (f_2 : ∀ h' m', Sub m0 m' → Sub m' h' → ∀ (A0 : Option Addr) (n0 c0 : Nat) (l0 : List Int) (_ : n0 = l0.length) (_ : l0.length ≤ c0) (_ : Rd 1 (eInt .u8) m' A0 l0) (A1 : Option Addr) (n1 c1 : Nat) (l1 : List Int) (_ : n1 = l1.length) (_ : l1.length ≤ c1) (_ : Rd 1 (eInt .u8) m' A1 l1) (r : Bool), p_2 l0 l1 = some r → CallF Try.prog fv_2 [.slice A0 n0 c0, .slice A1 n1 c1] h' (fun v h'' => v = .bool r ∧ Ext h' h'')) (ne_15 : n_15 = List.length a_15) (k_15 : List.length a_15 ≤ c_15) (r_15 : Rd 1 (eRow 1 (eInt .u8)) m A_15 a_15) {r : Bool} (e : slices_EqualFunc_35.l0 a_1 p_2 a_15 x_16 x_17 = some r) : f35.l0 (slices_EqualFunc_35.post W h0 m0 r) A_1 n_1 c_1 fv_2 A_15 n_15 c_15 x_16 x_17 h := slices_EqualFunc_35.l0_k.all (p := .l0 a_1 p_2 a_15 x_16 x_17) e W h0 m0 h m A_1 n_1 c_1 fv_2 A_15 n_15 c_15 O ne_1 k_1 r_1 f_2 ne_15 k_15 r_15

noncomputable def slices_EqualFunc_35 (a_0 : List (List Int)) (a_1 : List (List Int)) (p_2 : (List Int) → (List Int) → Option Bool) : Option (Bool) :=
  if (((List.length a_0) : Nat) : Int) = (((List.length a_1) : Nat) : Int) then ((slices_EqualFunc_35.l0 a_1 p_2 a_0 (((List.length a_0) : Nat) : Int) (0 : Int))) else (some (false))
set_option maxRecDepth 100000 in
theorem slices_EqualFunc_35.walk {W : Nat → Prop} {h m : Heap} {A_0 : Option Addr} {n_0 c_0 : Nat} {A_1 : Option Addr} {n_1 c_1 : Nat} {fv_2 : Value} {a_0 : List (List Int)} {a_1 : List (List Int)} {p_2 : (List Int) → (List Int) → Option Bool} (O : Hold W h m h m []) (ne_0 : n_0 = List.length a_0) (k_0 : List.length a_0 ≤ c_0) (r_0 : Rd 1 (eRow 1 (eInt .u8)) m A_0 a_0) (ne_1 : n_1 = List.length a_1) (k_1 : List.length a_1 ≤ c_1) (r_1 : Rd 1 (eRow 1 (eInt .u8)) m A_1 a_1) (f_2 : ∀ h' m', Sub m m' → Sub m' h' → ∀ (A0 : Option Addr) (n0 c0 : Nat) (l0 : List Int) (_ : n0 = l0.length) (_ : l0.length ≤ c0) (_ : Rd 1 (eInt .u8) m' A0 l0) (A1 : Option Addr) (n1 c1 : Nat) (l1 : List Int) (_ : n1 = l1.length) (_ : l1.length ≤ c1) (_ : Rd 1 (eInt .u8) m' A1 l1) (r : Bool), p_2 l0 l1 = some r → CallF Try.prog fv_2 [.slice A0 n0 c0, .slice A1 n1 c1] h' (fun v h'' => v = .bool r ∧ Ext h' h'')) {r : Bool} (e : slices_EqualFunc_35 a_0 a_1 p_2 = some r) : Run Try.prog 35 #[Value.slice A_0 n_0 c_0, Value.slice A_1 n_1 c_1, fv_2] h (slices_EqualFunc_35.post W h m r) := by
  unfold slices_EqualFunc_35 at e
  subst ne_0
  subst ne_1
  refine f35.run ?_
  unfold f35.runT
  refine split_ne_e e (fun c1 e => ?_) (fun c1 e => ?_)
  · cases e
    exact ⟨_, O.pick [], rfl⟩
  · exact slices_EqualFunc_35.l0.walk (O.pick []).nm rfl k_1 r_1 f_2 rfl k_0 r_0 e
theorem slices_EqualFunc_35.val {l : List (List Int)} {m : List (List Int)} {p : (List Int) → (List Int) → Option Bool} (q : (List Int) → (List Int) → Bool) (hp : ∀ x ∈ l, ∀ y ∈ m, p x y = some (q x y)) (hl : l.length ≤ 4611686018427387904) : slices_EqualFunc_35 l m p = some (decide (l.length = m.length) && (l.zip m).all fun x => q x.1 x.2) := equalFunc_val (fun a b p n i => slices_EqualFunc_35.l0_eq b p a n i) (fun _ _ _ => rfl) q hp hl

/-! ### 36 (*roadstead/line.End).Got -/
def line_End_Got.post (W : Nat → Prop) (bkio0 : Nat) (h0 m0 : Heap) (r : (List (List Int)) × T_line_End) (v : Value) (h : Heap) : Prop := ∃ m A0 n0 c0 Aio0_2 nio0_2 cio0_2 Aio0_6 nio0_6 cio0_6, Hold W h0 m0 h m [rR (aE (tell_row (tell_int .u8))) A0 c0 r.1, rV bkio0 152 [(Value.int .i64 r.2.window_), (Value.int .u32 r.2.base_), (Value.slice Aio0_2 nio0_2 cio0_2), (Value.int .i64 r.2.told_), (Value.int .i64 r.2.limit_), (Value.int .u32 r.2.want_), (Value.slice Aio0_6 nio0_6 cio0_6), (Value.bool r.2.owe_)], rR (aE (tell_row (tell_int .u8))) Aio0_2 cio0_2 r.2.kept_, rR (aE (tell_row (tell_int .u8))) Aio0_6 cio0_6 r.2.read_] ∧ v = .slice A0 n0 c0 ∧ n0 = List.length r.1 ∧ nio0_2 = List.length r.2.kept_ ∧ nio0_6 = List.length r.2.read_
noncomputable def line_End_Got (y_0 : T_line_End) : Option ((List (List Int)) × T_line_End) :=
  if y_0.owe_ = true then (some (y_0.read_, (T_line_End.mk y_0.window_ y_0.base_ y_0.kept_ y_0.told_ y_0.limit_ y_0.want_ ([] : List (List Int)) true))) else (some (y_0.read_, (T_line_End.mk y_0.window_ y_0.base_ y_0.kept_ y_0.told_ y_0.limit_ y_0.want_ ([] : List (List Int)) (decide ((((List.length y_0.read_) : Nat) : Int) > (0 : Int))))))
set_option maxRecDepth 100000 in
theorem line_End_Got.walk {W : Nat → Prop} {h m : Heap} {bkio0 : Nat} {A_0_2 : Option Addr} {n_0_2 : Nat} {c_0_2 : Nat} {A_0_6 : Option Addr} {n_0_6 : Nat} {c_0_6 : Nat} {y_0 : T_line_End} (O : Hold W h m h m [rV bkio0 152 [(Value.int .i64 y_0.window_), (Value.int .u32 y_0.base_), (Value.slice A_0_2 n_0_2 c_0_2), (Value.int .i64 y_0.told_), (Value.int .i64 y_0.limit_), (Value.int .u32 y_0.want_), (Value.slice A_0_6 n_0_6 c_0_6), (Value.bool y_0.owe_)], rR (aE (tell_row (tell_int .u8))) A_0_2 c_0_2 y_0.kept_, rR (aE (tell_row (tell_int .u8))) A_0_6 c_0_6 y_0.read_]) (ne_0_2 : n_0_2 = List.length y_0.kept_) (ne_0_6 : n_0_6 = List.length y_0.read_) {r : (List (List Int)) × T_line_End} (e : line_End_Got y_0 = some r) : Run Try.prog 36 #[Value.pointer (some ⟨bkio0, 0, none⟩)] h (line_End_Got.post W bkio0 h m r) := by
  unfold line_End_Got at e
  subst ne_0_2
  subst ne_0_6
  refine f36.run ?_
  unfold f36.runT
  refine ⟨_, ldk (k := 6) (Sub.refl _) (O.all 0 rfl) rfl, _, _, _, rfl, ?_⟩
  refine O.st 0 rfl 6 (Nat.le_of_ble_eq_true rfl) trivial fun h1 O2 => ?_
  refine ⟨_, ldk (k := 7) (Sub.refl _) (O2.all 0 rfl) rfl, _, rfl, ?_⟩
  refine split_any_e e (fun c13 e => ?_) (fun c13 e => ?_)
  · refine O2.st 0 rfl 7 (Nat.le_of_ble_eq_true rfl) trivial fun h3 O4 => ?_
    have O5 := O4.nil (aE (tell_row (tell_int .u8))) none
    have O7 := O5.nm
    cases e
    exact ⟨_, _, _, _, _, _, _, _, _, _, O7.pick [2, 0, 1, 3], rfl, rfl, rfl, rfl⟩
  · refine O2.st 0 rfl 7 (Nat.le_of_ble_eq_true rfl) trivial fun h8 O9 => ?_
    have O10 := O9.nil (aE (tell_row (tell_int .u8))) none
    have O12 := O10.nm
    cases e
    exact ⟨_, _, _, _, _, _, _, _, _, _, O12.pick [2, 0, 1, 3], rfl, rfl, rfl, rfl⟩

/-! ### 38 (*roadstead/line.End).Tick -/
def line_End_Tick.post (W : Nat → Prop) (bkio0 : Nat) (h0 m0 : Heap) (r : T_line_End) (v : Value) (h : Heap) : Prop := ∃ m Aio0_2 nio0_2 cio0_2 Aio0_6 nio0_6 cio0_6, Hold W h0 m0 h m [rV bkio0 152 [(Value.int .i64 r.window_), (Value.int .u32 r.base_), (Value.slice Aio0_2 nio0_2 cio0_2), (Value.int .i64 r.told_), (Value.int .i64 r.limit_), (Value.int .u32 r.want_), (Value.slice Aio0_6 nio0_6 cio0_6), (Value.bool r.owe_)], rR (aE (tell_row (tell_int .u8))) Aio0_2 cio0_2 r.kept_, rR (aE (tell_row (tell_int .u8))) Aio0_6 cio0_6 r.read_] ∧ v = .tuple #[] ∧ nio0_2 = List.length r.kept_ ∧ nio0_6 = List.length r.read_
noncomputable def line_End_Tick (y_0 : T_line_End) : Option (T_line_End) :=
  if (((List.length y_0.kept_) : Nat) : Int) > (0 : Int) then (some ((T_line_End.mk y_0.window_ y_0.base_ y_0.kept_ (0 : Int) (if (1 : Int) > y_0.limit_ then (1 : Int) else y_0.limit_) y_0.want_ y_0.read_ y_0.owe_))) else (some ((T_line_End.mk y_0.window_ y_0.base_ y_0.kept_ (0 : Int) y_0.limit_ y_0.want_ y_0.read_ y_0.owe_)))
set_option maxRecDepth 100000 in
theorem line_End_Tick.walk {W : Nat → Prop} {h m : Heap} {bkio0 : Nat} {A_0_2 : Option Addr} {n_0_2 : Nat} {c_0_2 : Nat} {A_0_6 : Option Addr} {n_0_6 : Nat} {c_0_6 : Nat} {y_0 : T_line_End} (O : Hold W h m h m [rV bkio0 152 [(Value.int .i64 y_0.window_), (Value.int .u32 y_0.base_), (Value.slice A_0_2 n_0_2 c_0_2), (Value.int .i64 y_0.told_), (Value.int .i64 y_0.limit_), (Value.int .u32 y_0.want_), (Value.slice A_0_6 n_0_6 c_0_6), (Value.bool y_0.owe_)], rR (aE (tell_row (tell_int .u8))) A_0_2 c_0_2 y_0.kept_, rR (aE (tell_row (tell_int .u8))) A_0_6 c_0_6 y_0.read_]) (ne_0_2 : n_0_2 = List.length y_0.kept_) (ne_0_6 : n_0_6 = List.length y_0.read_) {r : T_line_End} (e : line_End_Tick y_0 = some r) : Run Try.prog 38 #[Value.pointer (some ⟨bkio0, 0, none⟩)] h (line_End_Tick.post W bkio0 h m r) := by
  unfold line_End_Tick at e
  subst ne_0_2
  subst ne_0_6
  refine f38.run ?_
  unfold f38.runT
  refine O.st 0 rfl 3 (Nat.le_of_ble_eq_true rfl) trivial fun h1 O2 => ?_
  refine ⟨_, ldk (k := 2) (Sub.refl _) (O2.all 0 rfl) rfl, _, _, _, rfl, ?_⟩
  refine split_dec_e e (fun c7 e => ?_) (fun c7 e => ?_)
  · refine ⟨_, ldk (k := 4) (Sub.refl _) (O2.all 0 rfl) rfl, _, rfl, ?_⟩
    refine O2.st 0 rfl 4 (Nat.le_of_ble_eq_true rfl) trivial fun h3 O4 => ?_
    have O5 := O4.nm
    cases e
    exact ⟨_, _, _, _, _, _, _, O5.pick [0, 1, 2], rfl, rfl, rfl⟩
  · have O6 := O2.nm
    cases e
    exact ⟨_, _, _, _, _, _, _, O6.pick [0, 1, 2], rfl, rfl, rfl⟩

/-! ### 39 (*roadstead/line.End).Idle -/
def line_End_Idle.post (W : Nat → Prop) (h0 m0 : Heap) (r : Bool) (v : Value) (h : Heap) : Prop := ∃ m , Hold W h0 m0 h m [] ∧ v = .bool r
noncomputable def line_End_Idle (y_0 : T_line_End) : Option (Bool) :=
  some (((((List.length y_0.kept_) : Nat) : Int) == (0 : Int)))
set_option maxRecDepth 100000 in
theorem line_End_Idle.walk {W : Nat → Prop} {h m : Heap} {bk_0 : Nat} {y_0 : T_line_End} (O : Hold W h m h m []) (v_0 : VB T_line_End.E m bk_0 y_0) {r : Bool} (e : line_End_Idle y_0 = some r) : Run Try.prog 39 #[Value.pointer (some ⟨bk_0, 0, none⟩)] h (line_End_Idle.post W h m r) := by
  unfold line_End_Idle at e
  obtain ⟨cs_0, t_0, hb_0, nn_0, e_0⟩ := id v_0
  refine f39.run ?_
  unfold f39.runT
  obtain ⟨A1, c2, q3, k4, r5⟩ := T_line_End.g2 e_0
  refine ⟨_, ldk (k := 2) O.s (Blk.all' hb_0) q3, _, _, _, rfl, ?_⟩
  cases e
  exact ⟨_, O.pick [], rfl⟩

end Go.Proofs.Ytklobcelbpjjcaa.Fw
