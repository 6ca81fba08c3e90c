/- Data of the given program, and pure functions of its functions, with the walks. Printed by a program of this session. -/
import Derived.Test.YtklobcelbpjjcaaLfLinePlays0
namespace Go.Proofs.Ytklobcelbpjjcaa.Fw
open Go Go.Hw Go.Proofs
set_option linter.unusedVariables false
set_option synthInstance.maxHeartbeats 400000
set_option synthInstance.maxSize 1000

/-! ### 4 roadstead/roadlaw4.LinePlays -/
def roadlaw4_LinePlays.post (W : Nat → Prop) (h0 m0 : Heap) (r : Bool) (v : Value) (h : Heap) : Prop := ∃ m , Hold W h0 m0 h m [] ∧ v = .bool r
inductive roadlaw4_LinePlays.l0_k.Pt where
  | l0 (x_0 : Int) (a_2 : List (List Int)) (a_3 : List T_roadref4_Packet) (x_12_0 : Int) (x_12_1 : Int) (a_12_2 : (List (List Int))) (x_12_3 : Int) (x_12_4 : Int) (x_12_5 : Int) (a_12_6 : (List (List Int))) (b_12_7 : Bool) (x_14_0 : Int) (x_14_1 : Int) (x_14_2 : Int) (x_14_3 : Int) (a_14_4 : (List (List Int))) (x_14_5 : Int) (x_14_6 : Int) (a_14_7 : (List (List Int))) (b_14_8 : Bool) (a_91 : List (List Int)) (x_92 : Int) (x_93 : Int)
  | j6 (x_0 : Int) (a_2 : List (List Int)) (a_3 : List T_roadref4_Packet) (x_12_0 : Int) (x_12_1 : Int) (a_12_2 : (List (List Int))) (x_12_3 : Int) (x_12_4 : Int) (x_12_5 : Int) (a_12_6 : (List (List Int))) (b_12_7 : Bool) (x_14_0 : Int) (x_14_1 : Int) (x_14_2 : Int) (x_14_3 : Int) (a_14_4 : (List (List Int))) (x_14_5 : Int) (x_14_6 : Int) (a_14_7 : (List (List Int))) (b_14_8 : Bool) (a_18 : List Int) (x_19 : Int) (a_91 : List (List Int)) (x_92 : Int) (x_93 : Int)
  | j9 (x_0 : Int) (a_2 : List (List Int)) (a_3 : List T_roadref4_Packet) (x_12_0 : Int) (x_12_1 : Int) (a_12_2 : (List (List Int))) (x_12_3 : Int) (x_12_4 : Int) (x_12_5 : Int) (a_12_6 : (List (List Int))) (b_12_7 : Bool) (x_14_0 : Int) (x_14_1 : Int) (x_14_2 : Int) (x_14_3 : Int) (a_14_4 : (List (List Int))) (x_14_5 : Int) (x_14_6 : Int) (a_14_7 : (List (List Int))) (b_14_8 : Bool) (y_20 : T_roadref4_Packet) (x_21 : Int) (a_91 : List (List Int)) (x_92 : Int) (x_93 : Int) (b_182 : Bool)
  | j7 (x_0 : Int) (a_2 : List (List Int)) (a_3 : List T_roadref4_Packet) (x_12_0 : Int) (x_12_1 : Int) (a_12_2 : (List (List Int))) (x_12_3 : Int) (x_12_4 : Int) (x_12_5 : Int) (a_12_6 : (List (List Int))) (b_12_7 : Bool) (x_14_0 : Int) (x_14_1 : Int) (x_14_2 : Int) (x_14_3 : Int) (a_14_4 : (List (List Int))) (x_14_5 : Int) (x_14_6 : Int) (a_14_7 : (List (List Int))) (b_14_8 : Bool) (y_20 : T_roadref4_Packet) (x_21 : Int) (a_91 : List (List Int)) (x_92 : Int) (x_93 : Int)
  | j8 (x_0 : Int) (a_2 : List (List Int)) (a_3 : List T_roadref4_Packet) (x_12_0 : Int) (x_12_1 : Int) (a_12_2 : (List (List Int))) (x_12_3 : Int) (x_12_4 : Int) (x_12_5 : Int) (a_12_6 : (List (List Int))) (b_12_7 : Bool) (x_14_0 : Int) (x_14_1 : Int) (x_14_2 : Int) (x_14_3 : Int) (a_14_4 : (List (List Int))) (x_14_5 : Int) (x_14_6 : Int) (a_14_7 : (List (List Int))) (b_14_8 : Bool) (a_22 : List (List Int)) (a_91 : List (List Int)) (x_92 : Int) (x_93 : Int)
  | j10 (x_0 : Int) (a_2 : List (List Int)) (a_3 : List T_roadref4_Packet) (x_12_0 : Int) (x_12_1 : Int) (a_12_2 : (List (List Int))) (x_12_3 : Int) (x_12_4 : Int) (x_12_5 : Int) (a_12_6 : (List (List Int))) (b_12_7 : Bool) (x_14_0 : Int) (x_14_1 : Int) (x_14_2 : Int) (x_14_3 : Int) (a_14_4 : (List (List Int))) (x_14_5 : Int) (x_14_6 : Int) (a_14_7 : (List (List Int))) (b_14_8 : Bool) (a_91 : List (List Int)) (x_92 : Int) (x_93 : Int) (b_254 : Bool)
  | j5 (x_0 : Int) (a_2 : List (List Int)) (a_3 : List T_roadref4_Packet) (x_12_0 : Int) (x_12_1 : Int) (a_12_2 : (List (List Int))) (x_12_3 : Int) (x_12_4 : Int) (x_12_5 : Int) (a_12_6 : (List (List Int))) (b_12_7 : Bool) (x_14_0 : Int) (x_14_1 : Int) (x_14_2 : Int) (x_14_3 : Int) (a_14_4 : (List (List Int))) (x_14_5 : Int) (x_14_6 : Int) (a_14_7 : (List (List Int))) (b_14_8 : Bool) (a_91 : List (List Int)) (x_92 : Int) (x_93 : Int)
noncomputable def roadlaw4_LinePlays.l0_k.body (go : (p : roadlaw4_LinePlays.l0_k.Pt) → Option (Bool)) : (p : roadlaw4_LinePlays.l0_k.Pt) → Option (Bool)
  | .l0 x_0 a_2 a_3 x_12_0 x_12_1 a_12_2 x_12_3 x_12_4 x_12_5 a_12_6 b_12_7 x_14_0 x_14_1 x_14_2 x_14_3 a_14_4 x_14_5 x_14_6 a_14_7 b_14_8 a_91 x_92 x_93 => if x_93 < x_92 then (Option.bind (gi a_91 x_93) fun y1 => Option.bind (roadlaw4_at y1 (1 : Int)) fun y8 => Option.bind (roadlaw4_at y1 (0 : Int)) fun y15 => if y15 = (1 : Int) then (Option.bind (roadlaw4_pick_27 a_2 y8) fun y22 => if (((List.length y22) : Nat) : Int) > (1048576 : Int) then ((go (.j6 x_0 a_2 a_3 x_12_0 x_12_1 a_12_2 x_12_3 x_12_4 x_12_5 a_12_6 b_12_7 x_14_0 x_14_1 x_14_2 x_14_3 a_14_4 x_14_5 x_14_6 a_14_7 b_14_8 y22 (2 : Int) a_91 x_92 x_93))) else (if (IntKind.wrap .i64 ((((List.length a_14_4) : Nat) : Int) - x_14_2)) = x_0 then ((go (.j6 x_0 a_2 a_3 x_12_0 x_12_1 a_12_2 x_12_3 x_12_4 x_12_5 a_12_6 b_12_7 x_14_0 x_14_1 x_14_2 x_14_3 a_14_4 x_14_5 x_14_6 a_14_7 b_14_8 y22 (9 : Int) a_91 x_92 x_93))) else (Option.bind (ap 24 a_14_4 ([y22] : List (List Int))) fun l39 => (go (.j6 x_0 a_2 a_3 x_12_0 x_12_1 a_12_2 x_12_3 x_12_4 x_12_5 a_12_6 b_12_7 x_14_0 x_14_1 x_14_2 x_14_3 l39 x_14_5 x_14_6 a_14_7 b_14_8 y22 (0 : Int) a_91 x_92 x_93))))) else (if y15 = (2 : Int) then (Option.bind (line_End_Out (T_line_End.mk x_12_0 x_12_1 a_12_2 x_12_3 x_12_4 x_12_5 a_12_6 b_12_7)) fun y53 => Option.bind (roadref4_End_Out (T_roadref4_End.mk x_14_0 x_14_1 x_14_2 x_14_3 a_14_4 x_14_5 x_14_6 a_14_7 b_14_8)) fun y72 => Option.bind (slices_EqualFunc_28 y53.1 y72.1 (fun z106 z107 => roadlaw4_same z106 z107)) fun y91 => if y91 = true then ((go (.j5 x_0 a_2 a_3 y53.2.window_ y53.2.base_ y53.2.kept_ y53.2.told_ y53.2.limit_ y53.2.want_ y53.2.read_ y53.2.owe_ y72.2.Window y72.2.Limit y72.2.Base y72.2.Told y72.2.All y72.2.Took y72.2.Read y72.2.Got y72.2.Owe a_91 x_92 x_93))) else (some (false))) else (if y15 = (3 : Int) then (Option.bind (roadlaw4_pick_31 a_3 y8) fun y118 => Option.bind (roadlaw4_at y1 (2 : Int)) fun y134 => Option.bind (roadlaw4_at y1 (2 : Int)) fun y145 => if (({ ({ y118 with Ack := (IntKind.wrap .u32 (y118.Ack + (IntKind.wrap .u32 ((IntKind.wrap .u32 x_14_2) * (IntKind.wrap .u32 (Int.tmod y134 (2 : Int))))))) }) with Seq := (IntKind.wrap .u32 ((({ y118 with Ack := (IntKind.wrap .u32 (y118.Ack + (IntKind.wrap .u32 ((IntKind.wrap .u32 x_14_2) * (IntKind.wrap .u32 (Int.tmod y134 (2 : Int))))))) }).Seq) + (IntKind.wrap .u32 ((IntKind.wrap .u32 x_14_5) * (IntKind.wrap .u32 (Int.tmod y145 (2 : Int))))))) }).Window) < (0 : Int) then ((go (.j9 x_0 a_2 a_3 x_12_0 x_12_1 a_12_2 x_12_3 x_12_4 x_12_5 a_12_6 b_12_7 x_14_0 x_14_1 x_14_2 x_14_3 a_14_4 x_14_5 x_14_6 a_14_7 b_14_8 ({ ({ y118 with Ack := (IntKind.wrap .u32 (y118.Ack + (IntKind.wrap .u32 ((IntKind.wrap .u32 x_14_2) * (IntKind.wrap .u32 (Int.tmod y134 (2 : Int))))))) }) with Seq := (IntKind.wrap .u32 ((({ y118 with Ack := (IntKind.wrap .u32 (y118.Ack + (IntKind.wrap .u32 ((IntKind.wrap .u32 x_14_2) * (IntKind.wrap .u32 (Int.tmod y134 (2 : Int))))))) }).Seq) + (IntKind.wrap .u32 ((IntKind.wrap .u32 x_14_5) * (IntKind.wrap .u32 (Int.tmod y145 (2 : Int))))))) }) (0 : Int) a_91 x_92 x_93 true))) else ((go (.j9 x_0 a_2 a_3 x_12_0 x_12_1 a_12_2 x_12_3 x_12_4 x_12_5 a_12_6 b_12_7 x_14_0 x_14_1 x_14_2 x_14_3 a_14_4 x_14_5 x_14_6 a_14_7 b_14_8 ({ ({ y118 with Ack := (IntKind.wrap .u32 (y118.Ack + (IntKind.wrap .u32 ((IntKind.wrap .u32 x_14_2) * (IntKind.wrap .u32 (Int.tmod y134 (2 : Int))))))) }) with Seq := (IntKind.wrap .u32 ((({ y118 with Ack := (IntKind.wrap .u32 (y118.Ack + (IntKind.wrap .u32 ((IntKind.wrap .u32 x_14_2) * (IntKind.wrap .u32 (Int.tmod y134 (2 : Int))))))) }).Seq) + (IntKind.wrap .u32 ((IntKind.wrap .u32 x_14_5) * (IntKind.wrap .u32 (Int.tmod y145 (2 : Int))))))) }) (0 : Int) a_91 x_92 x_93 (decide ((({ ({ y118 with Ack := (IntKind.wrap .u32 (y118.Ack + (IntKind.wrap .u32 ((IntKind.wrap .u32 x_14_2) * (IntKind.wrap .u32 (Int.tmod y134 (2 : Int))))))) }) with Seq := (IntKind.wrap .u32 ((({ y118 with Ack := (IntKind.wrap .u32 (y118.Ack + (IntKind.wrap .u32 ((IntKind.wrap .u32 x_14_2) * (IntKind.wrap .u32 (Int.tmod y134 (2 : Int))))))) }).Seq) + (IntKind.wrap .u32 ((IntKind.wrap .u32 x_14_5) * (IntKind.wrap .u32 (Int.tmod y145 (2 : Int))))))) }).Window) > (16 : Int))))))) else (if y15 = (4 : Int) then (if b_14_8 = true then ((go (.j8 x_0 a_2 a_3 x_12_0 x_12_1 a_12_2 x_12_3 x_12_4 x_12_5 a_12_6 b_12_7 x_14_0 x_14_1 x_14_2 x_14_3 a_14_4 x_14_5 (0 : Int) ([] : List (List Int)) true a_14_7 a_91 x_92 x_93))) else ((go (.j8 x_0 a_2 a_3 x_12_0 x_12_1 a_12_2 x_12_3 x_12_4 x_12_5 a_12_6 b_12_7 x_14_0 x_14_1 x_14_2 x_14_3 a_14_4 x_14_5 (0 : Int) ([] : List (List Int)) (decide ((((List.length a_14_7) : Nat) : Int) > (0 : Int))) a_14_7 a_91 x_92 x_93)))) else (if y15 = (5 : Int) then (Option.bind (line_End_Tick (T_line_End.mk x_12_0 x_12_1 a_12_2 x_12_3 x_12_4 x_12_5 a_12_6 b_12_7)) fun y174 => if (((List.length a_14_4) : Nat) : Int) > x_14_2 then ((go (.j10 x_0 a_2 a_3 y174.window_ y174.base_ y174.kept_ y174.told_ y174.limit_ y174.want_ y174.read_ y174.owe_ x_14_0 x_14_1 x_14_2 (0 : Int) a_14_4 x_14_5 x_14_6 a_14_7 b_14_8 a_91 x_92 x_93 (decide (x_14_1 < (1 : Int)))))) else ((go (.j10 x_0 a_2 a_3 y174.window_ y174.base_ y174.kept_ y174.told_ y174.limit_ y174.want_ y174.read_ y174.owe_ x_14_0 x_14_1 x_14_2 (0 : Int) a_14_4 x_14_5 x_14_6 a_14_7 b_14_8 a_91 x_92 x_93 false)))) else ((go (.j5 x_0 a_2 a_3 x_12_0 x_12_1 a_12_2 x_12_3 x_12_4 x_12_5 a_12_6 b_12_7 x_14_0 x_14_1 x_14_2 x_14_3 a_14_4 x_14_5 x_14_6 a_14_7 b_14_8 a_91 x_92 x_93)))))))) else (some (true))
  | .j6 x_0 a_2 a_3 x_12_0 x_12_1 a_12_2 x_12_3 x_12_4 x_12_5 a_12_6 b_12_7 x_14_0 x_14_1 x_14_2 x_14_3 a_14_4 x_14_5 x_14_6 a_14_7 b_14_8 a_18 x_19 a_91 x_92 x_93 => Option.bind (line_End_Put (T_line_End.mk x_12_0 x_12_1 a_12_2 x_12_3 x_12_4 x_12_5 a_12_6 b_12_7) a_18) fun y1 => if y1.1 = x_19 then ((go (.j5 x_0 a_2 a_3 y1.2.window_ y1.2.base_ y1.2.kept_ y1.2.told_ y1.2.limit_ y1.2.want_ y1.2.read_ y1.2.owe_ x_14_0 x_14_1 x_14_2 x_14_3 a_14_4 x_14_5 x_14_6 a_14_7 b_14_8 a_91 x_92 x_93))) else (some (false))
  | .j9 x_0 a_2 a_3 x_12_0 x_12_1 a_12_2 x_12_3 x_12_4 x_12_5 a_12_6 b_12_7 x_14_0 x_14_1 x_14_2 x_14_3 a_14_4 x_14_5 x_14_6 a_14_7 b_14_8 y_20 x_21 a_91 x_92 x_93 b_182 => if b_182 = true then ((go (.j7 x_0 a_2 a_3 x_12_0 x_12_1 a_12_2 x_12_3 x_12_4 x_12_5 a_12_6 b_12_7 x_14_0 x_14_1 x_14_2 x_14_3 a_14_4 x_14_5 x_14_6 a_14_7 b_14_8 y_20 (1 : Int) a_91 x_92 x_93))) else (if (((List.length y_20.Body) : Nat) : Int) > (1048576 : Int) then ((go (.j7 x_0 a_2 a_3 x_12_0 x_12_1 a_12_2 x_12_3 x_12_4 x_12_5 a_12_6 b_12_7 x_14_0 x_14_1 x_14_2 x_14_3 a_14_4 x_14_5 x_14_6 a_14_7 b_14_8 y_20 (2 : Int) a_91 x_92 x_93))) else (Option.bind (roadref4_End_Come (T_roadref4_End.mk x_14_0 x_14_1 x_14_2 x_14_3 a_14_4 x_14_5 x_14_6 a_14_7 b_14_8) y_20) fun y6 => (go (.j7 x_0 a_2 a_3 x_12_0 x_12_1 a_12_2 x_12_3 x_12_4 x_12_5 a_12_6 b_12_7 y6.Window y6.Limit y6.Base y6.Told y6.All y6.Took y6.Read y6.Got y6.Owe y_20 x_21 a_91 x_92 x_93))))
  | .j7 x_0 a_2 a_3 x_12_0 x_12_1 a_12_2 x_12_3 x_12_4 x_12_5 a_12_6 b_12_7 x_14_0 x_14_1 x_14_2 x_14_3 a_14_4 x_14_5 x_14_6 a_14_7 b_14_8 y_20 x_21 a_91 x_92 x_93 => Option.bind (roadlaw4_packet y_20) fun y1 => Option.bind (line_End_Come (T_line_End.mk x_12_0 x_12_1 a_12_2 x_12_3 x_12_4 x_12_5 a_12_6 b_12_7) y1) fun y11 => if y11.1 = x_21 then ((go (.j5 x_0 a_2 a_3 y11.2.window_ y11.2.base_ y11.2.kept_ y11.2.told_ y11.2.limit_ y11.2.want_ y11.2.read_ y11.2.owe_ x_14_0 x_14_1 x_14_2 x_14_3 a_14_4 x_14_5 x_14_6 a_14_7 b_14_8 a_91 x_92 x_93))) else (some (false))
  | .j8 x_0 a_2 a_3 x_12_0 x_12_1 a_12_2 x_12_3 x_12_4 x_12_5 a_12_6 b_12_7 x_14_0 x_14_1 x_14_2 x_14_3 a_14_4 x_14_5 x_14_6 a_14_7 b_14_8 a_22 a_91 x_92 x_93 => Option.bind (line_End_Got (T_line_End.mk x_12_0 x_12_1 a_12_2 x_12_3 x_12_4 x_12_5 a_12_6 b_12_7)) fun y1 => Option.bind (slices_EqualFunc_35 y1.1 a_22 (fun z35 z36 => bytes_Equal z35 z36)) fun y20 => if y20 = true then ((go (.j5 x_0 a_2 a_3 y1.2.window_ y1.2.base_ y1.2.kept_ y1.2.told_ y1.2.limit_ y1.2.want_ y1.2.read_ y1.2.owe_ x_14_0 x_14_1 x_14_2 x_14_3 a_14_4 x_14_5 x_14_6 a_14_7 b_14_8 a_91 x_92 x_93))) else (some (false))
  | .j10 x_0 a_2 a_3 x_12_0 x_12_1 a_12_2 x_12_3 x_12_4 x_12_5 a_12_6 b_12_7 x_14_0 x_14_1 x_14_2 x_14_3 a_14_4 x_14_5 x_14_6 a_14_7 b_14_8 a_91 x_92 x_93 b_254 => if b_254 = true then ((go (.j5 x_0 a_2 a_3 x_12_0 x_12_1 a_12_2 x_12_3 x_12_4 x_12_5 a_12_6 b_12_7 x_14_0 (1 : Int) x_14_2 x_14_3 a_14_4 x_14_5 x_14_6 a_14_7 b_14_8 a_91 x_92 x_93))) else ((go (.j5 x_0 a_2 a_3 x_12_0 x_12_1 a_12_2 x_12_3 x_12_4 x_12_5 a_12_6 b_12_7 x_14_0 x_14_1 x_14_2 x_14_3 a_14_4 x_14_5 x_14_6 a_14_7 b_14_8 a_91 x_92 x_93)))
  | .j5 x_0 a_2 a_3 x_12_0 x_12_1 a_12_2 x_12_3 x_12_4 x_12_5 a_12_6 b_12_7 x_14_0 x_14_1 x_14_2 x_14_3 a_14_4 x_14_5 x_14_6 a_14_7 b_14_8 a_91 x_92 x_93 => Option.bind (line_End_Idle (T_line_End.mk x_12_0 x_12_1 a_12_2 x_12_3 x_12_4 x_12_5 a_12_6 b_12_7)) fun y1 => if (y1 == ((((List.length a_14_4) : Nat) : Int) == x_14_2)) = true then ((go (.l0 x_0 a_2 a_3 x_12_0 x_12_1 a_12_2 x_12_3 x_12_4 x_12_5 a_12_6 b_12_7 x_14_0 x_14_1 x_14_2 x_14_3 a_14_4 x_14_5 x_14_6 a_14_7 b_14_8 a_91 x_92 (IntKind.wrap .i64 (x_93 + (1 : Int)))))) else (some (false))
attribute [local irreducible] bytes_Equal line_End_Idle roadlaw4_packet in
theorem roadlaw4_LinePlays.l0_k.mono : MonoF (β := fun _ => (Bool)) roadlaw4_LinePlays.l0_k.body := fun f g hfg p => match p with
  | .l0 x_0 a_2 a_3 x_12_0 x_12_1 a_12_2 x_12_3 x_12_4 x_12_5 a_12_6 b_12_7 x_14_0 x_14_1 x_14_2 x_14_3 a_14_4 x_14_5 x_14_6 a_14_7 b_14_8 a_91 x_92 x_93 => LeO.ite (LeO.bind (LeO.refl _) fun y1 => LeO.bind (LeO.refl _) fun y8 => LeO.bind (LeO.refl _) fun y15 => LeO.ite (LeO.bind (LeO.refl _) fun y22 => LeO.ite ((hfg _)) (LeO.ite ((hfg _)) (LeO.bind (LeO.refl _) fun l39 => (hfg _)))) (LeO.ite (LeO.bind (LeO.refl _) fun y53 => LeO.bind (LeO.refl _) fun y72 => LeO.bind (LeO.refl _) fun y91 => LeO.ite ((hfg _)) (LeO.refl _)) (LeO.ite (LeO.bind (LeO.refl _) fun y118 => LeO.bind (LeO.refl _) fun y134 => LeO.bind (LeO.refl _) fun y145 => LeO.ite ((hfg _)) ((hfg _))) (LeO.ite (LeO.ite ((hfg _)) ((hfg _))) (LeO.ite (LeO.bind (LeO.refl _) fun y174 => LeO.ite ((hfg _)) ((hfg _))) ((hfg _))))))) (LeO.refl _)
  | .j6 x_0 a_2 a_3 x_12_0 x_12_1 a_12_2 x_12_3 x_12_4 x_12_5 a_12_6 b_12_7 x_14_0 x_14_1 x_14_2 x_14_3 a_14_4 x_14_5 x_14_6 a_14_7 b_14_8 a_18 x_19 a_91 x_92 x_93 => LeO.bind (LeO.refl _) fun y1 => LeO.ite ((hfg _)) (LeO.refl _)
  | .j9 x_0 a_2 a_3 x_12_0 x_12_1 a_12_2 x_12_3 x_12_4 x_12_5 a_12_6 b_12_7 x_14_0 x_14_1 x_14_2 x_14_3 a_14_4 x_14_5 x_14_6 a_14_7 b_14_8 y_20 x_21 a_91 x_92 x_93 b_182 => LeO.ite ((hfg _)) (LeO.ite ((hfg _)) (LeO.bind (LeO.refl _) fun y6 => (hfg _)))
  | .j7 x_0 a_2 a_3 x_12_0 x_12_1 a_12_2 x_12_3 x_12_4 x_12_5 a_12_6 b_12_7 x_14_0 x_14_1 x_14_2 x_14_3 a_14_4 x_14_5 x_14_6 a_14_7 b_14_8 y_20 x_21 a_91 x_92 x_93 => LeO.bind (LeO.refl _) fun y1 => LeO.bind (LeO.refl _) fun y11 => LeO.ite ((hfg _)) (LeO.refl _)
  | .j8 x_0 a_2 a_3 x_12_0 x_12_1 a_12_2 x_12_3 x_12_4 x_12_5 a_12_6 b_12_7 x_14_0 x_14_1 x_14_2 x_14_3 a_14_4 x_14_5 x_14_6 a_14_7 b_14_8 a_22 a_91 x_92 x_93 => LeO.bind (LeO.refl _) fun y1 => LeO.bind (LeO.refl _) fun y20 => LeO.ite ((hfg _)) (LeO.refl _)
  | .j10 x_0 a_2 a_3 x_12_0 x_12_1 a_12_2 x_12_3 x_12_4 x_12_5 a_12_6 b_12_7 x_14_0 x_14_1 x_14_2 x_14_3 a_14_4 x_14_5 x_14_6 a_14_7 b_14_8 a_91 x_92 x_93 b_254 => LeO.ite ((hfg _)) ((hfg _))
  | .j5 x_0 a_2 a_3 x_12_0 x_12_1 a_12_2 x_12_3 x_12_4 x_12_5 a_12_6 b_12_7 x_14_0 x_14_1 x_14_2 x_14_3 a_14_4 x_14_5 x_14_6 a_14_7 b_14_8 a_91 x_92 x_93 => LeO.bind (LeO.refl _) fun y1 => LeO.ite ((hfg _)) (LeO.refl _)
noncomputable def roadlaw4_LinePlays.l0_k.go (p : roadlaw4_LinePlays.l0_k.Pt) : Option (Bool) := fixF (β := fun _ => (Bool)) roadlaw4_LinePlays.l0_k.body p
noncomputable def roadlaw4_LinePlays.l0 (x_0 : Int) (a_2 : List (List Int)) (a_3 : List T_roadref4_Packet) (x_12_0 : Int) (x_12_1 : Int) (a_12_2 : (List (List Int))) (x_12_3 : Int) (x_12_4 : Int) (x_12_5 : Int) (a_12_6 : (List (List Int))) (b_12_7 : Bool) (x_14_0 : Int) (x_14_1 : Int) (x_14_2 : Int) (x_14_3 : Int) (a_14_4 : (List (List Int))) (x_14_5 : Int) (x_14_6 : Int) (a_14_7 : (List (List Int))) (b_14_8 : Bool) (a_91 : List (List Int)) (x_92 : Int) (x_93 : Int) : Option (Bool) := roadlaw4_LinePlays.l0_k.go (.l0 x_0 a_2 a_3 x_12_0 x_12_1 a_12_2 x_12_3 x_12_4 x_12_5 a_12_6 b_12_7 x_14_0 x_14_1 x_14_2 x_14_3 a_14_4 x_14_5 x_14_6 a_14_7 b_14_8 a_91 x_92 x_93)
noncomputable def roadlaw4_LinePlays.j6 (x_0 : Int) (a_2 : List (List Int)) (a_3 : List T_roadref4_Packet) (x_12_0 : Int) (x_12_1 : Int) (a_12_2 : (List (List Int))) (x_12_3 : Int) (x_12_4 : Int) (x_12_5 : Int) (a_12_6 : (List (List Int))) (b_12_7 : Bool) (x_14_0 : Int) (x_14_1 : Int) (x_14_2 : Int) (x_14_3 : Int) (a_14_4 : (List (List Int))) (x_14_5 : Int) (x_14_6 : Int) (a_14_7 : (List (List Int))) (b_14_8 : Bool) (a_18 : List Int) (x_19 : Int) (a_91 : List (List Int)) (x_92 : Int) (x_93 : Int) : Option (Bool) := roadlaw4_LinePlays.l0_k.go (.j6 x_0 a_2 a_3 x_12_0 x_12_1 a_12_2 x_12_3 x_12_4 x_12_5 a_12_6 b_12_7 x_14_0 x_14_1 x_14_2 x_14_3 a_14_4 x_14_5 x_14_6 a_14_7 b_14_8 a_18 x_19 a_91 x_92 x_93)
noncomputable def roadlaw4_LinePlays.j9 (x_0 : Int) (a_2 : List (List Int)) (a_3 : List T_roadref4_Packet) (x_12_0 : Int) (x_12_1 : Int) (a_12_2 : (List (List Int))) (x_12_3 : Int) (x_12_4 : Int) (x_12_5 : Int) (a_12_6 : (List (List Int))) (b_12_7 : Bool) (x_14_0 : Int) (x_14_1 : Int) (x_14_2 : Int) (x_14_3 : Int) (a_14_4 : (List (List Int))) (x_14_5 : Int) (x_14_6 : Int) (a_14_7 : (List (List Int))) (b_14_8 : Bool) (y_20 : T_roadref4_Packet) (x_21 : Int) (a_91 : List (List Int)) (x_92 : Int) (x_93 : Int) (b_182 : Bool) : Option (Bool) := roadlaw4_LinePlays.l0_k.go (.j9 x_0 a_2 a_3 x_12_0 x_12_1 a_12_2 x_12_3 x_12_4 x_12_5 a_12_6 b_12_7 x_14_0 x_14_1 x_14_2 x_14_3 a_14_4 x_14_5 x_14_6 a_14_7 b_14_8 y_20 x_21 a_91 x_92 x_93 b_182)
noncomputable def roadlaw4_LinePlays.j7 (x_0 : Int) (a_2 : List (List Int)) (a_3 : List T_roadref4_Packet) (x_12_0 : Int) (x_12_1 : Int) (a_12_2 : (List (List Int))) (x_12_3 : Int) (x_12_4 : Int) (x_12_5 : Int) (a_12_6 : (List (List Int))) (b_12_7 : Bool) (x_14_0 : Int) (x_14_1 : Int) (x_14_2 : Int) (x_14_3 : Int) (a_14_4 : (List (List Int))) (x_14_5 : Int) (x_14_6 : Int) (a_14_7 : (List (List Int))) (b_14_8 : Bool) (y_20 : T_roadref4_Packet) (x_21 : Int) (a_91 : List (List Int)) (x_92 : Int) (x_93 : Int) : Option (Bool) := roadlaw4_LinePlays.l0_k.go (.j7 x_0 a_2 a_3 x_12_0 x_12_1 a_12_2 x_12_3 x_12_4 x_12_5 a_12_6 b_12_7 x_14_0 x_14_1 x_14_2 x_14_3 a_14_4 x_14_5 x_14_6 a_14_7 b_14_8 y_20 x_21 a_91 x_92 x_93)
noncomputable def roadlaw4_LinePlays.j8 (x_0 : Int) (a_2 : List (List Int)) (a_3 : List T_roadref4_Packet) (x_12_0 : Int) (x_12_1 : Int) (a_12_2 : (List (List Int))) (x_12_3 : Int) (x_12_4 : Int) (x_12_5 : Int) (a_12_6 : (List (List Int))) (b_12_7 : Bool) (x_14_0 : Int) (x_14_1 : Int) (x_14_2 : Int) (x_14_3 : Int) (a_14_4 : (List (List Int))) (x_14_5 : Int) (x_14_6 : Int) (a_14_7 : (List (List Int))) (b_14_8 : Bool) (a_22 : List (List Int)) (a_91 : List (List Int)) (x_92 : Int) (x_93 : Int) : Option (Bool) := roadlaw4_LinePlays.l0_k.go (.j8 x_0 a_2 a_3 x_12_0 x_12_1 a_12_2 x_12_3 x_12_4 x_12_5 a_12_6 b_12_7 x_14_0 x_14_1 x_14_2 x_14_3 a_14_4 x_14_5 x_14_6 a_14_7 b_14_8 a_22 a_91 x_92 x_93)
noncomputable def roadlaw4_LinePlays.j10 (x_0 : Int) (a_2 : List (List Int)) (a_3 : List T_roadref4_Packet) (x_12_0 : Int) (x_12_1 : Int) (a_12_2 : (List (List Int))) (x_12_3 : Int) (x_12_4 : Int) (x_12_5 : Int) (a_12_6 : (List (List Int))) (b_12_7 : Bool) (x_14_0 : Int) (x_14_1 : Int) (x_14_2 : Int) (x_14_3 : Int) (a_14_4 : (List (List Int))) (x_14_5 : Int) (x_14_6 : Int) (a_14_7 : (List (List Int))) (b_14_8 : Bool) (a_91 : List (List Int)) (x_92 : Int) (x_93 : Int) (b_254 : Bool) : Option (Bool) := roadlaw4_LinePlays.l0_k.go (.j10 x_0 a_2 a_3 x_12_0 x_12_1 a_12_2 x_12_3 x_12_4 x_12_5 a_12_6 b_12_7 x_14_0 x_14_1 x_14_2 x_14_3 a_14_4 x_14_5 x_14_6 a_14_7 b_14_8 a_91 x_92 x_93 b_254)
noncomputable def roadlaw4_LinePlays.j5 (x_0 : Int) (a_2 : List (List Int)) (a_3 : List T_roadref4_Packet) (x_12_0 : Int) (x_12_1 : Int) (a_12_2 : (List (List Int))) (x_12_3 : Int) (x_12_4 : Int) (x_12_5 : Int) (a_12_6 : (List (List Int))) (b_12_7 : Bool) (x_14_0 : Int) (x_14_1 : Int) (x_14_2 : Int) (x_14_3 : Int) (a_14_4 : (List (List Int))) (x_14_5 : Int) (x_14_6 : Int) (a_14_7 : (List (List Int))) (b_14_8 : Bool) (a_91 : List (List Int)) (x_92 : Int) (x_93 : Int) : Option (Bool) := roadlaw4_LinePlays.l0_k.go (.j5 x_0 a_2 a_3 x_12_0 x_12_1 a_12_2 x_12_3 x_12_4 x_12_5 a_12_6 b_12_7 x_14_0 x_14_1 x_14_2 x_14_3 a_14_4 x_14_5 x_14_6 a_14_7 b_14_8 a_91 x_92 x_93)
theorem roadlaw4_LinePlays.l0_eq (x_0 : Int) (a_2 : List (List Int)) (a_3 : List T_roadref4_Packet) (x_12_0 : Int) (x_12_1 : Int) (a_12_2 : (List (List Int))) (x_12_3 : Int) (x_12_4 : Int) (x_12_5 : Int) (a_12_6 : (List (List Int))) (b_12_7 : Bool) (x_14_0 : Int) (x_14_1 : Int) (x_14_2 : Int) (x_14_3 : Int) (a_14_4 : (List (List Int))) (x_14_5 : Int) (x_14_6 : Int) (a_14_7 : (List (List Int))) (b_14_8 : Bool) (a_91 : List (List Int)) (x_92 : Int) (x_93 : Int) : roadlaw4_LinePlays.l0 x_0 a_2 a_3 x_12_0 x_12_1 a_12_2 x_12_3 x_12_4 x_12_5 a_12_6 b_12_7 x_14_0 x_14_1 x_14_2 x_14_3 a_14_4 x_14_5 x_14_6 a_14_7 b_14_8 a_91 x_92 x_93 = if x_93 < x_92 then (Option.bind (gi a_91 x_93) fun y1 => Option.bind (roadlaw4_at y1 (1 : Int)) fun y8 => Option.bind (roadlaw4_at y1 (0 : Int)) fun y15 => if y15 = (1 : Int) then (Option.bind (roadlaw4_pick_27 a_2 y8) fun y22 => if (((List.length y22) : Nat) : Int) > (1048576 : Int) then ((roadlaw4_LinePlays.j6 x_0 a_2 a_3 x_12_0 x_12_1 a_12_2 x_12_3 x_12_4 x_12_5 a_12_6 b_12_7 x_14_0 x_14_1 x_14_2 x_14_3 a_14_4 x_14_5 x_14_6 a_14_7 b_14_8 y22 (2 : Int) a_91 x_92 x_93)) else (if (IntKind.wrap .i64 ((((List.length a_14_4) : Nat) : Int) - x_14_2)) = x_0 then ((roadlaw4_LinePlays.j6 x_0 a_2 a_3 x_12_0 x_12_1 a_12_2 x_12_3 x_12_4 x_12_5 a_12_6 b_12_7 x_14_0 x_14_1 x_14_2 x_14_3 a_14_4 x_14_5 x_14_6 a_14_7 b_14_8 y22 (9 : Int) a_91 x_92 x_93)) else (Option.bind (ap 24 a_14_4 ([y22] : List (List Int))) fun l39 => (roadlaw4_LinePlays.j6 x_0 a_2 a_3 x_12_0 x_12_1 a_12_2 x_12_3 x_12_4 x_12_5 a_12_6 b_12_7 x_14_0 x_14_1 x_14_2 x_14_3 l39 x_14_5 x_14_6 a_14_7 b_14_8 y22 (0 : Int) a_91 x_92 x_93)))) else (if y15 = (2 : Int) then (Option.bind (line_End_Out (T_line_End.mk x_12_0 x_12_1 a_12_2 x_12_3 x_12_4 x_12_5 a_12_6 b_12_7)) fun y53 => Option.bind (roadref4_End_Out (T_roadref4_End.mk x_14_0 x_14_1 x_14_2 x_14_3 a_14_4 x_14_5 x_14_6 a_14_7 b_14_8)) fun y72 => Option.bind (slices_EqualFunc_28 y53.1 y72.1 (fun z106 z107 => roadlaw4_same z106 z107)) fun y91 => if y91 = true then ((roadlaw4_LinePlays.j5 x_0 a_2 a_3 y53.2.window_ y53.2.base_ y53.2.kept_ y53.2.told_ y53.2.limit_ y53.2.want_ y53.2.read_ y53.2.owe_ y72.2.Window y72.2.Limit y72.2.Base y72.2.Told y72.2.All y72.2.Took y72.2.Read y72.2.Got y72.2.Owe a_91 x_92 x_93)) else (some (false))) else (if y15 = (3 : Int) then (Option.bind (roadlaw4_pick_31 a_3 y8) fun y118 => Option.bind (roadlaw4_at y1 (2 : Int)) fun y134 => Option.bind (roadlaw4_at y1 (2 : Int)) fun y145 => if (({ ({ y118 with Ack := (IntKind.wrap .u32 (y118.Ack + (IntKind.wrap .u32 ((IntKind.wrap .u32 x_14_2) * (IntKind.wrap .u32 (Int.tmod y134 (2 : Int))))))) }) with Seq := (IntKind.wrap .u32 ((({ y118 with Ack := (IntKind.wrap .u32 (y118.Ack + (IntKind.wrap .u32 ((IntKind.wrap .u32 x_14_2) * (IntKind.wrap .u32 (Int.tmod y134 (2 : Int))))))) }).Seq) + (IntKind.wrap .u32 ((IntKind.wrap .u32 x_14_5) * (IntKind.wrap .u32 (Int.tmod y145 (2 : Int))))))) }).Window) < (0 : Int) then ((roadlaw4_LinePlays.j9 x_0 a_2 a_3 x_12_0 x_12_1 a_12_2 x_12_3 x_12_4 x_12_5 a_12_6 b_12_7 x_14_0 x_14_1 x_14_2 x_14_3 a_14_4 x_14_5 x_14_6 a_14_7 b_14_8 ({ ({ y118 with Ack := (IntKind.wrap .u32 (y118.Ack + (IntKind.wrap .u32 ((IntKind.wrap .u32 x_14_2) * (IntKind.wrap .u32 (Int.tmod y134 (2 : Int))))))) }) with Seq := (IntKind.wrap .u32 ((({ y118 with Ack := (IntKind.wrap .u32 (y118.Ack + (IntKind.wrap .u32 ((IntKind.wrap .u32 x_14_2) * (IntKind.wrap .u32 (Int.tmod y134 (2 : Int))))))) }).Seq) + (IntKind.wrap .u32 ((IntKind.wrap .u32 x_14_5) * (IntKind.wrap .u32 (Int.tmod y145 (2 : Int))))))) }) (0 : Int) a_91 x_92 x_93 true)) else ((roadlaw4_LinePlays.j9 x_0 a_2 a_3 x_12_0 x_12_1 a_12_2 x_12_3 x_12_4 x_12_5 a_12_6 b_12_7 x_14_0 x_14_1 x_14_2 x_14_3 a_14_4 x_14_5 x_14_6 a_14_7 b_14_8 ({ ({ y118 with Ack := (IntKind.wrap .u32 (y118.Ack + (IntKind.wrap .u32 ((IntKind.wrap .u32 x_14_2) * (IntKind.wrap .u32 (Int.tmod y134 (2 : Int))))))) }) with Seq := (IntKind.wrap .u32 ((({ y118 with Ack := (IntKind.wrap .u32 (y118.Ack + (IntKind.wrap .u32 ((IntKind.wrap .u32 x_14_2) * (IntKind.wrap .u32 (Int.tmod y134 (2 : Int))))))) }).Seq) + (IntKind.wrap .u32 ((IntKind.wrap .u32 x_14_5) * (IntKind.wrap .u32 (Int.tmod y145 (2 : Int))))))) }) (0 : Int) a_91 x_92 x_93 (decide ((({ ({ y118 with Ack := (IntKind.wrap .u32 (y118.Ack + (IntKind.wrap .u32 ((IntKind.wrap .u32 x_14_2) * (IntKind.wrap .u32 (Int.tmod y134 (2 : Int))))))) }) with Seq := (IntKind.wrap .u32 ((({ y118 with Ack := (IntKind.wrap .u32 (y118.Ack + (IntKind.wrap .u32 ((IntKind.wrap .u32 x_14_2) * (IntKind.wrap .u32 (Int.tmod y134 (2 : Int))))))) }).Seq) + (IntKind.wrap .u32 ((IntKind.wrap .u32 x_14_5) * (IntKind.wrap .u32 (Int.tmod y145 (2 : Int))))))) }).Window) > (16 : Int)))))) else (if y15 = (4 : Int) then (if b_14_8 = true then ((roadlaw4_LinePlays.j8 x_0 a_2 a_3 x_12_0 x_12_1 a_12_2 x_12_3 x_12_4 x_12_5 a_12_6 b_12_7 x_14_0 x_14_1 x_14_2 x_14_3 a_14_4 x_14_5 (0 : Int) ([] : List (List Int)) true a_14_7 a_91 x_92 x_93)) else ((roadlaw4_LinePlays.j8 x_0 a_2 a_3 x_12_0 x_12_1 a_12_2 x_12_3 x_12_4 x_12_5 a_12_6 b_12_7 x_14_0 x_14_1 x_14_2 x_14_3 a_14_4 x_14_5 (0 : Int) ([] : List (List Int)) (decide ((((List.length a_14_7) : Nat) : Int) > (0 : Int))) a_14_7 a_91 x_92 x_93))) else (if y15 = (5 : Int) then (Option.bind (line_End_Tick (T_line_End.mk x_12_0 x_12_1 a_12_2 x_12_3 x_12_4 x_12_5 a_12_6 b_12_7)) fun y174 => if (((List.length a_14_4) : Nat) : Int) > x_14_2 then ((roadlaw4_LinePlays.j10 x_0 a_2 a_3 y174.window_ y174.base_ y174.kept_ y174.told_ y174.limit_ y174.want_ y174.read_ y174.owe_ x_14_0 x_14_1 x_14_2 (0 : Int) a_14_4 x_14_5 x_14_6 a_14_7 b_14_8 a_91 x_92 x_93 (decide (x_14_1 < (1 : Int))))) else ((roadlaw4_LinePlays.j10 x_0 a_2 a_3 y174.window_ y174.base_ y174.kept_ y174.told_ y174.limit_ y174.want_ y174.read_ y174.owe_ x_14_0 x_14_1 x_14_2 (0 : Int) a_14_4 x_14_5 x_14_6 a_14_7 b_14_8 a_91 x_92 x_93 false))) else ((roadlaw4_LinePlays.j5 x_0 a_2 a_3 x_12_0 x_12_1 a_12_2 x_12_3 x_12_4 x_12_5 a_12_6 b_12_7 x_14_0 x_14_1 x_14_2 x_14_3 a_14_4 x_14_5 x_14_6 a_14_7 b_14_8 a_91 x_92 x_93))))))) else (some (true)) := fixF_eq roadlaw4_LinePlays.l0_k.mono _
theorem roadlaw4_LinePlays.j6_eq (x_0 : Int) (a_2 : List (List Int)) (a_3 : List T_roadref4_Packet) (x_12_0 : Int) (x_12_1 : Int) (a_12_2 : (List (List Int))) (x_12_3 : Int) (x_12_4 : Int) (x_12_5 : Int) (a_12_6 : (List (List Int))) (b_12_7 : Bool) (x_14_0 : Int) (x_14_1 : Int) (x_14_2 : Int) (x_14_3 : Int) (a_14_4 : (List (List Int))) (x_14_5 : Int) (x_14_6 : Int) (a_14_7 : (List (List Int))) (b_14_8 : Bool) (a_18 : List Int) (x_19 : Int) (a_91 : List (List Int)) (x_92 : Int) (x_93 : Int) : roadlaw4_LinePlays.j6 x_0 a_2 a_3 x_12_0 x_12_1 a_12_2 x_12_3 x_12_4 x_12_5 a_12_6 b_12_7 x_14_0 x_14_1 x_14_2 x_14_3 a_14_4 x_14_5 x_14_6 a_14_7 b_14_8 a_18 x_19 a_91 x_92 x_93 = Option.bind (line_End_Put (T_line_End.mk x_12_0 x_12_1 a_12_2 x_12_3 x_12_4 x_12_5 a_12_6 b_12_7) a_18) fun y1 => if y1.1 = x_19 then ((roadlaw4_LinePlays.j5 x_0 a_2 a_3 y1.2.window_ y1.2.base_ y1.2.kept_ y1.2.told_ y1.2.limit_ y1.2.want_ y1.2.read_ y1.2.owe_ x_14_0 x_14_1 x_14_2 x_14_3 a_14_4 x_14_5 x_14_6 a_14_7 b_14_8 a_91 x_92 x_93)) else (some (false)) := fixF_eq roadlaw4_LinePlays.l0_k.mono _
theorem roadlaw4_LinePlays.j9_eq (x_0 : Int) (a_2 : List (List Int)) (a_3 : List T_roadref4_Packet) (x_12_0 : Int) (x_12_1 : Int) (a_12_2 : (List (List Int))) (x_12_3 : Int) (x_12_4 : Int) (x_12_5 : Int) (a_12_6 : (List (List Int))) (b_12_7 : Bool) (x_14_0 : Int) (x_14_1 : Int) (x_14_2 : Int) (x_14_3 : Int) (a_14_4 : (List (List Int))) (x_14_5 : Int) (x_14_6 : Int) (a_14_7 : (List (List Int))) (b_14_8 : Bool) (y_20 : T_roadref4_Packet) (x_21 : Int) (a_91 : List (List Int)) (x_92 : Int) (x_93 : Int) (b_182 : Bool) : roadlaw4_LinePlays.j9 x_0 a_2 a_3 x_12_0 x_12_1 a_12_2 x_12_3 x_12_4 x_12_5 a_12_6 b_12_7 x_14_0 x_14_1 x_14_2 x_14_3 a_14_4 x_14_5 x_14_6 a_14_7 b_14_8 y_20 x_21 a_91 x_92 x_93 b_182 = if b_182 = true then ((roadlaw4_LinePlays.j7 x_0 a_2 a_3 x_12_0 x_12_1 a_12_2 x_12_3 x_12_4 x_12_5 a_12_6 b_12_7 x_14_0 x_14_1 x_14_2 x_14_3 a_14_4 x_14_5 x_14_6 a_14_7 b_14_8 y_20 (1 : Int) a_91 x_92 x_93)) else (if (((List.length y_20.Body) : Nat) : Int) > (1048576 : Int) then ((roadlaw4_LinePlays.j7 x_0 a_2 a_3 x_12_0 x_12_1 a_12_2 x_12_3 x_12_4 x_12_5 a_12_6 b_12_7 x_14_0 x_14_1 x_14_2 x_14_3 a_14_4 x_14_5 x_14_6 a_14_7 b_14_8 y_20 (2 : Int) a_91 x_92 x_93)) else (Option.bind (roadref4_End_Come (T_roadref4_End.mk x_14_0 x_14_1 x_14_2 x_14_3 a_14_4 x_14_5 x_14_6 a_14_7 b_14_8) y_20) fun y6 => (roadlaw4_LinePlays.j7 x_0 a_2 a_3 x_12_0 x_12_1 a_12_2 x_12_3 x_12_4 x_12_5 a_12_6 b_12_7 y6.Window y6.Limit y6.Base y6.Told y6.All y6.Took y6.Read y6.Got y6.Owe y_20 x_21 a_91 x_92 x_93))) := fixF_eq roadlaw4_LinePlays.l0_k.mono _
theorem roadlaw4_LinePlays.j7_eq (x_0 : Int) (a_2 : List (List Int)) (a_3 : List T_roadref4_Packet) (x_12_0 : Int) (x_12_1 : Int) (a_12_2 : (List (List Int))) (x_12_3 : Int) (x_12_4 : Int) (x_12_5 : Int) (a_12_6 : (List (List Int))) (b_12_7 : Bool) (x_14_0 : Int) (x_14_1 : Int) (x_14_2 : Int) (x_14_3 : Int) (a_14_4 : (List (List Int))) (x_14_5 : Int) (x_14_6 : Int) (a_14_7 : (List (List Int))) (b_14_8 : Bool) (y_20 : T_roadref4_Packet) (x_21 : Int) (a_91 : List (List Int)) (x_92 : Int) (x_93 : Int) : roadlaw4_LinePlays.j7 x_0 a_2 a_3 x_12_0 x_12_1 a_12_2 x_12_3 x_12_4 x_12_5 a_12_6 b_12_7 x_14_0 x_14_1 x_14_2 x_14_3 a_14_4 x_14_5 x_14_6 a_14_7 b_14_8 y_20 x_21 a_91 x_92 x_93 = Option.bind (roadlaw4_packet y_20) fun y1 => Option.bind (line_End_Come (T_line_End.mk x_12_0 x_12_1 a_12_2 x_12_3 x_12_4 x_12_5 a_12_6 b_12_7) y1) fun y11 => if y11.1 = x_21 then ((roadlaw4_LinePlays.j5 x_0 a_2 a_3 y11.2.window_ y11.2.base_ y11.2.kept_ y11.2.told_ y11.2.limit_ y11.2.want_ y11.2.read_ y11.2.owe_ x_14_0 x_14_1 x_14_2 x_14_3 a_14_4 x_14_5 x_14_6 a_14_7 b_14_8 a_91 x_92 x_93)) else (some (false)) := fixF_eq roadlaw4_LinePlays.l0_k.mono _
theorem roadlaw4_LinePlays.j8_eq (x_0 : Int) (a_2 : List (List Int)) (a_3 : List T_roadref4_Packet) (x_12_0 : Int) (x_12_1 : Int) (a_12_2 : (List (List Int))) (x_12_3 : Int) (x_12_4 : Int) (x_12_5 : Int) (a_12_6 : (List (List Int))) (b_12_7 : Bool) (x_14_0 : Int) (x_14_1 : Int) (x_14_2 : Int) (x_14_3 : Int) (a_14_4 : (List (List Int))) (x_14_5 : Int) (x_14_6 : Int) (a_14_7 : (List (List Int))) (b_14_8 : Bool) (a_22 : List (List Int)) (a_91 : List (List Int)) (x_92 : Int) (x_93 : Int) : roadlaw4_LinePlays.j8 x_0 a_2 a_3 x_12_0 x_12_1 a_12_2 x_12_3 x_12_4 x_12_5 a_12_6 b_12_7 x_14_0 x_14_1 x_14_2 x_14_3 a_14_4 x_14_5 x_14_6 a_14_7 b_14_8 a_22 a_91 x_92 x_93 = Option.bind (line_End_Got (T_line_End.mk x_12_0 x_12_1 a_12_2 x_12_3 x_12_4 x_12_5 a_12_6 b_12_7)) fun y1 => Option.bind (slices_EqualFunc_35 y1.1 a_22 (fun z35 z36 => bytes_Equal z35 z36)) fun y20 => if y20 = true then ((roadlaw4_LinePlays.j5 x_0 a_2 a_3 y1.2.window_ y1.2.base_ y1.2.kept_ y1.2.told_ y1.2.limit_ y1.2.want_ y1.2.read_ y1.2.owe_ x_14_0 x_14_1 x_14_2 x_14_3 a_14_4 x_14_5 x_14_6 a_14_7 b_14_8 a_91 x_92 x_93)) else (some (false)) := fixF_eq roadlaw4_LinePlays.l0_k.mono _
theorem roadlaw4_LinePlays.j10_eq (x_0 : Int) (a_2 : List (List Int)) (a_3 : List T_roadref4_Packet) (x_12_0 : Int) (x_12_1 : Int) (a_12_2 : (List (List Int))) (x_12_3 : Int) (x_12_4 : Int) (x_12_5 : Int) (a_12_6 : (List (List Int))) (b_12_7 : Bool) (x_14_0 : Int) (x_14_1 : Int) (x_14_2 : Int) (x_14_3 : Int) (a_14_4 : (List (List Int))) (x_14_5 : Int) (x_14_6 : Int) (a_14_7 : (List (List Int))) (b_14_8 : Bool) (a_91 : List (List Int)) (x_92 : Int) (x_93 : Int) (b_254 : Bool) : roadlaw4_LinePlays.j10 x_0 a_2 a_3 x_12_0 x_12_1 a_12_2 x_12_3 x_12_4 x_12_5 a_12_6 b_12_7 x_14_0 x_14_1 x_14_2 x_14_3 a_14_4 x_14_5 x_14_6 a_14_7 b_14_8 a_91 x_92 x_93 b_254 = if b_254 = true then ((roadlaw4_LinePlays.j5 x_0 a_2 a_3 x_12_0 x_12_1 a_12_2 x_12_3 x_12_4 x_12_5 a_12_6 b_12_7 x_14_0 (1 : Int) x_14_2 x_14_3 a_14_4 x_14_5 x_14_6 a_14_7 b_14_8 a_91 x_92 x_93)) else ((roadlaw4_LinePlays.j5 x_0 a_2 a_3 x_12_0 x_12_1 a_12_2 x_12_3 x_12_4 x_12_5 a_12_6 b_12_7 x_14_0 x_14_1 x_14_2 x_14_3 a_14_4 x_14_5 x_14_6 a_14_7 b_14_8 a_91 x_92 x_93)) := fixF_eq roadlaw4_LinePlays.l0_k.mono _
theorem roadlaw4_LinePlays.j5_eq (x_0 : Int) (a_2 : List (List Int)) (a_3 : List T_roadref4_Packet) (x_12_0 : Int) (x_12_1 : Int) (a_12_2 : (List (List Int))) (x_12_3 : Int) (x_12_4 : Int) (x_12_5 : Int) (a_12_6 : (List (List Int))) (b_12_7 : Bool) (x_14_0 : Int) (x_14_1 : Int) (x_14_2 : Int) (x_14_3 : Int) (a_14_4 : (List (List Int))) (x_14_5 : Int) (x_14_6 : Int) (a_14_7 : (List (List Int))) (b_14_8 : Bool) (a_91 : List (List Int)) (x_92 : Int) (x_93 : Int) : roadlaw4_LinePlays.j5 x_0 a_2 a_3 x_12_0 x_12_1 a_12_2 x_12_3 x_12_4 x_12_5 a_12_6 b_12_7 x_14_0 x_14_1 x_14_2 x_14_3 a_14_4 x_14_5 x_14_6 a_14_7 b_14_8 a_91 x_92 x_93 = Option.bind (line_End_Idle (T_line_End.mk x_12_0 x_12_1 a_12_2 x_12_3 x_12_4 x_12_5 a_12_6 b_12_7)) fun y1 => if (y1 == ((((List.length a_14_4) : Nat) : Int) == x_14_2)) = true then ((roadlaw4_LinePlays.l0 x_0 a_2 a_3 x_12_0 x_12_1 a_12_2 x_12_3 x_12_4 x_12_5 a_12_6 b_12_7 x_14_0 x_14_1 x_14_2 x_14_3 a_14_4 x_14_5 x_14_6 a_14_7 b_14_8 a_91 x_92 (IntKind.wrap .i64 (x_93 + (1 : Int))))) else (some (false)) := fixF_eq roadlaw4_LinePlays.l0_k.mono _
def roadlaw4_LinePlays.l0_k.I : (p : roadlaw4_LinePlays.l0_k.Pt) → (Bool) → Prop
  | .l0 x_0 a_2 a_3 x_12_0 x_12_1 a_12_2 x_12_3 x_12_4 x_12_5 a_12_6 b_12_7 x_14_0 x_14_1 x_14_2 x_14_3 a_14_4 x_14_5 x_14_6 a_14_7 b_14_8 a_91 x_92 x_93, r => ∀ (W : Nat → Prop) (h0 m0 h m : Heap) (A_2 : Option Addr) (n_2 c_2 : Nat) (A_3 : Option Addr) (n_3 c_3 : Nat) (bk_12 : Nat) (A_12_2_0 : Option Addr) (n_12_2_0 : Nat) (c_12_2_0 : Nat) (A_12_6_0 : Option Addr) (n_12_6_0 : Nat) (c_12_6_0 : Nat) (bk_14 : Nat) (A_14_4_0 : Option Addr) (n_14_4_0 : Nat) (c_14_4_0 : Nat) (A_14_7_0 : Option Addr) (n_14_7_0 : Nat) (c_14_7_0 : Nat) (A_91 : Option Addr) (n_91 c_91 : Nat) (O : Hold W h0 m0 h m [rV bk_12 152 [(Value.int .i64 x_12_0), (Value.int .u32 x_12_1), (Value.slice A_12_2_0 n_12_2_0 c_12_2_0), (Value.int .i64 x_12_3), (Value.int .i64 x_12_4), (Value.int .u32 x_12_5), (Value.slice A_12_6_0 n_12_6_0 c_12_6_0), (Value.bool b_12_7)], rR (aE (tell_row (tell_int .u8))) A_12_2_0 c_12_2_0 a_12_2, rR (aE (tell_row (tell_int .u8))) A_12_6_0 c_12_6_0 a_12_6, rV bk_14 61 [(Value.int .i64 x_14_0), (Value.int .i64 x_14_1), (Value.int .i64 x_14_2), (Value.int .i64 x_14_3), (Value.slice A_14_4_0 n_14_4_0 c_14_4_0), (Value.int .i64 x_14_5), (Value.int .i64 x_14_6), (Value.slice A_14_7_0 n_14_7_0 c_14_7_0), (Value.bool b_14_8)], rR (aE (tell_row (tell_int .u8))) A_14_4_0 c_14_4_0 a_14_4, rR (aE (tell_row (tell_int .u8))) A_14_7_0 c_14_7_0 a_14_7]) (ne_2 : n_2 = List.length a_2) (k_2 : List.length a_2 ≤ c_2) (r_2 : Rd 1 (eRow 1 (eInt .u8)) m A_2 a_2) (ne_3 : n_3 = List.length a_3) (k_3 : List.length a_3 ≤ c_3) (r_3 : Rd 5 T_roadref4_Packet.E m A_3 a_3) (ne_12_2_0 : n_12_2_0 = List.length a_12_2) (ne_12_6_0 : n_12_6_0 = List.length a_12_6) (ne_14_4_0 : n_14_4_0 = List.length a_14_4) (ne_14_7_0 : n_14_7_0 = List.length a_14_7) (ne_91 : n_91 = List.length a_91) (k_91 : List.length a_91 ≤ c_91) (r_91 : Rd 1 (eRow 1 (eInt .i64)) m A_91 a_91), f4.l0 (roadlaw4_LinePlays.post W h0 m0 r) x_0 A_2 n_2 c_2 A_3 n_3 c_3 (some (⟨bk_12, 0, none⟩ : Addr)) (⟨bk_14, 0, none⟩ : Addr) A_91 n_91 c_91 x_92 x_93 h
  | .j6 x_0 a_2 a_3 x_12_0 x_12_1 a_12_2 x_12_3 x_12_4 x_12_5 a_12_6 b_12_7 x_14_0 x_14_1 x_14_2 x_14_3 a_14_4 x_14_5 x_14_6 a_14_7 b_14_8 a_18 x_19 a_91 x_92 x_93, r => ∀ (W : Nat → Prop) (h0 m0 h m : Heap) (A_2 : Option Addr) (n_2 c_2 : Nat) (A_3 : Option Addr) (n_3 c_3 : Nat) (bk_12 : Nat) (A_12_2_0 : Option Addr) (n_12_2_0 : Nat) (c_12_2_0 : Nat) (A_12_6_0 : Option Addr) (n_12_6_0 : Nat) (c_12_6_0 : Nat) (bk_14 : Nat) (A_14_4_0 : Option Addr) (n_14_4_0 : Nat) (c_14_4_0 : Nat) (A_14_7_0 : Option Addr) (n_14_7_0 : Nat) (c_14_7_0 : Nat) (A_18 : Option Addr) (n_18 c_18 : Nat) (A_91 : Option Addr) (n_91 c_91 : Nat) (O : Hold W h0 m0 h m [rV bk_12 152 [(Value.int .i64 x_12_0), (Value.int .u32 x_12_1), (Value.slice A_12_2_0 n_12_2_0 c_12_2_0), (Value.int .i64 x_12_3), (Value.int .i64 x_12_4), (Value.int .u32 x_12_5), (Value.slice A_12_6_0 n_12_6_0 c_12_6_0), (Value.bool b_12_7)], rR (aE (tell_row (tell_int .u8))) A_12_2_0 c_12_2_0 a_12_2, rR (aE (tell_row (tell_int .u8))) A_12_6_0 c_12_6_0 a_12_6, rV bk_14 61 [(Value.int .i64 x_14_0), (Value.int .i64 x_14_1), (Value.int .i64 x_14_2), (Value.int .i64 x_14_3), (Value.slice A_14_4_0 n_14_4_0 c_14_4_0), (Value.int .i64 x_14_5), (Value.int .i64 x_14_6), (Value.slice A_14_7_0 n_14_7_0 c_14_7_0), (Value.bool b_14_8)], rR (aE (tell_row (tell_int .u8))) A_14_4_0 c_14_4_0 a_14_4, rR (aE (tell_row (tell_int .u8))) A_14_7_0 c_14_7_0 a_14_7]) (ne_2 : n_2 = List.length a_2) (k_2 : List.length a_2 ≤ c_2) (r_2 : Rd 1 (eRow 1 (eInt .u8)) m A_2 a_2) (ne_3 : n_3 = List.length a_3) (k_3 : List.length a_3 ≤ c_3) (r_3 : Rd 5 T_roadref4_Packet.E m A_3 a_3) (ne_12_2_0 : n_12_2_0 = List.length a_12_2) (ne_12_6_0 : n_12_6_0 = List.length a_12_6) (ne_14_4_0 : n_14_4_0 = List.length a_14_4) (ne_14_7_0 : n_14_7_0 = List.length a_14_7) (ne_18 : n_18 = List.length a_18) (k_18 : List.length a_18 ≤ c_18) (r_18 : Rd 1 (eInt .u8) m A_18 a_18) (ne_91 : n_91 = List.length a_91) (k_91 : List.length a_91 ≤ c_91) (r_91 : Rd 1 (eRow 1 (eInt .i64)) m A_91 a_91), f4.j6 (roadlaw4_LinePlays.post W h0 m0 r) x_0 A_2 n_2 c_2 A_3 n_3 c_3 (some (⟨bk_12, 0, none⟩ : Addr)) (⟨bk_14, 0, none⟩ : Addr) A_18 n_18 c_18 x_19 A_91 n_91 c_91 x_92 x_93 h
  | .j9 x_0 a_2 a_3 x_12_0 x_12_1 a_12_2 x_12_3 x_12_4 x_12_5 a_12_6 b_12_7 x_14_0 x_14_1 x_14_2 x_14_3 a_14_4 x_14_5 x_14_6 a_14_7 b_14_8 y_20 x_21 a_91 x_92 x_93 b_182, r => ∀ (W : Nat → Prop) (h0 m0 h m : Heap) (A_2 : Option Addr) (n_2 c_2 : Nat) (A_3 : Option Addr) (n_3 c_3 : Nat) (bk_12 : Nat) (A_12_2_0 : Option Addr) (n_12_2_0 : Nat) (c_12_2_0 : Nat) (A_12_6_0 : Option Addr) (n_12_6_0 : Nat) (c_12_6_0 : Nat) (bk_14 : Nat) (A_14_4_0 : Option Addr) (n_14_4_0 : Nat) (c_14_4_0 : Nat) (A_14_7_0 : Option Addr) (n_14_7_0 : Nat) (c_14_7_0 : Nat) (bk_20 : Nat) (cs_20 : List Value) (A_91 : Option Addr) (n_91 c_91 : Nat) (O : Hold W h0 m0 h m [rV bk_12 152 [(Value.int .i64 x_12_0), (Value.int .u32 x_12_1), (Value.slice A_12_2_0 n_12_2_0 c_12_2_0), (Value.int .i64 x_12_3), (Value.int .i64 x_12_4), (Value.int .u32 x_12_5), (Value.slice A_12_6_0 n_12_6_0 c_12_6_0), (Value.bool b_12_7)], rR (aE (tell_row (tell_int .u8))) A_12_2_0 c_12_2_0 a_12_2, rR (aE (tell_row (tell_int .u8))) A_12_6_0 c_12_6_0 a_12_6, rV bk_14 61 [(Value.int .i64 x_14_0), (Value.int .i64 x_14_1), (Value.int .i64 x_14_2), (Value.int .i64 x_14_3), (Value.slice A_14_4_0 n_14_4_0 c_14_4_0), (Value.int .i64 x_14_5), (Value.int .i64 x_14_6), (Value.slice A_14_7_0 n_14_7_0 c_14_7_0), (Value.bool b_14_8)], rR (aE (tell_row (tell_int .u8))) A_14_4_0 c_14_4_0 a_14_4, rR (aE (tell_row (tell_int .u8))) A_14_7_0 c_14_7_0 a_14_7, rV bk_20 66 cs_20]) (ne_2 : n_2 = List.length a_2) (k_2 : List.length a_2 ≤ c_2) (r_2 : Rd 1 (eRow 1 (eInt .u8)) m A_2 a_2) (ne_3 : n_3 = List.length a_3) (k_3 : List.length a_3 ≤ c_3) (r_3 : Rd 5 T_roadref4_Packet.E m A_3 a_3) (ne_12_2_0 : n_12_2_0 = List.length a_12_2) (ne_12_6_0 : n_12_6_0 = List.length a_12_6) (ne_14_4_0 : n_14_4_0 = List.length a_14_4) (ne_14_7_0 : n_14_7_0 = List.length a_14_7) (e_20 : T_roadref4_Packet.E m y_20 cs_20) (ne_91 : n_91 = List.length a_91) (k_91 : List.length a_91 ≤ c_91) (r_91 : Rd 1 (eRow 1 (eInt .i64)) m A_91 a_91), f4.j9 (roadlaw4_LinePlays.post W h0 m0 r) x_0 A_2 n_2 c_2 A_3 n_3 c_3 (some (⟨bk_12, 0, none⟩ : Addr)) (⟨bk_14, 0, none⟩ : Addr) (⟨bk_20, 0, none⟩ : Addr) x_21 A_91 n_91 c_91 x_92 x_93 b_182 h
  | .j7 x_0 a_2 a_3 x_12_0 x_12_1 a_12_2 x_12_3 x_12_4 x_12_5 a_12_6 b_12_7 x_14_0 x_14_1 x_14_2 x_14_3 a_14_4 x_14_5 x_14_6 a_14_7 b_14_8 y_20 x_21 a_91 x_92 x_93, r => ∀ (W : Nat → Prop) (h0 m0 h m : Heap) (A_2 : Option Addr) (n_2 c_2 : Nat) (A_3 : Option Addr) (n_3 c_3 : Nat) (bk_12 : Nat) (A_12_2_0 : Option Addr) (n_12_2_0 : Nat) (c_12_2_0 : Nat) (A_12_6_0 : Option Addr) (n_12_6_0 : Nat) (c_12_6_0 : Nat) (bk_14 : Nat) (A_14_4_0 : Option Addr) (n_14_4_0 : Nat) (c_14_4_0 : Nat) (A_14_7_0 : Option Addr) (n_14_7_0 : Nat) (c_14_7_0 : Nat) (bk_20 : Nat) (cs_20 : List Value) (A_91 : Option Addr) (n_91 c_91 : Nat) (O : Hold W h0 m0 h m [rV bk_12 152 [(Value.int .i64 x_12_0), (Value.int .u32 x_12_1), (Value.slice A_12_2_0 n_12_2_0 c_12_2_0), (Value.int .i64 x_12_3), (Value.int .i64 x_12_4), (Value.int .u32 x_12_5), (Value.slice A_12_6_0 n_12_6_0 c_12_6_0), (Value.bool b_12_7)], rR (aE (tell_row (tell_int .u8))) A_12_2_0 c_12_2_0 a_12_2, rR (aE (tell_row (tell_int .u8))) A_12_6_0 c_12_6_0 a_12_6, rV bk_14 61 [(Value.int .i64 x_14_0), (Value.int .i64 x_14_1), (Value.int .i64 x_14_2), (Value.int .i64 x_14_3), (Value.slice A_14_4_0 n_14_4_0 c_14_4_0), (Value.int .i64 x_14_5), (Value.int .i64 x_14_6), (Value.slice A_14_7_0 n_14_7_0 c_14_7_0), (Value.bool b_14_8)], rR (aE (tell_row (tell_int .u8))) A_14_4_0 c_14_4_0 a_14_4, rR (aE (tell_row (tell_int .u8))) A_14_7_0 c_14_7_0 a_14_7, rV bk_20 66 cs_20]) (ne_2 : n_2 = List.length a_2) (k_2 : List.length a_2 ≤ c_2) (r_2 : Rd 1 (eRow 1 (eInt .u8)) m A_2 a_2) (ne_3 : n_3 = List.length a_3) (k_3 : List.length a_3 ≤ c_3) (r_3 : Rd 5 T_roadref4_Packet.E m A_3 a_3) (ne_12_2_0 : n_12_2_0 = List.length a_12_2) (ne_12_6_0 : n_12_6_0 = List.length a_12_6) (ne_14_4_0 : n_14_4_0 = List.length a_14_4) (ne_14_7_0 : n_14_7_0 = List.length a_14_7) (e_20 : T_roadref4_Packet.E m y_20 cs_20) (ne_91 : n_91 = List.length a_91) (k_91 : List.length a_91 ≤ c_91) (r_91 : Rd 1 (eRow 1 (eInt .i64)) m A_91 a_91), f4.j7 (roadlaw4_LinePlays.post W h0 m0 r) x_0 A_2 n_2 c_2 A_3 n_3 c_3 (some (⟨bk_12, 0, none⟩ : Addr)) (⟨bk_14, 0, none⟩ : Addr) (⟨bk_20, 0, none⟩ : Addr) x_21 A_91 n_91 c_91 x_92 x_93 h
  | .j8 x_0 a_2 a_3 x_12_0 x_12_1 a_12_2 x_12_3 x_12_4 x_12_5 a_12_6 b_12_7 x_14_0 x_14_1 x_14_2 x_14_3 a_14_4 x_14_5 x_14_6 a_14_7 b_14_8 a_22 a_91 x_92 x_93, r => ∀ (W : Nat → Prop) (h0 m0 h m : Heap) (A_2 : Option Addr) (n_2 c_2 : Nat) (A_3 : Option Addr) (n_3 c_3 : Nat) (bk_12 : Nat) (A_12_2_0 : Option Addr) (n_12_2_0 : Nat) (c_12_2_0 : Nat) (A_12_6_0 : Option Addr) (n_12_6_0 : Nat) (c_12_6_0 : Nat) (bk_14 : Nat) (A_14_4_0 : Option Addr) (n_14_4_0 : Nat) (c_14_4_0 : Nat) (A_14_7_0 : Option Addr) (n_14_7_0 : Nat) (c_14_7_0 : Nat) (A_22 : Option Addr) (n_22 c_22 : Nat) (A_91 : Option Addr) (n_91 c_91 : Nat) (O : Hold W h0 m0 h m [rV bk_12 152 [(Value.int .i64 x_12_0), (Value.int .u32 x_12_1), (Value.slice A_12_2_0 n_12_2_0 c_12_2_0), (Value.int .i64 x_12_3), (Value.int .i64 x_12_4), (Value.int .u32 x_12_5), (Value.slice A_12_6_0 n_12_6_0 c_12_6_0), (Value.bool b_12_7)], rR (aE (tell_row (tell_int .u8))) A_12_2_0 c_12_2_0 a_12_2, rR (aE (tell_row (tell_int .u8))) A_12_6_0 c_12_6_0 a_12_6, rV bk_14 61 [(Value.int .i64 x_14_0), (Value.int .i64 x_14_1), (Value.int .i64 x_14_2), (Value.int .i64 x_14_3), (Value.slice A_14_4_0 n_14_4_0 c_14_4_0), (Value.int .i64 x_14_5), (Value.int .i64 x_14_6), (Value.slice A_14_7_0 n_14_7_0 c_14_7_0), (Value.bool b_14_8)], rR (aE (tell_row (tell_int .u8))) A_14_4_0 c_14_4_0 a_14_4, rR (aE (tell_row (tell_int .u8))) A_14_7_0 c_14_7_0 a_14_7, rR (aE (tell_row (tell_int .u8))) A_22 c_22 a_22]) (ne_2 : n_2 = List.length a_2) (k_2 : List.length a_2 ≤ c_2) (r_2 : Rd 1 (eRow 1 (eInt .u8)) m A_2 a_2) (ne_3 : n_3 = List.length a_3) (k_3 : List.length a_3 ≤ c_3) (r_3 : Rd 5 T_roadref4_Packet.E m A_3 a_3) (ne_12_2_0 : n_12_2_0 = List.length a_12_2) (ne_12_6_0 : n_12_6_0 = List.length a_12_6) (ne_14_4_0 : n_14_4_0 = List.length a_14_4) (ne_14_7_0 : n_14_7_0 = List.length a_14_7) (ne_22 : n_22 = List.length a_22) (ne_91 : n_91 = List.length a_91) (k_91 : List.length a_91 ≤ c_91) (r_91 : Rd 1 (eRow 1 (eInt .i64)) m A_91 a_91), f4.j8 (roadlaw4_LinePlays.post W h0 m0 r) x_0 A_2 n_2 c_2 A_3 n_3 c_3 (some (⟨bk_12, 0, none⟩ : Addr)) (⟨bk_14, 0, none⟩ : Addr) A_22 n_22 c_22 A_91 n_91 c_91 x_92 x_93 h
  | .j10 x_0 a_2 a_3 x_12_0 x_12_1 a_12_2 x_12_3 x_12_4 x_12_5 a_12_6 b_12_7 x_14_0 x_14_1 x_14_2 x_14_3 a_14_4 x_14_5 x_14_6 a_14_7 b_14_8 a_91 x_92 x_93 b_254, r => ∀ (W : Nat → Prop) (h0 m0 h m : Heap) (A_2 : Option Addr) (n_2 c_2 : Nat) (A_3 : Option Addr) (n_3 c_3 : Nat) (bk_12 : Nat) (A_12_2_0 : Option Addr) (n_12_2_0 : Nat) (c_12_2_0 : Nat) (A_12_6_0 : Option Addr) (n_12_6_0 : Nat) (c_12_6_0 : Nat) (bk_14 : Nat) (A_14_4_0 : Option Addr) (n_14_4_0 : Nat) (c_14_4_0 : Nat) (A_14_7_0 : Option Addr) (n_14_7_0 : Nat) (c_14_7_0 : Nat) (A_91 : Option Addr) (n_91 c_91 : Nat) (O : Hold W h0 m0 h m [rV bk_12 152 [(Value.int .i64 x_12_0), (Value.int .u32 x_12_1), (Value.slice A_12_2_0 n_12_2_0 c_12_2_0), (Value.int .i64 x_12_3), (Value.int .i64 x_12_4), (Value.int .u32 x_12_5), (Value.slice A_12_6_0 n_12_6_0 c_12_6_0), (Value.bool b_12_7)], rR (aE (tell_row (tell_int .u8))) A_12_2_0 c_12_2_0 a_12_2, rR (aE (tell_row (tell_int .u8))) A_12_6_0 c_12_6_0 a_12_6, rV bk_14 61 [(Value.int .i64 x_14_0), (Value.int .i64 x_14_1), (Value.int .i64 x_14_2), (Value.int .i64 x_14_3), (Value.slice A_14_4_0 n_14_4_0 c_14_4_0), (Value.int .i64 x_14_5), (Value.int .i64 x_14_6), (Value.slice A_14_7_0 n_14_7_0 c_14_7_0), (Value.bool b_14_8)], rR (aE (tell_row (tell_int .u8))) A_14_4_0 c_14_4_0 a_14_4, rR (aE (tell_row (tell_int .u8))) A_14_7_0 c_14_7_0 a_14_7]) (ne_2 : n_2 = List.length a_2) (k_2 : List.length a_2 ≤ c_2) (r_2 : Rd 1 (eRow 1 (eInt .u8)) m A_2 a_2) (ne_3 : n_3 = List.length a_3) (k_3 : List.length a_3 ≤ c_3) (r_3 : Rd 5 T_roadref4_Packet.E m A_3 a_3) (ne_12_2_0 : n_12_2_0 = List.length a_12_2) (ne_12_6_0 : n_12_6_0 = List.length a_12_6) (ne_14_4_0 : n_14_4_0 = List.length a_14_4) (ne_14_7_0 : n_14_7_0 = List.length a_14_7) (ne_91 : n_91 = List.length a_91) (k_91 : List.length a_91 ≤ c_91) (r_91 : Rd 1 (eRow 1 (eInt .i64)) m A_91 a_91), f4.j10 (roadlaw4_LinePlays.post W h0 m0 r) x_0 A_2 n_2 c_2 A_3 n_3 c_3 (some (⟨bk_12, 0, none⟩ : Addr)) (⟨bk_14, 0, none⟩ : Addr) A_91 n_91 c_91 x_92 x_93 b_254 h
  | .j5 x_0 a_2 a_3 x_12_0 x_12_1 a_12_2 x_12_3 x_12_4 x_12_5 a_12_6 b_12_7 x_14_0 x_14_1 x_14_2 x_14_3 a_14_4 x_14_5 x_14_6 a_14_7 b_14_8 a_91 x_92 x_93, r => ∀ (W : Nat → Prop) (h0 m0 h m : Heap) (A_2 : Option Addr) (n_2 c_2 : Nat) (A_3 : Option Addr) (n_3 c_3 : Nat) (bk_12 : Nat) (A_12_2_0 : Option Addr) (n_12_2_0 : Nat) (c_12_2_0 : Nat) (A_12_6_0 : Option Addr) (n_12_6_0 : Nat) (c_12_6_0 : Nat) (bk_14 : Nat) (A_14_4_0 : Option Addr) (n_14_4_0 : Nat) (c_14_4_0 : Nat) (A_14_7_0 : Option Addr) (n_14_7_0 : Nat) (c_14_7_0 : Nat) (A_91 : Option Addr) (n_91 c_91 : Nat) (O : Hold W h0 m0 h m [rV bk_12 152 [(Value.int .i64 x_12_0), (Value.int .u32 x_12_1), (Value.slice A_12_2_0 n_12_2_0 c_12_2_0), (Value.int .i64 x_12_3), (Value.int .i64 x_12_4), (Value.int .u32 x_12_5), (Value.slice A_12_6_0 n_12_6_0 c_12_6_0), (Value.bool b_12_7)], rR (aE (tell_row (tell_int .u8))) A_12_2_0 c_12_2_0 a_12_2, rR (aE (tell_row (tell_int .u8))) A_12_6_0 c_12_6_0 a_12_6, rV bk_14 61 [(Value.int .i64 x_14_0), (Value.int .i64 x_14_1), (Value.int .i64 x_14_2), (Value.int .i64 x_14_3), (Value.slice A_14_4_0 n_14_4_0 c_14_4_0), (Value.int .i64 x_14_5), (Value.int .i64 x_14_6), (Value.slice A_14_7_0 n_14_7_0 c_14_7_0), (Value.bool b_14_8)], rR (aE (tell_row (tell_int .u8))) A_14_4_0 c_14_4_0 a_14_4, rR (aE (tell_row (tell_int .u8))) A_14_7_0 c_14_7_0 a_14_7]) (ne_2 : n_2 = List.length a_2) (k_2 : List.length a_2 ≤ c_2) (r_2 : Rd 1 (eRow 1 (eInt .u8)) m A_2 a_2) (ne_3 : n_3 = List.length a_3) (k_3 : List.length a_3 ≤ c_3) (r_3 : Rd 5 T_roadref4_Packet.E m A_3 a_3) (ne_12_2_0 : n_12_2_0 = List.length a_12_2) (ne_12_6_0 : n_12_6_0 = List.length a_12_6) (ne_14_4_0 : n_14_4_0 = List.length a_14_4) (ne_14_7_0 : n_14_7_0 = List.length a_14_7) (ne_91 : n_91 = List.length a_91) (k_91 : List.length a_91 ≤ c_91) (r_91 : Rd 1 (eRow 1 (eInt .i64)) m A_91 a_91), f4.j5 (roadlaw4_LinePlays.post W h0 m0 r) x_0 A_2 n_2 c_2 A_3 n_3 c_3 (some (⟨bk_12, 0, none⟩ : Addr)) (⟨bk_14, 0, none⟩ : Addr) A_91 n_91 c_91 x_92 x_93 h
set_option maxHeartbeats 4000000 in
set_option maxRecDepth 100000 in
theorem roadlaw4_LinePlays.l0_k.step_l0 (go : (p : roadlaw4_LinePlays.l0_k.Pt) → Option (Bool)) (ih : ∀ p r, go p = some r → roadlaw4_LinePlays.l0_k.I p r) (x_0 : Int) (a_2 : List (List Int)) (a_3 : List T_roadref4_Packet) (x_12_0 : Int) (x_12_1 : Int) (a_12_2 : (List (List Int))) (x_12_3 : Int) (x_12_4 : Int) (x_12_5 : Int) (a_12_6 : (List (List Int))) (b_12_7 : Bool) (x_14_0 : Int) (x_14_1 : Int) (x_14_2 : Int) (x_14_3 : Int) (a_14_4 : (List (List Int))) (x_14_5 : Int) (x_14_6 : Int) (a_14_7 : (List (List Int))) (b_14_8 : Bool) (a_91 : List (List Int)) (x_92 : Int) (x_93 : Int) (r : Bool) (e : roadlaw4_LinePlays.l0_k.body go (.l0 x_0 a_2 a_3 x_12_0 x_12_1 a_12_2 x_12_3 x_12_4 x_12_5 a_12_6 b_12_7 x_14_0 x_14_1 x_14_2 x_14_3 a_14_4 x_14_5 x_14_6 a_14_7 b_14_8 a_91 x_92 x_93) = some r) : roadlaw4_LinePlays.l0_k.I (.l0 x_0 a_2 a_3 x_12_0 x_12_1 a_12_2 x_12_3 x_12_4 x_12_5 a_12_6 b_12_7 x_14_0 x_14_1 x_14_2 x_14_3 a_14_4 x_14_5 x_14_6 a_14_7 b_14_8 a_91 x_92 x_93) r := by
  unfold roadlaw4_LinePlays.l0_k.body at e
  intro W h0 m0 h m A_2 n_2 c_2 A_3 n_3 c_3 bk_12 A_12_2_0 n_12_2_0 c_12_2_0 A_12_6_0 n_12_6_0 c_12_6_0 bk_14 A_14_4_0 n_14_4_0 c_14_4_0 A_14_7_0 n_14_7_0 c_14_7_0 A_91 n_91 c_91 O ne_2 k_2 r_2 ne_3 k_3 r_3 ne_12_2_0 ne_12_6_0 ne_14_4_0 ne_14_7_0 ne_91 k_91 r_91
  subst ne_2
  subst ne_3
  subst ne_12_2_0
  subst ne_12_6_0
  subst ne_14_4_0
  subst ne_14_7_0
  subst ne_91
  refine f4.l0_in ?_
  unfold f4.l0T
  refine split_dec_e e (fun c198 e => ?_) (fun c198 e => ?_)
  · obtain ⟨y1, g2, e⟩ := bind_e e
    refine r_91.addr rfl g2 fun a3 cs4 ha5 hc6 he7 => ?_
    obtain ⟨Acs4_0, ccs4_0, rfl, kcs4_0, rcs4_0⟩ := id he7
    refine ⟨_, ld0 O.s hc6 rfl, _, _, _, rfl, ?_⟩
    obtain ⟨y8, g9, e⟩ := bind_e e
    refine (roadlaw4_at.walk (Hold.start (W := No) O.s) rfl kcs4_0 rcs4_0 g9).mono ?_
    rintro _ h10 ⟨m11, Q12, rfl⟩
    have O14 := Hold.nm (O.retC Q12 vfs_nil)
    refine ⟨_, rfl, ?_⟩
    obtain ⟨y15, g16, e⟩ := bind_e e
    refine (roadlaw4_at.walk (Hold.start (W := No) O14.s) rfl kcs4_0 rcs4_0 g16).mono ?_
    rintro _ h17 ⟨m18, Q19, rfl⟩
    have O21 := Hold.nm (O14.retC Q19 vfs_nil)
    refine ⟨_, rfl, ?_⟩
    refine split_eq_e e (fun c197 e => ?_) (fun c197 e => ?_)
    · obtain ⟨y22, g23, e⟩ := bind_e e
      refine (roadlaw4_pick_27.walk (Hold.start (W := No) O21.s) rfl k_2 r_2 g23).mono ?_
      rintro _ h24 ⟨m25, A28, n29, c30, Q26, rfl, ne31, k32, r33⟩
      have O34 := Hold.nm (O21.ret Q26)
      subst ne31
      refine ⟨_, _, _, rfl, ?_⟩
      refine split_dec_e e (fun c52 e => ?_) (fun c52 e => ?_)
      · exact (ih _ _ e) _ _ _ _ _ _ _ _ _ _ _ _ _ _ _ _ _ _ _ _ _ _ _ _ _ _ _ _ _ _ _ (O34.pick [0, 1, 2, 3, 4, 5]).nm rfl k_2 (r_2.sub (tell_row (tell_int .u8)) Q26.S.up) rfl k_3 (r_3.sub T_roadref4_Packet.T Q26.S.up) rfl rfl rfl rfl rfl k32 r33 rfl k_91 (r_91.sub (tell_row (tell_int .i64)) Q26.S.up)
      · refine ⟨_, ldk (k := 4) (Sub.refl _) (O34.all 3 rfl) rfl, _, _, _, rfl, ?_⟩
        refine ⟨_, ldk (k := 2) (Sub.refl _) (O34.all 3 rfl) rfl, _, rfl, ?_⟩
        refine split_eq_e e (fun c51 e => ?_) (fun c51 e => ?_)
        · exact (ih _ _ e) _ _ _ _ _ _ _ _ _ _ _ _ _ _ _ _ _ _ _ _ _ _ _ _ _ _ _ _ _ _ _ (O34.pick [0, 1, 2, 3, 4, 5]).nm rfl k_2 (r_2.sub (tell_row (tell_int .u8)) Q26.S.up) rfl k_3 (r_3.sub T_roadref4_Packet.T Q26.S.up) rfl rfl rfl rfl rfl k32 r33 rfl k_91 (r_91.sub (tell_row (tell_int .i64)) Q26.S.up)
        · refine ⟨_, ldk (k := 4) (Sub.refl _) (O34.all 3 rfl) rfl, _, _, _, rfl, ?_⟩
          refine O34.new fun h35 x36 O37 => ?_
          obtain ⟨l39, g40, e⟩ := bind_e e
          have O47 := O37.rowE (l := ([y22] : List (List Int))) 6 rfl (tell_row (tell_int .u8)) (show CsE _ _ _ _ _ from (CsE.cons (c1 := [(Value.slice A28 (List.length y22) c30)]) ⟨_, _, rfl, k32, r33⟩ rfl CsE.nil)) rfl
          refine O47.app 4 rfl rfl rfl ((O47.os 6 rfl).srcE rfl) (by decide) g40 fun A41 c42 h43 O44 => ?_
          refine ⟨_, _, _, rfl, ?_⟩
          refine O44.st 3 rfl 4 (Nat.le_of_ble_eq_true rfl) trivial fun h48 O49 => ?_
          have O50 := O49.nm
          exact (ih _ _ e) _ _ _ _ _ _ _ _ _ _ _ _ _ _ _ _ _ _ _ _ _ _ _ _ _ _ _ _ _ _ _ (O50.pick [0, 1, 2, 3, 4, 5]).nm rfl k_2 (r_2.sub (tell_row (tell_int .u8)) Q26.S.up) rfl k_3 (r_3.sub T_roadref4_Packet.T Q26.S.up) rfl rfl rfl rfl rfl k32 r33 rfl k_91 (r_91.sub (tell_row (tell_int .i64)) Q26.S.up)
    · refine split_eq_e e (fun c196 e => ?_) (fun c196 e => ?_)
      · obtain ⟨y53, g54, e⟩ := bind_e e
        obtain ⟨W59, P60, B61, C62⟩ := O21.callC [0, 1, 2]
        refine (line_End_Out.walk P60 rfl rfl g54).mono ?_
        rintro _ h55 ⟨m56, A63, n64, c65, A_68_2, n_68_2, c_68_2, A_68_6, n_68_6, c_68_6, Q57, rfl, ne66, ne_68_2, ne_68_6⟩
        have O71 := Hold.nm (B61 Q57)
        subst ne66
        subst ne_68_2
        subst ne_68_6
        refine ⟨_, _, _, rfl, ?_⟩
        obtain ⟨y72, g73, e⟩ := bind_e e
        obtain ⟨W78, P79, B80, C81⟩ := O71.callC [3, 4, 5]
        refine (roadref4_End_Out.walk P79 rfl rfl g73).mono ?_
        rintro _ h74 ⟨m75, A82, n83, c84, A_87_4, n_87_4, c_87_4, A_87_7, n_87_7, c_87_7, Q76, rfl, ne85, ne_87_4, ne_87_7⟩
        have O90 := Hold.nm (B80 Q76)
        subst ne85
        subst ne_87_4
        subst ne_87_7
        refine ⟨_, _, _, rfl, ?_⟩
        obtain ⟨y91, g92, e⟩ := bind_e e
        obtain ⟨m97, u98, s105, ⟨⟨r101, k102⟩, ⟨r103, k104⟩, _⟩, B99, C100⟩ := O90.lend0 [6, 10]
        replace r101 : Rd 5 T_line_Packet.E m97 A63 y53.1 := r101
        replace k102 : List.length y53.1 ≤ c65 := k102
        replace r103 : Rd 5 T_roadref4_Packet.E m97 A82 y72.1 := r103
        replace k104 : List.length y72.1 ≤ c84 := k104
        refine (slices_EqualFunc_28.walk (Hold.start (W := No) s105) rfl k102 r101 rfl k104 r103 (fun h108 m109 u110 s111 y114 cs114 he114 y115 cs115 he115 r112 e113 => CallF.of [Value.agg cs114.toArray, Value.agg cs115.toArray] f30.ok rfl ((roadlaw4_same.walk (Hold.start (W := No) s111) he114 he115 e113).mono (fun _ _ h => let ⟨_, t, e⟩ := h; ⟨e, t.S.ext⟩))) g92).mono ?_
        rintro _ h93 ⟨m94, Q95, rfl⟩
        have O116 := Hold.nm (C100 Q95 vfs_nil)
        refine ⟨_, rfl, ?_⟩
        refine split_not ?_
        refine split_any_e e (fun c117 e => ?_) (fun c117 e => ?_)
        · exact (ih _ _ e) _ _ _ _ _ _ _ _ _ _ _ _ _ _ _ _ _ _ _ _ _ _ _ _ _ _ _ _ (O116.pick [7, 8, 9, 11, 12, 13]).nm rfl k_2 (r_2.sub (tell_row (tell_int .u8)) (Q57.S.up.trans Q76.S.up)) rfl k_3 (r_3.sub T_roadref4_Packet.T (Q57.S.up.trans Q76.S.up)) rfl rfl rfl rfl rfl k_91 (r_91.sub (tell_row (tell_int .i64)) (Q57.S.up.trans Q76.S.up))
        · cases e
          exact ⟨_, O116.pick [], rfl⟩
      · refine split_eq_e e (fun c195 e => ?_) (fun c195 e => ?_)
        · obtain ⟨y118, g119, e⟩ := bind_e e
          refine (roadlaw4_pick_31.walk (Hold.start (W := No) O21.s) rfl k_3 r_3 g119).mono ?_
          rintro _ h120 ⟨m121, cs125, Q122, rfl, he126⟩
          have O127 := Hold.nm (O21.ret Q122)
          refine O127.new fun h128 x129 O130 => ?_
          refine ⟨_, rfl, (T_roadref4_Packet.T.len _ _ _ he126), ?_⟩
          refine O130.stA 6 rfl (T_roadref4_Packet.T.len _ _ _ he126) (T_roadref4_Packet.T.flat _ _ _ he126) fun h132 O133 => ?_
          refine ⟨_, ldk (k := 1) (Sub.refl _) (O133.all 6 rfl) (T_roadref4_Packet.g1 he126), _, rfl, ?_⟩
          refine ⟨_, ldk (k := 2) (Sub.refl _) (O133.all 3 rfl) rfl, _, rfl, ?_⟩
          obtain ⟨y134, g135, e⟩ := bind_e e
          refine (roadlaw4_at.walk (Hold.start (W := No) O133.s) rfl kcs4_0 (rcs4_0.sub (tell_int .i64) Q122.S.up) g135).mono ?_
          rintro _ h136 ⟨m137, Q138, rfl⟩
          have O140 := Hold.nm (O133.retC Q138 vfs_nil)
          refine ⟨_, rfl, ?_⟩
          refine ⟨Q138.S.ext, ?_⟩
          refine ⟨by decide, ?_⟩
          refine O140.stE 6 rfl 1 (lt_len (T_roadref4_Packet.T.len _ _ _ he126) (by decide)) trivial (T_roadref4_Packet.s1 he126 (IntKind.wrap .u32 (y118.Ack + (IntKind.wrap .u32 ((IntKind.wrap .u32 x_14_2) * (IntKind.wrap .u32 (Int.tmod y134 (2 : Int)))))))) fun h141 cs143 e144 O142 => ?_
          refine ⟨_, ld0 (Sub.refl _) (O142.all 6 rfl) (T_roadref4_Packet.g0 e144), _, rfl, ?_⟩
          refine ⟨_, ldk (k := 5) (Sub.refl _) (O142.all 3 rfl) rfl, _, rfl, ?_⟩
          obtain ⟨y145, g146, e⟩ := bind_e e
          refine (roadlaw4_at.walk (Hold.start (W := No) O142.s) rfl kcs4_0 (rcs4_0.sub (tell_int .i64) Q122.S.up) g146).mono ?_
          rintro _ h147 ⟨m148, Q149, rfl⟩
          have O151 := Hold.nm (O142.retC Q149 vfs_nil)
          refine ⟨_, rfl, ?_⟩
          refine ⟨Q149.S.ext, ?_⟩
          refine ⟨by decide, ?_⟩
          refine O151.stE0 6 rfl (lt_len (T_roadref4_Packet.T.len _ _ _ e144) (by decide)) trivial (T_roadref4_Packet.s0 e144 (IntKind.wrap .u32 ((({ y118 with Ack := (IntKind.wrap .u32 (y118.Ack + (IntKind.wrap .u32 ((IntKind.wrap .u32 x_14_2) * (IntKind.wrap .u32 (Int.tmod y134 (2 : Int))))))) }).Seq) + (IntKind.wrap .u32 ((IntKind.wrap .u32 x_14_5) * (IntKind.wrap .u32 (Int.tmod y145 (2 : Int)))))))) fun h152 cs154 e155 O153 => ?_
          refine ⟨_, ldk (k := 3) (Sub.refl _) (O153.all 6 rfl) (T_roadref4_Packet.g3 e155), _, rfl, ?_⟩
          refine split_dec_e e (fun c158 e => ?_) (fun c158 e => ?_)
          · have O156 := O153.nm
            exact (ih _ _ e) _ _ _ _ _ _ _ _ _ _ _ _ _ _ _ _ _ _ _ _ _ _ _ _ _ _ _ _ _ _ (O156.pick [0, 1, 2, 3, 4, 5, 6]).nm rfl k_2 (r_2.sub (tell_row (tell_int .u8)) Q122.S.up) rfl k_3 (r_3.sub T_roadref4_Packet.T Q122.S.up) rfl rfl rfl rfl e155 rfl k_91 (r_91.sub (tell_row (tell_int .i64)) Q122.S.up)
          · refine ⟨_, ldk (k := 3) (Sub.refl _) (O153.all 6 rfl) (T_roadref4_Packet.g3 e155), _, rfl, ?_⟩
            have O157 := O153.nm
            exact (ih _ _ e) _ _ _ _ _ _ _ _ _ _ _ _ _ _ _ _ _ _ _ _ _ _ _ _ _ _ _ _ _ _ (O157.pick [0, 1, 2, 3, 4, 5, 6]).nm rfl k_2 (r_2.sub (tell_row (tell_int .u8)) Q122.S.up) rfl k_3 (r_3.sub T_roadref4_Packet.T Q122.S.up) rfl rfl rfl rfl e155 rfl k_91 (r_91.sub (tell_row (tell_int .i64)) Q122.S.up)
        · refine split_eq_e e (fun c194 e => ?_) (fun c194 e => ?_)
          · refine ⟨_, ldk (k := 7) (Sub.refl _) (O21.all 3 rfl) rfl, _, _, _, rfl, ?_⟩
            refine O21.st 3 rfl 7 (Nat.le_of_ble_eq_true rfl) trivial fun h159 O160 => ?_
            refine O160.st 3 rfl 6 (Nat.le_of_ble_eq_true rfl) trivial fun h161 O162 => ?_
            refine ⟨_, ldk (k := 8) (Sub.refl _) (O162.all 3 rfl) rfl, _, rfl, ?_⟩
            refine split_any_e e (fun c173 e => ?_) (fun c173 e => ?_)
            · refine O162.st 3 rfl 8 (Nat.le_of_ble_eq_true rfl) trivial fun h163 O164 => ?_
              have O165 := O164.nil (aE (tell_row (tell_int .u8))) none
              have O167 := O165.nm
              exact (ih _ _ e) _ _ _ _ _ _ _ _ _ _ _ _ _ _ _ _ _ _ _ _ _ _ _ _ _ _ _ _ _ _ _ (O167.pick [0, 1, 2, 3, 4, 6, 5]).nm rfl k_2 r_2 rfl k_3 r_3 rfl rfl rfl rfl rfl rfl k_91 r_91
            · refine O162.st 3 rfl 8 (Nat.le_of_ble_eq_true rfl) trivial fun h168 O169 => ?_
              have O170 := O169.nil (aE (tell_row (tell_int .u8))) none
              have O172 := O170.nm
              exact (ih _ _ e) _ _ _ _ _ _ _ _ _ _ _ _ _ _ _ _ _ _ _ _ _ _ _ _ _ _ _ _ _ _ _ (O172.pick [0, 1, 2, 3, 4, 6, 5]).nm rfl k_2 r_2 rfl k_3 r_3 rfl rfl rfl rfl rfl rfl k_91 r_91
          · refine split_eq_e e (fun c193 e => ?_) (fun c193 e => ?_)
            · obtain ⟨y174, g175, e⟩ := bind_e e
              obtain ⟨W180, P181, B182, C183⟩ := O21.callC [0, 1, 2]
              refine (line_End_Tick.walk P181 rfl rfl g175).mono ?_
              rintro _ h176 ⟨m177, A_184_2, n_184_2, c_184_2, A_184_6, n_184_6, c_184_6, Q178, rfl, ne_184_2, ne_184_6⟩
              have O187 := Hold.nm (B182 Q178)
              subst ne_184_2
              subst ne_184_6
              refine ⟨rfl, ?_⟩
              refine O187.st 3 rfl 3 (Nat.le_of_ble_eq_true rfl) trivial fun h188 O189 => ?_
              refine ⟨_, ldk (k := 4) (Sub.refl _) (O189.all 3 rfl) rfl, _, _, _, rfl, ?_⟩
              refine ⟨_, ldk (k := 2) (Sub.refl _) (O189.all 3 rfl) rfl, _, rfl, ?_⟩
              refine split_dec_e e (fun c192 e => ?_) (fun c192 e => ?_)
              · refine ⟨_, ldk (k := 1) (Sub.refl _) (O189.all 3 rfl) rfl, _, rfl, ?_⟩
                have O190 := O189.nm
                exact (ih _ _ e) _ _ _ _ _ _ _ _ _ _ _ _ _ _ _ _ _ _ _ _ _ _ _ _ _ _ _ _ (O190.pick [6, 7, 8, 3, 4, 5]).nm rfl k_2 (r_2.sub (tell_row (tell_int .u8)) Q178.S.up) rfl k_3 (r_3.sub T_roadref4_Packet.T Q178.S.up) rfl rfl rfl rfl rfl k_91 (r_91.sub (tell_row (tell_int .i64)) Q178.S.up)
              · have O191 := O189.nm
                exact (ih _ _ e) _ _ _ _ _ _ _ _ _ _ _ _ _ _ _ _ _ _ _ _ _ _ _ _ _ _ _ _ (O191.pick [6, 7, 8, 3, 4, 5]).nm rfl k_2 (r_2.sub (tell_row (tell_int .u8)) Q178.S.up) rfl k_3 (r_3.sub T_roadref4_Packet.T Q178.S.up) rfl rfl rfl rfl rfl k_91 (r_91.sub (tell_row (tell_int .i64)) Q178.S.up)
            · exact (ih _ _ e) _ _ _ _ _ _ _ _ _ _ _ _ _ _ _ _ _ _ _ _ _ _ _ _ _ _ _ _ (O21.pick [0, 1, 2, 3, 4, 5]).nm rfl k_2 r_2 rfl k_3 r_3 rfl rfl rfl rfl rfl k_91 r_91
  · cases e
    exact ⟨_, O.pick [], rfl⟩
set_option maxRecDepth 100000 in
theorem roadlaw4_LinePlays.l0_k.step_j6 (go : (p : roadlaw4_LinePlays.l0_k.Pt) → Option (Bool)) (ih : ∀ p r, go p = some r → roadlaw4_LinePlays.l0_k.I p r) (x_0 : Int) (a_2 : List (List Int)) (a_3 : List T_roadref4_Packet) (x_12_0 : Int) (x_12_1 : Int) (a_12_2 : (List (List Int))) (x_12_3 : Int) (x_12_4 : Int) (x_12_5 : Int) (a_12_6 : (List (List Int))) (b_12_7 : Bool) (x_14_0 : Int) (x_14_1 : Int) (x_14_2 : Int) (x_14_3 : Int) (a_14_4 : (List (List Int))) (x_14_5 : Int) (x_14_6 : Int) (a_14_7 : (List (List Int))) (b_14_8 : Bool) (a_18 : List Int) (x_19 : Int) (a_91 : List (List Int)) (x_92 : Int) (x_93 : Int) (r : Bool) (e : roadlaw4_LinePlays.l0_k.body go (.j6 x_0 a_2 a_3 x_12_0 x_12_1 a_12_2 x_12_3 x_12_4 x_12_5 a_12_6 b_12_7 x_14_0 x_14_1 x_14_2 x_14_3 a_14_4 x_14_5 x_14_6 a_14_7 b_14_8 a_18 x_19 a_91 x_92 x_93) = some r) : roadlaw4_LinePlays.l0_k.I (.j6 x_0 a_2 a_3 x_12_0 x_12_1 a_12_2 x_12_3 x_12_4 x_12_5 a_12_6 b_12_7 x_14_0 x_14_1 x_14_2 x_14_3 a_14_4 x_14_5 x_14_6 a_14_7 b_14_8 a_18 x_19 a_91 x_92 x_93) r := by
  unfold roadlaw4_LinePlays.l0_k.body at e
  intro W h0 m0 h m A_2 n_2 c_2 A_3 n_3 c_3 bk_12 A_12_2_0 n_12_2_0 c_12_2_0 A_12_6_0 n_12_6_0 c_12_6_0 bk_14 A_14_4_0 n_14_4_0 c_14_4_0 A_14_7_0 n_14_7_0 c_14_7_0 A_18 n_18 c_18 A_91 n_91 c_91 O ne_2 k_2 r_2 ne_3 k_3 r_3 ne_12_2_0 ne_12_6_0 ne_14_4_0 ne_14_7_0 ne_18 k_18 r_18 ne_91 k_91 r_91
  subst ne_2
  subst ne_3
  subst ne_12_2_0
  subst ne_12_6_0
  subst ne_14_4_0
  subst ne_14_7_0
  subst ne_18
  subst ne_91
  refine f4.j6_in ?_
  unfold f4.j6T
  obtain ⟨y1, g2, e⟩ := bind_e e
  obtain ⟨W7, P8, B9, C10⟩ := O.callC [0, 1, 2]
  refine (line_End_Put.walk P8 rfl rfl rfl k_18 r_18 g2).mono ?_
  rintro _ h3 ⟨m4, A_11_2, n_11_2, c_11_2, A_11_6, n_11_6, c_11_6, Q5, rfl, ne_11_2, ne_11_6⟩
  have O14 := Hold.nm (B9 Q5)
  subst ne_11_2
  subst ne_11_6
  refine ⟨_, rfl, ?_⟩
  refine split_ne_e e (fun c15 e => ?_) (fun c15 e => ?_)
  · cases e
    exact ⟨_, O14.pick [], rfl⟩
  · exact (ih _ _ e) _ _ _ _ _ _ _ _ _ _ _ _ _ _ _ _ _ _ _ _ _ _ _ _ _ _ _ _ (O14.pick [6, 7, 8, 3, 4, 5]).nm rfl k_2 (r_2.sub (tell_row (tell_int .u8)) Q5.S.up) rfl k_3 (r_3.sub T_roadref4_Packet.T Q5.S.up) rfl rfl rfl rfl rfl k_91 (r_91.sub (tell_row (tell_int .i64)) Q5.S.up)
set_option maxRecDepth 100000 in
theorem roadlaw4_LinePlays.l0_k.step_j9 (go : (p : roadlaw4_LinePlays.l0_k.Pt) → Option (Bool)) (ih : ∀ p r, go p = some r → roadlaw4_LinePlays.l0_k.I p r) (x_0 : Int) (a_2 : List (List Int)) (a_3 : List T_roadref4_Packet) (x_12_0 : Int) (x_12_1 : Int) (a_12_2 : (List (List Int))) (x_12_3 : Int) (x_12_4 : Int) (x_12_5 : Int) (a_12_6 : (List (List Int))) (b_12_7 : Bool) (x_14_0 : Int) (x_14_1 : Int) (x_14_2 : Int) (x_14_3 : Int) (a_14_4 : (List (List Int))) (x_14_5 : Int) (x_14_6 : Int) (a_14_7 : (List (List Int))) (b_14_8 : Bool) (y_20 : T_roadref4_Packet) (x_21 : Int) (a_91 : List (List Int)) (x_92 : Int) (x_93 : Int) (b_182 : Bool) (r : Bool) (e : roadlaw4_LinePlays.l0_k.body go (.j9 x_0 a_2 a_3 x_12_0 x_12_1 a_12_2 x_12_3 x_12_4 x_12_5 a_12_6 b_12_7 x_14_0 x_14_1 x_14_2 x_14_3 a_14_4 x_14_5 x_14_6 a_14_7 b_14_8 y_20 x_21 a_91 x_92 x_93 b_182) = some r) : roadlaw4_LinePlays.l0_k.I (.j9 x_0 a_2 a_3 x_12_0 x_12_1 a_12_2 x_12_3 x_12_4 x_12_5 a_12_6 b_12_7 x_14_0 x_14_1 x_14_2 x_14_3 a_14_4 x_14_5 x_14_6 a_14_7 b_14_8 y_20 x_21 a_91 x_92 x_93 b_182) r := by
  unfold roadlaw4_LinePlays.l0_k.body at e
  intro W h0 m0 h m A_2 n_2 c_2 A_3 n_3 c_3 bk_12 A_12_2_0 n_12_2_0 c_12_2_0 A_12_6_0 n_12_6_0 c_12_6_0 bk_14 A_14_4_0 n_14_4_0 c_14_4_0 A_14_7_0 n_14_7_0 c_14_7_0 bk_20 cs_20 A_91 n_91 c_91 O ne_2 k_2 r_2 ne_3 k_3 r_3 ne_12_2_0 ne_12_6_0 ne_14_4_0 ne_14_7_0 e_20 ne_91 k_91 r_91
  subst ne_2
  subst ne_3
  subst ne_12_2_0
  subst ne_12_6_0
  subst ne_14_4_0
  subst ne_14_7_0
  subst ne_91
  refine f4.j9_in ?_
  unfold f4.j9T
  refine split_any_e e (fun c21 e => ?_) (fun c21 e => ?_)
  · exact (ih _ _ e) _ _ _ _ _ _ _ _ _ _ _ _ _ _ _ _ _ _ _ _ _ _ _ _ _ _ _ _ _ _ (O.pick [0, 1, 2, 3, 4, 5, 6]).nm rfl k_2 r_2 rfl k_3 r_3 rfl rfl rfl rfl e_20 rfl k_91 r_91
  · obtain ⟨A1, c2, q3, k4, r5⟩ := T_roadref4_Packet.g4 e_20
    refine ⟨_, ldk (k := 4) (Sub.refl _) (O.all 6 rfl) q3, _, _, _, rfl, ?_⟩
    refine split_dec_e e (fun c20 e => ?_) (fun c20 e => ?_)
    · exact (ih _ _ e) _ _ _ _ _ _ _ _ _ _ _ _ _ _ _ _ _ _ _ _ _ _ _ _ _ _ _ _ _ _ (O.pick [0, 1, 2, 3, 4, 5, 6]).nm rfl k_2 r_2 rfl k_3 r_3 rfl rfl rfl rfl e_20 rfl k_91 r_91
    · refine ⟨_, ldAn (Sub.refl _) (O.all 6 rfl) (T_roadref4_Packet.T.len _ _ _ e_20), ?_⟩
      obtain ⟨y6, g7, e⟩ := bind_e e
      obtain ⟨W12, P13, B14, C15⟩ := O.callC [3, 4, 5]
      refine (roadref4_End_Come.walk P13 rfl rfl e_20 g7).mono ?_
      rintro _ h8 ⟨m9, A_16_4, n_16_4, c_16_4, A_16_7, n_16_7, c_16_7, Q10, rfl, ne_16_4, ne_16_7⟩
      have O19 := Hold.nm (B14 Q10)
      subst ne_16_4
      subst ne_16_7
      refine ⟨rfl, ?_⟩
      exact (ih _ _ e) _ _ _ _ _ _ _ _ _ _ _ _ _ _ _ _ _ _ _ _ _ _ _ _ _ _ _ _ _ _ (O19.pick [0, 1, 2, 7, 8, 9, 6]).nm rfl k_2 (r_2.sub (tell_row (tell_int .u8)) Q10.S.up) rfl k_3 (r_3.sub T_roadref4_Packet.T Q10.S.up) rfl rfl rfl rfl (T_roadref4_Packet.T.mono _ _ _ _ Q10.S.up e_20) rfl k_91 (r_91.sub (tell_row (tell_int .i64)) Q10.S.up)
set_option maxRecDepth 100000 in
theorem roadlaw4_LinePlays.l0_k.step_j7 (go : (p : roadlaw4_LinePlays.l0_k.Pt) → Option (Bool)) (ih : ∀ p r, go p = some r → roadlaw4_LinePlays.l0_k.I p r) (x_0 : Int) (a_2 : List (List Int)) (a_3 : List T_roadref4_Packet) (x_12_0 : Int) (x_12_1 : Int) (a_12_2 : (List (List Int))) (x_12_3 : Int) (x_12_4 : Int) (x_12_5 : Int) (a_12_6 : (List (List Int))) (b_12_7 : Bool) (x_14_0 : Int) (x_14_1 : Int) (x_14_2 : Int) (x_14_3 : Int) (a_14_4 : (List (List Int))) (x_14_5 : Int) (x_14_6 : Int) (a_14_7 : (List (List Int))) (b_14_8 : Bool) (y_20 : T_roadref4_Packet) (x_21 : Int) (a_91 : List (List Int)) (x_92 : Int) (x_93 : Int) (r : Bool) (e : roadlaw4_LinePlays.l0_k.body go (.j7 x_0 a_2 a_3 x_12_0 x_12_1 a_12_2 x_12_3 x_12_4 x_12_5 a_12_6 b_12_7 x_14_0 x_14_1 x_14_2 x_14_3 a_14_4 x_14_5 x_14_6 a_14_7 b_14_8 y_20 x_21 a_91 x_92 x_93) = some r) : roadlaw4_LinePlays.l0_k.I (.j7 x_0 a_2 a_3 x_12_0 x_12_1 a_12_2 x_12_3 x_12_4 x_12_5 a_12_6 b_12_7 x_14_0 x_14_1 x_14_2 x_14_3 a_14_4 x_14_5 x_14_6 a_14_7 b_14_8 y_20 x_21 a_91 x_92 x_93) r := by
  unfold roadlaw4_LinePlays.l0_k.body at e
  intro W h0 m0 h m A_2 n_2 c_2 A_3 n_3 c_3 bk_12 A_12_2_0 n_12_2_0 c_12_2_0 A_12_6_0 n_12_6_0 c_12_6_0 bk_14 A_14_4_0 n_14_4_0 c_14_4_0 A_14_7_0 n_14_7_0 c_14_7_0 bk_20 cs_20 A_91 n_91 c_91 O ne_2 k_2 r_2 ne_3 k_3 r_3 ne_12_2_0 ne_12_6_0 ne_14_4_0 ne_14_7_0 e_20 ne_91 k_91 r_91
  subst ne_2
  subst ne_3
  subst ne_12_2_0
  subst ne_12_6_0
  subst ne_14_4_0
  subst ne_14_7_0
  subst ne_91
  refine f4.j7_in ?_
  unfold f4.j7T
  refine ⟨_, ldAn (Sub.refl _) (O.all 6 rfl) (T_roadref4_Packet.T.len _ _ _ e_20), ?_⟩
  obtain ⟨y1, g2, e⟩ := bind_e e
  refine (roadlaw4_packet.walk (Hold.start (W := No) O.s) e_20 g2).mono ?_
  rintro _ h3 ⟨m4, cs8, Q5, rfl, he9⟩
  have O10 := Hold.nm (O.ret Q5)
  obtain ⟨y11, g12, e⟩ := bind_e e
  obtain ⟨W17, P18, B19, C20⟩ := O10.callC [0, 1, 2]
  refine (line_End_Come.walk P18 rfl rfl he9 g12).mono ?_
  rintro _ h13 ⟨m14, A_21_2, n_21_2, c_21_2, A_21_6, n_21_6, c_21_6, Q15, rfl, ne_21_2, ne_21_6⟩
  have O24 := Hold.nm (B19 Q15)
  subst ne_21_2
  subst ne_21_6
  refine ⟨_, rfl, ?_⟩
  refine split_ne_e e (fun c25 e => ?_) (fun c25 e => ?_)
  · cases e
    exact ⟨_, O24.pick [], rfl⟩
  · exact (ih _ _ e) _ _ _ _ _ _ _ _ _ _ _ _ _ _ _ _ _ _ _ _ _ _ _ _ _ _ _ _ (O24.pick [7, 8, 9, 3, 4, 5]).nm rfl k_2 (r_2.sub (tell_row (tell_int .u8)) (Q5.S.up.trans Q15.S.up)) rfl k_3 (r_3.sub T_roadref4_Packet.T (Q5.S.up.trans Q15.S.up)) rfl rfl rfl rfl rfl k_91 (r_91.sub (tell_row (tell_int .i64)) (Q5.S.up.trans Q15.S.up))
set_option maxRecDepth 100000 in
theorem roadlaw4_LinePlays.l0_k.step_j8 (go : (p : roadlaw4_LinePlays.l0_k.Pt) → Option (Bool)) (ih : ∀ p r, go p = some r → roadlaw4_LinePlays.l0_k.I p r) (x_0 : Int) (a_2 : List (List Int)) (a_3 : List T_roadref4_Packet) (x_12_0 : Int) (x_12_1 : Int) (a_12_2 : (List (List Int))) (x_12_3 : Int) (x_12_4 : Int) (x_12_5 : Int) (a_12_6 : (List (List Int))) (b_12_7 : Bool) (x_14_0 : Int) (x_14_1 : Int) (x_14_2 : Int) (x_14_3 : Int) (a_14_4 : (List (List Int))) (x_14_5 : Int) (x_14_6 : Int) (a_14_7 : (List (List Int))) (b_14_8 : Bool) (a_22 : List (List Int)) (a_91 : List (List Int)) (x_92 : Int) (x_93 : Int) (r : Bool) (e : roadlaw4_LinePlays.l0_k.body go (.j8 x_0 a_2 a_3 x_12_0 x_12_1 a_12_2 x_12_3 x_12_4 x_12_5 a_12_6 b_12_7 x_14_0 x_14_1 x_14_2 x_14_3 a_14_4 x_14_5 x_14_6 a_14_7 b_14_8 a_22 a_91 x_92 x_93) = some r) : roadlaw4_LinePlays.l0_k.I (.j8 x_0 a_2 a_3 x_12_0 x_12_1 a_12_2 x_12_3 x_12_4 x_12_5 a_12_6 b_12_7 x_14_0 x_14_1 x_14_2 x_14_3 a_14_4 x_14_5 x_14_6 a_14_7 b_14_8 a_22 a_91 x_92 x_93) r := by
  unfold roadlaw4_LinePlays.l0_k.body at e
  intro W h0 m0 h m A_2 n_2 c_2 A_3 n_3 c_3 bk_12 A_12_2_0 n_12_2_0 c_12_2_0 A_12_6_0 n_12_6_0 c_12_6_0 bk_14 A_14_4_0 n_14_4_0 c_14_4_0 A_14_7_0 n_14_7_0 c_14_7_0 A_22 n_22 c_22 A_91 n_91 c_91 O ne_2 k_2 r_2 ne_3 k_3 r_3 ne_12_2_0 ne_12_6_0 ne_14_4_0 ne_14_7_0 ne_22 ne_91 k_91 r_91
  subst ne_2
  subst ne_3
  subst ne_12_2_0
  subst ne_12_6_0
  subst ne_14_4_0
  subst ne_14_7_0
  subst ne_22
  subst ne_91
  refine f4.j8_in ?_
  unfold f4.j8T
  obtain ⟨y1, g2, e⟩ := bind_e e
  obtain ⟨W7, P8, B9, C10⟩ := O.callC [0, 1, 2]
  refine (line_End_Got.walk P8 rfl rfl g2).mono ?_
  rintro _ h3 ⟨m4, A11, n12, c13, A_16_2, n_16_2, c_16_2, A_16_6, n_16_6, c_16_6, Q5, rfl, ne14, ne_16_2, ne_16_6⟩
  have O19 := Hold.nm (B9 Q5)
  subst ne14
  subst ne_16_2
  subst ne_16_6
  refine ⟨_, _, _, rfl, ?_⟩
  obtain ⟨y20, g21, e⟩ := bind_e e
  obtain ⟨m26, u27, s34, ⟨⟨r30, k31⟩, ⟨r32, k33⟩, _⟩, B28, C29⟩ := O19.lend0 [7, 6]
  replace r30 : Rd 1 (eRow 1 (eInt .u8)) m26 A11 y1.1 := r30
  replace k31 : List.length y1.1 ≤ c13 := k31
  replace r32 : Rd 1 (eRow 1 (eInt .u8)) m26 A_22 a_22 := r32
  replace k33 : List.length a_22 ≤ c_22 := k33
  refine (slices_EqualFunc_35.walk (Hold.start (W := No) s34) rfl k31 r30 rfl k33 r32 (fun h37 m38 u39 s40 A43 n43 c43 l43 hn43 k43 r43 A44 n44 c44 l44 hn44 k44 r44 r41 e42 => CallF.of [Value.slice A43 n43 c43, Value.slice A44 n44 c44] f37.ok rfl ((bytes_Equal.walk (Hold.start (W := No) s40) hn43 k43 r43 hn44 k44 r44 e42).mono (fun _ _ h => let ⟨_, t, e⟩ := h; ⟨e, t.S.ext⟩))) g21).mono ?_
  rintro _ h22 ⟨m23, Q24, rfl⟩
  have O45 := Hold.nm (C29 Q24 vfs_nil)
  refine ⟨_, rfl, ?_⟩
  refine split_not ?_
  refine split_any_e e (fun c46 e => ?_) (fun c46 e => ?_)
  · exact (ih _ _ e) _ _ _ _ _ _ _ _ _ _ _ _ _ _ _ _ _ _ _ _ _ _ _ _ _ _ _ _ (O45.pick [8, 9, 10, 3, 4, 5]).nm rfl k_2 (r_2.sub (tell_row (tell_int .u8)) Q5.S.up) rfl k_3 (r_3.sub T_roadref4_Packet.T Q5.S.up) rfl rfl rfl rfl rfl k_91 (r_91.sub (tell_row (tell_int .i64)) Q5.S.up)
  · cases e
    exact ⟨_, O45.pick [], rfl⟩
set_option maxRecDepth 100000 in
theorem roadlaw4_LinePlays.l0_k.step_j10 (go : (p : roadlaw4_LinePlays.l0_k.Pt) → Option (Bool)) (ih : ∀ p r, go p = some r → roadlaw4_LinePlays.l0_k.I p r) (x_0 : Int) (a_2 : List (List Int)) (a_3 : List T_roadref4_Packet) (x_12_0 : Int) (x_12_1 : Int) (a_12_2 : (List (List Int))) (x_12_3 : Int) (x_12_4 : Int) (x_12_5 : Int) (a_12_6 : (List (List Int))) (b_12_7 : Bool) (x_14_0 : Int) (x_14_1 : Int) (x_14_2 : Int) (x_14_3 : Int) (a_14_4 : (List (List Int))) (x_14_5 : Int) (x_14_6 : Int) (a_14_7 : (List (List Int))) (b_14_8 : Bool) (a_91 : List (List Int)) (x_92 : Int) (x_93 : Int) (b_254 : Bool) (r : Bool) (e : roadlaw4_LinePlays.l0_k.body go (.j10 x_0 a_2 a_3 x_12_0 x_12_1 a_12_2 x_12_3 x_12_4 x_12_5 a_12_6 b_12_7 x_14_0 x_14_1 x_14_2 x_14_3 a_14_4 x_14_5 x_14_6 a_14_7 b_14_8 a_91 x_92 x_93 b_254) = some r) : roadlaw4_LinePlays.l0_k.I (.j10 x_0 a_2 a_3 x_12_0 x_12_1 a_12_2 x_12_3 x_12_4 x_12_5 a_12_6 b_12_7 x_14_0 x_14_1 x_14_2 x_14_3 a_14_4 x_14_5 x_14_6 a_14_7 b_14_8 a_91 x_92 x_93 b_254) r := by
  unfold roadlaw4_LinePlays.l0_k.body at e
  intro W h0 m0 h m A_2 n_2 c_2 A_3 n_3 c_3 bk_12 A_12_2_0 n_12_2_0 c_12_2_0 A_12_6_0 n_12_6_0 c_12_6_0 bk_14 A_14_4_0 n_14_4_0 c_14_4_0 A_14_7_0 n_14_7_0 c_14_7_0 A_91 n_91 c_91 O ne_2 k_2 r_2 ne_3 k_3 r_3 ne_12_2_0 ne_12_6_0 ne_14_4_0 ne_14_7_0 ne_91 k_91 r_91
  subst ne_2
  subst ne_3
  subst ne_12_2_0
  subst ne_12_6_0
  subst ne_14_4_0
  subst ne_14_7_0
  subst ne_91
  refine f4.j10_in ?_
  unfold f4.j10T
  refine split_any_e e (fun c4 e => ?_) (fun c4 e => ?_)
  · refine O.st 3 rfl 1 (Nat.le_of_ble_eq_true rfl) trivial fun h1 O2 => ?_
    have O3 := O2.nm
    exact (ih _ _ e) _ _ _ _ _ _ _ _ _ _ _ _ _ _ _ _ _ _ _ _ _ _ _ _ _ _ _ _ (O3.pick [0, 1, 2, 3, 4, 5]).nm rfl k_2 r_2 rfl k_3 r_3 rfl rfl rfl rfl rfl k_91 r_91
  · exact (ih _ _ e) _ _ _ _ _ _ _ _ _ _ _ _ _ _ _ _ _ _ _ _ _ _ _ _ _ _ _ _ (O.pick [0, 1, 2, 3, 4, 5]).nm rfl k_2 r_2 rfl k_3 r_3 rfl rfl rfl rfl rfl k_91 r_91
set_option maxRecDepth 100000 in
theorem roadlaw4_LinePlays.l0_k.step_j5 (go : (p : roadlaw4_LinePlays.l0_k.Pt) → Option (Bool)) (ih : ∀ p r, go p = some r → roadlaw4_LinePlays.l0_k.I p r) (x_0 : Int) (a_2 : List (List Int)) (a_3 : List T_roadref4_Packet) (x_12_0 : Int) (x_12_1 : Int) (a_12_2 : (List (List Int))) (x_12_3 : Int) (x_12_4 : Int) (x_12_5 : Int) (a_12_6 : (List (List Int))) (b_12_7 : Bool) (x_14_0 : Int) (x_14_1 : Int) (x_14_2 : Int) (x_14_3 : Int) (a_14_4 : (List (List Int))) (x_14_5 : Int) (x_14_6 : Int) (a_14_7 : (List (List Int))) (b_14_8 : Bool) (a_91 : List (List Int)) (x_92 : Int) (x_93 : Int) (r : Bool) (e : roadlaw4_LinePlays.l0_k.body go (.j5 x_0 a_2 a_3 x_12_0 x_12_1 a_12_2 x_12_3 x_12_4 x_12_5 a_12_6 b_12_7 x_14_0 x_14_1 x_14_2 x_14_3 a_14_4 x_14_5 x_14_6 a_14_7 b_14_8 a_91 x_92 x_93) = some r) : roadlaw4_LinePlays.l0_k.I (.j5 x_0 a_2 a_3 x_12_0 x_12_1 a_12_2 x_12_3 x_12_4 x_12_5 a_12_6 b_12_7 x_14_0 x_14_1 x_14_2 x_14_3 a_14_4 x_14_5 x_14_6 a_14_7 b_14_8 a_91 x_92 x_93) r := by
  unfold roadlaw4_LinePlays.l0_k.body at e
  intro W h0 m0 h m A_2 n_2 c_2 A_3 n_3 c_3 bk_12 A_12_2_0 n_12_2_0 c_12_2_0 A_12_6_0 n_12_6_0 c_12_6_0 bk_14 A_14_4_0 n_14_4_0 c_14_4_0 A_14_7_0 n_14_7_0 c_14_7_0 A_91 n_91 c_91 O ne_2 k_2 r_2 ne_3 k_3 r_3 ne_12_2_0 ne_12_6_0 ne_14_4_0 ne_14_7_0 ne_91 k_91 r_91
  subst ne_2
  subst ne_3
  subst ne_12_2_0
  subst ne_12_6_0
  subst ne_14_4_0
  subst ne_14_7_0
  subst ne_91
  refine f4.j5_in ?_
  unfold f4.j5T
  refine ⟨_, ldk (k := 4) (Sub.refl _) (O.all 3 rfl) rfl, _, _, _, rfl, ?_⟩
  refine ⟨_, ldk (k := 2) (Sub.refl _) (O.all 3 rfl) rfl, _, rfl, ?_⟩
  obtain ⟨y1, g2, e⟩ := bind_e e
  obtain ⟨m7, u8, s16, ⟨⟨r11, k12⟩, ⟨r13, k14⟩, hb15, _⟩, B9, C10⟩ := O.lend0 [1, 2, 0]
  replace r11 : Rd 1 (eRow 1 (eInt .u8)) m7 A_12_2_0 a_12_2 := r11
  replace k12 : List.length a_12_2 ≤ c_12_2_0 := k12
  replace r13 : Rd 1 (eRow 1 (eInt .u8)) m7 A_12_6_0 a_12_6 := r13
  replace k14 : List.length a_12_6 ≤ c_12_6_0 := k14
  refine (line_End_Idle.walk (Hold.start (W := No) s16) ⟨_, _, hb15, nn, (show T_line_End.E _ (T_line_End.mk x_12_0 x_12_1 a_12_2 x_12_3 x_12_4 x_12_5 a_12_6 b_12_7) [(Value.int .i64 x_12_0), (Value.int .u32 x_12_1), (Value.slice A_12_2_0 (List.length a_12_2) c_12_2_0), (Value.int .i64 x_12_3), (Value.int .i64 x_12_4), (Value.int .u32 x_12_5), (Value.slice A_12_6_0 (List.length a_12_6) c_12_6_0), (Value.bool b_12_7)] from ⟨_, _, _, _, rfl, k12, r11, k14, r13⟩)⟩ g2).mono ?_
  rintro _ h3 ⟨m4, Q5, rfl⟩
  have O17 := Hold.nm (C10 Q5 vfs_nil)
  refine ⟨_, rfl, ?_⟩
  refine ⟨Q5.S.ext, ?_⟩
  refine split_not ?_
  refine split_any_e e (fun c18 e => ?_) (fun c18 e => ?_)
  · exact (ih _ _ e) _ _ _ _ _ _ _ _ _ _ _ _ _ _ _ _ _ _ _ _ _ _ _ _ _ _ _ _ (O17.pick [0, 1, 2, 3, 4, 5]).nm rfl k_2 r_2 rfl k_3 r_3 rfl rfl rfl rfl rfl k_91 r_91
  · cases e
    exact ⟨_, O17.pick [], rfl⟩
theorem roadlaw4_LinePlays.l0_k.all {p : roadlaw4_LinePlays.l0_k.Pt} {r : (Bool)} (e : roadlaw4_LinePlays.l0_k.go p = some r) : roadlaw4_LinePlays.l0_k.I p r := fixF_ind (β := fun _ => (Bool)) roadlaw4_LinePlays.l0_k.mono (I := roadlaw4_LinePlays.l0_k.I) (fun go ih p r e => match p with
  | .l0 x_0 a_2 a_3 x_12_0 x_12_1 a_12_2 x_12_3 x_12_4 x_12_5 a_12_6 b_12_7 x_14_0 x_14_1 x_14_2 x_14_3 a_14_4 x_14_5 x_14_6 a_14_7 b_14_8 a_91 x_92 x_93 => roadlaw4_LinePlays.l0_k.step_l0 go ih x_0 a_2 a_3 x_12_0 x_12_1 a_12_2 x_12_3 x_12_4 x_12_5 a_12_6 b_12_7 x_14_0 x_14_1 x_14_2 x_14_3 a_14_4 x_14_5 x_14_6 a_14_7 b_14_8 a_91 x_92 x_93 r e
  | .j6 x_0 a_2 a_3 x_12_0 x_12_1 a_12_2 x_12_3 x_12_4 x_12_5 a_12_6 b_12_7 x_14_0 x_14_1 x_14_2 x_14_3 a_14_4 x_14_5 x_14_6 a_14_7 b_14_8 a_18 x_19 a_91 x_92 x_93 => roadlaw4_LinePlays.l0_k.step_j6 go ih x_0 a_2 a_3 x_12_0 x_12_1 a_12_2 x_12_3 x_12_4 x_12_5 a_12_6 b_12_7 x_14_0 x_14_1 x_14_2 x_14_3 a_14_4 x_14_5 x_14_6 a_14_7 b_14_8 a_18 x_19 a_91 x_92 x_93 r e
  | .j9 x_0 a_2 a_3 x_12_0 x_12_1 a_12_2 x_12_3 x_12_4 x_12_5 a_12_6 b_12_7 x_14_0 x_14_1 x_14_2 x_14_3 a_14_4 x_14_5 x_14_6 a_14_7 b_14_8 y_20 x_21 a_91 x_92 x_93 b_182 => roadlaw4_LinePlays.l0_k.step_j9 go ih x_0 a_2 a_3 x_12_0 x_12_1 a_12_2 x_12_3 x_12_4 x_12_5 a_12_6 b_12_7 x_14_0 x_14_1 x_14_2 x_14_3 a_14_4 x_14_5 x_14_6 a_14_7 b_14_8 y_20 x_21 a_91 x_92 x_93 b_182 r e
  | .j7 x_0 a_2 a_3 x_12_0 x_12_1 a_12_2 x_12_3 x_12_4 x_12_5 a_12_6 b_12_7 x_14_0 x_14_1 x_14_2 x_14_3 a_14_4 x_14_5 x_14_6 a_14_7 b_14_8 y_20 x_21 a_91 x_92 x_93 => roadlaw4_LinePlays.l0_k.step_j7 go ih x_0 a_2 a_3 x_12_0 x_12_1 a_12_2 x_12_3 x_12_4 x_12_5 a_12_6 b_12_7 x_14_0 x_14_1 x_14_2 x_14_3 a_14_4 x_14_5 x_14_6 a_14_7 b_14_8 y_20 x_21 a_91 x_92 x_93 r e
  | .j8 x_0 a_2 a_3 x_12_0 x_12_1 a_12_2 x_12_3 x_12_4 x_12_5 a_12_6 b_12_7 x_14_0 x_14_1 x_14_2 x_14_3 a_14_4 x_14_5 x_14_6 a_14_7 b_14_8 a_22 a_91 x_92 x_93 => roadlaw4_LinePlays.l0_k.step_j8 go ih x_0 a_2 a_3 x_12_0 x_12_1 a_12_2 x_12_3 x_12_4 x_12_5 a_12_6 b_12_7 x_14_0 x_14_1 x_14_2 x_14_3 a_14_4 x_14_5 x_14_6 a_14_7 b_14_8 a_22 a_91 x_92 x_93 r e
  | .j10 x_0 a_2 a_3 x_12_0 x_12_1 a_12_2 x_12_3 x_12_4 x_12_5 a_12_6 b_12_7 x_14_0 x_14_1 x_14_2 x_14_3 a_14_4 x_14_5 x_14_6 a_14_7 b_14_8 a_91 x_92 x_93 b_254 => roadlaw4_LinePlays.l0_k.step_j10 go ih x_0 a_2 a_3 x_12_0 x_12_1 a_12_2 x_12_3 x_12_4 x_12_5 a_12_6 b_12_7 x_14_0 x_14_1 x_14_2 x_14_3 a_14_4 x_14_5 x_14_6 a_14_7 b_14_8 a_91 x_92 x_93 b_254 r e
  | .j5 x_0 a_2 a_3 x_12_0 x_12_1 a_12_2 x_12_3 x_12_4 x_12_5 a_12_6 b_12_7 x_14_0 x_14_1 x_14_2 x_14_3 a_14_4 x_14_5 x_14_6 a_14_7 b_14_8 a_91 x_92 x_93 => roadlaw4_LinePlays.l0_k.step_j5 go ih x_0 a_2 a_3 x_12_0 x_12_1 a_12_2 x_12_3 x_12_4 x_12_5 a_12_6 b_12_7 x_14_0 x_14_1 x_14_2 x_14_3 a_14_4 x_14_5 x_14_6 a_14_7 b_14_8 a_91 x_92 x_93 r e
  ) e
theorem roadlaw4_LinePlays.l0.walk {W : Nat → Prop} {h0 m0 h m : Heap} {A_2 : Option Addr} {n_2 c_2 : Nat} {A_3 : Option Addr} {n_3 c_3 : Nat} {bk_12 : Nat} {A_12_2_0 : Option Addr} {n_12_2_0 : Nat} {c_12_2_0 : Nat} {A_12_6_0 : Option Addr} {n_12_6_0 : Nat} {c_12_6_0 : Nat} {bk_14 : Nat} {A_14_4_0 : Option Addr} {n_14_4_0 : Nat} {c_14_4_0 : Nat} {A_14_7_0 : Option Addr} {n_14_7_0 : Nat} {c_14_7_0 : Nat} {A_91 : Option Addr} {n_91 c_91 : Nat} {x_0 : Int} {a_2 : List (List Int)} {a_3 : List T_roadref4_Packet} {x_12_0 : Int} {x_12_1 : Int} {a_12_2 : (List (List Int))} {x_12_3 : Int} {x_12_4 : Int} {x_12_5 : Int} {a_12_6 : (List (List Int))} {b_12_7 : Bool} {x_14_0 : Int} {x_14_1 : Int} {x_14_2 : Int} {x_14_3 : Int} {a_14_4 : (List (List Int))} {x_14_5 : Int} {x_14_6 : Int} {a_14_7 : (List (List Int))} {b_14_8 : Bool} {a_91 : List (List Int)} {x_92 : Int} {x_93 : Int} (O : Hold W h0 m0 h m [rV bk_12 152 [(Value.int .i64 x_12_0), (Value.int .u32 x_12_1), (Value.slice A_12_2_0 n_12_2_0 c_12_2_0), (Value.int .i64 x_12_3), (Value.int .i64 x_12_4), (Value.int .u32 x_12_5), (Value.slice A_12_6_0 n_12_6_0 c_12_6_0), (Value.bool b_12_7)], rR (aE (tell_row (tell_int .u8))) A_12_2_0 c_12_2_0 a_12_2, rR (aE (tell_row (tell_int .u8))) A_12_6_0 c_12_6_0 a_12_6, rV bk_14 61 [(Value.int .i64 x_14_0), (Value.int .i64 x_14_1), (Value.int .i64 x_14_2), (Value.int .i64 x_14_3), (Value.slice A_14_4_0 n_14_4_0 c_14_4_0), (Value.int .i64 x_14_5), (Value.int .i64 x_14_6), (Value.slice A_14_7_0 n_14_7_0 c_14_7_0), (Value.bool b_14_8)], rR (aE (tell_row (tell_int .u8))) A_14_4_0 c_14_4_0 a_14_4, rR (aE (tell_row (tell_int .u8))) A_14_7_0 c_14_7_0 a_14_7]) (ne_2 : n_2 = List.length a_2) (k_2 : List.length a_2 ≤ c_2) (r_2 : Rd 1 (eRow 1 (eInt .u8)) m A_2 a_2) (ne_3 : n_3 = List.length a_3) (k_3 : List.length a_3 ≤ c_3) (r_3 : Rd 5 T_roadref4_Packet.E m A_3 a_3) (ne_12_2_0 : n_12_2_0 = List.length a_12_2) (ne_12_6_0 : n_12_6_0 = List.length a_12_6) (ne_14_4_0 : n_14_4_0 = List.length a_14_4) (ne_14_7_0 : n_14_7_0 = List.length a_14_7) (ne_91 : n_91 = List.length a_91) (k_91 : List.length a_91 ≤ c_91) (r_91 : Rd 1 (eRow 1 (eInt .i64)) m A_91 a_91) {r : Bool} (e : roadlaw4_LinePlays.l0 x_0 a_2 a_3 x_12_0 x_12_1 a_12_2 x_12_3 x_12_4 x_12_5 a_12_6 b_12_7 x_14_0 x_14_1 x_14_2 x_14_3 a_14_4 x_14_5 x_14_6 a_14_7 b_14_8 a_91 x_92 x_93 = some r) : f4.l0 (roadlaw4_LinePlays.post W h0 m0 r) x_0 A_2 n_2 c_2 A_3 n_3 c_3 (some (⟨bk_12, 0, none⟩ : Addr)) (⟨bk_14, 0, none⟩ : Addr) A_91 n_91 c_91 x_92 x_93 h := roadlaw4_LinePlays.l0_k.all (p := .l0 x_0 a_2 a_3 x_12_0 x_12_1 a_12_2 x_12_3 x_12_4 x_12_5 a_12_6 b_12_7 x_14_0 x_14_1 x_14_2 x_14_3 a_14_4 x_14_5 x_14_6 a_14_7 b_14_8 a_91 x_92 x_93) e W h0 m0 h m A_2 n_2 c_2 A_3 n_3 c_3 bk_12 A_12_2_0 n_12_2_0 c_12_2_0 A_12_6_0 n_12_6_0 c_12_6_0 bk_14 A_14_4_0 n_14_4_0 c_14_4_0 A_14_7_0 n_14_7_0 c_14_7_0 A_91 n_91 c_91 O ne_2 k_2 r_2 ne_3 k_3 r_3 ne_12_2_0 ne_12_6_0 ne_14_4_0 ne_14_7_0 ne_91 k_91 r_91
theorem roadlaw4_LinePlays.j6.walk {W : Nat → Prop} {h0 m0 h m : Heap} {A_2 : Option Addr} {n_2 c_2 : Nat} {A_3 : Option Addr} {n_3 c_3 : Nat} {bk_12 : Nat} {A_12_2_0 : Option Addr} {n_12_2_0 : Nat} {c_12_2_0 : Nat} {A_12_6_0 : Option Addr} {n_12_6_0 : Nat} {c_12_6_0 : Nat} {bk_14 : Nat} {A_14_4_0 : Option Addr} {n_14_4_0 : Nat} {c_14_4_0 : Nat} {A_14_7_0 : Option Addr} {n_14_7_0 : Nat} {c_14_7_0 : Nat} {A_18 : Option Addr} {n_18 c_18 : Nat} {A_91 : Option Addr} {n_91 c_91 : Nat} {x_0 : Int} {a_2 : List (List Int)} {a_3 : List T_roadref4_Packet} {x_12_0 : Int} {x_12_1 : Int} {a_12_2 : (List (List Int))} {x_12_3 : Int} {x_12_4 : Int} {x_12_5 : Int} {a_12_6 : (List (List Int))} {b_12_7 : Bool} {x_14_0 : Int} {x_14_1 : Int} {x_14_2 : Int} {x_14_3 : Int} {a_14_4 : (List (List Int))} {x_14_5 : Int} {x_14_6 : Int} {a_14_7 : (List (List Int))} {b_14_8 : Bool} {a_18 : List Int} {x_19 : Int} {a_91 : List (List Int)} {x_92 : Int} {x_93 : Int} (O : Hold W h0 m0 h m [rV bk_12 152 [(Value.int .i64 x_12_0), (Value.int .u32 x_12_1), (Value.slice A_12_2_0 n_12_2_0 c_12_2_0), (Value.int .i64 x_12_3), (Value.int .i64 x_12_4), (Value.int .u32 x_12_5), (Value.slice A_12_6_0 n_12_6_0 c_12_6_0), (Value.bool b_12_7)], rR (aE (tell_row (tell_int .u8))) A_12_2_0 c_12_2_0 a_12_2, rR (aE (tell_row (tell_int .u8))) A_12_6_0 c_12_6_0 a_12_6, rV bk_14 61 [(Value.int .i64 x_14_0), (Value.int .i64 x_14_1), (Value.int .i64 x_14_2), (Value.int .i64 x_14_3), (Value.slice A_14_4_0 n_14_4_0 c_14_4_0), (Value.int .i64 x_14_5), (Value.int .i64 x_14_6), (Value.slice A_14_7_0 n_14_7_0 c_14_7_0), (Value.bool b_14_8)], rR (aE (tell_row (tell_int .u8))) A_14_4_0 c_14_4_0 a_14_4, rR (aE (tell_row (tell_int .u8))) A_14_7_0 c_14_7_0 a_14_7]) (ne_2 : n_2 = List.length a_2) (k_2 : List.length a_2 ≤ c_2) (r_2 : Rd 1 (eRow 1 (eInt .u8)) m A_2 a_2) (ne_3 : n_3 = List.length a_3) (k_3 : List.length a_3 ≤ c_3) (r_3 : Rd 5 T_roadref4_Packet.E m A_3 a_3) (ne_12_2_0 : n_12_2_0 = List.length a_12_2) (ne_12_6_0 : n_12_6_0 = List.length a_12_6) (ne_14_4_0 : n_14_4_0 = List.length a_14_4) (ne_14_7_0 : n_14_7_0 = List.length a_14_7) (ne_18 : n_18 = List.length a_18) (k_18 : List.length a_18 ≤ c_18) (r_18 : Rd 1 (eInt .u8) m A_18 a_18) (ne_91 : n_91 = List.length a_91) (k_91 : List.length a_91 ≤ c_91) (r_91 : Rd 1 (eRow 1 (eInt .i64)) m A_91 a_91) {r : Bool} (e : roadlaw4_LinePlays.j6 x_0 a_2 a_3 x_12_0 x_12_1 a_12_2 x_12_3 x_12_4 x_12_5 a_12_6 b_12_7 x_14_0 x_14_1 x_14_2 x_14_3 a_14_4 x_14_5 x_14_6 a_14_7 b_14_8 a_18 x_19 a_91 x_92 x_93 = some r) : f4.j6 (roadlaw4_LinePlays.post W h0 m0 r) x_0 A_2 n_2 c_2 A_3 n_3 c_3 (some (⟨bk_12, 0, none⟩ : Addr)) (⟨bk_14, 0, none⟩ : Addr) A_18 n_18 c_18 x_19 A_91 n_91 c_91 x_92 x_93 h := roadlaw4_LinePlays.l0_k.all (p := .j6 x_0 a_2 a_3 x_12_0 x_12_1 a_12_2 x_12_3 x_12_4 x_12_5 a_12_6 b_12_7 x_14_0 x_14_1 x_14_2 x_14_3 a_14_4 x_14_5 x_14_6 a_14_7 b_14_8 a_18 x_19 a_91 x_92 x_93) e W h0 m0 h m A_2 n_2 c_2 A_3 n_3 c_3 bk_12 A_12_2_0 n_12_2_0 c_12_2_0 A_12_6_0 n_12_6_0 c_12_6_0 bk_14 A_14_4_0 n_14_4_0 c_14_4_0 A_14_7_0 n_14_7_0 c_14_7_0 A_18 n_18 c_18 A_91 n_91 c_91 O ne_2 k_2 r_2 ne_3 k_3 r_3 ne_12_2_0 ne_12_6_0 ne_14_4_0 ne_14_7_0 ne_18 k_18 r_18 ne_91 k_91 r_91
theorem roadlaw4_LinePlays.j9.walk {W : Nat → Prop} {h0 m0 h m : Heap} {A_2 : Option Addr} {n_2 c_2 : Nat} {A_3 : Option Addr} {n_3 c_3 : Nat} {bk_12 : Nat} {A_12_2_0 : Option Addr} {n_12_2_0 : Nat} {c_12_2_0 : Nat} {A_12_6_0 : Option Addr} {n_12_6_0 : Nat} {c_12_6_0 : Nat} {bk_14 : Nat} {A_14_4_0 : Option Addr} {n_14_4_0 : Nat} {c_14_4_0 : Nat} {A_14_7_0 : Option Addr} {n_14_7_0 : Nat} {c_14_7_0 : Nat} {bk_20 : Nat} {cs_20 : List Value} {A_91 : Option Addr} {n_91 c_91 : Nat} {x_0 : Int} {a_2 : List (List Int)} {a_3 : List T_roadref4_Packet} {x_12_0 : Int} {x_12_1 : Int} {a_12_2 : (List (List Int))} {x_12_3 : Int} {x_12_4 : Int} {x_12_5 : Int} {a_12_6 : (List (List Int))} {b_12_7 : Bool} {x_14_0 : Int} {x_14_1 : Int} {x_14_2 : Int} {x_14_3 : Int} {a_14_4 : (List (List Int))} {x_14_5 : Int} {x_14_6 : Int} {a_14_7 : (List (List Int))} {b_14_8 : Bool} {y_20 : T_roadref4_Packet} {x_21 : Int} {a_91 : List (List Int)} {x_92 : Int} {x_93 : Int} {b_182 : Bool} (O : Hold W h0 m0 h m [rV bk_12 152 [(Value.int .i64 x_12_0), (Value.int .u32 x_12_1), (Value.slice A_12_2_0 n_12_2_0 c_12_2_0), (Value.int .i64 x_12_3), (Value.int .i64 x_12_4), (Value.int .u32 x_12_5), (Value.slice A_12_6_0 n_12_6_0 c_12_6_0), (Value.bool b_12_7)], rR (aE (tell_row (tell_int .u8))) A_12_2_0 c_12_2_0 a_12_2, rR (aE (tell_row (tell_int .u8))) A_12_6_0 c_12_6_0 a_12_6, rV bk_14 61 [(Value.int .i64 x_14_0), (Value.int .i64 x_14_1), (Value.int .i64 x_14_2), (Value.int .i64 x_14_3), (Value.slice A_14_4_0 n_14_4_0 c_14_4_0), (Value.int .i64 x_14_5), (Value.int .i64 x_14_6), (Value.slice A_14_7_0 n_14_7_0 c_14_7_0), (Value.bool b_14_8)], rR (aE (tell_row (tell_int .u8))) A_14_4_0 c_14_4_0 a_14_4, rR (aE (tell_row (tell_int .u8))) A_14_7_0 c_14_7_0 a_14_7, rV bk_20 66 cs_20]) (ne_2 : n_2 = List.length a_2) (k_2 : List.length a_2 ≤ c_2) (r_2 : Rd 1 (eRow 1 (eInt .u8)) m A_2 a_2) (ne_3 : n_3 = List.length a_3) (k_3 : List.length a_3 ≤ c_3) (r_3 : Rd 5 T_roadref4_Packet.E m A_3 a_3) (ne_12_2_0 : n_12_2_0 = List.length a_12_2) (ne_12_6_0 : n_12_6_0 = List.length a_12_6) (ne_14_4_0 : n_14_4_0 = List.length a_14_4) (ne_14_7_0 : n_14_7_0 = List.length a_14_7) (e_20 : T_roadref4_Packet.E m y_20 cs_20) (ne_91 : n_91 = List.length a_91) (k_91 : List.length a_91 ≤ c_91) (r_91 : Rd 1 (eRow 1 (eInt .i64)) m A_91 a_91) {r : Bool} (e : roadlaw4_LinePlays.j9 x_0 a_2 a_3 x_12_0 x_12_1 a_12_2 x_12_3 x_12_4 x_12_5 a_12_6 b_12_7 x_14_0 x_14_1 x_14_2 x_14_3 a_14_4 x_14_5 x_14_6 a_14_7 b_14_8 y_20 x_21 a_91 x_92 x_93 b_182 = some r) : f4.j9 (roadlaw4_LinePlays.post W h0 m0 r) x_0 A_2 n_2 c_2 A_3 n_3 c_3 (some (⟨bk_12, 0, none⟩ : Addr)) (⟨bk_14, 0, none⟩ : Addr) (⟨bk_20, 0, none⟩ : Addr) x_21 A_91 n_91 c_91 x_92 x_93 b_182 h := roadlaw4_LinePlays.l0_k.all (p := .j9 x_0 a_2 a_3 x_12_0 x_12_1 a_12_2 x_12_3 x_12_4 x_12_5 a_12_6 b_12_7 x_14_0 x_14_1 x_14_2 x_14_3 a_14_4 x_14_5 x_14_6 a_14_7 b_14_8 y_20 x_21 a_91 x_92 x_93 b_182) e W h0 m0 h m A_2 n_2 c_2 A_3 n_3 c_3 bk_12 A_12_2_0 n_12_2_0 c_12_2_0 A_12_6_0 n_12_6_0 c_12_6_0 bk_14 A_14_4_0 n_14_4_0 c_14_4_0 A_14_7_0 n_14_7_0 c_14_7_0 bk_20 cs_20 A_91 n_91 c_91 O ne_2 k_2 r_2 ne_3 k_3 r_3 ne_12_2_0 ne_12_6_0 ne_14_4_0 ne_14_7_0 e_20 ne_91 k_91 r_91
theorem roadlaw4_LinePlays.j7.walk {W : Nat → Prop} {h0 m0 h m : Heap} {A_2 : Option Addr} {n_2 c_2 : Nat} {A_3 : Option Addr} {n_3 c_3 : Nat} {bk_12 : Nat} {A_12_2_0 : Option Addr} {n_12_2_0 : Nat} {c_12_2_0 : Nat} {A_12_6_0 : Option Addr} {n_12_6_0 : Nat} {c_12_6_0 : Nat} {bk_14 : Nat} {A_14_4_0 : Option Addr} {n_14_4_0 : Nat} {c_14_4_0 : Nat} {A_14_7_0 : Option Addr} {n_14_7_0 : Nat} {c_14_7_0 : Nat} {bk_20 : Nat} {cs_20 : List Value} {A_91 : Option Addr} {n_91 c_91 : Nat} {x_0 : Int} {a_2 : List (List Int)} {a_3 : List T_roadref4_Packet} {x_12_0 : Int} {x_12_1 : Int} {a_12_2 : (List (List Int))} {x_12_3 : Int} {x_12_4 : Int} {x_12_5 : Int} {a_12_6 : (List (List Int))} {b_12_7 : Bool} {x_14_0 : Int} {x_14_1 : Int} {x_14_2 : Int} {x_14_3 : Int} {a_14_4 : (List (List Int))} {x_14_5 : Int} {x_14_6 : Int} {a_14_7 : (List (List Int))} {b_14_8 : Bool} {y_20 : T_roadref4_Packet} {x_21 : Int} {a_91 : List (List Int)} {x_92 : Int} {x_93 : Int} (O : Hold W h0 m0 h m [rV bk_12 152 [(Value.int .i64 x_12_0), (Value.int .u32 x_12_1), (Value.slice A_12_2_0 n_12_2_0 c_12_2_0), (Value.int .i64 x_12_3), (Value.int .i64 x_12_4), (Value.int .u32 x_12_5), (Value.slice A_12_6_0 n_12_6_0 c_12_6_0), (Value.bool b_12_7)], rR (aE (tell_row (tell_int .u8))) A_12_2_0 c_12_2_0 a_12_2, rR (aE (tell_row (tell_int .u8))) A_12_6_0 c_12_6_0 a_12_6, rV bk_14 61 [(Value.int .i64 x_14_0), (Value.int .i64 x_14_1), (Value.int .i64 x_14_2), (Value.int .i64 x_14_3), (Value.slice A_14_4_0 n_14_4_0 c_14_4_0), (Value.int .i64 x_14_5), (Value.int .i64 x_14_6), (Value.slice A_14_7_0 n_14_7_0 c_14_7_0), (Value.bool b_14_8)], rR (aE (tell_row (tell_int .u8))) A_14_4_0 c_14_4_0 a_14_4, rR (aE (tell_row (tell_int .u8))) A_14_7_0 c_14_7_0 a_14_7, rV bk_20 66 cs_20]) (ne_2 : n_2 = List.length a_2) (k_2 : List.length a_2 ≤ c_2) (r_2 : Rd 1 (eRow 1 (eInt .u8)) m A_2 a_2) (ne_3 : n_3 = List.length a_3) (k_3 : List.length a_3 ≤ c_3) (r_3 : Rd 5 T_roadref4_Packet.E m A_3 a_3) (ne_12_2_0 : n_12_2_0 = List.length a_12_2) (ne_12_6_0 : n_12_6_0 = List.length a_12_6) (ne_14_4_0 : n_14_4_0 = List.length a_14_4) (ne_14_7_0 : n_14_7_0 = List.length a_14_7) (e_20 : T_roadref4_Packet.E m y_20 cs_20) (ne_91 : n_91 = List.length a_91) (k_91 : List.length a_91 ≤ c_91) (r_91 : Rd 1 (eRow 1 (eInt .i64)) m A_91 a_91) {r : Bool} (e : roadlaw4_LinePlays.j7 x_0 a_2 a_3 x_12_0 x_12_1 a_12_2 x_12_3 x_12_4 x_12_5 a_12_6 b_12_7 x_14_0 x_14_1 x_14_2 x_14_3 a_14_4 x_14_5 x_14_6 a_14_7 b_14_8 y_20 x_21 a_91 x_92 x_93 = some r) : f4.j7 (roadlaw4_LinePlays.post W h0 m0 r) x_0 A_2 n_2 c_2 A_3 n_3 c_3 (some (⟨bk_12, 0, none⟩ : Addr)) (⟨bk_14, 0, none⟩ : Addr) (⟨bk_20, 0, none⟩ : Addr) x_21 A_91 n_91 c_91 x_92 x_93 h := roadlaw4_LinePlays.l0_k.all (p := .j7 x_0 a_2 a_3 x_12_0 x_12_1 a_12_2 x_12_3 x_12_4 x_12_5 a_12_6 b_12_7 x_14_0 x_14_1 x_14_2 x_14_3 a_14_4 x_14_5 x_14_6 a_14_7 b_14_8 y_20 x_21 a_91 x_92 x_93) e W h0 m0 h m A_2 n_2 c_2 A_3 n_3 c_3 bk_12 A_12_2_0 n_12_2_0 c_12_2_0 A_12_6_0 n_12_6_0 c_12_6_0 bk_14 A_14_4_0 n_14_4_0 c_14_4_0 A_14_7_0 n_14_7_0 c_14_7_0 bk_20 cs_20 A_91 n_91 c_91 O ne_2 k_2 r_2 ne_3 k_3 r_3 ne_12_2_0 ne_12_6_0 ne_14_4_0 ne_14_7_0 e_20 ne_91 k_91 r_91
theorem roadlaw4_LinePlays.j8.walk {W : Nat → Prop} {h0 m0 h m : Heap} {A_2 : Option Addr} {n_2 c_2 : Nat} {A_3 : Option Addr} {n_3 c_3 : Nat} {bk_12 : Nat} {A_12_2_0 : Option Addr} {n_12_2_0 : Nat} {c_12_2_0 : Nat} {A_12_6_0 : Option Addr} {n_12_6_0 : Nat} {c_12_6_0 : Nat} {bk_14 : Nat} {A_14_4_0 : Option Addr} {n_14_4_0 : Nat} {c_14_4_0 : Nat} {A_14_7_0 : Option Addr} {n_14_7_0 : Nat} {c_14_7_0 : Nat} {A_22 : Option Addr} {n_22 c_22 : Nat} {A_91 : Option Addr} {n_91 c_91 : Nat} {x_0 : Int} {a_2 : List (List Int)} {a_3 : List T_roadref4_Packet} {x_12_0 : Int} {x_12_1 : Int} {a_12_2 : (List (List Int))} {x_12_3 : Int} {x_12_4 : Int} {x_12_5 : Int} {a_12_6 : (List (List Int))} {b_12_7 : Bool} {x_14_0 : Int} {x_14_1 : Int} {x_14_2 : Int} {x_14_3 : Int} {a_14_4 : (List (List Int))} {x_14_5 : Int} {x_14_6 : Int} {a_14_7 : (List (List Int))} {b_14_8 : Bool} {a_22 : List (List Int)} {a_91 : List (List Int)} {x_92 : Int} {x_93 : Int} (O : Hold W h0 m0 h m [rV bk_12 152 [(Value.int .i64 x_12_0), (Value.int .u32 x_12_1), (Value.slice A_12_2_0 n_12_2_0 c_12_2_0), (Value.int .i64 x_12_3), (Value.int .i64 x_12_4), (Value.int .u32 x_12_5), (Value.slice A_12_6_0 n_12_6_0 c_12_6_0), (Value.bool b_12_7)], rR (aE (tell_row (tell_int .u8))) A_12_2_0 c_12_2_0 a_12_2, rR (aE (tell_row (tell_int .u8))) A_12_6_0 c_12_6_0 a_12_6, rV bk_14 61 [(Value.int .i64 x_14_0), (Value.int .i64 x_14_1), (Value.int .i64 x_14_2), (Value.int .i64 x_14_3), (Value.slice A_14_4_0 n_14_4_0 c_14_4_0), (Value.int .i64 x_14_5), (Value.int .i64 x_14_6), (Value.slice A_14_7_0 n_14_7_0 c_14_7_0), (Value.bool b_14_8)], rR (aE (tell_row (tell_int .u8))) A_14_4_0 c_14_4_0 a_14_4, rR (aE (tell_row (tell_int .u8))) A_14_7_0 c_14_7_0 a_14_7, rR (aE (tell_row (tell_int .u8))) A_22 c_22 a_22]) (ne_2 : n_2 = List.length a_2) (k_2 : List.length a_2 ≤ c_2) (r_2 : Rd 1 (eRow 1 (eInt .u8)) m A_2 a_2) (ne_3 : n_3 = List.length a_3) (k_3 : List.length a_3 ≤ c_3) (r_3 : Rd 5 T_roadref4_Packet.E m A_3 a_3) (ne_12_2_0 : n_12_2_0 = List.length a_12_2) (ne_12_6_0 : n_12_6_0 = List.length a_12_6) (ne_14_4_0 : n_14_4_0 = List.length a_14_4) (ne_14_7_0 : n_14_7_0 = List.length a_14_7) (ne_22 : n_22 = List.length a_22) (ne_91 : n_91 = List.length a_91) (k_91 : List.length a_91 ≤ c_91) (r_91 : Rd 1 (eRow 1 (eInt .i64)) m A_91 a_91) {r : Bool} (e : roadlaw4_LinePlays.j8 x_0 a_2 a_3 x_12_0 x_12_1 a_12_2 x_12_3 x_12_4 x_12_5 a_12_6 b_12_7 x_14_0 x_14_1 x_14_2 x_14_3 a_14_4 x_14_5 x_14_6 a_14_7 b_14_8 a_22 a_91 x_92 x_93 = some r) : f4.j8 (roadlaw4_LinePlays.post W h0 m0 r) x_0 A_2 n_2 c_2 A_3 n_3 c_3 (some (⟨bk_12, 0, none⟩ : Addr)) (⟨bk_14, 0, none⟩ : Addr) A_22 n_22 c_22 A_91 n_91 c_91 x_92 x_93 h := roadlaw4_LinePlays.l0_k.all (p := .j8 x_0 a_2 a_3 x_12_0 x_12_1 a_12_2 x_12_3 x_12_4 x_12_5 a_12_6 b_12_7 x_14_0 x_14_1 x_14_2 x_14_3 a_14_4 x_14_5 x_14_6 a_14_7 b_14_8 a_22 a_91 x_92 x_93) e W h0 m0 h m A_2 n_2 c_2 A_3 n_3 c_3 bk_12 A_12_2_0 n_12_2_0 c_12_2_0 A_12_6_0 n_12_6_0 c_12_6_0 bk_14 A_14_4_0 n_14_4_0 c_14_4_0 A_14_7_0 n_14_7_0 c_14_7_0 A_22 n_22 c_22 A_91 n_91 c_91 O ne_2 k_2 r_2 ne_3 k_3 r_3 ne_12_2_0 ne_12_6_0 ne_14_4_0 ne_14_7_0 ne_22 ne_91 k_91 r_91
theorem roadlaw4_LinePlays.j10.walk {W : Nat → Prop} {h0 m0 h m : Heap} {A_2 : Option Addr} {n_2 c_2 : Nat} {A_3 : Option Addr} {n_3 c_3 : Nat} {bk_12 : Nat} {A_12_2_0 : Option Addr} {n_12_2_0 : Nat} {c_12_2_0 : Nat} {A_12_6_0 : Option Addr} {n_12_6_0 : Nat} {c_12_6_0 : Nat} {bk_14 : Nat} {A_14_4_0 : Option Addr} {n_14_4_0 : Nat} {c_14_4_0 : Nat} {A_14_7_0 : Option Addr} {n_14_7_0 : Nat} {c_14_7_0 : Nat} {A_91 : Option Addr} {n_91 c_91 : Nat} {x_0 : Int} {a_2 : List (List Int)} {a_3 : List T_roadref4_Packet} {x_12_0 : Int} {x_12_1 : Int} {a_12_2 : (List (List Int))} {x_12_3 : Int} {x_12_4 : Int} {x_12_5 : Int} {a_12_6 : (List (List Int))} {b_12_7 : Bool} {x_14_0 : Int} {x_14_1 : Int} {x_14_2 : Int} {x_14_3 : Int} {a_14_4 : (List (List Int))} {x_14_5 : Int} {x_14_6 : Int} {a_14_7 : (List (List Int))} {b_14_8 : Bool} {a_91 : List (List Int)} {x_92 : Int} {x_93 : Int} {b_254 : Bool} (O : Hold W h0 m0 h m [rV bk_12 152 [(Value.int .i64 x_12_0), (Value.int .u32 x_12_1), (Value.slice A_12_2_0 n_12_2_0 c_12_2_0), (Value.int .i64 x_12_3), (Value.int .i64 x_12_4), (Value.int .u32 x_12_5), (Value.slice A_12_6_0 n_12_6_0 c_12_6_0), (Value.bool b_12_7)], rR (aE (tell_row (tell_int .u8))) A_12_2_0 c_12_2_0 a_12_2, rR (aE (tell_row (tell_int .u8))) A_12_6_0 c_12_6_0 a_12_6, rV bk_14 61 [(Value.int .i64 x_14_0), (Value.int .i64 x_14_1), (Value.int .i64 x_14_2), (Value.int .i64 x_14_3), (Value.slice A_14_4_0 n_14_4_0 c_14_4_0), (Value.int .i64 x_14_5), (Value.int .i64 x_14_6), (Value.slice A_14_7_0 n_14_7_0 c_14_7_0), (Value.bool b_14_8)], rR (aE (tell_row (tell_int .u8))) A_14_4_0 c_14_4_0 a_14_4, rR (aE (tell_row (tell_int .u8))) A_14_7_0 c_14_7_0 a_14_7]) (ne_2 : n_2 = List.length a_2) (k_2 : List.length a_2 ≤ c_2) (r_2 : Rd 1 (eRow 1 (eInt .u8)) m A_2 a_2) (ne_3 : n_3 = List.length a_3) (k_3 : List.length a_3 ≤ c_3) (r_3 : Rd 5 T_roadref4_Packet.E m A_3 a_3) (ne_12_2_0 : n_12_2_0 = List.length a_12_2) (ne_12_6_0 : n_12_6_0 = List.length a_12_6) (ne_14_4_0 : n_14_4_0 = List.length a_14_4) (ne_14_7_0 : n_14_7_0 = List.length a_14_7) (ne_91 : n_91 = List.length a_91) (k_91 : List.length a_91 ≤ c_91) (r_91 : Rd 1 (eRow 1 (eInt .i64)) m A_91 a_91) {r : Bool} (e : roadlaw4_LinePlays.j10 x_0 a_2 a_3 x_12_0 x_12_1 a_12_2 x_12_3 x_12_4 x_12_5 a_12_6 b_12_7 x_14_0 x_14_1 x_14_2 x_14_3 a_14_4 x_14_5 x_14_6 a_14_7 b_14_8 a_91 x_92 x_93 b_254 = some r) : f4.j10 (roadlaw4_LinePlays.post W h0 m0 r) x_0 A_2 n_2 c_2 A_3 n_3 c_3 (some (⟨bk_12, 0, none⟩ : Addr)) (⟨bk_14, 0, none⟩ : Addr) A_91 n_91 c_91 x_92 x_93 b_254 h := roadlaw4_LinePlays.l0_k.all (p := .j10 x_0 a_2 a_3 x_12_0 x_12_1 a_12_2 x_12_3 x_12_4 x_12_5 a_12_6 b_12_7 x_14_0 x_14_1 x_14_2 x_14_3 a_14_4 x_14_5 x_14_6 a_14_7 b_14_8 a_91 x_92 x_93 b_254) e W h0 m0 h m A_2 n_2 c_2 A_3 n_3 c_3 bk_12 A_12_2_0 n_12_2_0 c_12_2_0 A_12_6_0 n_12_6_0 c_12_6_0 bk_14 A_14_4_0 n_14_4_0 c_14_4_0 A_14_7_0 n_14_7_0 c_14_7_0 A_91 n_91 c_91 O ne_2 k_2 r_2 ne_3 k_3 r_3 ne_12_2_0 ne_12_6_0 ne_14_4_0 ne_14_7_0 ne_91 k_91 r_91
theorem roadlaw4_LinePlays.j5.walk {W : Nat → Prop} {h0 m0 h m : Heap} {A_2 : Option Addr} {n_2 c_2 : Nat} {A_3 : Option Addr} {n_3 c_3 : Nat} {bk_12 : Nat} {A_12_2_0 : Option Addr} {n_12_2_0 : Nat} {c_12_2_0 : Nat} {A_12_6_0 : Option Addr} {n_12_6_0 : Nat} {c_12_6_0 : Nat} {bk_14 : Nat} {A_14_4_0 : Option Addr} {n_14_4_0 : Nat} {c_14_4_0 : Nat} {A_14_7_0 : Option Addr} {n_14_7_0 : Nat} {c_14_7_0 : Nat} {A_91 : Option Addr} {n_91 c_91 : Nat} {x_0 : Int} {a_2 : List (List Int)} {a_3 : List T_roadref4_Packet} {x_12_0 : Int} {x_12_1 : Int} {a_12_2 : (List (List Int))} {x_12_3 : Int} {x_12_4 : Int} {x_12_5 : Int} {a_12_6 : (List (List Int))} {b_12_7 : Bool} {x_14_0 : Int} {x_14_1 : Int} {x_14_2 : Int} {x_14_3 : Int} {a_14_4 : (List (List Int))} {x_14_5 : Int} {x_14_6 : Int} {a_14_7 : (List (List Int))} {b_14_8 : Bool} {a_91 : List (List Int)} {x_92 : Int} {x_93 : Int} (O : Hold W h0 m0 h m [rV bk_12 152 [(Value.int .i64 x_12_0), (Value.int .u32 x_12_1), (Value.slice A_12_2_0 n_12_2_0 c_12_2_0), (Value.int .i64 x_12_3), (Value.int .i64 x_12_4), (Value.int .u32 x_12_5), (Value.slice A_12_6_0 n_12_6_0 c_12_6_0), (Value.bool b_12_7)], rR (aE (tell_row (tell_int .u8))) A_12_2_0 c_12_2_0 a_12_2, rR (aE (tell_row (tell_int .u8))) A_12_6_0 c_12_6_0 a_12_6, rV bk_14 61 [(Value.int .i64 x_14_0), (Value.int .i64 x_14_1), (Value.int .i64 x_14_2), (Value.int .i64 x_14_3), (Value.slice A_14_4_0 n_14_4_0 c_14_4_0), (Value.int .i64 x_14_5), (Value.int .i64 x_14_6), (Value.slice A_14_7_0 n_14_7_0 c_14_7_0), (Value.bool b_14_8)], rR (aE (tell_row (tell_int .u8))) A_14_4_0 c_14_4_0 a_14_4, rR (aE (tell_row (tell_int .u8))) A_14_7_0 c_14_7_0 a_14_7]) (ne_2 : n_2 = List.length a_2) (k_2 : List.length a_2 ≤ c_2) (r_2 : Rd 1 (eRow 1 (eInt .u8)) m A_2 a_2) (ne_3 : n_3 = List.length a_3) (k_3 : List.length a_3 ≤ c_3) (r_3 : Rd 5 T_roadref4_Packet.E m A_3 a_3) (ne_12_2_0 : n_12_2_0 = List.length a_12_2) (ne_12_6_0 : n_12_6_0 = List.length a_12_6) (ne_14_4_0 : n_14_4_0 = List.length a_14_4) (ne_14_7_0 : n_14_7_0 = List.length a_14_7) (ne_91 : n_91 = List.length a_91) (k_91 : List.length a_91 ≤ c_91) (r_91 : Rd 1 (eRow 1 (eInt .i64)) m A_91 a_91) {r : Bool} (e : roadlaw4_LinePlays.j5 x_0 a_2 a_3 x_12_0 x_12_1 a_12_2 x_12_3 x_12_4 x_12_5 a_12_6 b_12_7 x_14_0 x_14_1 x_14_2 x_14_3 a_14_4 x_14_5 x_14_6 a_14_7 b_14_8 a_91 x_92 x_93 = some r) : f4.j5 (roadlaw4_LinePlays.post W h0 m0 r) x_0 A_2 n_2 c_2 A_3 n_3 c_3 (some (⟨bk_12, 0, none⟩ : Addr)) (⟨bk_14, 0, none⟩ : Addr) A_91 n_91 c_91 x_92 x_93 h := roadlaw4_LinePlays.l0_k.all (p := .j5 x_0 a_2 a_3 x_12_0 x_12_1 a_12_2 x_12_3 x_12_4 x_12_5 a_12_6 b_12_7 x_14_0 x_14_1 x_14_2 x_14_3 a_14_4 x_14_5 x_14_6 a_14_7 b_14_8 a_91 x_92 x_93) e W h0 m0 h m A_2 n_2 c_2 A_3 n_3 c_3 bk_12 A_12_2_0 n_12_2_0 c_12_2_0 A_12_6_0 n_12_6_0 c_12_6_0 bk_14 A_14_4_0 n_14_4_0 c_14_4_0 A_14_7_0 n_14_7_0 c_14_7_0 A_91 n_91 c_91 O ne_2 k_2 r_2 ne_3 k_3 r_3 ne_12_2_0 ne_12_6_0 ne_14_4_0 ne_14_7_0 ne_91 k_91 r_91

noncomputable def roadlaw4_LinePlays.j4 (x_0 : Int) (a_1 : List (List Int)) (a_2 : List (List Int)) (a_3 : List T_roadref4_Packet) (x_12_0 : Int) (x_12_1 : Int) (a_12_2 : (List (List Int))) (x_12_3 : Int) (x_12_4 : Int) (x_12_5 : Int) (a_12_6 : (List (List Int))) (b_12_7 : Bool) : Option (Bool) :=
  (roadlaw4_LinePlays.l0 x_0 a_2 a_3 x_12_0 x_12_1 a_12_2 x_12_3 x_12_4 x_12_5 a_12_6 b_12_7 x_0 x_0 (0 : Int) (0 : Int) ([] : List (List Int)) (0 : Int) (0 : Int) ([] : List (List Int)) false a_1 (((List.length a_1) : Nat) : Int) (0 : Int))
set_option maxRecDepth 100000 in
theorem roadlaw4_LinePlays.j4.walk {W : Nat → Prop} {h0 m0 h m : Heap} {A_1 : Option Addr} {n_1 c_1 : Nat} {A_2 : Option Addr} {n_2 c_2 : Nat} {A_3 : Option Addr} {n_3 c_3 : Nat} {bk_12 : Nat} {A_12_2_0 : Option Addr} {n_12_2_0 : Nat} {c_12_2_0 : Nat} {A_12_6_0 : Option Addr} {n_12_6_0 : Nat} {c_12_6_0 : Nat} {x_0 : Int} {a_1 : List (List Int)} {a_2 : List (List Int)} {a_3 : List T_roadref4_Packet} {x_12_0 : Int} {x_12_1 : Int} {a_12_2 : (List (List Int))} {x_12_3 : Int} {x_12_4 : Int} {x_12_5 : Int} {a_12_6 : (List (List Int))} {b_12_7 : Bool} (O : Hold W h0 m0 h m [rV bk_12 152 [(Value.int .i64 x_12_0), (Value.int .u32 x_12_1), (Value.slice A_12_2_0 n_12_2_0 c_12_2_0), (Value.int .i64 x_12_3), (Value.int .i64 x_12_4), (Value.int .u32 x_12_5), (Value.slice A_12_6_0 n_12_6_0 c_12_6_0), (Value.bool b_12_7)], rR (aE (tell_row (tell_int .u8))) A_12_2_0 c_12_2_0 a_12_2, rR (aE (tell_row (tell_int .u8))) A_12_6_0 c_12_6_0 a_12_6]) (ne_1 : n_1 = List.length a_1) (k_1 : List.length a_1 ≤ c_1) (r_1 : Rd 1 (eRow 1 (eInt .i64)) m A_1 a_1) (ne_2 : n_2 = List.length a_2) (k_2 : List.length a_2 ≤ c_2) (r_2 : Rd 1 (eRow 1 (eInt .u8)) m A_2 a_2) (ne_3 : n_3 = List.length a_3) (k_3 : List.length a_3 ≤ c_3) (r_3 : Rd 5 T_roadref4_Packet.E m A_3 a_3) (ne_12_2_0 : n_12_2_0 = List.length a_12_2) (ne_12_6_0 : n_12_6_0 = List.length a_12_6) {r : Bool} (e : roadlaw4_LinePlays.j4 x_0 a_1 a_2 a_3 x_12_0 x_12_1 a_12_2 x_12_3 x_12_4 x_12_5 a_12_6 b_12_7 = some r) : f4.j4 (roadlaw4_LinePlays.post W h0 m0 r) x_0 A_1 n_1 c_1 A_2 n_2 c_2 A_3 n_3 c_3 (some (⟨bk_12, 0, none⟩ : Addr)) h := by
  unfold roadlaw4_LinePlays.j4 at e
  subst ne_1
  subst ne_2
  subst ne_3
  subst ne_12_2_0
  subst ne_12_6_0
  refine f4.j4_in ?_
  unfold f4.j4T
  refine O.new fun h1 x2 O3 => ?_
  have O5 := O3.nil (aE (tell_row (tell_int .u8))) none
  have O7 := O5.nil (aE (tell_row (tell_int .u8))) none
  have O9 := O7.nm
  exact roadlaw4_LinePlays.l0.walk (O9.pick [0, 1, 2, 3, 4, 5]).nm rfl k_2 r_2 rfl k_3 r_3 rfl rfl rfl rfl rfl k_1 r_1 e

noncomputable def roadlaw4_LinePlays.j2 (x_0 : Int) (a_1 : List (List Int)) (a_2 : List (List Int)) (a_3 : List T_roadref4_Packet) (x_12_0 : Int) (x_12_1 : Int) (a_12_2 : (List (List Int))) (x_12_3 : Int) (x_12_4 : Int) (x_12_5 : Int) (a_12_6 : (List (List Int))) (b_12_7 : Bool) (x_13 : Int) : Option (Bool) :=
  if x_13 = (0 : Int) then ((roadlaw4_LinePlays.j4 x_0 a_1 a_2 a_3 x_12_0 x_12_1 a_12_2 x_12_3 x_12_4 x_12_5 a_12_6 b_12_7)) else (some (false))
set_option maxRecDepth 100000 in
theorem roadlaw4_LinePlays.j2.walk {W : Nat → Prop} {h0 m0 h m : Heap} {A_1 : Option Addr} {n_1 c_1 : Nat} {A_2 : Option Addr} {n_2 c_2 : Nat} {A_3 : Option Addr} {n_3 c_3 : Nat} {bk_12 : Nat} {A_12_2_0 : Option Addr} {n_12_2_0 : Nat} {c_12_2_0 : Nat} {A_12_6_0 : Option Addr} {n_12_6_0 : Nat} {c_12_6_0 : Nat} {x_0 : Int} {a_1 : List (List Int)} {a_2 : List (List Int)} {a_3 : List T_roadref4_Packet} {x_12_0 : Int} {x_12_1 : Int} {a_12_2 : (List (List Int))} {x_12_3 : Int} {x_12_4 : Int} {x_12_5 : Int} {a_12_6 : (List (List Int))} {b_12_7 : Bool} {x_13 : Int} (O : Hold W h0 m0 h m [rV bk_12 152 [(Value.int .i64 x_12_0), (Value.int .u32 x_12_1), (Value.slice A_12_2_0 n_12_2_0 c_12_2_0), (Value.int .i64 x_12_3), (Value.int .i64 x_12_4), (Value.int .u32 x_12_5), (Value.slice A_12_6_0 n_12_6_0 c_12_6_0), (Value.bool b_12_7)], rR (aE (tell_row (tell_int .u8))) A_12_2_0 c_12_2_0 a_12_2, rR (aE (tell_row (tell_int .u8))) A_12_6_0 c_12_6_0 a_12_6]) (ne_1 : n_1 = List.length a_1) (k_1 : List.length a_1 ≤ c_1) (r_1 : Rd 1 (eRow 1 (eInt .i64)) m A_1 a_1) (ne_2 : n_2 = List.length a_2) (k_2 : List.length a_2 ≤ c_2) (r_2 : Rd 1 (eRow 1 (eInt .u8)) m A_2 a_2) (ne_3 : n_3 = List.length a_3) (k_3 : List.length a_3 ≤ c_3) (r_3 : Rd 5 T_roadref4_Packet.E m A_3 a_3) (ne_12_2_0 : n_12_2_0 = List.length a_12_2) (ne_12_6_0 : n_12_6_0 = List.length a_12_6) {r : Bool} (e : roadlaw4_LinePlays.j2 x_0 a_1 a_2 a_3 x_12_0 x_12_1 a_12_2 x_12_3 x_12_4 x_12_5 a_12_6 b_12_7 x_13 = some r) : f4.j2 (roadlaw4_LinePlays.post W h0 m0 r) x_0 A_1 n_1 c_1 A_2 n_2 c_2 A_3 n_3 c_3 (some (⟨bk_12, 0, none⟩ : Addr)) x_13 h := by
  unfold roadlaw4_LinePlays.j2 at e
  subst ne_1
  subst ne_2
  subst ne_3
  subst ne_12_2_0
  subst ne_12_6_0
  refine f4.j2_in ?_
  unfold f4.j2T
  refine split_ne_e e (fun c1 e => ?_) (fun c1 e => ?_)
  · cases e
    exact ⟨_, O.pick [], rfl⟩
  · refine split_f ?_
    exact roadlaw4_LinePlays.j4.walk (O.pick [0, 1, 2]).nm rfl k_1 r_1 rfl k_2 r_2 rfl k_3 r_3 rfl rfl e

noncomputable def roadlaw4_LinePlays.j3 (x_0 : Int) (a_1 : List (List Int)) (a_2 : List (List Int)) (a_3 : List T_roadref4_Packet) (x_12_0 : Int) (x_12_1 : Int) (a_12_2 : (List (List Int))) (x_12_3 : Int) (x_12_4 : Int) (x_12_5 : Int) (a_12_6 : (List (List Int))) (b_12_7 : Bool) (x_13 : Int) (b_74 : Bool) : Option (Bool) :=
  if b_74 = true then (if x_13 = (1 : Int) then (some (false)) else (some (false))) else ((roadlaw4_LinePlays.j2 x_0 a_1 a_2 a_3 x_12_0 x_12_1 a_12_2 x_12_3 x_12_4 x_12_5 a_12_6 b_12_7 x_13))
set_option maxRecDepth 100000 in
theorem roadlaw4_LinePlays.j3.walk {W : Nat → Prop} {h0 m0 h m : Heap} {A_1 : Option Addr} {n_1 c_1 : Nat} {A_2 : Option Addr} {n_2 c_2 : Nat} {A_3 : Option Addr} {n_3 c_3 : Nat} {bk_12 : Nat} {A_12_2_0 : Option Addr} {n_12_2_0 : Nat} {c_12_2_0 : Nat} {A_12_6_0 : Option Addr} {n_12_6_0 : Nat} {c_12_6_0 : Nat} {x_0 : Int} {a_1 : List (List Int)} {a_2 : List (List Int)} {a_3 : List T_roadref4_Packet} {x_12_0 : Int} {x_12_1 : Int} {a_12_2 : (List (List Int))} {x_12_3 : Int} {x_12_4 : Int} {x_12_5 : Int} {a_12_6 : (List (List Int))} {b_12_7 : Bool} {x_13 : Int} {b_74 : Bool} (O : Hold W h0 m0 h m [rV bk_12 152 [(Value.int .i64 x_12_0), (Value.int .u32 x_12_1), (Value.slice A_12_2_0 n_12_2_0 c_12_2_0), (Value.int .i64 x_12_3), (Value.int .i64 x_12_4), (Value.int .u32 x_12_5), (Value.slice A_12_6_0 n_12_6_0 c_12_6_0), (Value.bool b_12_7)], rR (aE (tell_row (tell_int .u8))) A_12_2_0 c_12_2_0 a_12_2, rR (aE (tell_row (tell_int .u8))) A_12_6_0 c_12_6_0 a_12_6]) (ne_1 : n_1 = List.length a_1) (k_1 : List.length a_1 ≤ c_1) (r_1 : Rd 1 (eRow 1 (eInt .i64)) m A_1 a_1) (ne_2 : n_2 = List.length a_2) (k_2 : List.length a_2 ≤ c_2) (r_2 : Rd 1 (eRow 1 (eInt .u8)) m A_2 a_2) (ne_3 : n_3 = List.length a_3) (k_3 : List.length a_3 ≤ c_3) (r_3 : Rd 5 T_roadref4_Packet.E m A_3 a_3) (ne_12_2_0 : n_12_2_0 = List.length a_12_2) (ne_12_6_0 : n_12_6_0 = List.length a_12_6) {r : Bool} (e : roadlaw4_LinePlays.j3 x_0 a_1 a_2 a_3 x_12_0 x_12_1 a_12_2 x_12_3 x_12_4 x_12_5 a_12_6 b_12_7 x_13 b_74 = some r) : f4.j3 (roadlaw4_LinePlays.post W h0 m0 r) x_0 A_1 n_1 c_1 A_2 n_2 c_2 A_3 n_3 c_3 (some (⟨bk_12, 0, none⟩ : Addr)) x_13 b_74 h := by
  unfold roadlaw4_LinePlays.j3 at e
  subst ne_1
  subst ne_2
  subst ne_3
  subst ne_12_2_0
  subst ne_12_6_0
  refine f4.j3_in ?_
  unfold f4.j3T
  refine split_any_e e (fun c2 e => ?_) (fun c2 e => ?_)
  · refine split_eq_e e (fun c1 e => ?_) (fun c1 e => ?_)
    · cases e
      exact ⟨_, O.pick [], rfl⟩
    · cases e
      exact ⟨_, O.pick [], rfl⟩
  · exact roadlaw4_LinePlays.j2.walk (O.pick [0, 1, 2]).nm rfl k_1 r_1 rfl k_2 r_2 rfl k_3 r_3 rfl rfl e

noncomputable def roadlaw4_LinePlays.j2_n12 (x_0 : Int) (a_1 : List (List Int)) (a_2 : List (List Int)) (a_3 : List T_roadref4_Packet) (x_13 : Int) : Option (Bool) :=
  if x_13 = (0 : Int) then (some (false)) else (some (false))
set_option maxRecDepth 100000 in
theorem roadlaw4_LinePlays.j2_n12.walk {W : Nat → Prop} {h0 m0 h m : Heap} {A_1 : Option Addr} {n_1 c_1 : Nat} {A_2 : Option Addr} {n_2 c_2 : Nat} {A_3 : Option Addr} {n_3 c_3 : Nat} {x_0 : Int} {a_1 : List (List Int)} {a_2 : List (List Int)} {a_3 : List T_roadref4_Packet} {x_13 : Int} (O : Hold W h0 m0 h m []) (ne_1 : n_1 = List.length a_1) (k_1 : List.length a_1 ≤ c_1) (r_1 : Rd 1 (eRow 1 (eInt .i64)) m A_1 a_1) (ne_2 : n_2 = List.length a_2) (k_2 : List.length a_2 ≤ c_2) (r_2 : Rd 1 (eRow 1 (eInt .u8)) m A_2 a_2) (ne_3 : n_3 = List.length a_3) (k_3 : List.length a_3 ≤ c_3) (r_3 : Rd 5 T_roadref4_Packet.E m A_3 a_3) {r : Bool} (e : roadlaw4_LinePlays.j2_n12 x_0 a_1 a_2 a_3 x_13 = some r) : f4.j2 (roadlaw4_LinePlays.post W h0 m0 r) x_0 A_1 n_1 c_1 A_2 n_2 c_2 A_3 n_3 c_3 none x_13 h := by
  unfold roadlaw4_LinePlays.j2_n12 at e
  subst ne_1
  subst ne_2
  subst ne_3
  refine f4.j2_in ?_
  unfold f4.j2T
  refine split_ne_e e (fun c1 e => ?_) (fun c1 e => ?_)
  · cases e
    exact ⟨_, O.pick [], rfl⟩
  · refine split_t ?_
    cases e
    exact ⟨_, O.pick [], rfl⟩

noncomputable def roadlaw4_LinePlays.j3_n12 (x_0 : Int) (a_1 : List (List Int)) (a_2 : List (List Int)) (a_3 : List T_roadref4_Packet) (x_13 : Int) (b_74 : Bool) : Option (Bool) :=
  if b_74 = true then (if x_13 = (1 : Int) then (some (true)) else (some (false))) else ((roadlaw4_LinePlays.j2_n12 x_0 a_1 a_2 a_3 x_13))
set_option maxRecDepth 100000 in
theorem roadlaw4_LinePlays.j3_n12.walk {W : Nat → Prop} {h0 m0 h m : Heap} {A_1 : Option Addr} {n_1 c_1 : Nat} {A_2 : Option Addr} {n_2 c_2 : Nat} {A_3 : Option Addr} {n_3 c_3 : Nat} {x_0 : Int} {a_1 : List (List Int)} {a_2 : List (List Int)} {a_3 : List T_roadref4_Packet} {x_13 : Int} {b_74 : Bool} (O : Hold W h0 m0 h m []) (ne_1 : n_1 = List.length a_1) (k_1 : List.length a_1 ≤ c_1) (r_1 : Rd 1 (eRow 1 (eInt .i64)) m A_1 a_1) (ne_2 : n_2 = List.length a_2) (k_2 : List.length a_2 ≤ c_2) (r_2 : Rd 1 (eRow 1 (eInt .u8)) m A_2 a_2) (ne_3 : n_3 = List.length a_3) (k_3 : List.length a_3 ≤ c_3) (r_3 : Rd 5 T_roadref4_Packet.E m A_3 a_3) {r : Bool} (e : roadlaw4_LinePlays.j3_n12 x_0 a_1 a_2 a_3 x_13 b_74 = some r) : f4.j3 (roadlaw4_LinePlays.post W h0 m0 r) x_0 A_1 n_1 c_1 A_2 n_2 c_2 A_3 n_3 c_3 none x_13 b_74 h := by
  unfold roadlaw4_LinePlays.j3_n12 at e
  subst ne_1
  subst ne_2
  subst ne_3
  refine f4.j3_in ?_
  unfold f4.j3T
  refine split_any_e e (fun c2 e => ?_) (fun c2 e => ?_)
  · refine split_eq_e e (fun c1 e => ?_) (fun c1 e => ?_)
    · cases e
      exact ⟨_, O.pick [], rfl⟩
    · cases e
      exact ⟨_, O.pick [], rfl⟩
  · exact roadlaw4_LinePlays.j2_n12.walk (O.pick []).nm rfl k_1 r_1 rfl k_2 r_2 rfl k_3 r_3 e

noncomputable def roadlaw4_LinePlays.j0 (x_0 : Int) (a_1 : List (List Int)) (a_2 : List (List Int)) (a_3 : List T_roadref4_Packet) : Option (Bool) :=
  Option.bind (line_New x_0) fun y1 => Option.elim y1.1 (if x_0 < (1 : Int) then ((roadlaw4_LinePlays.j3_n12 x_0 a_1 a_2 a_3 y1.2 true)) else ((roadlaw4_LinePlays.j3_n12 x_0 a_1 a_2 a_3 y1.2 (decide (x_0 > (16 : Int)))))) fun z12 => if x_0 < (1 : Int) then ((roadlaw4_LinePlays.j3 x_0 a_1 a_2 a_3 z12.window_ z12.base_ z12.kept_ z12.told_ z12.limit_ z12.want_ z12.read_ z12.owe_ y1.2 true)) else ((roadlaw4_LinePlays.j3 x_0 a_1 a_2 a_3 z12.window_ z12.base_ z12.kept_ z12.told_ z12.limit_ z12.want_ z12.read_ z12.owe_ y1.2 (decide (x_0 > (16 : Int)))))
set_option maxRecDepth 100000 in
theorem roadlaw4_LinePlays.j0.walk {W : Nat → Prop} {h0 m0 h m : Heap} {A_1 : Option Addr} {n_1 c_1 : Nat} {A_2 : Option Addr} {n_2 c_2 : Nat} {A_3 : Option Addr} {n_3 c_3 : Nat} {x_0 : Int} {a_1 : List (List Int)} {a_2 : List (List Int)} {a_3 : List T_roadref4_Packet} (O : Hold W h0 m0 h m []) (ne_1 : n_1 = List.length a_1) (k_1 : List.length a_1 ≤ c_1) (r_1 : Rd 1 (eRow 1 (eInt .i64)) m A_1 a_1) (ne_2 : n_2 = List.length a_2) (k_2 : List.length a_2 ≤ c_2) (r_2 : Rd 1 (eRow 1 (eInt .u8)) m A_2 a_2) (ne_3 : n_3 = List.length a_3) (k_3 : List.length a_3 ≤ c_3) (r_3 : Rd 5 T_roadref4_Packet.E m A_3 a_3) {r : Bool} (e : roadlaw4_LinePlays.j0 x_0 a_1 a_2 a_3 = some r) : f4.j0 (roadlaw4_LinePlays.post W h0 m0 r) x_0 A_1 n_1 c_1 A_2 n_2 c_2 A_3 n_3 c_3 h := by
  unfold roadlaw4_LinePlays.j0 at e
  subst ne_1
  subst ne_2
  subst ne_3
  refine f4.j0_in ?_
  unfold f4.j0T
  obtain ⟨y1, g2, e⟩ := bind_e e
  refine (line_New.walk (Hold.start (W := No) O.s)  g2).mono ?_
  rintro _ h3 ⟨m4, p7, u9, s10, rfl, hp8⟩
  rcases hp8 with ⟨q11, rfl, Q14⟩ | ⟨z12, b13, A_19_2, n_19_2, c_19_2, A_19_6, n_19_6, c_19_6, q11, rfl, Q15, ne_19_2, ne_19_6⟩
  · have e := elim_none_e e q11
    have O16 := Hold.nm (O.retC Q14 vfs_nil)
    refine ⟨_, _, rfl, ?_⟩
    refine split_dec_e e (fun c17 e => ?_) (fun c17 e => ?_)
    · exact roadlaw4_LinePlays.j3_n12.walk (O16.pick []).nm rfl k_1 r_1 rfl k_2 r_2 rfl k_3 r_3 e
    · exact roadlaw4_LinePlays.j3_n12.walk (O16.pick []).nm rfl k_1 r_1 rfl k_2 r_2 rfl k_3 r_3 e
  · have e := elim_some_e e q11
    have O22 := Hold.nm (O.ret Q15)
    subst ne_19_2
    subst ne_19_6
    refine ⟨_, _, rfl, ?_⟩
    refine split_dec_e e (fun c23 e => ?_) (fun c23 e => ?_)
    · exact roadlaw4_LinePlays.j3.walk (O22.pick [0, 1, 2]).nm rfl k_1 (r_1.sub (tell_row (tell_int .i64)) Q15.S.up) rfl k_2 (r_2.sub (tell_row (tell_int .u8)) Q15.S.up) rfl k_3 (r_3.sub T_roadref4_Packet.T Q15.S.up) rfl rfl e
    · exact roadlaw4_LinePlays.j3.walk (O22.pick [0, 1, 2]).nm rfl k_1 (r_1.sub (tell_row (tell_int .i64)) Q15.S.up) rfl k_2 (r_2.sub (tell_row (tell_int .u8)) Q15.S.up) rfl k_3 (r_3.sub T_roadref4_Packet.T Q15.S.up) rfl rfl e

noncomputable def roadlaw4_LinePlays.j1 (x_0 : Int) (a_1 : List (List Int)) (a_2 : List (List Int)) (a_3 : List T_roadref4_Packet) (x_9_0 : Int) (x_9_1 : Int) (a_9_2 : (List (List Int))) (x_9_3 : Int) (x_9_4 : Int) (x_9_5 : Int) (a_9_6 : (List (List Int))) (b_9_7 : Bool) (b_44 : Bool) : Option (Bool) :=
  if b_44 = true then (some (false)) else (Option.bind (line_End_Out (T_line_End.mk x_9_0 x_9_1 a_9_2 x_9_3 x_9_4 x_9_5 a_9_6 b_9_7)) fun y1 => if (((List.length y1.1) : Nat) : Int) = (1 : Int) then (Option.bind (gi y1.1 (0 : Int)) fun y20 => if y20.Has = true then (Option.bind (gi y1.1 (0 : Int)) fun y27 => if y27.Seq = (0 : Int) then ((roadlaw4_LinePlays.j0 x_0 a_1 a_2 a_3)) else (some (false))) else (some (false))) else (some (false)))
set_option maxRecDepth 100000 in
theorem roadlaw4_LinePlays.j1.walk {W : Nat → Prop} {h0 m0 h m : Heap} {A_1 : Option Addr} {n_1 c_1 : Nat} {A_2 : Option Addr} {n_2 c_2 : Nat} {A_3 : Option Addr} {n_3 c_3 : Nat} {bk_9 : Nat} {A_9_2_0 : Option Addr} {n_9_2_0 : Nat} {c_9_2_0 : Nat} {A_9_6_0 : Option Addr} {n_9_6_0 : Nat} {c_9_6_0 : Nat} {x_0 : Int} {a_1 : List (List Int)} {a_2 : List (List Int)} {a_3 : List T_roadref4_Packet} {x_9_0 : Int} {x_9_1 : Int} {a_9_2 : (List (List Int))} {x_9_3 : Int} {x_9_4 : Int} {x_9_5 : Int} {a_9_6 : (List (List Int))} {b_9_7 : Bool} {b_44 : Bool} (O : Hold W h0 m0 h m [rV bk_9 152 [(Value.int .i64 x_9_0), (Value.int .u32 x_9_1), (Value.slice A_9_2_0 n_9_2_0 c_9_2_0), (Value.int .i64 x_9_3), (Value.int .i64 x_9_4), (Value.int .u32 x_9_5), (Value.slice A_9_6_0 n_9_6_0 c_9_6_0), (Value.bool b_9_7)], rR (aE (tell_row (tell_int .u8))) A_9_2_0 c_9_2_0 a_9_2, rR (aE (tell_row (tell_int .u8))) A_9_6_0 c_9_6_0 a_9_6]) (ne_1 : n_1 = List.length a_1) (k_1 : List.length a_1 ≤ c_1) (r_1 : Rd 1 (eRow 1 (eInt .i64)) m A_1 a_1) (ne_2 : n_2 = List.length a_2) (k_2 : List.length a_2 ≤ c_2) (r_2 : Rd 1 (eRow 1 (eInt .u8)) m A_2 a_2) (ne_3 : n_3 = List.length a_3) (k_3 : List.length a_3 ≤ c_3) (r_3 : Rd 5 T_roadref4_Packet.E m A_3 a_3) (ne_9_2_0 : n_9_2_0 = List.length a_9_2) (ne_9_6_0 : n_9_6_0 = List.length a_9_6) {r : Bool} (e : roadlaw4_LinePlays.j1 x_0 a_1 a_2 a_3 x_9_0 x_9_1 a_9_2 x_9_3 x_9_4 x_9_5 a_9_6 b_9_7 b_44 = some r) : f4.j1 (roadlaw4_LinePlays.post W h0 m0 r) x_0 A_1 n_1 c_1 A_2 n_2 c_2 A_3 n_3 c_3 (some (⟨bk_9, 0, none⟩ : Addr)) b_44 h := by
  unfold roadlaw4_LinePlays.j1 at e
  subst ne_1
  subst ne_2
  subst ne_3
  subst ne_9_2_0
  subst ne_9_6_0
  refine f4.j1_in ?_
  unfold f4.j1T
  refine split_any_e e (fun c37 e => ?_) (fun c37 e => ?_)
  · cases e
    exact ⟨_, O.pick [], rfl⟩
  · obtain ⟨y1, g2, e⟩ := bind_e e
    obtain ⟨W7, P8, B9, C10⟩ := O.callC [0, 1, 2]
    refine (line_End_Out.walk P8 rfl rfl g2).mono ?_
    rintro _ h3 ⟨m4, A11, n12, c13, A_16_2, n_16_2, c_16_2, A_16_6, n_16_6, c_16_6, Q5, rfl, ne14, ne_16_2, ne_16_6⟩
    have O19 := Hold.nm (B9 Q5)
    subst ne14
    subst ne_16_2
    subst ne_16_6
    refine ⟨_, _, _, rfl, ?_⟩
    refine split_ne_e e (fun c36 e => ?_) (fun c36 e => ?_)
    · cases e
      exact ⟨_, O19.pick [], rfl⟩
    · obtain ⟨y20, g21, e⟩ := bind_e e
      refine (O19.os 3 rfl).addr rfl g21 fun a22 cs23 ha24 hc25 he26 => ?_
      refine ⟨_, ldk (k := 2) (Sub.refl _) hc25 (T_line_Packet.g2 he26), _, rfl, ?_⟩
      refine split_not ?_
      refine split_any_e e (fun c35 e => ?_) (fun c35 e => ?_)
      · obtain ⟨y27, g28, e⟩ := bind_e e
        refine (O19.os 3 rfl).addr rfl g28 fun a29 cs30 ha31 hc32 he33 => ?_
        refine ⟨_, ld0 (Sub.refl _) hc32 (T_line_Packet.g0 he33), _, rfl, ?_⟩
        refine split_ne_e e (fun c34 e => ?_) (fun c34 e => ?_)
        · cases e
          exact ⟨_, O19.pick [], rfl⟩
        · exact roadlaw4_LinePlays.j0.walk (O19.pick []).nm rfl k_1 (r_1.sub (tell_row (tell_int .i64)) Q5.S.up) rfl k_2 (r_2.sub (tell_row (tell_int .u8)) Q5.S.up) rfl k_3 (r_3.sub T_roadref4_Packet.T Q5.S.up) e
      · cases e
        exact ⟨_, O19.pick [], rfl⟩

noncomputable def roadlaw4_LinePlays.j1_n9 (x_0 : Int) (a_1 : List (List Int)) (a_2 : List (List Int)) (a_3 : List T_roadref4_Packet) (b_44 : Bool) : Option (Bool) :=
  if b_44 = true then (some (false)) else ((none : Option _))
set_option maxRecDepth 100000 in
theorem roadlaw4_LinePlays.j1_n9.walk {W : Nat → Prop} {h0 m0 h m : Heap} {A_1 : Option Addr} {n_1 c_1 : Nat} {A_2 : Option Addr} {n_2 c_2 : Nat} {A_3 : Option Addr} {n_3 c_3 : Nat} {x_0 : Int} {a_1 : List (List Int)} {a_2 : List (List Int)} {a_3 : List T_roadref4_Packet} {b_44 : Bool} (O : Hold W h0 m0 h m []) (ne_1 : n_1 = List.length a_1) (k_1 : List.length a_1 ≤ c_1) (r_1 : Rd 1 (eRow 1 (eInt .i64)) m A_1 a_1) (ne_2 : n_2 = List.length a_2) (k_2 : List.length a_2 ≤ c_2) (r_2 : Rd 1 (eRow 1 (eInt .u8)) m A_2 a_2) (ne_3 : n_3 = List.length a_3) (k_3 : List.length a_3 ≤ c_3) (r_3 : Rd 5 T_roadref4_Packet.E m A_3 a_3) {r : Bool} (e : roadlaw4_LinePlays.j1_n9 x_0 a_1 a_2 a_3 b_44 = some r) : f4.j1 (roadlaw4_LinePlays.post W h0 m0 r) x_0 A_1 n_1 c_1 A_2 n_2 c_2 A_3 n_3 c_3 none b_44 h := by
  unfold roadlaw4_LinePlays.j1_n9 at e
  subst ne_1
  subst ne_2
  subst ne_3
  refine f4.j1_in ?_
  unfold f4.j1T
  refine split_any_e e (fun c1 e => ?_) (fun c1 e => ?_)
  · cases e
    exact ⟨_, O.pick [], rfl⟩
  · cases e

noncomputable def roadlaw4_LinePlays (x_0 : Int) (a_1 : List (List Int)) (a_2 : List (List Int)) (a_3 : List T_roadref4_Packet) : Option (Bool) :=
  Option.bind (line_New (1 : Int)) fun y1 => Option.elim y1.1 (if y1.2 = (0 : Int) then ((roadlaw4_LinePlays.j1_n9 x_0 a_1 a_2 a_3 true)) else ((roadlaw4_LinePlays.j1_n9 x_0 a_1 a_2 a_3 true))) fun z12 => if y1.2 = (0 : Int) then (Option.bind (line_End_Put z12 ([(7 : Int)] : List Int)) fun y28 => if y28.1 = (0 : Int) then (Option.bind (line_End_Put y28.2 ([(8 : Int)] : List Int)) fun y52 => (roadlaw4_LinePlays.j1 x_0 a_1 a_2 a_3 y52.2.window_ y52.2.base_ y52.2.kept_ y52.2.told_ y52.2.limit_ y52.2.want_ y52.2.read_ y52.2.owe_ (y52.1 != (9 : Int)))) else ((roadlaw4_LinePlays.j1 x_0 a_1 a_2 a_3 y28.2.window_ y28.2.base_ y28.2.kept_ y28.2.told_ y28.2.limit_ y28.2.want_ y28.2.read_ y28.2.owe_ true))) else ((roadlaw4_LinePlays.j1 x_0 a_1 a_2 a_3 z12.window_ z12.base_ z12.kept_ z12.told_ z12.limit_ z12.want_ z12.read_ z12.owe_ true))
set_option maxHeartbeats 4000000 in
set_option maxRecDepth 100000 in
theorem roadlaw4_LinePlays.walk {W : Nat → Prop} {h m : Heap} {A_1 : Option Addr} {n_1 c_1 : Nat} {A_2 : Option Addr} {n_2 c_2 : Nat} {A_3 : Option Addr} {n_3 c_3 : Nat} {x_0 : Int} {a_1 : List (List Int)} {a_2 : List (List Int)} {a_3 : List T_roadref4_Packet} (O : Hold W h m h m []) (ne_1 : n_1 = List.length a_1) (k_1 : List.length a_1 ≤ c_1) (r_1 : Rd 1 (eRow 1 (eInt .i64)) m A_1 a_1) (ne_2 : n_2 = List.length a_2) (k_2 : List.length a_2 ≤ c_2) (r_2 : Rd 1 (eRow 1 (eInt .u8)) m A_2 a_2) (ne_3 : n_3 = List.length a_3) (k_3 : List.length a_3 ≤ c_3) (r_3 : Rd 5 T_roadref4_Packet.E m A_3 a_3) {r : Bool} (e : roadlaw4_LinePlays x_0 a_1 a_2 a_3 = some r) : Run Try.prog 4 #[Value.int .i64 x_0, Value.slice A_1 n_1 c_1, Value.slice A_2 n_2 c_2, Value.slice A_3 n_3 c_3] h (roadlaw4_LinePlays.post W h m r) := by
  unfold roadlaw4_LinePlays at e
  subst ne_1
  subst ne_2
  subst ne_3
  refine f4.run ?_
  unfold f4.runT
  obtain ⟨y1, g2, e⟩ := bind_e e
  refine (line_New.walk (Hold.start (W := No) O.s)  g2).mono ?_
  rintro _ h3 ⟨m4, p7, u9, s10, rfl, hp8⟩
  rcases hp8 with ⟨q11, rfl, Q14⟩ | ⟨z12, b13, A_19_2, n_19_2, c_19_2, A_19_6, n_19_6, c_19_6, q11, rfl, Q15, ne_19_2, ne_19_6⟩
  · have e := elim_none_e e q11
    have O16 := Hold.nm (O.retC Q14 vfs_nil)
    refine ⟨_, _, rfl, ?_⟩
    refine split_ne_e e (fun c17 e => ?_) (fun c17 e => ?_)
    · exact roadlaw4_LinePlays.j1_n9.walk (O16.pick []).nm rfl k_1 r_1 rfl k_2 r_2 rfl k_3 r_3 e
    · refine split_t ?_
      exact roadlaw4_LinePlays.j1_n9.walk (O16.pick []).nm rfl k_1 r_1 rfl k_2 r_2 rfl k_3 r_3 e
  · have e := elim_some_e e q11
    have O22 := Hold.nm (O.ret Q15)
    subst ne_19_2
    subst ne_19_6
    refine ⟨_, _, rfl, ?_⟩
    refine split_ne_e e (fun c72 e => ?_) (fun c72 e => ?_)
    · exact roadlaw4_LinePlays.j1.walk (O22.pick [0, 1, 2]).nm rfl k_1 (r_1.sub (tell_row (tell_int .i64)) Q15.S.up) rfl k_2 (r_2.sub (tell_row (tell_int .u8)) Q15.S.up) rfl k_3 (r_3.sub T_roadref4_Packet.T Q15.S.up) rfl rfl e
    · refine split_f ?_
      refine O22.new fun h23 x24 O25 => ?_
      obtain ⟨y28, g29, e⟩ := bind_e e
      have O27 := O25.rowE (l := ([(7 : Int)] : List Int)) 3 rfl (tell_int .u8) (show CsE _ _ _ _ _ from (CsE.cons (c1 := [(Value.int .u8 (7 : Int))]) rfl rfl CsE.nil)) rfl
      have O34 := O27.nm
      obtain ⟨m35, W41, u36, P42, ⟨⟨r39, k40⟩, _⟩, B37, C38⟩ := O34.lend [0, 1, 2] [3]
      replace r39 : Rd 1 (eInt .u8) m35 (some ⟨(Array.size h3), 0, none⟩) ([(7 : Int)] : List Int) := r39
      replace k40 : List.length ([(7 : Int)] : List Int) ≤ 1 := k40
      refine (line_End_Put.walk P42 rfl rfl rfl k40 r39 g29).mono ?_
      rintro _ h30 ⟨m31, A_43_2, n_43_2, c_43_2, A_43_6, n_43_6, c_43_6, Q32, rfl, ne_43_2, ne_43_6⟩
      have O46 := Hold.nm (B37 Q32)
      subst ne_43_2
      subst ne_43_6
      refine ⟨_, rfl, ?_⟩
      refine split_ne_e e (fun c71 e => ?_) (fun c71 e => ?_)
      · exact roadlaw4_LinePlays.j1.walk (O46.pick [4, 5, 6]).nm rfl k_1 (r_1.sub (tell_row (tell_int .i64)) (Q15.S.up.trans (u36.trans Q32.S.up))) rfl k_2 (r_2.sub (tell_row (tell_int .u8)) (Q15.S.up.trans (u36.trans Q32.S.up))) rfl k_3 (r_3.sub T_roadref4_Packet.T (Q15.S.up.trans (u36.trans Q32.S.up))) rfl rfl e
      · refine O46.new fun h47 x48 O49 => ?_
        obtain ⟨y52, g53, e⟩ := bind_e e
        have O51 := O49.rowE (l := ([(8 : Int)] : List Int)) 7 rfl (tell_int .u8) (show CsE _ _ _ _ _ from (CsE.cons (c1 := [(Value.int .u8 (8 : Int))]) rfl rfl CsE.nil)) rfl
        have O58 := O51.nm
        obtain ⟨m59, W65, u60, P66, ⟨⟨r63, k64⟩, _⟩, B61, C62⟩ := O58.lend [4, 5, 6] [7]
        replace r63 : Rd 1 (eInt .u8) m59 (some ⟨(Array.size h30), 0, none⟩) ([(8 : Int)] : List Int) := r63
        replace k64 : List.length ([(8 : Int)] : List Int) ≤ 1 := k64
        refine (line_End_Put.walk P66 rfl rfl rfl k64 r63 g53).mono ?_
        rintro _ h54 ⟨m55, A_67_2, n_67_2, c_67_2, A_67_6, n_67_6, c_67_6, Q56, rfl, ne_67_2, ne_67_6⟩
        have O70 := Hold.nm (B61 Q56)
        subst ne_67_2
        subst ne_67_6
        refine ⟨_, rfl, ?_⟩
        exact roadlaw4_LinePlays.j1.walk (O70.pick [8, 9, 10]).nm rfl k_1 (r_1.sub (tell_row (tell_int .i64)) (Q15.S.up.trans (u36.trans (Q32.S.up.trans (u60.trans Q56.S.up))))) rfl k_2 (r_2.sub (tell_row (tell_int .u8)) (Q15.S.up.trans (u36.trans (Q32.S.up.trans (u60.trans Q56.S.up))))) rfl k_3 (r_3.sub T_roadref4_Packet.T (Q15.S.up.trans (u36.trans (Q32.S.up.trans (u60.trans Q56.S.up))))) rfl rfl e

end Go.Proofs.Ytklobcelbpjjcaa.Fw
