/- Part 4: what the law TalkSays needs, put together out of texts of this session. -/
import Derived.Test.YtdlihfedhojdgaaZTalkSaysc
section
namespace Go.Proofs.Ytdlihfedhojdgaa.Fw
open Go Go.Hw Go.Proofs
set_option linter.unusedVariables false
set_option synthInstance.maxHeartbeats 400000
set_option synthInstance.maxSize 1000
structure T_talk_Line where
  A : Int
  B : Int
def T_talk_Line.E (h : Heap) (x : T_talk_Line) (cs : List Value) : Prop := cs = [.int .i64 x.A, .int .i64 x.B]
theorem T_talk_Line.T : Tell 2 T_talk_Line.E := ⟨by rintro m h x _ s rfl; exact rfl, by rintro h x _ rfl; rfl, by rintro h x _ rfl; exact Flats.cons trivial (Flats.cons trivial Flats.nil)⟩
def T_talk_Line.Q (x : T_talk_Line) : Prop := (-9223372036854775808 ≤ x.A ∧ x.A ≤ 9223372036854775807) ∧ (-9223372036854775808 ≤ x.B ∧ x.B ≤ 9223372036854775807)
theorem T_talk_Line.tells {H : Type} {enc : TypeId × Value → H} {W : World} : Tells enc Try.prog W 89 T_talk_Line.E T_talk_Line.Q := tells_map (tells_struct (t := 89) (fs := [(3, 0), (3, 1)]) (T := 2) (by kernel_rfl) (by kernel_rfl) (tf_cons (s := 1) (f := 3) (by kernel_rfl) (tells_i64 (t := 3) (by kernel_rfl)) (tf_cons (s := 1) (f := 3) (by kernel_rfl) (tells_i64 (t := 3) (by kernel_rfl)) tf_nil))) (by
  rintro ⟨x0, x1, ⟨⟩⟩ cs e q
  obtain ⟨c0, r0, rfl, e0, c1, r1, rfl, e1, eN⟩ := e
  obtain rfl : c0 = [.int .i64 x0] := e0
  obtain rfl : c1 = [.int .i64 x1] := e1
  obtain rfl : r1 = [] := eN
  exact ⟨⟨x0, x1⟩, rfl, q.1, q.2.1⟩)
structure T_talk_Deed where
  Line : Int
  Send : Bool
  Msg : Int
def T_talk_Deed.E (h : Heap) (x : T_talk_Deed) (cs : List Value) : Prop := cs = [.int .i64 x.Line, .bool x.Send, .int .i64 x.Msg]
theorem T_talk_Deed.T : Tell 3 T_talk_Deed.E := ⟨by rintro m h x _ s rfl; exact rfl, by rintro h x _ rfl; rfl, by rintro h x _ rfl; exact Flats.cons trivial (Flats.cons trivial (Flats.cons trivial Flats.nil))⟩
theorem T_talk_Deed.keep {m h : Heap} {x : T_talk_Deed} {cs : List Value} (e : T_talk_Deed.E m x cs) : T_talk_Deed.E h x cs := e
def T_talk_Deed.Q (x : T_talk_Deed) : Prop := (-9223372036854775808 ≤ x.Line ∧ x.Line ≤ 9223372036854775807) ∧ True ∧ (-9223372036854775808 ≤ x.Msg ∧ x.Msg ≤ 9223372036854775807)
theorem T_talk_Deed.tells {H : Type} {enc : TypeId × Value → H} {W : World} : Tells enc Try.prog W 93 T_talk_Deed.E T_talk_Deed.Q := tells_map (tells_struct (t := 93) (fs := [(3, 0), (4, 1), (3, 2)]) (T := 3) (by kernel_rfl) (by kernel_rfl) (tf_cons (s := 1) (f := 3) (by kernel_rfl) (tells_i64 (t := 3) (by kernel_rfl)) (tf_cons (s := 1) (f := 4) (by kernel_rfl) (tells_bool (t := 4) (by kernel_rfl)) (tf_cons (s := 1) (f := 3) (by kernel_rfl) (tells_i64 (t := 3) (by kernel_rfl)) tf_nil)))) (by
  rintro ⟨x0, x1, x2, ⟨⟩⟩ cs e q
  obtain ⟨c0, r0, rfl, e0, c1, r1, rfl, e1, c2, r2, rfl, e2, eN⟩ := e
  obtain rfl : c0 = [.int .i64 x0] := e0
  obtain rfl : c1 = [.bool x1] := e1
  obtain rfl : c2 = [.int .i64 x2] := e2
  obtain rfl : r2 = [] := eN
  exact ⟨⟨x0, x1, x2⟩, rfl, q.1, q.2.1, q.2.2.1⟩)
structure T_talk_Net where
  Lines : (List T_talk_Line)
  Who : (List (List T_talk_Deed))
def T_talk_Net.E (h : Heap) (x : T_talk_Net) (cs : List Value) : Prop := ∃ A0 c0 A1 c1, cs = [.slice A0 x.Lines.length c0, .slice A1 x.Who.length c1] ∧ x.Lines.length ≤ c0 ∧ Rd 2 T_talk_Line.E h A0 x.Lines ∧ x.Who.length ≤ c1 ∧ Rd 1 (eRow 3 T_talk_Deed.E) h A1 x.Who
theorem T_talk_Net.T : Tell 2 T_talk_Net.E := ⟨by rintro m h x _ s ⟨A0, c0, A1, c1, rfl, k0, r0, k1, r1⟩; exact ⟨_, _, _, _, rfl, k0, r0.sub T_talk_Line.T s, k1, r1.sub (tell_row T_talk_Deed.T) s⟩, by rintro h x _ ⟨A0, c0, A1, c1, rfl, k0, r0, k1, r1⟩; rfl, by rintro h x _ ⟨A0, c0, A1, c1, rfl, k0, r0, k1, r1⟩; exact Flats.cons trivial (Flats.cons trivial Flats.nil)⟩
def T_talk_Net.Q (x : T_talk_Net) : Prop := (x.Lines.length * 16 ≤ 140737488351232 ∧ ∀ a ∈ x.Lines, (T_talk_Line.Q a)) ∧ (x.Who.length * 24 ≤ 140737488351232 ∧ ∀ a ∈ x.Who, (a.length * 24 ≤ 140737488351232 ∧ ∀ a' ∈ a, (T_talk_Deed.Q a')))
theorem T_talk_Net.tells {H : Type} {enc : TypeId × Value → H} {W : World} : Tells enc Try.prog W 78 T_talk_Net.E T_talk_Net.Q := tells_map (tells_struct (t := 78) (fs := [(75, 0), (76, 1)]) (T := 2) (by kernel_rfl) (by kernel_rfl) (tf_cons (s := 1) (f := 75) (by kernel_rfl) (tells_sliceL (t := 75) (e := 89) (sz := 2) (B := 16) (by kernel_rfl) (by kernel_rfl) (by kernel_rfl) T_talk_Line.tells) (tf_cons (s := 1) (f := 76) (by kernel_rfl) (tells_sliceL (t := 76) (e := 90) (sz := 1) (B := 24) (by kernel_rfl) (by kernel_rfl) (by kernel_rfl) (tells_sliceL (t := 90) (e := 93) (sz := 3) (B := 24) (by kernel_rfl) (by kernel_rfl) (by kernel_rfl) T_talk_Deed.tells)) tf_nil))) (by
  rintro ⟨x0, x1, ⟨⟩⟩ cs e q
  obtain ⟨c0, r0, rfl, e0, c1, r1, rfl, e1, eN⟩ := e
  obtain ⟨A0, k0, rfl, l0, R0⟩ := e0
  obtain ⟨A1, k1, rfl, l1, R1⟩ := e1
  obtain rfl : r1 = [] := eN
  exact ⟨⟨x0, x1⟩, ⟨_, _, _, _, rfl, l0, R0, l1, R1⟩, q.1, q.2.1⟩)
structure T_roadref2_Net where
  Lines : (List (List Int))
  Who : (List (List (List Int)))
def T_roadref2_Net.E (h : Heap) (x : T_roadref2_Net) (cs : List Value) : Prop := ∃ A0 c0 A1 c1, cs = [.slice A0 x.Lines.length c0, .slice A1 x.Who.length c1] ∧ x.Lines.length ≤ c0 ∧ Rd 2 (eArr 2 (fun n : Int => Value.int .i64 n) (0 : Int)) h A0 x.Lines ∧ x.Who.length ≤ c1 ∧ Rd 1 (eRow 3 (eArr 3 (fun n : Int => Value.int .i64 n) (0 : Int))) h A1 x.Who
theorem T_roadref2_Net.T : Tell 2 T_roadref2_Net.E := ⟨by rintro m h x _ s ⟨A0, c0, A1, c1, rfl, k0, r0, k1, r1⟩; exact ⟨_, _, _, _, rfl, k0, r0.sub (tell_arr (n := 2) (f := (fun n : Int => Value.int .i64 n)) (d := (0 : Int)) (fun _ => trivial)) s, k1, r1.sub (tell_row (tell_arr (n := 3) (f := (fun n : Int => Value.int .i64 n)) (d := (0 : Int)) (fun _ => trivial))) s⟩, by rintro h x _ ⟨A0, c0, A1, c1, rfl, k0, r0, k1, r1⟩; rfl, by rintro h x _ ⟨A0, c0, A1, c1, rfl, k0, r0, k1, r1⟩; exact Flats.cons trivial (Flats.cons trivial Flats.nil)⟩
structure T_roadref2_way where
  at_ : Int
  lines_ : (List Int)
def T_roadref2_way.E (h : Heap) (x : T_roadref2_way) (cs : List Value) : Prop := ∃ A1 c1, cs = [.int .i64 x.at_, .slice A1 x.lines_.length c1] ∧ x.lines_.length ≤ c1 ∧ Rd 1 (eInt .i64) h A1 x.lines_
theorem T_roadref2_way.T : Tell 2 T_roadref2_way.E := ⟨by rintro m h x _ s ⟨A1, c1, rfl, k1, r1⟩; exact ⟨_, _, rfl, k1, r1.sub (tell_int .i64) s⟩, by rintro h x _ ⟨A1, c1, rfl, k1, r1⟩; rfl, by rintro h x _ ⟨A1, c1, rfl, k1, r1⟩; exact Flats.cons trivial (Flats.cons trivial Flats.nil)⟩
theorem T_talk_Net.g1 {m : Heap} {x : T_talk_Net} {cs : List Value} (e : T_talk_Net.E m x cs) : ∃ A c, cs[1]? = some (.slice A (List.length x.Who) c) ∧ List.length x.Who ≤ c ∧ Rd 1 (eRow 3 T_talk_Deed.E) m A x.Who := by
  obtain ⟨A0, c0, A1, c1, rfl, k0, r0, k1, r1⟩ := e
  exact ⟨_, _, rfl, k1, r1⟩
theorem T_talk_Net.g0 {m : Heap} {x : T_talk_Net} {cs : List Value} (e : T_talk_Net.E m x cs) : ∃ A c, cs[0]? = some (.slice A (List.length x.Lines) c) ∧ List.length x.Lines ≤ c ∧ Rd 2 T_talk_Line.E m A x.Lines := by
  obtain ⟨A0, c0, A1, c1, rfl, k0, r0, k1, r1⟩ := e
  exact ⟨_, _, rfl, k0, r0⟩
theorem T_talk_Line.g0 {m : Heap} {x : T_talk_Line} {cs : List Value} (e : T_talk_Line.E m x cs) : cs[0]? = some (Value.int .i64 x.A) := by
  obtain rfl := e
  exact rfl
theorem T_talk_Line.g1 {m : Heap} {x : T_talk_Line} {cs : List Value} (e : T_talk_Line.E m x cs) : cs[1]? = some (Value.int .i64 x.B) := by
  obtain rfl := e
  exact rfl
theorem T_talk_Deed.g0 {m : Heap} {x : T_talk_Deed} {cs : List Value} (e : T_talk_Deed.E m x cs) : cs[0]? = some (Value.int .i64 x.Line) := by
  obtain rfl := e
  exact rfl
theorem T_talk_Deed.g2 {m : Heap} {x : T_talk_Deed} {cs : List Value} (e : T_talk_Deed.E m x cs) : cs[2]? = some (Value.int .i64 x.Msg) := by
  obtain rfl := e
  exact rfl
theorem T_talk_Deed.g1 {m : Heap} {x : T_talk_Deed} {cs : List Value} (e : T_talk_Deed.E m x cs) : cs[1]? = some (Value.bool x.Send) := by
  obtain rfl := e
  exact rfl
theorem T_roadref2_Net.g1 {m : Heap} {x : T_roadref2_Net} {cs : List Value} (e : T_roadref2_Net.E m x cs) : ∃ A c, cs[1]? = some (.slice A (List.length x.Who) c) ∧ List.length x.Who ≤ c ∧ Rd 1 (eRow 3 (eArr 3 (fun n : Int => Value.int .i64 n) (0 : Int))) m A x.Who := by
  obtain ⟨A0, c0, A1, c1, rfl, k0, r0, k1, r1⟩ := e
  exact ⟨_, _, rfl, k1, r1⟩
theorem T_roadref2_Net.g0 {m : Heap} {x : T_roadref2_Net} {cs : List Value} (e : T_roadref2_Net.E m x cs) : ∃ A c, cs[0]? = some (.slice A (List.length x.Lines) c) ∧ List.length x.Lines ≤ c ∧ Rd 2 (eArr 2 (fun n : Int => Value.int .i64 n) (0 : Int)) m A x.Lines := by
  obtain ⟨A0, c0, A1, c1, rfl, k0, r0, k1, r1⟩ := e
  exact ⟨_, _, rfl, k0, r0⟩
theorem T_roadref2_way.g0 {m : Heap} {x : T_roadref2_way} {cs : List Value} (e : T_roadref2_way.E m x cs) : cs[0]? = some (Value.int .i64 x.at_) := by
  obtain ⟨A1, c1, rfl, k1, r1⟩ := e
  exact rfl
theorem T_roadref2_way.g1 {m : Heap} {x : T_roadref2_way} {cs : List Value} (e : T_roadref2_way.E m x cs) : ∃ A c, cs[1]? = some (.slice A (List.length x.lines_) c) ∧ List.length x.lines_ ≤ c ∧ Rd 1 (eInt .i64) m A x.lines_ := by
  obtain ⟨A1, c1, rfl, k1, r1⟩ := e
  exact ⟨_, _, rfl, k1, r1⟩
def talk_Check.post (W : Nat → Prop) (h0 m0 : Heap) (r : Int) (v : Value) (h : Heap) : Prop := ∃ m , Hold W h0 m0 h m [] ∧ v = .int .i64 r
inductive talk_Check.l1_k.Pt where
  | l1 (y_1 : T_talk_Net) (a_60 : List (List T_talk_Deed)) (x_61 : Int) (x_62 : Int)
  | l2 (y_1 : T_talk_Net) (x_5 : Int) (a_60 : List (List T_talk_Deed)) (x_61 : Int) (x_62 : Int) (a_70 : List T_talk_Deed) (x_71 : Int) (x_72 : Int)
  | j1 (y_1 : T_talk_Net) (x_5 : Int) (y_8 : T_talk_Deed) (a_60 : List (List T_talk_Deed)) (x_61 : Int) (x_62 : Int) (a_70 : List T_talk_Deed) (x_71 : Int) (x_72 : Int)
noncomputable def talk_Check.l1_k.body (go : (p : talk_Check.l1_k.Pt) → Option (Int)) : (p : talk_Check.l1_k.Pt) → Option (Int)
  | .l1 y_1 a_60 x_61 x_62 => if x_62 < x_61 then (Option.bind (gi a_60 x_62) fun y1 => if (((List.length y1) : Nat) : Int) > (40 : Int) then (some ((2 : Int))) else ((go (.l2 y_1 x_62 a_60 x_61 x_62 y1 (((List.length y1) : Nat) : Int) (0 : Int))))) else (some ((0 : Int)))
  | .l2 y_1 x_5 a_60 x_61 x_62 a_70 x_71 x_72 => if x_72 < x_71 then (Option.bind (gi a_70 x_72) fun y1 => if y1.Line < (0 : Int) then (some ((1 : Int))) else (if y1.Line ≥ (((List.length y_1.Lines) : Nat) : Int) then (some ((1 : Int))) else (if y1.Msg < (0 : Int) then (some ((1 : Int))) else (if y1.Msg > (20 : Int) then (some ((1 : Int))) else ((go (.j1 y_1 x_5 y1 a_60 x_61 x_62 a_70 x_71 x_72))))))) else ((go (.l1 y_1 a_60 x_61 (IntKind.wrap .i64 (x_62 + (1 : Int))))))
  | .j1 y_1 x_5 y_8 a_60 x_61 x_62 a_70 x_71 x_72 => Option.bind (gi y_1.Lines y_8.Line) fun y6 => if y6.A = x_5 then ((go (.l2 y_1 x_5 a_60 x_61 x_62 a_70 x_71 (IntKind.wrap .i64 (x_72 + (1 : Int)))))) else (if y6.B = x_5 then ((go (.l2 y_1 x_5 a_60 x_61 x_62 a_70 x_71 (IntKind.wrap .i64 (x_72 + (1 : Int)))))) else (some ((7 : Int))))
theorem talk_Check.l1_k.mono : MonoF (β := fun _ => (Int)) talk_Check.l1_k.body := fun f g hfg p => match p with
  | .l1 y_1 a_60 x_61 x_62 => LeO.ite (LeO.bind (LeO.refl _) fun y1 => LeO.ite (LeO.refl _) ((hfg _))) (LeO.refl _)
  | .l2 y_1 x_5 a_60 x_61 x_62 a_70 x_71 x_72 => LeO.ite (LeO.bind (LeO.refl _) fun y1 => LeO.ite (LeO.refl _) (LeO.ite (LeO.refl _) (LeO.ite (LeO.refl _) (LeO.ite (LeO.refl _) ((hfg _)))))) ((hfg _))
  | .j1 y_1 x_5 y_8 a_60 x_61 x_62 a_70 x_71 x_72 => LeO.bind (LeO.refl _) fun y6 => LeO.ite ((hfg _)) (LeO.ite ((hfg _)) (LeO.refl _))
noncomputable def talk_Check.l1_k.go (p : talk_Check.l1_k.Pt) : Option (Int) := fixF (β := fun _ => (Int)) talk_Check.l1_k.body p
noncomputable def talk_Check.l1 (y_1 : T_talk_Net) (a_60 : List (List T_talk_Deed)) (x_61 : Int) (x_62 : Int) : Option (Int) := talk_Check.l1_k.go (.l1 y_1 a_60 x_61 x_62)
noncomputable def talk_Check.l2 (y_1 : T_talk_Net) (x_5 : Int) (a_60 : List (List T_talk_Deed)) (x_61 : Int) (x_62 : Int) (a_70 : List T_talk_Deed) (x_71 : Int) (x_72 : Int) : Option (Int) := talk_Check.l1_k.go (.l2 y_1 x_5 a_60 x_61 x_62 a_70 x_71 x_72)
noncomputable def talk_Check.j1 (y_1 : T_talk_Net) (x_5 : Int) (y_8 : T_talk_Deed) (a_60 : List (List T_talk_Deed)) (x_61 : Int) (x_62 : Int) (a_70 : List T_talk_Deed) (x_71 : Int) (x_72 : Int) : Option (Int) := talk_Check.l1_k.go (.j1 y_1 x_5 y_8 a_60 x_61 x_62 a_70 x_71 x_72)
theorem talk_Check.l1_eq (y_1 : T_talk_Net) (a_60 : List (List T_talk_Deed)) (x_61 : Int) (x_62 : Int) : talk_Check.l1 y_1 a_60 x_61 x_62 = if x_62 < x_61 then (Option.bind (gi a_60 x_62) fun y1 => if (((List.length y1) : Nat) : Int) > (40 : Int) then (some ((2 : Int))) else ((talk_Check.l2 y_1 x_62 a_60 x_61 x_62 y1 (((List.length y1) : Nat) : Int) (0 : Int)))) else (some ((0 : Int))) := fixF_eq talk_Check.l1_k.mono _
theorem talk_Check.l2_eq (y_1 : T_talk_Net) (x_5 : Int) (a_60 : List (List T_talk_Deed)) (x_61 : Int) (x_62 : Int) (a_70 : List T_talk_Deed) (x_71 : Int) (x_72 : Int) : talk_Check.l2 y_1 x_5 a_60 x_61 x_62 a_70 x_71 x_72 = if x_72 < x_71 then (Option.bind (gi a_70 x_72) fun y1 => if y1.Line < (0 : Int) then (some ((1 : Int))) else (if y1.Line ≥ (((List.length y_1.Lines) : Nat) : Int) then (some ((1 : Int))) else (if y1.Msg < (0 : Int) then (some ((1 : Int))) else (if y1.Msg > (20 : Int) then (some ((1 : Int))) else ((talk_Check.j1 y_1 x_5 y1 a_60 x_61 x_62 a_70 x_71 x_72)))))) else ((talk_Check.l1 y_1 a_60 x_61 (IntKind.wrap .i64 (x_62 + (1 : Int))))) := fixF_eq talk_Check.l1_k.mono _
theorem talk_Check.j1_eq (y_1 : T_talk_Net) (x_5 : Int) (y_8 : T_talk_Deed) (a_60 : List (List T_talk_Deed)) (x_61 : Int) (x_62 : Int) (a_70 : List T_talk_Deed) (x_71 : Int) (x_72 : Int) : talk_Check.j1 y_1 x_5 y_8 a_60 x_61 x_62 a_70 x_71 x_72 = Option.bind (gi y_1.Lines y_8.Line) fun y6 => if y6.A = x_5 then ((talk_Check.l2 y_1 x_5 a_60 x_61 x_62 a_70 x_71 (IntKind.wrap .i64 (x_72 + (1 : Int))))) else (if y6.B = x_5 then ((talk_Check.l2 y_1 x_5 a_60 x_61 x_62 a_70 x_71 (IntKind.wrap .i64 (x_72 + (1 : Int))))) else (some ((7 : Int)))) := fixF_eq talk_Check.l1_k.mono _
def talk_Check.l1_k.I : (p : talk_Check.l1_k.Pt) → (Int) → Prop
  | .l1 y_1 a_60 x_61 x_62, r => ∀ (W : Nat → Prop) (h0 m0 h m : Heap) (bk_1 : Nat) (cs_1 : List Value) (A_60 : Option Addr) (n_60 c_60 : Nat) (O : Hold W h0 m0 h m [rV bk_1 78 cs_1]) (e_1 : T_talk_Net.E m y_1 cs_1) (ne_60 : n_60 = List.length a_60) (k_60 : List.length a_60 ≤ c_60) (r_60 : Rd 1 (eRow 3 T_talk_Deed.E) m A_60 a_60), f43.l1 (talk_Check.post W h0 m0 r) (⟨bk_1, 0, none⟩ : Addr) A_60 n_60 c_60 x_61 x_62 h
  | .l2 y_1 x_5 a_60 x_61 x_62 a_70 x_71 x_72, r => ∀ (W : Nat → Prop) (h0 m0 h m : Heap) (bk_1 : Nat) (cs_1 : List Value) (A_60 : Option Addr) (n_60 c_60 : Nat) (A_70 : Option Addr) (n_70 c_70 : Nat) (O : Hold W h0 m0 h m [rV bk_1 78 cs_1]) (e_1 : T_talk_Net.E m y_1 cs_1) (ne_60 : n_60 = List.length a_60) (k_60 : List.length a_60 ≤ c_60) (r_60 : Rd 1 (eRow 3 T_talk_Deed.E) m A_60 a_60) (ne_70 : n_70 = List.length a_70) (k_70 : List.length a_70 ≤ c_70) (r_70 : Rd 3 T_talk_Deed.E m A_70 a_70), f43.l2 (talk_Check.post W h0 m0 r) (⟨bk_1, 0, none⟩ : Addr) x_5 A_60 n_60 c_60 x_61 x_62 A_70 n_70 c_70 x_71 x_72 h
  | .j1 y_1 x_5 y_8 a_60 x_61 x_62 a_70 x_71 x_72, r => ∀ (W : Nat → Prop) (h0 m0 h m : Heap) (bk_1 : Nat) (cs_1 : List Value) (bk_8 : Nat) (cs_8 : List Value) (A_60 : Option Addr) (n_60 c_60 : Nat) (A_70 : Option Addr) (n_70 c_70 : Nat) (O : Hold W h0 m0 h m [rV bk_1 78 cs_1, rV bk_8 93 cs_8]) (e_1 : T_talk_Net.E m y_1 cs_1) (e_8 : T_talk_Deed.E m y_8 cs_8) (ne_60 : n_60 = List.length a_60) (k_60 : List.length a_60 ≤ c_60) (r_60 : Rd 1 (eRow 3 T_talk_Deed.E) m A_60 a_60) (ne_70 : n_70 = List.length a_70) (k_70 : List.length a_70 ≤ c_70) (r_70 : Rd 3 T_talk_Deed.E m A_70 a_70), f43.j1 (talk_Check.post W h0 m0 r) (⟨bk_1, 0, none⟩ : Addr) x_5 (⟨bk_8, 0, none⟩ : Addr) A_60 n_60 c_60 x_61 x_62 A_70 n_70 c_70 x_71 x_72 h
set_option maxRecDepth 100000 in
theorem talk_Check.l1_k.step_l1 (go : (p : talk_Check.l1_k.Pt) → Option (Int)) (ih : ∀ p r, go p = some r → talk_Check.l1_k.I p r) (y_1 : T_talk_Net) (a_60 : List (List T_talk_Deed)) (x_61 : Int) (x_62 : Int) (r : Int) (e : talk_Check.l1_k.body go (.l1 y_1 a_60 x_61 x_62) = some r) : talk_Check.l1_k.I (.l1 y_1 a_60 x_61 x_62) r := by
  unfold talk_Check.l1_k.body at e
  intro W h0 m0 h m bk_1 cs_1 A_60 n_60 c_60 O e_1 ne_60 k_60 r_60
  subst ne_60
  refine f43.l1_in ?_
  unfold f43.l1T
  refine split_dec_e e (fun c9 e => ?_) (fun c9 e => ?_)
  · obtain ⟨y1, g2, e⟩ := bind_e e
    refine r_60.addr rfl g2 fun a3 cs4 ha5 hc6 he7 => ?_
    obtain ⟨Acs4_0, ccs4_0, rfl, kcs4_0, rcs4_0⟩ := id he7
    refine ⟨_, ld0 O.s hc6 rfl, _, _, _, rfl, ?_⟩
    refine split_dec_e e (fun c8 e => ?_) (fun c8 e => ?_)
    · cases e
      exact ⟨_, O.pick [], rfl⟩
    · exact (ih _ _ e) _ _ _ _ _ _ _ _ _ _ _ _ _ (O.pick [0]).nm e_1 rfl k_60 r_60 rfl kcs4_0 rcs4_0
  · cases e
    exact ⟨_, O.pick [], rfl⟩
set_option maxHeartbeats 4000000 in
set_option maxRecDepth 100000 in
theorem talk_Check.l1_k.step_l2 (go : (p : talk_Check.l1_k.Pt) → Option (Int)) (ih : ∀ p r, go p = some r → talk_Check.l1_k.I p r) (y_1 : T_talk_Net) (x_5 : Int) (a_60 : List (List T_talk_Deed)) (x_61 : Int) (x_62 : Int) (a_70 : List T_talk_Deed) (x_71 : Int) (x_72 : Int) (r : Int) (e : talk_Check.l1_k.body go (.l2 y_1 x_5 a_60 x_61 x_62 a_70 x_71 x_72) = some r) : talk_Check.l1_k.I (.l2 y_1 x_5 a_60 x_61 x_62 a_70 x_71 x_72) r := by
  unfold talk_Check.l1_k.body at e
  intro W h0 m0 h m bk_1 cs_1 A_60 n_60 c_60 A_70 n_70 c_70 O e_1 ne_60 k_60 r_60 ne_70 k_70 r_70
  subst ne_60
  subst ne_70
  refine f43.l2_in ?_
  unfold f43.l2T
  refine split_dec_e e (fun c28 e => ?_) (fun c28 e => ?_)
  · obtain ⟨y1, g2, e⟩ := bind_e e
    refine r_70.addr rfl g2 fun a3 cs4 ha5 hc6 he7 => ?_
    refine ⟨_, ldAn O.s hc6 rfl, ?_⟩
    refine O.new fun h8 x9 O10 => ?_
    refine ⟨_, rfl, (T_talk_Deed.T.len _ _ _ he7), ?_⟩
    refine O10.stA 1 rfl (T_talk_Deed.T.len _ _ _ he7) (T_talk_Deed.T.flat _ _ _ he7) fun h12 O13 => ?_
    refine ⟨_, ld0 (Sub.refl _) (O13.all 1 rfl) (T_talk_Deed.g0 he7), _, rfl, ?_⟩
    refine split_dec_e e (fun c27 e => ?_) (fun c27 e => ?_)
    · have O14 := O13.nm
      cases e
      exact ⟨_, O14.pick [], rfl⟩
    · refine ⟨_, ld0 (Sub.refl _) (O13.all 1 rfl) (T_talk_Deed.g0 he7), _, rfl, ?_⟩
      obtain ⟨A15, c16, q17, k18, r19⟩ := T_talk_Net.g0 e_1
      refine ⟨_, ld0 (Sub.refl _) (O13.all 0 rfl) q17, _, _, _, rfl, ?_⟩
      refine split_dec_e e (fun c26 e => ?_) (fun c26 e => ?_)
      · have O20 := O13.nm
        cases e
        exact ⟨_, O20.pick [], rfl⟩
      · refine ⟨_, ldk (k := 2) (Sub.refl _) (O13.all 1 rfl) (T_talk_Deed.g2 he7), _, rfl, ?_⟩
        refine split_dec_e e (fun c25 e => ?_) (fun c25 e => ?_)
        · have O21 := O13.nm
          cases e
          exact ⟨_, O21.pick [], rfl⟩
        · refine ⟨_, ldk (k := 2) (Sub.refl _) (O13.all 1 rfl) (T_talk_Deed.g2 he7), _, rfl, ?_⟩
          refine split_dec_e e (fun c24 e => ?_) (fun c24 e => ?_)
          · have O22 := O13.nm
            cases e
            exact ⟨_, O22.pick [], rfl⟩
          · have O23 := O13.nm
            exact (ih _ _ e) _ _ _ _ _ _ _ _ _ _ _ _ _ _ _ (O23.pick [0, 1]).nm e_1 he7 rfl k_60 r_60 rfl k_70 r_70
  · exact (ih _ _ e) _ _ _ _ _ _ _ _ _ _ (O.pick [0]).nm e_1 rfl k_60 r_60
set_option maxRecDepth 100000 in
theorem talk_Check.l1_k.step_j1 (go : (p : talk_Check.l1_k.Pt) → Option (Int)) (ih : ∀ p r, go p = some r → talk_Check.l1_k.I p r) (y_1 : T_talk_Net) (x_5 : Int) (y_8 : T_talk_Deed) (a_60 : List (List T_talk_Deed)) (x_61 : Int) (x_62 : Int) (a_70 : List T_talk_Deed) (x_71 : Int) (x_72 : Int) (r : Int) (e : talk_Check.l1_k.body go (.j1 y_1 x_5 y_8 a_60 x_61 x_62 a_70 x_71 x_72) = some r) : talk_Check.l1_k.I (.j1 y_1 x_5 y_8 a_60 x_61 x_62 a_70 x_71 x_72) r := by
  unfold talk_Check.l1_k.body at e
  intro W h0 m0 h m bk_1 cs_1 bk_8 cs_8 A_60 n_60 c_60 A_70 n_70 c_70 O e_1 e_8 ne_60 k_60 r_60 ne_70 k_70 r_70
  subst ne_60
  subst ne_70
  refine f43.j1_in ?_
  unfold f43.j1T
  obtain ⟨A1, c2, q3, k4, r5⟩ := T_talk_Net.g0 e_1
  refine ⟨_, ld0 (Sub.refl _) (O.all 0 rfl) q3, _, _, _, rfl, ?_⟩
  refine ⟨_, ld0 (Sub.refl _) (O.all 1 rfl) (T_talk_Deed.g0 e_8), _, rfl, ?_⟩
  obtain ⟨y6, g7, e⟩ := bind_e e
  refine r5.addr rfl g7 fun a8 cs9 ha10 hc11 he12 => ?_
  refine ⟨_, ldAn O.s hc11 rfl, ?_⟩
  refine O.new fun h13 x14 O15 => ?_
  refine ⟨_, rfl, (T_talk_Line.T.len _ _ _ he12), ?_⟩
  refine O15.stA 2 rfl (T_talk_Line.T.len _ _ _ he12) (T_talk_Line.T.flat _ _ _ he12) fun h17 O18 => ?_
  refine ⟨_, ld0 (Sub.refl _) (O18.all 2 rfl) (T_talk_Line.g0 he12), _, rfl, ?_⟩
  refine split_ne_e e (fun c23 e => ?_) (fun c23 e => ?_)
  · refine ⟨_, ldk (k := 1) (Sub.refl _) (O18.all 2 rfl) (T_talk_Line.g1 he12), _, rfl, ?_⟩
    refine split_ne_e e (fun c21 e => ?_) (fun c21 e => ?_)
    · have O19 := O18.nm
      cases e
      exact ⟨_, O19.pick [], rfl⟩
    · have O20 := O18.nm
      exact (ih _ _ e) _ _ _ _ _ _ _ _ _ _ _ _ _ (O20.pick [0]).nm e_1 rfl k_60 r_60 rfl k_70 r_70
  · have O22 := O18.nm
    exact (ih _ _ e) _ _ _ _ _ _ _ _ _ _ _ _ _ (O22.pick [0]).nm e_1 rfl k_60 r_60 rfl k_70 r_70
theorem talk_Check.l1_k.all {p : talk_Check.l1_k.Pt} {r : (Int)} (e : talk_Check.l1_k.go p = some r) : talk_Check.l1_k.I p r := fixF_ind (β := fun _ => (Int)) talk_Check.l1_k.mono (I := talk_Check.l1_k.I) (fun go ih p r e => match p with
  | .l1 y_1 a_60 x_61 x_62 => talk_Check.l1_k.step_l1 go ih y_1 a_60 x_61 x_62 r e
  | .l2 y_1 x_5 a_60 x_61 x_62 a_70 x_71 x_72 => talk_Check.l1_k.step_l2 go ih y_1 x_5 a_60 x_61 x_62 a_70 x_71 x_72 r e
  | .j1 y_1 x_5 y_8 a_60 x_61 x_62 a_70 x_71 x_72 => talk_Check.l1_k.step_j1 go ih y_1 x_5 y_8 a_60 x_61 x_62 a_70 x_71 x_72 r e
  ) e
theorem talk_Check.l1.walk {W : Nat → Prop} {h0 m0 h m : Heap} {bk_1 : Nat} {cs_1 : List Value} {A_60 : Option Addr} {n_60 c_60 : Nat} {y_1 : T_talk_Net} {a_60 : List (List T_talk_Deed)} {x_61 : Int} {x_62 : Int} (O : Hold W h0 m0 h m [rV bk_1 78 cs_1]) (e_1 : T_talk_Net.E m y_1 cs_1) (ne_60 : n_60 = List.length a_60) (k_60 : List.length a_60 ≤ c_60) (r_60 : Rd 1 (eRow 3 T_talk_Deed.E) m A_60 a_60) {r : Int} (e : talk_Check.l1 y_1 a_60 x_61 x_62 = some r) : f43.l1 (talk_Check.post W h0 m0 r) (⟨bk_1, 0, none⟩ : Addr) A_60 n_60 c_60 x_61 x_62 h := talk_Check.l1_k.all (p := .l1 y_1 a_60 x_61 x_62) e W h0 m0 h m bk_1 cs_1 A_60 n_60 c_60 O e_1 ne_60 k_60 r_60
inductive talk_Check.l0_k.Pt where
  | l0 (y_1 : T_talk_Net) (a_21 : List T_talk_Line) (x_22 : Int) (x_23 : Int)
noncomputable def talk_Check.l0_k.body (go : (p : talk_Check.l0_k.Pt) → Option (Int)) : (p : talk_Check.l0_k.Pt) → Option (Int)
  | .l0 y_1 a_21 x_22 x_23 => if x_23 < x_22 then (Option.bind (gi a_21 x_23) fun y1 => if y1.A < (0 : Int) then (some ((1 : Int))) else (if y1.B < (0 : Int) then (some ((1 : Int))) else (if y1.A ≥ (((List.length y_1.Who) : Nat) : Int) then (some ((1 : Int))) else (if y1.B ≥ (((List.length y_1.Who) : Nat) : Int) then (some ((1 : Int))) else (if y1.A = y1.B then (some ((1 : Int))) else ((go (.l0 y_1 a_21 x_22 (IntKind.wrap .i64 (x_23 + (1 : Int))))))))))) else ((talk_Check.l1 y_1 y_1.Who (((List.length y_1.Who) : Nat) : Int) (0 : Int)))
theorem talk_Check.l0_k.mono : MonoF (β := fun _ => (Int)) talk_Check.l0_k.body := fun f g hfg p => match p with
  | .l0 y_1 a_21 x_22 x_23 => LeO.ite (LeO.bind (LeO.refl _) fun y1 => LeO.ite (LeO.refl _) (LeO.ite (LeO.refl _) (LeO.ite (LeO.refl _) (LeO.ite (LeO.refl _) (LeO.ite (LeO.refl _) ((hfg _))))))) ((LeO.refl _))
noncomputable def talk_Check.l0_k.go (p : talk_Check.l0_k.Pt) : Option (Int) := fixF (β := fun _ => (Int)) talk_Check.l0_k.body p
noncomputable def talk_Check.l0 (y_1 : T_talk_Net) (a_21 : List T_talk_Line) (x_22 : Int) (x_23 : Int) : Option (Int) := talk_Check.l0_k.go (.l0 y_1 a_21 x_22 x_23)
theorem talk_Check.l0_eq (y_1 : T_talk_Net) (a_21 : List T_talk_Line) (x_22 : Int) (x_23 : Int) : talk_Check.l0 y_1 a_21 x_22 x_23 = if x_23 < x_22 then (Option.bind (gi a_21 x_23) fun y1 => if y1.A < (0 : Int) then (some ((1 : Int))) else (if y1.B < (0 : Int) then (some ((1 : Int))) else (if y1.A ≥ (((List.length y_1.Who) : Nat) : Int) then (some ((1 : Int))) else (if y1.B ≥ (((List.length y_1.Who) : Nat) : Int) then (some ((1 : Int))) else (if y1.A = y1.B then (some ((1 : Int))) else ((talk_Check.l0 y_1 a_21 x_22 (IntKind.wrap .i64 (x_23 + (1 : Int)))))))))) else ((talk_Check.l1 y_1 y_1.Who (((List.length y_1.Who) : Nat) : Int) (0 : Int))) := fixF_eq talk_Check.l0_k.mono _
def talk_Check.l0_k.I : (p : talk_Check.l0_k.Pt) → (Int) → Prop
  | .l0 y_1 a_21 x_22 x_23, r => ∀ (W : Nat → Prop) (h0 m0 h m : Heap) (bk_1 : Nat) (cs_1 : List Value) (A_21 : Option Addr) (n_21 c_21 : Nat) (O : Hold W h0 m0 h m [rV bk_1 78 cs_1]) (e_1 : T_talk_Net.E m y_1 cs_1) (ne_21 : n_21 = List.length a_21) (k_21 : List.length a_21 ≤ c_21) (r_21 : Rd 2 T_talk_Line.E m A_21 a_21), f43.l0 (talk_Check.post W h0 m0 r) (⟨bk_1, 0, none⟩ : Addr) A_21 n_21 c_21 x_22 x_23 h
set_option maxHeartbeats 4000000 in
set_option maxRecDepth 100000 in
theorem talk_Check.l0_k.step_l0 (go : (p : talk_Check.l0_k.Pt) → Option (Int)) (ih : ∀ p r, go p = some r → talk_Check.l0_k.I p r) (y_1 : T_talk_Net) (a_21 : List T_talk_Line) (x_22 : Int) (x_23 : Int) (r : Int) (e : talk_Check.l0_k.body go (.l0 y_1 a_21 x_22 x_23) = some r) : talk_Check.l0_k.I (.l0 y_1 a_21 x_22 x_23) r := by
  unfold talk_Check.l0_k.body at e
  intro W h0 m0 h m bk_1 cs_1 A_21 n_21 c_21 O e_1 ne_21 k_21 r_21
  subst ne_21
  refine f43.l0_in ?_
  unfold f43.l0T
  refine split_dec_e e (fun c40 e => ?_) (fun c40 e => ?_)
  · obtain ⟨y1, g2, e⟩ := bind_e e
    refine r_21.addr rfl g2 fun a3 cs4 ha5 hc6 he7 => ?_
    refine ⟨_, ldAn O.s hc6 rfl, ?_⟩
    refine O.new fun h8 x9 O10 => ?_
    refine ⟨_, rfl, (T_talk_Line.T.len _ _ _ he7), ?_⟩
    refine O10.stA 1 rfl (T_talk_Line.T.len _ _ _ he7) (T_talk_Line.T.flat _ _ _ he7) fun h12 O13 => ?_
    refine ⟨_, ld0 (Sub.refl _) (O13.all 1 rfl) (T_talk_Line.g0 he7), _, rfl, ?_⟩
    refine split_dec_e e (fun c34 e => ?_) (fun c34 e => ?_)
    · have O14 := O13.nm
      cases e
      exact ⟨_, O14.pick [], rfl⟩
    · refine ⟨_, ldk (k := 1) (Sub.refl _) (O13.all 1 rfl) (T_talk_Line.g1 he7), _, rfl, ?_⟩
      refine split_dec_e e (fun c33 e => ?_) (fun c33 e => ?_)
      · have O15 := O13.nm
        cases e
        exact ⟨_, O15.pick [], rfl⟩
      · refine ⟨_, ld0 (Sub.refl _) (O13.all 1 rfl) (T_talk_Line.g0 he7), _, rfl, ?_⟩
        obtain ⟨A16, c17, q18, k19, r20⟩ := T_talk_Net.g1 e_1
        refine ⟨_, ldk (k := 1) (Sub.refl _) (O13.all 0 rfl) q18, _, _, _, rfl, ?_⟩
        refine split_dec_e e (fun c32 e => ?_) (fun c32 e => ?_)
        · have O21 := O13.nm
          cases e
          exact ⟨_, O21.pick [], rfl⟩
        · refine ⟨_, ldk (k := 1) (Sub.refl _) (O13.all 1 rfl) (T_talk_Line.g1 he7), _, rfl, ?_⟩
          obtain ⟨A22, c23, q24, k25, r26⟩ := T_talk_Net.g1 e_1
          refine ⟨_, ldk (k := 1) (Sub.refl _) (O13.all 0 rfl) q24, _, _, _, rfl, ?_⟩
          refine split_dec_e e (fun c31 e => ?_) (fun c31 e => ?_)
          · have O27 := O13.nm
            cases e
            exact ⟨_, O27.pick [], rfl⟩
          · refine ⟨_, ld0 (Sub.refl _) (O13.all 1 rfl) (T_talk_Line.g0 he7), _, rfl, ?_⟩
            refine ⟨_, ldk (k := 1) (Sub.refl _) (O13.all 1 rfl) (T_talk_Line.g1 he7), _, rfl, ?_⟩
            refine split_eq_e e (fun c30 e => ?_) (fun c30 e => ?_)
            · have O28 := O13.nm
              cases e
              exact ⟨_, O28.pick [], rfl⟩
            · have O29 := O13.nm
              exact (ih _ _ e) _ _ _ _ _ _ _ _ _ _ (O29.pick [0]).nm e_1 rfl k_21 r_21
  · obtain ⟨A35, c36, q37, k38, r39⟩ := T_talk_Net.g1 e_1
    refine ⟨_, ldk (k := 1) (Sub.refl _) (O.all 0 rfl) q37, _, _, _, rfl, ?_⟩
    exact talk_Check.l1.walk (O.pick [0]).nm e_1 rfl k38 r39 e
theorem talk_Check.l0_k.all {p : talk_Check.l0_k.Pt} {r : (Int)} (e : talk_Check.l0_k.go p = some r) : talk_Check.l0_k.I p r := fixF_ind (β := fun _ => (Int)) talk_Check.l0_k.mono (I := talk_Check.l0_k.I) (fun go ih p r e => match p with
  | .l0 y_1 a_21 x_22 x_23 => talk_Check.l0_k.step_l0 go ih y_1 a_21 x_22 x_23 r e
  ) e
theorem talk_Check.l0.walk {W : Nat → Prop} {h0 m0 h m : Heap} {bk_1 : Nat} {cs_1 : List Value} {A_21 : Option Addr} {n_21 c_21 : Nat} {y_1 : T_talk_Net} {a_21 : List T_talk_Line} {x_22 : Int} {x_23 : Int} (O : Hold W h0 m0 h m [rV bk_1 78 cs_1]) (e_1 : T_talk_Net.E m y_1 cs_1) (ne_21 : n_21 = List.length a_21) (k_21 : List.length a_21 ≤ c_21) (r_21 : Rd 2 T_talk_Line.E m A_21 a_21) {r : Int} (e : talk_Check.l0 y_1 a_21 x_22 x_23 = some r) : f43.l0 (talk_Check.post W h0 m0 r) (⟨bk_1, 0, none⟩ : Addr) A_21 n_21 c_21 x_22 x_23 h := talk_Check.l0_k.all (p := .l0 y_1 a_21 x_22 x_23) e W h0 m0 h m bk_1 cs_1 A_21 n_21 c_21 O e_1 ne_21 k_21 r_21
noncomputable def talk_Check.j0 (y_1 : T_talk_Net) : Option (Int) :=
  (talk_Check.l0 y_1 y_1.Lines (((List.length y_1.Lines) : Nat) : Int) (0 : Int))
set_option maxRecDepth 100000 in
theorem talk_Check.j0.walk {W : Nat → Prop} {h0 m0 h m : Heap} {bk_1 : Nat} {cs_1 : List Value} {y_1 : T_talk_Net} (O : Hold W h0 m0 h m [rV bk_1 78 cs_1]) (e_1 : T_talk_Net.E m y_1 cs_1) {r : Int} (e : talk_Check.j0 y_1 = some r) : f43.j0 (talk_Check.post W h0 m0 r) (⟨bk_1, 0, none⟩ : Addr) h := by
  unfold talk_Check.j0 at e
  refine f43.j0_in ?_
  unfold f43.j0T
  obtain ⟨A1, c2, q3, k4, r5⟩ := T_talk_Net.g0 e_1
  refine ⟨_, ld0 (Sub.refl _) (O.all 0 rfl) q3, _, _, _, rfl, ?_⟩
  exact talk_Check.l0.walk (O.pick [0]).nm e_1 rfl k4 r5 e
noncomputable def talk_Check (y_0 : T_talk_Net) : Option (Int) :=
  if (((List.length y_0.Who) : Nat) : Int) > (8 : Int) then (some ((2 : Int))) else (if (((List.length y_0.Lines) : Nat) : Int) > (12 : Int) then (some ((2 : Int))) else ((talk_Check.j0 y_0)))
set_option maxRecDepth 100000 in
theorem talk_Check.walk {W : Nat → Prop} {h m : Heap} {cs_0 : List Value} {y_0 : T_talk_Net} (O : Hold W h m h m []) (e_0 : T_talk_Net.E m y_0 cs_0) {r : Int} (e : talk_Check y_0 = some r) : Run Try.prog 43 #[Value.agg cs_0.toArray] h (talk_Check.post W h m r) := by
  unfold talk_Check at e
  refine f43.run ?_
  unfold f43.runT
  refine O.new fun h1 x2 O3 => ?_
  obtain ⟨A5, c6, q7, k8, r9⟩ := T_talk_Net.g1 e_0
  refine ⟨_, ldk (k := 1) (Sub.refl _) (O3.all 0 rfl) q7, _, _, _, rfl, ?_⟩
  refine split_dec_e e (fun c19 e => ?_) (fun c19 e => ?_)
  · have O10 := O3.nm
    cases e
    exact ⟨_, O10.pick [], rfl⟩
  · obtain ⟨A11, c12, q13, k14, r15⟩ := T_talk_Net.g0 e_0
    refine ⟨_, ld0 (Sub.refl _) (O3.all 0 rfl) q13, _, _, _, rfl, ?_⟩
    refine split_dec_e e (fun c18 e => ?_) (fun c18 e => ?_)
    · have O16 := O3.nm
      cases e
      exact ⟨_, O16.pick [], rfl⟩
    · have O17 := O3.nm
      exact talk_Check.j0.walk (O17.pick [0]).nm e_0 e
def slices_EqualFunc_69.post (W : Nat → Prop) (h0 m0 : Heap) (r : Bool) (v : Value) (h : Heap) : Prop := ∃ m , Hold W h0 m0 h m [] ∧ v = .bool r
inductive slices_EqualFunc_69.l0_k.Pt where
  | l0 (a_1 : List T_talk_Deed) (p_2 : T_talk_Deed → T_talk_Deed → Option Bool) (a_15 : List T_talk_Deed) (x_16 : Int) (x_17 : Int)
noncomputable def slices_EqualFunc_69.l0_k.body (go : (p : slices_EqualFunc_69.l0_k.Pt) → Option (Bool)) : (p : slices_EqualFunc_69.l0_k.Pt) → Option (Bool)
  | .l0 a_1 p_2 a_15 x_16 x_17 => if x_17 < x_16 then (Option.bind (gi a_15 x_17) fun y1 => Option.bind (gi a_1 x_17) fun y14 => Option.bind (p_2 y1 y14) fun y27 => if y27 = true then ((go (.l0 a_1 p_2 a_15 x_16 (IntKind.wrap .i64 (x_17 + (1 : Int)))))) else (some (false))) else (some (true))
theorem slices_EqualFunc_69.l0_k.mono : MonoF (β := fun _ => (Bool)) slices_EqualFunc_69.l0_k.body := fun f g hfg p => match p with
  | .l0 a_1 p_2 a_15 x_16 x_17 => LeO.ite (LeO.bind (LeO.refl _) fun y1 => LeO.bind (LeO.refl _) fun y14 => LeO.bind (LeO.refl _) fun y27 => LeO.ite ((hfg _)) (LeO.refl _)) (LeO.refl _)
noncomputable def slices_EqualFunc_69.l0_k.go (p : slices_EqualFunc_69.l0_k.Pt) : Option (Bool) := fixF (β := fun _ => (Bool)) slices_EqualFunc_69.l0_k.body p
noncomputable def slices_EqualFunc_69.l0 (a_1 : List T_talk_Deed) (p_2 : T_talk_Deed → T_talk_Deed → Option Bool) (a_15 : List T_talk_Deed) (x_16 : Int) (x_17 : Int) : Option (Bool) := slices_EqualFunc_69.l0_k.go (.l0 a_1 p_2 a_15 x_16 x_17)
theorem slices_EqualFunc_69.l0_eq (a_1 : List T_talk_Deed) (p_2 : T_talk_Deed → T_talk_Deed → Option Bool) (a_15 : List T_talk_Deed) (x_16 : Int) (x_17 : Int) : slices_EqualFunc_69.l0 a_1 p_2 a_15 x_16 x_17 = if x_17 < x_16 then (Option.bind (gi a_15 x_17) fun y1 => Option.bind (gi a_1 x_17) fun y14 => Option.bind (p_2 y1 y14) fun y27 => if y27 = true then ((slices_EqualFunc_69.l0 a_1 p_2 a_15 x_16 (IntKind.wrap .i64 (x_17 + (1 : Int))))) else (some (false))) else (some (true)) := fixF_eq slices_EqualFunc_69.l0_k.mono _
def slices_EqualFunc_69.l0_k.I : (p : slices_EqualFunc_69.l0_k.Pt) → (Bool) → Prop
  | .l0 a_1 p_2 a_15 x_16 x_17, r => ∀ (W : Nat → Prop) (h0 m0 h m : Heap) (A_1 : Option Addr) (n_1 c_1 : Nat) (fv_2 : Value) (A_15 : Option Addr) (n_15 c_15 : Nat) (O : Hold W h0 m0 h m []) (ne_1 : n_1 = List.length a_1) (k_1 : List.length a_1 ≤ c_1) (r_1 : Rd 3 T_talk_Deed.E m A_1 a_1) (f_2 : ∀ h' m', Sub m0 m' → Sub m' h' → ∀ (y0 : T_talk_Deed) (cs0 : List Value) (_ : T_talk_Deed.E m' y0 cs0) (y1 : T_talk_Deed) (cs1 : List Value) (_ : T_talk_Deed.E m' y1 cs1) (r : Bool), p_2 y0 y1 = some r → CallF Try.prog fv_2 [.agg cs0.toArray, .agg cs1.toArray] h' (fun v h'' => v = .bool r ∧ Ext h' h'')) (ne_15 : n_15 = List.length a_15) (k_15 : List.length a_15 ≤ c_15) (r_15 : Rd 3 T_talk_Deed.E m A_15 a_15), f69.l0 (slices_EqualFunc_69.post W h0 m0 r) A_1 n_1 c_1 fv_2 A_15 n_15 c_15 x_16 x_17 h
set_option maxRecDepth 100000 in
theorem slices_EqualFunc_69.l0_k.step_l0 (go : (p : slices_EqualFunc_69.l0_k.Pt) → Option (Bool)) (ih : ∀ p r, go p = some r → slices_EqualFunc_69.l0_k.I p r) (a_1 : List T_talk_Deed) (p_2 : T_talk_Deed → T_talk_Deed → Option Bool) (a_15 : List T_talk_Deed) (x_16 : Int) (x_17 : Int) (r : Bool) (e : slices_EqualFunc_69.l0_k.body go (.l0 a_1 p_2 a_15 x_16 x_17) = some r) : slices_EqualFunc_69.l0_k.I (.l0 a_1 p_2 a_15 x_16 x_17) r := by
  unfold slices_EqualFunc_69.l0_k.body at e
  intro W h0 m0 h m A_1 n_1 c_1 fv_2 A_15 n_15 c_15 O ne_1 k_1 r_1 f_2 ne_15 k_15 r_15
  subst ne_1
  subst ne_15
  refine f69.l0_in ?_
  unfold f69.l0T
  refine split_dec_e e (fun c35 e => ?_) (fun c35 e => ?_)
  · obtain ⟨y1, g2, e⟩ := bind_e e
    refine r_15.addr rfl g2 fun a3 cs4 ha5 hc6 he7 => ?_
    refine ⟨_, ldAn O.s hc6 rfl, ?_⟩
    refine O.new fun h8 x9 O10 => ?_
    refine ⟨_, rfl, (T_talk_Deed.T.len _ _ _ he7), ?_⟩
    refine O10.stA 0 rfl (T_talk_Deed.T.len _ _ _ he7) (T_talk_Deed.T.flat _ _ _ he7) fun h12 O13 => ?_
    obtain ⟨y14, g15, e⟩ := bind_e e
    refine r_1.addr rfl g15 fun a16 cs17 ha18 hc19 he20 => ?_
    refine ⟨_, ldAn O13.s hc19 rfl, ?_⟩
    refine O13.new fun h21 x22 O23 => ?_
    refine ⟨_, rfl, (T_talk_Deed.T.len _ _ _ he20), ?_⟩
    refine O23.stA 1 rfl (T_talk_Deed.T.len _ _ _ he20) (T_talk_Deed.T.flat _ _ _ he20) fun h25 O26 => ?_
    refine ⟨_, ldAn (Sub.refl _) (O26.all 0 rfl) (T_talk_Deed.T.len _ _ _ he7), ?_⟩
    refine ⟨_, ldAn (Sub.refl _) (O26.all 1 rfl) (T_talk_Deed.T.len _ _ _ he20), ?_⟩
    obtain ⟨y27, g28, e⟩ := bind_e e
    refine CallF.mono (f_2 _ _ O.up O26.s _ _ he7 _ _ he20 _ g28) ?_
    rintro _ h29 ⟨rfl, x30⟩
    have O31 := O26.ext x30
    refine ⟨_, rfl, ?_⟩
    refine split_not ?_
    refine split_any_e e (fun c34 e => ?_) (fun c34 e => ?_)
    · have O32 := O31.nm
      exact (ih _ _ e) _ _ _ _ _ _ _ _ _ _ _ _ (O32.pick []).nm rfl k_1 r_1 f_2 rfl k_15 r_15
    · have O33 := O31.nm
      cases e
      exact ⟨_, O33.pick [], rfl⟩
  · cases e
    exact ⟨_, O.pick [], rfl⟩
theorem slices_EqualFunc_69.l0_k.all {p : slices_EqualFunc_69.l0_k.Pt} {r : (Bool)} (e : slices_EqualFunc_69.l0_k.go p = some r) : slices_EqualFunc_69.l0_k.I p r := fixF_ind (β := fun _ => (Bool)) slices_EqualFunc_69.l0_k.mono (I := slices_EqualFunc_69.l0_k.I) (fun go ih p r e => match p with
  | .l0 a_1 p_2 a_15 x_16 x_17 => slices_EqualFunc_69.l0_k.step_l0 go ih a_1 p_2 a_15 x_16 x_17 r e
  ) e
theorem slices_EqualFunc_69.l0.walk {W : Nat → Prop} {h0 m0 h m : Heap} {A_1 : Option Addr} {n_1 c_1 : Nat} {fv_2 : Value} {A_15 : Option Addr} {n_15 c_15 : Nat} {a_1 : List T_talk_Deed} {p_2 : T_talk_Deed → T_talk_Deed → Option Bool} {a_15 : List T_talk_Deed} {x_16 : Int} {x_17 : Int} (O : Hold W h0 m0 h m []) (ne_1 : n_1 = List.length a_1) (k_1 : List.length a_1 ≤ c_1) (r_1 : Rd 3 T_talk_Deed.E m A_1 a_1) (f_2 : ∀ h' m', Sub m0 m' → Sub m' h' → ∀ (y0 : T_talk_Deed) (cs0 : List Value) (_ : T_talk_Deed.E m' y0 cs0) (y1 : T_talk_Deed) (cs1 : List Value) (_ : T_talk_Deed.E m' y1 cs1) (r : Bool), p_2 y0 y1 = some r → CallF Try.prog fv_2 [.agg cs0.toArray, .agg cs1.toArray] h' (fun v h'' => v = .bool r ∧ Ext h' h'')) (ne_15 : n_15 = List.length a_15) (k_15 : List.length a_15 ≤ c_15) (r_15 : Rd 3 T_talk_Deed.E m A_15 a_15) {r : Bool} (e : slices_EqualFunc_69.l0 a_1 p_2 a_15 x_16 x_17 = some r) : f69.l0 (slices_EqualFunc_69.post W h0 m0 r) A_1 n_1 c_1 fv_2 A_15 n_15 c_15 x_16 x_17 h := slices_EqualFunc_69.l0_k.all (p := .l0 a_1 p_2 a_15 x_16 x_17) e W h0 m0 h m A_1 n_1 c_1 fv_2 A_15 n_15 c_15 O ne_1 k_1 r_1 f_2 ne_15 k_15 r_15
noncomputable def slices_EqualFunc_69 (a_0 : List T_talk_Deed) (a_1 : List T_talk_Deed) (p_2 : T_talk_Deed → T_talk_Deed → Option Bool) : Option (Bool) :=
  if (((List.length a_0) : Nat) : Int) = (((List.length a_1) : Nat) : Int) then ((slices_EqualFunc_69.l0 a_1 p_2 a_0 (((List.length a_0) : Nat) : Int) (0 : Int))) else (some (false))
set_option maxRecDepth 100000 in
theorem slices_EqualFunc_69.walk {W : Nat → Prop} {h m : Heap} {A_0 : Option Addr} {n_0 c_0 : Nat} {A_1 : Option Addr} {n_1 c_1 : Nat} {fv_2 : Value} {a_0 : List T_talk_Deed} {a_1 : List T_talk_Deed} {p_2 : T_talk_Deed → T_talk_Deed → Option Bool} (O : Hold W h m h m []) (ne_0 : n_0 = List.length a_0) (k_0 : List.length a_0 ≤ c_0) (r_0 : Rd 3 T_talk_Deed.E m A_0 a_0) (ne_1 : n_1 = List.length a_1) (k_1 : List.length a_1 ≤ c_1) (r_1 : Rd 3 T_talk_Deed.E m A_1 a_1) (f_2 : ∀ h' m', Sub m m' → Sub m' h' → ∀ (y0 : T_talk_Deed) (cs0 : List Value) (_ : T_talk_Deed.E m' y0 cs0) (y1 : T_talk_Deed) (cs1 : List Value) (_ : T_talk_Deed.E m' y1 cs1) (r : Bool), p_2 y0 y1 = some r → CallF Try.prog fv_2 [.agg cs0.toArray, .agg cs1.toArray] h' (fun v h'' => v = .bool r ∧ Ext h' h'')) {r : Bool} (e : slices_EqualFunc_69 a_0 a_1 p_2 = some r) : Run Try.prog 69 #[Value.slice A_0 n_0 c_0, Value.slice A_1 n_1 c_1, fv_2] h (slices_EqualFunc_69.post W h m r) := by
  unfold slices_EqualFunc_69 at e
  subst ne_0
  subst ne_1
  refine f69.run ?_
  unfold f69.runT
  refine split_ne_e e (fun c1 e => ?_) (fun c1 e => ?_)
  · cases e
    exact ⟨_, O.pick [], rfl⟩
  · exact slices_EqualFunc_69.l0.walk (O.pick []).nm rfl k_1 r_1 f_2 rfl k_0 r_0 e
theorem slices_EqualFunc_69.val {l : List T_talk_Deed} {m : List T_talk_Deed} {p : T_talk_Deed → T_talk_Deed → Option Bool} (q : T_talk_Deed → T_talk_Deed → Bool) (hp : ∀ x ∈ l, ∀ y ∈ m, p x y = some (q x y)) (hl : l.length ≤ 4611686018427387904) : slices_EqualFunc_69 l m p = some (decide (l.length = m.length) && (l.zip m).all fun x => q x.1 x.2) := equalFunc_val (fun a b p n i => slices_EqualFunc_69.l0_eq b p a n i) (fun _ _ _ => rfl) q hp hl
def talk_part.post (W : Nat → Prop) (h0 m0 : Heap) (r : (List T_talk_Deed)) (v : Value) (h : Heap) : Prop := ∃ m A0 n0 c0, Hold W h0 m0 h m [rR (aE T_talk_Deed.T) A0 c0 r] ∧ v = .slice A0 n0 c0 ∧ n0 = List.length r
inductive talk_part.l0_k.Pt where
  | l0 (x_1 : Int) (a_5 : List T_talk_Deed) (a_8 : List T_talk_Deed) (x_9 : Int) (x_10 : Int)
noncomputable def talk_part.l0_k.body (go : (p : talk_part.l0_k.Pt) → Option ((List T_talk_Deed))) : (p : talk_part.l0_k.Pt) → Option ((List T_talk_Deed))
  | .l0 x_1 a_5 a_8 x_9 x_10 => if x_10 < x_9 then (Option.bind (gi a_8 x_10) fun y1 => if y1.Line = x_1 then (Option.bind (ap 24 a_5 ([y1] : List T_talk_Deed)) fun l19 => (go (.l0 x_1 l19 a_8 x_9 (IntKind.wrap .i64 (x_10 + (1 : Int)))))) else ((go (.l0 x_1 a_5 a_8 x_9 (IntKind.wrap .i64 (x_10 + (1 : Int))))))) else (some (a_5))
theorem talk_part.l0_k.mono : MonoF (β := fun _ => ((List T_talk_Deed))) talk_part.l0_k.body := fun f g hfg p => match p with
  | .l0 x_1 a_5 a_8 x_9 x_10 => LeO.ite (LeO.bind (LeO.refl _) fun y1 => LeO.ite (LeO.bind (LeO.refl _) fun l19 => (hfg _)) ((hfg _))) (LeO.refl _)
noncomputable def talk_part.l0_k.go (p : talk_part.l0_k.Pt) : Option ((List T_talk_Deed)) := fixF (β := fun _ => ((List T_talk_Deed))) talk_part.l0_k.body p
noncomputable def talk_part.l0 (x_1 : Int) (a_5 : List T_talk_Deed) (a_8 : List T_talk_Deed) (x_9 : Int) (x_10 : Int) : Option ((List T_talk_Deed)) := talk_part.l0_k.go (.l0 x_1 a_5 a_8 x_9 x_10)
theorem talk_part.l0_eq (x_1 : Int) (a_5 : List T_talk_Deed) (a_8 : List T_talk_Deed) (x_9 : Int) (x_10 : Int) : talk_part.l0 x_1 a_5 a_8 x_9 x_10 = if x_10 < x_9 then (Option.bind (gi a_8 x_10) fun y1 => if y1.Line = x_1 then (Option.bind (ap 24 a_5 ([y1] : List T_talk_Deed)) fun l19 => (talk_part.l0 x_1 l19 a_8 x_9 (IntKind.wrap .i64 (x_10 + (1 : Int))))) else ((talk_part.l0 x_1 a_5 a_8 x_9 (IntKind.wrap .i64 (x_10 + (1 : Int)))))) else (some (a_5)) := fixF_eq talk_part.l0_k.mono _
def talk_part.l0_k.I : (p : talk_part.l0_k.Pt) → ((List T_talk_Deed)) → Prop
  | .l0 x_1 a_5 a_8 x_9 x_10, r => ∀ (W : Nat → Prop) (h0 m0 h m : Heap) (A_5 : Option Addr) (n_5 c_5 : Nat) (A_8 : Option Addr) (n_8 c_8 : Nat) (O : Hold W h0 m0 h m [rR (aE T_talk_Deed.T) A_5 c_5 a_5]) (ne_5 : n_5 = List.length a_5) (ne_8 : n_8 = List.length a_8) (k_8 : List.length a_8 ≤ c_8) (r_8 : Rd 3 T_talk_Deed.E m A_8 a_8), f70.l0 (talk_part.post W h0 m0 r) x_1 A_5 n_5 c_5 A_8 n_8 c_8 x_9 x_10 h
set_option maxRecDepth 100000 in
theorem talk_part.l0_k.step_l0 (go : (p : talk_part.l0_k.Pt) → Option ((List T_talk_Deed))) (ih : ∀ p r, go p = some r → talk_part.l0_k.I p r) (x_1 : Int) (a_5 : List T_talk_Deed) (a_8 : List T_talk_Deed) (x_9 : Int) (x_10 : Int) (r : (List T_talk_Deed)) (e : talk_part.l0_k.body go (.l0 x_1 a_5 a_8 x_9 x_10) = some r) : talk_part.l0_k.I (.l0 x_1 a_5 a_8 x_9 x_10) r := by
  unfold talk_part.l0_k.body at e
  intro W h0 m0 h m A_5 n_5 c_5 A_8 n_8 c_8 O ne_5 ne_8 k_8 r_8
  subst ne_5
  subst ne_8
  refine f70.l0_in ?_
  unfold f70.l0T
  refine split_dec_e e (fun c31 e => ?_) (fun c31 e => ?_)
  · obtain ⟨y1, g2, e⟩ := bind_e e
    refine r_8.addr rfl g2 fun a3 cs4 ha5 hc6 he7 => ?_
    refine ⟨_, ldAn O.s hc6 rfl, ?_⟩
    refine O.new fun h8 x9 O10 => ?_
    refine ⟨_, rfl, (T_talk_Deed.T.len _ _ _ he7), ?_⟩
    refine O10.stA 1 rfl (T_talk_Deed.T.len _ _ _ he7) (T_talk_Deed.T.flat _ _ _ he7) fun h12 O13 => ?_
    refine ⟨_, ld0 (Sub.refl _) (O13.all 1 rfl) (T_talk_Deed.g0 he7), _, rfl, ?_⟩
    refine split_eq_e e (fun c30 e => ?_) (fun c30 e => ?_)
    · refine ⟨_, ldAn (Sub.refl _) (O13.all 1 rfl) (T_talk_Deed.T.len _ _ _ he7), ?_⟩
      refine ⟨cs4, rfl, (T_talk_Deed.T.len _ _ _ he7), ?_⟩
      refine O13.new fun h14 x15 O16 => ?_
      have O18 := O16.recell 2 rfl (cs' := cs4 ++ []) rfl
      obtain ⟨l19, g20, e⟩ := bind_e e
      have O27 := O18.rowE (l := ([y1] : List T_talk_Deed)) 2 rfl T_talk_Deed.T (show CsE _ _ _ _ _ from (CsE.cons he7 (T_talk_Deed.T.len _ _ _ he7) CsE.nil)) rfl
      refine O27.app 0 rfl rfl rfl ((O27.os 2 rfl).srcE rfl) (by decide) g20 fun A21 c22 h23 O24 => ?_
      refine ⟨_, _, _, rfl, ?_⟩
      have O28 := O24.nm
      exact (ih _ _ e) _ _ _ _ _ _ _ _ _ _ _ (O28.pick [0]).nm rfl rfl k_8 r_8
    · have O29 := O13.nm
      exact (ih _ _ e) _ _ _ _ _ _ _ _ _ _ _ (O29.pick [0]).nm rfl rfl k_8 r_8
  · cases e
    exact ⟨_, _, _, _, O.pick [0], rfl, rfl⟩
theorem talk_part.l0_k.all {p : talk_part.l0_k.Pt} {r : ((List T_talk_Deed))} (e : talk_part.l0_k.go p = some r) : talk_part.l0_k.I p r := fixF_ind (β := fun _ => ((List T_talk_Deed))) talk_part.l0_k.mono (I := talk_part.l0_k.I) (fun go ih p r e => match p with
  | .l0 x_1 a_5 a_8 x_9 x_10 => talk_part.l0_k.step_l0 go ih x_1 a_5 a_8 x_9 x_10 r e
  ) e
theorem talk_part.l0.walk {W : Nat → Prop} {h0 m0 h m : Heap} {A_5 : Option Addr} {n_5 c_5 : Nat} {A_8 : Option Addr} {n_8 c_8 : Nat} {x_1 : Int} {a_5 : List T_talk_Deed} {a_8 : List T_talk_Deed} {x_9 : Int} {x_10 : Int} (O : Hold W h0 m0 h m [rR (aE T_talk_Deed.T) A_5 c_5 a_5]) (ne_5 : n_5 = List.length a_5) (ne_8 : n_8 = List.length a_8) (k_8 : List.length a_8 ≤ c_8) (r_8 : Rd 3 T_talk_Deed.E m A_8 a_8) {r : (List T_talk_Deed)} (e : talk_part.l0 x_1 a_5 a_8 x_9 x_10 = some r) : f70.l0 (talk_part.post W h0 m0 r) x_1 A_5 n_5 c_5 A_8 n_8 c_8 x_9 x_10 h := talk_part.l0_k.all (p := .l0 x_1 a_5 a_8 x_9 x_10) e W h0 m0 h m A_5 n_5 c_5 A_8 n_8 c_8 O ne_5 ne_8 k_8 r_8
noncomputable def talk_part (a_0 : List T_talk_Deed) (x_1 : Int) : Option ((List T_talk_Deed)) :=
  (talk_part.l0 x_1 ([] : List T_talk_Deed) a_0 (((List.length a_0) : Nat) : Int) (0 : Int))
set_option maxRecDepth 100000 in
theorem talk_part.walk {W : Nat → Prop} {h m : Heap} {A_0 : Option Addr} {n_0 c_0 : Nat} {a_0 : List T_talk_Deed} {x_1 : Int} (O : Hold W h m h m []) (ne_0 : n_0 = List.length a_0) (k_0 : List.length a_0 ≤ c_0) (r_0 : Rd 3 T_talk_Deed.E m A_0 a_0) {r : (List T_talk_Deed)} (e : talk_part a_0 x_1 = some r) : Run Try.prog 70 #[Value.slice A_0 n_0 c_0, Value.int .i64 x_1] h (talk_part.post W h m r) := by
  unfold talk_part at e
  subst ne_0
  refine f70.run ?_
  unfold f70.runT
  have O1 := O.nil (aE T_talk_Deed.T) none
  have O3 := O1.nm
  exact talk_part.l0.walk (O3.pick [0]).nm rfl rfl k_0 r_0 e
def talk_Dual_1.post (W : Nat → Prop) (h0 m0 : Heap) (r : Bool) (v : Value) (h : Heap) : Prop := ∃ m , Hold W h0 m0 h m [] ∧ v = .bool r
noncomputable def talk_Dual_1 (y_0 : T_talk_Deed) (y_1 : T_talk_Deed) : Option (Bool) :=
  if y_0.Msg = y_1.Msg then (some ((!(y_0.Send == y_1.Send)))) else (some (false))
set_option maxRecDepth 100000 in
theorem talk_Dual_1.walk {W : Nat → Prop} {h m : Heap} {cs_0 : List Value} {cs_1 : List Value} {y_0 : T_talk_Deed} {y_1 : T_talk_Deed} (O : Hold W h m h m []) (e_0 : T_talk_Deed.E m y_0 cs_0) (e_1 : T_talk_Deed.E m y_1 cs_1) {r : Bool} (e : talk_Dual_1 y_0 y_1 = some r) : Run Try.prog 71 #[Value.agg cs_0.toArray, Value.agg cs_1.toArray] h (talk_Dual_1.post W h m r) := by
  unfold talk_Dual_1 at e
  refine f71.run ?_
  unfold f71.runT
  refine O.new fun h1 x2 O3 => ?_
  refine O3.new fun h5 x6 O7 => ?_
  refine ⟨_, ldk (k := 2) (Sub.refl _) (O7.all 0 rfl) (T_talk_Deed.g2 e_0), _, rfl, ?_⟩
  refine ⟨_, ldk (k := 2) (Sub.refl _) (O7.all 1 rfl) (T_talk_Deed.g2 e_1), _, rfl, ?_⟩
  refine split_eq_e e (fun c11 e => ?_) (fun c11 e => ?_)
  · refine ⟨_, ldk (k := 1) (Sub.refl _) (O7.all 0 rfl) (T_talk_Deed.g1 e_0), _, rfl, ?_⟩
    refine ⟨_, ldk (k := 1) (Sub.refl _) (O7.all 1 rfl) (T_talk_Deed.g1 e_1), _, rfl, ?_⟩
    have O9 := O7.nm
    cases e
    exact ⟨_, O9.pick [], rfl⟩
  · have O10 := O7.nm
    cases e
    exact ⟨_, O10.pick [], rfl⟩
def talk_Dual.post (W : Nat → Prop) (h0 m0 : Heap) (r : Int × Int) (v : Value) (h : Heap) : Prop := ∃ m , Hold W h0 m0 h m [] ∧ v = .tuple #[.int .i64 r.1, .int .i64 r.2]
inductive talk_Dual.l0_k.Pt where
  | l0 (y_1 : T_talk_Net) (a_13 : List T_talk_Line) (x_14 : Int) (x_15 : Int)
noncomputable def talk_Dual.l0_k.body (go : (p : talk_Dual.l0_k.Pt) → Option (Int × Int)) : (p : talk_Dual.l0_k.Pt) → Option (Int × Int)
  | .l0 y_1 a_13 x_14 x_15 => if x_15 < x_14 then (Option.bind (gi a_13 x_15) fun y1 => Option.bind (gi y_1.Who y1.A) fun y19 => Option.bind (gi y_1.Who y1.B) fun y31 => Option.bind (talk_part y19 x_15) fun y38 => Option.bind (talk_part y31 x_15) fun y50 => Option.bind (slices_EqualFunc_69 y38 y50 (fun z77 z78 => talk_Dual_1 z77 z78)) fun y62 => if y62 = true then ((go (.l0 y_1 a_13 x_14 (IntKind.wrap .i64 (x_15 + (1 : Int)))))) else (some (x_15, (0 : Int)))) else (some ((-1 : Int), (0 : Int)))
theorem talk_Dual.l0_k.mono : MonoF (β := fun _ => (Int × Int)) talk_Dual.l0_k.body := fun f g hfg p => match p with
  | .l0 y_1 a_13 x_14 x_15 => LeO.ite (LeO.bind (LeO.refl _) fun y1 => LeO.bind (LeO.refl _) fun y19 => LeO.bind (LeO.refl _) fun y31 => LeO.bind (LeO.refl _) fun y38 => LeO.bind (LeO.refl _) fun y50 => LeO.bind (LeO.refl _) fun y62 => LeO.ite ((hfg _)) (LeO.refl _)) (LeO.refl _)
noncomputable def talk_Dual.l0_k.go (p : talk_Dual.l0_k.Pt) : Option (Int × Int) := fixF (β := fun _ => (Int × Int)) talk_Dual.l0_k.body p
noncomputable def talk_Dual.l0 (y_1 : T_talk_Net) (a_13 : List T_talk_Line) (x_14 : Int) (x_15 : Int) : Option (Int × Int) := talk_Dual.l0_k.go (.l0 y_1 a_13 x_14 x_15)
theorem talk_Dual.l0_eq (y_1 : T_talk_Net) (a_13 : List T_talk_Line) (x_14 : Int) (x_15 : Int) : talk_Dual.l0 y_1 a_13 x_14 x_15 = if x_15 < x_14 then (Option.bind (gi a_13 x_15) fun y1 => Option.bind (gi y_1.Who y1.A) fun y19 => Option.bind (gi y_1.Who y1.B) fun y31 => Option.bind (talk_part y19 x_15) fun y38 => Option.bind (talk_part y31 x_15) fun y50 => Option.bind (slices_EqualFunc_69 y38 y50 (fun z77 z78 => talk_Dual_1 z77 z78)) fun y62 => if y62 = true then ((talk_Dual.l0 y_1 a_13 x_14 (IntKind.wrap .i64 (x_15 + (1 : Int))))) else (some (x_15, (0 : Int)))) else (some ((-1 : Int), (0 : Int))) := fixF_eq talk_Dual.l0_k.mono _
def talk_Dual.l0_k.I : (p : talk_Dual.l0_k.Pt) → (Int × Int) → Prop
  | .l0 y_1 a_13 x_14 x_15, r => ∀ (W : Nat → Prop) (h0 m0 h m : Heap) (bk_1 : Nat) (cs_1 : List Value) (A_13 : Option Addr) (n_13 c_13 : Nat) (O : Hold W h0 m0 h m [rV bk_1 78 cs_1]) (e_1 : T_talk_Net.E m y_1 cs_1) (ne_13 : n_13 = List.length a_13) (k_13 : List.length a_13 ≤ c_13) (r_13 : Rd 2 T_talk_Line.E m A_13 a_13), f38.l0 (talk_Dual.post W h0 m0 r) (⟨bk_1, 0, none⟩ : Addr) A_13 n_13 c_13 x_14 x_15 h
set_option maxHeartbeats 4000000 in
set_option maxRecDepth 100000 in
theorem talk_Dual.l0_k.step_l0 (go : (p : talk_Dual.l0_k.Pt) → Option (Int × Int)) (ih : ∀ p r, go p = some r → talk_Dual.l0_k.I p r) (y_1 : T_talk_Net) (a_13 : List T_talk_Line) (x_14 : Int) (x_15 : Int) (r : Int × Int) (e : talk_Dual.l0_k.body go (.l0 y_1 a_13 x_14 x_15) = some r) : talk_Dual.l0_k.I (.l0 y_1 a_13 x_14 x_15) r := by
  unfold talk_Dual.l0_k.body at e
  intro W h0 m0 h m bk_1 cs_1 A_13 n_13 c_13 O e_1 ne_13 k_13 r_13
  subst ne_13
  refine f38.l0_in ?_
  unfold f38.l0T
  refine split_dec_e e (fun c89 e => ?_) (fun c89 e => ?_)
  · obtain ⟨y1, g2, e⟩ := bind_e e
    refine r_13.addr rfl g2 fun a3 cs4 ha5 hc6 he7 => ?_
    refine ⟨_, ldAn O.s hc6 rfl, ?_⟩
    refine O.new fun h8 x9 O10 => ?_
    refine ⟨_, rfl, (T_talk_Line.T.len _ _ _ he7), ?_⟩
    refine O10.stA 1 rfl (T_talk_Line.T.len _ _ _ he7) (T_talk_Line.T.flat _ _ _ he7) fun h12 O13 => ?_
    obtain ⟨A14, c15, q16, k17, r18⟩ := T_talk_Net.g1 e_1
    refine ⟨_, ldk (k := 1) (Sub.refl _) (O13.all 0 rfl) q16, _, _, _, rfl, ?_⟩
    refine ⟨_, ld0 (Sub.refl _) (O13.all 1 rfl) (T_talk_Line.g0 he7), _, rfl, ?_⟩
    obtain ⟨y19, g20, e⟩ := bind_e e
    refine r18.addr rfl g20 fun a21 cs22 ha23 hc24 he25 => ?_
    obtain ⟨Acs22_0, ccs22_0, rfl, kcs22_0, rcs22_0⟩ := id he25
    refine ⟨_, ld0 O13.s hc24 rfl, _, _, _, rfl, ?_⟩
    obtain ⟨A26, c27, q28, k29, r30⟩ := T_talk_Net.g1 e_1
    refine ⟨_, ldk (k := 1) (Sub.refl _) (O13.all 0 rfl) q28, _, _, _, rfl, ?_⟩
    refine ⟨_, ldk (k := 1) (Sub.refl _) (O13.all 1 rfl) (T_talk_Line.g1 he7), _, rfl, ?_⟩
    obtain ⟨y31, g32, e⟩ := bind_e e
    refine r30.addr rfl g32 fun a33 cs34 ha35 hc36 he37 => ?_
    obtain ⟨Acs34_0, ccs34_0, rfl, kcs34_0, rcs34_0⟩ := id he37
    refine ⟨_, ld0 O13.s hc36 rfl, _, _, _, rfl, ?_⟩
    obtain ⟨y38, g39, e⟩ := bind_e e
    refine (talk_part.walk (Hold.start (W := No) O13.s) rfl kcs22_0 rcs22_0 g39).mono ?_
    rintro _ h40 ⟨m41, A44, n45, c46, Q42, rfl, ne47⟩
    have O49 := Hold.nm (O13.retC Q42 (vfs_cons (rR_vf (aE_vf (fun _ _ _ _ h => T_talk_Deed.keep h))) vfs_nil))
    subst ne47
    refine ⟨_, _, _, rfl, ?_⟩
    refine ⟨Q42.S.ext, ?_⟩
    obtain ⟨y50, g51, e⟩ := bind_e e
    refine (talk_part.walk (Hold.start (W := No) O49.s) rfl kcs34_0 rcs34_0 g51).mono ?_
    rintro _ h52 ⟨m53, A56, n57, c58, Q54, rfl, ne59⟩
    have O61 := Hold.nm (O49.retC Q54 (vfs_cons (rR_vf (aE_vf (fun _ _ _ _ h => T_talk_Deed.keep h))) vfs_nil))
    subst ne59
    refine ⟨_, _, _, rfl, ?_⟩
    obtain ⟨y62, g63, e⟩ := bind_e e
    obtain ⟨m68, u69, s76, ⟨⟨r72, k73⟩, ⟨r74, k75⟩, _⟩, B70, C71⟩ := O61.lend0 [2, 3]
    replace r72 : Rd 3 T_talk_Deed.E m68 A44 y38 := r72
    replace k73 : List.length y38 ≤ c46 := k73
    replace r74 : Rd 3 T_talk_Deed.E m68 A56 y50 := r74
    replace k75 : List.length y50 ≤ c58 := k75
    refine (slices_EqualFunc_69.walk (Hold.start (W := No) s76) rfl k73 r72 rfl k75 r74 (fun h79 m80 u81 s82 y85 cs85 he85 y86 cs86 he86 r83 e84 => CallF.of [Value.agg cs85.toArray, Value.agg cs86.toArray] f71.ok rfl ((talk_Dual_1.walk (Hold.start (W := No) s82) he85 he86 e84).mono (fun _ _ h => let ⟨_, t, e⟩ := h; ⟨e, t.S.ext⟩))) g63).mono ?_
    rintro _ h64 ⟨m65, Q66, rfl⟩
    have O87 := Hold.nm (C71 Q66 vfs_nil)
    refine ⟨_, rfl, ?_⟩
    refine split_not ?_
    refine split_any_e e (fun c88 e => ?_) (fun c88 e => ?_)
    · exact (ih _ _ e) _ _ _ _ _ _ _ _ _ _ (O87.pick [0]).nm e_1 rfl k_13 r_13
    · cases e
      exact ⟨_, O87.pick [], rfl⟩
  · cases e
    exact ⟨_, O.pick [], rfl⟩
theorem talk_Dual.l0_k.all {p : talk_Dual.l0_k.Pt} {r : (Int × Int)} (e : talk_Dual.l0_k.go p = some r) : talk_Dual.l0_k.I p r := fixF_ind (β := fun _ => (Int × Int)) talk_Dual.l0_k.mono (I := talk_Dual.l0_k.I) (fun go ih p r e => match p with
  | .l0 y_1 a_13 x_14 x_15 => talk_Dual.l0_k.step_l0 go ih y_1 a_13 x_14 x_15 r e
  ) e
theorem talk_Dual.l0.walk {W : Nat → Prop} {h0 m0 h m : Heap} {bk_1 : Nat} {cs_1 : List Value} {A_13 : Option Addr} {n_13 c_13 : Nat} {y_1 : T_talk_Net} {a_13 : List T_talk_Line} {x_14 : Int} {x_15 : Int} (O : Hold W h0 m0 h m [rV bk_1 78 cs_1]) (e_1 : T_talk_Net.E m y_1 cs_1) (ne_13 : n_13 = List.length a_13) (k_13 : List.length a_13 ≤ c_13) (r_13 : Rd 2 T_talk_Line.E m A_13 a_13) {r : Int × Int} (e : talk_Dual.l0 y_1 a_13 x_14 x_15 = some r) : f38.l0 (talk_Dual.post W h0 m0 r) (⟨bk_1, 0, none⟩ : Addr) A_13 n_13 c_13 x_14 x_15 h := talk_Dual.l0_k.all (p := .l0 y_1 a_13 x_14 x_15) e W h0 m0 h m bk_1 cs_1 A_13 n_13 c_13 O e_1 ne_13 k_13 r_13
noncomputable def talk_Dual (y_0 : T_talk_Net) : Option (Int × Int) :=
  Option.bind (talk_Check y_0) fun y5 => if y5 = (0 : Int) then ((talk_Dual.l0 y_0 y_0.Lines (((List.length y_0.Lines) : Nat) : Int) (0 : Int))) else (some ((0 : Int), y5))
set_option maxRecDepth 100000 in
theorem talk_Dual.walk {W : Nat → Prop} {h m : Heap} {cs_0 : List Value} {y_0 : T_talk_Net} (O : Hold W h m h m []) (e_0 : T_talk_Net.E m y_0 cs_0) {r : Int × Int} (e : talk_Dual y_0 = some r) : Run Try.prog 38 #[Value.agg cs_0.toArray] h (talk_Dual.post W h m r) := by
  unfold talk_Dual at e
  refine f38.run ?_
  unfold f38.runT
  refine O.new fun h1 x2 O3 => ?_
  refine ⟨_, ldAn (Sub.refl _) (O3.all 0 rfl) (T_talk_Net.T.len _ _ _ e_0), ?_⟩
  obtain ⟨y5, g6, e⟩ := bind_e e
  refine (talk_Check.walk (Hold.start (W := No) O3.s) e_0 g6).mono ?_
  rintro _ h7 ⟨m8, Q9, rfl⟩
  have O11 := Hold.nm (O3.retC Q9 vfs_nil)
  refine ⟨_, rfl, ?_⟩
  refine split_ne_e e (fun c17 e => ?_) (fun c17 e => ?_)
  · cases e
    exact ⟨_, O11.pick [], rfl⟩
  · obtain ⟨A12, c13, q14, k15, r16⟩ := T_talk_Net.g0 e_0
    refine ⟨_, ld0 (Sub.refl _) (O11.all 0 rfl) q14, _, _, _, rfl, ?_⟩
    exact talk_Dual.l0.walk (O11.pick [0]).nm e_0 rfl k15 r16 e
def slices_Reverse_84.post (W : Nat → Prop) (Asl0 : Option Addr) (nsl0 csl0 : Nat) (h0 m0 : Heap) (r : (List Int)) (v : Value) (h : Heap) : Prop := ∃ m , Hold W h0 m0 h m [rR (aE (tell_int .i64)) Asl0 csl0 r] ∧ v = .tuple #[] ∧ nsl0 = List.length r
inductive slices_Reverse_84.l0_k.Pt where
  | l0 (a_0 : List Int) (x_2 : Int) (x_3 : Int)
noncomputable def slices_Reverse_84.l0_k.body (go : (p : slices_Reverse_84.l0_k.Pt) → Option ((List Int))) : (p : slices_Reverse_84.l0_k.Pt) → Option ((List Int))
  | .l0 a_0 x_2 x_3 => if x_2 < x_3 then (Option.bind (gi a_0 x_3) fun y1 => Option.bind (gi a_0 x_2) fun y8 => Option.bind (gi a_0 x_2) fun y15 => Option.bind (some (List.set a_0 (Int.toNat x_2) y1)) fun l24 => Option.bind (gi l24 x_3) fun y26 => Option.bind (some (List.set l24 (Int.toNat x_3) y8)) fun l35 => (go (.l0 l35 (IntKind.wrap .i64 (x_2 + (1 : Int))) (IntKind.wrap .i64 (x_3 - (1 : Int)))))) else (some (a_0))
theorem slices_Reverse_84.l0_k.mono : MonoF (β := fun _ => ((List Int))) slices_Reverse_84.l0_k.body := fun f g hfg p => match p with
  | .l0 a_0 x_2 x_3 => LeO.ite (LeO.bind (LeO.refl _) fun y1 => LeO.bind (LeO.refl _) fun y8 => LeO.bind (LeO.refl _) fun y15 => LeO.bind (LeO.refl _) fun l24 => LeO.bind (LeO.refl _) fun y26 => LeO.bind (LeO.refl _) fun l35 => (hfg _)) (LeO.refl _)
noncomputable def slices_Reverse_84.l0_k.go (p : slices_Reverse_84.l0_k.Pt) : Option ((List Int)) := fixF (β := fun _ => ((List Int))) slices_Reverse_84.l0_k.body p
noncomputable def slices_Reverse_84.l0 (a_0 : List Int) (x_2 : Int) (x_3 : Int) : Option ((List Int)) := slices_Reverse_84.l0_k.go (.l0 a_0 x_2 x_3)
theorem slices_Reverse_84.l0_eq (a_0 : List Int) (x_2 : Int) (x_3 : Int) : slices_Reverse_84.l0 a_0 x_2 x_3 = if x_2 < x_3 then (Option.bind (gi a_0 x_3) fun y1 => Option.bind (gi a_0 x_2) fun y8 => Option.bind (gi a_0 x_2) fun y15 => Option.bind (some (List.set a_0 (Int.toNat x_2) y1)) fun l24 => Option.bind (gi l24 x_3) fun y26 => Option.bind (some (List.set l24 (Int.toNat x_3) y8)) fun l35 => (slices_Reverse_84.l0 l35 (IntKind.wrap .i64 (x_2 + (1 : Int))) (IntKind.wrap .i64 (x_3 - (1 : Int))))) else (some (a_0)) := fixF_eq slices_Reverse_84.l0_k.mono _
def slices_Reverse_84.l0_k.I : (p : slices_Reverse_84.l0_k.Pt) → ((List Int)) → Prop
  | .l0 a_0 x_2 x_3, r => ∀ (W : Nat → Prop) (h0 m0 h m : Heap) (A_0 : Option Addr) (n_0 c_0 : Nat) (O : Hold W h0 m0 h m [rR (aE (tell_int .i64)) A_0 c_0 a_0]) (ne_0 : n_0 = List.length a_0), f84.l0 (slices_Reverse_84.post W A_0 n_0 c_0 h0 m0 r) A_0 n_0 c_0 x_2 x_3 h
set_option maxRecDepth 100000 in
theorem slices_Reverse_84.l0_k.step_l0 (go : (p : slices_Reverse_84.l0_k.Pt) → Option ((List Int))) (ih : ∀ p r, go p = some r → slices_Reverse_84.l0_k.I p r) (a_0 : List Int) (x_2 : Int) (x_3 : Int) (r : (List Int)) (e : slices_Reverse_84.l0_k.body go (.l0 a_0 x_2 x_3) = some r) : slices_Reverse_84.l0_k.I (.l0 a_0 x_2 x_3) r := by
  unfold slices_Reverse_84.l0_k.body at e
  intro W h0 m0 h m A_0 n_0 c_0 O ne_0
  subst ne_0
  refine f84.l0_in ?_
  unfold f84.l0T
  refine split_dec_e e (fun c38 e => ?_) (fun c38 e => ?_)
  · obtain ⟨y1, g2, e⟩ := bind_e e
    refine (O.os 0 rfl).addr rfl g2 fun a3 cs4 ha5 hc6 he7 => ?_
    obtain rfl : cs4 = [(Value.int .i64 y1)] := he7
    obtain ⟨y8, g9, e⟩ := bind_e e
    refine (O.os 0 rfl).addr rfl g9 fun a10 cs11 ha12 hc13 he14 => ?_
    obtain rfl : cs11 = [(Value.int .i64 y8)] := he14
    refine ⟨_, ld0 (Sub.refl _) hc6 rfl, _, rfl, ?_⟩
    refine ⟨_, ld0 (Sub.refl _) hc13 rfl, _, rfl, ?_⟩
    obtain ⟨y15, g16, e⟩ := bind_e e
    refine (O.os 0 rfl).addr rfl g16 fun a17 cs18 ha19 hc20 he21 => ?_
    obtain rfl : cs18 = [(Value.int .i64 y15)] := he21
    obtain ⟨l24, g25, e⟩ := bind_e e
    replace g25 := Option.some.inj g25
    refine O.elst0 0 rfl g16 ha19 hc20 (by decide) (y' := y1) rfl trivial g25 fun h22 O23 => ?_
    obtain ⟨y26, g27, e⟩ := bind_e e
    refine (O23.os 0 rfl).addr (lset' g25) g27 fun a28 cs29 ha30 hc31 he32 => ?_
    obtain rfl : cs29 = [(Value.int .i64 y26)] := he32
    obtain ⟨l35, g36, e⟩ := bind_e e
    replace g36 := Option.some.inj g36
    refine O23.elst0 0 rfl g27 ha30 hc31 (by decide) (y' := y8) rfl trivial g36 fun h33 O34 => ?_
    have O37 := O34.nm
    exact (ih _ _ e) _ _ _ _ _ _ _ _ (O37.pick [0]).nm ((lset' g25).trans (lset' g36))
  · cases e
    exact ⟨_, O.pick [0], rfl, rfl⟩
theorem slices_Reverse_84.l0_k.all {p : slices_Reverse_84.l0_k.Pt} {r : ((List Int))} (e : slices_Reverse_84.l0_k.go p = some r) : slices_Reverse_84.l0_k.I p r := fixF_ind (β := fun _ => ((List Int))) slices_Reverse_84.l0_k.mono (I := slices_Reverse_84.l0_k.I) (fun go ih p r e => match p with
  | .l0 a_0 x_2 x_3 => slices_Reverse_84.l0_k.step_l0 go ih a_0 x_2 x_3 r e
  ) e
theorem slices_Reverse_84.l0.walk {W : Nat → Prop} {h0 m0 h m : Heap} {A_0 : Option Addr} {n_0 c_0 : Nat} {a_0 : List Int} {x_2 : Int} {x_3 : Int} (O : Hold W h0 m0 h m [rR (aE (tell_int .i64)) A_0 c_0 a_0]) (ne_0 : n_0 = List.length a_0) {r : (List Int)} (e : slices_Reverse_84.l0 a_0 x_2 x_3 = some r) : f84.l0 (slices_Reverse_84.post W A_0 n_0 c_0 h0 m0 r) A_0 n_0 c_0 x_2 x_3 h := slices_Reverse_84.l0_k.all (p := .l0 a_0 x_2 x_3) e W h0 m0 h m A_0 n_0 c_0 O ne_0
noncomputable def slices_Reverse_84 (a_0 : List Int) : Option ((List Int)) :=
  (slices_Reverse_84.l0 a_0 (0 : Int) (IntKind.wrap .i64 ((((List.length a_0) : Nat) : Int) - (1 : Int))))
set_option maxRecDepth 100000 in
theorem slices_Reverse_84.walk {W : Nat → Prop} {h m : Heap} {A_0 : Option Addr} {n_0 c_0 : Nat} {a_0 : List Int} (O : Hold W h m h m [rR (aE (tell_int .i64)) A_0 c_0 a_0]) (ne_0 : n_0 = List.length a_0) {r : (List Int)} (e : slices_Reverse_84 a_0 = some r) : Run Try.prog 84 #[Value.slice A_0 n_0 c_0] h (slices_Reverse_84.post W A_0 n_0 c_0 h m r) := by
  unfold slices_Reverse_84 at e
  subst ne_0
  refine f84.run ?_
  unfold f84.runT
  exact slices_Reverse_84.l0.walk (O.pick [0]).nm rfl e
def talk_way.post (W : Nat → Prop) (h0 m0 : Heap) (r : (List Int)) (v : Value) (h : Heap) : Prop := ∃ m A0 n0 c0, Hold W h0 m0 h m [rR (aE (tell_int .i64)) A0 c0 r] ∧ v = .slice A0 n0 c0 ∧ n0 = List.length r ∧ (List.length r = 0 → A0 = none)
inductive talk_way.l2_k.Pt where
  | l2 (x_1 : Int) (y_4 : T_talk_Net) (a_9 : List Int) (a_17 : List Int) (x_18 : Int)
noncomputable def talk_way.l2_k.body (go : (p : talk_way.l2_k.Pt) → Option ((List Int))) : (p : talk_way.l2_k.Pt) → Option ((List Int))
  | .l2 x_1 y_4 a_9 a_17 x_18 => if x_18 = x_1 then (Option.bind (slices_Reverse_84 a_17) fun y46 => some (y46)) else (Option.bind (gi a_9 x_18) fun y1 => Option.bind (ap 8 a_17 ([y1] : List Int)) fun l12 => Option.bind (gi y_4.Lines y1) fun y26 => Option.bind (gi y_4.Lines y1) fun y38 => (go (.l2 x_1 y_4 a_9 l12 (IntKind.wrap .i64 ((IntKind.wrap .i64 (y26.A + y38.B)) - x_18)))))
theorem talk_way.l2_k.mono : MonoF (β := fun _ => ((List Int))) talk_way.l2_k.body := fun f g hfg p => match p with
  | .l2 x_1 y_4 a_9 a_17 x_18 => LeO.ite (LeO.bind (LeO.refl _) fun y46 => LeO.refl _) (LeO.bind (LeO.refl _) fun y1 => LeO.bind (LeO.refl _) fun l12 => LeO.bind (LeO.refl _) fun y26 => LeO.bind (LeO.refl _) fun y38 => (hfg _))
noncomputable def talk_way.l2_k.go (p : talk_way.l2_k.Pt) : Option ((List Int)) := fixF (β := fun _ => ((List Int))) talk_way.l2_k.body p
noncomputable def talk_way.l2 (x_1 : Int) (y_4 : T_talk_Net) (a_9 : List Int) (a_17 : List Int) (x_18 : Int) : Option ((List Int)) := talk_way.l2_k.go (.l2 x_1 y_4 a_9 a_17 x_18)
theorem talk_way.l2_eq (x_1 : Int) (y_4 : T_talk_Net) (a_9 : List Int) (a_17 : List Int) (x_18 : Int) : talk_way.l2 x_1 y_4 a_9 a_17 x_18 = if x_18 = x_1 then (Option.bind (slices_Reverse_84 a_17) fun y46 => some (y46)) else (Option.bind (gi a_9 x_18) fun y1 => Option.bind (ap 8 a_17 ([y1] : List Int)) fun l12 => Option.bind (gi y_4.Lines y1) fun y26 => Option.bind (gi y_4.Lines y1) fun y38 => (talk_way.l2 x_1 y_4 a_9 l12 (IntKind.wrap .i64 ((IntKind.wrap .i64 (y26.A + y38.B)) - x_18)))) := fixF_eq talk_way.l2_k.mono _
def talk_way.l2_k.I : (p : talk_way.l2_k.Pt) → ((List Int)) → Prop
  | .l2 x_1 y_4 a_9 a_17 x_18, r => ∀ (W : Nat → Prop) (h0 m0 h m : Heap) (bk_4 : Nat) (cs_4 : List Value) (A_9 : Option Addr) (n_9 c_9 : Nat) (A_17 : Option Addr) (n_17 c_17 : Nat) (O : Hold W h0 m0 h m [rV bk_4 78 cs_4, rR (aE (tell_int .i64)) A_9 c_9 a_9, rR (aE (tell_int .i64)) A_17 c_17 a_17]) (e_4 : T_talk_Net.E m y_4 cs_4) (ne_9 : n_9 = List.length a_9) (ne_17 : n_17 = List.length a_17) (zn_17 : List.length a_17 = 0 → A_17 = none), f72.l2 (talk_way.post W h0 m0 r) x_1 (⟨bk_4, 0, none⟩ : Addr) A_9 n_9 c_9 A_17 n_17 c_17 x_18 h
set_option maxRecDepth 100000 in
theorem talk_way.l2_k.step_l2 (go : (p : talk_way.l2_k.Pt) → Option ((List Int))) (ih : ∀ p r, go p = some r → talk_way.l2_k.I p r) (x_1 : Int) (y_4 : T_talk_Net) (a_9 : List Int) (a_17 : List Int) (x_18 : Int) (r : (List Int)) (e : talk_way.l2_k.body go (.l2 x_1 y_4 a_9 a_17 x_18) = some r) : talk_way.l2_k.I (.l2 x_1 y_4 a_9 a_17 x_18) r := by
  unfold talk_way.l2_k.body at e
  intro W h0 m0 h m bk_4 cs_4 A_9 n_9 c_9 A_17 n_17 c_17 O e_4 ne_9 ne_17 zn_17
  subst ne_9
  subst ne_17
  refine f72.l2_in ?_
  unfold f72.l2T
  refine split_ne_e e (fun c58 e => ?_) (fun c58 e => ?_)
  · obtain ⟨y1, g2, e⟩ := bind_e e
    refine (O.os 1 rfl).addr rfl g2 fun a3 cs4 ha5 hc6 he7 => ?_
    obtain rfl : cs4 = [(Value.int .i64 y1)] := he7
    refine ⟨_, ld0 (Sub.refl _) hc6 rfl, _, rfl, ?_⟩
    refine O.new fun h8 x9 O10 => ?_
    obtain ⟨l12, g13, e⟩ := bind_e e
    have O20 := O10.rowE (l := ([y1] : List Int)) 3 rfl (tell_int .i64) (show CsE _ _ _ _ _ from (CsE.cons (c1 := [(Value.int .i64 y1)]) rfl rfl CsE.nil)) rfl
    refine O20.app 2 rfl rfl rfl ((O20.os 3 rfl).srcE rfl) (by decide) g13 fun A14 c15 h16 O17 => ?_
    refine ⟨_, _, _, rfl, ?_⟩
    obtain ⟨A21, c22, q23, k24, r25⟩ := T_talk_Net.g0 e_4
    refine ⟨_, ld0 (Sub.refl _) (O17.all 0 rfl) q23, _, _, _, rfl, ?_⟩
    obtain ⟨y26, g27, e⟩ := bind_e e
    refine r25.addr rfl g27 fun a28 cs29 ha30 hc31 he32 => ?_
    refine ⟨_, ld0 O17.s hc31 (T_talk_Line.g0 he32), _, rfl, ?_⟩
    obtain ⟨A33, c34, q35, k36, r37⟩ := T_talk_Net.g0 e_4
    refine ⟨_, ld0 (Sub.refl _) (O17.all 0 rfl) q35, _, _, _, rfl, ?_⟩
    obtain ⟨y38, g39, e⟩ := bind_e e
    refine r37.addr rfl g39 fun a40 cs41 ha42 hc43 he44 => ?_
    refine ⟨_, ldk (k := 1) O17.s hc43 (T_talk_Line.g1 he44), _, rfl, ?_⟩
    have O45 := O17.nm
    exact (ih _ _ e) _ _ _ _ _ _ _ _ _ _ _ _ _ (O45.pick [0, 1, 2]).nm e_4 rfl rfl (ap_zn g13 (by simp))
  · obtain ⟨y46, g47, e⟩ := bind_e e
    obtain ⟨W52, P53, B54, C55⟩ := O.callC [2]
    refine (slices_Reverse_84.walk P53 rfl g47).mono ?_
    rintro _ h48 ⟨m49, Q50, rfl, hl56⟩
    have O57 := Hold.nm (C55 Q50 (vfs_cons (rR_vf (aE_vf (fun _ _ _ _ h => h))) vfs_nil))
    refine ⟨rfl, ?_⟩
    cases e
    exact ⟨_, _, _, _, O57.pick [3], rfl, hl56, (fun h => zn_17 ((hl56).trans h))⟩
theorem talk_way.l2_k.all {p : talk_way.l2_k.Pt} {r : ((List Int))} (e : talk_way.l2_k.go p = some r) : talk_way.l2_k.I p r := fixF_ind (β := fun _ => ((List Int))) talk_way.l2_k.mono (I := talk_way.l2_k.I) (fun go ih p r e => match p with
  | .l2 x_1 y_4 a_9 a_17 x_18 => talk_way.l2_k.step_l2 go ih x_1 y_4 a_9 a_17 x_18 r e
  ) e
theorem talk_way.l2.walk {W : Nat → Prop} {h0 m0 h m : Heap} {bk_4 : Nat} {cs_4 : List Value} {A_9 : Option Addr} {n_9 c_9 : Nat} {A_17 : Option Addr} {n_17 c_17 : Nat} {x_1 : Int} {y_4 : T_talk_Net} {a_9 : List Int} {a_17 : List Int} {x_18 : Int} (O : Hold W h0 m0 h m [rV bk_4 78 cs_4, rR (aE (tell_int .i64)) A_9 c_9 a_9, rR (aE (tell_int .i64)) A_17 c_17 a_17]) (e_4 : T_talk_Net.E m y_4 cs_4) (ne_9 : n_9 = List.length a_9) (ne_17 : n_17 = List.length a_17) (zn_17 : List.length a_17 = 0 → A_17 = none) {r : (List Int)} (e : talk_way.l2 x_1 y_4 a_9 a_17 x_18 = some r) : f72.l2 (talk_way.post W h0 m0 r) x_1 (⟨bk_4, 0, none⟩ : Addr) A_9 n_9 c_9 A_17 n_17 c_17 x_18 h := talk_way.l2_k.all (p := .l2 x_1 y_4 a_9 a_17 x_18) e W h0 m0 h m bk_4 cs_4 A_9 n_9 c_9 A_17 n_17 c_17 O e_4 ne_9 ne_17 zn_17
noncomputable def talk_way.j0 (x_1 : Int) (x_2 : Int) (y_4 : T_talk_Net) (a_9 : List Int) (a_11 : List Bool) : Option ((List Int)) :=
  Option.bind (gi a_11 x_2) fun y1 => if y1 = true then ((talk_way.l2 x_1 y_4 a_9 ([] : List Int) x_2)) else (some (([] : List Int)))
set_option maxRecDepth 100000 in
theorem talk_way.j0.walk {W : Nat → Prop} {h0 m0 h m : Heap} {bk_4 : Nat} {cs_4 : List Value} {A_9 : Option Addr} {n_9 c_9 : Nat} {A_11 : Option Addr} {n_11 c_11 : Nat} {x_1 : Int} {x_2 : Int} {y_4 : T_talk_Net} {a_9 : List Int} {a_11 : List Bool} (O : Hold W h0 m0 h m [rV bk_4 78 cs_4, rR (aE (tell_int .i64)) A_9 c_9 a_9, rR (aE tell_bool) A_11 c_11 a_11]) (e_4 : T_talk_Net.E m y_4 cs_4) (ne_9 : n_9 = List.length a_9) (ne_11 : n_11 = List.length a_11) {r : (List Int)} (e : talk_way.j0 x_1 x_2 y_4 a_9 a_11 = some r) : f72.j0 (talk_way.post W h0 m0 r) x_1 x_2 (⟨bk_4, 0, none⟩ : Addr) A_9 n_9 c_9 A_11 n_11 c_11 h := by
  unfold talk_way.j0 at e
  subst ne_9
  subst ne_11
  refine f72.j0_in ?_
  unfold f72.j0T
  obtain ⟨y1, g2, e⟩ := bind_e e
  refine (O.os 2 rfl).addr rfl g2 fun a3 cs4 ha5 hc6 he7 => ?_
  obtain rfl : cs4 = [(Value.bool y1)] := he7
  refine ⟨_, ld0 (Sub.refl _) hc6 rfl, _, rfl, ?_⟩
  refine split_not ?_
  refine split_any_e e (fun c14 e => ?_) (fun c14 e => ?_)
  · have O8 := O.nil (aE (tell_int .i64)) none
    have O10 := O8.nm
    exact talk_way.l2.walk (O10.pick [0, 1, 3]).nm e_4 rfl rfl (fun _ => rfl) e
  · have O11 := O.nil (aE (tell_int .i64)) none
    have O13 := O11.nm
    cases e
    exact ⟨_, _, _, _, O13.pick [3], rfl, rfl, (fun _ => rfl)⟩
inductive talk_way.l1_k.Pt where
  | l1 (x_1 : Int) (x_2 : Int) (x_3 : Int) (y_4 : T_talk_Net) (a_9 : List Int) (a_11 : List Bool) (a_12 : List Int)
  | j1 (x_1 : Int) (x_2 : Int) (x_3 : Int) (y_4 : T_talk_Net) (a_9 : List Int) (a_11 : List Bool) (a_12 : List Int)
  | l3 (x_1 : Int) (x_2 : Int) (x_3 : Int) (y_4 : T_talk_Net) (a_9 : List Int) (a_11 : List Bool) (a_12 : List Int) (x_13 : Int) (a_58 : List T_talk_Line) (x_59 : Int) (x_60 : Int)
  | j2 (x_1 : Int) (x_2 : Int) (x_3 : Int) (y_4 : T_talk_Net) (a_9 : List Int) (a_11 : List Bool) (a_12 : List Int) (x_13 : Int) (x_14 : Int) (x_16 : Int) (a_58 : List T_talk_Line) (x_59 : Int) (x_60 : Int)
noncomputable def talk_way.l1_k.body (go : (p : talk_way.l1_k.Pt) → Option ((List Int))) : (p : talk_way.l1_k.Pt) → Option ((List Int))
  | .l1 x_1 x_2 x_3 y_4 a_9 a_11 a_12 => if (((List.length a_12) : Nat) : Int) > (0 : Int) then (Option.bind (gi a_11 x_2) fun y1 => if y1 = true then ((talk_way.j0 x_1 x_2 y_4 a_9 a_11)) else ((go (.j1 x_1 x_2 x_3 y_4 a_9 a_11 a_12)))) else ((talk_way.j0 x_1 x_2 y_4 a_9 a_11))
  | .j1 x_1 x_2 x_3 y_4 a_9 a_11 a_12 => Option.bind (gi a_12 (0 : Int)) fun y1 => Option.bind (sls a_12 (1 : Int) (((List.length a_12) : Nat) : Int)) fun l8 => (go (.l3 x_1 x_2 x_3 y_4 a_9 a_11 l8 y1 y_4.Lines (((List.length y_4.Lines) : Nat) : Int) (0 : Int)))
  | .l3 x_1 x_2 x_3 y_4 a_9 a_11 a_12 x_13 a_58 x_59 x_60 => if x_60 < x_59 then (Option.bind (gi a_58 x_60) fun y1 => if x_60 = x_3 then ((go (.l3 x_1 x_2 x_3 y_4 a_9 a_11 a_12 x_13 a_58 x_59 (IntKind.wrap .i64 (x_60 + (1 : Int)))))) else (if y1.A = x_13 then (Option.bind (gi a_11 (IntKind.wrap .i64 ((IntKind.wrap .i64 (y1.A + y1.B)) - x_13))) fun y27 => if y27 = true then ((go (.l3 x_1 x_2 x_3 y_4 a_9 a_11 a_12 x_13 a_58 x_59 (IntKind.wrap .i64 (x_60 + (1 : Int)))))) else ((go (.j2 x_1 x_2 x_3 y_4 a_9 a_11 a_12 x_13 x_60 (IntKind.wrap .i64 ((IntKind.wrap .i64 (y1.A + y1.B)) - x_13)) a_58 x_59 x_60)))) else (if y1.B = x_13 then (Option.bind (gi a_11 (IntKind.wrap .i64 ((IntKind.wrap .i64 (y1.A + y1.B)) - x_13))) fun y16 => if y16 = true then ((go (.l3 x_1 x_2 x_3 y_4 a_9 a_11 a_12 x_13 a_58 x_59 (IntKind.wrap .i64 (x_60 + (1 : Int)))))) else ((go (.j2 x_1 x_2 x_3 y_4 a_9 a_11 a_12 x_13 x_60 (IntKind.wrap .i64 ((IntKind.wrap .i64 (y1.A + y1.B)) - x_13)) a_58 x_59 x_60)))) else ((go (.l3 x_1 x_2 x_3 y_4 a_9 a_11 a_12 x_13 a_58 x_59 (IntKind.wrap .i64 (x_60 + (1 : Int))))))))) else ((go (.l1 x_1 x_2 x_3 y_4 a_9 a_11 a_12)))
  | .j2 x_1 x_2 x_3 y_4 a_9 a_11 a_12 x_13 x_14 x_16 a_58 x_59 x_60 => Option.bind (gi a_11 x_16) fun y1 => Option.bind (some (List.set a_11 (Int.toNat x_16) true)) fun l10 => Option.bind (gi a_9 x_16) fun y12 => Option.bind (some (List.set a_9 (Int.toNat x_16) x_14)) fun l21 => Option.bind (ap 8 a_12 ([x_16] : List Int)) fun l27 => (go (.l3 x_1 x_2 x_3 y_4 l21 l10 l27 x_13 a_58 x_59 (IntKind.wrap .i64 (x_60 + (1 : Int)))))
theorem talk_way.l1_k.mono : MonoF (β := fun _ => ((List Int))) talk_way.l1_k.body := fun f g hfg p => match p with
  | .l1 x_1 x_2 x_3 y_4 a_9 a_11 a_12 => LeO.ite (LeO.bind (LeO.refl _) fun y1 => LeO.ite ((LeO.refl _)) ((hfg _))) ((LeO.refl _))
  | .j1 x_1 x_2 x_3 y_4 a_9 a_11 a_12 => LeO.bind (LeO.refl _) fun y1 => LeO.bind (LeO.refl _) fun l8 => (hfg _)
  | .l3 x_1 x_2 x_3 y_4 a_9 a_11 a_12 x_13 a_58 x_59 x_60 => LeO.ite (LeO.bind (LeO.refl _) fun y1 => LeO.ite ((hfg _)) (LeO.ite (LeO.bind (LeO.refl _) fun y27 => LeO.ite ((hfg _)) ((hfg _))) (LeO.ite (LeO.bind (LeO.refl _) fun y16 => LeO.ite ((hfg _)) ((hfg _))) ((hfg _))))) ((hfg _))
  | .j2 x_1 x_2 x_3 y_4 a_9 a_11 a_12 x_13 x_14 x_16 a_58 x_59 x_60 => LeO.bind (LeO.refl _) fun y1 => LeO.bind (LeO.refl _) fun l10 => LeO.bind (LeO.refl _) fun y12 => LeO.bind (LeO.refl _) fun l21 => LeO.bind (LeO.refl _) fun l27 => (hfg _)
noncomputable def talk_way.l1_k.go (p : talk_way.l1_k.Pt) : Option ((List Int)) := fixF (β := fun _ => ((List Int))) talk_way.l1_k.body p
noncomputable def talk_way.l1 (x_1 : Int) (x_2 : Int) (x_3 : Int) (y_4 : T_talk_Net) (a_9 : List Int) (a_11 : List Bool) (a_12 : List Int) : Option ((List Int)) := talk_way.l1_k.go (.l1 x_1 x_2 x_3 y_4 a_9 a_11 a_12)
noncomputable def talk_way.j1 (x_1 : Int) (x_2 : Int) (x_3 : Int) (y_4 : T_talk_Net) (a_9 : List Int) (a_11 : List Bool) (a_12 : List Int) : Option ((List Int)) := talk_way.l1_k.go (.j1 x_1 x_2 x_3 y_4 a_9 a_11 a_12)
noncomputable def talk_way.l3 (x_1 : Int) (x_2 : Int) (x_3 : Int) (y_4 : T_talk_Net) (a_9 : List Int) (a_11 : List Bool) (a_12 : List Int) (x_13 : Int) (a_58 : List T_talk_Line) (x_59 : Int) (x_60 : Int) : Option ((List Int)) := talk_way.l1_k.go (.l3 x_1 x_2 x_3 y_4 a_9 a_11 a_12 x_13 a_58 x_59 x_60)
noncomputable def talk_way.j2 (x_1 : Int) (x_2 : Int) (x_3 : Int) (y_4 : T_talk_Net) (a_9 : List Int) (a_11 : List Bool) (a_12 : List Int) (x_13 : Int) (x_14 : Int) (x_16 : Int) (a_58 : List T_talk_Line) (x_59 : Int) (x_60 : Int) : Option ((List Int)) := talk_way.l1_k.go (.j2 x_1 x_2 x_3 y_4 a_9 a_11 a_12 x_13 x_14 x_16 a_58 x_59 x_60)
theorem talk_way.l1_eq (x_1 : Int) (x_2 : Int) (x_3 : Int) (y_4 : T_talk_Net) (a_9 : List Int) (a_11 : List Bool) (a_12 : List Int) : talk_way.l1 x_1 x_2 x_3 y_4 a_9 a_11 a_12 = if (((List.length a_12) : Nat) : Int) > (0 : Int) then (Option.bind (gi a_11 x_2) fun y1 => if y1 = true then ((talk_way.j0 x_1 x_2 y_4 a_9 a_11)) else ((talk_way.j1 x_1 x_2 x_3 y_4 a_9 a_11 a_12))) else ((talk_way.j0 x_1 x_2 y_4 a_9 a_11)) := fixF_eq talk_way.l1_k.mono _
theorem talk_way.j1_eq (x_1 : Int) (x_2 : Int) (x_3 : Int) (y_4 : T_talk_Net) (a_9 : List Int) (a_11 : List Bool) (a_12 : List Int) : talk_way.j1 x_1 x_2 x_3 y_4 a_9 a_11 a_12 = Option.bind (gi a_12 (0 : Int)) fun y1 => Option.bind (sls a_12 (1 : Int) (((List.length a_12) : Nat) : Int)) fun l8 => (talk_way.l3 x_1 x_2 x_3 y_4 a_9 a_11 l8 y1 y_4.Lines (((List.length y_4.Lines) : Nat) : Int) (0 : Int)) := fixF_eq talk_way.l1_k.mono _
theorem talk_way.l3_eq (x_1 : Int) (x_2 : Int) (x_3 : Int) (y_4 : T_talk_Net) (a_9 : List Int) (a_11 : List Bool) (a_12 : List Int) (x_13 : Int) (a_58 : List T_talk_Line) (x_59 : Int) (x_60 : Int) : talk_way.l3 x_1 x_2 x_3 y_4 a_9 a_11 a_12 x_13 a_58 x_59 x_60 = if x_60 < x_59 then (Option.bind (gi a_58 x_60) fun y1 => if x_60 = x_3 then ((talk_way.l3 x_1 x_2 x_3 y_4 a_9 a_11 a_12 x_13 a_58 x_59 (IntKind.wrap .i64 (x_60 + (1 : Int))))) else (if y1.A = x_13 then (Option.bind (gi a_11 (IntKind.wrap .i64 ((IntKind.wrap .i64 (y1.A + y1.B)) - x_13))) fun y27 => if y27 = true then ((talk_way.l3 x_1 x_2 x_3 y_4 a_9 a_11 a_12 x_13 a_58 x_59 (IntKind.wrap .i64 (x_60 + (1 : Int))))) else ((talk_way.j2 x_1 x_2 x_3 y_4 a_9 a_11 a_12 x_13 x_60 (IntKind.wrap .i64 ((IntKind.wrap .i64 (y1.A + y1.B)) - x_13)) a_58 x_59 x_60))) else (if y1.B = x_13 then (Option.bind (gi a_11 (IntKind.wrap .i64 ((IntKind.wrap .i64 (y1.A + y1.B)) - x_13))) fun y16 => if y16 = true then ((talk_way.l3 x_1 x_2 x_3 y_4 a_9 a_11 a_12 x_13 a_58 x_59 (IntKind.wrap .i64 (x_60 + (1 : Int))))) else ((talk_way.j2 x_1 x_2 x_3 y_4 a_9 a_11 a_12 x_13 x_60 (IntKind.wrap .i64 ((IntKind.wrap .i64 (y1.A + y1.B)) - x_13)) a_58 x_59 x_60))) else ((talk_way.l3 x_1 x_2 x_3 y_4 a_9 a_11 a_12 x_13 a_58 x_59 (IntKind.wrap .i64 (x_60 + (1 : Int)))))))) else ((talk_way.l1 x_1 x_2 x_3 y_4 a_9 a_11 a_12)) := fixF_eq talk_way.l1_k.mono _
theorem talk_way.j2_eq (x_1 : Int) (x_2 : Int) (x_3 : Int) (y_4 : T_talk_Net) (a_9 : List Int) (a_11 : List Bool) (a_12 : List Int) (x_13 : Int) (x_14 : Int) (x_16 : Int) (a_58 : List T_talk_Line) (x_59 : Int) (x_60 : Int) : talk_way.j2 x_1 x_2 x_3 y_4 a_9 a_11 a_12 x_13 x_14 x_16 a_58 x_59 x_60 = Option.bind (gi a_11 x_16) fun y1 => Option.bind (some (List.set a_11 (Int.toNat x_16) true)) fun l10 => Option.bind (gi a_9 x_16) fun y12 => Option.bind (some (List.set a_9 (Int.toNat x_16) x_14)) fun l21 => Option.bind (ap 8 a_12 ([x_16] : List Int)) fun l27 => (talk_way.l3 x_1 x_2 x_3 y_4 l21 l10 l27 x_13 a_58 x_59 (IntKind.wrap .i64 (x_60 + (1 : Int)))) := fixF_eq talk_way.l1_k.mono _
def talk_way.l1_k.I : (p : talk_way.l1_k.Pt) → ((List Int)) → Prop
  | .l1 x_1 x_2 x_3 y_4 a_9 a_11 a_12, r => ∀ (W : Nat → Prop) (h0 m0 h m : Heap) (bk_4 : Nat) (cs_4 : List Value) (A_9 : Option Addr) (n_9 c_9 : Nat) (A_11 : Option Addr) (n_11 c_11 : Nat) (A_12 : Option Addr) (n_12 c_12 : Nat) (O : Hold W h0 m0 h m [rV bk_4 78 cs_4, rR (aE (tell_int .i64)) A_9 c_9 a_9, rR (aE tell_bool) A_11 c_11 a_11, rR (aE (tell_int .i64)) A_12 c_12 a_12]) (e_4 : T_talk_Net.E m y_4 cs_4) (ne_9 : n_9 = List.length a_9) (ne_11 : n_11 = List.length a_11) (ne_12 : n_12 = List.length a_12), f72.l1 (talk_way.post W h0 m0 r) x_1 x_2 x_3 (⟨bk_4, 0, none⟩ : Addr) A_9 n_9 c_9 A_11 n_11 c_11 A_12 n_12 c_12 h
  | .j1 x_1 x_2 x_3 y_4 a_9 a_11 a_12, r => ∀ (W : Nat → Prop) (h0 m0 h m : Heap) (bk_4 : Nat) (cs_4 : List Value) (A_9 : Option Addr) (n_9 c_9 : Nat) (A_11 : Option Addr) (n_11 c_11 : Nat) (A_12 : Option Addr) (n_12 c_12 : Nat) (O : Hold W h0 m0 h m [rV bk_4 78 cs_4, rR (aE (tell_int .i64)) A_9 c_9 a_9, rR (aE tell_bool) A_11 c_11 a_11, rR (aE (tell_int .i64)) A_12 c_12 a_12]) (e_4 : T_talk_Net.E m y_4 cs_4) (ne_9 : n_9 = List.length a_9) (ne_11 : n_11 = List.length a_11) (ne_12 : n_12 = List.length a_12), f72.j1 (talk_way.post W h0 m0 r) x_1 x_2 x_3 (⟨bk_4, 0, none⟩ : Addr) A_9 n_9 c_9 A_11 n_11 c_11 A_12 n_12 c_12 h
  | .l3 x_1 x_2 x_3 y_4 a_9 a_11 a_12 x_13 a_58 x_59 x_60, r => ∀ (W : Nat → Prop) (h0 m0 h m : Heap) (bk_4 : Nat) (cs_4 : List Value) (A_9 : Option Addr) (n_9 c_9 : Nat) (A_11 : Option Addr) (n_11 c_11 : Nat) (A_12 : Option Addr) (n_12 c_12 : Nat) (A_58 : Option Addr) (n_58 c_58 : Nat) (O : Hold W h0 m0 h m [rV bk_4 78 cs_4, rR (aE (tell_int .i64)) A_9 c_9 a_9, rR (aE tell_bool) A_11 c_11 a_11, rR (aE (tell_int .i64)) A_12 c_12 a_12]) (e_4 : T_talk_Net.E m y_4 cs_4) (ne_9 : n_9 = List.length a_9) (ne_11 : n_11 = List.length a_11) (ne_12 : n_12 = List.length a_12) (ne_58 : n_58 = List.length a_58) (k_58 : List.length a_58 ≤ c_58) (r_58 : Rd 2 T_talk_Line.E m A_58 a_58), f72.l3 (talk_way.post W h0 m0 r) x_1 x_2 x_3 (⟨bk_4, 0, none⟩ : Addr) A_9 n_9 c_9 A_11 n_11 c_11 A_12 n_12 c_12 x_13 A_58 n_58 c_58 x_59 x_60 h
  | .j2 x_1 x_2 x_3 y_4 a_9 a_11 a_12 x_13 x_14 x_16 a_58 x_59 x_60, r => ∀ (W : Nat → Prop) (h0 m0 h m : Heap) (bk_4 : Nat) (cs_4 : List Value) (A_9 : Option Addr) (n_9 c_9 : Nat) (A_11 : Option Addr) (n_11 c_11 : Nat) (A_12 : Option Addr) (n_12 c_12 : Nat) (A_58 : Option Addr) (n_58 c_58 : Nat) (O : Hold W h0 m0 h m [rV bk_4 78 cs_4, rR (aE (tell_int .i64)) A_9 c_9 a_9, rR (aE tell_bool) A_11 c_11 a_11, rR (aE (tell_int .i64)) A_12 c_12 a_12]) (e_4 : T_talk_Net.E m y_4 cs_4) (ne_9 : n_9 = List.length a_9) (ne_11 : n_11 = List.length a_11) (ne_12 : n_12 = List.length a_12) (ne_58 : n_58 = List.length a_58) (k_58 : List.length a_58 ≤ c_58) (r_58 : Rd 2 T_talk_Line.E m A_58 a_58), f72.j2 (talk_way.post W h0 m0 r) x_1 x_2 x_3 (⟨bk_4, 0, none⟩ : Addr) A_9 n_9 c_9 A_11 n_11 c_11 A_12 n_12 c_12 x_13 x_14 x_16 A_58 n_58 c_58 x_59 x_60 h
set_option maxRecDepth 100000 in
theorem talk_way.l1_k.step_l1 (go : (p : talk_way.l1_k.Pt) → Option ((List Int))) (ih : ∀ p r, go p = some r → talk_way.l1_k.I p r) (x_1 : Int) (x_2 : Int) (x_3 : Int) (y_4 : T_talk_Net) (a_9 : List Int) (a_11 : List Bool) (a_12 : List Int) (r : (List Int)) (e : talk_way.l1_k.body go (.l1 x_1 x_2 x_3 y_4 a_9 a_11 a_12) = some r) : talk_way.l1_k.I (.l1 x_1 x_2 x_3 y_4 a_9 a_11 a_12) r := by
  unfold talk_way.l1_k.body at e
  intro W h0 m0 h m bk_4 cs_4 A_9 n_9 c_9 A_11 n_11 c_11 A_12 n_12 c_12 O e_4 ne_9 ne_11 ne_12
  subst ne_9
  subst ne_11
  subst ne_12
  refine f72.l1_in ?_
  unfold f72.l1T
  refine split_dec_e e (fun c9 e => ?_) (fun c9 e => ?_)
  · obtain ⟨y1, g2, e⟩ := bind_e e
    refine (O.os 2 rfl).addr rfl g2 fun a3 cs4 ha5 hc6 he7 => ?_
    obtain rfl : cs4 = [(Value.bool y1)] := he7
    refine ⟨_, ld0 (Sub.refl _) hc6 rfl, _, rfl, ?_⟩
    refine split_not ?_
    refine split_any_e e (fun c8 e => ?_) (fun c8 e => ?_)
    · exact talk_way.j0.walk (O.pick [0, 1, 2]).nm e_4 rfl rfl e
    · exact (ih _ _ e) _ _ _ _ _ _ _ _ _ _ _ _ _ _ _ _ (O.pick [0, 1, 2, 3]).nm e_4 rfl rfl rfl
  · exact talk_way.j0.walk (O.pick [0, 1, 2]).nm e_4 rfl rfl e
set_option maxRecDepth 100000 in
theorem talk_way.l1_k.step_j1 (go : (p : talk_way.l1_k.Pt) → Option ((List Int))) (ih : ∀ p r, go p = some r → talk_way.l1_k.I p r) (x_1 : Int) (x_2 : Int) (x_3 : Int) (y_4 : T_talk_Net) (a_9 : List Int) (a_11 : List Bool) (a_12 : List Int) (r : (List Int)) (e : talk_way.l1_k.body go (.j1 x_1 x_2 x_3 y_4 a_9 a_11 a_12) = some r) : talk_way.l1_k.I (.j1 x_1 x_2 x_3 y_4 a_9 a_11 a_12) r := by
  unfold talk_way.l1_k.body at e
  intro W h0 m0 h m bk_4 cs_4 A_9 n_9 c_9 A_11 n_11 c_11 A_12 n_12 c_12 O e_4 ne_9 ne_11 ne_12
  subst ne_9
  subst ne_11
  subst ne_12
  refine f72.j1_in ?_
  unfold f72.j1T
  obtain ⟨y1, g2, e⟩ := bind_e e
  refine (O.os 3 rfl).addr rfl g2 fun a3 cs4 ha5 hc6 he7 => ?_
  obtain rfl : cs4 = [(Value.int .i64 y1)] := he7
  refine ⟨_, ld0 (Sub.refl _) hc6 rfl, _, rfl, ?_⟩
  obtain ⟨l8, g9, e⟩ := bind_e e
  have q10 := sls_e g9
  refine ⟨q10.1, q10.2.1, cap_in q10.2.2.1 (O.cap 3 rfl), ?_⟩
  try rw [q10.2.2.2.1]
  obtain ⟨A11, c12, q13, k14, r15⟩ := T_talk_Net.g0 e_4
  refine ⟨_, ld0 (Sub.refl _) (O.all 0 rfl) q13, _, _, _, rfl, ?_⟩
  have O16 := O.sls 3 rfl g9
  have O18 := O16.nm
  exact (ih _ _ e) _ _ _ _ _ _ _ _ _ _ _ _ _ _ _ _ _ _ _ (O18.pick [0, 1, 2, 3]).nm e_4 rfl rfl rfl rfl k14 r15
set_option maxHeartbeats 4000000 in
set_option maxRecDepth 100000 in
theorem talk_way.l1_k.step_l3 (go : (p : talk_way.l1_k.Pt) → Option ((List Int))) (ih : ∀ p r, go p = some r → talk_way.l1_k.I p r) (x_1 : Int) (x_2 : Int) (x_3 : Int) (y_4 : T_talk_Net) (a_9 : List Int) (a_11 : List Bool) (a_12 : List Int) (x_13 : Int) (a_58 : List T_talk_Line) (x_59 : Int) (x_60 : Int) (r : (List Int)) (e : talk_way.l1_k.body go (.l3 x_1 x_2 x_3 y_4 a_9 a_11 a_12 x_13 a_58 x_59 x_60) = some r) : talk_way.l1_k.I (.l3 x_1 x_2 x_3 y_4 a_9 a_11 a_12 x_13 a_58 x_59 x_60) r := by
  unfold talk_way.l1_k.body at e
  intro W h0 m0 h m bk_4 cs_4 A_9 n_9 c_9 A_11 n_11 c_11 A_12 n_12 c_12 A_58 n_58 c_58 O e_4 ne_9 ne_11 ne_12 ne_58 k_58 r_58
  subst ne_9
  subst ne_11
  subst ne_12
  subst ne_58
  refine f72.l3_in ?_
  unfold f72.l3T
  refine split_dec_e e (fun c39 e => ?_) (fun c39 e => ?_)
  · obtain ⟨y1, g2, e⟩ := bind_e e
    refine r_58.addr rfl g2 fun a3 cs4 ha5 hc6 he7 => ?_
    refine ⟨_, ldAn O.s hc6 rfl, ?_⟩
    refine O.new fun h8 x9 O10 => ?_
    refine ⟨_, rfl, (T_talk_Line.T.len _ _ _ he7), ?_⟩
    refine O10.stA 4 rfl (T_talk_Line.T.len _ _ _ he7) (T_talk_Line.T.flat _ _ _ he7) fun h12 O13 => ?_
    refine ⟨_, ld0 (Sub.refl _) (O13.all 4 rfl) (T_talk_Line.g0 he7), _, rfl, ?_⟩
    refine ⟨_, ldk (k := 1) (Sub.refl _) (O13.all 4 rfl) (T_talk_Line.g1 he7), _, rfl, ?_⟩
    refine split_eq_e e (fun c38 e => ?_) (fun c38 e => ?_)
    · have O14 := O13.nm
      exact (ih _ _ e) _ _ _ _ _ _ _ _ _ _ _ _ _ _ _ _ _ _ _ (O14.pick [0, 1, 2, 3]).nm e_4 rfl rfl rfl rfl k_58 r_58
    · refine ⟨_, ld0 (Sub.refl _) (O13.all 4 rfl) (T_talk_Line.g0 he7), _, rfl, ?_⟩
      refine split_ne_e e (fun c37 e => ?_) (fun c37 e => ?_)
      · refine ⟨_, ldk (k := 1) (Sub.refl _) (O13.all 4 rfl) (T_talk_Line.g1 he7), _, rfl, ?_⟩
        refine split_ne_e e (fun c26 e => ?_) (fun c26 e => ?_)
        · have O15 := O13.nm
          exact (ih _ _ e) _ _ _ _ _ _ _ _ _ _ _ _ _ _ _ _ _ _ _ (O15.pick [0, 1, 2, 3]).nm e_4 rfl rfl rfl rfl k_58 r_58
        · obtain ⟨y16, g17, e⟩ := bind_e e
          refine (O13.os 2 rfl).addr rfl g17 fun a18 cs19 ha20 hc21 he22 => ?_
          obtain rfl : cs19 = [(Value.bool y16)] := he22
          refine ⟨_, ld0 (Sub.refl _) hc21 rfl, _, rfl, ?_⟩
          refine split_any_e e (fun c25 e => ?_) (fun c25 e => ?_)
          · have O23 := O13.nm
            exact (ih _ _ e) _ _ _ _ _ _ _ _ _ _ _ _ _ _ _ _ _ _ _ (O23.pick [0, 1, 2, 3]).nm e_4 rfl rfl rfl rfl k_58 r_58
          · have O24 := O13.nm
            exact (ih _ _ e) _ _ _ _ _ _ _ _ _ _ _ _ _ _ _ _ _ _ _ (O24.pick [0, 1, 2, 3]).nm e_4 rfl rfl rfl rfl k_58 r_58
      · obtain ⟨y27, g28, e⟩ := bind_e e
        refine (O13.os 2 rfl).addr rfl g28 fun a29 cs30 ha31 hc32 he33 => ?_
        obtain rfl : cs30 = [(Value.bool y27)] := he33
        refine ⟨_, ld0 (Sub.refl _) hc32 rfl, _, rfl, ?_⟩
        refine split_any_e e (fun c36 e => ?_) (fun c36 e => ?_)
        · have O34 := O13.nm
          exact (ih _ _ e) _ _ _ _ _ _ _ _ _ _ _ _ _ _ _ _ _ _ _ (O34.pick [0, 1, 2, 3]).nm e_4 rfl rfl rfl rfl k_58 r_58
        · have O35 := O13.nm
          exact (ih _ _ e) _ _ _ _ _ _ _ _ _ _ _ _ _ _ _ _ _ _ _ (O35.pick [0, 1, 2, 3]).nm e_4 rfl rfl rfl rfl k_58 r_58
  · exact (ih _ _ e) _ _ _ _ _ _ _ _ _ _ _ _ _ _ _ _ (O.pick [0, 1, 2, 3]).nm e_4 rfl rfl rfl
set_option maxRecDepth 100000 in
theorem talk_way.l1_k.step_j2 (go : (p : talk_way.l1_k.Pt) → Option ((List Int))) (ih : ∀ p r, go p = some r → talk_way.l1_k.I p r) (x_1 : Int) (x_2 : Int) (x_3 : Int) (y_4 : T_talk_Net) (a_9 : List Int) (a_11 : List Bool) (a_12 : List Int) (x_13 : Int) (x_14 : Int) (x_16 : Int) (a_58 : List T_talk_Line) (x_59 : Int) (x_60 : Int) (r : (List Int)) (e : talk_way.l1_k.body go (.j2 x_1 x_2 x_3 y_4 a_9 a_11 a_12 x_13 x_14 x_16 a_58 x_59 x_60) = some r) : talk_way.l1_k.I (.j2 x_1 x_2 x_3 y_4 a_9 a_11 a_12 x_13 x_14 x_16 a_58 x_59 x_60) r := by
  unfold talk_way.l1_k.body at e
  intro W h0 m0 h m bk_4 cs_4 A_9 n_9 c_9 A_11 n_11 c_11 A_12 n_12 c_12 A_58 n_58 c_58 O e_4 ne_9 ne_11 ne_12 ne_58 k_58 r_58
  subst ne_9
  subst ne_11
  subst ne_12
  subst ne_58
  refine f72.j2_in ?_
  unfold f72.j2T
  obtain ⟨y1, g2, e⟩ := bind_e e
  refine (O.os 2 rfl).addr rfl g2 fun a3 cs4 ha5 hc6 he7 => ?_
  obtain rfl : cs4 = [(Value.bool y1)] := he7
  obtain ⟨l10, g11, e⟩ := bind_e e
  replace g11 := Option.some.inj g11
  refine O.elst0 2 rfl g2 ha5 hc6 (by decide) (y' := true) rfl trivial g11 fun h8 O9 => ?_
  obtain ⟨y12, g13, e⟩ := bind_e e
  refine (O9.os 1 rfl).addr rfl g13 fun a14 cs15 ha16 hc17 he18 => ?_
  obtain rfl : cs15 = [(Value.int .i64 y12)] := he18
  obtain ⟨l21, g22, e⟩ := bind_e e
  replace g22 := Option.some.inj g22
  refine O9.elst0 1 rfl g13 ha16 hc17 (by decide) (y' := x_14) rfl trivial g22 fun h19 O20 => ?_
  refine O20.new fun h23 x24 O25 => ?_
  obtain ⟨l27, g28, e⟩ := bind_e e
  have O35 := O25.rowE (l := ([x_16] : List Int)) 4 rfl (tell_int .i64) (show CsE _ _ _ _ _ from (CsE.cons (c1 := [(Value.int .i64 x_16)]) rfl rfl CsE.nil)) rfl
  refine O35.app 3 rfl rfl rfl ((O35.os 4 rfl).srcE rfl) (by decide) g28 fun A29 c30 h31 O32 => ?_
  refine ⟨_, _, _, rfl, ?_⟩
  have O36 := O32.nm
  exact (ih _ _ e) _ _ _ _ _ _ _ _ _ _ _ _ _ _ _ _ _ _ _ (O36.pick [0, 1, 2, 3]).nm e_4 (lset' g22) (lset' g11) rfl rfl k_58 r_58
theorem talk_way.l1_k.all {p : talk_way.l1_k.Pt} {r : ((List Int))} (e : talk_way.l1_k.go p = some r) : talk_way.l1_k.I p r := fixF_ind (β := fun _ => ((List Int))) talk_way.l1_k.mono (I := talk_way.l1_k.I) (fun go ih p r e => match p with
  | .l1 x_1 x_2 x_3 y_4 a_9 a_11 a_12 => talk_way.l1_k.step_l1 go ih x_1 x_2 x_3 y_4 a_9 a_11 a_12 r e
  | .j1 x_1 x_2 x_3 y_4 a_9 a_11 a_12 => talk_way.l1_k.step_j1 go ih x_1 x_2 x_3 y_4 a_9 a_11 a_12 r e
  | .l3 x_1 x_2 x_3 y_4 a_9 a_11 a_12 x_13 a_58 x_59 x_60 => talk_way.l1_k.step_l3 go ih x_1 x_2 x_3 y_4 a_9 a_11 a_12 x_13 a_58 x_59 x_60 r e
  | .j2 x_1 x_2 x_3 y_4 a_9 a_11 a_12 x_13 x_14 x_16 a_58 x_59 x_60 => talk_way.l1_k.step_j2 go ih x_1 x_2 x_3 y_4 a_9 a_11 a_12 x_13 x_14 x_16 a_58 x_59 x_60 r e
  ) e
theorem talk_way.l1.walk {W : Nat → Prop} {h0 m0 h m : Heap} {bk_4 : Nat} {cs_4 : List Value} {A_9 : Option Addr} {n_9 c_9 : Nat} {A_11 : Option Addr} {n_11 c_11 : Nat} {A_12 : Option Addr} {n_12 c_12 : Nat} {x_1 : Int} {x_2 : Int} {x_3 : Int} {y_4 : T_talk_Net} {a_9 : List Int} {a_11 : List Bool} {a_12 : List Int} (O : Hold W h0 m0 h m [rV bk_4 78 cs_4, rR (aE (tell_int .i64)) A_9 c_9 a_9, rR (aE tell_bool) A_11 c_11 a_11, rR (aE (tell_int .i64)) A_12 c_12 a_12]) (e_4 : T_talk_Net.E m y_4 cs_4) (ne_9 : n_9 = List.length a_9) (ne_11 : n_11 = List.length a_11) (ne_12 : n_12 = List.length a_12) {r : (List Int)} (e : talk_way.l1 x_1 x_2 x_3 y_4 a_9 a_11 a_12 = some r) : f72.l1 (talk_way.post W h0 m0 r) x_1 x_2 x_3 (⟨bk_4, 0, none⟩ : Addr) A_9 n_9 c_9 A_11 n_11 c_11 A_12 n_12 c_12 h := talk_way.l1_k.all (p := .l1 x_1 x_2 x_3 y_4 a_9 a_11 a_12) e W h0 m0 h m bk_4 cs_4 A_9 n_9 c_9 A_11 n_11 c_11 A_12 n_12 c_12 O e_4 ne_9 ne_11 ne_12
inductive talk_way.l0_k.Pt where
  | l0 (x_1 : Int) (x_2 : Int) (x_3 : Int) (y_4 : T_talk_Net) (a_9 : List Int) (x_25 : Int) (x_26 : Int)
noncomputable def talk_way.l0_k.body (go : (p : talk_way.l0_k.Pt) → Option ((List Int))) : (p : talk_way.l0_k.Pt) → Option ((List Int))
  | .l0 x_1 x_2 x_3 y_4 a_9 x_25 x_26 => if x_26 < x_25 then (Option.bind (gi a_9 x_26) fun y1 => Option.bind (some (List.set a_9 (Int.toNat x_26) (-1 : Int))) fun l10 => (go (.l0 x_1 x_2 x_3 y_4 l10 x_25 (IntKind.wrap .i64 (x_26 + (1 : Int)))))) else (Option.bind (mks 1 (((List.length y_4.Who) : Nat) : Int) false) fun l18 => Option.bind (gi l18 x_1) fun y26 => Option.bind (some (List.set l18 (Int.toNat x_1) true)) fun l35 => (talk_way.l1 x_1 x_2 x_3 y_4 a_9 l35 ([x_1] : List Int)))
theorem talk_way.l0_k.mono : MonoF (β := fun _ => ((List Int))) talk_way.l0_k.body := fun f g hfg p => match p with
  | .l0 x_1 x_2 x_3 y_4 a_9 x_25 x_26 => LeO.ite (LeO.bind (LeO.refl _) fun y1 => LeO.bind (LeO.refl _) fun l10 => (hfg _)) (LeO.bind (LeO.refl _) fun l18 => LeO.bind (LeO.refl _) fun y26 => LeO.bind (LeO.refl _) fun l35 => (LeO.refl _))
noncomputable def talk_way.l0_k.go (p : talk_way.l0_k.Pt) : Option ((List Int)) := fixF (β := fun _ => ((List Int))) talk_way.l0_k.body p
noncomputable def talk_way.l0 (x_1 : Int) (x_2 : Int) (x_3 : Int) (y_4 : T_talk_Net) (a_9 : List Int) (x_25 : Int) (x_26 : Int) : Option ((List Int)) := talk_way.l0_k.go (.l0 x_1 x_2 x_3 y_4 a_9 x_25 x_26)
theorem talk_way.l0_eq (x_1 : Int) (x_2 : Int) (x_3 : Int) (y_4 : T_talk_Net) (a_9 : List Int) (x_25 : Int) (x_26 : Int) : talk_way.l0 x_1 x_2 x_3 y_4 a_9 x_25 x_26 = if x_26 < x_25 then (Option.bind (gi a_9 x_26) fun y1 => Option.bind (some (List.set a_9 (Int.toNat x_26) (-1 : Int))) fun l10 => (talk_way.l0 x_1 x_2 x_3 y_4 l10 x_25 (IntKind.wrap .i64 (x_26 + (1 : Int))))) else (Option.bind (mks 1 (((List.length y_4.Who) : Nat) : Int) false) fun l18 => Option.bind (gi l18 x_1) fun y26 => Option.bind (some (List.set l18 (Int.toNat x_1) true)) fun l35 => (talk_way.l1 x_1 x_2 x_3 y_4 a_9 l35 ([x_1] : List Int))) := fixF_eq talk_way.l0_k.mono _
def talk_way.l0_k.I : (p : talk_way.l0_k.Pt) → ((List Int)) → Prop
  | .l0 x_1 x_2 x_3 y_4 a_9 x_25 x_26, r => ∀ (W : Nat → Prop) (h0 m0 h m : Heap) (bk_4 : Nat) (cs_4 : List Value) (A_9 : Option Addr) (n_9 c_9 : Nat) (O : Hold W h0 m0 h m [rV bk_4 78 cs_4, rR (aE (tell_int .i64)) A_9 c_9 a_9]) (e_4 : T_talk_Net.E m y_4 cs_4) (ne_9 : n_9 = List.length a_9), f72.l0 (talk_way.post W h0 m0 r) x_1 x_2 x_3 (⟨bk_4, 0, none⟩ : Addr) A_9 n_9 c_9 x_25 x_26 h
set_option maxRecDepth 100000 in
theorem talk_way.l0_k.step_l0 (go : (p : talk_way.l0_k.Pt) → Option ((List Int))) (ih : ∀ p r, go p = some r → talk_way.l0_k.I p r) (x_1 : Int) (x_2 : Int) (x_3 : Int) (y_4 : T_talk_Net) (a_9 : List Int) (x_25 : Int) (x_26 : Int) (r : (List Int)) (e : talk_way.l0_k.body go (.l0 x_1 x_2 x_3 y_4 a_9 x_25 x_26) = some r) : talk_way.l0_k.I (.l0 x_1 x_2 x_3 y_4 a_9 x_25 x_26) r := by
  unfold talk_way.l0_k.body at e
  intro W h0 m0 h m bk_4 cs_4 A_9 n_9 c_9 O e_4 ne_9
  subst ne_9
  refine f72.l0_in ?_
  unfold f72.l0T
  refine split_dec_e e (fun c43 e => ?_) (fun c43 e => ?_)
  · obtain ⟨y1, g2, e⟩ := bind_e e
    refine (O.os 1 rfl).addr rfl g2 fun a3 cs4 ha5 hc6 he7 => ?_
    obtain rfl : cs4 = [(Value.int .i64 y1)] := he7
    obtain ⟨l10, g11, e⟩ := bind_e e
    replace g11 := Option.some.inj g11
    refine O.elst0 1 rfl g2 ha5 hc6 (by decide) (y' := (-1 : Int)) rfl trivial g11 fun h8 O9 => ?_
    have O12 := O9.nm
    exact (ih _ _ e) _ _ _ _ _ _ _ _ _ _ (O12.pick [0, 1]).nm e_4 (lset' g11)
  · obtain ⟨A13, c14, q15, k16, r17⟩ := T_talk_Net.g1 e_4
    refine ⟨_, ldk (k := 1) (Sub.refl _) (O.all 0 rfl) q15, _, _, _, rfl, ?_⟩
    obtain ⟨l18, g19, e⟩ := bind_e e
    have q20 := mks_e g19
    refine ⟨q20.1, Int.le_refl _, q20.2.1, q20.2.2.1, ?_⟩
    refine O.new fun h21 x22 O23 => ?_
    have O24 := O23.made 2 rfl (aE tell_bool) g19 ⟨rfl, rfl⟩
    try rw [q20.2.2.2.1]
    obtain ⟨y26, g27, e⟩ := bind_e e
    refine (O24.os 2 rfl).addrS rfl g27 fun cs29 hc31 he32 => ?_
    obtain rfl : cs29 = [(Value.bool y26)] := he32
    obtain ⟨l35, g36, e⟩ := bind_e e
    replace g36 := Option.some.inj g36
    refine O24.elst0 2 rfl g27 rfl hc31 (by decide) (y' := true) rfl trivial g36 fun h33 O34 => ?_
    refine O34.new fun h37 x38 O39 => ?_
    have O41 := O39.rowE (l := ([x_1] : List Int)) 3 rfl (tell_int .i64) (show CsE _ _ _ _ _ from (CsE.cons (c1 := [(Value.int .i64 x_1)]) rfl rfl CsE.nil)) rfl
    have O42 := O41.nm
    exact talk_way.l1.walk (O42.pick [0, 1, 2, 3]).nm e_4 rfl (lset' g36) rfl e
theorem talk_way.l0_k.all {p : talk_way.l0_k.Pt} {r : ((List Int))} (e : talk_way.l0_k.go p = some r) : talk_way.l0_k.I p r := fixF_ind (β := fun _ => ((List Int))) talk_way.l0_k.mono (I := talk_way.l0_k.I) (fun go ih p r e => match p with
  | .l0 x_1 x_2 x_3 y_4 a_9 x_25 x_26 => talk_way.l0_k.step_l0 go ih x_1 x_2 x_3 y_4 a_9 x_25 x_26 r e
  ) e
theorem talk_way.l0.walk {W : Nat → Prop} {h0 m0 h m : Heap} {bk_4 : Nat} {cs_4 : List Value} {A_9 : Option Addr} {n_9 c_9 : Nat} {x_1 : Int} {x_2 : Int} {x_3 : Int} {y_4 : T_talk_Net} {a_9 : List Int} {x_25 : Int} {x_26 : Int} (O : Hold W h0 m0 h m [rV bk_4 78 cs_4, rR (aE (tell_int .i64)) A_9 c_9 a_9]) (e_4 : T_talk_Net.E m y_4 cs_4) (ne_9 : n_9 = List.length a_9) {r : (List Int)} (e : talk_way.l0 x_1 x_2 x_3 y_4 a_9 x_25 x_26 = some r) : f72.l0 (talk_way.post W h0 m0 r) x_1 x_2 x_3 (⟨bk_4, 0, none⟩ : Addr) A_9 n_9 c_9 x_25 x_26 h := talk_way.l0_k.all (p := .l0 x_1 x_2 x_3 y_4 a_9 x_25 x_26) e W h0 m0 h m bk_4 cs_4 A_9 n_9 c_9 O e_4 ne_9
noncomputable def talk_way (y_0 : T_talk_Net) (x_1 : Int) (x_2 : Int) (x_3 : Int) : Option ((List Int)) :=
  Option.bind (mks 8 (((List.length y_0.Who) : Nat) : Int) (0 : Int)) fun l10 => (talk_way.l0 x_1 x_2 x_3 y_0 l10 (((List.length l10) : Nat) : Int) (0 : Int))
set_option maxRecDepth 100000 in
theorem talk_way.walk {W : Nat → Prop} {h m : Heap} {cs_0 : List Value} {y_0 : T_talk_Net} {x_1 : Int} {x_2 : Int} {x_3 : Int} (O : Hold W h m h m []) (e_0 : T_talk_Net.E m y_0 cs_0) {r : (List Int)} (e : talk_way y_0 x_1 x_2 x_3 = some r) : Run Try.prog 72 #[Value.agg cs_0.toArray, Value.int .i64 x_1, Value.int .i64 x_2, Value.int .i64 x_3] h (talk_way.post W h m r) := by
  unfold talk_way at e
  refine f72.run ?_
  unfold f72.runT
  refine O.new fun h1 x2 O3 => ?_
  obtain ⟨A5, c6, q7, k8, r9⟩ := T_talk_Net.g1 e_0
  refine ⟨_, ldk (k := 1) (Sub.refl _) (O3.all 0 rfl) q7, _, _, _, rfl, ?_⟩
  obtain ⟨l10, g11, e⟩ := bind_e e
  have q12 := mks_e g11
  refine ⟨q12.1, Int.le_refl _, q12.2.1, q12.2.2.1, ?_⟩
  refine O3.new fun h13 x14 O15 => ?_
  have O16 := O15.made 1 rfl (aE (tell_int .i64)) g11 ⟨rfl, rfl⟩
  try rw [q12.2.2.2.1]
  have O18 := O16.nm
  exact talk_way.l0.walk (O18.pick [0, 1]).nm e_0 rfl e
def talk_Ring.post (W : Nat → Prop) (h0 m0 : Heap) (r : (List Int) × Int) (v : Value) (h : Heap) : Prop := ∃ m A0 n0 c0, Hold W h0 m0 h m [rR (aE (tell_int .i64)) A0 c0 r.1] ∧ v = .tuple #[.slice A0 n0 c0, .int .i64 r.2] ∧ n0 = List.length r.1
inductive talk_Ring.l0_k.Pt where
  | l0 (y_1 : T_talk_Net) (a_5 : List Int) (a_15 : List T_talk_Line) (x_16 : Int) (x_17 : Int)
  | j0 (y_1 : T_talk_Net) (a_5 : List Int) (x_6 : Int) (a_8 : List Int) (a_15 : List T_talk_Line) (x_16 : Int) (x_17 : Int) (b_42 : Bool)
noncomputable def talk_Ring.l0_k.body (go : (p : talk_Ring.l0_k.Pt) → Option ((List Int) × Int)) : (p : talk_Ring.l0_k.Pt) → Option ((List Int) × Int)
  | .l0 y_1 a_5 a_15 x_16 x_17 => if x_17 < x_16 then (Option.bind (gi a_15 x_17) fun y1 => Option.bind (talk_way y_1 y1.B y1.A x_17) fun y14 => if List.length y14 = 0 then ((go (.j0 y_1 a_5 x_17 y14 a_15 x_16 x_17 false))) else (if List.length a_5 = 0 then ((go (.j0 y_1 a_5 x_17 y14 a_15 x_16 x_17 true))) else ((go (.j0 y_1 a_5 x_17 y14 a_15 x_16 x_17 (decide ((IntKind.wrap .i64 ((((List.length y14) : Nat) : Int) + (1 : Int))) < (((List.length a_5) : Nat) : Int)))))))) else (if List.length a_5 = 0 then (some (([] : List Int), (4 : Int))) else (some (a_5, (0 : Int))))
  | .j0 y_1 a_5 x_6 a_8 a_15 x_16 x_17 b_42 => if b_42 = true then (Option.bind (ap 8 ([x_6] : List Int) a_8) fun l6 => (go (.l0 y_1 l6 a_15 x_16 (IntKind.wrap .i64 (x_17 + (1 : Int)))))) else ((go (.l0 y_1 a_5 a_15 x_16 (IntKind.wrap .i64 (x_17 + (1 : Int))))))
theorem talk_Ring.l0_k.mono : MonoF (β := fun _ => ((List Int) × Int)) talk_Ring.l0_k.body := fun f g hfg p => match p with
  | .l0 y_1 a_5 a_15 x_16 x_17 => LeO.ite (LeO.bind (LeO.refl _) fun y1 => LeO.bind (LeO.refl _) fun y14 => LeO.ite ((hfg _)) (LeO.ite ((hfg _)) ((hfg _)))) (LeO.ite (LeO.refl _) (LeO.refl _))
  | .j0 y_1 a_5 x_6 a_8 a_15 x_16 x_17 b_42 => LeO.ite (LeO.bind (LeO.refl _) fun l6 => (hfg _)) ((hfg _))
noncomputable def talk_Ring.l0_k.go (p : talk_Ring.l0_k.Pt) : Option ((List Int) × Int) := fixF (β := fun _ => ((List Int) × Int)) talk_Ring.l0_k.body p
noncomputable def talk_Ring.l0 (y_1 : T_talk_Net) (a_5 : List Int) (a_15 : List T_talk_Line) (x_16 : Int) (x_17 : Int) : Option ((List Int) × Int) := talk_Ring.l0_k.go (.l0 y_1 a_5 a_15 x_16 x_17)
noncomputable def talk_Ring.j0 (y_1 : T_talk_Net) (a_5 : List Int) (x_6 : Int) (a_8 : List Int) (a_15 : List T_talk_Line) (x_16 : Int) (x_17 : Int) (b_42 : Bool) : Option ((List Int) × Int) := talk_Ring.l0_k.go (.j0 y_1 a_5 x_6 a_8 a_15 x_16 x_17 b_42)
theorem talk_Ring.l0_eq (y_1 : T_talk_Net) (a_5 : List Int) (a_15 : List T_talk_Line) (x_16 : Int) (x_17 : Int) : talk_Ring.l0 y_1 a_5 a_15 x_16 x_17 = if x_17 < x_16 then (Option.bind (gi a_15 x_17) fun y1 => Option.bind (talk_way y_1 y1.B y1.A x_17) fun y14 => if List.length y14 = 0 then ((talk_Ring.j0 y_1 a_5 x_17 y14 a_15 x_16 x_17 false)) else (if List.length a_5 = 0 then ((talk_Ring.j0 y_1 a_5 x_17 y14 a_15 x_16 x_17 true)) else ((talk_Ring.j0 y_1 a_5 x_17 y14 a_15 x_16 x_17 (decide ((IntKind.wrap .i64 ((((List.length y14) : Nat) : Int) + (1 : Int))) < (((List.length a_5) : Nat) : Int))))))) else (if List.length a_5 = 0 then (some (([] : List Int), (4 : Int))) else (some (a_5, (0 : Int)))) := fixF_eq talk_Ring.l0_k.mono _
theorem talk_Ring.j0_eq (y_1 : T_talk_Net) (a_5 : List Int) (x_6 : Int) (a_8 : List Int) (a_15 : List T_talk_Line) (x_16 : Int) (x_17 : Int) (b_42 : Bool) : talk_Ring.j0 y_1 a_5 x_6 a_8 a_15 x_16 x_17 b_42 = if b_42 = true then (Option.bind (ap 8 ([x_6] : List Int) a_8) fun l6 => (talk_Ring.l0 y_1 l6 a_15 x_16 (IntKind.wrap .i64 (x_17 + (1 : Int))))) else ((talk_Ring.l0 y_1 a_5 a_15 x_16 (IntKind.wrap .i64 (x_17 + (1 : Int))))) := fixF_eq talk_Ring.l0_k.mono _
def talk_Ring.l0_k.I : (p : talk_Ring.l0_k.Pt) → ((List Int) × Int) → Prop
  | .l0 y_1 a_5 a_15 x_16 x_17, r => ∀ (W : Nat → Prop) (h0 m0 h m : Heap) (bk_1 : Nat) (cs_1 : List Value) (A_5 : Option Addr) (n_5 c_5 : Nat) (A_15 : Option Addr) (n_15 c_15 : Nat) (O : Hold W h0 m0 h m [rV bk_1 78 cs_1, rR (aE (tell_int .i64)) A_5 c_5 a_5]) (e_1 : T_talk_Net.E m y_1 cs_1) (ne_5 : n_5 = List.length a_5) (zn_5 : List.length a_5 = 0 → A_5 = none) (ne_15 : n_15 = List.length a_15) (k_15 : List.length a_15 ≤ c_15) (r_15 : Rd 2 T_talk_Line.E m A_15 a_15), f39.l0 (talk_Ring.post W h0 m0 r) (⟨bk_1, 0, none⟩ : Addr) A_5 n_5 c_5 A_15 n_15 c_15 x_16 x_17 h
  | .j0 y_1 a_5 x_6 a_8 a_15 x_16 x_17 b_42, r => ∀ (W : Nat → Prop) (h0 m0 h m : Heap) (bk_1 : Nat) (cs_1 : List Value) (A_5 : Option Addr) (n_5 c_5 : Nat) (A_8 : Option Addr) (n_8 c_8 : Nat) (A_15 : Option Addr) (n_15 c_15 : Nat) (O : Hold W h0 m0 h m [rV bk_1 78 cs_1, rR (aE (tell_int .i64)) A_5 c_5 a_5, rR (aE (tell_int .i64)) A_8 c_8 a_8]) (e_1 : T_talk_Net.E m y_1 cs_1) (ne_5 : n_5 = List.length a_5) (zn_5 : List.length a_5 = 0 → A_5 = none) (ne_8 : n_8 = List.length a_8) (ne_15 : n_15 = List.length a_15) (k_15 : List.length a_15 ≤ c_15) (r_15 : Rd 2 T_talk_Line.E m A_15 a_15), f39.j0 (talk_Ring.post W h0 m0 r) (⟨bk_1, 0, none⟩ : Addr) A_5 n_5 c_5 x_6 A_8 n_8 c_8 A_15 n_15 c_15 x_16 x_17 b_42 h
set_option maxHeartbeats 4000000 in
set_option maxRecDepth 100000 in
theorem talk_Ring.l0_k.step_l0 (go : (p : talk_Ring.l0_k.Pt) → Option ((List Int) × Int)) (ih : ∀ p r, go p = some r → talk_Ring.l0_k.I p r) (y_1 : T_talk_Net) (a_5 : List Int) (a_15 : List T_talk_Line) (x_16 : Int) (x_17 : Int) (r : (List Int) × Int) (e : talk_Ring.l0_k.body go (.l0 y_1 a_5 a_15 x_16 x_17) = some r) : talk_Ring.l0_k.I (.l0 y_1 a_5 a_15 x_16 x_17) r := by
  unfold talk_Ring.l0_k.body at e
  intro W h0 m0 h m bk_1 cs_1 A_5 n_5 c_5 A_15 n_15 c_15 O e_1 ne_5 zn_5 ne_15 k_15 r_15
  subst ne_5
  subst ne_15
  refine f39.l0_in ?_
  unfold f39.l0T
  refine split_dec_e e (fun c33 e => ?_) (fun c33 e => ?_)
  · obtain ⟨y1, g2, e⟩ := bind_e e
    refine r_15.addr rfl g2 fun a3 cs4 ha5 hc6 he7 => ?_
    refine ⟨_, ldAn O.s hc6 rfl, ?_⟩
    refine O.new fun h8 x9 O10 => ?_
    refine ⟨_, rfl, (T_talk_Line.T.len _ _ _ he7), ?_⟩
    refine O10.stA 2 rfl (T_talk_Line.T.len _ _ _ he7) (T_talk_Line.T.flat _ _ _ he7) fun h12 O13 => ?_
    refine ⟨_, ldAn (Sub.refl _) (O13.all 0 rfl) (T_talk_Net.T.len _ _ _ e_1), ?_⟩
    refine ⟨_, ldk (k := 1) (Sub.refl _) (O13.all 2 rfl) (T_talk_Line.g1 he7), _, rfl, ?_⟩
    refine ⟨_, ld0 (Sub.refl _) (O13.all 2 rfl) (T_talk_Line.g0 he7), _, rfl, ?_⟩
    obtain ⟨y14, g15, e⟩ := bind_e e
    refine (talk_way.walk (Hold.start (W := No) O13.s) e_1 g15).mono ?_
    rintro _ h16 ⟨m17, A20, n21, c22, Q18, rfl, ne23, zn25⟩
    have O26 := Hold.nm (O13.retC Q18 (vfs_cons (rR_vf (aE_vf (fun _ _ _ _ h => h))) vfs_nil))
    subst ne23
    refine ⟨_, _, _, rfl, ?_⟩
    try rw [nil_dec zn25 (OS.nn ((O26.os 3 rfl)))]
    refine split_not ?_
    refine split_dec_e e (fun c28 e => ?_) (fun c28 e => ?_)
    · exact (ih _ _ e) _ _ _ _ _ _ _ _ _ _ _ _ _ _ _ _ (O26.pick [0, 1, 3]).nm e_1 rfl zn_5 rfl rfl k_15 r_15
    · try rw [nil_dec zn_5 (OS.nn ((O26.os 1 rfl)))]
      refine split_dec_e e (fun c27 e => ?_) (fun c27 e => ?_)
      · exact (ih _ _ e) _ _ _ _ _ _ _ _ _ _ _ _ _ _ _ _ (O26.pick [0, 1, 3]).nm e_1 rfl zn_5 rfl rfl k_15 r_15
      · exact (ih _ _ e) _ _ _ _ _ _ _ _ _ _ _ _ _ _ _ _ (O26.pick [0, 1, 3]).nm e_1 rfl zn_5 rfl rfl k_15 r_15
  · try rw [nil_dec zn_5 (OS.nn ((O.os 1 rfl)))]
    refine split_dec_e e (fun c32 e => ?_) (fun c32 e => ?_)
    · have O29 := O.nil (aE (tell_int .i64)) none
      have O31 := O29.nm
      cases e
      exact ⟨_, _, _, _, O31.pick [2], rfl, rfl⟩
    · cases e
      exact ⟨_, _, _, _, O.pick [1], rfl, rfl⟩
set_option maxRecDepth 100000 in
theorem talk_Ring.l0_k.step_j0 (go : (p : talk_Ring.l0_k.Pt) → Option ((List Int) × Int)) (ih : ∀ p r, go p = some r → talk_Ring.l0_k.I p r) (y_1 : T_talk_Net) (a_5 : List Int) (x_6 : Int) (a_8 : List Int) (a_15 : List T_talk_Line) (x_16 : Int) (x_17 : Int) (b_42 : Bool) (r : (List Int) × Int) (e : talk_Ring.l0_k.body go (.j0 y_1 a_5 x_6 a_8 a_15 x_16 x_17 b_42) = some r) : talk_Ring.l0_k.I (.j0 y_1 a_5 x_6 a_8 a_15 x_16 x_17 b_42) r := by
  unfold talk_Ring.l0_k.body at e
  intro W h0 m0 h m bk_1 cs_1 A_5 n_5 c_5 A_8 n_8 c_8 A_15 n_15 c_15 O e_1 ne_5 zn_5 ne_8 ne_15 k_15 r_15
  subst ne_5
  subst ne_8
  subst ne_15
  refine f39.j0_in ?_
  unfold f39.j0T
  refine split_any_e e (fun c15 e => ?_) (fun c15 e => ?_)
  · refine O.new fun h1 x2 O3 => ?_
    obtain ⟨l6, g7, e⟩ := bind_e e
    have O5 := O3.rowE (l := ([x_6] : List Int)) 3 rfl (tell_int .i64) (show CsE _ _ _ _ _ from (CsE.cons (c1 := [(Value.int .i64 x_6)]) rfl rfl CsE.nil)) rfl
    refine O5.app 3 rfl rfl rfl ((O5.os 2 rfl).srcE rfl) (by decide) g7 fun A8 c9 h10 O11 => ?_
    refine ⟨_, _, _, rfl, ?_⟩
    have O14 := O11.nm
    exact (ih _ _ e) _ _ _ _ _ _ _ _ _ _ _ _ _ (O14.pick [0, 3]).nm e_1 rfl (ap_zn g7 (by simp)) rfl k_15 r_15
  · exact (ih _ _ e) _ _ _ _ _ _ _ _ _ _ _ _ _ (O.pick [0, 1]).nm e_1 rfl zn_5 rfl k_15 r_15
theorem talk_Ring.l0_k.all {p : talk_Ring.l0_k.Pt} {r : ((List Int) × Int)} (e : talk_Ring.l0_k.go p = some r) : talk_Ring.l0_k.I p r := fixF_ind (β := fun _ => ((List Int) × Int)) talk_Ring.l0_k.mono (I := talk_Ring.l0_k.I) (fun go ih p r e => match p with
  | .l0 y_1 a_5 a_15 x_16 x_17 => talk_Ring.l0_k.step_l0 go ih y_1 a_5 a_15 x_16 x_17 r e
  | .j0 y_1 a_5 x_6 a_8 a_15 x_16 x_17 b_42 => talk_Ring.l0_k.step_j0 go ih y_1 a_5 x_6 a_8 a_15 x_16 x_17 b_42 r e
  ) e
theorem talk_Ring.l0.walk {W : Nat → Prop} {h0 m0 h m : Heap} {bk_1 : Nat} {cs_1 : List Value} {A_5 : Option Addr} {n_5 c_5 : Nat} {A_15 : Option Addr} {n_15 c_15 : Nat} {y_1 : T_talk_Net} {a_5 : List Int} {a_15 : List T_talk_Line} {x_16 : Int} {x_17 : Int} (O : Hold W h0 m0 h m [rV bk_1 78 cs_1, rR (aE (tell_int .i64)) A_5 c_5 a_5]) (e_1 : T_talk_Net.E m y_1 cs_1) (ne_5 : n_5 = List.length a_5) (zn_5 : List.length a_5 = 0 → A_5 = none) (ne_15 : n_15 = List.length a_15) (k_15 : List.length a_15 ≤ c_15) (r_15 : Rd 2 T_talk_Line.E m A_15 a_15) {r : (List Int) × Int} (e : talk_Ring.l0 y_1 a_5 a_15 x_16 x_17 = some r) : f39.l0 (talk_Ring.post W h0 m0 r) (⟨bk_1, 0, none⟩ : Addr) A_5 n_5 c_5 A_15 n_15 c_15 x_16 x_17 h := talk_Ring.l0_k.all (p := .l0 y_1 a_5 a_15 x_16 x_17) e W h0 m0 h m bk_1 cs_1 A_5 n_5 c_5 A_15 n_15 c_15 O e_1 ne_5 zn_5 ne_15 k_15 r_15
noncomputable def talk_Ring (y_0 : T_talk_Net) : Option ((List Int) × Int) :=
  Option.bind (talk_Check y_0) fun y5 => if y5 = (0 : Int) then ((talk_Ring.l0 y_0 ([] : List Int) y_0.Lines (((List.length y_0.Lines) : Nat) : Int) (0 : Int))) else (some (([] : List Int), y5))
set_option maxRecDepth 100000 in
theorem talk_Ring.walk {W : Nat → Prop} {h m : Heap} {cs_0 : List Value} {y_0 : T_talk_Net} (O : Hold W h m h m []) (e_0 : T_talk_Net.E m y_0 cs_0) {r : (List Int) × Int} (e : talk_Ring y_0 = some r) : Run Try.prog 39 #[Value.agg cs_0.toArray] h (talk_Ring.post W h m r) := by
  unfold talk_Ring at e
  refine f39.run ?_
  unfold f39.runT
  refine O.new fun h1 x2 O3 => ?_
  refine ⟨_, ldAn (Sub.refl _) (O3.all 0 rfl) (T_talk_Net.T.len _ _ _ e_0), ?_⟩
  obtain ⟨y5, g6, e⟩ := bind_e e
  refine (talk_Check.walk (Hold.start (W := No) O3.s) e_0 g6).mono ?_
  rintro _ h7 ⟨m8, Q9, rfl⟩
  have O11 := Hold.nm (O3.retC Q9 vfs_nil)
  refine ⟨_, rfl, ?_⟩
  refine split_ne_e e (fun c23 e => ?_) (fun c23 e => ?_)
  · have O12 := O11.nil (aE (tell_int .i64)) none
    have O14 := O12.nm
    cases e
    exact ⟨_, _, _, _, O14.pick [1], rfl, rfl⟩
  · obtain ⟨A15, c16, q17, k18, r19⟩ := T_talk_Net.g0 e_0
    refine ⟨_, ld0 (Sub.refl _) (O11.all 0 rfl) q17, _, _, _, rfl, ?_⟩
    have O20 := O11.nil (aE (tell_int .i64)) none
    have O22 := O20.nm
    exact talk_Ring.l0.walk (O22.pick [0, 1]).nm e_0 rfl (fun _ => rfl) rfl k18 r19 e
def talk_ready.post (W : Nat → Prop) (h0 m0 : Heap) (r : (List Int)) (v : Value) (h : Heap) : Prop := ∃ m A0 n0 c0, Hold W h0 m0 h m [rR (aE (tell_int .i64)) A0 c0 r] ∧ v = .slice A0 n0 c0 ∧ n0 = List.length r
inductive talk_ready.l0_k.Pt where
  | l0 (a_1 : List Int) (y_2 : T_talk_Net) (a_5 : List Int) (a_11 : List T_talk_Line) (x_12 : Int) (x_13 : Int)
  | j0 (a_1 : List Int) (y_2 : T_talk_Net) (a_5 : List Int) (x_6 : Int) (y_7 : T_talk_Line) (a_11 : List T_talk_Line) (x_12 : Int) (x_13 : Int)
  | j1 (a_1 : List Int) (y_2 : T_talk_Net) (a_5 : List Int) (x_6 : Int) (y_8 : T_talk_Deed) (y_9 : T_talk_Deed) (a_11 : List T_talk_Line) (x_12 : Int) (x_13 : Int)
  | j2 (a_1 : List Int) (y_2 : T_talk_Net) (a_5 : List Int) (x_6 : Int) (a_11 : List T_talk_Line) (x_12 : Int) (x_13 : Int) (b_95 : Bool)
noncomputable def talk_ready.l0_k.body (go : (p : talk_ready.l0_k.Pt) → Option ((List Int))) : (p : talk_ready.l0_k.Pt) → Option ((List Int))
  | .l0 a_1 y_2 a_5 a_11 x_12 x_13 => if x_13 < x_12 then (Option.bind (gi a_11 x_13) fun y1 => Option.bind (gi a_1 y1.A) fun y14 => Option.bind (gi y_2.Who y1.A) fun y26 => if y14 = (((List.length y26) : Nat) : Int) then ((go (.l0 a_1 y_2 a_5 a_11 x_12 (IntKind.wrap .i64 (x_13 + (1 : Int)))))) else (Option.bind (gi a_1 y1.B) fun y34 => Option.bind (gi y_2.Who y1.B) fun y46 => if y34 = (((List.length y46) : Nat) : Int) then ((go (.l0 a_1 y_2 a_5 a_11 x_12 (IntKind.wrap .i64 (x_13 + (1 : Int)))))) else ((go (.j0 a_1 y_2 a_5 x_13 y1 a_11 x_12 x_13))))) else (some (a_5))
  | .j0 a_1 y_2 a_5 x_6 y_7 a_11 x_12 x_13 => Option.bind (gi y_2.Who y_7.A) fun y6 => Option.bind (gi a_1 y_7.A) fun y13 => Option.bind (gi y6 y13) fun y20 => Option.bind (gi y_2.Who y_7.B) fun y32 => Option.bind (gi a_1 y_7.B) fun y39 => Option.bind (gi y32 y39) fun y46 => (go (.j1 a_1 y_2 a_5 x_6 y20 y46 a_11 x_12 x_13))
  | .j1 a_1 y_2 a_5 x_6 y_8 y_9 a_11 x_12 x_13 => if y_8.Line = x_6 then (if y_9.Line = x_6 then (if y_8.Msg = y_9.Msg then ((go (.j2 a_1 y_2 a_5 x_6 a_11 x_12 x_13 (!(y_8.Send == y_9.Send))))) else ((go (.j2 a_1 y_2 a_5 x_6 a_11 x_12 x_13 false)))) else ((go (.j2 a_1 y_2 a_5 x_6 a_11 x_12 x_13 false)))) else ((go (.j2 a_1 y_2 a_5 x_6 a_11 x_12 x_13 false)))
  | .j2 a_1 y_2 a_5 x_6 a_11 x_12 x_13 b_95 => if b_95 = true then (Option.bind (ap 8 a_5 ([x_6] : List Int)) fun l5 => (go (.l0 a_1 y_2 l5 a_11 x_12 (IntKind.wrap .i64 (x_13 + (1 : Int)))))) else ((go (.l0 a_1 y_2 a_5 a_11 x_12 (IntKind.wrap .i64 (x_13 + (1 : Int))))))
theorem talk_ready.l0_k.mono : MonoF (β := fun _ => ((List Int))) talk_ready.l0_k.body := fun f g hfg p => match p with
  | .l0 a_1 y_2 a_5 a_11 x_12 x_13 => LeO.ite (LeO.bind (LeO.refl _) fun y1 => LeO.bind (LeO.refl _) fun y14 => LeO.bind (LeO.refl _) fun y26 => LeO.ite ((hfg _)) (LeO.bind (LeO.refl _) fun y34 => LeO.bind (LeO.refl _) fun y46 => LeO.ite ((hfg _)) ((hfg _)))) (LeO.refl _)
  | .j0 a_1 y_2 a_5 x_6 y_7 a_11 x_12 x_13 => LeO.bind (LeO.refl _) fun y6 => LeO.bind (LeO.refl _) fun y13 => LeO.bind (LeO.refl _) fun y20 => LeO.bind (LeO.refl _) fun y32 => LeO.bind (LeO.refl _) fun y39 => LeO.bind (LeO.refl _) fun y46 => (hfg _)
  | .j1 a_1 y_2 a_5 x_6 y_8 y_9 a_11 x_12 x_13 => LeO.ite (LeO.ite (LeO.ite ((hfg _)) ((hfg _))) ((hfg _))) ((hfg _))
  | .j2 a_1 y_2 a_5 x_6 a_11 x_12 x_13 b_95 => LeO.ite (LeO.bind (LeO.refl _) fun l5 => (hfg _)) ((hfg _))
noncomputable def talk_ready.l0_k.go (p : talk_ready.l0_k.Pt) : Option ((List Int)) := fixF (β := fun _ => ((List Int))) talk_ready.l0_k.body p
noncomputable def talk_ready.l0 (a_1 : List Int) (y_2 : T_talk_Net) (a_5 : List Int) (a_11 : List T_talk_Line) (x_12 : Int) (x_13 : Int) : Option ((List Int)) := talk_ready.l0_k.go (.l0 a_1 y_2 a_5 a_11 x_12 x_13)
noncomputable def talk_ready.j0 (a_1 : List Int) (y_2 : T_talk_Net) (a_5 : List Int) (x_6 : Int) (y_7 : T_talk_Line) (a_11 : List T_talk_Line) (x_12 : Int) (x_13 : Int) : Option ((List Int)) := talk_ready.l0_k.go (.j0 a_1 y_2 a_5 x_6 y_7 a_11 x_12 x_13)
noncomputable def talk_ready.j1 (a_1 : List Int) (y_2 : T_talk_Net) (a_5 : List Int) (x_6 : Int) (y_8 : T_talk_Deed) (y_9 : T_talk_Deed) (a_11 : List T_talk_Line) (x_12 : Int) (x_13 : Int) : Option ((List Int)) := talk_ready.l0_k.go (.j1 a_1 y_2 a_5 x_6 y_8 y_9 a_11 x_12 x_13)
noncomputable def talk_ready.j2 (a_1 : List Int) (y_2 : T_talk_Net) (a_5 : List Int) (x_6 : Int) (a_11 : List T_talk_Line) (x_12 : Int) (x_13 : Int) (b_95 : Bool) : Option ((List Int)) := talk_ready.l0_k.go (.j2 a_1 y_2 a_5 x_6 a_11 x_12 x_13 b_95)
theorem talk_ready.l0_eq (a_1 : List Int) (y_2 : T_talk_Net) (a_5 : List Int) (a_11 : List T_talk_Line) (x_12 : Int) (x_13 : Int) : talk_ready.l0 a_1 y_2 a_5 a_11 x_12 x_13 = if x_13 < x_12 then (Option.bind (gi a_11 x_13) fun y1 => Option.bind (gi a_1 y1.A) fun y14 => Option.bind (gi y_2.Who y1.A) fun y26 => if y14 = (((List.length y26) : Nat) : Int) then ((talk_ready.l0 a_1 y_2 a_5 a_11 x_12 (IntKind.wrap .i64 (x_13 + (1 : Int))))) else (Option.bind (gi a_1 y1.B) fun y34 => Option.bind (gi y_2.Who y1.B) fun y46 => if y34 = (((List.length y46) : Nat) : Int) then ((talk_ready.l0 a_1 y_2 a_5 a_11 x_12 (IntKind.wrap .i64 (x_13 + (1 : Int))))) else ((talk_ready.j0 a_1 y_2 a_5 x_13 y1 a_11 x_12 x_13)))) else (some (a_5)) := fixF_eq talk_ready.l0_k.mono _
theorem talk_ready.j0_eq (a_1 : List Int) (y_2 : T_talk_Net) (a_5 : List Int) (x_6 : Int) (y_7 : T_talk_Line) (a_11 : List T_talk_Line) (x_12 : Int) (x_13 : Int) : talk_ready.j0 a_1 y_2 a_5 x_6 y_7 a_11 x_12 x_13 = Option.bind (gi y_2.Who y_7.A) fun y6 => Option.bind (gi a_1 y_7.A) fun y13 => Option.bind (gi y6 y13) fun y20 => Option.bind (gi y_2.Who y_7.B) fun y32 => Option.bind (gi a_1 y_7.B) fun y39 => Option.bind (gi y32 y39) fun y46 => (talk_ready.j1 a_1 y_2 a_5 x_6 y20 y46 a_11 x_12 x_13) := fixF_eq talk_ready.l0_k.mono _
theorem talk_ready.j1_eq (a_1 : List Int) (y_2 : T_talk_Net) (a_5 : List Int) (x_6 : Int) (y_8 : T_talk_Deed) (y_9 : T_talk_Deed) (a_11 : List T_talk_Line) (x_12 : Int) (x_13 : Int) : talk_ready.j1 a_1 y_2 a_5 x_6 y_8 y_9 a_11 x_12 x_13 = if y_8.Line = x_6 then (if y_9.Line = x_6 then (if y_8.Msg = y_9.Msg then ((talk_ready.j2 a_1 y_2 a_5 x_6 a_11 x_12 x_13 (!(y_8.Send == y_9.Send)))) else ((talk_ready.j2 a_1 y_2 a_5 x_6 a_11 x_12 x_13 false))) else ((talk_ready.j2 a_1 y_2 a_5 x_6 a_11 x_12 x_13 false))) else ((talk_ready.j2 a_1 y_2 a_5 x_6 a_11 x_12 x_13 false)) := fixF_eq talk_ready.l0_k.mono _
theorem talk_ready.j2_eq (a_1 : List Int) (y_2 : T_talk_Net) (a_5 : List Int) (x_6 : Int) (a_11 : List T_talk_Line) (x_12 : Int) (x_13 : Int) (b_95 : Bool) : talk_ready.j2 a_1 y_2 a_5 x_6 a_11 x_12 x_13 b_95 = if b_95 = true then (Option.bind (ap 8 a_5 ([x_6] : List Int)) fun l5 => (talk_ready.l0 a_1 y_2 l5 a_11 x_12 (IntKind.wrap .i64 (x_13 + (1 : Int))))) else ((talk_ready.l0 a_1 y_2 a_5 a_11 x_12 (IntKind.wrap .i64 (x_13 + (1 : Int))))) := fixF_eq talk_ready.l0_k.mono _
def talk_ready.l0_k.I : (p : talk_ready.l0_k.Pt) → ((List Int)) → Prop
  | .l0 a_1 y_2 a_5 a_11 x_12 x_13, r => ∀ (W : Nat → Prop) (h0 m0 h m : Heap) (A_1 : Option Addr) (n_1 c_1 : Nat) (bk_2 : Nat) (cs_2 : List Value) (A_5 : Option Addr) (n_5 c_5 : Nat) (A_11 : Option Addr) (n_11 c_11 : Nat) (O : Hold W h0 m0 h m [rV bk_2 78 cs_2, rR (aE (tell_int .i64)) A_5 c_5 a_5]) (ne_1 : n_1 = List.length a_1) (k_1 : List.length a_1 ≤ c_1) (r_1 : Rd 1 (eInt .i64) m A_1 a_1) (e_2 : T_talk_Net.E m y_2 cs_2) (ne_5 : n_5 = List.length a_5) (ne_11 : n_11 = List.length a_11) (k_11 : List.length a_11 ≤ c_11) (r_11 : Rd 2 T_talk_Line.E m A_11 a_11), f73.l0 (talk_ready.post W h0 m0 r) A_1 n_1 c_1 (⟨bk_2, 0, none⟩ : Addr) A_5 n_5 c_5 A_11 n_11 c_11 x_12 x_13 h
  | .j0 a_1 y_2 a_5 x_6 y_7 a_11 x_12 x_13, r => ∀ (W : Nat → Prop) (h0 m0 h m : Heap) (A_1 : Option Addr) (n_1 c_1 : Nat) (bk_2 : Nat) (cs_2 : List Value) (A_5 : Option Addr) (n_5 c_5 : Nat) (bk_7 : Nat) (cs_7 : List Value) (A_11 : Option Addr) (n_11 c_11 : Nat) (O : Hold W h0 m0 h m [rV bk_2 78 cs_2, rR (aE (tell_int .i64)) A_5 c_5 a_5, rV bk_7 89 cs_7]) (ne_1 : n_1 = List.length a_1) (k_1 : List.length a_1 ≤ c_1) (r_1 : Rd 1 (eInt .i64) m A_1 a_1) (e_2 : T_talk_Net.E m y_2 cs_2) (ne_5 : n_5 = List.length a_5) (e_7 : T_talk_Line.E m y_7 cs_7) (ne_11 : n_11 = List.length a_11) (k_11 : List.length a_11 ≤ c_11) (r_11 : Rd 2 T_talk_Line.E m A_11 a_11), f73.j0 (talk_ready.post W h0 m0 r) A_1 n_1 c_1 (⟨bk_2, 0, none⟩ : Addr) A_5 n_5 c_5 x_6 (⟨bk_7, 0, none⟩ : Addr) A_11 n_11 c_11 x_12 x_13 h
  | .j1 a_1 y_2 a_5 x_6 y_8 y_9 a_11 x_12 x_13, r => ∀ (W : Nat → Prop) (h0 m0 h m : Heap) (A_1 : Option Addr) (n_1 c_1 : Nat) (bk_2 : Nat) (cs_2 : List Value) (A_5 : Option Addr) (n_5 c_5 : Nat) (bk_8 : Nat) (cs_8 : List Value) (bk_9 : Nat) (cs_9 : List Value) (A_11 : Option Addr) (n_11 c_11 : Nat) (O : Hold W h0 m0 h m [rV bk_2 78 cs_2, rR (aE (tell_int .i64)) A_5 c_5 a_5, rV bk_8 93 cs_8, rV bk_9 93 cs_9]) (ne_1 : n_1 = List.length a_1) (k_1 : List.length a_1 ≤ c_1) (r_1 : Rd 1 (eInt .i64) m A_1 a_1) (e_2 : T_talk_Net.E m y_2 cs_2) (ne_5 : n_5 = List.length a_5) (e_8 : T_talk_Deed.E m y_8 cs_8) (e_9 : T_talk_Deed.E m y_9 cs_9) (ne_11 : n_11 = List.length a_11) (k_11 : List.length a_11 ≤ c_11) (r_11 : Rd 2 T_talk_Line.E m A_11 a_11), f73.j1 (talk_ready.post W h0 m0 r) A_1 n_1 c_1 (⟨bk_2, 0, none⟩ : Addr) A_5 n_5 c_5 x_6 (⟨bk_8, 0, none⟩ : Addr) (⟨bk_9, 0, none⟩ : Addr) A_11 n_11 c_11 x_12 x_13 h
  | .j2 a_1 y_2 a_5 x_6 a_11 x_12 x_13 b_95, r => ∀ (W : Nat → Prop) (h0 m0 h m : Heap) (A_1 : Option Addr) (n_1 c_1 : Nat) (bk_2 : Nat) (cs_2 : List Value) (A_5 : Option Addr) (n_5 c_5 : Nat) (A_11 : Option Addr) (n_11 c_11 : Nat) (O : Hold W h0 m0 h m [rV bk_2 78 cs_2, rR (aE (tell_int .i64)) A_5 c_5 a_5]) (ne_1 : n_1 = List.length a_1) (k_1 : List.length a_1 ≤ c_1) (r_1 : Rd 1 (eInt .i64) m A_1 a_1) (e_2 : T_talk_Net.E m y_2 cs_2) (ne_5 : n_5 = List.length a_5) (ne_11 : n_11 = List.length a_11) (k_11 : List.length a_11 ≤ c_11) (r_11 : Rd 2 T_talk_Line.E m A_11 a_11), f73.j2 (talk_ready.post W h0 m0 r) A_1 n_1 c_1 (⟨bk_2, 0, none⟩ : Addr) A_5 n_5 c_5 x_6 A_11 n_11 c_11 x_12 x_13 b_95 h
set_option maxHeartbeats 4000000 in
set_option maxRecDepth 100000 in
theorem talk_ready.l0_k.step_l0 (go : (p : talk_ready.l0_k.Pt) → Option ((List Int))) (ih : ∀ p r, go p = some r → talk_ready.l0_k.I p r) (a_1 : List Int) (y_2 : T_talk_Net) (a_5 : List Int) (a_11 : List T_talk_Line) (x_12 : Int) (x_13 : Int) (r : (List Int)) (e : talk_ready.l0_k.body go (.l0 a_1 y_2 a_5 a_11 x_12 x_13) = some r) : talk_ready.l0_k.I (.l0 a_1 y_2 a_5 a_11 x_12 x_13) r := by
  unfold talk_ready.l0_k.body at e
  intro W h0 m0 h m A_1 n_1 c_1 bk_2 cs_2 A_5 n_5 c_5 A_11 n_11 c_11 O ne_1 k_1 r_1 e_2 ne_5 ne_11 k_11 r_11
  subst ne_1
  subst ne_5
  subst ne_11
  refine f73.l0_in ?_
  unfold f73.l0T
  refine split_dec_e e (fun c57 e => ?_) (fun c57 e => ?_)
  · obtain ⟨y1, g2, e⟩ := bind_e e
    refine r_11.addr rfl g2 fun a3 cs4 ha5 hc6 he7 => ?_
    refine ⟨_, ldAn O.s hc6 rfl, ?_⟩
    refine O.new fun h8 x9 O10 => ?_
    refine ⟨_, rfl, (T_talk_Line.T.len _ _ _ he7), ?_⟩
    refine O10.stA 2 rfl (T_talk_Line.T.len _ _ _ he7) (T_talk_Line.T.flat _ _ _ he7) fun h12 O13 => ?_
    refine ⟨_, ld0 (Sub.refl _) (O13.all 2 rfl) (T_talk_Line.g0 he7), _, rfl, ?_⟩
    obtain ⟨y14, g15, e⟩ := bind_e e
    refine r_1.addr rfl g15 fun a16 cs17 ha18 hc19 he20 => ?_
    obtain rfl : cs17 = [(Value.int .i64 y14)] := he20
    refine ⟨_, ld0 O13.s hc19 rfl, _, rfl, ?_⟩
    obtain ⟨A21, c22, q23, k24, r25⟩ := T_talk_Net.g1 e_2
    refine ⟨_, ldk (k := 1) (Sub.refl _) (O13.all 0 rfl) q23, _, _, _, rfl, ?_⟩
    refine ⟨_, ld0 (Sub.refl _) (O13.all 2 rfl) (T_talk_Line.g0 he7), _, rfl, ?_⟩
    obtain ⟨y26, g27, e⟩ := bind_e e
    refine r25.addr rfl g27 fun a28 cs29 ha30 hc31 he32 => ?_
    obtain ⟨Acs29_0, ccs29_0, rfl, kcs29_0, rcs29_0⟩ := id he32
    refine ⟨_, ld0 O13.s hc31 rfl, _, _, _, rfl, ?_⟩
    refine split_eq_e e (fun c56 e => ?_) (fun c56 e => ?_)
    · have O33 := O13.nm
      exact (ih _ _ e) _ _ _ _ _ _ _ _ _ _ _ _ _ _ _ _ (O33.pick [0, 1]).nm rfl k_1 r_1 e_2 rfl rfl k_11 r_11
    · refine ⟨_, ldk (k := 1) (Sub.refl _) (O13.all 2 rfl) (T_talk_Line.g1 he7), _, rfl, ?_⟩
      obtain ⟨y34, g35, e⟩ := bind_e e
      refine r_1.addr rfl g35 fun a36 cs37 ha38 hc39 he40 => ?_
      obtain rfl : cs37 = [(Value.int .i64 y34)] := he40
      refine ⟨_, ld0 O13.s hc39 rfl, _, rfl, ?_⟩
      obtain ⟨A41, c42, q43, k44, r45⟩ := T_talk_Net.g1 e_2
      refine ⟨_, ldk (k := 1) (Sub.refl _) (O13.all 0 rfl) q43, _, _, _, rfl, ?_⟩
      refine ⟨_, ldk (k := 1) (Sub.refl _) (O13.all 2 rfl) (T_talk_Line.g1 he7), _, rfl, ?_⟩
      obtain ⟨y46, g47, e⟩ := bind_e e
      refine r45.addr rfl g47 fun a48 cs49 ha50 hc51 he52 => ?_
      obtain ⟨Acs49_0, ccs49_0, rfl, kcs49_0, rcs49_0⟩ := id he52
      refine ⟨_, ld0 O13.s hc51 rfl, _, _, _, rfl, ?_⟩
      refine split_eq_e e (fun c55 e => ?_) (fun c55 e => ?_)
      · have O53 := O13.nm
        exact (ih _ _ e) _ _ _ _ _ _ _ _ _ _ _ _ _ _ _ _ (O53.pick [0, 1]).nm rfl k_1 r_1 e_2 rfl rfl k_11 r_11
      · have O54 := O13.nm
        exact (ih _ _ e) _ _ _ _ _ _ _ _ _ _ _ _ _ _ _ _ _ _ (O54.pick [0, 1, 2]).nm rfl k_1 r_1 e_2 rfl he7 rfl k_11 r_11
  · cases e
    exact ⟨_, _, _, _, O.pick [1], rfl, rfl⟩
set_option maxHeartbeats 4000000 in
set_option maxRecDepth 100000 in
theorem talk_ready.l0_k.step_j0 (go : (p : talk_ready.l0_k.Pt) → Option ((List Int))) (ih : ∀ p r, go p = some r → talk_ready.l0_k.I p r) (a_1 : List Int) (y_2 : T_talk_Net) (a_5 : List Int) (x_6 : Int) (y_7 : T_talk_Line) (a_11 : List T_talk_Line) (x_12 : Int) (x_13 : Int) (r : (List Int)) (e : talk_ready.l0_k.body go (.j0 a_1 y_2 a_5 x_6 y_7 a_11 x_12 x_13) = some r) : talk_ready.l0_k.I (.j0 a_1 y_2 a_5 x_6 y_7 a_11 x_12 x_13) r := by
  unfold talk_ready.l0_k.body at e
  intro W h0 m0 h m A_1 n_1 c_1 bk_2 cs_2 A_5 n_5 c_5 bk_7 cs_7 A_11 n_11 c_11 O ne_1 k_1 r_1 e_2 ne_5 e_7 ne_11 k_11 r_11
  subst ne_1
  subst ne_5
  subst ne_11
  refine f73.j0_in ?_
  unfold f73.j0T
  obtain ⟨A1, c2, q3, k4, r5⟩ := T_talk_Net.g1 e_2
  refine ⟨_, ldk (k := 1) (Sub.refl _) (O.all 0 rfl) q3, _, _, _, rfl, ?_⟩
  refine ⟨_, ld0 (Sub.refl _) (O.all 2 rfl) (T_talk_Line.g0 e_7), _, rfl, ?_⟩
  obtain ⟨y6, g7, e⟩ := bind_e e
  refine r5.addr rfl g7 fun a8 cs9 ha10 hc11 he12 => ?_
  obtain ⟨Acs9_0, ccs9_0, rfl, kcs9_0, rcs9_0⟩ := id he12
  refine ⟨_, ld0 O.s hc11 rfl, _, _, _, rfl, ?_⟩
  refine ⟨_, ld0 (Sub.refl _) (O.all 2 rfl) (T_talk_Line.g0 e_7), _, rfl, ?_⟩
  obtain ⟨y13, g14, e⟩ := bind_e e
  refine r_1.addr rfl g14 fun a15 cs16 ha17 hc18 he19 => ?_
  obtain rfl : cs16 = [(Value.int .i64 y13)] := he19
  refine ⟨_, ld0 O.s hc18 rfl, _, rfl, ?_⟩
  obtain ⟨y20, g21, e⟩ := bind_e e
  refine rcs9_0.addr rfl g21 fun a22 cs23 ha24 hc25 he26 => ?_
  refine ⟨_, ldAn O.s hc25 rfl, ?_⟩
  obtain ⟨A27, c28, q29, k30, r31⟩ := T_talk_Net.g1 e_2
  refine ⟨_, ldk (k := 1) (Sub.refl _) (O.all 0 rfl) q29, _, _, _, rfl, ?_⟩
  refine ⟨_, ldk (k := 1) (Sub.refl _) (O.all 2 rfl) (T_talk_Line.g1 e_7), _, rfl, ?_⟩
  obtain ⟨y32, g33, e⟩ := bind_e e
  refine r31.addr rfl g33 fun a34 cs35 ha36 hc37 he38 => ?_
  obtain ⟨Acs35_0, ccs35_0, rfl, kcs35_0, rcs35_0⟩ := id he38
  refine ⟨_, ld0 O.s hc37 rfl, _, _, _, rfl, ?_⟩
  refine ⟨_, ldk (k := 1) (Sub.refl _) (O.all 2 rfl) (T_talk_Line.g1 e_7), _, rfl, ?_⟩
  obtain ⟨y39, g40, e⟩ := bind_e e
  refine r_1.addr rfl g40 fun a41 cs42 ha43 hc44 he45 => ?_
  obtain rfl : cs42 = [(Value.int .i64 y39)] := he45
  refine ⟨_, ld0 O.s hc44 rfl, _, rfl, ?_⟩
  obtain ⟨y46, g47, e⟩ := bind_e e
  refine rcs35_0.addr rfl g47 fun a48 cs49 ha50 hc51 he52 => ?_
  refine ⟨_, ldAn O.s hc51 rfl, ?_⟩
  refine ⟨?_, ?_⟩
  · refine O.new fun h68 x69 O70 => ?_
    refine ⟨x69, ?_⟩
    refine O70.new fun h72 x73 O74 => ?_
    refine ⟨(x69.trans x73), ?_⟩
    refine ⟨_, rfl, (T_talk_Deed.T.len _ _ _ he26), ?_⟩
    refine O74.stAO 3 rfl (T_talk_Deed.T.len _ _ _ he26) (T_talk_Deed.T.flat _ _ _ he26) fun h76 S78 O77 => ?_
    refine ⟨(Ext.upd (x69.trans x73) (Nat.le_refl _) S78), ?_⟩
    refine ⟨_, rfl, (T_talk_Deed.T.len _ _ _ he52), ?_⟩
    refine O77.stAO 4 rfl (T_talk_Deed.T.len _ _ _ he52) (T_talk_Deed.T.flat _ _ _ he52) fun h79 S81 O80 => ?_
    have O82 := O80.nm
    exact (ih _ _ e) _ _ _ _ _ _ _ _ _ _ _ _ _ _ _ _ _ _ _ _ (O82.pick [0, 1, 3, 4]).nm rfl k_1 r_1 e_2 rfl he26 he52 rfl k_11 r_11
  · refine O.new fun h83 x84 O85 => ?_
    refine ⟨x84, ?_⟩
    refine O85.new fun h87 x88 O89 => ?_
    refine ⟨(x84.trans x88), ?_⟩
    refine ⟨_, rfl, (T_talk_Deed.T.len _ _ _ he26), ?_⟩
    refine O89.stAO 4 rfl (T_talk_Deed.T.len _ _ _ he26) (T_talk_Deed.T.flat _ _ _ he26) fun h91 S93 O92 => ?_
    refine ⟨(Ext.upd (x84.trans x88) x84.1 S93), ?_⟩
    refine ⟨_, rfl, (T_talk_Deed.T.len _ _ _ he52), ?_⟩
    refine O92.stAO 3 rfl (T_talk_Deed.T.len _ _ _ he52) (T_talk_Deed.T.flat _ _ _ he52) fun h94 S96 O95 => ?_
    have O97 := O95.nm
    exact (ih _ _ e) _ _ _ _ _ _ _ _ _ _ _ _ _ _ _ _ _ _ _ _ (O97.pick [0, 1, 4, 3]).nm rfl k_1 r_1 e_2 rfl he26 he52 rfl k_11 r_11
set_option maxRecDepth 100000 in
theorem talk_ready.l0_k.step_j1 (go : (p : talk_ready.l0_k.Pt) → Option ((List Int))) (ih : ∀ p r, go p = some r → talk_ready.l0_k.I p r) (a_1 : List Int) (y_2 : T_talk_Net) (a_5 : List Int) (x_6 : Int) (y_8 : T_talk_Deed) (y_9 : T_talk_Deed) (a_11 : List T_talk_Line) (x_12 : Int) (x_13 : Int) (r : (List Int)) (e : talk_ready.l0_k.body go (.j1 a_1 y_2 a_5 x_6 y_8 y_9 a_11 x_12 x_13) = some r) : talk_ready.l0_k.I (.j1 a_1 y_2 a_5 x_6 y_8 y_9 a_11 x_12 x_13) r := by
  unfold talk_ready.l0_k.body at e
  intro W h0 m0 h m A_1 n_1 c_1 bk_2 cs_2 A_5 n_5 c_5 bk_8 cs_8 bk_9 cs_9 A_11 n_11 c_11 O ne_1 k_1 r_1 e_2 ne_5 e_8 e_9 ne_11 k_11 r_11
  subst ne_1
  subst ne_5
  subst ne_11
  refine f73.j1_in ?_
  unfold f73.j1T
  refine ⟨_, ld0 (Sub.refl _) (O.all 2 rfl) (T_talk_Deed.g0 e_8), _, rfl, ?_⟩
  refine split_eq_e e (fun c3 e => ?_) (fun c3 e => ?_)
  · refine ⟨_, ld0 (Sub.refl _) (O.all 3 rfl) (T_talk_Deed.g0 e_9), _, rfl, ?_⟩
    refine split_eq_e e (fun c2 e => ?_) (fun c2 e => ?_)
    · refine ⟨_, ldk (k := 2) (Sub.refl _) (O.all 2 rfl) (T_talk_Deed.g2 e_8), _, rfl, ?_⟩
      refine ⟨_, ldk (k := 2) (Sub.refl _) (O.all 3 rfl) (T_talk_Deed.g2 e_9), _, rfl, ?_⟩
      refine split_eq_e e (fun c1 e => ?_) (fun c1 e => ?_)
      · refine ⟨_, ldk (k := 1) (Sub.refl _) (O.all 2 rfl) (T_talk_Deed.g1 e_8), _, rfl, ?_⟩
        refine ⟨_, ldk (k := 1) (Sub.refl _) (O.all 3 rfl) (T_talk_Deed.g1 e_9), _, rfl, ?_⟩
        exact (ih _ _ e) _ _ _ _ _ _ _ _ _ _ _ _ _ _ _ _ (O.pick [0, 1]).nm rfl k_1 r_1 e_2 rfl rfl k_11 r_11
      · exact (ih _ _ e) _ _ _ _ _ _ _ _ _ _ _ _ _ _ _ _ (O.pick [0, 1]).nm rfl k_1 r_1 e_2 rfl rfl k_11 r_11
    · exact (ih _ _ e) _ _ _ _ _ _ _ _ _ _ _ _ _ _ _ _ (O.pick [0, 1]).nm rfl k_1 r_1 e_2 rfl rfl k_11 r_11
  · exact (ih _ _ e) _ _ _ _ _ _ _ _ _ _ _ _ _ _ _ _ (O.pick [0, 1]).nm rfl k_1 r_1 e_2 rfl rfl k_11 r_11
set_option maxRecDepth 100000 in
theorem talk_ready.l0_k.step_j2 (go : (p : talk_ready.l0_k.Pt) → Option ((List Int))) (ih : ∀ p r, go p = some r → talk_ready.l0_k.I p r) (a_1 : List Int) (y_2 : T_talk_Net) (a_5 : List Int) (x_6 : Int) (a_11 : List T_talk_Line) (x_12 : Int) (x_13 : Int) (b_95 : Bool) (r : (List Int)) (e : talk_ready.l0_k.body go (.j2 a_1 y_2 a_5 x_6 a_11 x_12 x_13 b_95) = some r) : talk_ready.l0_k.I (.j2 a_1 y_2 a_5 x_6 a_11 x_12 x_13 b_95) r := by
  unfold talk_ready.l0_k.body at e
  intro W h0 m0 h m A_1 n_1 c_1 bk_2 cs_2 A_5 n_5 c_5 A_11 n_11 c_11 O ne_1 k_1 r_1 e_2 ne_5 ne_11 k_11 r_11
  subst ne_1
  subst ne_5
  subst ne_11
  refine f73.j2_in ?_
  unfold f73.j2T
  refine split_any_e e (fun c15 e => ?_) (fun c15 e => ?_)
  · refine O.new fun h1 x2 O3 => ?_
    obtain ⟨l5, g6, e⟩ := bind_e e
    have O13 := O3.rowE (l := ([x_6] : List Int)) 2 rfl (tell_int .i64) (show CsE _ _ _ _ _ from (CsE.cons (c1 := [(Value.int .i64 x_6)]) rfl rfl CsE.nil)) rfl
    refine O13.app 1 rfl rfl rfl ((O13.os 2 rfl).srcE rfl) (by decide) g6 fun A7 c8 h9 O10 => ?_
    refine ⟨_, _, _, rfl, ?_⟩
    have O14 := O10.nm
    exact (ih _ _ e) _ _ _ _ _ _ _ _ _ _ _ _ _ _ _ _ (O14.pick [0, 1]).nm rfl k_1 r_1 e_2 rfl rfl k_11 r_11
  · exact (ih _ _ e) _ _ _ _ _ _ _ _ _ _ _ _ _ _ _ _ (O.pick [0, 1]).nm rfl k_1 r_1 e_2 rfl rfl k_11 r_11
theorem talk_ready.l0_k.all {p : talk_ready.l0_k.Pt} {r : ((List Int))} (e : talk_ready.l0_k.go p = some r) : talk_ready.l0_k.I p r := fixF_ind (β := fun _ => ((List Int))) talk_ready.l0_k.mono (I := talk_ready.l0_k.I) (fun go ih p r e => match p with
  | .l0 a_1 y_2 a_5 a_11 x_12 x_13 => talk_ready.l0_k.step_l0 go ih a_1 y_2 a_5 a_11 x_12 x_13 r e
  | .j0 a_1 y_2 a_5 x_6 y_7 a_11 x_12 x_13 => talk_ready.l0_k.step_j0 go ih a_1 y_2 a_5 x_6 y_7 a_11 x_12 x_13 r e
  | .j1 a_1 y_2 a_5 x_6 y_8 y_9 a_11 x_12 x_13 => talk_ready.l0_k.step_j1 go ih a_1 y_2 a_5 x_6 y_8 y_9 a_11 x_12 x_13 r e
  | .j2 a_1 y_2 a_5 x_6 a_11 x_12 x_13 b_95 => talk_ready.l0_k.step_j2 go ih a_1 y_2 a_5 x_6 a_11 x_12 x_13 b_95 r e
  ) e
theorem talk_ready.l0.walk {W : Nat → Prop} {h0 m0 h m : Heap} {A_1 : Option Addr} {n_1 c_1 : Nat} {bk_2 : Nat} {cs_2 : List Value} {A_5 : Option Addr} {n_5 c_5 : Nat} {A_11 : Option Addr} {n_11 c_11 : Nat} {a_1 : List Int} {y_2 : T_talk_Net} {a_5 : List Int} {a_11 : List T_talk_Line} {x_12 : Int} {x_13 : Int} (O : Hold W h0 m0 h m [rV bk_2 78 cs_2, rR (aE (tell_int .i64)) A_5 c_5 a_5]) (ne_1 : n_1 = List.length a_1) (k_1 : List.length a_1 ≤ c_1) (r_1 : Rd 1 (eInt .i64) m A_1 a_1) (e_2 : T_talk_Net.E m y_2 cs_2) (ne_5 : n_5 = List.length a_5) (ne_11 : n_11 = List.length a_11) (k_11 : List.length a_11 ≤ c_11) (r_11 : Rd 2 T_talk_Line.E m A_11 a_11) {r : (List Int)} (e : talk_ready.l0 a_1 y_2 a_5 a_11 x_12 x_13 = some r) : f73.l0 (talk_ready.post W h0 m0 r) A_1 n_1 c_1 (⟨bk_2, 0, none⟩ : Addr) A_5 n_5 c_5 A_11 n_11 c_11 x_12 x_13 h := talk_ready.l0_k.all (p := .l0 a_1 y_2 a_5 a_11 x_12 x_13) e W h0 m0 h m A_1 n_1 c_1 bk_2 cs_2 A_5 n_5 c_5 A_11 n_11 c_11 O ne_1 k_1 r_1 e_2 ne_5 ne_11 k_11 r_11
noncomputable def talk_ready (y_0 : T_talk_Net) (a_1 : List Int) : Option ((List Int)) :=
  (talk_ready.l0 a_1 y_0 ([] : List Int) y_0.Lines (((List.length y_0.Lines) : Nat) : Int) (0 : Int))
set_option maxRecDepth 100000 in
theorem talk_ready.walk {W : Nat → Prop} {h m : Heap} {cs_0 : List Value} {A_1 : Option Addr} {n_1 c_1 : Nat} {y_0 : T_talk_Net} {a_1 : List Int} (O : Hold W h m h m []) (e_0 : T_talk_Net.E m y_0 cs_0) (ne_1 : n_1 = List.length a_1) (k_1 : List.length a_1 ≤ c_1) (r_1 : Rd 1 (eInt .i64) m A_1 a_1) {r : (List Int)} (e : talk_ready y_0 a_1 = some r) : Run Try.prog 73 #[Value.agg cs_0.toArray, Value.slice A_1 n_1 c_1] h (talk_ready.post W h m r) := by
  unfold talk_ready at e
  subst ne_1
  refine f73.run ?_
  unfold f73.runT
  refine O.new fun h1 x2 O3 => ?_
  obtain ⟨A5, c6, q7, k8, r9⟩ := T_talk_Net.g0 e_0
  refine ⟨_, ld0 (Sub.refl _) (O3.all 0 rfl) q7, _, _, _, rfl, ?_⟩
  have O10 := O3.nil (aE (tell_int .i64)) none
  have O12 := O10.nm
  exact talk_ready.l0.walk (O12.pick [0, 1]).nm rfl k_1 r_1 e_0 rfl rfl k8 r9 e
def talk_Run.post (W : Nat → Prop) (h0 m0 : Heap) (r : (List Int) × (List Int) × Int) (v : Value) (h : Heap) : Prop := ∃ m A0 n0 c0 A1 n1 c1, Hold W h0 m0 h m [rR (aE (tell_int .i64)) A0 c0 r.1, rR (aE (tell_int .i64)) A1 c1 r.2.1] ∧ v = .tuple #[.slice A0 n0 c0, .slice A1 n1 c1, .int .i64 r.2.2] ∧ n0 = List.length r.1 ∧ n1 = List.length r.2.1
inductive talk_Run.l0_k.Pt where
  | l0 (a_1 : List Int) (y_2 : T_talk_Net) (a_8 : List Int) (a_9 : List Int)
  | j0 (a_1 : List Int) (y_2 : T_talk_Net) (a_8 : List Int) (a_9 : List Int) (a_10 : List Int) (x_11 : Int)
noncomputable def talk_Run.l0_k.body (go : (p : talk_Run.l0_k.Pt) → Option ((List Int) × (List Int) × Int)) : (p : talk_Run.l0_k.Pt) → Option ((List Int) × (List Int) × Int)
  | .l0 a_1 y_2 a_8 a_9 => Option.bind (talk_ready y_2 a_8) fun y1 => if (((List.length y1) : Nat) : Int) = (0 : Int) then (some (a_9, a_8, (0 : Int))) else (if (((List.length a_9) : Nat) : Int) < (((List.length a_1) : Nat) : Int) then (Option.bind (gi a_1 (((List.length a_9) : Nat) : Int)) fun y20 => if (IntKind.wrap .u64 (((List.length y1) : Nat) : Int)) ≠ 0 then ((go (.j0 a_1 y_2 a_8 a_9 y1 (IntKind.wrap .i64 (Int.tmod (IntKind.wrap .u64 y20) (IntKind.wrap .u64 (((List.length y1) : Nat) : Int))))))) else none) else ((go (.j0 a_1 y_2 a_8 a_9 y1 (0 : Int)))))
  | .j0 a_1 y_2 a_8 a_9 a_10 x_11 => Option.bind (gi a_10 x_11) fun y1 => Option.bind (gi y_2.Lines y1) fun y13 => Option.bind (gi a_8 y13.A) fun y26 => Option.bind (gi a_8 y13.A) fun y33 => Option.bind (some (List.set a_8 (Int.toNat y13.A) (IntKind.wrap .i64 (y26 + (1 : Int))))) fun l42 => Option.bind (gi l42 y13.B) fun y44 => Option.bind (gi l42 y13.B) fun y51 => Option.bind (some (List.set l42 (Int.toNat y13.B) (IntKind.wrap .i64 (y44 + (1 : Int))))) fun l60 => Option.bind (gi a_10 x_11) fun y62 => Option.bind (ap 8 a_9 ([y62] : List Int)) fun l74 => (go (.l0 a_1 y_2 l60 l74))
theorem talk_Run.l0_k.mono : MonoF (β := fun _ => ((List Int) × (List Int) × Int)) talk_Run.l0_k.body := fun f g hfg p => match p with
  | .l0 a_1 y_2 a_8 a_9 => LeO.bind (LeO.refl _) fun y1 => LeO.ite (LeO.refl _) (LeO.ite (LeO.bind (LeO.refl _) fun y20 => LeO.ite ((hfg _)) (LeO.refl _)) ((hfg _)))
  | .j0 a_1 y_2 a_8 a_9 a_10 x_11 => LeO.bind (LeO.refl _) fun y1 => LeO.bind (LeO.refl _) fun y13 => LeO.bind (LeO.refl _) fun y26 => LeO.bind (LeO.refl _) fun y33 => LeO.bind (LeO.refl _) fun l42 => LeO.bind (LeO.refl _) fun y44 => LeO.bind (LeO.refl _) fun y51 => LeO.bind (LeO.refl _) fun l60 => LeO.bind (LeO.refl _) fun y62 => LeO.bind (LeO.refl _) fun l74 => (hfg _)
noncomputable def talk_Run.l0_k.go (p : talk_Run.l0_k.Pt) : Option ((List Int) × (List Int) × Int) := fixF (β := fun _ => ((List Int) × (List Int) × Int)) talk_Run.l0_k.body p
noncomputable def talk_Run.l0 (a_1 : List Int) (y_2 : T_talk_Net) (a_8 : List Int) (a_9 : List Int) : Option ((List Int) × (List Int) × Int) := talk_Run.l0_k.go (.l0 a_1 y_2 a_8 a_9)
noncomputable def talk_Run.j0 (a_1 : List Int) (y_2 : T_talk_Net) (a_8 : List Int) (a_9 : List Int) (a_10 : List Int) (x_11 : Int) : Option ((List Int) × (List Int) × Int) := talk_Run.l0_k.go (.j0 a_1 y_2 a_8 a_9 a_10 x_11)
theorem talk_Run.l0_eq (a_1 : List Int) (y_2 : T_talk_Net) (a_8 : List Int) (a_9 : List Int) : talk_Run.l0 a_1 y_2 a_8 a_9 = Option.bind (talk_ready y_2 a_8) fun y1 => if (((List.length y1) : Nat) : Int) = (0 : Int) then (some (a_9, a_8, (0 : Int))) else (if (((List.length a_9) : Nat) : Int) < (((List.length a_1) : Nat) : Int) then (Option.bind (gi a_1 (((List.length a_9) : Nat) : Int)) fun y20 => if (IntKind.wrap .u64 (((List.length y1) : Nat) : Int)) ≠ 0 then ((talk_Run.j0 a_1 y_2 a_8 a_9 y1 (IntKind.wrap .i64 (Int.tmod (IntKind.wrap .u64 y20) (IntKind.wrap .u64 (((List.length y1) : Nat) : Int)))))) else none) else ((talk_Run.j0 a_1 y_2 a_8 a_9 y1 (0 : Int)))) := fixF_eq talk_Run.l0_k.mono _
theorem talk_Run.j0_eq (a_1 : List Int) (y_2 : T_talk_Net) (a_8 : List Int) (a_9 : List Int) (a_10 : List Int) (x_11 : Int) : talk_Run.j0 a_1 y_2 a_8 a_9 a_10 x_11 = Option.bind (gi a_10 x_11) fun y1 => Option.bind (gi y_2.Lines y1) fun y13 => Option.bind (gi a_8 y13.A) fun y26 => Option.bind (gi a_8 y13.A) fun y33 => Option.bind (some (List.set a_8 (Int.toNat y13.A) (IntKind.wrap .i64 (y26 + (1 : Int))))) fun l42 => Option.bind (gi l42 y13.B) fun y44 => Option.bind (gi l42 y13.B) fun y51 => Option.bind (some (List.set l42 (Int.toNat y13.B) (IntKind.wrap .i64 (y44 + (1 : Int))))) fun l60 => Option.bind (gi a_10 x_11) fun y62 => Option.bind (ap 8 a_9 ([y62] : List Int)) fun l74 => (talk_Run.l0 a_1 y_2 l60 l74) := fixF_eq talk_Run.l0_k.mono _
def talk_Run.l0_k.I : (p : talk_Run.l0_k.Pt) → ((List Int) × (List Int) × Int) → Prop
  | .l0 a_1 y_2 a_8 a_9, r => ∀ (W : Nat → Prop) (h0 m0 h m : Heap) (A_1 : Option Addr) (n_1 c_1 : Nat) (bk_2 : Nat) (cs_2 : List Value) (A_8 : Option Addr) (n_8 c_8 : Nat) (A_9 : Option Addr) (n_9 c_9 : Nat) (O : Hold W h0 m0 h m [rV bk_2 78 cs_2, rR (aE (tell_int .i64)) A_8 c_8 a_8, rR (aE (tell_int .i64)) A_9 c_9 a_9]) (ne_1 : n_1 = List.length a_1) (k_1 : List.length a_1 ≤ c_1) (r_1 : Rd 1 (eInt .i64) m A_1 a_1) (e_2 : T_talk_Net.E m y_2 cs_2) (ne_8 : n_8 = List.length a_8) (ne_9 : n_9 = List.length a_9), f40.l0 (talk_Run.post W h0 m0 r) A_1 n_1 c_1 (⟨bk_2, 0, none⟩ : Addr) A_8 n_8 c_8 A_9 n_9 c_9 h
  | .j0 a_1 y_2 a_8 a_9 a_10 x_11, r => ∀ (W : Nat → Prop) (h0 m0 h m : Heap) (A_1 : Option Addr) (n_1 c_1 : Nat) (bk_2 : Nat) (cs_2 : List Value) (A_8 : Option Addr) (n_8 c_8 : Nat) (A_9 : Option Addr) (n_9 c_9 : Nat) (A_10 : Option Addr) (n_10 c_10 : Nat) (O : Hold W h0 m0 h m [rV bk_2 78 cs_2, rR (aE (tell_int .i64)) A_8 c_8 a_8, rR (aE (tell_int .i64)) A_9 c_9 a_9, rR (aE (tell_int .i64)) A_10 c_10 a_10]) (ne_1 : n_1 = List.length a_1) (k_1 : List.length a_1 ≤ c_1) (r_1 : Rd 1 (eInt .i64) m A_1 a_1) (e_2 : T_talk_Net.E m y_2 cs_2) (ne_8 : n_8 = List.length a_8) (ne_9 : n_9 = List.length a_9) (ne_10 : n_10 = List.length a_10), f40.j0 (talk_Run.post W h0 m0 r) A_1 n_1 c_1 (⟨bk_2, 0, none⟩ : Addr) A_8 n_8 c_8 A_9 n_9 c_9 A_10 n_10 c_10 x_11 h
set_option maxRecDepth 100000 in
theorem talk_Run.l0_k.step_l0 (go : (p : talk_Run.l0_k.Pt) → Option ((List Int) × (List Int) × Int)) (ih : ∀ p r, go p = some r → talk_Run.l0_k.I p r) (a_1 : List Int) (y_2 : T_talk_Net) (a_8 : List Int) (a_9 : List Int) (r : (List Int) × (List Int) × Int) (e : talk_Run.l0_k.body go (.l0 a_1 y_2 a_8 a_9) = some r) : talk_Run.l0_k.I (.l0 a_1 y_2 a_8 a_9) r := by
  unfold talk_Run.l0_k.body at e
  intro W h0 m0 h m A_1 n_1 c_1 bk_2 cs_2 A_8 n_8 c_8 A_9 n_9 c_9 O ne_1 k_1 r_1 e_2 ne_8 ne_9
  subst ne_1
  subst ne_8
  subst ne_9
  refine f40.l0_in ?_
  unfold f40.l0T
  refine ⟨_, ldAn (Sub.refl _) (O.all 0 rfl) (T_talk_Net.T.len _ _ _ e_2), ?_⟩
  obtain ⟨y1, g2, e⟩ := bind_e e
  obtain ⟨m7, u8, s13, ⟨⟨r11, k12⟩, _⟩, B9, C10⟩ := O.lend0 [1]
  replace r11 : Rd 1 (eInt .i64) m7 A_8 a_8 := r11
  replace k12 : List.length a_8 ≤ c_8 := k12
  refine (talk_ready.walk (Hold.start (W := No) s13) (T_talk_Net.T.mono _ _ _ _ u8 e_2) rfl k12 r11 g2).mono ?_
  rintro _ h3 ⟨m4, A14, n15, c16, Q5, rfl, ne17⟩
  have O19 := Hold.nm (C10 Q5 (vfs_cons (rR_vf (aE_vf (fun _ _ _ _ h => h))) vfs_nil))
  subst ne17
  refine ⟨_, _, _, rfl, ?_⟩
  refine split_eq_e e (fun c29 e => ?_) (fun c29 e => ?_)
  · cases e
    exact ⟨_, _, _, _, _, _, _, O19.pick [2, 1], rfl, rfl, rfl⟩
  · refine split_dec_e e (fun c28 e => ?_) (fun c28 e => ?_)
    · obtain ⟨y20, g21, e⟩ := bind_e e
      refine r_1.addr rfl g21 fun a22 cs23 ha24 hc25 he26 => ?_
      obtain rfl : cs23 = [(Value.int .i64 y20)] := he26
      refine ⟨_, ld0 O19.s hc25 rfl, _, rfl, ?_⟩
      obtain ⟨g27, e⟩ := guard_e e
      refine ⟨g27, ?_⟩
      exact (ih _ _ e) _ _ _ _ _ _ _ _ _ _ _ _ _ _ _ _ _ _ _ (O19.pick [0, 1, 2, 3]).nm rfl k_1 r_1 e_2 rfl rfl rfl
    · exact (ih _ _ e) _ _ _ _ _ _ _ _ _ _ _ _ _ _ _ _ _ _ _ (O19.pick [0, 1, 2, 3]).nm rfl k_1 r_1 e_2 rfl rfl rfl
set_option maxHeartbeats 4000000 in
set_option maxRecDepth 100000 in
theorem talk_Run.l0_k.step_j0 (go : (p : talk_Run.l0_k.Pt) → Option ((List Int) × (List Int) × Int)) (ih : ∀ p r, go p = some r → talk_Run.l0_k.I p r) (a_1 : List Int) (y_2 : T_talk_Net) (a_8 : List Int) (a_9 : List Int) (a_10 : List Int) (x_11 : Int) (r : (List Int) × (List Int) × Int) (e : talk_Run.l0_k.body go (.j0 a_1 y_2 a_8 a_9 a_10 x_11) = some r) : talk_Run.l0_k.I (.j0 a_1 y_2 a_8 a_9 a_10 x_11) r := by
  unfold talk_Run.l0_k.body at e
  intro W h0 m0 h m A_1 n_1 c_1 bk_2 cs_2 A_8 n_8 c_8 A_9 n_9 c_9 A_10 n_10 c_10 O ne_1 k_1 r_1 e_2 ne_8 ne_9 ne_10
  subst ne_1
  subst ne_8
  subst ne_9
  subst ne_10
  refine f40.j0_in ?_
  unfold f40.j0T
  obtain ⟨y1, g2, e⟩ := bind_e e
  refine (O.os 3 rfl).addr rfl g2 fun a3 cs4 ha5 hc6 he7 => ?_
  obtain rfl : cs4 = [(Value.int .i64 y1)] := he7
  obtain ⟨A8, c9, q10, k11, r12⟩ := T_talk_Net.g0 e_2
  refine ⟨_, ld0 (Sub.refl _) (O.all 0 rfl) q10, _, _, _, rfl, ?_⟩
  refine ⟨_, ld0 (Sub.refl _) hc6 rfl, _, rfl, ?_⟩
  obtain ⟨y13, g14, e⟩ := bind_e e
  refine r12.addr rfl g14 fun a15 cs16 ha17 hc18 he19 => ?_
  refine ⟨_, ldAn O.s hc18 rfl, ?_⟩
  refine O.new fun h20 x21 O22 => ?_
  refine ⟨x21, ?_⟩
  refine ⟨_, rfl, (T_talk_Line.T.len _ _ _ he19), ?_⟩
  refine O22.stA 4 rfl (T_talk_Line.T.len _ _ _ he19) (T_talk_Line.T.flat _ _ _ he19) fun h24 O25 => ?_
  refine ⟨_, ld0 (Sub.refl _) (O25.all 4 rfl) (T_talk_Line.g0 he19), _, rfl, ?_⟩
  obtain ⟨y26, g27, e⟩ := bind_e e
  refine (O25.os 1 rfl).addr rfl g27 fun a28 cs29 ha30 hc31 he32 => ?_
  obtain rfl : cs29 = [(Value.int .i64 y26)] := he32
  refine ⟨_, ld0 (Sub.refl _) hc31 rfl, _, rfl, ?_⟩
  obtain ⟨y33, g34, e⟩ := bind_e e
  refine (O25.os 1 rfl).addr rfl g34 fun a35 cs36 ha37 hc38 he39 => ?_
  obtain rfl : cs36 = [(Value.int .i64 y33)] := he39
  obtain ⟨l42, g43, e⟩ := bind_e e
  replace g43 := Option.some.inj g43
  refine O25.elst0 1 rfl g34 ha37 hc38 (by decide) (y' := (IntKind.wrap .i64 (y26 + (1 : Int)))) rfl trivial g43 fun h40 O41 => ?_
  refine ⟨_, ldk (k := 1) (Sub.refl _) (O41.all 4 rfl) (T_talk_Line.g1 he19), _, rfl, ?_⟩
  obtain ⟨y44, g45, e⟩ := bind_e e
  refine (O41.os 1 rfl).addr (lset' g43) g45 fun a46 cs47 ha48 hc49 he50 => ?_
  obtain rfl : cs47 = [(Value.int .i64 y44)] := he50
  refine ⟨_, ld0 (Sub.refl _) hc49 rfl, _, rfl, ?_⟩
  obtain ⟨y51, g52, e⟩ := bind_e e
  refine (O41.os 1 rfl).addr (lset' g43) g52 fun a53 cs54 ha55 hc56 he57 => ?_
  obtain rfl : cs54 = [(Value.int .i64 y51)] := he57
  obtain ⟨l60, g61, e⟩ := bind_e e
  replace g61 := Option.some.inj g61
  refine O41.elst0 1 rfl g52 ha55 hc56 (by decide) (y' := (IntKind.wrap .i64 (y44 + (1 : Int)))) rfl trivial g61 fun h58 O59 => ?_
  obtain ⟨y62, g63, e⟩ := bind_e e
  refine (O59.os 3 rfl).addr rfl g63 fun a64 cs65 ha66 hc67 he68 => ?_
  obtain rfl : cs65 = [(Value.int .i64 y62)] := he68
  refine ⟨_, ld0 (Sub.refl _) hc67 rfl, _, rfl, ?_⟩
  refine O59.new fun h69 x70 O71 => ?_
  have O73 := O71.nm
  obtain ⟨l74, g75, e⟩ := bind_e e
  have O82 := O73.rowE (l := ([y62] : List Int)) 5 rfl (tell_int .i64) (show CsE _ _ _ _ _ from (CsE.cons (c1 := [(Value.int .i64 y62)]) rfl rfl CsE.nil)) rfl
  refine O82.app 2 rfl rfl rfl ((O82.os 5 rfl).srcE rfl) (by decide) g75 fun A76 c77 h78 O79 => ?_
  refine ⟨_, _, _, rfl, ?_⟩
  have O83 := O79.nm
  exact (ih _ _ e) _ _ _ _ _ _ _ _ _ _ _ _ _ _ _ _ (O83.pick [0, 1, 2]).nm rfl k_1 r_1 e_2 ((lset' g43).trans (lset' g61)) rfl
theorem talk_Run.l0_k.all {p : talk_Run.l0_k.Pt} {r : ((List Int) × (List Int) × Int)} (e : talk_Run.l0_k.go p = some r) : talk_Run.l0_k.I p r := fixF_ind (β := fun _ => ((List Int) × (List Int) × Int)) talk_Run.l0_k.mono (I := talk_Run.l0_k.I) (fun go ih p r e => match p with
  | .l0 a_1 y_2 a_8 a_9 => talk_Run.l0_k.step_l0 go ih a_1 y_2 a_8 a_9 r e
  | .j0 a_1 y_2 a_8 a_9 a_10 x_11 => talk_Run.l0_k.step_j0 go ih a_1 y_2 a_8 a_9 a_10 x_11 r e
  ) e
theorem talk_Run.l0.walk {W : Nat → Prop} {h0 m0 h m : Heap} {A_1 : Option Addr} {n_1 c_1 : Nat} {bk_2 : Nat} {cs_2 : List Value} {A_8 : Option Addr} {n_8 c_8 : Nat} {A_9 : Option Addr} {n_9 c_9 : Nat} {a_1 : List Int} {y_2 : T_talk_Net} {a_8 : List Int} {a_9 : List Int} (O : Hold W h0 m0 h m [rV bk_2 78 cs_2, rR (aE (tell_int .i64)) A_8 c_8 a_8, rR (aE (tell_int .i64)) A_9 c_9 a_9]) (ne_1 : n_1 = List.length a_1) (k_1 : List.length a_1 ≤ c_1) (r_1 : Rd 1 (eInt .i64) m A_1 a_1) (e_2 : T_talk_Net.E m y_2 cs_2) (ne_8 : n_8 = List.length a_8) (ne_9 : n_9 = List.length a_9) {r : (List Int) × (List Int) × Int} (e : talk_Run.l0 a_1 y_2 a_8 a_9 = some r) : f40.l0 (talk_Run.post W h0 m0 r) A_1 n_1 c_1 (⟨bk_2, 0, none⟩ : Addr) A_8 n_8 c_8 A_9 n_9 c_9 h := talk_Run.l0_k.all (p := .l0 a_1 y_2 a_8 a_9) e W h0 m0 h m A_1 n_1 c_1 bk_2 cs_2 A_8 n_8 c_8 A_9 n_9 c_9 O ne_1 k_1 r_1 e_2 ne_8 ne_9
noncomputable def talk_Run (y_0 : T_talk_Net) (a_1 : List Int) : Option ((List Int) × (List Int) × Int) :=
  Option.bind (talk_Check y_0) fun y5 => if y5 = (0 : Int) then (Option.bind (mks 8 (((List.length y_0.Who) : Nat) : Int) (0 : Int)) fun l22 => (talk_Run.l0 a_1 y_0 l22 ([] : List Int))) else (some (([] : List Int), ([] : List Int), y5))
set_option maxRecDepth 100000 in
theorem talk_Run.walk {W : Nat → Prop} {h m : Heap} {cs_0 : List Value} {A_1 : Option Addr} {n_1 c_1 : Nat} {y_0 : T_talk_Net} {a_1 : List Int} (O : Hold W h m h m []) (e_0 : T_talk_Net.E m y_0 cs_0) (ne_1 : n_1 = List.length a_1) (k_1 : List.length a_1 ≤ c_1) (r_1 : Rd 1 (eInt .i64) m A_1 a_1) {r : (List Int) × (List Int) × Int} (e : talk_Run y_0 a_1 = some r) : Run Try.prog 40 #[Value.agg cs_0.toArray, Value.slice A_1 n_1 c_1] h (talk_Run.post W h m r) := by
  unfold talk_Run at e
  subst ne_1
  refine f40.run ?_
  unfold f40.runT
  refine O.new fun h1 x2 O3 => ?_
  refine ⟨_, ldAn (Sub.refl _) (O3.all 0 rfl) (T_talk_Net.T.len _ _ _ e_0), ?_⟩
  obtain ⟨y5, g6, e⟩ := bind_e e
  refine (talk_Check.walk (Hold.start (W := No) O3.s) e_0 g6).mono ?_
  rintro _ h7 ⟨m8, Q9, rfl⟩
  have O11 := Hold.nm (O3.retC Q9 vfs_nil)
  refine ⟨_, rfl, ?_⟩
  refine split_ne_e e (fun c33 e => ?_) (fun c33 e => ?_)
  · have O12 := O11.nil (aE (tell_int .i64)) none
    have O14 := O12.nil (aE (tell_int .i64)) none
    have O16 := O14.nm
    cases e
    exact ⟨_, _, _, _, _, _, _, O16.pick [1, 2], rfl, rfl, rfl⟩
  · obtain ⟨A17, c18, q19, k20, r21⟩ := T_talk_Net.g1 e_0
    refine ⟨_, ldk (k := 1) (Sub.refl _) (O11.all 0 rfl) q19, _, _, _, rfl, ?_⟩
    obtain ⟨l22, g23, e⟩ := bind_e e
    have q24 := mks_e g23
    refine ⟨q24.1, Int.le_refl _, q24.2.1, q24.2.2.1, ?_⟩
    refine O11.new fun h25 x26 O27 => ?_
    have O28 := O27.made 1 rfl (aE (tell_int .i64)) g23 ⟨rfl, rfl⟩
    try rw [q24.2.2.2.1]
    have O30 := O28.nil (aE (tell_int .i64)) none
    have O32 := O30.nm
    exact talk_Run.l0.walk (O32.pick [0, 1, 2]).nm rfl k_1 r_1 e_0 rfl rfl e
def talk_Waits.post (W : Nat → Prop) (h0 m0 : Heap) (r : (List Int) × Int) (v : Value) (h : Heap) : Prop := ∃ m A0 n0 c0, Hold W h0 m0 h m [rR (aE (tell_int .i64)) A0 c0 r.1] ∧ v = .tuple #[.slice A0 n0 c0, .int .i64 r.2] ∧ n0 = List.length r.1
inductive talk_Waits.l1_k.Pt where
  | l1 (y_2 : T_talk_Net) (a_9 : List Int) (a_47 : List Int) (x_48 : Int) (x_49 : Int)
noncomputable def talk_Waits.l1_k.body (go : (p : talk_Waits.l1_k.Pt) → Option ((List Int) × Int)) : (p : talk_Waits.l1_k.Pt) → Option ((List Int) × Int)
  | .l1 y_2 a_9 a_47 x_48 x_49 => if x_49 < x_48 then (Option.bind (gi a_47 x_49) fun y1 => Option.bind (gi a_9 x_49) fun y8 => Option.bind (some (List.set a_9 (Int.toNat x_49) (-1 : Int))) fun l17 => Option.bind (gi y_2.Who x_49) fun y24 => if y1 < (((List.length y24) : Nat) : Int) then (Option.bind (gi y_2.Who x_49) fun y41 => Option.bind (gi y41 y1) fun y48 => Option.bind (gi y_2.Lines y48.Line) fun y55 => Option.bind (gi l17 x_49) fun y68 => Option.bind (some (List.set l17 (Int.toNat x_49) (IntKind.wrap .i64 ((IntKind.wrap .i64 (y55.A + y55.B)) - x_49)))) fun l77 => (go (.l1 y_2 l77 a_47 x_48 (IntKind.wrap .i64 (x_49 + (1 : Int)))))) else ((go (.l1 y_2 l17 a_47 x_48 (IntKind.wrap .i64 (x_49 + (1 : Int))))))) else (some (a_9, (0 : Int)))
theorem talk_Waits.l1_k.mono : MonoF (β := fun _ => ((List Int) × Int)) talk_Waits.l1_k.body := fun f g hfg p => match p with
  | .l1 y_2 a_9 a_47 x_48 x_49 => LeO.ite (LeO.bind (LeO.refl _) fun y1 => LeO.bind (LeO.refl _) fun y8 => LeO.bind (LeO.refl _) fun l17 => LeO.bind (LeO.refl _) fun y24 => LeO.ite (LeO.bind (LeO.refl _) fun y41 => LeO.bind (LeO.refl _) fun y48 => LeO.bind (LeO.refl _) fun y55 => LeO.bind (LeO.refl _) fun y68 => LeO.bind (LeO.refl _) fun l77 => (hfg _)) ((hfg _))) (LeO.refl _)
noncomputable def talk_Waits.l1_k.go (p : talk_Waits.l1_k.Pt) : Option ((List Int) × Int) := fixF (β := fun _ => ((List Int) × Int)) talk_Waits.l1_k.body p
noncomputable def talk_Waits.l1 (y_2 : T_talk_Net) (a_9 : List Int) (a_47 : List Int) (x_48 : Int) (x_49 : Int) : Option ((List Int) × Int) := talk_Waits.l1_k.go (.l1 y_2 a_9 a_47 x_48 x_49)
theorem talk_Waits.l1_eq (y_2 : T_talk_Net) (a_9 : List Int) (a_47 : List Int) (x_48 : Int) (x_49 : Int) : talk_Waits.l1 y_2 a_9 a_47 x_48 x_49 = if x_49 < x_48 then (Option.bind (gi a_47 x_49) fun y1 => Option.bind (gi a_9 x_49) fun y8 => Option.bind (some (List.set a_9 (Int.toNat x_49) (-1 : Int))) fun l17 => Option.bind (gi y_2.Who x_49) fun y24 => if y1 < (((List.length y24) : Nat) : Int) then (Option.bind (gi y_2.Who x_49) fun y41 => Option.bind (gi y41 y1) fun y48 => Option.bind (gi y_2.Lines y48.Line) fun y55 => Option.bind (gi l17 x_49) fun y68 => Option.bind (some (List.set l17 (Int.toNat x_49) (IntKind.wrap .i64 ((IntKind.wrap .i64 (y55.A + y55.B)) - x_49)))) fun l77 => (talk_Waits.l1 y_2 l77 a_47 x_48 (IntKind.wrap .i64 (x_49 + (1 : Int))))) else ((talk_Waits.l1 y_2 l17 a_47 x_48 (IntKind.wrap .i64 (x_49 + (1 : Int)))))) else (some (a_9, (0 : Int))) := fixF_eq talk_Waits.l1_k.mono _
def talk_Waits.l1_k.I : (p : talk_Waits.l1_k.Pt) → ((List Int) × Int) → Prop
  | .l1 y_2 a_9 a_47 x_48 x_49, r => ∀ (W : Nat → Prop) (h0 m0 h m : Heap) (bk_2 : Nat) (cs_2 : List Value) (A_9 : Option Addr) (n_9 c_9 : Nat) (A_47 : Option Addr) (n_47 c_47 : Nat) (O : Hold W h0 m0 h m [rV bk_2 78 cs_2, rR (aE (tell_int .i64)) A_9 c_9 a_9]) (e_2 : T_talk_Net.E m y_2 cs_2) (ne_9 : n_9 = List.length a_9) (ne_47 : n_47 = List.length a_47) (k_47 : List.length a_47 ≤ c_47) (r_47 : Rd 1 (eInt .i64) m A_47 a_47), f41.l1 (talk_Waits.post W h0 m0 r) (⟨bk_2, 0, none⟩ : Addr) A_9 n_9 c_9 A_47 n_47 c_47 x_48 x_49 h
set_option maxHeartbeats 4000000 in
set_option maxRecDepth 100000 in
theorem talk_Waits.l1_k.step_l1 (go : (p : talk_Waits.l1_k.Pt) → Option ((List Int) × Int)) (ih : ∀ p r, go p = some r → talk_Waits.l1_k.I p r) (y_2 : T_talk_Net) (a_9 : List Int) (a_47 : List Int) (x_48 : Int) (x_49 : Int) (r : (List Int) × Int) (e : talk_Waits.l1_k.body go (.l1 y_2 a_9 a_47 x_48 x_49) = some r) : talk_Waits.l1_k.I (.l1 y_2 a_9 a_47 x_48 x_49) r := by
  unfold talk_Waits.l1_k.body at e
  intro W h0 m0 h m bk_2 cs_2 A_9 n_9 c_9 A_47 n_47 c_47 O e_2 ne_9 ne_47 k_47 r_47
  subst ne_9
  subst ne_47
  refine f41.l1_in ?_
  unfold f41.l1T
  refine split_dec_e e (fun c82 e => ?_) (fun c82 e => ?_)
  · obtain ⟨y1, g2, e⟩ := bind_e e
    refine r_47.addr rfl g2 fun a3 cs4 ha5 hc6 he7 => ?_
    obtain rfl : cs4 = [(Value.int .i64 y1)] := he7
    refine ⟨_, ld0 O.s hc6 rfl, _, rfl, ?_⟩
    obtain ⟨y8, g9, e⟩ := bind_e e
    refine (O.os 1 rfl).addr rfl g9 fun a10 cs11 ha12 hc13 he14 => ?_
    obtain rfl : cs11 = [(Value.int .i64 y8)] := he14
    obtain ⟨l17, g18, e⟩ := bind_e e
    replace g18 := Option.some.inj g18
    refine O.elst0 1 rfl g9 ha12 hc13 (by decide) (y' := (-1 : Int)) rfl trivial g18 fun h15 O16 => ?_
    obtain ⟨A19, c20, q21, k22, r23⟩ := T_talk_Net.g1 e_2
    refine ⟨_, ldk (k := 1) (Sub.refl _) (O16.all 0 rfl) q21, _, _, _, rfl, ?_⟩
    obtain ⟨y24, g25, e⟩ := bind_e e
    refine r23.addr rfl g25 fun a26 cs27 ha28 hc29 he30 => ?_
    obtain ⟨Acs27_0, ccs27_0, rfl, kcs27_0, rcs27_0⟩ := id he30
    refine ⟨_, ld0 O16.s hc29 rfl, _, _, _, rfl, ?_⟩
    refine split_dec_e e (fun c81 e => ?_) (fun c81 e => ?_)
    · obtain ⟨A31, c32, q33, k34, r35⟩ := T_talk_Net.g0 e_2
      refine ⟨_, ld0 (Sub.refl _) (O16.all 0 rfl) q33, _, _, _, rfl, ?_⟩
      obtain ⟨A36, c37, q38, k39, r40⟩ := T_talk_Net.g1 e_2
      refine ⟨_, ldk (k := 1) (Sub.refl _) (O16.all 0 rfl) q38, _, _, _, rfl, ?_⟩
      obtain ⟨y41, g42, e⟩ := bind_e e
      refine r40.addr rfl g42 fun a43 cs44 ha45 hc46 he47 => ?_
      obtain ⟨Acs44_0, ccs44_0, rfl, kcs44_0, rcs44_0⟩ := id he47
      refine ⟨_, ld0 O16.s hc46 rfl, _, _, _, rfl, ?_⟩
      obtain ⟨y48, g49, e⟩ := bind_e e
      refine rcs44_0.addr rfl g49 fun a50 cs51 ha52 hc53 he54 => ?_
      refine ⟨_, ld0 O16.s hc53 (T_talk_Deed.g0 he54), _, rfl, ?_⟩
      obtain ⟨y55, g56, e⟩ := bind_e e
      refine r35.addr rfl g56 fun a57 cs58 ha59 hc60 he61 => ?_
      refine ⟨_, ldAn O16.s hc60 rfl, ?_⟩
      refine O16.new fun h62 x63 O64 => ?_
      refine ⟨x63, ?_⟩
      refine ⟨_, rfl, (T_talk_Line.T.len _ _ _ he61), ?_⟩
      refine O64.stA 2 rfl (T_talk_Line.T.len _ _ _ he61) (T_talk_Line.T.flat _ _ _ he61) fun h66 O67 => ?_
      refine ⟨_, ld0 (Sub.refl _) (O67.all 2 rfl) (T_talk_Line.g0 he61), _, rfl, ?_⟩
      refine ⟨_, ldk (k := 1) (Sub.refl _) (O67.all 2 rfl) (T_talk_Line.g1 he61), _, rfl, ?_⟩
      obtain ⟨y68, g69, e⟩ := bind_e e
      refine (O67.os 1 rfl).addr (lset' g18) g69 fun a70 cs71 ha72 hc73 he74 => ?_
      obtain rfl : cs71 = [(Value.int .i64 y68)] := he74
      obtain ⟨l77, g78, e⟩ := bind_e e
      replace g78 := Option.some.inj g78
      refine O67.elst0 1 rfl g69 ha72 hc73 (by decide) (y' := (IntKind.wrap .i64 ((IntKind.wrap .i64 (y55.A + y55.B)) - x_49))) rfl trivial g78 fun h75 O76 => ?_
      have O79 := O76.nm
      exact (ih _ _ e) _ _ _ _ _ _ _ _ _ _ _ _ _ (O79.pick [0, 1]).nm e_2 ((lset' g18).trans (lset' g78)) rfl k_47 r_47
    · have O80 := O16.nm
      exact (ih _ _ e) _ _ _ _ _ _ _ _ _ _ _ _ _ (O80.pick [0, 1]).nm e_2 (lset' g18) rfl k_47 r_47
  · cases e
    exact ⟨_, _, _, _, O.pick [1], rfl, rfl⟩
theorem talk_Waits.l1_k.all {p : talk_Waits.l1_k.Pt} {r : ((List Int) × Int)} (e : talk_Waits.l1_k.go p = some r) : talk_Waits.l1_k.I p r := fixF_ind (β := fun _ => ((List Int) × Int)) talk_Waits.l1_k.mono (I := talk_Waits.l1_k.I) (fun go ih p r e => match p with
  | .l1 y_2 a_9 a_47 x_48 x_49 => talk_Waits.l1_k.step_l1 go ih y_2 a_9 a_47 x_48 x_49 r e
  ) e
theorem talk_Waits.l1.walk {W : Nat → Prop} {h0 m0 h m : Heap} {bk_2 : Nat} {cs_2 : List Value} {A_9 : Option Addr} {n_9 c_9 : Nat} {A_47 : Option Addr} {n_47 c_47 : Nat} {y_2 : T_talk_Net} {a_9 : List Int} {a_47 : List Int} {x_48 : Int} {x_49 : Int} (O : Hold W h0 m0 h m [rV bk_2 78 cs_2, rR (aE (tell_int .i64)) A_9 c_9 a_9]) (e_2 : T_talk_Net.E m y_2 cs_2) (ne_9 : n_9 = List.length a_9) (ne_47 : n_47 = List.length a_47) (k_47 : List.length a_47 ≤ c_47) (r_47 : Rd 1 (eInt .i64) m A_47 a_47) {r : (List Int) × Int} (e : talk_Waits.l1 y_2 a_9 a_47 x_48 x_49 = some r) : f41.l1 (talk_Waits.post W h0 m0 r) (⟨bk_2, 0, none⟩ : Addr) A_9 n_9 c_9 A_47 n_47 c_47 x_48 x_49 h := talk_Waits.l1_k.all (p := .l1 y_2 a_9 a_47 x_48 x_49) e W h0 m0 h m bk_2 cs_2 A_9 n_9 c_9 A_47 n_47 c_47 O e_2 ne_9 ne_47 k_47 r_47
inductive talk_Waits.l0_k.Pt where
  | l0 (a_1 : List Int) (y_2 : T_talk_Net) (a_24 : List Int) (x_25 : Int) (x_26 : Int)
  | j0 (a_1 : List Int) (y_2 : T_talk_Net) (a_24 : List Int) (x_25 : Int) (x_26 : Int) (b_42 : Bool)
noncomputable def talk_Waits.l0_k.body (go : (p : talk_Waits.l0_k.Pt) → Option ((List Int) × Int)) : (p : talk_Waits.l0_k.Pt) → Option ((List Int) × Int)
  | .l0 a_1 y_2 a_24 x_25 x_26 => if x_26 < x_25 then (Option.bind (gi a_24 x_26) fun y1 => if y1 < (0 : Int) then ((go (.j0 a_1 y_2 a_24 x_25 x_26 true))) else (Option.bind (gi y_2.Who x_26) fun y13 => (go (.j0 a_1 y_2 a_24 x_25 x_26 (decide (y1 > (((List.length y13) : Nat) : Int))))))) else (Option.bind (mks 8 (((List.length a_1) : Nat) : Int) (0 : Int)) fun l21 => (talk_Waits.l1 y_2 l21 a_1 (((List.length a_1) : Nat) : Int) (0 : Int)))
  | .j0 a_1 y_2 a_24 x_25 x_26 b_42 => if b_42 = true then (some (([] : List Int), (1 : Int))) else ((go (.l0 a_1 y_2 a_24 x_25 (IntKind.wrap .i64 (x_26 + (1 : Int))))))
theorem talk_Waits.l0_k.mono : MonoF (β := fun _ => ((List Int) × Int)) talk_Waits.l0_k.body := fun f g hfg p => match p with
  | .l0 a_1 y_2 a_24 x_25 x_26 => LeO.ite (LeO.bind (LeO.refl _) fun y1 => LeO.ite ((hfg _)) (LeO.bind (LeO.refl _) fun y13 => (hfg _))) (LeO.bind (LeO.refl _) fun l21 => (LeO.refl _))
  | .j0 a_1 y_2 a_24 x_25 x_26 b_42 => LeO.ite (LeO.refl _) ((hfg _))
noncomputable def talk_Waits.l0_k.go (p : talk_Waits.l0_k.Pt) : Option ((List Int) × Int) := fixF (β := fun _ => ((List Int) × Int)) talk_Waits.l0_k.body p
noncomputable def talk_Waits.l0 (a_1 : List Int) (y_2 : T_talk_Net) (a_24 : List Int) (x_25 : Int) (x_26 : Int) : Option ((List Int) × Int) := talk_Waits.l0_k.go (.l0 a_1 y_2 a_24 x_25 x_26)
noncomputable def talk_Waits.j0 (a_1 : List Int) (y_2 : T_talk_Net) (a_24 : List Int) (x_25 : Int) (x_26 : Int) (b_42 : Bool) : Option ((List Int) × Int) := talk_Waits.l0_k.go (.j0 a_1 y_2 a_24 x_25 x_26 b_42)
theorem talk_Waits.l0_eq (a_1 : List Int) (y_2 : T_talk_Net) (a_24 : List Int) (x_25 : Int) (x_26 : Int) : talk_Waits.l0 a_1 y_2 a_24 x_25 x_26 = if x_26 < x_25 then (Option.bind (gi a_24 x_26) fun y1 => if y1 < (0 : Int) then ((talk_Waits.j0 a_1 y_2 a_24 x_25 x_26 true)) else (Option.bind (gi y_2.Who x_26) fun y13 => (talk_Waits.j0 a_1 y_2 a_24 x_25 x_26 (decide (y1 > (((List.length y13) : Nat) : Int)))))) else (Option.bind (mks 8 (((List.length a_1) : Nat) : Int) (0 : Int)) fun l21 => (talk_Waits.l1 y_2 l21 a_1 (((List.length a_1) : Nat) : Int) (0 : Int))) := fixF_eq talk_Waits.l0_k.mono _
theorem talk_Waits.j0_eq (a_1 : List Int) (y_2 : T_talk_Net) (a_24 : List Int) (x_25 : Int) (x_26 : Int) (b_42 : Bool) : talk_Waits.j0 a_1 y_2 a_24 x_25 x_26 b_42 = if b_42 = true then (some (([] : List Int), (1 : Int))) else ((talk_Waits.l0 a_1 y_2 a_24 x_25 (IntKind.wrap .i64 (x_26 + (1 : Int))))) := fixF_eq talk_Waits.l0_k.mono _
def talk_Waits.l0_k.I : (p : talk_Waits.l0_k.Pt) → ((List Int) × Int) → Prop
  | .l0 a_1 y_2 a_24 x_25 x_26, r => ∀ (W : Nat → Prop) (h0 m0 h m : Heap) (A_1 : Option Addr) (n_1 c_1 : Nat) (bk_2 : Nat) (cs_2 : List Value) (A_24 : Option Addr) (n_24 c_24 : Nat) (O : Hold W h0 m0 h m [rV bk_2 78 cs_2]) (ne_1 : n_1 = List.length a_1) (k_1 : List.length a_1 ≤ c_1) (r_1 : Rd 1 (eInt .i64) m A_1 a_1) (e_2 : T_talk_Net.E m y_2 cs_2) (ne_24 : n_24 = List.length a_24) (k_24 : List.length a_24 ≤ c_24) (r_24 : Rd 1 (eInt .i64) m A_24 a_24), f41.l0 (talk_Waits.post W h0 m0 r) A_1 n_1 c_1 (⟨bk_2, 0, none⟩ : Addr) A_24 n_24 c_24 x_25 x_26 h
  | .j0 a_1 y_2 a_24 x_25 x_26 b_42, r => ∀ (W : Nat → Prop) (h0 m0 h m : Heap) (A_1 : Option Addr) (n_1 c_1 : Nat) (bk_2 : Nat) (cs_2 : List Value) (A_24 : Option Addr) (n_24 c_24 : Nat) (O : Hold W h0 m0 h m [rV bk_2 78 cs_2]) (ne_1 : n_1 = List.length a_1) (k_1 : List.length a_1 ≤ c_1) (r_1 : Rd 1 (eInt .i64) m A_1 a_1) (e_2 : T_talk_Net.E m y_2 cs_2) (ne_24 : n_24 = List.length a_24) (k_24 : List.length a_24 ≤ c_24) (r_24 : Rd 1 (eInt .i64) m A_24 a_24), f41.j0 (talk_Waits.post W h0 m0 r) A_1 n_1 c_1 (⟨bk_2, 0, none⟩ : Addr) A_24 n_24 c_24 x_25 x_26 b_42 h
set_option maxRecDepth 100000 in
theorem talk_Waits.l0_k.step_l0 (go : (p : talk_Waits.l0_k.Pt) → Option ((List Int) × Int)) (ih : ∀ p r, go p = some r → talk_Waits.l0_k.I p r) (a_1 : List Int) (y_2 : T_talk_Net) (a_24 : List Int) (x_25 : Int) (x_26 : Int) (r : (List Int) × Int) (e : talk_Waits.l0_k.body go (.l0 a_1 y_2 a_24 x_25 x_26) = some r) : talk_Waits.l0_k.I (.l0 a_1 y_2 a_24 x_25 x_26) r := by
  unfold talk_Waits.l0_k.body at e
  intro W h0 m0 h m A_1 n_1 c_1 bk_2 cs_2 A_24 n_24 c_24 O ne_1 k_1 r_1 e_2 ne_24 k_24 r_24
  subst ne_1
  subst ne_24
  refine f41.l0_in ?_
  unfold f41.l0T
  refine split_dec_e e (fun c30 e => ?_) (fun c30 e => ?_)
  · obtain ⟨y1, g2, e⟩ := bind_e e
    refine r_24.addr rfl g2 fun a3 cs4 ha5 hc6 he7 => ?_
    obtain rfl : cs4 = [(Value.int .i64 y1)] := he7
    refine ⟨_, ld0 O.s hc6 rfl, _, rfl, ?_⟩
    refine split_dec_e e (fun c20 e => ?_) (fun c20 e => ?_)
    · exact (ih _ _ e) _ _ _ _ _ _ _ _ _ _ _ _ _ (O.pick [0]).nm rfl k_1 r_1 e_2 rfl k_24 r_24
    · obtain ⟨A8, c9, q10, k11, r12⟩ := T_talk_Net.g1 e_2
      refine ⟨_, ldk (k := 1) (Sub.refl _) (O.all 0 rfl) q10, _, _, _, rfl, ?_⟩
      obtain ⟨y13, g14, e⟩ := bind_e e
      refine r12.addr rfl g14 fun a15 cs16 ha17 hc18 he19 => ?_
      obtain ⟨Acs16_0, ccs16_0, rfl, kcs16_0, rcs16_0⟩ := id he19
      refine ⟨_, ld0 O.s hc18 rfl, _, _, _, rfl, ?_⟩
      exact (ih _ _ e) _ _ _ _ _ _ _ _ _ _ _ _ _ (O.pick [0]).nm rfl k_1 r_1 e_2 rfl k_24 r_24
  · obtain ⟨l21, g22, e⟩ := bind_e e
    have q23 := mks_e g22
    refine ⟨q23.1, Int.le_refl _, q23.2.1, q23.2.2.1, ?_⟩
    refine O.new fun h24 x25 O26 => ?_
    have O27 := O26.made 1 rfl (aE (tell_int .i64)) g22 ⟨rfl, rfl⟩
    try rw [q23.2.2.2.1]
    have O29 := O27.nm
    exact talk_Waits.l1.walk (O29.pick [0, 1]).nm e_2 rfl rfl k_1 r_1 e
set_option maxRecDepth 100000 in
theorem talk_Waits.l0_k.step_j0 (go : (p : talk_Waits.l0_k.Pt) → Option ((List Int) × Int)) (ih : ∀ p r, go p = some r → talk_Waits.l0_k.I p r) (a_1 : List Int) (y_2 : T_talk_Net) (a_24 : List Int) (x_25 : Int) (x_26 : Int) (b_42 : Bool) (r : (List Int) × Int) (e : talk_Waits.l0_k.body go (.j0 a_1 y_2 a_24 x_25 x_26 b_42) = some r) : talk_Waits.l0_k.I (.j0 a_1 y_2 a_24 x_25 x_26 b_42) r := by
  unfold talk_Waits.l0_k.body at e
  intro W h0 m0 h m A_1 n_1 c_1 bk_2 cs_2 A_24 n_24 c_24 O ne_1 k_1 r_1 e_2 ne_24 k_24 r_24
  subst ne_1
  subst ne_24
  refine f41.j0_in ?_
  unfold f41.j0T
  refine split_any_e e (fun c4 e => ?_) (fun c4 e => ?_)
  · have O1 := O.nil (aE (tell_int .i64)) none
    have O3 := O1.nm
    cases e
    exact ⟨_, _, _, _, O3.pick [1], rfl, rfl⟩
  · exact (ih _ _ e) _ _ _ _ _ _ _ _ _ _ _ _ _ (O.pick [0]).nm rfl k_1 r_1 e_2 rfl k_24 r_24
theorem talk_Waits.l0_k.all {p : talk_Waits.l0_k.Pt} {r : ((List Int) × Int)} (e : talk_Waits.l0_k.go p = some r) : talk_Waits.l0_k.I p r := fixF_ind (β := fun _ => ((List Int) × Int)) talk_Waits.l0_k.mono (I := talk_Waits.l0_k.I) (fun go ih p r e => match p with
  | .l0 a_1 y_2 a_24 x_25 x_26 => talk_Waits.l0_k.step_l0 go ih a_1 y_2 a_24 x_25 x_26 r e
  | .j0 a_1 y_2 a_24 x_25 x_26 b_42 => talk_Waits.l0_k.step_j0 go ih a_1 y_2 a_24 x_25 x_26 b_42 r e
  ) e
theorem talk_Waits.l0.walk {W : Nat → Prop} {h0 m0 h m : Heap} {A_1 : Option Addr} {n_1 c_1 : Nat} {bk_2 : Nat} {cs_2 : List Value} {A_24 : Option Addr} {n_24 c_24 : Nat} {a_1 : List Int} {y_2 : T_talk_Net} {a_24 : List Int} {x_25 : Int} {x_26 : Int} (O : Hold W h0 m0 h m [rV bk_2 78 cs_2]) (ne_1 : n_1 = List.length a_1) (k_1 : List.length a_1 ≤ c_1) (r_1 : Rd 1 (eInt .i64) m A_1 a_1) (e_2 : T_talk_Net.E m y_2 cs_2) (ne_24 : n_24 = List.length a_24) (k_24 : List.length a_24 ≤ c_24) (r_24 : Rd 1 (eInt .i64) m A_24 a_24) {r : (List Int) × Int} (e : talk_Waits.l0 a_1 y_2 a_24 x_25 x_26 = some r) : f41.l0 (talk_Waits.post W h0 m0 r) A_1 n_1 c_1 (⟨bk_2, 0, none⟩ : Addr) A_24 n_24 c_24 x_25 x_26 h := talk_Waits.l0_k.all (p := .l0 a_1 y_2 a_24 x_25 x_26) e W h0 m0 h m A_1 n_1 c_1 bk_2 cs_2 A_24 n_24 c_24 O ne_1 k_1 r_1 e_2 ne_24 k_24 r_24
noncomputable def talk_Waits (y_0 : T_talk_Net) (a_1 : List Int) : Option ((List Int) × Int) :=
  Option.bind (talk_Check y_0) fun y5 => if y5 = (0 : Int) then (if (((List.length a_1) : Nat) : Int) = (((List.length y_0.Who) : Nat) : Int) then ((talk_Waits.l0 a_1 y_0 a_1 (((List.length a_1) : Nat) : Int) (0 : Int))) else (some (([] : List Int), (3 : Int)))) else (some (([] : List Int), y5))
set_option maxRecDepth 100000 in
theorem talk_Waits.walk {W : Nat → Prop} {h m : Heap} {cs_0 : List Value} {A_1 : Option Addr} {n_1 c_1 : Nat} {y_0 : T_talk_Net} {a_1 : List Int} (O : Hold W h m h m []) (e_0 : T_talk_Net.E m y_0 cs_0) (ne_1 : n_1 = List.length a_1) (k_1 : List.length a_1 ≤ c_1) (r_1 : Rd 1 (eInt .i64) m A_1 a_1) {r : (List Int) × Int} (e : talk_Waits y_0 a_1 = some r) : Run Try.prog 41 #[Value.agg cs_0.toArray, Value.slice A_1 n_1 c_1] h (talk_Waits.post W h m r) := by
  unfold talk_Waits at e
  subst ne_1
  refine f41.run ?_
  unfold f41.runT
  refine O.new fun h1 x2 O3 => ?_
  refine ⟨_, ldAn (Sub.refl _) (O3.all 0 rfl) (T_talk_Net.T.len _ _ _ e_0), ?_⟩
  obtain ⟨y5, g6, e⟩ := bind_e e
  refine (talk_Check.walk (Hold.start (W := No) O3.s) e_0 g6).mono ?_
  rintro _ h7 ⟨m8, Q9, rfl⟩
  have O11 := Hold.nm (O3.retC Q9 vfs_nil)
  refine ⟨_, rfl, ?_⟩
  refine split_ne_e e (fun c24 e => ?_) (fun c24 e => ?_)
  · have O12 := O11.nil (aE (tell_int .i64)) none
    have O14 := O12.nm
    cases e
    exact ⟨_, _, _, _, O14.pick [1], rfl, rfl⟩
  · obtain ⟨A15, c16, q17, k18, r19⟩ := T_talk_Net.g1 e_0
    refine ⟨_, ldk (k := 1) (Sub.refl _) (O11.all 0 rfl) q17, _, _, _, rfl, ?_⟩
    refine split_ne_e e (fun c23 e => ?_) (fun c23 e => ?_)
    · have O20 := O11.nil (aE (tell_int .i64)) none
      have O22 := O20.nm
      cases e
      exact ⟨_, _, _, _, O22.pick [1], rfl, rfl⟩
    · exact talk_Waits.l0.walk (O11.pick [0]).nm rfl k_1 r_1 e_0 rfl k_1 r_1 e
def slices_Index_68.post (W : Nat → Prop) (h0 m0 : Heap) (r : Int) (v : Value) (h : Heap) : Prop := ∃ m , Hold W h0 m0 h m [] ∧ v = .int .i64 r
inductive slices_Index_68.l0_k.Pt where
  | l0 (a_0 : List Int) (x_1 : Int) (x_7 : Int) (x_8 : Int)
noncomputable def slices_Index_68.l0_k.body (go : (p : slices_Index_68.l0_k.Pt) → Option (Int)) : (p : slices_Index_68.l0_k.Pt) → Option (Int)
  | .l0 a_0 x_1 x_7 x_8 => if x_8 < x_7 then (Option.bind (gi a_0 x_8) fun y1 => if x_1 = y1 then (some (x_8)) else ((go (.l0 a_0 x_1 x_7 (IntKind.wrap .i64 (x_8 + (1 : Int))))))) else (some ((-1 : Int)))
theorem slices_Index_68.l0_k.mono : MonoF (β := fun _ => (Int)) slices_Index_68.l0_k.body := fun f g hfg p => match p with
  | .l0 a_0 x_1 x_7 x_8 => LeO.ite (LeO.bind (LeO.refl _) fun y1 => LeO.ite (LeO.refl _) ((hfg _))) (LeO.refl _)
noncomputable def slices_Index_68.l0_k.go (p : slices_Index_68.l0_k.Pt) : Option (Int) := fixF (β := fun _ => (Int)) slices_Index_68.l0_k.body p
noncomputable def slices_Index_68.l0 (a_0 : List Int) (x_1 : Int) (x_7 : Int) (x_8 : Int) : Option (Int) := slices_Index_68.l0_k.go (.l0 a_0 x_1 x_7 x_8)
theorem slices_Index_68.l0_eq (a_0 : List Int) (x_1 : Int) (x_7 : Int) (x_8 : Int) : slices_Index_68.l0 a_0 x_1 x_7 x_8 = if x_8 < x_7 then (Option.bind (gi a_0 x_8) fun y1 => if x_1 = y1 then (some (x_8)) else ((slices_Index_68.l0 a_0 x_1 x_7 (IntKind.wrap .i64 (x_8 + (1 : Int)))))) else (some ((-1 : Int))) := fixF_eq slices_Index_68.l0_k.mono _
def slices_Index_68.l0_k.I : (p : slices_Index_68.l0_k.Pt) → (Int) → Prop
  | .l0 a_0 x_1 x_7 x_8, r => ∀ (W : Nat → Prop) (h0 m0 h m : Heap) (A_0 : Option Addr) (n_0 c_0 : Nat) (O : Hold W h0 m0 h m []) (ne_0 : n_0 = List.length a_0) (k_0 : List.length a_0 ≤ c_0) (r_0 : Rd 1 (eInt .i64) m A_0 a_0), f68.l0 (slices_Index_68.post W h0 m0 r) A_0 n_0 c_0 x_1 x_7 x_8 h
set_option maxRecDepth 100000 in
theorem slices_Index_68.l0_k.step_l0 (go : (p : slices_Index_68.l0_k.Pt) → Option (Int)) (ih : ∀ p r, go p = some r → slices_Index_68.l0_k.I p r) (a_0 : List Int) (x_1 : Int) (x_7 : Int) (x_8 : Int) (r : Int) (e : slices_Index_68.l0_k.body go (.l0 a_0 x_1 x_7 x_8) = some r) : slices_Index_68.l0_k.I (.l0 a_0 x_1 x_7 x_8) r := by
  unfold slices_Index_68.l0_k.body at e
  intro W h0 m0 h m A_0 n_0 c_0 O ne_0 k_0 r_0
  subst ne_0
  refine f68.l0_in ?_
  unfold f68.l0T
  refine split_dec_e e (fun c9 e => ?_) (fun c9 e => ?_)
  · obtain ⟨y1, g2, e⟩ := bind_e e
    refine r_0.addr rfl g2 fun a3 cs4 ha5 hc6 he7 => ?_
    obtain rfl : cs4 = [(Value.int .i64 y1)] := he7
    refine ⟨_, ld0 O.s hc6 rfl, _, rfl, ?_⟩
    refine split_eq_e e (fun c8 e => ?_) (fun c8 e => ?_)
    · cases e
      exact ⟨_, O.pick [], rfl⟩
    · exact (ih _ _ e) _ _ _ _ _ _ _ _ (O.pick []).nm rfl k_0 r_0
  · cases e
    exact ⟨_, O.pick [], rfl⟩
theorem slices_Index_68.l0_k.all {p : slices_Index_68.l0_k.Pt} {r : (Int)} (e : slices_Index_68.l0_k.go p = some r) : slices_Index_68.l0_k.I p r := fixF_ind (β := fun _ => (Int)) slices_Index_68.l0_k.mono (I := slices_Index_68.l0_k.I) (fun go ih p r e => match p with
  | .l0 a_0 x_1 x_7 x_8 => slices_Index_68.l0_k.step_l0 go ih a_0 x_1 x_7 x_8 r e
  ) e
theorem slices_Index_68.l0.walk {W : Nat → Prop} {h0 m0 h m : Heap} {A_0 : Option Addr} {n_0 c_0 : Nat} {a_0 : List Int} {x_1 : Int} {x_7 : Int} {x_8 : Int} (O : Hold W h0 m0 h m []) (ne_0 : n_0 = List.length a_0) (k_0 : List.length a_0 ≤ c_0) (r_0 : Rd 1 (eInt .i64) m A_0 a_0) {r : Int} (e : slices_Index_68.l0 a_0 x_1 x_7 x_8 = some r) : f68.l0 (slices_Index_68.post W h0 m0 r) A_0 n_0 c_0 x_1 x_7 x_8 h := slices_Index_68.l0_k.all (p := .l0 a_0 x_1 x_7 x_8) e W h0 m0 h m A_0 n_0 c_0 O ne_0 k_0 r_0
noncomputable def slices_Index_68 (a_0 : List Int) (x_1 : Int) : Option (Int) :=
  (slices_Index_68.l0 a_0 x_1 (((List.length a_0) : Nat) : Int) (0 : Int))
set_option maxRecDepth 100000 in
theorem slices_Index_68.walk {W : Nat → Prop} {h m : Heap} {A_0 : Option Addr} {n_0 c_0 : Nat} {a_0 : List Int} {x_1 : Int} (O : Hold W h m h m []) (ne_0 : n_0 = List.length a_0) (k_0 : List.length a_0 ≤ c_0) (r_0 : Rd 1 (eInt .i64) m A_0 a_0) {r : Int} (e : slices_Index_68 a_0 x_1 = some r) : Run Try.prog 68 #[Value.slice A_0 n_0 c_0, Value.int .i64 x_1] h (slices_Index_68.post W h m r) := by
  unfold slices_Index_68 at e
  subst ne_0
  refine f68.run ?_
  unfold f68.runT
  exact slices_Index_68.l0.walk (O.pick []).nm rfl k_0 r_0 e
def slices_Contains_35.post (W : Nat → Prop) (h0 m0 : Heap) (r : Bool) (v : Value) (h : Heap) : Prop := ∃ m , Hold W h0 m0 h m [] ∧ v = .bool r
noncomputable def slices_Contains_35 (a_0 : List Int) (x_1 : Int) : Option (Bool) :=
  Option.bind (slices_Index_68 a_0 x_1) fun y1 => some ((decide (y1 ≥ (0 : Int))))
set_option maxRecDepth 100000 in
theorem slices_Contains_35.walk {W : Nat → Prop} {h m : Heap} {A_0 : Option Addr} {n_0 c_0 : Nat} {a_0 : List Int} {x_1 : Int} (O : Hold W h m h m []) (ne_0 : n_0 = List.length a_0) (k_0 : List.length a_0 ≤ c_0) (r_0 : Rd 1 (eInt .i64) m A_0 a_0) {r : Bool} (e : slices_Contains_35 a_0 x_1 = some r) : Run Try.prog 35 #[Value.slice A_0 n_0 c_0, Value.int .i64 x_1] h (slices_Contains_35.post W h m r) := by
  unfold slices_Contains_35 at e
  subst ne_0
  refine f35.run ?_
  unfold f35.runT
  obtain ⟨y1, g2, e⟩ := bind_e e
  refine (slices_Index_68.walk (Hold.start (W := No) O.s) rfl k_0 r_0 g2).mono ?_
  rintro _ h3 ⟨m4, Q5, rfl⟩
  have O7 := Hold.nm (O.retC Q5 vfs_nil)
  refine ⟨_, rfl, ?_⟩
  cases e
  exact ⟨_, O7.pick [], rfl⟩
theorem slices_Contains_35.val {l : List Int} (v : Int) (hl : l.length ≤ 4611686018427387904) : slices_Contains_35 l v = some (decide (v ∈ l)) := contains_val (fun a p n i => slices_Index_68.l0_eq a p n i) (fun _ _ => rfl) (fun _ _ => rfl) v hl
def roadref2_NetErr.post (W : Nat → Prop) (h0 m0 : Heap) (r : Int) (v : Value) (h : Heap) : Prop := ∃ m , Hold W h0 m0 h m [] ∧ v = .int .i64 r
inductive roadref2_NetErr.l1_k.Pt where
  | l1 (y_1 : T_roadref2_Net) (a_52 : List (List (List Int))) (x_53 : Int) (x_54 : Int)
  | l2 (y_1 : T_roadref2_Net) (x_5 : Int) (a_52 : List (List (List Int))) (x_53 : Int) (x_54 : Int) (a_62 : List (List Int)) (x_63 : Int) (x_64 : Int)
  | j1 (y_1 : T_roadref2_Net) (x_5 : Int) (y_8 : (List Int)) (a_52 : List (List (List Int))) (x_53 : Int) (x_54 : Int) (a_62 : List (List Int)) (x_63 : Int) (x_64 : Int)
noncomputable def roadref2_NetErr.l1_k.body (go : (p : roadref2_NetErr.l1_k.Pt) → Option (Int)) : (p : roadref2_NetErr.l1_k.Pt) → Option (Int)
  | .l1 y_1 a_52 x_53 x_54 => if x_54 < x_53 then (Option.bind (gi a_52 x_54) fun y1 => if (((List.length y1) : Nat) : Int) > (40 : Int) then (some ((2 : Int))) else ((go (.l2 y_1 x_54 a_52 x_53 x_54 y1 (((List.length y1) : Nat) : Int) (0 : Int))))) else (some ((0 : Int)))
  | .l2 y_1 x_5 a_52 x_53 x_54 a_62 x_63 x_64 => if x_64 < x_63 then (Option.bind (gi a_62 x_64) fun y1 => Option.bind (gi y1 (0 : Int)) fun y14 => if y14 < (0 : Int) then (some ((1 : Int))) else (Option.bind (gi y1 (0 : Int)) fun y17 => if y17 ≥ (((List.length y_1.Lines) : Nat) : Int) then (some ((1 : Int))) else (Option.bind (gi y1 (2 : Int)) fun y25 => if y25 < (0 : Int) then (some ((1 : Int))) else (Option.bind (gi y1 (2 : Int)) fun y28 => if y28 > (20 : Int) then (some ((1 : Int))) else ((go (.j1 y_1 x_5 y1 a_52 x_53 x_54 a_62 x_63 x_64))))))) else ((go (.l1 y_1 a_52 x_53 (IntKind.wrap .i64 (x_54 + (1 : Int))))))
  | .j1 y_1 x_5 y_8 a_52 x_53 x_54 a_62 x_63 x_64 => Option.bind (gi y_8 (0 : Int)) fun y6 => Option.bind (gi y_1.Lines y6) fun y8 => Option.bind (slices_Contains_35 y8 x_5) fun y16 => if y16 = true then ((go (.l2 y_1 x_5 a_52 x_53 x_54 a_62 x_63 (IntKind.wrap .i64 (x_64 + (1 : Int)))))) else (some ((7 : Int)))
theorem roadref2_NetErr.l1_k.mono : MonoF (β := fun _ => (Int)) roadref2_NetErr.l1_k.body := fun f g hfg p => match p with
  | .l1 y_1 a_52 x_53 x_54 => LeO.ite (LeO.bind (LeO.refl _) fun y1 => LeO.ite (LeO.refl _) ((hfg _))) (LeO.refl _)
  | .l2 y_1 x_5 a_52 x_53 x_54 a_62 x_63 x_64 => LeO.ite (LeO.bind (LeO.refl _) fun y1 => LeO.bind (LeO.refl _) fun y14 => LeO.ite (LeO.refl _) (LeO.bind (LeO.refl _) fun y17 => LeO.ite (LeO.refl _) (LeO.bind (LeO.refl _) fun y25 => LeO.ite (LeO.refl _) (LeO.bind (LeO.refl _) fun y28 => LeO.ite (LeO.refl _) ((hfg _)))))) ((hfg _))
  | .j1 y_1 x_5 y_8 a_52 x_53 x_54 a_62 x_63 x_64 => LeO.bind (LeO.refl _) fun y6 => LeO.bind (LeO.refl _) fun y8 => LeO.bind (LeO.refl _) fun y16 => LeO.ite ((hfg _)) (LeO.refl _)
noncomputable def roadref2_NetErr.l1_k.go (p : roadref2_NetErr.l1_k.Pt) : Option (Int) := fixF (β := fun _ => (Int)) roadref2_NetErr.l1_k.body p
noncomputable def roadref2_NetErr.l1 (y_1 : T_roadref2_Net) (a_52 : List (List (List Int))) (x_53 : Int) (x_54 : Int) : Option (Int) := roadref2_NetErr.l1_k.go (.l1 y_1 a_52 x_53 x_54)
noncomputable def roadref2_NetErr.l2 (y_1 : T_roadref2_Net) (x_5 : Int) (a_52 : List (List (List Int))) (x_53 : Int) (x_54 : Int) (a_62 : List (List Int)) (x_63 : Int) (x_64 : Int) : Option (Int) := roadref2_NetErr.l1_k.go (.l2 y_1 x_5 a_52 x_53 x_54 a_62 x_63 x_64)
noncomputable def roadref2_NetErr.j1 (y_1 : T_roadref2_Net) (x_5 : Int) (y_8 : (List Int)) (a_52 : List (List (List Int))) (x_53 : Int) (x_54 : Int) (a_62 : List (List Int)) (x_63 : Int) (x_64 : Int) : Option (Int) := roadref2_NetErr.l1_k.go (.j1 y_1 x_5 y_8 a_52 x_53 x_54 a_62 x_63 x_64)
theorem roadref2_NetErr.l1_eq (y_1 : T_roadref2_Net) (a_52 : List (List (List Int))) (x_53 : Int) (x_54 : Int) : roadref2_NetErr.l1 y_1 a_52 x_53 x_54 = if x_54 < x_53 then (Option.bind (gi a_52 x_54) fun y1 => if (((List.length y1) : Nat) : Int) > (40 : Int) then (some ((2 : Int))) else ((roadref2_NetErr.l2 y_1 x_54 a_52 x_53 x_54 y1 (((List.length y1) : Nat) : Int) (0 : Int)))) else (some ((0 : Int))) := fixF_eq roadref2_NetErr.l1_k.mono _
theorem roadref2_NetErr.l2_eq (y_1 : T_roadref2_Net) (x_5 : Int) (a_52 : List (List (List Int))) (x_53 : Int) (x_54 : Int) (a_62 : List (List Int)) (x_63 : Int) (x_64 : Int) : roadref2_NetErr.l2 y_1 x_5 a_52 x_53 x_54 a_62 x_63 x_64 = if x_64 < x_63 then (Option.bind (gi a_62 x_64) fun y1 => Option.bind (gi y1 (0 : Int)) fun y14 => if y14 < (0 : Int) then (some ((1 : Int))) else (Option.bind (gi y1 (0 : Int)) fun y17 => if y17 ≥ (((List.length y_1.Lines) : Nat) : Int) then (some ((1 : Int))) else (Option.bind (gi y1 (2 : Int)) fun y25 => if y25 < (0 : Int) then (some ((1 : Int))) else (Option.bind (gi y1 (2 : Int)) fun y28 => if y28 > (20 : Int) then (some ((1 : Int))) else ((roadref2_NetErr.j1 y_1 x_5 y1 a_52 x_53 x_54 a_62 x_63 x_64)))))) else ((roadref2_NetErr.l1 y_1 a_52 x_53 (IntKind.wrap .i64 (x_54 + (1 : Int))))) := fixF_eq roadref2_NetErr.l1_k.mono _
theorem roadref2_NetErr.j1_eq (y_1 : T_roadref2_Net) (x_5 : Int) (y_8 : (List Int)) (a_52 : List (List (List Int))) (x_53 : Int) (x_54 : Int) (a_62 : List (List Int)) (x_63 : Int) (x_64 : Int) : roadref2_NetErr.j1 y_1 x_5 y_8 a_52 x_53 x_54 a_62 x_63 x_64 = Option.bind (gi y_8 (0 : Int)) fun y6 => Option.bind (gi y_1.Lines y6) fun y8 => Option.bind (slices_Contains_35 y8 x_5) fun y16 => if y16 = true then ((roadref2_NetErr.l2 y_1 x_5 a_52 x_53 x_54 a_62 x_63 (IntKind.wrap .i64 (x_64 + (1 : Int))))) else (some ((7 : Int))) := fixF_eq roadref2_NetErr.l1_k.mono _
def roadref2_NetErr.l1_k.I : (p : roadref2_NetErr.l1_k.Pt) → (Int) → Prop
  | .l1 y_1 a_52 x_53 x_54, r => ∀ (W : Nat → Prop) (h0 m0 h m : Heap) (bk_1 : Nat) (cs_1 : List Value) (A_52 : Option Addr) (n_52 c_52 : Nat) (O : Hold W h0 m0 h m [rV bk_1 87 cs_1]) (e_1 : T_roadref2_Net.E m y_1 cs_1) (ne_52 : n_52 = List.length a_52) (k_52 : List.length a_52 ≤ c_52) (r_52 : Rd 1 (eRow 3 (eArr 3 (fun n : Int => Value.int .i64 n) (0 : Int))) m A_52 a_52), f42.l1 (roadref2_NetErr.post W h0 m0 r) (⟨bk_1, 0, none⟩ : Addr) A_52 n_52 c_52 x_53 x_54 h
  | .l2 y_1 x_5 a_52 x_53 x_54 a_62 x_63 x_64, r => ∀ (W : Nat → Prop) (h0 m0 h m : Heap) (bk_1 : Nat) (cs_1 : List Value) (A_52 : Option Addr) (n_52 c_52 : Nat) (A_62 : Option Addr) (n_62 c_62 : Nat) (O : Hold W h0 m0 h m [rV bk_1 87 cs_1]) (e_1 : T_roadref2_Net.E m y_1 cs_1) (ne_52 : n_52 = List.length a_52) (k_52 : List.length a_52 ≤ c_52) (r_52 : Rd 1 (eRow 3 (eArr 3 (fun n : Int => Value.int .i64 n) (0 : Int))) m A_52 a_52) (ne_62 : n_62 = List.length a_62) (k_62 : List.length a_62 ≤ c_62) (r_62 : Rd 3 (eArr 3 (fun n : Int => Value.int .i64 n) (0 : Int)) m A_62 a_62), f42.l2 (roadref2_NetErr.post W h0 m0 r) (⟨bk_1, 0, none⟩ : Addr) x_5 A_52 n_52 c_52 x_53 x_54 A_62 n_62 c_62 x_63 x_64 h
  | .j1 y_1 x_5 y_8 a_52 x_53 x_54 a_62 x_63 x_64, r => ∀ (W : Nat → Prop) (h0 m0 h m : Heap) (bk_1 : Nat) (cs_1 : List Value) (bk_8 : Nat) (cs_8 : List Value) (A_52 : Option Addr) (n_52 c_52 : Nat) (A_62 : Option Addr) (n_62 c_62 : Nat) (O : Hold W h0 m0 h m [rV bk_1 87 cs_1, rV bk_8 94 cs_8]) (e_1 : T_roadref2_Net.E m y_1 cs_1) (e_8 : (eArr 3 (fun n : Int => Value.int .i64 n) (0 : Int)) m y_8 cs_8) (ne_52 : n_52 = List.length a_52) (k_52 : List.length a_52 ≤ c_52) (r_52 : Rd 1 (eRow 3 (eArr 3 (fun n : Int => Value.int .i64 n) (0 : Int))) m A_52 a_52) (ne_62 : n_62 = List.length a_62) (k_62 : List.length a_62 ≤ c_62) (r_62 : Rd 3 (eArr 3 (fun n : Int => Value.int .i64 n) (0 : Int)) m A_62 a_62), f42.j1 (roadref2_NetErr.post W h0 m0 r) (⟨bk_1, 0, none⟩ : Addr) x_5 (⟨bk_8, 0, none⟩ : Addr) A_52 n_52 c_52 x_53 x_54 A_62 n_62 c_62 x_63 x_64 h
set_option maxRecDepth 100000 in
theorem roadref2_NetErr.l1_k.step_l1 (go : (p : roadref2_NetErr.l1_k.Pt) → Option (Int)) (ih : ∀ p r, go p = some r → roadref2_NetErr.l1_k.I p r) (y_1 : T_roadref2_Net) (a_52 : List (List (List Int))) (x_53 : Int) (x_54 : Int) (r : Int) (e : roadref2_NetErr.l1_k.body go (.l1 y_1 a_52 x_53 x_54) = some r) : roadref2_NetErr.l1_k.I (.l1 y_1 a_52 x_53 x_54) r := by
  unfold roadref2_NetErr.l1_k.body at e
  intro W h0 m0 h m bk_1 cs_1 A_52 n_52 c_52 O e_1 ne_52 k_52 r_52
  subst ne_52
  refine f42.l1_in ?_
  unfold f42.l1T
  refine split_dec_e e (fun c9 e => ?_) (fun c9 e => ?_)
  · obtain ⟨y1, g2, e⟩ := bind_e e
    refine r_52.addr rfl g2 fun a3 cs4 ha5 hc6 he7 => ?_
    obtain ⟨Acs4_0, ccs4_0, rfl, kcs4_0, rcs4_0⟩ := id he7
    refine ⟨_, ld0 O.s hc6 rfl, _, _, _, rfl, ?_⟩
    refine split_dec_e e (fun c8 e => ?_) (fun c8 e => ?_)
    · cases e
      exact ⟨_, O.pick [], rfl⟩
    · exact (ih _ _ e) _ _ _ _ _ _ _ _ _ _ _ _ _ (O.pick [0]).nm e_1 rfl k_52 r_52 rfl kcs4_0 rcs4_0
  · cases e
    exact ⟨_, O.pick [], rfl⟩
set_option maxHeartbeats 4000000 in
set_option maxRecDepth 100000 in
theorem roadref2_NetErr.l1_k.step_l2 (go : (p : roadref2_NetErr.l1_k.Pt) → Option (Int)) (ih : ∀ p r, go p = some r → roadref2_NetErr.l1_k.I p r) (y_1 : T_roadref2_Net) (x_5 : Int) (a_52 : List (List (List Int))) (x_53 : Int) (x_54 : Int) (a_62 : List (List Int)) (x_63 : Int) (x_64 : Int) (r : Int) (e : roadref2_NetErr.l1_k.body go (.l2 y_1 x_5 a_52 x_53 x_54 a_62 x_63 x_64) = some r) : roadref2_NetErr.l1_k.I (.l2 y_1 x_5 a_52 x_53 x_54 a_62 x_63 x_64) r := by
  unfold roadref2_NetErr.l1_k.body at e
  intro W h0 m0 h m bk_1 cs_1 A_52 n_52 c_52 A_62 n_62 c_62 O e_1 ne_52 k_52 r_52 ne_62 k_62 r_62
  subst ne_52
  subst ne_62
  refine f42.l2_in ?_
  unfold f42.l2T
  refine split_dec_e e (fun c36 e => ?_) (fun c36 e => ?_)
  · obtain ⟨y1, g2, e⟩ := bind_e e
    refine r_62.addr rfl g2 fun a3 cs4 ha5 hc6 he7 => ?_
    have qcs4_0 := he7.1
    obtain rfl : cs4 = [(Value.int .i64 (List.getD y1 0 (0 : Int))), (Value.int .i64 (List.getD y1 1 (0 : Int))), (Value.int .i64 (List.getD y1 2 (0 : Int)))] := he7.2
    refine ⟨_, ldAn O.s hc6 rfl, ?_⟩
    refine O.new fun h8 x9 O10 => ?_
    refine ⟨_, rfl, rfl, ?_⟩
    refine O10.stA 1 rfl rfl (Flats.cons trivial (Flats.cons trivial (Flats.cons trivial Flats.nil))) fun h12 O13 => ?_
    obtain ⟨y14, g15, e⟩ := bind_e e
    refine ⟨gi_le g15, gi_ltn g15 qcs4_0, ?_⟩
    refine ⟨_, ldArr0 (n := 3) (f := (fun n : Int => Value.int .i64 n)) (d := (0 : Int)) (Sub.refl _) (O13.all 1 rfl) rfl qcs4_0 g15, _, rfl, ?_⟩
    refine split_dec_e e (fun c35 e => ?_) (fun c35 e => ?_)
    · have O16 := O13.nm
      cases e
      exact ⟨_, O16.pick [], rfl⟩
    · obtain ⟨y17, g18, e⟩ := bind_e e
      refine ⟨gi_le g18, gi_ltn g18 qcs4_0, ?_⟩
      refine ⟨_, ldArr0 (n := 3) (f := (fun n : Int => Value.int .i64 n)) (d := (0 : Int)) (Sub.refl _) (O13.all 1 rfl) rfl qcs4_0 g18, _, rfl, ?_⟩
      obtain ⟨A19, c20, q21, k22, r23⟩ := T_roadref2_Net.g0 e_1
      refine ⟨_, ld0 (Sub.refl _) (O13.all 0 rfl) q21, _, _, _, rfl, ?_⟩
      refine split_dec_e e (fun c34 e => ?_) (fun c34 e => ?_)
      · have O24 := O13.nm
        cases e
        exact ⟨_, O24.pick [], rfl⟩
      · obtain ⟨y25, g26, e⟩ := bind_e e
        refine ⟨gi_le g26, gi_ltn g26 qcs4_0, ?_⟩
        refine ⟨_, ldArr0 (n := 3) (f := (fun n : Int => Value.int .i64 n)) (d := (0 : Int)) (Sub.refl _) (O13.all 1 rfl) rfl qcs4_0 g26, _, rfl, ?_⟩
        refine split_dec_e e (fun c33 e => ?_) (fun c33 e => ?_)
        · have O27 := O13.nm
          cases e
          exact ⟨_, O27.pick [], rfl⟩
        · obtain ⟨y28, g29, e⟩ := bind_e e
          refine ⟨gi_le g29, gi_ltn g29 qcs4_0, ?_⟩
          refine ⟨_, ldArr0 (n := 3) (f := (fun n : Int => Value.int .i64 n)) (d := (0 : Int)) (Sub.refl _) (O13.all 1 rfl) rfl qcs4_0 g29, _, rfl, ?_⟩
          refine split_dec_e e (fun c32 e => ?_) (fun c32 e => ?_)
          · have O30 := O13.nm
            cases e
            exact ⟨_, O30.pick [], rfl⟩
          · have O31 := O13.nm
            exact (ih _ _ e) _ _ _ _ _ _ _ _ _ _ _ _ _ _ _ (O31.pick [0, 1]).nm e_1 ⟨qcs4_0, rfl⟩ rfl k_52 r_52 rfl k_62 r_62
  · exact (ih _ _ e) _ _ _ _ _ _ _ _ _ _ (O.pick [0]).nm e_1 rfl k_52 r_52
set_option maxRecDepth 100000 in
theorem roadref2_NetErr.l1_k.step_j1 (go : (p : roadref2_NetErr.l1_k.Pt) → Option (Int)) (ih : ∀ p r, go p = some r → roadref2_NetErr.l1_k.I p r) (y_1 : T_roadref2_Net) (x_5 : Int) (y_8 : (List Int)) (a_52 : List (List (List Int))) (x_53 : Int) (x_54 : Int) (a_62 : List (List Int)) (x_63 : Int) (x_64 : Int) (r : Int) (e : roadref2_NetErr.l1_k.body go (.j1 y_1 x_5 y_8 a_52 x_53 x_54 a_62 x_63 x_64) = some r) : roadref2_NetErr.l1_k.I (.j1 y_1 x_5 y_8 a_52 x_53 x_54 a_62 x_63 x_64) r := by
  unfold roadref2_NetErr.l1_k.body at e
  intro W h0 m0 h m bk_1 cs_1 bk_8 cs_8 A_52 n_52 c_52 A_62 n_62 c_62 O e_1 e_8 ne_52 k_52 r_52 ne_62 k_62 r_62
  have qe_8_0 := e_8.1
  obtain rfl : cs_8 = [(Value.int .i64 (List.getD y_8 0 (0 : Int))), (Value.int .i64 (List.getD y_8 1 (0 : Int))), (Value.int .i64 (List.getD y_8 2 (0 : Int)))] := e_8.2
  subst ne_52
  subst ne_62
  refine f42.j1_in ?_
  unfold f42.j1T
  obtain ⟨A1, c2, q3, k4, r5⟩ := T_roadref2_Net.g0 e_1
  refine ⟨_, ld0 (Sub.refl _) (O.all 0 rfl) q3, _, _, _, rfl, ?_⟩
  obtain ⟨y6, g7, e⟩ := bind_e e
  refine ⟨gi_le g7, gi_ltn g7 qe_8_0, ?_⟩
  refine ⟨_, ldArr0 (n := 3) (f := (fun n : Int => Value.int .i64 n)) (d := (0 : Int)) (Sub.refl _) (O.all 1 rfl) rfl qe_8_0 g7, _, rfl, ?_⟩
  obtain ⟨y8, g9, e⟩ := bind_e e
  refine r5.addr rfl g9 fun a10 cs11 ha12 hc13 he14 => ?_
  have qcs11_0 := he14.1
  obtain rfl : cs11 = [(Value.int .i64 (List.getD y8 0 (0 : Int))), (Value.int .i64 (List.getD y8 1 (0 : Int)))] := he14.2
  have r15 := arrRdC (n := 2) (f := (fun n : Int => Value.int .i64 n)) (d := (0 : Int)) (L := y8) (ad := (Addr.add a10 (Int.toNat y6 * 2))) (E := (eInt .i64)) hc13 qcs11_0 (fun _ => rfl)
  refine ⟨by decide, by decide, Int.le_refl _, ?_⟩
  obtain ⟨y16, g17, e⟩ := bind_e e
  refine (slices_Contains_35.walk (Hold.start (W := No) O.s) (show (2 : Nat) = List.length y8 from (qcs11_0).symm) (show List.length y8 ≤ 2 from Nat.le_of_eq qcs11_0) r15 g17).mono ?_
  rintro _ h18 ⟨m19, Q20, rfl⟩
  have O22 := Hold.nm (O.retC Q20 vfs_nil)
  refine ⟨_, rfl, ?_⟩
  refine split_not ?_
  refine split_any_e e (fun c23 e => ?_) (fun c23 e => ?_)
  · exact (ih _ _ e) _ _ _ _ _ _ _ _ _ _ _ _ _ (O22.pick [0]).nm e_1 rfl k_52 r_52 rfl k_62 r_62
  · cases e
    exact ⟨_, O22.pick [], rfl⟩
theorem roadref2_NetErr.l1_k.all {p : roadref2_NetErr.l1_k.Pt} {r : (Int)} (e : roadref2_NetErr.l1_k.go p = some r) : roadref2_NetErr.l1_k.I p r := fixF_ind (β := fun _ => (Int)) roadref2_NetErr.l1_k.mono (I := roadref2_NetErr.l1_k.I) (fun go ih p r e => match p with
  | .l1 y_1 a_52 x_53 x_54 => roadref2_NetErr.l1_k.step_l1 go ih y_1 a_52 x_53 x_54 r e
  | .l2 y_1 x_5 a_52 x_53 x_54 a_62 x_63 x_64 => roadref2_NetErr.l1_k.step_l2 go ih y_1 x_5 a_52 x_53 x_54 a_62 x_63 x_64 r e
  | .j1 y_1 x_5 y_8 a_52 x_53 x_54 a_62 x_63 x_64 => roadref2_NetErr.l1_k.step_j1 go ih y_1 x_5 y_8 a_52 x_53 x_54 a_62 x_63 x_64 r e
  ) e
theorem roadref2_NetErr.l1.walk {W : Nat → Prop} {h0 m0 h m : Heap} {bk_1 : Nat} {cs_1 : List Value} {A_52 : Option Addr} {n_52 c_52 : Nat} {y_1 : T_roadref2_Net} {a_52 : List (List (List Int))} {x_53 : Int} {x_54 : Int} (O : Hold W h0 m0 h m [rV bk_1 87 cs_1]) (e_1 : T_roadref2_Net.E m y_1 cs_1) (ne_52 : n_52 = List.length a_52) (k_52 : List.length a_52 ≤ c_52) (r_52 : Rd 1 (eRow 3 (eArr 3 (fun n : Int => Value.int .i64 n) (0 : Int))) m A_52 a_52) {r : Int} (e : roadref2_NetErr.l1 y_1 a_52 x_53 x_54 = some r) : f42.l1 (roadref2_NetErr.post W h0 m0 r) (⟨bk_1, 0, none⟩ : Addr) A_52 n_52 c_52 x_53 x_54 h := roadref2_NetErr.l1_k.all (p := .l1 y_1 a_52 x_53 x_54) e W h0 m0 h m bk_1 cs_1 A_52 n_52 c_52 O e_1 ne_52 k_52 r_52
inductive roadref2_NetErr.l0_k.Pt where
  | l0 (y_1 : T_roadref2_Net) (a_20 : List (List Int)) (x_21 : Int) (x_22 : Int)
noncomputable def roadref2_NetErr.l0_k.body (go : (p : roadref2_NetErr.l0_k.Pt) → Option (Int)) : (p : roadref2_NetErr.l0_k.Pt) → Option (Int)
  | .l0 y_1 a_20 x_21 x_22 => if x_22 < x_21 then (Option.bind (gi a_20 x_22) fun y1 => Option.bind (gi y1 (0 : Int)) fun y14 => Option.bind (gi y1 (1 : Int)) fun y16 => if (if y16 < y14 then y16 else y14) < (0 : Int) then (some ((1 : Int))) else (Option.bind (gi y1 (0 : Int)) fun y19 => Option.bind (gi y1 (1 : Int)) fun y21 => if (if y21 > y19 then y21 else y19) ≥ (((List.length y_1.Who) : Nat) : Int) then (some ((1 : Int))) else (Option.bind (gi y1 (0 : Int)) fun y29 => Option.bind (gi y1 (1 : Int)) fun y31 => if y29 = y31 then (some ((1 : Int))) else ((go (.l0 y_1 a_20 x_21 (IntKind.wrap .i64 (x_22 + (1 : Int))))))))) else ((roadref2_NetErr.l1 y_1 y_1.Who (((List.length y_1.Who) : Nat) : Int) (0 : Int)))
theorem roadref2_NetErr.l0_k.mono : MonoF (β := fun _ => (Int)) roadref2_NetErr.l0_k.body := fun f g hfg p => match p with
  | .l0 y_1 a_20 x_21 x_22 => LeO.ite (LeO.bind (LeO.refl _) fun y1 => LeO.bind (LeO.refl _) fun y14 => LeO.bind (LeO.refl _) fun y16 => LeO.ite (LeO.refl _) (LeO.bind (LeO.refl _) fun y19 => LeO.bind (LeO.refl _) fun y21 => LeO.ite (LeO.refl _) (LeO.bind (LeO.refl _) fun y29 => LeO.bind (LeO.refl _) fun y31 => LeO.ite (LeO.refl _) ((hfg _))))) ((LeO.refl _))
noncomputable def roadref2_NetErr.l0_k.go (p : roadref2_NetErr.l0_k.Pt) : Option (Int) := fixF (β := fun _ => (Int)) roadref2_NetErr.l0_k.body p
noncomputable def roadref2_NetErr.l0 (y_1 : T_roadref2_Net) (a_20 : List (List Int)) (x_21 : Int) (x_22 : Int) : Option (Int) := roadref2_NetErr.l0_k.go (.l0 y_1 a_20 x_21 x_22)
theorem roadref2_NetErr.l0_eq (y_1 : T_roadref2_Net) (a_20 : List (List Int)) (x_21 : Int) (x_22 : Int) : roadref2_NetErr.l0 y_1 a_20 x_21 x_22 = if x_22 < x_21 then (Option.bind (gi a_20 x_22) fun y1 => Option.bind (gi y1 (0 : Int)) fun y14 => Option.bind (gi y1 (1 : Int)) fun y16 => if (if y16 < y14 then y16 else y14) < (0 : Int) then (some ((1 : Int))) else (Option.bind (gi y1 (0 : Int)) fun y19 => Option.bind (gi y1 (1 : Int)) fun y21 => if (if y21 > y19 then y21 else y19) ≥ (((List.length y_1.Who) : Nat) : Int) then (some ((1 : Int))) else (Option.bind (gi y1 (0 : Int)) fun y29 => Option.bind (gi y1 (1 : Int)) fun y31 => if y29 = y31 then (some ((1 : Int))) else ((roadref2_NetErr.l0 y_1 a_20 x_21 (IntKind.wrap .i64 (x_22 + (1 : Int)))))))) else ((roadref2_NetErr.l1 y_1 y_1.Who (((List.length y_1.Who) : Nat) : Int) (0 : Int))) := fixF_eq roadref2_NetErr.l0_k.mono _
def roadref2_NetErr.l0_k.I : (p : roadref2_NetErr.l0_k.Pt) → (Int) → Prop
  | .l0 y_1 a_20 x_21 x_22, r => ∀ (W : Nat → Prop) (h0 m0 h m : Heap) (bk_1 : Nat) (cs_1 : List Value) (A_20 : Option Addr) (n_20 c_20 : Nat) (O : Hold W h0 m0 h m [rV bk_1 87 cs_1]) (e_1 : T_roadref2_Net.E m y_1 cs_1) (ne_20 : n_20 = List.length a_20) (k_20 : List.length a_20 ≤ c_20) (r_20 : Rd 2 (eArr 2 (fun n : Int => Value.int .i64 n) (0 : Int)) m A_20 a_20), f42.l0 (roadref2_NetErr.post W h0 m0 r) (⟨bk_1, 0, none⟩ : Addr) A_20 n_20 c_20 x_21 x_22 h
set_option maxHeartbeats 4000000 in
set_option maxRecDepth 100000 in
theorem roadref2_NetErr.l0_k.step_l0 (go : (p : roadref2_NetErr.l0_k.Pt) → Option (Int)) (ih : ∀ p r, go p = some r → roadref2_NetErr.l0_k.I p r) (y_1 : T_roadref2_Net) (a_20 : List (List Int)) (x_21 : Int) (x_22 : Int) (r : Int) (e : roadref2_NetErr.l0_k.body go (.l0 y_1 a_20 x_21 x_22) = some r) : roadref2_NetErr.l0_k.I (.l0 y_1 a_20 x_21 x_22) r := by
  unfold roadref2_NetErr.l0_k.body at e
  intro W h0 m0 h m bk_1 cs_1 A_20 n_20 c_20 O e_1 ne_20 k_20 r_20
  subst ne_20
  refine f42.l0_in ?_
  unfold f42.l0T
  refine split_dec_e e (fun c43 e => ?_) (fun c43 e => ?_)
  · obtain ⟨y1, g2, e⟩ := bind_e e
    refine r_20.addr rfl g2 fun a3 cs4 ha5 hc6 he7 => ?_
    have qcs4_0 := he7.1
    obtain rfl : cs4 = [(Value.int .i64 (List.getD y1 0 (0 : Int))), (Value.int .i64 (List.getD y1 1 (0 : Int)))] := he7.2
    refine ⟨_, ldAn O.s hc6 rfl, ?_⟩
    refine O.new fun h8 x9 O10 => ?_
    refine ⟨_, rfl, rfl, ?_⟩
    refine O10.stA 1 rfl rfl (Flats.cons trivial (Flats.cons trivial Flats.nil)) fun h12 O13 => ?_
    obtain ⟨y14, g15, e⟩ := bind_e e
    refine ⟨gi_le g15, gi_ltn g15 qcs4_0, ?_⟩
    refine ⟨_, ldArr0 (n := 2) (f := (fun n : Int => Value.int .i64 n)) (d := (0 : Int)) (Sub.refl _) (O13.all 1 rfl) rfl qcs4_0 g15, _, rfl, ?_⟩
    obtain ⟨y16, g17, e⟩ := bind_e e
    refine ⟨gi_le g17, gi_ltn g17 qcs4_0, ?_⟩
    refine ⟨_, ldArr0 (n := 2) (f := (fun n : Int => Value.int .i64 n)) (d := (0 : Int)) (Sub.refl _) (O13.all 1 rfl) rfl qcs4_0 g17, _, rfl, ?_⟩
    refine split_dec_e e (fun c37 e => ?_) (fun c37 e => ?_)
    · have O18 := O13.nm
      cases e
      exact ⟨_, O18.pick [], rfl⟩
    · obtain ⟨y19, g20, e⟩ := bind_e e
      refine ⟨gi_le g20, gi_ltn g20 qcs4_0, ?_⟩
      refine ⟨_, ldArr0 (n := 2) (f := (fun n : Int => Value.int .i64 n)) (d := (0 : Int)) (Sub.refl _) (O13.all 1 rfl) rfl qcs4_0 g20, _, rfl, ?_⟩
      obtain ⟨y21, g22, e⟩ := bind_e e
      refine ⟨gi_le g22, gi_ltn g22 qcs4_0, ?_⟩
      refine ⟨_, ldArr0 (n := 2) (f := (fun n : Int => Value.int .i64 n)) (d := (0 : Int)) (Sub.refl _) (O13.all 1 rfl) rfl qcs4_0 g22, _, rfl, ?_⟩
      obtain ⟨A23, c24, q25, k26, r27⟩ := T_roadref2_Net.g1 e_1
      refine ⟨_, ldk (k := 1) (Sub.refl _) (O13.all 0 rfl) q25, _, _, _, rfl, ?_⟩
      refine split_dec_e e (fun c36 e => ?_) (fun c36 e => ?_)
      · have O28 := O13.nm
        cases e
        exact ⟨_, O28.pick [], rfl⟩
      · obtain ⟨y29, g30, e⟩ := bind_e e
        refine ⟨gi_le g30, gi_ltn g30 qcs4_0, ?_⟩
        refine ⟨_, ldArr0 (n := 2) (f := (fun n : Int => Value.int .i64 n)) (d := (0 : Int)) (Sub.refl _) (O13.all 1 rfl) rfl qcs4_0 g30, _, rfl, ?_⟩
        obtain ⟨y31, g32, e⟩ := bind_e e
        refine ⟨gi_le g32, gi_ltn g32 qcs4_0, ?_⟩
        refine ⟨_, ldArr0 (n := 2) (f := (fun n : Int => Value.int .i64 n)) (d := (0 : Int)) (Sub.refl _) (O13.all 1 rfl) rfl qcs4_0 g32, _, rfl, ?_⟩
        refine split_eq_e e (fun c35 e => ?_) (fun c35 e => ?_)
        · have O33 := O13.nm
          cases e
          exact ⟨_, O33.pick [], rfl⟩
        · have O34 := O13.nm
          exact (ih _ _ e) _ _ _ _ _ _ _ _ _ _ (O34.pick [0]).nm e_1 rfl k_20 r_20
  · obtain ⟨A38, c39, q40, k41, r42⟩ := T_roadref2_Net.g1 e_1
    refine ⟨_, ldk (k := 1) (Sub.refl _) (O.all 0 rfl) q40, _, _, _, rfl, ?_⟩
    exact roadref2_NetErr.l1.walk (O.pick [0]).nm e_1 rfl k41 r42 e
theorem roadref2_NetErr.l0_k.all {p : roadref2_NetErr.l0_k.Pt} {r : (Int)} (e : roadref2_NetErr.l0_k.go p = some r) : roadref2_NetErr.l0_k.I p r := fixF_ind (β := fun _ => (Int)) roadref2_NetErr.l0_k.mono (I := roadref2_NetErr.l0_k.I) (fun go ih p r e => match p with
  | .l0 y_1 a_20 x_21 x_22 => roadref2_NetErr.l0_k.step_l0 go ih y_1 a_20 x_21 x_22 r e
  ) e
theorem roadref2_NetErr.l0.walk {W : Nat → Prop} {h0 m0 h m : Heap} {bk_1 : Nat} {cs_1 : List Value} {A_20 : Option Addr} {n_20 c_20 : Nat} {y_1 : T_roadref2_Net} {a_20 : List (List Int)} {x_21 : Int} {x_22 : Int} (O : Hold W h0 m0 h m [rV bk_1 87 cs_1]) (e_1 : T_roadref2_Net.E m y_1 cs_1) (ne_20 : n_20 = List.length a_20) (k_20 : List.length a_20 ≤ c_20) (r_20 : Rd 2 (eArr 2 (fun n : Int => Value.int .i64 n) (0 : Int)) m A_20 a_20) {r : Int} (e : roadref2_NetErr.l0 y_1 a_20 x_21 x_22 = some r) : f42.l0 (roadref2_NetErr.post W h0 m0 r) (⟨bk_1, 0, none⟩ : Addr) A_20 n_20 c_20 x_21 x_22 h := roadref2_NetErr.l0_k.all (p := .l0 y_1 a_20 x_21 x_22) e W h0 m0 h m bk_1 cs_1 A_20 n_20 c_20 O e_1 ne_20 k_20 r_20
noncomputable def roadref2_NetErr.j0 (y_1 : T_roadref2_Net) : Option (Int) :=
  (roadref2_NetErr.l0 y_1 y_1.Lines (((List.length y_1.Lines) : Nat) : Int) (0 : Int))
set_option maxRecDepth 100000 in
theorem roadref2_NetErr.j0.walk {W : Nat → Prop} {h0 m0 h m : Heap} {bk_1 : Nat} {cs_1 : List Value} {y_1 : T_roadref2_Net} (O : Hold W h0 m0 h m [rV bk_1 87 cs_1]) (e_1 : T_roadref2_Net.E m y_1 cs_1) {r : Int} (e : roadref2_NetErr.j0 y_1 = some r) : f42.j0 (roadref2_NetErr.post W h0 m0 r) (⟨bk_1, 0, none⟩ : Addr) h := by
  unfold roadref2_NetErr.j0 at e
  refine f42.j0_in ?_
  unfold f42.j0T
  obtain ⟨A1, c2, q3, k4, r5⟩ := T_roadref2_Net.g0 e_1
  refine ⟨_, ld0 (Sub.refl _) (O.all 0 rfl) q3, _, _, _, rfl, ?_⟩
  exact roadref2_NetErr.l0.walk (O.pick [0]).nm e_1 rfl k4 r5 e
noncomputable def roadref2_NetErr (y_0 : T_roadref2_Net) : Option (Int) :=
  if (((List.length y_0.Who) : Nat) : Int) > (8 : Int) then (some ((2 : Int))) else (if (((List.length y_0.Lines) : Nat) : Int) > (12 : Int) then (some ((2 : Int))) else ((roadref2_NetErr.j0 y_0)))
set_option maxRecDepth 100000 in
theorem roadref2_NetErr.walk {W : Nat → Prop} {h m : Heap} {cs_0 : List Value} {y_0 : T_roadref2_Net} (O : Hold W h m h m []) (e_0 : T_roadref2_Net.E m y_0 cs_0) {r : Int} (e : roadref2_NetErr y_0 = some r) : Run Try.prog 42 #[Value.agg cs_0.toArray] h (roadref2_NetErr.post W h m r) := by
  unfold roadref2_NetErr at e
  refine f42.run ?_
  unfold f42.runT
  refine O.new fun h1 x2 O3 => ?_
  obtain ⟨A5, c6, q7, k8, r9⟩ := T_roadref2_Net.g1 e_0
  refine ⟨_, ldk (k := 1) (Sub.refl _) (O3.all 0 rfl) q7, _, _, _, rfl, ?_⟩
  refine split_dec_e e (fun c19 e => ?_) (fun c19 e => ?_)
  · have O10 := O3.nm
    cases e
    exact ⟨_, O10.pick [], rfl⟩
  · obtain ⟨A11, c12, q13, k14, r15⟩ := T_roadref2_Net.g0 e_0
    refine ⟨_, ld0 (Sub.refl _) (O3.all 0 rfl) q13, _, _, _, rfl, ?_⟩
    refine split_dec_e e (fun c18 e => ?_) (fun c18 e => ?_)
    · have O16 := O3.nm
      cases e
      exact ⟨_, O16.pick [], rfl⟩
    · have O17 := O3.nm
      exact roadref2_NetErr.j0.walk (O17.pick [0]).nm e_0 e
def slices_IndexFunc_74.post (W : Nat → Prop) (h0 m0 : Heap) (r : Int) (v : Value) (h : Heap) : Prop := ∃ m , Hold W h0 m0 h m [] ∧ v = .int .i64 r
inductive slices_IndexFunc_74.l0_k.Pt where
  | l0 (a_0 : List Int) (p_1 : Int → Option Bool) (x_7 : Int) (x_8 : Int)
noncomputable def slices_IndexFunc_74.l0_k.body (go : (p : slices_IndexFunc_74.l0_k.Pt) → Option (Int)) : (p : slices_IndexFunc_74.l0_k.Pt) → Option (Int)
  | .l0 a_0 p_1 x_7 x_8 => if x_8 < x_7 then (Option.bind (gi a_0 x_8) fun y1 => Option.bind (p_1 y1) fun y8 => if y8 = true then (some (x_8)) else ((go (.l0 a_0 p_1 x_7 (IntKind.wrap .i64 (x_8 + (1 : Int))))))) else (some ((-1 : Int)))
theorem slices_IndexFunc_74.l0_k.mono : MonoF (β := fun _ => (Int)) slices_IndexFunc_74.l0_k.body := fun f g hfg p => match p with
  | .l0 a_0 p_1 x_7 x_8 => LeO.ite (LeO.bind (LeO.refl _) fun y1 => LeO.bind (LeO.refl _) fun y8 => LeO.ite (LeO.refl _) ((hfg _))) (LeO.refl _)
noncomputable def slices_IndexFunc_74.l0_k.go (p : slices_IndexFunc_74.l0_k.Pt) : Option (Int) := fixF (β := fun _ => (Int)) slices_IndexFunc_74.l0_k.body p
noncomputable def slices_IndexFunc_74.l0 (a_0 : List Int) (p_1 : Int → Option Bool) (x_7 : Int) (x_8 : Int) : Option (Int) := slices_IndexFunc_74.l0_k.go (.l0 a_0 p_1 x_7 x_8)
theorem slices_IndexFunc_74.l0_eq (a_0 : List Int) (p_1 : Int → Option Bool) (x_7 : Int) (x_8 : Int) : slices_IndexFunc_74.l0 a_0 p_1 x_7 x_8 = if x_8 < x_7 then (Option.bind (gi a_0 x_8) fun y1 => Option.bind (p_1 y1) fun y8 => if y8 = true then (some (x_8)) else ((slices_IndexFunc_74.l0 a_0 p_1 x_7 (IntKind.wrap .i64 (x_8 + (1 : Int)))))) else (some ((-1 : Int))) := fixF_eq slices_IndexFunc_74.l0_k.mono _
def slices_IndexFunc_74.l0_k.I : (p : slices_IndexFunc_74.l0_k.Pt) → (Int) → Prop
  | .l0 a_0 p_1 x_7 x_8, r => ∀ (W : Nat → Prop) (h0 m0 h m : Heap) (A_0 : Option Addr) (n_0 c_0 : Nat) (fv_1 : Value) (O : Hold W h0 m0 h m []) (ne_0 : n_0 = List.length a_0) (k_0 : List.length a_0 ≤ c_0) (r_0 : Rd 1 (eInt .i64) m A_0 a_0) (f_1 : ∀ h' m', Sub m0 m' → Sub m' h' → ∀ (x0 : Int) (r : Bool), p_1 x0 = some r → CallF Try.prog fv_1 [.int .i64 x0] h' (fun v h'' => v = .bool r ∧ Ext h' h'')), f74.l0 (slices_IndexFunc_74.post W h0 m0 r) A_0 n_0 c_0 fv_1 x_7 x_8 h
set_option maxRecDepth 100000 in
theorem slices_IndexFunc_74.l0_k.step_l0 (go : (p : slices_IndexFunc_74.l0_k.Pt) → Option (Int)) (ih : ∀ p r, go p = some r → slices_IndexFunc_74.l0_k.I p r) (a_0 : List Int) (p_1 : Int → Option Bool) (x_7 : Int) (x_8 : Int) (r : Int) (e : slices_IndexFunc_74.l0_k.body go (.l0 a_0 p_1 x_7 x_8) = some r) : slices_IndexFunc_74.l0_k.I (.l0 a_0 p_1 x_7 x_8) r := by
  unfold slices_IndexFunc_74.l0_k.body at e
  intro W h0 m0 h m A_0 n_0 c_0 fv_1 O ne_0 k_0 r_0 f_1
  subst ne_0
  refine f74.l0_in ?_
  unfold f74.l0T
  refine split_dec_e e (fun c14 e => ?_) (fun c14 e => ?_)
  · obtain ⟨y1, g2, e⟩ := bind_e e
    refine r_0.addr rfl g2 fun a3 cs4 ha5 hc6 he7 => ?_
    obtain rfl : cs4 = [(Value.int .i64 y1)] := he7
    refine ⟨_, ld0 O.s hc6 rfl, _, rfl, ?_⟩
    obtain ⟨y8, g9, e⟩ := bind_e e
    refine CallF.mono (f_1 _ _ O.up O.s _ _ g9) ?_
    rintro _ h10 ⟨rfl, x11⟩
    have O12 := O.ext x11
    refine ⟨_, rfl, ?_⟩
    refine split_any_e e (fun c13 e => ?_) (fun c13 e => ?_)
    · cases e
      exact ⟨_, O12.pick [], rfl⟩
    · exact (ih _ _ e) _ _ _ _ _ _ _ _ _ (O12.pick []).nm rfl k_0 r_0 f_1
  · cases e
    exact ⟨_, O.pick [], rfl⟩
theorem slices_IndexFunc_74.l0_k.all {p : slices_IndexFunc_74.l0_k.Pt} {r : (Int)} (e : slices_IndexFunc_74.l0_k.go p = some r) : slices_IndexFunc_74.l0_k.I p r := fixF_ind (β := fun _ => (Int)) slices_IndexFunc_74.l0_k.mono (I := slices_IndexFunc_74.l0_k.I) (fun go ih p r e => match p with
  | .l0 a_0 p_1 x_7 x_8 => slices_IndexFunc_74.l0_k.step_l0 go ih a_0 p_1 x_7 x_8 r e
  ) e
theorem slices_IndexFunc_74.l0.walk {W : Nat → Prop} {h0 m0 h m : Heap} {A_0 : Option Addr} {n_0 c_0 : Nat} {fv_1 : Value} {a_0 : List Int} {p_1 : Int → Option Bool} {x_7 : Int} {x_8 : Int} (O : Hold W h0 m0 h m []) (ne_0 : n_0 = List.length a_0) (k_0 : List.length a_0 ≤ c_0) (r_0 : Rd 1 (eInt .i64) m A_0 a_0) (f_1 : ∀ h' m', Sub m0 m' → Sub m' h' → ∀ (x0 : Int) (r : Bool), p_1 x0 = some r → CallF Try.prog fv_1 [.int .i64 x0] h' (fun v h'' => v = .bool r ∧ Ext h' h'')) {r : Int} (e : slices_IndexFunc_74.l0 a_0 p_1 x_7 x_8 = some r) : f74.l0 (slices_IndexFunc_74.post W h0 m0 r) A_0 n_0 c_0 fv_1 x_7 x_8 h := slices_IndexFunc_74.l0_k.all (p := .l0 a_0 p_1 x_7 x_8) e W h0 m0 h m A_0 n_0 c_0 fv_1 O ne_0 k_0 r_0 f_1
noncomputable def slices_IndexFunc_74 (a_0 : List Int) (p_1 : Int → Option Bool) : Option (Int) :=
  (slices_IndexFunc_74.l0 a_0 p_1 (((List.length a_0) : Nat) : Int) (0 : Int))
set_option maxRecDepth 100000 in
theorem slices_IndexFunc_74.walk {W : Nat → Prop} {h m : Heap} {A_0 : Option Addr} {n_0 c_0 : Nat} {fv_1 : Value} {a_0 : List Int} {p_1 : Int → Option Bool} (O : Hold W h m h m []) (ne_0 : n_0 = List.length a_0) (k_0 : List.length a_0 ≤ c_0) (r_0 : Rd 1 (eInt .i64) m A_0 a_0) (f_1 : ∀ h' m', Sub m m' → Sub m' h' → ∀ (x0 : Int) (r : Bool), p_1 x0 = some r → CallF Try.prog fv_1 [.int .i64 x0] h' (fun v h'' => v = .bool r ∧ Ext h' h'')) {r : Int} (e : slices_IndexFunc_74 a_0 p_1 = some r) : Run Try.prog 74 #[Value.slice A_0 n_0 c_0, fv_1] h (slices_IndexFunc_74.post W h m r) := by
  unfold slices_IndexFunc_74 at e
  subst ne_0
  refine f74.run ?_
  unfold f74.runT
  exact slices_IndexFunc_74.l0.walk (O.pick []).nm rfl k_0 r_0 f_1 e
def roadref2_indices.post (W : Nat → Prop) (h0 m0 : Heap) (r : (List Int)) (v : Value) (h : Heap) : Prop := ∃ m A0 n0 c0, Hold W h0 m0 h m [rR (aE (tell_int .i64)) A0 c0 r] ∧ v = .slice A0 n0 c0 ∧ n0 = List.length r
inductive roadref2_indices.l0_k.Pt where
  | l0 (a_3 : List Int) (x_5 : Int) (x_6 : Int)
noncomputable def roadref2_indices.l0_k.body (go : (p : roadref2_indices.l0_k.Pt) → Option ((List Int))) : (p : roadref2_indices.l0_k.Pt) → Option ((List Int))
  | .l0 a_3 x_5 x_6 => if x_6 < x_5 then (Option.bind (ap 8 a_3 ([x_6] : List Int)) fun l5 => (go (.l0 l5 x_5 (IntKind.wrap .i64 (x_6 + (1 : Int)))))) else (some (a_3))
theorem roadref2_indices.l0_k.mono : MonoF (β := fun _ => ((List Int))) roadref2_indices.l0_k.body := fun f g hfg p => match p with
  | .l0 a_3 x_5 x_6 => LeO.ite (LeO.bind (LeO.refl _) fun l5 => (hfg _)) (LeO.refl _)
noncomputable def roadref2_indices.l0_k.go (p : roadref2_indices.l0_k.Pt) : Option ((List Int)) := fixF (β := fun _ => ((List Int))) roadref2_indices.l0_k.body p
noncomputable def roadref2_indices.l0 (a_3 : List Int) (x_5 : Int) (x_6 : Int) : Option ((List Int)) := roadref2_indices.l0_k.go (.l0 a_3 x_5 x_6)
theorem roadref2_indices.l0_eq (a_3 : List Int) (x_5 : Int) (x_6 : Int) : roadref2_indices.l0 a_3 x_5 x_6 = if x_6 < x_5 then (Option.bind (ap 8 a_3 ([x_6] : List Int)) fun l5 => (roadref2_indices.l0 l5 x_5 (IntKind.wrap .i64 (x_6 + (1 : Int))))) else (some (a_3)) := fixF_eq roadref2_indices.l0_k.mono _
def roadref2_indices.l0_k.I : (p : roadref2_indices.l0_k.Pt) → ((List Int)) → Prop
  | .l0 a_3 x_5 x_6, r => ∀ (W : Nat → Prop) (h0 m0 h m : Heap) (A_3 : Option Addr) (n_3 c_3 : Nat) (O : Hold W h0 m0 h m [rR (aE (tell_int .i64)) A_3 c_3 a_3]) (ne_3 : n_3 = List.length a_3), f75.l0 (roadref2_indices.post W h0 m0 r) A_3 n_3 c_3 x_5 x_6 h
set_option maxRecDepth 100000 in
theorem roadref2_indices.l0_k.step_l0 (go : (p : roadref2_indices.l0_k.Pt) → Option ((List Int))) (ih : ∀ p r, go p = some r → roadref2_indices.l0_k.I p r) (a_3 : List Int) (x_5 : Int) (x_6 : Int) (r : (List Int)) (e : roadref2_indices.l0_k.body go (.l0 a_3 x_5 x_6) = some r) : roadref2_indices.l0_k.I (.l0 a_3 x_5 x_6) r := by
  unfold roadref2_indices.l0_k.body at e
  intro W h0 m0 h m A_3 n_3 c_3 O ne_3
  subst ne_3
  refine f75.l0_in ?_
  unfold f75.l0T
  refine split_dec_e e (fun c15 e => ?_) (fun c15 e => ?_)
  · refine O.new fun h1 x2 O3 => ?_
    obtain ⟨l5, g6, e⟩ := bind_e e
    have O13 := O3.rowE (l := ([x_6] : List Int)) 1 rfl (tell_int .i64) (show CsE _ _ _ _ _ from (CsE.cons (c1 := [(Value.int .i64 x_6)]) rfl rfl CsE.nil)) rfl
    refine O13.app 0 rfl rfl rfl ((O13.os 1 rfl).srcE rfl) (by decide) g6 fun A7 c8 h9 O10 => ?_
    refine ⟨_, _, _, rfl, ?_⟩
    have O14 := O10.nm
    exact (ih _ _ e) _ _ _ _ _ _ _ _ (O14.pick [0]).nm rfl
  · cases e
    exact ⟨_, _, _, _, O.pick [0], rfl, rfl⟩
theorem roadref2_indices.l0_k.all {p : roadref2_indices.l0_k.Pt} {r : ((List Int))} (e : roadref2_indices.l0_k.go p = some r) : roadref2_indices.l0_k.I p r := fixF_ind (β := fun _ => ((List Int))) roadref2_indices.l0_k.mono (I := roadref2_indices.l0_k.I) (fun go ih p r e => match p with
  | .l0 a_3 x_5 x_6 => roadref2_indices.l0_k.step_l0 go ih a_3 x_5 x_6 r e
  ) e
theorem roadref2_indices.l0.walk {W : Nat → Prop} {h0 m0 h m : Heap} {A_3 : Option Addr} {n_3 c_3 : Nat} {a_3 : List Int} {x_5 : Int} {x_6 : Int} (O : Hold W h0 m0 h m [rR (aE (tell_int .i64)) A_3 c_3 a_3]) (ne_3 : n_3 = List.length a_3) {r : (List Int)} (e : roadref2_indices.l0 a_3 x_5 x_6 = some r) : f75.l0 (roadref2_indices.post W h0 m0 r) A_3 n_3 c_3 x_5 x_6 h := roadref2_indices.l0_k.all (p := .l0 a_3 x_5 x_6) e W h0 m0 h m A_3 n_3 c_3 O ne_3
noncomputable def roadref2_indices (x_0 : Int) : Option ((List Int)) :=
  (roadref2_indices.l0 ([] : List Int) x_0 (0 : Int))
set_option maxRecDepth 100000 in
theorem roadref2_indices.walk {W : Nat → Prop} {h m : Heap} {x_0 : Int} (O : Hold W h m h m []) {r : (List Int)} (e : roadref2_indices x_0 = some r) : Run Try.prog 75 #[Value.int .i64 x_0] h (roadref2_indices.post W h m r) := by
  unfold roadref2_indices at e
  refine f75.run ?_
  unfold f75.runT
  have O1 := O.nil (aE (tell_int .i64)) none
  have O3 := O1.nm
  exact roadref2_indices.l0.walk (O3.pick [0]).nm rfl e
def slices_Equal_46.post (W : Nat → Prop) (h0 m0 : Heap) (r : Bool) (v : Value) (h : Heap) : Prop := ∃ m , Hold W h0 m0 h m [] ∧ v = .bool r
inductive slices_Equal_46.l0_k.Pt where
  | l0 (a_0 : List Int) (a_1 : List Int) (x_12 : Int) (x_13 : Int)
noncomputable def slices_Equal_46.l0_k.body (go : (p : slices_Equal_46.l0_k.Pt) → Option (Bool)) : (p : slices_Equal_46.l0_k.Pt) → Option (Bool)
  | .l0 a_0 a_1 x_12 x_13 => if x_13 < x_12 then (Option.bind (gi a_0 x_13) fun y1 => Option.bind (gi a_1 x_13) fun y8 => if y1 = y8 then ((go (.l0 a_0 a_1 x_12 (IntKind.wrap .i64 (x_13 + (1 : Int)))))) else (some (false))) else (some (true))
theorem slices_Equal_46.l0_k.mono : MonoF (β := fun _ => (Bool)) slices_Equal_46.l0_k.body := fun f g hfg p => match p with
  | .l0 a_0 a_1 x_12 x_13 => LeO.ite (LeO.bind (LeO.refl _) fun y1 => LeO.bind (LeO.refl _) fun y8 => LeO.ite ((hfg _)) (LeO.refl _)) (LeO.refl _)
noncomputable def slices_Equal_46.l0_k.go (p : slices_Equal_46.l0_k.Pt) : Option (Bool) := fixF (β := fun _ => (Bool)) slices_Equal_46.l0_k.body p
noncomputable def slices_Equal_46.l0 (a_0 : List Int) (a_1 : List Int) (x_12 : Int) (x_13 : Int) : Option (Bool) := slices_Equal_46.l0_k.go (.l0 a_0 a_1 x_12 x_13)
theorem slices_Equal_46.l0_eq (a_0 : List Int) (a_1 : List Int) (x_12 : Int) (x_13 : Int) : slices_Equal_46.l0 a_0 a_1 x_12 x_13 = if x_13 < x_12 then (Option.bind (gi a_0 x_13) fun y1 => Option.bind (gi a_1 x_13) fun y8 => if y1 = y8 then ((slices_Equal_46.l0 a_0 a_1 x_12 (IntKind.wrap .i64 (x_13 + (1 : Int))))) else (some (false))) else (some (true)) := fixF_eq slices_Equal_46.l0_k.mono _
def slices_Equal_46.l0_k.I : (p : slices_Equal_46.l0_k.Pt) → (Bool) → Prop
  | .l0 a_0 a_1 x_12 x_13, r => ∀ (W : Nat → Prop) (h0 m0 h m : Heap) (A_0 : Option Addr) (n_0 c_0 : Nat) (A_1 : Option Addr) (n_1 c_1 : Nat) (O : Hold W h0 m0 h m []) (ne_0 : n_0 = List.length a_0) (k_0 : List.length a_0 ≤ c_0) (r_0 : Rd 1 (eInt .i64) m A_0 a_0) (ne_1 : n_1 = List.length a_1) (k_1 : List.length a_1 ≤ c_1) (r_1 : Rd 1 (eInt .i64) m A_1 a_1), f46.l0 (slices_Equal_46.post W h0 m0 r) A_0 n_0 c_0 A_1 n_1 c_1 x_12 x_13 h
set_option maxRecDepth 100000 in
theorem slices_Equal_46.l0_k.step_l0 (go : (p : slices_Equal_46.l0_k.Pt) → Option (Bool)) (ih : ∀ p r, go p = some r → slices_Equal_46.l0_k.I p r) (a_0 : List Int) (a_1 : List Int) (x_12 : Int) (x_13 : Int) (r : Bool) (e : slices_Equal_46.l0_k.body go (.l0 a_0 a_1 x_12 x_13) = some r) : slices_Equal_46.l0_k.I (.l0 a_0 a_1 x_12 x_13) r := by
  unfold slices_Equal_46.l0_k.body at e
  intro W h0 m0 h m A_0 n_0 c_0 A_1 n_1 c_1 O ne_0 k_0 r_0 ne_1 k_1 r_1
  subst ne_0
  subst ne_1
  refine f46.l0_in ?_
  unfold f46.l0T
  refine split_dec_e e (fun c16 e => ?_) (fun c16 e => ?_)
  · obtain ⟨y1, g2, e⟩ := bind_e e
    refine r_0.addr rfl g2 fun a3 cs4 ha5 hc6 he7 => ?_
    obtain rfl : cs4 = [(Value.int .i64 y1)] := he7
    obtain ⟨y8, g9, e⟩ := bind_e e
    refine r_1.addr rfl g9 fun a10 cs11 ha12 hc13 he14 => ?_
    obtain rfl : cs11 = [(Value.int .i64 y8)] := he14
    refine ⟨_, ld0 O.s hc6 rfl, _, rfl, ?_⟩
    refine ⟨_, ld0 O.s hc13 rfl, _, rfl, ?_⟩
    refine split_ne_e e (fun c15 e => ?_) (fun c15 e => ?_)
    · cases e
      exact ⟨_, O.pick [], rfl⟩
    · exact (ih _ _ e) _ _ _ _ _ _ _ _ _ _ _ (O.pick []).nm rfl k_0 r_0 rfl k_1 r_1
  · cases e
    exact ⟨_, O.pick [], rfl⟩
theorem slices_Equal_46.l0_k.all {p : slices_Equal_46.l0_k.Pt} {r : (Bool)} (e : slices_Equal_46.l0_k.go p = some r) : slices_Equal_46.l0_k.I p r := fixF_ind (β := fun _ => (Bool)) slices_Equal_46.l0_k.mono (I := slices_Equal_46.l0_k.I) (fun go ih p r e => match p with
  | .l0 a_0 a_1 x_12 x_13 => slices_Equal_46.l0_k.step_l0 go ih a_0 a_1 x_12 x_13 r e
  ) e
theorem slices_Equal_46.l0.walk {W : Nat → Prop} {h0 m0 h m : Heap} {A_0 : Option Addr} {n_0 c_0 : Nat} {A_1 : Option Addr} {n_1 c_1 : Nat} {a_0 : List Int} {a_1 : List Int} {x_12 : Int} {x_13 : Int} (O : Hold W h0 m0 h m []) (ne_0 : n_0 = List.length a_0) (k_0 : List.length a_0 ≤ c_0) (r_0 : Rd 1 (eInt .i64) m A_0 a_0) (ne_1 : n_1 = List.length a_1) (k_1 : List.length a_1 ≤ c_1) (r_1 : Rd 1 (eInt .i64) m A_1 a_1) {r : Bool} (e : slices_Equal_46.l0 a_0 a_1 x_12 x_13 = some r) : f46.l0 (slices_Equal_46.post W h0 m0 r) A_0 n_0 c_0 A_1 n_1 c_1 x_12 x_13 h := slices_Equal_46.l0_k.all (p := .l0 a_0 a_1 x_12 x_13) e W h0 m0 h m A_0 n_0 c_0 A_1 n_1 c_1 O ne_0 k_0 r_0 ne_1 k_1 r_1
noncomputable def slices_Equal_46 (a_0 : List Int) (a_1 : List Int) : Option (Bool) :=
  if (((List.length a_0) : Nat) : Int) = (((List.length a_1) : Nat) : Int) then ((slices_Equal_46.l0 a_0 a_1 (((List.length a_0) : Nat) : Int) (0 : Int))) else (some (false))
set_option maxRecDepth 100000 in
theorem slices_Equal_46.walk {W : Nat → Prop} {h m : Heap} {A_0 : Option Addr} {n_0 c_0 : Nat} {A_1 : Option Addr} {n_1 c_1 : Nat} {a_0 : List Int} {a_1 : List Int} (O : Hold W h m h m []) (ne_0 : n_0 = List.length a_0) (k_0 : List.length a_0 ≤ c_0) (r_0 : Rd 1 (eInt .i64) m A_0 a_0) (ne_1 : n_1 = List.length a_1) (k_1 : List.length a_1 ≤ c_1) (r_1 : Rd 1 (eInt .i64) m A_1 a_1) {r : Bool} (e : slices_Equal_46 a_0 a_1 = some r) : Run Try.prog 46 #[Value.slice A_0 n_0 c_0, Value.slice A_1 n_1 c_1] h (slices_Equal_46.post W h m r) := by
  unfold slices_Equal_46 at e
  subst ne_0
  subst ne_1
  refine f46.run ?_
  unfold f46.runT
  refine split_ne_e e (fun c1 e => ?_) (fun c1 e => ?_)
  · cases e
    exact ⟨_, O.pick [], rfl⟩
  · exact slices_Equal_46.l0.walk (O.pick []).nm rfl k_0 r_0 rfl k_1 r_1 e
theorem slices_Equal_46.val (l m : List Int) (hl : l.length ≤ 4611686018427387904) : ∃ b, slices_Equal_46 l m = some b ∧ (b = true ↔ l = m) := equal_val (R := fun x y => x = y) (fun a b n i => slices_Equal_46.l0_eq a b n i) (fun _ _ => rfl) (fun _ _ => Iff.rfl) l m hl
def roadref2_onLine.post (W : Nat → Prop) (h0 m0 : Heap) (r : (List Int)) (v : Value) (h : Heap) : Prop := ∃ m A0 n0 c0, Hold W h0 m0 h m [rR (aE (tell_int .i64)) A0 c0 r] ∧ v = .slice A0 n0 c0 ∧ n0 = List.length r
inductive roadref2_onLine.l0_k.Pt where
  | l0 (x_2 : Int) (x_3 : Int) (a_9 : List Int) (a_16 : List (List Int)) (x_17 : Int) (x_18 : Int)
noncomputable def roadref2_onLine.l0_k.body (go : (p : roadref2_onLine.l0_k.Pt) → Option ((List Int))) : (p : roadref2_onLine.l0_k.Pt) → Option ((List Int))
  | .l0 x_2 x_3 a_9 a_16 x_17 x_18 => if x_18 < x_17 then (Option.bind (gi a_16 x_18) fun y1 => Option.bind (gi y1 (0 : Int)) fun y14 => if y14 = x_2 then (Option.bind (gi y1 (1 : Int)) fun y16 => Option.bind (gi y1 (2 : Int)) fun y18 => Option.bind (ap 8 a_9 ([(IntKind.wrap .i64 ((IntKind.wrap .i64 (x_3 * (IntKind.wrap .i64 ((IntKind.wrap .i64 ((2 : Int) * y16)) - (1 : Int))))) * (IntKind.wrap .i64 (y18 + (1 : Int)))))] : List Int)) fun l24 => (go (.l0 x_2 x_3 l24 a_16 x_17 (IntKind.wrap .i64 (x_18 + (1 : Int)))))) else ((go (.l0 x_2 x_3 a_9 a_16 x_17 (IntKind.wrap .i64 (x_18 + (1 : Int))))))) else (some (a_9))
theorem roadref2_onLine.l0_k.mono : MonoF (β := fun _ => ((List Int))) roadref2_onLine.l0_k.body := fun f g hfg p => match p with
  | .l0 x_2 x_3 a_9 a_16 x_17 x_18 => LeO.ite (LeO.bind (LeO.refl _) fun y1 => LeO.bind (LeO.refl _) fun y14 => LeO.ite (LeO.bind (LeO.refl _) fun y16 => LeO.bind (LeO.refl _) fun y18 => LeO.bind (LeO.refl _) fun l24 => (hfg _)) ((hfg _))) (LeO.refl _)
noncomputable def roadref2_onLine.l0_k.go (p : roadref2_onLine.l0_k.Pt) : Option ((List Int)) := fixF (β := fun _ => ((List Int))) roadref2_onLine.l0_k.body p
noncomputable def roadref2_onLine.l0 (x_2 : Int) (x_3 : Int) (a_9 : List Int) (a_16 : List (List Int)) (x_17 : Int) (x_18 : Int) : Option ((List Int)) := roadref2_onLine.l0_k.go (.l0 x_2 x_3 a_9 a_16 x_17 x_18)
theorem roadref2_onLine.l0_eq (x_2 : Int) (x_3 : Int) (a_9 : List Int) (a_16 : List (List Int)) (x_17 : Int) (x_18 : Int) : roadref2_onLine.l0 x_2 x_3 a_9 a_16 x_17 x_18 = if x_18 < x_17 then (Option.bind (gi a_16 x_18) fun y1 => Option.bind (gi y1 (0 : Int)) fun y14 => if y14 = x_2 then (Option.bind (gi y1 (1 : Int)) fun y16 => Option.bind (gi y1 (2 : Int)) fun y18 => Option.bind (ap 8 a_9 ([(IntKind.wrap .i64 ((IntKind.wrap .i64 (x_3 * (IntKind.wrap .i64 ((IntKind.wrap .i64 ((2 : Int) * y16)) - (1 : Int))))) * (IntKind.wrap .i64 (y18 + (1 : Int)))))] : List Int)) fun l24 => (roadref2_onLine.l0 x_2 x_3 l24 a_16 x_17 (IntKind.wrap .i64 (x_18 + (1 : Int))))) else ((roadref2_onLine.l0 x_2 x_3 a_9 a_16 x_17 (IntKind.wrap .i64 (x_18 + (1 : Int)))))) else (some (a_9)) := fixF_eq roadref2_onLine.l0_k.mono _
def roadref2_onLine.l0_k.I : (p : roadref2_onLine.l0_k.Pt) → ((List Int)) → Prop
  | .l0 x_2 x_3 a_9 a_16 x_17 x_18, r => ∀ (W : Nat → Prop) (h0 m0 h m : Heap) (A_9 : Option Addr) (n_9 c_9 : Nat) (A_16 : Option Addr) (n_16 c_16 : Nat) (O : Hold W h0 m0 h m [rR (aE (tell_int .i64)) A_9 c_9 a_9]) (ne_9 : n_9 = List.length a_9) (ne_16 : n_16 = List.length a_16) (k_16 : List.length a_16 ≤ c_16) (r_16 : Rd 3 (eArr 3 (fun n : Int => Value.int .i64 n) (0 : Int)) m A_16 a_16), f77.l0 (roadref2_onLine.post W h0 m0 r) x_2 x_3 A_9 n_9 c_9 A_16 n_16 c_16 x_17 x_18 h
set_option maxRecDepth 100000 in
theorem roadref2_onLine.l0_k.step_l0 (go : (p : roadref2_onLine.l0_k.Pt) → Option ((List Int))) (ih : ∀ p r, go p = some r → roadref2_onLine.l0_k.I p r) (x_2 : Int) (x_3 : Int) (a_9 : List Int) (a_16 : List (List Int)) (x_17 : Int) (x_18 : Int) (r : (List Int)) (e : roadref2_onLine.l0_k.body go (.l0 x_2 x_3 a_9 a_16 x_17 x_18) = some r) : roadref2_onLine.l0_k.I (.l0 x_2 x_3 a_9 a_16 x_17 x_18) r := by
  unfold roadref2_onLine.l0_k.body at e
  intro W h0 m0 h m A_9 n_9 c_9 A_16 n_16 c_16 O ne_9 ne_16 k_16 r_16
  subst ne_9
  subst ne_16
  refine f77.l0_in ?_
  unfold f77.l0T
  refine split_dec_e e (fun c36 e => ?_) (fun c36 e => ?_)
  · obtain ⟨y1, g2, e⟩ := bind_e e
    refine r_16.addr rfl g2 fun a3 cs4 ha5 hc6 he7 => ?_
    have qcs4_0 := he7.1
    obtain rfl : cs4 = [(Value.int .i64 (List.getD y1 0 (0 : Int))), (Value.int .i64 (List.getD y1 1 (0 : Int))), (Value.int .i64 (List.getD y1 2 (0 : Int)))] := he7.2
    refine ⟨_, ldAn O.s hc6 rfl, ?_⟩
    refine O.new fun h8 x9 O10 => ?_
    refine ⟨_, rfl, rfl, ?_⟩
    refine O10.stA 1 rfl rfl (Flats.cons trivial (Flats.cons trivial (Flats.cons trivial Flats.nil))) fun h12 O13 => ?_
    obtain ⟨y14, g15, e⟩ := bind_e e
    refine ⟨gi_le g15, gi_ltn g15 qcs4_0, ?_⟩
    refine ⟨_, ldArr0 (n := 3) (f := (fun n : Int => Value.int .i64 n)) (d := (0 : Int)) (Sub.refl _) (O13.all 1 rfl) rfl qcs4_0 g15, _, rfl, ?_⟩
    refine split_eq_e e (fun c35 e => ?_) (fun c35 e => ?_)
    · obtain ⟨y16, g17, e⟩ := bind_e e
      refine ⟨gi_le g17, gi_ltn g17 qcs4_0, ?_⟩
      refine ⟨_, ldArr0 (n := 3) (f := (fun n : Int => Value.int .i64 n)) (d := (0 : Int)) (Sub.refl _) (O13.all 1 rfl) rfl qcs4_0 g17, _, rfl, ?_⟩
      obtain ⟨y18, g19, e⟩ := bind_e e
      refine ⟨gi_le g19, gi_ltn g19 qcs4_0, ?_⟩
      refine ⟨_, ldArr0 (n := 3) (f := (fun n : Int => Value.int .i64 n)) (d := (0 : Int)) (Sub.refl _) (O13.all 1 rfl) rfl qcs4_0 g19, _, rfl, ?_⟩
      refine O13.new fun h20 x21 O22 => ?_
      obtain ⟨l24, g25, e⟩ := bind_e e
      have O32 := O22.rowE (l := ([(IntKind.wrap .i64 ((IntKind.wrap .i64 (x_3 * (IntKind.wrap .i64 ((IntKind.wrap .i64 ((2 : Int) * y16)) - (1 : Int))))) * (IntKind.wrap .i64 (y18 + (1 : Int)))))] : List Int)) 2 rfl (tell_int .i64) (show CsE _ _ _ _ _ from (CsE.cons (c1 := [(Value.int .i64 (IntKind.wrap .i64 ((IntKind.wrap .i64 (x_3 * (IntKind.wrap .i64 ((IntKind.wrap .i64 ((2 : Int) * y16)) - (1 : Int))))) * (IntKind.wrap .i64 (y18 + (1 : Int))))))]) rfl rfl CsE.nil)) rfl
      refine O32.app 0 rfl rfl rfl ((O32.os 2 rfl).srcE rfl) (by decide) g25 fun A26 c27 h28 O29 => ?_
      refine ⟨_, _, _, rfl, ?_⟩
      have O33 := O29.nm
      exact (ih _ _ e) _ _ _ _ _ _ _ _ _ _ _ (O33.pick [0]).nm rfl rfl k_16 r_16
    · have O34 := O13.nm
      exact (ih _ _ e) _ _ _ _ _ _ _ _ _ _ _ (O34.pick [0]).nm rfl rfl k_16 r_16
  · cases e
    exact ⟨_, _, _, _, O.pick [0], rfl, rfl⟩
theorem roadref2_onLine.l0_k.all {p : roadref2_onLine.l0_k.Pt} {r : ((List Int))} (e : roadref2_onLine.l0_k.go p = some r) : roadref2_onLine.l0_k.I p r := fixF_ind (β := fun _ => ((List Int))) roadref2_onLine.l0_k.mono (I := roadref2_onLine.l0_k.I) (fun go ih p r e => match p with
  | .l0 x_2 x_3 a_9 a_16 x_17 x_18 => roadref2_onLine.l0_k.step_l0 go ih x_2 x_3 a_9 a_16 x_17 x_18 r e
  ) e
theorem roadref2_onLine.l0.walk {W : Nat → Prop} {h0 m0 h m : Heap} {A_9 : Option Addr} {n_9 c_9 : Nat} {A_16 : Option Addr} {n_16 c_16 : Nat} {x_2 : Int} {x_3 : Int} {a_9 : List Int} {a_16 : List (List Int)} {x_17 : Int} {x_18 : Int} (O : Hold W h0 m0 h m [rR (aE (tell_int .i64)) A_9 c_9 a_9]) (ne_9 : n_9 = List.length a_9) (ne_16 : n_16 = List.length a_16) (k_16 : List.length a_16 ≤ c_16) (r_16 : Rd 3 (eArr 3 (fun n : Int => Value.int .i64 n) (0 : Int)) m A_16 a_16) {r : (List Int)} (e : roadref2_onLine.l0 x_2 x_3 a_9 a_16 x_17 x_18 = some r) : f77.l0 (roadref2_onLine.post W h0 m0 r) x_2 x_3 A_9 n_9 c_9 A_16 n_16 c_16 x_17 x_18 h := roadref2_onLine.l0_k.all (p := .l0 x_2 x_3 a_9 a_16 x_17 x_18) e W h0 m0 h m A_9 n_9 c_9 A_16 n_16 c_16 O ne_9 ne_16 k_16 r_16
noncomputable def roadref2_onLine (y_0 : T_roadref2_Net) (x_1 : Int) (x_2 : Int) (x_3 : Int) : Option ((List Int)) :=
  Option.bind (gi y_0.Who x_1) fun y10 => (roadref2_onLine.l0 x_2 x_3 ([] : List Int) y10 (((List.length y10) : Nat) : Int) (0 : Int))
set_option maxRecDepth 100000 in
theorem roadref2_onLine.walk {W : Nat → Prop} {h m : Heap} {cs_0 : List Value} {y_0 : T_roadref2_Net} {x_1 : Int} {x_2 : Int} {x_3 : Int} (O : Hold W h m h m []) (e_0 : T_roadref2_Net.E m y_0 cs_0) {r : (List Int)} (e : roadref2_onLine y_0 x_1 x_2 x_3 = some r) : Run Try.prog 77 #[Value.agg cs_0.toArray, Value.int .i64 x_1, Value.int .i64 x_2, Value.int .i64 x_3] h (roadref2_onLine.post W h m r) := by
  unfold roadref2_onLine at e
  refine f77.run ?_
  unfold f77.runT
  refine O.new fun h1 x2 O3 => ?_
  obtain ⟨A5, c6, q7, k8, r9⟩ := T_roadref2_Net.g1 e_0
  refine ⟨_, ldk (k := 1) (Sub.refl _) (O3.all 0 rfl) q7, _, _, _, rfl, ?_⟩
  obtain ⟨y10, g11, e⟩ := bind_e e
  refine r9.addr rfl g11 fun a12 cs13 ha14 hc15 he16 => ?_
  obtain ⟨Acs13_0, ccs13_0, rfl, kcs13_0, rcs13_0⟩ := id he16
  refine ⟨_, ld0 O3.s hc15 rfl, _, _, _, rfl, ?_⟩
  have O17 := O3.nil (aE (tell_int .i64)) none
  have O19 := O17.nm
  exact roadref2_onLine.l0.walk (O19.pick [1]).nm rfl rfl kcs13_0 rcs13_0 e
def roadref2_Mismatch_1.post (W : Nat → Prop) (h0 m0 : Heap) (r : Bool) (v : Value) (h : Heap) : Prop := ∃ m , Hold W h0 m0 h m [] ∧ v = .bool r
noncomputable def roadref2_Mismatch_1 (x_0 : Int) (y_1 : T_roadref2_Net) : Option (Bool) :=
  Option.bind (gi y_1.Lines x_0) fun y6 => Option.bind (gi y6 (0 : Int)) fun y13 => Option.bind (gi y_1.Lines x_0) fun y20 => Option.bind (gi y20 (1 : Int)) fun y27 => Option.bind (roadref2_onLine y_1 y13 x_0 (1 : Int)) fun y29 => Option.bind (roadref2_onLine y_1 y27 x_0 (-1 : Int)) fun y41 => Option.bind (slices_Equal_46 y29 y41) fun y53 => some ((!y53))
set_option maxHeartbeats 4000000 in
set_option maxRecDepth 100000 in
theorem roadref2_Mismatch_1.walk {W : Nat → Prop} {h m : Heap} {bk_1 : Nat} {x_0 : Int} {y_1 : T_roadref2_Net} (O : Hold W h m h m []) (v_1 : VB T_roadref2_Net.E m bk_1 y_1) {r : Bool} (e : roadref2_Mismatch_1 x_0 y_1 = some r) : Run Try.prog 76 #[Value.int .i64 x_0, Value.pointer (some ⟨bk_1, 0, none⟩)] h (roadref2_Mismatch_1.post W h m r) := by
  unfold roadref2_Mismatch_1 at e
  obtain ⟨cs_1, t_1, hb_1, nn_1, e_1⟩ := id v_1
  refine f76.run ?_
  unfold f76.runT
  refine ⟨_, ldAn O.s (Blk.all' hb_1) (T_roadref2_Net.T.len _ _ _ e_1), ?_⟩
  obtain ⟨A1, c2, q3, k4, r5⟩ := T_roadref2_Net.g0 e_1
  refine ⟨_, ld0 O.s (Blk.all' hb_1) q3, _, _, _, rfl, ?_⟩
  obtain ⟨y6, g7, e⟩ := bind_e e
  refine r5.addr rfl g7 fun a8 cs9 ha10 hc11 he12 => ?_
  have qcs9_0 := he12.1
  obtain rfl : cs9 = [(Value.int .i64 (List.getD y6 0 (0 : Int))), (Value.int .i64 (List.getD y6 1 (0 : Int)))] := he12.2
  obtain ⟨y13, g14, e⟩ := bind_e e
  refine ⟨gi_le g14, gi_ltn g14 qcs9_0, ?_⟩
  refine ⟨_, ldArr0 (n := 2) (f := (fun n : Int => Value.int .i64 n)) (d := (0 : Int)) O.s hc11 rfl qcs9_0 g14, _, rfl, ?_⟩
  refine ⟨_, ldAn O.s (Blk.all' hb_1) (T_roadref2_Net.T.len _ _ _ e_1), ?_⟩
  obtain ⟨A15, c16, q17, k18, r19⟩ := T_roadref2_Net.g0 e_1
  refine ⟨_, ld0 O.s (Blk.all' hb_1) q17, _, _, _, rfl, ?_⟩
  obtain ⟨y20, g21, e⟩ := bind_e e
  refine r19.addr rfl g21 fun a22 cs23 ha24 hc25 he26 => ?_
  have qcs23_0 := he26.1
  obtain rfl : cs23 = [(Value.int .i64 (List.getD y20 0 (0 : Int))), (Value.int .i64 (List.getD y20 1 (0 : Int)))] := he26.2
  obtain ⟨y27, g28, e⟩ := bind_e e
  refine ⟨gi_le g28, gi_ltn g28 qcs23_0, ?_⟩
  refine ⟨_, ldArr0 (n := 2) (f := (fun n : Int => Value.int .i64 n)) (d := (0 : Int)) O.s hc25 rfl qcs23_0 g28, _, rfl, ?_⟩
  obtain ⟨y29, g30, e⟩ := bind_e e
  refine (roadref2_onLine.walk (Hold.start (W := No) O.s) e_1 g30).mono ?_
  rintro _ h31 ⟨m32, A35, n36, c37, Q33, rfl, ne38⟩
  have O40 := Hold.nm (O.retC Q33 (vfs_cons (rR_vf (aE_vf (fun _ _ _ _ h => h))) vfs_nil))
  subst ne38
  refine ⟨_, _, _, rfl, ?_⟩
  refine ⟨Q33.S.ext, ?_⟩
  obtain ⟨y41, g42, e⟩ := bind_e e
  refine (roadref2_onLine.walk (Hold.start (W := No) O40.s) e_1 g42).mono ?_
  rintro _ h43 ⟨m44, A47, n48, c49, Q45, rfl, ne50⟩
  have O52 := Hold.nm (O40.retC Q45 (vfs_cons (rR_vf (aE_vf (fun _ _ _ _ h => h))) vfs_nil))
  subst ne50
  refine ⟨_, _, _, rfl, ?_⟩
  obtain ⟨y53, g54, e⟩ := bind_e e
  obtain ⟨m59, u60, s67, ⟨⟨r63, k64⟩, ⟨r65, k66⟩, _⟩, B61, C62⟩ := O52.lend0 [0, 1]
  replace r63 : Rd 1 (eInt .i64) m59 A35 y29 := r63
  replace k64 : List.length y29 ≤ c37 := k64
  replace r65 : Rd 1 (eInt .i64) m59 A47 y41 := r65
  replace k66 : List.length y41 ≤ c49 := k66
  refine (slices_Equal_46.walk (Hold.start (W := No) s67) rfl k64 r63 rfl k66 r65 g54).mono ?_
  rintro _ h55 ⟨m56, Q57, rfl⟩
  have O68 := Hold.nm (C62 Q57 vfs_nil)
  refine ⟨_, rfl, ?_⟩
  cases e
  exact ⟨_, O68.pick [], rfl⟩
def roadref2_Mismatch.post (W : Nat → Prop) (h0 m0 : Heap) (r : Int) (v : Value) (h : Heap) : Prop := ∃ m , Hold W h0 m0 h m [] ∧ v = .int .i64 r
noncomputable def roadref2_Mismatch (y_0 : T_roadref2_Net) : Option (Int) :=
  Option.bind (roadref2_indices (((List.length y_0.Lines) : Nat) : Int)) fun y10 => Option.bind (slices_IndexFunc_74 y10 (fun z36 => roadref2_Mismatch_1 z36 y_0)) fun y22 => some (y22)
set_option maxRecDepth 100000 in
theorem roadref2_Mismatch.walk {W : Nat → Prop} {h m : Heap} {cs_0 : List Value} {y_0 : T_roadref2_Net} (O : Hold W h m h m []) (e_0 : T_roadref2_Net.E m y_0 cs_0) {r : Int} (e : roadref2_Mismatch y_0 = some r) : Run Try.prog 44 #[Value.agg cs_0.toArray] h (roadref2_Mismatch.post W h m r) := by
  unfold roadref2_Mismatch at e
  refine f44.run ?_
  unfold f44.runT
  refine O.new fun h1 x2 O3 => ?_
  obtain ⟨A5, c6, q7, k8, r9⟩ := T_roadref2_Net.g0 e_0
  refine ⟨_, ld0 (Sub.refl _) (O3.all 0 rfl) q7, _, _, _, rfl, ?_⟩
  obtain ⟨y10, g11, e⟩ := bind_e e
  refine (roadref2_indices.walk (Hold.start (W := No) O3.s)  g11).mono ?_
  rintro _ h12 ⟨m13, A16, n17, c18, Q14, rfl, ne19⟩
  have O21 := Hold.nm (O3.retC Q14 (vfs_cons (rR_vf (aE_vf (fun _ _ _ _ h => h))) vfs_nil))
  subst ne19
  refine ⟨_, _, _, rfl, ?_⟩
  obtain ⟨y22, g23, e⟩ := bind_e e
  obtain ⟨m28, u29, s35, ⟨⟨r32, k33⟩, hb34, _⟩, B30, C31⟩ := O21.lend0 [1, 0]
  replace r32 : Rd 1 (eInt .i64) m28 A16 y10 := r32
  replace k33 : List.length y10 ≤ c18 := k33
  refine (slices_IndexFunc_74.walk (Hold.start (W := No) s35) rfl k33 r32 (fun h37 m38 u39 s40 x43 r41 e42 => CallF.of [Value.int .i64 x43, Value.pointer (some ⟨(Array.size h), 0, none⟩)] f76.ok rfl ((roadref2_Mismatch_1.walk (Hold.start (W := No) s40) (VB.sub (show VB T_roadref2_Net.E _ _ _ from ⟨_, _, hb34, nn_len (T_roadref2_Net.T.len _ _ _ e_0), (T_roadref2_Net.T.mono _ _ _ _ u29 e_0)⟩) T_roadref2_Net.T u39) e42).mono (fun _ _ h => let ⟨_, t, e⟩ := h; ⟨e, t.S.ext⟩))) g23).mono ?_
  rintro _ h24 ⟨m25, Q26, rfl⟩
  have O44 := Hold.nm (C31 Q26 vfs_nil)
  refine ⟨_, rfl, ?_⟩
  cases e
  exact ⟨_, O44.pick [], rfl⟩
def slices_Grow_67.post (W : Nat → Prop) (h0 m0 : Heap) (r : (List Int)) (v : Value) (h : Heap) : Prop := ∃ m A0 n0 c0, Hold W h0 m0 h m [rR (aE (tell_int .i64)) A0 c0 r] ∧ v = .slice A0 n0 c0 ∧ n0 = List.length r
noncomputable def slices_Grow_67 (x1 : Int) : Option (List Int) := if gro 8 x1 = true then some [] else none
set_option maxRecDepth 100000 in
theorem slices_Grow_67.walk {W : Nat → Prop} {h m : Heap} {x1 : Int} (O : Hold W h m h m []) {r : List Int} (e : slices_Grow_67 x1 = some r) : Run Try.prog 67 #[Value.slice none 0 0, Value.int .i64 x1] h (slices_Grow_67.post W h m r) := by
  unfold slices_Grow_67 at e
  have S : St No h m h m := .refl O.s
  obtain ⟨g, e⟩ := guard_e e
  cases e
  refine f67.run ?_
  unfold f67.runT
  refine split_dec (fun c => absurd c (by have := of_decide_eq_true (show decide _ = true from g); omega)) (fun _ => ?_)
  refine f67.j0_in ?_
  unfold f67.j0T
  exact grow_nil S rfl (by decide) g (fun A' c' h' o' x' => ⟨m, _, _, _, O.add (R := rR (aE (tell_int .i64)) A' c' []) (St.of_ext O.s x') o'.rowP o'.newNo, rfl, rfl⟩)
end Go.Proofs.Ytdlihfedhojdgaa.Fw

end
