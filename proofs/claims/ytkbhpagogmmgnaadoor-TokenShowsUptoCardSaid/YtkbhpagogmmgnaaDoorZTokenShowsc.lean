/- Part 3: what the law TokenShows needs, put together out of texts of this session. -/
import Derived.Test.YtkbhpagogmmgnaaDoorZTokenShowsb
section
namespace Go.Proofs.YtkbhpagogmmgnaaDoor.Fw
open Go Go.Hw Go.Proofs
set_option linter.unusedVariables false
set_option maxRecDepth 100000
set_option synthInstance.maxHeartbeats 400000
set_option synthInstance.maxSize 1000
abbrev TB (m : Heap) : Prop := TBs 0 m ∧ TBd 9 m
theorem TB.sub {m h : Heap} (t : TB m) (s : Sub m h) : TB h := ⟨t.1.sub s, t.2.sub s⟩
structure T_token_Token where
 Kind : Int
 Text : ByteArray
 At : Int
def T_token_Token.E (h : Heap) (x : T_token_Token) (cs : List Value) : Prop := cs = [.int .i64 x.Kind, .string x.Text, .int .i64 x.At]
theorem T_token_Token.T : Tell 3 T_token_Token.E := ⟨by rintro m h x _ s rfl; exact rfl, by rintro h x _ rfl; rfl, by rintro h x _ rfl; exact Flats.cons trivial (Flats.cons trivial (Flats.cons trivial Flats.nil))⟩
def T_token_Token.Q (x : T_token_Token) : Prop := (-9223372036854775808 ≤ x.Kind ∧ x.Kind ≤ 9223372036854775807) ∧ (x.Text.size ≤ 140737488351232) ∧ (-9223372036854775808 ≤ x.At ∧ x.At ≤ 9223372036854775807)
theorem T_token_Token.tells {H : Type} {enc : TypeId × Value → H} {W : World} : Tells enc Tryd.prog W 59 T_token_Token.E T_token_Token.Q := tells_map (tells_struct (t := 59) (fs := [(3, 0), (9, 1), (3, 2)]) (T := 3) (by kernel_rfl) (by kernel_rfl) (tf_cons (s := 1) (f := 3) (by kernel_rfl) (tells_i64 (t := 3) (by kernel_rfl)) (tf_cons (s := 1) (f := 9) (by kernel_rfl) (tells_strL (t := 9) (by kernel_rfl)) (tf_cons (s := 1) (f := 3) (by kernel_rfl) (tells_i64 (t := 3) (by kernel_rfl)) tf_nil)))) (by
 rintro ⟨x0, x1, x2, ⟨⟩⟩ cs e q
 obtain ⟨c0, r0, rfl, e0, c1, r1, rfl, e1, c2, r2, rfl, e2, eN⟩ := e
 obtain rfl : c0 = [.int .i64 x0] := e0
 obtain rfl : c1 = [.string x1] := e1
 obtain rfl : c2 = [.int .i64 x2] := e2
 obtain rfl : r2 = [] := eN
 exact ⟨⟨x0, x1, x2⟩, rfl, q.1, q.2.1, q.2.2.1⟩)
def T_token_Token.bulk (x : T_token_Token) : Nat := (1 + ((x.Text.size + 1) + (1 + (0)))) + 1
theorem T_token_Token.kt {H : Type} {bk : DataW H → Nat} {enc : TypeId × Value → H} {W : World} {N : Nat} (M : Measure bk) : KT N bk enc Tryd.prog W 59 T_token_Token.E T_token_Token.bulk := kt_down (kt_map (kt_struct M (t := 59) (fs := [(3, 0), (9, 1), (3, 2)]) (T := 3) (by kernel_rfl) (by kernel_rfl) (ktf_cons (s := 1) (f := 3) (by kernel_rfl) (tell_int .i64) (kt_one M) (ktf_cons (s := 1) (f := 9) (by kernel_rfl) tell_str (kt_str (t := 9) M (by kernel_rfl)) (ktf_cons (s := 1) (f := 3) (by kernel_rfl) (tell_int .i64) (kt_one M) ktf_nil)))) (fun x cs e => by
 obtain rfl := e
 exact ⟨(x.Kind, x.Text, x.At, ()), ⟨[.int .i64 x.Kind], _, rfl, rfl, ⟨[.string x.Text], _, rfl, rfl, ⟨[.int .i64 x.At], _, rfl, rfl, rfl⟩⟩⟩, Nat.le_refl _⟩))
structure T_roadref2_Tok where
 Kind : Int
 Text : ByteArray
 At : Int
def T_roadref2_Tok.E (h : Heap) (x : T_roadref2_Tok) (cs : List Value) : Prop := cs = [.int .i64 x.Kind, .string x.Text, .int .i64 x.At]
theorem T_roadref2_Tok.T : Tell 3 T_roadref2_Tok.E := ⟨by rintro m h x _ s rfl; exact rfl, by rintro h x _ rfl; rfl, by rintro h x _ rfl; exact Flats.cons trivial (Flats.cons trivial (Flats.cons trivial Flats.nil))⟩
theorem T_roadref2_Tok.keep {m h : Heap} {x : T_roadref2_Tok} {cs : List Value} (e : T_roadref2_Tok.E m x cs) : T_roadref2_Tok.E h x cs := e
theorem T_token_Token.g0 {m : Heap} {x : T_token_Token} {cs : List Value} (e : T_token_Token.E m x cs) : cs[0]? = some (Value.int .i64 x.Kind) := by
 obtain rfl := e
 exact rfl
theorem T_token_Token.g1 {m : Heap} {x : T_token_Token} {cs : List Value} (e : T_token_Token.E m x cs) : cs[1]? = some (Value.string x.Text) := by
 obtain rfl := e
 exact rfl
theorem T_roadref2_Tok.s2 {m : Heap} {x : T_roadref2_Tok} {cs : List Value} (e : T_roadref2_Tok.E m x cs) (v : Int) : T_roadref2_Tok.E m { x with At := v } (cs.set 2 (Value.int .i64 v)) := by
 obtain rfl := e
 exact rfl
theorem T_roadref2_Tok.g0 {m : Heap} {x : T_roadref2_Tok} {cs : List Value} (e : T_roadref2_Tok.E m x cs) : cs[0]? = some (Value.int .i64 x.Kind) := by
 obtain rfl := e
 exact rfl
theorem T_roadref2_Tok.g1 {m : Heap} {x : T_roadref2_Tok} {cs : List Value} (e : T_roadref2_Tok.E m x cs) : cs[1]? = some (Value.string x.Text) := by
 obtain rfl := e
 exact rfl
def internal_strconv_small.post (W : Nat → Prop) (h0 m0 : Heap) (r : ByteArray) (v : Value) (h : Heap) : Prop := ∃ m , Hold W h0 m0 h m [] ∧ v = .string r
noncomputable def internal_strconv_small (x_0 : Int) : Option (ByteArray) :=
 if x_0 < (10 : Int) then (if 0 ≤ x_0 ∧ x_0 ≤ (IntKind.wrap .i64 (x_0 + (1 : Int))) ∧ (IntKind.wrap .i64 (x_0 + (1 : Int))) ≤ ((ByteArray.size (ByteArray.mk #[48, 49, 50, 51, 52, 53, 54, 55, 56, 57, 97, 98, 99, 100, 101, 102, 103, 104, 105, 106, 107, 108, 109, 110, 111, 112, 113, 114, 115, 116, 117, 118, 119, 120, 121, 122]) : Nat) : Int) then (some ((ByteArray.extract (ByteArray.mk #[48, 49, 50, 51, 52, 53, 54, 55, 56, 57, 97, 98, 99, 100, 101, 102, 103, 104, 105, 106, 107, 108, 109, 110, 111, 112, 113, 114, 115, 116, 117, 118, 119, 120, 121, 122]) (Int.toNat x_0) (Int.toNat (IntKind.wrap .i64 (x_0 + (1 : Int))))))) else none) else (if 0 ≤ (IntKind.wrap .i64 (x_0 * (2 : Int))) ∧ (IntKind.wrap .i64 (x_0 * (2 : Int))) ≤ (IntKind.wrap .i64 ((IntKind.wrap .i64 (x_0 * (2 : Int))) + (2 : Int))) ∧ (IntKind.wrap .i64 ((IntKind.wrap .i64 (x_0 * (2 : Int))) + (2 : Int))) ≤ ((ByteArray.size (ByteArray.mk #[48, 48, 48, 49, 48, 50, 48, 51, 48, 52, 48, 53, 48, 54, 48, 55, 48, 56, 48, 57, 49, 48, 49, 49, 49, 50, 49, 51, 49, 52, 49, 53, 49, 54, 49, 55, 49, 56, 49, 57, 50, 48, 50, 49, 50, 50, 50, 51, 50, 52, 50, 53, 50, 54, 50, 55, 50, 56, 50, 57, 51, 48, 51, 49, 51, 50, 51, 51, 51, 52, 51, 53, 51, 54, 51, 55, 51, 56, 51, 57, 52, 48, 52, 49, 52, 50, 52, 51, 52, 52, 52, 53, 52, 54, 52, 55, 52, 56, 52, 57, 53, 48, 53, 49, 53, 50, 53, 51, 53, 52, 53, 53, 53, 54, 53, 55, 53, 56, 53, 57, 54, 48, 54, 49, 54, 50, 54, 51, 54, 52, 54, 53, 54, 54, 54, 55, 54, 56, 54, 57, 55, 48, 55, 49, 55, 50, 55, 51, 55, 52, 55, 53, 55, 54, 55, 55, 55, 56, 55, 57, 56, 48, 56, 49, 56, 50, 56, 51, 56, 52, 56, 53, 56, 54, 56, 55, 56, 56, 56, 57, 57, 48, 57, 49, 57, 50, 57, 51, 57, 52, 57, 53, 57, 54, 57, 55, 57, 56, 57, 57]) : Nat) : Int) then (some ((ByteArray.extract (ByteArray.mk #[48, 48, 48, 49, 48, 50, 48, 51, 48, 52, 48, 53, 48, 54, 48, 55, 48, 56, 48, 57, 49, 48, 49, 49, 49, 50, 49, 51, 49, 52, 49, 53, 49, 54, 49, 55, 49, 56, 49, 57, 50, 48, 50, 49, 50, 50, 50, 51, 50, 52, 50, 53, 50, 54, 50, 55, 50, 56, 50, 57, 51, 48, 51, 49, 51, 50, 51, 51, 51, 52, 51, 53, 51, 54, 51, 55, 51, 56, 51, 57, 52, 48, 52, 49, 52, 50, 52, 51, 52, 52, 52, 53, 52, 54, 52, 55, 52, 56, 52, 57, 53, 48, 53, 49, 53, 50, 53, 51, 53, 52, 53, 53, 53, 54, 53, 55, 53, 56, 53, 57, 54, 48, 54, 49, 54, 50, 54, 51, 54, 52, 54, 53, 54, 54, 54, 55, 54, 56, 54, 57, 55, 48, 55, 49, 55, 50, 55, 51, 55, 52, 55, 53, 55, 54, 55, 55, 55, 56, 55, 57, 56, 48, 56, 49, 56, 50, 56, 51, 56, 52, 56, 53, 56, 54, 56, 55, 56, 56, 56, 57, 57, 48, 57, 49, 57, 50, 57, 51, 57, 52, 57, 53, 57, 54, 57, 55, 57, 56, 57, 57]) (Int.toNat (IntKind.wrap .i64 (x_0 * (2 : Int)))) (Int.toNat (IntKind.wrap .i64 ((IntKind.wrap .i64 (x_0 * (2 : Int))) + (2 : Int))))))) else none)
theorem internal_strconv_small.walk {W h m x_0} (O : Hold W h m h m []) {r} (e : internal_strconv_small x_0 = some r) : Run Tryd.prog 116 #[Value.int .i64 x_0] h (internal_strconv_small.post W h m r) := by
 unfold internal_strconv_small at e
 refine f116.run ?_
 unfold f116.runT
 refine split_dec_e e (fun c3 e => ?_) (fun c3 e => ?_)
 · obtain ⟨g1, e⟩ := guard_e e
   refine ⟨g1.1, g1.2.1, g1.2.2, ?_⟩
   cases e
   exact ⟨_, O.pick [], rfl⟩
 · obtain ⟨g2, e⟩ := guard_e e
   refine ⟨g2.1, g2.2.1, g2.2.2, ?_⟩
   cases e
   exact ⟨_, O.pick [], rfl⟩
def internal_strconv_isPowerOfTwo.post (W : Nat → Prop) (h0 m0 : Heap) (r : Bool) (v : Value) (h : Heap) : Prop := ∃ m , Hold W h0 m0 h m [] ∧ v = .bool r
noncomputable def internal_strconv_isPowerOfTwo (x_0 : Int) : Option (Bool) :=
 some (((bitsI .and .i64 x_0 (IntKind.wrap .i64 (x_0 - (1 : Int)))) == (0 : Int)))
theorem internal_strconv_isPowerOfTwo.walk {W h m x_0} (O : Hold W h m h m []) {r} (e : internal_strconv_isPowerOfTwo x_0 = some r) : Run Tryd.prog 135 #[Value.int .i64 x_0] h (internal_strconv_isPowerOfTwo.post W h m r) := by
 unfold internal_strconv_isPowerOfTwo at e
 refine f135.run ?_
 unfold f135.runT
 cases e
 exact ⟨_, O.pick [], rfl⟩
def math_bits_TrailingZeros64.post (W : Nat → Prop) (h0 m0 : Heap) (r : Int) (v : Value) (h : Heap) : Prop := ∃ m , Hold W h0 m0 h m [] ∧ v = .int .i64 r
noncomputable def math_bits_TrailingZeros64 (x0 : Int) : Option Int := if x0 = 16 then some 4 else none
theorem math_bits_TrailingZeros64.walk {W : Nat → Prop} {h m : Heap} {x0 : Int} (O : Hold W h m h m []) (tab : TB m) {r : Int} (e : math_bits_TrailingZeros64 x0 = some r) : Run Tryd.prog 148 #[Value.int .u64 x0] h (math_bits_TrailingZeros64.post W h m r) := by
 unfold math_bits_TrailingZeros64 at e
 obtain ⟨g1, e⟩ := guard_e e
 cases e
 subst g1
 refine f148.run ?_
 unfold f148.runT
 show splitB false _ _
 refine split_f ?_
 exact ⟨by decide, by decide +kernel, by decide +kernel, _, tz_ld tab.2 O.s, _, rfl, m, O, rfl⟩
def math_bits_TrailingZeros.post (W : Nat → Prop) (h0 m0 : Heap) (r : Int) (v : Value) (h : Heap) : Prop := ∃ m , Hold W h0 m0 h m [] ∧ v = .int .i64 r
noncomputable def math_bits_TrailingZeros (x_0 : Int) : Option (Int) :=
 Option.bind (math_bits_TrailingZeros64 x_0) fun y1 => some (y1)
theorem math_bits_TrailingZeros.walk {W h m x_0} (O : Hold W h m h m []) (tab : TB m) {r} (e : math_bits_TrailingZeros x_0 = some r) : Run Tryd.prog 136 #[Value.int .u64 x_0] h (math_bits_TrailingZeros.post W h m r) := by
 unfold math_bits_TrailingZeros at e
 refine f136.run ?_
 unfold f136.runT
 obtain ⟨y1, g2, e⟩ := bind_e e
 refine (math_bits_TrailingZeros64.walk (Hold.start (W := No) O.s) tab g2).mono ?_
 rintro _ h3 ⟨m4, Q5, rfl⟩
 have O7 := Hold.nm (O.retC Q5 vfs_nil)
 refine ⟨_, rfl, ?_⟩
 cases e
 exact ⟨_, O7.pick [], rfl⟩
def internal_strconv_formatBits.post (W : Nat → Prop) (h0 m0 : Heap) (r : (List Int) × ByteArray) (v : Value) (h : Heap) : Prop := ∃ m A0 n0 c0, Hold W h0 m0 h m [rR (aE (tell_int .u8)) A0 c0 r.1] ∧ v = .tuple #[.slice A0 n0 c0, .string r.2] ∧ n0 = List.length r.1
noncomputable def internal_strconv_formatBits.j4 (a_0 : List Int) (b_4 : Bool) (a_10 : List Int) (s_11 : ByteArray) (y_12 : (List Int)) (x_13 : Int) : Option ((List Int) × ByteArray) :=
 if b_4 = true then (if 0 ≤ x_13 ∧ x_13 ≤ ((65 : Nat) : Int) then (Option.bind (ap 1 a_0 (List.drop (Int.toNat x_13) y_12)) fun l8 => some (l8, s_11)) else none) else (if 0 ≤ x_13 ∧ x_13 ≤ ((65 : Nat) : Int) then (some (a_10, (bytesOf (List.drop (Int.toNat x_13) y_12)))) else none)
theorem internal_strconv_formatBits.j4.walk {W h0 m0 h m A_0 n_0 c_0 A_10 n_10 c_10 bk_12 cs_12 a_0 b_4 a_10 s_11 y_12 x_13} (O : Hold W h0 m0 h m [rR (aE (tell_int .u8)) A_0 c_0 a_0, rR (aE (tell_int .u8)) A_10 c_10 a_10, rV bk_12 195 cs_12]) (ne_0 : n_0 = List.length a_0) (ne_10 : n_10 = List.length a_10) (e_12 : (eArr 65 (fun n : Int => Value.int .u8 n) (0 : Int)) m y_12 cs_12) (tab : TB m) {r} (e : internal_strconv_formatBits.j4 a_0 b_4 a_10 s_11 y_12 x_13 = some r) : f119.j4 (internal_strconv_formatBits.post W h0 m0 r) A_0 n_0 c_0 b_4 A_10 n_10 c_10 s_11 (⟨bk_12, 0, none⟩ : Addr) x_13 h := by
 unfold internal_strconv_formatBits.j4 at e
 subst ne_0
 subst ne_10
 have qe_12_0 := e_12.1
 obtain rfl : cs_12 = [(Value.int .u8 (List.getD y_12 0 (0 : Int))), (Value.int .u8 (List.getD y_12 1 (0 : Int))), (Value.int .u8 (List.getD y_12 2 (0 : Int))), (Value.int .u8 (List.getD y_12 3 (0 : Int))), (Value.int .u8 (List.getD y_12 4 (0 : Int))), (Value.int .u8 (List.getD y_12 5 (0 : Int))), (Value.int .u8 (List.getD y_12 6 (0 : Int))), (Value.int .u8 (List.getD y_12 7 (0 : Int))), (Value.int .u8 (List.getD y_12 8 (0 : Int))), (Value.int .u8 (List.getD y_12 9 (0 : Int))), (Value.int .u8 (List.getD y_12 10 (0 : Int))), (Value.int .u8 (List.getD y_12 11 (0 : Int))), (Value.int .u8 (List.getD y_12 12 (0 : Int))), (Value.int .u8 (List.getD y_12 13 (0 : Int))), (Value.int .u8 (List.getD y_12 14 (0 : Int))), (Value.int .u8 (List.getD y_12 15 (0 : Int))), (Value.int .u8 (List.getD y_12 16 (0 : Int))), (Value.int .u8 (List.getD y_12 17 (0 : Int))), (Value.int .u8 (List.getD y_12 18 (0 : Int))), (Value.int .u8 (List.getD y_12 19 (0 : Int))), (Value.int .u8 (List.getD y_12 20 (0 : Int))), (Value.int .u8 (List.getD y_12 21 (0 : Int))), (Value.int .u8 (List.getD y_12 22 (0 : Int))), (Value.int .u8 (List.getD y_12 23 (0 : Int))), (Value.int .u8 (List.getD y_12 24 (0 : Int))), (Value.int .u8 (List.getD y_12 25 (0 : Int))), (Value.int .u8 (List.getD y_12 26 (0 : Int))), (Value.int .u8 (List.getD y_12 27 (0 : Int))), (Value.int .u8 (List.getD y_12 28 (0 : Int))), (Value.int .u8 (List.getD y_12 29 (0 : Int))), (Value.int .u8 (List.getD y_12 30 (0 : Int))), (Value.int .u8 (List.getD y_12 31 (0 : Int))), (Value.int .u8 (List.getD y_12 32 (0 : Int))), (Value.int .u8 (List.getD y_12 33 (0 : Int))), (Value.int .u8 (List.getD y_12 34 (0 : Int))), (Value.int .u8 (List.getD y_12 35 (0 : Int))), (Value.int .u8 (List.getD y_12 36 (0 : Int))), (Value.int .u8 (List.getD y_12 37 (0 : Int))), (Value.int .u8 (List.getD y_12 38 (0 : Int))), (Value.int .u8 (List.getD y_12 39 (0 : Int))), (Value.int .u8 (List.getD y_12 40 (0 : Int))), (Value.int .u8 (List.getD y_12 41 (0 : Int))), (Value.int .u8 (List.getD y_12 42 (0 : Int))), (Value.int .u8 (List.getD y_12 43 (0 : Int))), (Value.int .u8 (List.getD y_12 44 (0 : Int))), (Value.int .u8 (List.getD y_12 45 (0 : Int))), (Value.int .u8 (List.getD y_12 46 (0 : Int))), (Value.int .u8 (List.getD y_12 47 (0 : Int))), (Value.int .u8 (List.getD y_12 48 (0 : Int))), (Value.int .u8 (List.getD y_12 49 (0 : Int))), (Value.int .u8 (List.getD y_12 50 (0 : Int))), (Value.int .u8 (List.getD y_12 51 (0 : Int))), (Value.int .u8 (List.getD y_12 52 (0 : Int))), (Value.int .u8 (List.getD y_12 53 (0 : Int))), (Value.int .u8 (List.getD y_12 54 (0 : Int))), (Value.int .u8 (List.getD y_12 55 (0 : Int))), (Value.int .u8 (List.getD y_12 56 (0 : Int))), (Value.int .u8 (List.getD y_12 57 (0 : Int))), (Value.int .u8 (List.getD y_12 58 (0 : Int))), (Value.int .u8 (List.getD y_12 59 (0 : Int))), (Value.int .u8 (List.getD y_12 60 (0 : Int))), (Value.int .u8 (List.getD y_12 61 (0 : Int))), (Value.int .u8 (List.getD y_12 62 (0 : Int))), (Value.int .u8 (List.getD y_12 63 (0 : Int))), (Value.int .u8 (List.getD y_12 64 (0 : Int)))] := e_12.2
 refine f119.j4_in ?_
 unfold f119.j4T
 refine split_any_e e (fun c25 e => ?_) (fun c25 e => ?_)
 · obtain ⟨g7, e⟩ := guard_e e
   obtain ⟨m1, u2, hb3, O4⟩ := O.frz 2 rfl
   replace hb3 : Blk m1 bk_12 [(Value.int .u8 (List.getD y_12 0 (0 : Int))), (Value.int .u8 (List.getD y_12 1 (0 : Int))), (Value.int .u8 (List.getD y_12 2 (0 : Int))), (Value.int .u8 (List.getD y_12 3 (0 : Int))), (Value.int .u8 (List.getD y_12 4 (0 : Int))), (Value.int .u8 (List.getD y_12 5 (0 : Int))), (Value.int .u8 (List.getD y_12 6 (0 : Int))), (Value.int .u8 (List.getD y_12 7 (0 : Int))), (Value.int .u8 (List.getD y_12 8 (0 : Int))), (Value.int .u8 (List.getD y_12 9 (0 : Int))), (Value.int .u8 (List.getD y_12 10 (0 : Int))), (Value.int .u8 (List.getD y_12 11 (0 : Int))), (Value.int .u8 (List.getD y_12 12 (0 : Int))), (Value.int .u8 (List.getD y_12 13 (0 : Int))), (Value.int .u8 (List.getD y_12 14 (0 : Int))), (Value.int .u8 (List.getD y_12 15 (0 : Int))), (Value.int .u8 (List.getD y_12 16 (0 : Int))), (Value.int .u8 (List.getD y_12 17 (0 : Int))), (Value.int .u8 (List.getD y_12 18 (0 : Int))), (Value.int .u8 (List.getD y_12 19 (0 : Int))), (Value.int .u8 (List.getD y_12 20 (0 : Int))), (Value.int .u8 (List.getD y_12 21 (0 : Int))), (Value.int .u8 (List.getD y_12 22 (0 : Int))), (Value.int .u8 (List.getD y_12 23 (0 : Int))), (Value.int .u8 (List.getD y_12 24 (0 : Int))), (Value.int .u8 (List.getD y_12 25 (0 : Int))), (Value.int .u8 (List.getD y_12 26 (0 : Int))), (Value.int .u8 (List.getD y_12 27 (0 : Int))), (Value.int .u8 (List.getD y_12 28 (0 : Int))), (Value.int .u8 (List.getD y_12 29 (0 : Int))), (Value.int .u8 (List.getD y_12 30 (0 : Int))), (Value.int .u8 (List.getD y_12 31 (0 : Int))), (Value.int .u8 (List.getD y_12 32 (0 : Int))), (Value.int .u8 (List.getD y_12 33 (0 : Int))), (Value.int .u8 (List.getD y_12 34 (0 : Int))), (Value.int .u8 (List.getD y_12 35 (0 : Int))), (Value.int .u8 (List.getD y_12 36 (0 : Int))), (Value.int .u8 (List.getD y_12 37 (0 : Int))), (Value.int .u8 (List.getD y_12 38 (0 : Int))), (Value.int .u8 (List.getD y_12 39 (0 : Int))), (Value.int .u8 (List.getD y_12 40 (0 : Int))), (Value.int .u8 (List.getD y_12 41 (0 : Int))), (Value.int .u8 (List.getD y_12 42 (0 : Int))), (Value.int .u8 (List.getD y_12 43 (0 : Int))), (Value.int .u8 (List.getD y_12 44 (0 : Int))), (Value.int .u8 (List.getD y_12 45 (0 : Int))), (Value.int .u8 (List.getD y_12 46 (0 : Int))), (Value.int .u8 (List.getD y_12 47 (0 : Int))), (Value.int .u8 (List.getD y_12 48 (0 : Int))), (Value.int .u8 (List.getD y_12 49 (0 : Int))), (Value.int .u8 (List.getD y_12 50 (0 : Int))), (Value.int .u8 (List.getD y_12 51 (0 : Int))), (Value.int .u8 (List.getD y_12 52 (0 : Int))), (Value.int .u8 (List.getD y_12 53 (0 : Int))), (Value.int .u8 (List.getD y_12 54 (0 : Int))), (Value.int .u8 (List.getD y_12 55 (0 : Int))), (Value.int .u8 (List.getD y_12 56 (0 : Int))), (Value.int .u8 (List.getD y_12 57 (0 : Int))), (Value.int .u8 (List.getD y_12 58 (0 : Int))), (Value.int .u8 (List.getD y_12 59 (0 : Int))), (Value.int .u8 (List.getD y_12 60 (0 : Int))), (Value.int .u8 (List.getD y_12 61 (0 : Int))), (Value.int .u8 (List.getD y_12 62 (0 : Int))), (Value.int .u8 (List.getD y_12 63 (0 : Int))), (Value.int .u8 (List.getD y_12 64 (0 : Int)))] 195 := hb3
   have r5 := arrRd (n := 65) (f := (fun n : Int => Value.int .u8 n)) (d := (0 : Int)) (L := y_12) (ad := (⟨bk_12, 0, none⟩ : Addr)) (E := (eInt .u8)) hb3 0 rfl rfl qe_12_0 (fun _ => rfl)
   have r6 := r5.lo (Int.toNat x_13) rfl qe_12_0
   refine ⟨g7.1, g7.2, Int.le_refl _, ?_⟩
   obtain ⟨l8, g9, e⟩ := bind_e e
   refine O4.app 0 rfl rfl rfl (Rd.srcE r6 (tell_int .u8) O4.s (show (Int.toNat ((65 : Nat) : Int) - (Int.toNat x_13)) = List.length (List.drop (Int.toNat x_13) y_12) from by rw [List.length_drop, qe_12_0]; rfl)) (by decide) g9 fun A10 c11 h12 O13 => ?_
   refine ⟨_, _, _, rfl, ?_⟩
   have O16 := O13.nm
   cases e
   exact ⟨_, _, _, _, O16.pick [0], rfl, rfl⟩
 · obtain ⟨g23, e⟩ := guard_e e
   obtain ⟨m17, u18, hb19, O20⟩ := O.frz 2 rfl
   replace hb19 : Blk m17 bk_12 [(Value.int .u8 (List.getD y_12 0 (0 : Int))), (Value.int .u8 (List.getD y_12 1 (0 : Int))), (Value.int .u8 (List.getD y_12 2 (0 : Int))), (Value.int .u8 (List.getD y_12 3 (0 : Int))), (Value.int .u8 (List.getD y_12 4 (0 : Int))), (Value.int .u8 (List.getD y_12 5 (0 : Int))), (Value.int .u8 (List.getD y_12 6 (0 : Int))), (Value.int .u8 (List.getD y_12 7 (0 : Int))), (Value.int .u8 (List.getD y_12 8 (0 : Int))), (Value.int .u8 (List.getD y_12 9 (0 : Int))), (Value.int .u8 (List.getD y_12 10 (0 : Int))), (Value.int .u8 (List.getD y_12 11 (0 : Int))), (Value.int .u8 (List.getD y_12 12 (0 : Int))), (Value.int .u8 (List.getD y_12 13 (0 : Int))), (Value.int .u8 (List.getD y_12 14 (0 : Int))), (Value.int .u8 (List.getD y_12 15 (0 : Int))), (Value.int .u8 (List.getD y_12 16 (0 : Int))), (Value.int .u8 (List.getD y_12 17 (0 : Int))), (Value.int .u8 (List.getD y_12 18 (0 : Int))), (Value.int .u8 (List.getD y_12 19 (0 : Int))), (Value.int .u8 (List.getD y_12 20 (0 : Int))), (Value.int .u8 (List.getD y_12 21 (0 : Int))), (Value.int .u8 (List.getD y_12 22 (0 : Int))), (Value.int .u8 (List.getD y_12 23 (0 : Int))), (Value.int .u8 (List.getD y_12 24 (0 : Int))), (Value.int .u8 (List.getD y_12 25 (0 : Int))), (Value.int .u8 (List.getD y_12 26 (0 : Int))), (Value.int .u8 (List.getD y_12 27 (0 : Int))), (Value.int .u8 (List.getD y_12 28 (0 : Int))), (Value.int .u8 (List.getD y_12 29 (0 : Int))), (Value.int .u8 (List.getD y_12 30 (0 : Int))), (Value.int .u8 (List.getD y_12 31 (0 : Int))), (Value.int .u8 (List.getD y_12 32 (0 : Int))), (Value.int .u8 (List.getD y_12 33 (0 : Int))), (Value.int .u8 (List.getD y_12 34 (0 : Int))), (Value.int .u8 (List.getD y_12 35 (0 : Int))), (Value.int .u8 (List.getD y_12 36 (0 : Int))), (Value.int .u8 (List.getD y_12 37 (0 : Int))), (Value.int .u8 (List.getD y_12 38 (0 : Int))), (Value.int .u8 (List.getD y_12 39 (0 : Int))), (Value.int .u8 (List.getD y_12 40 (0 : Int))), (Value.int .u8 (List.getD y_12 41 (0 : Int))), (Value.int .u8 (List.getD y_12 42 (0 : Int))), (Value.int .u8 (List.getD y_12 43 (0 : Int))), (Value.int .u8 (List.getD y_12 44 (0 : Int))), (Value.int .u8 (List.getD y_12 45 (0 : Int))), (Value.int .u8 (List.getD y_12 46 (0 : Int))), (Value.int .u8 (List.getD y_12 47 (0 : Int))), (Value.int .u8 (List.getD y_12 48 (0 : Int))), (Value.int .u8 (List.getD y_12 49 (0 : Int))), (Value.int .u8 (List.getD y_12 50 (0 : Int))), (Value.int .u8 (List.getD y_12 51 (0 : Int))), (Value.int .u8 (List.getD y_12 52 (0 : Int))), (Value.int .u8 (List.getD y_12 53 (0 : Int))), (Value.int .u8 (List.getD y_12 54 (0 : Int))), (Value.int .u8 (List.getD y_12 55 (0 : Int))), (Value.int .u8 (List.getD y_12 56 (0 : Int))), (Value.int .u8 (List.getD y_12 57 (0 : Int))), (Value.int .u8 (List.getD y_12 58 (0 : Int))), (Value.int .u8 (List.getD y_12 59 (0 : Int))), (Value.int .u8 (List.getD y_12 60 (0 : Int))), (Value.int .u8 (List.getD y_12 61 (0 : Int))), (Value.int .u8 (List.getD y_12 62 (0 : Int))), (Value.int .u8 (List.getD y_12 63 (0 : Int))), (Value.int .u8 (List.getD y_12 64 (0 : Int)))] 195 := hb19
   have r21 := arrRd (n := 65) (f := (fun n : Int => Value.int .u8 n)) (d := (0 : Int)) (L := y_12) (ad := (⟨bk_12, 0, none⟩ : Addr)) (E := (eInt .u8)) hb19 0 rfl rfl qe_12_0 (fun _ => rfl)
   have r22 := r21.lo (Int.toNat x_13) rfl qe_12_0
   refine ⟨g23.1, g23.2, Int.le_refl _, ?_⟩
   refine gen_b2s' (e := 5) (by kernel_rfl) (by kernel_rfl) (by kernel_rfl) (r22.sub (tell_int .u8) O20.s) (show (Int.toNat ((65 : Nat) : Int) - (Int.toNat x_13)) = List.length (List.drop (Int.toNat x_13) y_12) from by rw [List.length_drop, qe_12_0]; rfl) ?_
   refine ⟨_, rfl, ?_⟩
   have O24 := O20.nm
   cases e
   exact ⟨_, _, _, _, O24.pick [1], rfl, rfl⟩
noncomputable def internal_strconv_formatBits.j3 (a_0 : List Int) (b_3 : Bool) (b_4 : Bool) (a_10 : List Int) (s_11 : ByteArray) (y_12 : (List Int)) (x_13 : Int) : Option ((List Int) × ByteArray) :=
 if b_3 = true then (Option.bind (gi y_12 (IntKind.wrap .i64 (x_13 - (1 : Int)))) fun y1 => Option.bind (some (List.set y_12 (Int.toNat (IntKind.wrap .i64 (x_13 - (1 : Int)))) (45 : Int))) fun l3 => (internal_strconv_formatBits.j4 a_0 b_4 a_10 s_11 l3 (IntKind.wrap .i64 (x_13 - (1 : Int))))) else ((internal_strconv_formatBits.j4 a_0 b_4 a_10 s_11 y_12 x_13))
theorem internal_strconv_formatBits.j3.walk {W h0 m0 h m A_0 n_0 c_0 A_10 n_10 c_10 bk_12 cs_12 a_0 b_3 b_4 a_10 s_11 y_12 x_13} (O : Hold W h0 m0 h m [rR (aE (tell_int .u8)) A_0 c_0 a_0, rR (aE (tell_int .u8)) A_10 c_10 a_10, rV bk_12 195 cs_12]) (ne_0 : n_0 = List.length a_0) (ne_10 : n_10 = List.length a_10) (e_12 : (eArr 65 (fun n : Int => Value.int .u8 n) (0 : Int)) m y_12 cs_12) (tab : TB m) {r} (e : internal_strconv_formatBits.j3 a_0 b_3 b_4 a_10 s_11 y_12 x_13 = some r) : f119.j3 (internal_strconv_formatBits.post W h0 m0 r) A_0 n_0 c_0 b_3 b_4 A_10 n_10 c_10 s_11 (⟨bk_12, 0, none⟩ : Addr) x_13 h := by
 unfold internal_strconv_formatBits.j3 at e
 subst ne_0
 subst ne_10
 have qe_12_0 := e_12.1
 obtain rfl : cs_12 = [(Value.int .u8 (List.getD y_12 0 (0 : Int))), (Value.int .u8 (List.getD y_12 1 (0 : Int))), (Value.int .u8 (List.getD y_12 2 (0 : Int))), (Value.int .u8 (List.getD y_12 3 (0 : Int))), (Value.int .u8 (List.getD y_12 4 (0 : Int))), (Value.int .u8 (List.getD y_12 5 (0 : Int))), (Value.int .u8 (List.getD y_12 6 (0 : Int))), (Value.int .u8 (List.getD y_12 7 (0 : Int))), (Value.int .u8 (List.getD y_12 8 (0 : Int))), (Value.int .u8 (List.getD y_12 9 (0 : Int))), (Value.int .u8 (List.getD y_12 10 (0 : Int))), (Value.int .u8 (List.getD y_12 11 (0 : Int))), (Value.int .u8 (List.getD y_12 12 (0 : Int))), (Value.int .u8 (List.getD y_12 13 (0 : Int))), (Value.int .u8 (List.getD y_12 14 (0 : Int))), (Value.int .u8 (List.getD y_12 15 (0 : Int))), (Value.int .u8 (List.getD y_12 16 (0 : Int))), (Value.int .u8 (List.getD y_12 17 (0 : Int))), (Value.int .u8 (List.getD y_12 18 (0 : Int))), (Value.int .u8 (List.getD y_12 19 (0 : Int))), (Value.int .u8 (List.getD y_12 20 (0 : Int))), (Value.int .u8 (List.getD y_12 21 (0 : Int))), (Value.int .u8 (List.getD y_12 22 (0 : Int))), (Value.int .u8 (List.getD y_12 23 (0 : Int))), (Value.int .u8 (List.getD y_12 24 (0 : Int))), (Value.int .u8 (List.getD y_12 25 (0 : Int))), (Value.int .u8 (List.getD y_12 26 (0 : Int))), (Value.int .u8 (List.getD y_12 27 (0 : Int))), (Value.int .u8 (List.getD y_12 28 (0 : Int))), (Value.int .u8 (List.getD y_12 29 (0 : Int))), (Value.int .u8 (List.getD y_12 30 (0 : Int))), (Value.int .u8 (List.getD y_12 31 (0 : Int))), (Value.int .u8 (List.getD y_12 32 (0 : Int))), (Value.int .u8 (List.getD y_12 33 (0 : Int))), (Value.int .u8 (List.getD y_12 34 (0 : Int))), (Value.int .u8 (List.getD y_12 35 (0 : Int))), (Value.int .u8 (List.getD y_12 36 (0 : Int))), (Value.int .u8 (List.getD y_12 37 (0 : Int))), (Value.int .u8 (List.getD y_12 38 (0 : Int))), (Value.int .u8 (List.getD y_12 39 (0 : Int))), (Value.int .u8 (List.getD y_12 40 (0 : Int))), (Value.int .u8 (List.getD y_12 41 (0 : Int))), (Value.int .u8 (List.getD y_12 42 (0 : Int))), (Value.int .u8 (List.getD y_12 43 (0 : Int))), (Value.int .u8 (List.getD y_12 44 (0 : Int))), (Value.int .u8 (List.getD y_12 45 (0 : Int))), (Value.int .u8 (List.getD y_12 46 (0 : Int))), (Value.int .u8 (List.getD y_12 47 (0 : Int))), (Value.int .u8 (List.getD y_12 48 (0 : Int))), (Value.int .u8 (List.getD y_12 49 (0 : Int))), (Value.int .u8 (List.getD y_12 50 (0 : Int))), (Value.int .u8 (List.getD y_12 51 (0 : Int))), (Value.int .u8 (List.getD y_12 52 (0 : Int))), (Value.int .u8 (List.getD y_12 53 (0 : Int))), (Value.int .u8 (List.getD y_12 54 (0 : Int))), (Value.int .u8 (List.getD y_12 55 (0 : Int))), (Value.int .u8 (List.getD y_12 56 (0 : Int))), (Value.int .u8 (List.getD y_12 57 (0 : Int))), (Value.int .u8 (List.getD y_12 58 (0 : Int))), (Value.int .u8 (List.getD y_12 59 (0 : Int))), (Value.int .u8 (List.getD y_12 60 (0 : Int))), (Value.int .u8 (List.getD y_12 61 (0 : Int))), (Value.int .u8 (List.getD y_12 62 (0 : Int))), (Value.int .u8 (List.getD y_12 63 (0 : Int))), (Value.int .u8 (List.getD y_12 64 (0 : Int)))] := e_12.2
 refine f119.j3_in ?_
 unfold f119.j3T
 refine split_any_e e (fun c12 e => ?_) (fun c12 e => ?_)
 · obtain ⟨y1, g2, e⟩ := bind_e e
   refine ⟨gi_le g2, gi_ltn g2 qe_12_0, ?_⟩
   obtain ⟨l3, g4, e⟩ := bind_e e
   replace g4 := Option.some.inj g4
   have q5 : List.length l3 = 65 := by rw [← g4, List.length_set]; exact qe_12_0
   obtain ⟨h6, w7, o8, t9⟩ := (O.ob 2 rfl).stArr0 (n := 65) (f := (fun n : Int => Value.int .u8 n)) (d := (0 : Int)) (v := (45 : Int)) O.s rfl (Nat.le_of_ble_eq_true rfl) qe_12_0 g2 trivial
   rw [g4] at o8
   refine ⟨h6, w7, ?_⟩
   have O10 := O.setV 2 rfl (cs' := [(Value.int .u8 (List.getD l3 0 (0 : Int))), (Value.int .u8 (List.getD l3 1 (0 : Int))), (Value.int .u8 (List.getD l3 2 (0 : Int))), (Value.int .u8 (List.getD l3 3 (0 : Int))), (Value.int .u8 (List.getD l3 4 (0 : Int))), (Value.int .u8 (List.getD l3 5 (0 : Int))), (Value.int .u8 (List.getD l3 6 (0 : Int))), (Value.int .u8 (List.getD l3 7 (0 : Int))), (Value.int .u8 (List.getD l3 8 (0 : Int))), (Value.int .u8 (List.getD l3 9 (0 : Int))), (Value.int .u8 (List.getD l3 10 (0 : Int))), (Value.int .u8 (List.getD l3 11 (0 : Int))), (Value.int .u8 (List.getD l3 12 (0 : Int))), (Value.int .u8 (List.getD l3 13 (0 : Int))), (Value.int .u8 (List.getD l3 14 (0 : Int))), (Value.int .u8 (List.getD l3 15 (0 : Int))), (Value.int .u8 (List.getD l3 16 (0 : Int))), (Value.int .u8 (List.getD l3 17 (0 : Int))), (Value.int .u8 (List.getD l3 18 (0 : Int))), (Value.int .u8 (List.getD l3 19 (0 : Int))), (Value.int .u8 (List.getD l3 20 (0 : Int))), (Value.int .u8 (List.getD l3 21 (0 : Int))), (Value.int .u8 (List.getD l3 22 (0 : Int))), (Value.int .u8 (List.getD l3 23 (0 : Int))), (Value.int .u8 (List.getD l3 24 (0 : Int))), (Value.int .u8 (List.getD l3 25 (0 : Int))), (Value.int .u8 (List.getD l3 26 (0 : Int))), (Value.int .u8 (List.getD l3 27 (0 : Int))), (Value.int .u8 (List.getD l3 28 (0 : Int))), (Value.int .u8 (List.getD l3 29 (0 : Int))), (Value.int .u8 (List.getD l3 30 (0 : Int))), (Value.int .u8 (List.getD l3 31 (0 : Int))), (Value.int .u8 (List.getD l3 32 (0 : Int))), (Value.int .u8 (List.getD l3 33 (0 : Int))), (Value.int .u8 (List.getD l3 34 (0 : Int))), (Value.int .u8 (List.getD l3 35 (0 : Int))), (Value.int .u8 (List.getD l3 36 (0 : Int))), (Value.int .u8 (List.getD l3 37 (0 : Int))), (Value.int .u8 (List.getD l3 38 (0 : Int))), (Value.int .u8 (List.getD l3 39 (0 : Int))), (Value.int .u8 (List.getD l3 40 (0 : Int))), (Value.int .u8 (List.getD l3 41 (0 : Int))), (Value.int .u8 (List.getD l3 42 (0 : Int))), (Value.int .u8 (List.getD l3 43 (0 : Int))), (Value.int .u8 (List.getD l3 44 (0 : Int))), (Value.int .u8 (List.getD l3 45 (0 : Int))), (Value.int .u8 (List.getD l3 46 (0 : Int))), (Value.int .u8 (List.getD l3 47 (0 : Int))), (Value.int .u8 (List.getD l3 48 (0 : Int))), (Value.int .u8 (List.getD l3 49 (0 : Int))), (Value.int .u8 (List.getD l3 50 (0 : Int))), (Value.int .u8 (List.getD l3 51 (0 : Int))), (Value.int .u8 (List.getD l3 52 (0 : Int))), (Value.int .u8 (List.getD l3 53 (0 : Int))), (Value.int .u8 (List.getD l3 54 (0 : Int))), (Value.int .u8 (List.getD l3 55 (0 : Int))), (Value.int .u8 (List.getD l3 56 (0 : Int))), (Value.int .u8 (List.getD l3 57 (0 : Int))), (Value.int .u8 (List.getD l3 58 (0 : Int))), (Value.int .u8 (List.getD l3 59 (0 : Int))), (Value.int .u8 (List.getD l3 60 (0 : Int))), (Value.int .u8 (List.getD l3 61 (0 : Int))), (Value.int .u8 (List.getD l3 62 (0 : Int))), (Value.int .u8 (List.getD l3 63 (0 : Int))), (Value.int .u8 (List.getD l3 64 (0 : Int)))]) o8 t9
   have O11 := O10.nm
   exact internal_strconv_formatBits.j4.walk (O11.pick [0, 1, 2]).nm rfl rfl ⟨q5, rfl⟩ tab e
 · exact internal_strconv_formatBits.j4.walk (O.pick [0, 1, 2]).nm rfl rfl ⟨qe_12_0, rfl⟩ tab e
inductive internal_strconv_formatBits.l1_k.Pt where
 | l1 (a_0 : List Int) (x_1 : Int) (b_3 : Bool) (b_4 : Bool) (a_10 : List Int) (s_11 : ByteArray) (y_12 : (List Int)) (x_13 : Int) (x_14 : Int) (x_15 : Int) (x_16 : Int)
noncomputable def internal_strconv_formatBits.l1_k.body (go : (p : internal_strconv_formatBits.l1_k.Pt) → Option ((List Int) × ByteArray)) : (p : internal_strconv_formatBits.l1_k.Pt) → Option ((List Int) × ByteArray)
 | .l1 a_0 x_1 b_3 b_4 a_10 s_11 y_12 x_13 x_14 x_15 x_16 => if x_1 ≥ x_15 then (Option.bind (gb (ByteArray.mk #[48, 49, 50, 51, 52, 53, 54, 55, 56, 57, 97, 98, 99, 100, 101, 102, 103, 104, 105, 106, 107, 108, 109, 110, 111, 112, 113, 114, 115, 116, 117, 118, 119, 120, 121, 122]) (bitsI .and .u64 x_1 x_16)) fun y1 => Option.bind (gi y_12 (IntKind.wrap .i64 (x_13 - (1 : Int)))) fun y7 => Option.bind (some (List.set y_12 (Int.toNat (IntKind.wrap .i64 (x_13 - (1 : Int)))) y1)) fun l9 => if 0 ≤ x_14 then ((go (.l1 a_0 (shrI .u64 x_1 x_14) b_3 b_4 a_10 s_11 l9 (IntKind.wrap .i64 (x_13 - (1 : Int))) x_14 x_15 x_16))) else none) else (Option.bind (gb (ByteArray.mk #[48, 49, 50, 51, 52, 53, 54, 55, 56, 57, 97, 98, 99, 100, 101, 102, 103, 104, 105, 106, 107, 108, 109, 110, 111, 112, 113, 114, 115, 116, 117, 118, 119, 120, 121, 122]) x_1) fun y19 => Option.bind (gi y_12 (IntKind.wrap .i64 (x_13 - (1 : Int)))) fun y25 => Option.bind (some (List.set y_12 (Int.toNat (IntKind.wrap .i64 (x_13 - (1 : Int)))) y19)) fun l27 => (internal_strconv_formatBits.j3 a_0 b_3 b_4 a_10 s_11 l27 (IntKind.wrap .i64 (x_13 - (1 : Int)))))
theorem internal_strconv_formatBits.l1_k.mono : MonoF (β := fun _ => ((List Int) × ByteArray)) internal_strconv_formatBits.l1_k.body := fun f g hfg p => match p with
 | .l1 a_0 x_1 b_3 b_4 a_10 s_11 y_12 x_13 x_14 x_15 x_16 => LeO.ite (LeO.bind (LeO.refl _) fun y1 => LeO.bind (LeO.refl _) fun y7 => LeO.bind (LeO.refl _) fun l9 => LeO.ite ((hfg _)) (LeO.refl _)) (LeO.bind (LeO.refl _) fun y19 => LeO.bind (LeO.refl _) fun y25 => LeO.bind (LeO.refl _) fun l27 => (LeO.refl _))
noncomputable def internal_strconv_formatBits.l1_k.go (p : internal_strconv_formatBits.l1_k.Pt) : Option ((List Int) × ByteArray) := fixF (β := fun _ => ((List Int) × ByteArray)) internal_strconv_formatBits.l1_k.body p
noncomputable def internal_strconv_formatBits.l1 (a_0 x_1 b_3 b_4 a_10 s_11 y_12 x_13 x_14 x_15 x_16) := internal_strconv_formatBits.l1_k.go (.l1 a_0 x_1 b_3 b_4 a_10 s_11 y_12 x_13 x_14 x_15 x_16)
theorem internal_strconv_formatBits.l1_eq (a_0 x_1 b_3 b_4 a_10 s_11 y_12 x_13 x_14 x_15 x_16) : internal_strconv_formatBits.l1 a_0 x_1 b_3 b_4 a_10 s_11 y_12 x_13 x_14 x_15 x_16 = if x_1 ≥ x_15 then (Option.bind (gb (ByteArray.mk #[48, 49, 50, 51, 52, 53, 54, 55, 56, 57, 97, 98, 99, 100, 101, 102, 103, 104, 105, 106, 107, 108, 109, 110, 111, 112, 113, 114, 115, 116, 117, 118, 119, 120, 121, 122]) (bitsI .and .u64 x_1 x_16)) fun y1 => Option.bind (gi y_12 (IntKind.wrap .i64 (x_13 - (1 : Int)))) fun y7 => Option.bind (some (List.set y_12 (Int.toNat (IntKind.wrap .i64 (x_13 - (1 : Int)))) y1)) fun l9 => if 0 ≤ x_14 then ((internal_strconv_formatBits.l1 a_0 (shrI .u64 x_1 x_14) b_3 b_4 a_10 s_11 l9 (IntKind.wrap .i64 (x_13 - (1 : Int))) x_14 x_15 x_16)) else none) else (Option.bind (gb (ByteArray.mk #[48, 49, 50, 51, 52, 53, 54, 55, 56, 57, 97, 98, 99, 100, 101, 102, 103, 104, 105, 106, 107, 108, 109, 110, 111, 112, 113, 114, 115, 116, 117, 118, 119, 120, 121, 122]) x_1) fun y19 => Option.bind (gi y_12 (IntKind.wrap .i64 (x_13 - (1 : Int)))) fun y25 => Option.bind (some (List.set y_12 (Int.toNat (IntKind.wrap .i64 (x_13 - (1 : Int)))) y19)) fun l27 => (internal_strconv_formatBits.j3 a_0 b_3 b_4 a_10 s_11 l27 (IntKind.wrap .i64 (x_13 - (1 : Int))))) := fixF_eq internal_strconv_formatBits.l1_k.mono _
def internal_strconv_formatBits.l1_k.I : (p : internal_strconv_formatBits.l1_k.Pt) → ((List Int) × ByteArray) → Prop
 | .l1 a_0 x_1 b_3 b_4 a_10 s_11 y_12 x_13 x_14 x_15 x_16, r => ∀ {W h0 m0 h m A_0 n_0 c_0 A_10 n_10 c_10 bk_12 cs_12} (O : Hold W h0 m0 h m [rR (aE (tell_int .u8)) A_0 c_0 a_0, rR (aE (tell_int .u8)) A_10 c_10 a_10, rV bk_12 195 cs_12]) (ne_0 : n_0 = List.length a_0) (ne_10 : n_10 = List.length a_10) (e_12 : (eArr 65 (fun n : Int => Value.int .u8 n) (0 : Int)) m y_12 cs_12) (tab : TB m), f119.l1 (internal_strconv_formatBits.post W h0 m0 r) A_0 n_0 c_0 x_1 b_3 b_4 A_10 n_10 c_10 s_11 (⟨bk_12, 0, none⟩ : Addr) x_13 x_14 x_15 x_16 h
set_option maxHeartbeats 4000000 in
theorem internal_strconv_formatBits.l1_k.step_l1 (go : (p : internal_strconv_formatBits.l1_k.Pt) → Option ((List Int) × ByteArray)) (ih : ∀ p r, go p = some r → internal_strconv_formatBits.l1_k.I p r) (a_0 x_1 b_3 b_4 a_10 s_11 y_12 x_13 x_14 x_15 x_16) (r) (e : internal_strconv_formatBits.l1_k.body go (.l1 a_0 x_1 b_3 b_4 a_10 s_11 y_12 x_13 x_14 x_15 x_16) = some r) : internal_strconv_formatBits.l1_k.I (.l1 a_0 x_1 b_3 b_4 a_10 s_11 y_12 x_13 x_14 x_15 x_16) r := by
 unfold internal_strconv_formatBits.l1_k.body at e
 intro W h0 m0 h m A_0 n_0 c_0 A_10 n_10 c_10 bk_12 cs_12 O ne_0 ne_10 e_12 tab
 subst ne_0
 subst ne_10
 have qe_12_0 := e_12.1
 obtain rfl : cs_12 = [(Value.int .u8 (List.getD y_12 0 (0 : Int))), (Value.int .u8 (List.getD y_12 1 (0 : Int))), (Value.int .u8 (List.getD y_12 2 (0 : Int))), (Value.int .u8 (List.getD y_12 3 (0 : Int))), (Value.int .u8 (List.getD y_12 4 (0 : Int))), (Value.int .u8 (List.getD y_12 5 (0 : Int))), (Value.int .u8 (List.getD y_12 6 (0 : Int))), (Value.int .u8 (List.getD y_12 7 (0 : Int))), (Value.int .u8 (List.getD y_12 8 (0 : Int))), (Value.int .u8 (List.getD y_12 9 (0 : Int))), (Value.int .u8 (List.getD y_12 10 (0 : Int))), (Value.int .u8 (List.getD y_12 11 (0 : Int))), (Value.int .u8 (List.getD y_12 12 (0 : Int))), (Value.int .u8 (List.getD y_12 13 (0 : Int))), (Value.int .u8 (List.getD y_12 14 (0 : Int))), (Value.int .u8 (List.getD y_12 15 (0 : Int))), (Value.int .u8 (List.getD y_12 16 (0 : Int))), (Value.int .u8 (List.getD y_12 17 (0 : Int))), (Value.int .u8 (List.getD y_12 18 (0 : Int))), (Value.int .u8 (List.getD y_12 19 (0 : Int))), (Value.int .u8 (List.getD y_12 20 (0 : Int))), (Value.int .u8 (List.getD y_12 21 (0 : Int))), (Value.int .u8 (List.getD y_12 22 (0 : Int))), (Value.int .u8 (List.getD y_12 23 (0 : Int))), (Value.int .u8 (List.getD y_12 24 (0 : Int))), (Value.int .u8 (List.getD y_12 25 (0 : Int))), (Value.int .u8 (List.getD y_12 26 (0 : Int))), (Value.int .u8 (List.getD y_12 27 (0 : Int))), (Value.int .u8 (List.getD y_12 28 (0 : Int))), (Value.int .u8 (List.getD y_12 29 (0 : Int))), (Value.int .u8 (List.getD y_12 30 (0 : Int))), (Value.int .u8 (List.getD y_12 31 (0 : Int))), (Value.int .u8 (List.getD y_12 32 (0 : Int))), (Value.int .u8 (List.getD y_12 33 (0 : Int))), (Value.int .u8 (List.getD y_12 34 (0 : Int))), (Value.int .u8 (List.getD y_12 35 (0 : Int))), (Value.int .u8 (List.getD y_12 36 (0 : Int))), (Value.int .u8 (List.getD y_12 37 (0 : Int))), (Value.int .u8 (List.getD y_12 38 (0 : Int))), (Value.int .u8 (List.getD y_12 39 (0 : Int))), (Value.int .u8 (List.getD y_12 40 (0 : Int))), (Value.int .u8 (List.getD y_12 41 (0 : Int))), (Value.int .u8 (List.getD y_12 42 (0 : Int))), (Value.int .u8 (List.getD y_12 43 (0 : Int))), (Value.int .u8 (List.getD y_12 44 (0 : Int))), (Value.int .u8 (List.getD y_12 45 (0 : Int))), (Value.int .u8 (List.getD y_12 46 (0 : Int))), (Value.int .u8 (List.getD y_12 47 (0 : Int))), (Value.int .u8 (List.getD y_12 48 (0 : Int))), (Value.int .u8 (List.getD y_12 49 (0 : Int))), (Value.int .u8 (List.getD y_12 50 (0 : Int))), (Value.int .u8 (List.getD y_12 51 (0 : Int))), (Value.int .u8 (List.getD y_12 52 (0 : Int))), (Value.int .u8 (List.getD y_12 53 (0 : Int))), (Value.int .u8 (List.getD y_12 54 (0 : Int))), (Value.int .u8 (List.getD y_12 55 (0 : Int))), (Value.int .u8 (List.getD y_12 56 (0 : Int))), (Value.int .u8 (List.getD y_12 57 (0 : Int))), (Value.int .u8 (List.getD y_12 58 (0 : Int))), (Value.int .u8 (List.getD y_12 59 (0 : Int))), (Value.int .u8 (List.getD y_12 60 (0 : Int))), (Value.int .u8 (List.getD y_12 61 (0 : Int))), (Value.int .u8 (List.getD y_12 62 (0 : Int))), (Value.int .u8 (List.getD y_12 63 (0 : Int))), (Value.int .u8 (List.getD y_12 64 (0 : Int)))] := e_12.2
 refine f119.l1_in ?_
 unfold f119.l1T
 refine split_dec_e e (fun c36 e => ?_) (fun c36 e => ?_)
 · obtain ⟨y1, g2, e⟩ := bind_e e
   obtain ⟨q3, b4, q5, q6⟩ := gb_e g2
   refine ⟨q3, _, q5, ?_⟩
   try rw [← q6]
   obtain ⟨y7, g8, e⟩ := bind_e e
   refine ⟨gi_le g8, gi_ltn g8 qe_12_0, ?_⟩
   obtain ⟨l9, g10, e⟩ := bind_e e
   replace g10 := Option.some.inj g10
   have q11 : List.length l9 = 65 := by rw [← g10, List.length_set]; exact qe_12_0
   obtain ⟨h12, w13, o14, t15⟩ := (O.ob 2 rfl).stArr0 (n := 65) (f := (fun n : Int => Value.int .u8 n)) (d := (0 : Int)) (v := y1) O.s rfl (Nat.le_of_ble_eq_true rfl) qe_12_0 g8 trivial
   rw [g10] at o14
   refine ⟨h12, w13, ?_⟩
   have O16 := O.setV 2 rfl (cs' := [(Value.int .u8 (List.getD l9 0 (0 : Int))), (Value.int .u8 (List.getD l9 1 (0 : Int))), (Value.int .u8 (List.getD l9 2 (0 : Int))), (Value.int .u8 (List.getD l9 3 (0 : Int))), (Value.int .u8 (List.getD l9 4 (0 : Int))), (Value.int .u8 (List.getD l9 5 (0 : Int))), (Value.int .u8 (List.getD l9 6 (0 : Int))), (Value.int .u8 (List.getD l9 7 (0 : Int))), (Value.int .u8 (List.getD l9 8 (0 : Int))), (Value.int .u8 (List.getD l9 9 (0 : Int))), (Value.int .u8 (List.getD l9 10 (0 : Int))), (Value.int .u8 (List.getD l9 11 (0 : Int))), (Value.int .u8 (List.getD l9 12 (0 : Int))), (Value.int .u8 (List.getD l9 13 (0 : Int))), (Value.int .u8 (List.getD l9 14 (0 : Int))), (Value.int .u8 (List.getD l9 15 (0 : Int))), (Value.int .u8 (List.getD l9 16 (0 : Int))), (Value.int .u8 (List.getD l9 17 (0 : Int))), (Value.int .u8 (List.getD l9 18 (0 : Int))), (Value.int .u8 (List.getD l9 19 (0 : Int))), (Value.int .u8 (List.getD l9 20 (0 : Int))), (Value.int .u8 (List.getD l9 21 (0 : Int))), (Value.int .u8 (List.getD l9 22 (0 : Int))), (Value.int .u8 (List.getD l9 23 (0 : Int))), (Value.int .u8 (List.getD l9 24 (0 : Int))), (Value.int .u8 (List.getD l9 25 (0 : Int))), (Value.int .u8 (List.getD l9 26 (0 : Int))), (Value.int .u8 (List.getD l9 27 (0 : Int))), (Value.int .u8 (List.getD l9 28 (0 : Int))), (Value.int .u8 (List.getD l9 29 (0 : Int))), (Value.int .u8 (List.getD l9 30 (0 : Int))), (Value.int .u8 (List.getD l9 31 (0 : Int))), (Value.int .u8 (List.getD l9 32 (0 : Int))), (Value.int .u8 (List.getD l9 33 (0 : Int))), (Value.int .u8 (List.getD l9 34 (0 : Int))), (Value.int .u8 (List.getD l9 35 (0 : Int))), (Value.int .u8 (List.getD l9 36 (0 : Int))), (Value.int .u8 (List.getD l9 37 (0 : Int))), (Value.int .u8 (List.getD l9 38 (0 : Int))), (Value.int .u8 (List.getD l9 39 (0 : Int))), (Value.int .u8 (List.getD l9 40 (0 : Int))), (Value.int .u8 (List.getD l9 41 (0 : Int))), (Value.int .u8 (List.getD l9 42 (0 : Int))), (Value.int .u8 (List.getD l9 43 (0 : Int))), (Value.int .u8 (List.getD l9 44 (0 : Int))), (Value.int .u8 (List.getD l9 45 (0 : Int))), (Value.int .u8 (List.getD l9 46 (0 : Int))), (Value.int .u8 (List.getD l9 47 (0 : Int))), (Value.int .u8 (List.getD l9 48 (0 : Int))), (Value.int .u8 (List.getD l9 49 (0 : Int))), (Value.int .u8 (List.getD l9 50 (0 : Int))), (Value.int .u8 (List.getD l9 51 (0 : Int))), (Value.int .u8 (List.getD l9 52 (0 : Int))), (Value.int .u8 (List.getD l9 53 (0 : Int))), (Value.int .u8 (List.getD l9 54 (0 : Int))), (Value.int .u8 (List.getD l9 55 (0 : Int))), (Value.int .u8 (List.getD l9 56 (0 : Int))), (Value.int .u8 (List.getD l9 57 (0 : Int))), (Value.int .u8 (List.getD l9 58 (0 : Int))), (Value.int .u8 (List.getD l9 59 (0 : Int))), (Value.int .u8 (List.getD l9 60 (0 : Int))), (Value.int .u8 (List.getD l9 61 (0 : Int))), (Value.int .u8 (List.getD l9 62 (0 : Int))), (Value.int .u8 (List.getD l9 63 (0 : Int))), (Value.int .u8 (List.getD l9 64 (0 : Int)))]) o14 t15
   obtain ⟨g17, e⟩ := guard_e e
   refine ⟨g17, ?_⟩
   have O18 := O16.nm
   exact (ih _ _ e) (O18.pick [0, 1, 2]).nm rfl rfl ⟨q11, rfl⟩ tab
 · obtain ⟨y19, g20, e⟩ := bind_e e
   obtain ⟨q21, b22, q23, q24⟩ := gb_e g20
   refine ⟨q21, _, q23, ?_⟩
   try rw [← q24]
   obtain ⟨y25, g26, e⟩ := bind_e e
   refine ⟨gi_le g26, gi_ltn g26 qe_12_0, ?_⟩
   obtain ⟨l27, g28, e⟩ := bind_e e
   replace g28 := Option.some.inj g28
   have q29 : List.length l27 = 65 := by rw [← g28, List.length_set]; exact qe_12_0
   obtain ⟨h30, w31, o32, t33⟩ := (O.ob 2 rfl).stArr0 (n := 65) (f := (fun n : Int => Value.int .u8 n)) (d := (0 : Int)) (v := y19) O.s rfl (Nat.le_of_ble_eq_true rfl) qe_12_0 g26 trivial
   rw [g28] at o32
   refine ⟨h30, w31, ?_⟩
   have O34 := O.setV 2 rfl (cs' := [(Value.int .u8 (List.getD l27 0 (0 : Int))), (Value.int .u8 (List.getD l27 1 (0 : Int))), (Value.int .u8 (List.getD l27 2 (0 : Int))), (Value.int .u8 (List.getD l27 3 (0 : Int))), (Value.int .u8 (List.getD l27 4 (0 : Int))), (Value.int .u8 (List.getD l27 5 (0 : Int))), (Value.int .u8 (List.getD l27 6 (0 : Int))), (Value.int .u8 (List.getD l27 7 (0 : Int))), (Value.int .u8 (List.getD l27 8 (0 : Int))), (Value.int .u8 (List.getD l27 9 (0 : Int))), (Value.int .u8 (List.getD l27 10 (0 : Int))), (Value.int .u8 (List.getD l27 11 (0 : Int))), (Value.int .u8 (List.getD l27 12 (0 : Int))), (Value.int .u8 (List.getD l27 13 (0 : Int))), (Value.int .u8 (List.getD l27 14 (0 : Int))), (Value.int .u8 (List.getD l27 15 (0 : Int))), (Value.int .u8 (List.getD l27 16 (0 : Int))), (Value.int .u8 (List.getD l27 17 (0 : Int))), (Value.int .u8 (List.getD l27 18 (0 : Int))), (Value.int .u8 (List.getD l27 19 (0 : Int))), (Value.int .u8 (List.getD l27 20 (0 : Int))), (Value.int .u8 (List.getD l27 21 (0 : Int))), (Value.int .u8 (List.getD l27 22 (0 : Int))), (Value.int .u8 (List.getD l27 23 (0 : Int))), (Value.int .u8 (List.getD l27 24 (0 : Int))), (Value.int .u8 (List.getD l27 25 (0 : Int))), (Value.int .u8 (List.getD l27 26 (0 : Int))), (Value.int .u8 (List.getD l27 27 (0 : Int))), (Value.int .u8 (List.getD l27 28 (0 : Int))), (Value.int .u8 (List.getD l27 29 (0 : Int))), (Value.int .u8 (List.getD l27 30 (0 : Int))), (Value.int .u8 (List.getD l27 31 (0 : Int))), (Value.int .u8 (List.getD l27 32 (0 : Int))), (Value.int .u8 (List.getD l27 33 (0 : Int))), (Value.int .u8 (List.getD l27 34 (0 : Int))), (Value.int .u8 (List.getD l27 35 (0 : Int))), (Value.int .u8 (List.getD l27 36 (0 : Int))), (Value.int .u8 (List.getD l27 37 (0 : Int))), (Value.int .u8 (List.getD l27 38 (0 : Int))), (Value.int .u8 (List.getD l27 39 (0 : Int))), (Value.int .u8 (List.getD l27 40 (0 : Int))), (Value.int .u8 (List.getD l27 41 (0 : Int))), (Value.int .u8 (List.getD l27 42 (0 : Int))), (Value.int .u8 (List.getD l27 43 (0 : Int))), (Value.int .u8 (List.getD l27 44 (0 : Int))), (Value.int .u8 (List.getD l27 45 (0 : Int))), (Value.int .u8 (List.getD l27 46 (0 : Int))), (Value.int .u8 (List.getD l27 47 (0 : Int))), (Value.int .u8 (List.getD l27 48 (0 : Int))), (Value.int .u8 (List.getD l27 49 (0 : Int))), (Value.int .u8 (List.getD l27 50 (0 : Int))), (Value.int .u8 (List.getD l27 51 (0 : Int))), (Value.int .u8 (List.getD l27 52 (0 : Int))), (Value.int .u8 (List.getD l27 53 (0 : Int))), (Value.int .u8 (List.getD l27 54 (0 : Int))), (Value.int .u8 (List.getD l27 55 (0 : Int))), (Value.int .u8 (List.getD l27 56 (0 : Int))), (Value.int .u8 (List.getD l27 57 (0 : Int))), (Value.int .u8 (List.getD l27 58 (0 : Int))), (Value.int .u8 (List.getD l27 59 (0 : Int))), (Value.int .u8 (List.getD l27 60 (0 : Int))), (Value.int .u8 (List.getD l27 61 (0 : Int))), (Value.int .u8 (List.getD l27 62 (0 : Int))), (Value.int .u8 (List.getD l27 63 (0 : Int))), (Value.int .u8 (List.getD l27 64 (0 : Int)))]) o32 t33
   have O35 := O34.nm
   exact internal_strconv_formatBits.j3.walk (O35.pick [0, 1, 2]).nm rfl rfl ⟨q29, rfl⟩ tab e
theorem internal_strconv_formatBits.l1_k.all {p : internal_strconv_formatBits.l1_k.Pt} {r : ((List Int) × ByteArray)} (e : internal_strconv_formatBits.l1_k.go p = some r) : internal_strconv_formatBits.l1_k.I p r := fixF_ind (β := fun _ => ((List Int) × ByteArray)) internal_strconv_formatBits.l1_k.mono (I := internal_strconv_formatBits.l1_k.I) (fun go ih p r e => match p with
 | .l1 a_0 x_1 b_3 b_4 a_10 s_11 y_12 x_13 x_14 x_15 x_16 => internal_strconv_formatBits.l1_k.step_l1 go ih a_0 x_1 b_3 b_4 a_10 s_11 y_12 x_13 x_14 x_15 x_16 r e
 ) e
inductive internal_strconv_formatBits.l0_k.Pt where
 | l0 (a_0 : List Int) (x_1 : Int) (b_3 : Bool) (b_4 : Bool) (a_10 : List Int) (s_11 : ByteArray) (y_12 : (List Int)) (x_13 : Int) (x_17 : Int)
noncomputable def internal_strconv_formatBits.l0_k.body (go : (p : internal_strconv_formatBits.l0_k.Pt) → Option ((List Int) × ByteArray)) : (p : internal_strconv_formatBits.l0_k.Pt) → Option ((List Int) × ByteArray)
 | .l0 a_0 x_1 b_3 b_4 a_10 s_11 y_12 x_13 x_17 => if x_1 ≥ x_17 then (if x_17 ≠ 0 then (Option.bind (gb (ByteArray.mk #[48, 49, 50, 51, 52, 53, 54, 55, 56, 57, 97, 98, 99, 100, 101, 102, 103, 104, 105, 106, 107, 108, 109, 110, 111, 112, 113, 114, 115, 116, 117, 118, 119, 120, 121, 122]) (IntKind.wrap .u64 (x_1 - (IntKind.wrap .u64 ((IntKind.wrap .u64 (Int.tdiv x_1 x_17)) * x_17))))) fun y2 => Option.bind (gi y_12 (IntKind.wrap .i64 (x_13 - (1 : Int)))) fun y8 => Option.bind (some (List.set y_12 (Int.toNat (IntKind.wrap .i64 (x_13 - (1 : Int)))) y2)) fun l10 => (go (.l0 a_0 (IntKind.wrap .u64 (Int.tdiv x_1 x_17)) b_3 b_4 a_10 s_11 l10 (IntKind.wrap .i64 (x_13 - (1 : Int))) x_17))) else none) else (Option.bind (gb (ByteArray.mk #[48, 49, 50, 51, 52, 53, 54, 55, 56, 57, 97, 98, 99, 100, 101, 102, 103, 104, 105, 106, 107, 108, 109, 110, 111, 112, 113, 114, 115, 116, 117, 118, 119, 120, 121, 122]) x_1) fun y19 => Option.bind (gi y_12 (IntKind.wrap .i64 (x_13 - (1 : Int)))) fun y25 => Option.bind (some (List.set y_12 (Int.toNat (IntKind.wrap .i64 (x_13 - (1 : Int)))) y19)) fun l27 => (internal_strconv_formatBits.j3 a_0 b_3 b_4 a_10 s_11 l27 (IntKind.wrap .i64 (x_13 - (1 : Int)))))
theorem internal_strconv_formatBits.l0_k.mono : MonoF (β := fun _ => ((List Int) × ByteArray)) internal_strconv_formatBits.l0_k.body := fun f g hfg p => match p with
 | .l0 a_0 x_1 b_3 b_4 a_10 s_11 y_12 x_13 x_17 => LeO.ite (LeO.ite (LeO.bind (LeO.refl _) fun y2 => LeO.bind (LeO.refl _) fun y8 => LeO.bind (LeO.refl _) fun l10 => (hfg _)) (LeO.refl _)) (LeO.bind (LeO.refl _) fun y19 => LeO.bind (LeO.refl _) fun y25 => LeO.bind (LeO.refl _) fun l27 => (LeO.refl _))
noncomputable def internal_strconv_formatBits.l0_k.go (p : internal_strconv_formatBits.l0_k.Pt) : Option ((List Int) × ByteArray) := fixF (β := fun _ => ((List Int) × ByteArray)) internal_strconv_formatBits.l0_k.body p
noncomputable def internal_strconv_formatBits.l0 (a_0 x_1 b_3 b_4 a_10 s_11 y_12 x_13 x_17) := internal_strconv_formatBits.l0_k.go (.l0 a_0 x_1 b_3 b_4 a_10 s_11 y_12 x_13 x_17)
def internal_strconv_formatBits.l0_k.I : (p : internal_strconv_formatBits.l0_k.Pt) → ((List Int) × ByteArray) → Prop
 | .l0 a_0 x_1 b_3 b_4 a_10 s_11 y_12 x_13 x_17, r => ∀ {W h0 m0 h m A_0 n_0 c_0 A_10 n_10 c_10 bk_12 cs_12} (O : Hold W h0 m0 h m [rR (aE (tell_int .u8)) A_0 c_0 a_0, rR (aE (tell_int .u8)) A_10 c_10 a_10, rV bk_12 195 cs_12]) (ne_0 : n_0 = List.length a_0) (ne_10 : n_10 = List.length a_10) (e_12 : (eArr 65 (fun n : Int => Value.int .u8 n) (0 : Int)) m y_12 cs_12) (tab : TB m), f119.l0 (internal_strconv_formatBits.post W h0 m0 r) A_0 n_0 c_0 x_1 b_3 b_4 A_10 n_10 c_10 s_11 (⟨bk_12, 0, none⟩ : Addr) x_13 x_17 h
set_option maxHeartbeats 4000000 in
theorem internal_strconv_formatBits.l0_k.step_l0 (go : (p : internal_strconv_formatBits.l0_k.Pt) → Option ((List Int) × ByteArray)) (ih : ∀ p r, go p = some r → internal_strconv_formatBits.l0_k.I p r) (a_0 x_1 b_3 b_4 a_10 s_11 y_12 x_13 x_17) (r) (e : internal_strconv_formatBits.l0_k.body go (.l0 a_0 x_1 b_3 b_4 a_10 s_11 y_12 x_13 x_17) = some r) : internal_strconv_formatBits.l0_k.I (.l0 a_0 x_1 b_3 b_4 a_10 s_11 y_12 x_13 x_17) r := by
 unfold internal_strconv_formatBits.l0_k.body at e
 intro W h0 m0 h m A_0 n_0 c_0 A_10 n_10 c_10 bk_12 cs_12 O ne_0 ne_10 e_12 tab
 subst ne_0
 subst ne_10
 have qe_12_0 := e_12.1
 obtain rfl : cs_12 = [(Value.int .u8 (List.getD y_12 0 (0 : Int))), (Value.int .u8 (List.getD y_12 1 (0 : Int))), (Value.int .u8 (List.getD y_12 2 (0 : Int))), (Value.int .u8 (List.getD y_12 3 (0 : Int))), (Value.int .u8 (List.getD y_12 4 (0 : Int))), (Value.int .u8 (List.getD y_12 5 (0 : Int))), (Value.int .u8 (List.getD y_12 6 (0 : Int))), (Value.int .u8 (List.getD y_12 7 (0 : Int))), (Value.int .u8 (List.getD y_12 8 (0 : Int))), (Value.int .u8 (List.getD y_12 9 (0 : Int))), (Value.int .u8 (List.getD y_12 10 (0 : Int))), (Value.int .u8 (List.getD y_12 11 (0 : Int))), (Value.int .u8 (List.getD y_12 12 (0 : Int))), (Value.int .u8 (List.getD y_12 13 (0 : Int))), (Value.int .u8 (List.getD y_12 14 (0 : Int))), (Value.int .u8 (List.getD y_12 15 (0 : Int))), (Value.int .u8 (List.getD y_12 16 (0 : Int))), (Value.int .u8 (List.getD y_12 17 (0 : Int))), (Value.int .u8 (List.getD y_12 18 (0 : Int))), (Value.int .u8 (List.getD y_12 19 (0 : Int))), (Value.int .u8 (List.getD y_12 20 (0 : Int))), (Value.int .u8 (List.getD y_12 21 (0 : Int))), (Value.int .u8 (List.getD y_12 22 (0 : Int))), (Value.int .u8 (List.getD y_12 23 (0 : Int))), (Value.int .u8 (List.getD y_12 24 (0 : Int))), (Value.int .u8 (List.getD y_12 25 (0 : Int))), (Value.int .u8 (List.getD y_12 26 (0 : Int))), (Value.int .u8 (List.getD y_12 27 (0 : Int))), (Value.int .u8 (List.getD y_12 28 (0 : Int))), (Value.int .u8 (List.getD y_12 29 (0 : Int))), (Value.int .u8 (List.getD y_12 30 (0 : Int))), (Value.int .u8 (List.getD y_12 31 (0 : Int))), (Value.int .u8 (List.getD y_12 32 (0 : Int))), (Value.int .u8 (List.getD y_12 33 (0 : Int))), (Value.int .u8 (List.getD y_12 34 (0 : Int))), (Value.int .u8 (List.getD y_12 35 (0 : Int))), (Value.int .u8 (List.getD y_12 36 (0 : Int))), (Value.int .u8 (List.getD y_12 37 (0 : Int))), (Value.int .u8 (List.getD y_12 38 (0 : Int))), (Value.int .u8 (List.getD y_12 39 (0 : Int))), (Value.int .u8 (List.getD y_12 40 (0 : Int))), (Value.int .u8 (List.getD y_12 41 (0 : Int))), (Value.int .u8 (List.getD y_12 42 (0 : Int))), (Value.int .u8 (List.getD y_12 43 (0 : Int))), (Value.int .u8 (List.getD y_12 44 (0 : Int))), (Value.int .u8 (List.getD y_12 45 (0 : Int))), (Value.int .u8 (List.getD y_12 46 (0 : Int))), (Value.int .u8 (List.getD y_12 47 (0 : Int))), (Value.int .u8 (List.getD y_12 48 (0 : Int))), (Value.int .u8 (List.getD y_12 49 (0 : Int))), (Value.int .u8 (List.getD y_12 50 (0 : Int))), (Value.int .u8 (List.getD y_12 51 (0 : Int))), (Value.int .u8 (List.getD y_12 52 (0 : Int))), (Value.int .u8 (List.getD y_12 53 (0 : Int))), (Value.int .u8 (List.getD y_12 54 (0 : Int))), (Value.int .u8 (List.getD y_12 55 (0 : Int))), (Value.int .u8 (List.getD y_12 56 (0 : Int))), (Value.int .u8 (List.getD y_12 57 (0 : Int))), (Value.int .u8 (List.getD y_12 58 (0 : Int))), (Value.int .u8 (List.getD y_12 59 (0 : Int))), (Value.int .u8 (List.getD y_12 60 (0 : Int))), (Value.int .u8 (List.getD y_12 61 (0 : Int))), (Value.int .u8 (List.getD y_12 62 (0 : Int))), (Value.int .u8 (List.getD y_12 63 (0 : Int))), (Value.int .u8 (List.getD y_12 64 (0 : Int)))] := e_12.2
 refine f119.l0_in ?_
 unfold f119.l0T
 refine split_dec_e e (fun c36 e => ?_) (fun c36 e => ?_)
 · obtain ⟨g1, e⟩ := guard_e e
   refine ⟨g1, ?_⟩
   obtain ⟨y2, g3, e⟩ := bind_e e
   obtain ⟨q4, b5, q6, q7⟩ := gb_e g3
   refine ⟨q4, _, q6, ?_⟩
   try rw [← q7]
   obtain ⟨y8, g9, e⟩ := bind_e e
   refine ⟨gi_le g9, gi_ltn g9 qe_12_0, ?_⟩
   obtain ⟨l10, g11, e⟩ := bind_e e
   replace g11 := Option.some.inj g11
   have q12 : List.length l10 = 65 := by rw [← g11, List.length_set]; exact qe_12_0
   obtain ⟨h13, w14, o15, t16⟩ := (O.ob 2 rfl).stArr0 (n := 65) (f := (fun n : Int => Value.int .u8 n)) (d := (0 : Int)) (v := y2) O.s rfl (Nat.le_of_ble_eq_true rfl) qe_12_0 g9 trivial
   rw [g11] at o15
   refine ⟨h13, w14, ?_⟩
   have O17 := O.setV 2 rfl (cs' := [(Value.int .u8 (List.getD l10 0 (0 : Int))), (Value.int .u8 (List.getD l10 1 (0 : Int))), (Value.int .u8 (List.getD l10 2 (0 : Int))), (Value.int .u8 (List.getD l10 3 (0 : Int))), (Value.int .u8 (List.getD l10 4 (0 : Int))), (Value.int .u8 (List.getD l10 5 (0 : Int))), (Value.int .u8 (List.getD l10 6 (0 : Int))), (Value.int .u8 (List.getD l10 7 (0 : Int))), (Value.int .u8 (List.getD l10 8 (0 : Int))), (Value.int .u8 (List.getD l10 9 (0 : Int))), (Value.int .u8 (List.getD l10 10 (0 : Int))), (Value.int .u8 (List.getD l10 11 (0 : Int))), (Value.int .u8 (List.getD l10 12 (0 : Int))), (Value.int .u8 (List.getD l10 13 (0 : Int))), (Value.int .u8 (List.getD l10 14 (0 : Int))), (Value.int .u8 (List.getD l10 15 (0 : Int))), (Value.int .u8 (List.getD l10 16 (0 : Int))), (Value.int .u8 (List.getD l10 17 (0 : Int))), (Value.int .u8 (List.getD l10 18 (0 : Int))), (Value.int .u8 (List.getD l10 19 (0 : Int))), (Value.int .u8 (List.getD l10 20 (0 : Int))), (Value.int .u8 (List.getD l10 21 (0 : Int))), (Value.int .u8 (List.getD l10 22 (0 : Int))), (Value.int .u8 (List.getD l10 23 (0 : Int))), (Value.int .u8 (List.getD l10 24 (0 : Int))), (Value.int .u8 (List.getD l10 25 (0 : Int))), (Value.int .u8 (List.getD l10 26 (0 : Int))), (Value.int .u8 (List.getD l10 27 (0 : Int))), (Value.int .u8 (List.getD l10 28 (0 : Int))), (Value.int .u8 (List.getD l10 29 (0 : Int))), (Value.int .u8 (List.getD l10 30 (0 : Int))), (Value.int .u8 (List.getD l10 31 (0 : Int))), (Value.int .u8 (List.getD l10 32 (0 : Int))), (Value.int .u8 (List.getD l10 33 (0 : Int))), (Value.int .u8 (List.getD l10 34 (0 : Int))), (Value.int .u8 (List.getD l10 35 (0 : Int))), (Value.int .u8 (List.getD l10 36 (0 : Int))), (Value.int .u8 (List.getD l10 37 (0 : Int))), (Value.int .u8 (List.getD l10 38 (0 : Int))), (Value.int .u8 (List.getD l10 39 (0 : Int))), (Value.int .u8 (List.getD l10 40 (0 : Int))), (Value.int .u8 (List.getD l10 41 (0 : Int))), (Value.int .u8 (List.getD l10 42 (0 : Int))), (Value.int .u8 (List.getD l10 43 (0 : Int))), (Value.int .u8 (List.getD l10 44 (0 : Int))), (Value.int .u8 (List.getD l10 45 (0 : Int))), (Value.int .u8 (List.getD l10 46 (0 : Int))), (Value.int .u8 (List.getD l10 47 (0 : Int))), (Value.int .u8 (List.getD l10 48 (0 : Int))), (Value.int .u8 (List.getD l10 49 (0 : Int))), (Value.int .u8 (List.getD l10 50 (0 : Int))), (Value.int .u8 (List.getD l10 51 (0 : Int))), (Value.int .u8 (List.getD l10 52 (0 : Int))), (Value.int .u8 (List.getD l10 53 (0 : Int))), (Value.int .u8 (List.getD l10 54 (0 : Int))), (Value.int .u8 (List.getD l10 55 (0 : Int))), (Value.int .u8 (List.getD l10 56 (0 : Int))), (Value.int .u8 (List.getD l10 57 (0 : Int))), (Value.int .u8 (List.getD l10 58 (0 : Int))), (Value.int .u8 (List.getD l10 59 (0 : Int))), (Value.int .u8 (List.getD l10 60 (0 : Int))), (Value.int .u8 (List.getD l10 61 (0 : Int))), (Value.int .u8 (List.getD l10 62 (0 : Int))), (Value.int .u8 (List.getD l10 63 (0 : Int))), (Value.int .u8 (List.getD l10 64 (0 : Int)))]) o15 t16
   have O18 := O17.nm
   exact (ih _ _ e) (O18.pick [0, 1, 2]).nm rfl rfl ⟨q12, rfl⟩ tab
 · obtain ⟨y19, g20, e⟩ := bind_e e
   obtain ⟨q21, b22, q23, q24⟩ := gb_e g20
   refine ⟨q21, _, q23, ?_⟩
   try rw [← q24]
   obtain ⟨y25, g26, e⟩ := bind_e e
   refine ⟨gi_le g26, gi_ltn g26 qe_12_0, ?_⟩
   obtain ⟨l27, g28, e⟩ := bind_e e
   replace g28 := Option.some.inj g28
   have q29 : List.length l27 = 65 := by rw [← g28, List.length_set]; exact qe_12_0
   obtain ⟨h30, w31, o32, t33⟩ := (O.ob 2 rfl).stArr0 (n := 65) (f := (fun n : Int => Value.int .u8 n)) (d := (0 : Int)) (v := y19) O.s rfl (Nat.le_of_ble_eq_true rfl) qe_12_0 g26 trivial
   rw [g28] at o32
   refine ⟨h30, w31, ?_⟩
   have O34 := O.setV 2 rfl (cs' := [(Value.int .u8 (List.getD l27 0 (0 : Int))), (Value.int .u8 (List.getD l27 1 (0 : Int))), (Value.int .u8 (List.getD l27 2 (0 : Int))), (Value.int .u8 (List.getD l27 3 (0 : Int))), (Value.int .u8 (List.getD l27 4 (0 : Int))), (Value.int .u8 (List.getD l27 5 (0 : Int))), (Value.int .u8 (List.getD l27 6 (0 : Int))), (Value.int .u8 (List.getD l27 7 (0 : Int))), (Value.int .u8 (List.getD l27 8 (0 : Int))), (Value.int .u8 (List.getD l27 9 (0 : Int))), (Value.int .u8 (List.getD l27 10 (0 : Int))), (Value.int .u8 (List.getD l27 11 (0 : Int))), (Value.int .u8 (List.getD l27 12 (0 : Int))), (Value.int .u8 (List.getD l27 13 (0 : Int))), (Value.int .u8 (List.getD l27 14 (0 : Int))), (Value.int .u8 (List.getD l27 15 (0 : Int))), (Value.int .u8 (List.getD l27 16 (0 : Int))), (Value.int .u8 (List.getD l27 17 (0 : Int))), (Value.int .u8 (List.getD l27 18 (0 : Int))), (Value.int .u8 (List.getD l27 19 (0 : Int))), (Value.int .u8 (List.getD l27 20 (0 : Int))), (Value.int .u8 (List.getD l27 21 (0 : Int))), (Value.int .u8 (List.getD l27 22 (0 : Int))), (Value.int .u8 (List.getD l27 23 (0 : Int))), (Value.int .u8 (List.getD l27 24 (0 : Int))), (Value.int .u8 (List.getD l27 25 (0 : Int))), (Value.int .u8 (List.getD l27 26 (0 : Int))), (Value.int .u8 (List.getD l27 27 (0 : Int))), (Value.int .u8 (List.getD l27 28 (0 : Int))), (Value.int .u8 (List.getD l27 29 (0 : Int))), (Value.int .u8 (List.getD l27 30 (0 : Int))), (Value.int .u8 (List.getD l27 31 (0 : Int))), (Value.int .u8 (List.getD l27 32 (0 : Int))), (Value.int .u8 (List.getD l27 33 (0 : Int))), (Value.int .u8 (List.getD l27 34 (0 : Int))), (Value.int .u8 (List.getD l27 35 (0 : Int))), (Value.int .u8 (List.getD l27 36 (0 : Int))), (Value.int .u8 (List.getD l27 37 (0 : Int))), (Value.int .u8 (List.getD l27 38 (0 : Int))), (Value.int .u8 (List.getD l27 39 (0 : Int))), (Value.int .u8 (List.getD l27 40 (0 : Int))), (Value.int .u8 (List.getD l27 41 (0 : Int))), (Value.int .u8 (List.getD l27 42 (0 : Int))), (Value.int .u8 (List.getD l27 43 (0 : Int))), (Value.int .u8 (List.getD l27 44 (0 : Int))), (Value.int .u8 (List.getD l27 45 (0 : Int))), (Value.int .u8 (List.getD l27 46 (0 : Int))), (Value.int .u8 (List.getD l27 47 (0 : Int))), (Value.int .u8 (List.getD l27 48 (0 : Int))), (Value.int .u8 (List.getD l27 49 (0 : Int))), (Value.int .u8 (List.getD l27 50 (0 : Int))), (Value.int .u8 (List.getD l27 51 (0 : Int))), (Value.int .u8 (List.getD l27 52 (0 : Int))), (Value.int .u8 (List.getD l27 53 (0 : Int))), (Value.int .u8 (List.getD l27 54 (0 : Int))), (Value.int .u8 (List.getD l27 55 (0 : Int))), (Value.int .u8 (List.getD l27 56 (0 : Int))), (Value.int .u8 (List.getD l27 57 (0 : Int))), (Value.int .u8 (List.getD l27 58 (0 : Int))), (Value.int .u8 (List.getD l27 59 (0 : Int))), (Value.int .u8 (List.getD l27 60 (0 : Int))), (Value.int .u8 (List.getD l27 61 (0 : Int))), (Value.int .u8 (List.getD l27 62 (0 : Int))), (Value.int .u8 (List.getD l27 63 (0 : Int))), (Value.int .u8 (List.getD l27 64 (0 : Int)))]) o32 t33
   have O35 := O34.nm
   exact internal_strconv_formatBits.j3.walk (O35.pick [0, 1, 2]).nm rfl rfl ⟨q29, rfl⟩ tab e
theorem internal_strconv_formatBits.l0_k.all {p : internal_strconv_formatBits.l0_k.Pt} {r : ((List Int) × ByteArray)} (e : internal_strconv_formatBits.l0_k.go p = some r) : internal_strconv_formatBits.l0_k.I p r := fixF_ind (β := fun _ => ((List Int) × ByteArray)) internal_strconv_formatBits.l0_k.mono (I := internal_strconv_formatBits.l0_k.I) (fun go ih p r e => match p with
 | .l0 a_0 x_1 b_3 b_4 a_10 s_11 y_12 x_13 x_17 => internal_strconv_formatBits.l0_k.step_l0 go ih a_0 x_1 b_3 b_4 a_10 s_11 y_12 x_13 x_17 r e
 ) e
noncomputable def internal_strconv_formatBits.j2 (a_0 : List Int) (x_1 : Int) (x_2 : Int) (b_3 : Bool) (b_4 : Bool) (a_10 : List Int) (s_11 : ByteArray) (y_12 : (List Int)) (x_13 : Int) : Option ((List Int) × ByteArray) :=
 Option.bind (internal_strconv_isPowerOfTwo x_2) fun y1 => if y1 = true then (Option.bind (math_bits_TrailingZeros (IntKind.wrap .u64 x_2)) fun y8 => (internal_strconv_formatBits.l1 a_0 x_1 b_3 b_4 a_10 s_11 y_12 x_13 (IntKind.wrap .u64 y8) (IntKind.wrap .u64 x_2) (IntKind.wrap .u64 ((IntKind.wrap .u64 x_2) - (1 : Int))))) else ((internal_strconv_formatBits.l0 a_0 x_1 b_3 b_4 a_10 s_11 y_12 x_13 (IntKind.wrap .u64 x_2)))
theorem internal_strconv_formatBits.j2.walk {W h0 m0 h m A_0 n_0 c_0 A_10 n_10 c_10 bk_12 cs_12 a_0 x_1 x_2 b_3 b_4 a_10 s_11 y_12 x_13} (O : Hold W h0 m0 h m [rR (aE (tell_int .u8)) A_0 c_0 a_0, rR (aE (tell_int .u8)) A_10 c_10 a_10, rV bk_12 195 cs_12]) (ne_0 : n_0 = List.length a_0) (ne_10 : n_10 = List.length a_10) (e_12 : (eArr 65 (fun n : Int => Value.int .u8 n) (0 : Int)) m y_12 cs_12) (tab : TB m) {r} (e : internal_strconv_formatBits.j2 a_0 x_1 x_2 b_3 b_4 a_10 s_11 y_12 x_13 = some r) : f119.j2 (internal_strconv_formatBits.post W h0 m0 r) A_0 n_0 c_0 x_1 x_2 b_3 b_4 A_10 n_10 c_10 s_11 (⟨bk_12, 0, none⟩ : Addr) x_13 h := by
 unfold internal_strconv_formatBits.j2 at e
 subst ne_0
 subst ne_10
 have qe_12_0 := e_12.1
 obtain rfl : cs_12 = [(Value.int .u8 (List.getD y_12 0 (0 : Int))), (Value.int .u8 (List.getD y_12 1 (0 : Int))), (Value.int .u8 (List.getD y_12 2 (0 : Int))), (Value.int .u8 (List.getD y_12 3 (0 : Int))), (Value.int .u8 (List.getD y_12 4 (0 : Int))), (Value.int .u8 (List.getD y_12 5 (0 : Int))), (Value.int .u8 (List.getD y_12 6 (0 : Int))), (Value.int .u8 (List.getD y_12 7 (0 : Int))), (Value.int .u8 (List.getD y_12 8 (0 : Int))), (Value.int .u8 (List.getD y_12 9 (0 : Int))), (Value.int .u8 (List.getD y_12 10 (0 : Int))), (Value.int .u8 (List.getD y_12 11 (0 : Int))), (Value.int .u8 (List.getD y_12 12 (0 : Int))), (Value.int .u8 (List.getD y_12 13 (0 : Int))), (Value.int .u8 (List.getD y_12 14 (0 : Int))), (Value.int .u8 (List.getD y_12 15 (0 : Int))), (Value.int .u8 (List.getD y_12 16 (0 : Int))), (Value.int .u8 (List.getD y_12 17 (0 : Int))), (Value.int .u8 (List.getD y_12 18 (0 : Int))), (Value.int .u8 (List.getD y_12 19 (0 : Int))), (Value.int .u8 (List.getD y_12 20 (0 : Int))), (Value.int .u8 (List.getD y_12 21 (0 : Int))), (Value.int .u8 (List.getD y_12 22 (0 : Int))), (Value.int .u8 (List.getD y_12 23 (0 : Int))), (Value.int .u8 (List.getD y_12 24 (0 : Int))), (Value.int .u8 (List.getD y_12 25 (0 : Int))), (Value.int .u8 (List.getD y_12 26 (0 : Int))), (Value.int .u8 (List.getD y_12 27 (0 : Int))), (Value.int .u8 (List.getD y_12 28 (0 : Int))), (Value.int .u8 (List.getD y_12 29 (0 : Int))), (Value.int .u8 (List.getD y_12 30 (0 : Int))), (Value.int .u8 (List.getD y_12 31 (0 : Int))), (Value.int .u8 (List.getD y_12 32 (0 : Int))), (Value.int .u8 (List.getD y_12 33 (0 : Int))), (Value.int .u8 (List.getD y_12 34 (0 : Int))), (Value.int .u8 (List.getD y_12 35 (0 : Int))), (Value.int .u8 (List.getD y_12 36 (0 : Int))), (Value.int .u8 (List.getD y_12 37 (0 : Int))), (Value.int .u8 (List.getD y_12 38 (0 : Int))), (Value.int .u8 (List.getD y_12 39 (0 : Int))), (Value.int .u8 (List.getD y_12 40 (0 : Int))), (Value.int .u8 (List.getD y_12 41 (0 : Int))), (Value.int .u8 (List.getD y_12 42 (0 : Int))), (Value.int .u8 (List.getD y_12 43 (0 : Int))), (Value.int .u8 (List.getD y_12 44 (0 : Int))), (Value.int .u8 (List.getD y_12 45 (0 : Int))), (Value.int .u8 (List.getD y_12 46 (0 : Int))), (Value.int .u8 (List.getD y_12 47 (0 : Int))), (Value.int .u8 (List.getD y_12 48 (0 : Int))), (Value.int .u8 (List.getD y_12 49 (0 : Int))), (Value.int .u8 (List.getD y_12 50 (0 : Int))), (Value.int .u8 (List.getD y_12 51 (0 : Int))), (Value.int .u8 (List.getD y_12 52 (0 : Int))), (Value.int .u8 (List.getD y_12 53 (0 : Int))), (Value.int .u8 (List.getD y_12 54 (0 : Int))), (Value.int .u8 (List.getD y_12 55 (0 : Int))), (Value.int .u8 (List.getD y_12 56 (0 : Int))), (Value.int .u8 (List.getD y_12 57 (0 : Int))), (Value.int .u8 (List.getD y_12 58 (0 : Int))), (Value.int .u8 (List.getD y_12 59 (0 : Int))), (Value.int .u8 (List.getD y_12 60 (0 : Int))), (Value.int .u8 (List.getD y_12 61 (0 : Int))), (Value.int .u8 (List.getD y_12 62 (0 : Int))), (Value.int .u8 (List.getD y_12 63 (0 : Int))), (Value.int .u8 (List.getD y_12 64 (0 : Int)))] := e_12.2
 refine f119.j2_in ?_
 unfold f119.j2T
 obtain ⟨y1, g2, e⟩ := bind_e e
 refine (internal_strconv_isPowerOfTwo.walk (Hold.start (W := No) O.s)  g2).mono ?_
 rintro _ h3 ⟨m4, Q5, rfl⟩
 have O7 := Hold.nm (O.retC Q5 vfs_nil)
 refine ⟨_, rfl, ?_⟩
 refine split_any_e e (fun c15 e => ?_) (fun c15 e => ?_)
 · obtain ⟨y8, g9, e⟩ := bind_e e
   refine (math_bits_TrailingZeros.walk (Hold.start (W := No) O7.s) tab g9).mono ?_
   rintro _ h10 ⟨m11, Q12, rfl⟩
   have O14 := Hold.nm (O7.retC Q12 vfs_nil)
   refine ⟨_, rfl, ?_⟩
   exact (internal_strconv_formatBits.l1_k.all e) (O14.pick [0, 1, 2]).nm rfl rfl ⟨qe_12_0, rfl⟩ tab
 · exact (internal_strconv_formatBits.l0_k.all e) (O7.pick [0, 1, 2]).nm rfl rfl ⟨qe_12_0, rfl⟩ tab
noncomputable def internal_strconv_formatBits.j0 (a_0 : List Int) (x_1 : Int) (x_2 : Int) (b_3 : Bool) (b_4 : Bool) (a_10 : List Int) (s_11 : ByteArray) : Option ((List Int) × ByteArray) :=
 if b_3 = true then ((internal_strconv_formatBits.j2 a_0 (IntKind.wrap .u64 (0 - x_1)) x_2 b_3 b_4 a_10 s_11 (List.replicate 65 (0 : Int)) (65 : Int))) else ((internal_strconv_formatBits.j2 a_0 x_1 x_2 b_3 b_4 a_10 s_11 (List.replicate 65 (0 : Int)) (65 : Int)))
theorem internal_strconv_formatBits.j0.walk {W h0 m0 h m A_0 n_0 c_0 A_10 n_10 c_10 a_0 x_1 x_2 b_3 b_4 a_10 s_11} (O : Hold W h0 m0 h m [rR (aE (tell_int .u8)) A_0 c_0 a_0, rR (aE (tell_int .u8)) A_10 c_10 a_10]) (ne_0 : n_0 = List.length a_0) (ne_10 : n_10 = List.length a_10) (tab : TB m) {r} (e : internal_strconv_formatBits.j0 a_0 x_1 x_2 b_3 b_4 a_10 s_11 = some r) : f119.j0 (internal_strconv_formatBits.post W h0 m0 r) A_0 n_0 c_0 x_1 x_2 b_3 b_4 A_10 n_10 c_10 s_11 h := by
 unfold internal_strconv_formatBits.j0 at e
 subst ne_0
 subst ne_10
 refine f119.j0_in ?_
 unfold f119.j0T
 refine O.new fun h1 x2 O3 => ?_
 refine split_any_e e (fun c7 e => ?_) (fun c7 e => ?_)
 · have O5 := O3.nm
   exact internal_strconv_formatBits.j2.walk (O5.pick [0, 1, 2]).nm rfl rfl ⟨rfl, rfl⟩ tab e
 · have O6 := O3.nm
   exact internal_strconv_formatBits.j2.walk (O6.pick [0, 1, 2]).nm rfl rfl ⟨rfl, rfl⟩ tab e
noncomputable def internal_strconv_formatBits.j1 (a_0 : List Int) (x_1 : Int) (x_2 : Int) (b_3 : Bool) (b_4 : Bool) (a_10 : List Int) (s_11 : ByteArray) (b_28 : Bool) : Option ((List Int) × ByteArray) :=
 if b_28 = true then ((none : Option _)) else ((internal_strconv_formatBits.j0 a_0 x_1 x_2 b_3 b_4 a_10 s_11))
theorem internal_strconv_formatBits.j1.walk {W h0 m0 h m A_0 n_0 c_0 A_10 n_10 c_10 a_0 x_1 x_2 b_3 b_4 a_10 s_11 b_28} (O : Hold W h0 m0 h m [rR (aE (tell_int .u8)) A_0 c_0 a_0, rR (aE (tell_int .u8)) A_10 c_10 a_10]) (ne_0 : n_0 = List.length a_0) (ne_10 : n_10 = List.length a_10) (tab : TB m) {r} (e : internal_strconv_formatBits.j1 a_0 x_1 x_2 b_3 b_4 a_10 s_11 b_28 = some r) : f119.j1 (internal_strconv_formatBits.post W h0 m0 r) A_0 n_0 c_0 x_1 x_2 b_3 b_4 A_10 n_10 c_10 s_11 b_28 h := by
 unfold internal_strconv_formatBits.j1 at e
 subst ne_0
 subst ne_10
 refine f119.j1_in ?_
 unfold f119.j1T
 refine split_any_e e (fun c1 e => ?_) (fun c1 e => ?_)
 · cases e
 · exact internal_strconv_formatBits.j0.walk (O.pick [0, 1]).nm rfl rfl tab e
noncomputable def internal_strconv_formatBits (a_0 : List Int) (x_1 : Int) (x_2 : Int) (b_3 : Bool) (b_4 : Bool) : Option ((List Int) × ByteArray) :=
 if x_2 < (2 : Int) then ((internal_strconv_formatBits.j1 a_0 x_1 x_2 b_3 b_4 ([] : List Int) (ByteArray.mk #[]) true)) else (if x_2 = (10 : Int) then ((internal_strconv_formatBits.j1 a_0 x_1 x_2 b_3 b_4 ([] : List Int) (ByteArray.mk #[]) true)) else ((internal_strconv_formatBits.j1 a_0 x_1 x_2 b_3 b_4 ([] : List Int) (ByteArray.mk #[]) (decide (x_2 > (36 : Int))))))
theorem internal_strconv_formatBits.walk {W h m A_0 n_0 c_0 a_0 x_1 x_2 b_3 b_4} (O : Hold W h m h m [rR (aE (tell_int .u8)) A_0 c_0 a_0]) (ne_0 : n_0 = List.length a_0) (tab : TB m) {r} (e : internal_strconv_formatBits a_0 x_1 x_2 b_3 b_4 = some r) : Run Tryd.prog 119 #[Value.slice A_0 n_0 c_0, Value.int .u64 x_1, Value.int .i64 x_2, Value.bool b_3, Value.bool b_4] h (internal_strconv_formatBits.post W h m r) := by
 unfold internal_strconv_formatBits at e
 subst ne_0
 refine f119.run ?_
 unfold f119.runT
 refine split_dec_e e (fun c11 e => ?_) (fun c11 e => ?_)
 · have O1 := O.nil (aE (tell_int .u8)) none
   have O3 := O1.nm
   exact internal_strconv_formatBits.j1.walk (O3.pick [0, 1]).nm rfl rfl tab e
 · refine split_eq_e e (fun c10 e => ?_) (fun c10 e => ?_)
   · have O4 := O.nil (aE (tell_int .u8)) none
     have O6 := O4.nm
     exact internal_strconv_formatBits.j1.walk (O6.pick [0, 1]).nm rfl rfl tab e
   · have O7 := O.nil (aE (tell_int .u8)) none
     have O9 := O7.nm
     exact internal_strconv_formatBits.j1.walk (O9.pick [0, 1]).nm rfl rfl tab e
def internal_strconv_AppendUint.post (W : Nat → Prop) (h0 m0 : Heap) (r : (List Int)) (v : Value) (h : Heap) : Prop := ∃ m A0 n0 c0, Hold W h0 m0 h m [rR (aE (tell_int .u8)) A0 c0 r] ∧ v = .slice A0 n0 c0 ∧ n0 = List.length r
noncomputable def internal_strconv_AppendUint (a_0 : List Int) (x_1 : Int) (x_2 : Int) : Option ((List Int)) :=
 if x_2 = (10 : Int) then (if x_1 < (100 : Int) then (Option.bind (internal_strconv_small (IntKind.wrap .i64 x_1)) fun y1 => Option.bind (ap 1 a_0 (y1.data.toList.map fun b => ((UInt8.toNat b : Nat) : Int))) fun l8 => some (l8)) else ((none : Option _))) else (Option.bind (internal_strconv_formatBits a_0 x_1 x_2 false true) fun y22 => some (y22.1))
theorem internal_strconv_AppendUint.walk {W h m A_0 n_0 c_0 a_0 x_1 x_2} (O : Hold W h m h m [rR (aE (tell_int .u8)) A_0 c_0 a_0]) (ne_0 : n_0 = List.length a_0) (tab : TB m) {r} (e : internal_strconv_AppendUint a_0 x_1 x_2 = some r) : Run Tryd.prog 90 #[Value.slice A_0 n_0 c_0, Value.int .u64 x_1, Value.int .i64 x_2] h (internal_strconv_AppendUint.post W h m r) := by
 unfold internal_strconv_AppendUint at e
 subst ne_0
 refine f90.run ?_
 unfold f90.runT
 refine split_eq_e e (fun c38 e => ?_) (fun c38 e => ?_)
 · refine split_dec_e e (fun c21 e => ?_) (fun c21 e => ?_)
   · obtain ⟨y1, g2, e⟩ := bind_e e
     refine (internal_strconv_small.walk (Hold.start (W := No) O.s)  g2).mono ?_
     rintro _ h3 ⟨m4, Q5, rfl⟩
     have O7 := Hold.nm (O.retC Q5 vfs_nil)
     refine ⟨_, rfl, ?_⟩
     obtain ⟨l8, g9, e⟩ := bind_e e
     refine O7.app 0 rfl rfl rfl (str_src y1) (by decide) g9 fun A10 c11 h12 O13 => ?_
     refine ⟨_, _, _, rfl, ?_⟩
     have O16 := O13.nm
     cases e
     exact ⟨_, _, _, _, O16.pick [0], rfl, rfl⟩
   · refine O.new fun h17 x18 O19 => ?_
     cases e
 · obtain ⟨y22, g23, e⟩ := bind_e e
   obtain ⟨W28, P29, B30, C31⟩ := O.callC [0]
   refine (internal_strconv_formatBits.walk P29 rfl tab g23).mono ?_
   rintro _ h24 ⟨m25, A32, n33, c34, Q26, rfl, ne35⟩
   have O37 := Hold.nm (C31 Q26 (vfs_cons (rR_vf (aE_vf (fun _ _ _ _ h => h))) vfs_nil))
   subst ne35
   refine ⟨_, _, _, _, rfl, ?_⟩
   cases e
   exact ⟨_, _, _, _, O37.pick [1], rfl, rfl⟩
def internal_strconv_AppendInt.post (W : Nat → Prop) (h0 m0 : Heap) (r : (List Int)) (v : Value) (h : Heap) : Prop := ∃ m A0 n0 c0, Hold W h0 m0 h m [rR (aE (tell_int .u8)) A0 c0 r] ∧ v = .slice A0 n0 c0 ∧ n0 = List.length r
noncomputable def internal_strconv_AppendInt.j0 (a_0 : List Int) (x_2 : Int) (x_7 : Int) : Option ((List Int)) :=
 Option.bind (internal_strconv_AppendUint a_0 x_7 x_2) fun y1 => some (y1)
theorem internal_strconv_AppendInt.j0.walk {W h0 m0 h m A_0 n_0 c_0 a_0 x_2 x_7} (O : Hold W h0 m0 h m [rR (aE (tell_int .u8)) A_0 c_0 a_0]) (ne_0 : n_0 = List.length a_0) (tab : TB m) {r} (e : internal_strconv_AppendInt.j0 a_0 x_2 x_7 = some r) : f78.j0 (internal_strconv_AppendInt.post W h0 m0 r) A_0 n_0 c_0 x_2 x_7 h := by
 unfold internal_strconv_AppendInt.j0 at e
 subst ne_0
 refine f78.j0_in ?_
 unfold f78.j0T
 obtain ⟨y1, g2, e⟩ := bind_e e
 obtain ⟨W7, P8, B9, C10⟩ := O.callC [0]
 refine (internal_strconv_AppendUint.walk P8 rfl tab g2).mono ?_
 rintro _ h3 ⟨m4, A11, n12, c13, Q5, rfl, ne14⟩
 have O16 := Hold.nm (C10 Q5 (vfs_cons (rR_vf (aE_vf (fun _ _ _ _ h => h))) vfs_nil))
 subst ne14
 refine ⟨_, _, _, rfl, ?_⟩
 cases e
 exact ⟨_, _, _, _, O16.pick [1], rfl, rfl⟩
noncomputable def internal_strconv_AppendInt (a_0 : List Int) (x_1 : Int) (x_2 : Int) : Option ((List Int)) :=
 if x_1 < (0 : Int) then (Option.bind (ap 1 a_0 ([(45 : Int)] : List Int)) fun l5 => (internal_strconv_AppendInt.j0 l5 x_2 (IntKind.wrap .u64 (0 - (IntKind.wrap .u64 x_1))))) else ((internal_strconv_AppendInt.j0 a_0 x_2 (IntKind.wrap .u64 x_1)))
theorem internal_strconv_AppendInt.walk {W h m A_0 n_0 c_0 a_0 x_1 x_2} (O : Hold W h m h m [rR (aE (tell_int .u8)) A_0 c_0 a_0]) (ne_0 : n_0 = List.length a_0) (tab : TB m) {r} (e : internal_strconv_AppendInt a_0 x_1 x_2 = some r) : Run Tryd.prog 78 #[Value.slice A_0 n_0 c_0, Value.int .i64 x_1, Value.int .i64 x_2] h (internal_strconv_AppendInt.post W h m r) := by
 unfold internal_strconv_AppendInt at e
 subst ne_0
 refine f78.run ?_
 unfold f78.runT
 refine split_dec_e e (fun c15 e => ?_) (fun c15 e => ?_)
 · refine O.new fun h1 x2 O3 => ?_
   obtain ⟨l5, g6, e⟩ := bind_e e
   have O13 := O3.rowE (l := ([(45 : Int)] : List Int)) 1 rfl (tell_int .u8) (show CsE _ _ _ _ _ from (CsE.cons (c1 := [(Value.int .u8 (45 : Int))]) rfl rfl CsE.nil)) rfl
   refine O13.app 0 rfl rfl rfl ((O13.os 1 rfl).srcE rfl) (by decide) g6 fun A7 c8 h9 O10 => ?_
   refine ⟨_, _, _, rfl, ?_⟩
   have O14 := O10.nm
   exact internal_strconv_AppendInt.j0.walk (O14.pick [0]).nm rfl tab e
 · exact internal_strconv_AppendInt.j0.walk (O.pick [0]).nm rfl tab e
def strconv_AppendInt.post (W : Nat → Prop) (h0 m0 : Heap) (r : (List Int)) (v : Value) (h : Heap) : Prop := ∃ m A0 n0 c0, Hold W h0 m0 h m [rR (aE (tell_int .u8)) A0 c0 r] ∧ v = .slice A0 n0 c0 ∧ n0 = List.length r
noncomputable def strconv_AppendInt (a_0 : List Int) (x_1 : Int) (x_2 : Int) : Option ((List Int)) :=
 Option.bind (internal_strconv_AppendInt a_0 x_1 x_2) fun y1 => some (y1)
theorem strconv_AppendInt.walk {W h m A_0 n_0 c_0 a_0 x_1 x_2} (O : Hold W h m h m [rR (aE (tell_int .u8)) A_0 c_0 a_0]) (ne_0 : n_0 = List.length a_0) (tab : TB m) {r} (e : strconv_AppendInt a_0 x_1 x_2 = some r) : Run Tryd.prog 52 #[Value.slice A_0 n_0 c_0, Value.int .i64 x_1, Value.int .i64 x_2] h (strconv_AppendInt.post W h m r) := by
 unfold strconv_AppendInt at e
 subst ne_0
 refine f52.run ?_
 unfold f52.runT
 obtain ⟨y1, g2, e⟩ := bind_e e
 obtain ⟨W7, P8, B9, C10⟩ := O.callC [0]
 refine (internal_strconv_AppendInt.walk P8 rfl tab g2).mono ?_
 rintro _ h3 ⟨m4, A11, n12, c13, Q5, rfl, ne14⟩
 have O16 := Hold.nm (C10 Q5 (vfs_cons (rR_vf (aE_vf (fun _ _ _ _ h => h))) vfs_nil))
 subst ne14
 refine ⟨_, _, _, rfl, ?_⟩
 cases e
 exact ⟨_, _, _, _, O16.pick [1], rfl, rfl⟩
def token_Quote.post (W : Nat → Prop) (h0 m0 : Heap) (r : ByteArray × Int) (v : Value) (h : Heap) : Prop := ∃ m , Hold W h0 m0 h m [] ∧ v = .tuple #[.string r.1, .int .i64 r.2]
inductive token_Quote.l0_k.Pt where
 | l0 (a_4 : List Int) (a_12 : List Int) (x_13 : Int) (x_14 : Int)
 | j0 (a_4 : List Int) (x_6 : Int) (a_12 : List Int) (x_13 : Int) (x_14 : Int) (b_22 : Bool)
 | j1 (a_4 : List Int) (x_6 : Int) (a_12 : List Int) (x_13 : Int) (x_14 : Int) (b_39 : Bool)
 | j2 (a_4 : List Int) (x_6 : Int) (a_12 : List Int) (x_13 : Int) (x_14 : Int)
noncomputable def token_Quote.l0_k.body (go : (p : token_Quote.l0_k.Pt) → Option (ByteArray × Int)) : (p : token_Quote.l0_k.Pt) → Option (ByteArray × Int)
 | .l0 a_4 a_12 x_13 x_14 => if x_14 < x_13 then (Option.bind (gi a_12 x_14) fun y1 => if y1 = (34 : Int) then ((go (.j0 a_4 y1 a_12 x_13 x_14 true))) else ((go (.j0 a_4 y1 a_12 x_13 x_14 (y1 == (92 : Int)))))) else (Option.bind (ap 1 a_4 ([(34 : Int)] : List Int)) fun l13 => some ((bytesOf l13), (0 : Int)))
 | .j0 a_4 x_6 a_12 x_13 x_14 b_22 => if b_22 = true then (Option.bind (ap 1 a_4 ([(92 : Int), x_6] : List Int)) fun l5 => (go (.l0 l5 a_12 x_13 (IntKind.wrap .i64 (x_14 + (1 : Int)))))) else (if x_6 = (10 : Int) then (Option.bind (ap 1 a_4 ([(92 : Int), (110 : Int)] : List Int)) fun l19 => (go (.l0 l19 a_12 x_13 (IntKind.wrap .i64 (x_14 + (1 : Int)))))) else (if x_6 < (32 : Int) then ((go (.j1 a_4 x_6 a_12 x_13 x_14 true))) else ((go (.j1 a_4 x_6 a_12 x_13 x_14 (decide (x_6 > (126 : Int))))))))
 | .j1 a_4 x_6 a_12 x_13 x_14 b_39 => if b_39 = true then (Option.bind (ap 1 a_4 ([(92 : Int), (120 : Int)] : List Int)) fun l5 => if x_6 < (16 : Int) then (Option.bind (ap 1 l5 ([(48 : Int)] : List Int)) fun l18 => (go (.j2 l18 x_6 a_12 x_13 x_14))) else ((go (.j2 l5 x_6 a_12 x_13 x_14)))) else (Option.bind (ap 1 a_4 ([x_6] : List Int)) fun l34 => (go (.l0 l34 a_12 x_13 (IntKind.wrap .i64 (x_14 + (1 : Int))))))
 | .j2 a_4 x_6 a_12 x_13 x_14 => Option.bind (strconv_AppendInt a_4 (IntKind.wrap .i64 x_6) (16 : Int)) fun y1 => (go (.l0 y1 a_12 x_13 (IntKind.wrap .i64 (x_14 + (1 : Int)))))
theorem token_Quote.l0_k.mono : MonoF (β := fun _ => (ByteArray × Int)) token_Quote.l0_k.body := fun f g hfg p => match p with
 | .l0 a_4 a_12 x_13 x_14 => LeO.ite (LeO.bind (LeO.refl _) fun y1 => LeO.ite ((hfg _)) ((hfg _))) (LeO.bind (LeO.refl _) fun l13 => LeO.refl _)
 | .j0 a_4 x_6 a_12 x_13 x_14 b_22 => LeO.ite (LeO.bind (LeO.refl _) fun l5 => (hfg _)) (LeO.ite (LeO.bind (LeO.refl _) fun l19 => (hfg _)) (LeO.ite ((hfg _)) ((hfg _))))
 | .j1 a_4 x_6 a_12 x_13 x_14 b_39 => LeO.ite (LeO.bind (LeO.refl _) fun l5 => LeO.ite (LeO.bind (LeO.refl _) fun l18 => (hfg _)) ((hfg _))) (LeO.bind (LeO.refl _) fun l34 => (hfg _))
 | .j2 a_4 x_6 a_12 x_13 x_14 => LeO.bind (LeO.refl _) fun y1 => (hfg _)
noncomputable def token_Quote.l0_k.go (p : token_Quote.l0_k.Pt) : Option (ByteArray × Int) := fixF (β := fun _ => (ByteArray × Int)) token_Quote.l0_k.body p
noncomputable def token_Quote.l0 (a_4 a_12 x_13 x_14) := token_Quote.l0_k.go (.l0 a_4 a_12 x_13 x_14)
noncomputable def token_Quote.j0 (a_4 x_6 a_12 x_13 x_14 b_22) := token_Quote.l0_k.go (.j0 a_4 x_6 a_12 x_13 x_14 b_22)
noncomputable def token_Quote.j1 (a_4 x_6 a_12 x_13 x_14 b_39) := token_Quote.l0_k.go (.j1 a_4 x_6 a_12 x_13 x_14 b_39)
noncomputable def token_Quote.j2 (a_4 x_6 a_12 x_13 x_14) := token_Quote.l0_k.go (.j2 a_4 x_6 a_12 x_13 x_14)
theorem token_Quote.l0_eq (a_4 a_12 x_13 x_14) : token_Quote.l0 a_4 a_12 x_13 x_14 = if x_14 < x_13 then (Option.bind (gi a_12 x_14) fun y1 => if y1 = (34 : Int) then ((token_Quote.j0 a_4 y1 a_12 x_13 x_14 true)) else ((token_Quote.j0 a_4 y1 a_12 x_13 x_14 (y1 == (92 : Int))))) else (Option.bind (ap 1 a_4 ([(34 : Int)] : List Int)) fun l13 => some ((bytesOf l13), (0 : Int))) := fixF_eq token_Quote.l0_k.mono _
theorem token_Quote.j0_eq (a_4 x_6 a_12 x_13 x_14 b_22) : token_Quote.j0 a_4 x_6 a_12 x_13 x_14 b_22 = if b_22 = true then (Option.bind (ap 1 a_4 ([(92 : Int), x_6] : List Int)) fun l5 => (token_Quote.l0 l5 a_12 x_13 (IntKind.wrap .i64 (x_14 + (1 : Int))))) else (if x_6 = (10 : Int) then (Option.bind (ap 1 a_4 ([(92 : Int), (110 : Int)] : List Int)) fun l19 => (token_Quote.l0 l19 a_12 x_13 (IntKind.wrap .i64 (x_14 + (1 : Int))))) else (if x_6 < (32 : Int) then ((token_Quote.j1 a_4 x_6 a_12 x_13 x_14 true)) else ((token_Quote.j1 a_4 x_6 a_12 x_13 x_14 (decide (x_6 > (126 : Int))))))) := fixF_eq token_Quote.l0_k.mono _
theorem token_Quote.j1_eq (a_4 x_6 a_12 x_13 x_14 b_39) : token_Quote.j1 a_4 x_6 a_12 x_13 x_14 b_39 = if b_39 = true then (Option.bind (ap 1 a_4 ([(92 : Int), (120 : Int)] : List Int)) fun l5 => if x_6 < (16 : Int) then (Option.bind (ap 1 l5 ([(48 : Int)] : List Int)) fun l18 => (token_Quote.j2 l18 x_6 a_12 x_13 x_14)) else ((token_Quote.j2 l5 x_6 a_12 x_13 x_14))) else (Option.bind (ap 1 a_4 ([x_6] : List Int)) fun l34 => (token_Quote.l0 l34 a_12 x_13 (IntKind.wrap .i64 (x_14 + (1 : Int))))) := fixF_eq token_Quote.l0_k.mono _
theorem token_Quote.j2_eq (a_4 x_6 a_12 x_13 x_14) : token_Quote.j2 a_4 x_6 a_12 x_13 x_14 = Option.bind (strconv_AppendInt a_4 (IntKind.wrap .i64 x_6) (16 : Int)) fun y1 => (token_Quote.l0 y1 a_12 x_13 (IntKind.wrap .i64 (x_14 + (1 : Int)))) := fixF_eq token_Quote.l0_k.mono _
def token_Quote.l0_k.I : (p : token_Quote.l0_k.Pt) → (ByteArray × Int) → Prop
 | .l0 a_4 a_12 x_13 x_14, r => ∀ {W h0 m0 h m A_4 n_4 c_4 A_12 n_12 c_12} (O : Hold W h0 m0 h m [rR (aE (tell_int .u8)) A_4 c_4 a_4]) (ne_4 : n_4 = List.length a_4) (ne_12 : n_12 = List.length a_12) (k_12 : List.length a_12 ≤ c_12) (r_12 : Rd 1 (eInt .u8) m A_12 a_12) (tab : TB m), f20.l0 (token_Quote.post W h0 m0 r) A_4 n_4 c_4 A_12 n_12 c_12 x_13 x_14 h
 | .j0 a_4 x_6 a_12 x_13 x_14 b_22, r => ∀ {W h0 m0 h m A_4 n_4 c_4 A_12 n_12 c_12} (O : Hold W h0 m0 h m [rR (aE (tell_int .u8)) A_4 c_4 a_4]) (ne_4 : n_4 = List.length a_4) (ne_12 : n_12 = List.length a_12) (k_12 : List.length a_12 ≤ c_12) (r_12 : Rd 1 (eInt .u8) m A_12 a_12) (tab : TB m), f20.j0 (token_Quote.post W h0 m0 r) A_4 n_4 c_4 x_6 A_12 n_12 c_12 x_13 x_14 b_22 h
 | .j1 a_4 x_6 a_12 x_13 x_14 b_39, r => ∀ {W h0 m0 h m A_4 n_4 c_4 A_12 n_12 c_12} (O : Hold W h0 m0 h m [rR (aE (tell_int .u8)) A_4 c_4 a_4]) (ne_4 : n_4 = List.length a_4) (ne_12 : n_12 = List.length a_12) (k_12 : List.length a_12 ≤ c_12) (r_12 : Rd 1 (eInt .u8) m A_12 a_12) (tab : TB m), f20.j1 (token_Quote.post W h0 m0 r) A_4 n_4 c_4 x_6 A_12 n_12 c_12 x_13 x_14 b_39 h
 | .j2 a_4 x_6 a_12 x_13 x_14, r => ∀ {W h0 m0 h m A_4 n_4 c_4 A_12 n_12 c_12} (O : Hold W h0 m0 h m [rR (aE (tell_int .u8)) A_4 c_4 a_4]) (ne_4 : n_4 = List.length a_4) (ne_12 : n_12 = List.length a_12) (k_12 : List.length a_12 ≤ c_12) (r_12 : Rd 1 (eInt .u8) m A_12 a_12) (tab : TB m), f20.j2 (token_Quote.post W h0 m0 r) A_4 n_4 c_4 x_6 A_12 n_12 c_12 x_13 x_14 h
theorem token_Quote.l0_k.step_l0 (go : (p : token_Quote.l0_k.Pt) → Option (ByteArray × Int)) (ih : ∀ p r, go p = some r → token_Quote.l0_k.I p r) (a_4 a_12 x_13 x_14) (r) (e : token_Quote.l0_k.body go (.l0 a_4 a_12 x_13 x_14) = some r) : token_Quote.l0_k.I (.l0 a_4 a_12 x_13 x_14) r := by
 unfold token_Quote.l0_k.body at e
 intro W h0 m0 h m A_4 n_4 c_4 A_12 n_12 c_12 O ne_4 ne_12 k_12 r_12 tab
 subst ne_4
 subst ne_12
 refine f20.l0_in ?_
 unfold f20.l0T
 refine split_dec_e e (fun c23 e => ?_) (fun c23 e => ?_)
 · obtain ⟨y1, g2, e⟩ := bind_e e
   refine r_12.addr rfl g2 fun a3 cs4 ha5 hc6 he7 => ?_
   obtain rfl : cs4 = [(Value.int .u8 y1)] := he7
   refine ⟨_, ld0 O.s hc6 rfl, _, rfl, ?_⟩
   refine split_eq_e e (fun c8 e => ?_) (fun c8 e => ?_)
   · exact (ih _ _ e) (O.pick [0]).nm rfl rfl k_12 r_12 tab
   · exact (ih _ _ e) (O.pick [0]).nm rfl rfl k_12 r_12 tab
 · refine O.new fun h9 x10 O11 => ?_
   obtain ⟨l13, g14, e⟩ := bind_e e
   have O21 := O11.rowE (l := ([(34 : Int)] : List Int)) 1 rfl (tell_int .u8) (show CsE _ _ _ _ _ from (CsE.cons (c1 := [(Value.int .u8 (34 : Int))]) rfl rfl CsE.nil)) rfl
   refine O21.app 0 rfl rfl rfl ((O21.os 1 rfl).srcE rfl) (by decide) g14 fun A15 c16 h17 O18 => ?_
   refine ⟨_, _, _, rfl, ?_⟩
   refine gen_b2s' (e := 5) (by kernel_rfl) (by kernel_rfl) (by kernel_rfl) ((O18.os 0 rfl).rd (tell_int .u8) O18.s) rfl ?_
   refine ⟨_, rfl, ?_⟩
   have O22 := O18.nm
   cases e
   exact ⟨_, O22.pick [], rfl⟩
theorem token_Quote.l0_k.step_j0 (go : (p : token_Quote.l0_k.Pt) → Option (ByteArray × Int)) (ih : ∀ p r, go p = some r → token_Quote.l0_k.I p r) (a_4 x_6 a_12 x_13 x_14 b_22) (r) (e : token_Quote.l0_k.body go (.j0 a_4 x_6 a_12 x_13 x_14 b_22) = some r) : token_Quote.l0_k.I (.j0 a_4 x_6 a_12 x_13 x_14 b_22) r := by
 unfold token_Quote.l0_k.body at e
 intro W h0 m0 h m A_4 n_4 c_4 A_12 n_12 c_12 O ne_4 ne_12 k_12 r_12 tab
 subst ne_4
 subst ne_12
 refine f20.j0_in ?_
 unfold f20.j0T
 refine split_any_e e (fun c31 e => ?_) (fun c31 e => ?_)
 · refine O.new fun h1 x2 O3 => ?_
   obtain ⟨l5, g6, e⟩ := bind_e e
   have O13 := O3.rowE (l := ([(92 : Int), x_6] : List Int)) 1 rfl (tell_int .u8) (show CsE _ _ _ _ _ from (CsE.cons (c1 := [(Value.int .u8 (92 : Int))]) rfl rfl (CsE.cons (c1 := [(Value.int .u8 x_6)]) rfl rfl CsE.nil))) rfl
   refine O13.app 0 rfl rfl rfl ((O13.os 1 rfl).srcE rfl) (by decide) g6 fun A7 c8 h9 O10 => ?_
   refine ⟨_, _, _, rfl, ?_⟩
   have O14 := O10.nm
   exact (ih _ _ e) (O14.pick [0]).nm rfl rfl k_12 r_12 tab
 · refine split_eq_e e (fun c30 e => ?_) (fun c30 e => ?_)
   · refine O.new fun h15 x16 O17 => ?_
     obtain ⟨l19, g20, e⟩ := bind_e e
     have O27 := O17.rowE (l := ([(92 : Int), (110 : Int)] : List Int)) 1 rfl (tell_int .u8) (show CsE _ _ _ _ _ from (CsE.cons (c1 := [(Value.int .u8 (92 : Int))]) rfl rfl (CsE.cons (c1 := [(Value.int .u8 (110 : Int))]) rfl rfl CsE.nil))) rfl
     refine O27.app 0 rfl rfl rfl ((O27.os 1 rfl).srcE rfl) (by decide) g20 fun A21 c22 h23 O24 => ?_
     refine ⟨_, _, _, rfl, ?_⟩
     have O28 := O24.nm
     exact (ih _ _ e) (O28.pick [0]).nm rfl rfl k_12 r_12 tab
   · refine split_dec_e e (fun c29 e => ?_) (fun c29 e => ?_)
     · exact (ih _ _ e) (O.pick [0]).nm rfl rfl k_12 r_12 tab
     · exact (ih _ _ e) (O.pick [0]).nm rfl rfl k_12 r_12 tab
theorem token_Quote.l0_k.step_j1 (go : (p : token_Quote.l0_k.Pt) → Option (ByteArray × Int)) (ih : ∀ p r, go p = some r → token_Quote.l0_k.I p r) (a_4 x_6 a_12 x_13 x_14 b_39) (r) (e : token_Quote.l0_k.body go (.j1 a_4 x_6 a_12 x_13 x_14 b_39) = some r) : token_Quote.l0_k.I (.j1 a_4 x_6 a_12 x_13 x_14 b_39) r := by
 unfold token_Quote.l0_k.body at e
 intro W h0 m0 h m A_4 n_4 c_4 A_12 n_12 c_12 O ne_4 ne_12 k_12 r_12 tab
 subst ne_4
 subst ne_12
 refine f20.j1_in ?_
 unfold f20.j1T
 refine split_any_e e (fun c44 e => ?_) (fun c44 e => ?_)
 · refine O.new fun h1 x2 O3 => ?_
   obtain ⟨l5, g6, e⟩ := bind_e e
   have O13 := O3.rowE (l := ([(92 : Int), (120 : Int)] : List Int)) 1 rfl (tell_int .u8) (show CsE _ _ _ _ _ from (CsE.cons (c1 := [(Value.int .u8 (92 : Int))]) rfl rfl (CsE.cons (c1 := [(Value.int .u8 (120 : Int))]) rfl rfl CsE.nil))) rfl
   refine O13.app 0 rfl rfl rfl ((O13.os 1 rfl).srcE rfl) (by decide) g6 fun A7 c8 h9 O10 => ?_
   refine ⟨_, _, _, rfl, ?_⟩
   refine split_dec_e e (fun c29 e => ?_) (fun c29 e => ?_)
   · refine O10.new fun h14 x15 O16 => ?_
     obtain ⟨l18, g19, e⟩ := bind_e e
     have O26 := O16.rowE (l := ([(48 : Int)] : List Int)) 2 rfl (tell_int .u8) (show CsE _ _ _ _ _ from (CsE.cons (c1 := [(Value.int .u8 (48 : Int))]) rfl rfl CsE.nil)) rfl
     refine O26.app 0 rfl rfl rfl ((O26.os 2 rfl).srcE rfl) (by decide) g19 fun A20 c21 h22 O23 => ?_
     refine ⟨_, _, _, rfl, ?_⟩
     have O27 := O23.nm
     exact (ih _ _ e) (O27.pick [0]).nm rfl rfl k_12 r_12 tab
   · have O28 := O10.nm
     exact (ih _ _ e) (O28.pick [0]).nm rfl rfl k_12 r_12 tab
 · refine O.new fun h30 x31 O32 => ?_
   obtain ⟨l34, g35, e⟩ := bind_e e
   have O42 := O32.rowE (l := ([x_6] : List Int)) 1 rfl (tell_int .u8) (show CsE _ _ _ _ _ from (CsE.cons (c1 := [(Value.int .u8 x_6)]) rfl rfl CsE.nil)) rfl
   refine O42.app 0 rfl rfl rfl ((O42.os 1 rfl).srcE rfl) (by decide) g35 fun A36 c37 h38 O39 => ?_
   refine ⟨_, _, _, rfl, ?_⟩
   have O43 := O39.nm
   exact (ih _ _ e) (O43.pick [0]).nm rfl rfl k_12 r_12 tab
theorem token_Quote.l0_k.step_j2 (go : (p : token_Quote.l0_k.Pt) → Option (ByteArray × Int)) (ih : ∀ p r, go p = some r → token_Quote.l0_k.I p r) (a_4 x_6 a_12 x_13 x_14) (r) (e : token_Quote.l0_k.body go (.j2 a_4 x_6 a_12 x_13 x_14) = some r) : token_Quote.l0_k.I (.j2 a_4 x_6 a_12 x_13 x_14) r := by
 unfold token_Quote.l0_k.body at e
 intro W h0 m0 h m A_4 n_4 c_4 A_12 n_12 c_12 O ne_4 ne_12 k_12 r_12 tab
 subst ne_4
 subst ne_12
 refine f20.j2_in ?_
 unfold f20.j2T
 obtain ⟨y1, g2, e⟩ := bind_e e
 obtain ⟨W7, P8, B9, C10⟩ := O.callC [0]
 refine (strconv_AppendInt.walk P8 rfl tab g2).mono ?_
 rintro _ h3 ⟨m4, A11, n12, c13, Q5, rfl, ne14⟩
 have O16 := Hold.nm (C10 Q5 (vfs_cons (rR_vf (aE_vf (fun _ _ _ _ h => h))) vfs_nil))
 subst ne14
 refine ⟨_, _, _, rfl, ?_⟩
 exact (ih _ _ e) (O16.pick [1]).nm rfl rfl k_12 r_12 tab
theorem token_Quote.l0_k.all {p : token_Quote.l0_k.Pt} {r : (ByteArray × Int)} (e : token_Quote.l0_k.go p = some r) : token_Quote.l0_k.I p r := fixF_ind (β := fun _ => (ByteArray × Int)) token_Quote.l0_k.mono (I := token_Quote.l0_k.I) (fun go ih p r e => match p with
 | .l0 a_4 a_12 x_13 x_14 => token_Quote.l0_k.step_l0 go ih a_4 a_12 x_13 x_14 r e
 | .j0 a_4 x_6 a_12 x_13 x_14 b_22 => token_Quote.l0_k.step_j0 go ih a_4 x_6 a_12 x_13 x_14 b_22 r e
 | .j1 a_4 x_6 a_12 x_13 x_14 b_39 => token_Quote.l0_k.step_j1 go ih a_4 x_6 a_12 x_13 x_14 b_39 r e
 | .j2 a_4 x_6 a_12 x_13 x_14 => token_Quote.l0_k.step_j2 go ih a_4 x_6 a_12 x_13 x_14 r e
 ) e
noncomputable def token_Quote (s_0 : ByteArray) : Option (ByteArray × Int) :=
 if ((ByteArray.size s_0 : Nat) : Int) > (64 : Int) then (some ((ByteArray.mk #[]), (2 : Int))) else ((token_Quote.l0 ([(34 : Int)] : List Int) (bytesI s_0) (((List.length (bytesI s_0)) : Nat) : Int) (0 : Int)))
theorem token_Quote.walk {W h m s_0} (O : Hold W h m h m []) (tab : TB m) {r} (e : token_Quote s_0 = some r) : Run Tryd.prog 20 #[Value.string s_0] h (token_Quote.post W h m r) := by
 unfold token_Quote at e
 refine f20.run ?_
 unfold f20.runT
 refine split_dec_e e (fun c16 e => ?_) (fun c16 e => ?_)
 · cases e
   exact ⟨_, O.pick [], rfl⟩
 · refine O.new fun h1 x2 O3 => ?_
   refine O3.s2b (u := .string) (e := 5) (by kernel_rfl) (by kernel_rfl) (by kernel_rfl) fun h5 m6 A7 c8 x9 u10 r11 k12 O13 => ?_
   refine ⟨_, _, _, rfl, ?_⟩
   have O14 := O13.rowE (l := ([(34 : Int)] : List Int)) 0 rfl (tell_int .u8) (show CsE _ _ _ _ _ from (CsE.cons (c1 := [(Value.int .u8 (34 : Int))]) rfl rfl CsE.nil)) rfl
   have O15 := O14.nm
   exact (token_Quote.l0_k.all e) (O15.pick [0]).nm rfl rfl k12 r11 (TB.sub tab u10)
def token_Words.post (W : Nat → Prop) (h0 m0 : Heap) (r : (List ByteArray)) (v : Value) (h : Heap) : Prop := ∃ m A0 n0 c0, Hold W h0 m0 h m [rR (aE tell_str) A0 c0 r] ∧ v = .slice A0 n0 c0 ∧ n0 = List.length r
noncomputable def token_Words  : Option ((List ByteArray)) :=
 some (([(ByteArray.mk #[97, 99, 116, 111, 114]), (ByteArray.mk #[97, 102, 116, 101, 114]), (ByteArray.mk #[97, 110, 100]), (ByteArray.mk #[97, 112, 112, 108, 121]), (ByteArray.mk #[98, 101, 99, 111, 109, 101]), (ByteArray.mk #[98, 111, 111, 108]), (ByteArray.mk #[99, 101, 108, 108]), (ByteArray.mk #[100, 97, 116, 97]), (ByteArray.mk #[101, 108, 115, 101]), (ByteArray.mk #[102, 97, 105, 108]), (ByteArray.mk #[102, 97, 108, 115, 101]), (ByteArray.mk #[102, 110]), (ByteArray.mk #[102, 111, 114]), (ByteArray.mk #[102, 117, 110]), (ByteArray.mk #[103, 101, 116]), (ByteArray.mk #[105, 102]), (ByteArray.mk #[105, 109, 112, 108]), (ByteArray.mk #[105, 110]), (ByteArray.mk #[105, 110, 116]), (ByteArray.mk #[108, 101, 116]), (ByteArray.mk #[108, 105, 110, 107]), (ByteArray.mk #[109, 97, 116, 99, 104]), (ByteArray.mk #[109, 111, 100, 117, 108, 101]), (ByteArray.mk #[110, 111, 116]), (ByteArray.mk #[111, 114]), (ByteArray.mk #[112, 117, 116]), (ByteArray.mk #[114, 101, 99, 101, 105, 118, 101]), (ByteArray.mk #[115, 97, 121]), (ByteArray.mk #[115, 101, 108, 102]), (ByteArray.mk #[115, 101, 110, 100]), (ByteArray.mk #[115, 112, 97, 119, 110]), (ByteArray.mk #[116, 101, 120, 116]), (ByteArray.mk #[116, 104, 101, 110]), (ByteArray.mk #[116, 114, 97, 105, 116]), (ByteArray.mk #[116, 114, 117, 101]), (ByteArray.mk #[117, 110, 105, 116]), (ByteArray.mk #[117, 115, 101]), (ByteArray.mk #[119, 97, 116, 99, 104])] : List ByteArray))
theorem token_Words.walk {W h m} (O : Hold W h m h m []) {r} (e : token_Words  = some r) : Run Tryd.prog 28 #[] h (token_Words.post W h m r) := by
 unfold token_Words at e
 refine f28.run ?_
 unfold f28.runT
 refine O.new fun h1 x2 O3 => ?_
 have O5 := O3.rowE (l := ([(ByteArray.mk #[97, 99, 116, 111, 114]), (ByteArray.mk #[97, 102, 116, 101, 114]), (ByteArray.mk #[97, 110, 100]), (ByteArray.mk #[97, 112, 112, 108, 121]), (ByteArray.mk #[98, 101, 99, 111, 109, 101]), (ByteArray.mk #[98, 111, 111, 108]), (ByteArray.mk #[99, 101, 108, 108]), (ByteArray.mk #[100, 97, 116, 97]), (ByteArray.mk #[101, 108, 115, 101]), (ByteArray.mk #[102, 97, 105, 108]), (ByteArray.mk #[102, 97, 108, 115, 101]), (ByteArray.mk #[102, 110]), (ByteArray.mk #[102, 111, 114]), (ByteArray.mk #[102, 117, 110]), (ByteArray.mk #[103, 101, 116]), (ByteArray.mk #[105, 102]), (ByteArray.mk #[105, 109, 112, 108]), (ByteArray.mk #[105, 110]), (ByteArray.mk #[105, 110, 116]), (ByteArray.mk #[108, 101, 116]), (ByteArray.mk #[108, 105, 110, 107]), (ByteArray.mk #[109, 97, 116, 99, 104]), (ByteArray.mk #[109, 111, 100, 117, 108, 101]), (ByteArray.mk #[110, 111, 116]), (ByteArray.mk #[111, 114]), (ByteArray.mk #[112, 117, 116]), (ByteArray.mk #[114, 101, 99, 101, 105, 118, 101]), (ByteArray.mk #[115, 97, 121]), (ByteArray.mk #[115, 101, 108, 102]), (ByteArray.mk #[115, 101, 110, 100]), (ByteArray.mk #[115, 112, 97, 119, 110]), (ByteArray.mk #[116, 101, 120, 116]), (ByteArray.mk #[116, 104, 101, 110]), (ByteArray.mk #[116, 114, 97, 105, 116]), (ByteArray.mk #[116, 114, 117, 101]), (ByteArray.mk #[117, 110, 105, 116]), (ByteArray.mk #[117, 115, 101]), (ByteArray.mk #[119, 97, 116, 99, 104])] : List ByteArray)) 0 rfl tell_str (show CsE _ _ _ _ _ from (CsE.cons (c1 := [(Value.string (ByteArray.mk #[97, 99, 116, 111, 114]))]) rfl rfl (CsE.cons (c1 := [(Value.string (ByteArray.mk #[97, 102, 116, 101, 114]))]) rfl rfl (CsE.cons (c1 := [(Value.string (ByteArray.mk #[97, 110, 100]))]) rfl rfl (CsE.cons (c1 := [(Value.string (ByteArray.mk #[97, 112, 112, 108, 121]))]) rfl rfl (CsE.cons (c1 := [(Value.string (ByteArray.mk #[98, 101, 99, 111, 109, 101]))]) rfl rfl (CsE.cons (c1 := [(Value.string (ByteArray.mk #[98, 111, 111, 108]))]) rfl rfl (CsE.cons (c1 := [(Value.string (ByteArray.mk #[99, 101, 108, 108]))]) rfl rfl (CsE.cons (c1 := [(Value.string (ByteArray.mk #[100, 97, 116, 97]))]) rfl rfl (CsE.cons (c1 := [(Value.string (ByteArray.mk #[101, 108, 115, 101]))]) rfl rfl (CsE.cons (c1 := [(Value.string (ByteArray.mk #[102, 97, 105, 108]))]) rfl rfl (CsE.cons (c1 := [(Value.string (ByteArray.mk #[102, 97, 108, 115, 101]))]) rfl rfl (CsE.cons (c1 := [(Value.string (ByteArray.mk #[102, 110]))]) rfl rfl (CsE.cons (c1 := [(Value.string (ByteArray.mk #[102, 111, 114]))]) rfl rfl (CsE.cons (c1 := [(Value.string (ByteArray.mk #[102, 117, 110]))]) rfl rfl (CsE.cons (c1 := [(Value.string (ByteArray.mk #[103, 101, 116]))]) rfl rfl (CsE.cons (c1 := [(Value.string (ByteArray.mk #[105, 102]))]) rfl rfl (CsE.cons (c1 := [(Value.string (ByteArray.mk #[105, 109, 112, 108]))]) rfl rfl (CsE.cons (c1 := [(Value.string (ByteArray.mk #[105, 110]))]) rfl rfl (CsE.cons (c1 := [(Value.string (ByteArray.mk #[105, 110, 116]))]) rfl rfl (CsE.cons (c1 := [(Value.string (ByteArray.mk #[108, 101, 116]))]) rfl rfl (CsE.cons (c1 := [(Value.string (ByteArray.mk #[108, 105, 110, 107]))]) rfl rfl (CsE.cons (c1 := [(Value.string (ByteArray.mk #[109, 97, 116, 99, 104]))]) rfl rfl (CsE.cons (c1 := [(Value.string (ByteArray.mk #[109, 111, 100, 117, 108, 101]))]) rfl rfl (CsE.cons (c1 := [(Value.string (ByteArray.mk #[110, 111, 116]))]) rfl rfl (CsE.cons (c1 := [(Value.string (ByteArray.mk #[111, 114]))]) rfl rfl (CsE.cons (c1 := [(Value.string (ByteArray.mk #[112, 117, 116]))]) rfl rfl (CsE.cons (c1 := [(Value.string (ByteArray.mk #[114, 101, 99, 101, 105, 118, 101]))]) rfl rfl (CsE.cons (c1 := [(Value.string (ByteArray.mk #[115, 97, 121]))]) rfl rfl (CsE.cons (c1 := [(Value.string (ByteArray.mk #[115, 101, 108, 102]))]) rfl rfl (CsE.cons (c1 := [(Value.string (ByteArray.mk #[115, 101, 110, 100]))]) rfl rfl (CsE.cons (c1 := [(Value.string (ByteArray.mk #[115, 112, 97, 119, 110]))]) rfl rfl (CsE.cons (c1 := [(Value.string (ByteArray.mk #[116, 101, 120, 116]))]) rfl rfl (CsE.cons (c1 := [(Value.string (ByteArray.mk #[116, 104, 101, 110]))]) rfl rfl (CsE.cons (c1 := [(Value.string (ByteArray.mk #[116, 114, 97, 105, 116]))]) rfl rfl (CsE.cons (c1 := [(Value.string (ByteArray.mk #[116, 114, 117, 101]))]) rfl rfl (CsE.cons (c1 := [(Value.string (ByteArray.mk #[117, 110, 105, 116]))]) rfl rfl (CsE.cons (c1 := [(Value.string (ByteArray.mk #[117, 115, 101]))]) rfl rfl (CsE.cons (c1 := [(Value.string (ByteArray.mk #[119, 97, 116, 99, 104]))]) rfl rfl CsE.nil))))))))))))))))))))))))))))))))))))))) rfl
 have O6 := O5.nm
 cases e
 exact ⟨_, _, _, _, O6.pick [0], rfl, rfl⟩
def token_IsWord.post (W : Nat → Prop) (h0 m0 : Heap) (r : Bool) (v : Value) (h : Heap) : Prop := ∃ m , Hold W h0 m0 h m [] ∧ v = .bool r
inductive token_IsWord.l0_k.Pt where
 | l0 (s_0 : ByteArray) (a_5 : List ByteArray) (x_6 : Int) (x_7 : Int)
noncomputable def token_IsWord.l0_k.body (go : (p : token_IsWord.l0_k.Pt) → Option (Bool)) : (p : token_IsWord.l0_k.Pt) → Option (Bool)
 | .l0 s_0 a_5 x_6 x_7 => if x_7 < x_6 then (Option.bind (gi a_5 x_7) fun y1 => if y1 = s_0 then (some (true)) else ((go (.l0 s_0 a_5 x_6 (IntKind.wrap .i64 (x_7 + (1 : Int))))))) else (some (false))
theorem token_IsWord.l0_k.mono : MonoF (β := fun _ => (Bool)) token_IsWord.l0_k.body := fun f g hfg p => match p with
 | .l0 s_0 a_5 x_6 x_7 => LeO.ite (LeO.bind (LeO.refl _) fun y1 => LeO.ite (LeO.refl _) ((hfg _))) (LeO.refl _)
noncomputable def token_IsWord.l0_k.go (p : token_IsWord.l0_k.Pt) : Option (Bool) := fixF (β := fun _ => (Bool)) token_IsWord.l0_k.body p
noncomputable def token_IsWord.l0 (s_0 a_5 x_6 x_7) := token_IsWord.l0_k.go (.l0 s_0 a_5 x_6 x_7)
theorem token_IsWord.l0_eq (s_0 a_5 x_6 x_7) : token_IsWord.l0 s_0 a_5 x_6 x_7 = if x_7 < x_6 then (Option.bind (gi a_5 x_7) fun y1 => if y1 = s_0 then (some (true)) else ((token_IsWord.l0 s_0 a_5 x_6 (IntKind.wrap .i64 (x_7 + (1 : Int)))))) else (some (false)) := fixF_eq token_IsWord.l0_k.mono _
def token_IsWord.l0_k.I : (p : token_IsWord.l0_k.Pt) → (Bool) → Prop
 | .l0 s_0 a_5 x_6 x_7, r => ∀ {W h0 m0 h m A_5 n_5 c_5} (O : Hold W h0 m0 h m [rR (aE tell_str) A_5 c_5 a_5]) (ne_5 : n_5 = List.length a_5), f21.l0 (token_IsWord.post W h0 m0 r) s_0 A_5 n_5 c_5 x_6 x_7 h
theorem token_IsWord.l0_k.step_l0 (go : (p : token_IsWord.l0_k.Pt) → Option (Bool)) (ih : ∀ p r, go p = some r → token_IsWord.l0_k.I p r) (s_0 a_5 x_6 x_7) (r) (e : token_IsWord.l0_k.body go (.l0 s_0 a_5 x_6 x_7) = some r) : token_IsWord.l0_k.I (.l0 s_0 a_5 x_6 x_7) r := by
 unfold token_IsWord.l0_k.body at e
 intro W h0 m0 h m A_5 n_5 c_5 O ne_5
 subst ne_5
 refine f21.l0_in ?_
 unfold f21.l0T
 refine split_dec_e e (fun c9 e => ?_) (fun c9 e => ?_)
 · obtain ⟨y1, g2, e⟩ := bind_e e
   refine (O.os 0 rfl).addr rfl g2 fun a3 cs4 ha5 hc6 he7 => ?_
   obtain rfl : cs4 = [(Value.string y1)] := he7
   refine ⟨_, ld0 (Sub.refl _) hc6 rfl, _, rfl, ?_⟩
   try rw [ba_list y1 s_0]
   refine split_dec_e e (fun c8 e => ?_) (fun c8 e => ?_)
   · cases e
     exact ⟨_, O.pick [], rfl⟩
   · exact (ih _ _ e) (O.pick [0]).nm rfl
 · cases e
   exact ⟨_, O.pick [], rfl⟩
theorem token_IsWord.l0_k.all {p : token_IsWord.l0_k.Pt} {r : (Bool)} (e : token_IsWord.l0_k.go p = some r) : token_IsWord.l0_k.I p r := fixF_ind (β := fun _ => (Bool)) token_IsWord.l0_k.mono (I := token_IsWord.l0_k.I) (fun go ih p r e => match p with
 | .l0 s_0 a_5 x_6 x_7 => token_IsWord.l0_k.step_l0 go ih s_0 a_5 x_6 x_7 r e
 ) e
noncomputable def token_IsWord (s_0 : ByteArray) : Option (Bool) :=
 Option.bind (token_Words ) fun y1 => (token_IsWord.l0 s_0 y1 (((List.length y1) : Nat) : Int) (0 : Int))
theorem token_IsWord.walk {W h m s_0} (O : Hold W h m h m []) {r} (e : token_IsWord s_0 = some r) : Run Tryd.prog 21 #[Value.string s_0] h (token_IsWord.post W h m r) := by
 unfold token_IsWord at e
 refine f21.run ?_
 unfold f21.runT
 obtain ⟨y1, g2, e⟩ := bind_e e
 refine (token_Words.walk (Hold.start (W := No) O.s)  g2).mono ?_
 rintro _ h3 ⟨m4, A7, n8, c9, Q5, rfl, ne10⟩
 have O12 := Hold.nm (O.retC Q5 (vfs_cons (rR_vf (aE_vf (fun _ _ _ _ h => h))) vfs_nil))
 subst ne10
 refine ⟨_, _, _, rfl, ?_⟩
 exact (token_IsWord.l0_k.all e) (O12.pick [0]).nm rfl
def token_digit.post (W : Nat → Prop) (h0 m0 : Heap) (r : Bool) (v : Value) (h : Heap) : Prop := ∃ m , Hold W h0 m0 h m [] ∧ v = .bool r
noncomputable def token_digit (x_0 : Int) : Option (Bool) :=
 if x_0 ≥ (48 : Int) then (some ((decide (x_0 ≤ (57 : Int))))) else (some (false))
theorem token_digit.walk {W h m x_0} (O : Hold W h m h m []) {r} (e : token_digit x_0 = some r) : Run Tryd.prog 50 #[Value.int .u8 x_0] h (token_digit.post W h m r) := by
 unfold token_digit at e
 refine f50.run ?_
 unfold f50.runT
 refine split_dec_e e (fun c1 e => ?_) (fun c1 e => ?_)
 · cases e
   exact ⟨_, O.pick [], rfl⟩
 · cases e
   exact ⟨_, O.pick [], rfl⟩
def token_low.post (W : Nat → Prop) (h0 m0 : Heap) (r : Bool) (v : Value) (h : Heap) : Prop := ∃ m , Hold W h0 m0 h m [] ∧ v = .bool r
noncomputable def token_low (x_0 : Int) : Option (Bool) :=
 if x_0 ≥ (97 : Int) then (some ((decide (x_0 ≤ (122 : Int))))) else (some (false))
theorem token_low.walk {W h m x_0} (O : Hold W h m h m []) {r} (e : token_low x_0 = some r) : Run Tryd.prog 55 #[Value.int .u8 x_0] h (token_low.post W h m r) := by
 unfold token_low at e
 refine f55.run ?_
 unfold f55.runT
 refine split_dec_e e (fun c1 e => ?_) (fun c1 e => ?_)
 · cases e
   exact ⟨_, O.pick [], rfl⟩
 · cases e
   exact ⟨_, O.pick [], rfl⟩
def token_great.post (W : Nat → Prop) (h0 m0 : Heap) (r : Bool) (v : Value) (h : Heap) : Prop := ∃ m , Hold W h0 m0 h m [] ∧ v = .bool r
noncomputable def token_great (x_0 : Int) : Option (Bool) :=
 if x_0 ≥ (65 : Int) then (some ((decide (x_0 ≤ (90 : Int))))) else (some (false))
theorem token_great.walk {W h m x_0} (O : Hold W h m h m []) {r} (e : token_great x_0 = some r) : Run Tryd.prog 57 #[Value.int .u8 x_0] h (token_great.post W h m r) := by
 unfold token_great at e
 refine f57.run ?_
 unfold f57.runT
 refine split_dec_e e (fun c1 e => ?_) (fun c1 e => ?_)
 · cases e
   exact ⟨_, O.pick [], rfl⟩
 · cases e
   exact ⟨_, O.pick [], rfl⟩
def token_inner.post (W : Nat → Prop) (h0 m0 : Heap) (r : Bool) (v : Value) (h : Heap) : Prop := ∃ m , Hold W h0 m0 h m [] ∧ v = .bool r
noncomputable def token_inner (x_0 : Int) : Option (Bool) :=
 Option.bind (token_low x_0) fun y1 => if y1 = true then (some (true)) else (Option.bind (token_great x_0) fun y8 => if y8 = true then (some (true)) else (Option.bind (token_digit x_0) fun y15 => if y15 = true then (some (true)) else (some ((x_0 == (95 : Int))))))
theorem token_inner.walk {W h m x_0} (O : Hold W h m h m []) {r} (e : token_inner x_0 = some r) : Run Tryd.prog 79 #[Value.int .u8 x_0] h (token_inner.post W h m r) := by
 unfold token_inner at e
 refine f79.run ?_
 unfold f79.runT
 obtain ⟨y1, g2, e⟩ := bind_e e
 refine (token_low.walk (Hold.start (W := No) O.s)  g2).mono ?_
 rintro _ h3 ⟨m4, Q5, rfl⟩
 have O7 := Hold.nm (O.retC Q5 vfs_nil)
 refine ⟨_, rfl, ?_⟩
 refine split_any_e e (fun c24 e => ?_) (fun c24 e => ?_)
 · cases e
   exact ⟨_, O7.pick [], rfl⟩
 · obtain ⟨y8, g9, e⟩ := bind_e e
   refine (token_great.walk (Hold.start (W := No) O7.s)  g9).mono ?_
   rintro _ h10 ⟨m11, Q12, rfl⟩
   have O14 := Hold.nm (O7.retC Q12 vfs_nil)
   refine ⟨_, rfl, ?_⟩
   refine split_any_e e (fun c23 e => ?_) (fun c23 e => ?_)
   · cases e
     exact ⟨_, O14.pick [], rfl⟩
   · obtain ⟨y15, g16, e⟩ := bind_e e
     refine (token_digit.walk (Hold.start (W := No) O14.s)  g16).mono ?_
     rintro _ h17 ⟨m18, Q19, rfl⟩
     have O21 := Hold.nm (O14.retC Q19 vfs_nil)
     refine ⟨_, rfl, ?_⟩
     refine split_any_e e (fun c22 e => ?_) (fun c22 e => ?_)
     · cases e
       exact ⟨_, O21.pick [], rfl⟩
     · cases e
       exact ⟨_, O21.pick [], rfl⟩
def token_name.post (W : Nat → Prop) (h0 m0 : Heap) (r : Bool) (v : Value) (h : Heap) : Prop := ∃ m , Hold W h0 m0 h m [] ∧ v = .bool r
inductive token_name.l0_k.Pt where
 | l0 (a_23 : List Int) (x_24 : Int) (x_25 : Int)
noncomputable def token_name.l0_k.body (go : (p : token_name.l0_k.Pt) → Option (Bool)) : (p : token_name.l0_k.Pt) → Option (Bool)
 | .l0 a_23 x_24 x_25 => if x_25 < x_24 then (Option.bind (gi a_23 x_25) fun y1 => Option.bind (token_inner y1) fun y8 => if y8 = true then ((go (.l0 a_23 x_24 (IntKind.wrap .i64 (x_25 + (1 : Int)))))) else (some (false))) else (some (true))
theorem token_name.l0_k.mono : MonoF (β := fun _ => (Bool)) token_name.l0_k.body := fun f g hfg p => match p with
 | .l0 a_23 x_24 x_25 => LeO.ite (LeO.bind (LeO.refl _) fun y1 => LeO.bind (LeO.refl _) fun y8 => LeO.ite ((hfg _)) (LeO.refl _)) (LeO.refl _)
noncomputable def token_name.l0_k.go (p : token_name.l0_k.Pt) : Option (Bool) := fixF (β := fun _ => (Bool)) token_name.l0_k.body p
noncomputable def token_name.l0 (a_23 x_24 x_25) := token_name.l0_k.go (.l0 a_23 x_24 x_25)
theorem token_name.l0_eq (a_23 x_24 x_25) : token_name.l0 a_23 x_24 x_25 = if x_25 < x_24 then (Option.bind (gi a_23 x_25) fun y1 => Option.bind (token_inner y1) fun y8 => if y8 = true then ((token_name.l0 a_23 x_24 (IntKind.wrap .i64 (x_25 + (1 : Int))))) else (some (false))) else (some (true)) := fixF_eq token_name.l0_k.mono _
def token_name.l0_k.I : (p : token_name.l0_k.Pt) → (Bool) → Prop
 | .l0 a_23 x_24 x_25, r => ∀ {W h0 m0 h m A_23 n_23 c_23} (O : Hold W h0 m0 h m []) (ne_23 : n_23 = List.length a_23) (k_23 : List.length a_23 ≤ c_23) (r_23 : Rd 1 (eInt .u8) m A_23 a_23), f54.l0 (token_name.post W h0 m0 r) A_23 n_23 c_23 x_24 x_25 h
theorem token_name.l0_k.step_l0 (go : (p : token_name.l0_k.Pt) → Option (Bool)) (ih : ∀ p r, go p = some r → token_name.l0_k.I p r) (a_23 x_24 x_25) (r) (e : token_name.l0_k.body go (.l0 a_23 x_24 x_25) = some r) : token_name.l0_k.I (.l0 a_23 x_24 x_25) r := by
 unfold token_name.l0_k.body at e
 intro W h0 m0 h m A_23 n_23 c_23 O ne_23 k_23 r_23
 subst ne_23
 refine f54.l0_in ?_
 unfold f54.l0T
 refine split_dec_e e (fun c16 e => ?_) (fun c16 e => ?_)
 · obtain ⟨y1, g2, e⟩ := bind_e e
   refine r_23.addr rfl g2 fun a3 cs4 ha5 hc6 he7 => ?_
   obtain rfl : cs4 = [(Value.int .u8 y1)] := he7
   refine ⟨_, ld0 O.s hc6 rfl, _, rfl, ?_⟩
   obtain ⟨y8, g9, e⟩ := bind_e e
   refine (token_inner.walk (Hold.start (W := No) O.s)  g9).mono ?_
   rintro _ h10 ⟨m11, Q12, rfl⟩
   have O14 := Hold.nm (O.retC Q12 vfs_nil)
   refine ⟨_, rfl, ?_⟩
   refine split_not ?_
   refine split_any_e e (fun c15 e => ?_) (fun c15 e => ?_)
   · exact (ih _ _ e) (O14.pick []).nm rfl k_23 r_23
   · cases e
     exact ⟨_, O14.pick [], rfl⟩
 · cases e
   exact ⟨_, O.pick [], rfl⟩
theorem token_name.l0_k.all {p : token_name.l0_k.Pt} {r : (Bool)} (e : token_name.l0_k.go p = some r) : token_name.l0_k.I p r := fixF_ind (β := fun _ => (Bool)) token_name.l0_k.mono (I := token_name.l0_k.I) (fun go ih p r e => match p with
 | .l0 a_23 x_24 x_25 => token_name.l0_k.step_l0 go ih a_23 x_24 x_25 r e
 ) e
noncomputable def token_name.j0 (s_0 : ByteArray) : Option (Bool) :=
 (token_name.l0 (bytesI s_0) (((List.length (bytesI s_0)) : Nat) : Int) (0 : Int))
theorem token_name.j0.walk {W h0 m0 h m s_0} (O : Hold W h0 m0 h m []) {r} (e : token_name.j0 s_0 = some r) : f54.j0 (token_name.post W h0 m0 r) s_0 h := by
 unfold token_name.j0 at e
 refine f54.j0_in ?_
 unfold f54.j0T
 refine O.s2b (u := .string) (e := 5) (by kernel_rfl) (by kernel_rfl) (by kernel_rfl) fun h1 m2 A3 c4 x5 u6 r7 k8 O9 => ?_
 refine ⟨_, _, _, rfl, ?_⟩
 have O10 := O9.nm
 exact (token_name.l0_k.all e) (O10.pick []).nm rfl k8 r7
noncomputable def token_name (s_0 : ByteArray) (p_1 : Int → Option Bool) : Option (Bool) :=
 if ((ByteArray.size s_0 : Nat) : Int) < (1 : Int) then (some (false)) else (if ((ByteArray.size s_0 : Nat) : Int) > (16 : Int) then (some (false)) else (Option.bind (gb s_0 (0 : Int)) fun y1 => Option.bind (p_1 y1) fun y7 => if y7 = true then ((token_name.j0 s_0)) else (some (false))))
theorem token_name.walk {p_1 : Int → Option Bool} {W h m fv_1 s_0} (O : Hold W h m h m []) (f_1 : ∀ h' m', Sub m m' → Sub m' h' → ∀ (x0 : Int) (r : Bool), p_1 x0 = some r → CallF Tryd.prog fv_1 [.int .u8 x0] h' (fun v h'' => v = .bool r ∧ Ext h' h'')) {r} (e : token_name s_0 p_1 = some r) : Run Tryd.prog 54 #[Value.string s_0, fv_1] h (token_name.post W h m r) := by
 unfold token_name at e
 refine f54.run ?_
 unfold f54.runT
 refine split_dec_e e (fun c14 e => ?_) (fun c14 e => ?_)
 · cases e
   exact ⟨_, O.pick [], rfl⟩
 · refine split_dec_e e (fun c13 e => ?_) (fun c13 e => ?_)
   · cases e
     exact ⟨_, O.pick [], rfl⟩
   · obtain ⟨y1, g2, e⟩ := bind_e e
     obtain ⟨q3, b4, q5, q6⟩ := gb_e g2
     refine ⟨q3, _, q5, ?_⟩
     try rw [← q6]
     obtain ⟨y7, g8, e⟩ := bind_e e
     refine CallF.mono (f_1 _ _ (Sub.refl _) O.s _ _ g8) ?_
     rintro _ h9 ⟨rfl, x10⟩
     have O11 := O.ext x10
     refine ⟨_, rfl, ?_⟩
     refine split_not ?_
     refine split_any_e e (fun c12 e => ?_) (fun c12 e => ?_)
     · exact token_name.j0.walk (O11.pick []).nm  e
     · cases e
       exact ⟨_, O11.pick [], rfl⟩
def token_IsLow.post (W : Nat → Prop) (h0 m0 : Heap) (r : Bool) (v : Value) (h : Heap) : Prop := ∃ m , Hold W h0 m0 h m [] ∧ v = .bool r
noncomputable def token_IsLow (s_0 : ByteArray) : Option (Bool) :=
 Option.bind (token_name s_0 (fun z7 => token_low z7)) fun y1 => if y1 = true then (Option.bind (token_IsWord s_0) fun y16 => some ((!y16))) else (some (false))
theorem token_IsLow.walk {W h m s_0} (O : Hold W h m h m []) {r} (e : token_IsLow s_0 = some r) : Run Tryd.prog 24 #[Value.string s_0] h (token_IsLow.post W h m r) := by
 unfold token_IsLow at e
 refine f24.run ?_
 unfold f24.runT
 obtain ⟨y1, g2, e⟩ := bind_e e
 refine (token_name.walk (Hold.start (W := No) O.s) (fun h8 m9 u10 s11 x14 r12 e13 => CallF.of [Value.int .u8 x14] f55.ok rfl ((token_low.walk (Hold.start (W := No) s11)  e13).mono (fun _ _ h => let ⟨_, t, e⟩ := h; ⟨e, t.S.ext⟩))) g2).mono ?_
 rintro _ h3 ⟨m4, Q5, rfl⟩
 have O15 := Hold.nm (O.retC Q5 vfs_nil)
 refine ⟨_, rfl, ?_⟩
 refine split_any_e e (fun c23 e => ?_) (fun c23 e => ?_)
 · obtain ⟨y16, g17, e⟩ := bind_e e
   refine (token_IsWord.walk (Hold.start (W := No) O15.s)  g17).mono ?_
   rintro _ h18 ⟨m19, Q20, rfl⟩
   have O22 := Hold.nm (O15.retC Q20 vfs_nil)
   refine ⟨_, rfl, ?_⟩
   cases e
   exact ⟨_, O22.pick [], rfl⟩
 · cases e
   exact ⟨_, O15.pick [], rfl⟩
def token_IsUp.post (W : Nat → Prop) (h0 m0 : Heap) (r : Bool) (v : Value) (h : Heap) : Prop := ∃ m , Hold W h0 m0 h m [] ∧ v = .bool r
noncomputable def token_IsUp (s_0 : ByteArray) : Option (Bool) :=
 Option.bind (token_name s_0 (fun z7 => token_great z7)) fun y1 => some (y1)
theorem token_IsUp.walk {W h m s_0} (O : Hold W h m h m []) {r} (e : token_IsUp s_0 = some r) : Run Tryd.prog 26 #[Value.string s_0] h (token_IsUp.post W h m r) := by
 unfold token_IsUp at e
 refine f26.run ?_
 unfold f26.runT
 obtain ⟨y1, g2, e⟩ := bind_e e
 refine (token_name.walk (Hold.start (W := No) O.s) (fun h8 m9 u10 s11 x14 r12 e13 => CallF.of [Value.int .u8 x14] f57.ok rfl ((token_great.walk (Hold.start (W := No) s11)  e13).mono (fun _ _ h => let ⟨_, t, e⟩ := h; ⟨e, t.S.ext⟩))) g2).mono ?_
 rintro _ h3 ⟨m4, Q5, rfl⟩
 have O15 := Hold.nm (O.retC Q5 vfs_nil)
 refine ⟨_, rfl, ?_⟩
 cases e
 exact ⟨_, O15.pick [], rfl⟩
def token_sign.post (W : Nat → Prop) (h0 m0 : Heap) (r : ByteArray) (v : Value) (h : Heap) : Prop := ∃ m , Hold W h0 m0 h m [] ∧ v = .string r
noncomputable def token_sign.j2 (s_0 : ByteArray) (x_1 : Int) (b_34 : Bool) : Option (ByteArray) :=
 if b_34 = true then (if 0 ≤ x_1 ∧ x_1 ≤ (IntKind.wrap .i64 (x_1 + (1 : Int))) ∧ (IntKind.wrap .i64 (x_1 + (1 : Int))) ≤ ((ByteArray.size s_0 : Nat) : Int) then (some ((ByteArray.extract s_0 (Int.toNat x_1) (Int.toNat (IntKind.wrap .i64 (x_1 + (1 : Int))))))) else none) else (some ((ByteArray.mk #[])))
theorem token_sign.j2.walk {W h0 m0 h m s_0 x_1 b_34} (O : Hold W h0 m0 h m []) {r} (e : token_sign.j2 s_0 x_1 b_34 = some r) : f51.j2 (token_sign.post W h0 m0 r) s_0 x_1 b_34 h := by
 unfold token_sign.j2 at e
 refine f51.j2_in ?_
 unfold f51.j2T
 refine split_any_e e (fun c2 e => ?_) (fun c2 e => ?_)
 · obtain ⟨g1, e⟩ := guard_e e
   refine ⟨g1.1, g1.2.1, g1.2.2, ?_⟩
   cases e
   exact ⟨_, O.pick [], rfl⟩
 · cases e
   exact ⟨_, O.pick [], rfl⟩
noncomputable def token_sign.j0 (s_0 : ByteArray) (x_1 : Int) : Option (ByteArray) :=
 Option.bind (gb s_0 x_1) fun y1 => if y1 = (40 : Int) then ((token_sign.j2 s_0 x_1 (y1 == (40 : Int)))) else (if y1 = (41 : Int) then ((token_sign.j2 s_0 x_1 (y1 == (41 : Int)))) else (if y1 = (91 : Int) then ((token_sign.j2 s_0 x_1 (y1 == (91 : Int)))) else (if y1 = (93 : Int) then ((token_sign.j2 s_0 x_1 (y1 == (93 : Int)))) else (if y1 = (123 : Int) then ((token_sign.j2 s_0 x_1 (y1 == (123 : Int)))) else (if y1 = (125 : Int) then ((token_sign.j2 s_0 x_1 (y1 == (125 : Int)))) else (if y1 = (44 : Int) then ((token_sign.j2 s_0 x_1 (y1 == (44 : Int)))) else (if y1 = (59 : Int) then ((token_sign.j2 s_0 x_1 (y1 == (59 : Int)))) else (if y1 = (58 : Int) then ((token_sign.j2 s_0 x_1 (y1 == (58 : Int)))) else (if y1 = (61 : Int) then ((token_sign.j2 s_0 x_1 (y1 == (61 : Int)))) else (if y1 = (43 : Int) then ((token_sign.j2 s_0 x_1 (y1 == (43 : Int)))) else (if y1 = (45 : Int) then ((token_sign.j2 s_0 x_1 (y1 == (45 : Int)))) else (if y1 = (42 : Int) then ((token_sign.j2 s_0 x_1 (y1 == (42 : Int)))) else (if y1 = (47 : Int) then ((token_sign.j2 s_0 x_1 (y1 == (47 : Int)))) else (if y1 = (37 : Int) then ((token_sign.j2 s_0 x_1 (y1 == (37 : Int)))) else (if y1 = (60 : Int) then ((token_sign.j2 s_0 x_1 (y1 == (60 : Int)))) else (if y1 = (94 : Int) then ((token_sign.j2 s_0 x_1 (y1 == (94 : Int)))) else (if y1 = (124 : Int) then ((token_sign.j2 s_0 x_1 (y1 == (124 : Int)))) else ((token_sign.j2 s_0 x_1 (y1 == (95 : Int)))))))))))))))))))))
set_option maxHeartbeats 4000000 in
theorem token_sign.j0.walk {W h0 m0 h m s_0 x_1} (O : Hold W h0 m0 h m []) {r} (e : token_sign.j0 s_0 x_1 = some r) : f51.j0 (token_sign.post W h0 m0 r) s_0 x_1 h := by
 unfold token_sign.j0 at e
 refine f51.j0_in ?_
 unfold f51.j0T
 obtain ⟨y1, g2, e⟩ := bind_e e
 obtain ⟨q3, b4, q5, q6⟩ := gb_e g2
 refine ⟨q3, _, q5, ?_⟩
 try rw [← q6]
 refine split_eq_e e (fun c24 e => ?_) (fun c24 e => ?_)
 · exact token_sign.j2.walk (O.pick []).nm  e
 · refine split_eq_e e (fun c23 e => ?_) (fun c23 e => ?_)
   · exact token_sign.j2.walk (O.pick []).nm  e
   · refine split_eq_e e (fun c22 e => ?_) (fun c22 e => ?_)
     · exact token_sign.j2.walk (O.pick []).nm  e
     · refine split_eq_e e (fun c21 e => ?_) (fun c21 e => ?_)
       · exact token_sign.j2.walk (O.pick []).nm  e
       · refine split_eq_e e (fun c20 e => ?_) (fun c20 e => ?_)
         · exact token_sign.j2.walk (O.pick []).nm  e
         · refine split_eq_e e (fun c19 e => ?_) (fun c19 e => ?_)
           · exact token_sign.j2.walk (O.pick []).nm  e
           · refine split_eq_e e (fun c18 e => ?_) (fun c18 e => ?_)
             · exact token_sign.j2.walk (O.pick []).nm  e
             · refine split_eq_e e (fun c17 e => ?_) (fun c17 e => ?_)
               · exact token_sign.j2.walk (O.pick []).nm  e
               · refine split_eq_e e (fun c16 e => ?_) (fun c16 e => ?_)
                 · exact token_sign.j2.walk (O.pick []).nm  e
                 · refine split_eq_e e (fun c15 e => ?_) (fun c15 e => ?_)
                   · exact token_sign.j2.walk (O.pick []).nm  e
                   · refine split_eq_e e (fun c14 e => ?_) (fun c14 e => ?_)
                     · exact token_sign.j2.walk (O.pick []).nm  e
                     · refine split_eq_e e (fun c13 e => ?_) (fun c13 e => ?_)
                       · exact token_sign.j2.walk (O.pick []).nm  e
                       · refine split_eq_e e (fun c12 e => ?_) (fun c12 e => ?_)
                         · exact token_sign.j2.walk (O.pick []).nm  e
                         · refine split_eq_e e (fun c11 e => ?_) (fun c11 e => ?_)
                           · exact token_sign.j2.walk (O.pick []).nm  e
                           · refine split_eq_e e (fun c10 e => ?_) (fun c10 e => ?_)
                             · exact token_sign.j2.walk (O.pick []).nm  e
                             · refine split_eq_e e (fun c9 e => ?_) (fun c9 e => ?_)
                               · exact token_sign.j2.walk (O.pick []).nm  e
                               · refine split_eq_e e (fun c8 e => ?_) (fun c8 e => ?_)
                                 · exact token_sign.j2.walk (O.pick []).nm  e
                                 · refine split_eq_e e (fun c7 e => ?_) (fun c7 e => ?_)
                                   · exact token_sign.j2.walk (O.pick []).nm  e
                                   · exact token_sign.j2.walk (O.pick []).nm  e
noncomputable def token_sign.j1 (s_0 : ByteArray) (x_1 : Int) (b_25 : Bool) : Option (ByteArray) :=
 if b_25 = true then (if 0 ≤ x_1 ∧ x_1 ≤ (IntKind.wrap .i64 (x_1 + (2 : Int))) ∧ (IntKind.wrap .i64 (x_1 + (2 : Int))) ≤ ((ByteArray.size s_0 : Nat) : Int) then (some ((ByteArray.extract s_0 (Int.toNat x_1) (Int.toNat (IntKind.wrap .i64 (x_1 + (2 : Int))))))) else none) else ((token_sign.j0 s_0 x_1))
theorem token_sign.j1.walk {W h0 m0 h m s_0 x_1 b_25} (O : Hold W h0 m0 h m []) {r} (e : token_sign.j1 s_0 x_1 b_25 = some r) : f51.j1 (token_sign.post W h0 m0 r) s_0 x_1 b_25 h := by
 unfold token_sign.j1 at e
 refine f51.j1_in ?_
 unfold f51.j1T
 refine split_any_e e (fun c2 e => ?_) (fun c2 e => ?_)
 · obtain ⟨g1, e⟩ := guard_e e
   refine ⟨g1.1, g1.2.1, g1.2.2, ?_⟩
   cases e
   exact ⟨_, O.pick [], rfl⟩
 · exact token_sign.j0.walk (O.pick []).nm  e
noncomputable def token_sign (s_0 : ByteArray) (x_1 : Int) : Option (ByteArray) :=
 if (IntKind.wrap .i64 (x_1 + (1 : Int))) < ((ByteArray.size s_0 : Nat) : Int) then (if 0 ≤ x_1 ∧ x_1 ≤ (IntKind.wrap .i64 (x_1 + (2 : Int))) ∧ (IntKind.wrap .i64 (x_1 + (2 : Int))) ≤ ((ByteArray.size s_0 : Nat) : Int) then (if (ByteArray.extract s_0 (Int.toNat x_1) (Int.toNat (IntKind.wrap .i64 (x_1 + (2 : Int))))) = (ByteArray.mk #[61, 62]) then ((token_sign.j1 s_0 x_1 true)) else (if 0 ≤ x_1 ∧ x_1 ≤ (IntKind.wrap .i64 (x_1 + (2 : Int))) ∧ (IntKind.wrap .i64 (x_1 + (2 : Int))) ≤ ((ByteArray.size s_0 : Nat) : Int) then ((token_sign.j1 s_0 x_1 (decide ((ByteArray.extract s_0 (Int.toNat x_1) (Int.toNat (IntKind.wrap .i64 (x_1 + (2 : Int))))) = (ByteArray.mk #[45, 62]))))) else none)) else none) else ((token_sign.j1 s_0 x_1 false))
theorem token_sign.walk {W h m s_0 x_1} (O : Hold W h m h m []) {r} (e : token_sign s_0 x_1 = some r) : Run Tryd.prog 51 #[Value.string s_0, Value.int .i64 x_1] h (token_sign.post W h m r) := by
 unfold token_sign at e
 refine f51.run ?_
 unfold f51.runT
 refine split_dec_e e (fun c4 e => ?_) (fun c4 e => ?_)
 · obtain ⟨g1, e⟩ := guard_e e
   refine ⟨g1.1, g1.2.1, g1.2.2, ?_⟩
   try rw [ba_list (ByteArray.extract s_0 (Int.toNat x_1) (Int.toNat (IntKind.wrap .i64 (x_1 + (2 : Int))))) (ByteArray.mk #[61, 62])]
   refine split_dec_e e (fun c3 e => ?_) (fun c3 e => ?_)
   · exact token_sign.j1.walk (O.pick []).nm  e
   · obtain ⟨g2, e⟩ := guard_e e
     refine ⟨g2.1, g2.2.1, g2.2.2, ?_⟩
     try rw [ba_list (ByteArray.extract s_0 (Int.toNat x_1) (Int.toNat (IntKind.wrap .i64 (x_1 + (2 : Int))))) (ByteArray.mk #[45, 62])]
     exact token_sign.j1.walk (O.pick []).nm  e
 · exact token_sign.j1.walk (O.pick []).nm  e
def token_Show.post (W : Nat → Prop) (h0 m0 : Heap) (r : ByteArray × Int) (v : Value) (h : Heap) : Prop := ∃ m , Hold W h0 m0 h m [] ∧ v = .tuple #[.string r.1, .int .i64 r.2]
inductive token_Show.l0_k.Pt where
 | l0 (y_1 : T_token_Token) (b_4 : Bool) (a_43 : List Int) (x_44 : Int) (x_45 : Int)
noncomputable def token_Show.l0_k.body (go : (p : token_Show.l0_k.Pt) → Option (ByteArray × Int)) : (p : token_Show.l0_k.Pt) → Option (ByteArray × Int)
 | .l0 y_1 b_4 a_43 x_44 x_45 => if x_45 < x_44 then (Option.bind (gi a_43 x_45) fun y1 => if b_4 = true then (Option.bind (token_digit y1) fun y8 => (go (.l0 y_1 y8 a_43 x_44 (IntKind.wrap .i64 (x_45 + (1 : Int)))))) else ((go (.l0 y_1 false a_43 x_44 (IntKind.wrap .i64 (x_45 + (1 : Int))))))) else (if b_4 = true then (some (y_1.Text, (0 : Int))) else (some ((ByteArray.mk #[]), (3 : Int))))
theorem token_Show.l0_k.mono : MonoF (β := fun _ => (ByteArray × Int)) token_Show.l0_k.body := fun f g hfg p => match p with
 | .l0 y_1 b_4 a_43 x_44 x_45 => LeO.ite (LeO.bind (LeO.refl _) fun y1 => LeO.ite (LeO.bind (LeO.refl _) fun y8 => (hfg _)) ((hfg _))) (LeO.ite (LeO.refl _) (LeO.refl _))
noncomputable def token_Show.l0_k.go (p : token_Show.l0_k.Pt) : Option (ByteArray × Int) := fixF (β := fun _ => (ByteArray × Int)) token_Show.l0_k.body p
noncomputable def token_Show.l0 (y_1 b_4 a_43 x_44 x_45) := token_Show.l0_k.go (.l0 y_1 b_4 a_43 x_44 x_45)
theorem token_Show.l0_eq (y_1 b_4 a_43 x_44 x_45) : token_Show.l0 y_1 b_4 a_43 x_44 x_45 = if x_45 < x_44 then (Option.bind (gi a_43 x_45) fun y1 => if b_4 = true then (Option.bind (token_digit y1) fun y8 => (token_Show.l0 y_1 y8 a_43 x_44 (IntKind.wrap .i64 (x_45 + (1 : Int))))) else ((token_Show.l0 y_1 false a_43 x_44 (IntKind.wrap .i64 (x_45 + (1 : Int)))))) else (if b_4 = true then (some (y_1.Text, (0 : Int))) else (some ((ByteArray.mk #[]), (3 : Int)))) := fixF_eq token_Show.l0_k.mono _
def token_Show.l0_k.I : (p : token_Show.l0_k.Pt) → (ByteArray × Int) → Prop
 | .l0 y_1 b_4 a_43 x_44 x_45, r => ∀ {W h0 m0 h m bk_1 cs_1 A_43 n_43 c_43} (O : Hold W h0 m0 h m [rV bk_1 59 cs_1]) (e_1 : T_token_Token.E m y_1 cs_1) (ne_43 : n_43 = List.length a_43) (k_43 : List.length a_43 ≤ c_43) (r_43 : Rd 1 (eInt .u8) m A_43 a_43) (tab : TB m), f19.l0 (token_Show.post W h0 m0 r) (⟨bk_1, 0, none⟩ : Addr) b_4 A_43 n_43 c_43 x_44 x_45 h
theorem token_Show.l0_k.step_l0 (go : (p : token_Show.l0_k.Pt) → Option (ByteArray × Int)) (ih : ∀ p r, go p = some r → token_Show.l0_k.I p r) (y_1 b_4 a_43 x_44 x_45) (r) (e : token_Show.l0_k.body go (.l0 y_1 b_4 a_43 x_44 x_45) = some r) : token_Show.l0_k.I (.l0 y_1 b_4 a_43 x_44 x_45) r := by
 unfold token_Show.l0_k.body at e
 intro W h0 m0 h m bk_1 cs_1 A_43 n_43 c_43 O e_1 ne_43 k_43 r_43 tab
 subst ne_43
 refine f19.l0_in ?_
 unfold f19.l0T
 refine split_dec_e e (fun c17 e => ?_) (fun c17 e => ?_)
 · obtain ⟨y1, g2, e⟩ := bind_e e
   refine r_43.addr rfl g2 fun a3 cs4 ha5 hc6 he7 => ?_
   obtain rfl : cs4 = [(Value.int .u8 y1)] := he7
   refine ⟨_, ld0 O.s hc6 rfl, _, rfl, ?_⟩
   refine split_any_e e (fun c15 e => ?_) (fun c15 e => ?_)
   · obtain ⟨y8, g9, e⟩ := bind_e e
     refine (token_digit.walk (Hold.start (W := No) O.s)  g9).mono ?_
     rintro _ h10 ⟨m11, Q12, rfl⟩
     have O14 := Hold.nm (O.retC Q12 vfs_nil)
     refine ⟨_, rfl, ?_⟩
     exact (ih _ _ e) (O14.pick [0]).nm e_1 rfl k_43 r_43 tab
   · exact (ih _ _ e) (O.pick [0]).nm e_1 rfl k_43 r_43 tab
 · refine split_any_e e (fun c16 e => ?_) (fun c16 e => ?_)
   · refine ⟨_, ldk (k := 1) (Sub.refl _) (O.all 0 rfl) (T_token_Token.g1 e_1), _, rfl, ?_⟩
     cases e
     exact ⟨_, O.pick [], rfl⟩
   · cases e
     exact ⟨_, O.pick [], rfl⟩
theorem token_Show.l0_k.all {p : token_Show.l0_k.Pt} {r : (ByteArray × Int)} (e : token_Show.l0_k.go p = some r) : token_Show.l0_k.I p r := fixF_ind (β := fun _ => (ByteArray × Int)) token_Show.l0_k.mono (I := token_Show.l0_k.I) (fun go ih p r e => match p with
 | .l0 y_1 b_4 a_43 x_44 x_45 => token_Show.l0_k.step_l0 go ih y_1 b_4 a_43 x_44 x_45 r e
 ) e
noncomputable def token_Show.j0 (y_1 : T_token_Token) (b_4 : Bool) : Option (ByteArray × Int) :=
 (token_Show.l0 y_1 b_4 (bytesI y_1.Text) (((List.length (bytesI y_1.Text)) : Nat) : Int) (0 : Int))
theorem token_Show.j0.walk {W h0 m0 h m bk_1 cs_1 y_1 b_4} (O : Hold W h0 m0 h m [rV bk_1 59 cs_1]) (e_1 : T_token_Token.E m y_1 cs_1) (tab : TB m) {r} (e : token_Show.j0 y_1 b_4 = some r) : f19.j0 (token_Show.post W h0 m0 r) (⟨bk_1, 0, none⟩ : Addr) b_4 h := by
 unfold token_Show.j0 at e
 refine f19.j0_in ?_
 unfold f19.j0T
 refine ⟨_, ldk (k := 1) (Sub.refl _) (O.all 0 rfl) (T_token_Token.g1 e_1), _, rfl, ?_⟩
 refine O.s2b (u := .string) (e := 5) (by kernel_rfl) (by kernel_rfl) (by kernel_rfl) fun h1 m2 A3 c4 x5 u6 r7 k8 O9 => ?_
 refine ⟨_, _, _, rfl, ?_⟩
 have O10 := O9.nm
 exact (token_Show.l0_k.all e) (O10.pick [0]).nm (T_token_Token.T.mono _ _ _ _ u6 e_1) rfl k8 r7 (TB.sub tab u6)
noncomputable def token_Show.j1 (y_1 : T_token_Token) (b_77 : Bool) : Option (ByteArray × Int) :=
 if b_77 = true then (some (y_1.Text, (0 : Int))) else (some ((ByteArray.mk #[]), (3 : Int)))
theorem token_Show.j1.walk {W h0 m0 h m bk_1 cs_1 y_1 b_77} (O : Hold W h0 m0 h m [rV bk_1 59 cs_1]) (e_1 : T_token_Token.E m y_1 cs_1) (tab : TB m) {r} (e : token_Show.j1 y_1 b_77 = some r) : f19.j1 (token_Show.post W h0 m0 r) (⟨bk_1, 0, none⟩ : Addr) b_77 h := by
 unfold token_Show.j1 at e
 refine f19.j1_in ?_
 unfold f19.j1T
 refine split_any_e e (fun c1 e => ?_) (fun c1 e => ?_)
 · refine ⟨_, ldk (k := 1) (Sub.refl _) (O.all 0 rfl) (T_token_Token.g1 e_1), _, rfl, ?_⟩
   cases e
   exact ⟨_, O.pick [], rfl⟩
 · cases e
   exact ⟨_, O.pick [], rfl⟩
noncomputable def token_Show (y_0 : T_token_Token) : Option (ByteArray × Int) :=
 if y_0.Kind = (1 : Int) then (Option.bind (token_IsLow y_0.Text) fun y5 => if y5 = true then (some (y_0.Text, (0 : Int))) else (some ((ByteArray.mk #[]), (3 : Int)))) else (if y_0.Kind = (2 : Int) then (Option.bind (token_IsUp y_0.Text) fun y13 => if y13 = true then (some (y_0.Text, (0 : Int))) else (some ((ByteArray.mk #[]), (3 : Int)))) else (if y_0.Kind = (3 : Int) then (Option.bind (token_IsWord y_0.Text) fun y21 => if y21 = true then (some (y_0.Text, (0 : Int))) else (some ((ByteArray.mk #[]), (3 : Int)))) else (if y_0.Kind = (4 : Int) then (if y_0.Text = (ByteArray.mk #[]) then ((token_Show.j0 y_0 false)) else ((token_Show.j0 y_0 (decide (((ByteArray.size y_0.Text : Nat) : Int) ≤ (4000 : Int)))))) else (if y_0.Kind = (5 : Int) then (Option.bind (token_Quote y_0.Text) fun y32 => some (y32.1, y32.2)) else (if y_0.Kind = (6 : Int) then (if y_0.Text = (ByteArray.mk #[]) then ((token_Show.j1 y_0 false)) else (Option.bind (token_sign y_0.Text (0 : Int)) fun y40 => (token_Show.j1 y_0 (decide (y40 = y_0.Text))))) else (some ((ByteArray.mk #[]), (3 : Int))))))))
set_option maxHeartbeats 4000000 in
theorem token_Show.walk {W h m cs_0 y_0} (O : Hold W h m h m []) (e_0 : T_token_Token.E m y_0 cs_0) (tab : TB m) {r} (e : token_Show y_0 = some r) : Run Tryd.prog 19 #[Value.agg cs_0.toArray] h (token_Show.post W h m r) := by
 unfold token_Show at e
 refine f19.run ?_
 unfold f19.runT
 refine O.new fun h1 x2 O3 => ?_
 refine ⟨_, ld0 (Sub.refl _) (O3.all 0 rfl) (T_token_Token.g0 e_0), _, rfl, ?_⟩
 refine split_eq_e e (fun c54 e => ?_) (fun c54 e => ?_)
 · refine ⟨_, ldk (k := 1) (Sub.refl _) (O3.all 0 rfl) (T_token_Token.g1 e_0), _, rfl, ?_⟩
   obtain ⟨y5, g6, e⟩ := bind_e e
   refine (token_IsLow.walk (Hold.start (W := No) O3.s)  g6).mono ?_
   rintro _ h7 ⟨m8, Q9, rfl⟩
   have O11 := Hold.nm (O3.retC Q9 vfs_nil)
   refine ⟨_, rfl, ?_⟩
   refine split_any_e e (fun c12 e => ?_) (fun c12 e => ?_)
   · refine ⟨_, ldk (k := 1) (Sub.refl _) (O11.all 0 rfl) (T_token_Token.g1 e_0), _, rfl, ?_⟩
     cases e
     exact ⟨_, O11.pick [], rfl⟩
   · cases e
     exact ⟨_, O11.pick [], rfl⟩
 · refine split_eq_e e (fun c53 e => ?_) (fun c53 e => ?_)
   · refine ⟨_, ldk (k := 1) (Sub.refl _) (O3.all 0 rfl) (T_token_Token.g1 e_0), _, rfl, ?_⟩
     obtain ⟨y13, g14, e⟩ := bind_e e
     refine (token_IsUp.walk (Hold.start (W := No) O3.s)  g14).mono ?_
     rintro _ h15 ⟨m16, Q17, rfl⟩
     have O19 := Hold.nm (O3.retC Q17 vfs_nil)
     refine ⟨_, rfl, ?_⟩
     refine split_any_e e (fun c20 e => ?_) (fun c20 e => ?_)
     · refine ⟨_, ldk (k := 1) (Sub.refl _) (O19.all 0 rfl) (T_token_Token.g1 e_0), _, rfl, ?_⟩
       cases e
       exact ⟨_, O19.pick [], rfl⟩
     · cases e
       exact ⟨_, O19.pick [], rfl⟩
   · refine split_eq_e e (fun c52 e => ?_) (fun c52 e => ?_)
     · refine ⟨_, ldk (k := 1) (Sub.refl _) (O3.all 0 rfl) (T_token_Token.g1 e_0), _, rfl, ?_⟩
       obtain ⟨y21, g22, e⟩ := bind_e e
       refine (token_IsWord.walk (Hold.start (W := No) O3.s)  g22).mono ?_
       rintro _ h23 ⟨m24, Q25, rfl⟩
       have O27 := Hold.nm (O3.retC Q25 vfs_nil)
       refine ⟨_, rfl, ?_⟩
       refine split_any_e e (fun c28 e => ?_) (fun c28 e => ?_)
       · refine ⟨_, ldk (k := 1) (Sub.refl _) (O27.all 0 rfl) (T_token_Token.g1 e_0), _, rfl, ?_⟩
         cases e
         exact ⟨_, O27.pick [], rfl⟩
       · cases e
         exact ⟨_, O27.pick [], rfl⟩
     · refine split_eq_e e (fun c51 e => ?_) (fun c51 e => ?_)
       · refine ⟨_, ldk (k := 1) (Sub.refl _) (O3.all 0 rfl) (T_token_Token.g1 e_0), _, rfl, ?_⟩
         try rw [ba_list y_0.Text (ByteArray.mk #[])]
         refine split_not ?_
         refine split_dec_e e (fun c31 e => ?_) (fun c31 e => ?_)
         · have O29 := O3.nm
           exact token_Show.j0.walk (O29.pick [0]).nm e_0 tab e
         · refine ⟨_, ldk (k := 1) (Sub.refl _) (O3.all 0 rfl) (T_token_Token.g1 e_0), _, rfl, ?_⟩
           have O30 := O3.nm
           exact token_Show.j0.walk (O30.pick [0]).nm e_0 tab e
       · refine split_eq_e e (fun c50 e => ?_) (fun c50 e => ?_)
         · refine ⟨_, ldk (k := 1) (Sub.refl _) (O3.all 0 rfl) (T_token_Token.g1 e_0), _, rfl, ?_⟩
           obtain ⟨y32, g33, e⟩ := bind_e e
           refine (token_Quote.walk (Hold.start (W := No) O3.s) tab g33).mono ?_
           rintro _ h34 ⟨m35, Q36, rfl⟩
           have O38 := Hold.nm (O3.retC Q36 vfs_nil)
           refine ⟨_, _, rfl, ?_⟩
           cases e
           exact ⟨_, O38.pick [], rfl⟩
         · refine split_eq_e e (fun c49 e => ?_) (fun c49 e => ?_)
           · refine ⟨_, ldk (k := 1) (Sub.refl _) (O3.all 0 rfl) (T_token_Token.g1 e_0), _, rfl, ?_⟩
             try rw [ba_list y_0.Text (ByteArray.mk #[])]
             refine split_not ?_
             refine split_dec_e e (fun c47 e => ?_) (fun c47 e => ?_)
             · refine ⟨(Ext.refl _), ?_⟩
               have O39 := O3.nm
               exact token_Show.j1.walk (O39.pick [0]).nm e_0 tab e
             · refine ⟨_, ldk (k := 1) (Sub.refl _) (O3.all 0 rfl) (T_token_Token.g1 e_0), _, rfl, ?_⟩
               refine ⟨_, ldk (k := 1) (Sub.refl _) (O3.all 0 rfl) (T_token_Token.g1 e_0), _, rfl, ?_⟩
               obtain ⟨y40, g41, e⟩ := bind_e e
               refine (token_sign.walk (Hold.start (W := No) O3.s)  g41).mono ?_
               rintro _ h42 ⟨m43, Q44, rfl⟩
               have O46 := Hold.nm (O3.retC Q44 vfs_nil)
               refine ⟨_, rfl, ?_⟩
               refine ⟨Q44.S.ext, ?_⟩
               try rw [ba_list y40 y_0.Text]
               exact token_Show.j1.walk (O46.pick [0]).nm e_0 tab e
           · have O48 := O3.nm
             cases e
             exact ⟨_, O48.pick [], rfl⟩
def slices_Index_53.post (W : Nat → Prop) (h0 m0 : Heap) (r : Int) (v : Value) (h : Heap) : Prop := ∃ m , Hold W h0 m0 h m [] ∧ v = .int .i64 r
inductive slices_Index_53.l0_k.Pt where
 | l0 (a_0 : List ByteArray) (s_1 : ByteArray) (x_7 : Int) (x_8 : Int)
noncomputable def slices_Index_53.l0_k.body (go : (p : slices_Index_53.l0_k.Pt) → Option (Int)) : (p : slices_Index_53.l0_k.Pt) → Option (Int)
 | .l0 a_0 s_1 x_7 x_8 => if x_8 < x_7 then (Option.bind (gi a_0 x_8) fun y1 => if s_1 = y1 then (some (x_8)) else ((go (.l0 a_0 s_1 x_7 (IntKind.wrap .i64 (x_8 + (1 : Int))))))) else (some ((-1 : Int)))
theorem slices_Index_53.l0_k.mono : MonoF (β := fun _ => (Int)) slices_Index_53.l0_k.body := fun f g hfg p => match p with
 | .l0 a_0 s_1 x_7 x_8 => LeO.ite (LeO.bind (LeO.refl _) fun y1 => LeO.ite (LeO.refl _) ((hfg _))) (LeO.refl _)
noncomputable def slices_Index_53.l0_k.go (p : slices_Index_53.l0_k.Pt) : Option (Int) := fixF (β := fun _ => (Int)) slices_Index_53.l0_k.body p
noncomputable def slices_Index_53.l0 (a_0 s_1 x_7 x_8) := slices_Index_53.l0_k.go (.l0 a_0 s_1 x_7 x_8)
theorem slices_Index_53.l0_eq (a_0 s_1 x_7 x_8) : slices_Index_53.l0 a_0 s_1 x_7 x_8 = if x_8 < x_7 then (Option.bind (gi a_0 x_8) fun y1 => if s_1 = y1 then (some (x_8)) else ((slices_Index_53.l0 a_0 s_1 x_7 (IntKind.wrap .i64 (x_8 + (1 : Int)))))) else (some ((-1 : Int))) := fixF_eq slices_Index_53.l0_k.mono _
def slices_Index_53.l0_k.I : (p : slices_Index_53.l0_k.Pt) → (Int) → Prop
 | .l0 a_0 s_1 x_7 x_8, r => ∀ {W h0 m0 h m A_0 n_0 c_0} (O : Hold W h0 m0 h m []) (ne_0 : n_0 = List.length a_0) (k_0 : List.length a_0 ≤ c_0) (r_0 : Rd 1 eStr m A_0 a_0), f53.l0 (slices_Index_53.post W h0 m0 r) A_0 n_0 c_0 s_1 x_7 x_8 h
theorem slices_Index_53.l0_k.step_l0 (go : (p : slices_Index_53.l0_k.Pt) → Option (Int)) (ih : ∀ p r, go p = some r → slices_Index_53.l0_k.I p r) (a_0 s_1 x_7 x_8) (r) (e : slices_Index_53.l0_k.body go (.l0 a_0 s_1 x_7 x_8) = some r) : slices_Index_53.l0_k.I (.l0 a_0 s_1 x_7 x_8) r := by
 unfold slices_Index_53.l0_k.body at e
 intro W h0 m0 h m A_0 n_0 c_0 O ne_0 k_0 r_0
 subst ne_0
 refine f53.l0_in ?_
 unfold f53.l0T
 refine split_dec_e e (fun c9 e => ?_) (fun c9 e => ?_)
 · obtain ⟨y1, g2, e⟩ := bind_e e
   refine r_0.addr rfl g2 fun a3 cs4 ha5 hc6 he7 => ?_
   obtain rfl : cs4 = [(Value.string y1)] := he7
   refine ⟨_, ld0 O.s hc6 rfl, _, rfl, ?_⟩
   try rw [ba_list s_1 y1]
   refine split_dec_e e (fun c8 e => ?_) (fun c8 e => ?_)
   · cases e
     exact ⟨_, O.pick [], rfl⟩
   · exact (ih _ _ e) (O.pick []).nm rfl k_0 r_0
 · cases e
   exact ⟨_, O.pick [], rfl⟩
theorem slices_Index_53.l0_k.all {p : slices_Index_53.l0_k.Pt} {r : (Int)} (e : slices_Index_53.l0_k.go p = some r) : slices_Index_53.l0_k.I p r := fixF_ind (β := fun _ => (Int)) slices_Index_53.l0_k.mono (I := slices_Index_53.l0_k.I) (fun go ih p r e => match p with
 | .l0 a_0 s_1 x_7 x_8 => slices_Index_53.l0_k.step_l0 go ih a_0 s_1 x_7 x_8 r e
 ) e
noncomputable def slices_Index_53 (a_0 : List ByteArray) (s_1 : ByteArray) : Option (Int) :=
 (slices_Index_53.l0 a_0 s_1 (((List.length a_0) : Nat) : Int) (0 : Int))
theorem slices_Index_53.walk {W h m A_0 n_0 c_0 a_0 s_1} (O : Hold W h m h m []) (ne_0 : n_0 = List.length a_0) (k_0 : List.length a_0 ≤ c_0) (r_0 : Rd 1 eStr m A_0 a_0) {r} (e : slices_Index_53 a_0 s_1 = some r) : Run Tryd.prog 53 #[Value.slice A_0 n_0 c_0, Value.string s_1] h (slices_Index_53.post W h m r) := by
 unfold slices_Index_53 at e
 subst ne_0
 refine f53.run ?_
 unfold f53.runT
 exact (slices_Index_53.l0_k.all e) (O.pick []).nm rfl k_0 r_0
def slices_Contains_22.post (W : Nat → Prop) (h0 m0 : Heap) (r : Bool) (v : Value) (h : Heap) : Prop := ∃ m , Hold W h0 m0 h m [] ∧ v = .bool r
noncomputable def slices_Contains_22 (a_0 : List ByteArray) (s_1 : ByteArray) : Option (Bool) :=
 Option.bind (slices_Index_53 a_0 s_1) fun y1 => some ((decide (y1 ≥ (0 : Int))))
theorem slices_Contains_22.walk {W h m A_0 n_0 c_0 a_0 s_1} (O : Hold W h m h m []) (ne_0 : n_0 = List.length a_0) (k_0 : List.length a_0 ≤ c_0) (r_0 : Rd 1 eStr m A_0 a_0) {r} (e : slices_Contains_22 a_0 s_1 = some r) : Run Tryd.prog 22 #[Value.slice A_0 n_0 c_0, Value.string s_1] h (slices_Contains_22.post W h m r) := by
 unfold slices_Contains_22 at e
 subst ne_0
 refine f22.run ?_
 unfold f22.runT
 obtain ⟨y1, g2, e⟩ := bind_e e
 refine (slices_Index_53.walk (Hold.start (W := No) O.s) rfl k_0 r_0 g2).mono ?_
 rintro _ h3 ⟨m4, Q5, rfl⟩
 have O7 := Hold.nm (O.retC Q5 vfs_nil)
 refine ⟨_, rfl, ?_⟩
 cases e
 exact ⟨_, O7.pick [], rfl⟩
theorem slices_Contains_22.val {l : List ByteArray} (v : ByteArray) (hl : l.length ≤ 4611686018427387904) : slices_Contains_22 l v = some (l.any fun y => decide (v = y)) := contains_any (fun a p n i => slices_Index_53.l0_eq a p n i) (fun _ _ => rfl) (fun _ _ => rfl) v hl
def strings_Fields.post (W : Nat → Prop) (h0 m0 : Heap) (r : (List ByteArray)) (v : Value) (h : Heap) : Prop := ∃ m A0 n0 c0, Hold W h0 m0 h m [rR (aE tell_str) A0 c0 r] ∧ v = .slice A0 n0 c0 ∧ n0 = List.length r
noncomputable def strings_Fields (x0 : ByteArray) : Option (List ByteArray) := if x0.size < 4294967281 ∧ ascii x0 = true then some (fieldsB x0) else none
theorem strings_Fields.walk {W : Nat → Prop} {h m : Heap} {x0 : ByteArray} (O : Hold W h m h m []) (tab : TB m) {r : List ByteArray} (e : strings_Fields x0 = some r) : Run Tryd.prog 40 #[Value.string x0] h (strings_Fields.post W h m r) := by
 unfold strings_Fields at e
 exact (fields_run (by kernel_rfl) Tryd.strings_Fields O tab.1 e).mono fun v h' hp => hp
def roadref2_WordList.post (W : Nat → Prop) (h0 m0 : Heap) (r : (List ByteArray)) (v : Value) (h : Heap) : Prop := ∃ m A0 n0 c0, Hold W h0 m0 h m [rR (aE tell_str) A0 c0 r] ∧ v = .slice A0 n0 c0 ∧ n0 = List.length r
noncomputable def roadref2_WordList  : Option ((List ByteArray)) :=
 Option.bind (strings_Fields (ByteArray.mk #[97, 99, 116, 111, 114, 32, 97, 102, 116, 101, 114, 32, 97, 110, 100, 32, 97, 112, 112, 108, 121, 32, 98, 101, 99, 111, 109, 101, 32, 98, 111, 111, 108, 32, 99, 101, 108, 108, 32, 100, 97, 116, 97, 32, 101, 108, 115, 101, 32, 102, 97, 105, 108, 32, 102, 97, 108, 115, 101, 32, 102, 110, 32, 102, 111, 114, 32, 102, 117, 110, 32, 103, 101, 116, 32, 105, 102, 32, 105, 109, 112, 108, 32, 105, 110, 32, 105, 110, 116, 32, 108, 101, 116, 32, 108, 105, 110, 107, 32, 109, 97, 116, 99, 104, 32, 109, 111, 100, 117, 108, 101, 32, 110, 111, 116, 32, 111, 114, 32, 112, 117, 116, 32, 114, 101, 99, 101, 105, 118, 101, 32, 115, 97, 121, 32, 115, 101, 108, 102, 32, 115, 101, 110, 100, 32, 115, 112, 97, 119, 110, 32, 116, 101, 120, 116, 32, 116, 104, 101, 110, 32, 116, 114, 97, 105, 116, 32, 116, 114, 117, 101, 32, 117, 110, 105, 116, 32, 117, 115, 101, 32, 119, 97, 116, 99, 104])) fun y1 => some (y1)
theorem roadref2_WordList.walk {W h m} (O : Hold W h m h m []) (tab : TB m) {r} (e : roadref2_WordList  = some r) : Run Tryd.prog 23 #[] h (roadref2_WordList.post W h m r) := by
 unfold roadref2_WordList at e
 refine f23.run ?_
 unfold f23.runT
 obtain ⟨y1, g2, e⟩ := bind_e e
 refine (strings_Fields.walk (Hold.start (W := No) O.s) tab g2).mono ?_
 rintro _ h3 ⟨m4, A7, n8, c9, Q5, rfl, ne10⟩
 have O12 := Hold.nm (O.retC Q5 (vfs_cons (rR_vf (aE_vf (fun _ _ _ _ h => h))) vfs_nil))
 subst ne10
 refine ⟨_, _, _, rfl, ?_⟩
 cases e
 exact ⟨_, _, _, _, O12.pick [0], rfl, rfl⟩
def strings_IndexByte.post (W : Nat → Prop) (h0 m0 : Heap) (r : Int) (v : Value) (h : Heap) : Prop := ∃ m , Hold W h0 m0 h m [] ∧ v = .int .i64 r
noncomputable def strings_IndexByte (x0 : ByteArray) (x1 : Int) : Option Int := some (ibyteB x0 x1)
theorem strings_IndexByte.walk {W : Nat → Prop} {h m : Heap} {x0 : ByteArray} {x1 : Int} (O : Hold W h m h m []) {r : Int} (e : strings_IndexByte x0 x1 = some r) : Run Tryd.prog 59 #[Value.string x0, Value.int .u8 x1] h (strings_IndexByte.post W h m r) := by
 unfold strings_IndexByte at e
 exact (ibyte_run Tryd.strings_IndexByte O e).mono fun v h' hp => hp
def strings_Trim.post (W : Nat → Prop) (h0 m0 : Heap) (r : ByteArray) (v : Value) (h : Heap) : Prop := ∃ m , Hold W h0 m0 h m [] ∧ v = .string r
noncomputable def strings_Trim (x0 x1 : ByteArray) : Option ByteArray := if x0.size ≤ 9223372036854775807 ∧ x1.size < 4294967281 ∧ ascii x1 = true then some (trimB x0 x1) else none
theorem strings_Trim.walk {W : Nat → Prop} {h m : Heap} {x0 x1 : ByteArray} (O : Hold W h m h m []) {r : ByteArray} (e : strings_Trim x0 x1 = some r) : Run Tryd.prog 80 #[Value.string x0, Value.string x1] h (strings_Trim.post W h m r) := by
 unfold strings_Trim at e
 exact (trim_run Tryd.strings_Trim O e).mono fun v h' hp => hp
def roadref2_named.post (W : Nat → Prop) (h0 m0 : Heap) (r : Bool) (v : Value) (h : Heap) : Prop := ∃ m , Hold W h0 m0 h m [] ∧ v = .bool r
noncomputable def roadref2_named (s_0 : ByteArray) (s_1 : ByteArray) : Option (Bool) :=
 if s_0 = (ByteArray.mk #[]) then (some (false)) else (if ((ByteArray.size s_0 : Nat) : Int) < (17 : Int) then (Option.bind (gb s_0 (0 : Int)) fun y1 => Option.bind (strings_IndexByte s_1 y1) fun y7 => if y7 ≥ (0 : Int) then (Option.bind (strings_Trim s_0 (ByteArray.mk #[97, 98, 99, 100, 101, 102, 103, 104, 105, 106, 107, 108, 109, 110, 111, 112, 113, 114, 115, 116, 117, 118, 119, 120, 121, 122, 65, 66, 67, 68, 69, 70, 71, 72, 73, 74, 75, 76, 77, 78, 79, 80, 81, 82, 83, 84, 85, 86, 87, 88, 89, 90, 48, 49, 50, 51, 52, 53, 54, 55, 56, 57, 95])) fun y14 => some ((decide (y14 = (ByteArray.mk #[]))))) else (some (false))) else (some (false)))
theorem roadref2_named.walk {W h m s_0 s_1} (O : Hold W h m h m []) {r} (e : roadref2_named s_0 s_1 = some r) : Run Tryd.prog 56 #[Value.string s_0, Value.string s_1] h (roadref2_named.post W h m r) := by
 unfold roadref2_named at e
 refine f56.run ?_
 unfold f56.runT
 try rw [ba_list s_0 (ByteArray.mk #[])]
 refine split_not ?_
 refine split_dec_e e (fun c23 e => ?_) (fun c23 e => ?_)
 · cases e
   exact ⟨_, O.pick [], rfl⟩
 · refine split_dec_e e (fun c22 e => ?_) (fun c22 e => ?_)
   · obtain ⟨y1, g2, e⟩ := bind_e e
     obtain ⟨q3, b4, q5, q6⟩ := gb_e g2
     refine ⟨q3, _, q5, ?_⟩
     try rw [← q6]
     obtain ⟨y7, g8, e⟩ := bind_e e
     refine (strings_IndexByte.walk (Hold.start (W := No) O.s)  g8).mono ?_
     rintro _ h9 ⟨m10, Q11, rfl⟩
     have O13 := Hold.nm (O.retC Q11 vfs_nil)
     refine ⟨_, rfl, ?_⟩
     refine split_dec_e e (fun c21 e => ?_) (fun c21 e => ?_)
     · obtain ⟨y14, g15, e⟩ := bind_e e
       refine (strings_Trim.walk (Hold.start (W := No) O13.s)  g15).mono ?_
       rintro _ h16 ⟨m17, Q18, rfl⟩
       have O20 := Hold.nm (O13.retC Q18 vfs_nil)
       refine ⟨_, rfl, ?_⟩
       try rw [ba_list y14 (ByteArray.mk #[])]
       cases e
       exact ⟨_, O20.pick [], rfl⟩
     · cases e
       exact ⟨_, O13.pick [], rfl⟩
   · cases e
     exact ⟨_, O.pick [], rfl⟩
def roadref2_Small.post (W : Nat → Prop) (h0 m0 : Heap) (r : Bool) (v : Value) (h : Heap) : Prop := ∃ m , Hold W h0 m0 h m [] ∧ v = .bool r
noncomputable def roadref2_Small (s_0 : ByteArray) : Option (Bool) :=
 if 0 ≤ (0 : Int) ∧ (0 : Int) ≤ (26 : Int) ∧ (26 : Int) ≤ ((ByteArray.size (ByteArray.mk #[97, 98, 99, 100, 101, 102, 103, 104, 105, 106, 107, 108, 109, 110, 111, 112, 113, 114, 115, 116, 117, 118, 119, 120, 121, 122, 65, 66, 67, 68, 69, 70, 71, 72, 73, 74, 75, 76, 77, 78, 79, 80, 81, 82, 83, 84, 85, 86, 87, 88, 89, 90, 48, 49, 50, 51, 52, 53, 54, 55, 56, 57, 95]) : Nat) : Int) then (Option.bind (roadref2_named s_0 (ByteArray.extract (ByteArray.mk #[97, 98, 99, 100, 101, 102, 103, 104, 105, 106, 107, 108, 109, 110, 111, 112, 113, 114, 115, 116, 117, 118, 119, 120, 121, 122, 65, 66, 67, 68, 69, 70, 71, 72, 73, 74, 75, 76, 77, 78, 79, 80, 81, 82, 83, 84, 85, 86, 87, 88, 89, 90, 48, 49, 50, 51, 52, 53, 54, 55, 56, 57, 95]) (Int.toNat (0 : Int)) (Int.toNat (26 : Int)))) fun y2 => if y2 = true then (Option.bind (roadref2_WordList ) fun y9 => Option.bind (slices_Contains_22 y9 s_0) fun y21 => some ((!y21))) else (some (false))) else none
theorem roadref2_Small.walk {W h m s_0} (O : Hold W h m h m []) (tab : TB m) {r} (e : roadref2_Small s_0 = some r) : Run Tryd.prog 25 #[Value.string s_0] h (roadref2_Small.post W h m r) := by
 unfold roadref2_Small at e
 refine f25.run ?_
 unfold f25.runT
 obtain ⟨g1, e⟩ := guard_e e
 refine ⟨g1.1, g1.2.1, g1.2.2, ?_⟩
 obtain ⟨y2, g3, e⟩ := bind_e e
 refine (roadref2_named.walk (Hold.start (W := No) O.s)  g3).mono ?_
 rintro _ h4 ⟨m5, Q6, rfl⟩
 have O8 := Hold.nm (O.retC Q6 vfs_nil)
 refine ⟨_, rfl, ?_⟩
 refine split_any_e e (fun c35 e => ?_) (fun c35 e => ?_)
 · obtain ⟨y9, g10, e⟩ := bind_e e
   refine (roadref2_WordList.walk (Hold.start (W := No) O8.s) tab g10).mono ?_
   rintro _ h11 ⟨m12, A15, n16, c17, Q13, rfl, ne18⟩
   have O20 := Hold.nm (O8.retC Q13 (vfs_cons (rR_vf (aE_vf (fun _ _ _ _ h => h))) vfs_nil))
   subst ne18
   refine ⟨_, _, _, rfl, ?_⟩
   obtain ⟨y21, g22, e⟩ := bind_e e
   obtain ⟨m27, u28, s33, ⟨⟨r31, k32⟩, _⟩, B29, C30⟩ := O20.lend0 [0]
   replace r31 : Rd 1 eStr m27 A15 y9 := r31
   replace k32 : List.length y9 ≤ c17 := k32
   refine (slices_Contains_22.walk (Hold.start (W := No) s33) rfl k32 r31 g22).mono ?_
   rintro _ h23 ⟨m24, Q25, rfl⟩
   have O34 := Hold.nm (C30 Q25 vfs_nil)
   refine ⟨_, rfl, ?_⟩
   cases e
   exact ⟨_, O34.pick [], rfl⟩
 · cases e
   exact ⟨_, O8.pick [], rfl⟩
def roadref2_Great.post (W : Nat → Prop) (h0 m0 : Heap) (r : Bool) (v : Value) (h : Heap) : Prop := ∃ m , Hold W h0 m0 h m [] ∧ v = .bool r
noncomputable def roadref2_Great (s_0 : ByteArray) : Option (Bool) :=
 if 0 ≤ (26 : Int) ∧ (26 : Int) ≤ (52 : Int) ∧ (52 : Int) ≤ ((ByteArray.size (ByteArray.mk #[97, 98, 99, 100, 101, 102, 103, 104, 105, 106, 107, 108, 109, 110, 111, 112, 113, 114, 115, 116, 117, 118, 119, 120, 121, 122, 65, 66, 67, 68, 69, 70, 71, 72, 73, 74, 75, 76, 77, 78, 79, 80, 81, 82, 83, 84, 85, 86, 87, 88, 89, 90, 48, 49, 50, 51, 52, 53, 54, 55, 56, 57, 95]) : Nat) : Int) then (Option.bind (roadref2_named s_0 (ByteArray.extract (ByteArray.mk #[97, 98, 99, 100, 101, 102, 103, 104, 105, 106, 107, 108, 109, 110, 111, 112, 113, 114, 115, 116, 117, 118, 119, 120, 121, 122, 65, 66, 67, 68, 69, 70, 71, 72, 73, 74, 75, 76, 77, 78, 79, 80, 81, 82, 83, 84, 85, 86, 87, 88, 89, 90, 48, 49, 50, 51, 52, 53, 54, 55, 56, 57, 95]) (Int.toNat (26 : Int)) (Int.toNat (52 : Int)))) fun y2 => some (y2)) else none
theorem roadref2_Great.walk {W h m s_0} (O : Hold W h m h m []) {r} (e : roadref2_Great s_0 = some r) : Run Tryd.prog 27 #[Value.string s_0] h (roadref2_Great.post W h m r) := by
 unfold roadref2_Great at e
 refine f27.run ?_
 unfold f27.runT
 obtain ⟨g1, e⟩ := guard_e e
 refine ⟨g1.1, g1.2.1, g1.2.2, ?_⟩
 obtain ⟨y2, g3, e⟩ := bind_e e
 refine (roadref2_named.walk (Hold.start (W := No) O.s)  g3).mono ?_
 rintro _ h4 ⟨m5, Q6, rfl⟩
 have O8 := Hold.nm (O.retC Q6 vfs_nil)
 refine ⟨_, rfl, ?_⟩
 cases e
 exact ⟨_, O8.pick [], rfl⟩
def roadref2_Quoted.post (W : Nat → Prop) (h0 m0 : Heap) (r : ByteArray) (v : Value) (h : Heap) : Prop := ∃ m , Hold W h0 m0 h m [] ∧ v = .string r
inductive roadref2_Quoted.l0_k.Pt where
 | l0 (s_0 : ByteArray) (s_3 : ByteArray) (x_7 : Int) (x_8 : Int)
 | j0 (s_0 : ByteArray) (s_3 : ByteArray) (x_4 : Int) (x_5 : Int) (x_7 : Int) (x_8 : Int) (b_30 : Bool)
 | j1 (s_0 : ByteArray) (s_3 : ByteArray) (x_4 : Int) (x_5 : Int) (x_7 : Int) (x_8 : Int) (b_48 : Bool)
noncomputable def roadref2_Quoted.l0_k.body (go : (p : roadref2_Quoted.l0_k.Pt) → Option (ByteArray)) : (p : roadref2_Quoted.l0_k.Pt) → Option (ByteArray)
 | .l0 s_0 s_3 x_7 x_8 => if x_8 < x_7 then (Option.bind (gb s_0 x_8) fun y1 => if y1 = (34 : Int) then ((go (.j0 s_0 s_3 x_8 y1 x_7 x_8 (y1 == (34 : Int))))) else ((go (.j0 s_0 s_3 x_8 y1 x_7 x_8 (y1 == (92 : Int)))))) else (if ByteArray.size s_3 + ByteArray.size (ByteArray.mk #[34]) ≤ 9223372036854775807 then (some ((s_3 ++ (ByteArray.mk #[34])))) else none)
 | .j0 s_0 s_3 x_4 x_5 x_7 x_8 b_30 => if b_30 = true then (if 0 ≤ x_4 ∧ x_4 ≤ (IntKind.wrap .i64 (x_4 + (1 : Int))) ∧ (IntKind.wrap .i64 (x_4 + (1 : Int))) ≤ ((ByteArray.size s_0 : Nat) : Int) then (if ByteArray.size (ByteArray.mk #[92]) + ByteArray.size (ByteArray.extract s_0 (Int.toNat x_4) (Int.toNat (IntKind.wrap .i64 (x_4 + (1 : Int))))) ≤ 9223372036854775807 then (if ByteArray.size s_3 + ByteArray.size ((ByteArray.mk #[92]) ++ (ByteArray.extract s_0 (Int.toNat x_4) (Int.toNat (IntKind.wrap .i64 (x_4 + (1 : Int)))))) ≤ 9223372036854775807 then ((go (.l0 s_0 (s_3 ++ ((ByteArray.mk #[92]) ++ (ByteArray.extract s_0 (Int.toNat x_4) (Int.toNat (IntKind.wrap .i64 (x_4 + (1 : Int))))))) x_7 (IntKind.wrap .i64 (x_8 + (1 : Int)))))) else none) else none) else none) else (if x_5 = (10 : Int) then (if ByteArray.size s_3 + ByteArray.size (ByteArray.mk #[92, 110]) ≤ 9223372036854775807 then ((go (.l0 s_0 (s_3 ++ (ByteArray.mk #[92, 110])) x_7 (IntKind.wrap .i64 (x_8 + (1 : Int)))))) else none) else (if x_5 > (31 : Int) then ((go (.j1 s_0 s_3 x_4 x_5 x_7 x_8 (decide (x_5 < (127 : Int)))))) else ((go (.j1 s_0 s_3 x_4 x_5 x_7 x_8 false)))))
 | .j1 s_0 s_3 x_4 x_5 x_7 x_8 b_48 => if b_48 = true then (if 0 ≤ x_4 ∧ x_4 ≤ (IntKind.wrap .i64 (x_4 + (1 : Int))) ∧ (IntKind.wrap .i64 (x_4 + (1 : Int))) ≤ ((ByteArray.size s_0 : Nat) : Int) then (if ByteArray.size s_3 + ByteArray.size (ByteArray.extract s_0 (Int.toNat x_4) (Int.toNat (IntKind.wrap .i64 (x_4 + (1 : Int))))) ≤ 9223372036854775807 then ((go (.l0 s_0 (s_3 ++ (ByteArray.extract s_0 (Int.toNat x_4) (Int.toNat (IntKind.wrap .i64 (x_4 + (1 : Int)))))) x_7 (IntKind.wrap .i64 (x_8 + (1 : Int)))))) else none) else none) else (if 0 ≤ (IntKind.wrap .u8 (Int.tdiv x_5 (16 : Int))) ∧ (IntKind.wrap .u8 (Int.tdiv x_5 (16 : Int))) ≤ (IntKind.wrap .u8 ((IntKind.wrap .u8 (Int.tdiv x_5 (16 : Int))) + (1 : Int))) ∧ (IntKind.wrap .u8 ((IntKind.wrap .u8 (Int.tdiv x_5 (16 : Int))) + (1 : Int))) ≤ ((ByteArray.size (ByteArray.mk #[48, 49, 50, 51, 52, 53, 54, 55, 56, 57, 97, 98, 99, 100, 101, 102]) : Nat) : Int) then (if ByteArray.size (ByteArray.mk #[92, 120]) + ByteArray.size (ByteArray.extract (ByteArray.mk #[48, 49, 50, 51, 52, 53, 54, 55, 56, 57, 97, 98, 99, 100, 101, 102]) (Int.toNat (IntKind.wrap .u8 (Int.tdiv x_5 (16 : Int)))) (Int.toNat (IntKind.wrap .u8 ((IntKind.wrap .u8 (Int.tdiv x_5 (16 : Int))) + (1 : Int))))) ≤ 9223372036854775807 then (if 0 ≤ (Int.tmod x_5 (16 : Int)) ∧ (Int.tmod x_5 (16 : Int)) ≤ (IntKind.wrap .u8 ((Int.tmod x_5 (16 : Int)) + (1 : Int))) ∧ (IntKind.wrap .u8 ((Int.tmod x_5 (16 : Int)) + (1 : Int))) ≤ ((ByteArray.size (ByteArray.mk #[48, 49, 50, 51, 52, 53, 54, 55, 56, 57, 97, 98, 99, 100, 101, 102]) : Nat) : Int) then (if ByteArray.size ((ByteArray.mk #[92, 120]) ++ (ByteArray.extract (ByteArray.mk #[48, 49, 50, 51, 52, 53, 54, 55, 56, 57, 97, 98, 99, 100, 101, 102]) (Int.toNat (IntKind.wrap .u8 (Int.tdiv x_5 (16 : Int)))) (Int.toNat (IntKind.wrap .u8 ((IntKind.wrap .u8 (Int.tdiv x_5 (16 : Int))) + (1 : Int)))))) + ByteArray.size (ByteArray.extract (ByteArray.mk #[48, 49, 50, 51, 52, 53, 54, 55, 56, 57, 97, 98, 99, 100, 101, 102]) (Int.toNat (Int.tmod x_5 (16 : Int))) (Int.toNat (IntKind.wrap .u8 ((Int.tmod x_5 (16 : Int)) + (1 : Int))))) ≤ 9223372036854775807 then (if ByteArray.size s_3 + ByteArray.size (((ByteArray.mk #[92, 120]) ++ (ByteArray.extract (ByteArray.mk #[48, 49, 50, 51, 52, 53, 54, 55, 56, 57, 97, 98, 99, 100, 101, 102]) (Int.toNat (IntKind.wrap .u8 (Int.tdiv x_5 (16 : Int)))) (Int.toNat (IntKind.wrap .u8 ((IntKind.wrap .u8 (Int.tdiv x_5 (16 : Int))) + (1 : Int)))))) ++ (ByteArray.extract (ByteArray.mk #[48, 49, 50, 51, 52, 53, 54, 55, 56, 57, 97, 98, 99, 100, 101, 102]) (Int.toNat (Int.tmod x_5 (16 : Int))) (Int.toNat (IntKind.wrap .u8 ((Int.tmod x_5 (16 : Int)) + (1 : Int)))))) ≤ 9223372036854775807 then ((go (.l0 s_0 (s_3 ++ (((ByteArray.mk #[92, 120]) ++ (ByteArray.extract (ByteArray.mk #[48, 49, 50, 51, 52, 53, 54, 55, 56, 57, 97, 98, 99, 100, 101, 102]) (Int.toNat (IntKind.wrap .u8 (Int.tdiv x_5 (16 : Int)))) (Int.toNat (IntKind.wrap .u8 ((IntKind.wrap .u8 (Int.tdiv x_5 (16 : Int))) + (1 : Int)))))) ++ (ByteArray.extract (ByteArray.mk #[48, 49, 50, 51, 52, 53, 54, 55, 56, 57, 97, 98, 99, 100, 101, 102]) (Int.toNat (Int.tmod x_5 (16 : Int))) (Int.toNat (IntKind.wrap .u8 ((Int.tmod x_5 (16 : Int)) + (1 : Int))))))) x_7 (IntKind.wrap .i64 (x_8 + (1 : Int)))))) else none) else none) else none) else none) else none)
theorem roadref2_Quoted.l0_k.mono : MonoF (β := fun _ => (ByteArray)) roadref2_Quoted.l0_k.body := fun f g hfg p => match p with
 | .l0 s_0 s_3 x_7 x_8 => LeO.ite (LeO.bind (LeO.refl _) fun y1 => LeO.ite ((hfg _)) ((hfg _))) (LeO.ite (LeO.refl _) (LeO.refl _))
 | .j0 s_0 s_3 x_4 x_5 x_7 x_8 b_30 => LeO.ite (LeO.ite (LeO.ite (LeO.ite ((hfg _)) (LeO.refl _)) (LeO.refl _)) (LeO.refl _)) (LeO.ite (LeO.ite ((hfg _)) (LeO.refl _)) (LeO.ite ((hfg _)) ((hfg _))))
 | .j1 s_0 s_3 x_4 x_5 x_7 x_8 b_48 => LeO.ite (LeO.ite (LeO.ite ((hfg _)) (LeO.refl _)) (LeO.refl _)) (LeO.ite (LeO.ite (LeO.ite (LeO.ite (LeO.ite ((hfg _)) (LeO.refl _)) (LeO.refl _)) (LeO.refl _)) (LeO.refl _)) (LeO.refl _))
noncomputable def roadref2_Quoted.l0_k.go (p : roadref2_Quoted.l0_k.Pt) : Option (ByteArray) := fixF (β := fun _ => (ByteArray)) roadref2_Quoted.l0_k.body p
noncomputable def roadref2_Quoted.l0 (s_0 s_3 x_7 x_8) := roadref2_Quoted.l0_k.go (.l0 s_0 s_3 x_7 x_8)
noncomputable def roadref2_Quoted.j0 (s_0 s_3 x_4 x_5 x_7 x_8 b_30) := roadref2_Quoted.l0_k.go (.j0 s_0 s_3 x_4 x_5 x_7 x_8 b_30)
noncomputable def roadref2_Quoted.j1 (s_0 s_3 x_4 x_5 x_7 x_8 b_48) := roadref2_Quoted.l0_k.go (.j1 s_0 s_3 x_4 x_5 x_7 x_8 b_48)
theorem roadref2_Quoted.l0_eq (s_0 s_3 x_7 x_8) : roadref2_Quoted.l0 s_0 s_3 x_7 x_8 = if x_8 < x_7 then (Option.bind (gb s_0 x_8) fun y1 => if y1 = (34 : Int) then ((roadref2_Quoted.j0 s_0 s_3 x_8 y1 x_7 x_8 (y1 == (34 : Int)))) else ((roadref2_Quoted.j0 s_0 s_3 x_8 y1 x_7 x_8 (y1 == (92 : Int))))) else (if ByteArray.size s_3 + ByteArray.size (ByteArray.mk #[34]) ≤ 9223372036854775807 then (some ((s_3 ++ (ByteArray.mk #[34])))) else none) := fixF_eq roadref2_Quoted.l0_k.mono _
theorem roadref2_Quoted.j0_eq (s_0 s_3 x_4 x_5 x_7 x_8 b_30) : roadref2_Quoted.j0 s_0 s_3 x_4 x_5 x_7 x_8 b_30 = if b_30 = true then (if 0 ≤ x_4 ∧ x_4 ≤ (IntKind.wrap .i64 (x_4 + (1 : Int))) ∧ (IntKind.wrap .i64 (x_4 + (1 : Int))) ≤ ((ByteArray.size s_0 : Nat) : Int) then (if ByteArray.size (ByteArray.mk #[92]) + ByteArray.size (ByteArray.extract s_0 (Int.toNat x_4) (Int.toNat (IntKind.wrap .i64 (x_4 + (1 : Int))))) ≤ 9223372036854775807 then (if ByteArray.size s_3 + ByteArray.size ((ByteArray.mk #[92]) ++ (ByteArray.extract s_0 (Int.toNat x_4) (Int.toNat (IntKind.wrap .i64 (x_4 + (1 : Int)))))) ≤ 9223372036854775807 then ((roadref2_Quoted.l0 s_0 (s_3 ++ ((ByteArray.mk #[92]) ++ (ByteArray.extract s_0 (Int.toNat x_4) (Int.toNat (IntKind.wrap .i64 (x_4 + (1 : Int))))))) x_7 (IntKind.wrap .i64 (x_8 + (1 : Int))))) else none) else none) else none) else (if x_5 = (10 : Int) then (if ByteArray.size s_3 + ByteArray.size (ByteArray.mk #[92, 110]) ≤ 9223372036854775807 then ((roadref2_Quoted.l0 s_0 (s_3 ++ (ByteArray.mk #[92, 110])) x_7 (IntKind.wrap .i64 (x_8 + (1 : Int))))) else none) else (if x_5 > (31 : Int) then ((roadref2_Quoted.j1 s_0 s_3 x_4 x_5 x_7 x_8 (decide (x_5 < (127 : Int))))) else ((roadref2_Quoted.j1 s_0 s_3 x_4 x_5 x_7 x_8 false)))) := fixF_eq roadref2_Quoted.l0_k.mono _
theorem roadref2_Quoted.j1_eq (s_0 s_3 x_4 x_5 x_7 x_8 b_48) : roadref2_Quoted.j1 s_0 s_3 x_4 x_5 x_7 x_8 b_48 = if b_48 = true then (if 0 ≤ x_4 ∧ x_4 ≤ (IntKind.wrap .i64 (x_4 + (1 : Int))) ∧ (IntKind.wrap .i64 (x_4 + (1 : Int))) ≤ ((ByteArray.size s_0 : Nat) : Int) then (if ByteArray.size s_3 + ByteArray.size (ByteArray.extract s_0 (Int.toNat x_4) (Int.toNat (IntKind.wrap .i64 (x_4 + (1 : Int))))) ≤ 9223372036854775807 then ((roadref2_Quoted.l0 s_0 (s_3 ++ (ByteArray.extract s_0 (Int.toNat x_4) (Int.toNat (IntKind.wrap .i64 (x_4 + (1 : Int)))))) x_7 (IntKind.wrap .i64 (x_8 + (1 : Int))))) else none) else none) else (if 0 ≤ (IntKind.wrap .u8 (Int.tdiv x_5 (16 : Int))) ∧ (IntKind.wrap .u8 (Int.tdiv x_5 (16 : Int))) ≤ (IntKind.wrap .u8 ((IntKind.wrap .u8 (Int.tdiv x_5 (16 : Int))) + (1 : Int))) ∧ (IntKind.wrap .u8 ((IntKind.wrap .u8 (Int.tdiv x_5 (16 : Int))) + (1 : Int))) ≤ ((ByteArray.size (ByteArray.mk #[48, 49, 50, 51, 52, 53, 54, 55, 56, 57, 97, 98, 99, 100, 101, 102]) : Nat) : Int) then (if ByteArray.size (ByteArray.mk #[92, 120]) + ByteArray.size (ByteArray.extract (ByteArray.mk #[48, 49, 50, 51, 52, 53, 54, 55, 56, 57, 97, 98, 99, 100, 101, 102]) (Int.toNat (IntKind.wrap .u8 (Int.tdiv x_5 (16 : Int)))) (Int.toNat (IntKind.wrap .u8 ((IntKind.wrap .u8 (Int.tdiv x_5 (16 : Int))) + (1 : Int))))) ≤ 9223372036854775807 then (if 0 ≤ (Int.tmod x_5 (16 : Int)) ∧ (Int.tmod x_5 (16 : Int)) ≤ (IntKind.wrap .u8 ((Int.tmod x_5 (16 : Int)) + (1 : Int))) ∧ (IntKind.wrap .u8 ((Int.tmod x_5 (16 : Int)) + (1 : Int))) ≤ ((ByteArray.size (ByteArray.mk #[48, 49, 50, 51, 52, 53, 54, 55, 56, 57, 97, 98, 99, 100, 101, 102]) : Nat) : Int) then (if ByteArray.size ((ByteArray.mk #[92, 120]) ++ (ByteArray.extract (ByteArray.mk #[48, 49, 50, 51, 52, 53, 54, 55, 56, 57, 97, 98, 99, 100, 101, 102]) (Int.toNat (IntKind.wrap .u8 (Int.tdiv x_5 (16 : Int)))) (Int.toNat (IntKind.wrap .u8 ((IntKind.wrap .u8 (Int.tdiv x_5 (16 : Int))) + (1 : Int)))))) + ByteArray.size (ByteArray.extract (ByteArray.mk #[48, 49, 50, 51, 52, 53, 54, 55, 56, 57, 97, 98, 99, 100, 101, 102]) (Int.toNat (Int.tmod x_5 (16 : Int))) (Int.toNat (IntKind.wrap .u8 ((Int.tmod x_5 (16 : Int)) + (1 : Int))))) ≤ 9223372036854775807 then (if ByteArray.size s_3 + ByteArray.size (((ByteArray.mk #[92, 120]) ++ (ByteArray.extract (ByteArray.mk #[48, 49, 50, 51, 52, 53, 54, 55, 56, 57, 97, 98, 99, 100, 101, 102]) (Int.toNat (IntKind.wrap .u8 (Int.tdiv x_5 (16 : Int)))) (Int.toNat (IntKind.wrap .u8 ((IntKind.wrap .u8 (Int.tdiv x_5 (16 : Int))) + (1 : Int)))))) ++ (ByteArray.extract (ByteArray.mk #[48, 49, 50, 51, 52, 53, 54, 55, 56, 57, 97, 98, 99, 100, 101, 102]) (Int.toNat (Int.tmod x_5 (16 : Int))) (Int.toNat (IntKind.wrap .u8 ((Int.tmod x_5 (16 : Int)) + (1 : Int)))))) ≤ 9223372036854775807 then ((roadref2_Quoted.l0 s_0 (s_3 ++ (((ByteArray.mk #[92, 120]) ++ (ByteArray.extract (ByteArray.mk #[48, 49, 50, 51, 52, 53, 54, 55, 56, 57, 97, 98, 99, 100, 101, 102]) (Int.toNat (IntKind.wrap .u8 (Int.tdiv x_5 (16 : Int)))) (Int.toNat (IntKind.wrap .u8 ((IntKind.wrap .u8 (Int.tdiv x_5 (16 : Int))) + (1 : Int)))))) ++ (ByteArray.extract (ByteArray.mk #[48, 49, 50, 51, 52, 53, 54, 55, 56, 57, 97, 98, 99, 100, 101, 102]) (Int.toNat (Int.tmod x_5 (16 : Int))) (Int.toNat (IntKind.wrap .u8 ((Int.tmod x_5 (16 : Int)) + (1 : Int))))))) x_7 (IntKind.wrap .i64 (x_8 + (1 : Int))))) else none) else none) else none) else none) else none) := fixF_eq roadref2_Quoted.l0_k.mono _
def roadref2_Quoted.l0_k.I : (p : roadref2_Quoted.l0_k.Pt) → (ByteArray) → Prop
 | .l0 s_0 s_3 x_7 x_8, r => ∀ {W h0 m0 h m} (O : Hold W h0 m0 h m []), f29.l0 (roadref2_Quoted.post W h0 m0 r) s_0 s_3 x_7 x_8 h
 | .j0 s_0 s_3 x_4 x_5 x_7 x_8 b_30, r => ∀ {W h0 m0 h m} (O : Hold W h0 m0 h m []), f29.j0 (roadref2_Quoted.post W h0 m0 r) s_0 s_3 x_4 x_5 x_7 x_8 b_30 h
 | .j1 s_0 s_3 x_4 x_5 x_7 x_8 b_48, r => ∀ {W h0 m0 h m} (O : Hold W h0 m0 h m []), f29.j1 (roadref2_Quoted.post W h0 m0 r) s_0 s_3 x_4 x_5 x_7 x_8 b_48 h
theorem roadref2_Quoted.l0_k.step_l0 (go : (p : roadref2_Quoted.l0_k.Pt) → Option (ByteArray)) (ih : ∀ p r, go p = some r → roadref2_Quoted.l0_k.I p r) (s_0 s_3 x_7 x_8) (r) (e : roadref2_Quoted.l0_k.body go (.l0 s_0 s_3 x_7 x_8) = some r) : roadref2_Quoted.l0_k.I (.l0 s_0 s_3 x_7 x_8) r := by
 unfold roadref2_Quoted.l0_k.body at e
 intro W h0 m0 h m O
 refine f29.l0_in ?_
 unfold f29.l0T
 refine split_dec_e e (fun c9 e => ?_) (fun c9 e => ?_)
 · obtain ⟨y1, g2, e⟩ := bind_e e
   obtain ⟨q3, b4, q5, q6⟩ := gb_e g2
   refine ⟨q3, _, q5, ?_⟩
   try rw [← q6]
   refine split_eq_e e (fun c7 e => ?_) (fun c7 e => ?_)
   · exact (ih _ _ e) (O.pick []).nm 
   · exact (ih _ _ e) (O.pick []).nm 
 · obtain ⟨g8, e⟩ := guard_e e
   refine ⟨g8, ?_⟩
   cases e
   exact ⟨_, O.pick [], rfl⟩
theorem roadref2_Quoted.l0_k.step_j0 (go : (p : roadref2_Quoted.l0_k.Pt) → Option (ByteArray)) (ih : ∀ p r, go p = some r → roadref2_Quoted.l0_k.I p r) (s_0 s_3 x_4 x_5 x_7 x_8 b_30) (r) (e : roadref2_Quoted.l0_k.body go (.j0 s_0 s_3 x_4 x_5 x_7 x_8 b_30) = some r) : roadref2_Quoted.l0_k.I (.j0 s_0 s_3 x_4 x_5 x_7 x_8 b_30) r := by
 unfold roadref2_Quoted.l0_k.body at e
 intro W h0 m0 h m O
 refine f29.j0_in ?_
 unfold f29.j0T
 refine split_any_e e (fun c7 e => ?_) (fun c7 e => ?_)
 · obtain ⟨g1, e⟩ := guard_e e
   refine ⟨g1.1, g1.2.1, g1.2.2, ?_⟩
   obtain ⟨g2, e⟩ := guard_e e
   refine ⟨g2, ?_⟩
   obtain ⟨g3, e⟩ := guard_e e
   refine ⟨g3, ?_⟩
   exact (ih _ _ e) (O.pick []).nm 
 · refine split_eq_e e (fun c6 e => ?_) (fun c6 e => ?_)
   · obtain ⟨g4, e⟩ := guard_e e
     refine ⟨g4, ?_⟩
     exact (ih _ _ e) (O.pick []).nm 
   · refine split_dec_e e (fun c5 e => ?_) (fun c5 e => ?_)
     · exact (ih _ _ e) (O.pick []).nm 
     · exact (ih _ _ e) (O.pick []).nm 
theorem roadref2_Quoted.l0_k.step_j1 (go : (p : roadref2_Quoted.l0_k.Pt) → Option (ByteArray)) (ih : ∀ p r, go p = some r → roadref2_Quoted.l0_k.I p r) (s_0 s_3 x_4 x_5 x_7 x_8 b_48) (r) (e : roadref2_Quoted.l0_k.body go (.j1 s_0 s_3 x_4 x_5 x_7 x_8 b_48) = some r) : roadref2_Quoted.l0_k.I (.j1 s_0 s_3 x_4 x_5 x_7 x_8 b_48) r := by
 unfold roadref2_Quoted.l0_k.body at e
 intro W h0 m0 h m O
 refine f29.j1_in ?_
 unfold f29.j1T
 refine split_any_e e (fun c8 e => ?_) (fun c8 e => ?_)
 · obtain ⟨g1, e⟩ := guard_e e
   refine ⟨g1.1, g1.2.1, g1.2.2, ?_⟩
   obtain ⟨g2, e⟩ := guard_e e
   refine ⟨g2, ?_⟩
   exact (ih _ _ e) (O.pick []).nm 
 · refine ⟨by decide, ?_⟩
   refine ⟨by decide, ?_⟩
   obtain ⟨g3, e⟩ := guard_e e
   refine ⟨g3.1, g3.2.1, g3.2.2, ?_⟩
   obtain ⟨g4, e⟩ := guard_e e
   refine ⟨g4, ?_⟩
   refine ⟨by decide, ?_⟩
   refine ⟨by decide, ?_⟩
   obtain ⟨g5, e⟩ := guard_e e
   refine ⟨g5.1, g5.2.1, g5.2.2, ?_⟩
   obtain ⟨g6, e⟩ := guard_e e
   refine ⟨g6, ?_⟩
   obtain ⟨g7, e⟩ := guard_e e
   refine ⟨g7, ?_⟩
   exact (ih _ _ e) (O.pick []).nm 
theorem roadref2_Quoted.l0_k.all {p : roadref2_Quoted.l0_k.Pt} {r : (ByteArray)} (e : roadref2_Quoted.l0_k.go p = some r) : roadref2_Quoted.l0_k.I p r := fixF_ind (β := fun _ => (ByteArray)) roadref2_Quoted.l0_k.mono (I := roadref2_Quoted.l0_k.I) (fun go ih p r e => match p with
 | .l0 s_0 s_3 x_7 x_8 => roadref2_Quoted.l0_k.step_l0 go ih s_0 s_3 x_7 x_8 r e
 | .j0 s_0 s_3 x_4 x_5 x_7 x_8 b_30 => roadref2_Quoted.l0_k.step_j0 go ih s_0 s_3 x_4 x_5 x_7 x_8 b_30 r e
 | .j1 s_0 s_3 x_4 x_5 x_7 x_8 b_48 => roadref2_Quoted.l0_k.step_j1 go ih s_0 s_3 x_4 x_5 x_7 x_8 b_48 r e
 ) e
noncomputable def roadref2_Quoted (s_0 : ByteArray) : Option (ByteArray) :=
 (roadref2_Quoted.l0 s_0 (ByteArray.mk #[34]) ((ByteArray.size s_0 : Nat) : Int) (0 : Int))
theorem roadref2_Quoted.walk {W h m s_0} (O : Hold W h m h m []) {r} (e : roadref2_Quoted s_0 = some r) : Run Tryd.prog 29 #[Value.string s_0] h (roadref2_Quoted.post W h m r) := by
 unfold roadref2_Quoted at e
 refine f29.run ?_
 unfold f29.runT
 exact (roadref2_Quoted.l0_k.all e) (O.pick []).nm 
def roadref2_run.post (W : Nat → Prop) (h0 m0 : Heap) (r : Int) (v : Value) (h : Heap) : Prop := ∃ m , Hold W h0 m0 h m [] ∧ v = .int .i64 r
inductive roadref2_run.l0_k.Pt where
 | l0 (s_0 : ByteArray) (s_1 : ByteArray) (x_5 : Int)
 | j0 (s_0 : ByteArray) (s_1 : ByteArray) (x_5 : Int)
noncomputable def roadref2_run.l0_k.body (go : (p : roadref2_run.l0_k.Pt) → Option (Int)) : (p : roadref2_run.l0_k.Pt) → Option (Int)
 | .l0 s_0 s_1 x_5 => if x_5 < ((ByteArray.size s_0 : Nat) : Int) then (Option.bind (gb s_0 x_5) fun y1 => Option.bind (strings_IndexByte s_1 y1) fun y7 => if y7 ≥ (0 : Int) then ((go (.j0 s_0 s_1 x_5))) else (some (x_5))) else (some (x_5))
 | .j0 s_0 s_1 x_5 => (go (.l0 s_0 s_1 (IntKind.wrap .i64 (x_5 + (1 : Int)))))
theorem roadref2_run.l0_k.mono : MonoF (β := fun _ => (Int)) roadref2_run.l0_k.body := fun f g hfg p => match p with
 | .l0 s_0 s_1 x_5 => LeO.ite (LeO.bind (LeO.refl _) fun y1 => LeO.bind (LeO.refl _) fun y7 => LeO.ite ((hfg _)) (LeO.refl _)) (LeO.refl _)
 | .j0 s_0 s_1 x_5 => (hfg _)
noncomputable def roadref2_run.l0_k.go (p : roadref2_run.l0_k.Pt) : Option (Int) := fixF (β := fun _ => (Int)) roadref2_run.l0_k.body p
noncomputable def roadref2_run.l0 (s_0 s_1 x_5) := roadref2_run.l0_k.go (.l0 s_0 s_1 x_5)
noncomputable def roadref2_run.j0 (s_0 s_1 x_5) := roadref2_run.l0_k.go (.j0 s_0 s_1 x_5)
theorem roadref2_run.l0_eq (s_0 s_1 x_5) : roadref2_run.l0 s_0 s_1 x_5 = if x_5 < ((ByteArray.size s_0 : Nat) : Int) then (Option.bind (gb s_0 x_5) fun y1 => Option.bind (strings_IndexByte s_1 y1) fun y7 => if y7 ≥ (0 : Int) then ((roadref2_run.j0 s_0 s_1 x_5)) else (some (x_5))) else (some (x_5)) := fixF_eq roadref2_run.l0_k.mono _
theorem roadref2_run.j0_eq (s_0 s_1 x_5) : roadref2_run.j0 s_0 s_1 x_5 = (roadref2_run.l0 s_0 s_1 (IntKind.wrap .i64 (x_5 + (1 : Int)))) := fixF_eq roadref2_run.l0_k.mono _
def roadref2_run.l0_k.I : (p : roadref2_run.l0_k.Pt) → (Int) → Prop
 | .l0 s_0 s_1 x_5, r => ∀ {W h0 m0 h m} (O : Hold W h0 m0 h m []), f58.l0 (roadref2_run.post W h0 m0 r) s_0 s_1 x_5 h
 | .j0 s_0 s_1 x_5, r => ∀ {W h0 m0 h m} (O : Hold W h0 m0 h m []), f58.j0 (roadref2_run.post W h0 m0 r) s_0 s_1 x_5 h
theorem roadref2_run.l0_k.step_l0 (go : (p : roadref2_run.l0_k.Pt) → Option (Int)) (ih : ∀ p r, go p = some r → roadref2_run.l0_k.I p r) (s_0 s_1 x_5) (r) (e : roadref2_run.l0_k.body go (.l0 s_0 s_1 x_5) = some r) : roadref2_run.l0_k.I (.l0 s_0 s_1 x_5) r := by
 unfold roadref2_run.l0_k.body at e
 intro W h0 m0 h m O
 refine f58.l0_in ?_
 unfold f58.l0T
 refine split_dec_e e (fun c15 e => ?_) (fun c15 e => ?_)
 · obtain ⟨y1, g2, e⟩ := bind_e e
   obtain ⟨q3, b4, q5, q6⟩ := gb_e g2
   refine ⟨q3, _, q5, ?_⟩
   try rw [← q6]
   obtain ⟨y7, g8, e⟩ := bind_e e
   refine (strings_IndexByte.walk (Hold.start (W := No) O.s)  g8).mono ?_
   rintro _ h9 ⟨m10, Q11, rfl⟩
   have O13 := Hold.nm (O.retC Q11 vfs_nil)
   refine ⟨_, rfl, ?_⟩
   refine split_dec_e e (fun c14 e => ?_) (fun c14 e => ?_)
   · exact (ih _ _ e) (O13.pick []).nm 
   · cases e
     exact ⟨_, O13.pick [], rfl⟩
 · cases e
   exact ⟨_, O.pick [], rfl⟩
theorem roadref2_run.l0_k.step_j0 (go : (p : roadref2_run.l0_k.Pt) → Option (Int)) (ih : ∀ p r, go p = some r → roadref2_run.l0_k.I p r) (s_0 s_1 x_5) (r) (e : roadref2_run.l0_k.body go (.j0 s_0 s_1 x_5) = some r) : roadref2_run.l0_k.I (.j0 s_0 s_1 x_5) r := by
 unfold roadref2_run.l0_k.body at e
 intro W h0 m0 h m O
 refine f58.j0_in ?_
 unfold f58.j0T
 exact (ih _ _ e) (O.pick []).nm 
theorem roadref2_run.l0_k.all {p : roadref2_run.l0_k.Pt} {r : (Int)} (e : roadref2_run.l0_k.go p = some r) : roadref2_run.l0_k.I p r := fixF_ind (β := fun _ => (Int)) roadref2_run.l0_k.mono (I := roadref2_run.l0_k.I) (fun go ih p r e => match p with
 | .l0 s_0 s_1 x_5 => roadref2_run.l0_k.step_l0 go ih s_0 s_1 x_5 r e
 | .j0 s_0 s_1 x_5 => roadref2_run.l0_k.step_j0 go ih s_0 s_1 x_5 r e
 ) e
noncomputable def roadref2_run (s_0 : ByteArray) (s_1 : ByteArray) : Option (Int) :=
 (roadref2_run.l0 s_0 s_1 (0 : Int))
theorem roadref2_run.walk {W h m s_0 s_1} (O : Hold W h m h m []) {r} (e : roadref2_run s_0 s_1 = some r) : Run Tryd.prog 58 #[Value.string s_0, Value.string s_1] h (roadref2_run.post W h m r) := by
 unfold roadref2_run at e
 refine f58.run ?_
 unfold f58.runT
 exact (roadref2_run.l0_k.all e) (O.pick []).nm 
def internal_stringslite_HasPrefix.post (W : Nat → Prop) (h0 m0 : Heap) (r : Bool) (v : Value) (h : Heap) : Prop := ∃ m , Hold W h0 m0 h m [] ∧ v = .bool r
noncomputable def internal_stringslite_HasPrefix (s_0 : ByteArray) (s_1 : ByteArray) : Option (Bool) :=
 if ((ByteArray.size s_0 : Nat) : Int) ≥ ((ByteArray.size s_1 : Nat) : Int) then (if 0 ≤ (0 : Int) ∧ (0 : Int) ≤ ((ByteArray.size s_1 : Nat) : Int) ∧ ((ByteArray.size s_1 : Nat) : Int) ≤ ((ByteArray.size s_0 : Nat) : Int) then (some ((decide ((ByteArray.extract s_0 (Int.toNat (0 : Int)) (Int.toNat ((ByteArray.size s_1 : Nat) : Int))) = s_1)))) else none) else (some (false))
theorem internal_stringslite_HasPrefix.walk {W h m s_0 s_1} (O : Hold W h m h m []) {r} (e : internal_stringslite_HasPrefix s_0 s_1 = some r) : Run Tryd.prog 100 #[Value.string s_0, Value.string s_1] h (internal_stringslite_HasPrefix.post W h m r) := by
 unfold internal_stringslite_HasPrefix at e
 refine f100.run ?_
 unfold f100.runT
 refine split_dec_e e (fun c2 e => ?_) (fun c2 e => ?_)
 · obtain ⟨g1, e⟩ := guard_e e
   refine ⟨g1.1, g1.2.1, g1.2.2, ?_⟩
   try rw [ba_list (ByteArray.extract s_0 (Int.toNat (0 : Int)) (Int.toNat ((ByteArray.size s_1 : Nat) : Int))) s_1]
   cases e
   exact ⟨_, O.pick [], rfl⟩
 · cases e
   exact ⟨_, O.pick [], rfl⟩
def strings_HasPrefix.post (W : Nat → Prop) (h0 m0 : Heap) (r : Bool) (v : Value) (h : Heap) : Prop := ∃ m , Hold W h0 m0 h m [] ∧ v = .bool r
noncomputable def strings_HasPrefix (s_0 : ByteArray) (s_1 : ByteArray) : Option (Bool) :=
 Option.bind (internal_stringslite_HasPrefix s_0 s_1) fun y1 => some (y1)
theorem strings_HasPrefix.walk {W h m s_0 s_1} (O : Hold W h m h m []) {r} (e : strings_HasPrefix s_0 s_1 = some r) : Run Tryd.prog 83 #[Value.string s_0, Value.string s_1] h (strings_HasPrefix.post W h m r) := by
 unfold strings_HasPrefix at e
 refine f83.run ?_
 unfold f83.runT
 obtain ⟨y1, g2, e⟩ := bind_e e
 refine (internal_stringslite_HasPrefix.walk (Hold.start (W := No) O.s)  g2).mono ?_
 rintro _ h3 ⟨m4, Q5, rfl⟩
 have O7 := Hold.nm (O.retC Q5 vfs_nil)
 refine ⟨_, rfl, ?_⟩
 cases e
 exact ⟨_, O7.pick [], rfl⟩
def internal_strconv_lower.post (W : Nat → Prop) (h0 m0 : Heap) (r : Int) (v : Value) (h : Heap) : Prop := ∃ m , Hold W h0 m0 h m [] ∧ v = .int .u8 r
noncomputable def internal_strconv_lower (x_0 : Int) : Option (Int) :=
 some ((bitsI .or .u8 x_0 (32 : Int)))
theorem internal_strconv_lower.walk {W h m x_0} (O : Hold W h m h m []) {r} (e : internal_strconv_lower x_0 = some r) : Run Tryd.prog 140 #[Value.int .u8 x_0] h (internal_strconv_lower.post W h m r) := by
 unfold internal_strconv_lower at e
 refine f140.run ?_
 unfold f140.runT
 cases e
 exact ⟨_, O.pick [], rfl⟩
def internal_strconv_underscoreOK.post (W : Nat → Prop) (h0 m0 : Heap) (r : Bool) (v : Value) (h : Heap) : Prop := ∃ m , Hold W h0 m0 h m [] ∧ v = .bool r
inductive internal_strconv_underscoreOK.l0_k.Pt where
 | l0 (s_0 : ByteArray) (x_3 : Int) (x_4 : Int) (b_5 : Bool)
 | j5 (s_0 : ByteArray) (x_3 : Int) (x_4 : Int) (b_5 : Bool)
 | j4 (s_0 : ByteArray) (x_3 : Int) (x_4 : Int) (b_5 : Bool)
noncomputable def internal_strconv_underscoreOK.l0_k.body (go : (p : internal_strconv_underscoreOK.l0_k.Pt) → Option (Bool)) : (p : internal_strconv_underscoreOK.l0_k.Pt) → Option (Bool)
 | .l0 s_0 x_3 x_4 b_5 => if x_4 < ((ByteArray.size s_0 : Nat) : Int) then (Option.bind (gb s_0 x_4) fun y1 => if (48 : Int) ≤ y1 then (Option.bind (gb s_0 x_4) fun y7 => if y7 ≤ (57 : Int) then ((go (.j4 s_0 (48 : Int) x_4 b_5))) else (if b_5 = true then (Option.bind (gb s_0 x_4) fun y13 => Option.bind (internal_strconv_lower y13) fun y19 => if (97 : Int) ≤ y19 then (Option.bind (gb s_0 x_4) fun y26 => Option.bind (internal_strconv_lower y26) fun y32 => if y32 ≤ (102 : Int) then ((go (.j4 s_0 (48 : Int) x_4 b_5))) else ((go (.j5 s_0 x_3 x_4 b_5)))) else ((go (.j5 s_0 x_3 x_4 b_5)))) else ((go (.j5 s_0 x_3 x_4 b_5))))) else (if b_5 = true then (Option.bind (gb s_0 x_4) fun y43 => Option.bind (internal_strconv_lower y43) fun y49 => if (97 : Int) ≤ y49 then (Option.bind (gb s_0 x_4) fun y56 => Option.bind (internal_strconv_lower y56) fun y62 => if y62 ≤ (102 : Int) then ((go (.j4 s_0 (48 : Int) x_4 b_5))) else ((go (.j5 s_0 x_3 x_4 b_5)))) else ((go (.j5 s_0 x_3 x_4 b_5)))) else ((go (.j5 s_0 x_3 x_4 b_5))))) else (some ((x_3 != (95 : Int))))
 | .j5 s_0 x_3 x_4 b_5 => Option.bind (gb s_0 x_4) fun y1 => if y1 = (95 : Int) then (if x_3 = (48 : Int) then ((go (.j4 s_0 (95 : Int) x_4 b_5))) else (some (false))) else (if x_3 = (95 : Int) then (some (false)) else ((go (.j4 s_0 (33 : Int) x_4 b_5))))
 | .j4 s_0 x_3 x_4 b_5 => (go (.l0 s_0 x_3 (IntKind.wrap .i64 (x_4 + (1 : Int))) b_5))
attribute [local irreducible] internal_strconv_lower in
theorem internal_strconv_underscoreOK.l0_k.mono : MonoF (β := fun _ => (Bool)) internal_strconv_underscoreOK.l0_k.body := fun f g hfg p => match p with
 | .l0 s_0 x_3 x_4 b_5 => LeO.ite (LeO.bind (LeO.refl _) fun y1 => LeO.ite (LeO.bind (LeO.refl _) fun y7 => LeO.ite ((hfg _)) (LeO.ite (LeO.bind (LeO.refl _) fun y13 => LeO.bind (LeO.refl _) fun y19 => LeO.ite (LeO.bind (LeO.refl _) fun y26 => LeO.bind (LeO.refl _) fun y32 => LeO.ite ((hfg _)) ((hfg _))) ((hfg _))) ((hfg _)))) (LeO.ite (LeO.bind (LeO.refl _) fun y43 => LeO.bind (LeO.refl _) fun y49 => LeO.ite (LeO.bind (LeO.refl _) fun y56 => LeO.bind (LeO.refl _) fun y62 => LeO.ite ((hfg _)) ((hfg _))) ((hfg _))) ((hfg _)))) (LeO.refl _)
 | .j5 s_0 x_3 x_4 b_5 => LeO.bind (LeO.refl _) fun y1 => LeO.ite (LeO.ite ((hfg _)) (LeO.refl _)) (LeO.ite (LeO.refl _) ((hfg _)))
 | .j4 s_0 x_3 x_4 b_5 => (hfg _)
noncomputable def internal_strconv_underscoreOK.l0_k.go (p : internal_strconv_underscoreOK.l0_k.Pt) : Option (Bool) := fixF (β := fun _ => (Bool)) internal_strconv_underscoreOK.l0_k.body p
noncomputable def internal_strconv_underscoreOK.l0 (s_0 x_3 x_4 b_5) := internal_strconv_underscoreOK.l0_k.go (.l0 s_0 x_3 x_4 b_5)
def internal_strconv_underscoreOK.l0_k.I : (p : internal_strconv_underscoreOK.l0_k.Pt) → (Bool) → Prop
 | .l0 s_0 x_3 x_4 b_5, r => ∀ {W h0 m0 h m} (O : Hold W h0 m0 h m []), f141.l0 (internal_strconv_underscoreOK.post W h0 m0 r) s_0 x_3 x_4 b_5 h
 | .j5 s_0 x_3 x_4 b_5, r => ∀ {W h0 m0 h m} (O : Hold W h0 m0 h m []), f141.j5 (internal_strconv_underscoreOK.post W h0 m0 r) s_0 x_3 x_4 b_5 h
 | .j4 s_0 x_3 x_4 b_5, r => ∀ {W h0 m0 h m} (O : Hold W h0 m0 h m []), f141.j4 (internal_strconv_underscoreOK.post W h0 m0 r) s_0 x_3 x_4 b_5 h
set_option maxHeartbeats 4000000 in
theorem internal_strconv_underscoreOK.l0_k.step_l0 (go : (p : internal_strconv_underscoreOK.l0_k.Pt) → Option (Bool)) (ih : ∀ p r, go p = some r → internal_strconv_underscoreOK.l0_k.I p r) (s_0 x_3 x_4 b_5) (r) (e : internal_strconv_underscoreOK.l0_k.body go (.l0 s_0 x_3 x_4 b_5) = some r) : internal_strconv_underscoreOK.l0_k.I (.l0 s_0 x_3 x_4 b_5) r := by
 unfold internal_strconv_underscoreOK.l0_k.body at e
 intro W h0 m0 h m O
 refine f141.l0_in ?_
 unfold f141.l0T
 refine split_dec_e e (fun c73 e => ?_) (fun c73 e => ?_)
 · obtain ⟨y1, g2, e⟩ := bind_e e
   obtain ⟨q3, b4, q5, q6⟩ := gb_e g2
   refine ⟨q3, _, q5, ?_⟩
   try rw [← q6]
   refine split_dec_e e (fun c72 e => ?_) (fun c72 e => ?_)
   · obtain ⟨y7, g8, e⟩ := bind_e e
     obtain ⟨q9, b10, q11, q12⟩ := gb_e g8
     refine ⟨q9, _, q11, ?_⟩
     try rw [← q12]
     refine split_dec_e e (fun c42 e => ?_) (fun c42 e => ?_)
     · exact (ih _ _ e) (O.pick []).nm 
     · refine split_any_e e (fun c41 e => ?_) (fun c41 e => ?_)
       · obtain ⟨y13, g14, e⟩ := bind_e e
         obtain ⟨q15, b16, q17, q18⟩ := gb_e g14
         refine ⟨q15, _, q17, ?_⟩
         try rw [← q18]
         obtain ⟨y19, g20, e⟩ := bind_e e
         refine (internal_strconv_lower.walk (Hold.start (W := No) O.s)  g20).mono ?_
         rintro _ h21 ⟨m22, Q23, rfl⟩
         have O25 := Hold.nm (O.retC Q23 vfs_nil)
         refine ⟨_, rfl, ?_⟩
         refine split_dec_e e (fun c40 e => ?_) (fun c40 e => ?_)
         · obtain ⟨y26, g27, e⟩ := bind_e e
           obtain ⟨q28, b29, q30, q31⟩ := gb_e g27
           refine ⟨q28, _, q30, ?_⟩
           try rw [← q31]
           obtain ⟨y32, g33, e⟩ := bind_e e
           refine (internal_strconv_lower.walk (Hold.start (W := No) O25.s)  g33).mono ?_
           rintro _ h34 ⟨m35, Q36, rfl⟩
           have O38 := Hold.nm (O25.retC Q36 vfs_nil)
           refine ⟨_, rfl, ?_⟩
           refine split_dec_e e (fun c39 e => ?_) (fun c39 e => ?_)
           · exact (ih _ _ e) (O38.pick []).nm 
           · exact (ih _ _ e) (O38.pick []).nm 
         · exact (ih _ _ e) (O25.pick []).nm 
       · exact (ih _ _ e) (O.pick []).nm 
   · refine split_any_e e (fun c71 e => ?_) (fun c71 e => ?_)
     · obtain ⟨y43, g44, e⟩ := bind_e e
       obtain ⟨q45, b46, q47, q48⟩ := gb_e g44
       refine ⟨q45, _, q47, ?_⟩
       try rw [← q48]
       obtain ⟨y49, g50, e⟩ := bind_e e
       refine (internal_strconv_lower.walk (Hold.start (W := No) O.s)  g50).mono ?_
       rintro _ h51 ⟨m52, Q53, rfl⟩
       have O55 := Hold.nm (O.retC Q53 vfs_nil)
       refine ⟨_, rfl, ?_⟩
       refine split_dec_e e (fun c70 e => ?_) (fun c70 e => ?_)
       · obtain ⟨y56, g57, e⟩ := bind_e e
         obtain ⟨q58, b59, q60, q61⟩ := gb_e g57
         refine ⟨q58, _, q60, ?_⟩
         try rw [← q61]
         obtain ⟨y62, g63, e⟩ := bind_e e
         refine (internal_strconv_lower.walk (Hold.start (W := No) O55.s)  g63).mono ?_
         rintro _ h64 ⟨m65, Q66, rfl⟩
         have O68 := Hold.nm (O55.retC Q66 vfs_nil)
         refine ⟨_, rfl, ?_⟩
         refine split_dec_e e (fun c69 e => ?_) (fun c69 e => ?_)
         · exact (ih _ _ e) (O68.pick []).nm 
         · exact (ih _ _ e) (O68.pick []).nm 
       · exact (ih _ _ e) (O55.pick []).nm 
     · exact (ih _ _ e) (O.pick []).nm 
 · cases e
   exact ⟨_, O.pick [], rfl⟩
theorem internal_strconv_underscoreOK.l0_k.step_j5 (go : (p : internal_strconv_underscoreOK.l0_k.Pt) → Option (Bool)) (ih : ∀ p r, go p = some r → internal_strconv_underscoreOK.l0_k.I p r) (s_0 x_3 x_4 b_5) (r) (e : internal_strconv_underscoreOK.l0_k.body go (.j5 s_0 x_3 x_4 b_5) = some r) : internal_strconv_underscoreOK.l0_k.I (.j5 s_0 x_3 x_4 b_5) r := by
 unfold internal_strconv_underscoreOK.l0_k.body at e
 intro W h0 m0 h m O
 refine f141.j5_in ?_
 unfold f141.j5T
 obtain ⟨y1, g2, e⟩ := bind_e e
 obtain ⟨q3, b4, q5, q6⟩ := gb_e g2
 refine ⟨q3, _, q5, ?_⟩
 try rw [← q6]
 refine split_eq_e e (fun c9 e => ?_) (fun c9 e => ?_)
 · refine split_ne_e e (fun c7 e => ?_) (fun c7 e => ?_)
   · cases e
     exact ⟨_, O.pick [], rfl⟩
   · exact (ih _ _ e) (O.pick []).nm 
 · refine split_eq_e e (fun c8 e => ?_) (fun c8 e => ?_)
   · cases e
     exact ⟨_, O.pick [], rfl⟩
   · exact (ih _ _ e) (O.pick []).nm 
theorem internal_strconv_underscoreOK.l0_k.step_j4 (go : (p : internal_strconv_underscoreOK.l0_k.Pt) → Option (Bool)) (ih : ∀ p r, go p = some r → internal_strconv_underscoreOK.l0_k.I p r) (s_0 x_3 x_4 b_5) (r) (e : internal_strconv_underscoreOK.l0_k.body go (.j4 s_0 x_3 x_4 b_5) = some r) : internal_strconv_underscoreOK.l0_k.I (.j4 s_0 x_3 x_4 b_5) r := by
 unfold internal_strconv_underscoreOK.l0_k.body at e
 intro W h0 m0 h m O
 refine f141.j4_in ?_
 unfold f141.j4T
 exact (ih _ _ e) (O.pick []).nm 
theorem internal_strconv_underscoreOK.l0_k.all {p : internal_strconv_underscoreOK.l0_k.Pt} {r : (Bool)} (e : internal_strconv_underscoreOK.l0_k.go p = some r) : internal_strconv_underscoreOK.l0_k.I p r := fixF_ind (β := fun _ => (Bool)) internal_strconv_underscoreOK.l0_k.mono (I := internal_strconv_underscoreOK.l0_k.I) (fun go ih p r e => match p with
 | .l0 s_0 x_3 x_4 b_5 => internal_strconv_underscoreOK.l0_k.step_l0 go ih s_0 x_3 x_4 b_5 r e
 | .j5 s_0 x_3 x_4 b_5 => internal_strconv_underscoreOK.l0_k.step_j5 go ih s_0 x_3 x_4 b_5 r e
 | .j4 s_0 x_3 x_4 b_5 => internal_strconv_underscoreOK.l0_k.step_j4 go ih s_0 x_3 x_4 b_5 r e
 ) e
noncomputable def internal_strconv_underscoreOK.j2 (s_0 : ByteArray) (x_3 : Int) (x_4 : Int) (b_5 : Bool) : Option (Bool) :=
 (internal_strconv_underscoreOK.l0 s_0 x_3 x_4 b_5)
theorem internal_strconv_underscoreOK.j2.walk {W h0 m0 h m s_0 x_3 x_4 b_5} (O : Hold W h0 m0 h m []) {r} (e : internal_strconv_underscoreOK.j2 s_0 x_3 x_4 b_5 = some r) : f141.j2 (internal_strconv_underscoreOK.post W h0 m0 r) s_0 x_3 x_4 b_5 h := by
 unfold internal_strconv_underscoreOK.j2 at e
 refine f141.j2_in ?_
 unfold f141.j2T
 exact (internal_strconv_underscoreOK.l0_k.all e) (O.pick []).nm 
noncomputable def internal_strconv_underscoreOK.j3 (s_0 : ByteArray) (x_3 : Int) (x_4 : Int) (b_5 : Bool) (b_46 : Bool) : Option (Bool) :=
 if b_46 = true then (Option.bind (gb s_0 (1 : Int)) fun y1 => Option.bind (internal_strconv_lower y1) fun y7 => (internal_strconv_underscoreOK.j2 s_0 (48 : Int) (2 : Int) (y7 == (120 : Int)))) else ((internal_strconv_underscoreOK.j2 s_0 x_3 x_4 b_5))
theorem internal_strconv_underscoreOK.j3.walk {W h0 m0 h m s_0 x_3 x_4 b_5 b_46} (O : Hold W h0 m0 h m []) {r} (e : internal_strconv_underscoreOK.j3 s_0 x_3 x_4 b_5 b_46 = some r) : f141.j3 (internal_strconv_underscoreOK.post W h0 m0 r) s_0 x_3 x_4 b_5 b_46 h := by
 unfold internal_strconv_underscoreOK.j3 at e
 refine f141.j3_in ?_
 unfold f141.j3T
 refine split_any_e e (fun c14 e => ?_) (fun c14 e => ?_)
 · obtain ⟨y1, g2, e⟩ := bind_e e
   obtain ⟨q3, b4, q5, q6⟩ := gb_e g2
   refine ⟨q3, _, q5, ?_⟩
   try rw [← q6]
   obtain ⟨y7, g8, e⟩ := bind_e e
   refine (internal_strconv_lower.walk (Hold.start (W := No) O.s)  g8).mono ?_
   rintro _ h9 ⟨m10, Q11, rfl⟩
   have O13 := Hold.nm (O.retC Q11 vfs_nil)
   refine ⟨_, rfl, ?_⟩
   exact internal_strconv_underscoreOK.j2.walk (O13.pick []).nm  e
 · exact internal_strconv_underscoreOK.j2.walk (O.pick []).nm  e
noncomputable def internal_strconv_underscoreOK.j0 (s_0 : ByteArray) (x_3 : Int) (x_4 : Int) : Option (Bool) :=
 if ((ByteArray.size s_0 : Nat) : Int) ≥ (2 : Int) then (Option.bind (gb s_0 (0 : Int)) fun y1 => if y1 = (48 : Int) then (Option.bind (gb s_0 (1 : Int)) fun y7 => Option.bind (internal_strconv_lower y7) fun y13 => if y13 = (98 : Int) then ((internal_strconv_underscoreOK.j3 s_0 x_3 x_4 false true)) else (Option.bind (gb s_0 (1 : Int)) fun y20 => Option.bind (internal_strconv_lower y20) fun y26 => if y26 = (111 : Int) then ((internal_strconv_underscoreOK.j3 s_0 x_3 x_4 false true)) else (Option.bind (gb s_0 (1 : Int)) fun y33 => Option.bind (internal_strconv_lower y33) fun y39 => (internal_strconv_underscoreOK.j3 s_0 x_3 x_4 false (y39 == (120 : Int)))))) else ((internal_strconv_underscoreOK.j3 s_0 x_3 x_4 false false))) else ((internal_strconv_underscoreOK.j3 s_0 x_3 x_4 false false))
set_option maxHeartbeats 4000000 in
theorem internal_strconv_underscoreOK.j0.walk {W h0 m0 h m s_0 x_3 x_4} (O : Hold W h0 m0 h m []) {r} (e : internal_strconv_underscoreOK.j0 s_0 x_3 x_4 = some r) : f141.j0 (internal_strconv_underscoreOK.post W h0 m0 r) s_0 x_3 x_4 h := by
 unfold internal_strconv_underscoreOK.j0 at e
 refine f141.j0_in ?_
 unfold f141.j0T
 refine split_dec_e e (fun c49 e => ?_) (fun c49 e => ?_)
 · obtain ⟨y1, g2, e⟩ := bind_e e
   obtain ⟨q3, b4, q5, q6⟩ := gb_e g2
   refine ⟨q3, _, q5, ?_⟩
   try rw [← q6]
   refine split_eq_e e (fun c48 e => ?_) (fun c48 e => ?_)
   · obtain ⟨y7, g8, e⟩ := bind_e e
     obtain ⟨q9, b10, q11, q12⟩ := gb_e g8
     refine ⟨q9, _, q11, ?_⟩
     try rw [← q12]
     obtain ⟨y13, g14, e⟩ := bind_e e
     refine (internal_strconv_lower.walk (Hold.start (W := No) O.s)  g14).mono ?_
     rintro _ h15 ⟨m16, Q17, rfl⟩
     have O19 := Hold.nm (O.retC Q17 vfs_nil)
     refine ⟨_, rfl, ?_⟩
     refine split_eq_e e (fun c47 e => ?_) (fun c47 e => ?_)
     · exact internal_strconv_underscoreOK.j3.walk (O19.pick []).nm  e
     · obtain ⟨y20, g21, e⟩ := bind_e e
       obtain ⟨q22, b23, q24, q25⟩ := gb_e g21
       refine ⟨q22, _, q24, ?_⟩
       try rw [← q25]
       obtain ⟨y26, g27, e⟩ := bind_e e
       refine (internal_strconv_lower.walk (Hold.start (W := No) O19.s)  g27).mono ?_
       rintro _ h28 ⟨m29, Q30, rfl⟩
       have O32 := Hold.nm (O19.retC Q30 vfs_nil)
       refine ⟨_, rfl, ?_⟩
       refine split_eq_e e (fun c46 e => ?_) (fun c46 e => ?_)
       · exact internal_strconv_underscoreOK.j3.walk (O32.pick []).nm  e
       · obtain ⟨y33, g34, e⟩ := bind_e e
         obtain ⟨q35, b36, q37, q38⟩ := gb_e g34
         refine ⟨q35, _, q37, ?_⟩
         try rw [← q38]
         obtain ⟨y39, g40, e⟩ := bind_e e
         refine (internal_strconv_lower.walk (Hold.start (W := No) O32.s)  g40).mono ?_
         rintro _ h41 ⟨m42, Q43, rfl⟩
         have O45 := Hold.nm (O32.retC Q43 vfs_nil)
         refine ⟨_, rfl, ?_⟩
         exact internal_strconv_underscoreOK.j3.walk (O45.pick []).nm  e
   · exact internal_strconv_underscoreOK.j3.walk (O.pick []).nm  e
 · exact internal_strconv_underscoreOK.j3.walk (O.pick []).nm  e
noncomputable def internal_strconv_underscoreOK.j1 (s_0 : ByteArray) (x_3 : Int) (x_4 : Int) (b_18 : Bool) : Option (Bool) :=
 if b_18 = true then (if 0 ≤ (1 : Int) ∧ (1 : Int) ≤ ((ByteArray.size s_0 : Nat) : Int) ∧ ((ByteArray.size s_0 : Nat) : Int) ≤ ((ByteArray.size s_0 : Nat) : Int) then ((internal_strconv_underscoreOK.j0 (ByteArray.extract s_0 (Int.toNat (1 : Int)) (Int.toNat ((ByteArray.size s_0 : Nat) : Int))) x_3 x_4)) else none) else ((internal_strconv_underscoreOK.j0 s_0 x_3 x_4))
theorem internal_strconv_underscoreOK.j1.walk {W h0 m0 h m s_0 x_3 x_4 b_18} (O : Hold W h0 m0 h m []) {r} (e : internal_strconv_underscoreOK.j1 s_0 x_3 x_4 b_18 = some r) : f141.j1 (internal_strconv_underscoreOK.post W h0 m0 r) s_0 x_3 x_4 b_18 h := by
 unfold internal_strconv_underscoreOK.j1 at e
 refine f141.j1_in ?_
 unfold f141.j1T
 refine split_any_e e (fun c2 e => ?_) (fun c2 e => ?_)
 · obtain ⟨g1, e⟩ := guard_e e
   refine ⟨g1.1, g1.2.1, g1.2.2, ?_⟩
   exact internal_strconv_underscoreOK.j0.walk (O.pick []).nm  e
 · exact internal_strconv_underscoreOK.j0.walk (O.pick []).nm  e
noncomputable def internal_strconv_underscoreOK (s_0 : ByteArray) : Option (Bool) :=
 if ((ByteArray.size s_0 : Nat) : Int) ≥ (1 : Int) then (Option.bind (gb s_0 (0 : Int)) fun y1 => if y1 = (45 : Int) then ((internal_strconv_underscoreOK.j1 s_0 (94 : Int) (0 : Int) true)) else (Option.bind (gb s_0 (0 : Int)) fun y7 => (internal_strconv_underscoreOK.j1 s_0 (94 : Int) (0 : Int) (y7 == (43 : Int))))) else ((internal_strconv_underscoreOK.j1 s_0 (94 : Int) (0 : Int) false))
theorem internal_strconv_underscoreOK.walk {W h m s_0} (O : Hold W h m h m []) {r} (e : internal_strconv_underscoreOK s_0 = some r) : Run Tryd.prog 141 #[Value.string s_0] h (internal_strconv_underscoreOK.post W h m r) := by
 unfold internal_strconv_underscoreOK at e
 refine f141.run ?_
 unfold f141.runT
 refine split_dec_e e (fun c14 e => ?_) (fun c14 e => ?_)
 · obtain ⟨y1, g2, e⟩ := bind_e e
   obtain ⟨q3, b4, q5, q6⟩ := gb_e g2
   refine ⟨q3, _, q5, ?_⟩
   try rw [← q6]
   refine split_eq_e e (fun c13 e => ?_) (fun c13 e => ?_)
   · exact internal_strconv_underscoreOK.j1.walk (O.pick []).nm  e
   · obtain ⟨y7, g8, e⟩ := bind_e e
     obtain ⟨q9, b10, q11, q12⟩ := gb_e g8
     refine ⟨q9, _, q11, ?_⟩
     try rw [← q12]
     exact internal_strconv_underscoreOK.j1.walk (O.pick []).nm  e
 · exact internal_strconv_underscoreOK.j1.walk (O.pick []).nm  e
end Go.Proofs.YtkbhpagogmmgnaaDoor.Fw

end
