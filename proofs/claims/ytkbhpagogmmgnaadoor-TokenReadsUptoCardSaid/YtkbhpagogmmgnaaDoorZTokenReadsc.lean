/- Part 3: what the law TokenReads needs, put together out of texts of this session. -/
import Derived.Test.YtkbhpagogmmgnaaDoorZTokenReadsb
section
namespace Go.Proofs.YtkbhpagogmmgnaaDoor.Fw
open Go Go.Hw Go.Proofs
set_option linter.unusedVariables false
set_option maxRecDepth 100000
set_option synthInstance.maxHeartbeats 400000
set_option synthInstance.maxSize 1000
abbrev TB (m : Heap) : Prop := TBb 3 0 m
structure T_roadref2_Tok where
 Kind : Int
 Text : ByteArray
 At : Int
def T_roadref2_Tok.E (h : Heap) (x : T_roadref2_Tok) (cs : List Value) : Prop := cs = [.int .i64 x.Kind, .string x.Text, .int .i64 x.At]
theorem T_roadref2_Tok.T : Tell 3 T_roadref2_Tok.E := ⟨by rintro m h x _ s rfl; exact rfl, by rintro h x _ rfl; rfl, by rintro h x _ rfl; exact Flats.cons trivial (Flats.cons trivial (Flats.cons trivial Flats.nil))⟩
theorem T_roadref2_Tok.keep {m h : Heap} {x : T_roadref2_Tok} {cs : List Value} (e : T_roadref2_Tok.E m x cs) : T_roadref2_Tok.E h x cs := e
structure T_token_Token where
 Kind : Int
 Text : ByteArray
 At : Int
def T_token_Token.E (h : Heap) (x : T_token_Token) (cs : List Value) : Prop := cs = [.int .i64 x.Kind, .string x.Text, .int .i64 x.At]
theorem T_token_Token.T : Tell 3 T_token_Token.E := ⟨by rintro m h x _ s rfl; exact rfl, by rintro h x _ rfl; rfl, by rintro h x _ rfl; exact Flats.cons trivial (Flats.cons trivial (Flats.cons trivial Flats.nil))⟩
theorem T_token_Token.keep {m h : Heap} {x : T_token_Token} {cs : List Value} (e : T_token_Token.E m x cs) : T_token_Token.E h x cs := e
theorem T_roadref2_Tok.s2 {m : Heap} {x : T_roadref2_Tok} {cs : List Value} (e : T_roadref2_Tok.E m x cs) (v : Int) : T_roadref2_Tok.E m { x with At := v } (cs.set 2 (Value.int .i64 v)) := by
 obtain rfl := e
 exact rfl
theorem T_token_Token.g0 {m : Heap} {x : T_token_Token} {cs : List Value} (e : T_token_Token.E m x cs) : cs[0]? = some (Value.int .i64 x.Kind) := by
 obtain rfl := e
 exact rfl
theorem T_roadref2_Tok.g0 {m : Heap} {x : T_roadref2_Tok} {cs : List Value} (e : T_roadref2_Tok.E m x cs) : cs[0]? = some (Value.int .i64 x.Kind) := by
 obtain rfl := e
 exact rfl
theorem T_token_Token.g1 {m : Heap} {x : T_token_Token} {cs : List Value} (e : T_token_Token.E m x cs) : cs[1]? = some (Value.string x.Text) := by
 obtain rfl := e
 exact rfl
theorem T_roadref2_Tok.g1 {m : Heap} {x : T_roadref2_Tok} {cs : List Value} (e : T_roadref2_Tok.E m x cs) : cs[1]? = some (Value.string x.Text) := by
 obtain rfl := e
 exact rfl
theorem T_token_Token.g2 {m : Heap} {x : T_token_Token} {cs : List Value} (e : T_token_Token.E m x cs) : cs[2]? = some (Value.int .i64 x.At) := by
 obtain rfl := e
 exact rfl
theorem T_roadref2_Tok.g2 {m : Heap} {x : T_roadref2_Tok} {cs : List Value} (e : T_roadref2_Tok.E m x cs) : cs[2]? = some (Value.int .i64 x.At) := by
 obtain rfl := e
 exact rfl
def strings_Fields.post (W : Nat → Prop) (h0 m0 : Heap) (r : (List ByteArray)) (v : Value) (h : Heap) : Prop := ∃ m A0 n0 c0, Hold W h0 m0 h m [rR (aE tell_str) A0 c0 r] ∧ v = .slice A0 n0 c0 ∧ n0 = List.length r
noncomputable def strings_Fields (x0 : ByteArray) : Option (List ByteArray) := if x0.size < 4294967281 ∧ ascii x0 = true then some (fieldsB x0) else none
theorem strings_Fields.walk {W : Nat → Prop} {h m : Heap} {x0 : ByteArray} (O : Hold W h m h m []) (tab : TB m) {r : List ByteArray} (e : strings_Fields x0 = some r) : Run Tryd.prog 40 #[Value.string x0] h (strings_Fields.post W h m r) := by
 unfold strings_Fields at e
 exact (fields_run (by kernel_rfl) Tryd.strings_Fields O tab.2 e).mono fun v h' hp => hp
def roadref2_WordList.post (W : Nat → Prop) (h0 m0 : Heap) (r : (List ByteArray)) (v : Value) (h : Heap) : Prop := ∃ m A0 n0 c0, Hold W h0 m0 h m [rR (aE tell_str) A0 c0 r] ∧ v = .slice A0 n0 c0 ∧ n0 = List.length r
noncomputable def roadref2_WordList  : Option ((List ByteArray)) :=
 Option.bind (strings_Fields (ByteArray.mk #[97, 99, 116, 111, 114, 32, 97, 102, 116, 101, 114, 32, 97, 110, 100, 32, 97, 112, 112, 108, 121, 32, 98, 101, 99, 111, 109, 101, 32, 98, 111, 111, 108, 32, 99, 101, 108, 108, 32, 100, 97, 116, 97, 32, 101, 108, 115, 101, 32, 102, 97, 105, 108, 32, 102, 97, 108, 115, 101, 32, 102, 110, 32, 102, 111, 114, 32, 102, 117, 110, 32, 103, 101, 116, 32, 105, 102, 32, 105, 109, 112, 108, 32, 105, 110, 32, 105, 110, 116, 32, 108, 101, 116, 32, 108, 105, 110, 107, 32, 109, 97, 116, 99, 104, 32, 109, 111, 100, 117, 108, 101, 32, 110, 111, 116, 32, 111, 114, 32, 112, 117, 116, 32, 114, 101, 99, 101, 105, 118, 101, 32, 115, 97, 121, 32, 115, 101, 108, 102, 32, 115, 101, 110, 100, 32, 115, 112, 97, 119, 110, 32, 116, 101, 120, 116, 32, 116, 104, 101, 110, 32, 116, 114, 97, 105, 116, 32, 116, 114, 117, 101, 32, 117, 110, 105, 116, 32, 117, 115, 101, 32, 119, 97, 116, 99, 104])) fun y1 => some (y1)
theorem roadref2_WordList.walk {W h m} (O : Hold W h m h m []) (tab : TB m) {r} (e : roadref2_WordList  = some r) : Run Tryd.prog 23 #[] h (roadref2_WordList.post W h m r) := by
 unfold roadref2_WordList at e
 refine f23.run ?_
 unfold f23.runT
 obtain ⟨y1, g2, e⟩ := bind_e e
 refine (strings_Fields.walk (Hold.start (W := No) O.s) tab g2).mono ?_
 rintro _ h3 ⟨m4, A7, n8, c9, Q5, rfl, ne10⟩
 have O12 := Hold.nm (O.retC Q5 (vfs_cons (rR_vf (aE_vf (fun _ _ _ _ h => h))) vfs_nil))
 subst ne10
 refine ⟨_, _, _, rfl, ?_⟩
 cases e
 exact ⟨_, _, _, _, O12.pick [0], rfl, rfl⟩
def token_Words.post (W : Nat → Prop) (h0 m0 : Heap) (r : (List ByteArray)) (v : Value) (h : Heap) : Prop := ∃ m A0 n0 c0, Hold W h0 m0 h m [rR (aE tell_str) A0 c0 r] ∧ v = .slice A0 n0 c0 ∧ n0 = List.length r
noncomputable def token_Words  : Option ((List ByteArray)) :=
 some (([(ByteArray.mk #[97, 99, 116, 111, 114]), (ByteArray.mk #[97, 102, 116, 101, 114]), (ByteArray.mk #[97, 110, 100]), (ByteArray.mk #[97, 112, 112, 108, 121]), (ByteArray.mk #[98, 101, 99, 111, 109, 101]), (ByteArray.mk #[98, 111, 111, 108]), (ByteArray.mk #[99, 101, 108, 108]), (ByteArray.mk #[100, 97, 116, 97]), (ByteArray.mk #[101, 108, 115, 101]), (ByteArray.mk #[102, 97, 105, 108]), (ByteArray.mk #[102, 97, 108, 115, 101]), (ByteArray.mk #[102, 110]), (ByteArray.mk #[102, 111, 114]), (ByteArray.mk #[102, 117, 110]), (ByteArray.mk #[103, 101, 116]), (ByteArray.mk #[105, 102]), (ByteArray.mk #[105, 109, 112, 108]), (ByteArray.mk #[105, 110]), (ByteArray.mk #[105, 110, 116]), (ByteArray.mk #[108, 101, 116]), (ByteArray.mk #[108, 105, 110, 107]), (ByteArray.mk #[109, 97, 116, 99, 104]), (ByteArray.mk #[109, 111, 100, 117, 108, 101]), (ByteArray.mk #[110, 111, 116]), (ByteArray.mk #[111, 114]), (ByteArray.mk #[112, 117, 116]), (ByteArray.mk #[114, 101, 99, 101, 105, 118, 101]), (ByteArray.mk #[115, 97, 121]), (ByteArray.mk #[115, 101, 108, 102]), (ByteArray.mk #[115, 101, 110, 100]), (ByteArray.mk #[115, 112, 97, 119, 110]), (ByteArray.mk #[116, 101, 120, 116]), (ByteArray.mk #[116, 104, 101, 110]), (ByteArray.mk #[116, 114, 97, 105, 116]), (ByteArray.mk #[116, 114, 117, 101]), (ByteArray.mk #[117, 110, 105, 116]), (ByteArray.mk #[117, 115, 101]), (ByteArray.mk #[119, 97, 116, 99, 104])] : List ByteArray))
theorem token_Words.walk {W h m} (O : Hold W h m h m []) {r} (e : token_Words  = some r) : Run Tryd.prog 28 #[] h (token_Words.post W h m r) := by
 unfold token_Words at e
 refine f28.run ?_
 unfold f28.runT
 refine O.new fun h1 x2 O3 => ?_
 have O5 := O3.rowE (l := ([(ByteArray.mk #[97, 99, 116, 111, 114]), (ByteArray.mk #[97, 102, 116, 101, 114]), (ByteArray.mk #[97, 110, 100]), (ByteArray.mk #[97, 112, 112, 108, 121]), (ByteArray.mk #[98, 101, 99, 111, 109, 101]), (ByteArray.mk #[98, 111, 111, 108]), (ByteArray.mk #[99, 101, 108, 108]), (ByteArray.mk #[100, 97, 116, 97]), (ByteArray.mk #[101, 108, 115, 101]), (ByteArray.mk #[102, 97, 105, 108]), (ByteArray.mk #[102, 97, 108, 115, 101]), (ByteArray.mk #[102, 110]), (ByteArray.mk #[102, 111, 114]), (ByteArray.mk #[102, 117, 110]), (ByteArray.mk #[103, 101, 116]), (ByteArray.mk #[105, 102]), (ByteArray.mk #[105, 109, 112, 108]), (ByteArray.mk #[105, 110]), (ByteArray.mk #[105, 110, 116]), (ByteArray.mk #[108, 101, 116]), (ByteArray.mk #[108, 105, 110, 107]), (ByteArray.mk #[109, 97, 116, 99, 104]), (ByteArray.mk #[109, 111, 100, 117, 108, 101]), (ByteArray.mk #[110, 111, 116]), (ByteArray.mk #[111, 114]), (ByteArray.mk #[112, 117, 116]), (ByteArray.mk #[114, 101, 99, 101, 105, 118, 101]), (ByteArray.mk #[115, 97, 121]), (ByteArray.mk #[115, 101, 108, 102]), (ByteArray.mk #[115, 101, 110, 100]), (ByteArray.mk #[115, 112, 97, 119, 110]), (ByteArray.mk #[116, 101, 120, 116]), (ByteArray.mk #[116, 104, 101, 110]), (ByteArray.mk #[116, 114, 97, 105, 116]), (ByteArray.mk #[116, 114, 117, 101]), (ByteArray.mk #[117, 110, 105, 116]), (ByteArray.mk #[117, 115, 101]), (ByteArray.mk #[119, 97, 116, 99, 104])] : List ByteArray)) 0 rfl tell_str (show CsE _ _ _ _ _ from (CsE.cons (c1 := [(Value.string (ByteArray.mk #[97, 99, 116, 111, 114]))]) rfl rfl (CsE.cons (c1 := [(Value.string (ByteArray.mk #[97, 102, 116, 101, 114]))]) rfl rfl (CsE.cons (c1 := [(Value.string (ByteArray.mk #[97, 110, 100]))]) rfl rfl (CsE.cons (c1 := [(Value.string (ByteArray.mk #[97, 112, 112, 108, 121]))]) rfl rfl (CsE.cons (c1 := [(Value.string (ByteArray.mk #[98, 101, 99, 111, 109, 101]))]) rfl rfl (CsE.cons (c1 := [(Value.string (ByteArray.mk #[98, 111, 111, 108]))]) rfl rfl (CsE.cons (c1 := [(Value.string (ByteArray.mk #[99, 101, 108, 108]))]) rfl rfl (CsE.cons (c1 := [(Value.string (ByteArray.mk #[100, 97, 116, 97]))]) rfl rfl (CsE.cons (c1 := [(Value.string (ByteArray.mk #[101, 108, 115, 101]))]) rfl rfl (CsE.cons (c1 := [(Value.string (ByteArray.mk #[102, 97, 105, 108]))]) rfl rfl (CsE.cons (c1 := [(Value.string (ByteArray.mk #[102, 97, 108, 115, 101]))]) rfl rfl (CsE.cons (c1 := [(Value.string (ByteArray.mk #[102, 110]))]) rfl rfl (CsE.cons (c1 := [(Value.string (ByteArray.mk #[102, 111, 114]))]) rfl rfl (CsE.cons (c1 := [(Value.string (ByteArray.mk #[102, 117, 110]))]) rfl rfl (CsE.cons (c1 := [(Value.string (ByteArray.mk #[103, 101, 116]))]) rfl rfl (CsE.cons (c1 := [(Value.string (ByteArray.mk #[105, 102]))]) rfl rfl (CsE.cons (c1 := [(Value.string (ByteArray.mk #[105, 109, 112, 108]))]) rfl rfl (CsE.cons (c1 := [(Value.string (ByteArray.mk #[105, 110]))]) rfl rfl (CsE.cons (c1 := [(Value.string (ByteArray.mk #[105, 110, 116]))]) rfl rfl (CsE.cons (c1 := [(Value.string (ByteArray.mk #[108, 101, 116]))]) rfl rfl (CsE.cons (c1 := [(Value.string (ByteArray.mk #[108, 105, 110, 107]))]) rfl rfl (CsE.cons (c1 := [(Value.string (ByteArray.mk #[109, 97, 116, 99, 104]))]) rfl rfl (CsE.cons (c1 := [(Value.string (ByteArray.mk #[109, 111, 100, 117, 108, 101]))]) rfl rfl (CsE.cons (c1 := [(Value.string (ByteArray.mk #[110, 111, 116]))]) rfl rfl (CsE.cons (c1 := [(Value.string (ByteArray.mk #[111, 114]))]) rfl rfl (CsE.cons (c1 := [(Value.string (ByteArray.mk #[112, 117, 116]))]) rfl rfl (CsE.cons (c1 := [(Value.string (ByteArray.mk #[114, 101, 99, 101, 105, 118, 101]))]) rfl rfl (CsE.cons (c1 := [(Value.string (ByteArray.mk #[115, 97, 121]))]) rfl rfl (CsE.cons (c1 := [(Value.string (ByteArray.mk #[115, 101, 108, 102]))]) rfl rfl (CsE.cons (c1 := [(Value.string (ByteArray.mk #[115, 101, 110, 100]))]) rfl rfl (CsE.cons (c1 := [(Value.string (ByteArray.mk #[115, 112, 97, 119, 110]))]) rfl rfl (CsE.cons (c1 := [(Value.string (ByteArray.mk #[116, 101, 120, 116]))]) rfl rfl (CsE.cons (c1 := [(Value.string (ByteArray.mk #[116, 104, 101, 110]))]) rfl rfl (CsE.cons (c1 := [(Value.string (ByteArray.mk #[116, 114, 97, 105, 116]))]) rfl rfl (CsE.cons (c1 := [(Value.string (ByteArray.mk #[116, 114, 117, 101]))]) rfl rfl (CsE.cons (c1 := [(Value.string (ByteArray.mk #[117, 110, 105, 116]))]) rfl rfl (CsE.cons (c1 := [(Value.string (ByteArray.mk #[117, 115, 101]))]) rfl rfl (CsE.cons (c1 := [(Value.string (ByteArray.mk #[119, 97, 116, 99, 104]))]) rfl rfl CsE.nil))))))))))))))))))))))))))))))))))))))) rfl
 have O6 := O5.nm
 cases e
 exact ⟨_, _, _, _, O6.pick [0], rfl, rfl⟩
def strings_IndexByte.post (W : Nat → Prop) (h0 m0 : Heap) (r : Int) (v : Value) (h : Heap) : Prop := ∃ m , Hold W h0 m0 h m [] ∧ v = .int .i64 r
noncomputable def strings_IndexByte (x0 : ByteArray) (x1 : Int) : Option Int := some (ibyteB x0 x1)
theorem strings_IndexByte.walk {W : Nat → Prop} {h m : Heap} {x0 : ByteArray} {x1 : Int} (O : Hold W h m h m []) {r : Int} (e : strings_IndexByte x0 x1 = some r) : Run Tryd.prog 59 #[Value.string x0, Value.int .u8 x1] h (strings_IndexByte.post W h m r) := by
 unfold strings_IndexByte at e
 exact (ibyte_run Tryd.strings_IndexByte O e).mono fun v h' hp => hp
def roadref2_run.post (W : Nat → Prop) (h0 m0 : Heap) (r : Int) (v : Value) (h : Heap) : Prop := ∃ m , Hold W h0 m0 h m [] ∧ v = .int .i64 r
inductive roadref2_run.l0_k.Pt where
 | l0 (s_0 : ByteArray) (s_1 : ByteArray) (x_5 : Int)
 | j0 (s_0 : ByteArray) (s_1 : ByteArray) (x_5 : Int)
noncomputable def roadref2_run.l0_k.body (go : (p : roadref2_run.l0_k.Pt) → Option (Int)) : (p : roadref2_run.l0_k.Pt) → Option (Int)
 | .l0 s_0 s_1 x_5 => if x_5 < ((ByteArray.size s_0 : Nat) : Int) then (Option.bind (gb s_0 x_5) fun y1 => Option.bind (strings_IndexByte s_1 y1) fun y7 => if y7 ≥ (0 : Int) then ((go (.j0 s_0 s_1 x_5))) else (some (x_5))) else (some (x_5))
 | .j0 s_0 s_1 x_5 => (go (.l0 s_0 s_1 (IntKind.wrap .i64 (x_5 + (1 : Int)))))
theorem roadref2_run.l0_k.mono : MonoF (β := fun _ => (Int)) roadref2_run.l0_k.body := fun f g hfg p => match p with
 | .l0 s_0 s_1 x_5 => LeO.ite (LeO.bind (LeO.refl _) fun y1 => LeO.bind (LeO.refl _) fun y7 => LeO.ite ((hfg _)) (LeO.refl _)) (LeO.refl _)
 | .j0 s_0 s_1 x_5 => (hfg _)
noncomputable def roadref2_run.l0_k.go (p : roadref2_run.l0_k.Pt) : Option (Int) := fixF (β := fun _ => (Int)) roadref2_run.l0_k.body p
noncomputable def roadref2_run.l0 (s_0 s_1 x_5) := roadref2_run.l0_k.go (.l0 s_0 s_1 x_5)
noncomputable def roadref2_run.j0 (s_0 s_1 x_5) := roadref2_run.l0_k.go (.j0 s_0 s_1 x_5)
theorem roadref2_run.l0_eq (s_0 s_1 x_5) : roadref2_run.l0 s_0 s_1 x_5 = if x_5 < ((ByteArray.size s_0 : Nat) : Int) then (Option.bind (gb s_0 x_5) fun y1 => Option.bind (strings_IndexByte s_1 y1) fun y7 => if y7 ≥ (0 : Int) then ((roadref2_run.j0 s_0 s_1 x_5)) else (some (x_5))) else (some (x_5)) := fixF_eq roadref2_run.l0_k.mono _
theorem roadref2_run.j0_eq (s_0 s_1 x_5) : roadref2_run.j0 s_0 s_1 x_5 = (roadref2_run.l0 s_0 s_1 (IntKind.wrap .i64 (x_5 + (1 : Int)))) := fixF_eq roadref2_run.l0_k.mono _
def roadref2_run.l0_k.I : (p : roadref2_run.l0_k.Pt) → (Int) → Prop
 | .l0 s_0 s_1 x_5, r => ∀ {W h0 m0 h m} (O : Hold W h0 m0 h m []), f58.l0 (roadref2_run.post W h0 m0 r) s_0 s_1 x_5 h
 | .j0 s_0 s_1 x_5, r => ∀ {W h0 m0 h m} (O : Hold W h0 m0 h m []), f58.j0 (roadref2_run.post W h0 m0 r) s_0 s_1 x_5 h
theorem roadref2_run.l0_k.step_l0 (go : (p : roadref2_run.l0_k.Pt) → Option (Int)) (ih : ∀ p r, go p = some r → roadref2_run.l0_k.I p r) (s_0 s_1 x_5) (r) (e : roadref2_run.l0_k.body go (.l0 s_0 s_1 x_5) = some r) : roadref2_run.l0_k.I (.l0 s_0 s_1 x_5) r := by
 unfold roadref2_run.l0_k.body at e
 intro W h0 m0 h m O
 refine f58.l0_in ?_
 unfold f58.l0T
 refine split_dec_e e (fun c15 e => ?_) (fun c15 e => ?_)
 · obtain ⟨y1, g2, e⟩ := bind_e e
   obtain ⟨q3, b4, q5, q6⟩ := gb_e g2
   refine ⟨q3, _, q5, ?_⟩
   try rw [← q6]
   obtain ⟨y7, g8, e⟩ := bind_e e
   refine (strings_IndexByte.walk (Hold.start (W := No) O.s)  g8).mono ?_
   rintro _ h9 ⟨m10, Q11, rfl⟩
   have O13 := Hold.nm (O.retC Q11 vfs_nil)
   refine ⟨_, rfl, ?_⟩
   refine split_dec_e e (fun c14 e => ?_) (fun c14 e => ?_)
   · exact (ih _ _ e) (O13.pick []).nm 
   · cases e
     exact ⟨_, O13.pick [], rfl⟩
 · cases e
   exact ⟨_, O.pick [], rfl⟩
theorem roadref2_run.l0_k.step_j0 (go : (p : roadref2_run.l0_k.Pt) → Option (Int)) (ih : ∀ p r, go p = some r → roadref2_run.l0_k.I p r) (s_0 s_1 x_5) (r) (e : roadref2_run.l0_k.body go (.j0 s_0 s_1 x_5) = some r) : roadref2_run.l0_k.I (.j0 s_0 s_1 x_5) r := by
 unfold roadref2_run.l0_k.body at e
 intro W h0 m0 h m O
 refine f58.j0_in ?_
 unfold f58.j0T
 exact (ih _ _ e) (O.pick []).nm 
theorem roadref2_run.l0_k.all {p : roadref2_run.l0_k.Pt} {r : (Int)} (e : roadref2_run.l0_k.go p = some r) : roadref2_run.l0_k.I p r := fixF_ind (β := fun _ => (Int)) roadref2_run.l0_k.mono (I := roadref2_run.l0_k.I) (fun go ih p r e => match p with
 | .l0 s_0 s_1 x_5 => roadref2_run.l0_k.step_l0 go ih s_0 s_1 x_5 r e
 | .j0 s_0 s_1 x_5 => roadref2_run.l0_k.step_j0 go ih s_0 s_1 x_5 r e
 ) e
noncomputable def roadref2_run (s_0 : ByteArray) (s_1 : ByteArray) : Option (Int) :=
 (roadref2_run.l0 s_0 s_1 (0 : Int))
theorem roadref2_run.walk {W h m s_0 s_1} (O : Hold W h m h m []) {r} (e : roadref2_run s_0 s_1 = some r) : Run Tryd.prog 58 #[Value.string s_0, Value.string s_1] h (roadref2_run.post W h m r) := by
 unfold roadref2_run at e
 refine f58.run ?_
 unfold f58.runT
 exact (roadref2_run.l0_k.all e) (O.pick []).nm 
def slices_Index_53.post (W : Nat → Prop) (h0 m0 : Heap) (r : Int) (v : Value) (h : Heap) : Prop := ∃ m , Hold W h0 m0 h m [] ∧ v = .int .i64 r
inductive slices_Index_53.l0_k.Pt where
 | l0 (a_0 : List ByteArray) (s_1 : ByteArray) (x_7 : Int) (x_8 : Int)
noncomputable def slices_Index_53.l0_k.body (go : (p : slices_Index_53.l0_k.Pt) → Option (Int)) : (p : slices_Index_53.l0_k.Pt) → Option (Int)
 | .l0 a_0 s_1 x_7 x_8 => if x_8 < x_7 then (Option.bind (gi a_0 x_8) fun y1 => if s_1 = y1 then (some (x_8)) else ((go (.l0 a_0 s_1 x_7 (IntKind.wrap .i64 (x_8 + (1 : Int))))))) else (some ((-1 : Int)))
theorem slices_Index_53.l0_k.mono : MonoF (β := fun _ => (Int)) slices_Index_53.l0_k.body := fun f g hfg p => match p with
 | .l0 a_0 s_1 x_7 x_8 => LeO.ite (LeO.bind (LeO.refl _) fun y1 => LeO.ite (LeO.refl _) ((hfg _))) (LeO.refl _)
noncomputable def slices_Index_53.l0_k.go (p : slices_Index_53.l0_k.Pt) : Option (Int) := fixF (β := fun _ => (Int)) slices_Index_53.l0_k.body p
noncomputable def slices_Index_53.l0 (a_0 s_1 x_7 x_8) := slices_Index_53.l0_k.go (.l0 a_0 s_1 x_7 x_8)
theorem slices_Index_53.l0_eq (a_0 s_1 x_7 x_8) : slices_Index_53.l0 a_0 s_1 x_7 x_8 = if x_8 < x_7 then (Option.bind (gi a_0 x_8) fun y1 => if s_1 = y1 then (some (x_8)) else ((slices_Index_53.l0 a_0 s_1 x_7 (IntKind.wrap .i64 (x_8 + (1 : Int)))))) else (some ((-1 : Int))) := fixF_eq slices_Index_53.l0_k.mono _
def slices_Index_53.l0_k.I : (p : slices_Index_53.l0_k.Pt) → (Int) → Prop
 | .l0 a_0 s_1 x_7 x_8, r => ∀ {W h0 m0 h m A_0 n_0 c_0} (O : Hold W h0 m0 h m []) (ne_0 : n_0 = List.length a_0) (k_0 : List.length a_0 ≤ c_0) (r_0 : Rd 1 eStr m A_0 a_0), f53.l0 (slices_Index_53.post W h0 m0 r) A_0 n_0 c_0 s_1 x_7 x_8 h
theorem slices_Index_53.l0_k.step_l0 (go : (p : slices_Index_53.l0_k.Pt) → Option (Int)) (ih : ∀ p r, go p = some r → slices_Index_53.l0_k.I p r) (a_0 s_1 x_7 x_8) (r) (e : slices_Index_53.l0_k.body go (.l0 a_0 s_1 x_7 x_8) = some r) : slices_Index_53.l0_k.I (.l0 a_0 s_1 x_7 x_8) r := by
 unfold slices_Index_53.l0_k.body at e
 intro W h0 m0 h m A_0 n_0 c_0 O ne_0 k_0 r_0
 subst ne_0
 refine f53.l0_in ?_
 unfold f53.l0T
 refine split_dec_e e (fun c9 e => ?_) (fun c9 e => ?_)
 · obtain ⟨y1, g2, e⟩ := bind_e e
   refine r_0.addr rfl g2 fun a3 cs4 ha5 hc6 he7 => ?_
   obtain rfl : cs4 = [(Value.string y1)] := he7
   refine ⟨_, ld0 O.s hc6 rfl, _, rfl, ?_⟩
   try rw [ba_list s_1 y1]
   refine split_dec_e e (fun c8 e => ?_) (fun c8 e => ?_)
   · cases e
     exact ⟨_, O.pick [], rfl⟩
   · exact (ih _ _ e) (O.pick []).nm rfl k_0 r_0
 · cases e
   exact ⟨_, O.pick [], rfl⟩
theorem slices_Index_53.l0_k.all {p : slices_Index_53.l0_k.Pt} {r : (Int)} (e : slices_Index_53.l0_k.go p = some r) : slices_Index_53.l0_k.I p r := fixF_ind (β := fun _ => (Int)) slices_Index_53.l0_k.mono (I := slices_Index_53.l0_k.I) (fun go ih p r e => match p with
 | .l0 a_0 s_1 x_7 x_8 => slices_Index_53.l0_k.step_l0 go ih a_0 s_1 x_7 x_8 r e
 ) e
noncomputable def slices_Index_53 (a_0 : List ByteArray) (s_1 : ByteArray) : Option (Int) :=
 (slices_Index_53.l0 a_0 s_1 (((List.length a_0) : Nat) : Int) (0 : Int))
theorem slices_Index_53.walk {W h m A_0 n_0 c_0 a_0 s_1} (O : Hold W h m h m []) (ne_0 : n_0 = List.length a_0) (k_0 : List.length a_0 ≤ c_0) (r_0 : Rd 1 eStr m A_0 a_0) {r} (e : slices_Index_53 a_0 s_1 = some r) : Run Tryd.prog 53 #[Value.slice A_0 n_0 c_0, Value.string s_1] h (slices_Index_53.post W h m r) := by
 unfold slices_Index_53 at e
 subst ne_0
 refine f53.run ?_
 unfold f53.runT
 exact (slices_Index_53.l0_k.all e) (O.pick []).nm rfl k_0 r_0
def slices_Contains_22.post (W : Nat → Prop) (h0 m0 : Heap) (r : Bool) (v : Value) (h : Heap) : Prop := ∃ m , Hold W h0 m0 h m [] ∧ v = .bool r
noncomputable def slices_Contains_22 (a_0 : List ByteArray) (s_1 : ByteArray) : Option (Bool) :=
 Option.bind (slices_Index_53 a_0 s_1) fun y1 => some ((decide (y1 ≥ (0 : Int))))
theorem slices_Contains_22.walk {W h m A_0 n_0 c_0 a_0 s_1} (O : Hold W h m h m []) (ne_0 : n_0 = List.length a_0) (k_0 : List.length a_0 ≤ c_0) (r_0 : Rd 1 eStr m A_0 a_0) {r} (e : slices_Contains_22 a_0 s_1 = some r) : Run Tryd.prog 22 #[Value.slice A_0 n_0 c_0, Value.string s_1] h (slices_Contains_22.post W h m r) := by
 unfold slices_Contains_22 at e
 subst ne_0
 refine f22.run ?_
 unfold f22.runT
 obtain ⟨y1, g2, e⟩ := bind_e e
 refine (slices_Index_53.walk (Hold.start (W := No) O.s) rfl k_0 r_0 g2).mono ?_
 rintro _ h3 ⟨m4, Q5, rfl⟩
 have O7 := Hold.nm (O.retC Q5 vfs_nil)
 refine ⟨_, rfl, ?_⟩
 cases e
 exact ⟨_, O7.pick [], rfl⟩
theorem slices_Contains_22.val {l : List ByteArray} (v : ByteArray) (hl : l.length ≤ 4611686018427387904) : slices_Contains_22 l v = some (l.any fun y => decide (v = y)) := contains_any (fun a p n i => slices_Index_53.l0_eq a p n i) (fun _ _ => rfl) (fun _ _ => rfl) v hl
def strings_Trim.post (W : Nat → Prop) (h0 m0 : Heap) (r : ByteArray) (v : Value) (h : Heap) : Prop := ∃ m , Hold W h0 m0 h m [] ∧ v = .string r
noncomputable def strings_Trim (x0 x1 : ByteArray) : Option ByteArray := if x0.size ≤ 9223372036854775807 ∧ x1.size < 4294967281 ∧ ascii x1 = true then some (trimB x0 x1) else none
theorem strings_Trim.walk {W : Nat → Prop} {h m : Heap} {x0 x1 : ByteArray} (O : Hold W h m h m []) {r : ByteArray} (e : strings_Trim x0 x1 = some r) : Run Tryd.prog 80 #[Value.string x0, Value.string x1] h (strings_Trim.post W h m r) := by
 unfold strings_Trim at e
 exact (trim_run Tryd.strings_Trim O e).mono fun v h' hp => hp
def roadref2_named.post (W : Nat → Prop) (h0 m0 : Heap) (r : Bool) (v : Value) (h : Heap) : Prop := ∃ m , Hold W h0 m0 h m [] ∧ v = .bool r
noncomputable def roadref2_named (s_0 : ByteArray) (s_1 : ByteArray) : Option (Bool) :=
 if s_0 = (ByteArray.mk #[]) then (some (false)) else (if ((ByteArray.size s_0 : Nat) : Int) < (17 : Int) then (Option.bind (gb s_0 (0 : Int)) fun y1 => Option.bind (strings_IndexByte s_1 y1) fun y7 => if y7 ≥ (0 : Int) then (Option.bind (strings_Trim s_0 (ByteArray.mk #[97, 98, 99, 100, 101, 102, 103, 104, 105, 106, 107, 108, 109, 110, 111, 112, 113, 114, 115, 116, 117, 118, 119, 120, 121, 122, 65, 66, 67, 68, 69, 70, 71, 72, 73, 74, 75, 76, 77, 78, 79, 80, 81, 82, 83, 84, 85, 86, 87, 88, 89, 90, 48, 49, 50, 51, 52, 53, 54, 55, 56, 57, 95])) fun y14 => some ((decide (y14 = (ByteArray.mk #[]))))) else (some (false))) else (some (false)))
theorem roadref2_named.walk {W h m s_0 s_1} (O : Hold W h m h m []) {r} (e : roadref2_named s_0 s_1 = some r) : Run Tryd.prog 56 #[Value.string s_0, Value.string s_1] h (roadref2_named.post W h m r) := by
 unfold roadref2_named at e
 refine f56.run ?_
 unfold f56.runT
 try rw [ba_list s_0 (ByteArray.mk #[])]
 refine split_not ?_
 refine split_dec_e e (fun c23 e => ?_) (fun c23 e => ?_)
 · cases e
   exact ⟨_, O.pick [], rfl⟩
 · refine split_dec_e e (fun c22 e => ?_) (fun c22 e => ?_)
   · obtain ⟨y1, g2, e⟩ := bind_e e
     obtain ⟨q3, b4, q5, q6⟩ := gb_e g2
     refine ⟨q3, _, q5, ?_⟩
     try rw [← q6]
     obtain ⟨y7, g8, e⟩ := bind_e e
     refine (strings_IndexByte.walk (Hold.start (W := No) O.s)  g8).mono ?_
     rintro _ h9 ⟨m10, Q11, rfl⟩
     have O13 := Hold.nm (O.retC Q11 vfs_nil)
     refine ⟨_, rfl, ?_⟩
     refine split_dec_e e (fun c21 e => ?_) (fun c21 e => ?_)
     · obtain ⟨y14, g15, e⟩ := bind_e e
       refine (strings_Trim.walk (Hold.start (W := No) O13.s)  g15).mono ?_
       rintro _ h16 ⟨m17, Q18, rfl⟩
       have O20 := Hold.nm (O13.retC Q18 vfs_nil)
       refine ⟨_, rfl, ?_⟩
       try rw [ba_list y14 (ByteArray.mk #[])]
       cases e
       exact ⟨_, O20.pick [], rfl⟩
     · cases e
       exact ⟨_, O13.pick [], rfl⟩
   · cases e
     exact ⟨_, O.pick [], rfl⟩
def roadref2_Small.post (W : Nat → Prop) (h0 m0 : Heap) (r : Bool) (v : Value) (h : Heap) : Prop := ∃ m , Hold W h0 m0 h m [] ∧ v = .bool r
noncomputable def roadref2_Small (s_0 : ByteArray) : Option (Bool) :=
 if 0 ≤ (0 : Int) ∧ (0 : Int) ≤ (26 : Int) ∧ (26 : Int) ≤ ((ByteArray.size (ByteArray.mk #[97, 98, 99, 100, 101, 102, 103, 104, 105, 106, 107, 108, 109, 110, 111, 112, 113, 114, 115, 116, 117, 118, 119, 120, 121, 122, 65, 66, 67, 68, 69, 70, 71, 72, 73, 74, 75, 76, 77, 78, 79, 80, 81, 82, 83, 84, 85, 86, 87, 88, 89, 90, 48, 49, 50, 51, 52, 53, 54, 55, 56, 57, 95]) : Nat) : Int) then (Option.bind (roadref2_named s_0 (ByteArray.extract (ByteArray.mk #[97, 98, 99, 100, 101, 102, 103, 104, 105, 106, 107, 108, 109, 110, 111, 112, 113, 114, 115, 116, 117, 118, 119, 120, 121, 122, 65, 66, 67, 68, 69, 70, 71, 72, 73, 74, 75, 76, 77, 78, 79, 80, 81, 82, 83, 84, 85, 86, 87, 88, 89, 90, 48, 49, 50, 51, 52, 53, 54, 55, 56, 57, 95]) (Int.toNat (0 : Int)) (Int.toNat (26 : Int)))) fun y2 => if y2 = true then (Option.bind (roadref2_WordList ) fun y9 => Option.bind (slices_Contains_22 y9 s_0) fun y21 => some ((!y21))) else (some (false))) else none
theorem roadref2_Small.walk {W h m s_0} (O : Hold W h m h m []) (tab : TB m) {r} (e : roadref2_Small s_0 = some r) : Run Tryd.prog 25 #[Value.string s_0] h (roadref2_Small.post W h m r) := by
 unfold roadref2_Small at e
 refine f25.run ?_
 unfold f25.runT
 obtain ⟨g1, e⟩ := guard_e e
 refine ⟨g1.1, g1.2.1, g1.2.2, ?_⟩
 obtain ⟨y2, g3, e⟩ := bind_e e
 refine (roadref2_named.walk (Hold.start (W := No) O.s)  g3).mono ?_
 rintro _ h4 ⟨m5, Q6, rfl⟩
 have O8 := Hold.nm (O.retC Q6 vfs_nil)
 refine ⟨_, rfl, ?_⟩
 refine split_any_e e (fun c35 e => ?_) (fun c35 e => ?_)
 · obtain ⟨y9, g10, e⟩ := bind_e e
   refine (roadref2_WordList.walk (Hold.start (W := No) O8.s) tab g10).mono ?_
   rintro _ h11 ⟨m12, A15, n16, c17, Q13, rfl, ne18⟩
   have O20 := Hold.nm (O8.retC Q13 (vfs_cons (rR_vf (aE_vf (fun _ _ _ _ h => h))) vfs_nil))
   subst ne18
   refine ⟨_, _, _, rfl, ?_⟩
   obtain ⟨y21, g22, e⟩ := bind_e e
   obtain ⟨m27, u28, s33, ⟨⟨r31, k32⟩, _⟩, B29, C30⟩ := O20.lend0 [0]
   replace r31 : Rd 1 eStr m27 A15 y9 := r31
   replace k32 : List.length y9 ≤ c17 := k32
   refine (slices_Contains_22.walk (Hold.start (W := No) s33) rfl k32 r31 g22).mono ?_
   rintro _ h23 ⟨m24, Q25, rfl⟩
   have O34 := Hold.nm (C30 Q25 vfs_nil)
   refine ⟨_, rfl, ?_⟩
   cases e
   exact ⟨_, O34.pick [], rfl⟩
 · cases e
   exact ⟨_, O8.pick [], rfl⟩
def roadref2_Great.post (W : Nat → Prop) (h0 m0 : Heap) (r : Bool) (v : Value) (h : Heap) : Prop := ∃ m , Hold W h0 m0 h m [] ∧ v = .bool r
noncomputable def roadref2_Great (s_0 : ByteArray) : Option (Bool) :=
 if 0 ≤ (26 : Int) ∧ (26 : Int) ≤ (52 : Int) ∧ (52 : Int) ≤ ((ByteArray.size (ByteArray.mk #[97, 98, 99, 100, 101, 102, 103, 104, 105, 106, 107, 108, 109, 110, 111, 112, 113, 114, 115, 116, 117, 118, 119, 120, 121, 122, 65, 66, 67, 68, 69, 70, 71, 72, 73, 74, 75, 76, 77, 78, 79, 80, 81, 82, 83, 84, 85, 86, 87, 88, 89, 90, 48, 49, 50, 51, 52, 53, 54, 55, 56, 57, 95]) : Nat) : Int) then (Option.bind (roadref2_named s_0 (ByteArray.extract (ByteArray.mk #[97, 98, 99, 100, 101, 102, 103, 104, 105, 106, 107, 108, 109, 110, 111, 112, 113, 114, 115, 116, 117, 118, 119, 120, 121, 122, 65, 66, 67, 68, 69, 70, 71, 72, 73, 74, 75, 76, 77, 78, 79, 80, 81, 82, 83, 84, 85, 86, 87, 88, 89, 90, 48, 49, 50, 51, 52, 53, 54, 55, 56, 57, 95]) (Int.toNat (26 : Int)) (Int.toNat (52 : Int)))) fun y2 => some (y2)) else none
theorem roadref2_Great.walk {W h m s_0} (O : Hold W h m h m []) {r} (e : roadref2_Great s_0 = some r) : Run Tryd.prog 27 #[Value.string s_0] h (roadref2_Great.post W h m r) := by
 unfold roadref2_Great at e
 refine f27.run ?_
 unfold f27.runT
 obtain ⟨g1, e⟩ := guard_e e
 refine ⟨g1.1, g1.2.1, g1.2.2, ?_⟩
 obtain ⟨y2, g3, e⟩ := bind_e e
 refine (roadref2_named.walk (Hold.start (W := No) O.s)  g3).mono ?_
 rintro _ h4 ⟨m5, Q6, rfl⟩
 have O8 := Hold.nm (O.retC Q6 vfs_nil)
 refine ⟨_, rfl, ?_⟩
 cases e
 exact ⟨_, O8.pick [], rfl⟩
def internal_stringslite_HasPrefix.post (W : Nat → Prop) (h0 m0 : Heap) (r : Bool) (v : Value) (h : Heap) : Prop := ∃ m , Hold W h0 m0 h m [] ∧ v = .bool r
noncomputable def internal_stringslite_HasPrefix (s_0 : ByteArray) (s_1 : ByteArray) : Option (Bool) :=
 if ((ByteArray.size s_0 : Nat) : Int) ≥ ((ByteArray.size s_1 : Nat) : Int) then (if 0 ≤ (0 : Int) ∧ (0 : Int) ≤ ((ByteArray.size s_1 : Nat) : Int) ∧ ((ByteArray.size s_1 : Nat) : Int) ≤ ((ByteArray.size s_0 : Nat) : Int) then (some ((decide ((ByteArray.extract s_0 (Int.toNat (0 : Int)) (Int.toNat ((ByteArray.size s_1 : Nat) : Int))) = s_1)))) else none) else (some (false))
theorem internal_stringslite_HasPrefix.walk {W h m s_0 s_1} (O : Hold W h m h m []) {r} (e : internal_stringslite_HasPrefix s_0 s_1 = some r) : Run Tryd.prog 100 #[Value.string s_0, Value.string s_1] h (internal_stringslite_HasPrefix.post W h m r) := by
 unfold internal_stringslite_HasPrefix at e
 refine f100.run ?_
 unfold f100.runT
 refine split_dec_e e (fun c2 e => ?_) (fun c2 e => ?_)
 · obtain ⟨g1, e⟩ := guard_e e
   refine ⟨g1.1, g1.2.1, g1.2.2, ?_⟩
   try rw [ba_list (ByteArray.extract s_0 (Int.toNat (0 : Int)) (Int.toNat ((ByteArray.size s_1 : Nat) : Int))) s_1]
   cases e
   exact ⟨_, O.pick [], rfl⟩
 · cases e
   exact ⟨_, O.pick [], rfl⟩
def strings_HasPrefix.post (W : Nat → Prop) (h0 m0 : Heap) (r : Bool) (v : Value) (h : Heap) : Prop := ∃ m , Hold W h0 m0 h m [] ∧ v = .bool r
noncomputable def strings_HasPrefix (s_0 : ByteArray) (s_1 : ByteArray) : Option (Bool) :=
 Option.bind (internal_stringslite_HasPrefix s_0 s_1) fun y1 => some (y1)
theorem strings_HasPrefix.walk {W h m s_0 s_1} (O : Hold W h m h m []) {r} (e : strings_HasPrefix s_0 s_1 = some r) : Run Tryd.prog 83 #[Value.string s_0, Value.string s_1] h (strings_HasPrefix.post W h m r) := by
 unfold strings_HasPrefix at e
 refine f83.run ?_
 unfold f83.runT
 obtain ⟨y1, g2, e⟩ := bind_e e
 refine (internal_stringslite_HasPrefix.walk (Hold.start (W := No) O.s)  g2).mono ?_
 rintro _ h3 ⟨m4, Q5, rfl⟩
 have O7 := Hold.nm (O.retC Q5 vfs_nil)
 refine ⟨_, rfl, ?_⟩
 cases e
 exact ⟨_, O7.pick [], rfl⟩
def internal_strconv_lower.post (W : Nat → Prop) (h0 m0 : Heap) (r : Int) (v : Value) (h : Heap) : Prop := ∃ m , Hold W h0 m0 h m [] ∧ v = .int .u8 r
noncomputable def internal_strconv_lower (x_0 : Int) : Option (Int) :=
 some ((bitsI .or .u8 x_0 (32 : Int)))
theorem internal_strconv_lower.walk {W h m x_0} (O : Hold W h m h m []) {r} (e : internal_strconv_lower x_0 = some r) : Run Tryd.prog 140 #[Value.int .u8 x_0] h (internal_strconv_lower.post W h m r) := by
 unfold internal_strconv_lower at e
 refine f140.run ?_
 unfold f140.runT
 cases e
 exact ⟨_, O.pick [], rfl⟩
def internal_strconv_underscoreOK.post (W : Nat → Prop) (h0 m0 : Heap) (r : Bool) (v : Value) (h : Heap) : Prop := ∃ m , Hold W h0 m0 h m [] ∧ v = .bool r
inductive internal_strconv_underscoreOK.l0_k.Pt where
 | l0 (s_0 : ByteArray) (x_3 : Int) (x_4 : Int) (b_5 : Bool)
 | j5 (s_0 : ByteArray) (x_3 : Int) (x_4 : Int) (b_5 : Bool)
 | j4 (s_0 : ByteArray) (x_3 : Int) (x_4 : Int) (b_5 : Bool)
noncomputable def internal_strconv_underscoreOK.l0_k.body (go : (p : internal_strconv_underscoreOK.l0_k.Pt) → Option (Bool)) : (p : internal_strconv_underscoreOK.l0_k.Pt) → Option (Bool)
 | .l0 s_0 x_3 x_4 b_5 => if x_4 < ((ByteArray.size s_0 : Nat) : Int) then (Option.bind (gb s_0 x_4) fun y1 => if (48 : Int) ≤ y1 then (Option.bind (gb s_0 x_4) fun y7 => if y7 ≤ (57 : Int) then ((go (.j4 s_0 (48 : Int) x_4 b_5))) else (if b_5 = true then (Option.bind (gb s_0 x_4) fun y13 => Option.bind (internal_strconv_lower y13) fun y19 => if (97 : Int) ≤ y19 then (Option.bind (gb s_0 x_4) fun y26 => Option.bind (internal_strconv_lower y26) fun y32 => if y32 ≤ (102 : Int) then ((go (.j4 s_0 (48 : Int) x_4 b_5))) else ((go (.j5 s_0 x_3 x_4 b_5)))) else ((go (.j5 s_0 x_3 x_4 b_5)))) else ((go (.j5 s_0 x_3 x_4 b_5))))) else (if b_5 = true then (Option.bind (gb s_0 x_4) fun y43 => Option.bind (internal_strconv_lower y43) fun y49 => if (97 : Int) ≤ y49 then (Option.bind (gb s_0 x_4) fun y56 => Option.bind (internal_strconv_lower y56) fun y62 => if y62 ≤ (102 : Int) then ((go (.j4 s_0 (48 : Int) x_4 b_5))) else ((go (.j5 s_0 x_3 x_4 b_5)))) else ((go (.j5 s_0 x_3 x_4 b_5)))) else ((go (.j5 s_0 x_3 x_4 b_5))))) else (some ((x_3 != (95 : Int))))
 | .j5 s_0 x_3 x_4 b_5 => Option.bind (gb s_0 x_4) fun y1 => if y1 = (95 : Int) then (if x_3 = (48 : Int) then ((go (.j4 s_0 (95 : Int) x_4 b_5))) else (some (false))) else (if x_3 = (95 : Int) then (some (false)) else ((go (.j4 s_0 (33 : Int) x_4 b_5))))
 | .j4 s_0 x_3 x_4 b_5 => (go (.l0 s_0 x_3 (IntKind.wrap .i64 (x_4 + (1 : Int))) b_5))
attribute [local irreducible] internal_strconv_lower in
theorem internal_strconv_underscoreOK.l0_k.mono : MonoF (β := fun _ => (Bool)) internal_strconv_underscoreOK.l0_k.body := fun f g hfg p => match p with
 | .l0 s_0 x_3 x_4 b_5 => LeO.ite (LeO.bind (LeO.refl _) fun y1 => LeO.ite (LeO.bind (LeO.refl _) fun y7 => LeO.ite ((hfg _)) (LeO.ite (LeO.bind (LeO.refl _) fun y13 => LeO.bind (LeO.refl _) fun y19 => LeO.ite (LeO.bind (LeO.refl _) fun y26 => LeO.bind (LeO.refl _) fun y32 => LeO.ite ((hfg _)) ((hfg _))) ((hfg _))) ((hfg _)))) (LeO.ite (LeO.bind (LeO.refl _) fun y43 => LeO.bind (LeO.refl _) fun y49 => LeO.ite (LeO.bind (LeO.refl _) fun y56 => LeO.bind (LeO.refl _) fun y62 => LeO.ite ((hfg _)) ((hfg _))) ((hfg _))) ((hfg _)))) (LeO.refl _)
 | .j5 s_0 x_3 x_4 b_5 => LeO.bind (LeO.refl _) fun y1 => LeO.ite (LeO.ite ((hfg _)) (LeO.refl _)) (LeO.ite (LeO.refl _) ((hfg _)))
 | .j4 s_0 x_3 x_4 b_5 => (hfg _)
noncomputable def internal_strconv_underscoreOK.l0_k.go (p : internal_strconv_underscoreOK.l0_k.Pt) : Option (Bool) := fixF (β := fun _ => (Bool)) internal_strconv_underscoreOK.l0_k.body p
noncomputable def internal_strconv_underscoreOK.l0 (s_0 x_3 x_4 b_5) := internal_strconv_underscoreOK.l0_k.go (.l0 s_0 x_3 x_4 b_5)
def internal_strconv_underscoreOK.l0_k.I : (p : internal_strconv_underscoreOK.l0_k.Pt) → (Bool) → Prop
 | .l0 s_0 x_3 x_4 b_5, r => ∀ {W h0 m0 h m} (O : Hold W h0 m0 h m []), f141.l0 (internal_strconv_underscoreOK.post W h0 m0 r) s_0 x_3 x_4 b_5 h
 | .j5 s_0 x_3 x_4 b_5, r => ∀ {W h0 m0 h m} (O : Hold W h0 m0 h m []), f141.j5 (internal_strconv_underscoreOK.post W h0 m0 r) s_0 x_3 x_4 b_5 h
 | .j4 s_0 x_3 x_4 b_5, r => ∀ {W h0 m0 h m} (O : Hold W h0 m0 h m []), f141.j4 (internal_strconv_underscoreOK.post W h0 m0 r) s_0 x_3 x_4 b_5 h
set_option maxHeartbeats 4000000 in
theorem internal_strconv_underscoreOK.l0_k.step_l0 (go : (p : internal_strconv_underscoreOK.l0_k.Pt) → Option (Bool)) (ih : ∀ p r, go p = some r → internal_strconv_underscoreOK.l0_k.I p r) (s_0 x_3 x_4 b_5) (r) (e : internal_strconv_underscoreOK.l0_k.body go (.l0 s_0 x_3 x_4 b_5) = some r) : internal_strconv_underscoreOK.l0_k.I (.l0 s_0 x_3 x_4 b_5) r := by
 unfold internal_strconv_underscoreOK.l0_k.body at e
 intro W h0 m0 h m O
 refine f141.l0_in ?_
 unfold f141.l0T
 refine split_dec_e e (fun c73 e => ?_) (fun c73 e => ?_)
 · obtain ⟨y1, g2, e⟩ := bind_e e
   obtain ⟨q3, b4, q5, q6⟩ := gb_e g2
   refine ⟨q3, _, q5, ?_⟩
   try rw [← q6]
   refine split_dec_e e (fun c72 e => ?_) (fun c72 e => ?_)
   · obtain ⟨y7, g8, e⟩ := bind_e e
     obtain ⟨q9, b10, q11, q12⟩ := gb_e g8
     refine ⟨q9, _, q11, ?_⟩
     try rw [← q12]
     refine split_dec_e e (fun c42 e => ?_) (fun c42 e => ?_)
     · exact (ih _ _ e) (O.pick []).nm 
     · refine split_any_e e (fun c41 e => ?_) (fun c41 e => ?_)
       · obtain ⟨y13, g14, e⟩ := bind_e e
         obtain ⟨q15, b16, q17, q18⟩ := gb_e g14
         refine ⟨q15, _, q17, ?_⟩
         try rw [← q18]
         obtain ⟨y19, g20, e⟩ := bind_e e
         refine (internal_strconv_lower.walk (Hold.start (W := No) O.s)  g20).mono ?_
         rintro _ h21 ⟨m22, Q23, rfl⟩
         have O25 := Hold.nm (O.retC Q23 vfs_nil)
         refine ⟨_, rfl, ?_⟩
         refine split_dec_e e (fun c40 e => ?_) (fun c40 e => ?_)
         · obtain ⟨y26, g27, e⟩ := bind_e e
           obtain ⟨q28, b29, q30, q31⟩ := gb_e g27
           refine ⟨q28, _, q30, ?_⟩
           try rw [← q31]
           obtain ⟨y32, g33, e⟩ := bind_e e
           refine (internal_strconv_lower.walk (Hold.start (W := No) O25.s)  g33).mono ?_
           rintro _ h34 ⟨m35, Q36, rfl⟩
           have O38 := Hold.nm (O25.retC Q36 vfs_nil)
           refine ⟨_, rfl, ?_⟩
           refine split_dec_e e (fun c39 e => ?_) (fun c39 e => ?_)
           · exact (ih _ _ e) (O38.pick []).nm 
           · exact (ih _ _ e) (O38.pick []).nm 
         · exact (ih _ _ e) (O25.pick []).nm 
       · exact (ih _ _ e) (O.pick []).nm 
   · refine split_any_e e (fun c71 e => ?_) (fun c71 e => ?_)
     · obtain ⟨y43, g44, e⟩ := bind_e e
       obtain ⟨q45, b46, q47, q48⟩ := gb_e g44
       refine ⟨q45, _, q47, ?_⟩
       try rw [← q48]
       obtain ⟨y49, g50, e⟩ := bind_e e
       refine (internal_strconv_lower.walk (Hold.start (W := No) O.s)  g50).mono ?_
       rintro _ h51 ⟨m52, Q53, rfl⟩
       have O55 := Hold.nm (O.retC Q53 vfs_nil)
       refine ⟨_, rfl, ?_⟩
       refine split_dec_e e (fun c70 e => ?_) (fun c70 e => ?_)
       · obtain ⟨y56, g57, e⟩ := bind_e e
         obtain ⟨q58, b59, q60, q61⟩ := gb_e g57
         refine ⟨q58, _, q60, ?_⟩
         try rw [← q61]
         obtain ⟨y62, g63, e⟩ := bind_e e
         refine (internal_strconv_lower.walk (Hold.start (W := No) O55.s)  g63).mono ?_
         rintro _ h64 ⟨m65, Q66, rfl⟩
         have O68 := Hold.nm (O55.retC Q66 vfs_nil)
         refine ⟨_, rfl, ?_⟩
         refine split_dec_e e (fun c69 e => ?_) (fun c69 e => ?_)
         · exact (ih _ _ e) (O68.pick []).nm 
         · exact (ih _ _ e) (O68.pick []).nm 
       · exact (ih _ _ e) (O55.pick []).nm 
     · exact (ih _ _ e) (O.pick []).nm 
 · cases e
   exact ⟨_, O.pick [], rfl⟩
theorem internal_strconv_underscoreOK.l0_k.step_j5 (go : (p : internal_strconv_underscoreOK.l0_k.Pt) → Option (Bool)) (ih : ∀ p r, go p = some r → internal_strconv_underscoreOK.l0_k.I p r) (s_0 x_3 x_4 b_5) (r) (e : internal_strconv_underscoreOK.l0_k.body go (.j5 s_0 x_3 x_4 b_5) = some r) : internal_strconv_underscoreOK.l0_k.I (.j5 s_0 x_3 x_4 b_5) r := by
 unfold internal_strconv_underscoreOK.l0_k.body at e
 intro W h0 m0 h m O
 refine f141.j5_in ?_
 unfold f141.j5T
 obtain ⟨y1, g2, e⟩ := bind_e e
 obtain ⟨q3, b4, q5, q6⟩ := gb_e g2
 refine ⟨q3, _, q5, ?_⟩
 try rw [← q6]
 refine split_eq_e e (fun c9 e => ?_) (fun c9 e => ?_)
 · refine split_ne_e e (fun c7 e => ?_) (fun c7 e => ?_)
   · cases e
     exact ⟨_, O.pick [], rfl⟩
   · exact (ih _ _ e) (O.pick []).nm 
 · refine split_eq_e e (fun c8 e => ?_) (fun c8 e => ?_)
   · cases e
     exact ⟨_, O.pick [], rfl⟩
   · exact (ih _ _ e) (O.pick []).nm 
theorem internal_strconv_underscoreOK.l0_k.step_j4 (go : (p : internal_strconv_underscoreOK.l0_k.Pt) → Option (Bool)) (ih : ∀ p r, go p = some r → internal_strconv_underscoreOK.l0_k.I p r) (s_0 x_3 x_4 b_5) (r) (e : internal_strconv_underscoreOK.l0_k.body go (.j4 s_0 x_3 x_4 b_5) = some r) : internal_strconv_underscoreOK.l0_k.I (.j4 s_0 x_3 x_4 b_5) r := by
 unfold internal_strconv_underscoreOK.l0_k.body at e
 intro W h0 m0 h m O
 refine f141.j4_in ?_
 unfold f141.j4T
 exact (ih _ _ e) (O.pick []).nm 
theorem internal_strconv_underscoreOK.l0_k.all {p : internal_strconv_underscoreOK.l0_k.Pt} {r : (Bool)} (e : internal_strconv_underscoreOK.l0_k.go p = some r) : internal_strconv_underscoreOK.l0_k.I p r := fixF_ind (β := fun _ => (Bool)) internal_strconv_underscoreOK.l0_k.mono (I := internal_strconv_underscoreOK.l0_k.I) (fun go ih p r e => match p with
 | .l0 s_0 x_3 x_4 b_5 => internal_strconv_underscoreOK.l0_k.step_l0 go ih s_0 x_3 x_4 b_5 r e
 | .j5 s_0 x_3 x_4 b_5 => internal_strconv_underscoreOK.l0_k.step_j5 go ih s_0 x_3 x_4 b_5 r e
 | .j4 s_0 x_3 x_4 b_5 => internal_strconv_underscoreOK.l0_k.step_j4 go ih s_0 x_3 x_4 b_5 r e
 ) e
noncomputable def internal_strconv_underscoreOK.j2 (s_0 : ByteArray) (x_3 : Int) (x_4 : Int) (b_5 : Bool) : Option (Bool) :=
 (internal_strconv_underscoreOK.l0 s_0 x_3 x_4 b_5)
theorem internal_strconv_underscoreOK.j2.walk {W h0 m0 h m s_0 x_3 x_4 b_5} (O : Hold W h0 m0 h m []) {r} (e : internal_strconv_underscoreOK.j2 s_0 x_3 x_4 b_5 = some r) : f141.j2 (internal_strconv_underscoreOK.post W h0 m0 r) s_0 x_3 x_4 b_5 h := by
 unfold internal_strconv_underscoreOK.j2 at e
 refine f141.j2_in ?_
 unfold f141.j2T
 exact (internal_strconv_underscoreOK.l0_k.all e) (O.pick []).nm 
noncomputable def internal_strconv_underscoreOK.j3 (s_0 : ByteArray) (x_3 : Int) (x_4 : Int) (b_5 : Bool) (b_46 : Bool) : Option (Bool) :=
 if b_46 = true then (Option.bind (gb s_0 (1 : Int)) fun y1 => Option.bind (internal_strconv_lower y1) fun y7 => (internal_strconv_underscoreOK.j2 s_0 (48 : Int) (2 : Int) (y7 == (120 : Int)))) else ((internal_strconv_underscoreOK.j2 s_0 x_3 x_4 b_5))
theorem internal_strconv_underscoreOK.j3.walk {W h0 m0 h m s_0 x_3 x_4 b_5 b_46} (O : Hold W h0 m0 h m []) {r} (e : internal_strconv_underscoreOK.j3 s_0 x_3 x_4 b_5 b_46 = some r) : f141.j3 (internal_strconv_underscoreOK.post W h0 m0 r) s_0 x_3 x_4 b_5 b_46 h := by
 unfold internal_strconv_underscoreOK.j3 at e
 refine f141.j3_in ?_
 unfold f141.j3T
 refine split_any_e e (fun c14 e => ?_) (fun c14 e => ?_)
 · obtain ⟨y1, g2, e⟩ := bind_e e
   obtain ⟨q3, b4, q5, q6⟩ := gb_e g2
   refine ⟨q3, _, q5, ?_⟩
   try rw [← q6]
   obtain ⟨y7, g8, e⟩ := bind_e e
   refine (internal_strconv_lower.walk (Hold.start (W := No) O.s)  g8).mono ?_
   rintro _ h9 ⟨m10, Q11, rfl⟩
   have O13 := Hold.nm (O.retC Q11 vfs_nil)
   refine ⟨_, rfl, ?_⟩
   exact internal_strconv_underscoreOK.j2.walk (O13.pick []).nm  e
 · exact internal_strconv_underscoreOK.j2.walk (O.pick []).nm  e
noncomputable def internal_strconv_underscoreOK.j0 (s_0 : ByteArray) (x_3 : Int) (x_4 : Int) : Option (Bool) :=
 if ((ByteArray.size s_0 : Nat) : Int) ≥ (2 : Int) then (Option.bind (gb s_0 (0 : Int)) fun y1 => if y1 = (48 : Int) then (Option.bind (gb s_0 (1 : Int)) fun y7 => Option.bind (internal_strconv_lower y7) fun y13 => if y13 = (98 : Int) then ((internal_strconv_underscoreOK.j3 s_0 x_3 x_4 false true)) else (Option.bind (gb s_0 (1 : Int)) fun y20 => Option.bind (internal_strconv_lower y20) fun y26 => if y26 = (111 : Int) then ((internal_strconv_underscoreOK.j3 s_0 x_3 x_4 false true)) else (Option.bind (gb s_0 (1 : Int)) fun y33 => Option.bind (internal_strconv_lower y33) fun y39 => (internal_strconv_underscoreOK.j3 s_0 x_3 x_4 false (y39 == (120 : Int)))))) else ((internal_strconv_underscoreOK.j3 s_0 x_3 x_4 false false))) else ((internal_strconv_underscoreOK.j3 s_0 x_3 x_4 false false))
set_option maxHeartbeats 4000000 in
theorem internal_strconv_underscoreOK.j0.walk {W h0 m0 h m s_0 x_3 x_4} (O : Hold W h0 m0 h m []) {r} (e : internal_strconv_underscoreOK.j0 s_0 x_3 x_4 = some r) : f141.j0 (internal_strconv_underscoreOK.post W h0 m0 r) s_0 x_3 x_4 h := by
 unfold internal_strconv_underscoreOK.j0 at e
 refine f141.j0_in ?_
 unfold f141.j0T
 refine split_dec_e e (fun c49 e => ?_) (fun c49 e => ?_)
 · obtain ⟨y1, g2, e⟩ := bind_e e
   obtain ⟨q3, b4, q5, q6⟩ := gb_e g2
   refine ⟨q3, _, q5, ?_⟩
   try rw [← q6]
   refine split_eq_e e (fun c48 e => ?_) (fun c48 e => ?_)
   · obtain ⟨y7, g8, e⟩ := bind_e e
     obtain ⟨q9, b10, q11, q12⟩ := gb_e g8
     refine ⟨q9, _, q11, ?_⟩
     try rw [← q12]
     obtain ⟨y13, g14, e⟩ := bind_e e
     refine (internal_strconv_lower.walk (Hold.start (W := No) O.s)  g14).mono ?_
     rintro _ h15 ⟨m16, Q17, rfl⟩
     have O19 := Hold.nm (O.retC Q17 vfs_nil)
     refine ⟨_, rfl, ?_⟩
     refine split_eq_e e (fun c47 e => ?_) (fun c47 e => ?_)
     · exact internal_strconv_underscoreOK.j3.walk (O19.pick []).nm  e
     · obtain ⟨y20, g21, e⟩ := bind_e e
       obtain ⟨q22, b23, q24, q25⟩ := gb_e g21
       refine ⟨q22, _, q24, ?_⟩
       try rw [← q25]
       obtain ⟨y26, g27, e⟩ := bind_e e
       refine (internal_strconv_lower.walk (Hold.start (W := No) O19.s)  g27).mono ?_
       rintro _ h28 ⟨m29, Q30, rfl⟩
       have O32 := Hold.nm (O19.retC Q30 vfs_nil)
       refine ⟨_, rfl, ?_⟩
       refine split_eq_e e (fun c46 e => ?_) (fun c46 e => ?_)
       · exact internal_strconv_underscoreOK.j3.walk (O32.pick []).nm  e
       · obtain ⟨y33, g34, e⟩ := bind_e e
         obtain ⟨q35, b36, q37, q38⟩ := gb_e g34
         refine ⟨q35, _, q37, ?_⟩
         try rw [← q38]
         obtain ⟨y39, g40, e⟩ := bind_e e
         refine (internal_strconv_lower.walk (Hold.start (W := No) O32.s)  g40).mono ?_
         rintro _ h41 ⟨m42, Q43, rfl⟩
         have O45 := Hold.nm (O32.retC Q43 vfs_nil)
         refine ⟨_, rfl, ?_⟩
         exact internal_strconv_underscoreOK.j3.walk (O45.pick []).nm  e
   · exact internal_strconv_underscoreOK.j3.walk (O.pick []).nm  e
 · exact internal_strconv_underscoreOK.j3.walk (O.pick []).nm  e
noncomputable def internal_strconv_underscoreOK.j1 (s_0 : ByteArray) (x_3 : Int) (x_4 : Int) (b_18 : Bool) : Option (Bool) :=
 if b_18 = true then (if 0 ≤ (1 : Int) ∧ (1 : Int) ≤ ((ByteArray.size s_0 : Nat) : Int) ∧ ((ByteArray.size s_0 : Nat) : Int) ≤ ((ByteArray.size s_0 : Nat) : Int) then ((internal_strconv_underscoreOK.j0 (ByteArray.extract s_0 (Int.toNat (1 : Int)) (Int.toNat ((ByteArray.size s_0 : Nat) : Int))) x_3 x_4)) else none) else ((internal_strconv_underscoreOK.j0 s_0 x_3 x_4))
theorem internal_strconv_underscoreOK.j1.walk {W h0 m0 h m s_0 x_3 x_4 b_18} (O : Hold W h0 m0 h m []) {r} (e : internal_strconv_underscoreOK.j1 s_0 x_3 x_4 b_18 = some r) : f141.j1 (internal_strconv_underscoreOK.post W h0 m0 r) s_0 x_3 x_4 b_18 h := by
 unfold internal_strconv_underscoreOK.j1 at e
 refine f141.j1_in ?_
 unfold f141.j1T
 refine split_any_e e (fun c2 e => ?_) (fun c2 e => ?_)
 · obtain ⟨g1, e⟩ := guard_e e
   refine ⟨g1.1, g1.2.1, g1.2.2, ?_⟩
   exact internal_strconv_underscoreOK.j0.walk (O.pick []).nm  e
 · exact internal_strconv_underscoreOK.j0.walk (O.pick []).nm  e
noncomputable def internal_strconv_underscoreOK (s_0 : ByteArray) : Option (Bool) :=
 if ((ByteArray.size s_0 : Nat) : Int) ≥ (1 : Int) then (Option.bind (gb s_0 (0 : Int)) fun y1 => if y1 = (45 : Int) then ((internal_strconv_underscoreOK.j1 s_0 (94 : Int) (0 : Int) true)) else (Option.bind (gb s_0 (0 : Int)) fun y7 => (internal_strconv_underscoreOK.j1 s_0 (94 : Int) (0 : Int) (y7 == (43 : Int))))) else ((internal_strconv_underscoreOK.j1 s_0 (94 : Int) (0 : Int) false))
theorem internal_strconv_underscoreOK.walk {W h m s_0} (O : Hold W h m h m []) {r} (e : internal_strconv_underscoreOK s_0 = some r) : Run Tryd.prog 141 #[Value.string s_0] h (internal_strconv_underscoreOK.post W h m r) := by
 unfold internal_strconv_underscoreOK at e
 refine f141.run ?_
 unfold f141.runT
 refine split_dec_e e (fun c14 e => ?_) (fun c14 e => ?_)
 · obtain ⟨y1, g2, e⟩ := bind_e e
   obtain ⟨q3, b4, q5, q6⟩ := gb_e g2
   refine ⟨q3, _, q5, ?_⟩
   try rw [← q6]
   refine split_eq_e e (fun c13 e => ?_) (fun c13 e => ?_)
   · exact internal_strconv_underscoreOK.j1.walk (O.pick []).nm  e
   · obtain ⟨y7, g8, e⟩ := bind_e e
     obtain ⟨q9, b10, q11, q12⟩ := gb_e g8
     refine ⟨q9, _, q11, ?_⟩
     try rw [← q12]
     exact internal_strconv_underscoreOK.j1.walk (O.pick []).nm  e
 · exact internal_strconv_underscoreOK.j1.walk (O.pick []).nm  e
def internal_strconv_ParseUint.post (W : Nat → Prop) (h0 m0 : Heap) (r : Int × Unit) (v : Value) (h : Heap) : Prop := ∃ m , Hold W h0 m0 h m [] ∧ v = .tuple #[.int .u64 r.1, .nilIface]
noncomputable def internal_strconv_ParseUint.j5 (x_13 : Int) : Option (Int × Unit) :=
 some (x_13, ())
theorem internal_strconv_ParseUint.j5.walk {W h0 m0 h m x_13} (O : Hold W h0 m0 h m []) {r} (e : internal_strconv_ParseUint.j5 x_13 = some r) : f124.j5 (internal_strconv_ParseUint.post W h0 m0 r) x_13 h := by
 unfold internal_strconv_ParseUint.j5 at e
 refine f124.j5_in ?_
 unfold f124.j5T
 cases e
 exact ⟨_, O.pick [], rfl⟩
noncomputable def internal_strconv_ParseUint.j6 (x_13 : Int) (b_169 : Bool) : Option (Int × Unit) :=
 if b_169 = true then ((none : Option _)) else ((internal_strconv_ParseUint.j5 x_13))
theorem internal_strconv_ParseUint.j6.walk {W h0 m0 h m x_13 b_169} (O : Hold W h0 m0 h m []) {r} (e : internal_strconv_ParseUint.j6 x_13 b_169 = some r) : f124.j6 (internal_strconv_ParseUint.post W h0 m0 r) x_13 b_169 h := by
 unfold internal_strconv_ParseUint.j6 at e
 refine f124.j6_in ?_
 unfold f124.j6T
 refine split_any_e e (fun c1 e => ?_) (fun c1 e => ?_)
 · cases e
 · exact internal_strconv_ParseUint.j5.walk (O.pick []).nm  e
inductive internal_strconv_ParseUint.l0_k.Pt where
 | l0 (x_1 : Int) (b_8 : Bool) (s_9 : ByteArray) (x_10 : Int) (x_11 : Int) (b_12 : Bool) (x_13 : Int) (a_99 : List Int) (x_100 : Int) (x_101 : Int)
 | j11 (x_1 : Int) (b_8 : Bool) (s_9 : ByteArray) (x_10 : Int) (x_11 : Int) (b_12 : Bool) (x_13 : Int) (x_15 : Int) (a_99 : List Int) (x_100 : Int) (x_101 : Int) (b_106 : Bool)
 | j12 (x_1 : Int) (b_8 : Bool) (s_9 : ByteArray) (x_10 : Int) (x_11 : Int) (b_12 : Bool) (x_13 : Int) (x_15 : Int) (a_99 : List Int) (x_100 : Int) (x_101 : Int) (b_112 : Bool)
 | j13 (x_1 : Int) (b_8 : Bool) (s_9 : ByteArray) (x_10 : Int) (x_11 : Int) (b_12 : Bool) (x_13 : Int) (x_15 : Int) (a_99 : List Int) (x_100 : Int) (x_101 : Int) (b_121 : Bool)
 | j10 (x_1 : Int) (b_8 : Bool) (s_9 : ByteArray) (x_10 : Int) (x_11 : Int) (b_12 : Bool) (x_13 : Int) (x_16 : Int) (a_99 : List Int) (x_100 : Int) (x_101 : Int)
 | j14 (x_1 : Int) (b_8 : Bool) (s_9 : ByteArray) (x_10 : Int) (x_11 : Int) (b_12 : Bool) (x_17 : Int) (a_99 : List Int) (x_100 : Int) (x_101 : Int) (b_159 : Bool)
noncomputable def internal_strconv_ParseUint.l0_k.body (go : (p : internal_strconv_ParseUint.l0_k.Pt) → Option (Int × Unit)) : (p : internal_strconv_ParseUint.l0_k.Pt) → Option (Int × Unit)
 | .l0 x_1 b_8 s_9 x_10 x_11 b_12 x_13 a_99 x_100 x_101 => if x_101 < x_100 then (Option.bind (gi a_99 x_101) fun y1 => if y1 = (95 : Int) then ((go (.j11 x_1 b_8 s_9 x_10 x_11 b_12 x_13 y1 a_99 x_100 x_101 b_8))) else ((go (.j11 x_1 b_8 s_9 x_10 x_11 b_12 x_13 y1 a_99 x_100 x_101 false)))) else (if b_12 = true then (Option.bind (internal_strconv_underscoreOK s_9) fun y9 => (internal_strconv_ParseUint.j6 x_13 (!y9))) else ((internal_strconv_ParseUint.j6 x_13 false)))
 | .j11 x_1 b_8 s_9 x_10 x_11 b_12 x_13 x_15 a_99 x_100 x_101 b_106 => if b_106 = true then ((go (.l0 x_1 b_8 s_9 x_10 x_11 true x_13 a_99 x_100 (IntKind.wrap .i64 (x_101 + (1 : Int)))))) else (if (48 : Int) ≤ x_15 then ((go (.j12 x_1 b_8 s_9 x_10 x_11 b_12 x_13 x_15 a_99 x_100 x_101 (decide (x_15 ≤ (57 : Int)))))) else ((go (.j12 x_1 b_8 s_9 x_10 x_11 b_12 x_13 x_15 a_99 x_100 x_101 false))))
 | .j12 x_1 b_8 s_9 x_10 x_11 b_12 x_13 x_15 a_99 x_100 x_101 b_112 => if b_112 = true then ((go (.j10 x_1 b_8 s_9 x_10 x_11 b_12 x_13 (IntKind.wrap .u8 (x_15 - (48 : Int))) a_99 x_100 x_101))) else (Option.bind (internal_strconv_lower x_15) fun y1 => if (97 : Int) ≤ y1 then (Option.bind (internal_strconv_lower x_15) fun y8 => (go (.j13 x_1 b_8 s_9 x_10 x_11 b_12 x_13 x_15 a_99 x_100 x_101 (decide (y8 ≤ (122 : Int)))))) else ((go (.j13 x_1 b_8 s_9 x_10 x_11 b_12 x_13 x_15 a_99 x_100 x_101 false))))
 | .j13 x_1 b_8 s_9 x_10 x_11 b_12 x_13 x_15 a_99 x_100 x_101 b_121 => if b_121 = true then (Option.bind (internal_strconv_lower x_15) fun y1 => (go (.j10 x_1 b_8 s_9 x_10 x_11 b_12 x_13 (IntKind.wrap .u8 ((IntKind.wrap .u8 (y1 - (97 : Int))) + (10 : Int))) a_99 x_100 x_101))) else ((none : Option _))
 | .j10 x_1 b_8 s_9 x_10 x_11 b_12 x_13 x_16 a_99 x_100 x_101 => if x_16 ≥ (IntKind.wrap .u8 x_1) then ((none : Option _)) else (if x_13 ≥ x_10 then ((none : Option _)) else (if (IntKind.wrap .u64 ((IntKind.wrap .u64 (x_13 * (IntKind.wrap .u64 x_1))) + (IntKind.wrap .u64 x_16))) < (IntKind.wrap .u64 (x_13 * (IntKind.wrap .u64 x_1))) then ((go (.j14 x_1 b_8 s_9 x_10 x_11 b_12 (IntKind.wrap .u64 ((IntKind.wrap .u64 (x_13 * (IntKind.wrap .u64 x_1))) + (IntKind.wrap .u64 x_16))) a_99 x_100 x_101 true))) else ((go (.j14 x_1 b_8 s_9 x_10 x_11 b_12 (IntKind.wrap .u64 ((IntKind.wrap .u64 (x_13 * (IntKind.wrap .u64 x_1))) + (IntKind.wrap .u64 x_16))) a_99 x_100 x_101 (decide ((IntKind.wrap .u64 ((IntKind.wrap .u64 (x_13 * (IntKind.wrap .u64 x_1))) + (IntKind.wrap .u64 x_16))) > x_11)))))))
 | .j14 x_1 b_8 s_9 x_10 x_11 b_12 x_17 a_99 x_100 x_101 b_159 => if b_159 = true then ((none : Option _)) else ((go (.l0 x_1 b_8 s_9 x_10 x_11 b_12 x_17 a_99 x_100 (IntKind.wrap .i64 (x_101 + (1 : Int))))))
attribute [local irreducible] internal_strconv_lower in
theorem internal_strconv_ParseUint.l0_k.mono : MonoF (β := fun _ => (Int × Unit)) internal_strconv_ParseUint.l0_k.body := fun f g hfg p => match p with
 | .l0 x_1 b_8 s_9 x_10 x_11 b_12 x_13 a_99 x_100 x_101 => LeO.ite (LeO.bind (LeO.refl _) fun y1 => LeO.ite ((hfg _)) ((hfg _))) (LeO.ite (LeO.bind (LeO.refl _) fun y9 => (LeO.refl _)) ((LeO.refl _)))
 | .j11 x_1 b_8 s_9 x_10 x_11 b_12 x_13 x_15 a_99 x_100 x_101 b_106 => LeO.ite ((hfg _)) (LeO.ite ((hfg _)) ((hfg _)))
 | .j12 x_1 b_8 s_9 x_10 x_11 b_12 x_13 x_15 a_99 x_100 x_101 b_112 => LeO.ite ((hfg _)) (LeO.bind (LeO.refl _) fun y1 => LeO.ite (LeO.bind (LeO.refl _) fun y8 => (hfg _)) ((hfg _)))
 | .j13 x_1 b_8 s_9 x_10 x_11 b_12 x_13 x_15 a_99 x_100 x_101 b_121 => LeO.ite (LeO.bind (LeO.refl _) fun y1 => (hfg _)) (LeO.refl _)
 | .j10 x_1 b_8 s_9 x_10 x_11 b_12 x_13 x_16 a_99 x_100 x_101 => LeO.ite (LeO.refl _) (LeO.ite (LeO.refl _) (LeO.ite ((hfg _)) ((hfg _))))
 | .j14 x_1 b_8 s_9 x_10 x_11 b_12 x_17 a_99 x_100 x_101 b_159 => LeO.ite (LeO.refl _) ((hfg _))
noncomputable def internal_strconv_ParseUint.l0_k.go (p : internal_strconv_ParseUint.l0_k.Pt) : Option (Int × Unit) := fixF (β := fun _ => (Int × Unit)) internal_strconv_ParseUint.l0_k.body p
noncomputable def internal_strconv_ParseUint.l0 (x_1 b_8 s_9 x_10 x_11 b_12 x_13 a_99 x_100 x_101) := internal_strconv_ParseUint.l0_k.go (.l0 x_1 b_8 s_9 x_10 x_11 b_12 x_13 a_99 x_100 x_101)
noncomputable def internal_strconv_ParseUint.j11 (x_1 b_8 s_9 x_10 x_11 b_12 x_13 x_15 a_99 x_100 x_101 b_106) := internal_strconv_ParseUint.l0_k.go (.j11 x_1 b_8 s_9 x_10 x_11 b_12 x_13 x_15 a_99 x_100 x_101 b_106)
noncomputable def internal_strconv_ParseUint.j12 (x_1 b_8 s_9 x_10 x_11 b_12 x_13 x_15 a_99 x_100 x_101 b_112) := internal_strconv_ParseUint.l0_k.go (.j12 x_1 b_8 s_9 x_10 x_11 b_12 x_13 x_15 a_99 x_100 x_101 b_112)
noncomputable def internal_strconv_ParseUint.j13 (x_1 b_8 s_9 x_10 x_11 b_12 x_13 x_15 a_99 x_100 x_101 b_121) := internal_strconv_ParseUint.l0_k.go (.j13 x_1 b_8 s_9 x_10 x_11 b_12 x_13 x_15 a_99 x_100 x_101 b_121)
noncomputable def internal_strconv_ParseUint.j10 (x_1 b_8 s_9 x_10 x_11 b_12 x_13 x_16 a_99 x_100 x_101) := internal_strconv_ParseUint.l0_k.go (.j10 x_1 b_8 s_9 x_10 x_11 b_12 x_13 x_16 a_99 x_100 x_101)
noncomputable def internal_strconv_ParseUint.j14 (x_1 b_8 s_9 x_10 x_11 b_12 x_17 a_99 x_100 x_101 b_159) := internal_strconv_ParseUint.l0_k.go (.j14 x_1 b_8 s_9 x_10 x_11 b_12 x_17 a_99 x_100 x_101 b_159)
theorem internal_strconv_ParseUint.l0_eq (x_1 b_8 s_9 x_10 x_11 b_12 x_13 a_99 x_100 x_101) : internal_strconv_ParseUint.l0 x_1 b_8 s_9 x_10 x_11 b_12 x_13 a_99 x_100 x_101 = if x_101 < x_100 then (Option.bind (gi a_99 x_101) fun y1 => if y1 = (95 : Int) then ((internal_strconv_ParseUint.j11 x_1 b_8 s_9 x_10 x_11 b_12 x_13 y1 a_99 x_100 x_101 b_8)) else ((internal_strconv_ParseUint.j11 x_1 b_8 s_9 x_10 x_11 b_12 x_13 y1 a_99 x_100 x_101 false))) else (if b_12 = true then (Option.bind (internal_strconv_underscoreOK s_9) fun y9 => (internal_strconv_ParseUint.j6 x_13 (!y9))) else ((internal_strconv_ParseUint.j6 x_13 false))) := fixF_eq internal_strconv_ParseUint.l0_k.mono _
theorem internal_strconv_ParseUint.j11_eq (x_1 b_8 s_9 x_10 x_11 b_12 x_13 x_15 a_99 x_100 x_101 b_106) : internal_strconv_ParseUint.j11 x_1 b_8 s_9 x_10 x_11 b_12 x_13 x_15 a_99 x_100 x_101 b_106 = if b_106 = true then ((internal_strconv_ParseUint.l0 x_1 b_8 s_9 x_10 x_11 true x_13 a_99 x_100 (IntKind.wrap .i64 (x_101 + (1 : Int))))) else (if (48 : Int) ≤ x_15 then ((internal_strconv_ParseUint.j12 x_1 b_8 s_9 x_10 x_11 b_12 x_13 x_15 a_99 x_100 x_101 (decide (x_15 ≤ (57 : Int))))) else ((internal_strconv_ParseUint.j12 x_1 b_8 s_9 x_10 x_11 b_12 x_13 x_15 a_99 x_100 x_101 false))) := fixF_eq internal_strconv_ParseUint.l0_k.mono _
theorem internal_strconv_ParseUint.j12_eq (x_1 b_8 s_9 x_10 x_11 b_12 x_13 x_15 a_99 x_100 x_101 b_112) : internal_strconv_ParseUint.j12 x_1 b_8 s_9 x_10 x_11 b_12 x_13 x_15 a_99 x_100 x_101 b_112 = if b_112 = true then ((internal_strconv_ParseUint.j10 x_1 b_8 s_9 x_10 x_11 b_12 x_13 (IntKind.wrap .u8 (x_15 - (48 : Int))) a_99 x_100 x_101)) else (Option.bind (internal_strconv_lower x_15) fun y1 => if (97 : Int) ≤ y1 then (Option.bind (internal_strconv_lower x_15) fun y8 => (internal_strconv_ParseUint.j13 x_1 b_8 s_9 x_10 x_11 b_12 x_13 x_15 a_99 x_100 x_101 (decide (y8 ≤ (122 : Int))))) else ((internal_strconv_ParseUint.j13 x_1 b_8 s_9 x_10 x_11 b_12 x_13 x_15 a_99 x_100 x_101 false))) := fixF_eq internal_strconv_ParseUint.l0_k.mono _
theorem internal_strconv_ParseUint.j13_eq (x_1 b_8 s_9 x_10 x_11 b_12 x_13 x_15 a_99 x_100 x_101 b_121) : internal_strconv_ParseUint.j13 x_1 b_8 s_9 x_10 x_11 b_12 x_13 x_15 a_99 x_100 x_101 b_121 = if b_121 = true then (Option.bind (internal_strconv_lower x_15) fun y1 => (internal_strconv_ParseUint.j10 x_1 b_8 s_9 x_10 x_11 b_12 x_13 (IntKind.wrap .u8 ((IntKind.wrap .u8 (y1 - (97 : Int))) + (10 : Int))) a_99 x_100 x_101)) else ((none : Option _)) := fixF_eq internal_strconv_ParseUint.l0_k.mono _
theorem internal_strconv_ParseUint.j10_eq (x_1 b_8 s_9 x_10 x_11 b_12 x_13 x_16 a_99 x_100 x_101) : internal_strconv_ParseUint.j10 x_1 b_8 s_9 x_10 x_11 b_12 x_13 x_16 a_99 x_100 x_101 = if x_16 ≥ (IntKind.wrap .u8 x_1) then ((none : Option _)) else (if x_13 ≥ x_10 then ((none : Option _)) else (if (IntKind.wrap .u64 ((IntKind.wrap .u64 (x_13 * (IntKind.wrap .u64 x_1))) + (IntKind.wrap .u64 x_16))) < (IntKind.wrap .u64 (x_13 * (IntKind.wrap .u64 x_1))) then ((internal_strconv_ParseUint.j14 x_1 b_8 s_9 x_10 x_11 b_12 (IntKind.wrap .u64 ((IntKind.wrap .u64 (x_13 * (IntKind.wrap .u64 x_1))) + (IntKind.wrap .u64 x_16))) a_99 x_100 x_101 true)) else ((internal_strconv_ParseUint.j14 x_1 b_8 s_9 x_10 x_11 b_12 (IntKind.wrap .u64 ((IntKind.wrap .u64 (x_13 * (IntKind.wrap .u64 x_1))) + (IntKind.wrap .u64 x_16))) a_99 x_100 x_101 (decide ((IntKind.wrap .u64 ((IntKind.wrap .u64 (x_13 * (IntKind.wrap .u64 x_1))) + (IntKind.wrap .u64 x_16))) > x_11)))))) := fixF_eq internal_strconv_ParseUint.l0_k.mono _
theorem internal_strconv_ParseUint.j14_eq (x_1 b_8 s_9 x_10 x_11 b_12 x_17 a_99 x_100 x_101 b_159) : internal_strconv_ParseUint.j14 x_1 b_8 s_9 x_10 x_11 b_12 x_17 a_99 x_100 x_101 b_159 = if b_159 = true then ((none : Option _)) else ((internal_strconv_ParseUint.l0 x_1 b_8 s_9 x_10 x_11 b_12 x_17 a_99 x_100 (IntKind.wrap .i64 (x_101 + (1 : Int))))) := fixF_eq internal_strconv_ParseUint.l0_k.mono _
def internal_strconv_ParseUint.l0_k.I : (p : internal_strconv_ParseUint.l0_k.Pt) → (Int × Unit) → Prop
 | .l0 x_1 b_8 s_9 x_10 x_11 b_12 x_13 a_99 x_100 x_101, r => ∀ {W h0 m0 h m A_99 n_99 c_99} (O : Hold W h0 m0 h m []) (ne_99 : n_99 = List.length a_99) (k_99 : List.length a_99 ≤ c_99) (r_99 : Rd 1 (eInt .u8) m A_99 a_99), f124.l0 (internal_strconv_ParseUint.post W h0 m0 r) x_1 b_8 s_9 x_10 x_11 b_12 x_13 A_99 n_99 c_99 x_100 x_101 h
 | .j11 x_1 b_8 s_9 x_10 x_11 b_12 x_13 x_15 a_99 x_100 x_101 b_106, r => ∀ {W h0 m0 h m A_99 n_99 c_99} (O : Hold W h0 m0 h m []) (ne_99 : n_99 = List.length a_99) (k_99 : List.length a_99 ≤ c_99) (r_99 : Rd 1 (eInt .u8) m A_99 a_99), f124.j11 (internal_strconv_ParseUint.post W h0 m0 r) x_1 b_8 s_9 x_10 x_11 b_12 x_13 x_15 A_99 n_99 c_99 x_100 x_101 b_106 h
 | .j12 x_1 b_8 s_9 x_10 x_11 b_12 x_13 x_15 a_99 x_100 x_101 b_112, r => ∀ {W h0 m0 h m A_99 n_99 c_99} (O : Hold W h0 m0 h m []) (ne_99 : n_99 = List.length a_99) (k_99 : List.length a_99 ≤ c_99) (r_99 : Rd 1 (eInt .u8) m A_99 a_99), f124.j12 (internal_strconv_ParseUint.post W h0 m0 r) x_1 b_8 s_9 x_10 x_11 b_12 x_13 x_15 A_99 n_99 c_99 x_100 x_101 b_112 h
 | .j13 x_1 b_8 s_9 x_10 x_11 b_12 x_13 x_15 a_99 x_100 x_101 b_121, r => ∀ {W h0 m0 h m A_99 n_99 c_99} (O : Hold W h0 m0 h m []) (ne_99 : n_99 = List.length a_99) (k_99 : List.length a_99 ≤ c_99) (r_99 : Rd 1 (eInt .u8) m A_99 a_99), f124.j13 (internal_strconv_ParseUint.post W h0 m0 r) x_1 b_8 s_9 x_10 x_11 b_12 x_13 x_15 A_99 n_99 c_99 x_100 x_101 b_121 h
 | .j10 x_1 b_8 s_9 x_10 x_11 b_12 x_13 x_16 a_99 x_100 x_101, r => ∀ {W h0 m0 h m A_99 n_99 c_99} (O : Hold W h0 m0 h m []) (ne_99 : n_99 = List.length a_99) (k_99 : List.length a_99 ≤ c_99) (r_99 : Rd 1 (eInt .u8) m A_99 a_99), f124.j10 (internal_strconv_ParseUint.post W h0 m0 r) x_1 b_8 s_9 x_10 x_11 b_12 x_13 x_16 A_99 n_99 c_99 x_100 x_101 h
 | .j14 x_1 b_8 s_9 x_10 x_11 b_12 x_17 a_99 x_100 x_101 b_159, r => ∀ {W h0 m0 h m A_99 n_99 c_99} (O : Hold W h0 m0 h m []) (ne_99 : n_99 = List.length a_99) (k_99 : List.length a_99 ≤ c_99) (r_99 : Rd 1 (eInt .u8) m A_99 a_99), f124.j14 (internal_strconv_ParseUint.post W h0 m0 r) x_1 b_8 s_9 x_10 x_11 b_12 x_17 A_99 n_99 c_99 x_100 x_101 b_159 h
theorem internal_strconv_ParseUint.l0_k.step_l0 (go : (p : internal_strconv_ParseUint.l0_k.Pt) → Option (Int × Unit)) (ih : ∀ p r, go p = some r → internal_strconv_ParseUint.l0_k.I p r) (x_1 b_8 s_9 x_10 x_11 b_12 x_13 a_99 x_100 x_101) (r) (e : internal_strconv_ParseUint.l0_k.body go (.l0 x_1 b_8 s_9 x_10 x_11 b_12 x_13 a_99 x_100 x_101) = some r) : internal_strconv_ParseUint.l0_k.I (.l0 x_1 b_8 s_9 x_10 x_11 b_12 x_13 a_99 x_100 x_101) r := by
 unfold internal_strconv_ParseUint.l0_k.body at e
 intro W h0 m0 h m A_99 n_99 c_99 O ne_99 k_99 r_99
 subst ne_99
 refine f124.l0_in ?_
 unfold f124.l0T
 refine split_dec_e e (fun c17 e => ?_) (fun c17 e => ?_)
 · obtain ⟨y1, g2, e⟩ := bind_e e
   refine r_99.addr rfl g2 fun a3 cs4 ha5 hc6 he7 => ?_
   obtain rfl : cs4 = [(Value.int .u8 y1)] := he7
   refine ⟨_, ld0 O.s hc6 rfl, _, rfl, ?_⟩
   refine split_eq_e e (fun c8 e => ?_) (fun c8 e => ?_)
   · exact (ih _ _ e) (O.pick []).nm rfl k_99 r_99
   · exact (ih _ _ e) (O.pick []).nm rfl k_99 r_99
 · refine split_any_e e (fun c16 e => ?_) (fun c16 e => ?_)
   · obtain ⟨y9, g10, e⟩ := bind_e e
     refine (internal_strconv_underscoreOK.walk (Hold.start (W := No) O.s)  g10).mono ?_
     rintro _ h11 ⟨m12, Q13, rfl⟩
     have O15 := Hold.nm (O.retC Q13 vfs_nil)
     refine ⟨_, rfl, ?_⟩
     exact internal_strconv_ParseUint.j6.walk (O15.pick []).nm  e
   · exact internal_strconv_ParseUint.j6.walk (O.pick []).nm  e
theorem internal_strconv_ParseUint.l0_k.step_j11 (go : (p : internal_strconv_ParseUint.l0_k.Pt) → Option (Int × Unit)) (ih : ∀ p r, go p = some r → internal_strconv_ParseUint.l0_k.I p r) (x_1 b_8 s_9 x_10 x_11 b_12 x_13 x_15 a_99 x_100 x_101 b_106) (r) (e : internal_strconv_ParseUint.l0_k.body go (.j11 x_1 b_8 s_9 x_10 x_11 b_12 x_13 x_15 a_99 x_100 x_101 b_106) = some r) : internal_strconv_ParseUint.l0_k.I (.j11 x_1 b_8 s_9 x_10 x_11 b_12 x_13 x_15 a_99 x_100 x_101 b_106) r := by
 unfold internal_strconv_ParseUint.l0_k.body at e
 intro W h0 m0 h m A_99 n_99 c_99 O ne_99 k_99 r_99
 subst ne_99
 refine f124.j11_in ?_
 unfold f124.j11T
 refine split_any_e e (fun c2 e => ?_) (fun c2 e => ?_)
 · exact (ih _ _ e) (O.pick []).nm rfl k_99 r_99
 · refine split_dec_e e (fun c1 e => ?_) (fun c1 e => ?_)
   · exact (ih _ _ e) (O.pick []).nm rfl k_99 r_99
   · exact (ih _ _ e) (O.pick []).nm rfl k_99 r_99
theorem internal_strconv_ParseUint.l0_k.step_j12 (go : (p : internal_strconv_ParseUint.l0_k.Pt) → Option (Int × Unit)) (ih : ∀ p r, go p = some r → internal_strconv_ParseUint.l0_k.I p r) (x_1 b_8 s_9 x_10 x_11 b_12 x_13 x_15 a_99 x_100 x_101 b_112) (r) (e : internal_strconv_ParseUint.l0_k.body go (.j12 x_1 b_8 s_9 x_10 x_11 b_12 x_13 x_15 a_99 x_100 x_101 b_112) = some r) : internal_strconv_ParseUint.l0_k.I (.j12 x_1 b_8 s_9 x_10 x_11 b_12 x_13 x_15 a_99 x_100 x_101 b_112) r := by
 unfold internal_strconv_ParseUint.l0_k.body at e
 intro W h0 m0 h m A_99 n_99 c_99 O ne_99 k_99 r_99
 subst ne_99
 refine f124.j12_in ?_
 unfold f124.j12T
 refine split_any_e e (fun c16 e => ?_) (fun c16 e => ?_)
 · exact (ih _ _ e) (O.pick []).nm rfl k_99 r_99
 · obtain ⟨y1, g2, e⟩ := bind_e e
   refine (internal_strconv_lower.walk (Hold.start (W := No) O.s)  g2).mono ?_
   rintro _ h3 ⟨m4, Q5, rfl⟩
   have O7 := Hold.nm (O.retC Q5 vfs_nil)
   refine ⟨_, rfl, ?_⟩
   refine split_dec_e e (fun c15 e => ?_) (fun c15 e => ?_)
   · obtain ⟨y8, g9, e⟩ := bind_e e
     refine (internal_strconv_lower.walk (Hold.start (W := No) O7.s)  g9).mono ?_
     rintro _ h10 ⟨m11, Q12, rfl⟩
     have O14 := Hold.nm (O7.retC Q12 vfs_nil)
     refine ⟨_, rfl, ?_⟩
     exact (ih _ _ e) (O14.pick []).nm rfl k_99 r_99
   · exact (ih _ _ e) (O7.pick []).nm rfl k_99 r_99
theorem internal_strconv_ParseUint.l0_k.step_j13 (go : (p : internal_strconv_ParseUint.l0_k.Pt) → Option (Int × Unit)) (ih : ∀ p r, go p = some r → internal_strconv_ParseUint.l0_k.I p r) (x_1 b_8 s_9 x_10 x_11 b_12 x_13 x_15 a_99 x_100 x_101 b_121) (r) (e : internal_strconv_ParseUint.l0_k.body go (.j13 x_1 b_8 s_9 x_10 x_11 b_12 x_13 x_15 a_99 x_100 x_101 b_121) = some r) : internal_strconv_ParseUint.l0_k.I (.j13 x_1 b_8 s_9 x_10 x_11 b_12 x_13 x_15 a_99 x_100 x_101 b_121) r := by
 unfold internal_strconv_ParseUint.l0_k.body at e
 intro W h0 m0 h m A_99 n_99 c_99 O ne_99 k_99 r_99
 subst ne_99
 refine f124.j13_in ?_
 unfold f124.j13T
 refine split_any_e e (fun c8 e => ?_) (fun c8 e => ?_)
 · obtain ⟨y1, g2, e⟩ := bind_e e
   refine (internal_strconv_lower.walk (Hold.start (W := No) O.s)  g2).mono ?_
   rintro _ h3 ⟨m4, Q5, rfl⟩
   have O7 := Hold.nm (O.retC Q5 vfs_nil)
   refine ⟨_, rfl, ?_⟩
   exact (ih _ _ e) (O7.pick []).nm rfl k_99 r_99
 · cases e
theorem internal_strconv_ParseUint.l0_k.step_j10 (go : (p : internal_strconv_ParseUint.l0_k.Pt) → Option (Int × Unit)) (ih : ∀ p r, go p = some r → internal_strconv_ParseUint.l0_k.I p r) (x_1 b_8 s_9 x_10 x_11 b_12 x_13 x_16 a_99 x_100 x_101) (r) (e : internal_strconv_ParseUint.l0_k.body go (.j10 x_1 b_8 s_9 x_10 x_11 b_12 x_13 x_16 a_99 x_100 x_101) = some r) : internal_strconv_ParseUint.l0_k.I (.j10 x_1 b_8 s_9 x_10 x_11 b_12 x_13 x_16 a_99 x_100 x_101) r := by
 unfold internal_strconv_ParseUint.l0_k.body at e
 intro W h0 m0 h m A_99 n_99 c_99 O ne_99 k_99 r_99
 subst ne_99
 refine f124.j10_in ?_
 unfold f124.j10T
 refine split_dec_e e (fun c3 e => ?_) (fun c3 e => ?_)
 · cases e
 · refine split_dec_e e (fun c2 e => ?_) (fun c2 e => ?_)
   · cases e
   · refine split_dec_e e (fun c1 e => ?_) (fun c1 e => ?_)
     · exact (ih _ _ e) (O.pick []).nm rfl k_99 r_99
     · exact (ih _ _ e) (O.pick []).nm rfl k_99 r_99
theorem internal_strconv_ParseUint.l0_k.step_j14 (go : (p : internal_strconv_ParseUint.l0_k.Pt) → Option (Int × Unit)) (ih : ∀ p r, go p = some r → internal_strconv_ParseUint.l0_k.I p r) (x_1 b_8 s_9 x_10 x_11 b_12 x_17 a_99 x_100 x_101 b_159) (r) (e : internal_strconv_ParseUint.l0_k.body go (.j14 x_1 b_8 s_9 x_10 x_11 b_12 x_17 a_99 x_100 x_101 b_159) = some r) : internal_strconv_ParseUint.l0_k.I (.j14 x_1 b_8 s_9 x_10 x_11 b_12 x_17 a_99 x_100 x_101 b_159) r := by
 unfold internal_strconv_ParseUint.l0_k.body at e
 intro W h0 m0 h m A_99 n_99 c_99 O ne_99 k_99 r_99
 subst ne_99
 refine f124.j14_in ?_
 unfold f124.j14T
 refine split_any_e e (fun c1 e => ?_) (fun c1 e => ?_)
 · cases e
 · exact (ih _ _ e) (O.pick []).nm rfl k_99 r_99
theorem internal_strconv_ParseUint.l0_k.all {p : internal_strconv_ParseUint.l0_k.Pt} {r : (Int × Unit)} (e : internal_strconv_ParseUint.l0_k.go p = some r) : internal_strconv_ParseUint.l0_k.I p r := fixF_ind (β := fun _ => (Int × Unit)) internal_strconv_ParseUint.l0_k.mono (I := internal_strconv_ParseUint.l0_k.I) (fun go ih p r e => match p with
 | .l0 x_1 b_8 s_9 x_10 x_11 b_12 x_13 a_99 x_100 x_101 => internal_strconv_ParseUint.l0_k.step_l0 go ih x_1 b_8 s_9 x_10 x_11 b_12 x_13 a_99 x_100 x_101 r e
 | .j11 x_1 b_8 s_9 x_10 x_11 b_12 x_13 x_15 a_99 x_100 x_101 b_106 => internal_strconv_ParseUint.l0_k.step_j11 go ih x_1 b_8 s_9 x_10 x_11 b_12 x_13 x_15 a_99 x_100 x_101 b_106 r e
 | .j12 x_1 b_8 s_9 x_10 x_11 b_12 x_13 x_15 a_99 x_100 x_101 b_112 => internal_strconv_ParseUint.l0_k.step_j12 go ih x_1 b_8 s_9 x_10 x_11 b_12 x_13 x_15 a_99 x_100 x_101 b_112 r e
 | .j13 x_1 b_8 s_9 x_10 x_11 b_12 x_13 x_15 a_99 x_100 x_101 b_121 => internal_strconv_ParseUint.l0_k.step_j13 go ih x_1 b_8 s_9 x_10 x_11 b_12 x_13 x_15 a_99 x_100 x_101 b_121 r e
 | .j10 x_1 b_8 s_9 x_10 x_11 b_12 x_13 x_16 a_99 x_100 x_101 => internal_strconv_ParseUint.l0_k.step_j10 go ih x_1 b_8 s_9 x_10 x_11 b_12 x_13 x_16 a_99 x_100 x_101 r e
 | .j14 x_1 b_8 s_9 x_10 x_11 b_12 x_17 a_99 x_100 x_101 b_159 => internal_strconv_ParseUint.l0_k.step_j14 go ih x_1 b_8 s_9 x_10 x_11 b_12 x_17 a_99 x_100 x_101 b_159 r e
 ) e
noncomputable def internal_strconv_ParseUint.j3 (s_0 : ByteArray) (x_1 : Int) (x_2 : Int) (b_8 : Bool) (s_9 : ByteArray) (x_10 : Int) : Option (Int × Unit) :=
 if 0 ≤ (IntKind.wrap .u64 x_2) then ((internal_strconv_ParseUint.l0 x_1 b_8 s_9 x_10 (IntKind.wrap .u64 ((shlI .u64 (1 : Int) (IntKind.wrap .u64 x_2)) - (1 : Int))) false (0 : Int) (bytesI s_0) (((List.length (bytesI s_0)) : Nat) : Int) (0 : Int))) else none
theorem internal_strconv_ParseUint.j3.walk {W h0 m0 h m s_0 x_1 x_2 b_8 s_9 x_10} (O : Hold W h0 m0 h m []) {r} (e : internal_strconv_ParseUint.j3 s_0 x_1 x_2 b_8 s_9 x_10 = some r) : f124.j3 (internal_strconv_ParseUint.post W h0 m0 r) s_0 x_1 x_2 b_8 s_9 x_10 h := by
 unfold internal_strconv_ParseUint.j3 at e
 refine f124.j3_in ?_
 unfold f124.j3T
 obtain ⟨g1, e⟩ := guard_e e
 refine ⟨g1, ?_⟩
 refine O.s2b (u := .string) (e := 5) (by kernel_rfl) (by kernel_rfl) (by kernel_rfl) fun h2 m3 A4 c5 x6 u7 r8 k9 O10 => ?_
 refine ⟨_, _, _, rfl, ?_⟩
 have O11 := O10.nm
 exact (internal_strconv_ParseUint.l0_k.all e) (O11.pick []).nm rfl k9 r8
noncomputable def internal_strconv_ParseUint.j1 (s_0 : ByteArray) (x_1 : Int) (x_2 : Int) (b_8 : Bool) (s_9 : ByteArray) : Option (Int × Unit) :=
 if x_1 = (10 : Int) then ((internal_strconv_ParseUint.j3 s_0 x_1 x_2 b_8 s_9 (1844674407370955162 : Int))) else (if x_1 = (16 : Int) then ((internal_strconv_ParseUint.j3 s_0 x_1 x_2 b_8 s_9 (1152921504606846976 : Int))) else (if (IntKind.wrap .u64 x_1) ≠ 0 then ((internal_strconv_ParseUint.j3 s_0 x_1 x_2 b_8 s_9 (IntKind.wrap .u64 ((IntKind.wrap .u64 (Int.tdiv (18446744073709551615 : Int) (IntKind.wrap .u64 x_1))) + (1 : Int))))) else none))
theorem internal_strconv_ParseUint.j1.walk {W h0 m0 h m s_0 x_1 x_2 b_8 s_9} (O : Hold W h0 m0 h m []) {r} (e : internal_strconv_ParseUint.j1 s_0 x_1 x_2 b_8 s_9 = some r) : f124.j1 (internal_strconv_ParseUint.post W h0 m0 r) s_0 x_1 x_2 b_8 s_9 h := by
 unfold internal_strconv_ParseUint.j1 at e
 refine f124.j1_in ?_
 unfold f124.j1T
 refine split_eq_e e (fun c3 e => ?_) (fun c3 e => ?_)
 · exact internal_strconv_ParseUint.j3.walk (O.pick []).nm  e
 · refine split_eq_e e (fun c2 e => ?_) (fun c2 e => ?_)
   · exact internal_strconv_ParseUint.j3.walk (O.pick []).nm  e
   · obtain ⟨g1, e⟩ := guard_e e
     refine ⟨g1, ?_⟩
     exact internal_strconv_ParseUint.j3.walk (O.pick []).nm  e
noncomputable def internal_strconv_ParseUint.j4 (s_0 : ByteArray) (x_1 : Int) (x_2 : Int) (b_8 : Bool) (s_9 : ByteArray) (b_83 : Bool) : Option (Int × Unit) :=
 if b_83 = true then ((none : Option _)) else ((internal_strconv_ParseUint.j1 s_0 x_1 x_2 b_8 s_9))
theorem internal_strconv_ParseUint.j4.walk {W h0 m0 h m s_0 x_1 x_2 b_8 s_9 b_83} (O : Hold W h0 m0 h m []) {r} (e : internal_strconv_ParseUint.j4 s_0 x_1 x_2 b_8 s_9 b_83 = some r) : f124.j4 (internal_strconv_ParseUint.post W h0 m0 r) s_0 x_1 x_2 b_8 s_9 b_83 h := by
 unfold internal_strconv_ParseUint.j4 at e
 refine f124.j4_in ?_
 unfold f124.j4T
 refine split_any_e e (fun c1 e => ?_) (fun c1 e => ?_)
 · cases e
 · exact internal_strconv_ParseUint.j1.walk (O.pick []).nm  e
noncomputable def internal_strconv_ParseUint.j0 (s_0 : ByteArray) (x_1 : Int) (x_2 : Int) (b_8 : Bool) (s_9 : ByteArray) : Option (Int × Unit) :=
 if x_2 = (0 : Int) then ((internal_strconv_ParseUint.j1 s_0 x_1 (64 : Int) b_8 s_9)) else (if x_2 < (0 : Int) then ((internal_strconv_ParseUint.j4 s_0 x_1 x_2 b_8 s_9 true)) else ((internal_strconv_ParseUint.j4 s_0 x_1 x_2 b_8 s_9 (decide (x_2 > (64 : Int))))))
theorem internal_strconv_ParseUint.j0.walk {W h0 m0 h m s_0 x_1 x_2 b_8 s_9} (O : Hold W h0 m0 h m []) {r} (e : internal_strconv_ParseUint.j0 s_0 x_1 x_2 b_8 s_9 = some r) : f124.j0 (internal_strconv_ParseUint.post W h0 m0 r) s_0 x_1 x_2 b_8 s_9 h := by
 unfold internal_strconv_ParseUint.j0 at e
 refine f124.j0_in ?_
 unfold f124.j0T
 refine split_eq_e e (fun c2 e => ?_) (fun c2 e => ?_)
 · exact internal_strconv_ParseUint.j1.walk (O.pick []).nm  e
 · refine split_dec_e e (fun c1 e => ?_) (fun c1 e => ?_)
   · exact internal_strconv_ParseUint.j4.walk (O.pick []).nm  e
   · exact internal_strconv_ParseUint.j4.walk (O.pick []).nm  e
noncomputable def internal_strconv_ParseUint.j9 (s_0 : ByteArray) (x_2 : Int) (b_8 : Bool) (s_9 : ByteArray) (b_64 : Bool) : Option (Int × Unit) :=
 if b_64 = true then (if 0 ≤ (2 : Int) ∧ (2 : Int) ≤ ((ByteArray.size s_0 : Nat) : Int) ∧ ((ByteArray.size s_0 : Nat) : Int) ≤ ((ByteArray.size s_0 : Nat) : Int) then ((internal_strconv_ParseUint.j0 (ByteArray.extract s_0 (Int.toNat (2 : Int)) (Int.toNat ((ByteArray.size s_0 : Nat) : Int))) (16 : Int) x_2 b_8 s_9)) else none) else (if 0 ≤ (1 : Int) ∧ (1 : Int) ≤ ((ByteArray.size s_0 : Nat) : Int) ∧ ((ByteArray.size s_0 : Nat) : Int) ≤ ((ByteArray.size s_0 : Nat) : Int) then ((internal_strconv_ParseUint.j0 (ByteArray.extract s_0 (Int.toNat (1 : Int)) (Int.toNat ((ByteArray.size s_0 : Nat) : Int))) (8 : Int) x_2 b_8 s_9)) else none)
theorem internal_strconv_ParseUint.j9.walk {W h0 m0 h m s_0 x_2 b_8 s_9 b_64} (O : Hold W h0 m0 h m []) {r} (e : internal_strconv_ParseUint.j9 s_0 x_2 b_8 s_9 b_64 = some r) : f124.j9 (internal_strconv_ParseUint.post W h0 m0 r) s_0 x_2 b_8 s_9 b_64 h := by
 unfold internal_strconv_ParseUint.j9 at e
 refine f124.j9_in ?_
 unfold f124.j9T
 refine split_any_e e (fun c3 e => ?_) (fun c3 e => ?_)
 · obtain ⟨g1, e⟩ := guard_e e
   refine ⟨g1.1, g1.2.1, g1.2.2, ?_⟩
   exact internal_strconv_ParseUint.j0.walk (O.pick []).nm  e
 · obtain ⟨g2, e⟩ := guard_e e
   refine ⟨g2.1, g2.2.1, g2.2.2, ?_⟩
   exact internal_strconv_ParseUint.j0.walk (O.pick []).nm  e
noncomputable def internal_strconv_ParseUint.j8 (s_0 : ByteArray) (x_2 : Int) (b_8 : Bool) (s_9 : ByteArray) (b_52 : Bool) : Option (Int × Unit) :=
 if b_52 = true then (if 0 ≤ (2 : Int) ∧ (2 : Int) ≤ ((ByteArray.size s_0 : Nat) : Int) ∧ ((ByteArray.size s_0 : Nat) : Int) ≤ ((ByteArray.size s_0 : Nat) : Int) then ((internal_strconv_ParseUint.j0 (ByteArray.extract s_0 (Int.toNat (2 : Int)) (Int.toNat ((ByteArray.size s_0 : Nat) : Int))) (8 : Int) x_2 b_8 s_9)) else none) else (if ((ByteArray.size s_0 : Nat) : Int) ≥ (3 : Int) then (Option.bind (gb s_0 (1 : Int)) fun y2 => Option.bind (internal_strconv_lower y2) fun y8 => (internal_strconv_ParseUint.j9 s_0 x_2 b_8 s_9 (y8 == (120 : Int)))) else ((internal_strconv_ParseUint.j9 s_0 x_2 b_8 s_9 false)))
theorem internal_strconv_ParseUint.j8.walk {W h0 m0 h m s_0 x_2 b_8 s_9 b_52} (O : Hold W h0 m0 h m []) {r} (e : internal_strconv_ParseUint.j8 s_0 x_2 b_8 s_9 b_52 = some r) : f124.j8 (internal_strconv_ParseUint.post W h0 m0 r) s_0 x_2 b_8 s_9 b_52 h := by
 unfold internal_strconv_ParseUint.j8 at e
 refine f124.j8_in ?_
 unfold f124.j8T
 refine split_any_e e (fun c16 e => ?_) (fun c16 e => ?_)
 · obtain ⟨g1, e⟩ := guard_e e
   refine ⟨g1.1, g1.2.1, g1.2.2, ?_⟩
   exact internal_strconv_ParseUint.j0.walk (O.pick []).nm  e
 · refine split_dec_e e (fun c15 e => ?_) (fun c15 e => ?_)
   · obtain ⟨y2, g3, e⟩ := bind_e e
     obtain ⟨q4, b5, q6, q7⟩ := gb_e g3
     refine ⟨q4, _, q6, ?_⟩
     try rw [← q7]
     obtain ⟨y8, g9, e⟩ := bind_e e
     refine (internal_strconv_lower.walk (Hold.start (W := No) O.s)  g9).mono ?_
     rintro _ h10 ⟨m11, Q12, rfl⟩
     have O14 := Hold.nm (O.retC Q12 vfs_nil)
     refine ⟨_, rfl, ?_⟩
     exact internal_strconv_ParseUint.j9.walk (O14.pick []).nm  e
   · exact internal_strconv_ParseUint.j9.walk (O.pick []).nm  e
noncomputable def internal_strconv_ParseUint.j7 (s_0 : ByteArray) (x_2 : Int) (b_8 : Bool) (s_9 : ByteArray) (b_40 : Bool) : Option (Int × Unit) :=
 if b_40 = true then (if 0 ≤ (2 : Int) ∧ (2 : Int) ≤ ((ByteArray.size s_0 : Nat) : Int) ∧ ((ByteArray.size s_0 : Nat) : Int) ≤ ((ByteArray.size s_0 : Nat) : Int) then ((internal_strconv_ParseUint.j0 (ByteArray.extract s_0 (Int.toNat (2 : Int)) (Int.toNat ((ByteArray.size s_0 : Nat) : Int))) (2 : Int) x_2 b_8 s_9)) else none) else (if ((ByteArray.size s_0 : Nat) : Int) ≥ (3 : Int) then (Option.bind (gb s_0 (1 : Int)) fun y2 => Option.bind (internal_strconv_lower y2) fun y8 => (internal_strconv_ParseUint.j8 s_0 x_2 b_8 s_9 (y8 == (111 : Int)))) else ((internal_strconv_ParseUint.j8 s_0 x_2 b_8 s_9 false)))
theorem internal_strconv_ParseUint.j7.walk {W h0 m0 h m s_0 x_2 b_8 s_9 b_40} (O : Hold W h0 m0 h m []) {r} (e : internal_strconv_ParseUint.j7 s_0 x_2 b_8 s_9 b_40 = some r) : f124.j7 (internal_strconv_ParseUint.post W h0 m0 r) s_0 x_2 b_8 s_9 b_40 h := by
 unfold internal_strconv_ParseUint.j7 at e
 refine f124.j7_in ?_
 unfold f124.j7T
 refine split_any_e e (fun c16 e => ?_) (fun c16 e => ?_)
 · obtain ⟨g1, e⟩ := guard_e e
   refine ⟨g1.1, g1.2.1, g1.2.2, ?_⟩
   exact internal_strconv_ParseUint.j0.walk (O.pick []).nm  e
 · refine split_dec_e e (fun c15 e => ?_) (fun c15 e => ?_)
   · obtain ⟨y2, g3, e⟩ := bind_e e
     obtain ⟨q4, b5, q6, q7⟩ := gb_e g3
     refine ⟨q4, _, q6, ?_⟩
     try rw [← q7]
     obtain ⟨y8, g9, e⟩ := bind_e e
     refine (internal_strconv_lower.walk (Hold.start (W := No) O.s)  g9).mono ?_
     rintro _ h10 ⟨m11, Q12, rfl⟩
     have O14 := Hold.nm (O.retC Q12 vfs_nil)
     refine ⟨_, rfl, ?_⟩
     exact internal_strconv_ParseUint.j8.walk (O14.pick []).nm  e
   · exact internal_strconv_ParseUint.j8.walk (O.pick []).nm  e
noncomputable def internal_strconv_ParseUint.j2 (s_0 : ByteArray) (x_1 : Int) (x_2 : Int) (b_8 : Bool) (s_9 : ByteArray) (b_25 : Bool) : Option (Int × Unit) :=
 if b_25 = true then ((internal_strconv_ParseUint.j0 s_0 x_1 x_2 b_8 s_9)) else (if x_1 = (0 : Int) then (Option.bind (gb s_0 (0 : Int)) fun y1 => if y1 = (48 : Int) then (if ((ByteArray.size s_0 : Nat) : Int) ≥ (3 : Int) then (Option.bind (gb s_0 (1 : Int)) fun y7 => Option.bind (internal_strconv_lower y7) fun y13 => (internal_strconv_ParseUint.j7 s_0 x_2 b_8 s_9 (y13 == (98 : Int)))) else ((internal_strconv_ParseUint.j7 s_0 x_2 b_8 s_9 false))) else ((internal_strconv_ParseUint.j0 s_0 (10 : Int) x_2 b_8 s_9))) else ((none : Option _)))
theorem internal_strconv_ParseUint.j2.walk {W h0 m0 h m s_0 x_1 x_2 b_8 s_9 b_25} (O : Hold W h0 m0 h m []) {r} (e : internal_strconv_ParseUint.j2 s_0 x_1 x_2 b_8 s_9 b_25 = some r) : f124.j2 (internal_strconv_ParseUint.post W h0 m0 r) s_0 x_1 x_2 b_8 s_9 b_25 h := by
 unfold internal_strconv_ParseUint.j2 at e
 refine f124.j2_in ?_
 unfold f124.j2T
 refine split_any_e e (fun c23 e => ?_) (fun c23 e => ?_)
 · exact internal_strconv_ParseUint.j0.walk (O.pick []).nm  e
 · refine split_eq_e e (fun c22 e => ?_) (fun c22 e => ?_)
   · obtain ⟨y1, g2, e⟩ := bind_e e
     obtain ⟨q3, b4, q5, q6⟩ := gb_e g2
     refine ⟨q3, _, q5, ?_⟩
     try rw [← q6]
     refine split_eq_e e (fun c21 e => ?_) (fun c21 e => ?_)
     · refine split_dec_e e (fun c20 e => ?_) (fun c20 e => ?_)
       · obtain ⟨y7, g8, e⟩ := bind_e e
         obtain ⟨q9, b10, q11, q12⟩ := gb_e g8
         refine ⟨q9, _, q11, ?_⟩
         try rw [← q12]
         obtain ⟨y13, g14, e⟩ := bind_e e
         refine (internal_strconv_lower.walk (Hold.start (W := No) O.s)  g14).mono ?_
         rintro _ h15 ⟨m16, Q17, rfl⟩
         have O19 := Hold.nm (O.retC Q17 vfs_nil)
         refine ⟨_, rfl, ?_⟩
         exact internal_strconv_ParseUint.j7.walk (O19.pick []).nm  e
       · exact internal_strconv_ParseUint.j7.walk (O.pick []).nm  e
     · exact internal_strconv_ParseUint.j0.walk (O.pick []).nm  e
   · cases e
noncomputable def internal_strconv_ParseUint (s_0 : ByteArray) (x_1 : Int) (x_2 : Int) : Option (Int × Unit) :=
 if s_0 = (ByteArray.mk #[]) then ((none : Option _)) else (if (2 : Int) ≤ x_1 then ((internal_strconv_ParseUint.j2 s_0 x_1 x_2 (x_1 == (0 : Int)) s_0 (decide (x_1 ≤ (36 : Int))))) else ((internal_strconv_ParseUint.j2 s_0 x_1 x_2 (x_1 == (0 : Int)) s_0 false)))
theorem internal_strconv_ParseUint.walk {W h m s_0 x_1 x_2} (O : Hold W h m h m []) {r} (e : internal_strconv_ParseUint s_0 x_1 x_2 = some r) : Run Tryd.prog 124 #[Value.string s_0, Value.int .i64 x_1, Value.int .i64 x_2] h (internal_strconv_ParseUint.post W h m r) := by
 unfold internal_strconv_ParseUint at e
 refine f124.run ?_
 unfold f124.runT
 try rw [ba_list s_0 (ByteArray.mk #[])]
 refine split_dec_e e (fun c2 e => ?_) (fun c2 e => ?_)
 · cases e
 · refine split_dec_e e (fun c1 e => ?_) (fun c1 e => ?_)
   · exact internal_strconv_ParseUint.j2.walk (O.pick []).nm  e
   · exact internal_strconv_ParseUint.j2.walk (O.pick []).nm  e
def strconv_ParseUint.post (W : Nat → Prop) (h0 m0 : Heap) (r : Int × Unit) (v : Value) (h : Heap) : Prop := ∃ m , Hold W h0 m0 h m [] ∧ v = .tuple #[.int .u64 r.1, .nilIface]
noncomputable def strconv_ParseUint (s_0 : ByteArray) (x_1 : Int) (x_2 : Int) : Option (Int × Unit) :=
 Option.bind (internal_strconv_ParseUint s_0 x_1 x_2) fun y1 => some (y1.1, ())
theorem strconv_ParseUint.walk {W h m s_0 x_1 x_2} (O : Hold W h m h m []) (tab : TB m) {r} (e : strconv_ParseUint s_0 x_1 x_2 = some r) : Run Tryd.prog 99 #[Value.string s_0, Value.int .i64 x_1, Value.int .i64 x_2] h (strconv_ParseUint.post W h m r) := by
 unfold strconv_ParseUint at e
 refine f99.run ?_
 unfold f99.runT
 obtain ⟨y1, g2, e⟩ := bind_e e
 refine (internal_strconv_ParseUint.walk (Hold.start (W := No) O.s)  g2).mono ?_
 rintro _ h3 ⟨m4, Q5, rfl⟩
 have O7 := Hold.nm (O.retC Q5 vfs_nil)
 refine ⟨_, _, rfl, ?_⟩
 refine gen_ifne (by kernel_rfl) ?_
 refine ⟨_, rfl, ?_⟩
 refine split_f ?_
 cases e
 exact ⟨_, O7.pick [], rfl⟩
def roadref2_meant.post (W : Nat → Prop) (h0 m0 : Heap) (r : ByteArray × Int) (v : Value) (h : Heap) : Prop := ∃ m , Hold W h0 m0 h m [] ∧ v = .tuple #[.string r.1, .int .i64 r.2]
noncomputable def roadref2_meant.j1 (s_4 : ByteArray) (x_5 : Int) : Option (ByteArray × Int) :=
 some (s_4, (IntKind.wrap .i64 (x_5 + (1 : Int))))
theorem roadref2_meant.j1.walk {W h0 m0 h m s_4 x_5} (O : Hold W h0 m0 h m []) (tab : TB m) {r} (e : roadref2_meant.j1 s_4 x_5 = some r) : f82.j1 (roadref2_meant.post W h0 m0 r) s_4 x_5 h := by
 unfold roadref2_meant.j1 at e
 refine f82.j1_in ?_
 unfold f82.j1T
 cases e
 exact ⟨_, O.pick [], rfl⟩
noncomputable def roadref2_meant.j2 (s_4 : ByteArray) (x_5 : Int) (b_95 : Bool) : Option (ByteArray × Int) :=
 if b_95 = true then (some ((ByteArray.mk #[]), (-1 : Int))) else ((roadref2_meant.j1 s_4 x_5))
theorem roadref2_meant.j2.walk {W h0 m0 h m s_4 x_5 b_95} (O : Hold W h0 m0 h m []) (tab : TB m) {r} (e : roadref2_meant.j2 s_4 x_5 b_95 = some r) : f82.j2 (roadref2_meant.post W h0 m0 r) s_4 x_5 b_95 h := by
 unfold roadref2_meant.j2 at e
 refine f82.j2_in ?_
 unfold f82.j2T
 refine split_any_e e (fun c1 e => ?_) (fun c1 e => ?_)
 · cases e
   exact ⟨_, O.pick [], rfl⟩
 · exact roadref2_meant.j1.walk (O.pick []).nm tab e
noncomputable def roadref2_meant.j0 (s_0 : ByteArray) (s_4 : ByteArray) (x_5 : Int) : Option (ByteArray × Int) :=
 if x_5 ≥ ((ByteArray.size s_0 : Nat) : Int) then ((roadref2_meant.j2 s_4 x_5 true)) else ((roadref2_meant.j2 s_4 x_5 (decide (((ByteArray.size s_4 : Nat) : Int) > (64 : Int)))))
theorem roadref2_meant.j0.walk {W h0 m0 h m s_0 s_4 x_5} (O : Hold W h0 m0 h m []) (tab : TB m) {r} (e : roadref2_meant.j0 s_0 s_4 x_5 = some r) : f82.j0 (roadref2_meant.post W h0 m0 r) s_0 s_4 x_5 h := by
 unfold roadref2_meant.j0 at e
 refine f82.j0_in ?_
 unfold f82.j0T
 refine split_dec_e e (fun c1 e => ?_) (fun c1 e => ?_)
 · exact roadref2_meant.j2.walk (O.pick []).nm tab e
 · exact roadref2_meant.j2.walk (O.pick []).nm tab e
inductive roadref2_meant.l0_k.Pt where
 | l0 (s_0 : ByteArray) (s_4 : ByteArray) (x_5 : Int)
 | j3 (s_0 : ByteArray) (s_4 : ByteArray) (x_5 : Int)
 | j4 (s_0 : ByteArray) (s_4 : ByteArray) (x_5 : Int) (s_6 : ByteArray) (b_47 : Bool)
 | j5 (s_0 : ByteArray) (s_4 : ByteArray) (x_5 : Int) (s_6 : ByteArray) (b_58 : Bool)
noncomputable def roadref2_meant.l0_k.body (go : (p : roadref2_meant.l0_k.Pt) → Option (ByteArray × Int)) : (p : roadref2_meant.l0_k.Pt) → Option (ByteArray × Int)
 | .l0 s_0 s_4 x_5 => if x_5 < ((ByteArray.size s_0 : Nat) : Int) then (Option.bind (gb s_0 x_5) fun y1 => if y1 = (34 : Int) then ((roadref2_meant.j0 s_0 s_4 x_5)) else ((go (.j3 s_0 s_4 x_5)))) else ((roadref2_meant.j0 s_0 s_4 x_5))
 | .j3 s_0 s_4 x_5 => Option.bind (gb s_0 x_5) fun y1 => if y1 < (32 : Int) then (some ((ByteArray.mk #[]), (-1 : Int))) else (Option.bind (gb s_0 x_5) fun y7 => if y7 = (92 : Int) then (if 0 ≤ (IntKind.wrap .i64 (x_5 + (1 : Int))) ∧ (IntKind.wrap .i64 (x_5 + (1 : Int))) ≤ ((ByteArray.size s_0 : Nat) : Int) ∧ ((ByteArray.size s_0 : Nat) : Int) ≤ ((ByteArray.size s_0 : Nat) : Int) then (Option.bind (strings_HasPrefix (ByteArray.extract s_0 (Int.toNat (IntKind.wrap .i64 (x_5 + (1 : Int)))) (Int.toNat ((ByteArray.size s_0 : Nat) : Int))) (ByteArray.mk #[110])) fun y16 => if y16 = true then (if ByteArray.size s_4 + ByteArray.size (ByteArray.mk #[10]) ≤ 9223372036854775807 then ((go (.l0 s_0 (s_4 ++ (ByteArray.mk #[10])) (IntKind.wrap .i64 (x_5 + (2 : Int)))))) else none) else (Option.bind (strings_HasPrefix (ByteArray.extract s_0 (Int.toNat (IntKind.wrap .i64 (x_5 + (1 : Int)))) (Int.toNat ((ByteArray.size s_0 : Nat) : Int))) (ByteArray.mk #[34])) fun y24 => if y24 = true then ((go (.j4 s_0 s_4 x_5 (ByteArray.extract s_0 (Int.toNat (IntKind.wrap .i64 (x_5 + (1 : Int)))) (Int.toNat ((ByteArray.size s_0 : Nat) : Int))) y24))) else (Option.bind (strings_HasPrefix (ByteArray.extract s_0 (Int.toNat (IntKind.wrap .i64 (x_5 + (1 : Int)))) (Int.toNat ((ByteArray.size s_0 : Nat) : Int))) (ByteArray.mk #[92])) fun y31 => (go (.j4 s_0 s_4 x_5 (ByteArray.extract s_0 (Int.toNat (IntKind.wrap .i64 (x_5 + (1 : Int)))) (Int.toNat ((ByteArray.size s_0 : Nat) : Int))) y31))))) else none) else (if 0 ≤ x_5 ∧ x_5 ≤ (IntKind.wrap .i64 (x_5 + (1 : Int))) ∧ (IntKind.wrap .i64 (x_5 + (1 : Int))) ≤ ((ByteArray.size s_0 : Nat) : Int) then (if ByteArray.size s_4 + ByteArray.size (ByteArray.extract s_0 (Int.toNat x_5) (Int.toNat (IntKind.wrap .i64 (x_5 + (1 : Int))))) ≤ 9223372036854775807 then ((go (.l0 s_0 (s_4 ++ (ByteArray.extract s_0 (Int.toNat x_5) (Int.toNat (IntKind.wrap .i64 (x_5 + (1 : Int)))))) (IntKind.wrap .i64 (x_5 + (1 : Int)))))) else none) else none))
 | .j4 s_0 s_4 x_5 s_6 b_47 => if b_47 = true then (if 0 ≤ (0 : Int) ∧ (0 : Int) ≤ (1 : Int) ∧ (1 : Int) ≤ ((ByteArray.size s_6 : Nat) : Int) then (if ByteArray.size s_4 + ByteArray.size (ByteArray.extract s_6 (Int.toNat (0 : Int)) (Int.toNat (1 : Int))) ≤ 9223372036854775807 then ((go (.l0 s_0 (s_4 ++ (ByteArray.extract s_6 (Int.toNat (0 : Int)) (Int.toNat (1 : Int)))) (IntKind.wrap .i64 (x_5 + (2 : Int)))))) else none) else none) else (if ((ByteArray.size s_6 : Nat) : Int) > (2 : Int) then (Option.bind (gb s_6 (0 : Int)) fun y3 => if y3 = (120 : Int) then (if 0 ≤ (1 : Int) ∧ (1 : Int) ≤ (3 : Int) ∧ (3 : Int) ≤ ((ByteArray.size s_6 : Nat) : Int) then (Option.bind (roadref2_run (ByteArray.extract s_6 (Int.toNat (1 : Int)) (Int.toNat (3 : Int))) (ByteArray.mk #[48, 49, 50, 51, 52, 53, 54, 55, 56, 57, 97, 98, 99, 100, 101, 102])) fun y10 => (go (.j5 s_0 s_4 x_5 s_6 (y10 == (2 : Int))))) else none) else ((go (.j5 s_0 s_4 x_5 s_6 false)))) else ((go (.j5 s_0 s_4 x_5 s_6 false))))
 | .j5 s_0 s_4 x_5 s_6 b_58 => if b_58 = true then (if 0 ≤ (1 : Int) ∧ (1 : Int) ≤ (3 : Int) ∧ (3 : Int) ≤ ((ByteArray.size s_6 : Nat) : Int) then (Option.bind (strconv_ParseUint (ByteArray.extract s_6 (Int.toNat (1 : Int)) (Int.toNat (3 : Int))) (16 : Int) (8 : Int)) fun y2 => if ByteArray.size s_4 + ByteArray.size (bytesOf ([(IntKind.wrap .u8 y2.1)] : List Int)) ≤ 9223372036854775807 then ((go (.l0 s_0 (s_4 ++ (bytesOf ([(IntKind.wrap .u8 y2.1)] : List Int))) (IntKind.wrap .i64 (x_5 + (4 : Int)))))) else none) else none) else (some ((ByteArray.mk #[]), (-1 : Int)))
theorem roadref2_meant.l0_k.mono : MonoF (β := fun _ => (ByteArray × Int)) roadref2_meant.l0_k.body := fun f g hfg p => match p with
 | .l0 s_0 s_4 x_5 => LeO.ite (LeO.bind (LeO.refl _) fun y1 => LeO.ite ((LeO.refl _)) ((hfg _))) ((LeO.refl _))
 | .j3 s_0 s_4 x_5 => LeO.bind (LeO.refl _) fun y1 => LeO.ite (LeO.refl _) (LeO.bind (LeO.refl _) fun y7 => LeO.ite (LeO.ite (LeO.bind (LeO.refl _) fun y16 => LeO.ite (LeO.ite ((hfg _)) (LeO.refl _)) (LeO.bind (LeO.refl _) fun y24 => LeO.ite ((hfg _)) (LeO.bind (LeO.refl _) fun y31 => (hfg _)))) (LeO.refl _)) (LeO.ite (LeO.ite ((hfg _)) (LeO.refl _)) (LeO.refl _)))
 | .j4 s_0 s_4 x_5 s_6 b_47 => LeO.ite (LeO.ite (LeO.ite ((hfg _)) (LeO.refl _)) (LeO.refl _)) (LeO.ite (LeO.bind (LeO.refl _) fun y3 => LeO.ite (LeO.ite (LeO.bind (LeO.refl _) fun y10 => (hfg _)) (LeO.refl _)) ((hfg _))) ((hfg _)))
 | .j5 s_0 s_4 x_5 s_6 b_58 => LeO.ite (LeO.ite (LeO.bind (LeO.refl _) fun y2 => LeO.ite ((hfg _)) (LeO.refl _)) (LeO.refl _)) (LeO.refl _)
noncomputable def roadref2_meant.l0_k.go (p : roadref2_meant.l0_k.Pt) : Option (ByteArray × Int) := fixF (β := fun _ => (ByteArray × Int)) roadref2_meant.l0_k.body p
noncomputable def roadref2_meant.l0 (s_0 s_4 x_5) := roadref2_meant.l0_k.go (.l0 s_0 s_4 x_5)
noncomputable def roadref2_meant.j3 (s_0 s_4 x_5) := roadref2_meant.l0_k.go (.j3 s_0 s_4 x_5)
noncomputable def roadref2_meant.j4 (s_0 s_4 x_5 s_6 b_47) := roadref2_meant.l0_k.go (.j4 s_0 s_4 x_5 s_6 b_47)
noncomputable def roadref2_meant.j5 (s_0 s_4 x_5 s_6 b_58) := roadref2_meant.l0_k.go (.j5 s_0 s_4 x_5 s_6 b_58)
theorem roadref2_meant.l0_eq (s_0 s_4 x_5) : roadref2_meant.l0 s_0 s_4 x_5 = if x_5 < ((ByteArray.size s_0 : Nat) : Int) then (Option.bind (gb s_0 x_5) fun y1 => if y1 = (34 : Int) then ((roadref2_meant.j0 s_0 s_4 x_5)) else ((roadref2_meant.j3 s_0 s_4 x_5))) else ((roadref2_meant.j0 s_0 s_4 x_5)) := fixF_eq roadref2_meant.l0_k.mono _
theorem roadref2_meant.j3_eq (s_0 s_4 x_5) : roadref2_meant.j3 s_0 s_4 x_5 = Option.bind (gb s_0 x_5) fun y1 => if y1 < (32 : Int) then (some ((ByteArray.mk #[]), (-1 : Int))) else (Option.bind (gb s_0 x_5) fun y7 => if y7 = (92 : Int) then (if 0 ≤ (IntKind.wrap .i64 (x_5 + (1 : Int))) ∧ (IntKind.wrap .i64 (x_5 + (1 : Int))) ≤ ((ByteArray.size s_0 : Nat) : Int) ∧ ((ByteArray.size s_0 : Nat) : Int) ≤ ((ByteArray.size s_0 : Nat) : Int) then (Option.bind (strings_HasPrefix (ByteArray.extract s_0 (Int.toNat (IntKind.wrap .i64 (x_5 + (1 : Int)))) (Int.toNat ((ByteArray.size s_0 : Nat) : Int))) (ByteArray.mk #[110])) fun y16 => if y16 = true then (if ByteArray.size s_4 + ByteArray.size (ByteArray.mk #[10]) ≤ 9223372036854775807 then ((roadref2_meant.l0 s_0 (s_4 ++ (ByteArray.mk #[10])) (IntKind.wrap .i64 (x_5 + (2 : Int))))) else none) else (Option.bind (strings_HasPrefix (ByteArray.extract s_0 (Int.toNat (IntKind.wrap .i64 (x_5 + (1 : Int)))) (Int.toNat ((ByteArray.size s_0 : Nat) : Int))) (ByteArray.mk #[34])) fun y24 => if y24 = true then ((roadref2_meant.j4 s_0 s_4 x_5 (ByteArray.extract s_0 (Int.toNat (IntKind.wrap .i64 (x_5 + (1 : Int)))) (Int.toNat ((ByteArray.size s_0 : Nat) : Int))) y24)) else (Option.bind (strings_HasPrefix (ByteArray.extract s_0 (Int.toNat (IntKind.wrap .i64 (x_5 + (1 : Int)))) (Int.toNat ((ByteArray.size s_0 : Nat) : Int))) (ByteArray.mk #[92])) fun y31 => (roadref2_meant.j4 s_0 s_4 x_5 (ByteArray.extract s_0 (Int.toNat (IntKind.wrap .i64 (x_5 + (1 : Int)))) (Int.toNat ((ByteArray.size s_0 : Nat) : Int))) y31)))) else none) else (if 0 ≤ x_5 ∧ x_5 ≤ (IntKind.wrap .i64 (x_5 + (1 : Int))) ∧ (IntKind.wrap .i64 (x_5 + (1 : Int))) ≤ ((ByteArray.size s_0 : Nat) : Int) then (if ByteArray.size s_4 + ByteArray.size (ByteArray.extract s_0 (Int.toNat x_5) (Int.toNat (IntKind.wrap .i64 (x_5 + (1 : Int))))) ≤ 9223372036854775807 then ((roadref2_meant.l0 s_0 (s_4 ++ (ByteArray.extract s_0 (Int.toNat x_5) (Int.toNat (IntKind.wrap .i64 (x_5 + (1 : Int)))))) (IntKind.wrap .i64 (x_5 + (1 : Int))))) else none) else none)) := fixF_eq roadref2_meant.l0_k.mono _
theorem roadref2_meant.j4_eq (s_0 s_4 x_5 s_6 b_47) : roadref2_meant.j4 s_0 s_4 x_5 s_6 b_47 = if b_47 = true then (if 0 ≤ (0 : Int) ∧ (0 : Int) ≤ (1 : Int) ∧ (1 : Int) ≤ ((ByteArray.size s_6 : Nat) : Int) then (if ByteArray.size s_4 + ByteArray.size (ByteArray.extract s_6 (Int.toNat (0 : Int)) (Int.toNat (1 : Int))) ≤ 9223372036854775807 then ((roadref2_meant.l0 s_0 (s_4 ++ (ByteArray.extract s_6 (Int.toNat (0 : Int)) (Int.toNat (1 : Int)))) (IntKind.wrap .i64 (x_5 + (2 : Int))))) else none) else none) else (if ((ByteArray.size s_6 : Nat) : Int) > (2 : Int) then (Option.bind (gb s_6 (0 : Int)) fun y3 => if y3 = (120 : Int) then (if 0 ≤ (1 : Int) ∧ (1 : Int) ≤ (3 : Int) ∧ (3 : Int) ≤ ((ByteArray.size s_6 : Nat) : Int) then (Option.bind (roadref2_run (ByteArray.extract s_6 (Int.toNat (1 : Int)) (Int.toNat (3 : Int))) (ByteArray.mk #[48, 49, 50, 51, 52, 53, 54, 55, 56, 57, 97, 98, 99, 100, 101, 102])) fun y10 => (roadref2_meant.j5 s_0 s_4 x_5 s_6 (y10 == (2 : Int)))) else none) else ((roadref2_meant.j5 s_0 s_4 x_5 s_6 false))) else ((roadref2_meant.j5 s_0 s_4 x_5 s_6 false))) := fixF_eq roadref2_meant.l0_k.mono _
theorem roadref2_meant.j5_eq (s_0 s_4 x_5 s_6 b_58) : roadref2_meant.j5 s_0 s_4 x_5 s_6 b_58 = if b_58 = true then (if 0 ≤ (1 : Int) ∧ (1 : Int) ≤ (3 : Int) ∧ (3 : Int) ≤ ((ByteArray.size s_6 : Nat) : Int) then (Option.bind (strconv_ParseUint (ByteArray.extract s_6 (Int.toNat (1 : Int)) (Int.toNat (3 : Int))) (16 : Int) (8 : Int)) fun y2 => if ByteArray.size s_4 + ByteArray.size (bytesOf ([(IntKind.wrap .u8 y2.1)] : List Int)) ≤ 9223372036854775807 then ((roadref2_meant.l0 s_0 (s_4 ++ (bytesOf ([(IntKind.wrap .u8 y2.1)] : List Int))) (IntKind.wrap .i64 (x_5 + (4 : Int))))) else none) else none) else (some ((ByteArray.mk #[]), (-1 : Int))) := fixF_eq roadref2_meant.l0_k.mono _
def roadref2_meant.l0_k.I : (p : roadref2_meant.l0_k.Pt) → (ByteArray × Int) → Prop
 | .l0 s_0 s_4 x_5, r => ∀ {W h0 m0 h m} (O : Hold W h0 m0 h m []) (tab : TB m), f82.l0 (roadref2_meant.post W h0 m0 r) s_0 s_4 x_5 h
 | .j3 s_0 s_4 x_5, r => ∀ {W h0 m0 h m} (O : Hold W h0 m0 h m []) (tab : TB m), f82.j3 (roadref2_meant.post W h0 m0 r) s_0 s_4 x_5 h
 | .j4 s_0 s_4 x_5 s_6 b_47, r => ∀ {W h0 m0 h m} (O : Hold W h0 m0 h m []) (tab : TB m), f82.j4 (roadref2_meant.post W h0 m0 r) s_0 s_4 x_5 s_6 b_47 h
 | .j5 s_0 s_4 x_5 s_6 b_58, r => ∀ {W h0 m0 h m} (O : Hold W h0 m0 h m []) (tab : TB m), f82.j5 (roadref2_meant.post W h0 m0 r) s_0 s_4 x_5 s_6 b_58 h
theorem roadref2_meant.l0_k.step_l0 (go : (p : roadref2_meant.l0_k.Pt) → Option (ByteArray × Int)) (ih : ∀ p r, go p = some r → roadref2_meant.l0_k.I p r) (s_0 s_4 x_5) (r) (e : roadref2_meant.l0_k.body go (.l0 s_0 s_4 x_5) = some r) : roadref2_meant.l0_k.I (.l0 s_0 s_4 x_5) r := by
 unfold roadref2_meant.l0_k.body at e
 intro W h0 m0 h m O tab
 refine f82.l0_in ?_
 unfold f82.l0T
 refine split_dec_e e (fun c8 e => ?_) (fun c8 e => ?_)
 · obtain ⟨y1, g2, e⟩ := bind_e e
   obtain ⟨q3, b4, q5, q6⟩ := gb_e g2
   refine ⟨q3, _, q5, ?_⟩
   try rw [← q6]
   refine split_ne_e e (fun c7 e => ?_) (fun c7 e => ?_)
   · exact (ih _ _ e) (O.pick []).nm tab
   · exact roadref2_meant.j0.walk (O.pick []).nm tab e
 · exact roadref2_meant.j0.walk (O.pick []).nm tab e
set_option maxHeartbeats 4000000 in
theorem roadref2_meant.l0_k.step_j3 (go : (p : roadref2_meant.l0_k.Pt) → Option (ByteArray × Int)) (ih : ∀ p r, go p = some r → roadref2_meant.l0_k.I p r) (s_0 s_4 x_5) (r) (e : roadref2_meant.l0_k.body go (.j3 s_0 s_4 x_5) = some r) : roadref2_meant.l0_k.I (.j3 s_0 s_4 x_5) r := by
 unfold roadref2_meant.l0_k.body at e
 intro W h0 m0 h m O tab
 refine f82.j3_in ?_
 unfold f82.j3T
 obtain ⟨y1, g2, e⟩ := bind_e e
 obtain ⟨q3, b4, q5, q6⟩ := gb_e g2
 refine ⟨q3, _, q5, ?_⟩
 try rw [← q6]
 refine split_dec_e e (fun c41 e => ?_) (fun c41 e => ?_)
 · cases e
   exact ⟨_, O.pick [], rfl⟩
 · obtain ⟨y7, g8, e⟩ := bind_e e
   obtain ⟨q9, b10, q11, q12⟩ := gb_e g8
   refine ⟨q9, _, q11, ?_⟩
   try rw [← q12]
   refine split_ne_e e (fun c40 e => ?_) (fun c40 e => ?_)
   · obtain ⟨g13, e⟩ := guard_e e
     refine ⟨g13.1, g13.2.1, g13.2.2, ?_⟩
     obtain ⟨g14, e⟩ := guard_e e
     refine ⟨g14, ?_⟩
     exact (ih _ _ e) (O.pick []).nm tab
   · obtain ⟨g15, e⟩ := guard_e e
     refine ⟨g15.1, g15.2.1, g15.2.2, ?_⟩
     obtain ⟨y16, g17, e⟩ := bind_e e
     refine (strings_HasPrefix.walk (Hold.start (W := No) O.s)  g17).mono ?_
     rintro _ h18 ⟨m19, Q20, rfl⟩
     have O22 := Hold.nm (O.retC Q20 vfs_nil)
     refine ⟨_, rfl, ?_⟩
     refine split_any_e e (fun c39 e => ?_) (fun c39 e => ?_)
     · obtain ⟨g23, e⟩ := guard_e e
       refine ⟨g23, ?_⟩
       exact (ih _ _ e) (O22.pick []).nm tab
     · obtain ⟨y24, g25, e⟩ := bind_e e
       refine (strings_HasPrefix.walk (Hold.start (W := No) O22.s)  g25).mono ?_
       rintro _ h26 ⟨m27, Q28, rfl⟩
       have O30 := Hold.nm (O22.retC Q28 vfs_nil)
       refine ⟨_, rfl, ?_⟩
       refine split_any_e e (fun c38 e => ?_) (fun c38 e => ?_)
       · exact (ih _ _ e) (O30.pick []).nm tab
       · obtain ⟨y31, g32, e⟩ := bind_e e
         refine (strings_HasPrefix.walk (Hold.start (W := No) O30.s)  g32).mono ?_
         rintro _ h33 ⟨m34, Q35, rfl⟩
         have O37 := Hold.nm (O30.retC Q35 vfs_nil)
         refine ⟨_, rfl, ?_⟩
         exact (ih _ _ e) (O37.pick []).nm tab
theorem roadref2_meant.l0_k.step_j4 (go : (p : roadref2_meant.l0_k.Pt) → Option (ByteArray × Int)) (ih : ∀ p r, go p = some r → roadref2_meant.l0_k.I p r) (s_0 s_4 x_5 s_6 b_47) (r) (e : roadref2_meant.l0_k.body go (.j4 s_0 s_4 x_5 s_6 b_47) = some r) : roadref2_meant.l0_k.I (.j4 s_0 s_4 x_5 s_6 b_47) r := by
 unfold roadref2_meant.l0_k.body at e
 intro W h0 m0 h m O tab
 refine f82.j4_in ?_
 unfold f82.j4T
 refine split_any_e e (fun c19 e => ?_) (fun c19 e => ?_)
 · obtain ⟨g1, e⟩ := guard_e e
   refine ⟨g1.1, g1.2.1, g1.2.2, ?_⟩
   obtain ⟨g2, e⟩ := guard_e e
   refine ⟨g2, ?_⟩
   exact (ih _ _ e) (O.pick []).nm tab
 · refine split_dec_e e (fun c18 e => ?_) (fun c18 e => ?_)
   · obtain ⟨y3, g4, e⟩ := bind_e e
     obtain ⟨q5, b6, q7, q8⟩ := gb_e g4
     refine ⟨q5, _, q7, ?_⟩
     try rw [← q8]
     refine split_eq_e e (fun c17 e => ?_) (fun c17 e => ?_)
     · obtain ⟨g9, e⟩ := guard_e e
       refine ⟨g9.1, g9.2.1, g9.2.2, ?_⟩
       obtain ⟨y10, g11, e⟩ := bind_e e
       refine (roadref2_run.walk (Hold.start (W := No) O.s)  g11).mono ?_
       rintro _ h12 ⟨m13, Q14, rfl⟩
       have O16 := Hold.nm (O.retC Q14 vfs_nil)
       refine ⟨_, rfl, ?_⟩
       exact (ih _ _ e) (O16.pick []).nm tab
     · exact (ih _ _ e) (O.pick []).nm tab
   · exact (ih _ _ e) (O.pick []).nm tab
theorem roadref2_meant.l0_k.step_j5 (go : (p : roadref2_meant.l0_k.Pt) → Option (ByteArray × Int)) (ih : ∀ p r, go p = some r → roadref2_meant.l0_k.I p r) (s_0 s_4 x_5 s_6 b_58) (r) (e : roadref2_meant.l0_k.body go (.j5 s_0 s_4 x_5 s_6 b_58) = some r) : roadref2_meant.l0_k.I (.j5 s_0 s_4 x_5 s_6 b_58) r := by
 unfold roadref2_meant.l0_k.body at e
 intro W h0 m0 h m O tab
 refine f82.j5_in ?_
 unfold f82.j5T
 refine split_any_e e (fun c16 e => ?_) (fun c16 e => ?_)
 · obtain ⟨g1, e⟩ := guard_e e
   refine ⟨g1.1, g1.2.1, g1.2.2, ?_⟩
   obtain ⟨y2, g3, e⟩ := bind_e e
   refine (strconv_ParseUint.walk (Hold.start (W := No) O.s) tab g3).mono ?_
   rintro _ h4 ⟨m5, Q6, rfl⟩
   have O8 := Hold.nm (O.retC Q6 vfs_nil)
   refine ⟨_, _, rfl, ?_⟩
   refine O8.new fun h9 x10 O11 => ?_
   have O13 := O11.rowE (l := ([(IntKind.wrap .u8 y2.1)] : List Int)) 0 rfl (tell_int .u8) (show CsE _ _ _ _ _ from (CsE.cons (c1 := [(Value.int .u8 (IntKind.wrap .u8 y2.1))]) rfl rfl CsE.nil)) rfl
   refine gen_b2s' (e := 5) (by kernel_rfl) (by kernel_rfl) (by kernel_rfl) ((O13.os 0 rfl).rd (tell_int .u8) O13.s) rfl ?_
   refine ⟨_, rfl, ?_⟩
   obtain ⟨g14, e⟩ := guard_e e
   refine ⟨g14, ?_⟩
   have O15 := O13.nm
   exact (ih _ _ e) (O15.pick []).nm tab
 · cases e
   exact ⟨_, O.pick [], rfl⟩
theorem roadref2_meant.l0_k.all {p : roadref2_meant.l0_k.Pt} {r : (ByteArray × Int)} (e : roadref2_meant.l0_k.go p = some r) : roadref2_meant.l0_k.I p r := fixF_ind (β := fun _ => (ByteArray × Int)) roadref2_meant.l0_k.mono (I := roadref2_meant.l0_k.I) (fun go ih p r e => match p with
 | .l0 s_0 s_4 x_5 => roadref2_meant.l0_k.step_l0 go ih s_0 s_4 x_5 r e
 | .j3 s_0 s_4 x_5 => roadref2_meant.l0_k.step_j3 go ih s_0 s_4 x_5 r e
 | .j4 s_0 s_4 x_5 s_6 b_47 => roadref2_meant.l0_k.step_j4 go ih s_0 s_4 x_5 s_6 b_47 r e
 | .j5 s_0 s_4 x_5 s_6 b_58 => roadref2_meant.l0_k.step_j5 go ih s_0 s_4 x_5 s_6 b_58 r e
 ) e
noncomputable def roadref2_meant (s_0 : ByteArray) : Option (ByteArray × Int) :=
 (roadref2_meant.l0 s_0 (ByteArray.mk #[]) (1 : Int))
theorem roadref2_meant.walk {W h m s_0} (O : Hold W h m h m []) (tab : TB m) {r} (e : roadref2_meant s_0 = some r) : Run Tryd.prog 82 #[Value.string s_0] h (roadref2_meant.post W h m r) := by
 unfold roadref2_meant at e
 refine f82.run ?_
 unfold f82.runT
 exact (roadref2_meant.l0_k.all e) (O.pick []).nm tab
def roadref2_token.post (W : Nat → Prop) (h0 m0 : Heap) (r : T_roadref2_Tok × Int) (v : Value) (h : Heap) : Prop := ∃ m cs0, Hold W h0 m0 h m [] ∧ v = .tuple #[.agg cs0.toArray, .int .i64 r.2] ∧ T_roadref2_Tok.E m r.1 cs0
inductive roadref2_token.l0_k.Pt where
 | l0 (s_0 : ByteArray) (y_2 : T_roadref2_Tok) (a_70 : List ByteArray) (x_71 : Int) (x_72 : Int)
noncomputable def roadref2_token.l0_k.body (go : (p : roadref2_token.l0_k.Pt) → Option (T_roadref2_Tok × Int)) : (p : roadref2_token.l0_k.Pt) → Option (T_roadref2_Tok × Int)
 | .l0 s_0 y_2 a_70 x_71 x_72 => if x_72 < x_71 then (Option.bind (gi a_70 x_72) fun y1 => Option.bind (strings_HasPrefix s_0 y1) fun y8 => if y8 = true then (some ((T_roadref2_Tok.mk (6 : Int) y1 (0 : Int)), ((ByteArray.size y1 : Nat) : Int))) else ((go (.l0 s_0 y_2 a_70 x_71 (IntKind.wrap .i64 (x_72 + (1 : Int))))))) else (some ((T_roadref2_Tok.mk (0 : Int) (ByteArray.mk #[]) (0 : Int)), (-1 : Int)))
theorem roadref2_token.l0_k.mono : MonoF (β := fun _ => (T_roadref2_Tok × Int)) roadref2_token.l0_k.body := fun f g hfg p => match p with
 | .l0 s_0 y_2 a_70 x_71 x_72 => LeO.ite (LeO.bind (LeO.refl _) fun y1 => LeO.bind (LeO.refl _) fun y8 => LeO.ite (LeO.refl _) ((hfg _))) (LeO.refl _)
noncomputable def roadref2_token.l0_k.go (p : roadref2_token.l0_k.Pt) : Option (T_roadref2_Tok × Int) := fixF (β := fun _ => (T_roadref2_Tok × Int)) roadref2_token.l0_k.body p
noncomputable def roadref2_token.l0 (s_0 y_2 a_70 x_71 x_72) := roadref2_token.l0_k.go (.l0 s_0 y_2 a_70 x_71 x_72)
theorem roadref2_token.l0_eq (s_0 y_2 a_70 x_71 x_72) : roadref2_token.l0 s_0 y_2 a_70 x_71 x_72 = if x_72 < x_71 then (Option.bind (gi a_70 x_72) fun y1 => Option.bind (strings_HasPrefix s_0 y1) fun y8 => if y8 = true then (some ((T_roadref2_Tok.mk (6 : Int) y1 (0 : Int)), ((ByteArray.size y1 : Nat) : Int))) else ((roadref2_token.l0 s_0 y_2 a_70 x_71 (IntKind.wrap .i64 (x_72 + (1 : Int)))))) else (some ((T_roadref2_Tok.mk (0 : Int) (ByteArray.mk #[]) (0 : Int)), (-1 : Int))) := fixF_eq roadref2_token.l0_k.mono _
def roadref2_token.l0_k.I : (p : roadref2_token.l0_k.Pt) → (T_roadref2_Tok × Int) → Prop
 | .l0 s_0 y_2 a_70 x_71 x_72, r => ∀ {W h0 m0 h m bk_2 cs_2 A_70 n_70 c_70} (O : Hold W h0 m0 h m [rV bk_2 70 cs_2, rR (aE tell_str) A_70 c_70 a_70]) (e_2 : T_roadref2_Tok.E m y_2 cs_2) (ne_70 : n_70 = List.length a_70) (tab : TB m), f60.l0 (roadref2_token.post W h0 m0 r) s_0 (⟨bk_2, 0, none⟩ : Addr) A_70 n_70 c_70 x_71 x_72 h
theorem roadref2_token.l0_k.step_l0 (go : (p : roadref2_token.l0_k.Pt) → Option (T_roadref2_Tok × Int)) (ih : ∀ p r, go p = some r → roadref2_token.l0_k.I p r) (s_0 y_2 a_70 x_71 x_72) (r) (e : roadref2_token.l0_k.body go (.l0 s_0 y_2 a_70 x_71 x_72) = some r) : roadref2_token.l0_k.I (.l0 s_0 y_2 a_70 x_71 x_72) r := by
 unfold roadref2_token.l0_k.body at e
 intro W h0 m0 h m bk_2 cs_2 A_70 n_70 c_70 O e_2 ne_70 tab
 subst ne_70
 refine f60.l0_in ?_
 unfold f60.l0T
 refine split_dec_e e (fun c22 e => ?_) (fun c22 e => ?_)
 · obtain ⟨y1, g2, e⟩ := bind_e e
   refine (O.os 1 rfl).addr rfl g2 fun a3 cs4 ha5 hc6 he7 => ?_
   obtain rfl : cs4 = [(Value.string y1)] := he7
   refine ⟨_, ld0 (Sub.refl _) hc6 rfl, _, rfl, ?_⟩
   obtain ⟨y8, g9, e⟩ := bind_e e
   refine (strings_HasPrefix.walk (Hold.start (W := No) O.s)  g9).mono ?_
   rintro _ h10 ⟨m11, Q12, rfl⟩
   have O14 := Hold.nm (O.retC Q12 vfs_nil)
   refine ⟨_, rfl, ?_⟩
   refine split_any_e e (fun c18 e => ?_) (fun c18 e => ?_)
   · refine ⟨_, rfl, rfl, ?_⟩
     refine O14.stA 0 rfl ((T_roadref2_Tok.T.len _ _ _ e_2)).symm (Flats.cons trivial (Flats.cons trivial (Flats.cons trivial Flats.nil))) fun h15 O16 => ?_
     refine ⟨_, ldAn (Sub.refl _) (O16.all 0 rfl) rfl, ?_⟩
     have O17 := O16.nm
     cases e
     exact ⟨_, _, O17.pick [], rfl, (show T_roadref2_Tok.E _ (T_roadref2_Tok.mk (6 : Int) y1 (0 : Int)) [(Value.int .i64 (6 : Int)), (Value.string y1), (Value.int .i64 (0 : Int))] from rfl)⟩
   · exact (ih _ _ e) (O14.pick [0, 1]).nm e_2 rfl tab
 · refine ⟨_, rfl, rfl, ?_⟩
   refine O.stA 0 rfl ((T_roadref2_Tok.T.len _ _ _ e_2)).symm (Flats.cons trivial (Flats.cons trivial (Flats.cons trivial Flats.nil))) fun h19 O20 => ?_
   refine ⟨_, ldAn (Sub.refl _) (O20.all 0 rfl) rfl, ?_⟩
   have O21 := O20.nm
   cases e
   exact ⟨_, _, O21.pick [], rfl, (show T_roadref2_Tok.E _ (T_roadref2_Tok.mk (0 : Int) (ByteArray.mk #[]) (0 : Int)) [(Value.int .i64 (0 : Int)), (Value.string (ByteArray.mk #[])), (Value.int .i64 (0 : Int))] from rfl)⟩
theorem roadref2_token.l0_k.all {p : roadref2_token.l0_k.Pt} {r : (T_roadref2_Tok × Int)} (e : roadref2_token.l0_k.go p = some r) : roadref2_token.l0_k.I p r := fixF_ind (β := fun _ => (T_roadref2_Tok × Int)) roadref2_token.l0_k.mono (I := roadref2_token.l0_k.I) (fun go ih p r e => match p with
 | .l0 s_0 y_2 a_70 x_71 x_72 => roadref2_token.l0_k.step_l0 go ih s_0 y_2 a_70 x_71 x_72 r e
 ) e
noncomputable def roadref2_token.j0 (s_0 : ByteArray) (y_2 : T_roadref2_Tok) : Option (T_roadref2_Tok × Int) :=
 Option.bind (strings_Fields (ByteArray.mk #[61, 62, 32, 45, 62, 32, 40, 32, 41, 32, 91, 32, 93, 32, 123, 32, 125, 32, 44, 32, 59, 32, 58, 32, 61, 32, 43, 32, 45, 32, 42, 32, 47, 32, 37, 32, 60, 32, 94, 32, 124, 32, 95])) fun y1 => (roadref2_token.l0 s_0 y_2 y1 (((List.length y1) : Nat) : Int) (0 : Int))
theorem roadref2_token.j0.walk {W h0 m0 h m bk_2 cs_2 s_0 y_2} (O : Hold W h0 m0 h m [rV bk_2 70 cs_2]) (e_2 : T_roadref2_Tok.E m y_2 cs_2) (tab : TB m) {r} (e : roadref2_token.j0 s_0 y_2 = some r) : f60.j0 (roadref2_token.post W h0 m0 r) s_0 (⟨bk_2, 0, none⟩ : Addr) h := by
 unfold roadref2_token.j0 at e
 refine f60.j0_in ?_
 unfold f60.j0T
 obtain ⟨y1, g2, e⟩ := bind_e e
 refine (strings_Fields.walk (Hold.start (W := No) O.s) tab g2).mono ?_
 rintro _ h3 ⟨m4, A7, n8, c9, Q5, rfl, ne10⟩
 have O12 := Hold.nm (O.retC Q5 (vfs_cons (rR_vf (aE_vf (fun _ _ _ _ h => h))) vfs_nil))
 subst ne10
 refine ⟨_, _, _, rfl, ?_⟩
 exact (roadref2_token.l0_k.all e) (O12.pick [0, 1]).nm e_2 rfl tab
noncomputable def roadref2_token.j1 (s_0 : ByteArray) (y_2 : T_roadref2_Tok) (x_7 : Int) (b_46 : Bool) : Option (T_roadref2_Tok × Int) :=
 if b_46 = true then (if 0 ≤ (0 : Int) ∧ (0 : Int) ≤ x_7 ∧ x_7 ≤ ((ByteArray.size s_0 : Nat) : Int) then (Option.bind (roadref2_WordList ) fun y2 => Option.bind (slices_Contains_22 y2 (ByteArray.extract s_0 (Int.toNat (0 : Int)) (Int.toNat x_7))) fun y14 => if y14 = true then (some ((T_roadref2_Tok.mk (3 : Int) (ByteArray.extract s_0 (Int.toNat (0 : Int)) (Int.toNat x_7)) (0 : Int)), x_7)) else (Option.bind (roadref2_Small (ByteArray.extract s_0 (Int.toNat (0 : Int)) (Int.toNat x_7))) fun y31 => if y31 = true then (some ((T_roadref2_Tok.mk (1 : Int) (ByteArray.extract s_0 (Int.toNat (0 : Int)) (Int.toNat x_7)) (0 : Int)), x_7)) else (Option.bind (roadref2_Great (ByteArray.extract s_0 (Int.toNat (0 : Int)) (Int.toNat x_7))) fun y41 => if y41 = true then (some ((T_roadref2_Tok.mk (2 : Int) (ByteArray.extract s_0 (Int.toNat (0 : Int)) (Int.toNat x_7)) (0 : Int)), x_7)) else (some ((T_roadref2_Tok.mk (0 : Int) (ByteArray.mk #[]) (0 : Int)), (-1 : Int)))))) else none) else ((roadref2_token.j0 s_0 y_2))
set_option maxHeartbeats 4000000 in
theorem roadref2_token.j1.walk {W h0 m0 h m bk_2 cs_2 s_0 y_2 x_7 b_46} (O : Hold W h0 m0 h m [rV bk_2 70 cs_2]) (e_2 : T_roadref2_Tok.E m y_2 cs_2) (tab : TB m) {r} (e : roadref2_token.j1 s_0 y_2 x_7 b_46 = some r) : f60.j1 (roadref2_token.post W h0 m0 r) s_0 (⟨bk_2, 0, none⟩ : Addr) x_7 b_46 h := by
 unfold roadref2_token.j1 at e
 refine f60.j1_in ?_
 unfold f60.j1T
 refine split_any_e e (fun c57 e => ?_) (fun c57 e => ?_)
 · obtain ⟨g1, e⟩ := guard_e e
   refine ⟨g1.1, g1.2.1, g1.2.2, ?_⟩
   obtain ⟨y2, g3, e⟩ := bind_e e
   refine (roadref2_WordList.walk (Hold.start (W := No) O.s) tab g3).mono ?_
   rintro _ h4 ⟨m5, A8, n9, c10, Q6, rfl, ne11⟩
   have O13 := Hold.nm (O.retC Q6 (vfs_cons (rR_vf (aE_vf (fun _ _ _ _ h => h))) vfs_nil))
   subst ne11
   refine ⟨_, _, _, rfl, ?_⟩
   obtain ⟨y14, g15, e⟩ := bind_e e
   obtain ⟨m20, u21, s26, ⟨⟨r24, k25⟩, _⟩, B22, C23⟩ := O13.lend0 [1]
   replace r24 : Rd 1 eStr m20 A8 y2 := r24
   replace k25 : List.length y2 ≤ c10 := k25
   refine (slices_Contains_22.walk (Hold.start (W := No) s26) rfl k25 r24 g15).mono ?_
   rintro _ h16 ⟨m17, Q18, rfl⟩
   have O27 := Hold.nm (C23 Q18 vfs_nil)
   refine ⟨_, rfl, ?_⟩
   refine split_any_e e (fun c56 e => ?_) (fun c56 e => ?_)
   · refine ⟨_, rfl, rfl, ?_⟩
     refine O27.stA 0 rfl ((T_roadref2_Tok.T.len _ _ _ e_2)).symm (Flats.cons trivial (Flats.cons trivial (Flats.cons trivial Flats.nil))) fun h28 O29 => ?_
     refine ⟨_, ldAn (Sub.refl _) (O29.all 0 rfl) rfl, ?_⟩
     have O30 := O29.nm
     cases e
     exact ⟨_, _, O30.pick [], rfl, (show T_roadref2_Tok.E _ (T_roadref2_Tok.mk (3 : Int) (ByteArray.extract s_0 (Int.toNat (0 : Int)) (Int.toNat x_7)) (0 : Int)) [(Value.int .i64 (3 : Int)), (Value.string (ByteArray.extract s_0 (Int.toNat (0 : Int)) (Int.toNat x_7))), (Value.int .i64 (0 : Int))] from rfl)⟩
   · obtain ⟨y31, g32, e⟩ := bind_e e
     refine (roadref2_Small.walk (Hold.start (W := No) O27.s) tab g32).mono ?_
     rintro _ h33 ⟨m34, Q35, rfl⟩
     have O37 := Hold.nm (O27.retC Q35 vfs_nil)
     refine ⟨_, rfl, ?_⟩
     refine split_any_e e (fun c55 e => ?_) (fun c55 e => ?_)
     · refine ⟨_, rfl, rfl, ?_⟩
       refine O37.stA 0 rfl ((T_roadref2_Tok.T.len _ _ _ e_2)).symm (Flats.cons trivial (Flats.cons trivial (Flats.cons trivial Flats.nil))) fun h38 O39 => ?_
       refine ⟨_, ldAn (Sub.refl _) (O39.all 0 rfl) rfl, ?_⟩
       have O40 := O39.nm
       cases e
       exact ⟨_, _, O40.pick [], rfl, (show T_roadref2_Tok.E _ (T_roadref2_Tok.mk (1 : Int) (ByteArray.extract s_0 (Int.toNat (0 : Int)) (Int.toNat x_7)) (0 : Int)) [(Value.int .i64 (1 : Int)), (Value.string (ByteArray.extract s_0 (Int.toNat (0 : Int)) (Int.toNat x_7))), (Value.int .i64 (0 : Int))] from rfl)⟩
     · obtain ⟨y41, g42, e⟩ := bind_e e
       refine (roadref2_Great.walk (Hold.start (W := No) O37.s)  g42).mono ?_
       rintro _ h43 ⟨m44, Q45, rfl⟩
       have O47 := Hold.nm (O37.retC Q45 vfs_nil)
       refine ⟨_, rfl, ?_⟩
       refine split_any_e e (fun c54 e => ?_) (fun c54 e => ?_)
       · refine ⟨_, rfl, rfl, ?_⟩
         refine O47.stA 0 rfl ((T_roadref2_Tok.T.len _ _ _ e_2)).symm (Flats.cons trivial (Flats.cons trivial (Flats.cons trivial Flats.nil))) fun h48 O49 => ?_
         refine ⟨_, ldAn (Sub.refl _) (O49.all 0 rfl) rfl, ?_⟩
         have O50 := O49.nm
         cases e
         exact ⟨_, _, O50.pick [], rfl, (show T_roadref2_Tok.E _ (T_roadref2_Tok.mk (2 : Int) (ByteArray.extract s_0 (Int.toNat (0 : Int)) (Int.toNat x_7)) (0 : Int)) [(Value.int .i64 (2 : Int)), (Value.string (ByteArray.extract s_0 (Int.toNat (0 : Int)) (Int.toNat x_7))), (Value.int .i64 (0 : Int))] from rfl)⟩
       · refine ⟨_, rfl, rfl, ?_⟩
         refine O47.stA 0 rfl ((T_roadref2_Tok.T.len _ _ _ e_2)).symm (Flats.cons trivial (Flats.cons trivial (Flats.cons trivial Flats.nil))) fun h51 O52 => ?_
         refine ⟨_, ldAn (Sub.refl _) (O52.all 0 rfl) rfl, ?_⟩
         have O53 := O52.nm
         cases e
         exact ⟨_, _, O53.pick [], rfl, (show T_roadref2_Tok.E _ (T_roadref2_Tok.mk (0 : Int) (ByteArray.mk #[]) (0 : Int)) [(Value.int .i64 (0 : Int)), (Value.string (ByteArray.mk #[])), (Value.int .i64 (0 : Int))] from rfl)⟩
 · exact roadref2_token.j0.walk (O.pick [0]).nm e_2 tab e
noncomputable def roadref2_token (s_0 : ByteArray) : Option (T_roadref2_Tok × Int) :=
 Option.bind (gb s_0 (0 : Int)) fun y5 => if y5 = (34 : Int) then (Option.bind (roadref2_meant s_0) fun y11 => some ((T_roadref2_Tok.mk (5 : Int) y11.1 (0 : Int)), y11.2)) else (if 0 ≤ (52 : Int) ∧ (52 : Int) ≤ (62 : Int) ∧ (62 : Int) ≤ ((ByteArray.size (ByteArray.mk #[97, 98, 99, 100, 101, 102, 103, 104, 105, 106, 107, 108, 109, 110, 111, 112, 113, 114, 115, 116, 117, 118, 119, 120, 121, 122, 65, 66, 67, 68, 69, 70, 71, 72, 73, 74, 75, 76, 77, 78, 79, 80, 81, 82, 83, 84, 85, 86, 87, 88, 89, 90, 48, 49, 50, 51, 52, 53, 54, 55, 56, 57, 95]) : Nat) : Int) then (Option.bind (roadref2_run s_0 (ByteArray.extract (ByteArray.mk #[97, 98, 99, 100, 101, 102, 103, 104, 105, 106, 107, 108, 109, 110, 111, 112, 113, 114, 115, 116, 117, 118, 119, 120, 121, 122, 65, 66, 67, 68, 69, 70, 71, 72, 73, 74, 75, 76, 77, 78, 79, 80, 81, 82, 83, 84, 85, 86, 87, 88, 89, 90, 48, 49, 50, 51, 52, 53, 54, 55, 56, 57, 95]) (Int.toNat (52 : Int)) (Int.toNat (62 : Int)))) fun y22 => if y22 > (0 : Int) then (if 0 ≤ y22 ∧ y22 ≤ ((ByteArray.size s_0 : Nat) : Int) ∧ ((ByteArray.size s_0 : Nat) : Int) ≤ ((ByteArray.size s_0 : Nat) : Int) then (Option.bind (roadref2_run (ByteArray.extract s_0 (Int.toNat y22) (Int.toNat ((ByteArray.size s_0 : Nat) : Int))) (ByteArray.mk #[97, 98, 99, 100, 101, 102, 103, 104, 105, 106, 107, 108, 109, 110, 111, 112, 113, 114, 115, 116, 117, 118, 119, 120, 121, 122, 65, 66, 67, 68, 69, 70, 71, 72, 73, 74, 75, 76, 77, 78, 79, 80, 81, 82, 83, 84, 85, 86, 87, 88, 89, 90, 48, 49, 50, 51, 52, 53, 54, 55, 56, 57, 95])) fun y30 => if y30 > (0 : Int) then (some ((T_roadref2_Tok.mk (0 : Int) (ByteArray.mk #[]) (0 : Int)), (-1 : Int))) else (if 0 ≤ (0 : Int) ∧ (0 : Int) ≤ y22 ∧ y22 ≤ ((ByteArray.size s_0 : Nat) : Int) then (some ((T_roadref2_Tok.mk (4 : Int) (ByteArray.extract s_0 (Int.toNat (0 : Int)) (Int.toNat y22)) (0 : Int)), y22)) else none)) else none) else (Option.bind (roadref2_run s_0 (ByteArray.mk #[97, 98, 99, 100, 101, 102, 103, 104, 105, 106, 107, 108, 109, 110, 111, 112, 113, 114, 115, 116, 117, 118, 119, 120, 121, 122, 65, 66, 67, 68, 69, 70, 71, 72, 73, 74, 75, 76, 77, 78, 79, 80, 81, 82, 83, 84, 85, 86, 87, 88, 89, 90, 48, 49, 50, 51, 52, 53, 54, 55, 56, 57, 95])) fun y45 => if y45 > (0 : Int) then (Option.bind (gb s_0 (0 : Int)) fun y52 => (roadref2_token.j1 s_0 (T_roadref2_Tok.mk (0 : Int) (ByteArray.mk #[]) (0 : Int)) y45 (y52 != (95 : Int)))) else ((roadref2_token.j1 s_0 (T_roadref2_Tok.mk (0 : Int) (ByteArray.mk #[]) (0 : Int)) y45 false)))) else none)
set_option maxHeartbeats 4000000 in
theorem roadref2_token.walk {W h m s_0} (O : Hold W h m h m []) (tab : TB m) {r} (e : roadref2_token s_0 = some r) : Run Tryd.prog 60 #[Value.string s_0] h (roadref2_token.post W h m r) := by
 unfold roadref2_token at e
 refine f60.run ?_
 unfold f60.runT
 refine O.new fun h1 x2 O3 => ?_
 obtain ⟨y5, g6, e⟩ := bind_e e
 obtain ⟨q7, b8, q9, q10⟩ := gb_e g6
 refine ⟨q7, _, q9, ?_⟩
 try rw [← q10]
 refine split_eq_e e (fun c60 e => ?_) (fun c60 e => ?_)
 · obtain ⟨y11, g12, e⟩ := bind_e e
   refine (roadref2_meant.walk (Hold.start (W := No) O3.s) tab g12).mono ?_
   rintro _ h13 ⟨m14, Q15, rfl⟩
   have O17 := Hold.nm (O3.retC Q15 vfs_nil)
   refine ⟨_, _, rfl, ?_⟩
   refine ⟨_, rfl, rfl, ?_⟩
   refine O17.stA 0 rfl rfl (Flats.cons trivial (Flats.cons trivial (Flats.cons trivial Flats.nil))) fun h18 O19 => ?_
   refine ⟨_, ldAn (Sub.refl _) (O19.all 0 rfl) rfl, ?_⟩
   have O20 := O19.nm
   cases e
   exact ⟨_, _, O20.pick [], rfl, (show T_roadref2_Tok.E _ (T_roadref2_Tok.mk (5 : Int) y11.1 (0 : Int)) [(Value.int .i64 (5 : Int)), (Value.string y11.1), (Value.int .i64 (0 : Int))] from rfl)⟩
 · obtain ⟨g21, e⟩ := guard_e e
   refine ⟨g21.1, g21.2.1, g21.2.2, ?_⟩
   obtain ⟨y22, g23, e⟩ := bind_e e
   refine (roadref2_run.walk (Hold.start (W := No) O3.s)  g23).mono ?_
   rintro _ h24 ⟨m25, Q26, rfl⟩
   have O28 := Hold.nm (O3.retC Q26 vfs_nil)
   refine ⟨_, rfl, ?_⟩
   refine split_dec_e e (fun c59 e => ?_) (fun c59 e => ?_)
   · obtain ⟨g29, e⟩ := guard_e e
     refine ⟨g29.1, g29.2.1, g29.2.2, ?_⟩
     obtain ⟨y30, g31, e⟩ := bind_e e
     refine (roadref2_run.walk (Hold.start (W := No) O28.s)  g31).mono ?_
     rintro _ h32 ⟨m33, Q34, rfl⟩
     have O36 := Hold.nm (O28.retC Q34 vfs_nil)
     refine ⟨_, rfl, ?_⟩
     refine split_dec_e e (fun c44 e => ?_) (fun c44 e => ?_)
     · refine ⟨_, rfl, rfl, ?_⟩
       refine O36.stA 0 rfl rfl (Flats.cons trivial (Flats.cons trivial (Flats.cons trivial Flats.nil))) fun h37 O38 => ?_
       refine ⟨_, ldAn (Sub.refl _) (O38.all 0 rfl) rfl, ?_⟩
       have O39 := O38.nm
       cases e
       exact ⟨_, _, O39.pick [], rfl, (show T_roadref2_Tok.E _ (T_roadref2_Tok.mk (0 : Int) (ByteArray.mk #[]) (0 : Int)) [(Value.int .i64 (0 : Int)), (Value.string (ByteArray.mk #[])), (Value.int .i64 (0 : Int))] from rfl)⟩
     · obtain ⟨g40, e⟩ := guard_e e
       refine ⟨g40.1, g40.2.1, g40.2.2, ?_⟩
       refine ⟨_, rfl, rfl, ?_⟩
       refine O36.stA 0 rfl rfl (Flats.cons trivial (Flats.cons trivial (Flats.cons trivial Flats.nil))) fun h41 O42 => ?_
       refine ⟨_, ldAn (Sub.refl _) (O42.all 0 rfl) rfl, ?_⟩
       have O43 := O42.nm
       cases e
       exact ⟨_, _, O43.pick [], rfl, (show T_roadref2_Tok.E _ (T_roadref2_Tok.mk (4 : Int) (ByteArray.extract s_0 (Int.toNat (0 : Int)) (Int.toNat y22)) (0 : Int)) [(Value.int .i64 (4 : Int)), (Value.string (ByteArray.extract s_0 (Int.toNat (0 : Int)) (Int.toNat y22))), (Value.int .i64 (0 : Int))] from rfl)⟩
   · obtain ⟨y45, g46, e⟩ := bind_e e
     refine (roadref2_run.walk (Hold.start (W := No) O28.s)  g46).mono ?_
     rintro _ h47 ⟨m48, Q49, rfl⟩
     have O51 := Hold.nm (O28.retC Q49 vfs_nil)
     refine ⟨_, rfl, ?_⟩
     refine split_dec_e e (fun c58 e => ?_) (fun c58 e => ?_)
     · obtain ⟨y52, g53, e⟩ := bind_e e
       obtain ⟨q54, b55, q56, q57⟩ := gb_e g53
       refine ⟨q54, _, q56, ?_⟩
       try rw [← q57]
       exact roadref2_token.j1.walk (O51.pick [0]).nm (show T_roadref2_Tok.E _ (T_roadref2_Tok.mk (0 : Int) (ByteArray.mk #[]) (0 : Int)) [(Value.int .i64 (0 : Int)), (Value.string (ByteArray.mk #[])), (Value.int .i64 (0 : Int))] from rfl) tab e
     · exact roadref2_token.j1.walk (O51.pick [0]).nm (show T_roadref2_Tok.E _ (T_roadref2_Tok.mk (0 : Int) (ByteArray.mk #[]) (0 : Int)) [(Value.int .i64 (0 : Int)), (Value.string (ByteArray.mk #[])), (Value.int .i64 (0 : Int))] from rfl) tab e
def roadref2_Tokens.post (W : Nat → Prop) (h0 m0 : Heap) (r : (List T_roadref2_Tok) × Int × Int) (v : Value) (h : Heap) : Prop := ∃ m A0 n0 c0, Hold W h0 m0 h m [rR (aE T_roadref2_Tok.T) A0 c0 r.1] ∧ v = .tuple #[.slice A0 n0 c0, .int .i64 r.2.1, .int .i64 r.2.2] ∧ n0 = List.length r.1
inductive roadref2_Tokens.l0_k.Pt where
 | l0 (s_0 : ByteArray) (a_5 : List T_roadref2_Tok) (x_6 : Int)
 | j0 (s_0 : ByteArray) (a_5 : List T_roadref2_Tok) (x_6 : Int) (x_8 : Int)
noncomputable def roadref2_Tokens.l0_k.body (go : (p : roadref2_Tokens.l0_k.Pt) → Option ((List T_roadref2_Tok) × Int × Int)) : (p : roadref2_Tokens.l0_k.Pt) → Option ((List T_roadref2_Tok) × Int × Int)
 | .l0 s_0 a_5 x_6 => if x_6 < ((ByteArray.size s_0 : Nat) : Int) then (if 0 ≤ x_6 ∧ x_6 ≤ ((ByteArray.size s_0 : Nat) : Int) ∧ ((ByteArray.size s_0 : Nat) : Int) ≤ ((ByteArray.size s_0 : Nat) : Int) then (Option.bind (roadref2_run (ByteArray.extract s_0 (Int.toNat x_6) (Int.toNat ((ByteArray.size s_0 : Nat) : Int))) (ByteArray.mk #[32, 9, 10])) fun y2 => if y2 > (0 : Int) then ((go (.l0 s_0 a_5 (IntKind.wrap .i64 (x_6 + y2))))) else (Option.bind (gb s_0 x_6) fun y9 => if y9 = (35 : Int) then (if 0 ≤ x_6 ∧ x_6 ≤ ((ByteArray.size s_0 : Nat) : Int) ∧ ((ByteArray.size s_0 : Nat) : Int) ≤ ((ByteArray.size s_0 : Nat) : Int) then (Option.bind (strings_IndexByte (ByteArray.extract s_0 (Int.toNat x_6) (Int.toNat ((ByteArray.size s_0 : Nat) : Int))) (10 : Int)) fun y16 => if y16 < (0 : Int) then ((go (.j0 s_0 a_5 x_6 (IntKind.wrap .i64 (((ByteArray.size s_0 : Nat) : Int) - x_6))))) else ((go (.j0 s_0 a_5 x_6 y16)))) else none) else (if 0 ≤ x_6 ∧ x_6 ≤ ((ByteArray.size s_0 : Nat) : Int) ∧ ((ByteArray.size s_0 : Nat) : Int) ≤ ((ByteArray.size s_0 : Nat) : Int) then (Option.bind (roadref2_token (ByteArray.extract s_0 (Int.toNat x_6) (Int.toNat ((ByteArray.size s_0 : Nat) : Int)))) fun y25 => if y25.2 < (0 : Int) then (some (([] : List T_roadref2_Tok), x_6, (10 : Int))) else (Option.bind (ap 32 a_5 ([({ y25.1 with At := x_6 })] : List T_roadref2_Tok)) fun l53 => (go (.l0 s_0 l53 (IntKind.wrap .i64 (x_6 + y25.2)))))) else none))) else none) else (some (a_5, (0 : Int), (0 : Int)))
 | .j0 s_0 a_5 x_6 x_8 => (go (.l0 s_0 a_5 (IntKind.wrap .i64 (x_6 + x_8))))
theorem roadref2_Tokens.l0_k.mono : MonoF (β := fun _ => ((List T_roadref2_Tok) × Int × Int)) roadref2_Tokens.l0_k.body := fun f g hfg p => match p with
 | .l0 s_0 a_5 x_6 => LeO.ite (LeO.ite (LeO.bind (LeO.refl _) fun y2 => LeO.ite ((hfg _)) (LeO.bind (LeO.refl _) fun y9 => LeO.ite (LeO.ite (LeO.bind (LeO.refl _) fun y16 => LeO.ite ((hfg _)) ((hfg _))) (LeO.refl _)) (LeO.ite (LeO.bind (LeO.refl _) fun y25 => LeO.ite (LeO.refl _) (LeO.bind (LeO.refl _) fun l53 => (hfg _))) (LeO.refl _)))) (LeO.refl _)) (LeO.refl _)
 | .j0 s_0 a_5 x_6 x_8 => (hfg _)
noncomputable def roadref2_Tokens.l0_k.go (p : roadref2_Tokens.l0_k.Pt) : Option ((List T_roadref2_Tok) × Int × Int) := fixF (β := fun _ => ((List T_roadref2_Tok) × Int × Int)) roadref2_Tokens.l0_k.body p
noncomputable def roadref2_Tokens.l0 (s_0 a_5 x_6) := roadref2_Tokens.l0_k.go (.l0 s_0 a_5 x_6)
noncomputable def roadref2_Tokens.j0 (s_0 a_5 x_6 x_8) := roadref2_Tokens.l0_k.go (.j0 s_0 a_5 x_6 x_8)
theorem roadref2_Tokens.l0_eq (s_0 a_5 x_6) : roadref2_Tokens.l0 s_0 a_5 x_6 = if x_6 < ((ByteArray.size s_0 : Nat) : Int) then (if 0 ≤ x_6 ∧ x_6 ≤ ((ByteArray.size s_0 : Nat) : Int) ∧ ((ByteArray.size s_0 : Nat) : Int) ≤ ((ByteArray.size s_0 : Nat) : Int) then (Option.bind (roadref2_run (ByteArray.extract s_0 (Int.toNat x_6) (Int.toNat ((ByteArray.size s_0 : Nat) : Int))) (ByteArray.mk #[32, 9, 10])) fun y2 => if y2 > (0 : Int) then ((roadref2_Tokens.l0 s_0 a_5 (IntKind.wrap .i64 (x_6 + y2)))) else (Option.bind (gb s_0 x_6) fun y9 => if y9 = (35 : Int) then (if 0 ≤ x_6 ∧ x_6 ≤ ((ByteArray.size s_0 : Nat) : Int) ∧ ((ByteArray.size s_0 : Nat) : Int) ≤ ((ByteArray.size s_0 : Nat) : Int) then (Option.bind (strings_IndexByte (ByteArray.extract s_0 (Int.toNat x_6) (Int.toNat ((ByteArray.size s_0 : Nat) : Int))) (10 : Int)) fun y16 => if y16 < (0 : Int) then ((roadref2_Tokens.j0 s_0 a_5 x_6 (IntKind.wrap .i64 (((ByteArray.size s_0 : Nat) : Int) - x_6)))) else ((roadref2_Tokens.j0 s_0 a_5 x_6 y16))) else none) else (if 0 ≤ x_6 ∧ x_6 ≤ ((ByteArray.size s_0 : Nat) : Int) ∧ ((ByteArray.size s_0 : Nat) : Int) ≤ ((ByteArray.size s_0 : Nat) : Int) then (Option.bind (roadref2_token (ByteArray.extract s_0 (Int.toNat x_6) (Int.toNat ((ByteArray.size s_0 : Nat) : Int)))) fun y25 => if y25.2 < (0 : Int) then (some (([] : List T_roadref2_Tok), x_6, (10 : Int))) else (Option.bind (ap 32 a_5 ([({ y25.1 with At := x_6 })] : List T_roadref2_Tok)) fun l53 => (roadref2_Tokens.l0 s_0 l53 (IntKind.wrap .i64 (x_6 + y25.2))))) else none))) else none) else (some (a_5, (0 : Int), (0 : Int))) := fixF_eq roadref2_Tokens.l0_k.mono _
theorem roadref2_Tokens.j0_eq (s_0 a_5 x_6 x_8) : roadref2_Tokens.j0 s_0 a_5 x_6 x_8 = (roadref2_Tokens.l0 s_0 a_5 (IntKind.wrap .i64 (x_6 + x_8))) := fixF_eq roadref2_Tokens.l0_k.mono _
def roadref2_Tokens.l0_k.I : (p : roadref2_Tokens.l0_k.Pt) → ((List T_roadref2_Tok) × Int × Int) → Prop
 | .l0 s_0 a_5 x_6, r => ∀ {W h0 m0 h m A_5 n_5 c_5} (O : Hold W h0 m0 h m [rR (aE T_roadref2_Tok.T) A_5 c_5 a_5]) (ne_5 : n_5 = List.length a_5) (tab : TB m), f30.l0 (roadref2_Tokens.post W h0 m0 r) s_0 A_5 n_5 c_5 x_6 h
 | .j0 s_0 a_5 x_6 x_8, r => ∀ {W h0 m0 h m A_5 n_5 c_5} (O : Hold W h0 m0 h m [rR (aE T_roadref2_Tok.T) A_5 c_5 a_5]) (ne_5 : n_5 = List.length a_5) (tab : TB m), f30.j0 (roadref2_Tokens.post W h0 m0 r) s_0 A_5 n_5 c_5 x_6 x_8 h
set_option maxHeartbeats 4000000 in
theorem roadref2_Tokens.l0_k.step_l0 (go : (p : roadref2_Tokens.l0_k.Pt) → Option ((List T_roadref2_Tok) × Int × Int)) (ih : ∀ p r, go p = some r → roadref2_Tokens.l0_k.I p r) (s_0 a_5 x_6) (r) (e : roadref2_Tokens.l0_k.body go (.l0 s_0 a_5 x_6) = some r) : roadref2_Tokens.l0_k.I (.l0 s_0 a_5 x_6) r := by
 unfold roadref2_Tokens.l0_k.body at e
 intro W h0 m0 h m A_5 n_5 c_5 O ne_5 tab
 subst ne_5
 refine f30.l0_in ?_
 unfold f30.l0T
 refine split_dec_e e (fun c66 e => ?_) (fun c66 e => ?_)
 · obtain ⟨g1, e⟩ := guard_e e
   refine ⟨g1.1, g1.2.1, g1.2.2, ?_⟩
   obtain ⟨y2, g3, e⟩ := bind_e e
   refine (roadref2_run.walk (Hold.start (W := No) O.s)  g3).mono ?_
   rintro _ h4 ⟨m5, Q6, rfl⟩
   have O8 := Hold.nm (O.retC Q6 vfs_nil)
   refine ⟨_, rfl, ?_⟩
   refine split_dec_e e (fun c65 e => ?_) (fun c65 e => ?_)
   · exact (ih _ _ e) (O8.pick [0]).nm rfl tab
   · obtain ⟨y9, g10, e⟩ := bind_e e
     obtain ⟨q11, b12, q13, q14⟩ := gb_e g10
     refine ⟨q11, _, q13, ?_⟩
     try rw [← q14]
     refine split_eq_e e (fun c64 e => ?_) (fun c64 e => ?_)
     · obtain ⟨g15, e⟩ := guard_e e
       refine ⟨g15.1, g15.2.1, g15.2.2, ?_⟩
       obtain ⟨y16, g17, e⟩ := bind_e e
       refine (strings_IndexByte.walk (Hold.start (W := No) O8.s)  g17).mono ?_
       rintro _ h18 ⟨m19, Q20, rfl⟩
       have O22 := Hold.nm (O8.retC Q20 vfs_nil)
       refine ⟨_, rfl, ?_⟩
       refine split_dec_e e (fun c23 e => ?_) (fun c23 e => ?_)
       · exact (ih _ _ e) (O22.pick [0]).nm rfl tab
       · exact (ih _ _ e) (O22.pick [0]).nm rfl tab
     · obtain ⟨g24, e⟩ := guard_e e
       refine ⟨g24.1, g24.2.1, g24.2.2, ?_⟩
       obtain ⟨y25, g26, e⟩ := bind_e e
       refine (roadref2_token.walk (Hold.start (W := No) O8.s) tab g26).mono ?_
       rintro _ h27 ⟨m28, cs32, Q29, rfl, he33⟩
       replace he33 : T_roadref2_Tok.E m y25.1 cs32 := T_roadref2_Tok.keep he33
       have O34 := Hold.nm (O8.retC Q29 vfs_nil)
       refine ⟨_, _, rfl, ?_⟩
       refine O34.new fun h35 x36 O37 => ?_
       refine ⟨_, rfl, (T_roadref2_Tok.T.len _ _ _ he33), ?_⟩
       refine O37.stA 1 rfl (T_roadref2_Tok.T.len _ _ _ he33) (T_roadref2_Tok.T.flat _ _ _ he33) fun h39 O40 => ?_
       refine split_dec_e e (fun c63 e => ?_) (fun c63 e => ?_)
       · have O41 := O40.nil (aE T_roadref2_Tok.T) none
         have O43 := O41.nm
         cases e
         exact ⟨_, _, _, _, O43.pick [2], rfl, rfl⟩
       · refine O40.stE 1 rfl 2 (lt_len (T_roadref2_Tok.T.len _ _ _ he33) (by decide)) trivial (T_roadref2_Tok.s2 he33 x_6) fun h44 cs46 e47 O45 => ?_
         refine ⟨_, ldAn (Sub.refl _) (O45.all 1 rfl) (T_roadref2_Tok.T.len _ _ _ e47), ?_⟩
         refine ⟨cs46, rfl, (T_roadref2_Tok.T.len _ _ _ e47), ?_⟩
         refine O45.new fun h48 x49 O50 => ?_
         have O52 := O50.recell 2 rfl (cs' := cs46 ++ []) rfl
         obtain ⟨l53, g54, e⟩ := bind_e e
         have O61 := O52.rowE (l := ([({ y25.1 with At := x_6 })] : List T_roadref2_Tok)) 2 rfl T_roadref2_Tok.T (show CsE _ _ _ _ _ from (CsE.cons e47 (T_roadref2_Tok.T.len _ _ _ e47) CsE.nil)) rfl
         refine O61.app 0 rfl rfl rfl ((O61.os 2 rfl).srcE rfl) (by decide) g54 fun A55 c56 h57 O58 => ?_
         refine ⟨_, _, _, rfl, ?_⟩
         have O62 := O58.nm
         exact (ih _ _ e) (O62.pick [0]).nm rfl tab
 · cases e
   exact ⟨_, _, _, _, O.pick [0], rfl, rfl⟩
theorem roadref2_Tokens.l0_k.step_j0 (go : (p : roadref2_Tokens.l0_k.Pt) → Option ((List T_roadref2_Tok) × Int × Int)) (ih : ∀ p r, go p = some r → roadref2_Tokens.l0_k.I p r) (s_0 a_5 x_6 x_8) (r) (e : roadref2_Tokens.l0_k.body go (.j0 s_0 a_5 x_6 x_8) = some r) : roadref2_Tokens.l0_k.I (.j0 s_0 a_5 x_6 x_8) r := by
 unfold roadref2_Tokens.l0_k.body at e
 intro W h0 m0 h m A_5 n_5 c_5 O ne_5 tab
 subst ne_5
 refine f30.j0_in ?_
 unfold f30.j0T
 exact (ih _ _ e) (O.pick [0]).nm rfl tab
theorem roadref2_Tokens.l0_k.all {p : roadref2_Tokens.l0_k.Pt} {r : ((List T_roadref2_Tok) × Int × Int)} (e : roadref2_Tokens.l0_k.go p = some r) : roadref2_Tokens.l0_k.I p r := fixF_ind (β := fun _ => ((List T_roadref2_Tok) × Int × Int)) roadref2_Tokens.l0_k.mono (I := roadref2_Tokens.l0_k.I) (fun go ih p r e => match p with
 | .l0 s_0 a_5 x_6 => roadref2_Tokens.l0_k.step_l0 go ih s_0 a_5 x_6 r e
 | .j0 s_0 a_5 x_6 x_8 => roadref2_Tokens.l0_k.step_j0 go ih s_0 a_5 x_6 x_8 r e
 ) e
noncomputable def roadref2_Tokens (s_0 : ByteArray) : Option ((List T_roadref2_Tok) × Int × Int) :=
 if ((ByteArray.size s_0 : Nat) : Int) > (4000 : Int) then (some (([] : List T_roadref2_Tok), (0 : Int), (2 : Int))) else ((roadref2_Tokens.l0 s_0 ([] : List T_roadref2_Tok) (0 : Int)))
theorem roadref2_Tokens.walk {W h m s_0} (O : Hold W h m h m []) (tab : TB m) {r} (e : roadref2_Tokens s_0 = some r) : Run Tryd.prog 30 #[Value.string s_0] h (roadref2_Tokens.post W h m r) := by
 unfold roadref2_Tokens at e
 refine f30.run ?_
 unfold f30.runT
 refine split_dec_e e (fun c7 e => ?_) (fun c7 e => ?_)
 · have O1 := O.nil (aE T_roadref2_Tok.T) none
   have O3 := O1.nm
   cases e
   exact ⟨_, _, _, _, O3.pick [0], rfl, rfl⟩
 · have O4 := O.nil (aE T_roadref2_Tok.T) none
   have O6 := O4.nm
   exact (roadref2_Tokens.l0_k.all e) (O6.pick [0]).nm rfl tab
def token_skip.post (W : Nat → Prop) (h0 m0 : Heap) (r : Int) (v : Value) (h : Heap) : Prop := ∃ m , Hold W h0 m0 h m [] ∧ v = .int .i64 r
inductive token_skip.l0_k.Pt where
 | l0 (s_0 : ByteArray) (x_1 : Int)
 | j0 (s_0 : ByteArray) (x_1 : Int) (x_11 : Int) (b_13 : Bool)
 | l1 (s_0 : ByteArray) (x_1 : Int)
 | j1 (s_0 : ByteArray) (x_1 : Int)
noncomputable def token_skip.l0_k.body (go : (p : token_skip.l0_k.Pt) → Option (Int)) : (p : token_skip.l0_k.Pt) → Option (Int)
 | .l0 s_0 x_1 => if x_1 < ((ByteArray.size s_0 : Nat) : Int) then (Option.bind (gb s_0 x_1) fun y1 => if y1 = (32 : Int) then ((go (.j0 s_0 x_1 y1 (y1 == (32 : Int))))) else (if y1 = (9 : Int) then ((go (.j0 s_0 x_1 y1 (y1 == (9 : Int))))) else ((go (.j0 s_0 x_1 y1 (y1 == (10 : Int))))))) else (some (x_1))
 | .j0 s_0 x_1 x_11 b_13 => if b_13 = true then ((go (.l0 s_0 (IntKind.wrap .i64 (x_1 + (1 : Int)))))) else (if x_11 = (35 : Int) then ((go (.l1 s_0 x_1))) else (some (x_1)))
 | .l1 s_0 x_1 => if x_1 < ((ByteArray.size s_0 : Nat) : Int) then (Option.bind (gb s_0 x_1) fun y1 => if y1 = (10 : Int) then ((go (.l0 s_0 x_1))) else ((go (.j1 s_0 x_1)))) else ((go (.l0 s_0 x_1)))
 | .j1 s_0 x_1 => (go (.l1 s_0 (IntKind.wrap .i64 (x_1 + (1 : Int)))))
theorem token_skip.l0_k.mono : MonoF (β := fun _ => (Int)) token_skip.l0_k.body := fun f g hfg p => match p with
 | .l0 s_0 x_1 => LeO.ite (LeO.bind (LeO.refl _) fun y1 => LeO.ite ((hfg _)) (LeO.ite ((hfg _)) ((hfg _)))) (LeO.refl _)
 | .j0 s_0 x_1 x_11 b_13 => LeO.ite ((hfg _)) (LeO.ite ((hfg _)) (LeO.refl _))
 | .l1 s_0 x_1 => LeO.ite (LeO.bind (LeO.refl _) fun y1 => LeO.ite ((hfg _)) ((hfg _))) ((hfg _))
 | .j1 s_0 x_1 => (hfg _)
noncomputable def token_skip.l0_k.go (p : token_skip.l0_k.Pt) : Option (Int) := fixF (β := fun _ => (Int)) token_skip.l0_k.body p
noncomputable def token_skip.l0 (s_0 x_1) := token_skip.l0_k.go (.l0 s_0 x_1)
noncomputable def token_skip.j0 (s_0 x_1 x_11 b_13) := token_skip.l0_k.go (.j0 s_0 x_1 x_11 b_13)
noncomputable def token_skip.l1 (s_0 x_1) := token_skip.l0_k.go (.l1 s_0 x_1)
noncomputable def token_skip.j1 (s_0 x_1) := token_skip.l0_k.go (.j1 s_0 x_1)
theorem token_skip.l0_eq (s_0 x_1) : token_skip.l0 s_0 x_1 = if x_1 < ((ByteArray.size s_0 : Nat) : Int) then (Option.bind (gb s_0 x_1) fun y1 => if y1 = (32 : Int) then ((token_skip.j0 s_0 x_1 y1 (y1 == (32 : Int)))) else (if y1 = (9 : Int) then ((token_skip.j0 s_0 x_1 y1 (y1 == (9 : Int)))) else ((token_skip.j0 s_0 x_1 y1 (y1 == (10 : Int)))))) else (some (x_1)) := fixF_eq token_skip.l0_k.mono _
theorem token_skip.j0_eq (s_0 x_1 x_11 b_13) : token_skip.j0 s_0 x_1 x_11 b_13 = if b_13 = true then ((token_skip.l0 s_0 (IntKind.wrap .i64 (x_1 + (1 : Int))))) else (if x_11 = (35 : Int) then ((token_skip.l1 s_0 x_1)) else (some (x_1))) := fixF_eq token_skip.l0_k.mono _
theorem token_skip.l1_eq (s_0 x_1) : token_skip.l1 s_0 x_1 = if x_1 < ((ByteArray.size s_0 : Nat) : Int) then (Option.bind (gb s_0 x_1) fun y1 => if y1 = (10 : Int) then ((token_skip.l0 s_0 x_1)) else ((token_skip.j1 s_0 x_1))) else ((token_skip.l0 s_0 x_1)) := fixF_eq token_skip.l0_k.mono _
theorem token_skip.j1_eq (s_0 x_1) : token_skip.j1 s_0 x_1 = (token_skip.l1 s_0 (IntKind.wrap .i64 (x_1 + (1 : Int)))) := fixF_eq token_skip.l0_k.mono _
def token_skip.l0_k.I : (p : token_skip.l0_k.Pt) → (Int) → Prop
 | .l0 s_0 x_1, r => ∀ {W h0 m0 h m} (O : Hold W h0 m0 h m []), f61.l0 (token_skip.post W h0 m0 r) s_0 x_1 h
 | .j0 s_0 x_1 x_11 b_13, r => ∀ {W h0 m0 h m} (O : Hold W h0 m0 h m []), f61.j0 (token_skip.post W h0 m0 r) s_0 x_1 x_11 b_13 h
 | .l1 s_0 x_1, r => ∀ {W h0 m0 h m} (O : Hold W h0 m0 h m []), f61.l1 (token_skip.post W h0 m0 r) s_0 x_1 h
 | .j1 s_0 x_1, r => ∀ {W h0 m0 h m} (O : Hold W h0 m0 h m []), f61.j1 (token_skip.post W h0 m0 r) s_0 x_1 h
theorem token_skip.l0_k.step_l0 (go : (p : token_skip.l0_k.Pt) → Option (Int)) (ih : ∀ p r, go p = some r → token_skip.l0_k.I p r) (s_0 x_1) (r) (e : token_skip.l0_k.body go (.l0 s_0 x_1) = some r) : token_skip.l0_k.I (.l0 s_0 x_1) r := by
 unfold token_skip.l0_k.body at e
 intro W h0 m0 h m O
 refine f61.l0_in ?_
 unfold f61.l0T
 refine split_dec_e e (fun c9 e => ?_) (fun c9 e => ?_)
 · obtain ⟨y1, g2, e⟩ := bind_e e
   obtain ⟨q3, b4, q5, q6⟩ := gb_e g2
   refine ⟨q3, _, q5, ?_⟩
   try rw [← q6]
   refine split_eq_e e (fun c8 e => ?_) (fun c8 e => ?_)
   · exact (ih _ _ e) (O.pick []).nm 
   · refine split_eq_e e (fun c7 e => ?_) (fun c7 e => ?_)
     · exact (ih _ _ e) (O.pick []).nm 
     · exact (ih _ _ e) (O.pick []).nm 
 · cases e
   exact ⟨_, O.pick [], rfl⟩
theorem token_skip.l0_k.step_j0 (go : (p : token_skip.l0_k.Pt) → Option (Int)) (ih : ∀ p r, go p = some r → token_skip.l0_k.I p r) (s_0 x_1 x_11 b_13) (r) (e : token_skip.l0_k.body go (.j0 s_0 x_1 x_11 b_13) = some r) : token_skip.l0_k.I (.j0 s_0 x_1 x_11 b_13) r := by
 unfold token_skip.l0_k.body at e
 intro W h0 m0 h m O
 refine f61.j0_in ?_
 unfold f61.j0T
 refine split_any_e e (fun c2 e => ?_) (fun c2 e => ?_)
 · exact (ih _ _ e) (O.pick []).nm 
 · refine split_eq_e e (fun c1 e => ?_) (fun c1 e => ?_)
   · exact (ih _ _ e) (O.pick []).nm 
   · cases e
     exact ⟨_, O.pick [], rfl⟩
theorem token_skip.l0_k.step_l1 (go : (p : token_skip.l0_k.Pt) → Option (Int)) (ih : ∀ p r, go p = some r → token_skip.l0_k.I p r) (s_0 x_1) (r) (e : token_skip.l0_k.body go (.l1 s_0 x_1) = some r) : token_skip.l0_k.I (.l1 s_0 x_1) r := by
 unfold token_skip.l0_k.body at e
 intro W h0 m0 h m O
 refine f61.l1_in ?_
 unfold f61.l1T
 refine split_dec_e e (fun c8 e => ?_) (fun c8 e => ?_)
 · obtain ⟨y1, g2, e⟩ := bind_e e
   obtain ⟨q3, b4, q5, q6⟩ := gb_e g2
   refine ⟨q3, _, q5, ?_⟩
   try rw [← q6]
   refine split_ne_e e (fun c7 e => ?_) (fun c7 e => ?_)
   · exact (ih _ _ e) (O.pick []).nm 
   · exact (ih _ _ e) (O.pick []).nm 
 · exact (ih _ _ e) (O.pick []).nm 
theorem token_skip.l0_k.step_j1 (go : (p : token_skip.l0_k.Pt) → Option (Int)) (ih : ∀ p r, go p = some r → token_skip.l0_k.I p r) (s_0 x_1) (r) (e : token_skip.l0_k.body go (.j1 s_0 x_1) = some r) : token_skip.l0_k.I (.j1 s_0 x_1) r := by
 unfold token_skip.l0_k.body at e
 intro W h0 m0 h m O
 refine f61.j1_in ?_
 unfold f61.j1T
 exact (ih _ _ e) (O.pick []).nm 
theorem token_skip.l0_k.all {p : token_skip.l0_k.Pt} {r : (Int)} (e : token_skip.l0_k.go p = some r) : token_skip.l0_k.I p r := fixF_ind (β := fun _ => (Int)) token_skip.l0_k.mono (I := token_skip.l0_k.I) (fun go ih p r e => match p with
 | .l0 s_0 x_1 => token_skip.l0_k.step_l0 go ih s_0 x_1 r e
 | .j0 s_0 x_1 x_11 b_13 => token_skip.l0_k.step_j0 go ih s_0 x_1 x_11 b_13 r e
 | .l1 s_0 x_1 => token_skip.l0_k.step_l1 go ih s_0 x_1 r e
 | .j1 s_0 x_1 => token_skip.l0_k.step_j1 go ih s_0 x_1 r e
 ) e
noncomputable def token_skip (s_0 : ByteArray) (x_1 : Int) : Option (Int) :=
 (token_skip.l0 s_0 x_1)
theorem token_skip.walk {W h m s_0 x_1} (O : Hold W h m h m []) {r} (e : token_skip s_0 x_1 = some r) : Run Tryd.prog 61 #[Value.string s_0, Value.int .i64 x_1] h (token_skip.post W h m r) := by
 unfold token_skip at e
 refine f61.run ?_
 unfold f61.runT
 exact (token_skip.l0_k.all e) (O.pick []).nm 
def token_IsWord.post (W : Nat → Prop) (h0 m0 : Heap) (r : Bool) (v : Value) (h : Heap) : Prop := ∃ m , Hold W h0 m0 h m [] ∧ v = .bool r
inductive token_IsWord.l0_k.Pt where
 | l0 (s_0 : ByteArray) (a_5 : List ByteArray) (x_6 : Int) (x_7 : Int)
noncomputable def token_IsWord.l0_k.body (go : (p : token_IsWord.l0_k.Pt) → Option (Bool)) : (p : token_IsWord.l0_k.Pt) → Option (Bool)
 | .l0 s_0 a_5 x_6 x_7 => if x_7 < x_6 then (Option.bind (gi a_5 x_7) fun y1 => if y1 = s_0 then (some (true)) else ((go (.l0 s_0 a_5 x_6 (IntKind.wrap .i64 (x_7 + (1 : Int))))))) else (some (false))
theorem token_IsWord.l0_k.mono : MonoF (β := fun _ => (Bool)) token_IsWord.l0_k.body := fun f g hfg p => match p with
 | .l0 s_0 a_5 x_6 x_7 => LeO.ite (LeO.bind (LeO.refl _) fun y1 => LeO.ite (LeO.refl _) ((hfg _))) (LeO.refl _)
noncomputable def token_IsWord.l0_k.go (p : token_IsWord.l0_k.Pt) : Option (Bool) := fixF (β := fun _ => (Bool)) token_IsWord.l0_k.body p
noncomputable def token_IsWord.l0 (s_0 a_5 x_6 x_7) := token_IsWord.l0_k.go (.l0 s_0 a_5 x_6 x_7)
theorem token_IsWord.l0_eq (s_0 a_5 x_6 x_7) : token_IsWord.l0 s_0 a_5 x_6 x_7 = if x_7 < x_6 then (Option.bind (gi a_5 x_7) fun y1 => if y1 = s_0 then (some (true)) else ((token_IsWord.l0 s_0 a_5 x_6 (IntKind.wrap .i64 (x_7 + (1 : Int)))))) else (some (false)) := fixF_eq token_IsWord.l0_k.mono _
def token_IsWord.l0_k.I : (p : token_IsWord.l0_k.Pt) → (Bool) → Prop
 | .l0 s_0 a_5 x_6 x_7, r => ∀ {W h0 m0 h m A_5 n_5 c_5} (O : Hold W h0 m0 h m [rR (aE tell_str) A_5 c_5 a_5]) (ne_5 : n_5 = List.length a_5), f21.l0 (token_IsWord.post W h0 m0 r) s_0 A_5 n_5 c_5 x_6 x_7 h
theorem token_IsWord.l0_k.step_l0 (go : (p : token_IsWord.l0_k.Pt) → Option (Bool)) (ih : ∀ p r, go p = some r → token_IsWord.l0_k.I p r) (s_0 a_5 x_6 x_7) (r) (e : token_IsWord.l0_k.body go (.l0 s_0 a_5 x_6 x_7) = some r) : token_IsWord.l0_k.I (.l0 s_0 a_5 x_6 x_7) r := by
 unfold token_IsWord.l0_k.body at e
 intro W h0 m0 h m A_5 n_5 c_5 O ne_5
 subst ne_5
 refine f21.l0_in ?_
 unfold f21.l0T
 refine split_dec_e e (fun c9 e => ?_) (fun c9 e => ?_)
 · obtain ⟨y1, g2, e⟩ := bind_e e
   refine (O.os 0 rfl).addr rfl g2 fun a3 cs4 ha5 hc6 he7 => ?_
   obtain rfl : cs4 = [(Value.string y1)] := he7
   refine ⟨_, ld0 (Sub.refl _) hc6 rfl, _, rfl, ?_⟩
   try rw [ba_list y1 s_0]
   refine split_dec_e e (fun c8 e => ?_) (fun c8 e => ?_)
   · cases e
     exact ⟨_, O.pick [], rfl⟩
   · exact (ih _ _ e) (O.pick [0]).nm rfl
 · cases e
   exact ⟨_, O.pick [], rfl⟩
theorem token_IsWord.l0_k.all {p : token_IsWord.l0_k.Pt} {r : (Bool)} (e : token_IsWord.l0_k.go p = some r) : token_IsWord.l0_k.I p r := fixF_ind (β := fun _ => (Bool)) token_IsWord.l0_k.mono (I := token_IsWord.l0_k.I) (fun go ih p r e => match p with
 | .l0 s_0 a_5 x_6 x_7 => token_IsWord.l0_k.step_l0 go ih s_0 a_5 x_6 x_7 r e
 ) e
noncomputable def token_IsWord (s_0 : ByteArray) : Option (Bool) :=
 Option.bind (token_Words ) fun y1 => (token_IsWord.l0 s_0 y1 (((List.length y1) : Nat) : Int) (0 : Int))
theorem token_IsWord.walk {W h m s_0} (O : Hold W h m h m []) {r} (e : token_IsWord s_0 = some r) : Run Tryd.prog 21 #[Value.string s_0] h (token_IsWord.post W h m r) := by
 unfold token_IsWord at e
 refine f21.run ?_
 unfold f21.runT
 obtain ⟨y1, g2, e⟩ := bind_e e
 refine (token_Words.walk (Hold.start (W := No) O.s)  g2).mono ?_
 rintro _ h3 ⟨m4, A7, n8, c9, Q5, rfl, ne10⟩
 have O12 := Hold.nm (O.retC Q5 (vfs_cons (rR_vf (aE_vf (fun _ _ _ _ h => h))) vfs_nil))
 subst ne10
 refine ⟨_, _, _, rfl, ?_⟩
 exact (token_IsWord.l0_k.all e) (O12.pick [0]).nm rfl
def token_digit.post (W : Nat → Prop) (h0 m0 : Heap) (r : Bool) (v : Value) (h : Heap) : Prop := ∃ m , Hold W h0 m0 h m [] ∧ v = .bool r
noncomputable def token_digit (x_0 : Int) : Option (Bool) :=
 if x_0 ≥ (48 : Int) then (some ((decide (x_0 ≤ (57 : Int))))) else (some (false))
theorem token_digit.walk {W h m x_0} (O : Hold W h m h m []) {r} (e : token_digit x_0 = some r) : Run Tryd.prog 50 #[Value.int .u8 x_0] h (token_digit.post W h m r) := by
 unfold token_digit at e
 refine f50.run ?_
 unfold f50.runT
 refine split_dec_e e (fun c1 e => ?_) (fun c1 e => ?_)
 · cases e
   exact ⟨_, O.pick [], rfl⟩
 · cases e
   exact ⟨_, O.pick [], rfl⟩
def token_sign.post (W : Nat → Prop) (h0 m0 : Heap) (r : ByteArray) (v : Value) (h : Heap) : Prop := ∃ m , Hold W h0 m0 h m [] ∧ v = .string r
noncomputable def token_sign.j2 (s_0 : ByteArray) (x_1 : Int) (b_34 : Bool) : Option (ByteArray) :=
 if b_34 = true then (if 0 ≤ x_1 ∧ x_1 ≤ (IntKind.wrap .i64 (x_1 + (1 : Int))) ∧ (IntKind.wrap .i64 (x_1 + (1 : Int))) ≤ ((ByteArray.size s_0 : Nat) : Int) then (some ((ByteArray.extract s_0 (Int.toNat x_1) (Int.toNat (IntKind.wrap .i64 (x_1 + (1 : Int))))))) else none) else (some ((ByteArray.mk #[])))
theorem token_sign.j2.walk {W h0 m0 h m s_0 x_1 b_34} (O : Hold W h0 m0 h m []) {r} (e : token_sign.j2 s_0 x_1 b_34 = some r) : f51.j2 (token_sign.post W h0 m0 r) s_0 x_1 b_34 h := by
 unfold token_sign.j2 at e
 refine f51.j2_in ?_
 unfold f51.j2T
 refine split_any_e e (fun c2 e => ?_) (fun c2 e => ?_)
 · obtain ⟨g1, e⟩ := guard_e e
   refine ⟨g1.1, g1.2.1, g1.2.2, ?_⟩
   cases e
   exact ⟨_, O.pick [], rfl⟩
 · cases e
   exact ⟨_, O.pick [], rfl⟩
noncomputable def token_sign.j0 (s_0 : ByteArray) (x_1 : Int) : Option (ByteArray) :=
 Option.bind (gb s_0 x_1) fun y1 => if y1 = (40 : Int) then ((token_sign.j2 s_0 x_1 (y1 == (40 : Int)))) else (if y1 = (41 : Int) then ((token_sign.j2 s_0 x_1 (y1 == (41 : Int)))) else (if y1 = (91 : Int) then ((token_sign.j2 s_0 x_1 (y1 == (91 : Int)))) else (if y1 = (93 : Int) then ((token_sign.j2 s_0 x_1 (y1 == (93 : Int)))) else (if y1 = (123 : Int) then ((token_sign.j2 s_0 x_1 (y1 == (123 : Int)))) else (if y1 = (125 : Int) then ((token_sign.j2 s_0 x_1 (y1 == (125 : Int)))) else (if y1 = (44 : Int) then ((token_sign.j2 s_0 x_1 (y1 == (44 : Int)))) else (if y1 = (59 : Int) then ((token_sign.j2 s_0 x_1 (y1 == (59 : Int)))) else (if y1 = (58 : Int) then ((token_sign.j2 s_0 x_1 (y1 == (58 : Int)))) else (if y1 = (61 : Int) then ((token_sign.j2 s_0 x_1 (y1 == (61 : Int)))) else (if y1 = (43 : Int) then ((token_sign.j2 s_0 x_1 (y1 == (43 : Int)))) else (if y1 = (45 : Int) then ((token_sign.j2 s_0 x_1 (y1 == (45 : Int)))) else (if y1 = (42 : Int) then ((token_sign.j2 s_0 x_1 (y1 == (42 : Int)))) else (if y1 = (47 : Int) then ((token_sign.j2 s_0 x_1 (y1 == (47 : Int)))) else (if y1 = (37 : Int) then ((token_sign.j2 s_0 x_1 (y1 == (37 : Int)))) else (if y1 = (60 : Int) then ((token_sign.j2 s_0 x_1 (y1 == (60 : Int)))) else (if y1 = (94 : Int) then ((token_sign.j2 s_0 x_1 (y1 == (94 : Int)))) else (if y1 = (124 : Int) then ((token_sign.j2 s_0 x_1 (y1 == (124 : Int)))) else ((token_sign.j2 s_0 x_1 (y1 == (95 : Int)))))))))))))))))))))
set_option maxHeartbeats 4000000 in
theorem token_sign.j0.walk {W h0 m0 h m s_0 x_1} (O : Hold W h0 m0 h m []) {r} (e : token_sign.j0 s_0 x_1 = some r) : f51.j0 (token_sign.post W h0 m0 r) s_0 x_1 h := by
 unfold token_sign.j0 at e
 refine f51.j0_in ?_
 unfold f51.j0T
 obtain ⟨y1, g2, e⟩ := bind_e e
 obtain ⟨q3, b4, q5, q6⟩ := gb_e g2
 refine ⟨q3, _, q5, ?_⟩
 try rw [← q6]
 refine split_eq_e e (fun c24 e => ?_) (fun c24 e => ?_)
 · exact token_sign.j2.walk (O.pick []).nm  e
 · refine split_eq_e e (fun c23 e => ?_) (fun c23 e => ?_)
   · exact token_sign.j2.walk (O.pick []).nm  e
   · refine split_eq_e e (fun c22 e => ?_) (fun c22 e => ?_)
     · exact token_sign.j2.walk (O.pick []).nm  e
     · refine split_eq_e e (fun c21 e => ?_) (fun c21 e => ?_)
       · exact token_sign.j2.walk (O.pick []).nm  e
       · refine split_eq_e e (fun c20 e => ?_) (fun c20 e => ?_)
         · exact token_sign.j2.walk (O.pick []).nm  e
         · refine split_eq_e e (fun c19 e => ?_) (fun c19 e => ?_)
           · exact token_sign.j2.walk (O.pick []).nm  e
           · refine split_eq_e e (fun c18 e => ?_) (fun c18 e => ?_)
             · exact token_sign.j2.walk (O.pick []).nm  e
             · refine split_eq_e e (fun c17 e => ?_) (fun c17 e => ?_)
               · exact token_sign.j2.walk (O.pick []).nm  e
               · refine split_eq_e e (fun c16 e => ?_) (fun c16 e => ?_)
                 · exact token_sign.j2.walk (O.pick []).nm  e
                 · refine split_eq_e e (fun c15 e => ?_) (fun c15 e => ?_)
                   · exact token_sign.j2.walk (O.pick []).nm  e
                   · refine split_eq_e e (fun c14 e => ?_) (fun c14 e => ?_)
                     · exact token_sign.j2.walk (O.pick []).nm  e
                     · refine split_eq_e e (fun c13 e => ?_) (fun c13 e => ?_)
                       · exact token_sign.j2.walk (O.pick []).nm  e
                       · refine split_eq_e e (fun c12 e => ?_) (fun c12 e => ?_)
                         · exact token_sign.j2.walk (O.pick []).nm  e
                         · refine split_eq_e e (fun c11 e => ?_) (fun c11 e => ?_)
                           · exact token_sign.j2.walk (O.pick []).nm  e
                           · refine split_eq_e e (fun c10 e => ?_) (fun c10 e => ?_)
                             · exact token_sign.j2.walk (O.pick []).nm  e
                             · refine split_eq_e e (fun c9 e => ?_) (fun c9 e => ?_)
                               · exact token_sign.j2.walk (O.pick []).nm  e
                               · refine split_eq_e e (fun c8 e => ?_) (fun c8 e => ?_)
                                 · exact token_sign.j2.walk (O.pick []).nm  e
                                 · refine split_eq_e e (fun c7 e => ?_) (fun c7 e => ?_)
                                   · exact token_sign.j2.walk (O.pick []).nm  e
                                   · exact token_sign.j2.walk (O.pick []).nm  e
noncomputable def token_sign.j1 (s_0 : ByteArray) (x_1 : Int) (b_25 : Bool) : Option (ByteArray) :=
 if b_25 = true then (if 0 ≤ x_1 ∧ x_1 ≤ (IntKind.wrap .i64 (x_1 + (2 : Int))) ∧ (IntKind.wrap .i64 (x_1 + (2 : Int))) ≤ ((ByteArray.size s_0 : Nat) : Int) then (some ((ByteArray.extract s_0 (Int.toNat x_1) (Int.toNat (IntKind.wrap .i64 (x_1 + (2 : Int))))))) else none) else ((token_sign.j0 s_0 x_1))
theorem token_sign.j1.walk {W h0 m0 h m s_0 x_1 b_25} (O : Hold W h0 m0 h m []) {r} (e : token_sign.j1 s_0 x_1 b_25 = some r) : f51.j1 (token_sign.post W h0 m0 r) s_0 x_1 b_25 h := by
 unfold token_sign.j1 at e
 refine f51.j1_in ?_
 unfold f51.j1T
 refine split_any_e e (fun c2 e => ?_) (fun c2 e => ?_)
 · obtain ⟨g1, e⟩ := guard_e e
   refine ⟨g1.1, g1.2.1, g1.2.2, ?_⟩
   cases e
   exact ⟨_, O.pick [], rfl⟩
 · exact token_sign.j0.walk (O.pick []).nm  e
noncomputable def token_sign (s_0 : ByteArray) (x_1 : Int) : Option (ByteArray) :=
 if (IntKind.wrap .i64 (x_1 + (1 : Int))) < ((ByteArray.size s_0 : Nat) : Int) then (if 0 ≤ x_1 ∧ x_1 ≤ (IntKind.wrap .i64 (x_1 + (2 : Int))) ∧ (IntKind.wrap .i64 (x_1 + (2 : Int))) ≤ ((ByteArray.size s_0 : Nat) : Int) then (if (ByteArray.extract s_0 (Int.toNat x_1) (Int.toNat (IntKind.wrap .i64 (x_1 + (2 : Int))))) = (ByteArray.mk #[61, 62]) then ((token_sign.j1 s_0 x_1 true)) else (if 0 ≤ x_1 ∧ x_1 ≤ (IntKind.wrap .i64 (x_1 + (2 : Int))) ∧ (IntKind.wrap .i64 (x_1 + (2 : Int))) ≤ ((ByteArray.size s_0 : Nat) : Int) then ((token_sign.j1 s_0 x_1 (decide ((ByteArray.extract s_0 (Int.toNat x_1) (Int.toNat (IntKind.wrap .i64 (x_1 + (2 : Int))))) = (ByteArray.mk #[45, 62]))))) else none)) else none) else ((token_sign.j1 s_0 x_1 false))
theorem token_sign.walk {W h m s_0 x_1} (O : Hold W h m h m []) {r} (e : token_sign s_0 x_1 = some r) : Run Tryd.prog 51 #[Value.string s_0, Value.int .i64 x_1] h (token_sign.post W h m r) := by
 unfold token_sign at e
 refine f51.run ?_
 unfold f51.runT
 refine split_dec_e e (fun c4 e => ?_) (fun c4 e => ?_)
 · obtain ⟨g1, e⟩ := guard_e e
   refine ⟨g1.1, g1.2.1, g1.2.2, ?_⟩
   try rw [ba_list (ByteArray.extract s_0 (Int.toNat x_1) (Int.toNat (IntKind.wrap .i64 (x_1 + (2 : Int))))) (ByteArray.mk #[61, 62])]
   refine split_dec_e e (fun c3 e => ?_) (fun c3 e => ?_)
   · exact token_sign.j1.walk (O.pick []).nm  e
   · obtain ⟨g2, e⟩ := guard_e e
     refine ⟨g2.1, g2.2.1, g2.2.2, ?_⟩
     try rw [ba_list (ByteArray.extract s_0 (Int.toNat x_1) (Int.toNat (IntKind.wrap .i64 (x_1 + (2 : Int))))) (ByteArray.mk #[45, 62])]
     exact token_sign.j1.walk (O.pick []).nm  e
 · exact token_sign.j1.walk (O.pick []).nm  e
def token_low.post (W : Nat → Prop) (h0 m0 : Heap) (r : Bool) (v : Value) (h : Heap) : Prop := ∃ m , Hold W h0 m0 h m [] ∧ v = .bool r
noncomputable def token_low (x_0 : Int) : Option (Bool) :=
 if x_0 ≥ (97 : Int) then (some ((decide (x_0 ≤ (122 : Int))))) else (some (false))
theorem token_low.walk {W h m x_0} (O : Hold W h m h m []) {r} (e : token_low x_0 = some r) : Run Tryd.prog 55 #[Value.int .u8 x_0] h (token_low.post W h m r) := by
 unfold token_low at e
 refine f55.run ?_
 unfold f55.runT
 refine split_dec_e e (fun c1 e => ?_) (fun c1 e => ?_)
 · cases e
   exact ⟨_, O.pick [], rfl⟩
 · cases e
   exact ⟨_, O.pick [], rfl⟩
def token_great.post (W : Nat → Prop) (h0 m0 : Heap) (r : Bool) (v : Value) (h : Heap) : Prop := ∃ m , Hold W h0 m0 h m [] ∧ v = .bool r
noncomputable def token_great (x_0 : Int) : Option (Bool) :=
 if x_0 ≥ (65 : Int) then (some ((decide (x_0 ≤ (90 : Int))))) else (some (false))
theorem token_great.walk {W h m x_0} (O : Hold W h m h m []) {r} (e : token_great x_0 = some r) : Run Tryd.prog 57 #[Value.int .u8 x_0] h (token_great.post W h m r) := by
 unfold token_great at e
 refine f57.run ?_
 unfold f57.runT
 refine split_dec_e e (fun c1 e => ?_) (fun c1 e => ?_)
 · cases e
   exact ⟨_, O.pick [], rfl⟩
 · cases e
   exact ⟨_, O.pick [], rfl⟩
def token_inner.post (W : Nat → Prop) (h0 m0 : Heap) (r : Bool) (v : Value) (h : Heap) : Prop := ∃ m , Hold W h0 m0 h m [] ∧ v = .bool r
noncomputable def token_inner (x_0 : Int) : Option (Bool) :=
 Option.bind (token_low x_0) fun y1 => if y1 = true then (some (true)) else (Option.bind (token_great x_0) fun y8 => if y8 = true then (some (true)) else (Option.bind (token_digit x_0) fun y15 => if y15 = true then (some (true)) else (some ((x_0 == (95 : Int))))))
theorem token_inner.walk {W h m x_0} (O : Hold W h m h m []) {r} (e : token_inner x_0 = some r) : Run Tryd.prog 79 #[Value.int .u8 x_0] h (token_inner.post W h m r) := by
 unfold token_inner at e
 refine f79.run ?_
 unfold f79.runT
 obtain ⟨y1, g2, e⟩ := bind_e e
 refine (token_low.walk (Hold.start (W := No) O.s)  g2).mono ?_
 rintro _ h3 ⟨m4, Q5, rfl⟩
 have O7 := Hold.nm (O.retC Q5 vfs_nil)
 refine ⟨_, rfl, ?_⟩
 refine split_any_e e (fun c24 e => ?_) (fun c24 e => ?_)
 · cases e
   exact ⟨_, O7.pick [], rfl⟩
 · obtain ⟨y8, g9, e⟩ := bind_e e
   refine (token_great.walk (Hold.start (W := No) O7.s)  g9).mono ?_
   rintro _ h10 ⟨m11, Q12, rfl⟩
   have O14 := Hold.nm (O7.retC Q12 vfs_nil)
   refine ⟨_, rfl, ?_⟩
   refine split_any_e e (fun c23 e => ?_) (fun c23 e => ?_)
   · cases e
     exact ⟨_, O14.pick [], rfl⟩
   · obtain ⟨y15, g16, e⟩ := bind_e e
     refine (token_digit.walk (Hold.start (W := No) O14.s)  g16).mono ?_
     rintro _ h17 ⟨m18, Q19, rfl⟩
     have O21 := Hold.nm (O14.retC Q19 vfs_nil)
     refine ⟨_, rfl, ?_⟩
     refine split_any_e e (fun c22 e => ?_) (fun c22 e => ?_)
     · cases e
       exact ⟨_, O21.pick [], rfl⟩
     · cases e
       exact ⟨_, O21.pick [], rfl⟩
def token_hex.post (W : Nat → Prop) (h0 m0 : Heap) (r : Int × Bool) (v : Value) (h : Heap) : Prop := ∃ m , Hold W h0 m0 h m [] ∧ v = .tuple #[.int .u8 r.1, .bool r.2]
noncomputable def token_hex.j0 (x_0 : Int) (b_9 : Bool) : Option (Int × Bool) :=
 if b_9 = true then (some ((IntKind.wrap .u8 ((IntKind.wrap .u8 (x_0 - (97 : Int))) + (10 : Int))), true)) else (some ((0 : Int), false))
theorem token_hex.j0.walk {W h0 m0 h m x_0 b_9} (O : Hold W h0 m0 h m []) {r} (e : token_hex.j0 x_0 b_9 = some r) : f101.j0 (token_hex.post W h0 m0 r) x_0 b_9 h := by
 unfold token_hex.j0 at e
 refine f101.j0_in ?_
 unfold f101.j0T
 refine split_any_e e (fun c1 e => ?_) (fun c1 e => ?_)
 · cases e
   exact ⟨_, O.pick [], rfl⟩
 · cases e
   exact ⟨_, O.pick [], rfl⟩
noncomputable def token_hex (x_0 : Int) : Option (Int × Bool) :=
 Option.bind (token_digit x_0) fun y1 => if y1 = true then (some ((IntKind.wrap .u8 (x_0 - (48 : Int))), true)) else (if x_0 ≥ (97 : Int) then ((token_hex.j0 x_0 (decide (x_0 ≤ (102 : Int))))) else ((token_hex.j0 x_0 false)))
theorem token_hex.walk {W h m x_0} (O : Hold W h m h m []) {r} (e : token_hex x_0 = some r) : Run Tryd.prog 101 #[Value.int .u8 x_0] h (token_hex.post W h m r) := by
 unfold token_hex at e
 refine f101.run ?_
 unfold f101.runT
 obtain ⟨y1, g2, e⟩ := bind_e e
 refine (token_digit.walk (Hold.start (W := No) O.s)  g2).mono ?_
 rintro _ h3 ⟨m4, Q5, rfl⟩
 have O7 := Hold.nm (O.retC Q5 vfs_nil)
 refine ⟨_, rfl, ?_⟩
 refine split_any_e e (fun c9 e => ?_) (fun c9 e => ?_)
 · cases e
   exact ⟨_, O7.pick [], rfl⟩
 · refine split_dec_e e (fun c8 e => ?_) (fun c8 e => ?_)
   · exact token_hex.j0.walk (O7.pick []).nm  e
   · exact token_hex.j0.walk (O7.pick []).nm  e
def token_text.post (W : Nat → Prop) (h0 m0 : Heap) (r : ByteArray × Int × Bool) (v : Value) (h : Heap) : Prop := ∃ m , Hold W h0 m0 h m [] ∧ v = .tuple #[.string r.1, .int .i64 r.2.1, .bool r.2.2]
inductive token_text.l0_k.Pt where
 | l0 (s_0 : ByteArray) (x_1 : Int) (a_7 : List Int)
 | j1 (s_0 : ByteArray) (x_1 : Int) (a_7 : List Int) (x_55 : Int) (b_62 : Bool)
 | j3 (s_0 : ByteArray) (x_1 : Int) (a_7 : List Int) (x_9 : Int) (x_11 : Int) (b_102 : Bool)
 | j2 (s_0 : ByteArray) (x_1 : Int) (a_7 : List Int) (x_9 : Int) (x_11 : Int)
 | j0 (s_0 : ByteArray) (x_1 : Int) (a_7 : List Int)
noncomputable def token_text.l0_k.body (go : (p : token_text.l0_k.Pt) → Option (ByteArray × Int × Bool)) : (p : token_text.l0_k.Pt) → Option (ByteArray × Int × Bool)
 | .l0 s_0 x_1 a_7 => if x_1 < ((ByteArray.size s_0 : Nat) : Int) then (Option.bind (gb s_0 x_1) fun y1 => if y1 = (34 : Int) then (some ((bytesOf a_7), (IntKind.wrap .i64 (x_1 + (1 : Int))), (decide ((((List.length a_7) : Nat) : Int) ≤ (64 : Int))))) else (if y1 < (32 : Int) then (some ((ByteArray.mk #[]), x_1, false)) else (if y1 = (92 : Int) then (if (IntKind.wrap .i64 (x_1 + (1 : Int))) ≥ ((ByteArray.size s_0 : Nat) : Int) then (some ((ByteArray.mk #[]), ((ByteArray.size s_0 : Nat) : Int), false)) else (Option.bind (gb s_0 (IntKind.wrap .i64 (x_1 + (1 : Int)))) fun y21 => if y21 = (110 : Int) then (Option.bind (ap 1 a_7 ([(10 : Int)] : List Int)) fun l31 => (go (.j0 s_0 x_1 l31))) else (if y21 = (34 : Int) then ((go (.j1 s_0 x_1 a_7 y21 (y21 == (34 : Int))))) else ((go (.j1 s_0 x_1 a_7 y21 (y21 == (92 : Int)))))))) else (Option.bind (ap 1 a_7 ([y1] : List Int)) fun l11 => (go (.l0 s_0 (IntKind.wrap .i64 (x_1 + (1 : Int))) l11)))))) else (some ((ByteArray.mk #[]), ((ByteArray.size s_0 : Nat) : Int), false))
 | .j1 s_0 x_1 a_7 x_55 b_62 => if b_62 = true then (Option.bind (gb s_0 (IntKind.wrap .i64 (x_1 + (1 : Int)))) fun y1 => Option.bind (ap 1 a_7 ([y1] : List Int)) fun l11 => (go (.j0 s_0 x_1 l11))) else (if x_55 = (120 : Int) then (if (IntKind.wrap .i64 (x_1 + (3 : Int))) ≥ ((ByteArray.size s_0 : Nat) : Int) then (some ((ByteArray.mk #[]), ((ByteArray.size s_0 : Nat) : Int), false)) else (Option.bind (gb s_0 (IntKind.wrap .i64 (x_1 + (2 : Int)))) fun y21 => Option.bind (token_hex y21) fun y27 => Option.bind (gb s_0 (IntKind.wrap .i64 (x_1 + (3 : Int)))) fun y34 => Option.bind (token_hex y34) fun y40 => if y27.2 = true then ((go (.j3 s_0 x_1 a_7 y27.1 y40.1 (!y40.2)))) else ((go (.j3 s_0 x_1 a_7 y27.1 y40.1 true))))) else (some ((ByteArray.mk #[]), x_1, false)))
 | .j3 s_0 x_1 a_7 x_9 x_11 b_102 => if b_102 = true then (some ((ByteArray.mk #[]), x_1, false)) else ((go (.j2 s_0 x_1 a_7 x_9 x_11)))
 | .j2 s_0 x_1 a_7 x_9 x_11 => Option.bind (ap 1 a_7 ([(bitsI .or .u8 (shlI .u8 x_9 (4 : Int)) x_11)] : List Int)) fun l5 => (go (.j0 s_0 (IntKind.wrap .i64 (x_1 + (2 : Int))) l5))
 | .j0 s_0 x_1 a_7 => (go (.l0 s_0 (IntKind.wrap .i64 (x_1 + (2 : Int))) a_7))
theorem token_text.l0_k.mono : MonoF (β := fun _ => (ByteArray × Int × Bool)) token_text.l0_k.body := fun f g hfg p => match p with
 | .l0 s_0 x_1 a_7 => LeO.ite (LeO.bind (LeO.refl _) fun y1 => LeO.ite (LeO.refl _) (LeO.ite (LeO.refl _) (LeO.ite (LeO.ite (LeO.refl _) (LeO.bind (LeO.refl _) fun y21 => LeO.ite (LeO.bind (LeO.refl _) fun l31 => (hfg _)) (LeO.ite ((hfg _)) ((hfg _))))) (LeO.bind (LeO.refl _) fun l11 => (hfg _))))) (LeO.refl _)
 | .j1 s_0 x_1 a_7 x_55 b_62 => LeO.ite (LeO.bind (LeO.refl _) fun y1 => LeO.bind (LeO.refl _) fun l11 => (hfg _)) (LeO.ite (LeO.ite (LeO.refl _) (LeO.bind (LeO.refl _) fun y21 => LeO.bind (LeO.refl _) fun y27 => LeO.bind (LeO.refl _) fun y34 => LeO.bind (LeO.refl _) fun y40 => LeO.ite ((hfg _)) ((hfg _)))) (LeO.refl _))
 | .j3 s_0 x_1 a_7 x_9 x_11 b_102 => LeO.ite (LeO.refl _) ((hfg _))
 | .j2 s_0 x_1 a_7 x_9 x_11 => LeO.bind (LeO.refl _) fun l5 => (hfg _)
 | .j0 s_0 x_1 a_7 => (hfg _)
noncomputable def token_text.l0_k.go (p : token_text.l0_k.Pt) : Option (ByteArray × Int × Bool) := fixF (β := fun _ => (ByteArray × Int × Bool)) token_text.l0_k.body p
noncomputable def token_text.l0 (s_0 x_1 a_7) := token_text.l0_k.go (.l0 s_0 x_1 a_7)
noncomputable def token_text.j1 (s_0 x_1 a_7 x_55 b_62) := token_text.l0_k.go (.j1 s_0 x_1 a_7 x_55 b_62)
noncomputable def token_text.j3 (s_0 x_1 a_7 x_9 x_11 b_102) := token_text.l0_k.go (.j3 s_0 x_1 a_7 x_9 x_11 b_102)
noncomputable def token_text.j2 (s_0 x_1 a_7 x_9 x_11) := token_text.l0_k.go (.j2 s_0 x_1 a_7 x_9 x_11)
noncomputable def token_text.j0 (s_0 x_1 a_7) := token_text.l0_k.go (.j0 s_0 x_1 a_7)
theorem token_text.l0_eq (s_0 x_1 a_7) : token_text.l0 s_0 x_1 a_7 = if x_1 < ((ByteArray.size s_0 : Nat) : Int) then (Option.bind (gb s_0 x_1) fun y1 => if y1 = (34 : Int) then (some ((bytesOf a_7), (IntKind.wrap .i64 (x_1 + (1 : Int))), (decide ((((List.length a_7) : Nat) : Int) ≤ (64 : Int))))) else (if y1 < (32 : Int) then (some ((ByteArray.mk #[]), x_1, false)) else (if y1 = (92 : Int) then (if (IntKind.wrap .i64 (x_1 + (1 : Int))) ≥ ((ByteArray.size s_0 : Nat) : Int) then (some ((ByteArray.mk #[]), ((ByteArray.size s_0 : Nat) : Int), false)) else (Option.bind (gb s_0 (IntKind.wrap .i64 (x_1 + (1 : Int)))) fun y21 => if y21 = (110 : Int) then (Option.bind (ap 1 a_7 ([(10 : Int)] : List Int)) fun l31 => (token_text.j0 s_0 x_1 l31)) else (if y21 = (34 : Int) then ((token_text.j1 s_0 x_1 a_7 y21 (y21 == (34 : Int)))) else ((token_text.j1 s_0 x_1 a_7 y21 (y21 == (92 : Int))))))) else (Option.bind (ap 1 a_7 ([y1] : List Int)) fun l11 => (token_text.l0 s_0 (IntKind.wrap .i64 (x_1 + (1 : Int))) l11))))) else (some ((ByteArray.mk #[]), ((ByteArray.size s_0 : Nat) : Int), false)) := fixF_eq token_text.l0_k.mono _
theorem token_text.j1_eq (s_0 x_1 a_7 x_55 b_62) : token_text.j1 s_0 x_1 a_7 x_55 b_62 = if b_62 = true then (Option.bind (gb s_0 (IntKind.wrap .i64 (x_1 + (1 : Int)))) fun y1 => Option.bind (ap 1 a_7 ([y1] : List Int)) fun l11 => (token_text.j0 s_0 x_1 l11)) else (if x_55 = (120 : Int) then (if (IntKind.wrap .i64 (x_1 + (3 : Int))) ≥ ((ByteArray.size s_0 : Nat) : Int) then (some ((ByteArray.mk #[]), ((ByteArray.size s_0 : Nat) : Int), false)) else (Option.bind (gb s_0 (IntKind.wrap .i64 (x_1 + (2 : Int)))) fun y21 => Option.bind (token_hex y21) fun y27 => Option.bind (gb s_0 (IntKind.wrap .i64 (x_1 + (3 : Int)))) fun y34 => Option.bind (token_hex y34) fun y40 => if y27.2 = true then ((token_text.j3 s_0 x_1 a_7 y27.1 y40.1 (!y40.2))) else ((token_text.j3 s_0 x_1 a_7 y27.1 y40.1 true)))) else (some ((ByteArray.mk #[]), x_1, false))) := fixF_eq token_text.l0_k.mono _
theorem token_text.j3_eq (s_0 x_1 a_7 x_9 x_11 b_102) : token_text.j3 s_0 x_1 a_7 x_9 x_11 b_102 = if b_102 = true then (some ((ByteArray.mk #[]), x_1, false)) else ((token_text.j2 s_0 x_1 a_7 x_9 x_11)) := fixF_eq token_text.l0_k.mono _
theorem token_text.j2_eq (s_0 x_1 a_7 x_9 x_11) : token_text.j2 s_0 x_1 a_7 x_9 x_11 = Option.bind (ap 1 a_7 ([(bitsI .or .u8 (shlI .u8 x_9 (4 : Int)) x_11)] : List Int)) fun l5 => (token_text.j0 s_0 (IntKind.wrap .i64 (x_1 + (2 : Int))) l5) := fixF_eq token_text.l0_k.mono _
theorem token_text.j0_eq (s_0 x_1 a_7) : token_text.j0 s_0 x_1 a_7 = (token_text.l0 s_0 (IntKind.wrap .i64 (x_1 + (2 : Int))) a_7) := fixF_eq token_text.l0_k.mono _
def token_text.l0_k.I : (p : token_text.l0_k.Pt) → (ByteArray × Int × Bool) → Prop
 | .l0 s_0 x_1 a_7, r => ∀ {W h0 m0 h m A_7 n_7 c_7} (O : Hold W h0 m0 h m [rR (aE (tell_int .u8)) A_7 c_7 a_7]) (ne_7 : n_7 = List.length a_7), f84.l0 (token_text.post W h0 m0 r) s_0 x_1 A_7 n_7 c_7 h
 | .j1 s_0 x_1 a_7 x_55 b_62, r => ∀ {W h0 m0 h m A_7 n_7 c_7} (O : Hold W h0 m0 h m [rR (aE (tell_int .u8)) A_7 c_7 a_7]) (ne_7 : n_7 = List.length a_7), f84.j1 (token_text.post W h0 m0 r) s_0 x_1 A_7 n_7 c_7 x_55 b_62 h
 | .j3 s_0 x_1 a_7 x_9 x_11 b_102, r => ∀ {W h0 m0 h m A_7 n_7 c_7} (O : Hold W h0 m0 h m [rR (aE (tell_int .u8)) A_7 c_7 a_7]) (ne_7 : n_7 = List.length a_7), f84.j3 (token_text.post W h0 m0 r) s_0 x_1 A_7 n_7 c_7 x_9 x_11 b_102 h
 | .j2 s_0 x_1 a_7 x_9 x_11, r => ∀ {W h0 m0 h m A_7 n_7 c_7} (O : Hold W h0 m0 h m [rR (aE (tell_int .u8)) A_7 c_7 a_7]) (ne_7 : n_7 = List.length a_7), f84.j2 (token_text.post W h0 m0 r) s_0 x_1 A_7 n_7 c_7 x_9 x_11 h
 | .j0 s_0 x_1 a_7, r => ∀ {W h0 m0 h m A_7 n_7 c_7} (O : Hold W h0 m0 h m [rR (aE (tell_int .u8)) A_7 c_7 a_7]) (ne_7 : n_7 = List.length a_7), f84.j0 (token_text.post W h0 m0 r) s_0 x_1 A_7 n_7 c_7 h
set_option maxHeartbeats 4000000 in
theorem token_text.l0_k.step_l0 (go : (p : token_text.l0_k.Pt) → Option (ByteArray × Int × Bool)) (ih : ∀ p r, go p = some r → token_text.l0_k.I p r) (s_0 x_1 a_7) (r) (e : token_text.l0_k.body go (.l0 s_0 x_1 a_7) = some r) : token_text.l0_k.I (.l0 s_0 x_1 a_7) r := by
 unfold token_text.l0_k.body at e
 intro W h0 m0 h m A_7 n_7 c_7 O ne_7
 subst ne_7
 refine f84.l0_in ?_
 unfold f84.l0T
 refine split_dec_e e (fun c47 e => ?_) (fun c47 e => ?_)
 · obtain ⟨y1, g2, e⟩ := bind_e e
   obtain ⟨q3, b4, q5, q6⟩ := gb_e g2
   refine ⟨q3, _, q5, ?_⟩
   try rw [← q6]
   refine split_eq_e e (fun c46 e => ?_) (fun c46 e => ?_)
   · refine gen_b2s' (e := 5) (by kernel_rfl) (by kernel_rfl) (by kernel_rfl) ((O.os 0 rfl).rd (tell_int .u8) O.s) rfl ?_
     refine ⟨_, rfl, ?_⟩
     cases e
     exact ⟨_, O.pick [], rfl⟩
   · refine split_dec_e e (fun c45 e => ?_) (fun c45 e => ?_)
     · cases e
       exact ⟨_, O.pick [], rfl⟩
     · refine split_ne_e e (fun c44 e => ?_) (fun c44 e => ?_)
       · refine O.new fun h7 x8 O9 => ?_
         obtain ⟨l11, g12, e⟩ := bind_e e
         have O19 := O9.rowE (l := ([y1] : List Int)) 1 rfl (tell_int .u8) (show CsE _ _ _ _ _ from (CsE.cons (c1 := [(Value.int .u8 y1)]) rfl rfl CsE.nil)) rfl
         refine O19.app 0 rfl rfl rfl ((O19.os 1 rfl).srcE rfl) (by decide) g12 fun A13 c14 h15 O16 => ?_
         refine ⟨_, _, _, rfl, ?_⟩
         have O20 := O16.nm
         exact (ih _ _ e) (O20.pick [0]).nm rfl
       · refine split_dec_e e (fun c43 e => ?_) (fun c43 e => ?_)
         · cases e
           exact ⟨_, O.pick [], rfl⟩
         · obtain ⟨y21, g22, e⟩ := bind_e e
           obtain ⟨q23, b24, q25, q26⟩ := gb_e g22
           refine ⟨q23, _, q25, ?_⟩
           try rw [← q26]
           refine split_eq_e e (fun c42 e => ?_) (fun c42 e => ?_)
           · refine O.new fun h27 x28 O29 => ?_
             obtain ⟨l31, g32, e⟩ := bind_e e
             have O39 := O29.rowE (l := ([(10 : Int)] : List Int)) 1 rfl (tell_int .u8) (show CsE _ _ _ _ _ from (CsE.cons (c1 := [(Value.int .u8 (10 : Int))]) rfl rfl CsE.nil)) rfl
             refine O39.app 0 rfl rfl rfl ((O39.os 1 rfl).srcE rfl) (by decide) g32 fun A33 c34 h35 O36 => ?_
             refine ⟨_, _, _, rfl, ?_⟩
             have O40 := O36.nm
             exact (ih _ _ e) (O40.pick [0]).nm rfl
           · refine split_eq_e e (fun c41 e => ?_) (fun c41 e => ?_)
             · exact (ih _ _ e) (O.pick [0]).nm rfl
             · exact (ih _ _ e) (O.pick [0]).nm rfl
 · cases e
   exact ⟨_, O.pick [], rfl⟩
set_option maxHeartbeats 4000000 in
theorem token_text.l0_k.step_j1 (go : (p : token_text.l0_k.Pt) → Option (ByteArray × Int × Bool)) (ih : ∀ p r, go p = some r → token_text.l0_k.I p r) (s_0 x_1 a_7 x_55 b_62) (r) (e : token_text.l0_k.body go (.j1 s_0 x_1 a_7 x_55 b_62) = some r) : token_text.l0_k.I (.j1 s_0 x_1 a_7 x_55 b_62) r := by
 unfold token_text.l0_k.body at e
 intro W h0 m0 h m A_7 n_7 c_7 O ne_7
 subst ne_7
 refine f84.j1_in ?_
 unfold f84.j1T
 refine split_any_e e (fun c50 e => ?_) (fun c50 e => ?_)
 · obtain ⟨y1, g2, e⟩ := bind_e e
   obtain ⟨q3, b4, q5, q6⟩ := gb_e g2
   refine ⟨q3, _, q5, ?_⟩
   try rw [← q6]
   refine O.new fun h7 x8 O9 => ?_
   obtain ⟨l11, g12, e⟩ := bind_e e
   have O19 := O9.rowE (l := ([y1] : List Int)) 1 rfl (tell_int .u8) (show CsE _ _ _ _ _ from (CsE.cons (c1 := [(Value.int .u8 y1)]) rfl rfl CsE.nil)) rfl
   refine O19.app 0 rfl rfl rfl ((O19.os 1 rfl).srcE rfl) (by decide) g12 fun A13 c14 h15 O16 => ?_
   refine ⟨_, _, _, rfl, ?_⟩
   have O20 := O16.nm
   exact (ih _ _ e) (O20.pick [0]).nm rfl
 · refine split_eq_e e (fun c49 e => ?_) (fun c49 e => ?_)
   · refine split_dec_e e (fun c48 e => ?_) (fun c48 e => ?_)
     · cases e
       exact ⟨_, O.pick [], rfl⟩
     · obtain ⟨y21, g22, e⟩ := bind_e e
       obtain ⟨q23, b24, q25, q26⟩ := gb_e g22
       refine ⟨q23, _, q25, ?_⟩
       try rw [← q26]
       obtain ⟨y27, g28, e⟩ := bind_e e
       refine (token_hex.walk (Hold.start (W := No) O.s)  g28).mono ?_
       rintro _ h29 ⟨m30, Q31, rfl⟩
       have O33 := Hold.nm (O.retC Q31 vfs_nil)
       refine ⟨_, _, rfl, ?_⟩
       obtain ⟨y34, g35, e⟩ := bind_e e
       obtain ⟨q36, b37, q38, q39⟩ := gb_e g35
       refine ⟨q36, _, q38, ?_⟩
       try rw [← q39]
       obtain ⟨y40, g41, e⟩ := bind_e e
       refine (token_hex.walk (Hold.start (W := No) O33.s)  g41).mono ?_
       rintro _ h42 ⟨m43, Q44, rfl⟩
       have O46 := Hold.nm (O33.retC Q44 vfs_nil)
       refine ⟨_, _, rfl, ?_⟩
       refine split_not ?_
       refine split_any_e e (fun c47 e => ?_) (fun c47 e => ?_)
       · exact (ih _ _ e) (O46.pick [0]).nm rfl
       · exact (ih _ _ e) (O46.pick [0]).nm rfl
   · cases e
     exact ⟨_, O.pick [], rfl⟩
theorem token_text.l0_k.step_j3 (go : (p : token_text.l0_k.Pt) → Option (ByteArray × Int × Bool)) (ih : ∀ p r, go p = some r → token_text.l0_k.I p r) (s_0 x_1 a_7 x_9 x_11 b_102) (r) (e : token_text.l0_k.body go (.j3 s_0 x_1 a_7 x_9 x_11 b_102) = some r) : token_text.l0_k.I (.j3 s_0 x_1 a_7 x_9 x_11 b_102) r := by
 unfold token_text.l0_k.body at e
 intro W h0 m0 h m A_7 n_7 c_7 O ne_7
 subst ne_7
 refine f84.j3_in ?_
 unfold f84.j3T
 refine split_any_e e (fun c1 e => ?_) (fun c1 e => ?_)
 · cases e
   exact ⟨_, O.pick [], rfl⟩
 · exact (ih _ _ e) (O.pick [0]).nm rfl
theorem token_text.l0_k.step_j2 (go : (p : token_text.l0_k.Pt) → Option (ByteArray × Int × Bool)) (ih : ∀ p r, go p = some r → token_text.l0_k.I p r) (s_0 x_1 a_7 x_9 x_11) (r) (e : token_text.l0_k.body go (.j2 s_0 x_1 a_7 x_9 x_11) = some r) : token_text.l0_k.I (.j2 s_0 x_1 a_7 x_9 x_11) r := by
 unfold token_text.l0_k.body at e
 intro W h0 m0 h m A_7 n_7 c_7 O ne_7
 subst ne_7
 refine f84.j2_in ?_
 unfold f84.j2T
 refine ⟨by decide, ?_⟩
 refine O.new fun h1 x2 O3 => ?_
 obtain ⟨l5, g6, e⟩ := bind_e e
 have O13 := O3.rowE (l := ([(bitsI .or .u8 (shlI .u8 x_9 (4 : Int)) x_11)] : List Int)) 1 rfl (tell_int .u8) (show CsE _ _ _ _ _ from (CsE.cons (c1 := [(Value.int .u8 (bitsI .or .u8 (shlI .u8 x_9 (4 : Int)) x_11))]) rfl rfl CsE.nil)) rfl
 refine O13.app 0 rfl rfl rfl ((O13.os 1 rfl).srcE rfl) (by decide) g6 fun A7 c8 h9 O10 => ?_
 refine ⟨_, _, _, rfl, ?_⟩
 have O14 := O10.nm
 exact (ih _ _ e) (O14.pick [0]).nm rfl
theorem token_text.l0_k.step_j0 (go : (p : token_text.l0_k.Pt) → Option (ByteArray × Int × Bool)) (ih : ∀ p r, go p = some r → token_text.l0_k.I p r) (s_0 x_1 a_7) (r) (e : token_text.l0_k.body go (.j0 s_0 x_1 a_7) = some r) : token_text.l0_k.I (.j0 s_0 x_1 a_7) r := by
 unfold token_text.l0_k.body at e
 intro W h0 m0 h m A_7 n_7 c_7 O ne_7
 subst ne_7
 refine f84.j0_in ?_
 unfold f84.j0T
 exact (ih _ _ e) (O.pick [0]).nm rfl
theorem token_text.l0_k.all {p : token_text.l0_k.Pt} {r : (ByteArray × Int × Bool)} (e : token_text.l0_k.go p = some r) : token_text.l0_k.I p r := fixF_ind (β := fun _ => (ByteArray × Int × Bool)) token_text.l0_k.mono (I := token_text.l0_k.I) (fun go ih p r e => match p with
 | .l0 s_0 x_1 a_7 => token_text.l0_k.step_l0 go ih s_0 x_1 a_7 r e
 | .j1 s_0 x_1 a_7 x_55 b_62 => token_text.l0_k.step_j1 go ih s_0 x_1 a_7 x_55 b_62 r e
 | .j3 s_0 x_1 a_7 x_9 x_11 b_102 => token_text.l0_k.step_j3 go ih s_0 x_1 a_7 x_9 x_11 b_102 r e
 | .j2 s_0 x_1 a_7 x_9 x_11 => token_text.l0_k.step_j2 go ih s_0 x_1 a_7 x_9 x_11 r e
 | .j0 s_0 x_1 a_7 => token_text.l0_k.step_j0 go ih s_0 x_1 a_7 r e
 ) e
noncomputable def token_text (s_0 : ByteArray) (x_1 : Int) : Option (ByteArray × Int × Bool) :=
 (token_text.l0 s_0 (IntKind.wrap .i64 (x_1 + (1 : Int))) ([] : List Int))
theorem token_text.walk {W h m s_0 x_1} (O : Hold W h m h m []) {r} (e : token_text s_0 x_1 = some r) : Run Tryd.prog 84 #[Value.string s_0, Value.int .i64 x_1] h (token_text.post W h m r) := by
 unfold token_text at e
 refine f84.run ?_
 unfold f84.runT
 have O1 := O.nil (aE (tell_int .u8)) none
 have O3 := O1.nm
 exact (token_text.l0_k.all e) (O3.pick [0]).nm rfl
def token_next.post (W : Nat → Prop) (h0 m0 : Heap) (r : T_token_Token × Int × Bool) (v : Value) (h : Heap) : Prop := ∃ m cs0, Hold W h0 m0 h m [] ∧ v = .tuple #[.agg cs0.toArray, .int .i64 r.2.1, .bool r.2.2] ∧ T_token_Token.E m r.1 cs0
noncomputable def token_next.j3 (x_1 : Int) (y_4 : T_token_Token) (x_8 : Int) (y_9 : T_token_Token) : Option (T_token_Token × Int × Bool) :=
 some (y_9, x_8, (decide ((IntKind.wrap .i64 (x_8 - x_1)) ≤ (16 : Int))))
theorem token_next.j3.walk {W h0 m0 h m bk_4 cs_4 bk_9 cs_9 x_1 y_4 x_8 y_9} (O : Hold W h0 m0 h m [rV bk_4 59 cs_4, rV bk_9 59 cs_9]) (e_4 : T_token_Token.E m y_4 cs_4) (e_9 : T_token_Token.E m y_9 cs_9) {r} (e : token_next.j3 x_1 y_4 x_8 y_9 = some r) : f62.j3 (token_next.post W h0 m0 r) x_1 (⟨bk_4, 0, none⟩ : Addr) x_8 (⟨bk_9, 0, none⟩ : Addr) h := by
 unfold token_next.j3 at e
 refine f62.j3_in ?_
 unfold f62.j3T
 refine ⟨_, ldAn (Sub.refl _) (O.all 1 rfl) (T_token_Token.T.len _ _ _ e_9), ?_⟩
 refine ⟨_, rfl, (T_token_Token.T.len _ _ _ e_9), ?_⟩
 refine O.stA 0 rfl ((T_token_Token.T.len _ _ _ e_9).trans ((T_token_Token.T.len _ _ _ e_4)).symm) (T_token_Token.T.flat _ _ _ e_9) fun h1 O2 => ?_
 refine ⟨_, ldAn (Sub.refl _) (O2.all 0 rfl) (T_token_Token.T.len _ _ _ e_9), ?_⟩
 have O3 := O2.nm
 cases e
 exact ⟨_, _, O3.pick [], rfl, e_9⟩
noncomputable def token_next.j2 (s_0 : ByteArray) (x_1 : Int) (y_4 : T_token_Token) (x_7 : Int) (x_8 : Int) : Option (T_token_Token × Int × Bool) :=
 if 0 ≤ x_1 ∧ x_1 ≤ x_8 ∧ x_8 ≤ ((ByteArray.size s_0 : Nat) : Int) then (Option.bind (token_low x_7) fun y8 => if y8 = true then (Option.bind (token_IsWord (ByteArray.extract s_0 (Int.toNat x_1) (Int.toNat x_8))) fun y17 => if y17 = true then ((token_next.j3 x_1 y_4 x_8 (T_token_Token.mk (3 : Int) (ByteArray.extract s_0 (Int.toNat x_1) (Int.toNat x_8)) x_1))) else ((token_next.j3 x_1 y_4 x_8 (T_token_Token.mk (1 : Int) (ByteArray.extract s_0 (Int.toNat x_1) (Int.toNat x_8)) x_1)))) else ((token_next.j3 x_1 y_4 x_8 (T_token_Token.mk (2 : Int) (ByteArray.extract s_0 (Int.toNat x_1) (Int.toNat x_8)) x_1)))) else none
theorem token_next.j2.walk {W h0 m0 h m bk_4 cs_4 s_0 x_1 y_4 x_7 x_8} (O : Hold W h0 m0 h m [rV bk_4 59 cs_4]) (e_4 : T_token_Token.E m y_4 cs_4) {r} (e : token_next.j2 s_0 x_1 y_4 x_7 x_8 = some r) : f62.j2 (token_next.post W h0 m0 r) s_0 x_1 (⟨bk_4, 0, none⟩ : Addr) x_7 x_8 h := by
 unfold token_next.j2 at e
 refine f62.j2_in ?_
 unfold f62.j2T
 obtain ⟨g1, e⟩ := guard_e e
 refine ⟨g1.1, g1.2.1, g1.2.2, ?_⟩
 refine O.new fun h2 x3 O4 => ?_
 refine ⟨_, rfl, rfl, ?_⟩
 refine O4.stA 1 rfl rfl (Flats.cons trivial (Flats.cons trivial (Flats.cons trivial Flats.nil))) fun h6 O7 => ?_
 obtain ⟨y8, g9, e⟩ := bind_e e
 refine (token_low.walk (Hold.start (W := No) O7.s)  g9).mono ?_
 rintro _ h10 ⟨m11, Q12, rfl⟩
 have O14 := Hold.nm (O7.retC Q12 vfs_nil)
 refine ⟨_, rfl, ?_⟩
 refine split_any_e e (fun c28 e => ?_) (fun c28 e => ?_)
 · refine O14.st0 1 rfl (Nat.le_of_ble_eq_true rfl) trivial fun h15 O16 => ?_
   refine ⟨_, ldk (k := 1) (Sub.refl _) (O16.all 1 rfl) rfl, _, rfl, ?_⟩
   obtain ⟨y17, g18, e⟩ := bind_e e
   refine (token_IsWord.walk (Hold.start (W := No) O16.s)  g18).mono ?_
   rintro _ h19 ⟨m20, Q21, rfl⟩
   have O23 := Hold.nm (O16.retC Q21 vfs_nil)
   refine ⟨_, rfl, ?_⟩
   refine split_any_e e (fun c27 e => ?_) (fun c27 e => ?_)
   · refine O23.st0 1 rfl (Nat.le_of_ble_eq_true rfl) trivial fun h24 O25 => ?_
     have O26 := O25.nm
     exact token_next.j3.walk (O26.pick [0, 1]).nm e_4 (show T_token_Token.E _ (T_token_Token.mk (3 : Int) (ByteArray.extract s_0 (Int.toNat x_1) (Int.toNat x_8)) x_1) [(Value.int .i64 (3 : Int)), (Value.string (ByteArray.extract s_0 (Int.toNat x_1) (Int.toNat x_8))), (Value.int .i64 x_1)] from rfl) e
   · exact token_next.j3.walk (O23.pick [0, 1]).nm e_4 (show T_token_Token.E _ (T_token_Token.mk (1 : Int) (ByteArray.extract s_0 (Int.toNat x_1) (Int.toNat x_8)) x_1) [(Value.int .i64 (1 : Int)), (Value.string (ByteArray.extract s_0 (Int.toNat x_1) (Int.toNat x_8))), (Value.int .i64 x_1)] from rfl) e
 · exact token_next.j3.walk (O14.pick [0, 1]).nm e_4 (show T_token_Token.E _ (T_token_Token.mk (2 : Int) (ByteArray.extract s_0 (Int.toNat x_1) (Int.toNat x_8)) x_1) [(Value.int .i64 (2 : Int)), (Value.string (ByteArray.extract s_0 (Int.toNat x_1) (Int.toNat x_8))), (Value.int .i64 x_1)] from rfl) e
inductive token_next.l0_k.Pt where
 | l0 (s_0 : ByteArray) (x_1 : Int) (y_4 : T_token_Token) (x_7 : Int) (x_8 : Int)
 | j5 (s_0 : ByteArray) (x_1 : Int) (y_4 : T_token_Token) (x_7 : Int) (x_8 : Int)
noncomputable def token_next.l0_k.body (go : (p : token_next.l0_k.Pt) → Option (T_token_Token × Int × Bool)) : (p : token_next.l0_k.Pt) → Option (T_token_Token × Int × Bool)
 | .l0 s_0 x_1 y_4 x_7 x_8 => if x_8 < ((ByteArray.size s_0 : Nat) : Int) then (Option.bind (gb s_0 x_8) fun y1 => Option.bind (token_inner y1) fun y7 => if y7 = true then ((go (.j5 s_0 x_1 y_4 x_7 x_8))) else ((token_next.j2 s_0 x_1 y_4 x_7 x_8))) else ((token_next.j2 s_0 x_1 y_4 x_7 x_8))
 | .j5 s_0 x_1 y_4 x_7 x_8 => (go (.l0 s_0 x_1 y_4 x_7 (IntKind.wrap .i64 (x_8 + (1 : Int)))))
theorem token_next.l0_k.mono : MonoF (β := fun _ => (T_token_Token × Int × Bool)) token_next.l0_k.body := fun f g hfg p => match p with
 | .l0 s_0 x_1 y_4 x_7 x_8 => LeO.ite (LeO.bind (LeO.refl _) fun y1 => LeO.bind (LeO.refl _) fun y7 => LeO.ite ((hfg _)) ((LeO.refl _))) ((LeO.refl _))
 | .j5 s_0 x_1 y_4 x_7 x_8 => (hfg _)
noncomputable def token_next.l0_k.go (p : token_next.l0_k.Pt) : Option (T_token_Token × Int × Bool) := fixF (β := fun _ => (T_token_Token × Int × Bool)) token_next.l0_k.body p
noncomputable def token_next.l0 (s_0 x_1 y_4 x_7 x_8) := token_next.l0_k.go (.l0 s_0 x_1 y_4 x_7 x_8)
noncomputable def token_next.j5 (s_0 x_1 y_4 x_7 x_8) := token_next.l0_k.go (.j5 s_0 x_1 y_4 x_7 x_8)
theorem token_next.l0_eq (s_0 x_1 y_4 x_7 x_8) : token_next.l0 s_0 x_1 y_4 x_7 x_8 = if x_8 < ((ByteArray.size s_0 : Nat) : Int) then (Option.bind (gb s_0 x_8) fun y1 => Option.bind (token_inner y1) fun y7 => if y7 = true then ((token_next.j5 s_0 x_1 y_4 x_7 x_8)) else ((token_next.j2 s_0 x_1 y_4 x_7 x_8))) else ((token_next.j2 s_0 x_1 y_4 x_7 x_8)) := fixF_eq token_next.l0_k.mono _
theorem token_next.j5_eq (s_0 x_1 y_4 x_7 x_8) : token_next.j5 s_0 x_1 y_4 x_7 x_8 = (token_next.l0 s_0 x_1 y_4 x_7 (IntKind.wrap .i64 (x_8 + (1 : Int)))) := fixF_eq token_next.l0_k.mono _
def token_next.l0_k.I : (p : token_next.l0_k.Pt) → (T_token_Token × Int × Bool) → Prop
 | .l0 s_0 x_1 y_4 x_7 x_8, r => ∀ {W h0 m0 h m bk_4 cs_4} (O : Hold W h0 m0 h m [rV bk_4 59 cs_4]) (e_4 : T_token_Token.E m y_4 cs_4), f62.l0 (token_next.post W h0 m0 r) s_0 x_1 (⟨bk_4, 0, none⟩ : Addr) x_7 x_8 h
 | .j5 s_0 x_1 y_4 x_7 x_8, r => ∀ {W h0 m0 h m bk_4 cs_4} (O : Hold W h0 m0 h m [rV bk_4 59 cs_4]) (e_4 : T_token_Token.E m y_4 cs_4), f62.j5 (token_next.post W h0 m0 r) s_0 x_1 (⟨bk_4, 0, none⟩ : Addr) x_7 x_8 h
theorem token_next.l0_k.step_l0 (go : (p : token_next.l0_k.Pt) → Option (T_token_Token × Int × Bool)) (ih : ∀ p r, go p = some r → token_next.l0_k.I p r) (s_0 x_1 y_4 x_7 x_8) (r) (e : token_next.l0_k.body go (.l0 s_0 x_1 y_4 x_7 x_8) = some r) : token_next.l0_k.I (.l0 s_0 x_1 y_4 x_7 x_8) r := by
 unfold token_next.l0_k.body at e
 intro W h0 m0 h m bk_4 cs_4 O e_4
 refine f62.l0_in ?_
 unfold f62.l0T
 refine split_dec_e e (fun c15 e => ?_) (fun c15 e => ?_)
 · obtain ⟨y1, g2, e⟩ := bind_e e
   obtain ⟨q3, b4, q5, q6⟩ := gb_e g2
   refine ⟨q3, _, q5, ?_⟩
   try rw [← q6]
   obtain ⟨y7, g8, e⟩ := bind_e e
   refine (token_inner.walk (Hold.start (W := No) O.s)  g8).mono ?_
   rintro _ h9 ⟨m10, Q11, rfl⟩
   have O13 := Hold.nm (O.retC Q11 vfs_nil)
   refine ⟨_, rfl, ?_⟩
   refine split_any_e e (fun c14 e => ?_) (fun c14 e => ?_)
   · exact (ih _ _ e) (O13.pick [0]).nm e_4
   · exact token_next.j2.walk (O13.pick [0]).nm e_4 e
 · exact token_next.j2.walk (O.pick [0]).nm e_4 e
theorem token_next.l0_k.step_j5 (go : (p : token_next.l0_k.Pt) → Option (T_token_Token × Int × Bool)) (ih : ∀ p r, go p = some r → token_next.l0_k.I p r) (s_0 x_1 y_4 x_7 x_8) (r) (e : token_next.l0_k.body go (.j5 s_0 x_1 y_4 x_7 x_8) = some r) : token_next.l0_k.I (.j5 s_0 x_1 y_4 x_7 x_8) r := by
 unfold token_next.l0_k.body at e
 intro W h0 m0 h m bk_4 cs_4 O e_4
 refine f62.j5_in ?_
 unfold f62.j5T
 exact (ih _ _ e) (O.pick [0]).nm e_4
theorem token_next.l0_k.all {p : token_next.l0_k.Pt} {r : (T_token_Token × Int × Bool)} (e : token_next.l0_k.go p = some r) : token_next.l0_k.I p r := fixF_ind (β := fun _ => (T_token_Token × Int × Bool)) token_next.l0_k.mono (I := token_next.l0_k.I) (fun go ih p r e => match p with
 | .l0 s_0 x_1 y_4 x_7 x_8 => token_next.l0_k.step_l0 go ih s_0 x_1 y_4 x_7 x_8 r e
 | .j5 s_0 x_1 y_4 x_7 x_8 => token_next.l0_k.step_j5 go ih s_0 x_1 y_4 x_7 x_8 r e
 ) e
noncomputable def token_next.j4 (s_0 : ByteArray) (x_1 : Int) (y_4 : T_token_Token) (x_8 : Int) : Option (T_token_Token × Int × Bool) :=
 if 0 ≤ x_1 ∧ x_1 ≤ x_8 ∧ x_8 ≤ ((ByteArray.size s_0 : Nat) : Int) then (if x_8 ≥ ((ByteArray.size s_0 : Nat) : Int) then (some ((T_token_Token.mk (4 : Int) (ByteArray.extract s_0 (Int.toNat x_1) (Int.toNat x_8)) x_1), x_8, true)) else (Option.bind (gb s_0 x_8) fun y14 => Option.bind (token_inner y14) fun y20 => some ((T_token_Token.mk (4 : Int) (ByteArray.extract s_0 (Int.toNat x_1) (Int.toNat x_8)) x_1), x_8, (!y20)))) else none
set_option maxHeartbeats 4000000 in
theorem token_next.j4.walk {W h0 m0 h m bk_4 cs_4 s_0 x_1 y_4 x_8} (O : Hold W h0 m0 h m [rV bk_4 59 cs_4]) (e_4 : T_token_Token.E m y_4 cs_4) {r} (e : token_next.j4 s_0 x_1 y_4 x_8 = some r) : f62.j4 (token_next.post W h0 m0 r) s_0 x_1 (⟨bk_4, 0, none⟩ : Addr) x_8 h := by
 unfold token_next.j4 at e
 refine f62.j4_in ?_
 unfold f62.j4T
 obtain ⟨g1, e⟩ := guard_e e
 refine ⟨g1.1, g1.2.1, g1.2.2, ?_⟩
 refine split_dec_e e (fun c53 e => ?_) (fun c53 e => ?_)
 · refine ⟨?_, ?_⟩
   · refine ⟨_, rfl, rfl, ?_⟩
     refine O.stAO 0 rfl ((T_token_Token.T.len _ _ _ e_4)).symm (Flats.cons trivial (Flats.cons trivial (Flats.cons trivial Flats.nil))) fun h6 S8 O7 => ?_
     refine ⟨_, ldAn (Sub.refl _) (O7.all 0 rfl) rfl, ?_⟩
     have O9 := O7.nm
     cases e
     exact ⟨_, _, O9.pick [], rfl, (show T_token_Token.E _ (T_token_Token.mk (4 : Int) (ByteArray.extract s_0 (Int.toNat x_1) (Int.toNat x_8)) x_1) [(Value.int .i64 (4 : Int)), (Value.string (ByteArray.extract s_0 (Int.toNat x_1) (Int.toNat x_8))), (Value.int .i64 x_1)] from rfl)⟩
   · refine ⟨_, rfl, rfl, ?_⟩
     refine O.stAO 0 rfl ((T_token_Token.T.len _ _ _ e_4)).symm (Flats.cons trivial (Flats.cons trivial (Flats.cons trivial Flats.nil))) fun h10 S12 O11 => ?_
     refine ⟨_, ldAn (Sub.refl _) (O11.all 0 rfl) rfl, ?_⟩
     have O13 := O11.nm
     cases e
     exact ⟨_, _, O13.pick [], rfl, (show T_token_Token.E _ (T_token_Token.mk (4 : Int) (ByteArray.extract s_0 (Int.toNat x_1) (Int.toNat x_8)) x_1) [(Value.int .i64 (4 : Int)), (Value.string (ByteArray.extract s_0 (Int.toNat x_1) (Int.toNat x_8))), (Value.int .i64 x_1)] from rfl)⟩
 · obtain ⟨y14, g15, e⟩ := bind_e e
   obtain ⟨q16, b17, q18, q19⟩ := gb_e g15
   refine ⟨q16, _, q18, ?_⟩
   try rw [← q19]
   obtain ⟨y20, g21, e⟩ := bind_e e
   refine ⟨?_, ?_⟩
   · refine (token_inner.walk (Hold.start (W := No) O.s)  g21).mono ?_
     rintro _ h33 ⟨m34, Q35, rfl⟩
     have O37 := Hold.nm (O.retC Q35 vfs_nil)
     refine ⟨_, rfl, ?_⟩
     refine ⟨_, rfl, rfl, ?_⟩
     refine O37.stAO 0 rfl ((T_token_Token.T.len _ _ _ e_4)).symm (Flats.cons trivial (Flats.cons trivial (Flats.cons trivial Flats.nil))) fun h38 S40 O39 => ?_
     refine ⟨_, ldAn (Sub.refl _) (O39.all 0 rfl) rfl, ?_⟩
     have O41 := O39.nm
     cases e
     exact ⟨_, _, O41.pick [], rfl, (show T_token_Token.E _ (T_token_Token.mk (4 : Int) (ByteArray.extract s_0 (Int.toNat x_1) (Int.toNat x_8)) x_1) [(Value.int .i64 (4 : Int)), (Value.string (ByteArray.extract s_0 (Int.toNat x_1) (Int.toNat x_8))), (Value.int .i64 x_1)] from rfl)⟩
   · refine (token_inner.walk (Hold.start (W := No) O.s)  g21).mono ?_
     rintro _ h44 ⟨m45, Q46, rfl⟩
     have O48 := Hold.nm (O.retC Q46 vfs_nil)
     refine ⟨_, rfl, ?_⟩
     refine ⟨_, rfl, rfl, ?_⟩
     refine O48.stAO 0 rfl ((T_token_Token.T.len _ _ _ e_4)).symm (Flats.cons trivial (Flats.cons trivial (Flats.cons trivial Flats.nil))) fun h49 S51 O50 => ?_
     refine ⟨_, ldAn (Sub.refl _) (O50.all 0 rfl) rfl, ?_⟩
     have O52 := O50.nm
     cases e
     exact ⟨_, _, O52.pick [], rfl, (show T_token_Token.E _ (T_token_Token.mk (4 : Int) (ByteArray.extract s_0 (Int.toNat x_1) (Int.toNat x_8)) x_1) [(Value.int .i64 (4 : Int)), (Value.string (ByteArray.extract s_0 (Int.toNat x_1) (Int.toNat x_8))), (Value.int .i64 x_1)] from rfl)⟩
inductive token_next.l1_k.Pt where
 | l1 (s_0 : ByteArray) (x_1 : Int) (y_4 : T_token_Token) (x_8 : Int)
 | j6 (s_0 : ByteArray) (x_1 : Int) (y_4 : T_token_Token) (x_8 : Int)
noncomputable def token_next.l1_k.body (go : (p : token_next.l1_k.Pt) → Option (T_token_Token × Int × Bool)) : (p : token_next.l1_k.Pt) → Option (T_token_Token × Int × Bool)
 | .l1 s_0 x_1 y_4 x_8 => if x_8 < ((ByteArray.size s_0 : Nat) : Int) then (Option.bind (gb s_0 x_8) fun y1 => Option.bind (token_digit y1) fun y7 => if y7 = true then ((go (.j6 s_0 x_1 y_4 x_8))) else ((token_next.j4 s_0 x_1 y_4 x_8))) else ((token_next.j4 s_0 x_1 y_4 x_8))
 | .j6 s_0 x_1 y_4 x_8 => (go (.l1 s_0 x_1 y_4 (IntKind.wrap .i64 (x_8 + (1 : Int)))))
theorem token_next.l1_k.mono : MonoF (β := fun _ => (T_token_Token × Int × Bool)) token_next.l1_k.body := fun f g hfg p => match p with
 | .l1 s_0 x_1 y_4 x_8 => LeO.ite (LeO.bind (LeO.refl _) fun y1 => LeO.bind (LeO.refl _) fun y7 => LeO.ite ((hfg _)) ((LeO.refl _))) ((LeO.refl _))
 | .j6 s_0 x_1 y_4 x_8 => (hfg _)
noncomputable def token_next.l1_k.go (p : token_next.l1_k.Pt) : Option (T_token_Token × Int × Bool) := fixF (β := fun _ => (T_token_Token × Int × Bool)) token_next.l1_k.body p
noncomputable def token_next.l1 (s_0 x_1 y_4 x_8) := token_next.l1_k.go (.l1 s_0 x_1 y_4 x_8)
noncomputable def token_next.j6 (s_0 x_1 y_4 x_8) := token_next.l1_k.go (.j6 s_0 x_1 y_4 x_8)
theorem token_next.l1_eq (s_0 x_1 y_4 x_8) : token_next.l1 s_0 x_1 y_4 x_8 = if x_8 < ((ByteArray.size s_0 : Nat) : Int) then (Option.bind (gb s_0 x_8) fun y1 => Option.bind (token_digit y1) fun y7 => if y7 = true then ((token_next.j6 s_0 x_1 y_4 x_8)) else ((token_next.j4 s_0 x_1 y_4 x_8))) else ((token_next.j4 s_0 x_1 y_4 x_8)) := fixF_eq token_next.l1_k.mono _
theorem token_next.j6_eq (s_0 x_1 y_4 x_8) : token_next.j6 s_0 x_1 y_4 x_8 = (token_next.l1 s_0 x_1 y_4 (IntKind.wrap .i64 (x_8 + (1 : Int)))) := fixF_eq token_next.l1_k.mono _
def token_next.l1_k.I : (p : token_next.l1_k.Pt) → (T_token_Token × Int × Bool) → Prop
 | .l1 s_0 x_1 y_4 x_8, r => ∀ {W h0 m0 h m bk_4 cs_4} (O : Hold W h0 m0 h m [rV bk_4 59 cs_4]) (e_4 : T_token_Token.E m y_4 cs_4), f62.l1 (token_next.post W h0 m0 r) s_0 x_1 (⟨bk_4, 0, none⟩ : Addr) x_8 h
 | .j6 s_0 x_1 y_4 x_8, r => ∀ {W h0 m0 h m bk_4 cs_4} (O : Hold W h0 m0 h m [rV bk_4 59 cs_4]) (e_4 : T_token_Token.E m y_4 cs_4), f62.j6 (token_next.post W h0 m0 r) s_0 x_1 (⟨bk_4, 0, none⟩ : Addr) x_8 h
theorem token_next.l1_k.step_l1 (go : (p : token_next.l1_k.Pt) → Option (T_token_Token × Int × Bool)) (ih : ∀ p r, go p = some r → token_next.l1_k.I p r) (s_0 x_1 y_4 x_8) (r) (e : token_next.l1_k.body go (.l1 s_0 x_1 y_4 x_8) = some r) : token_next.l1_k.I (.l1 s_0 x_1 y_4 x_8) r := by
 unfold token_next.l1_k.body at e
 intro W h0 m0 h m bk_4 cs_4 O e_4
 refine f62.l1_in ?_
 unfold f62.l1T
 refine split_dec_e e (fun c15 e => ?_) (fun c15 e => ?_)
 · obtain ⟨y1, g2, e⟩ := bind_e e
   obtain ⟨q3, b4, q5, q6⟩ := gb_e g2
   refine ⟨q3, _, q5, ?_⟩
   try rw [← q6]
   obtain ⟨y7, g8, e⟩ := bind_e e
   refine (token_digit.walk (Hold.start (W := No) O.s)  g8).mono ?_
   rintro _ h9 ⟨m10, Q11, rfl⟩
   have O13 := Hold.nm (O.retC Q11 vfs_nil)
   refine ⟨_, rfl, ?_⟩
   refine split_any_e e (fun c14 e => ?_) (fun c14 e => ?_)
   · exact (ih _ _ e) (O13.pick [0]).nm e_4
   · exact token_next.j4.walk (O13.pick [0]).nm e_4 e
 · exact token_next.j4.walk (O.pick [0]).nm e_4 e
theorem token_next.l1_k.step_j6 (go : (p : token_next.l1_k.Pt) → Option (T_token_Token × Int × Bool)) (ih : ∀ p r, go p = some r → token_next.l1_k.I p r) (s_0 x_1 y_4 x_8) (r) (e : token_next.l1_k.body go (.j6 s_0 x_1 y_4 x_8) = some r) : token_next.l1_k.I (.j6 s_0 x_1 y_4 x_8) r := by
 unfold token_next.l1_k.body at e
 intro W h0 m0 h m bk_4 cs_4 O e_4
 refine f62.j6_in ?_
 unfold f62.j6T
 exact (ih _ _ e) (O.pick [0]).nm e_4
theorem token_next.l1_k.all {p : token_next.l1_k.Pt} {r : (T_token_Token × Int × Bool)} (e : token_next.l1_k.go p = some r) : token_next.l1_k.I p r := fixF_ind (β := fun _ => (T_token_Token × Int × Bool)) token_next.l1_k.mono (I := token_next.l1_k.I) (fun go ih p r e => match p with
 | .l1 s_0 x_1 y_4 x_8 => token_next.l1_k.step_l1 go ih s_0 x_1 y_4 x_8 r e
 | .j6 s_0 x_1 y_4 x_8 => token_next.l1_k.step_j6 go ih s_0 x_1 y_4 x_8 r e
 ) e
noncomputable def token_next.j0 (s_0 : ByteArray) (x_1 : Int) (y_4 : T_token_Token) : Option (T_token_Token × Int × Bool) :=
 Option.bind (token_sign s_0 x_1) fun y1 => some ((T_token_Token.mk (6 : Int) y1 x_1), (IntKind.wrap .i64 (x_1 + ((ByteArray.size y1 : Nat) : Int))), (!(decide (y1 = (ByteArray.mk #[])))))
theorem token_next.j0.walk {W h0 m0 h m bk_4 cs_4 s_0 x_1 y_4} (O : Hold W h0 m0 h m [rV bk_4 59 cs_4]) (e_4 : T_token_Token.E m y_4 cs_4) {r} (e : token_next.j0 s_0 x_1 y_4 = some r) : f62.j0 (token_next.post W h0 m0 r) s_0 x_1 (⟨bk_4, 0, none⟩ : Addr) h := by
 unfold token_next.j0 at e
 refine f62.j0_in ?_
 unfold f62.j0T
 obtain ⟨y1, g2, e⟩ := bind_e e
 refine (token_sign.walk (Hold.start (W := No) O.s)  g2).mono ?_
 rintro _ h3 ⟨m4, Q5, rfl⟩
 have O7 := Hold.nm (O.retC Q5 vfs_nil)
 refine ⟨_, rfl, ?_⟩
 try rw [ba_list y1 (ByteArray.mk #[])]
 refine ⟨_, rfl, rfl, ?_⟩
 refine O7.stA 0 rfl ((T_token_Token.T.len _ _ _ e_4)).symm (Flats.cons trivial (Flats.cons trivial (Flats.cons trivial Flats.nil))) fun h8 O9 => ?_
 refine ⟨_, ldAn (Sub.refl _) (O9.all 0 rfl) rfl, ?_⟩
 have O10 := O9.nm
 cases e
 exact ⟨_, _, O10.pick [], rfl, (show T_token_Token.E _ (T_token_Token.mk (6 : Int) y1 x_1) [(Value.int .i64 (6 : Int)), (Value.string y1), (Value.int .i64 x_1)] from rfl)⟩
noncomputable def token_next.j1 (s_0 : ByteArray) (x_1 : Int) (y_4 : T_token_Token) (x_7 : Int) (x_8 : Int) (b_18 : Bool) : Option (T_token_Token × Int × Bool) :=
 if b_18 = true then ((token_next.l0 s_0 x_1 y_4 x_7 x_8)) else (Option.bind (token_digit x_7) fun y1 => if y1 = true then ((token_next.l1 s_0 x_1 y_4 x_8)) else (if x_7 = (34 : Int) then (Option.bind (token_text s_0 x_1) fun y8 => some ((T_token_Token.mk (5 : Int) y8.1 x_1), y8.2.1, y8.2.2)) else ((token_next.j0 s_0 x_1 y_4))))
theorem token_next.j1.walk {W h0 m0 h m bk_4 cs_4 s_0 x_1 y_4 x_7 x_8 b_18} (O : Hold W h0 m0 h m [rV bk_4 59 cs_4]) (e_4 : T_token_Token.E m y_4 cs_4) {r} (e : token_next.j1 s_0 x_1 y_4 x_7 x_8 b_18 = some r) : f62.j1 (token_next.post W h0 m0 r) s_0 x_1 (⟨bk_4, 0, none⟩ : Addr) x_7 x_8 b_18 h := by
 unfold token_next.j1 at e
 refine f62.j1_in ?_
 unfold f62.j1T
 refine split_any_e e (fun c20 e => ?_) (fun c20 e => ?_)
 · exact (token_next.l0_k.all e) (O.pick [0]).nm e_4
 · obtain ⟨y1, g2, e⟩ := bind_e e
   refine (token_digit.walk (Hold.start (W := No) O.s)  g2).mono ?_
   rintro _ h3 ⟨m4, Q5, rfl⟩
   have O7 := Hold.nm (O.retC Q5 vfs_nil)
   refine ⟨_, rfl, ?_⟩
   refine split_any_e e (fun c19 e => ?_) (fun c19 e => ?_)
   · exact (token_next.l1_k.all e) (O7.pick [0]).nm e_4
   · refine split_eq_e e (fun c18 e => ?_) (fun c18 e => ?_)
     · obtain ⟨y8, g9, e⟩ := bind_e e
       refine (token_text.walk (Hold.start (W := No) O7.s)  g9).mono ?_
       rintro _ h10 ⟨m11, Q12, rfl⟩
       have O14 := Hold.nm (O7.retC Q12 vfs_nil)
       refine ⟨_, _, _, rfl, ?_⟩
       refine ⟨_, rfl, rfl, ?_⟩
       refine O14.stA 0 rfl ((T_token_Token.T.len _ _ _ e_4)).symm (Flats.cons trivial (Flats.cons trivial (Flats.cons trivial Flats.nil))) fun h15 O16 => ?_
       refine ⟨_, ldAn (Sub.refl _) (O16.all 0 rfl) rfl, ?_⟩
       have O17 := O16.nm
       cases e
       exact ⟨_, _, O17.pick [], rfl, (show T_token_Token.E _ (T_token_Token.mk (5 : Int) y8.1 x_1) [(Value.int .i64 (5 : Int)), (Value.string y8.1), (Value.int .i64 x_1)] from rfl)⟩
     · exact token_next.j0.walk (O7.pick [0]).nm e_4 e
noncomputable def token_next (s_0 : ByteArray) (x_1 : Int) : Option (T_token_Token × Int × Bool) :=
 Option.bind (gb s_0 x_1) fun y5 => Option.bind (token_low y5) fun y11 => if y11 = true then ((token_next.j1 s_0 x_1 (T_token_Token.mk (0 : Int) (ByteArray.mk #[]) (0 : Int)) y5 x_1 true)) else (Option.bind (token_great y5) fun y18 => (token_next.j1 s_0 x_1 (T_token_Token.mk (0 : Int) (ByteArray.mk #[]) (0 : Int)) y5 x_1 y18))
theorem token_next.walk {W h m s_0 x_1} (O : Hold W h m h m []) {r} (e : token_next s_0 x_1 = some r) : Run Tryd.prog 62 #[Value.string s_0, Value.int .i64 x_1] h (token_next.post W h m r) := by
 unfold token_next at e
 refine f62.run ?_
 unfold f62.runT
 refine O.new fun h1 x2 O3 => ?_
 obtain ⟨y5, g6, e⟩ := bind_e e
 obtain ⟨q7, b8, q9, q10⟩ := gb_e g6
 refine ⟨q7, _, q9, ?_⟩
 try rw [← q10]
 obtain ⟨y11, g12, e⟩ := bind_e e
 refine (token_low.walk (Hold.start (W := No) O3.s)  g12).mono ?_
 rintro _ h13 ⟨m14, Q15, rfl⟩
 have O17 := Hold.nm (O3.retC Q15 vfs_nil)
 refine ⟨_, rfl, ?_⟩
 refine split_any_e e (fun c25 e => ?_) (fun c25 e => ?_)
 · exact token_next.j1.walk (O17.pick [0]).nm (show T_token_Token.E _ (T_token_Token.mk (0 : Int) (ByteArray.mk #[]) (0 : Int)) [(Value.int .i64 (0 : Int)), (Value.string (ByteArray.mk #[])), (Value.int .i64 (0 : Int))] from rfl) e
 · obtain ⟨y18, g19, e⟩ := bind_e e
   refine (token_great.walk (Hold.start (W := No) O17.s)  g19).mono ?_
   rintro _ h20 ⟨m21, Q22, rfl⟩
   have O24 := Hold.nm (O17.retC Q22 vfs_nil)
   refine ⟨_, rfl, ?_⟩
   exact token_next.j1.walk (O24.pick [0]).nm (show T_token_Token.E _ (T_token_Token.mk (0 : Int) (ByteArray.mk #[]) (0 : Int)) [(Value.int .i64 (0 : Int)), (Value.string (ByteArray.mk #[])), (Value.int .i64 (0 : Int))] from rfl) e
def token_Read.post (W : Nat → Prop) (h0 m0 : Heap) (r : (List T_token_Token) × Int × Int) (v : Value) (h : Heap) : Prop := ∃ m A0 n0 c0, Hold W h0 m0 h m [rR (aE T_token_Token.T) A0 c0 r.1] ∧ v = .tuple #[.slice A0 n0 c0, .int .i64 r.2.1, .int .i64 r.2.2] ∧ n0 = List.length r.1
inductive token_Read.l0_k.Pt where
 | l0 (s_0 : ByteArray) (a_5 : List T_token_Token) (x_6 : Int)
noncomputable def token_Read.l0_k.body (go : (p : token_Read.l0_k.Pt) → Option ((List T_token_Token) × Int × Int)) : (p : token_Read.l0_k.Pt) → Option ((List T_token_Token) × Int × Int)
 | .l0 s_0 a_5 x_6 => if x_6 < ((ByteArray.size s_0 : Nat) : Int) then (Option.bind (token_next s_0 x_6) fun y1 => if y1.2.2 = true then (Option.bind (ap 32 a_5 ([y1.1] : List T_token_Token)) fun l22 => Option.bind (token_skip s_0 y1.2.1) fun y32 => (go (.l0 s_0 l22 y32))) else (some (([] : List T_token_Token), x_6, (10 : Int)))) else (some (a_5, (0 : Int), (0 : Int)))
theorem token_Read.l0_k.mono : MonoF (β := fun _ => ((List T_token_Token) × Int × Int)) token_Read.l0_k.body := fun f g hfg p => match p with
 | .l0 s_0 a_5 x_6 => LeO.ite (LeO.bind (LeO.refl _) fun y1 => LeO.ite (LeO.bind (LeO.refl _) fun l22 => LeO.bind (LeO.refl _) fun y32 => (hfg _)) (LeO.refl _)) (LeO.refl _)
noncomputable def token_Read.l0_k.go (p : token_Read.l0_k.Pt) : Option ((List T_token_Token) × Int × Int) := fixF (β := fun _ => ((List T_token_Token) × Int × Int)) token_Read.l0_k.body p
noncomputable def token_Read.l0 (s_0 a_5 x_6) := token_Read.l0_k.go (.l0 s_0 a_5 x_6)
theorem token_Read.l0_eq (s_0 a_5 x_6) : token_Read.l0 s_0 a_5 x_6 = if x_6 < ((ByteArray.size s_0 : Nat) : Int) then (Option.bind (token_next s_0 x_6) fun y1 => if y1.2.2 = true then (Option.bind (ap 32 a_5 ([y1.1] : List T_token_Token)) fun l22 => Option.bind (token_skip s_0 y1.2.1) fun y32 => (token_Read.l0 s_0 l22 y32)) else (some (([] : List T_token_Token), x_6, (10 : Int)))) else (some (a_5, (0 : Int), (0 : Int))) := fixF_eq token_Read.l0_k.mono _
def token_Read.l0_k.I : (p : token_Read.l0_k.Pt) → ((List T_token_Token) × Int × Int) → Prop
 | .l0 s_0 a_5 x_6, r => ∀ {W h0 m0 h m A_5 n_5 c_5} (O : Hold W h0 m0 h m [rR (aE T_token_Token.T) A_5 c_5 a_5]) (ne_5 : n_5 = List.length a_5), f31.l0 (token_Read.post W h0 m0 r) s_0 A_5 n_5 c_5 x_6 h
set_option maxHeartbeats 4000000 in
theorem token_Read.l0_k.step_l0 (go : (p : token_Read.l0_k.Pt) → Option ((List T_token_Token) × Int × Int)) (ih : ∀ p r, go p = some r → token_Read.l0_k.I p r) (s_0 a_5 x_6) (r) (e : token_Read.l0_k.body go (.l0 s_0 a_5 x_6) = some r) : token_Read.l0_k.I (.l0 s_0 a_5 x_6) r := by
 unfold token_Read.l0_k.body at e
 intro W h0 m0 h m A_5 n_5 c_5 O ne_5
 subst ne_5
 refine f31.l0_in ?_
 unfold f31.l0T
 refine split_dec_e e (fun c43 e => ?_) (fun c43 e => ?_)
 · obtain ⟨y1, g2, e⟩ := bind_e e
   refine (token_next.walk (Hold.start (W := No) O.s)  g2).mono ?_
   rintro _ h3 ⟨m4, cs8, Q5, rfl, he9⟩
   replace he9 : T_token_Token.E m y1.1 cs8 := T_token_Token.keep he9
   have O10 := Hold.nm (O.retC Q5 vfs_nil)
   refine ⟨_, _, _, rfl, ?_⟩
   refine O10.new fun h11 x12 O13 => ?_
   refine ⟨_, rfl, (T_token_Token.T.len _ _ _ he9), ?_⟩
   refine O13.stA 1 rfl (T_token_Token.T.len _ _ _ he9) (T_token_Token.T.flat _ _ _ he9) fun h15 O16 => ?_
   refine split_not ?_
   refine split_any_e e (fun c42 e => ?_) (fun c42 e => ?_)
   · refine ⟨_, ldAn (Sub.refl _) (O16.all 1 rfl) (T_token_Token.T.len _ _ _ he9), ?_⟩
     refine ⟨cs8, rfl, (T_token_Token.T.len _ _ _ he9), ?_⟩
     refine O16.new fun h17 x18 O19 => ?_
     have O21 := O19.recell 2 rfl (cs' := cs8 ++ []) rfl
     obtain ⟨l22, g23, e⟩ := bind_e e
     have O30 := O21.rowE (l := ([y1.1] : List T_token_Token)) 2 rfl T_token_Token.T (show CsE _ _ _ _ _ from (CsE.cons he9 (T_token_Token.T.len _ _ _ he9) CsE.nil)) rfl
     refine O30.app 0 rfl rfl rfl ((O30.os 2 rfl).srcE rfl) (by decide) g23 fun A24 c25 h26 O27 => ?_
     refine ⟨_, _, _, rfl, ?_⟩
     have O31 := O27.nm
     obtain ⟨y32, g33, e⟩ := bind_e e
     refine (token_skip.walk (Hold.start (W := No) O31.s)  g33).mono ?_
     rintro _ h34 ⟨m35, Q36, rfl⟩
     have O38 := Hold.nm (O31.retC Q36 vfs_nil)
     refine ⟨_, rfl, ?_⟩
     exact (ih _ _ e) (O38.pick [0]).nm rfl
   · have O39 := O16.nil (aE T_token_Token.T) none
     have O41 := O39.nm
     cases e
     exact ⟨_, _, _, _, O41.pick [2], rfl, rfl⟩
 · cases e
   exact ⟨_, _, _, _, O.pick [0], rfl, rfl⟩
theorem token_Read.l0_k.all {p : token_Read.l0_k.Pt} {r : ((List T_token_Token) × Int × Int)} (e : token_Read.l0_k.go p = some r) : token_Read.l0_k.I p r := fixF_ind (β := fun _ => ((List T_token_Token) × Int × Int)) token_Read.l0_k.mono (I := token_Read.l0_k.I) (fun go ih p r e => match p with
 | .l0 s_0 a_5 x_6 => token_Read.l0_k.step_l0 go ih s_0 a_5 x_6 r e
 ) e
noncomputable def token_Read (s_0 : ByteArray) : Option ((List T_token_Token) × Int × Int) :=
 if ((ByteArray.size s_0 : Nat) : Int) > (4000 : Int) then (some (([] : List T_token_Token), (0 : Int), (2 : Int))) else (Option.bind (token_skip s_0 (0 : Int)) fun y4 => (token_Read.l0 s_0 ([] : List T_token_Token) y4))
theorem token_Read.walk {W h m s_0} (O : Hold W h m h m []) {r} (e : token_Read s_0 = some r) : Run Tryd.prog 31 #[Value.string s_0] h (token_Read.post W h m r) := by
 unfold token_Read at e
 refine f31.run ?_
 unfold f31.runT
 refine split_dec_e e (fun c14 e => ?_) (fun c14 e => ?_)
 · have O1 := O.nil (aE T_token_Token.T) none
   have O3 := O1.nm
   cases e
   exact ⟨_, _, _, _, O3.pick [0], rfl, rfl⟩
 · obtain ⟨y4, g5, e⟩ := bind_e e
   refine (token_skip.walk (Hold.start (W := No) O.s)  g5).mono ?_
   rintro _ h6 ⟨m7, Q8, rfl⟩
   have O10 := Hold.nm (O.retC Q8 vfs_nil)
   refine ⟨_, rfl, ?_⟩
   have O11 := O10.nil (aE T_token_Token.T) none
   have O13 := O11.nm
   exact (token_Read.l0_k.all e) (O13.pick [0]).nm rfl
def slices_Equal_32.post (W : Nat → Prop) (h0 m0 : Heap) (r : Bool) (v : Value) (h : Heap) : Prop := ∃ m , Hold W h0 m0 h m [] ∧ v = .bool r
inductive slices_Equal_32.l0_k.Pt where
 | l0 (a_0 : List ByteArray) (a_1 : List ByteArray) (x_12 : Int) (x_13 : Int)
noncomputable def slices_Equal_32.l0_k.body (go : (p : slices_Equal_32.l0_k.Pt) → Option (Bool)) : (p : slices_Equal_32.l0_k.Pt) → Option (Bool)
 | .l0 a_0 a_1 x_12 x_13 => if x_13 < x_12 then (Option.bind (gi a_0 x_13) fun y1 => Option.bind (gi a_1 x_13) fun y8 => if y1 = y8 then ((go (.l0 a_0 a_1 x_12 (IntKind.wrap .i64 (x_13 + (1 : Int)))))) else (some (false))) else (some (true))
theorem slices_Equal_32.l0_k.mono : MonoF (β := fun _ => (Bool)) slices_Equal_32.l0_k.body := fun f g hfg p => match p with
 | .l0 a_0 a_1 x_12 x_13 => LeO.ite (LeO.bind (LeO.refl _) fun y1 => LeO.bind (LeO.refl _) fun y8 => LeO.ite ((hfg _)) (LeO.refl _)) (LeO.refl _)
noncomputable def slices_Equal_32.l0_k.go (p : slices_Equal_32.l0_k.Pt) : Option (Bool) := fixF (β := fun _ => (Bool)) slices_Equal_32.l0_k.body p
noncomputable def slices_Equal_32.l0 (a_0 a_1 x_12 x_13) := slices_Equal_32.l0_k.go (.l0 a_0 a_1 x_12 x_13)
theorem slices_Equal_32.l0_eq (a_0 a_1 x_12 x_13) : slices_Equal_32.l0 a_0 a_1 x_12 x_13 = if x_13 < x_12 then (Option.bind (gi a_0 x_13) fun y1 => Option.bind (gi a_1 x_13) fun y8 => if y1 = y8 then ((slices_Equal_32.l0 a_0 a_1 x_12 (IntKind.wrap .i64 (x_13 + (1 : Int))))) else (some (false))) else (some (true)) := fixF_eq slices_Equal_32.l0_k.mono _
def slices_Equal_32.l0_k.I : (p : slices_Equal_32.l0_k.Pt) → (Bool) → Prop
 | .l0 a_0 a_1 x_12 x_13, r => ∀ {W h0 m0 h m A_0 n_0 c_0 A_1 n_1 c_1} (O : Hold W h0 m0 h m []) (ne_0 : n_0 = List.length a_0) (k_0 : List.length a_0 ≤ c_0) (r_0 : Rd 1 eStr m A_0 a_0) (ne_1 : n_1 = List.length a_1) (k_1 : List.length a_1 ≤ c_1) (r_1 : Rd 1 eStr m A_1 a_1), f32.l0 (slices_Equal_32.post W h0 m0 r) A_0 n_0 c_0 A_1 n_1 c_1 x_12 x_13 h
theorem slices_Equal_32.l0_k.step_l0 (go : (p : slices_Equal_32.l0_k.Pt) → Option (Bool)) (ih : ∀ p r, go p = some r → slices_Equal_32.l0_k.I p r) (a_0 a_1 x_12 x_13) (r) (e : slices_Equal_32.l0_k.body go (.l0 a_0 a_1 x_12 x_13) = some r) : slices_Equal_32.l0_k.I (.l0 a_0 a_1 x_12 x_13) r := by
 unfold slices_Equal_32.l0_k.body at e
 intro W h0 m0 h m A_0 n_0 c_0 A_1 n_1 c_1 O ne_0 k_0 r_0 ne_1 k_1 r_1
 subst ne_0
 subst ne_1
 refine f32.l0_in ?_
 unfold f32.l0T
 refine split_dec_e e (fun c16 e => ?_) (fun c16 e => ?_)
 · obtain ⟨y1, g2, e⟩ := bind_e e
   refine r_0.addr rfl g2 fun a3 cs4 ha5 hc6 he7 => ?_
   obtain rfl : cs4 = [(Value.string y1)] := he7
   obtain ⟨y8, g9, e⟩ := bind_e e
   refine r_1.addr rfl g9 fun a10 cs11 ha12 hc13 he14 => ?_
   obtain rfl : cs11 = [(Value.string y8)] := he14
   refine ⟨_, ld0 O.s hc6 rfl, _, rfl, ?_⟩
   refine ⟨_, ld0 O.s hc13 rfl, _, rfl, ?_⟩
   try rw [ba_list y1 y8]
   refine split_not ?_
   refine split_dec_e e (fun c15 e => ?_) (fun c15 e => ?_)
   · exact (ih _ _ e) (O.pick []).nm rfl k_0 r_0 rfl k_1 r_1
   · cases e
     exact ⟨_, O.pick [], rfl⟩
 · cases e
   exact ⟨_, O.pick [], rfl⟩
theorem slices_Equal_32.l0_k.all {p : slices_Equal_32.l0_k.Pt} {r : (Bool)} (e : slices_Equal_32.l0_k.go p = some r) : slices_Equal_32.l0_k.I p r := fixF_ind (β := fun _ => (Bool)) slices_Equal_32.l0_k.mono (I := slices_Equal_32.l0_k.I) (fun go ih p r e => match p with
 | .l0 a_0 a_1 x_12 x_13 => slices_Equal_32.l0_k.step_l0 go ih a_0 a_1 x_12 x_13 r e
 ) e
noncomputable def slices_Equal_32 (a_0 : List ByteArray) (a_1 : List ByteArray) : Option (Bool) :=
 if (((List.length a_0) : Nat) : Int) = (((List.length a_1) : Nat) : Int) then ((slices_Equal_32.l0 a_0 a_1 (((List.length a_0) : Nat) : Int) (0 : Int))) else (some (false))
theorem slices_Equal_32.walk {W h m A_0 n_0 c_0 A_1 n_1 c_1 a_0 a_1} (O : Hold W h m h m []) (ne_0 : n_0 = List.length a_0) (k_0 : List.length a_0 ≤ c_0) (r_0 : Rd 1 eStr m A_0 a_0) (ne_1 : n_1 = List.length a_1) (k_1 : List.length a_1 ≤ c_1) (r_1 : Rd 1 eStr m A_1 a_1) {r} (e : slices_Equal_32 a_0 a_1 = some r) : Run Tryd.prog 32 #[Value.slice A_0 n_0 c_0, Value.slice A_1 n_1 c_1] h (slices_Equal_32.post W h m r) := by
 unfold slices_Equal_32 at e
 subst ne_0
 subst ne_1
 refine f32.run ?_
 unfold f32.runT
 refine split_ne_e e (fun c1 e => ?_) (fun c1 e => ?_)
 · cases e
   exact ⟨_, O.pick [], rfl⟩
 · exact (slices_Equal_32.l0_k.all e) (O.pick []).nm rfl k_0 r_0 rfl k_1 r_1
def roadlaw2_TokenReads.post (W : Nat → Prop) (h0 m0 : Heap) (r : Bool) (v : Value) (h : Heap) : Prop := ∃ m , Hold W h0 m0 h m [] ∧ v = .bool r
inductive roadlaw2_TokenReads.l0_k.Pt where
 | l0 (a_6 : List T_roadref2_Tok) (a_44 : List T_token_Token) (x_45 : Int) (x_46 : Int)
noncomputable def roadlaw2_TokenReads.l0_k.body (go : (p : roadlaw2_TokenReads.l0_k.Pt) → Option (Bool)) : (p : roadlaw2_TokenReads.l0_k.Pt) → Option (Bool)
 | .l0 a_6 a_44 x_45 x_46 => if x_46 < x_45 then (Option.bind (gi a_44 x_46) fun y1 => Option.bind (gi a_6 x_46) fun y14 => if y1.Kind = y14.Kind then (Option.bind (gi a_6 x_46) fun y22 => if y1.Text = y22.Text then (Option.bind (gi a_6 x_46) fun y29 => if y1.At = y29.At then ((go (.l0 a_6 a_44 x_45 (IntKind.wrap .i64 (x_46 + (1 : Int)))))) else (some (false))) else (some (false))) else (some (false))) else (some (true))
theorem roadlaw2_TokenReads.l0_k.mono : MonoF (β := fun _ => (Bool)) roadlaw2_TokenReads.l0_k.body := fun f g hfg p => match p with
 | .l0 a_6 a_44 x_45 x_46 => LeO.ite (LeO.bind (LeO.refl _) fun y1 => LeO.bind (LeO.refl _) fun y14 => LeO.ite (LeO.bind (LeO.refl _) fun y22 => LeO.ite (LeO.bind (LeO.refl _) fun y29 => LeO.ite ((hfg _)) (LeO.refl _)) (LeO.refl _)) (LeO.refl _)) (LeO.refl _)
noncomputable def roadlaw2_TokenReads.l0_k.go (p : roadlaw2_TokenReads.l0_k.Pt) : Option (Bool) := fixF (β := fun _ => (Bool)) roadlaw2_TokenReads.l0_k.body p
noncomputable def roadlaw2_TokenReads.l0 (a_6 a_44 x_45 x_46) := roadlaw2_TokenReads.l0_k.go (.l0 a_6 a_44 x_45 x_46)
theorem roadlaw2_TokenReads.l0_eq (a_6 a_44 x_45 x_46) : roadlaw2_TokenReads.l0 a_6 a_44 x_45 x_46 = if x_46 < x_45 then (Option.bind (gi a_44 x_46) fun y1 => Option.bind (gi a_6 x_46) fun y14 => if y1.Kind = y14.Kind then (Option.bind (gi a_6 x_46) fun y22 => if y1.Text = y22.Text then (Option.bind (gi a_6 x_46) fun y29 => if y1.At = y29.At then ((roadlaw2_TokenReads.l0 a_6 a_44 x_45 (IntKind.wrap .i64 (x_46 + (1 : Int))))) else (some (false))) else (some (false))) else (some (false))) else (some (true)) := fixF_eq roadlaw2_TokenReads.l0_k.mono _
def roadlaw2_TokenReads.l0_k.I : (p : roadlaw2_TokenReads.l0_k.Pt) → (Bool) → Prop
 | .l0 a_6 a_44 x_45 x_46, r => ∀ {W h0 m0 h m A_6 n_6 c_6 A_44 n_44 c_44} (O : Hold W h0 m0 h m [rR (aE T_roadref2_Tok.T) A_6 c_6 a_6, rR (aE T_token_Token.T) A_44 c_44 a_44]) (ne_6 : n_6 = List.length a_6) (ne_44 : n_44 = List.length a_44) (tab : TB m), f5.l0 (roadlaw2_TokenReads.post W h0 m0 r) A_6 n_6 c_6 A_44 n_44 c_44 x_45 x_46 h
set_option maxHeartbeats 4000000 in
theorem roadlaw2_TokenReads.l0_k.step_l0 (go : (p : roadlaw2_TokenReads.l0_k.Pt) → Option (Bool)) (ih : ∀ p r, go p = some r → roadlaw2_TokenReads.l0_k.I p r) (a_6 a_44 x_45 x_46) (r) (e : roadlaw2_TokenReads.l0_k.body go (.l0 a_6 a_44 x_45 x_46) = some r) : roadlaw2_TokenReads.l0_k.I (.l0 a_6 a_44 x_45 x_46) r := by
 unfold roadlaw2_TokenReads.l0_k.body at e
 intro W h0 m0 h m A_6 n_6 c_6 A_44 n_44 c_44 O ne_6 ne_44 tab
 subst ne_6
 subst ne_44
 refine f5.l0_in ?_
 unfold f5.l0T
 refine split_dec_e e (fun c42 e => ?_) (fun c42 e => ?_)
 · obtain ⟨y1, g2, e⟩ := bind_e e
   refine (O.os 1 rfl).addr rfl g2 fun a3 cs4 ha5 hc6 he7 => ?_
   refine ⟨_, ldAn (Sub.refl _) hc6 rfl, ?_⟩
   refine O.new fun h8 x9 O10 => ?_
   refine ⟨_, rfl, (T_token_Token.T.len _ _ _ he7), ?_⟩
   refine O10.stA 2 rfl (T_token_Token.T.len _ _ _ he7) (T_token_Token.T.flat _ _ _ he7) fun h12 O13 => ?_
   obtain ⟨y14, g15, e⟩ := bind_e e
   refine (O13.os 0 rfl).addr rfl g15 fun a16 cs17 ha18 hc19 he20 => ?_
   refine ⟨_, ld0 (Sub.refl _) (O13.all 2 rfl) (T_token_Token.g0 he7), _, rfl, ?_⟩
   refine ⟨_, ld0 (Sub.refl _) hc19 (T_roadref2_Tok.g0 he20), _, rfl, ?_⟩
   refine split_ne_e e (fun c41 e => ?_) (fun c41 e => ?_)
   · have O21 := O13.nm
     cases e
     exact ⟨_, O21.pick [], rfl⟩
   · obtain ⟨y22, g23, e⟩ := bind_e e
     refine (O13.os 0 rfl).addr rfl g23 fun a24 cs25 ha26 hc27 he28 => ?_
     refine ⟨_, ldk (k := 1) (Sub.refl _) (O13.all 2 rfl) (T_token_Token.g1 he7), _, rfl, ?_⟩
     refine ⟨_, ldk (k := 1) (Sub.refl _) hc27 (T_roadref2_Tok.g1 he28), _, rfl, ?_⟩
     try rw [ba_list y1.Text y22.Text]
     refine split_not ?_
     refine split_dec_e e (fun c40 e => ?_) (fun c40 e => ?_)
     · obtain ⟨y29, g30, e⟩ := bind_e e
       refine (O13.os 0 rfl).addr rfl g30 fun a31 cs32 ha33 hc34 he35 => ?_
       refine ⟨_, ldk (k := 2) (Sub.refl _) (O13.all 2 rfl) (T_token_Token.g2 he7), _, rfl, ?_⟩
       refine ⟨_, ldk (k := 2) (Sub.refl _) hc34 (T_roadref2_Tok.g2 he35), _, rfl, ?_⟩
       refine split_ne_e e (fun c38 e => ?_) (fun c38 e => ?_)
       · have O36 := O13.nm
         cases e
         exact ⟨_, O36.pick [], rfl⟩
       · have O37 := O13.nm
         exact (ih _ _ e) (O37.pick [0, 1]).nm rfl rfl tab
     · have O39 := O13.nm
       cases e
       exact ⟨_, O39.pick [], rfl⟩
 · cases e
   exact ⟨_, O.pick [], rfl⟩
theorem roadlaw2_TokenReads.l0_k.all {p : roadlaw2_TokenReads.l0_k.Pt} {r : (Bool)} (e : roadlaw2_TokenReads.l0_k.go p = some r) : roadlaw2_TokenReads.l0_k.I p r := fixF_ind (β := fun _ => (Bool)) roadlaw2_TokenReads.l0_k.mono (I := roadlaw2_TokenReads.l0_k.I) (fun go ih p r e => match p with
 | .l0 a_6 a_44 x_45 x_46 => roadlaw2_TokenReads.l0_k.step_l0 go ih a_6 a_44 x_45 x_46 r e
 ) e
noncomputable def roadlaw2_TokenReads.j0 (a_3 : List T_token_Token) (a_6 : List T_roadref2_Tok) : Option (Bool) :=
 (roadlaw2_TokenReads.l0 a_6 a_3 (((List.length a_3) : Nat) : Int) (0 : Int))
theorem roadlaw2_TokenReads.j0.walk {W h0 m0 h m A_3 n_3 c_3 A_6 n_6 c_6 a_3 a_6} (O : Hold W h0 m0 h m [rR (aE T_token_Token.T) A_3 c_3 a_3, rR (aE T_roadref2_Tok.T) A_6 c_6 a_6]) (ne_3 : n_3 = List.length a_3) (ne_6 : n_6 = List.length a_6) (tab : TB m) {r} (e : roadlaw2_TokenReads.j0 a_3 a_6 = some r) : f5.j0 (roadlaw2_TokenReads.post W h0 m0 r) A_3 n_3 c_3 A_6 n_6 c_6 h := by
 unfold roadlaw2_TokenReads.j0 at e
 subst ne_3
 subst ne_6
 refine f5.j0_in ?_
 unfold f5.j0T
 exact (roadlaw2_TokenReads.l0_k.all e) (O.pick [1, 0]).nm rfl rfl tab
noncomputable def roadlaw2_TokenReads (s_0 : ByteArray) : Option (Bool) :=
 Option.bind (token_Read s_0) fun y1 => Option.bind (roadref2_Tokens s_0) fun y13 => if y1.2.2 = y13.2.2 then (if y1.2.1 = y13.2.1 then (if (((List.length y1.1) : Nat) : Int) = (((List.length y13.1) : Nat) : Int) then (Option.bind (token_Words ) fun y25 => Option.bind (roadref2_WordList ) fun y37 => Option.bind (slices_Equal_32 y25 y37) fun y49 => if y49 = true then ((roadlaw2_TokenReads.j0 y1.1 y13.1)) else (some (false))) else (some (false))) else (some (false))) else (some (false))
set_option maxHeartbeats 4000000 in
theorem roadlaw2_TokenReads.walk {W h m s_0} (O : Hold W h m h m []) (tab : TB m) {r} (e : roadlaw2_TokenReads s_0 = some r) : Run Tryd.prog 5 #[Value.string s_0] h (roadlaw2_TokenReads.post W h m r) := by
 unfold roadlaw2_TokenReads at e
 refine f5.run ?_
 unfold f5.runT
 obtain ⟨y1, g2, e⟩ := bind_e e
 refine (token_Read.walk (Hold.start (W := No) O.s)  g2).mono ?_
 rintro _ h3 ⟨m4, A7, n8, c9, Q5, rfl, ne10⟩
 have O12 := Hold.nm (O.retC Q5 (vfs_cons (rR_vf (aE_vf (fun _ _ _ _ h => T_token_Token.keep h))) vfs_nil))
 subst ne10
 refine ⟨_, _, _, _, _, rfl, ?_⟩
 obtain ⟨y13, g14, e⟩ := bind_e e
 refine (roadref2_Tokens.walk (Hold.start (W := No) O12.s) tab g14).mono ?_
 rintro _ h15 ⟨m16, A19, n20, c21, Q17, rfl, ne22⟩
 have O24 := Hold.nm (O12.retC Q17 (vfs_cons (rR_vf (aE_vf (fun _ _ _ _ h => T_roadref2_Tok.keep h))) vfs_nil))
 subst ne22
 refine ⟨_, _, _, _, _, rfl, ?_⟩
 refine split_ne_e e (fun c68 e => ?_) (fun c68 e => ?_)
 · cases e
   exact ⟨_, O24.pick [], rfl⟩
 · refine split_ne_e e (fun c67 e => ?_) (fun c67 e => ?_)
   · cases e
     exact ⟨_, O24.pick [], rfl⟩
   · refine split_ne_e e (fun c66 e => ?_) (fun c66 e => ?_)
     · cases e
       exact ⟨_, O24.pick [], rfl⟩
     · obtain ⟨y25, g26, e⟩ := bind_e e
       refine (token_Words.walk (Hold.start (W := No) O24.s)  g26).mono ?_
       rintro _ h27 ⟨m28, A31, n32, c33, Q29, rfl, ne34⟩
       have O36 := Hold.nm (O24.retC Q29 (vfs_cons (rR_vf (aE_vf (fun _ _ _ _ h => h))) vfs_nil))
       subst ne34
       refine ⟨_, _, _, rfl, ?_⟩
       obtain ⟨y37, g38, e⟩ := bind_e e
       refine (roadref2_WordList.walk (Hold.start (W := No) O36.s) tab g38).mono ?_
       rintro _ h39 ⟨m40, A43, n44, c45, Q41, rfl, ne46⟩
       have O48 := Hold.nm (O36.retC Q41 (vfs_cons (rR_vf (aE_vf (fun _ _ _ _ h => h))) vfs_nil))
       subst ne46
       refine ⟨_, _, _, rfl, ?_⟩
       obtain ⟨y49, g50, e⟩ := bind_e e
       obtain ⟨m55, u56, s63, ⟨⟨r59, k60⟩, ⟨r61, k62⟩, _⟩, B57, C58⟩ := O48.lend0 [2, 3]
       replace r59 : Rd 1 eStr m55 A31 y25 := r59
       replace k60 : List.length y25 ≤ c33 := k60
       replace r61 : Rd 1 eStr m55 A43 y37 := r61
       replace k62 : List.length y37 ≤ c45 := k62
       refine (slices_Equal_32.walk (Hold.start (W := No) s63) rfl k60 r59 rfl k62 r61 g50).mono ?_
       rintro _ h51 ⟨m52, Q53, rfl⟩
       have O64 := Hold.nm (C58 Q53 vfs_nil)
       refine ⟨_, rfl, ?_⟩
       refine split_not ?_
       refine split_any_e e (fun c65 e => ?_) (fun c65 e => ?_)
       · exact roadlaw2_TokenReads.j0.walk (O64.pick [0, 1]).nm rfl rfl tab e
       · cases e
         exact ⟨_, O64.pick [], rfl⟩
end Go.Proofs.YtkbhpagogmmgnaaDoor.Fw

end
