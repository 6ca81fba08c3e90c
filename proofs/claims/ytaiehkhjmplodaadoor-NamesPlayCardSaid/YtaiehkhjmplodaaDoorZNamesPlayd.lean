/- Part 4: what the law NamesPlay needs, put together out of texts of this session. -/
import Derived.Test.YtaiehkhjmplodaaDoorZNamesPlayc
section
namespace Go.Proofs.YtaiehkhjmplodaaDoor.Fw
open Go Go.Hw Go.Proofs
set_option linter.unusedVariables false
set_option maxRecDepth 100000
set_option synthInstance.maxHeartbeats 400000
set_option synthInstance.maxSize 1000
structure T_names_Row where
 Name : ByteArray
 Ref : Int
 Count : Int
 Node : Int
def T_names_Row.E (h : Heap) (x : T_names_Row) (cs : List Value) : Prop := cs = [.string x.Name, .int .i64 x.Ref, .int .i64 x.Count, .int .i64 x.Node]
theorem T_names_Row.T : Tell 4 T_names_Row.E := ⟨by rintro m h x _ s rfl; exact rfl, by rintro h x _ rfl; rfl, by rintro h x _ rfl; exact Flats.cons trivial (Flats.cons trivial (Flats.cons trivial (Flats.cons trivial Flats.nil)))⟩
theorem T_names_Row.keep {m h : Heap} {x : T_names_Row} {cs : List Value} (e : T_names_Row.E m x cs) : T_names_Row.E h x cs := e
def T_names_Row.Q (x : T_names_Row) : Prop := (x.Name.size ≤ 140737488351232) ∧ (-9223372036854775808 ≤ x.Ref ∧ x.Ref ≤ 9223372036854775807) ∧ (-9223372036854775808 ≤ x.Count ∧ x.Count ≤ 9223372036854775807) ∧ (-9223372036854775808 ≤ x.Node ∧ x.Node ≤ 9223372036854775807)
theorem T_names_Row.tells {H : Type} {enc : TypeId × Value → H} {W : World} : Tells enc Tryd.prog W 33 T_names_Row.E T_names_Row.Q := tells_map (tells_struct (t := 33) (fs := [(9, 0), (3, 1), (3, 2), (3, 3)]) (T := 4) (by kernel_rfl) (by kernel_rfl) (tf_cons (s := 1) (f := 9) (by kernel_rfl) (tells_strL (t := 9) (by kernel_rfl)) (tf_cons (s := 1) (f := 3) (by kernel_rfl) (tells_i64 (t := 3) (by kernel_rfl)) (tf_cons (s := 1) (f := 3) (by kernel_rfl) (tells_i64 (t := 3) (by kernel_rfl)) (tf_cons (s := 1) (f := 3) (by kernel_rfl) (tells_i64 (t := 3) (by kernel_rfl)) tf_nil))))) (by
 rintro ⟨x0, x1, x2, x3, ⟨⟩⟩ cs e q
 obtain ⟨c0, r0, rfl, e0, c1, r1, rfl, e1, c2, r2, rfl, e2, c3, r3, rfl, e3, eN⟩ := e
 obtain rfl : c0 = [.string x0] := e0
 obtain rfl : c1 = [.int .i64 x1] := e1
 obtain rfl : c2 = [.int .i64 x2] := e2
 obtain rfl : c3 = [.int .i64 x3] := e3
 obtain rfl : r3 = [] := eN
 exact ⟨⟨x0, x1, x2, x3⟩, rfl, q.1, q.2.1, q.2.2.1, q.2.2.2.1⟩)
structure T_names_Names where
 node_ : Int
 count_ : Int
 rows_ : (List T_names_Row)
def T_names_Names.E (h : Heap) (x : T_names_Names) (cs : List Value) : Prop := ∃ A2 c2, cs = [.int .i64 x.node_, .int .i64 x.count_, .slice A2 x.rows_.length c2] ∧ x.rows_.length ≤ c2 ∧ Rd 4 T_names_Row.E h A2 x.rows_
structure T_roadref4_Meaning where
 Ref : Int
 Count : Int
 Node : Int
def T_roadref4_Meaning.E (h : Heap) (x : T_roadref4_Meaning) (cs : List Value) : Prop := cs = [.int .i64 x.Ref, .int .i64 x.Count, .int .i64 x.Node]
theorem T_roadref4_Meaning.T : Tell 3 T_roadref4_Meaning.E := ⟨by rintro m h x _ s rfl; exact rfl, by rintro h x _ rfl; rfl, by rintro h x _ rfl; exact Flats.cons trivial (Flats.cons trivial (Flats.cons trivial Flats.nil))⟩
structure T_roadref4_Names where
 Node : Int
 Count : Int
 Rows : (List (ByteArray × T_roadref4_Meaning))
structure T_names_Name where
 Name : ByteArray
 Ref : Int
def T_names_Name.E (h : Heap) (x : T_names_Name) (cs : List Value) : Prop := cs = [.string x.Name, .int .i64 x.Ref]
theorem T_names_Name.T : Tell 2 T_names_Name.E := ⟨by rintro m h x _ s rfl; exact rfl, by rintro h x _ rfl; rfl, by rintro h x _ rfl; exact Flats.cons trivial (Flats.cons trivial Flats.nil)⟩
theorem T_names_Name.keep {m h : Heap} {x : T_names_Name} {cs : List Value} (e : T_names_Name.E m x cs) : T_names_Name.E h x cs := e
theorem T_names_Row.g0 {m : Heap} {x : T_names_Row} {cs : List Value} (e : T_names_Row.E m x cs) : cs[0]? = some (Value.string x.Name) := by
 obtain rfl := e
 exact rfl
theorem T_names_Names.g2 {m : Heap} {x : T_names_Names} {cs : List Value} (e : T_names_Names.E m x cs) : ∃ A c, cs[2]? = some (.slice A (List.length x.rows_) c) ∧ List.length x.rows_ ≤ c ∧ Rd 4 T_names_Row.E m A x.rows_ := by
 obtain ⟨A2, c2, rfl, k2, r2⟩ := e
 exact ⟨_, _, rfl, k2, r2⟩
theorem T_names_Row.g1 {m : Heap} {x : T_names_Row} {cs : List Value} (e : T_names_Row.E m x cs) : cs[1]? = some (Value.int .i64 x.Ref) := by
 obtain rfl := e
 exact rfl
theorem T_names_Row.g2 {m : Heap} {x : T_names_Row} {cs : List Value} (e : T_names_Row.E m x cs) : cs[2]? = some (Value.int .i64 x.Count) := by
 obtain rfl := e
 exact rfl
theorem T_names_Row.g3 {m : Heap} {x : T_names_Row} {cs : List Value} (e : T_names_Row.E m x cs) : cs[3]? = some (Value.int .i64 x.Node) := by
 obtain rfl := e
 exact rfl
theorem T_roadref4_Meaning.g1 {m : Heap} {x : T_roadref4_Meaning} {cs : List Value} (e : T_roadref4_Meaning.E m x cs) : cs[1]? = some (Value.int .i64 x.Count) := by
 obtain rfl := e
 exact rfl
theorem T_roadref4_Meaning.g2 {m : Heap} {x : T_roadref4_Meaning} {cs : List Value} (e : T_roadref4_Meaning.E m x cs) : cs[2]? = some (Value.int .i64 x.Node) := by
 obtain rfl := e
 exact rfl
theorem T_roadref4_Meaning.g0 {m : Heap} {x : T_roadref4_Meaning} {cs : List Value} (e : T_roadref4_Meaning.E m x cs) : cs[0]? = some (Value.int .i64 x.Ref) := by
 obtain rfl := e
 exact rfl
def names_New.post (W : Nat → Prop) (h0 m0 : Heap) (r : (Option T_names_Names) × Int) (v : Value) (h : Heap) : Prop := ∃ m p0, Sub m0 m ∧ Sub m h ∧ v = .tuple #[.pointer p0, .int .i64 r.2] ∧ ((r.1 = none ∧ p0 = none ∧ Hold W h0 m0 h m []) ∨ ∃ z b Anp_2 nnp_2 cnp_2, r.1 = some z ∧ p0 = some ⟨b, 0, none⟩ ∧ Hold W h0 m0 h m [rV b 53 [(Value.int .i64 z.node_), (Value.int .i64 z.count_), (Value.slice Anp_2 nnp_2 cnp_2)], rR (aE T_names_Row.T) Anp_2 cnp_2 z.rows_] ∧ nnp_2 = List.length z.rows_)
noncomputable def names_New.j0 (x_0 : Int) : Option ((Option T_names_Names) × Int) :=
 some (some (T_names_Names.mk x_0 (0 : Int) ([] : List T_names_Row)), (0 : Int))
theorem names_New.j0.walk {W h0 m0 h m x_0} (O : Hold W h0 m0 h m []) {r} (e : names_New.j0 x_0 = some r) : f4.j0 (names_New.post W h0 m0 r) x_0 h := by
 unfold names_New.j0 at e
 refine f4.j0_in ?_
 unfold f4.j0T
 refine O.new fun h1 x2 O3 => ?_
 have O5 := O3.nil (aE T_names_Row.T) none
 have O7 := O5.nm
 cases e
 exact ⟨_, _, O7.up, O7.s, rfl, .inr ⟨_, _, _, _, _, rfl, rfl, O7.pick [0, 1], rfl⟩⟩
noncomputable def names_New.j1 (x_0 : Int) (b_9 : Bool) : Option ((Option T_names_Names) × Int) :=
 if b_9 = true then (some ((none : Option T_names_Names), (1 : Int))) else ((names_New.j0 x_0))
theorem names_New.j1.walk {W h0 m0 h m x_0 b_9} (O : Hold W h0 m0 h m []) {r} (e : names_New.j1 x_0 b_9 = some r) : f4.j1 (names_New.post W h0 m0 r) x_0 b_9 h := by
 unfold names_New.j1 at e
 refine f4.j1_in ?_
 unfold f4.j1T
 refine split_any_e e (fun c1 e => ?_) (fun c1 e => ?_)
 · cases e
   exact ⟨_, _, O.up, O.s, rfl, .inl ⟨rfl, rfl, O.pick []⟩⟩
 · exact names_New.j0.walk (O.pick []).nm  e
noncomputable def names_New (x_0 : Int) : Option ((Option T_names_Names) × Int) :=
 if x_0 < (1 : Int) then ((names_New.j1 x_0 true)) else ((names_New.j1 x_0 (decide (x_0 > (8 : Int)))))
theorem names_New.walk {W h m x_0} (O : Hold W h m h m []) {r} (e : names_New x_0 = some r) : Run Tryd.prog 4 #[Value.int .i64 x_0] h (names_New.post W h m r) := by
 unfold names_New at e
 refine f4.run ?_
 unfold f4.runT
 refine split_dec_e e (fun c1 e => ?_) (fun c1 e => ?_)
 · exact names_New.j1.walk (O.pick []).nm  e
 · exact names_New.j1.walk (O.pick []).nm  e
def strings_Trim.post (W : Nat → Prop) (h0 m0 : Heap) (r : ByteArray) (v : Value) (h : Heap) : Prop := ∃ m , Hold W h0 m0 h m [] ∧ v = .string r
noncomputable def strings_Trim (x0 x1 : ByteArray) : Option ByteArray := if x0.size ≤ 9223372036854775807 ∧ x1.size < 4294967281 ∧ ascii x1 = true then some (trimB x0 x1) else none
theorem strings_Trim.walk {W : Nat → Prop} {h m : Heap} {x0 x1 : ByteArray} (O : Hold W h m h m []) {r : ByteArray} (e : strings_Trim x0 x1 = some r) : Run Tryd.prog 32 #[Value.string x0, Value.string x1] h (strings_Trim.post W h m r) := by
 unfold strings_Trim at e
 exact (trim_run Tryd.strings_Trim O e).mono fun v h' hp => hp
def names_word.post (W : Nat → Prop) (h0 m0 : Heap) (r : Bool) (v : Value) (h : Heap) : Prop := ∃ m , Hold W h0 m0 h m [] ∧ v = .bool r
noncomputable def names_word (s_0 : ByteArray) : Option (Bool) :=
 if s_0 = (ByteArray.mk #[]) then (some (false)) else (if ((ByteArray.size s_0 : Nat) : Int) ≤ (16 : Int) then (Option.bind (strings_Trim s_0 (ByteArray.mk #[97, 98, 99, 100, 101, 102, 103, 104, 105, 106, 107, 108, 109, 110, 111, 112, 113, 114, 115, 116, 117, 118, 119, 120, 121, 122, 48, 49, 50, 51, 52, 53, 54, 55, 56, 57])) fun y1 => some ((decide (y1 = (ByteArray.mk #[]))))) else (some (false)))
theorem names_word.walk {W h m s_0} (O : Hold W h m h m []) {r} (e : names_word s_0 = some r) : Run Tryd.prog 16 #[Value.string s_0] h (names_word.post W h m r) := by
 unfold names_word at e
 refine f16.run ?_
 unfold f16.runT
 try rw [ba_list s_0 (ByteArray.mk #[])]
 refine split_not ?_
 refine split_dec_e e (fun c9 e => ?_) (fun c9 e => ?_)
 · cases e
   exact ⟨_, O.pick [], rfl⟩
 · refine split_dec_e e (fun c8 e => ?_) (fun c8 e => ?_)
   · obtain ⟨y1, g2, e⟩ := bind_e e
     refine (strings_Trim.walk (Hold.start (W := No) O.s)  g2).mono ?_
     rintro _ h3 ⟨m4, Q5, rfl⟩
     have O7 := Hold.nm (O.retC Q5 vfs_nil)
     refine ⟨_, rfl, ?_⟩
     try rw [ba_list y1 (ByteArray.mk #[])]
     cases e
     exact ⟨_, O7.pick [], rfl⟩
   · cases e
     exact ⟨_, O.pick [], rfl⟩
def slices_Insert_26.post (W : Nat → Prop) (h0 m0 : Heap) (r : (List T_names_Row)) (v : Value) (h : Heap) : Prop := ∃ m A0 n0 c0, Hold W h0 m0 h m [rR (aE T_names_Row.T) A0 c0 r] ∧ v = .slice A0 n0 c0 ∧ n0 = List.length r
noncomputable def slices_Insert_26 (a0 : List T_names_Row) (x1 : Int) (a2 : List T_names_Row) : Option (List T_names_Row) := if (0 ≤ x1 ∧ x1 ≤ ((List.length a0 : Nat) : Int)) ∧ (List.length a0 + List.length a2) * 40 ≤ 140737488355328 then some (List.take (Int.toNat x1) a0 ++ a2 ++ List.drop (Int.toNat x1) a0) else none
theorem slices_Insert_26.walk {W : Nat → Prop} {h m : Heap} {A0 : Option Addr} {n0 c0 : Nat} {a0 : List T_names_Row} {x1 : Int} {A2 : Option Addr} {n2 c2 : Nat} {a2 : List T_names_Row} (O : Hold W h m h m [rR (aE T_names_Row.T) A0 c0 a0]) (ne0 : n0 = List.length a0) (ne2 : n2 = List.length a2) (k2 : List.length a2 ≤ c2) (r2 : Rd 4 T_names_Row.E m A2 a2) {r : List T_names_Row} (e : slices_Insert_26 a0 x1 a2 = some r) : Run Tryd.prog 26 #[Value.slice A0 n0 c0, Value.int .i64 x1, Value.slice A2 n2 c2] h (slices_Insert_26.post W h m r) := by
 unfold slices_Insert_26 at e
 subst ne0
 subst ne2
 obtain ⟨⟨g, gb⟩, e⟩ := guard_e e
 cases e
 refine f26.run ?_
 unfold f26.runT
 exact insert_ok (e := 33) (rs := _) O r2 (by decide) (by kernel_rfl) (by kernel_rfl) rfl (by decide) Tryd.func36 (by kernel_rfl) (by kernel_rfl) (by kernel_rfl) (show Extern.find Tryd.f36 = some (Extern.SlicesOverlaps.overlaps #[31, 31] #[]) by kernel_rfl) g gb (by omega) fun A' c' h' O' => ⟨m, _, _, _, O', rfl, by rw [List.length_append, List.length_append, List.length_take, List.length_drop]; omega⟩
def slices_BinarySearchFunc_23.post (W : Nat → Prop) (h0 m0 : Heap) (r : Int × Bool) (v : Value) (h : Heap) : Prop := ∃ m , Hold W h0 m0 h m [] ∧ v = .tuple #[.int .i64 r.1, .bool r.2]
inductive slices_BinarySearchFunc_23.l0_k.Pt where
 | l0 (a_0 : List T_names_Row) (s_1 : ByteArray) (p_2 : T_names_Row → ByteArray → Option Int) (x_8 : Int) (x_9 : Int) (x_10 : Int)
noncomputable def slices_BinarySearchFunc_23.l0_k.body (go : (p : slices_BinarySearchFunc_23.l0_k.Pt) → Option (Int × Bool)) : (p : slices_BinarySearchFunc_23.l0_k.Pt) → Option (Int × Bool)
 | .l0 a_0 s_1 p_2 x_8 x_9 x_10 => if x_9 < x_10 then (Option.bind (gi a_0 (IntKind.wrap .i64 (shrI .u64 (IntKind.wrap .u64 (IntKind.wrap .i64 (x_9 + x_10))) (1 : Int)))) fun y1 => Option.bind (p_2 y1 s_1) fun y8 => if y8 < (0 : Int) then ((go (.l0 a_0 s_1 p_2 x_8 (IntKind.wrap .i64 ((IntKind.wrap .i64 (shrI .u64 (IntKind.wrap .u64 (IntKind.wrap .i64 (x_9 + x_10))) (1 : Int))) + (1 : Int))) x_10))) else ((go (.l0 a_0 s_1 p_2 x_8 x_9 (IntKind.wrap .i64 (shrI .u64 (IntKind.wrap .u64 (IntKind.wrap .i64 (x_9 + x_10))) (1 : Int))))))) else (if x_9 < x_8 then (Option.bind (gi a_0 x_9) fun y14 => Option.bind (p_2 y14 s_1) fun y21 => some (x_9, (y21 == (0 : Int)))) else (some (x_9, false)))
theorem slices_BinarySearchFunc_23.l0_k.mono : MonoF (β := fun _ => (Int × Bool)) slices_BinarySearchFunc_23.l0_k.body := fun f g hfg p => match p with
 | .l0 a_0 s_1 p_2 x_8 x_9 x_10 => LeO.ite (LeO.bind (LeO.refl _) fun y1 => LeO.bind (LeO.refl _) fun y8 => LeO.ite ((hfg _)) ((hfg _))) (LeO.ite (LeO.bind (LeO.refl _) fun y14 => LeO.bind (LeO.refl _) fun y21 => LeO.refl _) (LeO.refl _))
noncomputable def slices_BinarySearchFunc_23.l0_k.go (p : slices_BinarySearchFunc_23.l0_k.Pt) : Option (Int × Bool) := fixF (β := fun _ => (Int × Bool)) slices_BinarySearchFunc_23.l0_k.body p
noncomputable def slices_BinarySearchFunc_23.l0 (a_0 s_1 p_2 x_8 x_9 x_10) := slices_BinarySearchFunc_23.l0_k.go (.l0 a_0 s_1 p_2 x_8 x_9 x_10)
theorem slices_BinarySearchFunc_23.l0_eq (a_0 s_1 p_2 x_8 x_9 x_10) : slices_BinarySearchFunc_23.l0 a_0 s_1 p_2 x_8 x_9 x_10 = if x_9 < x_10 then (Option.bind (gi a_0 (IntKind.wrap .i64 (shrI .u64 (IntKind.wrap .u64 (IntKind.wrap .i64 (x_9 + x_10))) (1 : Int)))) fun y1 => Option.bind (p_2 y1 s_1) fun y8 => if y8 < (0 : Int) then ((slices_BinarySearchFunc_23.l0 a_0 s_1 p_2 x_8 (IntKind.wrap .i64 ((IntKind.wrap .i64 (shrI .u64 (IntKind.wrap .u64 (IntKind.wrap .i64 (x_9 + x_10))) (1 : Int))) + (1 : Int))) x_10)) else ((slices_BinarySearchFunc_23.l0 a_0 s_1 p_2 x_8 x_9 (IntKind.wrap .i64 (shrI .u64 (IntKind.wrap .u64 (IntKind.wrap .i64 (x_9 + x_10))) (1 : Int)))))) else (if x_9 < x_8 then (Option.bind (gi a_0 x_9) fun y14 => Option.bind (p_2 y14 s_1) fun y21 => some (x_9, (y21 == (0 : Int)))) else (some (x_9, false))) := fixF_eq slices_BinarySearchFunc_23.l0_k.mono _
def slices_BinarySearchFunc_23.l0_k.I : (p : slices_BinarySearchFunc_23.l0_k.Pt) → (Int × Bool) → Prop
 | .l0 a_0 s_1 p_2 x_8 x_9 x_10, r => ∀ {W h0 m0 h m A_0 n_0 c_0 fv_2} (O : Hold W h0 m0 h m []) (ne_0 : n_0 = List.length a_0) (k_0 : List.length a_0 ≤ c_0) (r_0 : Rd 4 T_names_Row.E m A_0 a_0) (f_2 : ∀ h' m', Sub m0 m' → Sub m' h' → ∀ (y0 : T_names_Row) (cs0 : List Value) (_ : T_names_Row.E m' y0 cs0) (x1 : ByteArray) (r : Int), p_2 y0 x1 = some r → CallF Tryd.prog fv_2 [.agg cs0.toArray, .string x1] h' (fun v h'' => v = .int .i64 r ∧ Ext h' h'')), f23.l0 (slices_BinarySearchFunc_23.post W h0 m0 r) A_0 n_0 c_0 s_1 fv_2 x_8 x_9 x_10 h
theorem slices_BinarySearchFunc_23.l0_k.step_l0 (go : (p : slices_BinarySearchFunc_23.l0_k.Pt) → Option (Int × Bool)) (ih : ∀ p r, go p = some r → slices_BinarySearchFunc_23.l0_k.I p r) (a_0 s_1 p_2 x_8 x_9 x_10) (r) (e : slices_BinarySearchFunc_23.l0_k.body go (.l0 a_0 s_1 p_2 x_8 x_9 x_10) = some r) : slices_BinarySearchFunc_23.l0_k.I (.l0 a_0 s_1 p_2 x_8 x_9 x_10) r := by
 unfold slices_BinarySearchFunc_23.l0_k.body at e
 intro W h0 m0 h m A_0 n_0 c_0 fv_2 O ne_0 k_0 r_0 f_2
 subst ne_0
 refine f23.l0_in ?_
 unfold f23.l0T
 refine split_dec_e e (fun c27 e => ?_) (fun c27 e => ?_)
 · refine ⟨by decide, ?_⟩
   obtain ⟨y1, g2, e⟩ := bind_e e
   refine r_0.addr rfl g2 fun a3 cs4 ha5 hc6 he7 => ?_
   refine ⟨_, ldAn O.s hc6 rfl, ?_⟩
   obtain ⟨y8, g9, e⟩ := bind_e e
   refine CallF.mono (f_2 _ _ O.up O.s _ _ he7 _ _ g9) ?_
   rintro _ h10 ⟨rfl, x11⟩
   have O12 := O.ext x11
   refine ⟨_, rfl, ?_⟩
   refine split_dec_e e (fun c13 e => ?_) (fun c13 e => ?_)
   · exact (ih _ _ e) (O12.pick []).nm rfl k_0 r_0 f_2
   · exact (ih _ _ e) (O12.pick []).nm rfl k_0 r_0 f_2
 · refine split_dec_e e (fun c26 e => ?_) (fun c26 e => ?_)
   · obtain ⟨y14, g15, e⟩ := bind_e e
     refine r_0.addr rfl g15 fun a16 cs17 ha18 hc19 he20 => ?_
     refine ⟨_, ldAn O.s hc19 rfl, ?_⟩
     obtain ⟨y21, g22, e⟩ := bind_e e
     refine CallF.mono (f_2 _ _ O.up O.s _ _ he20 _ _ g22) ?_
     rintro _ h23 ⟨rfl, x24⟩
     have O25 := O.ext x24
     refine ⟨_, rfl, ?_⟩
     cases e
     exact ⟨_, O25.pick [], rfl⟩
   · cases e
     exact ⟨_, O.pick [], rfl⟩
theorem slices_BinarySearchFunc_23.l0_k.all {p : slices_BinarySearchFunc_23.l0_k.Pt} {r : (Int × Bool)} (e : slices_BinarySearchFunc_23.l0_k.go p = some r) : slices_BinarySearchFunc_23.l0_k.I p r := fixF_ind (β := fun _ => (Int × Bool)) slices_BinarySearchFunc_23.l0_k.mono (I := slices_BinarySearchFunc_23.l0_k.I) (fun go ih p r e => match p with
 | .l0 a_0 s_1 p_2 x_8 x_9 x_10 => slices_BinarySearchFunc_23.l0_k.step_l0 go ih a_0 s_1 p_2 x_8 x_9 x_10 r e
 ) e
noncomputable def slices_BinarySearchFunc_23 (a_0 : List T_names_Row) (s_1 : ByteArray) (p_2 : T_names_Row → ByteArray → Option Int) : Option (Int × Bool) :=
 (slices_BinarySearchFunc_23.l0 a_0 s_1 p_2 (((List.length a_0) : Nat) : Int) (0 : Int) (((List.length a_0) : Nat) : Int))
theorem slices_BinarySearchFunc_23.walk {p_2 : T_names_Row → ByteArray → Option Int} {W h m A_0 n_0 c_0 fv_2 a_0 s_1} (O : Hold W h m h m []) (ne_0 : n_0 = List.length a_0) (k_0 : List.length a_0 ≤ c_0) (r_0 : Rd 4 T_names_Row.E m A_0 a_0) (f_2 : ∀ h' m', Sub m m' → Sub m' h' → ∀ (y0 : T_names_Row) (cs0 : List Value) (_ : T_names_Row.E m' y0 cs0) (x1 : ByteArray) (r : Int), p_2 y0 x1 = some r → CallF Tryd.prog fv_2 [.agg cs0.toArray, .string x1] h' (fun v h'' => v = .int .i64 r ∧ Ext h' h'')) {r} (e : slices_BinarySearchFunc_23 a_0 s_1 p_2 = some r) : Run Tryd.prog 23 #[Value.slice A_0 n_0 c_0, Value.string s_1, fv_2] h (slices_BinarySearchFunc_23.post W h m r) := by
 unfold slices_BinarySearchFunc_23 at e
 subst ne_0
 refine f23.run ?_
 unfold f23.runT
 exact (slices_BinarySearchFunc_23.l0_k.all e) (O.pick []).nm rfl k_0 r_0 f_2
def internal_bytealg_abigen_runtime_cmpstring.post (W : Nat → Prop) (h0 m0 : Heap) (r : Int) (v : Value) (h : Heap) : Prop := ∃ m , Hold W h0 m0 h m [] ∧ v = .int .i64 r
noncomputable def internal_bytealg_abigen_runtime_cmpstring (x0 : ByteArray) (x1 : ByteArray) : Option Int := some (cmpB x0 x1)
theorem internal_bytealg_abigen_runtime_cmpstring.walk {W : Nat → Prop} {h m : Heap} {x0 : ByteArray} {x1 : ByteArray} (O : Hold W h m h m []) {r : Int} (e : internal_bytealg_abigen_runtime_cmpstring x0 x1 = some r) : ExtF Tryd.prog 50 #[Value.string x0, Value.string x1] h (internal_bytealg_abigen_runtime_cmpstring.post W h m r) := by
 unfold internal_bytealg_abigen_runtime_cmpstring at e
 exact (cmp_ext O Tryd.func50 (by kernel_rfl) (by kernel_rfl) (by kernel_rfl) (show Extern.find Tryd.f50 = some Extern.BytealgCompare.compare by kernel_rfl) e).mono fun v h' hp => hp
def internal_bytealg_CompareString.post (W : Nat → Prop) (h0 m0 : Heap) (r : Int) (v : Value) (h : Heap) : Prop := ∃ m , Hold W h0 m0 h m [] ∧ v = .int .i64 r
noncomputable def internal_bytealg_CompareString (s_0 : ByteArray) (s_1 : ByteArray) : Option (Int) :=
 Option.bind (internal_bytealg_abigen_runtime_cmpstring s_0 s_1) fun y1 => some (y1)
theorem internal_bytealg_CompareString.walk {W h m s_0 s_1} (O : Hold W h m h m []) {r} (e : internal_bytealg_CompareString s_0 s_1 = some r) : Run Tryd.prog 35 #[Value.string s_0, Value.string s_1] h (internal_bytealg_CompareString.post W h m r) := by
 unfold internal_bytealg_CompareString at e
 refine f35.run ?_
 unfold f35.runT
 obtain ⟨y1, g2, e⟩ := bind_e e
 refine (internal_bytealg_abigen_runtime_cmpstring.walk (Hold.start (W := No) O.s)  g2).mono ?_
 rintro _ h3 ⟨m4, Q5, rfl⟩
 have O7 := Hold.nm (O.retC Q5 vfs_nil)
 refine ⟨_, rfl, ?_⟩
 cases e
 exact ⟨_, O7.pick [], rfl⟩
def strings_Compare.post (W : Nat → Prop) (h0 m0 : Heap) (r : Int) (v : Value) (h : Heap) : Prop := ∃ m , Hold W h0 m0 h m [] ∧ v = .int .i64 r
noncomputable def strings_Compare (s_0 : ByteArray) (s_1 : ByteArray) : Option (Int) :=
 Option.bind (internal_bytealg_CompareString s_0 s_1) fun y1 => some (y1)
theorem strings_Compare.walk {W h m s_0 s_1} (O : Hold W h m h m []) {r} (e : strings_Compare s_0 s_1 = some r) : Run Tryd.prog 25 #[Value.string s_0, Value.string s_1] h (strings_Compare.post W h m r) := by
 unfold strings_Compare at e
 refine f25.run ?_
 unfold f25.runT
 obtain ⟨y1, g2, e⟩ := bind_e e
 refine (internal_bytealg_CompareString.walk (Hold.start (W := No) O.s)  g2).mono ?_
 rintro _ h3 ⟨m4, Q5, rfl⟩
 have O7 := Hold.nm (O.retC Q5 vfs_nil)
 refine ⟨_, rfl, ?_⟩
 cases e
 exact ⟨_, O7.pick [], rfl⟩
def names_Names_find_1.post (W : Nat → Prop) (h0 m0 : Heap) (r : Int) (v : Value) (h : Heap) : Prop := ∃ m , Hold W h0 m0 h m [] ∧ v = .int .i64 r
noncomputable def names_Names_find_1 (y_0 : T_names_Row) (s_1 : ByteArray) : Option (Int) :=
 Option.bind (strings_Compare y_0.Name s_1) fun y5 => some (y5)
theorem names_Names_find_1.walk {W h m cs_0 y_0 s_1} (O : Hold W h m h m []) (e_0 : T_names_Row.E m y_0 cs_0) {r} (e : names_Names_find_1 y_0 s_1 = some r) : Run Tryd.prog 48 #[Value.agg cs_0.toArray, Value.string s_1] h (names_Names_find_1.post W h m r) := by
 unfold names_Names_find_1 at e
 refine f48.run ?_
 unfold f48.runT
 refine O.new fun h1 x2 O3 => ?_
 refine ⟨_, ld0 (Sub.refl _) (O3.all 0 rfl) (T_names_Row.g0 e_0), _, rfl, ?_⟩
 obtain ⟨y5, g6, e⟩ := bind_e e
 refine (strings_Compare.walk (Hold.start (W := No) O3.s)  g6).mono ?_
 rintro _ h7 ⟨m8, Q9, rfl⟩
 have O11 := Hold.nm (O3.retC Q9 vfs_nil)
 refine ⟨_, rfl, ?_⟩
 cases e
 exact ⟨_, O11.pick [], rfl⟩
def names_Names_find.post (W : Nat → Prop) (h0 m0 : Heap) (r : Int × Bool) (v : Value) (h : Heap) : Prop := ∃ m , Hold W h0 m0 h m [] ∧ v = .tuple #[.int .i64 r.1, .bool r.2]
noncomputable def names_Names_find (y_0 : T_names_Names) (s_1 : ByteArray) : Option (Int × Bool) :=
 Option.bind (slices_BinarySearchFunc_23 y_0.rows_ s_1 (fun z12 z13 => names_Names_find_1 z12 z13)) fun y6 => some (y6.1, y6.2)
theorem names_Names_find.walk {W h m bk_0 y_0 s_1} (O : Hold W h m h m []) (v_0 : VB T_names_Names.E m bk_0 y_0) {r} (e : names_Names_find y_0 s_1 = some r) : Run Tryd.prog 33 #[Value.pointer (some ⟨bk_0, 0, none⟩), Value.string s_1] h (names_Names_find.post W h m r) := by
 unfold names_Names_find at e
 obtain ⟨cs_0, t_0, hb_0, nn_0, e_0⟩ := id v_0
 refine f33.run ?_
 unfold f33.runT
 obtain ⟨A1, c2, q3, k4, r5⟩ := T_names_Names.g2 e_0
 refine ⟨_, ldk (k := 2) O.s (Blk.all' hb_0) q3, _, _, _, rfl, ?_⟩
 obtain ⟨y6, g7, e⟩ := bind_e e
 refine (slices_BinarySearchFunc_23.walk (Hold.start (W := No) O.s) rfl k4 r5 (fun h14 m15 u16 s17 y20 cs20 he20 x21 r18 e19 => CallF.of [Value.agg cs20.toArray, Value.string x21] f48.ok rfl ((names_Names_find_1.walk (Hold.start (W := No) s17) he20 e19).mono (fun _ _ h => let ⟨_, t, e⟩ := h; ⟨e, t.S.ext⟩))) g7).mono ?_
 rintro _ h8 ⟨m9, Q10, rfl⟩
 have O22 := Hold.nm (O.retC Q10 vfs_nil)
 refine ⟨_, _, rfl, ?_⟩
 cases e
 exact ⟨_, O22.pick [], rfl⟩
def names_Names_put.post (W : Nat → Prop) (bkio0 : Nat) (h0 m0 : Heap) (r : Int × T_names_Names) (v : Value) (h : Heap) : Prop := ∃ m Aio0_2 nio0_2 cio0_2, Hold W h0 m0 h m [rV bkio0 53 [(Value.int .i64 r.2.node_), (Value.int .i64 r.2.count_), (Value.slice Aio0_2 nio0_2 cio0_2)], rR (aE T_names_Row.T) Aio0_2 cio0_2 r.2.rows_] ∧ v = .int .i64 r.1 ∧ nio0_2 = List.length r.2.rows_
noncomputable def names_Names_put.j1 (x_io0_0 : Int) (x_io0_1 : Int) (a_io0_2 : (List T_names_Row)) (x_7 : Int) (b_8 : Bool) (y_9 : T_names_Row) : Option (Int × T_names_Names) :=
 if b_8 = true then (Option.bind (gi a_io0_2 x_7) fun y1 => Option.bind (some (List.set a_io0_2 (Int.toNat x_7) y_9)) fun l10 => some ((0 : Int), (T_names_Names.mk x_io0_0 x_io0_1 l10))) else (Option.bind (slices_Insert_26 a_io0_2 x_7 ([y_9] : List T_names_Row)) fun y19 => some ((0 : Int), (T_names_Names.mk x_io0_0 x_io0_1 y19)))
set_option maxHeartbeats 4000000 in
theorem names_Names_put.j1.walk {W h0 m0 h m bk_io0 A_io0_2_0 n_io0_2_0 c_io0_2_0 bk_9 cs_9 x_io0_0 x_io0_1 a_io0_2 x_7 b_8 y_9} (O : Hold W h0 m0 h m [rV bk_io0 53 [(Value.int .i64 x_io0_0), (Value.int .i64 x_io0_1), (Value.slice A_io0_2_0 n_io0_2_0 c_io0_2_0)], rR (aE T_names_Row.T) A_io0_2_0 c_io0_2_0 a_io0_2, rV bk_9 33 cs_9]) (ne_io0_2_0 : n_io0_2_0 = List.length a_io0_2) (e_9 : T_names_Row.E m y_9 cs_9) {r} (e : names_Names_put.j1 x_io0_0 x_io0_1 a_io0_2 x_7 b_8 y_9 = some r) : f17.j1 (names_Names_put.post W bk_io0 h0 m0 r) (⟨bk_io0, 0, none⟩ : Addr) x_7 b_8 (⟨bk_9, 0, none⟩ : Addr) h := by
 unfold names_Names_put.j1 at e
 subst ne_io0_2_0
 refine f17.j1_in ?_
 unfold f17.j1T
 refine split_any_e e (fun c43 e => ?_) (fun c43 e => ?_)
 · refine ⟨_, ldk (k := 2) (Sub.refl _) (O.all 0 rfl) rfl, _, _, _, rfl, ?_⟩
   refine ⟨_, ldAn (Sub.refl _) (O.all 2 rfl) (T_names_Row.T.len _ _ _ e_9), ?_⟩
   obtain ⟨y1, g2, e⟩ := bind_e e
   refine (O.os 1 rfl).addr rfl g2 fun a3 cs4 ha5 hc6 he7 => ?_
   obtain ⟨l10, g11, e⟩ := bind_e e
   replace g11 := Option.some.inj g11
   refine ⟨_, rfl, (T_names_Row.T.len _ _ _ e_9), ?_⟩
   refine O.elstA 1 rfl g2 ha5 hc6 (y' := y_9) e_9 (T_names_Row.T.flat _ _ _ e_9) g11 fun h8 O9 => ?_
   have O12 := O9.nm
   cases e
   exact ⟨_, _, _, _, O12.pick [0, 1], rfl, (lset' g11)⟩
 · refine ⟨_, ldk (k := 2) (Sub.refl _) (O.all 0 rfl) rfl, _, _, _, rfl, ?_⟩
   refine ⟨_, ldAn (Sub.refl _) (O.all 2 rfl) (T_names_Row.T.len _ _ _ e_9), ?_⟩
   refine ⟨cs_9, rfl, (T_names_Row.T.len _ _ _ e_9), ?_⟩
   refine O.new fun h13 x14 O15 => ?_
   have O17 := O15.recell 3 rfl (cs' := cs_9 ++ []) rfl
   refine ⟨x14, ?_⟩
   obtain ⟨y19, g20, e⟩ := bind_e e
   have O18 := O17.rowE (l := ([y_9] : List T_names_Row)) 3 rfl T_names_Row.T (show CsE _ _ _ _ _ from (CsE.cons e_9 (T_names_Row.T.len _ _ _ e_9) CsE.nil)) rfl
   have O25 := O18.nm
   obtain ⟨m26, W32, u27, P33, ⟨⟨r30, k31⟩, _⟩, B28, C29⟩ := O25.lend [1] [3]
   replace r30 : Rd 4 T_names_Row.E m26 (some ⟨(Array.size h), 0, none⟩) ([y_9] : List T_names_Row) := r30
   replace k31 : List.length ([y_9] : List T_names_Row) ≤ 1 := k31
   refine (slices_Insert_26.walk P33 rfl rfl k31 r30 g20).mono ?_
   rintro _ h21 ⟨m22, A34, n35, c36, Q23, rfl, ne37⟩
   have O39 := Hold.nm (C29 Q23 (vfs_cons (rR_vf (aE_vf (fun _ _ _ _ h => T_names_Row.keep h))) vfs_nil))
   subst ne37
   refine ⟨_, _, _, rfl, ?_⟩
   refine O39.st 0 rfl 2 (Nat.le_of_ble_eq_true rfl) trivial fun h40 O41 => ?_
   have O42 := O41.nm
   cases e
   exact ⟨_, _, _, _, O42.pick [0, 4], rfl, rfl⟩
noncomputable def names_Names_put.j0 (x_io0_0 : Int) (x_io0_1 : Int) (a_io0_2 : (List T_names_Row)) (s_1 : ByteArray) (x_2 : Int) (x_7 : Int) (b_8 : Bool) : Option (Int × T_names_Names) :=
 if x_io0_1 = (1099511627776 : Int) then (some ((2 : Int), (T_names_Names.mk x_io0_0 x_io0_1 a_io0_2))) else ((names_Names_put.j1 x_io0_0 (IntKind.wrap .i64 (x_io0_1 + (1 : Int))) a_io0_2 x_7 b_8 (T_names_Row.mk s_1 x_2 (IntKind.wrap .i64 (x_io0_1 + (1 : Int))) x_io0_0)))
theorem names_Names_put.j0.walk {W h0 m0 h m bk_io0 A_io0_2_0 n_io0_2_0 c_io0_2_0 x_io0_0 x_io0_1 a_io0_2 s_1 x_2 x_7 b_8} (O : Hold W h0 m0 h m [rV bk_io0 53 [(Value.int .i64 x_io0_0), (Value.int .i64 x_io0_1), (Value.slice A_io0_2_0 n_io0_2_0 c_io0_2_0)], rR (aE T_names_Row.T) A_io0_2_0 c_io0_2_0 a_io0_2]) (ne_io0_2_0 : n_io0_2_0 = List.length a_io0_2) {r} (e : names_Names_put.j0 x_io0_0 x_io0_1 a_io0_2 s_1 x_2 x_7 b_8 = some r) : f17.j0 (names_Names_put.post W bk_io0 h0 m0 r) (⟨bk_io0, 0, none⟩ : Addr) s_1 x_2 x_7 b_8 h := by
 unfold names_Names_put.j0 at e
 subst ne_io0_2_0
 refine f17.j0_in ?_
 unfold f17.j0T
 refine ⟨_, ldk (k := 1) (Sub.refl _) (O.all 0 rfl) rfl, _, rfl, ?_⟩
 refine split_eq_e e (fun c27 e => ?_) (fun c27 e => ?_)
 · cases e
   exact ⟨_, _, _, _, O.pick [0, 1], rfl, rfl⟩
 · refine ⟨_, ldk (k := 1) (Sub.refl _) (O.all 0 rfl) rfl, _, rfl, ?_⟩
   refine O.st 0 rfl 1 (Nat.le_of_ble_eq_true rfl) trivial fun h1 O2 => ?_
   refine ⟨_, ldk (k := 1) (Sub.refl _) (O2.all 0 rfl) rfl, _, rfl, ?_⟩
   refine ⟨_, ld0 (Sub.refl _) (O2.all 0 rfl) rfl, _, rfl, ?_⟩
   refine ⟨?_, ?_⟩
   · refine O2.new fun h11 x12 O13 => ?_
     refine ⟨x12, ?_⟩
     refine ⟨_, rfl, rfl, ?_⟩
     refine O13.stAO 2 rfl rfl (Flats.cons trivial (Flats.cons trivial (Flats.cons trivial (Flats.cons trivial Flats.nil)))) fun h15 S17 O16 => ?_
     have O18 := O16.nm
     exact names_Names_put.j1.walk (O18.pick [0, 1, 2]).nm rfl (show T_names_Row.E _ (T_names_Row.mk s_1 x_2 (IntKind.wrap .i64 (x_io0_1 + (1 : Int))) x_io0_0) [(Value.string s_1), (Value.int .i64 x_2), (Value.int .i64 (IntKind.wrap .i64 (x_io0_1 + (1 : Int)))), (Value.int .i64 x_io0_0)] from rfl) e
   · refine O2.new fun h19 x20 O21 => ?_
     refine ⟨x20, ?_⟩
     refine ⟨_, rfl, rfl, ?_⟩
     refine O21.stAO 2 rfl rfl (Flats.cons trivial (Flats.cons trivial (Flats.cons trivial (Flats.cons trivial Flats.nil)))) fun h23 S25 O24 => ?_
     have O26 := O24.nm
     exact names_Names_put.j1.walk (O26.pick [0, 1, 2]).nm rfl (show T_names_Row.E _ (T_names_Row.mk s_1 x_2 (IntKind.wrap .i64 (x_io0_1 + (1 : Int))) x_io0_0) [(Value.string s_1), (Value.int .i64 x_2), (Value.int .i64 (IntKind.wrap .i64 (x_io0_1 + (1 : Int)))), (Value.int .i64 x_io0_0)] from rfl) e
noncomputable def names_Names_put (y_0 : T_names_Names) (s_1 : ByteArray) (x_2 : Int) : Option (Int × T_names_Names) :=
 Option.bind (names_Names_find y_0 s_1) fun y1 => if y1.2 = true then ((names_Names_put.j0 y_0.node_ y_0.count_ y_0.rows_ s_1 x_2 y1.1 y1.2)) else (if (((List.length y_0.rows_) : Nat) : Int) = (60 : Int) then (some ((6 : Int), y_0)) else ((names_Names_put.j0 y_0.node_ y_0.count_ y_0.rows_ s_1 x_2 y1.1 y1.2)))
theorem names_Names_put.walk {W h m bkio0 A_0_2 n_0_2 c_0_2 y_0 s_1 x_2} (O : Hold W h m h m [rV bkio0 53 [(Value.int .i64 y_0.node_), (Value.int .i64 y_0.count_), (Value.slice A_0_2 n_0_2 c_0_2)], rR (aE T_names_Row.T) A_0_2 c_0_2 y_0.rows_]) (ne_0_2 : n_0_2 = List.length y_0.rows_) {r} (e : names_Names_put y_0 s_1 x_2 = some r) : Run Tryd.prog 17 #[Value.pointer (some ⟨bkio0, 0, none⟩), Value.string s_1, Value.int .i64 x_2] h (names_Names_put.post W bkio0 h m r) := by
 unfold names_Names_put at e
 subst ne_0_2
 refine f17.run ?_
 unfold f17.runT
 obtain ⟨y1, g2, e⟩ := bind_e e
 obtain ⟨m7, u8, s14, ⟨⟨r11, k12⟩, hb13, _⟩, B9, C10⟩ := O.lend0 [1, 0]
 replace r11 : Rd 4 T_names_Row.E m7 A_0_2 y_0.rows_ := r11
 replace k12 : List.length y_0.rows_ ≤ c_0_2 := k12
 refine (names_Names_find.walk (Hold.start (W := No) s14) ⟨_, _, hb13, nn, (show T_names_Names.E _ y_0 [(Value.int .i64 y_0.node_), (Value.int .i64 y_0.count_), (Value.slice A_0_2 (List.length y_0.rows_) c_0_2)] from ⟨_, _, rfl, k12, r11⟩)⟩ g2).mono ?_
 rintro _ h3 ⟨m4, Q5, rfl⟩
 have O15 := Hold.nm (C10 Q5 vfs_nil)
 refine ⟨_, _, rfl, ?_⟩
 refine split_not ?_
 refine split_any_e e (fun c17 e => ?_) (fun c17 e => ?_)
 · exact names_Names_put.j0.walk (O15.pick [0, 1]).nm rfl e
 · refine ⟨_, ldk (k := 2) (Sub.refl _) (O15.all 0 rfl) rfl, _, _, _, rfl, ?_⟩
   refine split_eq_e e (fun c16 e => ?_) (fun c16 e => ?_)
   · cases e
     exact ⟨_, _, _, _, O15.pick [0, 1], rfl, rfl⟩
   · exact names_Names_put.j0.walk (O15.pick [0, 1]).nm rfl e
def names_Names_Set.post (W : Nat → Prop) (bkio0 : Nat) (h0 m0 : Heap) (r : Int × T_names_Names) (v : Value) (h : Heap) : Prop := ∃ m Aio0_2 nio0_2 cio0_2, Hold W h0 m0 h m [rV bkio0 53 [(Value.int .i64 r.2.node_), (Value.int .i64 r.2.count_), (Value.slice Aio0_2 nio0_2 cio0_2)], rR (aE T_names_Row.T) Aio0_2 cio0_2 r.2.rows_] ∧ v = .int .i64 r.1 ∧ nio0_2 = List.length r.2.rows_
noncomputable def names_Names_Set (y_0 : T_names_Names) (s_1 : ByteArray) (x_2 : Int) : Option (Int × T_names_Names) :=
 Option.bind (names_word s_1) fun y1 => if y1 = true then (if x_2 < (1 : Int) then (some ((1 : Int), y_0)) else (Option.bind (names_Names_put y_0 s_1 x_2) fun y8 => some (y8.1, y8.2))) else (some ((3 : Int), y_0))
theorem names_Names_Set.walk {W h m bkio0 A_0_2 n_0_2 c_0_2 y_0 s_1 x_2} (O : Hold W h m h m [rV bkio0 53 [(Value.int .i64 y_0.node_), (Value.int .i64 y_0.count_), (Value.slice A_0_2 n_0_2 c_0_2)], rR (aE T_names_Row.T) A_0_2 c_0_2 y_0.rows_]) (ne_0_2 : n_0_2 = List.length y_0.rows_) {r} (e : names_Names_Set y_0 s_1 x_2 = some r) : Run Tryd.prog 5 #[Value.pointer (some ⟨bkio0, 0, none⟩), Value.string s_1, Value.int .i64 x_2] h (names_Names_Set.post W bkio0 h m r) := by
 unfold names_Names_Set at e
 subst ne_0_2
 refine f5.run ?_
 unfold f5.runT
 obtain ⟨y1, g2, e⟩ := bind_e e
 refine (names_word.walk (Hold.start (W := No) O.s)  g2).mono ?_
 rintro _ h3 ⟨m4, Q5, rfl⟩
 have O7 := Hold.nm (O.retC Q5 vfs_nil)
 refine ⟨_, rfl, ?_⟩
 refine split_not ?_
 refine split_any_e e (fun c22 e => ?_) (fun c22 e => ?_)
 · refine split_dec_e e (fun c21 e => ?_) (fun c21 e => ?_)
   · cases e
     exact ⟨_, _, _, _, O7.pick [0, 1], rfl, rfl⟩
   · obtain ⟨y8, g9, e⟩ := bind_e e
     obtain ⟨W14, P15, B16, C17⟩ := O7.callC [0, 1]
     refine (names_Names_put.walk (y_0 := y_0) P15 rfl g9).mono ?_
     rintro _ h10 ⟨m11, A_18_2, n_18_2, c_18_2, Q12, rfl, ne_18_2⟩
     have O20 := Hold.nm (C17 Q12 (vfs_cons rV_vf (vfs_cons (rR_vf (aE_vf (fun _ _ _ _ h => T_names_Row.keep h))) vfs_nil)))
     subst ne_18_2
     refine ⟨_, rfl, ?_⟩
     cases e
     exact ⟨_, _, _, _, O20.pick [2, 3], rfl, rfl⟩
 · cases e
   exact ⟨_, _, _, _, O7.pick [0, 1], rfl, rfl⟩
def slices_Equal_6.post (W : Nat → Prop) (h0 m0 : Heap) (r : Bool) (v : Value) (h : Heap) : Prop := ∃ m , Hold W h0 m0 h m [] ∧ v = .bool r
inductive slices_Equal_6.l0_k.Pt where
 | l0 (a_0 : List T_names_Row) (a_1 : List T_names_Row) (x_12 : Int) (x_13 : Int)
noncomputable def slices_Equal_6.l0_k.body (go : (p : slices_Equal_6.l0_k.Pt) → Option (Bool)) : (p : slices_Equal_6.l0_k.Pt) → Option (Bool)
 | .l0 a_0 a_1 x_12 x_13 => if x_13 < x_12 then (Option.bind (gi a_0 x_13) fun y1 => Option.bind (gi a_1 x_13) fun y8 => if ((y1.Name == y8.Name) && ((y1.Ref == y8.Ref) && ((y1.Count == y8.Count) && ((y1.Node == y8.Node) && true)))) = true then ((go (.l0 a_0 a_1 x_12 (IntKind.wrap .i64 (x_13 + (1 : Int)))))) else (some (false))) else (some (true))
theorem slices_Equal_6.l0_k.mono : MonoF (β := fun _ => (Bool)) slices_Equal_6.l0_k.body := fun f g hfg p => match p with
 | .l0 a_0 a_1 x_12 x_13 => LeO.ite (LeO.bind (LeO.refl _) fun y1 => LeO.bind (LeO.refl _) fun y8 => LeO.ite ((hfg _)) (LeO.refl _)) (LeO.refl _)
noncomputable def slices_Equal_6.l0_k.go (p : slices_Equal_6.l0_k.Pt) : Option (Bool) := fixF (β := fun _ => (Bool)) slices_Equal_6.l0_k.body p
noncomputable def slices_Equal_6.l0 (a_0 a_1 x_12 x_13) := slices_Equal_6.l0_k.go (.l0 a_0 a_1 x_12 x_13)
theorem slices_Equal_6.l0_eq (a_0 a_1 x_12 x_13) : slices_Equal_6.l0 a_0 a_1 x_12 x_13 = if x_13 < x_12 then (Option.bind (gi a_0 x_13) fun y1 => Option.bind (gi a_1 x_13) fun y8 => if ((y1.Name == y8.Name) && ((y1.Ref == y8.Ref) && ((y1.Count == y8.Count) && ((y1.Node == y8.Node) && true)))) = true then ((slices_Equal_6.l0 a_0 a_1 x_12 (IntKind.wrap .i64 (x_13 + (1 : Int))))) else (some (false))) else (some (true)) := fixF_eq slices_Equal_6.l0_k.mono _
def slices_Equal_6.l0_k.I : (p : slices_Equal_6.l0_k.Pt) → (Bool) → Prop
 | .l0 a_0 a_1 x_12 x_13, r => ∀ {W h0 m0 h m A_0 n_0 c_0 A_1 n_1 c_1} (O : Hold W h0 m0 h m []) (ne_0 : n_0 = List.length a_0) (k_0 : List.length a_0 ≤ c_0) (r_0 : Rd 4 T_names_Row.E m A_0 a_0) (ne_1 : n_1 = List.length a_1) (k_1 : List.length a_1 ≤ c_1) (r_1 : Rd 4 T_names_Row.E m A_1 a_1), f6.l0 (slices_Equal_6.post W h0 m0 r) A_0 n_0 c_0 A_1 n_1 c_1 x_12 x_13 h
theorem slices_Equal_6.l0_k.step_l0 (go : (p : slices_Equal_6.l0_k.Pt) → Option (Bool)) (ih : ∀ p r, go p = some r → slices_Equal_6.l0_k.I p r) (a_0 a_1 x_12 x_13) (r) (e : slices_Equal_6.l0_k.body go (.l0 a_0 a_1 x_12 x_13) = some r) : slices_Equal_6.l0_k.I (.l0 a_0 a_1 x_12 x_13) r := by
 unfold slices_Equal_6.l0_k.body at e
 intro W h0 m0 h m A_0 n_0 c_0 A_1 n_1 c_1 O ne_0 k_0 r_0 ne_1 k_1 r_1
 subst ne_0
 subst ne_1
 refine f6.l0_in ?_
 unfold f6.l0T
 refine split_dec_e e (fun c18 e => ?_) (fun c18 e => ?_)
 · obtain ⟨y1, g2, e⟩ := bind_e e
   refine r_0.addr rfl g2 fun a3 cs4 ha5 hc6 he7 => ?_
   obtain ⟨y8, g9, e⟩ := bind_e e
   refine r_1.addr rfl g9 fun a10 cs11 ha12 hc13 he14 => ?_
   refine ⟨_, ldAn O.s hc6 rfl, ?_⟩
   refine ⟨_, ldAn O.s hc13 rfl, ?_⟩
   obtain rfl : cs4 = [(Value.string y1.Name), (Value.int .i64 y1.Ref), (Value.int .i64 y1.Count), (Value.int .i64 y1.Node)] := he7
   obtain rfl : cs11 = [(Value.string y8.Name), (Value.int .i64 y8.Ref), (Value.int .i64 y8.Count), (Value.int .i64 y8.Node)] := he14
   refine gen_neq (b := ((y1.Name == y8.Name) && ((y1.Ref == y8.Ref) && ((y1.Count == y8.Count) && ((y1.Node == y8.Node) && true))))) (by kernel_rfl) ?_
   refine ⟨_, rfl, ?_⟩
   refine split_not ?_
   refine split_any_e e (fun c17 e => ?_) (fun c17 e => ?_)
   · exact (ih _ _ e) (O.pick []).nm rfl k_0 r_0 rfl k_1 r_1
   · cases e
     exact ⟨_, O.pick [], rfl⟩
 · cases e
   exact ⟨_, O.pick [], rfl⟩
theorem slices_Equal_6.l0_k.all {p : slices_Equal_6.l0_k.Pt} {r : (Bool)} (e : slices_Equal_6.l0_k.go p = some r) : slices_Equal_6.l0_k.I p r := fixF_ind (β := fun _ => (Bool)) slices_Equal_6.l0_k.mono (I := slices_Equal_6.l0_k.I) (fun go ih p r e => match p with
 | .l0 a_0 a_1 x_12 x_13 => slices_Equal_6.l0_k.step_l0 go ih a_0 a_1 x_12 x_13 r e
 ) e
noncomputable def slices_Equal_6 (a_0 : List T_names_Row) (a_1 : List T_names_Row) : Option (Bool) :=
 if (((List.length a_0) : Nat) : Int) = (((List.length a_1) : Nat) : Int) then ((slices_Equal_6.l0 a_0 a_1 (((List.length a_0) : Nat) : Int) (0 : Int))) else (some (false))
theorem slices_Equal_6.walk {W h m A_0 n_0 c_0 A_1 n_1 c_1 a_0 a_1} (O : Hold W h m h m []) (ne_0 : n_0 = List.length a_0) (k_0 : List.length a_0 ≤ c_0) (r_0 : Rd 4 T_names_Row.E m A_0 a_0) (ne_1 : n_1 = List.length a_1) (k_1 : List.length a_1 ≤ c_1) (r_1 : Rd 4 T_names_Row.E m A_1 a_1) {r} (e : slices_Equal_6 a_0 a_1 = some r) : Run Tryd.prog 6 #[Value.slice A_0 n_0 c_0, Value.slice A_1 n_1 c_1] h (slices_Equal_6.post W h m r) := by
 unfold slices_Equal_6 at e
 subst ne_0
 subst ne_1
 refine f6.run ?_
 unfold f6.runT
 refine split_ne_e e (fun c1 e => ?_) (fun c1 e => ?_)
 · cases e
   exact ⟨_, O.pick [], rfl⟩
 · exact (slices_Equal_6.l0_k.all e) (O.pick []).nm rfl k_0 r_0 rfl k_1 r_1
def slices_Clone_18.post (W : Nat → Prop) (h0 m0 : Heap) (r : (List T_names_Row)) (v : Value) (h : Heap) : Prop := ∃ m A0 n0 c0, Hold W h0 m0 h m [rR (aE T_names_Row.T) A0 c0 r] ∧ v = .slice A0 n0 c0 ∧ n0 = List.length r
noncomputable def slices_Clone_18 (a0 : List T_names_Row) : Option (List T_names_Row) := ap 40 ([] : List T_names_Row) a0
theorem slices_Clone_18.walk {W : Nat → Prop} {h m : Heap} {A0 : Option Addr} {n0 c0 : Nat} {a0 : List T_names_Row} (O : Hold W h m h m []) (ne0 : n0 = List.length a0) (k0 : List.length a0 ≤ c0) (r0 : Rd 4 T_names_Row.E m A0 a0) {r : List T_names_Row} (e : slices_Clone_18 a0 = some r) : Run Tryd.prog 18 #[Value.slice A0 n0 c0] h (slices_Clone_18.post W h m r) := by
 unfold slices_Clone_18 at e
 subst ne0
 refine f18.run ?_
 unfold f18.runT
 cases A0 with
 | none =>
   refine split_t ?_
   obtain rfl := Rd.void r0
   obtain rfl : [] = r := by have := (ap_e e).2; simpa using this
   exact ⟨m, none, 0, 0, O.nil (aE T_names_Row.T) none, rfl, rfl⟩
 | some a =>
   refine split_f ?_
   refine O.new fun h1 x1 O1 => ?_
   refine O1.appE0 T_names_Row.T rfl rfl (r0.srcE T_names_Row.T O1.s rfl) (by decide) e fun A4 c4 h4 x4 O4 => ?_
   refine ⟨_, _, _, rfl, ?_⟩
   exact ⟨m, _, _, _, O4.pick [1], rfl, rfl⟩
def names_Names_State.post (W : Nat → Prop) (h0 m0 : Heap) (r : (List T_names_Row)) (v : Value) (h : Heap) : Prop := ∃ m A0 n0 c0, Hold W h0 m0 h m [rR (aE T_names_Row.T) A0 c0 r] ∧ v = .slice A0 n0 c0 ∧ n0 = List.length r
noncomputable def names_Names_State (y_0 : T_names_Names) : Option ((List T_names_Row)) :=
 Option.bind (slices_Clone_18 y_0.rows_) fun y6 => some (y6)
theorem names_Names_State.walk {W h m bk_0 y_0} (O : Hold W h m h m []) (v_0 : VB T_names_Names.E m bk_0 y_0) {r} (e : names_Names_State y_0 = some r) : Run Tryd.prog 7 #[Value.pointer (some ⟨bk_0, 0, none⟩)] h (names_Names_State.post W h m r) := by
 unfold names_Names_State at e
 obtain ⟨cs_0, t_0, hb_0, nn_0, e_0⟩ := id v_0
 refine f7.run ?_
 unfold f7.runT
 obtain ⟨A1, c2, q3, k4, r5⟩ := T_names_Names.g2 e_0
 refine ⟨_, ldk (k := 2) O.s (Blk.all' hb_0) q3, _, _, _, rfl, ?_⟩
 obtain ⟨y6, g7, e⟩ := bind_e e
 refine (slices_Clone_18.walk (Hold.start (W := No) O.s) rfl k4 r5 g7).mono ?_
 rintro _ h8 ⟨m9, A12, n13, c14, Q10, rfl, ne15⟩
 have O17 := Hold.nm (O.retC Q10 (vfs_cons (rR_vf (aE_vf (fun _ _ _ _ h => T_names_Row.keep h))) vfs_nil))
 subst ne15
 refine ⟨_, _, _, rfl, ?_⟩
 cases e
 exact ⟨_, _, _, _, O17.pick [0], rfl, rfl⟩
def roadlaw4_pick_8.post (W : Nat → Prop) (h0 m0 : Heap) (r : ByteArray) (v : Value) (h : Heap) : Prop := ∃ m , Hold W h0 m0 h m [] ∧ v = .string r
noncomputable def roadlaw4_pick_8 (a_0 : List ByteArray) (x_1 : Int) : Option (ByteArray) :=
 if (((List.length a_0) : Nat) : Int) = (0 : Int) then (some ((ByteArray.mk #[]))) else (if (IntKind.wrap .u64 (((List.length a_0) : Nat) : Int)) ≠ 0 then (Option.bind (gi a_0 (IntKind.wrap .i64 (Int.tmod (IntKind.wrap .u64 x_1) (IntKind.wrap .u64 (((List.length a_0) : Nat) : Int))))) fun y2 => some (y2)) else none)
theorem roadlaw4_pick_8.walk {W h m A_0 n_0 c_0 a_0 x_1} (O : Hold W h m h m []) (ne_0 : n_0 = List.length a_0) (k_0 : List.length a_0 ≤ c_0) (r_0 : Rd 1 eStr m A_0 a_0) {r} (e : roadlaw4_pick_8 a_0 x_1 = some r) : Run Tryd.prog 8 #[Value.slice A_0 n_0 c_0, Value.int .i64 x_1] h (roadlaw4_pick_8.post W h m r) := by
 unfold roadlaw4_pick_8 at e
 subst ne_0
 refine f8.run ?_
 unfold f8.runT
 refine split_eq_e e (fun c9 e => ?_) (fun c9 e => ?_)
 · cases e
   exact ⟨_, O.pick [], rfl⟩
 · obtain ⟨g1, e⟩ := guard_e e
   refine ⟨g1, ?_⟩
   obtain ⟨y2, g3, e⟩ := bind_e e
   refine r_0.addr rfl g3 fun a4 cs5 ha6 hc7 he8 => ?_
   obtain rfl : cs5 = [(Value.string y2)] := he8
   refine ⟨_, ld0 O.s hc7 rfl, _, rfl, ?_⟩
   cases e
   exact ⟨_, O.pick [], rfl⟩
def roadlaw4_at.post (W : Nat → Prop) (h0 m0 : Heap) (r : Int) (v : Value) (h : Heap) : Prop := ∃ m , Hold W h0 m0 h m [] ∧ v = .int .i64 r
noncomputable def roadlaw4_at (a_0 : List Int) (x_1 : Int) : Option (Int) :=
 if x_1 < (((List.length a_0) : Nat) : Int) then (Option.bind (gi a_0 x_1) fun y1 => some (y1)) else (some ((0 : Int)))
theorem roadlaw4_at.walk {W h m A_0 n_0 c_0 a_0 x_1} (O : Hold W h m h m []) (ne_0 : n_0 = List.length a_0) (k_0 : List.length a_0 ≤ c_0) (r_0 : Rd 1 (eInt .i64) m A_0 a_0) {r} (e : roadlaw4_at a_0 x_1 = some r) : Run Tryd.prog 9 #[Value.slice A_0 n_0 c_0, Value.int .i64 x_1] h (roadlaw4_at.post W h m r) := by
 unfold roadlaw4_at at e
 subst ne_0
 refine f9.run ?_
 unfold f9.runT
 refine split_dec_e e (fun c8 e => ?_) (fun c8 e => ?_)
 · obtain ⟨y1, g2, e⟩ := bind_e e
   refine r_0.addr rfl g2 fun a3 cs4 ha5 hc6 he7 => ?_
   obtain rfl : cs4 = [(Value.int .i64 y1)] := he7
   refine ⟨_, ld0 O.s hc6 rfl, _, rfl, ?_⟩
   cases e
   exact ⟨_, O.pick [], rfl⟩
 · cases e
   exact ⟨_, O.pick [], rfl⟩
def names_Names_Find.post (W : Nat → Prop) (h0 m0 : Heap) (r : Int × Int) (v : Value) (h : Heap) : Prop := ∃ m , Hold W h0 m0 h m [] ∧ v = .tuple #[.int .i64 r.1, .int .i64 r.2]
noncomputable def names_Names_Find.j0 (y_0 : T_names_Names) (x_6 : Int) : Option (Int × Int) :=
 Option.bind (gi y_0.rows_ x_6) fun y6 => some (y6.Ref, (0 : Int))
theorem names_Names_Find.j0.walk {W h0 m0 h m bk_0 y_0 x_6} (O : Hold W h0 m0 h m []) (v_0 : VB T_names_Names.E m bk_0 y_0) {r} (e : names_Names_Find.j0 y_0 x_6 = some r) : f19.j0 (names_Names_Find.post W h0 m0 r) (⟨bk_0, 0, none⟩ : Addr) x_6 h := by
 unfold names_Names_Find.j0 at e
 obtain ⟨cs_0, t_0, hb_0, nn_0, e_0⟩ := id v_0
 refine f19.j0_in ?_
 unfold f19.j0T
 obtain ⟨A1, c2, q3, k4, r5⟩ := T_names_Names.g2 e_0
 refine ⟨_, ldk (k := 2) O.s (Blk.all' hb_0) q3, _, _, _, rfl, ?_⟩
 obtain ⟨y6, g7, e⟩ := bind_e e
 refine r5.addr rfl g7 fun a8 cs9 ha10 hc11 he12 => ?_
 refine ⟨_, ldk (k := 1) O.s hc11 (T_names_Row.g1 he12), _, rfl, ?_⟩
 cases e
 exact ⟨_, O.pick [], rfl⟩
noncomputable def names_Names_Find.j1 (y_0 : T_names_Names) (x_6 : Int) (b_29 : Bool) : Option (Int × Int) :=
 if b_29 = true then (some ((0 : Int), (4 : Int))) else ((names_Names_Find.j0 y_0 x_6))
theorem names_Names_Find.j1.walk {W h0 m0 h m bk_0 y_0 x_6 b_29} (O : Hold W h0 m0 h m []) (v_0 : VB T_names_Names.E m bk_0 y_0) {r} (e : names_Names_Find.j1 y_0 x_6 b_29 = some r) : f19.j1 (names_Names_Find.post W h0 m0 r) (⟨bk_0, 0, none⟩ : Addr) x_6 b_29 h := by
 unfold names_Names_Find.j1 at e
 obtain ⟨cs_0, t_0, hb_0, nn_0, e_0⟩ := id v_0
 refine f19.j1_in ?_
 unfold f19.j1T
 refine split_any_e e (fun c1 e => ?_) (fun c1 e => ?_)
 · cases e
   exact ⟨_, O.pick [], rfl⟩
 · exact names_Names_Find.j0.walk (O.pick []).nm v_0 e
noncomputable def names_Names_Find (y_0 : T_names_Names) (s_1 : ByteArray) : Option (Int × Int) :=
 Option.bind (names_word s_1) fun y1 => if y1 = true then (Option.bind (names_Names_find y_0 s_1) fun y8 => if y8.2 = true then (Option.bind (gi y_0.rows_ y8.1) fun y20 => (names_Names_Find.j1 y_0 y8.1 (y20.Ref == (0 : Int)))) else ((names_Names_Find.j1 y_0 y8.1 true))) else (some ((0 : Int), (3 : Int)))
theorem names_Names_Find.walk {W h m bk_0 y_0 s_1} (O : Hold W h m h m []) (v_0 : VB T_names_Names.E m bk_0 y_0) {r} (e : names_Names_Find y_0 s_1 = some r) : Run Tryd.prog 19 #[Value.pointer (some ⟨bk_0, 0, none⟩), Value.string s_1] h (names_Names_Find.post W h m r) := by
 unfold names_Names_Find at e
 obtain ⟨cs_0, t_0, hb_0, nn_0, e_0⟩ := id v_0
 refine f19.run ?_
 unfold f19.runT
 obtain ⟨y1, g2, e⟩ := bind_e e
 refine (names_word.walk (Hold.start (W := No) O.s)  g2).mono ?_
 rintro _ h3 ⟨m4, Q5, rfl⟩
 have O7 := Hold.nm (O.retC Q5 vfs_nil)
 refine ⟨_, rfl, ?_⟩
 refine split_not ?_
 refine split_any_e e (fun c28 e => ?_) (fun c28 e => ?_)
 · obtain ⟨y8, g9, e⟩ := bind_e e
   refine (names_Names_find.walk (Hold.start (W := No) O7.s) v_0 g9).mono ?_
   rintro _ h10 ⟨m11, Q12, rfl⟩
   have O14 := Hold.nm (O7.retC Q12 vfs_nil)
   refine ⟨_, _, rfl, ?_⟩
   refine split_not ?_
   refine split_any_e e (fun c27 e => ?_) (fun c27 e => ?_)
   · obtain ⟨A15, c16, q17, k18, r19⟩ := T_names_Names.g2 e_0
     refine ⟨_, ldk (k := 2) O14.s (Blk.all' hb_0) q17, _, _, _, rfl, ?_⟩
     obtain ⟨y20, g21, e⟩ := bind_e e
     refine r19.addr rfl g21 fun a22 cs23 ha24 hc25 he26 => ?_
     refine ⟨_, ldk (k := 1) O14.s hc25 (T_names_Row.g1 he26), _, rfl, ?_⟩
     exact names_Names_Find.j1.walk (O14.pick []).nm v_0 e
   · exact names_Names_Find.j1.walk (O14.pick []).nm v_0 e
 · cases e
   exact ⟨_, O7.pick [], rfl⟩
def names_Names_Drop.post (W : Nat → Prop) (bkio0 : Nat) (h0 m0 : Heap) (r : Int × T_names_Names) (v : Value) (h : Heap) : Prop := ∃ m Aio0_2 nio0_2 cio0_2, Hold W h0 m0 h m [rV bkio0 53 [(Value.int .i64 r.2.node_), (Value.int .i64 r.2.count_), (Value.slice Aio0_2 nio0_2 cio0_2)], rR (aE T_names_Row.T) Aio0_2 cio0_2 r.2.rows_] ∧ v = .int .i64 r.1 ∧ nio0_2 = List.length r.2.rows_
noncomputable def names_Names_Drop (y_0 : T_names_Names) (s_1 : ByteArray) : Option (Int × T_names_Names) :=
 Option.bind (names_Names_Find y_0 s_1) fun y1 => if y1.2 = (0 : Int) then (Option.bind (names_Names_put y_0 s_1 (0 : Int)) fun y16 => some (y16.1, y16.2)) else (some (y1.2, y_0))
theorem names_Names_Drop.walk {W h m bkio0 A_0_2 n_0_2 c_0_2 y_0 s_1} (O : Hold W h m h m [rV bkio0 53 [(Value.int .i64 y_0.node_), (Value.int .i64 y_0.count_), (Value.slice A_0_2 n_0_2 c_0_2)], rR (aE T_names_Row.T) A_0_2 c_0_2 y_0.rows_]) (ne_0_2 : n_0_2 = List.length y_0.rows_) {r} (e : names_Names_Drop y_0 s_1 = some r) : Run Tryd.prog 10 #[Value.pointer (some ⟨bkio0, 0, none⟩), Value.string s_1] h (names_Names_Drop.post W bkio0 h m r) := by
 unfold names_Names_Drop at e
 subst ne_0_2
 refine f10.run ?_
 unfold f10.runT
 obtain ⟨y1, g2, e⟩ := bind_e e
 obtain ⟨m7, u8, s14, ⟨⟨r11, k12⟩, hb13, _⟩, B9, C10⟩ := O.lend0 [1, 0]
 replace r11 : Rd 4 T_names_Row.E m7 A_0_2 y_0.rows_ := r11
 replace k12 : List.length y_0.rows_ ≤ c_0_2 := k12
 refine (names_Names_Find.walk (Hold.start (W := No) s14) ⟨_, _, hb13, nn, (show T_names_Names.E _ y_0 [(Value.int .i64 y_0.node_), (Value.int .i64 y_0.count_), (Value.slice A_0_2 (List.length y_0.rows_) c_0_2)] from ⟨_, _, rfl, k12, r11⟩)⟩ g2).mono ?_
 rintro _ h3 ⟨m4, Q5, rfl⟩
 have O15 := Hold.nm (C10 Q5 vfs_nil)
 refine ⟨_, _, rfl, ?_⟩
 refine split_ne_e e (fun c29 e => ?_) (fun c29 e => ?_)
 · cases e
   exact ⟨_, _, _, _, O15.pick [0, 1], rfl, rfl⟩
 · obtain ⟨y16, g17, e⟩ := bind_e e
   obtain ⟨W22, P23, B24, C25⟩ := O15.callC [0, 1]
   refine (names_Names_put.walk (y_0 := y_0) P23 rfl g17).mono ?_
   rintro _ h18 ⟨m19, A_26_2, n_26_2, c_26_2, Q20, rfl, ne_26_2⟩
   have O28 := Hold.nm (C25 Q20 (vfs_cons rV_vf (vfs_cons (rR_vf (aE_vf (fun _ _ _ _ h => T_names_Row.keep h))) vfs_nil)))
   subst ne_26_2
   refine ⟨_, rfl, ?_⟩
   cases e
   exact ⟨_, _, _, _, O28.pick [2, 3], rfl, rfl⟩
def roadref4_within.post (W : Nat → Prop) (h0 m0 : Heap) (r : Bool) (v : Value) (h : Heap) : Prop := ∃ m , Hold W h0 m0 h m [] ∧ v = .bool r
noncomputable def roadref4_within (x_0 : Int) (x_1 : Int) (x_2 : Int) : Option (Bool) :=
 if x_0 ≥ x_1 then (some ((decide (x_0 ≤ x_2)))) else (some (false))
theorem roadref4_within.walk {W h m x_0 x_1 x_2} (O : Hold W h m h m []) {r} (e : roadref4_within x_0 x_1 x_2 = some r) : Run Tryd.prog 20 #[Value.int .i64 x_0, Value.int .i64 x_1, Value.int .i64 x_2] h (roadref4_within.post W h m r) := by
 unfold roadref4_within at e
 refine f20.run ?_
 unfold f20.runT
 refine split_dec_e e (fun c1 e => ?_) (fun c1 e => ?_)
 · cases e
   exact ⟨_, O.pick [], rfl⟩
 · cases e
   exact ⟨_, O.pick [], rfl⟩
def internal_bytealg_IndexByteString.post (W : Nat → Prop) (h0 m0 : Heap) (r : Int) (v : Value) (h : Heap) : Prop := ∃ m , Hold W h0 m0 h m [] ∧ v = .int .i64 r
noncomputable def internal_bytealg_IndexByteString (x0 : ByteArray) (x1 : Int) : Option Int := some (ibyteB x0 x1)
theorem internal_bytealg_IndexByteString.walk {W : Nat → Prop} {h m : Heap} {x0 : ByteArray} {x1 : Int} (O : Hold W h m h m []) {r : Int} (e : internal_bytealg_IndexByteString x0 x1 = some r) : ExtF Tryd.prog 68 #[Value.string x0, Value.int .u8 x1] h (internal_bytealg_IndexByteString.post W h m r) := by
 unfold internal_bytealg_IndexByteString at e
 exact (ibyte_ext O Tryd.func68 (by kernel_rfl) (by kernel_rfl) (by kernel_rfl) (show Extern.find Tryd.f68 = some Extern.BytealgIndexByte.indexByte by kernel_rfl) e).mono fun v h' hp => hp
def internal_stringslite_IndexByte.post (W : Nat → Prop) (h0 m0 : Heap) (r : Int) (v : Value) (h : Heap) : Prop := ∃ m , Hold W h0 m0 h m [] ∧ v = .int .i64 r
noncomputable def internal_stringslite_IndexByte (s_0 : ByteArray) (x_1 : Int) : Option (Int) :=
 Option.bind (internal_bytealg_IndexByteString s_0 x_1) fun y1 => some (y1)
theorem internal_stringslite_IndexByte.walk {W h m s_0 x_1} (O : Hold W h m h m []) {r} (e : internal_stringslite_IndexByte s_0 x_1 = some r) : Run Tryd.prog 58 #[Value.string s_0, Value.int .u8 x_1] h (internal_stringslite_IndexByte.post W h m r) := by
 unfold internal_stringslite_IndexByte at e
 refine f58.run ?_
 unfold f58.runT
 obtain ⟨y1, g2, e⟩ := bind_e e
 refine (internal_bytealg_IndexByteString.walk (Hold.start (W := No) O.s)  g2).mono ?_
 rintro _ h3 ⟨m4, Q5, rfl⟩
 have O7 := Hold.nm (O.retC Q5 vfs_nil)
 refine ⟨_, rfl, ?_⟩
 cases e
 exact ⟨_, O7.pick [], rfl⟩
def internal_stringslite_Index.post (W : Nat → Prop) (h0 m0 : Heap) (r : Int) (v : Value) (h : Heap) : Prop := ∃ m , Hold W h0 m0 h m [] ∧ v = .int .i64 r
noncomputable def internal_stringslite_Index (x0 x1 : ByteArray) : Option Int := if x1.size = 1 then (if (ByteArray.toList x1 == ByteArray.toList x0) = true then some 0 else Option.bind x1[0]? fun y => internal_stringslite_IndexByte x0 ((y.toNat : Nat) : Int)) else none
theorem internal_stringslite_Index.walk {W : Nat → Prop} {h m : Heap} {x0 x1 : ByteArray} (O : Hold W h m h m []) {r : Int} (e : internal_stringslite_Index x0 x1 = some r) : Run Tryd.prog 49 #[Value.string x0, Value.string x1] h (internal_stringslite_Index.post W h m r) := by
 unfold internal_stringslite_Index at e
 obtain ⟨g1, e⟩ := guard_e e
 refine f49.run ?_
 unfold f49.runT
 refine split_eq (fun q => absurd q (by omega)) (fun _ => f49.j1_in ?_)
 unfold f49.j1T
 by_cases q : (ByteArray.toList x1 == ByteArray.toList x0) = true
 · rw [if_pos q] at e
   cases e
   rw [q]
   exact ⟨m, O, rfl⟩
 · rw [if_neg q] at e
   rw [Bool.not_eq_true] at q
   rw [q]
   refine split_f (split_eq (fun _ => ?_) (fun q => absurd g1 (by omega)))
   cases hy : x1[0]? with
   | none => rw [hy] at e; cases e
   | some y =>
     rw [hy] at e
     refine ⟨by decide, y, hy, (internal_stringslite_IndexByte.walk O e).mono ?_⟩
     rintro v h' ⟨m', O', rfl⟩
     exact ⟨_, rfl, m', O', rfl⟩
def strings_Index.post (W : Nat → Prop) (h0 m0 : Heap) (r : Int) (v : Value) (h : Heap) : Prop := ∃ m , Hold W h0 m0 h m [] ∧ v = .int .i64 r
noncomputable def strings_Index (s_0 : ByteArray) (s_1 : ByteArray) : Option (Int) :=
 Option.bind (internal_stringslite_Index s_0 s_1) fun y1 => some (y1)
theorem strings_Index.walk {W h m s_0 s_1} (O : Hold W h m h m []) {r} (e : strings_Index s_0 s_1 = some r) : Run Tryd.prog 34 #[Value.string s_0, Value.string s_1] h (strings_Index.post W h m r) := by
 unfold strings_Index at e
 refine f34.run ?_
 unfold f34.runT
 obtain ⟨y1, g2, e⟩ := bind_e e
 refine (internal_stringslite_Index.walk (Hold.start (W := No) O.s)  g2).mono ?_
 rintro _ h3 ⟨m4, Q5, rfl⟩
 have O7 := Hold.nm (O.retC Q5 vfs_nil)
 refine ⟨_, rfl, ?_⟩
 cases e
 exact ⟨_, O7.pick [], rfl⟩
def strings_Contains.post (W : Nat → Prop) (h0 m0 : Heap) (r : Bool) (v : Value) (h : Heap) : Prop := ∃ m , Hold W h0 m0 h m [] ∧ v = .bool r
noncomputable def strings_Contains (s_0 : ByteArray) (s_1 : ByteArray) : Option (Bool) :=
 Option.bind (strings_Index s_0 s_1) fun y1 => some ((decide (y1 ≥ (0 : Int))))
theorem strings_Contains.walk {W h m s_0 s_1} (O : Hold W h m h m []) {r} (e : strings_Contains s_0 s_1 = some r) : Run Tryd.prog 21 #[Value.string s_0, Value.string s_1] h (strings_Contains.post W h m r) := by
 unfold strings_Contains at e
 refine f21.run ?_
 unfold f21.runT
 obtain ⟨y1, g2, e⟩ := bind_e e
 refine (strings_Index.walk (Hold.start (W := No) O.s)  g2).mono ?_
 rintro _ h3 ⟨m4, Q5, rfl⟩
 have O7 := Hold.nm (O.retC Q5 vfs_nil)
 refine ⟨_, rfl, ?_⟩
 cases e
 exact ⟨_, O7.pick [], rfl⟩
def roadref4_Word.post (W : Nat → Prop) (h0 m0 : Heap) (r : Bool) (v : Value) (h : Heap) : Prop := ∃ m , Hold W h0 m0 h m [] ∧ v = .bool r
inductive roadref4_Word.l0_k.Pt where
 | l0 (a_10 : List Int) (x_11 : Int) (x_12 : Int)
noncomputable def roadref4_Word.l0_k.body (go : (p : roadref4_Word.l0_k.Pt) → Option (Bool)) : (p : roadref4_Word.l0_k.Pt) → Option (Bool)
 | .l0 a_10 x_11 x_12 => if x_12 < x_11 then (Option.bind (gi a_10 x_12) fun y1 => Option.bind (strings_Contains (ByteArray.mk #[97, 98, 99, 100, 101, 102, 103, 104, 105, 106, 107, 108, 109, 110, 111, 112, 113, 114, 115, 116, 117, 118, 119, 120, 121, 122, 48, 49, 50, 51, 52, 53, 54, 55, 56, 57]) (bytesOf ([y1] : List Int))) fun y13 => if y13 = true then ((go (.l0 a_10 x_11 (IntKind.wrap .i64 (x_12 + (1 : Int)))))) else (some (false))) else (some (true))
theorem roadref4_Word.l0_k.mono : MonoF (β := fun _ => (Bool)) roadref4_Word.l0_k.body := fun f g hfg p => match p with
 | .l0 a_10 x_11 x_12 => LeO.ite (LeO.bind (LeO.refl _) fun y1 => LeO.bind (LeO.refl _) fun y13 => LeO.ite ((hfg _)) (LeO.refl _)) (LeO.refl _)
noncomputable def roadref4_Word.l0_k.go (p : roadref4_Word.l0_k.Pt) : Option (Bool) := fixF (β := fun _ => (Bool)) roadref4_Word.l0_k.body p
noncomputable def roadref4_Word.l0 (a_10 x_11 x_12) := roadref4_Word.l0_k.go (.l0 a_10 x_11 x_12)
theorem roadref4_Word.l0_eq (a_10 x_11 x_12) : roadref4_Word.l0 a_10 x_11 x_12 = if x_12 < x_11 then (Option.bind (gi a_10 x_12) fun y1 => Option.bind (strings_Contains (ByteArray.mk #[97, 98, 99, 100, 101, 102, 103, 104, 105, 106, 107, 108, 109, 110, 111, 112, 113, 114, 115, 116, 117, 118, 119, 120, 121, 122, 48, 49, 50, 51, 52, 53, 54, 55, 56, 57]) (bytesOf ([y1] : List Int))) fun y13 => if y13 = true then ((roadref4_Word.l0 a_10 x_11 (IntKind.wrap .i64 (x_12 + (1 : Int))))) else (some (false))) else (some (true)) := fixF_eq roadref4_Word.l0_k.mono _
def roadref4_Word.l0_k.I : (p : roadref4_Word.l0_k.Pt) → (Bool) → Prop
 | .l0 a_10 x_11 x_12, r => ∀ {W h0 m0 h m A_10 n_10 c_10} (O : Hold W h0 m0 h m []) (ne_10 : n_10 = List.length a_10) (k_10 : List.length a_10 ≤ c_10) (r_10 : Rd 1 (eInt .u8) m A_10 a_10), f11.l0 (roadref4_Word.post W h0 m0 r) A_10 n_10 c_10 x_11 x_12 h
theorem roadref4_Word.l0_k.step_l0 (go : (p : roadref4_Word.l0_k.Pt) → Option (Bool)) (ih : ∀ p r, go p = some r → roadref4_Word.l0_k.I p r) (a_10 x_11 x_12) (r) (e : roadref4_Word.l0_k.body go (.l0 a_10 x_11 x_12) = some r) : roadref4_Word.l0_k.I (.l0 a_10 x_11 x_12) r := by
 unfold roadref4_Word.l0_k.body at e
 intro W h0 m0 h m A_10 n_10 c_10 O ne_10 k_10 r_10
 subst ne_10
 refine f11.l0_in ?_
 unfold f11.l0T
 refine split_dec_e e (fun c21 e => ?_) (fun c21 e => ?_)
 · obtain ⟨y1, g2, e⟩ := bind_e e
   refine r_10.addr rfl g2 fun a3 cs4 ha5 hc6 he7 => ?_
   obtain rfl : cs4 = [(Value.int .u8 y1)] := he7
   refine ⟨_, ld0 O.s hc6 rfl, _, rfl, ?_⟩
   refine O.new fun h8 x9 O10 => ?_
   have O12 := O10.rowE (l := ([y1] : List Int)) 0 rfl (tell_int .u8) (show CsE _ _ _ _ _ from (CsE.cons (c1 := [(Value.int .u8 y1)]) rfl rfl CsE.nil)) rfl
   refine gen_b2s' (e := 5) (by kernel_rfl) (by kernel_rfl) (by kernel_rfl) ((O12.os 0 rfl).rd (tell_int .u8) O12.s) rfl ?_
   refine ⟨_, rfl, ?_⟩
   obtain ⟨y13, g14, e⟩ := bind_e e
   refine (strings_Contains.walk (Hold.start (W := No) O12.s)  g14).mono ?_
   rintro _ h15 ⟨m16, Q17, rfl⟩
   have O19 := Hold.nm (O12.retC Q17 vfs_nil)
   refine ⟨_, rfl, ?_⟩
   refine split_not ?_
   refine split_any_e e (fun c20 e => ?_) (fun c20 e => ?_)
   · exact (ih _ _ e) (O19.pick []).nm rfl k_10 r_10
   · cases e
     exact ⟨_, O19.pick [], rfl⟩
 · cases e
   exact ⟨_, O.pick [], rfl⟩
theorem roadref4_Word.l0_k.all {p : roadref4_Word.l0_k.Pt} {r : (Bool)} (e : roadref4_Word.l0_k.go p = some r) : roadref4_Word.l0_k.I p r := fixF_ind (β := fun _ => (Bool)) roadref4_Word.l0_k.mono (I := roadref4_Word.l0_k.I) (fun go ih p r e => match p with
 | .l0 a_10 x_11 x_12 => roadref4_Word.l0_k.step_l0 go ih a_10 x_11 x_12 r e
 ) e
noncomputable def roadref4_Word (s_0 : ByteArray) : Option (Bool) :=
 Option.bind (roadref4_within ((ByteArray.size s_0 : Nat) : Int) (1 : Int) (16 : Int)) fun y1 => if y1 = true then ((roadref4_Word.l0 (bytesI s_0) (((List.length (bytesI s_0)) : Nat) : Int) (0 : Int))) else (some (false))
theorem roadref4_Word.walk {W h m s_0} (O : Hold W h m h m []) {r} (e : roadref4_Word s_0 = some r) : Run Tryd.prog 11 #[Value.string s_0] h (roadref4_Word.post W h m r) := by
 unfold roadref4_Word at e
 refine f11.run ?_
 unfold f11.runT
 obtain ⟨y1, g2, e⟩ := bind_e e
 refine (roadref4_within.walk (Hold.start (W := No) O.s)  g2).mono ?_
 rintro _ h3 ⟨m4, Q5, rfl⟩
 have O7 := Hold.nm (O.retC Q5 vfs_nil)
 refine ⟨_, rfl, ?_⟩
 refine split_not ?_
 refine split_any_e e (fun c18 e => ?_) (fun c18 e => ?_)
 · refine O7.s2b (u := .string) (e := 5) (by kernel_rfl) (by kernel_rfl) (by kernel_rfl) fun h8 m9 A10 c11 x12 u13 r14 k15 O16 => ?_
   refine ⟨_, _, _, rfl, ?_⟩
   have O17 := O16.nm
   exact (roadref4_Word.l0_k.all e) (O17.pick []).nm rfl k15 r14
 · cases e
   exact ⟨_, O7.pick [], rfl⟩
def roadlaw4_pick_12.post (W : Nat → Prop) (h0 m0 : Heap) (r : (List T_names_Row)) (v : Value) (h : Heap) : Prop := ∃ m A0 n0 c0, Hold W h0 m0 h m [] ∧ v = .slice A0 n0 c0 ∧ n0 = List.length r ∧ List.length r ≤ c0 ∧ Rd 4 T_names_Row.E m A0 r
noncomputable def roadlaw4_pick_12 (a_0 : List (List T_names_Row)) (x_1 : Int) : Option ((List T_names_Row)) :=
 if (((List.length a_0) : Nat) : Int) = (0 : Int) then (some (([] : List T_names_Row))) else (if (IntKind.wrap .u64 (((List.length a_0) : Nat) : Int)) ≠ 0 then (Option.bind (gi a_0 (IntKind.wrap .i64 (Int.tmod (IntKind.wrap .u64 x_1) (IntKind.wrap .u64 (((List.length a_0) : Nat) : Int))))) fun y2 => some (y2)) else none)
theorem roadlaw4_pick_12.walk {W h m A_0 n_0 c_0 a_0 x_1} (O : Hold W h m h m []) (ne_0 : n_0 = List.length a_0) (k_0 : List.length a_0 ≤ c_0) (r_0 : Rd 1 (eRow 4 T_names_Row.E) m A_0 a_0) {r} (e : roadlaw4_pick_12 a_0 x_1 = some r) : Run Tryd.prog 12 #[Value.slice A_0 n_0 c_0, Value.int .i64 x_1] h (roadlaw4_pick_12.post W h m r) := by
 unfold roadlaw4_pick_12 at e
 subst ne_0
 refine f12.run ?_
 unfold f12.runT
 refine split_eq_e e (fun c9 e => ?_) (fun c9 e => ?_)
 · cases e
   exact ⟨_, _, _, _, O.pick [], rfl, rfl, (by exact Nat.le_refl 0), Rd.nil⟩
 · obtain ⟨g1, e⟩ := guard_e e
   refine ⟨g1, ?_⟩
   obtain ⟨y2, g3, e⟩ := bind_e e
   refine r_0.addr rfl g3 fun a4 cs5 ha6 hc7 he8 => ?_
   obtain ⟨Acs5_0, ccs5_0, rfl, kcs5_0, rcs5_0⟩ := id he8
   refine ⟨_, ld0 O.s hc7 rfl, _, _, _, rfl, ?_⟩
   cases e
   exact ⟨_, _, _, _, O.pick [], rfl, rfl, kcs5_0, rcs5_0⟩
def names_check.post (W : Nat → Prop) (h0 m0 : Heap) (r : Int) (v : Value) (h : Heap) : Prop := ∃ m , Hold W h0 m0 h m [] ∧ v = .int .i64 r
inductive names_check.l0_k.Pt where
 | l0 (a_0 : List T_names_Row) (a_8 : List T_names_Row) (x_9 : Int) (x_10 : Int)
 | j0 (a_0 : List T_names_Row) (x_3 : Int) (y_4 : T_names_Row) (a_8 : List T_names_Row) (x_9 : Int) (x_10 : Int)
noncomputable def names_check.l0_k.body (go : (p : names_check.l0_k.Pt) → Option (Int)) : (p : names_check.l0_k.Pt) → Option (Int)
 | .l0 a_0 a_8 x_9 x_10 => if x_10 < x_9 then (Option.bind (gi a_8 x_10) fun y1 => Option.bind (names_word y1.Name) fun y14 => if y14 = true then (if y1.Ref < (0 : Int) then (some ((1 : Int))) else (if y1.Count < (1 : Int) then (some ((1 : Int))) else (if y1.Count > (1099511627776 : Int) then (some ((1 : Int))) else (if y1.Node < (1 : Int) then (some ((1 : Int))) else (if y1.Node > (8 : Int) then (some ((1 : Int))) else ((go (.j0 a_0 x_10 y1 a_8 x_9 x_10)))))))) else (some ((3 : Int)))) else (some ((0 : Int)))
 | .j0 a_0 x_3 y_4 a_8 x_9 x_10 => if x_3 > (0 : Int) then (Option.bind (gi a_0 (IntKind.wrap .i64 (x_3 - (1 : Int)))) fun y1 => if (Op.bytesLess (ByteArray.toList y1.Name) (ByteArray.toList y_4.Name)) = true then ((go (.l0 a_0 a_8 x_9 (IntKind.wrap .i64 (x_10 + (1 : Int)))))) else (some ((21 : Int)))) else ((go (.l0 a_0 a_8 x_9 (IntKind.wrap .i64 (x_10 + (1 : Int))))))
theorem names_check.l0_k.mono : MonoF (β := fun _ => (Int)) names_check.l0_k.body := fun f g hfg p => match p with
 | .l0 a_0 a_8 x_9 x_10 => LeO.ite (LeO.bind (LeO.refl _) fun y1 => LeO.bind (LeO.refl _) fun y14 => LeO.ite (LeO.ite (LeO.refl _) (LeO.ite (LeO.refl _) (LeO.ite (LeO.refl _) (LeO.ite (LeO.refl _) (LeO.ite (LeO.refl _) ((hfg _))))))) (LeO.refl _)) (LeO.refl _)
 | .j0 a_0 x_3 y_4 a_8 x_9 x_10 => LeO.ite (LeO.bind (LeO.refl _) fun y1 => LeO.ite ((hfg _)) (LeO.refl _)) ((hfg _))
noncomputable def names_check.l0_k.go (p : names_check.l0_k.Pt) : Option (Int) := fixF (β := fun _ => (Int)) names_check.l0_k.body p
noncomputable def names_check.l0 (a_0 a_8 x_9 x_10) := names_check.l0_k.go (.l0 a_0 a_8 x_9 x_10)
noncomputable def names_check.j0 (a_0 x_3 y_4 a_8 x_9 x_10) := names_check.l0_k.go (.j0 a_0 x_3 y_4 a_8 x_9 x_10)
theorem names_check.l0_eq (a_0 a_8 x_9 x_10) : names_check.l0 a_0 a_8 x_9 x_10 = if x_10 < x_9 then (Option.bind (gi a_8 x_10) fun y1 => Option.bind (names_word y1.Name) fun y14 => if y14 = true then (if y1.Ref < (0 : Int) then (some ((1 : Int))) else (if y1.Count < (1 : Int) then (some ((1 : Int))) else (if y1.Count > (1099511627776 : Int) then (some ((1 : Int))) else (if y1.Node < (1 : Int) then (some ((1 : Int))) else (if y1.Node > (8 : Int) then (some ((1 : Int))) else ((names_check.j0 a_0 x_10 y1 a_8 x_9 x_10))))))) else (some ((3 : Int)))) else (some ((0 : Int))) := fixF_eq names_check.l0_k.mono _
theorem names_check.j0_eq (a_0 x_3 y_4 a_8 x_9 x_10) : names_check.j0 a_0 x_3 y_4 a_8 x_9 x_10 = if x_3 > (0 : Int) then (Option.bind (gi a_0 (IntKind.wrap .i64 (x_3 - (1 : Int)))) fun y1 => if (Op.bytesLess (ByteArray.toList y1.Name) (ByteArray.toList y_4.Name)) = true then ((names_check.l0 a_0 a_8 x_9 (IntKind.wrap .i64 (x_10 + (1 : Int))))) else (some ((21 : Int)))) else ((names_check.l0 a_0 a_8 x_9 (IntKind.wrap .i64 (x_10 + (1 : Int))))) := fixF_eq names_check.l0_k.mono _
def names_check.l0_k.I : (p : names_check.l0_k.Pt) → (Int) → Prop
 | .l0 a_0 a_8 x_9 x_10, r => ∀ {W h0 m0 h m A_0 n_0 c_0 A_8 n_8 c_8} (O : Hold W h0 m0 h m []) (ne_0 : n_0 = List.length a_0) (k_0 : List.length a_0 ≤ c_0) (r_0 : Rd 4 T_names_Row.E m A_0 a_0) (ne_8 : n_8 = List.length a_8) (k_8 : List.length a_8 ≤ c_8) (r_8 : Rd 4 T_names_Row.E m A_8 a_8), f22.l0 (names_check.post W h0 m0 r) A_0 n_0 c_0 A_8 n_8 c_8 x_9 x_10 h
 | .j0 a_0 x_3 y_4 a_8 x_9 x_10, r => ∀ {W h0 m0 h m A_0 n_0 c_0 bk_4 cs_4 A_8 n_8 c_8} (O : Hold W h0 m0 h m [rV bk_4 33 cs_4]) (ne_0 : n_0 = List.length a_0) (k_0 : List.length a_0 ≤ c_0) (r_0 : Rd 4 T_names_Row.E m A_0 a_0) (e_4 : T_names_Row.E m y_4 cs_4) (ne_8 : n_8 = List.length a_8) (k_8 : List.length a_8 ≤ c_8) (r_8 : Rd 4 T_names_Row.E m A_8 a_8), f22.j0 (names_check.post W h0 m0 r) A_0 n_0 c_0 x_3 (⟨bk_4, 0, none⟩ : Addr) A_8 n_8 c_8 x_9 x_10 h
set_option maxHeartbeats 4000000 in
theorem names_check.l0_k.step_l0 (go : (p : names_check.l0_k.Pt) → Option (Int)) (ih : ∀ p r, go p = some r → names_check.l0_k.I p r) (a_0 a_8 x_9 x_10) (r) (e : names_check.l0_k.body go (.l0 a_0 a_8 x_9 x_10) = some r) : names_check.l0_k.I (.l0 a_0 a_8 x_9 x_10) r := by
 unfold names_check.l0_k.body at e
 intro W h0 m0 h m A_0 n_0 c_0 A_8 n_8 c_8 O ne_0 k_0 r_0 ne_8 k_8 r_8
 subst ne_0
 subst ne_8
 refine f22.l0_in ?_
 unfold f22.l0T
 refine split_dec_e e (fun c27 e => ?_) (fun c27 e => ?_)
 · obtain ⟨y1, g2, e⟩ := bind_e e
   refine r_8.addr rfl g2 fun a3 cs4 ha5 hc6 he7 => ?_
   refine ⟨_, ldAn O.s hc6 rfl, ?_⟩
   refine O.new fun h8 x9 O10 => ?_
   refine ⟨_, rfl, (T_names_Row.T.len _ _ _ he7), ?_⟩
   refine O10.stA 0 rfl (T_names_Row.T.len _ _ _ he7) (T_names_Row.T.flat _ _ _ he7) fun h12 O13 => ?_
   refine ⟨_, ld0 (Sub.refl _) (O13.all 0 rfl) (T_names_Row.g0 he7), _, rfl, ?_⟩
   obtain ⟨y14, g15, e⟩ := bind_e e
   refine (names_word.walk (Hold.start (W := No) O13.s)  g15).mono ?_
   rintro _ h16 ⟨m17, Q18, rfl⟩
   have O20 := Hold.nm (O13.retC Q18 vfs_nil)
   refine ⟨_, rfl, ?_⟩
   refine split_not ?_
   refine split_any_e e (fun c26 e => ?_) (fun c26 e => ?_)
   · refine ⟨_, ldk (k := 1) (Sub.refl _) (O20.all 0 rfl) (T_names_Row.g1 he7), _, rfl, ?_⟩
     refine split_dec_e e (fun c25 e => ?_) (fun c25 e => ?_)
     · cases e
       exact ⟨_, O20.pick [], rfl⟩
     · refine ⟨_, ldk (k := 2) (Sub.refl _) (O20.all 0 rfl) (T_names_Row.g2 he7), _, rfl, ?_⟩
       refine split_dec_e e (fun c24 e => ?_) (fun c24 e => ?_)
       · cases e
         exact ⟨_, O20.pick [], rfl⟩
       · refine ⟨_, ldk (k := 2) (Sub.refl _) (O20.all 0 rfl) (T_names_Row.g2 he7), _, rfl, ?_⟩
         refine split_dec_e e (fun c23 e => ?_) (fun c23 e => ?_)
         · cases e
           exact ⟨_, O20.pick [], rfl⟩
         · refine ⟨_, ldk (k := 3) (Sub.refl _) (O20.all 0 rfl) (T_names_Row.g3 he7), _, rfl, ?_⟩
           refine split_dec_e e (fun c22 e => ?_) (fun c22 e => ?_)
           · cases e
             exact ⟨_, O20.pick [], rfl⟩
           · refine ⟨_, ldk (k := 3) (Sub.refl _) (O20.all 0 rfl) (T_names_Row.g3 he7), _, rfl, ?_⟩
             refine split_dec_e e (fun c21 e => ?_) (fun c21 e => ?_)
             · cases e
               exact ⟨_, O20.pick [], rfl⟩
             · exact (ih _ _ e) (O20.pick [0]).nm rfl k_0 r_0 he7 rfl k_8 r_8
   · cases e
     exact ⟨_, O20.pick [], rfl⟩
 · cases e
   exact ⟨_, O.pick [], rfl⟩
theorem names_check.l0_k.step_j0 (go : (p : names_check.l0_k.Pt) → Option (Int)) (ih : ∀ p r, go p = some r → names_check.l0_k.I p r) (a_0 x_3 y_4 a_8 x_9 x_10) (r) (e : names_check.l0_k.body go (.j0 a_0 x_3 y_4 a_8 x_9 x_10) = some r) : names_check.l0_k.I (.j0 a_0 x_3 y_4 a_8 x_9 x_10) r := by
 unfold names_check.l0_k.body at e
 intro W h0 m0 h m A_0 n_0 c_0 bk_4 cs_4 A_8 n_8 c_8 O ne_0 k_0 r_0 e_4 ne_8 k_8 r_8
 subst ne_0
 subst ne_8
 refine f22.j0_in ?_
 unfold f22.j0T
 refine split_dec_e e (fun c9 e => ?_) (fun c9 e => ?_)
 · obtain ⟨y1, g2, e⟩ := bind_e e
   refine r_0.addr rfl g2 fun a3 cs4 ha5 hc6 he7 => ?_
   refine ⟨_, ld0 O.s hc6 (T_names_Row.g0 he7), _, rfl, ?_⟩
   refine ⟨_, ld0 (Sub.refl _) (O.all 0 rfl) (T_names_Row.g0 e_4), _, rfl, ?_⟩
   refine split_not ?_
   refine split_any_e e (fun c8 e => ?_) (fun c8 e => ?_)
   · exact (ih _ _ e) (O.pick []).nm rfl k_0 r_0 rfl k_8 r_8
   · cases e
     exact ⟨_, O.pick [], rfl⟩
 · exact (ih _ _ e) (O.pick []).nm rfl k_0 r_0 rfl k_8 r_8
theorem names_check.l0_k.all {p : names_check.l0_k.Pt} {r : (Int)} (e : names_check.l0_k.go p = some r) : names_check.l0_k.I p r := fixF_ind (β := fun _ => (Int)) names_check.l0_k.mono (I := names_check.l0_k.I) (fun go ih p r e => match p with
 | .l0 a_0 a_8 x_9 x_10 => names_check.l0_k.step_l0 go ih a_0 a_8 x_9 x_10 r e
 | .j0 a_0 x_3 y_4 a_8 x_9 x_10 => names_check.l0_k.step_j0 go ih a_0 x_3 y_4 a_8 x_9 x_10 r e
 ) e
noncomputable def names_check (a_0 : List T_names_Row) : Option (Int) :=
 if (((List.length a_0) : Nat) : Int) > (60 : Int) then (some ((2 : Int))) else ((names_check.l0 a_0 a_0 (((List.length a_0) : Nat) : Int) (0 : Int)))
theorem names_check.walk {W h m A_0 n_0 c_0 a_0} (O : Hold W h m h m []) (ne_0 : n_0 = List.length a_0) (k_0 : List.length a_0 ≤ c_0) (r_0 : Rd 4 T_names_Row.E m A_0 a_0) {r} (e : names_check a_0 = some r) : Run Tryd.prog 22 #[Value.slice A_0 n_0 c_0] h (names_check.post W h m r) := by
 unfold names_check at e
 subst ne_0
 refine f22.run ?_
 unfold f22.runT
 refine split_dec_e e (fun c1 e => ?_) (fun c1 e => ?_)
 · cases e
   exact ⟨_, O.pick [], rfl⟩
 · exact (names_check.l0_k.all e) (O.pick []).nm rfl k_0 r_0 rfl k_0 r_0
def names_Names_Merge_1.post (W : Nat → Prop) (h0 m0 : Heap) (r : Int) (v : Value) (h : Heap) : Prop := ∃ m , Hold W h0 m0 h m [] ∧ v = .int .i64 r
noncomputable def names_Names_Merge_1 (y_0 : T_names_Row) (s_1 : ByteArray) : Option (Int) :=
 Option.bind (strings_Compare y_0.Name s_1) fun y5 => some (y5)
theorem names_Names_Merge_1.walk {W h m cs_0 y_0 s_1} (O : Hold W h m h m []) (e_0 : T_names_Row.E m y_0 cs_0) {r} (e : names_Names_Merge_1 y_0 s_1 = some r) : Run Tryd.prog 24 #[Value.agg cs_0.toArray, Value.string s_1] h (names_Names_Merge_1.post W h m r) := by
 unfold names_Names_Merge_1 at e
 refine f24.run ?_
 unfold f24.runT
 refine O.new fun h1 x2 O3 => ?_
 refine ⟨_, ld0 (Sub.refl _) (O3.all 0 rfl) (T_names_Row.g0 e_0), _, rfl, ?_⟩
 obtain ⟨y5, g6, e⟩ := bind_e e
 refine (strings_Compare.walk (Hold.start (W := No) O3.s)  g6).mono ?_
 rintro _ h7 ⟨m8, Q9, rfl⟩
 have O11 := Hold.nm (O3.retC Q9 vfs_nil)
 refine ⟨_, rfl, ?_⟩
 cases e
 exact ⟨_, O11.pick [], rfl⟩
def cmp_Or_38.post (W : Nat → Prop) (h0 m0 : Heap) (r : Int) (v : Value) (h : Heap) : Prop := ∃ m , Hold W h0 m0 h m [] ∧ v = .int .i64 r
inductive cmp_Or_38.l0_k.Pt where
 | l0 (x_3 : Int) (a_6 : List Int) (x_7 : Int) (x_8 : Int)
noncomputable def cmp_Or_38.l0_k.body (go : (p : cmp_Or_38.l0_k.Pt) → Option (Int)) : (p : cmp_Or_38.l0_k.Pt) → Option (Int)
 | .l0 x_3 a_6 x_7 x_8 => if x_8 < x_7 then (Option.bind (gi a_6 x_8) fun y1 => if y1 = x_3 then ((go (.l0 x_3 a_6 x_7 (IntKind.wrap .i64 (x_8 + (1 : Int)))))) else (some (y1))) else (some (x_3))
theorem cmp_Or_38.l0_k.mono : MonoF (β := fun _ => (Int)) cmp_Or_38.l0_k.body := fun f g hfg p => match p with
 | .l0 x_3 a_6 x_7 x_8 => LeO.ite (LeO.bind (LeO.refl _) fun y1 => LeO.ite ((hfg _)) (LeO.refl _)) (LeO.refl _)
noncomputable def cmp_Or_38.l0_k.go (p : cmp_Or_38.l0_k.Pt) : Option (Int) := fixF (β := fun _ => (Int)) cmp_Or_38.l0_k.body p
noncomputable def cmp_Or_38.l0 (x_3 a_6 x_7 x_8) := cmp_Or_38.l0_k.go (.l0 x_3 a_6 x_7 x_8)
theorem cmp_Or_38.l0_eq (x_3 a_6 x_7 x_8) : cmp_Or_38.l0 x_3 a_6 x_7 x_8 = if x_8 < x_7 then (Option.bind (gi a_6 x_8) fun y1 => if y1 = x_3 then ((cmp_Or_38.l0 x_3 a_6 x_7 (IntKind.wrap .i64 (x_8 + (1 : Int))))) else (some (y1))) else (some (x_3)) := fixF_eq cmp_Or_38.l0_k.mono _
def cmp_Or_38.l0_k.I : (p : cmp_Or_38.l0_k.Pt) → (Int) → Prop
 | .l0 x_3 a_6 x_7 x_8, r => ∀ {W h0 m0 h m A_6 n_6 c_6} (O : Hold W h0 m0 h m []) (ne_6 : n_6 = List.length a_6) (k_6 : List.length a_6 ≤ c_6) (r_6 : Rd 1 (eInt .i64) m A_6 a_6), f38.l0 (cmp_Or_38.post W h0 m0 r) x_3 A_6 n_6 c_6 x_7 x_8 h
theorem cmp_Or_38.l0_k.step_l0 (go : (p : cmp_Or_38.l0_k.Pt) → Option (Int)) (ih : ∀ p r, go p = some r → cmp_Or_38.l0_k.I p r) (x_3 a_6 x_7 x_8) (r) (e : cmp_Or_38.l0_k.body go (.l0 x_3 a_6 x_7 x_8) = some r) : cmp_Or_38.l0_k.I (.l0 x_3 a_6 x_7 x_8) r := by
 unfold cmp_Or_38.l0_k.body at e
 intro W h0 m0 h m A_6 n_6 c_6 O ne_6 k_6 r_6
 subst ne_6
 refine f38.l0_in ?_
 unfold f38.l0T
 refine split_dec_e e (fun c9 e => ?_) (fun c9 e => ?_)
 · obtain ⟨y1, g2, e⟩ := bind_e e
   refine r_6.addr rfl g2 fun a3 cs4 ha5 hc6 he7 => ?_
   obtain rfl : cs4 = [(Value.int .i64 y1)] := he7
   refine ⟨_, ld0 O.s hc6 rfl, _, rfl, ?_⟩
   refine split_ne_e e (fun c8 e => ?_) (fun c8 e => ?_)
   · cases e
     exact ⟨_, O.pick [], rfl⟩
   · exact (ih _ _ e) (O.pick []).nm rfl k_6 r_6
 · cases e
   exact ⟨_, O.pick [], rfl⟩
theorem cmp_Or_38.l0_k.all {p : cmp_Or_38.l0_k.Pt} {r : (Int)} (e : cmp_Or_38.l0_k.go p = some r) : cmp_Or_38.l0_k.I p r := fixF_ind (β := fun _ => (Int)) cmp_Or_38.l0_k.mono (I := cmp_Or_38.l0_k.I) (fun go ih p r e => match p with
 | .l0 x_3 a_6 x_7 x_8 => cmp_Or_38.l0_k.step_l0 go ih x_3 a_6 x_7 x_8 r e
 ) e
noncomputable def cmp_Or_38 (a_0 : List Int) : Option (Int) :=
 (cmp_Or_38.l0 (0 : Int) a_0 (((List.length a_0) : Nat) : Int) (0 : Int))
theorem cmp_Or_38.walk {W h m A_0 n_0 c_0 a_0} (O : Hold W h m h m []) (ne_0 : n_0 = List.length a_0) (k_0 : List.length a_0 ≤ c_0) (r_0 : Rd 1 (eInt .i64) m A_0 a_0) {r} (e : cmp_Or_38 a_0 = some r) : Run Tryd.prog 38 #[Value.slice A_0 n_0 c_0] h (cmp_Or_38.post W h m r) := by
 unfold cmp_Or_38 at e
 subst ne_0
 refine f38.run ?_
 unfold f38.runT
 exact (cmp_Or_38.l0_k.all e) (O.pick []).nm rfl k_0 r_0
def cmp_isNaN_52.post (W : Nat → Prop) (h0 m0 : Heap) (r : Bool) (v : Value) (h : Heap) : Prop := ∃ m , Hold W h0 m0 h m [] ∧ v = .bool r
noncomputable def cmp_isNaN_52 (x_0 : Int) : Option (Bool) :=
 some ((x_0 != x_0))
theorem cmp_isNaN_52.walk {W h m x_0} (O : Hold W h m h m []) {r} (e : cmp_isNaN_52 x_0 = some r) : Run Tryd.prog 52 #[Value.int .i64 x_0] h (cmp_isNaN_52.post W h m r) := by
 unfold cmp_isNaN_52 at e
 refine f52.run ?_
 unfold f52.runT
 cases e
 exact ⟨_, O.pick [], rfl⟩
def cmp_Compare_39.post (W : Nat → Prop) (h0 m0 : Heap) (r : Int) (v : Value) (h : Heap) : Prop := ∃ m , Hold W h0 m0 h m [] ∧ v = .int .i64 r
noncomputable def cmp_Compare_39 (x_0 : Int) (x_1 : Int) : Option (Int) :=
 Option.bind (cmp_isNaN_52 x_0) fun y1 => Option.bind (cmp_isNaN_52 x_1) fun y8 => if y1 = true then (if y8 = true then (some ((0 : Int))) else (some ((-1 : Int)))) else (if y8 = true then (some ((1 : Int))) else (if x_0 < x_1 then (some ((-1 : Int))) else (if x_0 > x_1 then (some ((1 : Int))) else (some ((0 : Int))))))
theorem cmp_Compare_39.walk {W h m x_0 x_1} (O : Hold W h m h m []) {r} (e : cmp_Compare_39 x_0 x_1 = some r) : Run Tryd.prog 39 #[Value.int .i64 x_0, Value.int .i64 x_1] h (cmp_Compare_39.post W h m r) := by
 unfold cmp_Compare_39 at e
 refine f39.run ?_
 unfold f39.runT
 obtain ⟨y1, g2, e⟩ := bind_e e
 refine (cmp_isNaN_52.walk (Hold.start (W := No) O.s)  g2).mono ?_
 rintro _ h3 ⟨m4, Q5, rfl⟩
 have O7 := Hold.nm (O.retC Q5 vfs_nil)
 refine ⟨_, rfl, ?_⟩
 obtain ⟨y8, g9, e⟩ := bind_e e
 refine (cmp_isNaN_52.walk (Hold.start (W := No) O7.s)  g9).mono ?_
 rintro _ h10 ⟨m11, Q12, rfl⟩
 have O14 := Hold.nm (O7.retC Q12 vfs_nil)
 refine ⟨_, rfl, ?_⟩
 refine split_any_e e (fun c19 e => ?_) (fun c19 e => ?_)
 · refine split_any_e e (fun c15 e => ?_) (fun c15 e => ?_)
   · cases e
     exact ⟨_, O14.pick [], rfl⟩
   · cases e
     exact ⟨_, O14.pick [], rfl⟩
 · refine split_any_e e (fun c18 e => ?_) (fun c18 e => ?_)
   · cases e
     exact ⟨_, O14.pick [], rfl⟩
   · refine split_dec_e e (fun c17 e => ?_) (fun c17 e => ?_)
     · cases e
       exact ⟨_, O14.pick [], rfl⟩
     · refine split_dec_e e (fun c16 e => ?_) (fun c16 e => ?_)
       · cases e
         exact ⟨_, O14.pick [], rfl⟩
       · cases e
         exact ⟨_, O14.pick [], rfl⟩
def names_order.post (W : Nat → Prop) (h0 m0 : Heap) (r : Int) (v : Value) (h : Heap) : Prop := ∃ m , Hold W h0 m0 h m [] ∧ v = .int .i64 r
noncomputable def names_order (y_0 : T_names_Row) (y_1 : T_names_Row) : Option (Int) :=
 Option.bind (cmp_Compare_39 y_0.Count y_1.Count) fun y9 => Option.bind (cmp_Compare_39 y_0.Node y_1.Node) fun y16 => Option.bind (cmp_Compare_39 y_0.Ref y_1.Ref) fun y23 => Option.bind (cmp_Or_38 ([y9, y16, y23] : List Int)) fun y35 => some (y35)
set_option maxHeartbeats 4000000 in
theorem names_order.walk {W h m cs_0 cs_1 y_0 y_1} (O : Hold W h m h m []) (e_0 : T_names_Row.E m y_0 cs_0) (e_1 : T_names_Row.E m y_1 cs_1) {r} (e : names_order y_0 y_1 = some r) : Run Tryd.prog 27 #[Value.agg cs_0.toArray, Value.agg cs_1.toArray] h (names_order.post W h m r) := by
 unfold names_order at e
 refine f27.run ?_
 unfold f27.runT
 refine O.new fun h1 x2 O3 => ?_
 refine O3.new fun h5 x6 O7 => ?_
 refine ⟨_, ldk (k := 2) (Sub.refl _) (O7.all 0 rfl) (T_names_Row.g2 e_0), _, rfl, ?_⟩
 refine ⟨_, ldk (k := 2) (Sub.refl _) (O7.all 1 rfl) (T_names_Row.g2 e_1), _, rfl, ?_⟩
 refine ⟨_, ldk (k := 3) (Sub.refl _) (O7.all 0 rfl) (T_names_Row.g3 e_0), _, rfl, ?_⟩
 refine ⟨_, ldk (k := 3) (Sub.refl _) (O7.all 1 rfl) (T_names_Row.g3 e_1), _, rfl, ?_⟩
 refine ⟨_, ldk (k := 1) (Sub.refl _) (O7.all 0 rfl) (T_names_Row.g1 e_0), _, rfl, ?_⟩
 refine ⟨_, ldk (k := 1) (Sub.refl _) (O7.all 1 rfl) (T_names_Row.g1 e_1), _, rfl, ?_⟩
 obtain ⟨y9, g10, e⟩ := bind_e e
 refine (cmp_Compare_39.walk (Hold.start (W := No) O7.s)  g10).mono ?_
 rintro _ h11 ⟨m12, Q13, rfl⟩
 have O15 := Hold.nm (O7.retC Q13 vfs_nil)
 refine ⟨_, rfl, ?_⟩
 refine ⟨Q13.S.ext, ?_⟩
 obtain ⟨y16, g17, e⟩ := bind_e e
 refine (cmp_Compare_39.walk (Hold.start (W := No) O15.s)  g17).mono ?_
 rintro _ h18 ⟨m19, Q20, rfl⟩
 have O22 := Hold.nm (O15.retC Q20 vfs_nil)
 refine ⟨_, rfl, ?_⟩
 refine ⟨(Q13.S.ext.trans Q20.S.ext), ?_⟩
 obtain ⟨y23, g24, e⟩ := bind_e e
 refine (cmp_Compare_39.walk (Hold.start (W := No) O22.s)  g24).mono ?_
 rintro _ h25 ⟨m26, Q27, rfl⟩
 have O29 := Hold.nm (O22.retC Q27 vfs_nil)
 refine ⟨_, rfl, ?_⟩
 refine O29.new fun h30 x31 O32 => ?_
 obtain ⟨y35, g36, e⟩ := bind_e e
 have O34 := O32.rowE (l := ([y9, y16, y23] : List Int)) 2 rfl (tell_int .i64) (show CsE _ _ _ _ _ from (CsE.cons (c1 := [(Value.int .i64 y9)]) rfl rfl (CsE.cons (c1 := [(Value.int .i64 y16)]) rfl rfl (CsE.cons (c1 := [(Value.int .i64 y23)]) rfl rfl CsE.nil)))) rfl
 have O41 := O34.nm
 obtain ⟨m42, u43, s48, ⟨⟨r46, k47⟩, _⟩, B44, C45⟩ := O41.lend0 [2]
 replace r46 : Rd 1 (eInt .i64) m42 (some ⟨(Array.size h25), 0, none⟩) ([y9, y16, y23] : List Int) := r46
 replace k47 : List.length ([y9, y16, y23] : List Int) ≤ 3 := k47
 refine (cmp_Or_38.walk (Hold.start (W := No) s48) rfl k47 r46 g36).mono ?_
 rintro _ h37 ⟨m38, Q39, rfl⟩
 have O49 := Hold.nm (C45 Q39 vfs_nil)
 refine ⟨_, rfl, ?_⟩
 cases e
 exact ⟨_, O49.pick [], rfl⟩
def names_Names_Merge.post (W : Nat → Prop) (bkio0 : Nat) (h0 m0 : Heap) (r : Int × T_names_Names) (v : Value) (h : Heap) : Prop := ∃ m Aio0_2 nio0_2 cio0_2, Hold W h0 m0 h m [rV bkio0 53 [(Value.int .i64 r.2.node_), (Value.int .i64 r.2.count_), (Value.slice Aio0_2 nio0_2 cio0_2)], rR (aE T_names_Row.T) Aio0_2 cio0_2 r.2.rows_] ∧ v = .int .i64 r.1 ∧ nio0_2 = List.length r.2.rows_
inductive names_Names_Merge.l0_k.Pt where
 | l0 (x_io0_0 : Int) (x_io0_1 : Int) (a_io0_2 : (List T_names_Row)) (a_6 : List T_names_Row) (x_7 : Int) (a_26 : List T_names_Row) (x_27 : Int) (x_28 : Int)
noncomputable def names_Names_Merge.l0_k.body (go : (p : names_Names_Merge.l0_k.Pt) → Option (Int × T_names_Names)) : (p : names_Names_Merge.l0_k.Pt) → Option (Int × T_names_Names)
 | .l0 x_io0_0 x_io0_1 a_io0_2 a_6 x_7 a_26 x_27 x_28 => if x_28 < x_27 then (Option.bind (gi a_26 x_28) fun y1 => Option.bind (slices_BinarySearchFunc_23 a_6 y1.Name (fun z28 z29 => names_Names_Merge_1 z28 z29)) fun y14 => if y14.2 = true then (Option.bind (gi a_6 y14.1) fun y39 => Option.bind (names_order y39 y1) fun y46 => if y46 < (0 : Int) then (Option.bind (gi a_6 y14.1) fun y53 => Option.bind (some (List.set a_6 (Int.toNat y14.1) y1)) fun l62 => (go (.l0 x_io0_0 x_io0_1 a_io0_2 l62 (if y1.Count > x_7 then y1.Count else x_7) a_26 x_27 (IntKind.wrap .i64 (x_28 + (1 : Int)))))) else ((go (.l0 x_io0_0 x_io0_1 a_io0_2 a_6 (if y1.Count > x_7 then y1.Count else x_7) a_26 x_27 (IntKind.wrap .i64 (x_28 + (1 : Int))))))) else (Option.bind (slices_Insert_26 a_6 y14.1 ([y1] : List T_names_Row)) fun y72 => (go (.l0 x_io0_0 x_io0_1 a_io0_2 y72 (if y1.Count > x_7 then y1.Count else x_7) a_26 x_27 (IntKind.wrap .i64 (x_28 + (1 : Int))))))) else (if (((List.length a_6) : Nat) : Int) > (60 : Int) then (some ((6 : Int), (T_names_Names.mk x_io0_0 x_io0_1 a_io0_2))) else (some ((0 : Int), (T_names_Names.mk x_io0_0 x_7 a_6))))
attribute [local irreducible] names_order in
theorem names_Names_Merge.l0_k.mono : MonoF (β := fun _ => (Int × T_names_Names)) names_Names_Merge.l0_k.body := fun f g hfg p => match p with
 | .l0 x_io0_0 x_io0_1 a_io0_2 a_6 x_7 a_26 x_27 x_28 => LeO.ite (LeO.bind (LeO.refl _) fun y1 => LeO.bind (LeO.refl _) fun y14 => LeO.ite (LeO.bind (LeO.refl _) fun y39 => LeO.bind (LeO.refl _) fun y46 => LeO.ite (LeO.bind (LeO.refl _) fun y53 => LeO.bind (LeO.refl _) fun l62 => (hfg _)) ((hfg _))) (LeO.bind (LeO.refl _) fun y72 => (hfg _))) (LeO.ite (LeO.refl _) (LeO.refl _))
noncomputable def names_Names_Merge.l0_k.go (p : names_Names_Merge.l0_k.Pt) : Option (Int × T_names_Names) := fixF (β := fun _ => (Int × T_names_Names)) names_Names_Merge.l0_k.body p
noncomputable def names_Names_Merge.l0 (x_io0_0 x_io0_1 a_io0_2 a_6 x_7 a_26 x_27 x_28) := names_Names_Merge.l0_k.go (.l0 x_io0_0 x_io0_1 a_io0_2 a_6 x_7 a_26 x_27 x_28)
theorem names_Names_Merge.l0_eq (x_io0_0 x_io0_1 a_io0_2 a_6 x_7 a_26 x_27 x_28) : names_Names_Merge.l0 x_io0_0 x_io0_1 a_io0_2 a_6 x_7 a_26 x_27 x_28 = if x_28 < x_27 then (Option.bind (gi a_26 x_28) fun y1 => Option.bind (slices_BinarySearchFunc_23 a_6 y1.Name (fun z28 z29 => names_Names_Merge_1 z28 z29)) fun y14 => if y14.2 = true then (Option.bind (gi a_6 y14.1) fun y39 => Option.bind (names_order y39 y1) fun y46 => if y46 < (0 : Int) then (Option.bind (gi a_6 y14.1) fun y53 => Option.bind (some (List.set a_6 (Int.toNat y14.1) y1)) fun l62 => (names_Names_Merge.l0 x_io0_0 x_io0_1 a_io0_2 l62 (if y1.Count > x_7 then y1.Count else x_7) a_26 x_27 (IntKind.wrap .i64 (x_28 + (1 : Int))))) else ((names_Names_Merge.l0 x_io0_0 x_io0_1 a_io0_2 a_6 (if y1.Count > x_7 then y1.Count else x_7) a_26 x_27 (IntKind.wrap .i64 (x_28 + (1 : Int)))))) else (Option.bind (slices_Insert_26 a_6 y14.1 ([y1] : List T_names_Row)) fun y72 => (names_Names_Merge.l0 x_io0_0 x_io0_1 a_io0_2 y72 (if y1.Count > x_7 then y1.Count else x_7) a_26 x_27 (IntKind.wrap .i64 (x_28 + (1 : Int)))))) else (if (((List.length a_6) : Nat) : Int) > (60 : Int) then (some ((6 : Int), (T_names_Names.mk x_io0_0 x_io0_1 a_io0_2))) else (some ((0 : Int), (T_names_Names.mk x_io0_0 x_7 a_6)))) := fixF_eq names_Names_Merge.l0_k.mono _
def names_Names_Merge.l0_k.I : (p : names_Names_Merge.l0_k.Pt) → (Int × T_names_Names) → Prop
 | .l0 x_io0_0 x_io0_1 a_io0_2 a_6 x_7 a_26 x_27 x_28, r => ∀ {W h0 m0 h m bk_io0 A_io0_2_0 n_io0_2_0 c_io0_2_0 A_6 n_6 c_6 A_26 n_26 c_26} (O : Hold W h0 m0 h m [rV bk_io0 53 [(Value.int .i64 x_io0_0), (Value.int .i64 x_io0_1), (Value.slice A_io0_2_0 n_io0_2_0 c_io0_2_0)], rR (aE T_names_Row.T) A_io0_2_0 c_io0_2_0 a_io0_2, rR (aE T_names_Row.T) A_6 c_6 a_6]) (ne_io0_2_0 : n_io0_2_0 = List.length a_io0_2) (ne_6 : n_6 = List.length a_6) (ne_26 : n_26 = List.length a_26) (k_26 : List.length a_26 ≤ c_26) (r_26 : Rd 4 T_names_Row.E m A_26 a_26), f13.l0 (names_Names_Merge.post W bk_io0 h0 m0 r) (⟨bk_io0, 0, none⟩ : Addr) A_6 n_6 c_6 x_7 A_26 n_26 c_26 x_27 x_28 h
set_option maxHeartbeats 4000000 in
theorem names_Names_Merge.l0_k.step_l0 (go : (p : names_Names_Merge.l0_k.Pt) → Option (Int × T_names_Names)) (ih : ∀ p r, go p = some r → names_Names_Merge.l0_k.I p r) (x_io0_0 x_io0_1 a_io0_2 a_6 x_7 a_26 x_27 x_28) (r) (e : names_Names_Merge.l0_k.body go (.l0 x_io0_0 x_io0_1 a_io0_2 a_6 x_7 a_26 x_27 x_28) = some r) : names_Names_Merge.l0_k.I (.l0 x_io0_0 x_io0_1 a_io0_2 a_6 x_7 a_26 x_27 x_28) r := by
 unfold names_Names_Merge.l0_k.body at e
 intro W h0 m0 h m bk_io0 A_io0_2_0 n_io0_2_0 c_io0_2_0 A_6 n_6 c_6 A_26 n_26 c_26 O ne_io0_2_0 ne_6 ne_26 k_26 r_26
 subst ne_io0_2_0
 subst ne_6
 subst ne_26
 refine f13.l0_in ?_
 unfold f13.l0T
 refine split_dec_e e (fun c100 e => ?_) (fun c100 e => ?_)
 · obtain ⟨y1, g2, e⟩ := bind_e e
   refine r_26.addr rfl g2 fun a3 cs4 ha5 hc6 he7 => ?_
   refine ⟨_, ldAn O.s hc6 rfl, ?_⟩
   refine O.new fun h8 x9 O10 => ?_
   refine ⟨_, rfl, (T_names_Row.T.len _ _ _ he7), ?_⟩
   refine O10.stA 3 rfl (T_names_Row.T.len _ _ _ he7) (T_names_Row.T.flat _ _ _ he7) fun h12 O13 => ?_
   refine ⟨_, ldk (k := 2) (Sub.refl _) (O13.all 3 rfl) (T_names_Row.g2 he7), _, rfl, ?_⟩
   refine ⟨_, ld0 (Sub.refl _) (O13.all 3 rfl) (T_names_Row.g0 he7), _, rfl, ?_⟩
   obtain ⟨y14, g15, e⟩ := bind_e e
   have O20 := O13.nm
   obtain ⟨m21, u22, s27, ⟨⟨r25, k26⟩, _⟩, B23, C24⟩ := O20.lend0 [2]
   replace r25 : Rd 4 T_names_Row.E m21 A_6 a_6 := r25
   replace k26 : List.length a_6 ≤ c_6 := k26
   refine (slices_BinarySearchFunc_23.walk (Hold.start (W := No) s27) rfl k26 r25 (fun h30 m31 u32 s33 y36 cs36 he36 x37 r34 e35 => CallF.of [Value.agg cs36.toArray, Value.string x37] f24.ok rfl ((names_Names_Merge_1.walk (Hold.start (W := No) s33) he36 e35).mono (fun _ _ h => let ⟨_, t, e⟩ := h; ⟨e, t.S.ext⟩))) g15).mono ?_
   rintro _ h16 ⟨m17, Q18, rfl⟩
   have O38 := Hold.nm (C24 Q18 vfs_nil)
   refine ⟨_, _, rfl, ?_⟩
   refine split_not ?_
   refine split_any_e e (fun c93 e => ?_) (fun c93 e => ?_)
   · obtain ⟨y39, g40, e⟩ := bind_e e
     refine (O38.os 2 rfl).addr rfl g40 fun a41 cs42 ha43 hc44 he45 => ?_
     refine ⟨_, ldAn (Sub.refl _) hc44 rfl, ?_⟩
     refine ⟨_, ldAn (Sub.refl _) (O38.all 3 rfl) (T_names_Row.T.len _ _ _ he7), ?_⟩
     obtain ⟨y46, g47, e⟩ := bind_e e
     refine (names_order.walk (Hold.start (W := No) O38.s) he45 he7 g47).mono ?_
     rintro _ h48 ⟨m49, Q50, rfl⟩
     have O52 := Hold.nm (O38.retC Q50 vfs_nil)
     refine ⟨_, rfl, ?_⟩
     refine split_dec_e e (fun c65 e => ?_) (fun c65 e => ?_)
     · refine ⟨_, ldAn (Sub.refl _) (O52.all 3 rfl) (T_names_Row.T.len _ _ _ he7), ?_⟩
       obtain ⟨y53, g54, e⟩ := bind_e e
       refine (O52.os 2 rfl).addr rfl g54 fun a55 cs56 ha57 hc58 he59 => ?_
       obtain ⟨l62, g63, e⟩ := bind_e e
       replace g63 := Option.some.inj g63
       refine ⟨_, rfl, (T_names_Row.T.len _ _ _ he7), ?_⟩
       refine O52.elstA 2 rfl g54 ha57 hc58 (y' := y1) he7 (T_names_Row.T.flat _ _ _ he7) g63 fun h60 O61 => ?_
       have O64 := O61.nm
       exact (ih _ _ e) (O64.pick [0, 1, 2]).nm rfl (lset' g63) rfl k_26 r_26
     · exact (ih _ _ e) (O52.pick [0, 1, 2]).nm rfl rfl rfl k_26 r_26
   · refine ⟨_, ldAn (Sub.refl _) (O38.all 3 rfl) (T_names_Row.T.len _ _ _ he7), ?_⟩
     refine ⟨cs4, rfl, (T_names_Row.T.len _ _ _ he7), ?_⟩
     refine O38.new fun h66 x67 O68 => ?_
     have O70 := O68.recell 4 rfl (cs' := cs4 ++ []) rfl
     obtain ⟨y72, g73, e⟩ := bind_e e
     have O71 := O70.rowE (l := ([y1] : List T_names_Row)) 4 rfl T_names_Row.T (show CsE _ _ _ _ _ from (CsE.cons he7 (T_names_Row.T.len _ _ _ he7) CsE.nil)) rfl
     have O78 := O71.nm
     obtain ⟨m79, W85, u80, P86, ⟨⟨r83, k84⟩, _⟩, B81, C82⟩ := O78.lend [2] [4]
     replace r83 : Rd 4 T_names_Row.E m79 (some ⟨(Array.size h16), 0, none⟩) ([y1] : List T_names_Row) := r83
     replace k84 : List.length ([y1] : List T_names_Row) ≤ 1 := k84
     refine (slices_Insert_26.walk P86 rfl rfl k84 r83 g73).mono ?_
     rintro _ h74 ⟨m75, A87, n88, c89, Q76, rfl, ne90⟩
     have O92 := Hold.nm (C82 Q76 (vfs_cons (rR_vf (aE_vf (fun _ _ _ _ h => T_names_Row.keep h))) vfs_nil))
     subst ne90
     refine ⟨_, _, _, rfl, ?_⟩
     exact (ih _ _ e) (O92.pick [0, 1, 5]).nm rfl rfl rfl k_26 r_26
 · refine split_dec_e e (fun c99 e => ?_) (fun c99 e => ?_)
   · cases e
     exact ⟨_, _, _, _, O.pick [0, 1], rfl, rfl⟩
   · refine O.st 0 rfl 2 (Nat.le_of_ble_eq_true rfl) trivial fun h94 O95 => ?_
     refine O95.st 0 rfl 1 (Nat.le_of_ble_eq_true rfl) trivial fun h96 O97 => ?_
     have O98 := O97.nm
     cases e
     exact ⟨_, _, _, _, O98.pick [0, 2], rfl, rfl⟩
theorem names_Names_Merge.l0_k.all {p : names_Names_Merge.l0_k.Pt} {r : (Int × T_names_Names)} (e : names_Names_Merge.l0_k.go p = some r) : names_Names_Merge.l0_k.I p r := fixF_ind (β := fun _ => (Int × T_names_Names)) names_Names_Merge.l0_k.mono (I := names_Names_Merge.l0_k.I) (fun go ih p r e => match p with
 | .l0 x_io0_0 x_io0_1 a_io0_2 a_6 x_7 a_26 x_27 x_28 => names_Names_Merge.l0_k.step_l0 go ih x_io0_0 x_io0_1 a_io0_2 a_6 x_7 a_26 x_27 x_28 r e
 ) e
noncomputable def names_Names_Merge (y_0 : T_names_Names) (a_1 : List T_names_Row) : Option (Int × T_names_Names) :=
 Option.bind (names_check a_1) fun y1 => if y1 = (0 : Int) then (Option.bind (slices_Clone_18 y_0.rows_) fun y8 => (names_Names_Merge.l0 y_0.node_ y_0.count_ y_0.rows_ y8 y_0.count_ a_1 (((List.length a_1) : Nat) : Int) (0 : Int))) else (some (y1, y_0))
theorem names_Names_Merge.walk {W h m bkio0 A_0_2 n_0_2 c_0_2 A_1 n_1 c_1 y_0 a_1} (O : Hold W h m h m [rV bkio0 53 [(Value.int .i64 y_0.node_), (Value.int .i64 y_0.count_), (Value.slice A_0_2 n_0_2 c_0_2)], rR (aE T_names_Row.T) A_0_2 c_0_2 y_0.rows_]) (ne_0_2 : n_0_2 = List.length y_0.rows_) (ne_1 : n_1 = List.length a_1) (k_1 : List.length a_1 ≤ c_1) (r_1 : Rd 4 T_names_Row.E m A_1 a_1) {r} (e : names_Names_Merge y_0 a_1 = some r) : Run Tryd.prog 13 #[Value.pointer (some ⟨bkio0, 0, none⟩), Value.slice A_1 n_1 c_1] h (names_Names_Merge.post W bkio0 h m r) := by
 unfold names_Names_Merge at e
 subst ne_0_2
 subst ne_1
 refine f13.run ?_
 unfold f13.runT
 obtain ⟨y1, g2, e⟩ := bind_e e
 refine (names_check.walk (Hold.start (W := No) O.s) rfl k_1 r_1 g2).mono ?_
 rintro _ h3 ⟨m4, Q5, rfl⟩
 have O7 := Hold.nm (O.retC Q5 vfs_nil)
 refine ⟨_, rfl, ?_⟩
 refine split_ne_e e (fun c27 e => ?_) (fun c27 e => ?_)
 · cases e
   exact ⟨_, _, _, _, O7.pick [0, 1], rfl, rfl⟩
 · refine ⟨_, ldk (k := 2) (Sub.refl _) (O7.all 0 rfl) rfl, _, _, _, rfl, ?_⟩
   obtain ⟨y8, g9, e⟩ := bind_e e
   obtain ⟨m14, u15, s20, ⟨⟨r18, k19⟩, _⟩, B16, C17⟩ := O7.lend0 [1]
   replace r18 : Rd 4 T_names_Row.E m14 A_0_2 y_0.rows_ := r18
   replace k19 : List.length y_0.rows_ ≤ c_0_2 := k19
   refine (slices_Clone_18.walk (Hold.start (W := No) s20) rfl k19 r18 g9).mono ?_
   rintro _ h10 ⟨m11, A21, n22, c23, Q12, rfl, ne24⟩
   have O26 := Hold.nm (C17 Q12 (vfs_cons (rR_vf (aE_vf (fun _ _ _ _ h => T_names_Row.keep h))) vfs_nil))
   subst ne24
   refine ⟨_, _, _, rfl, ?_⟩
   refine ⟨_, ldk (k := 1) (Sub.refl _) (O26.all 0 rfl) rfl, _, rfl, ?_⟩
   exact (names_Names_Merge.l0_k.all e) (O26.pick [0, 1, 2]).nm rfl rfl rfl k_1 r_1
def roadref4_Meaning_Counts.post (W : Nat → Prop) (h0 m0 : Heap) (r : Bool) (v : Value) (h : Heap) : Prop := ∃ m , Hold W h0 m0 h m [] ∧ v = .bool r
noncomputable def roadref4_Meaning_Counts (y_0 : T_roadref4_Meaning) (y_1 : T_roadref4_Meaning) : Option (Bool) :=
 if y_0.Count = y_1.Count then (if y_0.Node = y_1.Node then (some ((decide (y_1.Ref > y_0.Ref)))) else (some ((decide (y_1.Node > y_0.Node))))) else (some ((decide (y_1.Count > y_0.Count))))
theorem roadref4_Meaning_Counts.walk {W h m cs_0 cs_1 y_0 y_1} (O : Hold W h m h m []) (e_0 : T_roadref4_Meaning.E m y_0 cs_0) (e_1 : T_roadref4_Meaning.E m y_1 cs_1) {r} (e : roadref4_Meaning_Counts y_0 y_1 = some r) : Run Tryd.prog 28 #[Value.agg cs_0.toArray, Value.agg cs_1.toArray] h (roadref4_Meaning_Counts.post W h m r) := by
 unfold roadref4_Meaning_Counts at e
 refine f28.run ?_
 unfold f28.runT
 refine O.new fun h1 x2 O3 => ?_
 refine O3.new fun h5 x6 O7 => ?_
 refine ⟨_, ldk (k := 1) (Sub.refl _) (O7.all 0 rfl) (T_roadref4_Meaning.g1 e_0), _, rfl, ?_⟩
 refine ⟨_, ldk (k := 1) (Sub.refl _) (O7.all 1 rfl) (T_roadref4_Meaning.g1 e_1), _, rfl, ?_⟩
 refine split_ne_e e (fun c13 e => ?_) (fun c13 e => ?_)
 · refine ⟨_, ldk (k := 1) (Sub.refl _) (O7.all 1 rfl) (T_roadref4_Meaning.g1 e_1), _, rfl, ?_⟩
   refine ⟨_, ldk (k := 1) (Sub.refl _) (O7.all 0 rfl) (T_roadref4_Meaning.g1 e_0), _, rfl, ?_⟩
   have O9 := O7.nm
   cases e
   exact ⟨_, O9.pick [], rfl⟩
 · refine ⟨_, ldk (k := 2) (Sub.refl _) (O7.all 0 rfl) (T_roadref4_Meaning.g2 e_0), _, rfl, ?_⟩
   refine ⟨_, ldk (k := 2) (Sub.refl _) (O7.all 1 rfl) (T_roadref4_Meaning.g2 e_1), _, rfl, ?_⟩
   refine split_ne_e e (fun c12 e => ?_) (fun c12 e => ?_)
   · refine ⟨_, ldk (k := 2) (Sub.refl _) (O7.all 1 rfl) (T_roadref4_Meaning.g2 e_1), _, rfl, ?_⟩
     refine ⟨_, ldk (k := 2) (Sub.refl _) (O7.all 0 rfl) (T_roadref4_Meaning.g2 e_0), _, rfl, ?_⟩
     have O10 := O7.nm
     cases e
     exact ⟨_, O10.pick [], rfl⟩
   · refine ⟨_, ld0 (Sub.refl _) (O7.all 1 rfl) (T_roadref4_Meaning.g0 e_1), _, rfl, ?_⟩
     refine ⟨_, ld0 (Sub.refl _) (O7.all 0 rfl) (T_roadref4_Meaning.g0 e_0), _, rfl, ?_⟩
     have O11 := O7.nm
     cases e
     exact ⟨_, O11.pick [], rfl⟩
def roadlaw4_merged.post (W : Nat → Prop) (bkio0 : Nat) (h0 m0 : Heap) (r : Int × T_roadref4_Names) (v : Value) (h : Heap) : Prop := ∃ m bio0_2, Hold W h0 m0 h m [rV bkio0 38 [(Value.int .i64 r.2.Node), (Value.int .i64 r.2.Count), (Value.map (some bio0_2))], rM (monoV1 T_roadref4_Meaning.T) (fun s : ByteArray => Value.string s) bio0_2 r.2.Rows] ∧ v = .int .i64 r.1
inductive roadlaw4_merged.l2_k.Pt where
 | l2 (x_io0_0 : Int) (x_io0_1 : Int) (a_io0_2 : (List (ByteArray × T_roadref4_Meaning))) (a_100 : List T_names_Row) (x_101 : Int) (x_102 : Int)
 | j3 (x_io0_0 : Int) (x_io0_1 : Int) (a_io0_2 : (List (ByteArray × T_roadref4_Meaning))) (y_13 : T_names_Row) (y_14 : T_roadref4_Meaning) (y_15 : T_roadref4_Meaning) (b_16 : Bool) (a_100 : List T_names_Row) (x_101 : Int) (x_102 : Int)
 | j4 (x_io0_0 : Int) (x_io0_1 : Int) (a_io0_2 : (List (ByteArray × T_roadref4_Meaning))) (y_13 : T_names_Row) (y_14 : T_roadref4_Meaning) (a_100 : List T_names_Row) (x_101 : Int) (x_102 : Int) (b_129 : Bool)
 | j2 (x_io0_0 : Int) (x_io0_1 : Int) (a_io0_2 : (List (ByteArray × T_roadref4_Meaning))) (y_13 : T_names_Row) (a_100 : List T_names_Row) (x_101 : Int) (x_102 : Int)
noncomputable def roadlaw4_merged.l2_k.body (go : (p : roadlaw4_merged.l2_k.Pt) → Option (Int × T_roadref4_Names)) : (p : roadlaw4_merged.l2_k.Pt) → Option (Int × T_roadref4_Names)
 | .l2 x_io0_0 x_io0_1 a_io0_2 a_100 x_101 x_102 => if x_102 < x_101 then (Option.bind (gi a_100 x_102) fun y1 => (go (.j3 x_io0_0 x_io0_1 a_io0_2 y1 (T_roadref4_Meaning.mk y1.Ref y1.Count y1.Node) (pgd a_io0_2 y1.Name (T_roadref4_Meaning.mk (0 : Int) (0 : Int) (0 : Int))) (Option.isSome (pget a_io0_2 y1.Name)) a_100 x_101 x_102))) else (some ((0 : Int), (T_roadref4_Names.mk x_io0_0 x_io0_1 a_io0_2)))
 | .j3 x_io0_0 x_io0_1 a_io0_2 y_13 y_14 y_15 b_16 a_100 x_101 x_102 => if b_16 = true then (Option.bind (roadref4_Meaning_Counts y_15 y_14) fun y1 => (go (.j4 x_io0_0 x_io0_1 a_io0_2 y_13 y_14 a_100 x_101 x_102 y1))) else ((go (.j4 x_io0_0 x_io0_1 a_io0_2 y_13 y_14 a_100 x_101 x_102 true)))
 | .j4 x_io0_0 x_io0_1 a_io0_2 y_13 y_14 a_100 x_101 x_102 b_129 => if b_129 = true then (Option.bind (some (pset a_io0_2 y_13.Name y_14)) fun l3 => (go (.j2 x_io0_0 x_io0_1 l3 y_13 a_100 x_101 x_102))) else ((go (.j2 x_io0_0 x_io0_1 a_io0_2 y_13 a_100 x_101 x_102)))
 | .j2 x_io0_0 x_io0_1 a_io0_2 y_13 a_100 x_101 x_102 => (go (.l2 x_io0_0 (if y_13.Count > x_io0_1 then y_13.Count else x_io0_1) a_io0_2 a_100 x_101 (IntKind.wrap .i64 (x_102 + (1 : Int)))))
theorem roadlaw4_merged.l2_k.mono : MonoF (β := fun _ => (Int × T_roadref4_Names)) roadlaw4_merged.l2_k.body := fun f g hfg p => match p with
 | .l2 x_io0_0 x_io0_1 a_io0_2 a_100 x_101 x_102 => LeO.ite (LeO.bind (LeO.refl _) fun y1 => (hfg _)) (LeO.refl _)
 | .j3 x_io0_0 x_io0_1 a_io0_2 y_13 y_14 y_15 b_16 a_100 x_101 x_102 => LeO.ite (LeO.bind (LeO.refl _) fun y1 => (hfg _)) ((hfg _))
 | .j4 x_io0_0 x_io0_1 a_io0_2 y_13 y_14 a_100 x_101 x_102 b_129 => LeO.ite (LeO.bind (LeO.refl _) fun l3 => (hfg _)) ((hfg _))
 | .j2 x_io0_0 x_io0_1 a_io0_2 y_13 a_100 x_101 x_102 => (hfg _)
noncomputable def roadlaw4_merged.l2_k.go (p : roadlaw4_merged.l2_k.Pt) : Option (Int × T_roadref4_Names) := fixF (β := fun _ => (Int × T_roadref4_Names)) roadlaw4_merged.l2_k.body p
noncomputable def roadlaw4_merged.l2 (x_io0_0 x_io0_1 a_io0_2 a_100 x_101 x_102) := roadlaw4_merged.l2_k.go (.l2 x_io0_0 x_io0_1 a_io0_2 a_100 x_101 x_102)
noncomputable def roadlaw4_merged.j3 (x_io0_0 x_io0_1 a_io0_2 y_13 y_14 y_15 b_16 a_100 x_101 x_102) := roadlaw4_merged.l2_k.go (.j3 x_io0_0 x_io0_1 a_io0_2 y_13 y_14 y_15 b_16 a_100 x_101 x_102)
noncomputable def roadlaw4_merged.j4 (x_io0_0 x_io0_1 a_io0_2 y_13 y_14 a_100 x_101 x_102 b_129) := roadlaw4_merged.l2_k.go (.j4 x_io0_0 x_io0_1 a_io0_2 y_13 y_14 a_100 x_101 x_102 b_129)
noncomputable def roadlaw4_merged.j2 (x_io0_0 x_io0_1 a_io0_2 y_13 a_100 x_101 x_102) := roadlaw4_merged.l2_k.go (.j2 x_io0_0 x_io0_1 a_io0_2 y_13 a_100 x_101 x_102)
theorem roadlaw4_merged.l2_eq (x_io0_0 x_io0_1 a_io0_2 a_100 x_101 x_102) : roadlaw4_merged.l2 x_io0_0 x_io0_1 a_io0_2 a_100 x_101 x_102 = if x_102 < x_101 then (Option.bind (gi a_100 x_102) fun y1 => (roadlaw4_merged.j3 x_io0_0 x_io0_1 a_io0_2 y1 (T_roadref4_Meaning.mk y1.Ref y1.Count y1.Node) (pgd a_io0_2 y1.Name (T_roadref4_Meaning.mk (0 : Int) (0 : Int) (0 : Int))) (Option.isSome (pget a_io0_2 y1.Name)) a_100 x_101 x_102)) else (some ((0 : Int), (T_roadref4_Names.mk x_io0_0 x_io0_1 a_io0_2))) := fixF_eq roadlaw4_merged.l2_k.mono _
theorem roadlaw4_merged.j3_eq (x_io0_0 x_io0_1 a_io0_2 y_13 y_14 y_15 b_16 a_100 x_101 x_102) : roadlaw4_merged.j3 x_io0_0 x_io0_1 a_io0_2 y_13 y_14 y_15 b_16 a_100 x_101 x_102 = if b_16 = true then (Option.bind (roadref4_Meaning_Counts y_15 y_14) fun y1 => (roadlaw4_merged.j4 x_io0_0 x_io0_1 a_io0_2 y_13 y_14 a_100 x_101 x_102 y1)) else ((roadlaw4_merged.j4 x_io0_0 x_io0_1 a_io0_2 y_13 y_14 a_100 x_101 x_102 true)) := fixF_eq roadlaw4_merged.l2_k.mono _
theorem roadlaw4_merged.j4_eq (x_io0_0 x_io0_1 a_io0_2 y_13 y_14 a_100 x_101 x_102 b_129) : roadlaw4_merged.j4 x_io0_0 x_io0_1 a_io0_2 y_13 y_14 a_100 x_101 x_102 b_129 = if b_129 = true then (Option.bind (some (pset a_io0_2 y_13.Name y_14)) fun l3 => (roadlaw4_merged.j2 x_io0_0 x_io0_1 l3 y_13 a_100 x_101 x_102)) else ((roadlaw4_merged.j2 x_io0_0 x_io0_1 a_io0_2 y_13 a_100 x_101 x_102)) := fixF_eq roadlaw4_merged.l2_k.mono _
theorem roadlaw4_merged.j2_eq (x_io0_0 x_io0_1 a_io0_2 y_13 a_100 x_101 x_102) : roadlaw4_merged.j2 x_io0_0 x_io0_1 a_io0_2 y_13 a_100 x_101 x_102 = (roadlaw4_merged.l2 x_io0_0 (if y_13.Count > x_io0_1 then y_13.Count else x_io0_1) a_io0_2 a_100 x_101 (IntKind.wrap .i64 (x_102 + (1 : Int)))) := fixF_eq roadlaw4_merged.l2_k.mono _
def roadlaw4_merged.l2_k.I : (p : roadlaw4_merged.l2_k.Pt) → (Int × T_roadref4_Names) → Prop
 | .l2 x_io0_0 x_io0_1 a_io0_2 a_100 x_101 x_102, r => ∀ {W h0 m0 h m bk_io0 b_io0_2_0 A_100 n_100 c_100} (O : Hold W h0 m0 h m [rV bk_io0 38 [(Value.int .i64 x_io0_0), (Value.int .i64 x_io0_1), (Value.map (some b_io0_2_0))], rM (monoV1 T_roadref4_Meaning.T) (fun s : ByteArray => Value.string s) b_io0_2_0 a_io0_2]) (ne_100 : n_100 = List.length a_100) (k_100 : List.length a_100 ≤ c_100) (r_100 : Rd 4 T_names_Row.E m A_100 a_100), f14.l2 (roadlaw4_merged.post W bk_io0 h0 m0 r) (⟨bk_io0, 0, none⟩ : Addr) A_100 n_100 c_100 x_101 x_102 h
 | .j3 x_io0_0 x_io0_1 a_io0_2 y_13 y_14 y_15 b_16 a_100 x_101 x_102, r => ∀ {W h0 m0 h m bk_io0 b_io0_2_0 bk_13 cs_13 bk_14 cs_14 bk_15 cs_15 A_100 n_100 c_100} (O : Hold W h0 m0 h m [rV bk_io0 38 [(Value.int .i64 x_io0_0), (Value.int .i64 x_io0_1), (Value.map (some b_io0_2_0))], rM (monoV1 T_roadref4_Meaning.T) (fun s : ByteArray => Value.string s) b_io0_2_0 a_io0_2, rV bk_13 33 cs_13, rV bk_14 43 cs_14, rV bk_15 43 cs_15]) (e_13 : T_names_Row.E m y_13 cs_13) (e_14 : T_roadref4_Meaning.E m y_14 cs_14) (e_15 : T_roadref4_Meaning.E m y_15 cs_15) (ne_100 : n_100 = List.length a_100) (k_100 : List.length a_100 ≤ c_100) (r_100 : Rd 4 T_names_Row.E m A_100 a_100), f14.j3 (roadlaw4_merged.post W bk_io0 h0 m0 r) (⟨bk_io0, 0, none⟩ : Addr) (⟨bk_13, 0, none⟩ : Addr) (⟨bk_14, 0, none⟩ : Addr) (⟨bk_15, 0, none⟩ : Addr) b_16 A_100 n_100 c_100 x_101 x_102 h
 | .j4 x_io0_0 x_io0_1 a_io0_2 y_13 y_14 a_100 x_101 x_102 b_129, r => ∀ {W h0 m0 h m bk_io0 b_io0_2_0 bk_13 cs_13 bk_14 cs_14 A_100 n_100 c_100} (O : Hold W h0 m0 h m [rV bk_io0 38 [(Value.int .i64 x_io0_0), (Value.int .i64 x_io0_1), (Value.map (some b_io0_2_0))], rM (monoV1 T_roadref4_Meaning.T) (fun s : ByteArray => Value.string s) b_io0_2_0 a_io0_2, rV bk_13 33 cs_13, rV bk_14 43 cs_14]) (e_13 : T_names_Row.E m y_13 cs_13) (e_14 : T_roadref4_Meaning.E m y_14 cs_14) (ne_100 : n_100 = List.length a_100) (k_100 : List.length a_100 ≤ c_100) (r_100 : Rd 4 T_names_Row.E m A_100 a_100), f14.j4 (roadlaw4_merged.post W bk_io0 h0 m0 r) (⟨bk_io0, 0, none⟩ : Addr) (⟨bk_13, 0, none⟩ : Addr) (⟨bk_14, 0, none⟩ : Addr) A_100 n_100 c_100 x_101 x_102 b_129 h
 | .j2 x_io0_0 x_io0_1 a_io0_2 y_13 a_100 x_101 x_102, r => ∀ {W h0 m0 h m bk_io0 b_io0_2_0 bk_13 cs_13 A_100 n_100 c_100} (O : Hold W h0 m0 h m [rV bk_io0 38 [(Value.int .i64 x_io0_0), (Value.int .i64 x_io0_1), (Value.map (some b_io0_2_0))], rM (monoV1 T_roadref4_Meaning.T) (fun s : ByteArray => Value.string s) b_io0_2_0 a_io0_2, rV bk_13 33 cs_13]) (e_13 : T_names_Row.E m y_13 cs_13) (ne_100 : n_100 = List.length a_100) (k_100 : List.length a_100 ≤ c_100) (r_100 : Rd 4 T_names_Row.E m A_100 a_100), f14.j2 (roadlaw4_merged.post W bk_io0 h0 m0 r) (⟨bk_io0, 0, none⟩ : Addr) (⟨bk_13, 0, none⟩ : Addr) A_100 n_100 c_100 x_101 x_102 h
set_option maxHeartbeats 4000000 in
theorem roadlaw4_merged.l2_k.step_l2 (go : (p : roadlaw4_merged.l2_k.Pt) → Option (Int × T_roadref4_Names)) (ih : ∀ p r, go p = some r → roadlaw4_merged.l2_k.I p r) (x_io0_0 x_io0_1 a_io0_2 a_100 x_101 x_102) (r) (e : roadlaw4_merged.l2_k.body go (.l2 x_io0_0 x_io0_1 a_io0_2 a_100 x_101 x_102) = some r) : roadlaw4_merged.l2_k.I (.l2 x_io0_0 x_io0_1 a_io0_2 a_100 x_101 x_102) r := by
 unfold roadlaw4_merged.l2_k.body at e
 intro W h0 m0 h m bk_io0 b_io0_2_0 A_100 n_100 c_100 O ne_100 k_100 r_100
 subst ne_100
 refine f14.l2_in ?_
 unfold f14.l2T
 refine split_dec_e e (fun c59 e => ?_) (fun c59 e => ?_)
 · obtain ⟨y1, g2, e⟩ := bind_e e
   refine r_100.addr rfl g2 fun a3 cs4 ha5 hc6 he7 => ?_
   refine ⟨_, ldAn O.s hc6 rfl, ?_⟩
   refine O.new fun h8 x9 O10 => ?_
   refine ⟨_, rfl, (T_names_Row.T.len _ _ _ he7), ?_⟩
   refine O10.stA 2 rfl (T_names_Row.T.len _ _ _ he7) (T_names_Row.T.flat _ _ _ he7) fun h12 O13 => ?_
   refine ⟨_, ldk (k := 1) (Sub.refl _) (O13.all 2 rfl) (T_names_Row.g1 he7), _, rfl, ?_⟩
   refine ⟨_, ldk (k := 2) (Sub.refl _) (O13.all 2 rfl) (T_names_Row.g2 he7), _, rfl, ?_⟩
   refine ⟨_, ldk (k := 3) (Sub.refl _) (O13.all 2 rfl) (T_names_Row.g3 he7), _, rfl, ?_⟩
   refine O13.new fun h14 x15 O16 => ?_
   refine ⟨_, rfl, rfl, ?_⟩
   refine O16.stA 3 rfl rfl (Flats.cons trivial (Flats.cons trivial (Flats.cons trivial Flats.nil))) fun h18 O19 => ?_
   refine ⟨_, ldk (k := 2) (Sub.refl _) (O19.all 0 rfl) rfl, ?_⟩
   refine ⟨_, ld0 (Sub.refl _) (O19.all 2 rfl) (T_names_Row.g0 he7), _, rfl, ?_⟩
   refine ⟨?_, ?_⟩
   · refine (O19.om 1 rfl).look2 (zv := (T_roadref4_Meaning.mk (0 : Int) (0 : Int) (0 : Int))) (z := (Value.agg #[(Value.int .i64 (0 : Int)), (Value.int .i64 (0 : Int)), (Value.int .i64 (0 : Int))])) (keyOk_str (key := 9) (elem := 43) (by kernel_rfl) (by kernel_rfl)) y1.Name (by kernel_rfl) ⟨[(Value.int .i64 (0 : Int)), (Value.int .i64 (0 : Int)), (Value.int .i64 (0 : Int))], rfl, (show T_roadref4_Meaning.E _ (T_roadref4_Meaning.mk (0 : Int) (0 : Int) (0 : Int)) [(Value.int .i64 (0 : Int)), (Value.int .i64 (0 : Int)), (Value.int .i64 (0 : Int))] from rfl)⟩ (fun v33 hv34 => ?_)
     obtain ⟨cs35, rfl, he36⟩ := hv34
     refine ⟨_, _, rfl, ?_⟩
     refine O19.new fun h37 x38 O39 => ?_
     refine ⟨x38, ?_⟩
     have O41 := O39.nm
     refine ⟨_, rfl, (T_roadref4_Meaning.T.len _ _ _ he36), ?_⟩
     refine O41.stAO 4 rfl (T_roadref4_Meaning.T.len _ _ _ he36) (T_roadref4_Meaning.T.flat _ _ _ he36) fun h42 S44 O43 => ?_
     have O45 := O43.nm
     exact (ih _ _ e) (O45.pick [0, 1, 2, 3, 4]).nm he7 (show T_roadref4_Meaning.E _ (T_roadref4_Meaning.mk y1.Ref y1.Count y1.Node) [(Value.int .i64 y1.Ref), (Value.int .i64 y1.Count), (Value.int .i64 y1.Node)] from rfl) he36 rfl k_100 r_100
   · refine O19.new fun h46 x47 O48 => ?_
     refine ⟨x47, ?_⟩
     have O50 := O48.nm
     refine (O50.om 1 rfl).look2 (zv := (T_roadref4_Meaning.mk (0 : Int) (0 : Int) (0 : Int))) (z := (Value.agg #[(Value.int .i64 (0 : Int)), (Value.int .i64 (0 : Int)), (Value.int .i64 (0 : Int))])) (keyOk_str (key := 9) (elem := 43) (by kernel_rfl) (by kernel_rfl)) y1.Name (by kernel_rfl) ⟨[(Value.int .i64 (0 : Int)), (Value.int .i64 (0 : Int)), (Value.int .i64 (0 : Int))], rfl, (show T_roadref4_Meaning.E _ (T_roadref4_Meaning.mk (0 : Int) (0 : Int) (0 : Int)) [(Value.int .i64 (0 : Int)), (Value.int .i64 (0 : Int)), (Value.int .i64 (0 : Int))] from rfl)⟩ (fun v51 hv52 => ?_)
     obtain ⟨cs53, rfl, he54⟩ := hv52
     refine ⟨_, _, rfl, ?_⟩
     refine ⟨_, rfl, (T_roadref4_Meaning.T.len _ _ _ he54), ?_⟩
     refine O50.stAO 4 rfl (T_roadref4_Meaning.T.len _ _ _ he54) (T_roadref4_Meaning.T.flat _ _ _ he54) fun h55 S57 O56 => ?_
     have O58 := O56.nm
     exact (ih _ _ e) (O58.pick [0, 1, 2, 3, 4]).nm he7 (show T_roadref4_Meaning.E _ (T_roadref4_Meaning.mk y1.Ref y1.Count y1.Node) [(Value.int .i64 y1.Ref), (Value.int .i64 y1.Count), (Value.int .i64 y1.Node)] from rfl) he54 rfl k_100 r_100
 · cases e
   exact ⟨_, _, O.pick [0, 1], rfl⟩
theorem roadlaw4_merged.l2_k.step_j3 (go : (p : roadlaw4_merged.l2_k.Pt) → Option (Int × T_roadref4_Names)) (ih : ∀ p r, go p = some r → roadlaw4_merged.l2_k.I p r) (x_io0_0 x_io0_1 a_io0_2 y_13 y_14 y_15 b_16 a_100 x_101 x_102) (r) (e : roadlaw4_merged.l2_k.body go (.j3 x_io0_0 x_io0_1 a_io0_2 y_13 y_14 y_15 b_16 a_100 x_101 x_102) = some r) : roadlaw4_merged.l2_k.I (.j3 x_io0_0 x_io0_1 a_io0_2 y_13 y_14 y_15 b_16 a_100 x_101 x_102) r := by
 unfold roadlaw4_merged.l2_k.body at e
 intro W h0 m0 h m bk_io0 b_io0_2_0 bk_13 cs_13 bk_14 cs_14 bk_15 cs_15 A_100 n_100 c_100 O e_13 e_14 e_15 ne_100 k_100 r_100
 subst ne_100
 refine f14.j3_in ?_
 unfold f14.j3T
 refine split_not ?_
 refine split_any_e e (fun c8 e => ?_) (fun c8 e => ?_)
 · refine ⟨_, ldAn (Sub.refl _) (O.all 4 rfl) (T_roadref4_Meaning.T.len _ _ _ e_15), ?_⟩
   refine ⟨_, ldAn (Sub.refl _) (O.all 3 rfl) (T_roadref4_Meaning.T.len _ _ _ e_14), ?_⟩
   obtain ⟨y1, g2, e⟩ := bind_e e
   refine (roadref4_Meaning_Counts.walk (Hold.start (W := No) O.s) e_15 e_14 g2).mono ?_
   rintro _ h3 ⟨m4, Q5, rfl⟩
   have O7 := Hold.nm (O.retC Q5 vfs_nil)
   refine ⟨_, rfl, ?_⟩
   exact (ih _ _ e) (O7.pick [0, 1, 2, 3]).nm e_13 e_14 rfl k_100 r_100
 · exact (ih _ _ e) (O.pick [0, 1, 2, 3]).nm e_13 e_14 rfl k_100 r_100
theorem roadlaw4_merged.l2_k.step_j4 (go : (p : roadlaw4_merged.l2_k.Pt) → Option (Int × T_roadref4_Names)) (ih : ∀ p r, go p = some r → roadlaw4_merged.l2_k.I p r) (x_io0_0 x_io0_1 a_io0_2 y_13 y_14 a_100 x_101 x_102 b_129) (r) (e : roadlaw4_merged.l2_k.body go (.j4 x_io0_0 x_io0_1 a_io0_2 y_13 y_14 a_100 x_101 x_102 b_129) = some r) : roadlaw4_merged.l2_k.I (.j4 x_io0_0 x_io0_1 a_io0_2 y_13 y_14 a_100 x_101 x_102 b_129) r := by
 unfold roadlaw4_merged.l2_k.body at e
 intro W h0 m0 h m bk_io0 b_io0_2_0 bk_13 cs_13 bk_14 cs_14 A_100 n_100 c_100 O e_13 e_14 ne_100 k_100 r_100
 subst ne_100
 refine f14.j4_in ?_
 unfold f14.j4T
 refine split_any_e e (fun c6 e => ?_) (fun c6 e => ?_)
 · refine ⟨_, ldk (k := 2) (Sub.refl _) (O.all 0 rfl) rfl, ?_⟩
   refine ⟨_, ld0 (Sub.refl _) (O.all 2 rfl) (T_names_Row.g0 e_13), _, rfl, ?_⟩
   refine ⟨_, ldAn (Sub.refl _) (O.all 3 rfl) (T_roadref4_Meaning.T.len _ _ _ e_14), ?_⟩
   obtain ⟨l3, g4, e⟩ := bind_e e
   replace g4 := Option.some.inj g4
   refine O.mapUpd (x := y_14) (v := (Value.agg (List.toArray cs_14))) 1 rfl (keyOk_str (key := 9) (elem := 43) (by kernel_rfl) (by kernel_rfl)) y_13.Name (show (eV1 T_roadref4_Meaning.E) m y_14 (Value.agg (List.toArray cs_14)) from ⟨cs_14, rfl, e_14⟩) g4 fun h1 O2 => ?_
   have O5 := O2.nm
   exact (ih _ _ e) (O5.pick [0, 1, 2]).nm e_13 rfl k_100 r_100
 · exact (ih _ _ e) (O.pick [0, 1, 2]).nm e_13 rfl k_100 r_100
theorem roadlaw4_merged.l2_k.step_j2 (go : (p : roadlaw4_merged.l2_k.Pt) → Option (Int × T_roadref4_Names)) (ih : ∀ p r, go p = some r → roadlaw4_merged.l2_k.I p r) (x_io0_0 x_io0_1 a_io0_2 y_13 a_100 x_101 x_102) (r) (e : roadlaw4_merged.l2_k.body go (.j2 x_io0_0 x_io0_1 a_io0_2 y_13 a_100 x_101 x_102) = some r) : roadlaw4_merged.l2_k.I (.j2 x_io0_0 x_io0_1 a_io0_2 y_13 a_100 x_101 x_102) r := by
 unfold roadlaw4_merged.l2_k.body at e
 intro W h0 m0 h m bk_io0 b_io0_2_0 bk_13 cs_13 A_100 n_100 c_100 O e_13 ne_100 k_100 r_100
 subst ne_100
 refine f14.j2_in ?_
 unfold f14.j2T
 refine ⟨_, ldk (k := 1) (Sub.refl _) (O.all 0 rfl) rfl, _, rfl, ?_⟩
 refine ⟨_, ldk (k := 2) (Sub.refl _) (O.all 2 rfl) (T_names_Row.g2 e_13), _, rfl, ?_⟩
 refine O.st 0 rfl 1 (Nat.le_of_ble_eq_true rfl) trivial fun h1 O2 => ?_
 have O3 := O2.nm
 exact (ih _ _ e) (O3.pick [0, 1]).nm rfl k_100 r_100
theorem roadlaw4_merged.l2_k.all {p : roadlaw4_merged.l2_k.Pt} {r : (Int × T_roadref4_Names)} (e : roadlaw4_merged.l2_k.go p = some r) : roadlaw4_merged.l2_k.I p r := fixF_ind (β := fun _ => (Int × T_roadref4_Names)) roadlaw4_merged.l2_k.mono (I := roadlaw4_merged.l2_k.I) (fun go ih p r e => match p with
 | .l2 x_io0_0 x_io0_1 a_io0_2 a_100 x_101 x_102 => roadlaw4_merged.l2_k.step_l2 go ih x_io0_0 x_io0_1 a_io0_2 a_100 x_101 x_102 r e
 | .j3 x_io0_0 x_io0_1 a_io0_2 y_13 y_14 y_15 b_16 a_100 x_101 x_102 => roadlaw4_merged.l2_k.step_j3 go ih x_io0_0 x_io0_1 a_io0_2 y_13 y_14 y_15 b_16 a_100 x_101 x_102 r e
 | .j4 x_io0_0 x_io0_1 a_io0_2 y_13 y_14 a_100 x_101 x_102 b_129 => roadlaw4_merged.l2_k.step_j4 go ih x_io0_0 x_io0_1 a_io0_2 y_13 y_14 a_100 x_101 x_102 b_129 r e
 | .j2 x_io0_0 x_io0_1 a_io0_2 y_13 a_100 x_101 x_102 => roadlaw4_merged.l2_k.step_j2 go ih x_io0_0 x_io0_1 a_io0_2 y_13 a_100 x_101 x_102 r e
 ) e
inductive roadlaw4_merged.l1_k.Pt where
 | l1 (x_io0_0 : Int) (x_io0_1 : Int) (a_io0_2 : (List (ByteArray × T_roadref4_Meaning))) (a_1 : List T_names_Row) (x_7 : Int) (a_71 : List T_names_Row) (x_72 : Int) (x_73 : Int)
 | j0 (x_io0_0 : Int) (x_io0_1 : Int) (a_io0_2 : (List (ByteArray × T_roadref4_Meaning))) (a_1 : List T_names_Row) (x_7 : Int) (b_11 : Bool) (a_71 : List T_names_Row) (x_72 : Int) (x_73 : Int)
noncomputable def roadlaw4_merged.l1_k.body (go : (p : roadlaw4_merged.l1_k.Pt) → Option (Int × T_roadref4_Names)) : (p : roadlaw4_merged.l1_k.Pt) → Option (Int × T_roadref4_Names)
 | .l1 x_io0_0 x_io0_1 a_io0_2 a_1 x_7 a_71 x_72 x_73 => if x_73 < x_72 then (Option.bind (gi a_71 x_73) fun y1 => (go (.j0 x_io0_0 x_io0_1 a_io0_2 a_1 x_7 (Option.isSome (pget a_io0_2 y1.Name)) a_71 x_72 x_73))) else (if (IntKind.wrap .i64 (((List.length a_io0_2 : Nat) : Int) + x_7)) > (60 : Int) then (some ((6 : Int), (T_roadref4_Names.mk x_io0_0 x_io0_1 a_io0_2))) else ((roadlaw4_merged.l2 x_io0_0 x_io0_1 a_io0_2 a_1 (((List.length a_1) : Nat) : Int) (0 : Int))))
 | .j0 x_io0_0 x_io0_1 a_io0_2 a_1 x_7 b_11 a_71 x_72 x_73 => if b_11 = true then ((go (.l1 x_io0_0 x_io0_1 a_io0_2 a_1 x_7 a_71 x_72 (IntKind.wrap .i64 (x_73 + (1 : Int)))))) else ((go (.l1 x_io0_0 x_io0_1 a_io0_2 a_1 (IntKind.wrap .i64 (x_7 + (1 : Int))) a_71 x_72 (IntKind.wrap .i64 (x_73 + (1 : Int))))))
theorem roadlaw4_merged.l1_k.mono : MonoF (β := fun _ => (Int × T_roadref4_Names)) roadlaw4_merged.l1_k.body := fun f g hfg p => match p with
 | .l1 x_io0_0 x_io0_1 a_io0_2 a_1 x_7 a_71 x_72 x_73 => LeO.ite (LeO.bind (LeO.refl _) fun y1 => (hfg _)) (LeO.ite (LeO.refl _) ((LeO.refl _)))
 | .j0 x_io0_0 x_io0_1 a_io0_2 a_1 x_7 b_11 a_71 x_72 x_73 => LeO.ite ((hfg _)) ((hfg _))
noncomputable def roadlaw4_merged.l1_k.go (p : roadlaw4_merged.l1_k.Pt) : Option (Int × T_roadref4_Names) := fixF (β := fun _ => (Int × T_roadref4_Names)) roadlaw4_merged.l1_k.body p
noncomputable def roadlaw4_merged.l1 (x_io0_0 x_io0_1 a_io0_2 a_1 x_7 a_71 x_72 x_73) := roadlaw4_merged.l1_k.go (.l1 x_io0_0 x_io0_1 a_io0_2 a_1 x_7 a_71 x_72 x_73)
noncomputable def roadlaw4_merged.j0 (x_io0_0 x_io0_1 a_io0_2 a_1 x_7 b_11 a_71 x_72 x_73) := roadlaw4_merged.l1_k.go (.j0 x_io0_0 x_io0_1 a_io0_2 a_1 x_7 b_11 a_71 x_72 x_73)
theorem roadlaw4_merged.l1_eq (x_io0_0 x_io0_1 a_io0_2 a_1 x_7 a_71 x_72 x_73) : roadlaw4_merged.l1 x_io0_0 x_io0_1 a_io0_2 a_1 x_7 a_71 x_72 x_73 = if x_73 < x_72 then (Option.bind (gi a_71 x_73) fun y1 => (roadlaw4_merged.j0 x_io0_0 x_io0_1 a_io0_2 a_1 x_7 (Option.isSome (pget a_io0_2 y1.Name)) a_71 x_72 x_73)) else (if (IntKind.wrap .i64 (((List.length a_io0_2 : Nat) : Int) + x_7)) > (60 : Int) then (some ((6 : Int), (T_roadref4_Names.mk x_io0_0 x_io0_1 a_io0_2))) else ((roadlaw4_merged.l2 x_io0_0 x_io0_1 a_io0_2 a_1 (((List.length a_1) : Nat) : Int) (0 : Int)))) := fixF_eq roadlaw4_merged.l1_k.mono _
theorem roadlaw4_merged.j0_eq (x_io0_0 x_io0_1 a_io0_2 a_1 x_7 b_11 a_71 x_72 x_73) : roadlaw4_merged.j0 x_io0_0 x_io0_1 a_io0_2 a_1 x_7 b_11 a_71 x_72 x_73 = if b_11 = true then ((roadlaw4_merged.l1 x_io0_0 x_io0_1 a_io0_2 a_1 x_7 a_71 x_72 (IntKind.wrap .i64 (x_73 + (1 : Int))))) else ((roadlaw4_merged.l1 x_io0_0 x_io0_1 a_io0_2 a_1 (IntKind.wrap .i64 (x_7 + (1 : Int))) a_71 x_72 (IntKind.wrap .i64 (x_73 + (1 : Int))))) := fixF_eq roadlaw4_merged.l1_k.mono _
def roadlaw4_merged.l1_k.I : (p : roadlaw4_merged.l1_k.Pt) → (Int × T_roadref4_Names) → Prop
 | .l1 x_io0_0 x_io0_1 a_io0_2 a_1 x_7 a_71 x_72 x_73, r => ∀ {W h0 m0 h m bk_io0 b_io0_2_0 A_1 n_1 c_1 A_71 n_71 c_71} (O : Hold W h0 m0 h m [rV bk_io0 38 [(Value.int .i64 x_io0_0), (Value.int .i64 x_io0_1), (Value.map (some b_io0_2_0))], rM (monoV1 T_roadref4_Meaning.T) (fun s : ByteArray => Value.string s) b_io0_2_0 a_io0_2]) (ne_1 : n_1 = List.length a_1) (k_1 : List.length a_1 ≤ c_1) (r_1 : Rd 4 T_names_Row.E m A_1 a_1) (ne_71 : n_71 = List.length a_71) (k_71 : List.length a_71 ≤ c_71) (r_71 : Rd 4 T_names_Row.E m A_71 a_71), f14.l1 (roadlaw4_merged.post W bk_io0 h0 m0 r) (⟨bk_io0, 0, none⟩ : Addr) A_1 n_1 c_1 x_7 A_71 n_71 c_71 x_72 x_73 h
 | .j0 x_io0_0 x_io0_1 a_io0_2 a_1 x_7 b_11 a_71 x_72 x_73, r => ∀ {W h0 m0 h m bk_io0 b_io0_2_0 A_1 n_1 c_1 A_71 n_71 c_71} (O : Hold W h0 m0 h m [rV bk_io0 38 [(Value.int .i64 x_io0_0), (Value.int .i64 x_io0_1), (Value.map (some b_io0_2_0))], rM (monoV1 T_roadref4_Meaning.T) (fun s : ByteArray => Value.string s) b_io0_2_0 a_io0_2]) (ne_1 : n_1 = List.length a_1) (k_1 : List.length a_1 ≤ c_1) (r_1 : Rd 4 T_names_Row.E m A_1 a_1) (ne_71 : n_71 = List.length a_71) (k_71 : List.length a_71 ≤ c_71) (r_71 : Rd 4 T_names_Row.E m A_71 a_71), f14.j0 (roadlaw4_merged.post W bk_io0 h0 m0 r) (⟨bk_io0, 0, none⟩ : Addr) A_1 n_1 c_1 x_7 b_11 A_71 n_71 c_71 x_72 x_73 h
set_option maxHeartbeats 4000000 in
theorem roadlaw4_merged.l1_k.step_l1 (go : (p : roadlaw4_merged.l1_k.Pt) → Option (Int × T_roadref4_Names)) (ih : ∀ p r, go p = some r → roadlaw4_merged.l1_k.I p r) (x_io0_0 x_io0_1 a_io0_2 a_1 x_7 a_71 x_72 x_73) (r) (e : roadlaw4_merged.l1_k.body go (.l1 x_io0_0 x_io0_1 a_io0_2 a_1 x_7 a_71 x_72 x_73) = some r) : roadlaw4_merged.l1_k.I (.l1 x_io0_0 x_io0_1 a_io0_2 a_1 x_7 a_71 x_72 x_73) r := by
 unfold roadlaw4_merged.l1_k.body at e
 intro W h0 m0 h m bk_io0 b_io0_2_0 A_1 n_1 c_1 A_71 n_71 c_71 O ne_1 k_1 r_1 ne_71 k_71 r_71
 subst ne_1
 subst ne_71
 refine f14.l1_in ?_
 unfold f14.l1T
 refine split_dec_e e (fun c51 e => ?_) (fun c51 e => ?_)
 · obtain ⟨y1, g2, e⟩ := bind_e e
   refine r_71.addr rfl g2 fun a3 cs4 ha5 hc6 he7 => ?_
   refine ⟨_, ldAn O.s hc6 rfl, ?_⟩
   refine O.new fun h8 x9 O10 => ?_
   refine ⟨_, rfl, (T_names_Row.T.len _ _ _ he7), ?_⟩
   refine O10.stA 2 rfl (T_names_Row.T.len _ _ _ he7) (T_names_Row.T.flat _ _ _ he7) fun h12 O13 => ?_
   refine ⟨_, ldk (k := 2) (Sub.refl _) (O13.all 0 rfl) rfl, ?_⟩
   refine ⟨_, ld0 (Sub.refl _) (O13.all 2 rfl) (T_names_Row.g0 he7), _, rfl, ?_⟩
   refine ⟨?_, ?_⟩
   · refine (O13.om 1 rfl).look2 (zv := (T_roadref4_Meaning.mk (0 : Int) (0 : Int) (0 : Int))) (z := (Value.agg #[(Value.int .i64 (0 : Int)), (Value.int .i64 (0 : Int)), (Value.int .i64 (0 : Int))])) (keyOk_str (key := 9) (elem := 43) (by kernel_rfl) (by kernel_rfl)) y1.Name (by kernel_rfl) ⟨[(Value.int .i64 (0 : Int)), (Value.int .i64 (0 : Int)), (Value.int .i64 (0 : Int))], rfl, (show T_roadref4_Meaning.E _ (T_roadref4_Meaning.mk (0 : Int) (0 : Int) (0 : Int)) [(Value.int .i64 (0 : Int)), (Value.int .i64 (0 : Int)), (Value.int .i64 (0 : Int))] from rfl)⟩ (fun v26 hv27 => ?_)
     obtain ⟨cs28, rfl, he29⟩ := hv27
     refine ⟨_, _, rfl, ?_⟩
     refine O13.new fun h30 x31 O32 => ?_
     refine ⟨x31, ?_⟩
     refine ⟨_, rfl, (T_roadref4_Meaning.T.len _ _ _ he29), ?_⟩
     refine O32.stAO 3 rfl (T_roadref4_Meaning.T.len _ _ _ he29) (T_roadref4_Meaning.T.flat _ _ _ he29) fun h34 S36 O35 => ?_
     have O37 := O35.nm
     exact (ih _ _ e) (O37.pick [0, 1]).nm rfl k_1 r_1 rfl k_71 r_71
   · refine O13.new fun h38 x39 O40 => ?_
     refine ⟨x39, ?_⟩
     refine (O40.om 1 rfl).look2 (zv := (T_roadref4_Meaning.mk (0 : Int) (0 : Int) (0 : Int))) (z := (Value.agg #[(Value.int .i64 (0 : Int)), (Value.int .i64 (0 : Int)), (Value.int .i64 (0 : Int))])) (keyOk_str (key := 9) (elem := 43) (by kernel_rfl) (by kernel_rfl)) y1.Name (by kernel_rfl) ⟨[(Value.int .i64 (0 : Int)), (Value.int .i64 (0 : Int)), (Value.int .i64 (0 : Int))], rfl, (show T_roadref4_Meaning.E _ (T_roadref4_Meaning.mk (0 : Int) (0 : Int) (0 : Int)) [(Value.int .i64 (0 : Int)), (Value.int .i64 (0 : Int)), (Value.int .i64 (0 : Int))] from rfl)⟩ (fun v42 hv43 => ?_)
     obtain ⟨cs44, rfl, he45⟩ := hv43
     refine ⟨_, _, rfl, ?_⟩
     refine ⟨_, rfl, (T_roadref4_Meaning.T.len _ _ _ he45), ?_⟩
     refine O40.stAO 3 rfl (T_roadref4_Meaning.T.len _ _ _ he45) (T_roadref4_Meaning.T.flat _ _ _ he45) fun h46 S48 O47 => ?_
     have O49 := O47.nm
     exact (ih _ _ e) (O49.pick [0, 1]).nm rfl k_1 r_1 rfl k_71 r_71
 · refine ⟨_, ldk (k := 2) (Sub.refl _) (O.all 0 rfl) rfl, ?_⟩
   refine OM.len (t := 36) (key := 9) (elem := 43) (O.om 1 rfl) rfl (by kernel_rfl) ?_
   refine ⟨_, rfl, ?_⟩
   refine split_dec_e e (fun c50 e => ?_) (fun c50 e => ?_)
   · cases e
     exact ⟨_, _, O.pick [0, 1], rfl⟩
   · exact (roadlaw4_merged.l2_k.all e) (O.pick [0, 1]).nm rfl k_1 r_1
theorem roadlaw4_merged.l1_k.step_j0 (go : (p : roadlaw4_merged.l1_k.Pt) → Option (Int × T_roadref4_Names)) (ih : ∀ p r, go p = some r → roadlaw4_merged.l1_k.I p r) (x_io0_0 x_io0_1 a_io0_2 a_1 x_7 b_11 a_71 x_72 x_73) (r) (e : roadlaw4_merged.l1_k.body go (.j0 x_io0_0 x_io0_1 a_io0_2 a_1 x_7 b_11 a_71 x_72 x_73) = some r) : roadlaw4_merged.l1_k.I (.j0 x_io0_0 x_io0_1 a_io0_2 a_1 x_7 b_11 a_71 x_72 x_73) r := by
 unfold roadlaw4_merged.l1_k.body at e
 intro W h0 m0 h m bk_io0 b_io0_2_0 A_1 n_1 c_1 A_71 n_71 c_71 O ne_1 k_1 r_1 ne_71 k_71 r_71
 subst ne_1
 subst ne_71
 refine f14.j0_in ?_
 unfold f14.j0T
 refine split_not ?_
 refine split_any_e e (fun c1 e => ?_) (fun c1 e => ?_)
 · exact (ih _ _ e) (O.pick [0, 1]).nm rfl k_1 r_1 rfl k_71 r_71
 · exact (ih _ _ e) (O.pick [0, 1]).nm rfl k_1 r_1 rfl k_71 r_71
theorem roadlaw4_merged.l1_k.all {p : roadlaw4_merged.l1_k.Pt} {r : (Int × T_roadref4_Names)} (e : roadlaw4_merged.l1_k.go p = some r) : roadlaw4_merged.l1_k.I p r := fixF_ind (β := fun _ => (Int × T_roadref4_Names)) roadlaw4_merged.l1_k.mono (I := roadlaw4_merged.l1_k.I) (fun go ih p r e => match p with
 | .l1 x_io0_0 x_io0_1 a_io0_2 a_1 x_7 a_71 x_72 x_73 => roadlaw4_merged.l1_k.step_l1 go ih x_io0_0 x_io0_1 a_io0_2 a_1 x_7 a_71 x_72 x_73 r e
 | .j0 x_io0_0 x_io0_1 a_io0_2 a_1 x_7 b_11 a_71 x_72 x_73 => roadlaw4_merged.l1_k.step_j0 go ih x_io0_0 x_io0_1 a_io0_2 a_1 x_7 b_11 a_71 x_72 x_73 r e
 ) e
inductive roadlaw4_merged.l0_k.Pt where
 | l0 (x_io0_0 : Int) (x_io0_1 : Int) (a_io0_2 : (List (ByteArray × T_roadref4_Meaning))) (a_1 : List T_names_Row) (a_20 : List T_names_Row) (x_21 : Int) (x_22 : Int)
 | j1 (x_io0_0 : Int) (x_io0_1 : Int) (a_io0_2 : (List (ByteArray × T_roadref4_Meaning))) (a_1 : List T_names_Row) (x_5 : Int) (y_6 : T_names_Row) (a_20 : List T_names_Row) (x_21 : Int) (x_22 : Int) (b_32 : Bool)
noncomputable def roadlaw4_merged.l0_k.body (go : (p : roadlaw4_merged.l0_k.Pt) → Option (Int × T_roadref4_Names)) : (p : roadlaw4_merged.l0_k.Pt) → Option (Int × T_roadref4_Names)
 | .l0 x_io0_0 x_io0_1 a_io0_2 a_1 a_20 x_21 x_22 => if x_22 < x_21 then (Option.bind (gi a_20 x_22) fun y1 => Option.bind (roadref4_Word y1.Name) fun y14 => if y14 = true then (if y1.Ref < (0 : Int) then ((go (.j1 x_io0_0 x_io0_1 a_io0_2 a_1 x_22 y1 a_20 x_21 x_22 true))) else (if y1.Count < (1 : Int) then ((go (.j1 x_io0_0 x_io0_1 a_io0_2 a_1 x_22 y1 a_20 x_21 x_22 true))) else (if y1.Count > (1099511627776 : Int) then ((go (.j1 x_io0_0 x_io0_1 a_io0_2 a_1 x_22 y1 a_20 x_21 x_22 true))) else (if y1.Node < (1 : Int) then ((go (.j1 x_io0_0 x_io0_1 a_io0_2 a_1 x_22 y1 a_20 x_21 x_22 true))) else ((go (.j1 x_io0_0 x_io0_1 a_io0_2 a_1 x_22 y1 a_20 x_21 x_22 (decide (y1.Node > (8 : Int)))))))))) else (some ((3 : Int), (T_roadref4_Names.mk x_io0_0 x_io0_1 a_io0_2)))) else ((roadlaw4_merged.l1 x_io0_0 x_io0_1 a_io0_2 a_1 (0 : Int) a_1 (((List.length a_1) : Nat) : Int) (0 : Int)))
 | .j1 x_io0_0 x_io0_1 a_io0_2 a_1 x_5 y_6 a_20 x_21 x_22 b_32 => if b_32 = true then (some ((1 : Int), (T_roadref4_Names.mk x_io0_0 x_io0_1 a_io0_2))) else (if x_5 > (0 : Int) then (Option.bind (gi a_1 (IntKind.wrap .i64 (x_5 - (1 : Int)))) fun y1 => if (Op.bytesLess (ByteArray.toList y_6.Name) (ByteArray.toList y1.Name) || (decide (y_6.Name = y1.Name))) = true then (some ((21 : Int), (T_roadref4_Names.mk x_io0_0 x_io0_1 a_io0_2))) else ((go (.l0 x_io0_0 x_io0_1 a_io0_2 a_1 a_20 x_21 (IntKind.wrap .i64 (x_22 + (1 : Int))))))) else ((go (.l0 x_io0_0 x_io0_1 a_io0_2 a_1 a_20 x_21 (IntKind.wrap .i64 (x_22 + (1 : Int)))))))
theorem roadlaw4_merged.l0_k.mono : MonoF (β := fun _ => (Int × T_roadref4_Names)) roadlaw4_merged.l0_k.body := fun f g hfg p => match p with
 | .l0 x_io0_0 x_io0_1 a_io0_2 a_1 a_20 x_21 x_22 => LeO.ite (LeO.bind (LeO.refl _) fun y1 => LeO.bind (LeO.refl _) fun y14 => LeO.ite (LeO.ite ((hfg _)) (LeO.ite ((hfg _)) (LeO.ite ((hfg _)) (LeO.ite ((hfg _)) ((hfg _)))))) (LeO.refl _)) ((LeO.refl _))
 | .j1 x_io0_0 x_io0_1 a_io0_2 a_1 x_5 y_6 a_20 x_21 x_22 b_32 => LeO.ite (LeO.refl _) (LeO.ite (LeO.bind (LeO.refl _) fun y1 => LeO.ite (LeO.refl _) ((hfg _))) ((hfg _)))
noncomputable def roadlaw4_merged.l0_k.go (p : roadlaw4_merged.l0_k.Pt) : Option (Int × T_roadref4_Names) := fixF (β := fun _ => (Int × T_roadref4_Names)) roadlaw4_merged.l0_k.body p
noncomputable def roadlaw4_merged.l0 (x_io0_0 x_io0_1 a_io0_2 a_1 a_20 x_21 x_22) := roadlaw4_merged.l0_k.go (.l0 x_io0_0 x_io0_1 a_io0_2 a_1 a_20 x_21 x_22)
noncomputable def roadlaw4_merged.j1 (x_io0_0 x_io0_1 a_io0_2 a_1 x_5 y_6 a_20 x_21 x_22 b_32) := roadlaw4_merged.l0_k.go (.j1 x_io0_0 x_io0_1 a_io0_2 a_1 x_5 y_6 a_20 x_21 x_22 b_32)
theorem roadlaw4_merged.l0_eq (x_io0_0 x_io0_1 a_io0_2 a_1 a_20 x_21 x_22) : roadlaw4_merged.l0 x_io0_0 x_io0_1 a_io0_2 a_1 a_20 x_21 x_22 = if x_22 < x_21 then (Option.bind (gi a_20 x_22) fun y1 => Option.bind (roadref4_Word y1.Name) fun y14 => if y14 = true then (if y1.Ref < (0 : Int) then ((roadlaw4_merged.j1 x_io0_0 x_io0_1 a_io0_2 a_1 x_22 y1 a_20 x_21 x_22 true)) else (if y1.Count < (1 : Int) then ((roadlaw4_merged.j1 x_io0_0 x_io0_1 a_io0_2 a_1 x_22 y1 a_20 x_21 x_22 true)) else (if y1.Count > (1099511627776 : Int) then ((roadlaw4_merged.j1 x_io0_0 x_io0_1 a_io0_2 a_1 x_22 y1 a_20 x_21 x_22 true)) else (if y1.Node < (1 : Int) then ((roadlaw4_merged.j1 x_io0_0 x_io0_1 a_io0_2 a_1 x_22 y1 a_20 x_21 x_22 true)) else ((roadlaw4_merged.j1 x_io0_0 x_io0_1 a_io0_2 a_1 x_22 y1 a_20 x_21 x_22 (decide (y1.Node > (8 : Int))))))))) else (some ((3 : Int), (T_roadref4_Names.mk x_io0_0 x_io0_1 a_io0_2)))) else ((roadlaw4_merged.l1 x_io0_0 x_io0_1 a_io0_2 a_1 (0 : Int) a_1 (((List.length a_1) : Nat) : Int) (0 : Int))) := fixF_eq roadlaw4_merged.l0_k.mono _
theorem roadlaw4_merged.j1_eq (x_io0_0 x_io0_1 a_io0_2 a_1 x_5 y_6 a_20 x_21 x_22 b_32) : roadlaw4_merged.j1 x_io0_0 x_io0_1 a_io0_2 a_1 x_5 y_6 a_20 x_21 x_22 b_32 = if b_32 = true then (some ((1 : Int), (T_roadref4_Names.mk x_io0_0 x_io0_1 a_io0_2))) else (if x_5 > (0 : Int) then (Option.bind (gi a_1 (IntKind.wrap .i64 (x_5 - (1 : Int)))) fun y1 => if (Op.bytesLess (ByteArray.toList y_6.Name) (ByteArray.toList y1.Name) || (decide (y_6.Name = y1.Name))) = true then (some ((21 : Int), (T_roadref4_Names.mk x_io0_0 x_io0_1 a_io0_2))) else ((roadlaw4_merged.l0 x_io0_0 x_io0_1 a_io0_2 a_1 a_20 x_21 (IntKind.wrap .i64 (x_22 + (1 : Int)))))) else ((roadlaw4_merged.l0 x_io0_0 x_io0_1 a_io0_2 a_1 a_20 x_21 (IntKind.wrap .i64 (x_22 + (1 : Int)))))) := fixF_eq roadlaw4_merged.l0_k.mono _
def roadlaw4_merged.l0_k.I : (p : roadlaw4_merged.l0_k.Pt) → (Int × T_roadref4_Names) → Prop
 | .l0 x_io0_0 x_io0_1 a_io0_2 a_1 a_20 x_21 x_22, r => ∀ {W h0 m0 h m bk_io0 b_io0_2_0 A_1 n_1 c_1 A_20 n_20 c_20} (O : Hold W h0 m0 h m [rV bk_io0 38 [(Value.int .i64 x_io0_0), (Value.int .i64 x_io0_1), (Value.map (some b_io0_2_0))], rM (monoV1 T_roadref4_Meaning.T) (fun s : ByteArray => Value.string s) b_io0_2_0 a_io0_2]) (ne_1 : n_1 = List.length a_1) (k_1 : List.length a_1 ≤ c_1) (r_1 : Rd 4 T_names_Row.E m A_1 a_1) (ne_20 : n_20 = List.length a_20) (k_20 : List.length a_20 ≤ c_20) (r_20 : Rd 4 T_names_Row.E m A_20 a_20), f14.l0 (roadlaw4_merged.post W bk_io0 h0 m0 r) (⟨bk_io0, 0, none⟩ : Addr) A_1 n_1 c_1 A_20 n_20 c_20 x_21 x_22 h
 | .j1 x_io0_0 x_io0_1 a_io0_2 a_1 x_5 y_6 a_20 x_21 x_22 b_32, r => ∀ {W h0 m0 h m bk_io0 b_io0_2_0 A_1 n_1 c_1 bk_6 cs_6 A_20 n_20 c_20} (O : Hold W h0 m0 h m [rV bk_io0 38 [(Value.int .i64 x_io0_0), (Value.int .i64 x_io0_1), (Value.map (some b_io0_2_0))], rM (monoV1 T_roadref4_Meaning.T) (fun s : ByteArray => Value.string s) b_io0_2_0 a_io0_2, rV bk_6 33 cs_6]) (ne_1 : n_1 = List.length a_1) (k_1 : List.length a_1 ≤ c_1) (r_1 : Rd 4 T_names_Row.E m A_1 a_1) (e_6 : T_names_Row.E m y_6 cs_6) (ne_20 : n_20 = List.length a_20) (k_20 : List.length a_20 ≤ c_20) (r_20 : Rd 4 T_names_Row.E m A_20 a_20), f14.j1 (roadlaw4_merged.post W bk_io0 h0 m0 r) (⟨bk_io0, 0, none⟩ : Addr) A_1 n_1 c_1 x_5 (⟨bk_6, 0, none⟩ : Addr) A_20 n_20 c_20 x_21 x_22 b_32 h
set_option maxHeartbeats 4000000 in
theorem roadlaw4_merged.l0_k.step_l0 (go : (p : roadlaw4_merged.l0_k.Pt) → Option (Int × T_roadref4_Names)) (ih : ∀ p r, go p = some r → roadlaw4_merged.l0_k.I p r) (x_io0_0 x_io0_1 a_io0_2 a_1 a_20 x_21 x_22) (r) (e : roadlaw4_merged.l0_k.body go (.l0 x_io0_0 x_io0_1 a_io0_2 a_1 a_20 x_21 x_22) = some r) : roadlaw4_merged.l0_k.I (.l0 x_io0_0 x_io0_1 a_io0_2 a_1 a_20 x_21 x_22) r := by
 unfold roadlaw4_merged.l0_k.body at e
 intro W h0 m0 h m bk_io0 b_io0_2_0 A_1 n_1 c_1 A_20 n_20 c_20 O ne_1 k_1 r_1 ne_20 k_20 r_20
 subst ne_1
 subst ne_20
 refine f14.l0_in ?_
 unfold f14.l0T
 refine split_dec_e e (fun c26 e => ?_) (fun c26 e => ?_)
 · obtain ⟨y1, g2, e⟩ := bind_e e
   refine r_20.addr rfl g2 fun a3 cs4 ha5 hc6 he7 => ?_
   refine ⟨_, ldAn O.s hc6 rfl, ?_⟩
   refine O.new fun h8 x9 O10 => ?_
   refine ⟨_, rfl, (T_names_Row.T.len _ _ _ he7), ?_⟩
   refine O10.stA 2 rfl (T_names_Row.T.len _ _ _ he7) (T_names_Row.T.flat _ _ _ he7) fun h12 O13 => ?_
   refine ⟨_, ld0 (Sub.refl _) (O13.all 2 rfl) (T_names_Row.g0 he7), _, rfl, ?_⟩
   obtain ⟨y14, g15, e⟩ := bind_e e
   refine (roadref4_Word.walk (Hold.start (W := No) O13.s)  g15).mono ?_
   rintro _ h16 ⟨m17, Q18, rfl⟩
   have O20 := Hold.nm (O13.retC Q18 vfs_nil)
   refine ⟨_, rfl, ?_⟩
   refine split_not ?_
   refine split_any_e e (fun c25 e => ?_) (fun c25 e => ?_)
   · refine ⟨_, ldk (k := 1) (Sub.refl _) (O20.all 2 rfl) (T_names_Row.g1 he7), _, rfl, ?_⟩
     refine split_dec_e e (fun c24 e => ?_) (fun c24 e => ?_)
     · exact (ih _ _ e) (O20.pick [0, 1, 2]).nm rfl k_1 r_1 he7 rfl k_20 r_20
     · refine ⟨_, ldk (k := 2) (Sub.refl _) (O20.all 2 rfl) (T_names_Row.g2 he7), _, rfl, ?_⟩
       refine split_dec_e e (fun c23 e => ?_) (fun c23 e => ?_)
       · exact (ih _ _ e) (O20.pick [0, 1, 2]).nm rfl k_1 r_1 he7 rfl k_20 r_20
       · refine ⟨_, ldk (k := 2) (Sub.refl _) (O20.all 2 rfl) (T_names_Row.g2 he7), _, rfl, ?_⟩
         refine split_dec_e e (fun c22 e => ?_) (fun c22 e => ?_)
         · exact (ih _ _ e) (O20.pick [0, 1, 2]).nm rfl k_1 r_1 he7 rfl k_20 r_20
         · refine ⟨_, ldk (k := 3) (Sub.refl _) (O20.all 2 rfl) (T_names_Row.g3 he7), _, rfl, ?_⟩
           refine split_dec_e e (fun c21 e => ?_) (fun c21 e => ?_)
           · exact (ih _ _ e) (O20.pick [0, 1, 2]).nm rfl k_1 r_1 he7 rfl k_20 r_20
           · refine ⟨_, ldk (k := 3) (Sub.refl _) (O20.all 2 rfl) (T_names_Row.g3 he7), _, rfl, ?_⟩
             exact (ih _ _ e) (O20.pick [0, 1, 2]).nm rfl k_1 r_1 he7 rfl k_20 r_20
   · cases e
     exact ⟨_, _, O20.pick [0, 1], rfl⟩
 · exact (roadlaw4_merged.l1_k.all e) (O.pick [0, 1]).nm rfl k_1 r_1 rfl k_1 r_1
theorem roadlaw4_merged.l0_k.step_j1 (go : (p : roadlaw4_merged.l0_k.Pt) → Option (Int × T_roadref4_Names)) (ih : ∀ p r, go p = some r → roadlaw4_merged.l0_k.I p r) (x_io0_0 x_io0_1 a_io0_2 a_1 x_5 y_6 a_20 x_21 x_22 b_32) (r) (e : roadlaw4_merged.l0_k.body go (.j1 x_io0_0 x_io0_1 a_io0_2 a_1 x_5 y_6 a_20 x_21 x_22 b_32) = some r) : roadlaw4_merged.l0_k.I (.j1 x_io0_0 x_io0_1 a_io0_2 a_1 x_5 y_6 a_20 x_21 x_22 b_32) r := by
 unfold roadlaw4_merged.l0_k.body at e
 intro W h0 m0 h m bk_io0 b_io0_2_0 A_1 n_1 c_1 bk_6 cs_6 A_20 n_20 c_20 O ne_1 k_1 r_1 e_6 ne_20 k_20 r_20
 subst ne_1
 subst ne_20
 refine f14.j1_in ?_
 unfold f14.j1T
 refine split_any_e e (fun c10 e => ?_) (fun c10 e => ?_)
 · cases e
   exact ⟨_, _, O.pick [0, 1], rfl⟩
 · refine split_dec_e e (fun c9 e => ?_) (fun c9 e => ?_)
   · obtain ⟨y1, g2, e⟩ := bind_e e
     refine r_1.addr rfl g2 fun a3 cs4 ha5 hc6 he7 => ?_
     refine ⟨_, ld0 (Sub.refl _) (O.all 2 rfl) (T_names_Row.g0 e_6), _, rfl, ?_⟩
     refine ⟨_, ld0 O.s hc6 (T_names_Row.g0 he7), _, rfl, ?_⟩
     try rw [ba_list y_6.Name y1.Name]
     refine split_any_e e (fun c8 e => ?_) (fun c8 e => ?_)
     · cases e
       exact ⟨_, _, O.pick [0, 1], rfl⟩
     · exact (ih _ _ e) (O.pick [0, 1]).nm rfl k_1 r_1 rfl k_20 r_20
   · exact (ih _ _ e) (O.pick [0, 1]).nm rfl k_1 r_1 rfl k_20 r_20
theorem roadlaw4_merged.l0_k.all {p : roadlaw4_merged.l0_k.Pt} {r : (Int × T_roadref4_Names)} (e : roadlaw4_merged.l0_k.go p = some r) : roadlaw4_merged.l0_k.I p r := fixF_ind (β := fun _ => (Int × T_roadref4_Names)) roadlaw4_merged.l0_k.mono (I := roadlaw4_merged.l0_k.I) (fun go ih p r e => match p with
 | .l0 x_io0_0 x_io0_1 a_io0_2 a_1 a_20 x_21 x_22 => roadlaw4_merged.l0_k.step_l0 go ih x_io0_0 x_io0_1 a_io0_2 a_1 a_20 x_21 x_22 r e
 | .j1 x_io0_0 x_io0_1 a_io0_2 a_1 x_5 y_6 a_20 x_21 x_22 b_32 => roadlaw4_merged.l0_k.step_j1 go ih x_io0_0 x_io0_1 a_io0_2 a_1 x_5 y_6 a_20 x_21 x_22 b_32 r e
 ) e
noncomputable def roadlaw4_merged (y_0 : T_roadref4_Names) (a_1 : List T_names_Row) : Option (Int × T_roadref4_Names) :=
 if (((List.length a_1) : Nat) : Int) > (60 : Int) then (some ((2 : Int), (T_roadref4_Names.mk y_0.Node y_0.Count y_0.Rows))) else ((roadlaw4_merged.l0 y_0.Node y_0.Count y_0.Rows a_1 a_1 (((List.length a_1) : Nat) : Int) (0 : Int)))
theorem roadlaw4_merged.walk {W h m bkio0 b_0_2 A_1 n_1 c_1 y_0 a_1} (O : Hold W h m h m [rV bkio0 38 [(Value.int .i64 y_0.Node), (Value.int .i64 y_0.Count), (Value.map (some b_0_2))], rM (monoV1 T_roadref4_Meaning.T) (fun s : ByteArray => Value.string s) b_0_2 y_0.Rows]) (ne_1 : n_1 = List.length a_1) (k_1 : List.length a_1 ≤ c_1) (r_1 : Rd 4 T_names_Row.E m A_1 a_1) {r} (e : roadlaw4_merged y_0 a_1 = some r) : Run Tryd.prog 14 #[Value.pointer (some ⟨bkio0, 0, none⟩), Value.slice A_1 n_1 c_1] h (roadlaw4_merged.post W bkio0 h m r) := by
 unfold roadlaw4_merged at e
 subst ne_1
 refine f14.run ?_
 unfold f14.runT
 refine split_dec_e e (fun c1 e => ?_) (fun c1 e => ?_)
 · cases e
   exact ⟨_, _, O.pick [0, 1], rfl⟩
 · exact (roadlaw4_merged.l0_k.all e) (O.pick [0, 1]).nm rfl k_1 r_1 rfl k_1 r_1
def cmp_isNaN_88.post (W : Nat → Prop) (h0 m0 : Heap) (r : Bool) (v : Value) (h : Heap) : Prop := ∃ m , Hold W h0 m0 h m [] ∧ v = .bool r
noncomputable def cmp_isNaN_88 (s_0 : ByteArray) : Option (Bool) :=
 some ((!(decide (s_0 = s_0))))
theorem cmp_isNaN_88.walk {W h m s_0} (O : Hold W h m h m []) {r} (e : cmp_isNaN_88 s_0 = some r) : Run Tryd.prog 88 #[Value.string s_0] h (cmp_isNaN_88.post W h m r) := by
 unfold cmp_isNaN_88 at e
 refine f88.run ?_
 unfold f88.runT
 try rw [ba_list s_0 s_0]
 cases e
 exact ⟨_, O.pick [], rfl⟩
def cmp_Less_76.post (W : Nat → Prop) (h0 m0 : Heap) (r : Bool) (v : Value) (h : Heap) : Prop := ∃ m , Hold W h0 m0 h m [] ∧ v = .bool r
noncomputable def cmp_Less_76 (s_0 : ByteArray) (s_1 : ByteArray) : Option (Bool) :=
 Option.bind (cmp_isNaN_88 s_0) fun y1 => if y1 = true then (Option.bind (cmp_isNaN_88 s_1) fun y8 => if y8 = true then (some ((Op.bytesLess (ByteArray.toList s_0) (ByteArray.toList s_1)))) else (some (true))) else (some ((Op.bytesLess (ByteArray.toList s_0) (ByteArray.toList s_1))))
theorem cmp_Less_76.walk {W h m s_0 s_1} (O : Hold W h m h m []) {r} (e : cmp_Less_76 s_0 s_1 = some r) : Run Tryd.prog 76 #[Value.string s_0, Value.string s_1] h (cmp_Less_76.post W h m r) := by
 unfold cmp_Less_76 at e
 refine f76.run ?_
 unfold f76.runT
 obtain ⟨y1, g2, e⟩ := bind_e e
 refine (cmp_isNaN_88.walk (Hold.start (W := No) O.s)  g2).mono ?_
 rintro _ h3 ⟨m4, Q5, rfl⟩
 have O7 := Hold.nm (O.retC Q5 vfs_nil)
 refine ⟨_, rfl, ?_⟩
 refine split_any_e e (fun c16 e => ?_) (fun c16 e => ?_)
 · obtain ⟨y8, g9, e⟩ := bind_e e
   refine (cmp_isNaN_88.walk (Hold.start (W := No) O7.s)  g9).mono ?_
   rintro _ h10 ⟨m11, Q12, rfl⟩
   have O14 := Hold.nm (O7.retC Q12 vfs_nil)
   refine ⟨_, rfl, ?_⟩
   refine split_not ?_
   refine split_any_e e (fun c15 e => ?_) (fun c15 e => ?_)
   · cases e
     exact ⟨_, O14.pick [], rfl⟩
   · cases e
     exact ⟨_, O14.pick [], rfl⟩
 · cases e
   exact ⟨_, O7.pick [], rfl⟩
def sq70.post (W : Nat → Prop) (Asl0 : Option Addr) (nsl0 csl0 : Nat) (h0 m0 : Heap) (r : (List ByteArray)) (v : Value) (h : Heap) : Prop := ∃ m , Hold W h0 m0 h m [rR (aE tell_str) Asl0 csl0 r] ∧ v = .tuple #[] ∧ nsl0 = List.length r
inductive sq70.l0_k.Pt where
 | l0 (a_0 : List ByteArray) (x_1 : Int) (x_2 : Int) (x_6 : Int)
 | l1 (a_0 : List ByteArray) (x_1 : Int) (x_2 : Int) (x_6 : Int) (x_7 : Int)
 | j1 (a_0 : List ByteArray) (x_1 : Int) (x_2 : Int) (x_6 : Int) (x_7 : Int)
 | j0 (a_0 : List ByteArray) (x_1 : Int) (x_2 : Int) (x_6 : Int)
noncomputable def sq70.l0_k.body (go : (p : sq70.l0_k.Pt) → Option ((List ByteArray))) : (p : sq70.l0_k.Pt) → Option ((List ByteArray))
 | .l0 a_0 x_1 x_2 x_6 => if x_6 < x_2 then ((go (.l1 a_0 x_1 x_2 x_6 x_6))) else (some (a_0))
 | .l1 a_0 x_1 x_2 x_6 x_7 => if x_7 > x_1 then (Option.bind (gi a_0 x_7) fun y1 => Option.bind (gi a_0 (IntKind.wrap .i64 (x_7 - (1 : Int)))) fun y8 => Option.bind (cmp_Less_76 y1 y8) fun y15 => if y15 = true then ((go (.j1 a_0 x_1 x_2 x_6 x_7))) else ((go (.j0 a_0 x_1 x_2 x_6)))) else ((go (.j0 a_0 x_1 x_2 x_6)))
 | .j1 a_0 x_1 x_2 x_6 x_7 => Option.bind (gi a_0 (IntKind.wrap .i64 (x_7 - (1 : Int)))) fun y1 => Option.bind (gi a_0 x_7) fun y8 => Option.bind (gi a_0 x_7) fun y15 => Option.bind (some (List.set a_0 (Int.toNat x_7) y1)) fun l24 => Option.bind (gi l24 (IntKind.wrap .i64 (x_7 - (1 : Int)))) fun y26 => Option.bind (some (List.set l24 (Int.toNat (IntKind.wrap .i64 (x_7 - (1 : Int)))) y8)) fun l35 => (go (.l1 l35 x_1 x_2 x_6 (IntKind.wrap .i64 (x_7 - (1 : Int)))))
 | .j0 a_0 x_1 x_2 x_6 => (go (.l0 a_0 x_1 x_2 (IntKind.wrap .i64 (x_6 + (1 : Int)))))
attribute [local irreducible] cmp_Less_76 in
theorem sq70.l0_k.mono : MonoF (β := fun _ => ((List ByteArray))) sq70.l0_k.body := fun f g hfg p => match p with
 | .l0 a_0 x_1 x_2 x_6 => LeO.ite ((hfg _)) (LeO.refl _)
 | .l1 a_0 x_1 x_2 x_6 x_7 => LeO.ite (LeO.bind (LeO.refl _) fun y1 => LeO.bind (LeO.refl _) fun y8 => LeO.bind (LeO.refl _) fun y15 => LeO.ite ((hfg _)) ((hfg _))) ((hfg _))
 | .j1 a_0 x_1 x_2 x_6 x_7 => LeO.bind (LeO.refl _) fun y1 => LeO.bind (LeO.refl _) fun y8 => LeO.bind (LeO.refl _) fun y15 => LeO.bind (LeO.refl _) fun l24 => LeO.bind (LeO.refl _) fun y26 => LeO.bind (LeO.refl _) fun l35 => (hfg _)
 | .j0 a_0 x_1 x_2 x_6 => (hfg _)
noncomputable def sq70.l0_k.go (p : sq70.l0_k.Pt) : Option ((List ByteArray)) := fixF (β := fun _ => ((List ByteArray))) sq70.l0_k.body p
noncomputable def sq70.l0 (a_0 x_1 x_2 x_6) := sq70.l0_k.go (.l0 a_0 x_1 x_2 x_6)
noncomputable def sq70.l1 (a_0 x_1 x_2 x_6 x_7) := sq70.l0_k.go (.l1 a_0 x_1 x_2 x_6 x_7)
noncomputable def sq70.j1 (a_0 x_1 x_2 x_6 x_7) := sq70.l0_k.go (.j1 a_0 x_1 x_2 x_6 x_7)
noncomputable def sq70.j0 (a_0 x_1 x_2 x_6) := sq70.l0_k.go (.j0 a_0 x_1 x_2 x_6)
theorem sq70.l0_eq (a_0 x_1 x_2 x_6) : sq70.l0 a_0 x_1 x_2 x_6 = if x_6 < x_2 then ((sq70.l1 a_0 x_1 x_2 x_6 x_6)) else (some (a_0)) := fixF_eq sq70.l0_k.mono _
theorem sq70.l1_eq (a_0 x_1 x_2 x_6 x_7) : sq70.l1 a_0 x_1 x_2 x_6 x_7 = if x_7 > x_1 then (Option.bind (gi a_0 x_7) fun y1 => Option.bind (gi a_0 (IntKind.wrap .i64 (x_7 - (1 : Int)))) fun y8 => Option.bind (cmp_Less_76 y1 y8) fun y15 => if y15 = true then ((sq70.j1 a_0 x_1 x_2 x_6 x_7)) else ((sq70.j0 a_0 x_1 x_2 x_6))) else ((sq70.j0 a_0 x_1 x_2 x_6)) := fixF_eq sq70.l0_k.mono _
theorem sq70.j1_eq (a_0 x_1 x_2 x_6 x_7) : sq70.j1 a_0 x_1 x_2 x_6 x_7 = Option.bind (gi a_0 (IntKind.wrap .i64 (x_7 - (1 : Int)))) fun y1 => Option.bind (gi a_0 x_7) fun y8 => Option.bind (gi a_0 x_7) fun y15 => Option.bind (some (List.set a_0 (Int.toNat x_7) y1)) fun l24 => Option.bind (gi l24 (IntKind.wrap .i64 (x_7 - (1 : Int)))) fun y26 => Option.bind (some (List.set l24 (Int.toNat (IntKind.wrap .i64 (x_7 - (1 : Int)))) y8)) fun l35 => (sq70.l1 l35 x_1 x_2 x_6 (IntKind.wrap .i64 (x_7 - (1 : Int)))) := fixF_eq sq70.l0_k.mono _
theorem sq70.j0_eq (a_0 x_1 x_2 x_6) : sq70.j0 a_0 x_1 x_2 x_6 = (sq70.l0 a_0 x_1 x_2 (IntKind.wrap .i64 (x_6 + (1 : Int)))) := fixF_eq sq70.l0_k.mono _
def sq70.l0_k.I : (p : sq70.l0_k.Pt) → ((List ByteArray)) → Prop
 | .l0 a_0 x_1 x_2 x_6, r => ∀ {W h0 m0 h m A_0 n_0 c_0} (O : Hold W h0 m0 h m [rR (aE tell_str) A_0 c_0 a_0]) (ne_0 : n_0 = List.length a_0), f70.l0 (sq70.post W A_0 n_0 c_0 h0 m0 r) A_0 n_0 c_0 x_1 x_2 x_6 h
 | .l1 a_0 x_1 x_2 x_6 x_7, r => ∀ {W h0 m0 h m A_0 n_0 c_0} (O : Hold W h0 m0 h m [rR (aE tell_str) A_0 c_0 a_0]) (ne_0 : n_0 = List.length a_0), f70.l1 (sq70.post W A_0 n_0 c_0 h0 m0 r) A_0 n_0 c_0 x_1 x_2 x_6 x_7 h
 | .j1 a_0 x_1 x_2 x_6 x_7, r => ∀ {W h0 m0 h m A_0 n_0 c_0} (O : Hold W h0 m0 h m [rR (aE tell_str) A_0 c_0 a_0]) (ne_0 : n_0 = List.length a_0), f70.j1 (sq70.post W A_0 n_0 c_0 h0 m0 r) A_0 n_0 c_0 x_1 x_2 x_6 x_7 h
 | .j0 a_0 x_1 x_2 x_6, r => ∀ {W h0 m0 h m A_0 n_0 c_0} (O : Hold W h0 m0 h m [rR (aE tell_str) A_0 c_0 a_0]) (ne_0 : n_0 = List.length a_0), f70.j0 (sq70.post W A_0 n_0 c_0 h0 m0 r) A_0 n_0 c_0 x_1 x_2 x_6 h
theorem sq70.l0_k.step_l0 (go : (p : sq70.l0_k.Pt) → Option ((List ByteArray))) (ih : ∀ p r, go p = some r → sq70.l0_k.I p r) (a_0 x_1 x_2 x_6) (r) (e : sq70.l0_k.body go (.l0 a_0 x_1 x_2 x_6) = some r) : sq70.l0_k.I (.l0 a_0 x_1 x_2 x_6) r := by
 unfold sq70.l0_k.body at e
 intro W h0 m0 h m A_0 n_0 c_0 O ne_0
 subst ne_0
 refine f70.l0_in ?_
 unfold f70.l0T
 refine split_dec_e e (fun c1 e => ?_) (fun c1 e => ?_)
 · exact (ih _ _ e) (O.pick [0]).nm rfl
 · cases e
   exact ⟨_, O.pick [0], rfl, rfl⟩
theorem sq70.l0_k.step_l1 (go : (p : sq70.l0_k.Pt) → Option ((List ByteArray))) (ih : ∀ p r, go p = some r → sq70.l0_k.I p r) (a_0 x_1 x_2 x_6 x_7) (r) (e : sq70.l0_k.body go (.l1 a_0 x_1 x_2 x_6 x_7) = some r) : sq70.l0_k.I (.l1 a_0 x_1 x_2 x_6 x_7) r := by
 unfold sq70.l0_k.body at e
 intro W h0 m0 h m A_0 n_0 c_0 O ne_0
 subst ne_0
 refine f70.l1_in ?_
 unfold f70.l1T
 refine split_dec_e e (fun c23 e => ?_) (fun c23 e => ?_)
 · obtain ⟨y1, g2, e⟩ := bind_e e
   refine (O.os 0 rfl).addr rfl g2 fun a3 cs4 ha5 hc6 he7 => ?_
   obtain rfl : cs4 = [(Value.string y1)] := he7
   obtain ⟨y8, g9, e⟩ := bind_e e
   refine (O.os 0 rfl).addr rfl g9 fun a10 cs11 ha12 hc13 he14 => ?_
   obtain rfl : cs11 = [(Value.string y8)] := he14
   refine ⟨_, ld0 (Sub.refl _) hc6 rfl, _, rfl, ?_⟩
   refine ⟨_, ld0 (Sub.refl _) hc13 rfl, _, rfl, ?_⟩
   obtain ⟨y15, g16, e⟩ := bind_e e
   refine (cmp_Less_76.walk (Hold.start (W := No) O.s)  g16).mono ?_
   rintro _ h17 ⟨m18, Q19, rfl⟩
   have O21 := Hold.nm (O.retC Q19 vfs_nil)
   refine ⟨_, rfl, ?_⟩
   refine split_any_e e (fun c22 e => ?_) (fun c22 e => ?_)
   · exact (ih _ _ e) (O21.pick [0]).nm rfl
   · exact (ih _ _ e) (O21.pick [0]).nm rfl
 · exact (ih _ _ e) (O.pick [0]).nm rfl
theorem sq70.l0_k.step_j1 (go : (p : sq70.l0_k.Pt) → Option ((List ByteArray))) (ih : ∀ p r, go p = some r → sq70.l0_k.I p r) (a_0 x_1 x_2 x_6 x_7) (r) (e : sq70.l0_k.body go (.j1 a_0 x_1 x_2 x_6 x_7) = some r) : sq70.l0_k.I (.j1 a_0 x_1 x_2 x_6 x_7) r := by
 unfold sq70.l0_k.body at e
 intro W h0 m0 h m A_0 n_0 c_0 O ne_0
 subst ne_0
 refine f70.j1_in ?_
 unfold f70.j1T
 obtain ⟨y1, g2, e⟩ := bind_e e
 refine (O.os 0 rfl).addr rfl g2 fun a3 cs4 ha5 hc6 he7 => ?_
 obtain rfl : cs4 = [(Value.string y1)] := he7
 obtain ⟨y8, g9, e⟩ := bind_e e
 refine (O.os 0 rfl).addr rfl g9 fun a10 cs11 ha12 hc13 he14 => ?_
 obtain rfl : cs11 = [(Value.string y8)] := he14
 refine ⟨_, ld0 (Sub.refl _) hc6 rfl, _, rfl, ?_⟩
 refine ⟨_, ld0 (Sub.refl _) hc13 rfl, _, rfl, ?_⟩
 obtain ⟨y15, g16, e⟩ := bind_e e
 refine (O.os 0 rfl).addr rfl g16 fun a17 cs18 ha19 hc20 he21 => ?_
 obtain rfl : cs18 = [(Value.string y15)] := he21
 obtain ⟨l24, g25, e⟩ := bind_e e
 replace g25 := Option.some.inj g25
 refine O.elst0 0 rfl g16 ha19 hc20 (by decide) (y' := y1) rfl trivial g25 fun h22 O23 => ?_
 obtain ⟨y26, g27, e⟩ := bind_e e
 refine (O23.os 0 rfl).addr (lset' g25) g27 fun a28 cs29 ha30 hc31 he32 => ?_
 obtain rfl : cs29 = [(Value.string y26)] := he32
 obtain ⟨l35, g36, e⟩ := bind_e e
 replace g36 := Option.some.inj g36
 refine O23.elst0 0 rfl g27 ha30 hc31 (by decide) (y' := y8) rfl trivial g36 fun h33 O34 => ?_
 have O37 := O34.nm
 exact (ih _ _ e) (O37.pick [0]).nm ((lset' g25).trans (lset' g36))
theorem sq70.l0_k.step_j0 (go : (p : sq70.l0_k.Pt) → Option ((List ByteArray))) (ih : ∀ p r, go p = some r → sq70.l0_k.I p r) (a_0 x_1 x_2 x_6) (r) (e : sq70.l0_k.body go (.j0 a_0 x_1 x_2 x_6) = some r) : sq70.l0_k.I (.j0 a_0 x_1 x_2 x_6) r := by
 unfold sq70.l0_k.body at e
 intro W h0 m0 h m A_0 n_0 c_0 O ne_0
 subst ne_0
 refine f70.j0_in ?_
 unfold f70.j0T
 exact (ih _ _ e) (O.pick [0]).nm rfl
theorem sq70.l0_k.all {p : sq70.l0_k.Pt} {r : ((List ByteArray))} (e : sq70.l0_k.go p = some r) : sq70.l0_k.I p r := fixF_ind (β := fun _ => ((List ByteArray))) sq70.l0_k.mono (I := sq70.l0_k.I) (fun go ih p r e => match p with
 | .l0 a_0 x_1 x_2 x_6 => sq70.l0_k.step_l0 go ih a_0 x_1 x_2 x_6 r e
 | .l1 a_0 x_1 x_2 x_6 x_7 => sq70.l0_k.step_l1 go ih a_0 x_1 x_2 x_6 x_7 r e
 | .j1 a_0 x_1 x_2 x_6 x_7 => sq70.l0_k.step_j1 go ih a_0 x_1 x_2 x_6 x_7 r e
 | .j0 a_0 x_1 x_2 x_6 => sq70.l0_k.step_j0 go ih a_0 x_1 x_2 x_6 r e
 ) e
noncomputable def sq70 (a_0 : List ByteArray) (x_1 : Int) (x_2 : Int) : Option ((List ByteArray)) :=
 (sq70.l0 a_0 x_1 x_2 (IntKind.wrap .i64 (x_1 + (1 : Int))))
theorem sq70.walk {W h m A_0 n_0 c_0 a_0 x_1 x_2} (O : Hold W h m h m [rR (aE tell_str) A_0 c_0 a_0]) (ne_0 : n_0 = List.length a_0) {r} (e : sq70 a_0 x_1 x_2 = some r) : Run Tryd.prog 70 #[Value.slice A_0 n_0 c_0, Value.int .i64 x_1, Value.int .i64 x_2] h (sq70.post W A_0 n_0 c_0 h m r) := by
 unfold sq70 at e
 subst ne_0
 refine f70.run ?_
 unfold f70.runT
 exact (sq70.l0_k.all e) (O.pick [0]).nm rfl
def sq83.post (W : Nat → Prop) (Asl0 : Option Addr) (nsl0 csl0 : Nat) (h0 m0 : Heap) (r : (List ByteArray)) (v : Value) (h : Heap) : Prop := ∃ m , Hold W h0 m0 h m [rR (aE tell_str) Asl0 csl0 r] ∧ v = .tuple #[] ∧ nsl0 = List.length r
inductive sq83.l0_k.Pt where
 | l0 (a_0 : List ByteArray) (x_2 : Int) (x_3 : Int) (x_8 : Int)
 | j1 (a_0 : List ByteArray) (x_2 : Int) (x_3 : Int) (x_8 : Int) (x_9 : Int) (b_36 : Bool)
 | j0 (a_0 : List ByteArray) (x_2 : Int) (x_3 : Int) (x_8 : Int) (x_9 : Int)
noncomputable def sq83.l0_k.body (go : (p : sq83.l0_k.Pt) → Option ((List ByteArray))) : (p : sq83.l0_k.Pt) → Option ((List ByteArray))
 | .l0 a_0 x_2 x_3 x_8 => if (IntKind.wrap .i64 ((IntKind.wrap .i64 ((2 : Int) * x_8)) + (1 : Int))) ≥ x_2 then (some (a_0)) else (if (IntKind.wrap .i64 ((IntKind.wrap .i64 ((IntKind.wrap .i64 ((2 : Int) * x_8)) + (1 : Int))) + (1 : Int))) < x_2 then (Option.bind (gi a_0 (IntKind.wrap .i64 (x_3 + (IntKind.wrap .i64 ((IntKind.wrap .i64 ((2 : Int) * x_8)) + (1 : Int)))))) fun y1 => Option.bind (gi a_0 (IntKind.wrap .i64 ((IntKind.wrap .i64 (x_3 + (IntKind.wrap .i64 ((IntKind.wrap .i64 ((2 : Int) * x_8)) + (1 : Int))))) + (1 : Int)))) fun y8 => Option.bind (cmp_Less_76 y1 y8) fun y15 => (go (.j1 a_0 x_2 x_3 x_8 (IntKind.wrap .i64 ((IntKind.wrap .i64 ((2 : Int) * x_8)) + (1 : Int))) y15))) else ((go (.j1 a_0 x_2 x_3 x_8 (IntKind.wrap .i64 ((IntKind.wrap .i64 ((2 : Int) * x_8)) + (1 : Int))) false))))
 | .j1 a_0 x_2 x_3 x_8 x_9 b_36 => if b_36 = true then ((go (.j0 a_0 x_2 x_3 x_8 (IntKind.wrap .i64 (x_9 + (1 : Int)))))) else ((go (.j0 a_0 x_2 x_3 x_8 x_9)))
 | .j0 a_0 x_2 x_3 x_8 x_9 => Option.bind (gi a_0 (IntKind.wrap .i64 (x_3 + x_8))) fun y1 => Option.bind (gi a_0 (IntKind.wrap .i64 (x_3 + x_9))) fun y8 => Option.bind (cmp_Less_76 y1 y8) fun y15 => if y15 = true then (Option.bind (gi a_0 (IntKind.wrap .i64 (x_3 + x_9))) fun y22 => Option.bind (gi a_0 (IntKind.wrap .i64 (x_3 + x_8))) fun y29 => Option.bind (gi a_0 (IntKind.wrap .i64 (x_3 + x_8))) fun y36 => Option.bind (some (List.set a_0 (Int.toNat (IntKind.wrap .i64 (x_3 + x_8))) y22)) fun l45 => Option.bind (gi l45 (IntKind.wrap .i64 (x_3 + x_9))) fun y47 => Option.bind (some (List.set l45 (Int.toNat (IntKind.wrap .i64 (x_3 + x_9))) y29)) fun l56 => (go (.l0 l56 x_2 x_3 x_9))) else (some (a_0))
attribute [local irreducible] cmp_Less_76 in
theorem sq83.l0_k.mono : MonoF (β := fun _ => ((List ByteArray))) sq83.l0_k.body := fun f g hfg p => match p with
 | .l0 a_0 x_2 x_3 x_8 => LeO.ite (LeO.refl _) (LeO.ite (LeO.bind (LeO.refl _) fun y1 => LeO.bind (LeO.refl _) fun y8 => LeO.bind (LeO.refl _) fun y15 => (hfg _)) ((hfg _)))
 | .j1 a_0 x_2 x_3 x_8 x_9 b_36 => LeO.ite ((hfg _)) ((hfg _))
 | .j0 a_0 x_2 x_3 x_8 x_9 => LeO.bind (LeO.refl _) fun y1 => LeO.bind (LeO.refl _) fun y8 => LeO.bind (LeO.refl _) fun y15 => LeO.ite (LeO.bind (LeO.refl _) fun y22 => LeO.bind (LeO.refl _) fun y29 => LeO.bind (LeO.refl _) fun y36 => LeO.bind (LeO.refl _) fun l45 => LeO.bind (LeO.refl _) fun y47 => LeO.bind (LeO.refl _) fun l56 => (hfg _)) (LeO.refl _)
noncomputable def sq83.l0_k.go (p : sq83.l0_k.Pt) : Option ((List ByteArray)) := fixF (β := fun _ => ((List ByteArray))) sq83.l0_k.body p
noncomputable def sq83.l0 (a_0 x_2 x_3 x_8) := sq83.l0_k.go (.l0 a_0 x_2 x_3 x_8)
noncomputable def sq83.j1 (a_0 x_2 x_3 x_8 x_9 b_36) := sq83.l0_k.go (.j1 a_0 x_2 x_3 x_8 x_9 b_36)
noncomputable def sq83.j0 (a_0 x_2 x_3 x_8 x_9) := sq83.l0_k.go (.j0 a_0 x_2 x_3 x_8 x_9)
theorem sq83.l0_eq (a_0 x_2 x_3 x_8) : sq83.l0 a_0 x_2 x_3 x_8 = if (IntKind.wrap .i64 ((IntKind.wrap .i64 ((2 : Int) * x_8)) + (1 : Int))) ≥ x_2 then (some (a_0)) else (if (IntKind.wrap .i64 ((IntKind.wrap .i64 ((IntKind.wrap .i64 ((2 : Int) * x_8)) + (1 : Int))) + (1 : Int))) < x_2 then (Option.bind (gi a_0 (IntKind.wrap .i64 (x_3 + (IntKind.wrap .i64 ((IntKind.wrap .i64 ((2 : Int) * x_8)) + (1 : Int)))))) fun y1 => Option.bind (gi a_0 (IntKind.wrap .i64 ((IntKind.wrap .i64 (x_3 + (IntKind.wrap .i64 ((IntKind.wrap .i64 ((2 : Int) * x_8)) + (1 : Int))))) + (1 : Int)))) fun y8 => Option.bind (cmp_Less_76 y1 y8) fun y15 => (sq83.j1 a_0 x_2 x_3 x_8 (IntKind.wrap .i64 ((IntKind.wrap .i64 ((2 : Int) * x_8)) + (1 : Int))) y15)) else ((sq83.j1 a_0 x_2 x_3 x_8 (IntKind.wrap .i64 ((IntKind.wrap .i64 ((2 : Int) * x_8)) + (1 : Int))) false))) := fixF_eq sq83.l0_k.mono _
theorem sq83.j1_eq (a_0 x_2 x_3 x_8 x_9 b_36) : sq83.j1 a_0 x_2 x_3 x_8 x_9 b_36 = if b_36 = true then ((sq83.j0 a_0 x_2 x_3 x_8 (IntKind.wrap .i64 (x_9 + (1 : Int))))) else ((sq83.j0 a_0 x_2 x_3 x_8 x_9)) := fixF_eq sq83.l0_k.mono _
theorem sq83.j0_eq (a_0 x_2 x_3 x_8 x_9) : sq83.j0 a_0 x_2 x_3 x_8 x_9 = Option.bind (gi a_0 (IntKind.wrap .i64 (x_3 + x_8))) fun y1 => Option.bind (gi a_0 (IntKind.wrap .i64 (x_3 + x_9))) fun y8 => Option.bind (cmp_Less_76 y1 y8) fun y15 => if y15 = true then (Option.bind (gi a_0 (IntKind.wrap .i64 (x_3 + x_9))) fun y22 => Option.bind (gi a_0 (IntKind.wrap .i64 (x_3 + x_8))) fun y29 => Option.bind (gi a_0 (IntKind.wrap .i64 (x_3 + x_8))) fun y36 => Option.bind (some (List.set a_0 (Int.toNat (IntKind.wrap .i64 (x_3 + x_8))) y22)) fun l45 => Option.bind (gi l45 (IntKind.wrap .i64 (x_3 + x_9))) fun y47 => Option.bind (some (List.set l45 (Int.toNat (IntKind.wrap .i64 (x_3 + x_9))) y29)) fun l56 => (sq83.l0 l56 x_2 x_3 x_9)) else (some (a_0)) := fixF_eq sq83.l0_k.mono _
def sq83.l0_k.I : (p : sq83.l0_k.Pt) → ((List ByteArray)) → Prop
 | .l0 a_0 x_2 x_3 x_8, r => ∀ {W h0 m0 h m A_0 n_0 c_0} (O : Hold W h0 m0 h m [rR (aE tell_str) A_0 c_0 a_0]) (ne_0 : n_0 = List.length a_0), f83.l0 (sq83.post W A_0 n_0 c_0 h0 m0 r) A_0 n_0 c_0 x_2 x_3 x_8 h
 | .j1 a_0 x_2 x_3 x_8 x_9 b_36, r => ∀ {W h0 m0 h m A_0 n_0 c_0} (O : Hold W h0 m0 h m [rR (aE tell_str) A_0 c_0 a_0]) (ne_0 : n_0 = List.length a_0), f83.j1 (sq83.post W A_0 n_0 c_0 h0 m0 r) A_0 n_0 c_0 x_2 x_3 x_8 x_9 b_36 h
 | .j0 a_0 x_2 x_3 x_8 x_9, r => ∀ {W h0 m0 h m A_0 n_0 c_0} (O : Hold W h0 m0 h m [rR (aE tell_str) A_0 c_0 a_0]) (ne_0 : n_0 = List.length a_0), f83.j0 (sq83.post W A_0 n_0 c_0 h0 m0 r) A_0 n_0 c_0 x_2 x_3 x_8 x_9 h
theorem sq83.l0_k.step_l0 (go : (p : sq83.l0_k.Pt) → Option ((List ByteArray))) (ih : ∀ p r, go p = some r → sq83.l0_k.I p r) (a_0 x_2 x_3 x_8) (r) (e : sq83.l0_k.body go (.l0 a_0 x_2 x_3 x_8) = some r) : sq83.l0_k.I (.l0 a_0 x_2 x_3 x_8) r := by
 unfold sq83.l0_k.body at e
 intro W h0 m0 h m A_0 n_0 c_0 O ne_0
 subst ne_0
 refine f83.l0_in ?_
 unfold f83.l0T
 refine split_dec_e e (fun c23 e => ?_) (fun c23 e => ?_)
 · cases e
   exact ⟨_, O.pick [0], rfl, rfl⟩
 · refine split_dec_e e (fun c22 e => ?_) (fun c22 e => ?_)
   · obtain ⟨y1, g2, e⟩ := bind_e e
     refine (O.os 0 rfl).addr rfl g2 fun a3 cs4 ha5 hc6 he7 => ?_
     obtain rfl : cs4 = [(Value.string y1)] := he7
     obtain ⟨y8, g9, e⟩ := bind_e e
     refine (O.os 0 rfl).addr rfl g9 fun a10 cs11 ha12 hc13 he14 => ?_
     obtain rfl : cs11 = [(Value.string y8)] := he14
     refine ⟨_, ld0 (Sub.refl _) hc6 rfl, _, rfl, ?_⟩
     refine ⟨_, ld0 (Sub.refl _) hc13 rfl, _, rfl, ?_⟩
     obtain ⟨y15, g16, e⟩ := bind_e e
     refine (cmp_Less_76.walk (Hold.start (W := No) O.s)  g16).mono ?_
     rintro _ h17 ⟨m18, Q19, rfl⟩
     have O21 := Hold.nm (O.retC Q19 vfs_nil)
     refine ⟨_, rfl, ?_⟩
     exact (ih _ _ e) (O21.pick [0]).nm rfl
   · exact (ih _ _ e) (O.pick [0]).nm rfl
theorem sq83.l0_k.step_j1 (go : (p : sq83.l0_k.Pt) → Option ((List ByteArray))) (ih : ∀ p r, go p = some r → sq83.l0_k.I p r) (a_0 x_2 x_3 x_8 x_9 b_36) (r) (e : sq83.l0_k.body go (.j1 a_0 x_2 x_3 x_8 x_9 b_36) = some r) : sq83.l0_k.I (.j1 a_0 x_2 x_3 x_8 x_9 b_36) r := by
 unfold sq83.l0_k.body at e
 intro W h0 m0 h m A_0 n_0 c_0 O ne_0
 subst ne_0
 refine f83.j1_in ?_
 unfold f83.j1T
 refine split_any_e e (fun c1 e => ?_) (fun c1 e => ?_)
 · exact (ih _ _ e) (O.pick [0]).nm rfl
 · exact (ih _ _ e) (O.pick [0]).nm rfl
set_option maxHeartbeats 4000000 in
theorem sq83.l0_k.step_j0 (go : (p : sq83.l0_k.Pt) → Option ((List ByteArray))) (ih : ∀ p r, go p = some r → sq83.l0_k.I p r) (a_0 x_2 x_3 x_8 x_9) (r) (e : sq83.l0_k.body go (.j0 a_0 x_2 x_3 x_8 x_9) = some r) : sq83.l0_k.I (.j0 a_0 x_2 x_3 x_8 x_9) r := by
 unfold sq83.l0_k.body at e
 intro W h0 m0 h m A_0 n_0 c_0 O ne_0
 subst ne_0
 refine f83.j0_in ?_
 unfold f83.j0T
 obtain ⟨y1, g2, e⟩ := bind_e e
 refine (O.os 0 rfl).addr rfl g2 fun a3 cs4 ha5 hc6 he7 => ?_
 obtain rfl : cs4 = [(Value.string y1)] := he7
 obtain ⟨y8, g9, e⟩ := bind_e e
 refine (O.os 0 rfl).addr rfl g9 fun a10 cs11 ha12 hc13 he14 => ?_
 obtain rfl : cs11 = [(Value.string y8)] := he14
 refine ⟨_, ld0 (Sub.refl _) hc6 rfl, _, rfl, ?_⟩
 refine ⟨_, ld0 (Sub.refl _) hc13 rfl, _, rfl, ?_⟩
 obtain ⟨y15, g16, e⟩ := bind_e e
 refine (cmp_Less_76.walk (Hold.start (W := No) O.s)  g16).mono ?_
 rintro _ h17 ⟨m18, Q19, rfl⟩
 have O21 := Hold.nm (O.retC Q19 vfs_nil)
 refine ⟨_, rfl, ?_⟩
 refine split_not ?_
 refine split_any_e e (fun c59 e => ?_) (fun c59 e => ?_)
 · obtain ⟨y22, g23, e⟩ := bind_e e
   refine (O21.os 0 rfl).addr rfl g23 fun a24 cs25 ha26 hc27 he28 => ?_
   obtain rfl : cs25 = [(Value.string y22)] := he28
   obtain ⟨y29, g30, e⟩ := bind_e e
   refine (O21.os 0 rfl).addr rfl g30 fun a31 cs32 ha33 hc34 he35 => ?_
   obtain rfl : cs32 = [(Value.string y29)] := he35
   refine ⟨_, ld0 (Sub.refl _) hc27 rfl, _, rfl, ?_⟩
   refine ⟨_, ld0 (Sub.refl _) hc34 rfl, _, rfl, ?_⟩
   obtain ⟨y36, g37, e⟩ := bind_e e
   refine (O21.os 0 rfl).addr rfl g37 fun a38 cs39 ha40 hc41 he42 => ?_
   obtain rfl : cs39 = [(Value.string y36)] := he42
   obtain ⟨l45, g46, e⟩ := bind_e e
   replace g46 := Option.some.inj g46
   refine O21.elst0 0 rfl g37 ha40 hc41 (by decide) (y' := y22) rfl trivial g46 fun h43 O44 => ?_
   obtain ⟨y47, g48, e⟩ := bind_e e
   refine (O44.os 0 rfl).addr (lset' g46) g48 fun a49 cs50 ha51 hc52 he53 => ?_
   obtain rfl : cs50 = [(Value.string y47)] := he53
   obtain ⟨l56, g57, e⟩ := bind_e e
   replace g57 := Option.some.inj g57
   refine O44.elst0 0 rfl g48 ha51 hc52 (by decide) (y' := y29) rfl trivial g57 fun h54 O55 => ?_
   have O58 := O55.nm
   exact (ih _ _ e) (O58.pick [0]).nm ((lset' g46).trans (lset' g57))
 · cases e
   exact ⟨_, O21.pick [0], rfl, rfl⟩
theorem sq83.l0_k.all {p : sq83.l0_k.Pt} {r : ((List ByteArray))} (e : sq83.l0_k.go p = some r) : sq83.l0_k.I p r := fixF_ind (β := fun _ => ((List ByteArray))) sq83.l0_k.mono (I := sq83.l0_k.I) (fun go ih p r e => match p with
 | .l0 a_0 x_2 x_3 x_8 => sq83.l0_k.step_l0 go ih a_0 x_2 x_3 x_8 r e
 | .j1 a_0 x_2 x_3 x_8 x_9 b_36 => sq83.l0_k.step_j1 go ih a_0 x_2 x_3 x_8 x_9 b_36 r e
 | .j0 a_0 x_2 x_3 x_8 x_9 => sq83.l0_k.step_j0 go ih a_0 x_2 x_3 x_8 x_9 r e
 ) e
noncomputable def sq83 (a_0 : List ByteArray) (x_1 : Int) (x_2 : Int) (x_3 : Int) : Option ((List ByteArray)) :=
 (sq83.l0 a_0 x_2 x_3 x_1)
theorem sq83.walk {W h m A_0 n_0 c_0 a_0 x_1 x_2 x_3} (O : Hold W h m h m [rR (aE tell_str) A_0 c_0 a_0]) (ne_0 : n_0 = List.length a_0) {r} (e : sq83 a_0 x_1 x_2 x_3 = some r) : Run Tryd.prog 83 #[Value.slice A_0 n_0 c_0, Value.int .i64 x_1, Value.int .i64 x_2, Value.int .i64 x_3] h (sq83.post W A_0 n_0 c_0 h m r) := by
 unfold sq83 at e
 subst ne_0
 refine f83.run ?_
 unfold f83.runT
 exact (sq83.l0_k.all e) (O.pick [0]).nm rfl
def sq71.post (W : Nat → Prop) (Asl0 : Option Addr) (nsl0 csl0 : Nat) (h0 m0 : Heap) (r : (List ByteArray)) (v : Value) (h : Heap) : Prop := ∃ m , Hold W h0 m0 h m [rR (aE tell_str) Asl0 csl0 r] ∧ v = .tuple #[] ∧ nsl0 = List.length r
inductive sq71.l1_k.Pt where
 | l1 (a_0 : List ByteArray) (x_6 : Int) (x_7 : Int) (x_10 : Int)
noncomputable def sq71.l1_k.body (go : (p : sq71.l1_k.Pt) → Option ((List ByteArray))) : (p : sq71.l1_k.Pt) → Option ((List ByteArray))
 | .l1 a_0 x_6 x_7 x_10 => if x_10 ≥ (0 : Int) then (Option.bind (gi a_0 (IntKind.wrap .i64 (x_6 + x_10))) fun y1 => Option.bind (gi a_0 x_6) fun y8 => Option.bind (gi a_0 x_6) fun y15 => Option.bind (some (List.set a_0 (Int.toNat x_6) y1)) fun l24 => Option.bind (gi l24 (IntKind.wrap .i64 (x_6 + x_10))) fun y26 => Option.bind (some (List.set l24 (Int.toNat (IntKind.wrap .i64 (x_6 + x_10))) y8)) fun l35 => Option.bind (sq83 l35 x_7 x_10 x_6) fun y37 => (go (.l1 y37 x_6 x_7 (IntKind.wrap .i64 (x_10 - (1 : Int)))))) else (some (a_0))
theorem sq71.l1_k.mono : MonoF (β := fun _ => ((List ByteArray))) sq71.l1_k.body := fun f g hfg p => match p with
 | .l1 a_0 x_6 x_7 x_10 => LeO.ite (LeO.bind (LeO.refl _) fun y1 => LeO.bind (LeO.refl _) fun y8 => LeO.bind (LeO.refl _) fun y15 => LeO.bind (LeO.refl _) fun l24 => LeO.bind (LeO.refl _) fun y26 => LeO.bind (LeO.refl _) fun l35 => LeO.bind (LeO.refl _) fun y37 => (hfg _)) (LeO.refl _)
noncomputable def sq71.l1_k.go (p : sq71.l1_k.Pt) : Option ((List ByteArray)) := fixF (β := fun _ => ((List ByteArray))) sq71.l1_k.body p
noncomputable def sq71.l1 (a_0 x_6 x_7 x_10) := sq71.l1_k.go (.l1 a_0 x_6 x_7 x_10)
theorem sq71.l1_eq (a_0 x_6 x_7 x_10) : sq71.l1 a_0 x_6 x_7 x_10 = if x_10 ≥ (0 : Int) then (Option.bind (gi a_0 (IntKind.wrap .i64 (x_6 + x_10))) fun y1 => Option.bind (gi a_0 x_6) fun y8 => Option.bind (gi a_0 x_6) fun y15 => Option.bind (some (List.set a_0 (Int.toNat x_6) y1)) fun l24 => Option.bind (gi l24 (IntKind.wrap .i64 (x_6 + x_10))) fun y26 => Option.bind (some (List.set l24 (Int.toNat (IntKind.wrap .i64 (x_6 + x_10))) y8)) fun l35 => Option.bind (sq83 l35 x_7 x_10 x_6) fun y37 => (sq71.l1 y37 x_6 x_7 (IntKind.wrap .i64 (x_10 - (1 : Int))))) else (some (a_0)) := fixF_eq sq71.l1_k.mono _
def sq71.l1_k.I : (p : sq71.l1_k.Pt) → ((List ByteArray)) → Prop
 | .l1 a_0 x_6 x_7 x_10, r => ∀ {W h0 m0 h m A_0 n_0 c_0} (O : Hold W h0 m0 h m [rR (aE tell_str) A_0 c_0 a_0]) (ne_0 : n_0 = List.length a_0), f71.l1 (sq71.post W A_0 n_0 c_0 h0 m0 r) A_0 n_0 c_0 x_6 x_7 x_10 h
set_option maxHeartbeats 4000000 in
theorem sq71.l1_k.step_l1 (go : (p : sq71.l1_k.Pt) → Option ((List ByteArray))) (ih : ∀ p r, go p = some r → sq71.l1_k.I p r) (a_0 x_6 x_7 x_10) (r) (e : sq71.l1_k.body go (.l1 a_0 x_6 x_7 x_10) = some r) : sq71.l1_k.I (.l1 a_0 x_6 x_7 x_10) r := by
 unfold sq71.l1_k.body at e
 intro W h0 m0 h m A_0 n_0 c_0 O ne_0
 subst ne_0
 refine f71.l1_in ?_
 unfold f71.l1T
 refine split_dec_e e (fun c50 e => ?_) (fun c50 e => ?_)
 · obtain ⟨y1, g2, e⟩ := bind_e e
   refine (O.os 0 rfl).addr rfl g2 fun a3 cs4 ha5 hc6 he7 => ?_
   obtain rfl : cs4 = [(Value.string y1)] := he7
   obtain ⟨y8, g9, e⟩ := bind_e e
   refine (O.os 0 rfl).addr rfl g9 fun a10 cs11 ha12 hc13 he14 => ?_
   obtain rfl : cs11 = [(Value.string y8)] := he14
   refine ⟨_, ld0 (Sub.refl _) hc6 rfl, _, rfl, ?_⟩
   refine ⟨_, ld0 (Sub.refl _) hc13 rfl, _, rfl, ?_⟩
   obtain ⟨y15, g16, e⟩ := bind_e e
   refine (O.os 0 rfl).addr rfl g16 fun a17 cs18 ha19 hc20 he21 => ?_
   obtain rfl : cs18 = [(Value.string y15)] := he21
   obtain ⟨l24, g25, e⟩ := bind_e e
   replace g25 := Option.some.inj g25
   refine O.elst0 0 rfl g16 ha19 hc20 (by decide) (y' := y1) rfl trivial g25 fun h22 O23 => ?_
   obtain ⟨y26, g27, e⟩ := bind_e e
   refine (O23.os 0 rfl).addr (lset' g25) g27 fun a28 cs29 ha30 hc31 he32 => ?_
   obtain rfl : cs29 = [(Value.string y26)] := he32
   obtain ⟨l35, g36, e⟩ := bind_e e
   replace g36 := Option.some.inj g36
   refine O23.elst0 0 rfl g27 ha30 hc31 (by decide) (y' := y8) rfl trivial g36 fun h33 O34 => ?_
   obtain ⟨y37, g38, e⟩ := bind_e e
   have O43 := O34.nm
   obtain ⟨W44, P45, B46, C47⟩ := O43.callC [0]
   refine (sq83.walk P45 ((lset' g25).trans (lset' g36)) g38).mono ?_
   rintro _ h39 ⟨m40, Q41, rfl, hl48⟩
   have O49 := Hold.nm (C47 Q41 (vfs_cons (rR_vf (aE_vf (fun _ _ _ _ h => h))) vfs_nil))
   refine ⟨rfl, ?_⟩
   exact (ih _ _ e) (O49.pick [1]).nm hl48
 · cases e
   exact ⟨_, O.pick [0], rfl, rfl⟩
theorem sq71.l1_k.all {p : sq71.l1_k.Pt} {r : ((List ByteArray))} (e : sq71.l1_k.go p = some r) : sq71.l1_k.I p r := fixF_ind (β := fun _ => ((List ByteArray))) sq71.l1_k.mono (I := sq71.l1_k.I) (fun go ih p r e => match p with
 | .l1 a_0 x_6 x_7 x_10 => sq71.l1_k.step_l1 go ih a_0 x_6 x_7 x_10 r e
 ) e
inductive sq71.l0_k.Pt where
 | l0 (a_0 : List ByteArray) (x_6 : Int) (x_7 : Int) (x_8 : Int) (x_9 : Int)
noncomputable def sq71.l0_k.body (go : (p : sq71.l0_k.Pt) → Option ((List ByteArray))) : (p : sq71.l0_k.Pt) → Option ((List ByteArray))
 | .l0 a_0 x_6 x_7 x_8 x_9 => if x_9 ≥ (0 : Int) then (Option.bind (sq83 a_0 x_9 x_8 x_6) fun y1 => (go (.l0 y1 x_6 x_7 x_8 (IntKind.wrap .i64 (x_9 - (1 : Int)))))) else ((sq71.l1 a_0 x_6 x_7 (IntKind.wrap .i64 (x_8 - (1 : Int)))))
theorem sq71.l0_k.mono : MonoF (β := fun _ => ((List ByteArray))) sq71.l0_k.body := fun f g hfg p => match p with
 | .l0 a_0 x_6 x_7 x_8 x_9 => LeO.ite (LeO.bind (LeO.refl _) fun y1 => (hfg _)) ((LeO.refl _))
noncomputable def sq71.l0_k.go (p : sq71.l0_k.Pt) : Option ((List ByteArray)) := fixF (β := fun _ => ((List ByteArray))) sq71.l0_k.body p
noncomputable def sq71.l0 (a_0 x_6 x_7 x_8 x_9) := sq71.l0_k.go (.l0 a_0 x_6 x_7 x_8 x_9)
theorem sq71.l0_eq (a_0 x_6 x_7 x_8 x_9) : sq71.l0 a_0 x_6 x_7 x_8 x_9 = if x_9 ≥ (0 : Int) then (Option.bind (sq83 a_0 x_9 x_8 x_6) fun y1 => (sq71.l0 y1 x_6 x_7 x_8 (IntKind.wrap .i64 (x_9 - (1 : Int))))) else ((sq71.l1 a_0 x_6 x_7 (IntKind.wrap .i64 (x_8 - (1 : Int))))) := fixF_eq sq71.l0_k.mono _
def sq71.l0_k.I : (p : sq71.l0_k.Pt) → ((List ByteArray)) → Prop
 | .l0 a_0 x_6 x_7 x_8 x_9, r => ∀ {W h0 m0 h m A_0 n_0 c_0} (O : Hold W h0 m0 h m [rR (aE tell_str) A_0 c_0 a_0]) (ne_0 : n_0 = List.length a_0), f71.l0 (sq71.post W A_0 n_0 c_0 h0 m0 r) A_0 n_0 c_0 x_6 x_7 x_8 x_9 h
theorem sq71.l0_k.step_l0 (go : (p : sq71.l0_k.Pt) → Option ((List ByteArray))) (ih : ∀ p r, go p = some r → sq71.l0_k.I p r) (a_0 x_6 x_7 x_8 x_9) (r) (e : sq71.l0_k.body go (.l0 a_0 x_6 x_7 x_8 x_9) = some r) : sq71.l0_k.I (.l0 a_0 x_6 x_7 x_8 x_9) r := by
 unfold sq71.l0_k.body at e
 intro W h0 m0 h m A_0 n_0 c_0 O ne_0
 subst ne_0
 refine f71.l0_in ?_
 unfold f71.l0T
 refine split_dec_e e (fun c13 e => ?_) (fun c13 e => ?_)
 · obtain ⟨y1, g2, e⟩ := bind_e e
   obtain ⟨W7, P8, B9, C10⟩ := O.callC [0]
   refine (sq83.walk P8 rfl g2).mono ?_
   rintro _ h3 ⟨m4, Q5, rfl, hl11⟩
   have O12 := Hold.nm (C10 Q5 (vfs_cons (rR_vf (aE_vf (fun _ _ _ _ h => h))) vfs_nil))
   refine ⟨rfl, ?_⟩
   exact (ih _ _ e) (O12.pick [1]).nm hl11
 · exact (sq71.l1_k.all e) (O.pick [0]).nm rfl
theorem sq71.l0_k.all {p : sq71.l0_k.Pt} {r : ((List ByteArray))} (e : sq71.l0_k.go p = some r) : sq71.l0_k.I p r := fixF_ind (β := fun _ => ((List ByteArray))) sq71.l0_k.mono (I := sq71.l0_k.I) (fun go ih p r e => match p with
 | .l0 a_0 x_6 x_7 x_8 x_9 => sq71.l0_k.step_l0 go ih a_0 x_6 x_7 x_8 x_9 r e
 ) e
noncomputable def sq71 (a_0 : List ByteArray) (x_1 : Int) (x_2 : Int) : Option ((List ByteArray)) :=
 (sq71.l0 a_0 x_1 (0 : Int) (IntKind.wrap .i64 (x_2 - x_1)) (IntKind.wrap .i64 (Int.tdiv (IntKind.wrap .i64 ((IntKind.wrap .i64 (x_2 - x_1)) - (1 : Int))) (2 : Int))))
theorem sq71.walk {W h m A_0 n_0 c_0 a_0 x_1 x_2} (O : Hold W h m h m [rR (aE tell_str) A_0 c_0 a_0]) (ne_0 : n_0 = List.length a_0) {r} (e : sq71 a_0 x_1 x_2 = some r) : Run Tryd.prog 71 #[Value.slice A_0 n_0 c_0, Value.int .i64 x_1, Value.int .i64 x_2] h (sq71.post W A_0 n_0 c_0 h m r) := by
 unfold sq71 at e
 subst ne_0
 refine f71.run ?_
 unfold f71.runT
 refine ⟨by decide, ?_⟩
 exact (sq71.l0_k.all e) (O.pick [0]).nm rfl
def math_bits_Len64.post (W : Nat → Prop) (h0 m0 : Heap) (r : Int) (v : Value) (h : Heap) : Prop := ∃ m , Hold W h0 m0 h m [] ∧ v = .int .i64 r
noncomputable def math_bits_Len64.j2 (x_0 : Int) (x_2 : Int) : Option (Int) :=
 Option.bind (gb (ByteArray.mk #[0, 1, 2, 2, 3, 3, 3, 3, 4, 4, 4, 4, 4, 4, 4, 4, 5, 5, 5, 5, 5, 5, 5, 5, 5, 5, 5, 5, 5, 5, 5, 5, 6, 6, 6, 6, 6, 6, 6, 6, 6, 6, 6, 6, 6, 6, 6, 6, 6, 6, 6, 6, 6, 6, 6, 6, 6, 6, 6, 6, 6, 6, 6, 6, 7, 7, 7, 7, 7, 7, 7, 7, 7, 7, 7, 7, 7, 7, 7, 7, 7, 7, 7, 7, 7, 7, 7, 7, 7, 7, 7, 7, 7, 7, 7, 7, 7, 7, 7, 7, 7, 7, 7, 7, 7, 7, 7, 7, 7, 7, 7, 7, 7, 7, 7, 7, 7, 7, 7, 7, 7, 7, 7, 7, 7, 7, 7, 7, 8, 8, 8, 8, 8, 8, 8, 8, 8, 8, 8, 8, 8, 8, 8, 8, 8, 8, 8, 8, 8, 8, 8, 8, 8, 8, 8, 8, 8, 8, 8, 8, 8, 8, 8, 8, 8, 8, 8, 8, 8, 8, 8, 8, 8, 8, 8, 8, 8, 8, 8, 8, 8, 8, 8, 8, 8, 8, 8, 8, 8, 8, 8, 8, 8, 8, 8, 8, 8, 8, 8, 8, 8, 8, 8, 8, 8, 8, 8, 8, 8, 8, 8, 8, 8, 8, 8, 8, 8, 8, 8, 8, 8, 8, 8, 8, 8, 8, 8, 8, 8, 8, 8, 8, 8, 8, 8, 8, 8, 8, 8, 8, 8, 8, 8, 8, 8, 8, 8, 8, 8, 8, 8, 8, 8, 8, 8, 8]) (IntKind.wrap .u8 x_0)) fun y1 => some ((IntKind.wrap .i64 (x_2 + (IntKind.wrap .i64 y1))))
theorem math_bits_Len64.j2.walk {W h0 m0 h m x_0 x_2} (O : Hold W h0 m0 h m []) {r} (e : math_bits_Len64.j2 x_0 x_2 = some r) : f80.j2 (math_bits_Len64.post W h0 m0 r) x_0 x_2 h := by
 unfold math_bits_Len64.j2 at e
 refine f80.j2_in ?_
 unfold f80.j2T
 obtain ⟨y1, g2, e⟩ := bind_e e
 obtain ⟨q3, b4, q5, q6⟩ := gb_e g2
 refine ⟨q3, _, q5, ?_⟩
 try rw [← q6]
 cases e
 exact ⟨_, O.pick [], rfl⟩
noncomputable def math_bits_Len64.j1 (x_0 : Int) (x_2 : Int) : Option (Int) :=
 if x_0 ≥ (256 : Int) then ((math_bits_Len64.j2 (shrI .u64 x_0 (8 : Int)) (IntKind.wrap .i64 (x_2 + (8 : Int))))) else ((math_bits_Len64.j2 x_0 x_2))
theorem math_bits_Len64.j1.walk {W h0 m0 h m x_0 x_2} (O : Hold W h0 m0 h m []) {r} (e : math_bits_Len64.j1 x_0 x_2 = some r) : f80.j1 (math_bits_Len64.post W h0 m0 r) x_0 x_2 h := by
 unfold math_bits_Len64.j1 at e
 refine f80.j1_in ?_
 unfold f80.j1T
 refine split_dec_e e (fun c1 e => ?_) (fun c1 e => ?_)
 · refine ⟨by decide, ?_⟩
   exact math_bits_Len64.j2.walk (O.pick []).nm  e
 · exact math_bits_Len64.j2.walk (O.pick []).nm  e
noncomputable def math_bits_Len64.j0 (x_0 : Int) (x_2 : Int) : Option (Int) :=
 if x_0 ≥ (65536 : Int) then ((math_bits_Len64.j1 (shrI .u64 x_0 (16 : Int)) (IntKind.wrap .i64 (x_2 + (16 : Int))))) else ((math_bits_Len64.j1 x_0 x_2))
theorem math_bits_Len64.j0.walk {W h0 m0 h m x_0 x_2} (O : Hold W h0 m0 h m []) {r} (e : math_bits_Len64.j0 x_0 x_2 = some r) : f80.j0 (math_bits_Len64.post W h0 m0 r) x_0 x_2 h := by
 unfold math_bits_Len64.j0 at e
 refine f80.j0_in ?_
 unfold f80.j0T
 refine split_dec_e e (fun c1 e => ?_) (fun c1 e => ?_)
 · refine ⟨by decide, ?_⟩
   exact math_bits_Len64.j1.walk (O.pick []).nm  e
 · exact math_bits_Len64.j1.walk (O.pick []).nm  e
noncomputable def math_bits_Len64 (x_0 : Int) : Option (Int) :=
 if x_0 ≥ (4294967296 : Int) then ((math_bits_Len64.j0 (shrI .u64 x_0 (32 : Int)) (32 : Int))) else ((math_bits_Len64.j0 x_0 (0 : Int)))
theorem math_bits_Len64.walk {W h m x_0} (O : Hold W h m h m []) {r} (e : math_bits_Len64 x_0 = some r) : Run Tryd.prog 80 #[Value.int .u64 x_0] h (math_bits_Len64.post W h m r) := by
 unfold math_bits_Len64 at e
 refine f80.run ?_
 unfold f80.runT
 refine split_dec_e e (fun c1 e => ?_) (fun c1 e => ?_)
 · refine ⟨by decide, ?_⟩
   exact math_bits_Len64.j0.walk (O.pick []).nm  e
 · exact math_bits_Len64.j0.walk (O.pick []).nm  e
def math_bits_Len.post (W : Nat → Prop) (h0 m0 : Heap) (r : Int) (v : Value) (h : Heap) : Prop := ∃ m , Hold W h0 m0 h m [] ∧ v = .int .i64 r
noncomputable def math_bits_Len (x_0 : Int) : Option (Int) :=
 Option.bind (math_bits_Len64 x_0) fun y1 => some (y1)
theorem math_bits_Len.walk {W h m x_0} (O : Hold W h m h m []) {r} (e : math_bits_Len x_0 = some r) : Run Tryd.prog 64 #[Value.int .u64 x_0] h (math_bits_Len.post W h m r) := by
 unfold math_bits_Len at e
 refine f64.run ?_
 unfold f64.runT
 obtain ⟨y1, g2, e⟩ := bind_e e
 refine (math_bits_Len64.walk (Hold.start (W := No) O.s)  g2).mono ?_
 rintro _ h3 ⟨m4, Q5, rfl⟩
 have O7 := Hold.nm (O.retC Q5 vfs_nil)
 refine ⟨_, rfl, ?_⟩
 cases e
 exact ⟨_, O7.pick [], rfl⟩
def slices_nextPowerOfTwo.post (W : Nat → Prop) (h0 m0 : Heap) (r : Int) (v : Value) (h : Heap) : Prop := ∃ m , Hold W h0 m0 h m [] ∧ v = .int .u64 r
noncomputable def slices_nextPowerOfTwo (x_0 : Int) : Option (Int) :=
 Option.bind (math_bits_Len (IntKind.wrap .u64 x_0)) fun y1 => if 0 ≤ y1 then (some ((shlI .u64 (1 : Int) y1))) else none
theorem slices_nextPowerOfTwo.walk {W h m x_0} (O : Hold W h m h m []) {r} (e : slices_nextPowerOfTwo x_0 = some r) : Run Tryd.prog 84 #[Value.int .i64 x_0] h (slices_nextPowerOfTwo.post W h m r) := by
 unfold slices_nextPowerOfTwo at e
 refine f84.run ?_
 unfold f84.runT
 obtain ⟨y1, g2, e⟩ := bind_e e
 refine (math_bits_Len.walk (Hold.start (W := No) O.s)  g2).mono ?_
 rintro _ h3 ⟨m4, Q5, rfl⟩
 have O7 := Hold.nm (O.retC Q5 vfs_nil)
 refine ⟨_, rfl, ?_⟩
 obtain ⟨g8, e⟩ := guard_e e
 refine ⟨g8, ?_⟩
 cases e
 exact ⟨_, O7.pick [], rfl⟩
def slices_xorshift_Next.post (W : Nat → Prop) (bkio0 : Nat) (h0 m0 : Heap) (r : Int × Int) (v : Value) (h : Heap) : Prop := ∃ m csio0, Hold W h0 m0 h m [rV bkio0 116 csio0] ∧ v = .int .u64 r.1 ∧ (eInt .u64) m r.2 csio0
noncomputable def slices_xorshift_Next (y_0 : Int) : Option (Int × Int) :=
 some ((bitsI .xor .u64 (bitsI .xor .u64 (bitsI .xor .u64 y_0 (shlI .u64 y_0 (13 : Int))) (shrI .u64 (bitsI .xor .u64 y_0 (shlI .u64 y_0 (13 : Int))) (7 : Int))) (shlI .u64 (bitsI .xor .u64 (bitsI .xor .u64 y_0 (shlI .u64 y_0 (13 : Int))) (shrI .u64 (bitsI .xor .u64 y_0 (shlI .u64 y_0 (13 : Int))) (7 : Int))) (17 : Int))), (bitsI .xor .u64 (bitsI .xor .u64 (bitsI .xor .u64 y_0 (shlI .u64 y_0 (13 : Int))) (shrI .u64 (bitsI .xor .u64 y_0 (shlI .u64 y_0 (13 : Int))) (7 : Int))) (shlI .u64 (bitsI .xor .u64 (bitsI .xor .u64 y_0 (shlI .u64 y_0 (13 : Int))) (shrI .u64 (bitsI .xor .u64 y_0 (shlI .u64 y_0 (13 : Int))) (7 : Int))) (17 : Int))))
theorem slices_xorshift_Next.walk {W h m bkio0 cs_0 y_0} (O : Hold W h m h m [rV bkio0 116 cs_0]) (e_0 : (eInt .u64) m y_0 cs_0) {r} (e : slices_xorshift_Next y_0 = some r) : Run Tryd.prog 85 #[Value.pointer (some ⟨bkio0, 0, none⟩)] h (slices_xorshift_Next.post W bkio0 h m r) := by
 unfold slices_xorshift_Next at e
 obtain rfl : cs_0 = [(Value.int .u64 y_0)] := e_0
 refine f85.run ?_
 unfold f85.runT
 refine ⟨_, ld0 (Sub.refl _) (O.all 0 rfl) rfl, _, rfl, ?_⟩
 refine ⟨_, ld0 (Sub.refl _) (O.all 0 rfl) rfl, _, rfl, ?_⟩
 refine ⟨by decide, ?_⟩
 refine O.st0 0 rfl (Nat.le_of_ble_eq_true rfl) trivial fun h1 O2 => ?_
 refine ⟨_, ld0 (Sub.refl _) (O2.all 0 rfl) rfl, _, rfl, ?_⟩
 refine ⟨_, ld0 (Sub.refl _) (O2.all 0 rfl) rfl, _, rfl, ?_⟩
 refine ⟨by decide, ?_⟩
 refine O2.st0 0 rfl (Nat.le_of_ble_eq_true rfl) trivial fun h3 O4 => ?_
 refine ⟨_, ld0 (Sub.refl _) (O4.all 0 rfl) rfl, _, rfl, ?_⟩
 refine ⟨_, ld0 (Sub.refl _) (O4.all 0 rfl) rfl, _, rfl, ?_⟩
 refine ⟨by decide, ?_⟩
 refine O4.st0 0 rfl (Nat.le_of_ble_eq_true rfl) trivial fun h5 O6 => ?_
 refine ⟨_, ld0 (Sub.refl _) (O6.all 0 rfl) rfl, _, rfl, ?_⟩
 have O7 := O6.nm
 cases e
 exact ⟨_, _, O7.pick [0], rfl, rfl⟩
def sq72.post (W : Nat → Prop) (Asl0 : Option Addr) (nsl0 csl0 : Nat) (h0 m0 : Heap) (r : (List ByteArray)) (v : Value) (h : Heap) : Prop := ∃ m , Hold W h0 m0 h m [rR (aE tell_str) Asl0 csl0 r] ∧ v = .tuple #[] ∧ nsl0 = List.length r
inductive sq72.l0_k.Pt where
 | l0 (a_0 : List ByteArray) (x_1 : Int) (x_6 : Int) (y_7 : Int) (x_8 : Int) (x_9 : Int)
 | j1 (a_0 : List ByteArray) (x_1 : Int) (x_6 : Int) (y_7 : Int) (x_8 : Int) (x_9 : Int) (x_10 : Int)
 | j0 (a_0 : List ByteArray) (x_1 : Int) (x_6 : Int) (y_7 : Int) (x_8 : Int) (x_9 : Int)
noncomputable def sq72.l0_k.body (go : (p : sq72.l0_k.Pt) → Option ((List ByteArray))) : (p : sq72.l0_k.Pt) → Option ((List ByteArray))
 | .l0 a_0 x_1 x_6 y_7 x_8 x_9 => if x_9 ≤ (IntKind.wrap .i64 ((IntKind.wrap .i64 (x_1 + (IntKind.wrap .i64 ((IntKind.wrap .i64 (Int.tdiv x_6 (4 : Int))) * (2 : Int))))) + (1 : Int))) then (Option.bind (slices_xorshift_Next y_7) fun y1 => if (IntKind.wrap .i64 (bitsI .and .u64 y1.1 (IntKind.wrap .u64 (x_8 - (1 : Int))))) ≥ x_6 then ((go (.j1 a_0 x_1 x_6 y1.2 x_8 x_9 (IntKind.wrap .i64 ((IntKind.wrap .i64 (bitsI .and .u64 y1.1 (IntKind.wrap .u64 (x_8 - (1 : Int))))) - x_6))))) else ((go (.j1 a_0 x_1 x_6 y1.2 x_8 x_9 (IntKind.wrap .i64 (bitsI .and .u64 y1.1 (IntKind.wrap .u64 (x_8 - (1 : Int))))))))) else (some (a_0))
 | .j1 a_0 x_1 x_6 y_7 x_8 x_9 x_10 => Option.bind (gi a_0 (IntKind.wrap .i64 (x_1 + x_10))) fun y1 => Option.bind (gi a_0 x_9) fun y8 => Option.bind (gi a_0 x_9) fun y15 => Option.bind (some (List.set a_0 (Int.toNat x_9) y1)) fun l24 => Option.bind (gi l24 (IntKind.wrap .i64 (x_1 + x_10))) fun y26 => Option.bind (some (List.set l24 (Int.toNat (IntKind.wrap .i64 (x_1 + x_10))) y8)) fun l35 => (go (.j0 l35 x_1 x_6 y_7 x_8 x_9))
 | .j0 a_0 x_1 x_6 y_7 x_8 x_9 => (go (.l0 a_0 x_1 x_6 y_7 x_8 (IntKind.wrap .i64 (x_9 + (1 : Int)))))
attribute [local irreducible] slices_xorshift_Next in
theorem sq72.l0_k.mono : MonoF (β := fun _ => ((List ByteArray))) sq72.l0_k.body := fun f g hfg p => match p with
 | .l0 a_0 x_1 x_6 y_7 x_8 x_9 => LeO.ite (LeO.bind (LeO.refl _) fun y1 => LeO.ite ((hfg _)) ((hfg _))) (LeO.refl _)
 | .j1 a_0 x_1 x_6 y_7 x_8 x_9 x_10 => LeO.bind (LeO.refl _) fun y1 => LeO.bind (LeO.refl _) fun y8 => LeO.bind (LeO.refl _) fun y15 => LeO.bind (LeO.refl _) fun l24 => LeO.bind (LeO.refl _) fun y26 => LeO.bind (LeO.refl _) fun l35 => (hfg _)
 | .j0 a_0 x_1 x_6 y_7 x_8 x_9 => (hfg _)
noncomputable def sq72.l0_k.go (p : sq72.l0_k.Pt) : Option ((List ByteArray)) := fixF (β := fun _ => ((List ByteArray))) sq72.l0_k.body p
noncomputable def sq72.l0 (a_0 x_1 x_6 y_7 x_8 x_9) := sq72.l0_k.go (.l0 a_0 x_1 x_6 y_7 x_8 x_9)
noncomputable def sq72.j1 (a_0 x_1 x_6 y_7 x_8 x_9 x_10) := sq72.l0_k.go (.j1 a_0 x_1 x_6 y_7 x_8 x_9 x_10)
noncomputable def sq72.j0 (a_0 x_1 x_6 y_7 x_8 x_9) := sq72.l0_k.go (.j0 a_0 x_1 x_6 y_7 x_8 x_9)
theorem sq72.l0_eq (a_0 x_1 x_6 y_7 x_8 x_9) : sq72.l0 a_0 x_1 x_6 y_7 x_8 x_9 = if x_9 ≤ (IntKind.wrap .i64 ((IntKind.wrap .i64 (x_1 + (IntKind.wrap .i64 ((IntKind.wrap .i64 (Int.tdiv x_6 (4 : Int))) * (2 : Int))))) + (1 : Int))) then (Option.bind (slices_xorshift_Next y_7) fun y1 => if (IntKind.wrap .i64 (bitsI .and .u64 y1.1 (IntKind.wrap .u64 (x_8 - (1 : Int))))) ≥ x_6 then ((sq72.j1 a_0 x_1 x_6 y1.2 x_8 x_9 (IntKind.wrap .i64 ((IntKind.wrap .i64 (bitsI .and .u64 y1.1 (IntKind.wrap .u64 (x_8 - (1 : Int))))) - x_6)))) else ((sq72.j1 a_0 x_1 x_6 y1.2 x_8 x_9 (IntKind.wrap .i64 (bitsI .and .u64 y1.1 (IntKind.wrap .u64 (x_8 - (1 : Int)))))))) else (some (a_0)) := fixF_eq sq72.l0_k.mono _
theorem sq72.j1_eq (a_0 x_1 x_6 y_7 x_8 x_9 x_10) : sq72.j1 a_0 x_1 x_6 y_7 x_8 x_9 x_10 = Option.bind (gi a_0 (IntKind.wrap .i64 (x_1 + x_10))) fun y1 => Option.bind (gi a_0 x_9) fun y8 => Option.bind (gi a_0 x_9) fun y15 => Option.bind (some (List.set a_0 (Int.toNat x_9) y1)) fun l24 => Option.bind (gi l24 (IntKind.wrap .i64 (x_1 + x_10))) fun y26 => Option.bind (some (List.set l24 (Int.toNat (IntKind.wrap .i64 (x_1 + x_10))) y8)) fun l35 => (sq72.j0 l35 x_1 x_6 y_7 x_8 x_9) := fixF_eq sq72.l0_k.mono _
theorem sq72.j0_eq (a_0 x_1 x_6 y_7 x_8 x_9) : sq72.j0 a_0 x_1 x_6 y_7 x_8 x_9 = (sq72.l0 a_0 x_1 x_6 y_7 x_8 (IntKind.wrap .i64 (x_9 + (1 : Int)))) := fixF_eq sq72.l0_k.mono _
def sq72.l0_k.I : (p : sq72.l0_k.Pt) → ((List ByteArray)) → Prop
 | .l0 a_0 x_1 x_6 y_7 x_8 x_9, r => ∀ {W h0 m0 h m A_0 n_0 c_0 bk_7 cs_7} (O : Hold W h0 m0 h m [rR (aE tell_str) A_0 c_0 a_0, rV bk_7 116 cs_7]) (ne_0 : n_0 = List.length a_0) (e_7 : (eInt .u64) m y_7 cs_7), f72.l0 (sq72.post W A_0 n_0 c_0 h0 m0 r) A_0 n_0 c_0 x_1 x_6 (⟨bk_7, 0, none⟩ : Addr) x_8 x_9 h
 | .j1 a_0 x_1 x_6 y_7 x_8 x_9 x_10, r => ∀ {W h0 m0 h m A_0 n_0 c_0 bk_7 cs_7} (O : Hold W h0 m0 h m [rR (aE tell_str) A_0 c_0 a_0, rV bk_7 116 cs_7]) (ne_0 : n_0 = List.length a_0) (e_7 : (eInt .u64) m y_7 cs_7), f72.j1 (sq72.post W A_0 n_0 c_0 h0 m0 r) A_0 n_0 c_0 x_1 x_6 (⟨bk_7, 0, none⟩ : Addr) x_8 x_9 x_10 h
 | .j0 a_0 x_1 x_6 y_7 x_8 x_9, r => ∀ {W h0 m0 h m A_0 n_0 c_0 bk_7 cs_7} (O : Hold W h0 m0 h m [rR (aE tell_str) A_0 c_0 a_0, rV bk_7 116 cs_7]) (ne_0 : n_0 = List.length a_0) (e_7 : (eInt .u64) m y_7 cs_7), f72.j0 (sq72.post W A_0 n_0 c_0 h0 m0 r) A_0 n_0 c_0 x_1 x_6 (⟨bk_7, 0, none⟩ : Addr) x_8 x_9 h
theorem sq72.l0_k.step_l0 (go : (p : sq72.l0_k.Pt) → Option ((List ByteArray))) (ih : ∀ p r, go p = some r → sq72.l0_k.I p r) (a_0 x_1 x_6 y_7 x_8 x_9) (r) (e : sq72.l0_k.body go (.l0 a_0 x_1 x_6 y_7 x_8 x_9) = some r) : sq72.l0_k.I (.l0 a_0 x_1 x_6 y_7 x_8 x_9) r := by
 unfold sq72.l0_k.body at e
 intro W h0 m0 h m A_0 n_0 c_0 bk_7 cs_7 O ne_0 e_7
 subst ne_0
 obtain rfl : cs_7 = [(Value.int .u64 y_7)] := e_7
 refine f72.l0_in ?_
 unfold f72.l0T
 refine ⟨by decide, ?_⟩
 refine split_dec_e e (fun c16 e => ?_) (fun c16 e => ?_)
 · obtain ⟨y1, g2, e⟩ := bind_e e
   obtain ⟨W7, P8, B9, C10⟩ := O.callC [1]
   refine (slices_xorshift_Next.walk P8 rfl g2).mono ?_
   rintro _ h3 ⟨m4, cs12, Q5, rfl, he13⟩
   have O14 := Hold.nm (C10 Q5 (vfs_cons rV_vf vfs_nil))
   obtain rfl : cs12 = [(Value.int .u64 y1.2)] := he13
   refine ⟨_, rfl, ?_⟩
   refine split_dec_e e (fun c15 e => ?_) (fun c15 e => ?_)
   · exact (ih _ _ e) (O14.pick [0, 2]).nm rfl rfl
   · exact (ih _ _ e) (O14.pick [0, 2]).nm rfl rfl
 · cases e
   exact ⟨_, O.pick [0], rfl, rfl⟩
theorem sq72.l0_k.step_j1 (go : (p : sq72.l0_k.Pt) → Option ((List ByteArray))) (ih : ∀ p r, go p = some r → sq72.l0_k.I p r) (a_0 x_1 x_6 y_7 x_8 x_9 x_10) (r) (e : sq72.l0_k.body go (.j1 a_0 x_1 x_6 y_7 x_8 x_9 x_10) = some r) : sq72.l0_k.I (.j1 a_0 x_1 x_6 y_7 x_8 x_9 x_10) r := by
 unfold sq72.l0_k.body at e
 intro W h0 m0 h m A_0 n_0 c_0 bk_7 cs_7 O ne_0 e_7
 subst ne_0
 obtain rfl : cs_7 = [(Value.int .u64 y_7)] := e_7
 refine f72.j1_in ?_
 unfold f72.j1T
 obtain ⟨y1, g2, e⟩ := bind_e e
 refine (O.os 0 rfl).addr rfl g2 fun a3 cs4 ha5 hc6 he7 => ?_
 obtain rfl : cs4 = [(Value.string y1)] := he7
 obtain ⟨y8, g9, e⟩ := bind_e e
 refine (O.os 0 rfl).addr rfl g9 fun a10 cs11 ha12 hc13 he14 => ?_
 obtain rfl : cs11 = [(Value.string y8)] := he14
 refine ⟨_, ld0 (Sub.refl _) hc6 rfl, _, rfl, ?_⟩
 refine ⟨_, ld0 (Sub.refl _) hc13 rfl, _, rfl, ?_⟩
 obtain ⟨y15, g16, e⟩ := bind_e e
 refine (O.os 0 rfl).addr rfl g16 fun a17 cs18 ha19 hc20 he21 => ?_
 obtain rfl : cs18 = [(Value.string y15)] := he21
 obtain ⟨l24, g25, e⟩ := bind_e e
 replace g25 := Option.some.inj g25
 refine O.elst0 0 rfl g16 ha19 hc20 (by decide) (y' := y1) rfl trivial g25 fun h22 O23 => ?_
 obtain ⟨y26, g27, e⟩ := bind_e e
 refine (O23.os 0 rfl).addr (lset' g25) g27 fun a28 cs29 ha30 hc31 he32 => ?_
 obtain rfl : cs29 = [(Value.string y26)] := he32
 obtain ⟨l35, g36, e⟩ := bind_e e
 replace g36 := Option.some.inj g36
 refine O23.elst0 0 rfl g27 ha30 hc31 (by decide) (y' := y8) rfl trivial g36 fun h33 O34 => ?_
 have O37 := O34.nm
 exact (ih _ _ e) (O37.pick [0, 1]).nm ((lset' g25).trans (lset' g36)) rfl
theorem sq72.l0_k.step_j0 (go : (p : sq72.l0_k.Pt) → Option ((List ByteArray))) (ih : ∀ p r, go p = some r → sq72.l0_k.I p r) (a_0 x_1 x_6 y_7 x_8 x_9) (r) (e : sq72.l0_k.body go (.j0 a_0 x_1 x_6 y_7 x_8 x_9) = some r) : sq72.l0_k.I (.j0 a_0 x_1 x_6 y_7 x_8 x_9) r := by
 unfold sq72.l0_k.body at e
 intro W h0 m0 h m A_0 n_0 c_0 bk_7 cs_7 O ne_0 e_7
 subst ne_0
 obtain rfl : cs_7 = [(Value.int .u64 y_7)] := e_7
 refine f72.j0_in ?_
 unfold f72.j0T
 exact (ih _ _ e) (O.pick [0, 1]).nm rfl rfl
theorem sq72.l0_k.all {p : sq72.l0_k.Pt} {r : ((List ByteArray))} (e : sq72.l0_k.go p = some r) : sq72.l0_k.I p r := fixF_ind (β := fun _ => ((List ByteArray))) sq72.l0_k.mono (I := sq72.l0_k.I) (fun go ih p r e => match p with
 | .l0 a_0 x_1 x_6 y_7 x_8 x_9 => sq72.l0_k.step_l0 go ih a_0 x_1 x_6 y_7 x_8 x_9 r e
 | .j1 a_0 x_1 x_6 y_7 x_8 x_9 x_10 => sq72.l0_k.step_j1 go ih a_0 x_1 x_6 y_7 x_8 x_9 x_10 r e
 | .j0 a_0 x_1 x_6 y_7 x_8 x_9 => sq72.l0_k.step_j0 go ih a_0 x_1 x_6 y_7 x_8 x_9 r e
 ) e
noncomputable def sq72 (a_0 : List ByteArray) (x_1 : Int) (x_2 : Int) : Option ((List ByteArray)) :=
 if (IntKind.wrap .i64 (x_2 - x_1)) ≥ (8 : Int) then (Option.bind (slices_nextPowerOfTwo (IntKind.wrap .i64 (x_2 - x_1))) fun y7 => (sq72.l0 a_0 x_1 (IntKind.wrap .i64 (x_2 - x_1)) (IntKind.wrap .u64 (IntKind.wrap .i64 (x_2 - x_1))) y7 (IntKind.wrap .i64 ((IntKind.wrap .i64 (x_1 + (IntKind.wrap .i64 ((IntKind.wrap .i64 (Int.tdiv (IntKind.wrap .i64 (x_2 - x_1)) (4 : Int))) * (2 : Int))))) - (1 : Int))))) else (some (a_0))
theorem sq72.walk {W h m A_0 n_0 c_0 a_0 x_1 x_2} (O : Hold W h m h m [rR (aE tell_str) A_0 c_0 a_0]) (ne_0 : n_0 = List.length a_0) {r} (e : sq72 a_0 x_1 x_2 = some r) : Run Tryd.prog 72 #[Value.slice A_0 n_0 c_0, Value.int .i64 x_1, Value.int .i64 x_2] h (sq72.post W A_0 n_0 c_0 h m r) := by
 unfold sq72 at e
 subst ne_0
 refine f72.run ?_
 unfold f72.runT
 refine split_dec_e e (fun c14 e => ?_) (fun c14 e => ?_)
 · refine O.new fun h1 x2 O3 => ?_
   refine O3.st0 1 rfl (Nat.le_of_ble_eq_true rfl) trivial fun h5 O6 => ?_
   obtain ⟨y7, g8, e⟩ := bind_e e
   refine (slices_nextPowerOfTwo.walk (Hold.start (W := No) O6.s)  g8).mono ?_
   rintro _ h9 ⟨m10, Q11, rfl⟩
   have O13 := Hold.nm (O6.retC Q11 vfs_nil)
   refine ⟨_, rfl, ?_⟩
   refine ⟨by decide, ?_⟩
   exact (sq72.l0_k.all e) (O13.pick [0, 1]).nm rfl rfl
 · cases e
   exact ⟨_, O.pick [0], rfl, rfl⟩
def sq89.post (W : Nat → Prop) (bkio3 : Nat) (h0 m0 : Heap) (r : Int × Int × Int) (v : Value) (h : Heap) : Prop := ∃ m csio3, Hold W h0 m0 h m [rV bkio3 3 csio3] ∧ v = .tuple #[.int .i64 r.1, .int .i64 r.2.1] ∧ (eInt .i64) m r.2.2 csio3
noncomputable def sq89 (a_0 : List ByteArray) (x_1 : Int) (x_2 : Int) (y_3 : Int) : Option (Int × Int × Int) :=
 Option.bind (gi a_0 x_2) fun y1 => Option.bind (gi a_0 x_1) fun y8 => Option.bind (cmp_Less_76 y1 y8) fun y15 => if y15 = true then (some (x_2, x_1, (IntKind.wrap .i64 (y_3 + (1 : Int))))) else (some (x_1, x_2, y_3))
theorem sq89.walk {W h m A_0 n_0 c_0 bkio3 cs_3 a_0 x_1 x_2 y_3} (O : Hold W h m h m [rV bkio3 3 cs_3]) (ne_0 : n_0 = List.length a_0) (k_0 : List.length a_0 ≤ c_0) (r_0 : Rd 1 eStr m A_0 a_0) (e_3 : (eInt .i64) m y_3 cs_3) {r} (e : sq89 a_0 x_1 x_2 y_3 = some r) : Run Tryd.prog 89 #[Value.slice A_0 n_0 c_0, Value.int .i64 x_1, Value.int .i64 x_2, Value.pointer (some ⟨bkio3, 0, none⟩)] h (sq89.post W bkio3 h m r) := by
 unfold sq89 at e
 subst ne_0
 obtain rfl : cs_3 = [(Value.int .i64 y_3)] := e_3
 refine f89.run ?_
 unfold f89.runT
 obtain ⟨y1, g2, e⟩ := bind_e e
 refine r_0.addr rfl g2 fun a3 cs4 ha5 hc6 he7 => ?_
 obtain rfl : cs4 = [(Value.string y1)] := he7
 obtain ⟨y8, g9, e⟩ := bind_e e
 refine r_0.addr rfl g9 fun a10 cs11 ha12 hc13 he14 => ?_
 obtain rfl : cs11 = [(Value.string y8)] := he14
 refine ⟨_, ld0 O.s hc6 rfl, _, rfl, ?_⟩
 refine ⟨_, ld0 O.s hc13 rfl, _, rfl, ?_⟩
 obtain ⟨y15, g16, e⟩ := bind_e e
 refine (cmp_Less_76.walk (Hold.start (W := No) O.s)  g16).mono ?_
 rintro _ h17 ⟨m18, Q19, rfl⟩
 have O21 := Hold.nm (O.retC Q19 vfs_nil)
 refine ⟨_, rfl, ?_⟩
 refine split_any_e e (fun c25 e => ?_) (fun c25 e => ?_)
 · refine ⟨_, ld0 (Sub.refl _) (O21.all 0 rfl) rfl, _, rfl, ?_⟩
   refine O21.st0 0 rfl (Nat.le_of_ble_eq_true rfl) trivial fun h22 O23 => ?_
   have O24 := O23.nm
   cases e
   exact ⟨_, _, O24.pick [0], rfl, rfl⟩
 · cases e
   exact ⟨_, _, O21.pick [0], rfl, rfl⟩
def sq87.post (W : Nat → Prop) (bkio4 : Nat) (h0 m0 : Heap) (r : Int × Int) (v : Value) (h : Heap) : Prop := ∃ m csio4, Hold W h0 m0 h m [rV bkio4 3 csio4] ∧ v = .int .i64 r.1 ∧ (eInt .i64) m r.2 csio4
noncomputable def sq87 (a_0 : List ByteArray) (x_1 : Int) (x_2 : Int) (x_3 : Int) (y_4 : Int) : Option (Int × Int) :=
 Option.bind (sq89 a_0 x_1 x_2 y_4) fun y1 => Option.bind (sq89 a_0 y1.2.1 x_3 y1.2.2) fun y15 => Option.bind (sq89 a_0 y1.1 y15.1 y15.2.2) fun y29 => some (y29.2.1, y29.2.2)
theorem sq87.walk {W h m A_0 n_0 c_0 bkio4 cs_4 a_0 x_1 x_2 x_3 y_4} (O : Hold W h m h m [rV bkio4 3 cs_4]) (ne_0 : n_0 = List.length a_0) (k_0 : List.length a_0 ≤ c_0) (r_0 : Rd 1 eStr m A_0 a_0) (e_4 : (eInt .i64) m y_4 cs_4) {r} (e : sq87 a_0 x_1 x_2 x_3 y_4 = some r) : Run Tryd.prog 87 #[Value.slice A_0 n_0 c_0, Value.int .i64 x_1, Value.int .i64 x_2, Value.int .i64 x_3, Value.pointer (some ⟨bkio4, 0, none⟩)] h (sq87.post W bkio4 h m r) := by
 unfold sq87 at e
 subst ne_0
 obtain rfl : cs_4 = [(Value.int .i64 y_4)] := e_4
 refine f87.run ?_
 unfold f87.runT
 obtain ⟨y1, g2, e⟩ := bind_e e
 obtain ⟨W7, P8, B9, C10⟩ := O.callC [0]
 refine (sq89.walk P8 rfl k_0 r_0 rfl g2).mono ?_
 rintro _ h3 ⟨m4, cs12, Q5, rfl, he13⟩
 have O14 := Hold.nm (C10 Q5 (vfs_cons rV_vf vfs_nil))
 obtain rfl : cs12 = [(Value.int .i64 y1.2.2)] := he13
 refine ⟨_, _, rfl, ?_⟩
 obtain ⟨y15, g16, e⟩ := bind_e e
 obtain ⟨W21, P22, B23, C24⟩ := O14.callC [1]
 refine (sq89.walk P22 rfl k_0 r_0 rfl g16).mono ?_
 rintro _ h17 ⟨m18, cs26, Q19, rfl, he27⟩
 have O28 := Hold.nm (C24 Q19 (vfs_cons rV_vf vfs_nil))
 obtain rfl : cs26 = [(Value.int .i64 y15.2.2)] := he27
 refine ⟨_, _, rfl, ?_⟩
 obtain ⟨y29, g30, e⟩ := bind_e e
 obtain ⟨W35, P36, B37, C38⟩ := O28.callC [2]
 refine (sq89.walk P36 rfl k_0 r_0 rfl g30).mono ?_
 rintro _ h31 ⟨m32, cs40, Q33, rfl, he41⟩
 have O42 := Hold.nm (C38 Q33 (vfs_cons rV_vf vfs_nil))
 obtain rfl : cs40 = [(Value.int .i64 y29.2.2)] := he41
 refine ⟨_, _, rfl, ?_⟩
 cases e
 exact ⟨_, _, O42.pick [3], rfl, rfl⟩
def sq86.post (W : Nat → Prop) (bkio2 : Nat) (h0 m0 : Heap) (r : Int × Int) (v : Value) (h : Heap) : Prop := ∃ m csio2, Hold W h0 m0 h m [rV bkio2 3 csio2] ∧ v = .int .i64 r.1 ∧ (eInt .i64) m r.2 csio2
noncomputable def sq86 (a_0 : List ByteArray) (x_1 : Int) (y_2 : Int) : Option (Int × Int) :=
 Option.bind (sq87 a_0 (IntKind.wrap .i64 (x_1 - (1 : Int))) x_1 (IntKind.wrap .i64 (x_1 + (1 : Int))) y_2) fun y1 => some (y1.1, y1.2)
theorem sq86.walk {W h m A_0 n_0 c_0 bkio2 cs_2 a_0 x_1 y_2} (O : Hold W h m h m [rV bkio2 3 cs_2]) (ne_0 : n_0 = List.length a_0) (k_0 : List.length a_0 ≤ c_0) (r_0 : Rd 1 eStr m A_0 a_0) (e_2 : (eInt .i64) m y_2 cs_2) {r} (e : sq86 a_0 x_1 y_2 = some r) : Run Tryd.prog 86 #[Value.slice A_0 n_0 c_0, Value.int .i64 x_1, Value.pointer (some ⟨bkio2, 0, none⟩)] h (sq86.post W bkio2 h m r) := by
 unfold sq86 at e
 subst ne_0
 obtain rfl : cs_2 = [(Value.int .i64 y_2)] := e_2
 refine f86.run ?_
 unfold f86.runT
 obtain ⟨y1, g2, e⟩ := bind_e e
 obtain ⟨W7, P8, B9, C10⟩ := O.callC [0]
 refine (sq87.walk P8 rfl k_0 r_0 rfl g2).mono ?_
 rintro _ h3 ⟨m4, cs12, Q5, rfl, he13⟩
 have O14 := Hold.nm (C10 Q5 (vfs_cons rV_vf vfs_nil))
 obtain rfl : cs12 = [(Value.int .i64 y1.2)] := he13
 refine ⟨_, rfl, ?_⟩
 cases e
 exact ⟨_, _, O14.pick [1], rfl, rfl⟩
def sq73.post (W : Nat → Prop) (h0 m0 : Heap) (r : Int × Int) (v : Value) (h : Heap) : Prop := ∃ m , Hold W h0 m0 h m [] ∧ v = .tuple #[.int .i64 r.1, .int .i64 r.2]
noncomputable def sq73.j0 (y_9 : Int) (x_11 : Int) : Option (Int × Int) :=
 if y_9 = (0 : Int) then (some (x_11, (1 : Int))) else (if y_9 = (12 : Int) then (some (x_11, (2 : Int))) else (some (x_11, (0 : Int))))
theorem sq73.j0.walk {W h0 m0 h m bk_9 cs_9 y_9 x_11} (O : Hold W h0 m0 h m [rV bk_9 3 cs_9]) (e_9 : (eInt .i64) m y_9 cs_9) {r} (e : sq73.j0 y_9 x_11 = some r) : f73.j0 (sq73.post W h0 m0 r) (⟨bk_9, 0, none⟩ : Addr) x_11 h := by
 unfold sq73.j0 at e
 obtain rfl : cs_9 = [(Value.int .i64 y_9)] := e_9
 refine f73.j0_in ?_
 unfold f73.j0T
 refine ⟨_, ld0 (Sub.refl _) (O.all 0 rfl) rfl, _, rfl, ?_⟩
 refine split_eq_e e (fun c2 e => ?_) (fun c2 e => ?_)
 · cases e
   exact ⟨_, O.pick [], rfl⟩
 · refine split_eq_e e (fun c1 e => ?_) (fun c1 e => ?_)
   · cases e
     exact ⟨_, O.pick [], rfl⟩
   · cases e
     exact ⟨_, O.pick [], rfl⟩
noncomputable def sq73.j1 (a_0 : List ByteArray) (y_9 : Int) (x_10 : Int) (x_11 : Int) (x_12 : Int) : Option (Int × Int) :=
 Option.bind (sq87 a_0 x_10 x_11 x_12 y_9) fun y1 => (sq73.j0 y1.2 y1.1)
theorem sq73.j1.walk {W h0 m0 h m A_0 n_0 c_0 bk_9 cs_9 a_0 y_9 x_10 x_11 x_12} (O : Hold W h0 m0 h m [rV bk_9 3 cs_9]) (ne_0 : n_0 = List.length a_0) (k_0 : List.length a_0 ≤ c_0) (r_0 : Rd 1 eStr m A_0 a_0) (e_9 : (eInt .i64) m y_9 cs_9) {r} (e : sq73.j1 a_0 y_9 x_10 x_11 x_12 = some r) : f73.j1 (sq73.post W h0 m0 r) A_0 n_0 c_0 (⟨bk_9, 0, none⟩ : Addr) x_10 x_11 x_12 h := by
 unfold sq73.j1 at e
 subst ne_0
 obtain rfl : cs_9 = [(Value.int .i64 y_9)] := e_9
 refine f73.j1_in ?_
 unfold f73.j1T
 obtain ⟨y1, g2, e⟩ := bind_e e
 obtain ⟨W7, P8, B9, C10⟩ := O.callC [0]
 refine (sq87.walk P8 rfl k_0 r_0 rfl g2).mono ?_
 rintro _ h3 ⟨m4, cs12, Q5, rfl, he13⟩
 have O14 := Hold.nm (C10 Q5 (vfs_cons rV_vf vfs_nil))
 obtain rfl : cs12 = [(Value.int .i64 y1.2)] := he13
 refine ⟨_, rfl, ?_⟩
 exact sq73.j0.walk (O14.pick [1]).nm rfl e
noncomputable def sq73 (a_0 : List ByteArray) (x_1 : Int) (x_2 : Int) : Option (Int × Int) :=
 if (IntKind.wrap .i64 (x_2 - x_1)) ≥ (8 : Int) then (if (IntKind.wrap .i64 (x_2 - x_1)) ≥ (50 : Int) then (Option.bind (sq86 a_0 (IntKind.wrap .i64 (x_1 + (IntKind.wrap .i64 ((IntKind.wrap .i64 (Int.tdiv (IntKind.wrap .i64 (x_2 - x_1)) (4 : Int))) * (1 : Int))))) (0 : Int)) fun y5 => Option.bind (sq86 a_0 (IntKind.wrap .i64 (x_1 + (IntKind.wrap .i64 ((IntKind.wrap .i64 (Int.tdiv (IntKind.wrap .i64 (x_2 - x_1)) (4 : Int))) * (2 : Int))))) y5.2) fun y20 => Option.bind (sq86 a_0 (IntKind.wrap .i64 (x_1 + (IntKind.wrap .i64 ((IntKind.wrap .i64 (Int.tdiv (IntKind.wrap .i64 (x_2 - x_1)) (4 : Int))) * (3 : Int))))) y20.2) fun y34 => (sq73.j1 a_0 y34.2 y5.1 y20.1 y34.1)) else ((sq73.j1 a_0 (0 : Int) (IntKind.wrap .i64 (x_1 + (IntKind.wrap .i64 ((IntKind.wrap .i64 (Int.tdiv (IntKind.wrap .i64 (x_2 - x_1)) (4 : Int))) * (1 : Int))))) (IntKind.wrap .i64 (x_1 + (IntKind.wrap .i64 ((IntKind.wrap .i64 (Int.tdiv (IntKind.wrap .i64 (x_2 - x_1)) (4 : Int))) * (2 : Int))))) (IntKind.wrap .i64 (x_1 + (IntKind.wrap .i64 ((IntKind.wrap .i64 (Int.tdiv (IntKind.wrap .i64 (x_2 - x_1)) (4 : Int))) * (3 : Int)))))))) else ((sq73.j0 (0 : Int) (IntKind.wrap .i64 (x_1 + (IntKind.wrap .i64 ((IntKind.wrap .i64 (Int.tdiv (IntKind.wrap .i64 (x_2 - x_1)) (4 : Int))) * (2 : Int)))))))
set_option maxHeartbeats 4000000 in
theorem sq73.walk {W h m A_0 n_0 c_0 a_0 x_1 x_2} (O : Hold W h m h m []) (ne_0 : n_0 = List.length a_0) (k_0 : List.length a_0 ≤ c_0) (r_0 : Rd 1 eStr m A_0 a_0) {r} (e : sq73 a_0 x_1 x_2 = some r) : Run Tryd.prog 73 #[Value.slice A_0 n_0 c_0, Value.int .i64 x_1, Value.int .i64 x_2] h (sq73.post W h m r) := by
 unfold sq73 at e
 subst ne_0
 refine f73.run ?_
 unfold f73.runT
 refine O.new fun h1 x2 O3 => ?_
 refine ⟨by decide, ?_⟩
 refine ⟨by decide, ?_⟩
 refine ⟨by decide, ?_⟩
 refine split_dec_e e (fun c51 e => ?_) (fun c51 e => ?_)
 · refine split_dec_e e (fun c49 e => ?_) (fun c49 e => ?_)
   · obtain ⟨y5, g6, e⟩ := bind_e e
     have O11 := O3.nm
     obtain ⟨W12, P13, B14, C15⟩ := O11.callC [0]
     refine (sq86.walk P13 rfl k_0 r_0 rfl g6).mono ?_
     rintro _ h7 ⟨m8, cs17, Q9, rfl, he18⟩
     have O19 := Hold.nm (C15 Q9 (vfs_cons rV_vf vfs_nil))
     obtain rfl : cs17 = [(Value.int .i64 y5.2)] := he18
     refine ⟨_, rfl, ?_⟩
     obtain ⟨y20, g21, e⟩ := bind_e e
     obtain ⟨W26, P27, B28, C29⟩ := O19.callC [1]
     refine (sq86.walk P27 rfl k_0 r_0 rfl g21).mono ?_
     rintro _ h22 ⟨m23, cs31, Q24, rfl, he32⟩
     have O33 := Hold.nm (C29 Q24 (vfs_cons rV_vf vfs_nil))
     obtain rfl : cs31 = [(Value.int .i64 y20.2)] := he32
     refine ⟨_, rfl, ?_⟩
     obtain ⟨y34, g35, e⟩ := bind_e e
     obtain ⟨W40, P41, B42, C43⟩ := O33.callC [2]
     refine (sq86.walk P41 rfl k_0 r_0 rfl g35).mono ?_
     rintro _ h36 ⟨m37, cs45, Q38, rfl, he46⟩
     have O47 := Hold.nm (C43 Q38 (vfs_cons rV_vf vfs_nil))
     obtain rfl : cs45 = [(Value.int .i64 y34.2)] := he46
     refine ⟨_, rfl, ?_⟩
     exact sq73.j1.walk (O47.pick [3]).nm rfl k_0 r_0 rfl e
   · have O48 := O3.nm
     exact sq73.j1.walk (O48.pick [0]).nm rfl k_0 r_0 rfl e
 · have O50 := O3.nm
   exact sq73.j0.walk (O50.pick [0]).nm rfl e
def sq74.post (W : Nat → Prop) (Asl0 : Option Addr) (nsl0 csl0 : Nat) (h0 m0 : Heap) (r : (List ByteArray)) (v : Value) (h : Heap) : Prop := ∃ m , Hold W h0 m0 h m [rR (aE tell_str) Asl0 csl0 r] ∧ v = .tuple #[] ∧ nsl0 = List.length r
inductive sq74.l0_k.Pt where
 | l0 (a_0 : List ByteArray) (x_6 : Int) (x_7 : Int)
noncomputable def sq74.l0_k.body (go : (p : sq74.l0_k.Pt) → Option ((List ByteArray))) : (p : sq74.l0_k.Pt) → Option ((List ByteArray))
 | .l0 a_0 x_6 x_7 => if x_6 < x_7 then (Option.bind (gi a_0 x_7) fun y1 => Option.bind (gi a_0 x_6) fun y8 => Option.bind (gi a_0 x_6) fun y15 => Option.bind (some (List.set a_0 (Int.toNat x_6) y1)) fun l24 => Option.bind (gi l24 x_7) fun y26 => Option.bind (some (List.set l24 (Int.toNat x_7) y8)) fun l35 => (go (.l0 l35 (IntKind.wrap .i64 (x_6 + (1 : Int))) (IntKind.wrap .i64 (x_7 - (1 : Int)))))) else (some (a_0))
theorem sq74.l0_k.mono : MonoF (β := fun _ => ((List ByteArray))) sq74.l0_k.body := fun f g hfg p => match p with
 | .l0 a_0 x_6 x_7 => LeO.ite (LeO.bind (LeO.refl _) fun y1 => LeO.bind (LeO.refl _) fun y8 => LeO.bind (LeO.refl _) fun y15 => LeO.bind (LeO.refl _) fun l24 => LeO.bind (LeO.refl _) fun y26 => LeO.bind (LeO.refl _) fun l35 => (hfg _)) (LeO.refl _)
noncomputable def sq74.l0_k.go (p : sq74.l0_k.Pt) : Option ((List ByteArray)) := fixF (β := fun _ => ((List ByteArray))) sq74.l0_k.body p
noncomputable def sq74.l0 (a_0 x_6 x_7) := sq74.l0_k.go (.l0 a_0 x_6 x_7)
theorem sq74.l0_eq (a_0 x_6 x_7) : sq74.l0 a_0 x_6 x_7 = if x_6 < x_7 then (Option.bind (gi a_0 x_7) fun y1 => Option.bind (gi a_0 x_6) fun y8 => Option.bind (gi a_0 x_6) fun y15 => Option.bind (some (List.set a_0 (Int.toNat x_6) y1)) fun l24 => Option.bind (gi l24 x_7) fun y26 => Option.bind (some (List.set l24 (Int.toNat x_7) y8)) fun l35 => (sq74.l0 l35 (IntKind.wrap .i64 (x_6 + (1 : Int))) (IntKind.wrap .i64 (x_7 - (1 : Int))))) else (some (a_0)) := fixF_eq sq74.l0_k.mono _
def sq74.l0_k.I : (p : sq74.l0_k.Pt) → ((List ByteArray)) → Prop
 | .l0 a_0 x_6 x_7, r => ∀ {W h0 m0 h m A_0 n_0 c_0} (O : Hold W h0 m0 h m [rR (aE tell_str) A_0 c_0 a_0]) (ne_0 : n_0 = List.length a_0), f74.l0 (sq74.post W A_0 n_0 c_0 h0 m0 r) A_0 n_0 c_0 x_6 x_7 h
theorem sq74.l0_k.step_l0 (go : (p : sq74.l0_k.Pt) → Option ((List ByteArray))) (ih : ∀ p r, go p = some r → sq74.l0_k.I p r) (a_0 x_6 x_7) (r) (e : sq74.l0_k.body go (.l0 a_0 x_6 x_7) = some r) : sq74.l0_k.I (.l0 a_0 x_6 x_7) r := by
 unfold sq74.l0_k.body at e
 intro W h0 m0 h m A_0 n_0 c_0 O ne_0
 subst ne_0
 refine f74.l0_in ?_
 unfold f74.l0T
 refine split_dec_e e (fun c38 e => ?_) (fun c38 e => ?_)
 · obtain ⟨y1, g2, e⟩ := bind_e e
   refine (O.os 0 rfl).addr rfl g2 fun a3 cs4 ha5 hc6 he7 => ?_
   obtain rfl : cs4 = [(Value.string y1)] := he7
   obtain ⟨y8, g9, e⟩ := bind_e e
   refine (O.os 0 rfl).addr rfl g9 fun a10 cs11 ha12 hc13 he14 => ?_
   obtain rfl : cs11 = [(Value.string y8)] := he14
   refine ⟨_, ld0 (Sub.refl _) hc6 rfl, _, rfl, ?_⟩
   refine ⟨_, ld0 (Sub.refl _) hc13 rfl, _, rfl, ?_⟩
   obtain ⟨y15, g16, e⟩ := bind_e e
   refine (O.os 0 rfl).addr rfl g16 fun a17 cs18 ha19 hc20 he21 => ?_
   obtain rfl : cs18 = [(Value.string y15)] := he21
   obtain ⟨l24, g25, e⟩ := bind_e e
   replace g25 := Option.some.inj g25
   refine O.elst0 0 rfl g16 ha19 hc20 (by decide) (y' := y1) rfl trivial g25 fun h22 O23 => ?_
   obtain ⟨y26, g27, e⟩ := bind_e e
   refine (O23.os 0 rfl).addr (lset' g25) g27 fun a28 cs29 ha30 hc31 he32 => ?_
   obtain rfl : cs29 = [(Value.string y26)] := he32
   obtain ⟨l35, g36, e⟩ := bind_e e
   replace g36 := Option.some.inj g36
   refine O23.elst0 0 rfl g27 ha30 hc31 (by decide) (y' := y8) rfl trivial g36 fun h33 O34 => ?_
   have O37 := O34.nm
   exact (ih _ _ e) (O37.pick [0]).nm ((lset' g25).trans (lset' g36))
 · cases e
   exact ⟨_, O.pick [0], rfl, rfl⟩
theorem sq74.l0_k.all {p : sq74.l0_k.Pt} {r : ((List ByteArray))} (e : sq74.l0_k.go p = some r) : sq74.l0_k.I p r := fixF_ind (β := fun _ => ((List ByteArray))) sq74.l0_k.mono (I := sq74.l0_k.I) (fun go ih p r e => match p with
 | .l0 a_0 x_6 x_7 => sq74.l0_k.step_l0 go ih a_0 x_6 x_7 r e
 ) e
noncomputable def sq74 (a_0 : List ByteArray) (x_1 : Int) (x_2 : Int) : Option ((List ByteArray)) :=
 (sq74.l0 a_0 x_1 (IntKind.wrap .i64 (x_2 - (1 : Int))))
theorem sq74.walk {W h m A_0 n_0 c_0 a_0 x_1 x_2} (O : Hold W h m h m [rR (aE tell_str) A_0 c_0 a_0]) (ne_0 : n_0 = List.length a_0) {r} (e : sq74 a_0 x_1 x_2 = some r) : Run Tryd.prog 74 #[Value.slice A_0 n_0 c_0, Value.int .i64 x_1, Value.int .i64 x_2] h (sq74.post W A_0 n_0 c_0 h m r) := by
 unfold sq74 at e
 subst ne_0
 refine f74.run ?_
 unfold f74.runT
 exact (sq74.l0_k.all e) (O.pick [0]).nm rfl
end Go.Proofs.YtaiehkhjmplodaaDoor.Fw

end
