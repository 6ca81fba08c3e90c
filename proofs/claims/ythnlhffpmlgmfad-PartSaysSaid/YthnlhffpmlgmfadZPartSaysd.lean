/- Part 4: what the law PartSays needs, put together out of texts of this session. -/
import Derived.Test.YthnlhffpmlgmfadZPartSaysc
section
namespace Go.Proofs.Ythnlhffpmlgmfad.Fw
open Go Go.Hw Go.Proofs
set_option linter.unusedVariables false
set_option synthInstance.maxHeartbeats 400000
set_option synthInstance.maxSize 1000
structure T_part_Step where
  Who : Int
  Reads : Int
  Writes : Int
def T_part_Step.E (h : Heap) (x : T_part_Step) (cs : List Value) : Prop := cs = [.int .i64 x.Who, .int .i64 x.Reads, .int .i64 x.Writes]
theorem T_part_Step.T : Tell 3 T_part_Step.E := ⟨by rintro m h x _ s rfl; exact rfl, by rintro h x _ rfl; rfl, by rintro h x _ rfl; exact Flats.cons trivial (Flats.cons trivial (Flats.cons trivial Flats.nil))⟩
theorem T_part_Step.keep {m h : Heap} {x : T_part_Step} {cs : List Value} (e : T_part_Step.E m x cs) : T_part_Step.E h x cs := e
structure T_roadref4_Step where
  Who : Int
  Reads : Int
  Writes : Int
def T_roadref4_Step.E (h : Heap) (x : T_roadref4_Step) (cs : List Value) : Prop := cs = [.int .i64 x.Who, .int .i64 x.Reads, .int .i64 x.Writes]
theorem T_roadref4_Step.T : Tell 3 T_roadref4_Step.E := ⟨by rintro m h x _ s rfl; exact rfl, by rintro h x _ rfl; rfl, by rintro h x _ rfl; exact Flats.cons trivial (Flats.cons trivial (Flats.cons trivial Flats.nil))⟩
theorem T_roadref4_Step.keep {m h : Heap} {x : T_roadref4_Step} {cs : List Value} (e : T_roadref4_Step.E m x cs) : T_roadref4_Step.E h x cs := e
def T_roadref4_Step.Q (x : T_roadref4_Step) : Prop := (-9223372036854775808 ≤ x.Who ∧ x.Who ≤ 9223372036854775807) ∧ (-9223372036854775808 ≤ x.Reads ∧ x.Reads ≤ 9223372036854775807) ∧ (-9223372036854775808 ≤ x.Writes ∧ x.Writes ≤ 9223372036854775807)
theorem T_roadref4_Step.tells {H : Type} {enc : TypeId × Value → H} {W : World} : Tells enc Try.prog W 88 T_roadref4_Step.E T_roadref4_Step.Q := tells_map (tells_struct (t := 88) (fs := [(3, 0), (3, 1), (3, 2)]) (T := 3) (by kernel_rfl) (by kernel_rfl) (tf_cons (s := 1) (f := 3) (by kernel_rfl) (tells_i64 (t := 3) (by kernel_rfl)) (tf_cons (s := 1) (f := 3) (by kernel_rfl) (tells_i64 (t := 3) (by kernel_rfl)) (tf_cons (s := 1) (f := 3) (by kernel_rfl) (tells_i64 (t := 3) (by kernel_rfl)) tf_nil)))) (by
  rintro ⟨x0, x1, x2, ⟨⟩⟩ cs e q
  obtain ⟨c0, r0, rfl, e0, c1, r1, rfl, e1, c2, r2, rfl, e2, eN⟩ := e
  obtain rfl : c0 = [.int .i64 x0] := e0
  obtain rfl : c1 = [.int .i64 x1] := e1
  obtain rfl : c2 = [.int .i64 x2] := e2
  obtain rfl : r2 = [] := eN
  exact ⟨⟨x0, x1, x2⟩, rfl, q.1, q.2.1, q.2.2.1⟩)
theorem T_part_Step.g0 {m : Heap} {x : T_part_Step} {cs : List Value} (e : T_part_Step.E m x cs) : cs[0]? = some (Value.int .i64 x.Who) := by
  obtain rfl := e
  exact rfl
theorem T_part_Step.g1 {m : Heap} {x : T_part_Step} {cs : List Value} (e : T_part_Step.E m x cs) : cs[1]? = some (Value.int .i64 x.Reads) := by
  obtain rfl := e
  exact rfl
theorem T_part_Step.g2 {m : Heap} {x : T_part_Step} {cs : List Value} (e : T_part_Step.E m x cs) : cs[2]? = some (Value.int .i64 x.Writes) := by
  obtain rfl := e
  exact rfl
theorem T_roadref4_Step.g0 {m : Heap} {x : T_roadref4_Step} {cs : List Value} (e : T_roadref4_Step.E m x cs) : cs[0]? = some (Value.int .i64 x.Who) := by
  obtain rfl := e
  exact rfl
theorem T_roadref4_Step.g1 {m : Heap} {x : T_roadref4_Step} {cs : List Value} (e : T_roadref4_Step.E m x cs) : cs[1]? = some (Value.int .i64 x.Reads) := by
  obtain rfl := e
  exact rfl
theorem T_roadref4_Step.g2 {m : Heap} {x : T_roadref4_Step} {cs : List Value} (e : T_roadref4_Step.E m x cs) : cs[2]? = some (Value.int .i64 x.Writes) := by
  obtain rfl := e
  exact rfl
def part_Check.post (W : Nat → Prop) (h0 m0 : Heap) (r : Int) (v : Value) (h : Heap) : Prop := ∃ m , Hold W h0 m0 h m [] ∧ v = .int .i64 r
inductive part_Check.l0_k.Pt where
  | l0 (a_8 : List T_part_Step) (x_9 : Int) (x_10 : Int)
noncomputable def part_Check.l0_k.body (go : (p : part_Check.l0_k.Pt) → Option (Int)) : (p : part_Check.l0_k.Pt) → Option (Int)
  | .l0 a_8 x_9 x_10 => if x_10 < x_9 then (Option.bind (gi a_8 x_10) fun y1 => if y1.Who < (0 : Int) then (some ((1 : Int))) else (if y1.Who ≥ (8 : Int) then (some ((1 : Int))) else (if y1.Reads < (0 : Int) then (some ((1 : Int))) else (if y1.Reads ≥ (256 : Int) then (some ((1 : Int))) else (if y1.Writes < (0 : Int) then (some ((1 : Int))) else (if y1.Writes ≥ (256 : Int) then (some ((1 : Int))) else ((go (.l0 a_8 x_9 (IntKind.wrap .i64 (x_10 + (1 : Int)))))))))))) else (some ((0 : Int)))
theorem part_Check.l0_k.mono : MonoF (β := fun _ => (Int)) part_Check.l0_k.body := fun f g hfg p => match p with
  | .l0 a_8 x_9 x_10 => LeO.ite (LeO.bind (LeO.refl _) fun y1 => LeO.ite (LeO.refl _) (LeO.ite (LeO.refl _) (LeO.ite (LeO.refl _) (LeO.ite (LeO.refl _) (LeO.ite (LeO.refl _) (LeO.ite (LeO.refl _) ((hfg _)))))))) (LeO.refl _)
noncomputable def part_Check.l0_k.go (p : part_Check.l0_k.Pt) : Option (Int) := fixF (β := fun _ => (Int)) part_Check.l0_k.body p
noncomputable def part_Check.l0 (a_8 : List T_part_Step) (x_9 : Int) (x_10 : Int) : Option (Int) := part_Check.l0_k.go (.l0 a_8 x_9 x_10)
theorem part_Check.l0_eq (a_8 : List T_part_Step) (x_9 : Int) (x_10 : Int) : part_Check.l0 a_8 x_9 x_10 = if x_10 < x_9 then (Option.bind (gi a_8 x_10) fun y1 => if y1.Who < (0 : Int) then (some ((1 : Int))) else (if y1.Who ≥ (8 : Int) then (some ((1 : Int))) else (if y1.Reads < (0 : Int) then (some ((1 : Int))) else (if y1.Reads ≥ (256 : Int) then (some ((1 : Int))) else (if y1.Writes < (0 : Int) then (some ((1 : Int))) else (if y1.Writes ≥ (256 : Int) then (some ((1 : Int))) else ((part_Check.l0 a_8 x_9 (IntKind.wrap .i64 (x_10 + (1 : Int))))))))))) else (some ((0 : Int))) := fixF_eq part_Check.l0_k.mono _
def part_Check.l0_k.I : (p : part_Check.l0_k.Pt) → (Int) → Prop
  | .l0 a_8 x_9 x_10, r => ∀ (W : Nat → Prop) (h0 m0 h m : Heap) (A_8 : Option Addr) (n_8 c_8 : Nat) (O : Hold W h0 m0 h m []) (ne_8 : n_8 = List.length a_8) (k_8 : List.length a_8 ≤ c_8) (r_8 : Rd 3 T_part_Step.E m A_8 a_8), f40.l0 (part_Check.post W h0 m0 r) A_8 n_8 c_8 x_9 x_10 h
set_option maxHeartbeats 4000000 in
set_option maxRecDepth 100000 in
theorem part_Check.l0_k.step_l0 (go : (p : part_Check.l0_k.Pt) → Option (Int)) (ih : ∀ p r, go p = some r → part_Check.l0_k.I p r) (a_8 : List T_part_Step) (x_9 : Int) (x_10 : Int) (r : Int) (e : part_Check.l0_k.body go (.l0 a_8 x_9 x_10) = some r) : part_Check.l0_k.I (.l0 a_8 x_9 x_10) r := by
  unfold part_Check.l0_k.body at e
  intro W h0 m0 h m A_8 n_8 c_8 O ne_8 k_8 r_8
  subst ne_8
  refine f40.l0_in ?_
  unfold f40.l0T
  refine split_dec_e e (fun c27 e => ?_) (fun c27 e => ?_)
  · obtain ⟨y1, g2, e⟩ := bind_e e
    refine r_8.addr rfl g2 fun a3 cs4 ha5 hc6 he7 => ?_
    refine ⟨_, ldAn O.s hc6 rfl, ?_⟩
    refine O.new fun h8 x9 O10 => ?_
    refine ⟨_, rfl, (T_part_Step.T.len _ _ _ he7), ?_⟩
    refine O10.stA 0 rfl (T_part_Step.T.len _ _ _ he7) (T_part_Step.T.flat _ _ _ he7) fun h12 O13 => ?_
    refine ⟨_, ld0 (Sub.refl _) (O13.all 0 rfl) (T_part_Step.g0 he7), _, rfl, ?_⟩
    refine split_dec_e e (fun c26 e => ?_) (fun c26 e => ?_)
    · have O14 := O13.nm
      cases e
      exact ⟨_, O14.pick [], rfl⟩
    · refine ⟨_, ld0 (Sub.refl _) (O13.all 0 rfl) (T_part_Step.g0 he7), _, rfl, ?_⟩
      refine split_dec_e e (fun c25 e => ?_) (fun c25 e => ?_)
      · have O15 := O13.nm
        cases e
        exact ⟨_, O15.pick [], rfl⟩
      · refine ⟨_, ldk (k := 1) (Sub.refl _) (O13.all 0 rfl) (T_part_Step.g1 he7), _, rfl, ?_⟩
        refine split_dec_e e (fun c24 e => ?_) (fun c24 e => ?_)
        · have O16 := O13.nm
          cases e
          exact ⟨_, O16.pick [], rfl⟩
        · refine ⟨_, ldk (k := 1) (Sub.refl _) (O13.all 0 rfl) (T_part_Step.g1 he7), _, rfl, ?_⟩
          refine split_dec_e e (fun c23 e => ?_) (fun c23 e => ?_)
          · have O17 := O13.nm
            cases e
            exact ⟨_, O17.pick [], rfl⟩
          · refine ⟨_, ldk (k := 2) (Sub.refl _) (O13.all 0 rfl) (T_part_Step.g2 he7), _, rfl, ?_⟩
            refine split_dec_e e (fun c22 e => ?_) (fun c22 e => ?_)
            · have O18 := O13.nm
              cases e
              exact ⟨_, O18.pick [], rfl⟩
            · refine ⟨_, ldk (k := 2) (Sub.refl _) (O13.all 0 rfl) (T_part_Step.g2 he7), _, rfl, ?_⟩
              refine split_dec_e e (fun c21 e => ?_) (fun c21 e => ?_)
              · have O19 := O13.nm
                cases e
                exact ⟨_, O19.pick [], rfl⟩
              · have O20 := O13.nm
                exact (ih _ _ e) _ _ _ _ _ _ _ _ (O20.pick []).nm rfl k_8 r_8
  · cases e
    exact ⟨_, O.pick [], rfl⟩
theorem part_Check.l0_k.all {p : part_Check.l0_k.Pt} {r : (Int)} (e : part_Check.l0_k.go p = some r) : part_Check.l0_k.I p r := fixF_ind (β := fun _ => (Int)) part_Check.l0_k.mono (I := part_Check.l0_k.I) (fun go ih p r e => match p with
  | .l0 a_8 x_9 x_10 => part_Check.l0_k.step_l0 go ih a_8 x_9 x_10 r e
  ) e
theorem part_Check.l0.walk {W : Nat → Prop} {h0 m0 h m : Heap} {A_8 : Option Addr} {n_8 c_8 : Nat} {a_8 : List T_part_Step} {x_9 : Int} {x_10 : Int} (O : Hold W h0 m0 h m []) (ne_8 : n_8 = List.length a_8) (k_8 : List.length a_8 ≤ c_8) (r_8 : Rd 3 T_part_Step.E m A_8 a_8) {r : Int} (e : part_Check.l0 a_8 x_9 x_10 = some r) : f40.l0 (part_Check.post W h0 m0 r) A_8 n_8 c_8 x_9 x_10 h := part_Check.l0_k.all (p := .l0 a_8 x_9 x_10) e W h0 m0 h m A_8 n_8 c_8 O ne_8 k_8 r_8
noncomputable def part_Check (a_0 : List T_part_Step) : Option (Int) :=
  if (((List.length a_0) : Nat) : Int) > (40 : Int) then (some ((2 : Int))) else ((part_Check.l0 a_0 (((List.length a_0) : Nat) : Int) (0 : Int)))
set_option maxRecDepth 100000 in
theorem part_Check.walk {W : Nat → Prop} {h m : Heap} {A_0 : Option Addr} {n_0 c_0 : Nat} {a_0 : List T_part_Step} (O : Hold W h m h m []) (ne_0 : n_0 = List.length a_0) (k_0 : List.length a_0 ≤ c_0) (r_0 : Rd 3 T_part_Step.E m A_0 a_0) {r : Int} (e : part_Check a_0 = some r) : Run Try.prog 40 #[Value.slice A_0 n_0 c_0] h (part_Check.post W h m r) := by
  unfold part_Check at e
  subst ne_0
  refine f40.run ?_
  unfold f40.runT
  refine split_dec_e e (fun c1 e => ?_) (fun c1 e => ?_)
  · cases e
    exact ⟨_, O.pick [], rfl⟩
  · exact part_Check.l0.walk (O.pick []).nm rfl k_0 r_0 e
def part_depend.post (W : Nat → Prop) (h0 m0 : Heap) (r : Bool) (v : Value) (h : Heap) : Prop := ∃ m , Hold W h0 m0 h m [] ∧ v = .bool r
noncomputable def part_depend (y_0 : T_part_Step) (y_1 : T_part_Step) : Option (Bool) :=
  if y_0.Who = y_1.Who then (some (true)) else (if (bitsI .and .i64 y_0.Writes (bitsI .or .i64 y_1.Reads y_1.Writes)) = (0 : Int) then (some (((bitsI .and .i64 y_1.Writes y_0.Reads) != (0 : Int)))) else (some (true)))
set_option maxRecDepth 100000 in
theorem part_depend.walk {W : Nat → Prop} {h m : Heap} {cs_0 : List Value} {cs_1 : List Value} {y_0 : T_part_Step} {y_1 : T_part_Step} (O : Hold W h m h m []) (e_0 : T_part_Step.E m y_0 cs_0) (e_1 : T_part_Step.E m y_1 cs_1) {r : Bool} (e : part_depend y_0 y_1 = some r) : Run Try.prog 91 #[Value.agg cs_0.toArray, Value.agg cs_1.toArray] h (part_depend.post W h m r) := by
  unfold part_depend at e
  refine f91.run ?_
  unfold f91.runT
  refine O.new fun h1 x2 O3 => ?_
  refine O3.new fun h5 x6 O7 => ?_
  refine ⟨_, ld0 (Sub.refl _) (O7.all 0 rfl) (T_part_Step.g0 e_0), _, rfl, ?_⟩
  refine ⟨_, ld0 (Sub.refl _) (O7.all 1 rfl) (T_part_Step.g0 e_1), _, rfl, ?_⟩
  refine split_eq_e e (fun c13 e => ?_) (fun c13 e => ?_)
  · have O9 := O7.nm
    cases e
    exact ⟨_, O9.pick [], rfl⟩
  · refine ⟨_, ldk (k := 2) (Sub.refl _) (O7.all 0 rfl) (T_part_Step.g2 e_0), _, rfl, ?_⟩
    refine ⟨_, ldk (k := 1) (Sub.refl _) (O7.all 1 rfl) (T_part_Step.g1 e_1), _, rfl, ?_⟩
    refine ⟨_, ldk (k := 2) (Sub.refl _) (O7.all 1 rfl) (T_part_Step.g2 e_1), _, rfl, ?_⟩
    refine split_ne_e e (fun c12 e => ?_) (fun c12 e => ?_)
    · have O10 := O7.nm
      cases e
      exact ⟨_, O10.pick [], rfl⟩
    · refine ⟨_, ldk (k := 2) (Sub.refl _) (O7.all 1 rfl) (T_part_Step.g2 e_1), _, rfl, ?_⟩
      refine ⟨_, ldk (k := 1) (Sub.refl _) (O7.all 0 rfl) (T_part_Step.g1 e_0), _, rfl, ?_⟩
      have O11 := O7.nm
      cases e
      exact ⟨_, O11.pick [], rfl⟩
def part_Depend.post (W : Nat → Prop) (h0 m0 : Heap) (r : Bool × Int) (v : Value) (h : Heap) : Prop := ∃ m , Hold W h0 m0 h m [] ∧ v = .tuple #[.bool r.1, .int .i64 r.2]
noncomputable def part_Depend (y_0 : T_part_Step) (y_1 : T_part_Step) : Option (Bool × Int) :=
  Option.bind (part_Check ([y_0, y_1] : List T_part_Step)) fun y16 => if y16 = (0 : Int) then (Option.bind (part_depend y_0 y_1) fun y31 => some (y31, (0 : Int))) else (some (false, y16))
set_option maxHeartbeats 4000000 in
set_option maxRecDepth 100000 in
theorem part_Depend.walk {W : Nat → Prop} {h m : Heap} {cs_0 : List Value} {cs_1 : List Value} {y_0 : T_part_Step} {y_1 : T_part_Step} (O : Hold W h m h m []) (e_0 : T_part_Step.E m y_0 cs_0) (e_1 : T_part_Step.E m y_1 cs_1) {r : Bool × Int} (e : part_Depend y_0 y_1 = some r) : Run Try.prog 33 #[Value.agg cs_0.toArray, Value.agg cs_1.toArray] h (part_Depend.post W h m r) := by
  unfold part_Depend at e
  refine f33.run ?_
  unfold f33.runT
  refine O.new fun h1 x2 O3 => ?_
  refine O3.new fun h5 x6 O7 => ?_
  refine ⟨_, ldAn (Sub.refl _) (O7.all 0 rfl) (T_part_Step.T.len _ _ _ e_0), ?_⟩
  refine ⟨_, ldAn (Sub.refl _) (O7.all 1 rfl) (T_part_Step.T.len _ _ _ e_1), ?_⟩
  obtain rfl : cs_0 = [(Value.int .i64 y_0.Who), (Value.int .i64 y_0.Reads), (Value.int .i64 y_0.Writes)] := e_0
  obtain rfl : cs_1 = [(Value.int .i64 y_1.Who), (Value.int .i64 y_1.Reads), (Value.int .i64 y_1.Writes)] := e_1
  refine ⟨[(Value.int .i64 y_0.Who), (Value.int .i64 y_0.Reads), (Value.int .i64 y_0.Writes)], rfl, rfl, ?_⟩
  refine ⟨[(Value.int .i64 y_1.Who), (Value.int .i64 y_1.Reads), (Value.int .i64 y_1.Writes)], rfl, rfl, ?_⟩
  refine O7.new fun h11 x12 O13 => ?_
  obtain ⟨y16, g17, e⟩ := bind_e e
  have O15 := O13.rowE (l := ([y_0, y_1] : List T_part_Step)) 2 rfl T_part_Step.T (show CsE _ _ _ _ _ from (CsE.cons (c1 := [(Value.int .i64 y_0.Who), (Value.int .i64 y_0.Reads), (Value.int .i64 y_0.Writes)]) (show T_part_Step.E _ y_0 [(Value.int .i64 y_0.Who), (Value.int .i64 y_0.Reads), (Value.int .i64 y_0.Writes)] from rfl) rfl (CsE.cons (c1 := [(Value.int .i64 y_1.Who), (Value.int .i64 y_1.Reads), (Value.int .i64 y_1.Writes)]) (show T_part_Step.E _ y_1 [(Value.int .i64 y_1.Who), (Value.int .i64 y_1.Reads), (Value.int .i64 y_1.Writes)] from rfl) rfl CsE.nil))) rfl
  have O22 := O15.nm
  obtain ⟨m23, u24, s29, ⟨⟨r27, k28⟩, _⟩, B25, C26⟩ := O22.lend0 [2]
  replace r27 : Rd 3 T_part_Step.E m23 (some ⟨(Array.size h5), 0, none⟩) ([y_0, y_1] : List T_part_Step) := r27
  replace k28 : List.length ([y_0, y_1] : List T_part_Step) ≤ 2 := k28
  refine (part_Check.walk (Hold.start (W := No) s29) rfl k28 r27 g17).mono ?_
  rintro _ h18 ⟨m19, Q20, rfl⟩
  have O30 := Hold.nm (C26 Q20 vfs_nil)
  refine ⟨_, rfl, ?_⟩
  refine split_ne_e e (fun c38 e => ?_) (fun c38 e => ?_)
  · cases e
    exact ⟨_, O30.pick [], rfl⟩
  · refine ⟨_, ldAn (Sub.refl _) (O30.all 0 rfl) rfl, ?_⟩
    refine ⟨_, ldAn (Sub.refl _) (O30.all 1 rfl) rfl, ?_⟩
    obtain ⟨y31, g32, e⟩ := bind_e e
    refine (part_depend.walk (Hold.start (W := No) O30.s) (show T_part_Step.E _ y_0 [(Value.int .i64 y_0.Who), (Value.int .i64 y_0.Reads), (Value.int .i64 y_0.Writes)] from rfl) (show T_part_Step.E _ y_1 [(Value.int .i64 y_1.Who), (Value.int .i64 y_1.Reads), (Value.int .i64 y_1.Writes)] from rfl) g32).mono ?_
    rintro _ h33 ⟨m34, Q35, rfl⟩
    have O37 := Hold.nm (O30.retC Q35 vfs_nil)
    refine ⟨_, rfl, ?_⟩
    cases e
    exact ⟨_, O37.pick [], rfl⟩
def roadlaw4_steps.post (W : Nat → Prop) (h0 m0 : Heap) (r : (List T_part_Step)) (v : Value) (h : Heap) : Prop := ∃ m A0 n0 c0, Hold W h0 m0 h m [rR (aE T_part_Step.T) A0 c0 r] ∧ v = .slice A0 n0 c0 ∧ n0 = List.length r
inductive roadlaw4_steps.l0_k.Pt where
  | l0 (a_3 : List T_part_Step) (a_6 : List T_roadref4_Step) (x_7 : Int) (x_8 : Int)
noncomputable def roadlaw4_steps.l0_k.body (go : (p : roadlaw4_steps.l0_k.Pt) → Option ((List T_part_Step))) : (p : roadlaw4_steps.l0_k.Pt) → Option ((List T_part_Step))
  | .l0 a_3 a_6 x_7 x_8 => if x_8 < x_7 then (Option.bind (gi a_6 x_8) fun y1 => Option.bind (ap 24 a_3 ([(T_part_Step.mk y1.Who y1.Reads y1.Writes)] : List T_part_Step)) fun l18 => (go (.l0 l18 a_6 x_7 (IntKind.wrap .i64 (x_8 + (1 : Int)))))) else (some (a_3))
theorem roadlaw4_steps.l0_k.mono : MonoF (β := fun _ => ((List T_part_Step))) roadlaw4_steps.l0_k.body := fun f g hfg p => match p with
  | .l0 a_3 a_6 x_7 x_8 => LeO.ite (LeO.bind (LeO.refl _) fun y1 => LeO.bind (LeO.refl _) fun l18 => (hfg _)) (LeO.refl _)
noncomputable def roadlaw4_steps.l0_k.go (p : roadlaw4_steps.l0_k.Pt) : Option ((List T_part_Step)) := fixF (β := fun _ => ((List T_part_Step))) roadlaw4_steps.l0_k.body p
noncomputable def roadlaw4_steps.l0 (a_3 : List T_part_Step) (a_6 : List T_roadref4_Step) (x_7 : Int) (x_8 : Int) : Option ((List T_part_Step)) := roadlaw4_steps.l0_k.go (.l0 a_3 a_6 x_7 x_8)
theorem roadlaw4_steps.l0_eq (a_3 : List T_part_Step) (a_6 : List T_roadref4_Step) (x_7 : Int) (x_8 : Int) : roadlaw4_steps.l0 a_3 a_6 x_7 x_8 = if x_8 < x_7 then (Option.bind (gi a_6 x_8) fun y1 => Option.bind (ap 24 a_3 ([(T_part_Step.mk y1.Who y1.Reads y1.Writes)] : List T_part_Step)) fun l18 => (roadlaw4_steps.l0 l18 a_6 x_7 (IntKind.wrap .i64 (x_8 + (1 : Int))))) else (some (a_3)) := fixF_eq roadlaw4_steps.l0_k.mono _
def roadlaw4_steps.l0_k.I : (p : roadlaw4_steps.l0_k.Pt) → ((List T_part_Step)) → Prop
  | .l0 a_3 a_6 x_7 x_8, r => ∀ (W : Nat → Prop) (h0 m0 h m : Heap) (A_3 : Option Addr) (n_3 c_3 : Nat) (A_6 : Option Addr) (n_6 c_6 : Nat) (O : Hold W h0 m0 h m [rR (aE T_part_Step.T) A_3 c_3 a_3]) (ne_3 : n_3 = List.length a_3) (ne_6 : n_6 = List.length a_6) (k_6 : List.length a_6 ≤ c_6) (r_6 : Rd 3 T_roadref4_Step.E m A_6 a_6), f34.l0 (roadlaw4_steps.post W h0 m0 r) A_3 n_3 c_3 A_6 n_6 c_6 x_7 x_8 h
set_option maxRecDepth 100000 in
theorem roadlaw4_steps.l0_k.step_l0 (go : (p : roadlaw4_steps.l0_k.Pt) → Option ((List T_part_Step))) (ih : ∀ p r, go p = some r → roadlaw4_steps.l0_k.I p r) (a_3 : List T_part_Step) (a_6 : List T_roadref4_Step) (x_7 : Int) (x_8 : Int) (r : (List T_part_Step)) (e : roadlaw4_steps.l0_k.body go (.l0 a_3 a_6 x_7 x_8) = some r) : roadlaw4_steps.l0_k.I (.l0 a_3 a_6 x_7 x_8) r := by
  unfold roadlaw4_steps.l0_k.body at e
  intro W h0 m0 h m A_3 n_3 c_3 A_6 n_6 c_6 O ne_3 ne_6 k_6 r_6
  subst ne_3
  subst ne_6
  refine f34.l0_in ?_
  unfold f34.l0T
  refine split_dec_e e (fun c28 e => ?_) (fun c28 e => ?_)
  · obtain ⟨y1, g2, e⟩ := bind_e e
    refine r_6.addr rfl g2 fun a3 cs4 ha5 hc6 he7 => ?_
    refine ⟨_, ldAn O.s hc6 rfl, ?_⟩
    refine O.new fun h8 x9 O10 => ?_
    refine ⟨_, rfl, (T_roadref4_Step.T.len _ _ _ he7), ?_⟩
    refine O10.stA 1 rfl (T_roadref4_Step.T.len _ _ _ he7) (T_roadref4_Step.T.flat _ _ _ he7) fun h12 O13 => ?_
    refine ⟨_, ld0 (Sub.refl _) (O13.all 1 rfl) (T_roadref4_Step.g0 he7), _, rfl, ?_⟩
    refine ⟨_, ldk (k := 1) (Sub.refl _) (O13.all 1 rfl) (T_roadref4_Step.g1 he7), _, rfl, ?_⟩
    refine ⟨_, ldk (k := 2) (Sub.refl _) (O13.all 1 rfl) (T_roadref4_Step.g2 he7), _, rfl, ?_⟩
    refine ⟨[(Value.int .i64 y1.Who), (Value.int .i64 y1.Reads), (Value.int .i64 y1.Writes)], rfl, rfl, ?_⟩
    refine O13.new fun h14 x15 O16 => ?_
    obtain ⟨l18, g19, e⟩ := bind_e e
    have O26 := O16.rowE (l := ([(T_part_Step.mk y1.Who y1.Reads y1.Writes)] : List T_part_Step)) 2 rfl T_part_Step.T (show CsE _ _ _ _ _ from (CsE.cons (c1 := [(Value.int .i64 y1.Who), (Value.int .i64 y1.Reads), (Value.int .i64 y1.Writes)]) (show T_part_Step.E _ (T_part_Step.mk y1.Who y1.Reads y1.Writes) [(Value.int .i64 y1.Who), (Value.int .i64 y1.Reads), (Value.int .i64 y1.Writes)] from rfl) rfl CsE.nil)) rfl
    refine O26.app 0 rfl rfl rfl ((O26.os 2 rfl).srcE rfl) (by decide) g19 fun A20 c21 h22 O23 => ?_
    refine ⟨_, _, _, rfl, ?_⟩
    have O27 := O23.nm
    exact (ih _ _ e) _ _ _ _ _ _ _ _ _ _ _ (O27.pick [0]).nm rfl rfl k_6 r_6
  · cases e
    exact ⟨_, _, _, _, O.pick [0], rfl, rfl⟩
theorem roadlaw4_steps.l0_k.all {p : roadlaw4_steps.l0_k.Pt} {r : ((List T_part_Step))} (e : roadlaw4_steps.l0_k.go p = some r) : roadlaw4_steps.l0_k.I p r := fixF_ind (β := fun _ => ((List T_part_Step))) roadlaw4_steps.l0_k.mono (I := roadlaw4_steps.l0_k.I) (fun go ih p r e => match p with
  | .l0 a_3 a_6 x_7 x_8 => roadlaw4_steps.l0_k.step_l0 go ih a_3 a_6 x_7 x_8 r e
  ) e
theorem roadlaw4_steps.l0.walk {W : Nat → Prop} {h0 m0 h m : Heap} {A_3 : Option Addr} {n_3 c_3 : Nat} {A_6 : Option Addr} {n_6 c_6 : Nat} {a_3 : List T_part_Step} {a_6 : List T_roadref4_Step} {x_7 : Int} {x_8 : Int} (O : Hold W h0 m0 h m [rR (aE T_part_Step.T) A_3 c_3 a_3]) (ne_3 : n_3 = List.length a_3) (ne_6 : n_6 = List.length a_6) (k_6 : List.length a_6 ≤ c_6) (r_6 : Rd 3 T_roadref4_Step.E m A_6 a_6) {r : (List T_part_Step)} (e : roadlaw4_steps.l0 a_3 a_6 x_7 x_8 = some r) : f34.l0 (roadlaw4_steps.post W h0 m0 r) A_3 n_3 c_3 A_6 n_6 c_6 x_7 x_8 h := roadlaw4_steps.l0_k.all (p := .l0 a_3 a_6 x_7 x_8) e W h0 m0 h m A_3 n_3 c_3 A_6 n_6 c_6 O ne_3 ne_6 k_6 r_6
noncomputable def roadlaw4_steps (a_0 : List T_roadref4_Step) : Option ((List T_part_Step)) :=
  (roadlaw4_steps.l0 ([] : List T_part_Step) a_0 (((List.length a_0) : Nat) : Int) (0 : Int))
set_option maxRecDepth 100000 in
theorem roadlaw4_steps.walk {W : Nat → Prop} {h m : Heap} {A_0 : Option Addr} {n_0 c_0 : Nat} {a_0 : List T_roadref4_Step} (O : Hold W h m h m []) (ne_0 : n_0 = List.length a_0) (k_0 : List.length a_0 ≤ c_0) (r_0 : Rd 3 T_roadref4_Step.E m A_0 a_0) {r : (List T_part_Step)} (e : roadlaw4_steps a_0 = some r) : Run Try.prog 34 #[Value.slice A_0 n_0 c_0] h (roadlaw4_steps.post W h m r) := by
  unfold roadlaw4_steps at e
  subst ne_0
  refine f34.run ?_
  unfold f34.runT
  have O1 := O.nil (aE T_part_Step.T) none
  have O3 := O1.nm
  exact roadlaw4_steps.l0.walk (O3.pick [0]).nm rfl rfl k_0 r_0 e
def math_bits_Len64.post (W : Nat → Prop) (h0 m0 : Heap) (r : Int) (v : Value) (h : Heap) : Prop := ∃ m , Hold W h0 m0 h m [] ∧ v = .int .i64 r
noncomputable def math_bits_Len64.j2 (x_0 : Int) (x_2 : Int) : Option (Int) :=
  Option.bind (gb (ByteArray.mk #[0, 1, 2, 2, 3, 3, 3, 3, 4, 4, 4, 4, 4, 4, 4, 4, 5, 5, 5, 5, 5, 5, 5, 5, 5, 5, 5, 5, 5, 5, 5, 5, 6, 6, 6, 6, 6, 6, 6, 6, 6, 6, 6, 6, 6, 6, 6, 6, 6, 6, 6, 6, 6, 6, 6, 6, 6, 6, 6, 6, 6, 6, 6, 6, 7, 7, 7, 7, 7, 7, 7, 7, 7, 7, 7, 7, 7, 7, 7, 7, 7, 7, 7, 7, 7, 7, 7, 7, 7, 7, 7, 7, 7, 7, 7, 7, 7, 7, 7, 7, 7, 7, 7, 7, 7, 7, 7, 7, 7, 7, 7, 7, 7, 7, 7, 7, 7, 7, 7, 7, 7, 7, 7, 7, 7, 7, 7, 7, 8, 8, 8, 8, 8, 8, 8, 8, 8, 8, 8, 8, 8, 8, 8, 8, 8, 8, 8, 8, 8, 8, 8, 8, 8, 8, 8, 8, 8, 8, 8, 8, 8, 8, 8, 8, 8, 8, 8, 8, 8, 8, 8, 8, 8, 8, 8, 8, 8, 8, 8, 8, 8, 8, 8, 8, 8, 8, 8, 8, 8, 8, 8, 8, 8, 8, 8, 8, 8, 8, 8, 8, 8, 8, 8, 8, 8, 8, 8, 8, 8, 8, 8, 8, 8, 8, 8, 8, 8, 8, 8, 8, 8, 8, 8, 8, 8, 8, 8, 8, 8, 8, 8, 8, 8, 8, 8, 8, 8, 8, 8, 8, 8, 8, 8, 8, 8, 8, 8, 8, 8, 8, 8, 8, 8, 8, 8, 8]) (IntKind.wrap .u8 x_0)) fun y1 => some ((IntKind.wrap .i64 (x_2 + (IntKind.wrap .i64 y1))))
set_option maxRecDepth 100000 in
theorem math_bits_Len64.j2.walk {W : Nat → Prop} {h0 m0 h m : Heap} {x_0 : Int} {x_2 : Int} (O : Hold W h0 m0 h m []) {r : Int} (e : math_bits_Len64.j2 x_0 x_2 = some r) : f131.j2 (math_bits_Len64.post W h0 m0 r) x_0 x_2 h := by
  unfold math_bits_Len64.j2 at e
  refine f131.j2_in ?_
  unfold f131.j2T
  obtain ⟨y1, g2, e⟩ := bind_e e
  obtain ⟨q3, b4, q5, q6⟩ := gb_e g2
  refine ⟨q3, _, q5, ?_⟩
  try rw [← q6]
  cases e
  exact ⟨_, O.pick [], rfl⟩
noncomputable def math_bits_Len64.j1 (x_0 : Int) (x_2 : Int) : Option (Int) :=
  if x_0 ≥ (256 : Int) then ((math_bits_Len64.j2 (shrI .u64 x_0 (8 : Int)) (IntKind.wrap .i64 (x_2 + (8 : Int))))) else ((math_bits_Len64.j2 x_0 x_2))
set_option maxRecDepth 100000 in
theorem math_bits_Len64.j1.walk {W : Nat → Prop} {h0 m0 h m : Heap} {x_0 : Int} {x_2 : Int} (O : Hold W h0 m0 h m []) {r : Int} (e : math_bits_Len64.j1 x_0 x_2 = some r) : f131.j1 (math_bits_Len64.post W h0 m0 r) x_0 x_2 h := by
  unfold math_bits_Len64.j1 at e
  refine f131.j1_in ?_
  unfold f131.j1T
  refine split_dec_e e (fun c1 e => ?_) (fun c1 e => ?_)
  · refine ⟨by decide, ?_⟩
    exact math_bits_Len64.j2.walk (O.pick []).nm  e
  · exact math_bits_Len64.j2.walk (O.pick []).nm  e
noncomputable def math_bits_Len64.j0 (x_0 : Int) (x_2 : Int) : Option (Int) :=
  if x_0 ≥ (65536 : Int) then ((math_bits_Len64.j1 (shrI .u64 x_0 (16 : Int)) (IntKind.wrap .i64 (x_2 + (16 : Int))))) else ((math_bits_Len64.j1 x_0 x_2))
set_option maxRecDepth 100000 in
theorem math_bits_Len64.j0.walk {W : Nat → Prop} {h0 m0 h m : Heap} {x_0 : Int} {x_2 : Int} (O : Hold W h0 m0 h m []) {r : Int} (e : math_bits_Len64.j0 x_0 x_2 = some r) : f131.j0 (math_bits_Len64.post W h0 m0 r) x_0 x_2 h := by
  unfold math_bits_Len64.j0 at e
  refine f131.j0_in ?_
  unfold f131.j0T
  refine split_dec_e e (fun c1 e => ?_) (fun c1 e => ?_)
  · refine ⟨by decide, ?_⟩
    exact math_bits_Len64.j1.walk (O.pick []).nm  e
  · exact math_bits_Len64.j1.walk (O.pick []).nm  e
noncomputable def math_bits_Len64 (x_0 : Int) : Option (Int) :=
  if x_0 ≥ (4294967296 : Int) then ((math_bits_Len64.j0 (shrI .u64 x_0 (32 : Int)) (32 : Int))) else ((math_bits_Len64.j0 x_0 (0 : Int)))
set_option maxRecDepth 100000 in
theorem math_bits_Len64.walk {W : Nat → Prop} {h m : Heap} {x_0 : Int} (O : Hold W h m h m []) {r : Int} (e : math_bits_Len64 x_0 = some r) : Run Try.prog 131 #[Value.int .u64 x_0] h (math_bits_Len64.post W h m r) := by
  unfold math_bits_Len64 at e
  refine f131.run ?_
  unfold f131.runT
  refine split_dec_e e (fun c1 e => ?_) (fun c1 e => ?_)
  · refine ⟨by decide, ?_⟩
    exact math_bits_Len64.j0.walk (O.pick []).nm  e
  · exact math_bits_Len64.j0.walk (O.pick []).nm  e
def math_bits_Len.post (W : Nat → Prop) (h0 m0 : Heap) (r : Int) (v : Value) (h : Heap) : Prop := ∃ m , Hold W h0 m0 h m [] ∧ v = .int .i64 r
noncomputable def math_bits_Len (x_0 : Int) : Option (Int) :=
  Option.bind (math_bits_Len64 x_0) fun y1 => some (y1)
set_option maxRecDepth 100000 in
theorem math_bits_Len.walk {W : Nat → Prop} {h m : Heap} {x_0 : Int} (O : Hold W h m h m []) {r : Int} (e : math_bits_Len x_0 = some r) : Run Try.prog 79 #[Value.int .u64 x_0] h (math_bits_Len.post W h m r) := by
  unfold math_bits_Len at e
  refine f79.run ?_
  unfold f79.runT
  obtain ⟨y1, g2, e⟩ := bind_e e
  refine (math_bits_Len64.walk (Hold.start (W := No) O.s)  g2).mono ?_
  rintro _ h3 ⟨m4, Q5, rfl⟩
  have O7 := Hold.nm (O.retC Q5 vfs_nil)
  refine ⟨_, rfl, ?_⟩
  cases e
  exact ⟨_, O7.pick [], rfl⟩
def slices_insertionSortCmpFunc_165.post (W : Nat → Prop) (Asl0 : Option Addr) (nsl0 csl0 : Nat) (h0 m0 : Heap) (r : (List T_part_Step)) (v : Value) (h : Heap) : Prop := ∃ m , Hold W h0 m0 h m [rR (aE T_part_Step.T) Asl0 csl0 r] ∧ v = .tuple #[] ∧ nsl0 = List.length r
inductive slices_insertionSortCmpFunc_165.l0_k.Pt where
  | l0 (a_0 : List T_part_Step) (x_1 : Int) (x_2 : Int) (p_3 : T_part_Step → T_part_Step → Option Int) (x_8 : Int)
  | l1 (a_0 : List T_part_Step) (x_1 : Int) (x_2 : Int) (p_3 : T_part_Step → T_part_Step → Option Int) (x_8 : Int) (x_9 : Int)
  | j1 (a_0 : List T_part_Step) (x_1 : Int) (x_2 : Int) (p_3 : T_part_Step → T_part_Step → Option Int) (x_8 : Int) (x_9 : Int)
  | j0 (a_0 : List T_part_Step) (x_1 : Int) (x_2 : Int) (p_3 : T_part_Step → T_part_Step → Option Int) (x_8 : Int)
noncomputable def slices_insertionSortCmpFunc_165.l0_k.body (go : (p : slices_insertionSortCmpFunc_165.l0_k.Pt) → Option ((List T_part_Step))) : (p : slices_insertionSortCmpFunc_165.l0_k.Pt) → Option ((List T_part_Step))
  | .l0 a_0 x_1 x_2 p_3 x_8 => if x_8 < x_2 then ((go (.l1 a_0 x_1 x_2 p_3 x_8 x_8))) else (some (a_0))
  | .l1 a_0 x_1 x_2 p_3 x_8 x_9 => if x_9 > x_1 then (Option.bind (gi a_0 x_9) fun y1 => Option.bind (gi a_0 (IntKind.wrap .i64 (x_9 - (1 : Int)))) fun y8 => Option.bind (p_3 y1 y8) fun y15 => if y15 < (0 : Int) then ((go (.j1 a_0 x_1 x_2 p_3 x_8 x_9))) else ((go (.j0 a_0 x_1 x_2 p_3 x_8)))) else ((go (.j0 a_0 x_1 x_2 p_3 x_8)))
  | .j1 a_0 x_1 x_2 p_3 x_8 x_9 => Option.bind (gi a_0 (IntKind.wrap .i64 (x_9 - (1 : Int)))) fun y1 => Option.bind (gi a_0 x_9) fun y8 => Option.bind (gi a_0 x_9) fun y15 => Option.bind (some (List.set a_0 (Int.toNat x_9) y1)) fun l24 => Option.bind (gi l24 (IntKind.wrap .i64 (x_9 - (1 : Int)))) fun y26 => Option.bind (some (List.set l24 (Int.toNat (IntKind.wrap .i64 (x_9 - (1 : Int)))) y8)) fun l35 => (go (.l1 l35 x_1 x_2 p_3 x_8 (IntKind.wrap .i64 (x_9 - (1 : Int)))))
  | .j0 a_0 x_1 x_2 p_3 x_8 => (go (.l0 a_0 x_1 x_2 p_3 (IntKind.wrap .i64 (x_8 + (1 : Int)))))
theorem slices_insertionSortCmpFunc_165.l0_k.mono : MonoF (β := fun _ => ((List T_part_Step))) slices_insertionSortCmpFunc_165.l0_k.body := fun f g hfg p => match p with
  | .l0 a_0 x_1 x_2 p_3 x_8 => LeO.ite ((hfg _)) (LeO.refl _)
  | .l1 a_0 x_1 x_2 p_3 x_8 x_9 => LeO.ite (LeO.bind (LeO.refl _) fun y1 => LeO.bind (LeO.refl _) fun y8 => LeO.bind (LeO.refl _) fun y15 => LeO.ite ((hfg _)) ((hfg _))) ((hfg _))
  | .j1 a_0 x_1 x_2 p_3 x_8 x_9 => LeO.bind (LeO.refl _) fun y1 => LeO.bind (LeO.refl _) fun y8 => LeO.bind (LeO.refl _) fun y15 => LeO.bind (LeO.refl _) fun l24 => LeO.bind (LeO.refl _) fun y26 => LeO.bind (LeO.refl _) fun l35 => (hfg _)
  | .j0 a_0 x_1 x_2 p_3 x_8 => (hfg _)
noncomputable def slices_insertionSortCmpFunc_165.l0_k.go (p : slices_insertionSortCmpFunc_165.l0_k.Pt) : Option ((List T_part_Step)) := fixF (β := fun _ => ((List T_part_Step))) slices_insertionSortCmpFunc_165.l0_k.body p
noncomputable def slices_insertionSortCmpFunc_165.l0 (a_0 : List T_part_Step) (x_1 : Int) (x_2 : Int) (p_3 : T_part_Step → T_part_Step → Option Int) (x_8 : Int) : Option ((List T_part_Step)) := slices_insertionSortCmpFunc_165.l0_k.go (.l0 a_0 x_1 x_2 p_3 x_8)
noncomputable def slices_insertionSortCmpFunc_165.l1 (a_0 : List T_part_Step) (x_1 : Int) (x_2 : Int) (p_3 : T_part_Step → T_part_Step → Option Int) (x_8 : Int) (x_9 : Int) : Option ((List T_part_Step)) := slices_insertionSortCmpFunc_165.l0_k.go (.l1 a_0 x_1 x_2 p_3 x_8 x_9)
noncomputable def slices_insertionSortCmpFunc_165.j1 (a_0 : List T_part_Step) (x_1 : Int) (x_2 : Int) (p_3 : T_part_Step → T_part_Step → Option Int) (x_8 : Int) (x_9 : Int) : Option ((List T_part_Step)) := slices_insertionSortCmpFunc_165.l0_k.go (.j1 a_0 x_1 x_2 p_3 x_8 x_9)
noncomputable def slices_insertionSortCmpFunc_165.j0 (a_0 : List T_part_Step) (x_1 : Int) (x_2 : Int) (p_3 : T_part_Step → T_part_Step → Option Int) (x_8 : Int) : Option ((List T_part_Step)) := slices_insertionSortCmpFunc_165.l0_k.go (.j0 a_0 x_1 x_2 p_3 x_8)
theorem slices_insertionSortCmpFunc_165.l0_eq (a_0 : List T_part_Step) (x_1 : Int) (x_2 : Int) (p_3 : T_part_Step → T_part_Step → Option Int) (x_8 : Int) : slices_insertionSortCmpFunc_165.l0 a_0 x_1 x_2 p_3 x_8 = if x_8 < x_2 then ((slices_insertionSortCmpFunc_165.l1 a_0 x_1 x_2 p_3 x_8 x_8)) else (some (a_0)) := fixF_eq slices_insertionSortCmpFunc_165.l0_k.mono _
theorem slices_insertionSortCmpFunc_165.l1_eq (a_0 : List T_part_Step) (x_1 : Int) (x_2 : Int) (p_3 : T_part_Step → T_part_Step → Option Int) (x_8 : Int) (x_9 : Int) : slices_insertionSortCmpFunc_165.l1 a_0 x_1 x_2 p_3 x_8 x_9 = if x_9 > x_1 then (Option.bind (gi a_0 x_9) fun y1 => Option.bind (gi a_0 (IntKind.wrap .i64 (x_9 - (1 : Int)))) fun y8 => Option.bind (p_3 y1 y8) fun y15 => if y15 < (0 : Int) then ((slices_insertionSortCmpFunc_165.j1 a_0 x_1 x_2 p_3 x_8 x_9)) else ((slices_insertionSortCmpFunc_165.j0 a_0 x_1 x_2 p_3 x_8))) else ((slices_insertionSortCmpFunc_165.j0 a_0 x_1 x_2 p_3 x_8)) := fixF_eq slices_insertionSortCmpFunc_165.l0_k.mono _
theorem slices_insertionSortCmpFunc_165.j1_eq (a_0 : List T_part_Step) (x_1 : Int) (x_2 : Int) (p_3 : T_part_Step → T_part_Step → Option Int) (x_8 : Int) (x_9 : Int) : slices_insertionSortCmpFunc_165.j1 a_0 x_1 x_2 p_3 x_8 x_9 = Option.bind (gi a_0 (IntKind.wrap .i64 (x_9 - (1 : Int)))) fun y1 => Option.bind (gi a_0 x_9) fun y8 => Option.bind (gi a_0 x_9) fun y15 => Option.bind (some (List.set a_0 (Int.toNat x_9) y1)) fun l24 => Option.bind (gi l24 (IntKind.wrap .i64 (x_9 - (1 : Int)))) fun y26 => Option.bind (some (List.set l24 (Int.toNat (IntKind.wrap .i64 (x_9 - (1 : Int)))) y8)) fun l35 => (slices_insertionSortCmpFunc_165.l1 l35 x_1 x_2 p_3 x_8 (IntKind.wrap .i64 (x_9 - (1 : Int)))) := fixF_eq slices_insertionSortCmpFunc_165.l0_k.mono _
theorem slices_insertionSortCmpFunc_165.j0_eq (a_0 : List T_part_Step) (x_1 : Int) (x_2 : Int) (p_3 : T_part_Step → T_part_Step → Option Int) (x_8 : Int) : slices_insertionSortCmpFunc_165.j0 a_0 x_1 x_2 p_3 x_8 = (slices_insertionSortCmpFunc_165.l0 a_0 x_1 x_2 p_3 (IntKind.wrap .i64 (x_8 + (1 : Int)))) := fixF_eq slices_insertionSortCmpFunc_165.l0_k.mono _
def slices_insertionSortCmpFunc_165.l0_k.I : (p : slices_insertionSortCmpFunc_165.l0_k.Pt) → ((List T_part_Step)) → Prop
  | .l0 a_0 x_1 x_2 p_3 x_8, r => ∀ (W : Nat → Prop) (h0 m0 h m : Heap) (A_0 : Option Addr) (n_0 c_0 : Nat) (fv_3 : Value) (O : Hold W h0 m0 h m [rR (aE T_part_Step.T) A_0 c_0 a_0]) (ne_0 : n_0 = List.length a_0) (f_3 : ∀ h' m', Sub m0 m' → Sub m' h' → ∀ (y0 : T_part_Step) (cs0 : List Value) (_ : T_part_Step.E m' y0 cs0) (y1 : T_part_Step) (cs1 : List Value) (_ : T_part_Step.E m' y1 cs1) (r : Int), p_3 y0 y1 = some r → CallF Try.prog fv_3 [.agg cs0.toArray, .agg cs1.toArray] h' (fun v h'' => v = .int .i64 r ∧ Ext h' h'')), f165.l0 (slices_insertionSortCmpFunc_165.post W A_0 n_0 c_0 h0 m0 r) A_0 n_0 c_0 x_1 x_2 fv_3 x_8 h
  | .l1 a_0 x_1 x_2 p_3 x_8 x_9, r => ∀ (W : Nat → Prop) (h0 m0 h m : Heap) (A_0 : Option Addr) (n_0 c_0 : Nat) (fv_3 : Value) (O : Hold W h0 m0 h m [rR (aE T_part_Step.T) A_0 c_0 a_0]) (ne_0 : n_0 = List.length a_0) (f_3 : ∀ h' m', Sub m0 m' → Sub m' h' → ∀ (y0 : T_part_Step) (cs0 : List Value) (_ : T_part_Step.E m' y0 cs0) (y1 : T_part_Step) (cs1 : List Value) (_ : T_part_Step.E m' y1 cs1) (r : Int), p_3 y0 y1 = some r → CallF Try.prog fv_3 [.agg cs0.toArray, .agg cs1.toArray] h' (fun v h'' => v = .int .i64 r ∧ Ext h' h'')), f165.l1 (slices_insertionSortCmpFunc_165.post W A_0 n_0 c_0 h0 m0 r) A_0 n_0 c_0 x_1 x_2 fv_3 x_8 x_9 h
  | .j1 a_0 x_1 x_2 p_3 x_8 x_9, r => ∀ (W : Nat → Prop) (h0 m0 h m : Heap) (A_0 : Option Addr) (n_0 c_0 : Nat) (fv_3 : Value) (O : Hold W h0 m0 h m [rR (aE T_part_Step.T) A_0 c_0 a_0]) (ne_0 : n_0 = List.length a_0) (f_3 : ∀ h' m', Sub m0 m' → Sub m' h' → ∀ (y0 : T_part_Step) (cs0 : List Value) (_ : T_part_Step.E m' y0 cs0) (y1 : T_part_Step) (cs1 : List Value) (_ : T_part_Step.E m' y1 cs1) (r : Int), p_3 y0 y1 = some r → CallF Try.prog fv_3 [.agg cs0.toArray, .agg cs1.toArray] h' (fun v h'' => v = .int .i64 r ∧ Ext h' h'')), f165.j1 (slices_insertionSortCmpFunc_165.post W A_0 n_0 c_0 h0 m0 r) A_0 n_0 c_0 x_1 x_2 fv_3 x_8 x_9 h
  | .j0 a_0 x_1 x_2 p_3 x_8, r => ∀ (W : Nat → Prop) (h0 m0 h m : Heap) (A_0 : Option Addr) (n_0 c_0 : Nat) (fv_3 : Value) (O : Hold W h0 m0 h m [rR (aE T_part_Step.T) A_0 c_0 a_0]) (ne_0 : n_0 = List.length a_0) (f_3 : ∀ h' m', Sub m0 m' → Sub m' h' → ∀ (y0 : T_part_Step) (cs0 : List Value) (_ : T_part_Step.E m' y0 cs0) (y1 : T_part_Step) (cs1 : List Value) (_ : T_part_Step.E m' y1 cs1) (r : Int), p_3 y0 y1 = some r → CallF Try.prog fv_3 [.agg cs0.toArray, .agg cs1.toArray] h' (fun v h'' => v = .int .i64 r ∧ Ext h' h'')), f165.j0 (slices_insertionSortCmpFunc_165.post W A_0 n_0 c_0 h0 m0 r) A_0 n_0 c_0 x_1 x_2 fv_3 x_8 h
set_option maxRecDepth 100000 in
theorem slices_insertionSortCmpFunc_165.l0_k.step_l0 (go : (p : slices_insertionSortCmpFunc_165.l0_k.Pt) → Option ((List T_part_Step))) (ih : ∀ p r, go p = some r → slices_insertionSortCmpFunc_165.l0_k.I p r) (a_0 : List T_part_Step) (x_1 : Int) (x_2 : Int) (p_3 : T_part_Step → T_part_Step → Option Int) (x_8 : Int) (r : (List T_part_Step)) (e : slices_insertionSortCmpFunc_165.l0_k.body go (.l0 a_0 x_1 x_2 p_3 x_8) = some r) : slices_insertionSortCmpFunc_165.l0_k.I (.l0 a_0 x_1 x_2 p_3 x_8) r := by
  unfold slices_insertionSortCmpFunc_165.l0_k.body at e
  intro W h0 m0 h m A_0 n_0 c_0 fv_3 O ne_0 f_3
  subst ne_0
  refine f165.l0_in ?_
  unfold f165.l0T
  refine split_dec_e e (fun c1 e => ?_) (fun c1 e => ?_)
  · exact (ih _ _ e) _ _ _ _ _ _ _ _ _ (O.pick [0]).nm rfl f_3
  · cases e
    exact ⟨_, O.pick [0], rfl, rfl⟩
set_option maxRecDepth 100000 in
theorem slices_insertionSortCmpFunc_165.l0_k.step_l1 (go : (p : slices_insertionSortCmpFunc_165.l0_k.Pt) → Option ((List T_part_Step))) (ih : ∀ p r, go p = some r → slices_insertionSortCmpFunc_165.l0_k.I p r) (a_0 : List T_part_Step) (x_1 : Int) (x_2 : Int) (p_3 : T_part_Step → T_part_Step → Option Int) (x_8 : Int) (x_9 : Int) (r : (List T_part_Step)) (e : slices_insertionSortCmpFunc_165.l0_k.body go (.l1 a_0 x_1 x_2 p_3 x_8 x_9) = some r) : slices_insertionSortCmpFunc_165.l0_k.I (.l1 a_0 x_1 x_2 p_3 x_8 x_9) r := by
  unfold slices_insertionSortCmpFunc_165.l0_k.body at e
  intro W h0 m0 h m A_0 n_0 c_0 fv_3 O ne_0 f_3
  subst ne_0
  refine f165.l1_in ?_
  unfold f165.l1T
  refine split_dec_e e (fun c21 e => ?_) (fun c21 e => ?_)
  · obtain ⟨y1, g2, e⟩ := bind_e e
    refine (O.os 0 rfl).addr rfl g2 fun a3 cs4 ha5 hc6 he7 => ?_
    obtain ⟨y8, g9, e⟩ := bind_e e
    refine (O.os 0 rfl).addr rfl g9 fun a10 cs11 ha12 hc13 he14 => ?_
    refine ⟨_, ldAn (Sub.refl _) hc6 rfl, ?_⟩
    refine ⟨_, ldAn (Sub.refl _) hc13 rfl, ?_⟩
    obtain ⟨y15, g16, e⟩ := bind_e e
    refine CallF.mono (f_3 _ _ O.up O.s _ _ he7 _ _ he14 _ g16) ?_
    rintro _ h17 ⟨rfl, x18⟩
    have O19 := O.ext x18
    refine ⟨_, rfl, ?_⟩
    refine split_dec_e e (fun c20 e => ?_) (fun c20 e => ?_)
    · exact (ih _ _ e) _ _ _ _ _ _ _ _ _ (O19.pick [0]).nm rfl f_3
    · exact (ih _ _ e) _ _ _ _ _ _ _ _ _ (O19.pick [0]).nm rfl f_3
  · exact (ih _ _ e) _ _ _ _ _ _ _ _ _ (O.pick [0]).nm rfl f_3
set_option maxRecDepth 100000 in
theorem slices_insertionSortCmpFunc_165.l0_k.step_j1 (go : (p : slices_insertionSortCmpFunc_165.l0_k.Pt) → Option ((List T_part_Step))) (ih : ∀ p r, go p = some r → slices_insertionSortCmpFunc_165.l0_k.I p r) (a_0 : List T_part_Step) (x_1 : Int) (x_2 : Int) (p_3 : T_part_Step → T_part_Step → Option Int) (x_8 : Int) (x_9 : Int) (r : (List T_part_Step)) (e : slices_insertionSortCmpFunc_165.l0_k.body go (.j1 a_0 x_1 x_2 p_3 x_8 x_9) = some r) : slices_insertionSortCmpFunc_165.l0_k.I (.j1 a_0 x_1 x_2 p_3 x_8 x_9) r := by
  unfold slices_insertionSortCmpFunc_165.l0_k.body at e
  intro W h0 m0 h m A_0 n_0 c_0 fv_3 O ne_0 f_3
  subst ne_0
  refine f165.j1_in ?_
  unfold f165.j1T
  obtain ⟨y1, g2, e⟩ := bind_e e
  refine (O.os 0 rfl).addr rfl g2 fun a3 cs4 ha5 hc6 he7 => ?_
  obtain ⟨y8, g9, e⟩ := bind_e e
  refine (O.os 0 rfl).addr rfl g9 fun a10 cs11 ha12 hc13 he14 => ?_
  refine ⟨_, ldAn (Sub.refl _) hc6 rfl, ?_⟩
  refine ⟨_, ldAn (Sub.refl _) hc13 rfl, ?_⟩
  obtain ⟨y15, g16, e⟩ := bind_e e
  refine (O.os 0 rfl).addr rfl g16 fun a17 cs18 ha19 hc20 he21 => ?_
  obtain ⟨l24, g25, e⟩ := bind_e e
  replace g25 := Option.some.inj g25
  refine ⟨_, rfl, (T_part_Step.T.len _ _ _ he7), ?_⟩
  refine O.elstA 0 rfl g16 ha19 hc20 (y' := y1) he7 (T_part_Step.T.flat _ _ _ he7) g25 fun h22 O23 => ?_
  obtain ⟨y26, g27, e⟩ := bind_e e
  refine (O23.os 0 rfl).addr (lset' g25) g27 fun a28 cs29 ha30 hc31 he32 => ?_
  obtain ⟨l35, g36, e⟩ := bind_e e
  replace g36 := Option.some.inj g36
  refine ⟨_, rfl, (T_part_Step.T.len _ _ _ he14), ?_⟩
  refine O23.elstA 0 rfl g27 ha30 hc31 (y' := y8) he14 (T_part_Step.T.flat _ _ _ he14) g36 fun h33 O34 => ?_
  have O37 := O34.nm
  exact (ih _ _ e) _ _ _ _ _ _ _ _ _ (O37.pick [0]).nm ((lset' g25).trans (lset' g36)) f_3
set_option maxRecDepth 100000 in
theorem slices_insertionSortCmpFunc_165.l0_k.step_j0 (go : (p : slices_insertionSortCmpFunc_165.l0_k.Pt) → Option ((List T_part_Step))) (ih : ∀ p r, go p = some r → slices_insertionSortCmpFunc_165.l0_k.I p r) (a_0 : List T_part_Step) (x_1 : Int) (x_2 : Int) (p_3 : T_part_Step → T_part_Step → Option Int) (x_8 : Int) (r : (List T_part_Step)) (e : slices_insertionSortCmpFunc_165.l0_k.body go (.j0 a_0 x_1 x_2 p_3 x_8) = some r) : slices_insertionSortCmpFunc_165.l0_k.I (.j0 a_0 x_1 x_2 p_3 x_8) r := by
  unfold slices_insertionSortCmpFunc_165.l0_k.body at e
  intro W h0 m0 h m A_0 n_0 c_0 fv_3 O ne_0 f_3
  subst ne_0
  refine f165.j0_in ?_
  unfold f165.j0T
  exact (ih _ _ e) _ _ _ _ _ _ _ _ _ (O.pick [0]).nm rfl f_3
theorem slices_insertionSortCmpFunc_165.l0_k.all {p : slices_insertionSortCmpFunc_165.l0_k.Pt} {r : ((List T_part_Step))} (e : slices_insertionSortCmpFunc_165.l0_k.go p = some r) : slices_insertionSortCmpFunc_165.l0_k.I p r := fixF_ind (β := fun _ => ((List T_part_Step))) slices_insertionSortCmpFunc_165.l0_k.mono (I := slices_insertionSortCmpFunc_165.l0_k.I) (fun go ih p r e => match p with
  | .l0 a_0 x_1 x_2 p_3 x_8 => slices_insertionSortCmpFunc_165.l0_k.step_l0 go ih a_0 x_1 x_2 p_3 x_8 r e
  | .l1 a_0 x_1 x_2 p_3 x_8 x_9 => slices_insertionSortCmpFunc_165.l0_k.step_l1 go ih a_0 x_1 x_2 p_3 x_8 x_9 r e
  | .j1 a_0 x_1 x_2 p_3 x_8 x_9 => slices_insertionSortCmpFunc_165.l0_k.step_j1 go ih a_0 x_1 x_2 p_3 x_8 x_9 r e
  | .j0 a_0 x_1 x_2 p_3 x_8 => slices_insertionSortCmpFunc_165.l0_k.step_j0 go ih a_0 x_1 x_2 p_3 x_8 r e
  ) e
theorem slices_insertionSortCmpFunc_165.l0.walk {W : Nat → Prop} {h0 m0 h m : Heap} {A_0 : Option Addr} {n_0 c_0 : Nat} {fv_3 : Value} {a_0 : List T_part_Step} {x_1 : Int} {x_2 : Int} {p_3 : T_part_Step → T_part_Step → Option Int} {x_8 : Int} (O : Hold W h0 m0 h m [rR (aE T_part_Step.T) A_0 c_0 a_0]) (ne_0 : n_0 = List.length a_0) (f_3 : ∀ h' m', Sub m0 m' → Sub m' h' → ∀ (y0 : T_part_Step) (cs0 : List Value) (_ : T_part_Step.E m' y0 cs0) (y1 : T_part_Step) (cs1 : List Value) (_ : T_part_Step.E m' y1 cs1) (r : Int), p_3 y0 y1 = some r → CallF Try.prog fv_3 [.agg cs0.toArray, .agg cs1.toArray] h' (fun v h'' => v = .int .i64 r ∧ Ext h' h'')) {r : (List T_part_Step)} (e : slices_insertionSortCmpFunc_165.l0 a_0 x_1 x_2 p_3 x_8 = some r) : f165.l0 (slices_insertionSortCmpFunc_165.post W A_0 n_0 c_0 h0 m0 r) A_0 n_0 c_0 x_1 x_2 fv_3 x_8 h := slices_insertionSortCmpFunc_165.l0_k.all (p := .l0 a_0 x_1 x_2 p_3 x_8) e W h0 m0 h m A_0 n_0 c_0 fv_3 O ne_0 f_3
noncomputable def slices_insertionSortCmpFunc_165 (a_0 : List T_part_Step) (x_1 : Int) (x_2 : Int) (p_3 : T_part_Step → T_part_Step → Option Int) : Option ((List T_part_Step)) :=
  (slices_insertionSortCmpFunc_165.l0 a_0 x_1 x_2 p_3 (IntKind.wrap .i64 (x_1 + (1 : Int))))
set_option maxRecDepth 100000 in
theorem slices_insertionSortCmpFunc_165.walk {W : Nat → Prop} {h m : Heap} {A_0 : Option Addr} {n_0 c_0 : Nat} {fv_3 : Value} {a_0 : List T_part_Step} {x_1 : Int} {x_2 : Int} {p_3 : T_part_Step → T_part_Step → Option Int} (O : Hold W h m h m [rR (aE T_part_Step.T) A_0 c_0 a_0]) (ne_0 : n_0 = List.length a_0) (f_3 : ∀ h' m', Sub m m' → Sub m' h' → ∀ (y0 : T_part_Step) (cs0 : List Value) (_ : T_part_Step.E m' y0 cs0) (y1 : T_part_Step) (cs1 : List Value) (_ : T_part_Step.E m' y1 cs1) (r : Int), p_3 y0 y1 = some r → CallF Try.prog fv_3 [.agg cs0.toArray, .agg cs1.toArray] h' (fun v h'' => v = .int .i64 r ∧ Ext h' h'')) {r : (List T_part_Step)} (e : slices_insertionSortCmpFunc_165 a_0 x_1 x_2 p_3 = some r) : Run Try.prog 165 #[Value.slice A_0 n_0 c_0, Value.int .i64 x_1, Value.int .i64 x_2, fv_3] h (slices_insertionSortCmpFunc_165.post W A_0 n_0 c_0 h m r) := by
  unfold slices_insertionSortCmpFunc_165 at e
  subst ne_0
  refine f165.run ?_
  unfold f165.runT
  exact slices_insertionSortCmpFunc_165.l0.walk (O.pick [0]).nm rfl f_3 e
def slices_siftDownCmpFunc_185.post (W : Nat → Prop) (Asl0 : Option Addr) (nsl0 csl0 : Nat) (h0 m0 : Heap) (r : (List T_part_Step)) (v : Value) (h : Heap) : Prop := ∃ m , Hold W h0 m0 h m [rR (aE T_part_Step.T) Asl0 csl0 r] ∧ v = .tuple #[] ∧ nsl0 = List.length r
inductive slices_siftDownCmpFunc_185.l0_k.Pt where
  | l0 (a_0 : List T_part_Step) (x_2 : Int) (x_3 : Int) (p_4 : T_part_Step → T_part_Step → Option Int) (x_10 : Int)
  | j1 (a_0 : List T_part_Step) (x_2 : Int) (x_3 : Int) (p_4 : T_part_Step → T_part_Step → Option Int) (x_10 : Int) (x_11 : Int) (b_40 : Bool)
  | j0 (a_0 : List T_part_Step) (x_2 : Int) (x_3 : Int) (p_4 : T_part_Step → T_part_Step → Option Int) (x_10 : Int) (x_11 : Int)
noncomputable def slices_siftDownCmpFunc_185.l0_k.body (go : (p : slices_siftDownCmpFunc_185.l0_k.Pt) → Option ((List T_part_Step))) : (p : slices_siftDownCmpFunc_185.l0_k.Pt) → Option ((List T_part_Step))
  | .l0 a_0 x_2 x_3 p_4 x_10 => if (IntKind.wrap .i64 ((IntKind.wrap .i64 ((2 : Int) * x_10)) + (1 : Int))) ≥ x_2 then (some (a_0)) else (if (IntKind.wrap .i64 ((IntKind.wrap .i64 ((IntKind.wrap .i64 ((2 : Int) * x_10)) + (1 : Int))) + (1 : Int))) < x_2 then (Option.bind (gi a_0 (IntKind.wrap .i64 (x_3 + (IntKind.wrap .i64 ((IntKind.wrap .i64 ((2 : Int) * x_10)) + (1 : Int)))))) fun y1 => Option.bind (gi a_0 (IntKind.wrap .i64 ((IntKind.wrap .i64 (x_3 + (IntKind.wrap .i64 ((IntKind.wrap .i64 ((2 : Int) * x_10)) + (1 : Int))))) + (1 : Int)))) fun y8 => Option.bind (p_4 y1 y8) fun y15 => (go (.j1 a_0 x_2 x_3 p_4 x_10 (IntKind.wrap .i64 ((IntKind.wrap .i64 ((2 : Int) * x_10)) + (1 : Int))) (decide (y15 < (0 : Int)))))) else ((go (.j1 a_0 x_2 x_3 p_4 x_10 (IntKind.wrap .i64 ((IntKind.wrap .i64 ((2 : Int) * x_10)) + (1 : Int))) false))))
  | .j1 a_0 x_2 x_3 p_4 x_10 x_11 b_40 => if b_40 = true then ((go (.j0 a_0 x_2 x_3 p_4 x_10 (IntKind.wrap .i64 (x_11 + (1 : Int)))))) else ((go (.j0 a_0 x_2 x_3 p_4 x_10 x_11)))
  | .j0 a_0 x_2 x_3 p_4 x_10 x_11 => Option.bind (gi a_0 (IntKind.wrap .i64 (x_3 + x_10))) fun y1 => Option.bind (gi a_0 (IntKind.wrap .i64 (x_3 + x_11))) fun y8 => Option.bind (p_4 y1 y8) fun y15 => if y15 < (0 : Int) then (Option.bind (gi a_0 (IntKind.wrap .i64 (x_3 + x_11))) fun y20 => Option.bind (gi a_0 (IntKind.wrap .i64 (x_3 + x_10))) fun y27 => Option.bind (gi a_0 (IntKind.wrap .i64 (x_3 + x_10))) fun y34 => Option.bind (some (List.set a_0 (Int.toNat (IntKind.wrap .i64 (x_3 + x_10))) y20)) fun l43 => Option.bind (gi l43 (IntKind.wrap .i64 (x_3 + x_11))) fun y45 => Option.bind (some (List.set l43 (Int.toNat (IntKind.wrap .i64 (x_3 + x_11))) y27)) fun l54 => (go (.l0 l54 x_2 x_3 p_4 x_11))) else (some (a_0))
theorem slices_siftDownCmpFunc_185.l0_k.mono : MonoF (β := fun _ => ((List T_part_Step))) slices_siftDownCmpFunc_185.l0_k.body := fun f g hfg p => match p with
  | .l0 a_0 x_2 x_3 p_4 x_10 => LeO.ite (LeO.refl _) (LeO.ite (LeO.bind (LeO.refl _) fun y1 => LeO.bind (LeO.refl _) fun y8 => LeO.bind (LeO.refl _) fun y15 => (hfg _)) ((hfg _)))
  | .j1 a_0 x_2 x_3 p_4 x_10 x_11 b_40 => LeO.ite ((hfg _)) ((hfg _))
  | .j0 a_0 x_2 x_3 p_4 x_10 x_11 => LeO.bind (LeO.refl _) fun y1 => LeO.bind (LeO.refl _) fun y8 => LeO.bind (LeO.refl _) fun y15 => LeO.ite (LeO.bind (LeO.refl _) fun y20 => LeO.bind (LeO.refl _) fun y27 => LeO.bind (LeO.refl _) fun y34 => LeO.bind (LeO.refl _) fun l43 => LeO.bind (LeO.refl _) fun y45 => LeO.bind (LeO.refl _) fun l54 => (hfg _)) (LeO.refl _)
noncomputable def slices_siftDownCmpFunc_185.l0_k.go (p : slices_siftDownCmpFunc_185.l0_k.Pt) : Option ((List T_part_Step)) := fixF (β := fun _ => ((List T_part_Step))) slices_siftDownCmpFunc_185.l0_k.body p
noncomputable def slices_siftDownCmpFunc_185.l0 (a_0 : List T_part_Step) (x_2 : Int) (x_3 : Int) (p_4 : T_part_Step → T_part_Step → Option Int) (x_10 : Int) : Option ((List T_part_Step)) := slices_siftDownCmpFunc_185.l0_k.go (.l0 a_0 x_2 x_3 p_4 x_10)
def slices_siftDownCmpFunc_185.l0_k.I : (p : slices_siftDownCmpFunc_185.l0_k.Pt) → ((List T_part_Step)) → Prop
  | .l0 a_0 x_2 x_3 p_4 x_10, r => ∀ (W : Nat → Prop) (h0 m0 h m : Heap) (A_0 : Option Addr) (n_0 c_0 : Nat) (fv_4 : Value) (O : Hold W h0 m0 h m [rR (aE T_part_Step.T) A_0 c_0 a_0]) (ne_0 : n_0 = List.length a_0) (f_4 : ∀ h' m', Sub m0 m' → Sub m' h' → ∀ (y0 : T_part_Step) (cs0 : List Value) (_ : T_part_Step.E m' y0 cs0) (y1 : T_part_Step) (cs1 : List Value) (_ : T_part_Step.E m' y1 cs1) (r : Int), p_4 y0 y1 = some r → CallF Try.prog fv_4 [.agg cs0.toArray, .agg cs1.toArray] h' (fun v h'' => v = .int .i64 r ∧ Ext h' h'')), f185.l0 (slices_siftDownCmpFunc_185.post W A_0 n_0 c_0 h0 m0 r) A_0 n_0 c_0 x_2 x_3 fv_4 x_10 h
  | .j1 a_0 x_2 x_3 p_4 x_10 x_11 b_40, r => ∀ (W : Nat → Prop) (h0 m0 h m : Heap) (A_0 : Option Addr) (n_0 c_0 : Nat) (fv_4 : Value) (O : Hold W h0 m0 h m [rR (aE T_part_Step.T) A_0 c_0 a_0]) (ne_0 : n_0 = List.length a_0) (f_4 : ∀ h' m', Sub m0 m' → Sub m' h' → ∀ (y0 : T_part_Step) (cs0 : List Value) (_ : T_part_Step.E m' y0 cs0) (y1 : T_part_Step) (cs1 : List Value) (_ : T_part_Step.E m' y1 cs1) (r : Int), p_4 y0 y1 = some r → CallF Try.prog fv_4 [.agg cs0.toArray, .agg cs1.toArray] h' (fun v h'' => v = .int .i64 r ∧ Ext h' h'')), f185.j1 (slices_siftDownCmpFunc_185.post W A_0 n_0 c_0 h0 m0 r) A_0 n_0 c_0 x_2 x_3 fv_4 x_10 x_11 b_40 h
  | .j0 a_0 x_2 x_3 p_4 x_10 x_11, r => ∀ (W : Nat → Prop) (h0 m0 h m : Heap) (A_0 : Option Addr) (n_0 c_0 : Nat) (fv_4 : Value) (O : Hold W h0 m0 h m [rR (aE T_part_Step.T) A_0 c_0 a_0]) (ne_0 : n_0 = List.length a_0) (f_4 : ∀ h' m', Sub m0 m' → Sub m' h' → ∀ (y0 : T_part_Step) (cs0 : List Value) (_ : T_part_Step.E m' y0 cs0) (y1 : T_part_Step) (cs1 : List Value) (_ : T_part_Step.E m' y1 cs1) (r : Int), p_4 y0 y1 = some r → CallF Try.prog fv_4 [.agg cs0.toArray, .agg cs1.toArray] h' (fun v h'' => v = .int .i64 r ∧ Ext h' h'')), f185.j0 (slices_siftDownCmpFunc_185.post W A_0 n_0 c_0 h0 m0 r) A_0 n_0 c_0 x_2 x_3 fv_4 x_10 x_11 h
set_option maxRecDepth 100000 in
theorem slices_siftDownCmpFunc_185.l0_k.step_l0 (go : (p : slices_siftDownCmpFunc_185.l0_k.Pt) → Option ((List T_part_Step))) (ih : ∀ p r, go p = some r → slices_siftDownCmpFunc_185.l0_k.I p r) (a_0 : List T_part_Step) (x_2 : Int) (x_3 : Int) (p_4 : T_part_Step → T_part_Step → Option Int) (x_10 : Int) (r : (List T_part_Step)) (e : slices_siftDownCmpFunc_185.l0_k.body go (.l0 a_0 x_2 x_3 p_4 x_10) = some r) : slices_siftDownCmpFunc_185.l0_k.I (.l0 a_0 x_2 x_3 p_4 x_10) r := by
  unfold slices_siftDownCmpFunc_185.l0_k.body at e
  intro W h0 m0 h m A_0 n_0 c_0 fv_4 O ne_0 f_4
  subst ne_0
  refine f185.l0_in ?_
  unfold f185.l0T
  refine split_dec_e e (fun c21 e => ?_) (fun c21 e => ?_)
  · cases e
    exact ⟨_, O.pick [0], rfl, rfl⟩
  · refine split_dec_e e (fun c20 e => ?_) (fun c20 e => ?_)
    · obtain ⟨y1, g2, e⟩ := bind_e e
      refine (O.os 0 rfl).addr rfl g2 fun a3 cs4 ha5 hc6 he7 => ?_
      obtain ⟨y8, g9, e⟩ := bind_e e
      refine (O.os 0 rfl).addr rfl g9 fun a10 cs11 ha12 hc13 he14 => ?_
      refine ⟨_, ldAn (Sub.refl _) hc6 rfl, ?_⟩
      refine ⟨_, ldAn (Sub.refl _) hc13 rfl, ?_⟩
      obtain ⟨y15, g16, e⟩ := bind_e e
      refine CallF.mono (f_4 _ _ O.up O.s _ _ he7 _ _ he14 _ g16) ?_
      rintro _ h17 ⟨rfl, x18⟩
      have O19 := O.ext x18
      refine ⟨_, rfl, ?_⟩
      exact (ih _ _ e) _ _ _ _ _ _ _ _ _ (O19.pick [0]).nm rfl f_4
    · exact (ih _ _ e) _ _ _ _ _ _ _ _ _ (O.pick [0]).nm rfl f_4
set_option maxRecDepth 100000 in
theorem slices_siftDownCmpFunc_185.l0_k.step_j1 (go : (p : slices_siftDownCmpFunc_185.l0_k.Pt) → Option ((List T_part_Step))) (ih : ∀ p r, go p = some r → slices_siftDownCmpFunc_185.l0_k.I p r) (a_0 : List T_part_Step) (x_2 : Int) (x_3 : Int) (p_4 : T_part_Step → T_part_Step → Option Int) (x_10 : Int) (x_11 : Int) (b_40 : Bool) (r : (List T_part_Step)) (e : slices_siftDownCmpFunc_185.l0_k.body go (.j1 a_0 x_2 x_3 p_4 x_10 x_11 b_40) = some r) : slices_siftDownCmpFunc_185.l0_k.I (.j1 a_0 x_2 x_3 p_4 x_10 x_11 b_40) r := by
  unfold slices_siftDownCmpFunc_185.l0_k.body at e
  intro W h0 m0 h m A_0 n_0 c_0 fv_4 O ne_0 f_4
  subst ne_0
  refine f185.j1_in ?_
  unfold f185.j1T
  refine split_any_e e (fun c1 e => ?_) (fun c1 e => ?_)
  · exact (ih _ _ e) _ _ _ _ _ _ _ _ _ (O.pick [0]).nm rfl f_4
  · exact (ih _ _ e) _ _ _ _ _ _ _ _ _ (O.pick [0]).nm rfl f_4
set_option maxHeartbeats 4000000 in
set_option maxRecDepth 100000 in
theorem slices_siftDownCmpFunc_185.l0_k.step_j0 (go : (p : slices_siftDownCmpFunc_185.l0_k.Pt) → Option ((List T_part_Step))) (ih : ∀ p r, go p = some r → slices_siftDownCmpFunc_185.l0_k.I p r) (a_0 : List T_part_Step) (x_2 : Int) (x_3 : Int) (p_4 : T_part_Step → T_part_Step → Option Int) (x_10 : Int) (x_11 : Int) (r : (List T_part_Step)) (e : slices_siftDownCmpFunc_185.l0_k.body go (.j0 a_0 x_2 x_3 p_4 x_10 x_11) = some r) : slices_siftDownCmpFunc_185.l0_k.I (.j0 a_0 x_2 x_3 p_4 x_10 x_11) r := by
  unfold slices_siftDownCmpFunc_185.l0_k.body at e
  intro W h0 m0 h m A_0 n_0 c_0 fv_4 O ne_0 f_4
  subst ne_0
  refine f185.j0_in ?_
  unfold f185.j0T
  obtain ⟨y1, g2, e⟩ := bind_e e
  refine (O.os 0 rfl).addr rfl g2 fun a3 cs4 ha5 hc6 he7 => ?_
  obtain ⟨y8, g9, e⟩ := bind_e e
  refine (O.os 0 rfl).addr rfl g9 fun a10 cs11 ha12 hc13 he14 => ?_
  refine ⟨_, ldAn (Sub.refl _) hc6 rfl, ?_⟩
  refine ⟨_, ldAn (Sub.refl _) hc13 rfl, ?_⟩
  obtain ⟨y15, g16, e⟩ := bind_e e
  refine CallF.mono (f_4 _ _ O.up O.s _ _ he7 _ _ he14 _ g16) ?_
  rintro _ h17 ⟨rfl, x18⟩
  have O19 := O.ext x18
  refine ⟨_, rfl, ?_⟩
  refine split_not ?_
  refine split_dec_e e (fun c57 e => ?_) (fun c57 e => ?_)
  · obtain ⟨y20, g21, e⟩ := bind_e e
    refine (O19.os 0 rfl).addr rfl g21 fun a22 cs23 ha24 hc25 he26 => ?_
    obtain ⟨y27, g28, e⟩ := bind_e e
    refine (O19.os 0 rfl).addr rfl g28 fun a29 cs30 ha31 hc32 he33 => ?_
    refine ⟨_, ldAn (Sub.refl _) hc25 rfl, ?_⟩
    refine ⟨_, ldAn (Sub.refl _) hc32 rfl, ?_⟩
    obtain ⟨y34, g35, e⟩ := bind_e e
    refine (O19.os 0 rfl).addr rfl g35 fun a36 cs37 ha38 hc39 he40 => ?_
    obtain ⟨l43, g44, e⟩ := bind_e e
    replace g44 := Option.some.inj g44
    refine ⟨_, rfl, (T_part_Step.T.len _ _ _ he26), ?_⟩
    refine O19.elstA 0 rfl g35 ha38 hc39 (y' := y20) he26 (T_part_Step.T.flat _ _ _ he26) g44 fun h41 O42 => ?_
    obtain ⟨y45, g46, e⟩ := bind_e e
    refine (O42.os 0 rfl).addr (lset' g44) g46 fun a47 cs48 ha49 hc50 he51 => ?_
    obtain ⟨l54, g55, e⟩ := bind_e e
    replace g55 := Option.some.inj g55
    refine ⟨_, rfl, (T_part_Step.T.len _ _ _ he33), ?_⟩
    refine O42.elstA 0 rfl g46 ha49 hc50 (y' := y27) he33 (T_part_Step.T.flat _ _ _ he33) g55 fun h52 O53 => ?_
    have O56 := O53.nm
    exact (ih _ _ e) _ _ _ _ _ _ _ _ _ (O56.pick [0]).nm ((lset' g44).trans (lset' g55)) f_4
  · cases e
    exact ⟨_, O19.pick [0], rfl, rfl⟩
theorem slices_siftDownCmpFunc_185.l0_k.all {p : slices_siftDownCmpFunc_185.l0_k.Pt} {r : ((List T_part_Step))} (e : slices_siftDownCmpFunc_185.l0_k.go p = some r) : slices_siftDownCmpFunc_185.l0_k.I p r := fixF_ind (β := fun _ => ((List T_part_Step))) slices_siftDownCmpFunc_185.l0_k.mono (I := slices_siftDownCmpFunc_185.l0_k.I) (fun go ih p r e => match p with
  | .l0 a_0 x_2 x_3 p_4 x_10 => slices_siftDownCmpFunc_185.l0_k.step_l0 go ih a_0 x_2 x_3 p_4 x_10 r e
  | .j1 a_0 x_2 x_3 p_4 x_10 x_11 b_40 => slices_siftDownCmpFunc_185.l0_k.step_j1 go ih a_0 x_2 x_3 p_4 x_10 x_11 b_40 r e
  | .j0 a_0 x_2 x_3 p_4 x_10 x_11 => slices_siftDownCmpFunc_185.l0_k.step_j0 go ih a_0 x_2 x_3 p_4 x_10 x_11 r e
  ) e
theorem slices_siftDownCmpFunc_185.l0.walk {W : Nat → Prop} {h0 m0 h m : Heap} {A_0 : Option Addr} {n_0 c_0 : Nat} {fv_4 : Value} {a_0 : List T_part_Step} {x_2 : Int} {x_3 : Int} {p_4 : T_part_Step → T_part_Step → Option Int} {x_10 : Int} (O : Hold W h0 m0 h m [rR (aE T_part_Step.T) A_0 c_0 a_0]) (ne_0 : n_0 = List.length a_0) (f_4 : ∀ h' m', Sub m0 m' → Sub m' h' → ∀ (y0 : T_part_Step) (cs0 : List Value) (_ : T_part_Step.E m' y0 cs0) (y1 : T_part_Step) (cs1 : List Value) (_ : T_part_Step.E m' y1 cs1) (r : Int), p_4 y0 y1 = some r → CallF Try.prog fv_4 [.agg cs0.toArray, .agg cs1.toArray] h' (fun v h'' => v = .int .i64 r ∧ Ext h' h'')) {r : (List T_part_Step)} (e : slices_siftDownCmpFunc_185.l0 a_0 x_2 x_3 p_4 x_10 = some r) : f185.l0 (slices_siftDownCmpFunc_185.post W A_0 n_0 c_0 h0 m0 r) A_0 n_0 c_0 x_2 x_3 fv_4 x_10 h := slices_siftDownCmpFunc_185.l0_k.all (p := .l0 a_0 x_2 x_3 p_4 x_10) e W h0 m0 h m A_0 n_0 c_0 fv_4 O ne_0 f_4
noncomputable def slices_siftDownCmpFunc_185 (a_0 : List T_part_Step) (x_1 : Int) (x_2 : Int) (x_3 : Int) (p_4 : T_part_Step → T_part_Step → Option Int) : Option ((List T_part_Step)) :=
  (slices_siftDownCmpFunc_185.l0 a_0 x_2 x_3 p_4 x_1)
set_option maxRecDepth 100000 in
theorem slices_siftDownCmpFunc_185.walk {W : Nat → Prop} {h m : Heap} {A_0 : Option Addr} {n_0 c_0 : Nat} {fv_4 : Value} {a_0 : List T_part_Step} {x_1 : Int} {x_2 : Int} {x_3 : Int} {p_4 : T_part_Step → T_part_Step → Option Int} (O : Hold W h m h m [rR (aE T_part_Step.T) A_0 c_0 a_0]) (ne_0 : n_0 = List.length a_0) (f_4 : ∀ h' m', Sub m m' → Sub m' h' → ∀ (y0 : T_part_Step) (cs0 : List Value) (_ : T_part_Step.E m' y0 cs0) (y1 : T_part_Step) (cs1 : List Value) (_ : T_part_Step.E m' y1 cs1) (r : Int), p_4 y0 y1 = some r → CallF Try.prog fv_4 [.agg cs0.toArray, .agg cs1.toArray] h' (fun v h'' => v = .int .i64 r ∧ Ext h' h'')) {r : (List T_part_Step)} (e : slices_siftDownCmpFunc_185 a_0 x_1 x_2 x_3 p_4 = some r) : Run Try.prog 185 #[Value.slice A_0 n_0 c_0, Value.int .i64 x_1, Value.int .i64 x_2, Value.int .i64 x_3, fv_4] h (slices_siftDownCmpFunc_185.post W A_0 n_0 c_0 h m r) := by
  unfold slices_siftDownCmpFunc_185 at e
  subst ne_0
  refine f185.run ?_
  unfold f185.runT
  exact slices_siftDownCmpFunc_185.l0.walk (O.pick [0]).nm rfl f_4 e
def slices_heapSortCmpFunc_166.post (W : Nat → Prop) (Asl0 : Option Addr) (nsl0 csl0 : Nat) (h0 m0 : Heap) (r : (List T_part_Step)) (v : Value) (h : Heap) : Prop := ∃ m , Hold W h0 m0 h m [rR (aE T_part_Step.T) Asl0 csl0 r] ∧ v = .tuple #[] ∧ nsl0 = List.length r
inductive slices_heapSortCmpFunc_166.l1_k.Pt where
  | l1 (a_0 : List T_part_Step) (p_3 : T_part_Step → T_part_Step → Option Int) (x_8 : Int) (x_9 : Int) (x_12 : Int)
noncomputable def slices_heapSortCmpFunc_166.l1_k.body (go : (p : slices_heapSortCmpFunc_166.l1_k.Pt) → Option ((List T_part_Step))) : (p : slices_heapSortCmpFunc_166.l1_k.Pt) → Option ((List T_part_Step))
  | .l1 a_0 p_3 x_8 x_9 x_12 => if x_12 ≥ (0 : Int) then (Option.bind (gi a_0 (IntKind.wrap .i64 (x_8 + x_12))) fun y1 => Option.bind (gi a_0 x_8) fun y8 => Option.bind (gi a_0 x_8) fun y15 => Option.bind (some (List.set a_0 (Int.toNat x_8) y1)) fun l24 => Option.bind (gi l24 (IntKind.wrap .i64 (x_8 + x_12))) fun y26 => Option.bind (some (List.set l24 (Int.toNat (IntKind.wrap .i64 (x_8 + x_12))) y8)) fun l35 => Option.bind (slices_siftDownCmpFunc_185 l35 x_9 x_12 x_8 p_3) fun y37 => (go (.l1 y37 p_3 x_8 x_9 (IntKind.wrap .i64 (x_12 - (1 : Int)))))) else (some (a_0))
theorem slices_heapSortCmpFunc_166.l1_k.mono : MonoF (β := fun _ => ((List T_part_Step))) slices_heapSortCmpFunc_166.l1_k.body := fun f g hfg p => match p with
  | .l1 a_0 p_3 x_8 x_9 x_12 => LeO.ite (LeO.bind (LeO.refl _) fun y1 => LeO.bind (LeO.refl _) fun y8 => LeO.bind (LeO.refl _) fun y15 => LeO.bind (LeO.refl _) fun l24 => LeO.bind (LeO.refl _) fun y26 => LeO.bind (LeO.refl _) fun l35 => LeO.bind (LeO.refl _) fun y37 => (hfg _)) (LeO.refl _)
noncomputable def slices_heapSortCmpFunc_166.l1_k.go (p : slices_heapSortCmpFunc_166.l1_k.Pt) : Option ((List T_part_Step)) := fixF (β := fun _ => ((List T_part_Step))) slices_heapSortCmpFunc_166.l1_k.body p
noncomputable def slices_heapSortCmpFunc_166.l1 (a_0 : List T_part_Step) (p_3 : T_part_Step → T_part_Step → Option Int) (x_8 : Int) (x_9 : Int) (x_12 : Int) : Option ((List T_part_Step)) := slices_heapSortCmpFunc_166.l1_k.go (.l1 a_0 p_3 x_8 x_9 x_12)
def slices_heapSortCmpFunc_166.l1_k.I : (p : slices_heapSortCmpFunc_166.l1_k.Pt) → ((List T_part_Step)) → Prop
  | .l1 a_0 p_3 x_8 x_9 x_12, r => ∀ (W : Nat → Prop) (h0 m0 h m : Heap) (A_0 : Option Addr) (n_0 c_0 : Nat) (fv_3 : Value) (O : Hold W h0 m0 h m [rR (aE T_part_Step.T) A_0 c_0 a_0]) (ne_0 : n_0 = List.length a_0) (f_3 : ∀ h' m', Sub m0 m' → Sub m' h' → ∀ (y0 : T_part_Step) (cs0 : List Value) (_ : T_part_Step.E m' y0 cs0) (y1 : T_part_Step) (cs1 : List Value) (_ : T_part_Step.E m' y1 cs1) (r : Int), p_3 y0 y1 = some r → CallF Try.prog fv_3 [.agg cs0.toArray, .agg cs1.toArray] h' (fun v h'' => v = .int .i64 r ∧ Ext h' h'')), f166.l1 (slices_heapSortCmpFunc_166.post W A_0 n_0 c_0 h0 m0 r) A_0 n_0 c_0 fv_3 x_8 x_9 x_12 h
set_option maxRecDepth 100000 in
theorem slices_heapSortCmpFunc_166.l1_k.step_l1 (go : (p : slices_heapSortCmpFunc_166.l1_k.Pt) → Option ((List T_part_Step))) (ih : ∀ p r, go p = some r → slices_heapSortCmpFunc_166.l1_k.I p r) (a_0 : List T_part_Step) (p_3 : T_part_Step → T_part_Step → Option Int) (x_8 : Int) (x_9 : Int) (x_12 : Int) (r : (List T_part_Step)) (e : slices_heapSortCmpFunc_166.l1_k.body go (.l1 a_0 p_3 x_8 x_9 x_12) = some r) : slices_heapSortCmpFunc_166.l1_k.I (.l1 a_0 p_3 x_8 x_9 x_12) r := by
  unfold slices_heapSortCmpFunc_166.l1_k.body at e
  intro W h0 m0 h m A_0 n_0 c_0 fv_3 O ne_0 f_3
  subst ne_0
  refine f166.l1_in ?_
  unfold f166.l1T
  refine split_dec_e e (fun c50 e => ?_) (fun c50 e => ?_)
  · obtain ⟨y1, g2, e⟩ := bind_e e
    refine (O.os 0 rfl).addr rfl g2 fun a3 cs4 ha5 hc6 he7 => ?_
    obtain ⟨y8, g9, e⟩ := bind_e e
    refine (O.os 0 rfl).addr rfl g9 fun a10 cs11 ha12 hc13 he14 => ?_
    refine ⟨_, ldAn (Sub.refl _) hc6 rfl, ?_⟩
    refine ⟨_, ldAn (Sub.refl _) hc13 rfl, ?_⟩
    obtain ⟨y15, g16, e⟩ := bind_e e
    refine (O.os 0 rfl).addr rfl g16 fun a17 cs18 ha19 hc20 he21 => ?_
    obtain ⟨l24, g25, e⟩ := bind_e e
    replace g25 := Option.some.inj g25
    refine ⟨_, rfl, (T_part_Step.T.len _ _ _ he7), ?_⟩
    refine O.elstA 0 rfl g16 ha19 hc20 (y' := y1) he7 (T_part_Step.T.flat _ _ _ he7) g25 fun h22 O23 => ?_
    obtain ⟨y26, g27, e⟩ := bind_e e
    refine (O23.os 0 rfl).addr (lset' g25) g27 fun a28 cs29 ha30 hc31 he32 => ?_
    obtain ⟨l35, g36, e⟩ := bind_e e
    replace g36 := Option.some.inj g36
    refine ⟨_, rfl, (T_part_Step.T.len _ _ _ he14), ?_⟩
    refine O23.elstA 0 rfl g27 ha30 hc31 (y' := y8) he14 (T_part_Step.T.flat _ _ _ he14) g36 fun h33 O34 => ?_
    obtain ⟨y37, g38, e⟩ := bind_e e
    have O43 := O34.nm
    obtain ⟨W44, P45, B46, C47⟩ := O43.callC [0]
    refine (slices_siftDownCmpFunc_185.walk P45 ((lset' g25).trans (lset' g36)) (fun h' m' u s => f_3 h' m' (O.up.trans u) s) g38).mono ?_
    rintro _ h39 ⟨m40, Q41, rfl, hl48⟩
    have O49 := Hold.nm (C47 Q41 (vfs_cons (rR_vf (aE_vf (fun _ _ _ _ h => T_part_Step.keep h))) vfs_nil))
    refine ⟨rfl, ?_⟩
    exact (ih _ _ e) _ _ _ _ _ _ _ _ _ (O49.pick [1]).nm hl48 f_3
  · cases e
    exact ⟨_, O.pick [0], rfl, rfl⟩
theorem slices_heapSortCmpFunc_166.l1_k.all {p : slices_heapSortCmpFunc_166.l1_k.Pt} {r : ((List T_part_Step))} (e : slices_heapSortCmpFunc_166.l1_k.go p = some r) : slices_heapSortCmpFunc_166.l1_k.I p r := fixF_ind (β := fun _ => ((List T_part_Step))) slices_heapSortCmpFunc_166.l1_k.mono (I := slices_heapSortCmpFunc_166.l1_k.I) (fun go ih p r e => match p with
  | .l1 a_0 p_3 x_8 x_9 x_12 => slices_heapSortCmpFunc_166.l1_k.step_l1 go ih a_0 p_3 x_8 x_9 x_12 r e
  ) e
theorem slices_heapSortCmpFunc_166.l1.walk {W : Nat → Prop} {h0 m0 h m : Heap} {A_0 : Option Addr} {n_0 c_0 : Nat} {fv_3 : Value} {a_0 : List T_part_Step} {p_3 : T_part_Step → T_part_Step → Option Int} {x_8 : Int} {x_9 : Int} {x_12 : Int} (O : Hold W h0 m0 h m [rR (aE T_part_Step.T) A_0 c_0 a_0]) (ne_0 : n_0 = List.length a_0) (f_3 : ∀ h' m', Sub m0 m' → Sub m' h' → ∀ (y0 : T_part_Step) (cs0 : List Value) (_ : T_part_Step.E m' y0 cs0) (y1 : T_part_Step) (cs1 : List Value) (_ : T_part_Step.E m' y1 cs1) (r : Int), p_3 y0 y1 = some r → CallF Try.prog fv_3 [.agg cs0.toArray, .agg cs1.toArray] h' (fun v h'' => v = .int .i64 r ∧ Ext h' h'')) {r : (List T_part_Step)} (e : slices_heapSortCmpFunc_166.l1 a_0 p_3 x_8 x_9 x_12 = some r) : f166.l1 (slices_heapSortCmpFunc_166.post W A_0 n_0 c_0 h0 m0 r) A_0 n_0 c_0 fv_3 x_8 x_9 x_12 h := slices_heapSortCmpFunc_166.l1_k.all (p := .l1 a_0 p_3 x_8 x_9 x_12) e W h0 m0 h m A_0 n_0 c_0 fv_3 O ne_0 f_3
inductive slices_heapSortCmpFunc_166.l0_k.Pt where
  | l0 (a_0 : List T_part_Step) (p_3 : T_part_Step → T_part_Step → Option Int) (x_8 : Int) (x_9 : Int) (x_10 : Int) (x_11 : Int)
noncomputable def slices_heapSortCmpFunc_166.l0_k.body (go : (p : slices_heapSortCmpFunc_166.l0_k.Pt) → Option ((List T_part_Step))) : (p : slices_heapSortCmpFunc_166.l0_k.Pt) → Option ((List T_part_Step))
  | .l0 a_0 p_3 x_8 x_9 x_10 x_11 => if x_11 ≥ (0 : Int) then (Option.bind (slices_siftDownCmpFunc_185 a_0 x_11 x_10 x_8 p_3) fun y1 => (go (.l0 y1 p_3 x_8 x_9 x_10 (IntKind.wrap .i64 (x_11 - (1 : Int)))))) else ((slices_heapSortCmpFunc_166.l1 a_0 p_3 x_8 x_9 (IntKind.wrap .i64 (x_10 - (1 : Int)))))
theorem slices_heapSortCmpFunc_166.l0_k.mono : MonoF (β := fun _ => ((List T_part_Step))) slices_heapSortCmpFunc_166.l0_k.body := fun f g hfg p => match p with
  | .l0 a_0 p_3 x_8 x_9 x_10 x_11 => LeO.ite (LeO.bind (LeO.refl _) fun y1 => (hfg _)) ((LeO.refl _))
noncomputable def slices_heapSortCmpFunc_166.l0_k.go (p : slices_heapSortCmpFunc_166.l0_k.Pt) : Option ((List T_part_Step)) := fixF (β := fun _ => ((List T_part_Step))) slices_heapSortCmpFunc_166.l0_k.body p
noncomputable def slices_heapSortCmpFunc_166.l0 (a_0 : List T_part_Step) (p_3 : T_part_Step → T_part_Step → Option Int) (x_8 : Int) (x_9 : Int) (x_10 : Int) (x_11 : Int) : Option ((List T_part_Step)) := slices_heapSortCmpFunc_166.l0_k.go (.l0 a_0 p_3 x_8 x_9 x_10 x_11)
def slices_heapSortCmpFunc_166.l0_k.I : (p : slices_heapSortCmpFunc_166.l0_k.Pt) → ((List T_part_Step)) → Prop
  | .l0 a_0 p_3 x_8 x_9 x_10 x_11, r => ∀ (W : Nat → Prop) (h0 m0 h m : Heap) (A_0 : Option Addr) (n_0 c_0 : Nat) (fv_3 : Value) (O : Hold W h0 m0 h m [rR (aE T_part_Step.T) A_0 c_0 a_0]) (ne_0 : n_0 = List.length a_0) (f_3 : ∀ h' m', Sub m0 m' → Sub m' h' → ∀ (y0 : T_part_Step) (cs0 : List Value) (_ : T_part_Step.E m' y0 cs0) (y1 : T_part_Step) (cs1 : List Value) (_ : T_part_Step.E m' y1 cs1) (r : Int), p_3 y0 y1 = some r → CallF Try.prog fv_3 [.agg cs0.toArray, .agg cs1.toArray] h' (fun v h'' => v = .int .i64 r ∧ Ext h' h'')), f166.l0 (slices_heapSortCmpFunc_166.post W A_0 n_0 c_0 h0 m0 r) A_0 n_0 c_0 fv_3 x_8 x_9 x_10 x_11 h
set_option maxRecDepth 100000 in
theorem slices_heapSortCmpFunc_166.l0_k.step_l0 (go : (p : slices_heapSortCmpFunc_166.l0_k.Pt) → Option ((List T_part_Step))) (ih : ∀ p r, go p = some r → slices_heapSortCmpFunc_166.l0_k.I p r) (a_0 : List T_part_Step) (p_3 : T_part_Step → T_part_Step → Option Int) (x_8 : Int) (x_9 : Int) (x_10 : Int) (x_11 : Int) (r : (List T_part_Step)) (e : slices_heapSortCmpFunc_166.l0_k.body go (.l0 a_0 p_3 x_8 x_9 x_10 x_11) = some r) : slices_heapSortCmpFunc_166.l0_k.I (.l0 a_0 p_3 x_8 x_9 x_10 x_11) r := by
  unfold slices_heapSortCmpFunc_166.l0_k.body at e
  intro W h0 m0 h m A_0 n_0 c_0 fv_3 O ne_0 f_3
  subst ne_0
  refine f166.l0_in ?_
  unfold f166.l0T
  refine split_dec_e e (fun c13 e => ?_) (fun c13 e => ?_)
  · obtain ⟨y1, g2, e⟩ := bind_e e
    obtain ⟨W7, P8, B9, C10⟩ := O.callC [0]
    refine (slices_siftDownCmpFunc_185.walk P8 rfl (fun h' m' u s => f_3 h' m' (O.up.trans u) s) g2).mono ?_
    rintro _ h3 ⟨m4, Q5, rfl, hl11⟩
    have O12 := Hold.nm (C10 Q5 (vfs_cons (rR_vf (aE_vf (fun _ _ _ _ h => T_part_Step.keep h))) vfs_nil))
    refine ⟨rfl, ?_⟩
    exact (ih _ _ e) _ _ _ _ _ _ _ _ _ (O12.pick [1]).nm hl11 f_3
  · exact slices_heapSortCmpFunc_166.l1.walk (O.pick [0]).nm rfl f_3 e
theorem slices_heapSortCmpFunc_166.l0_k.all {p : slices_heapSortCmpFunc_166.l0_k.Pt} {r : ((List T_part_Step))} (e : slices_heapSortCmpFunc_166.l0_k.go p = some r) : slices_heapSortCmpFunc_166.l0_k.I p r := fixF_ind (β := fun _ => ((List T_part_Step))) slices_heapSortCmpFunc_166.l0_k.mono (I := slices_heapSortCmpFunc_166.l0_k.I) (fun go ih p r e => match p with
  | .l0 a_0 p_3 x_8 x_9 x_10 x_11 => slices_heapSortCmpFunc_166.l0_k.step_l0 go ih a_0 p_3 x_8 x_9 x_10 x_11 r e
  ) e
theorem slices_heapSortCmpFunc_166.l0.walk {W : Nat → Prop} {h0 m0 h m : Heap} {A_0 : Option Addr} {n_0 c_0 : Nat} {fv_3 : Value} {a_0 : List T_part_Step} {p_3 : T_part_Step → T_part_Step → Option Int} {x_8 : Int} {x_9 : Int} {x_10 : Int} {x_11 : Int} (O : Hold W h0 m0 h m [rR (aE T_part_Step.T) A_0 c_0 a_0]) (ne_0 : n_0 = List.length a_0) (f_3 : ∀ h' m', Sub m0 m' → Sub m' h' → ∀ (y0 : T_part_Step) (cs0 : List Value) (_ : T_part_Step.E m' y0 cs0) (y1 : T_part_Step) (cs1 : List Value) (_ : T_part_Step.E m' y1 cs1) (r : Int), p_3 y0 y1 = some r → CallF Try.prog fv_3 [.agg cs0.toArray, .agg cs1.toArray] h' (fun v h'' => v = .int .i64 r ∧ Ext h' h'')) {r : (List T_part_Step)} (e : slices_heapSortCmpFunc_166.l0 a_0 p_3 x_8 x_9 x_10 x_11 = some r) : f166.l0 (slices_heapSortCmpFunc_166.post W A_0 n_0 c_0 h0 m0 r) A_0 n_0 c_0 fv_3 x_8 x_9 x_10 x_11 h := slices_heapSortCmpFunc_166.l0_k.all (p := .l0 a_0 p_3 x_8 x_9 x_10 x_11) e W h0 m0 h m A_0 n_0 c_0 fv_3 O ne_0 f_3
noncomputable def slices_heapSortCmpFunc_166 (a_0 : List T_part_Step) (x_1 : Int) (x_2 : Int) (p_3 : T_part_Step → T_part_Step → Option Int) : Option ((List T_part_Step)) :=
  (slices_heapSortCmpFunc_166.l0 a_0 p_3 x_1 (0 : Int) (IntKind.wrap .i64 (x_2 - x_1)) (IntKind.wrap .i64 (Int.tdiv (IntKind.wrap .i64 ((IntKind.wrap .i64 (x_2 - x_1)) - (1 : Int))) (2 : Int))))
set_option maxRecDepth 100000 in
theorem slices_heapSortCmpFunc_166.walk {W : Nat → Prop} {h m : Heap} {A_0 : Option Addr} {n_0 c_0 : Nat} {fv_3 : Value} {a_0 : List T_part_Step} {x_1 : Int} {x_2 : Int} {p_3 : T_part_Step → T_part_Step → Option Int} (O : Hold W h m h m [rR (aE T_part_Step.T) A_0 c_0 a_0]) (ne_0 : n_0 = List.length a_0) (f_3 : ∀ h' m', Sub m m' → Sub m' h' → ∀ (y0 : T_part_Step) (cs0 : List Value) (_ : T_part_Step.E m' y0 cs0) (y1 : T_part_Step) (cs1 : List Value) (_ : T_part_Step.E m' y1 cs1) (r : Int), p_3 y0 y1 = some r → CallF Try.prog fv_3 [.agg cs0.toArray, .agg cs1.toArray] h' (fun v h'' => v = .int .i64 r ∧ Ext h' h'')) {r : (List T_part_Step)} (e : slices_heapSortCmpFunc_166 a_0 x_1 x_2 p_3 = some r) : Run Try.prog 166 #[Value.slice A_0 n_0 c_0, Value.int .i64 x_1, Value.int .i64 x_2, fv_3] h (slices_heapSortCmpFunc_166.post W A_0 n_0 c_0 h m r) := by
  unfold slices_heapSortCmpFunc_166 at e
  subst ne_0
  refine f166.run ?_
  unfold f166.runT
  refine ⟨by decide, ?_⟩
  exact slices_heapSortCmpFunc_166.l0.walk (O.pick [0]).nm rfl f_3 e
def slices_nextPowerOfTwo.post (W : Nat → Prop) (h0 m0 : Heap) (r : Int) (v : Value) (h : Heap) : Prop := ∃ m , Hold W h0 m0 h m [] ∧ v = .int .u64 r
noncomputable def slices_nextPowerOfTwo (x_0 : Int) : Option (Int) :=
  Option.bind (math_bits_Len (IntKind.wrap .u64 x_0)) fun y1 => if 0 ≤ y1 then (some ((shlI .u64 (1 : Int) y1))) else none
set_option maxRecDepth 100000 in
theorem slices_nextPowerOfTwo.walk {W : Nat → Prop} {h m : Heap} {x_0 : Int} (O : Hold W h m h m []) {r : Int} (e : slices_nextPowerOfTwo x_0 = some r) : Run Try.prog 156 #[Value.int .i64 x_0] h (slices_nextPowerOfTwo.post W h m r) := by
  unfold slices_nextPowerOfTwo at e
  refine f156.run ?_
  unfold f156.runT
  obtain ⟨y1, g2, e⟩ := bind_e e
  refine (math_bits_Len.walk (Hold.start (W := No) O.s)  g2).mono ?_
  rintro _ h3 ⟨m4, Q5, rfl⟩
  have O7 := Hold.nm (O.retC Q5 vfs_nil)
  refine ⟨_, rfl, ?_⟩
  obtain ⟨g8, e⟩ := guard_e e
  refine ⟨g8, ?_⟩
  cases e
  exact ⟨_, O7.pick [], rfl⟩
def slices_xorshift_Next.post (W : Nat → Prop) (bkio0 : Nat) (h0 m0 : Heap) (r : Int × Int) (v : Value) (h : Heap) : Prop := ∃ m csio0, Hold W h0 m0 h m [rV bkio0 223 csio0] ∧ v = .int .u64 r.1 ∧ (eInt .u64) m r.2 csio0
noncomputable def slices_xorshift_Next (y_0 : Int) : Option (Int × Int) :=
  some ((bitsI .xor .u64 (bitsI .xor .u64 (bitsI .xor .u64 y_0 (shlI .u64 y_0 (13 : Int))) (shrI .u64 (bitsI .xor .u64 y_0 (shlI .u64 y_0 (13 : Int))) (7 : Int))) (shlI .u64 (bitsI .xor .u64 (bitsI .xor .u64 y_0 (shlI .u64 y_0 (13 : Int))) (shrI .u64 (bitsI .xor .u64 y_0 (shlI .u64 y_0 (13 : Int))) (7 : Int))) (17 : Int))), (bitsI .xor .u64 (bitsI .xor .u64 (bitsI .xor .u64 y_0 (shlI .u64 y_0 (13 : Int))) (shrI .u64 (bitsI .xor .u64 y_0 (shlI .u64 y_0 (13 : Int))) (7 : Int))) (shlI .u64 (bitsI .xor .u64 (bitsI .xor .u64 y_0 (shlI .u64 y_0 (13 : Int))) (shrI .u64 (bitsI .xor .u64 y_0 (shlI .u64 y_0 (13 : Int))) (7 : Int))) (17 : Int))))
set_option maxRecDepth 100000 in
theorem slices_xorshift_Next.walk {W : Nat → Prop} {h m : Heap} {bkio0 : Nat} {cs_0 : List Value} {y_0 : Int} (O : Hold W h m h m [rV bkio0 223 cs_0]) (e_0 : (eInt .u64) m y_0 cs_0) {r : Int × Int} (e : slices_xorshift_Next y_0 = some r) : Run Try.prog 157 #[Value.pointer (some ⟨bkio0, 0, none⟩)] h (slices_xorshift_Next.post W bkio0 h m r) := by
  unfold slices_xorshift_Next at e
  obtain rfl : cs_0 = [(Value.int .u64 y_0)] := e_0
  refine f157.run ?_
  unfold f157.runT
  refine ⟨_, ld0 (Sub.refl _) (O.all 0 rfl) rfl, _, rfl, ?_⟩
  refine ⟨_, ld0 (Sub.refl _) (O.all 0 rfl) rfl, _, rfl, ?_⟩
  refine ⟨by decide, ?_⟩
  refine O.st0 0 rfl (Nat.le_of_ble_eq_true rfl) trivial fun h1 O2 => ?_
  refine ⟨_, ld0 (Sub.refl _) (O2.all 0 rfl) rfl, _, rfl, ?_⟩
  refine ⟨_, ld0 (Sub.refl _) (O2.all 0 rfl) rfl, _, rfl, ?_⟩
  refine ⟨by decide, ?_⟩
  refine O2.st0 0 rfl (Nat.le_of_ble_eq_true rfl) trivial fun h3 O4 => ?_
  refine ⟨_, ld0 (Sub.refl _) (O4.all 0 rfl) rfl, _, rfl, ?_⟩
  refine ⟨_, ld0 (Sub.refl _) (O4.all 0 rfl) rfl, _, rfl, ?_⟩
  refine ⟨by decide, ?_⟩
  refine O4.st0 0 rfl (Nat.le_of_ble_eq_true rfl) trivial fun h5 O6 => ?_
  refine ⟨_, ld0 (Sub.refl _) (O6.all 0 rfl) rfl, _, rfl, ?_⟩
  have O7 := O6.nm
  cases e
  exact ⟨_, _, O7.pick [0], rfl, rfl⟩
def slices_breakPatternsCmpFunc_167.post (W : Nat → Prop) (Asl0 : Option Addr) (nsl0 csl0 : Nat) (h0 m0 : Heap) (r : (List T_part_Step)) (v : Value) (h : Heap) : Prop := ∃ m , Hold W h0 m0 h m [rR (aE T_part_Step.T) Asl0 csl0 r] ∧ v = .tuple #[] ∧ nsl0 = List.length r
inductive slices_breakPatternsCmpFunc_167.l0_k.Pt where
  | l0 (a_0 : List T_part_Step) (x_1 : Int) (x_8 : Int) (y_9 : Int) (x_10 : Int) (x_11 : Int)
  | j1 (a_0 : List T_part_Step) (x_1 : Int) (x_8 : Int) (y_9 : Int) (x_10 : Int) (x_11 : Int) (x_12 : Int)
  | j0 (a_0 : List T_part_Step) (x_1 : Int) (x_8 : Int) (y_9 : Int) (x_10 : Int) (x_11 : Int)
noncomputable def slices_breakPatternsCmpFunc_167.l0_k.body (go : (p : slices_breakPatternsCmpFunc_167.l0_k.Pt) → Option ((List T_part_Step))) : (p : slices_breakPatternsCmpFunc_167.l0_k.Pt) → Option ((List T_part_Step))
  | .l0 a_0 x_1 x_8 y_9 x_10 x_11 => if x_11 ≤ (IntKind.wrap .i64 ((IntKind.wrap .i64 (x_1 + (IntKind.wrap .i64 ((IntKind.wrap .i64 (Int.tdiv x_8 (4 : Int))) * (2 : Int))))) + (1 : Int))) then (Option.bind (slices_xorshift_Next y_9) fun y1 => if (IntKind.wrap .i64 (bitsI .and .u64 y1.1 (IntKind.wrap .u64 (x_10 - (1 : Int))))) ≥ x_8 then ((go (.j1 a_0 x_1 x_8 y1.2 x_10 x_11 (IntKind.wrap .i64 ((IntKind.wrap .i64 (bitsI .and .u64 y1.1 (IntKind.wrap .u64 (x_10 - (1 : Int))))) - x_8))))) else ((go (.j1 a_0 x_1 x_8 y1.2 x_10 x_11 (IntKind.wrap .i64 (bitsI .and .u64 y1.1 (IntKind.wrap .u64 (x_10 - (1 : Int))))))))) else (some (a_0))
  | .j1 a_0 x_1 x_8 y_9 x_10 x_11 x_12 => Option.bind (gi a_0 (IntKind.wrap .i64 (x_1 + x_12))) fun y1 => Option.bind (gi a_0 x_11) fun y8 => Option.bind (gi a_0 x_11) fun y15 => Option.bind (some (List.set a_0 (Int.toNat x_11) y1)) fun l24 => Option.bind (gi l24 (IntKind.wrap .i64 (x_1 + x_12))) fun y26 => Option.bind (some (List.set l24 (Int.toNat (IntKind.wrap .i64 (x_1 + x_12))) y8)) fun l35 => (go (.j0 l35 x_1 x_8 y_9 x_10 x_11))
  | .j0 a_0 x_1 x_8 y_9 x_10 x_11 => (go (.l0 a_0 x_1 x_8 y_9 x_10 (IntKind.wrap .i64 (x_11 + (1 : Int)))))
attribute [local irreducible] slices_xorshift_Next in
theorem slices_breakPatternsCmpFunc_167.l0_k.mono : MonoF (β := fun _ => ((List T_part_Step))) slices_breakPatternsCmpFunc_167.l0_k.body := fun f g hfg p => match p with
  | .l0 a_0 x_1 x_8 y_9 x_10 x_11 => LeO.ite (LeO.bind (LeO.refl _) fun y1 => LeO.ite ((hfg _)) ((hfg _))) (LeO.refl _)
  | .j1 a_0 x_1 x_8 y_9 x_10 x_11 x_12 => LeO.bind (LeO.refl _) fun y1 => LeO.bind (LeO.refl _) fun y8 => LeO.bind (LeO.refl _) fun y15 => LeO.bind (LeO.refl _) fun l24 => LeO.bind (LeO.refl _) fun y26 => LeO.bind (LeO.refl _) fun l35 => (hfg _)
  | .j0 a_0 x_1 x_8 y_9 x_10 x_11 => (hfg _)
noncomputable def slices_breakPatternsCmpFunc_167.l0_k.go (p : slices_breakPatternsCmpFunc_167.l0_k.Pt) : Option ((List T_part_Step)) := fixF (β := fun _ => ((List T_part_Step))) slices_breakPatternsCmpFunc_167.l0_k.body p
noncomputable def slices_breakPatternsCmpFunc_167.l0 (a_0 : List T_part_Step) (x_1 : Int) (x_8 : Int) (y_9 : Int) (x_10 : Int) (x_11 : Int) : Option ((List T_part_Step)) := slices_breakPatternsCmpFunc_167.l0_k.go (.l0 a_0 x_1 x_8 y_9 x_10 x_11)
def slices_breakPatternsCmpFunc_167.l0_k.I : (p : slices_breakPatternsCmpFunc_167.l0_k.Pt) → ((List T_part_Step)) → Prop
  | .l0 a_0 x_1 x_8 y_9 x_10 x_11, r => ∀ (W : Nat → Prop) (h0 m0 h m : Heap) (A_0 : Option Addr) (n_0 c_0 : Nat) (bk_9 : Nat) (cs_9 : List Value) (O : Hold W h0 m0 h m [rR (aE T_part_Step.T) A_0 c_0 a_0, rV bk_9 223 cs_9]) (ne_0 : n_0 = List.length a_0) (e_9 : (eInt .u64) m y_9 cs_9), f167.l0 (slices_breakPatternsCmpFunc_167.post W A_0 n_0 c_0 h0 m0 r) A_0 n_0 c_0 x_1 x_8 (⟨bk_9, 0, none⟩ : Addr) x_10 x_11 h
  | .j1 a_0 x_1 x_8 y_9 x_10 x_11 x_12, r => ∀ (W : Nat → Prop) (h0 m0 h m : Heap) (A_0 : Option Addr) (n_0 c_0 : Nat) (bk_9 : Nat) (cs_9 : List Value) (O : Hold W h0 m0 h m [rR (aE T_part_Step.T) A_0 c_0 a_0, rV bk_9 223 cs_9]) (ne_0 : n_0 = List.length a_0) (e_9 : (eInt .u64) m y_9 cs_9), f167.j1 (slices_breakPatternsCmpFunc_167.post W A_0 n_0 c_0 h0 m0 r) A_0 n_0 c_0 x_1 x_8 (⟨bk_9, 0, none⟩ : Addr) x_10 x_11 x_12 h
  | .j0 a_0 x_1 x_8 y_9 x_10 x_11, r => ∀ (W : Nat → Prop) (h0 m0 h m : Heap) (A_0 : Option Addr) (n_0 c_0 : Nat) (bk_9 : Nat) (cs_9 : List Value) (O : Hold W h0 m0 h m [rR (aE T_part_Step.T) A_0 c_0 a_0, rV bk_9 223 cs_9]) (ne_0 : n_0 = List.length a_0) (e_9 : (eInt .u64) m y_9 cs_9), f167.j0 (slices_breakPatternsCmpFunc_167.post W A_0 n_0 c_0 h0 m0 r) A_0 n_0 c_0 x_1 x_8 (⟨bk_9, 0, none⟩ : Addr) x_10 x_11 h
set_option maxRecDepth 100000 in
theorem slices_breakPatternsCmpFunc_167.l0_k.step_l0 (go : (p : slices_breakPatternsCmpFunc_167.l0_k.Pt) → Option ((List T_part_Step))) (ih : ∀ p r, go p = some r → slices_breakPatternsCmpFunc_167.l0_k.I p r) (a_0 : List T_part_Step) (x_1 : Int) (x_8 : Int) (y_9 : Int) (x_10 : Int) (x_11 : Int) (r : (List T_part_Step)) (e : slices_breakPatternsCmpFunc_167.l0_k.body go (.l0 a_0 x_1 x_8 y_9 x_10 x_11) = some r) : slices_breakPatternsCmpFunc_167.l0_k.I (.l0 a_0 x_1 x_8 y_9 x_10 x_11) r := by
  unfold slices_breakPatternsCmpFunc_167.l0_k.body at e
  intro W h0 m0 h m A_0 n_0 c_0 bk_9 cs_9 O ne_0 e_9
  subst ne_0
  obtain rfl : cs_9 = [(Value.int .u64 y_9)] := e_9
  refine f167.l0_in ?_
  unfold f167.l0T
  refine ⟨by decide, ?_⟩
  refine split_dec_e e (fun c16 e => ?_) (fun c16 e => ?_)
  · obtain ⟨y1, g2, e⟩ := bind_e e
    obtain ⟨W7, P8, B9, C10⟩ := O.callC [1]
    refine (slices_xorshift_Next.walk P8 rfl g2).mono ?_
    rintro _ h3 ⟨m4, cs12, Q5, rfl, he13⟩
    have O14 := Hold.nm (C10 Q5 (vfs_cons rV_vf vfs_nil))
    obtain rfl : cs12 = [(Value.int .u64 y1.2)] := he13
    refine ⟨_, rfl, ?_⟩
    refine split_dec_e e (fun c15 e => ?_) (fun c15 e => ?_)
    · exact (ih _ _ e) _ _ _ _ _ _ _ _ _ _ (O14.pick [0, 2]).nm rfl rfl
    · exact (ih _ _ e) _ _ _ _ _ _ _ _ _ _ (O14.pick [0, 2]).nm rfl rfl
  · cases e
    exact ⟨_, O.pick [0], rfl, rfl⟩
set_option maxRecDepth 100000 in
theorem slices_breakPatternsCmpFunc_167.l0_k.step_j1 (go : (p : slices_breakPatternsCmpFunc_167.l0_k.Pt) → Option ((List T_part_Step))) (ih : ∀ p r, go p = some r → slices_breakPatternsCmpFunc_167.l0_k.I p r) (a_0 : List T_part_Step) (x_1 : Int) (x_8 : Int) (y_9 : Int) (x_10 : Int) (x_11 : Int) (x_12 : Int) (r : (List T_part_Step)) (e : slices_breakPatternsCmpFunc_167.l0_k.body go (.j1 a_0 x_1 x_8 y_9 x_10 x_11 x_12) = some r) : slices_breakPatternsCmpFunc_167.l0_k.I (.j1 a_0 x_1 x_8 y_9 x_10 x_11 x_12) r := by
  unfold slices_breakPatternsCmpFunc_167.l0_k.body at e
  intro W h0 m0 h m A_0 n_0 c_0 bk_9 cs_9 O ne_0 e_9
  subst ne_0
  obtain rfl : cs_9 = [(Value.int .u64 y_9)] := e_9
  refine f167.j1_in ?_
  unfold f167.j1T
  obtain ⟨y1, g2, e⟩ := bind_e e
  refine (O.os 0 rfl).addr rfl g2 fun a3 cs4 ha5 hc6 he7 => ?_
  obtain ⟨y8, g9, e⟩ := bind_e e
  refine (O.os 0 rfl).addr rfl g9 fun a10 cs11 ha12 hc13 he14 => ?_
  refine ⟨_, ldAn (Sub.refl _) hc6 rfl, ?_⟩
  refine ⟨_, ldAn (Sub.refl _) hc13 rfl, ?_⟩
  obtain ⟨y15, g16, e⟩ := bind_e e
  refine (O.os 0 rfl).addr rfl g16 fun a17 cs18 ha19 hc20 he21 => ?_
  obtain ⟨l24, g25, e⟩ := bind_e e
  replace g25 := Option.some.inj g25
  refine ⟨_, rfl, (T_part_Step.T.len _ _ _ he7), ?_⟩
  refine O.elstA 0 rfl g16 ha19 hc20 (y' := y1) he7 (T_part_Step.T.flat _ _ _ he7) g25 fun h22 O23 => ?_
  obtain ⟨y26, g27, e⟩ := bind_e e
  refine (O23.os 0 rfl).addr (lset' g25) g27 fun a28 cs29 ha30 hc31 he32 => ?_
  obtain ⟨l35, g36, e⟩ := bind_e e
  replace g36 := Option.some.inj g36
  refine ⟨_, rfl, (T_part_Step.T.len _ _ _ he14), ?_⟩
  refine O23.elstA 0 rfl g27 ha30 hc31 (y' := y8) he14 (T_part_Step.T.flat _ _ _ he14) g36 fun h33 O34 => ?_
  have O37 := O34.nm
  exact (ih _ _ e) _ _ _ _ _ _ _ _ _ _ (O37.pick [0, 1]).nm ((lset' g25).trans (lset' g36)) rfl
set_option maxRecDepth 100000 in
theorem slices_breakPatternsCmpFunc_167.l0_k.step_j0 (go : (p : slices_breakPatternsCmpFunc_167.l0_k.Pt) → Option ((List T_part_Step))) (ih : ∀ p r, go p = some r → slices_breakPatternsCmpFunc_167.l0_k.I p r) (a_0 : List T_part_Step) (x_1 : Int) (x_8 : Int) (y_9 : Int) (x_10 : Int) (x_11 : Int) (r : (List T_part_Step)) (e : slices_breakPatternsCmpFunc_167.l0_k.body go (.j0 a_0 x_1 x_8 y_9 x_10 x_11) = some r) : slices_breakPatternsCmpFunc_167.l0_k.I (.j0 a_0 x_1 x_8 y_9 x_10 x_11) r := by
  unfold slices_breakPatternsCmpFunc_167.l0_k.body at e
  intro W h0 m0 h m A_0 n_0 c_0 bk_9 cs_9 O ne_0 e_9
  subst ne_0
  obtain rfl : cs_9 = [(Value.int .u64 y_9)] := e_9
  refine f167.j0_in ?_
  unfold f167.j0T
  exact (ih _ _ e) _ _ _ _ _ _ _ _ _ _ (O.pick [0, 1]).nm rfl rfl
theorem slices_breakPatternsCmpFunc_167.l0_k.all {p : slices_breakPatternsCmpFunc_167.l0_k.Pt} {r : ((List T_part_Step))} (e : slices_breakPatternsCmpFunc_167.l0_k.go p = some r) : slices_breakPatternsCmpFunc_167.l0_k.I p r := fixF_ind (β := fun _ => ((List T_part_Step))) slices_breakPatternsCmpFunc_167.l0_k.mono (I := slices_breakPatternsCmpFunc_167.l0_k.I) (fun go ih p r e => match p with
  | .l0 a_0 x_1 x_8 y_9 x_10 x_11 => slices_breakPatternsCmpFunc_167.l0_k.step_l0 go ih a_0 x_1 x_8 y_9 x_10 x_11 r e
  | .j1 a_0 x_1 x_8 y_9 x_10 x_11 x_12 => slices_breakPatternsCmpFunc_167.l0_k.step_j1 go ih a_0 x_1 x_8 y_9 x_10 x_11 x_12 r e
  | .j0 a_0 x_1 x_8 y_9 x_10 x_11 => slices_breakPatternsCmpFunc_167.l0_k.step_j0 go ih a_0 x_1 x_8 y_9 x_10 x_11 r e
  ) e
theorem slices_breakPatternsCmpFunc_167.l0.walk {W : Nat → Prop} {h0 m0 h m : Heap} {A_0 : Option Addr} {n_0 c_0 : Nat} {bk_9 : Nat} {cs_9 : List Value} {a_0 : List T_part_Step} {x_1 : Int} {x_8 : Int} {y_9 : Int} {x_10 : Int} {x_11 : Int} (O : Hold W h0 m0 h m [rR (aE T_part_Step.T) A_0 c_0 a_0, rV bk_9 223 cs_9]) (ne_0 : n_0 = List.length a_0) (e_9 : (eInt .u64) m y_9 cs_9) {r : (List T_part_Step)} (e : slices_breakPatternsCmpFunc_167.l0 a_0 x_1 x_8 y_9 x_10 x_11 = some r) : f167.l0 (slices_breakPatternsCmpFunc_167.post W A_0 n_0 c_0 h0 m0 r) A_0 n_0 c_0 x_1 x_8 (⟨bk_9, 0, none⟩ : Addr) x_10 x_11 h := slices_breakPatternsCmpFunc_167.l0_k.all (p := .l0 a_0 x_1 x_8 y_9 x_10 x_11) e W h0 m0 h m A_0 n_0 c_0 bk_9 cs_9 O ne_0 e_9
noncomputable def slices_breakPatternsCmpFunc_167 (a_0 : List T_part_Step) (x_1 : Int) (x_2 : Int) (p_3 : T_part_Step → T_part_Step → Option Int) : Option ((List T_part_Step)) :=
  if (IntKind.wrap .i64 (x_2 - x_1)) ≥ (8 : Int) then (Option.bind (slices_nextPowerOfTwo (IntKind.wrap .i64 (x_2 - x_1))) fun y7 => (slices_breakPatternsCmpFunc_167.l0 a_0 x_1 (IntKind.wrap .i64 (x_2 - x_1)) (IntKind.wrap .u64 (IntKind.wrap .i64 (x_2 - x_1))) y7 (IntKind.wrap .i64 ((IntKind.wrap .i64 (x_1 + (IntKind.wrap .i64 ((IntKind.wrap .i64 (Int.tdiv (IntKind.wrap .i64 (x_2 - x_1)) (4 : Int))) * (2 : Int))))) - (1 : Int))))) else (some (a_0))
set_option maxRecDepth 100000 in
theorem slices_breakPatternsCmpFunc_167.walk {W : Nat → Prop} {h m : Heap} {A_0 : Option Addr} {n_0 c_0 : Nat} {fv_3 : Value} {a_0 : List T_part_Step} {x_1 : Int} {x_2 : Int} {p_3 : T_part_Step → T_part_Step → Option Int} (O : Hold W h m h m [rR (aE T_part_Step.T) A_0 c_0 a_0]) (ne_0 : n_0 = List.length a_0) (f_3 : ∀ h' m', Sub m m' → Sub m' h' → ∀ (y0 : T_part_Step) (cs0 : List Value) (_ : T_part_Step.E m' y0 cs0) (y1 : T_part_Step) (cs1 : List Value) (_ : T_part_Step.E m' y1 cs1) (r : Int), p_3 y0 y1 = some r → CallF Try.prog fv_3 [.agg cs0.toArray, .agg cs1.toArray] h' (fun v h'' => v = .int .i64 r ∧ Ext h' h'')) {r : (List T_part_Step)} (e : slices_breakPatternsCmpFunc_167 a_0 x_1 x_2 p_3 = some r) : Run Try.prog 167 #[Value.slice A_0 n_0 c_0, Value.int .i64 x_1, Value.int .i64 x_2, fv_3] h (slices_breakPatternsCmpFunc_167.post W A_0 n_0 c_0 h m r) := by
  unfold slices_breakPatternsCmpFunc_167 at e
  subst ne_0
  refine f167.run ?_
  unfold f167.runT
  refine split_dec_e e (fun c14 e => ?_) (fun c14 e => ?_)
  · refine O.new fun h1 x2 O3 => ?_
    refine O3.st0 1 rfl (Nat.le_of_ble_eq_true rfl) trivial fun h5 O6 => ?_
    obtain ⟨y7, g8, e⟩ := bind_e e
    refine (slices_nextPowerOfTwo.walk (Hold.start (W := No) O6.s)  g8).mono ?_
    rintro _ h9 ⟨m10, Q11, rfl⟩
    have O13 := Hold.nm (O6.retC Q11 vfs_nil)
    refine ⟨_, rfl, ?_⟩
    refine ⟨by decide, ?_⟩
    exact slices_breakPatternsCmpFunc_167.l0.walk (O13.pick [0, 1]).nm rfl rfl e
  · cases e
    exact ⟨_, O.pick [0], rfl, rfl⟩
def slices_order2CmpFunc_199.post (W : Nat → Prop) (bkio3 : Nat) (h0 m0 : Heap) (r : Int × Int × Int) (v : Value) (h : Heap) : Prop := ∃ m csio3, Hold W h0 m0 h m [rV bkio3 3 csio3] ∧ v = .tuple #[.int .i64 r.1, .int .i64 r.2.1] ∧ (eInt .i64) m r.2.2 csio3
noncomputable def slices_order2CmpFunc_199 (a_0 : List T_part_Step) (x_1 : Int) (x_2 : Int) (y_3 : Int) (p_4 : T_part_Step → T_part_Step → Option Int) : Option (Int × Int × Int) :=
  Option.bind (gi a_0 x_2) fun y1 => Option.bind (gi a_0 x_1) fun y8 => Option.bind (p_4 y1 y8) fun y15 => if y15 < (0 : Int) then (some (x_2, x_1, (IntKind.wrap .i64 (y_3 + (1 : Int))))) else (some (x_1, x_2, y_3))
set_option maxRecDepth 100000 in
theorem slices_order2CmpFunc_199.walk {W : Nat → Prop} {h m : Heap} {A_0 : Option Addr} {n_0 c_0 : Nat} {bkio3 : Nat} {cs_3 : List Value} {fv_4 : Value} {a_0 : List T_part_Step} {x_1 : Int} {x_2 : Int} {y_3 : Int} {p_4 : T_part_Step → T_part_Step → Option Int} (O : Hold W h m h m [rV bkio3 3 cs_3]) (ne_0 : n_0 = List.length a_0) (k_0 : List.length a_0 ≤ c_0) (r_0 : Rd 3 T_part_Step.E m A_0 a_0) (e_3 : (eInt .i64) m y_3 cs_3) (f_4 : ∀ h' m', Sub m m' → Sub m' h' → ∀ (y0 : T_part_Step) (cs0 : List Value) (_ : T_part_Step.E m' y0 cs0) (y1 : T_part_Step) (cs1 : List Value) (_ : T_part_Step.E m' y1 cs1) (r : Int), p_4 y0 y1 = some r → CallF Try.prog fv_4 [.agg cs0.toArray, .agg cs1.toArray] h' (fun v h'' => v = .int .i64 r ∧ Ext h' h'')) {r : Int × Int × Int} (e : slices_order2CmpFunc_199 a_0 x_1 x_2 y_3 p_4 = some r) : Run Try.prog 199 #[Value.slice A_0 n_0 c_0, Value.int .i64 x_1, Value.int .i64 x_2, Value.pointer (some ⟨bkio3, 0, none⟩), fv_4] h (slices_order2CmpFunc_199.post W bkio3 h m r) := by
  unfold slices_order2CmpFunc_199 at e
  subst ne_0
  obtain rfl : cs_3 = [(Value.int .i64 y_3)] := e_3
  refine f199.run ?_
  unfold f199.runT
  obtain ⟨y1, g2, e⟩ := bind_e e
  refine r_0.addr rfl g2 fun a3 cs4 ha5 hc6 he7 => ?_
  obtain ⟨y8, g9, e⟩ := bind_e e
  refine r_0.addr rfl g9 fun a10 cs11 ha12 hc13 he14 => ?_
  refine ⟨_, ldAn O.s hc6 rfl, ?_⟩
  refine ⟨_, ldAn O.s hc13 rfl, ?_⟩
  obtain ⟨y15, g16, e⟩ := bind_e e
  refine CallF.mono (f_4 _ _ (Sub.refl _) O.s _ _ he7 _ _ he14 _ g16) ?_
  rintro _ h17 ⟨rfl, x18⟩
  have O19 := O.ext x18
  refine ⟨_, rfl, ?_⟩
  refine split_dec_e e (fun c23 e => ?_) (fun c23 e => ?_)
  · refine ⟨_, ld0 (Sub.refl _) (O19.all 0 rfl) rfl, _, rfl, ?_⟩
    refine O19.st0 0 rfl (Nat.le_of_ble_eq_true rfl) trivial fun h20 O21 => ?_
    have O22 := O21.nm
    cases e
    exact ⟨_, _, O22.pick [0], rfl, rfl⟩
  · cases e
    exact ⟨_, _, O19.pick [0], rfl, rfl⟩
def slices_medianCmpFunc_187.post (W : Nat → Prop) (bkio4 : Nat) (h0 m0 : Heap) (r : Int × Int) (v : Value) (h : Heap) : Prop := ∃ m csio4, Hold W h0 m0 h m [rV bkio4 3 csio4] ∧ v = .int .i64 r.1 ∧ (eInt .i64) m r.2 csio4
noncomputable def slices_medianCmpFunc_187 (a_0 : List T_part_Step) (x_1 : Int) (x_2 : Int) (x_3 : Int) (y_4 : Int) (p_5 : T_part_Step → T_part_Step → Option Int) : Option (Int × Int) :=
  Option.bind (slices_order2CmpFunc_199 a_0 x_1 x_2 y_4 p_5) fun y1 => Option.bind (slices_order2CmpFunc_199 a_0 y1.2.1 x_3 y1.2.2 p_5) fun y15 => Option.bind (slices_order2CmpFunc_199 a_0 y1.1 y15.1 y15.2.2 p_5) fun y29 => some (y29.2.1, y29.2.2)
set_option maxRecDepth 100000 in
theorem slices_medianCmpFunc_187.walk {W : Nat → Prop} {h m : Heap} {A_0 : Option Addr} {n_0 c_0 : Nat} {bkio4 : Nat} {cs_4 : List Value} {fv_5 : Value} {a_0 : List T_part_Step} {x_1 : Int} {x_2 : Int} {x_3 : Int} {y_4 : Int} {p_5 : T_part_Step → T_part_Step → Option Int} (O : Hold W h m h m [rV bkio4 3 cs_4]) (ne_0 : n_0 = List.length a_0) (k_0 : List.length a_0 ≤ c_0) (r_0 : Rd 3 T_part_Step.E m A_0 a_0) (e_4 : (eInt .i64) m y_4 cs_4) (f_5 : ∀ h' m', Sub m m' → Sub m' h' → ∀ (y0 : T_part_Step) (cs0 : List Value) (_ : T_part_Step.E m' y0 cs0) (y1 : T_part_Step) (cs1 : List Value) (_ : T_part_Step.E m' y1 cs1) (r : Int), p_5 y0 y1 = some r → CallF Try.prog fv_5 [.agg cs0.toArray, .agg cs1.toArray] h' (fun v h'' => v = .int .i64 r ∧ Ext h' h'')) {r : Int × Int} (e : slices_medianCmpFunc_187 a_0 x_1 x_2 x_3 y_4 p_5 = some r) : Run Try.prog 187 #[Value.slice A_0 n_0 c_0, Value.int .i64 x_1, Value.int .i64 x_2, Value.int .i64 x_3, Value.pointer (some ⟨bkio4, 0, none⟩), fv_5] h (slices_medianCmpFunc_187.post W bkio4 h m r) := by
  unfold slices_medianCmpFunc_187 at e
  subst ne_0
  obtain rfl : cs_4 = [(Value.int .i64 y_4)] := e_4
  refine f187.run ?_
  unfold f187.runT
  obtain ⟨y1, g2, e⟩ := bind_e e
  obtain ⟨W7, P8, B9, C10⟩ := O.callC [0]
  refine (slices_order2CmpFunc_199.walk P8 rfl k_0 r_0 rfl f_5 g2).mono ?_
  rintro _ h3 ⟨m4, cs12, Q5, rfl, he13⟩
  have O14 := Hold.nm (C10 Q5 (vfs_cons rV_vf vfs_nil))
  obtain rfl : cs12 = [(Value.int .i64 y1.2.2)] := he13
  refine ⟨_, _, rfl, ?_⟩
  obtain ⟨y15, g16, e⟩ := bind_e e
  obtain ⟨W21, P22, B23, C24⟩ := O14.callC [1]
  refine (slices_order2CmpFunc_199.walk P22 rfl k_0 r_0 rfl f_5 g16).mono ?_
  rintro _ h17 ⟨m18, cs26, Q19, rfl, he27⟩
  have O28 := Hold.nm (C24 Q19 (vfs_cons rV_vf vfs_nil))
  obtain rfl : cs26 = [(Value.int .i64 y15.2.2)] := he27
  refine ⟨_, _, rfl, ?_⟩
  obtain ⟨y29, g30, e⟩ := bind_e e
  obtain ⟨W35, P36, B37, C38⟩ := O28.callC [2]
  refine (slices_order2CmpFunc_199.walk P36 rfl k_0 r_0 rfl f_5 g30).mono ?_
  rintro _ h31 ⟨m32, cs40, Q33, rfl, he41⟩
  have O42 := Hold.nm (C38 Q33 (vfs_cons rV_vf vfs_nil))
  obtain rfl : cs40 = [(Value.int .i64 y29.2.2)] := he41
  refine ⟨_, _, rfl, ?_⟩
  cases e
  exact ⟨_, _, O42.pick [3], rfl, rfl⟩
def slices_medianAdjacentCmpFunc_186.post (W : Nat → Prop) (bkio2 : Nat) (h0 m0 : Heap) (r : Int × Int) (v : Value) (h : Heap) : Prop := ∃ m csio2, Hold W h0 m0 h m [rV bkio2 3 csio2] ∧ v = .int .i64 r.1 ∧ (eInt .i64) m r.2 csio2
noncomputable def slices_medianAdjacentCmpFunc_186 (a_0 : List T_part_Step) (x_1 : Int) (y_2 : Int) (p_3 : T_part_Step → T_part_Step → Option Int) : Option (Int × Int) :=
  Option.bind (slices_medianCmpFunc_187 a_0 (IntKind.wrap .i64 (x_1 - (1 : Int))) x_1 (IntKind.wrap .i64 (x_1 + (1 : Int))) y_2 p_3) fun y1 => some (y1.1, y1.2)
set_option maxRecDepth 100000 in
theorem slices_medianAdjacentCmpFunc_186.walk {W : Nat → Prop} {h m : Heap} {A_0 : Option Addr} {n_0 c_0 : Nat} {bkio2 : Nat} {cs_2 : List Value} {fv_3 : Value} {a_0 : List T_part_Step} {x_1 : Int} {y_2 : Int} {p_3 : T_part_Step → T_part_Step → Option Int} (O : Hold W h m h m [rV bkio2 3 cs_2]) (ne_0 : n_0 = List.length a_0) (k_0 : List.length a_0 ≤ c_0) (r_0 : Rd 3 T_part_Step.E m A_0 a_0) (e_2 : (eInt .i64) m y_2 cs_2) (f_3 : ∀ h' m', Sub m m' → Sub m' h' → ∀ (y0 : T_part_Step) (cs0 : List Value) (_ : T_part_Step.E m' y0 cs0) (y1 : T_part_Step) (cs1 : List Value) (_ : T_part_Step.E m' y1 cs1) (r : Int), p_3 y0 y1 = some r → CallF Try.prog fv_3 [.agg cs0.toArray, .agg cs1.toArray] h' (fun v h'' => v = .int .i64 r ∧ Ext h' h'')) {r : Int × Int} (e : slices_medianAdjacentCmpFunc_186 a_0 x_1 y_2 p_3 = some r) : Run Try.prog 186 #[Value.slice A_0 n_0 c_0, Value.int .i64 x_1, Value.pointer (some ⟨bkio2, 0, none⟩), fv_3] h (slices_medianAdjacentCmpFunc_186.post W bkio2 h m r) := by
  unfold slices_medianAdjacentCmpFunc_186 at e
  subst ne_0
  obtain rfl : cs_2 = [(Value.int .i64 y_2)] := e_2
  refine f186.run ?_
  unfold f186.runT
  obtain ⟨y1, g2, e⟩ := bind_e e
  obtain ⟨W7, P8, B9, C10⟩ := O.callC [0]
  refine (slices_medianCmpFunc_187.walk P8 rfl k_0 r_0 rfl f_3 g2).mono ?_
  rintro _ h3 ⟨m4, cs12, Q5, rfl, he13⟩
  have O14 := Hold.nm (C10 Q5 (vfs_cons rV_vf vfs_nil))
  obtain rfl : cs12 = [(Value.int .i64 y1.2)] := he13
  refine ⟨_, rfl, ?_⟩
  cases e
  exact ⟨_, _, O14.pick [1], rfl, rfl⟩
def slices_choosePivotCmpFunc_168.post (W : Nat → Prop) (h0 m0 : Heap) (r : Int × Int) (v : Value) (h : Heap) : Prop := ∃ m , Hold W h0 m0 h m [] ∧ v = .tuple #[.int .i64 r.1, .int .i64 r.2]
noncomputable def slices_choosePivotCmpFunc_168.j0 (y_11 : Int) (x_13 : Int) : Option (Int × Int) :=
  if y_11 = (0 : Int) then (some (x_13, (1 : Int))) else (if y_11 = (12 : Int) then (some (x_13, (2 : Int))) else (some (x_13, (0 : Int))))
set_option maxRecDepth 100000 in
theorem slices_choosePivotCmpFunc_168.j0.walk {W : Nat → Prop} {h0 m0 h m : Heap} {bk_11 : Nat} {cs_11 : List Value} {y_11 : Int} {x_13 : Int} (O : Hold W h0 m0 h m [rV bk_11 3 cs_11]) (e_11 : (eInt .i64) m y_11 cs_11) {r : Int × Int} (e : slices_choosePivotCmpFunc_168.j0 y_11 x_13 = some r) : f168.j0 (slices_choosePivotCmpFunc_168.post W h0 m0 r) (⟨bk_11, 0, none⟩ : Addr) x_13 h := by
  unfold slices_choosePivotCmpFunc_168.j0 at e
  obtain rfl : cs_11 = [(Value.int .i64 y_11)] := e_11
  refine f168.j0_in ?_
  unfold f168.j0T
  refine ⟨_, ld0 (Sub.refl _) (O.all 0 rfl) rfl, _, rfl, ?_⟩
  refine split_eq_e e (fun c2 e => ?_) (fun c2 e => ?_)
  · cases e
    exact ⟨_, O.pick [], rfl⟩
  · refine split_eq_e e (fun c1 e => ?_) (fun c1 e => ?_)
    · cases e
      exact ⟨_, O.pick [], rfl⟩
    · cases e
      exact ⟨_, O.pick [], rfl⟩
noncomputable def slices_choosePivotCmpFunc_168.j1 (a_0 : List T_part_Step) (p_3 : T_part_Step → T_part_Step → Option Int) (y_11 : Int) (x_12 : Int) (x_13 : Int) (x_14 : Int) : Option (Int × Int) :=
  Option.bind (slices_medianCmpFunc_187 a_0 x_12 x_13 x_14 y_11 p_3) fun y1 => (slices_choosePivotCmpFunc_168.j0 y1.2 y1.1)
set_option maxRecDepth 100000 in
theorem slices_choosePivotCmpFunc_168.j1.walk {W : Nat → Prop} {h0 m0 h m : Heap} {A_0 : Option Addr} {n_0 c_0 : Nat} {fv_3 : Value} {bk_11 : Nat} {cs_11 : List Value} {a_0 : List T_part_Step} {p_3 : T_part_Step → T_part_Step → Option Int} {y_11 : Int} {x_12 : Int} {x_13 : Int} {x_14 : Int} (O : Hold W h0 m0 h m [rV bk_11 3 cs_11]) (ne_0 : n_0 = List.length a_0) (k_0 : List.length a_0 ≤ c_0) (r_0 : Rd 3 T_part_Step.E m A_0 a_0) (f_3 : ∀ h' m', Sub m0 m' → Sub m' h' → ∀ (y0 : T_part_Step) (cs0 : List Value) (_ : T_part_Step.E m' y0 cs0) (y1 : T_part_Step) (cs1 : List Value) (_ : T_part_Step.E m' y1 cs1) (r : Int), p_3 y0 y1 = some r → CallF Try.prog fv_3 [.agg cs0.toArray, .agg cs1.toArray] h' (fun v h'' => v = .int .i64 r ∧ Ext h' h'')) (e_11 : (eInt .i64) m y_11 cs_11) {r : Int × Int} (e : slices_choosePivotCmpFunc_168.j1 a_0 p_3 y_11 x_12 x_13 x_14 = some r) : f168.j1 (slices_choosePivotCmpFunc_168.post W h0 m0 r) A_0 n_0 c_0 fv_3 (⟨bk_11, 0, none⟩ : Addr) x_12 x_13 x_14 h := by
  unfold slices_choosePivotCmpFunc_168.j1 at e
  subst ne_0
  obtain rfl : cs_11 = [(Value.int .i64 y_11)] := e_11
  refine f168.j1_in ?_
  unfold f168.j1T
  obtain ⟨y1, g2, e⟩ := bind_e e
  obtain ⟨W7, P8, B9, C10⟩ := O.callC [0]
  refine (slices_medianCmpFunc_187.walk P8 rfl k_0 r_0 rfl (fun h' m' u s => f_3 h' m' (O.up.trans u) s) g2).mono ?_
  rintro _ h3 ⟨m4, cs12, Q5, rfl, he13⟩
  have O14 := Hold.nm (C10 Q5 (vfs_cons rV_vf vfs_nil))
  obtain rfl : cs12 = [(Value.int .i64 y1.2)] := he13
  refine ⟨_, rfl, ?_⟩
  exact slices_choosePivotCmpFunc_168.j0.walk (O14.pick [1]).nm rfl e
noncomputable def slices_choosePivotCmpFunc_168 (a_0 : List T_part_Step) (x_1 : Int) (x_2 : Int) (p_3 : T_part_Step → T_part_Step → Option Int) : Option (Int × Int) :=
  if (IntKind.wrap .i64 (x_2 - x_1)) ≥ (8 : Int) then (if (IntKind.wrap .i64 (x_2 - x_1)) ≥ (50 : Int) then (Option.bind (slices_medianAdjacentCmpFunc_186 a_0 (IntKind.wrap .i64 (x_1 + (IntKind.wrap .i64 ((IntKind.wrap .i64 (Int.tdiv (IntKind.wrap .i64 (x_2 - x_1)) (4 : Int))) * (1 : Int))))) (0 : Int) p_3) fun y5 => Option.bind (slices_medianAdjacentCmpFunc_186 a_0 (IntKind.wrap .i64 (x_1 + (IntKind.wrap .i64 ((IntKind.wrap .i64 (Int.tdiv (IntKind.wrap .i64 (x_2 - x_1)) (4 : Int))) * (2 : Int))))) y5.2 p_3) fun y20 => Option.bind (slices_medianAdjacentCmpFunc_186 a_0 (IntKind.wrap .i64 (x_1 + (IntKind.wrap .i64 ((IntKind.wrap .i64 (Int.tdiv (IntKind.wrap .i64 (x_2 - x_1)) (4 : Int))) * (3 : Int))))) y20.2 p_3) fun y34 => (slices_choosePivotCmpFunc_168.j1 a_0 p_3 y34.2 y5.1 y20.1 y34.1)) else ((slices_choosePivotCmpFunc_168.j1 a_0 p_3 (0 : Int) (IntKind.wrap .i64 (x_1 + (IntKind.wrap .i64 ((IntKind.wrap .i64 (Int.tdiv (IntKind.wrap .i64 (x_2 - x_1)) (4 : Int))) * (1 : Int))))) (IntKind.wrap .i64 (x_1 + (IntKind.wrap .i64 ((IntKind.wrap .i64 (Int.tdiv (IntKind.wrap .i64 (x_2 - x_1)) (4 : Int))) * (2 : Int))))) (IntKind.wrap .i64 (x_1 + (IntKind.wrap .i64 ((IntKind.wrap .i64 (Int.tdiv (IntKind.wrap .i64 (x_2 - x_1)) (4 : Int))) * (3 : Int)))))))) else ((slices_choosePivotCmpFunc_168.j0 (0 : Int) (IntKind.wrap .i64 (x_1 + (IntKind.wrap .i64 ((IntKind.wrap .i64 (Int.tdiv (IntKind.wrap .i64 (x_2 - x_1)) (4 : Int))) * (2 : Int)))))))
set_option maxHeartbeats 4000000 in
set_option maxRecDepth 100000 in
theorem slices_choosePivotCmpFunc_168.walk {W : Nat → Prop} {h m : Heap} {A_0 : Option Addr} {n_0 c_0 : Nat} {fv_3 : Value} {a_0 : List T_part_Step} {x_1 : Int} {x_2 : Int} {p_3 : T_part_Step → T_part_Step → Option Int} (O : Hold W h m h m []) (ne_0 : n_0 = List.length a_0) (k_0 : List.length a_0 ≤ c_0) (r_0 : Rd 3 T_part_Step.E m A_0 a_0) (f_3 : ∀ h' m', Sub m m' → Sub m' h' → ∀ (y0 : T_part_Step) (cs0 : List Value) (_ : T_part_Step.E m' y0 cs0) (y1 : T_part_Step) (cs1 : List Value) (_ : T_part_Step.E m' y1 cs1) (r : Int), p_3 y0 y1 = some r → CallF Try.prog fv_3 [.agg cs0.toArray, .agg cs1.toArray] h' (fun v h'' => v = .int .i64 r ∧ Ext h' h'')) {r : Int × Int} (e : slices_choosePivotCmpFunc_168 a_0 x_1 x_2 p_3 = some r) : Run Try.prog 168 #[Value.slice A_0 n_0 c_0, Value.int .i64 x_1, Value.int .i64 x_2, fv_3] h (slices_choosePivotCmpFunc_168.post W h m r) := by
  unfold slices_choosePivotCmpFunc_168 at e
  subst ne_0
  refine f168.run ?_
  unfold f168.runT
  refine O.new fun h1 x2 O3 => ?_
  refine ⟨by decide, ?_⟩
  refine ⟨by decide, ?_⟩
  refine ⟨by decide, ?_⟩
  refine split_dec_e e (fun c51 e => ?_) (fun c51 e => ?_)
  · refine split_dec_e e (fun c49 e => ?_) (fun c49 e => ?_)
    · obtain ⟨y5, g6, e⟩ := bind_e e
      have O11 := O3.nm
      obtain ⟨W12, P13, B14, C15⟩ := O11.callC [0]
      refine (slices_medianAdjacentCmpFunc_186.walk P13 rfl k_0 r_0 rfl f_3 g6).mono ?_
      rintro _ h7 ⟨m8, cs17, Q9, rfl, he18⟩
      have O19 := Hold.nm (C15 Q9 (vfs_cons rV_vf vfs_nil))
      obtain rfl : cs17 = [(Value.int .i64 y5.2)] := he18
      refine ⟨_, rfl, ?_⟩
      obtain ⟨y20, g21, e⟩ := bind_e e
      obtain ⟨W26, P27, B28, C29⟩ := O19.callC [1]
      refine (slices_medianAdjacentCmpFunc_186.walk P27 rfl k_0 r_0 rfl f_3 g21).mono ?_
      rintro _ h22 ⟨m23, cs31, Q24, rfl, he32⟩
      have O33 := Hold.nm (C29 Q24 (vfs_cons rV_vf vfs_nil))
      obtain rfl : cs31 = [(Value.int .i64 y20.2)] := he32
      refine ⟨_, rfl, ?_⟩
      obtain ⟨y34, g35, e⟩ := bind_e e
      obtain ⟨W40, P41, B42, C43⟩ := O33.callC [2]
      refine (slices_medianAdjacentCmpFunc_186.walk P41 rfl k_0 r_0 rfl f_3 g35).mono ?_
      rintro _ h36 ⟨m37, cs45, Q38, rfl, he46⟩
      have O47 := Hold.nm (C43 Q38 (vfs_cons rV_vf vfs_nil))
      obtain rfl : cs45 = [(Value.int .i64 y34.2)] := he46
      refine ⟨_, rfl, ?_⟩
      exact slices_choosePivotCmpFunc_168.j1.walk (O47.pick [3]).nm rfl k_0 r_0 f_3 rfl e
    · have O48 := O3.nm
      exact slices_choosePivotCmpFunc_168.j1.walk (O48.pick [0]).nm rfl k_0 r_0 f_3 rfl e
  · have O50 := O3.nm
    exact slices_choosePivotCmpFunc_168.j0.walk (O50.pick [0]).nm rfl e
def slices_reverseRangeCmpFunc_169.post (W : Nat → Prop) (Asl0 : Option Addr) (nsl0 csl0 : Nat) (h0 m0 : Heap) (r : (List T_part_Step)) (v : Value) (h : Heap) : Prop := ∃ m , Hold W h0 m0 h m [rR (aE T_part_Step.T) Asl0 csl0 r] ∧ v = .tuple #[] ∧ nsl0 = List.length r
inductive slices_reverseRangeCmpFunc_169.l0_k.Pt where
  | l0 (a_0 : List T_part_Step) (x_8 : Int) (x_9 : Int)
noncomputable def slices_reverseRangeCmpFunc_169.l0_k.body (go : (p : slices_reverseRangeCmpFunc_169.l0_k.Pt) → Option ((List T_part_Step))) : (p : slices_reverseRangeCmpFunc_169.l0_k.Pt) → Option ((List T_part_Step))
  | .l0 a_0 x_8 x_9 => if x_8 < x_9 then (Option.bind (gi a_0 x_9) fun y1 => Option.bind (gi a_0 x_8) fun y8 => Option.bind (gi a_0 x_8) fun y15 => Option.bind (some (List.set a_0 (Int.toNat x_8) y1)) fun l24 => Option.bind (gi l24 x_9) fun y26 => Option.bind (some (List.set l24 (Int.toNat x_9) y8)) fun l35 => (go (.l0 l35 (IntKind.wrap .i64 (x_8 + (1 : Int))) (IntKind.wrap .i64 (x_9 - (1 : Int)))))) else (some (a_0))
theorem slices_reverseRangeCmpFunc_169.l0_k.mono : MonoF (β := fun _ => ((List T_part_Step))) slices_reverseRangeCmpFunc_169.l0_k.body := fun f g hfg p => match p with
  | .l0 a_0 x_8 x_9 => LeO.ite (LeO.bind (LeO.refl _) fun y1 => LeO.bind (LeO.refl _) fun y8 => LeO.bind (LeO.refl _) fun y15 => LeO.bind (LeO.refl _) fun l24 => LeO.bind (LeO.refl _) fun y26 => LeO.bind (LeO.refl _) fun l35 => (hfg _)) (LeO.refl _)
noncomputable def slices_reverseRangeCmpFunc_169.l0_k.go (p : slices_reverseRangeCmpFunc_169.l0_k.Pt) : Option ((List T_part_Step)) := fixF (β := fun _ => ((List T_part_Step))) slices_reverseRangeCmpFunc_169.l0_k.body p
noncomputable def slices_reverseRangeCmpFunc_169.l0 (a_0 : List T_part_Step) (x_8 : Int) (x_9 : Int) : Option ((List T_part_Step)) := slices_reverseRangeCmpFunc_169.l0_k.go (.l0 a_0 x_8 x_9)
def slices_reverseRangeCmpFunc_169.l0_k.I : (p : slices_reverseRangeCmpFunc_169.l0_k.Pt) → ((List T_part_Step)) → Prop
  | .l0 a_0 x_8 x_9, r => ∀ (W : Nat → Prop) (h0 m0 h m : Heap) (A_0 : Option Addr) (n_0 c_0 : Nat) (O : Hold W h0 m0 h m [rR (aE T_part_Step.T) A_0 c_0 a_0]) (ne_0 : n_0 = List.length a_0), f169.l0 (slices_reverseRangeCmpFunc_169.post W A_0 n_0 c_0 h0 m0 r) A_0 n_0 c_0 x_8 x_9 h
set_option maxRecDepth 100000 in
theorem slices_reverseRangeCmpFunc_169.l0_k.step_l0 (go : (p : slices_reverseRangeCmpFunc_169.l0_k.Pt) → Option ((List T_part_Step))) (ih : ∀ p r, go p = some r → slices_reverseRangeCmpFunc_169.l0_k.I p r) (a_0 : List T_part_Step) (x_8 : Int) (x_9 : Int) (r : (List T_part_Step)) (e : slices_reverseRangeCmpFunc_169.l0_k.body go (.l0 a_0 x_8 x_9) = some r) : slices_reverseRangeCmpFunc_169.l0_k.I (.l0 a_0 x_8 x_9) r := by
  unfold slices_reverseRangeCmpFunc_169.l0_k.body at e
  intro W h0 m0 h m A_0 n_0 c_0 O ne_0
  subst ne_0
  refine f169.l0_in ?_
  unfold f169.l0T
  refine split_dec_e e (fun c38 e => ?_) (fun c38 e => ?_)
  · obtain ⟨y1, g2, e⟩ := bind_e e
    refine (O.os 0 rfl).addr rfl g2 fun a3 cs4 ha5 hc6 he7 => ?_
    obtain ⟨y8, g9, e⟩ := bind_e e
    refine (O.os 0 rfl).addr rfl g9 fun a10 cs11 ha12 hc13 he14 => ?_
    refine ⟨_, ldAn (Sub.refl _) hc6 rfl, ?_⟩
    refine ⟨_, ldAn (Sub.refl _) hc13 rfl, ?_⟩
    obtain ⟨y15, g16, e⟩ := bind_e e
    refine (O.os 0 rfl).addr rfl g16 fun a17 cs18 ha19 hc20 he21 => ?_
    obtain ⟨l24, g25, e⟩ := bind_e e
    replace g25 := Option.some.inj g25
    refine ⟨_, rfl, (T_part_Step.T.len _ _ _ he7), ?_⟩
    refine O.elstA 0 rfl g16 ha19 hc20 (y' := y1) he7 (T_part_Step.T.flat _ _ _ he7) g25 fun h22 O23 => ?_
    obtain ⟨y26, g27, e⟩ := bind_e e
    refine (O23.os 0 rfl).addr (lset' g25) g27 fun a28 cs29 ha30 hc31 he32 => ?_
    obtain ⟨l35, g36, e⟩ := bind_e e
    replace g36 := Option.some.inj g36
    refine ⟨_, rfl, (T_part_Step.T.len _ _ _ he14), ?_⟩
    refine O23.elstA 0 rfl g27 ha30 hc31 (y' := y8) he14 (T_part_Step.T.flat _ _ _ he14) g36 fun h33 O34 => ?_
    have O37 := O34.nm
    exact (ih _ _ e) _ _ _ _ _ _ _ _ (O37.pick [0]).nm ((lset' g25).trans (lset' g36))
  · cases e
    exact ⟨_, O.pick [0], rfl, rfl⟩
theorem slices_reverseRangeCmpFunc_169.l0_k.all {p : slices_reverseRangeCmpFunc_169.l0_k.Pt} {r : ((List T_part_Step))} (e : slices_reverseRangeCmpFunc_169.l0_k.go p = some r) : slices_reverseRangeCmpFunc_169.l0_k.I p r := fixF_ind (β := fun _ => ((List T_part_Step))) slices_reverseRangeCmpFunc_169.l0_k.mono (I := slices_reverseRangeCmpFunc_169.l0_k.I) (fun go ih p r e => match p with
  | .l0 a_0 x_8 x_9 => slices_reverseRangeCmpFunc_169.l0_k.step_l0 go ih a_0 x_8 x_9 r e
  ) e
theorem slices_reverseRangeCmpFunc_169.l0.walk {W : Nat → Prop} {h0 m0 h m : Heap} {A_0 : Option Addr} {n_0 c_0 : Nat} {a_0 : List T_part_Step} {x_8 : Int} {x_9 : Int} (O : Hold W h0 m0 h m [rR (aE T_part_Step.T) A_0 c_0 a_0]) (ne_0 : n_0 = List.length a_0) {r : (List T_part_Step)} (e : slices_reverseRangeCmpFunc_169.l0 a_0 x_8 x_9 = some r) : f169.l0 (slices_reverseRangeCmpFunc_169.post W A_0 n_0 c_0 h0 m0 r) A_0 n_0 c_0 x_8 x_9 h := slices_reverseRangeCmpFunc_169.l0_k.all (p := .l0 a_0 x_8 x_9) e W h0 m0 h m A_0 n_0 c_0 O ne_0
noncomputable def slices_reverseRangeCmpFunc_169 (a_0 : List T_part_Step) (x_1 : Int) (x_2 : Int) (p_3 : T_part_Step → T_part_Step → Option Int) : Option ((List T_part_Step)) :=
  (slices_reverseRangeCmpFunc_169.l0 a_0 x_1 (IntKind.wrap .i64 (x_2 - (1 : Int))))
set_option maxRecDepth 100000 in
theorem slices_reverseRangeCmpFunc_169.walk {W : Nat → Prop} {h m : Heap} {A_0 : Option Addr} {n_0 c_0 : Nat} {fv_3 : Value} {a_0 : List T_part_Step} {x_1 : Int} {x_2 : Int} {p_3 : T_part_Step → T_part_Step → Option Int} (O : Hold W h m h m [rR (aE T_part_Step.T) A_0 c_0 a_0]) (ne_0 : n_0 = List.length a_0) (f_3 : ∀ h' m', Sub m m' → Sub m' h' → ∀ (y0 : T_part_Step) (cs0 : List Value) (_ : T_part_Step.E m' y0 cs0) (y1 : T_part_Step) (cs1 : List Value) (_ : T_part_Step.E m' y1 cs1) (r : Int), p_3 y0 y1 = some r → CallF Try.prog fv_3 [.agg cs0.toArray, .agg cs1.toArray] h' (fun v h'' => v = .int .i64 r ∧ Ext h' h'')) {r : (List T_part_Step)} (e : slices_reverseRangeCmpFunc_169 a_0 x_1 x_2 p_3 = some r) : Run Try.prog 169 #[Value.slice A_0 n_0 c_0, Value.int .i64 x_1, Value.int .i64 x_2, fv_3] h (slices_reverseRangeCmpFunc_169.post W A_0 n_0 c_0 h m r) := by
  unfold slices_reverseRangeCmpFunc_169 at e
  subst ne_0
  refine f169.run ?_
  unfold f169.runT
  exact slices_reverseRangeCmpFunc_169.l0.walk (O.pick [0]).nm rfl e
def slices_partialInsertionSortCmpFunc_170.post (W : Nat → Prop) (Asl0 : Option Addr) (nsl0 csl0 : Nat) (h0 m0 : Heap) (r : Bool × (List T_part_Step)) (v : Value) (h : Heap) : Prop := ∃ m , Hold W h0 m0 h m [rR (aE T_part_Step.T) Asl0 csl0 r.2] ∧ v = .bool r.1 ∧ nsl0 = List.length r.2
inductive slices_partialInsertionSortCmpFunc_170.l0_k.Pt where
  | l0 (a_0 : List T_part_Step) (x_1 : Int) (x_2 : Int) (p_3 : T_part_Step → T_part_Step → Option Int) (x_9 : Int) (x_10 : Int)
  | l1 (a_0 : List T_part_Step) (x_1 : Int) (x_2 : Int) (p_3 : T_part_Step → T_part_Step → Option Int) (x_9 : Int) (x_10 : Int)
  | j2 (a_0 : List T_part_Step) (x_1 : Int) (x_2 : Int) (p_3 : T_part_Step → T_part_Step → Option Int) (x_9 : Int) (x_10 : Int)
  | j1 (a_0 : List T_part_Step) (x_1 : Int) (x_2 : Int) (p_3 : T_part_Step → T_part_Step → Option Int) (x_9 : Int) (x_10 : Int)
  | l2 (a_0 : List T_part_Step) (x_1 : Int) (x_2 : Int) (p_3 : T_part_Step → T_part_Step → Option Int) (x_9 : Int) (x_10 : Int) (x_11 : Int)
  | j3 (a_0 : List T_part_Step) (x_1 : Int) (x_2 : Int) (p_3 : T_part_Step → T_part_Step → Option Int) (x_9 : Int) (x_10 : Int)
  | l3 (a_0 : List T_part_Step) (x_1 : Int) (x_2 : Int) (p_3 : T_part_Step → T_part_Step → Option Int) (x_9 : Int) (x_10 : Int) (x_12 : Int)
  | j0 (a_0 : List T_part_Step) (x_1 : Int) (x_2 : Int) (p_3 : T_part_Step → T_part_Step → Option Int) (x_9 : Int) (x_10 : Int)
noncomputable def slices_partialInsertionSortCmpFunc_170.l0_k.body (go : (p : slices_partialInsertionSortCmpFunc_170.l0_k.Pt) → Option (Bool × (List T_part_Step))) : (p : slices_partialInsertionSortCmpFunc_170.l0_k.Pt) → Option (Bool × (List T_part_Step))
  | .l0 a_0 x_1 x_2 p_3 x_9 x_10 => if x_10 < (5 : Int) then ((go (.l1 a_0 x_1 x_2 p_3 x_9 x_10))) else (some (false, a_0))
  | .l1 a_0 x_1 x_2 p_3 x_9 x_10 => if x_9 < x_2 then (Option.bind (gi a_0 x_9) fun y1 => Option.bind (gi a_0 (IntKind.wrap .i64 (x_9 - (1 : Int)))) fun y8 => Option.bind (p_3 y1 y8) fun y15 => if y15 < (0 : Int) then ((go (.j1 a_0 x_1 x_2 p_3 x_9 x_10))) else ((go (.j2 a_0 x_1 x_2 p_3 x_9 x_10)))) else ((go (.j1 a_0 x_1 x_2 p_3 x_9 x_10)))
  | .j2 a_0 x_1 x_2 p_3 x_9 x_10 => (go (.l1 a_0 x_1 x_2 p_3 (IntKind.wrap .i64 (x_9 + (1 : Int))) x_10))
  | .j1 a_0 x_1 x_2 p_3 x_9 x_10 => if x_9 = x_2 then (some (true, a_0)) else (if (IntKind.wrap .i64 (x_2 - x_1)) < (50 : Int) then (some (false, a_0)) else (Option.bind (gi a_0 (IntKind.wrap .i64 (x_9 - (1 : Int)))) fun y1 => Option.bind (gi a_0 x_9) fun y8 => Option.bind (gi a_0 x_9) fun y15 => Option.bind (some (List.set a_0 (Int.toNat x_9) y1)) fun l24 => Option.bind (gi l24 (IntKind.wrap .i64 (x_9 - (1 : Int)))) fun y26 => Option.bind (some (List.set l24 (Int.toNat (IntKind.wrap .i64 (x_9 - (1 : Int)))) y8)) fun l35 => if (IntKind.wrap .i64 (x_9 - x_1)) ≥ (2 : Int) then ((go (.l2 l35 x_1 x_2 p_3 x_9 x_10 (IntKind.wrap .i64 (x_9 - (1 : Int)))))) else ((go (.j3 l35 x_1 x_2 p_3 x_9 x_10)))))
  | .l2 a_0 x_1 x_2 p_3 x_9 x_10 x_11 => if x_11 ≥ (1 : Int) then (Option.bind (gi a_0 x_11) fun y1 => Option.bind (gi a_0 (IntKind.wrap .i64 (x_11 - (1 : Int)))) fun y8 => Option.bind (p_3 y1 y8) fun y15 => if y15 < (0 : Int) then (Option.bind (gi a_0 (IntKind.wrap .i64 (x_11 - (1 : Int)))) fun y20 => Option.bind (gi a_0 x_11) fun y27 => Option.bind (gi a_0 x_11) fun y34 => Option.bind (some (List.set a_0 (Int.toNat x_11) y20)) fun l43 => Option.bind (gi l43 (IntKind.wrap .i64 (x_11 - (1 : Int)))) fun y45 => Option.bind (some (List.set l43 (Int.toNat (IntKind.wrap .i64 (x_11 - (1 : Int)))) y27)) fun l54 => (go (.l2 l54 x_1 x_2 p_3 x_9 x_10 (IntKind.wrap .i64 (x_11 - (1 : Int)))))) else ((go (.j3 a_0 x_1 x_2 p_3 x_9 x_10)))) else ((go (.j3 a_0 x_1 x_2 p_3 x_9 x_10)))
  | .j3 a_0 x_1 x_2 p_3 x_9 x_10 => if (IntKind.wrap .i64 (x_2 - x_9)) ≥ (2 : Int) then ((go (.l3 a_0 x_1 x_2 p_3 x_9 x_10 (IntKind.wrap .i64 (x_9 + (1 : Int)))))) else ((go (.j0 a_0 x_1 x_2 p_3 x_9 x_10)))
  | .l3 a_0 x_1 x_2 p_3 x_9 x_10 x_12 => if x_12 < x_2 then (Option.bind (gi a_0 x_12) fun y1 => Option.bind (gi a_0 (IntKind.wrap .i64 (x_12 - (1 : Int)))) fun y8 => Option.bind (p_3 y1 y8) fun y15 => if y15 < (0 : Int) then (Option.bind (gi a_0 (IntKind.wrap .i64 (x_12 - (1 : Int)))) fun y20 => Option.bind (gi a_0 x_12) fun y27 => Option.bind (gi a_0 x_12) fun y34 => Option.bind (some (List.set a_0 (Int.toNat x_12) y20)) fun l43 => Option.bind (gi l43 (IntKind.wrap .i64 (x_12 - (1 : Int)))) fun y45 => Option.bind (some (List.set l43 (Int.toNat (IntKind.wrap .i64 (x_12 - (1 : Int)))) y27)) fun l54 => (go (.l3 l54 x_1 x_2 p_3 x_9 x_10 (IntKind.wrap .i64 (x_12 + (1 : Int)))))) else ((go (.j0 a_0 x_1 x_2 p_3 x_9 x_10)))) else ((go (.j0 a_0 x_1 x_2 p_3 x_9 x_10)))
  | .j0 a_0 x_1 x_2 p_3 x_9 x_10 => (go (.l0 a_0 x_1 x_2 p_3 x_9 (IntKind.wrap .i64 (x_10 + (1 : Int)))))
theorem slices_partialInsertionSortCmpFunc_170.l0_k.mono : MonoF (β := fun _ => (Bool × (List T_part_Step))) slices_partialInsertionSortCmpFunc_170.l0_k.body := fun f g hfg p => match p with
  | .l0 a_0 x_1 x_2 p_3 x_9 x_10 => LeO.ite ((hfg _)) (LeO.refl _)
  | .l1 a_0 x_1 x_2 p_3 x_9 x_10 => LeO.ite (LeO.bind (LeO.refl _) fun y1 => LeO.bind (LeO.refl _) fun y8 => LeO.bind (LeO.refl _) fun y15 => LeO.ite ((hfg _)) ((hfg _))) ((hfg _))
  | .j2 a_0 x_1 x_2 p_3 x_9 x_10 => (hfg _)
  | .j1 a_0 x_1 x_2 p_3 x_9 x_10 => LeO.ite (LeO.refl _) (LeO.ite (LeO.refl _) (LeO.bind (LeO.refl _) fun y1 => LeO.bind (LeO.refl _) fun y8 => LeO.bind (LeO.refl _) fun y15 => LeO.bind (LeO.refl _) fun l24 => LeO.bind (LeO.refl _) fun y26 => LeO.bind (LeO.refl _) fun l35 => LeO.ite ((hfg _)) ((hfg _))))
  | .l2 a_0 x_1 x_2 p_3 x_9 x_10 x_11 => LeO.ite (LeO.bind (LeO.refl _) fun y1 => LeO.bind (LeO.refl _) fun y8 => LeO.bind (LeO.refl _) fun y15 => LeO.ite (LeO.bind (LeO.refl _) fun y20 => LeO.bind (LeO.refl _) fun y27 => LeO.bind (LeO.refl _) fun y34 => LeO.bind (LeO.refl _) fun l43 => LeO.bind (LeO.refl _) fun y45 => LeO.bind (LeO.refl _) fun l54 => (hfg _)) ((hfg _))) ((hfg _))
  | .j3 a_0 x_1 x_2 p_3 x_9 x_10 => LeO.ite ((hfg _)) ((hfg _))
  | .l3 a_0 x_1 x_2 p_3 x_9 x_10 x_12 => LeO.ite (LeO.bind (LeO.refl _) fun y1 => LeO.bind (LeO.refl _) fun y8 => LeO.bind (LeO.refl _) fun y15 => LeO.ite (LeO.bind (LeO.refl _) fun y20 => LeO.bind (LeO.refl _) fun y27 => LeO.bind (LeO.refl _) fun y34 => LeO.bind (LeO.refl _) fun l43 => LeO.bind (LeO.refl _) fun y45 => LeO.bind (LeO.refl _) fun l54 => (hfg _)) ((hfg _))) ((hfg _))
  | .j0 a_0 x_1 x_2 p_3 x_9 x_10 => (hfg _)
noncomputable def slices_partialInsertionSortCmpFunc_170.l0_k.go (p : slices_partialInsertionSortCmpFunc_170.l0_k.Pt) : Option (Bool × (List T_part_Step)) := fixF (β := fun _ => (Bool × (List T_part_Step))) slices_partialInsertionSortCmpFunc_170.l0_k.body p
noncomputable def slices_partialInsertionSortCmpFunc_170.l0 (a_0 : List T_part_Step) (x_1 : Int) (x_2 : Int) (p_3 : T_part_Step → T_part_Step → Option Int) (x_9 : Int) (x_10 : Int) : Option (Bool × (List T_part_Step)) := slices_partialInsertionSortCmpFunc_170.l0_k.go (.l0 a_0 x_1 x_2 p_3 x_9 x_10)
def slices_partialInsertionSortCmpFunc_170.l0_k.I : (p : slices_partialInsertionSortCmpFunc_170.l0_k.Pt) → (Bool × (List T_part_Step)) → Prop
  | .l0 a_0 x_1 x_2 p_3 x_9 x_10, r => ∀ (W : Nat → Prop) (h0 m0 h m : Heap) (A_0 : Option Addr) (n_0 c_0 : Nat) (fv_3 : Value) (O : Hold W h0 m0 h m [rR (aE T_part_Step.T) A_0 c_0 a_0]) (ne_0 : n_0 = List.length a_0) (f_3 : ∀ h' m', Sub m0 m' → Sub m' h' → ∀ (y0 : T_part_Step) (cs0 : List Value) (_ : T_part_Step.E m' y0 cs0) (y1 : T_part_Step) (cs1 : List Value) (_ : T_part_Step.E m' y1 cs1) (r : Int), p_3 y0 y1 = some r → CallF Try.prog fv_3 [.agg cs0.toArray, .agg cs1.toArray] h' (fun v h'' => v = .int .i64 r ∧ Ext h' h'')), f170.l0 (slices_partialInsertionSortCmpFunc_170.post W A_0 n_0 c_0 h0 m0 r) A_0 n_0 c_0 x_1 x_2 fv_3 x_9 x_10 h
  | .l1 a_0 x_1 x_2 p_3 x_9 x_10, r => ∀ (W : Nat → Prop) (h0 m0 h m : Heap) (A_0 : Option Addr) (n_0 c_0 : Nat) (fv_3 : Value) (O : Hold W h0 m0 h m [rR (aE T_part_Step.T) A_0 c_0 a_0]) (ne_0 : n_0 = List.length a_0) (f_3 : ∀ h' m', Sub m0 m' → Sub m' h' → ∀ (y0 : T_part_Step) (cs0 : List Value) (_ : T_part_Step.E m' y0 cs0) (y1 : T_part_Step) (cs1 : List Value) (_ : T_part_Step.E m' y1 cs1) (r : Int), p_3 y0 y1 = some r → CallF Try.prog fv_3 [.agg cs0.toArray, .agg cs1.toArray] h' (fun v h'' => v = .int .i64 r ∧ Ext h' h'')), f170.l1 (slices_partialInsertionSortCmpFunc_170.post W A_0 n_0 c_0 h0 m0 r) A_0 n_0 c_0 x_1 x_2 fv_3 x_9 x_10 h
  | .j2 a_0 x_1 x_2 p_3 x_9 x_10, r => ∀ (W : Nat → Prop) (h0 m0 h m : Heap) (A_0 : Option Addr) (n_0 c_0 : Nat) (fv_3 : Value) (O : Hold W h0 m0 h m [rR (aE T_part_Step.T) A_0 c_0 a_0]) (ne_0 : n_0 = List.length a_0) (f_3 : ∀ h' m', Sub m0 m' → Sub m' h' → ∀ (y0 : T_part_Step) (cs0 : List Value) (_ : T_part_Step.E m' y0 cs0) (y1 : T_part_Step) (cs1 : List Value) (_ : T_part_Step.E m' y1 cs1) (r : Int), p_3 y0 y1 = some r → CallF Try.prog fv_3 [.agg cs0.toArray, .agg cs1.toArray] h' (fun v h'' => v = .int .i64 r ∧ Ext h' h'')), f170.j2 (slices_partialInsertionSortCmpFunc_170.post W A_0 n_0 c_0 h0 m0 r) A_0 n_0 c_0 x_1 x_2 fv_3 x_9 x_10 h
  | .j1 a_0 x_1 x_2 p_3 x_9 x_10, r => ∀ (W : Nat → Prop) (h0 m0 h m : Heap) (A_0 : Option Addr) (n_0 c_0 : Nat) (fv_3 : Value) (O : Hold W h0 m0 h m [rR (aE T_part_Step.T) A_0 c_0 a_0]) (ne_0 : n_0 = List.length a_0) (f_3 : ∀ h' m', Sub m0 m' → Sub m' h' → ∀ (y0 : T_part_Step) (cs0 : List Value) (_ : T_part_Step.E m' y0 cs0) (y1 : T_part_Step) (cs1 : List Value) (_ : T_part_Step.E m' y1 cs1) (r : Int), p_3 y0 y1 = some r → CallF Try.prog fv_3 [.agg cs0.toArray, .agg cs1.toArray] h' (fun v h'' => v = .int .i64 r ∧ Ext h' h'')), f170.j1 (slices_partialInsertionSortCmpFunc_170.post W A_0 n_0 c_0 h0 m0 r) A_0 n_0 c_0 x_1 x_2 fv_3 x_9 x_10 h
  | .l2 a_0 x_1 x_2 p_3 x_9 x_10 x_11, r => ∀ (W : Nat → Prop) (h0 m0 h m : Heap) (A_0 : Option Addr) (n_0 c_0 : Nat) (fv_3 : Value) (O : Hold W h0 m0 h m [rR (aE T_part_Step.T) A_0 c_0 a_0]) (ne_0 : n_0 = List.length a_0) (f_3 : ∀ h' m', Sub m0 m' → Sub m' h' → ∀ (y0 : T_part_Step) (cs0 : List Value) (_ : T_part_Step.E m' y0 cs0) (y1 : T_part_Step) (cs1 : List Value) (_ : T_part_Step.E m' y1 cs1) (r : Int), p_3 y0 y1 = some r → CallF Try.prog fv_3 [.agg cs0.toArray, .agg cs1.toArray] h' (fun v h'' => v = .int .i64 r ∧ Ext h' h'')), f170.l2 (slices_partialInsertionSortCmpFunc_170.post W A_0 n_0 c_0 h0 m0 r) A_0 n_0 c_0 x_1 x_2 fv_3 x_9 x_10 x_11 h
  | .j3 a_0 x_1 x_2 p_3 x_9 x_10, r => ∀ (W : Nat → Prop) (h0 m0 h m : Heap) (A_0 : Option Addr) (n_0 c_0 : Nat) (fv_3 : Value) (O : Hold W h0 m0 h m [rR (aE T_part_Step.T) A_0 c_0 a_0]) (ne_0 : n_0 = List.length a_0) (f_3 : ∀ h' m', Sub m0 m' → Sub m' h' → ∀ (y0 : T_part_Step) (cs0 : List Value) (_ : T_part_Step.E m' y0 cs0) (y1 : T_part_Step) (cs1 : List Value) (_ : T_part_Step.E m' y1 cs1) (r : Int), p_3 y0 y1 = some r → CallF Try.prog fv_3 [.agg cs0.toArray, .agg cs1.toArray] h' (fun v h'' => v = .int .i64 r ∧ Ext h' h'')), f170.j3 (slices_partialInsertionSortCmpFunc_170.post W A_0 n_0 c_0 h0 m0 r) A_0 n_0 c_0 x_1 x_2 fv_3 x_9 x_10 h
  | .l3 a_0 x_1 x_2 p_3 x_9 x_10 x_12, r => ∀ (W : Nat → Prop) (h0 m0 h m : Heap) (A_0 : Option Addr) (n_0 c_0 : Nat) (fv_3 : Value) (O : Hold W h0 m0 h m [rR (aE T_part_Step.T) A_0 c_0 a_0]) (ne_0 : n_0 = List.length a_0) (f_3 : ∀ h' m', Sub m0 m' → Sub m' h' → ∀ (y0 : T_part_Step) (cs0 : List Value) (_ : T_part_Step.E m' y0 cs0) (y1 : T_part_Step) (cs1 : List Value) (_ : T_part_Step.E m' y1 cs1) (r : Int), p_3 y0 y1 = some r → CallF Try.prog fv_3 [.agg cs0.toArray, .agg cs1.toArray] h' (fun v h'' => v = .int .i64 r ∧ Ext h' h'')), f170.l3 (slices_partialInsertionSortCmpFunc_170.post W A_0 n_0 c_0 h0 m0 r) A_0 n_0 c_0 x_1 x_2 fv_3 x_9 x_10 x_12 h
  | .j0 a_0 x_1 x_2 p_3 x_9 x_10, r => ∀ (W : Nat → Prop) (h0 m0 h m : Heap) (A_0 : Option Addr) (n_0 c_0 : Nat) (fv_3 : Value) (O : Hold W h0 m0 h m [rR (aE T_part_Step.T) A_0 c_0 a_0]) (ne_0 : n_0 = List.length a_0) (f_3 : ∀ h' m', Sub m0 m' → Sub m' h' → ∀ (y0 : T_part_Step) (cs0 : List Value) (_ : T_part_Step.E m' y0 cs0) (y1 : T_part_Step) (cs1 : List Value) (_ : T_part_Step.E m' y1 cs1) (r : Int), p_3 y0 y1 = some r → CallF Try.prog fv_3 [.agg cs0.toArray, .agg cs1.toArray] h' (fun v h'' => v = .int .i64 r ∧ Ext h' h'')), f170.j0 (slices_partialInsertionSortCmpFunc_170.post W A_0 n_0 c_0 h0 m0 r) A_0 n_0 c_0 x_1 x_2 fv_3 x_9 x_10 h
set_option maxRecDepth 100000 in
theorem slices_partialInsertionSortCmpFunc_170.l0_k.step_l0 (go : (p : slices_partialInsertionSortCmpFunc_170.l0_k.Pt) → Option (Bool × (List T_part_Step))) (ih : ∀ p r, go p = some r → slices_partialInsertionSortCmpFunc_170.l0_k.I p r) (a_0 : List T_part_Step) (x_1 : Int) (x_2 : Int) (p_3 : T_part_Step → T_part_Step → Option Int) (x_9 : Int) (x_10 : Int) (r : Bool × (List T_part_Step)) (e : slices_partialInsertionSortCmpFunc_170.l0_k.body go (.l0 a_0 x_1 x_2 p_3 x_9 x_10) = some r) : slices_partialInsertionSortCmpFunc_170.l0_k.I (.l0 a_0 x_1 x_2 p_3 x_9 x_10) r := by
  unfold slices_partialInsertionSortCmpFunc_170.l0_k.body at e
  intro W h0 m0 h m A_0 n_0 c_0 fv_3 O ne_0 f_3
  subst ne_0
  refine f170.l0_in ?_
  unfold f170.l0T
  refine split_dec_e e (fun c1 e => ?_) (fun c1 e => ?_)
  · exact (ih _ _ e) _ _ _ _ _ _ _ _ _ (O.pick [0]).nm rfl f_3
  · cases e
    exact ⟨_, O.pick [0], rfl, rfl⟩
set_option maxRecDepth 100000 in
theorem slices_partialInsertionSortCmpFunc_170.l0_k.step_l1 (go : (p : slices_partialInsertionSortCmpFunc_170.l0_k.Pt) → Option (Bool × (List T_part_Step))) (ih : ∀ p r, go p = some r → slices_partialInsertionSortCmpFunc_170.l0_k.I p r) (a_0 : List T_part_Step) (x_1 : Int) (x_2 : Int) (p_3 : T_part_Step → T_part_Step → Option Int) (x_9 : Int) (x_10 : Int) (r : Bool × (List T_part_Step)) (e : slices_partialInsertionSortCmpFunc_170.l0_k.body go (.l1 a_0 x_1 x_2 p_3 x_9 x_10) = some r) : slices_partialInsertionSortCmpFunc_170.l0_k.I (.l1 a_0 x_1 x_2 p_3 x_9 x_10) r := by
  unfold slices_partialInsertionSortCmpFunc_170.l0_k.body at e
  intro W h0 m0 h m A_0 n_0 c_0 fv_3 O ne_0 f_3
  subst ne_0
  refine f170.l1_in ?_
  unfold f170.l1T
  refine split_dec_e e (fun c21 e => ?_) (fun c21 e => ?_)
  · obtain ⟨y1, g2, e⟩ := bind_e e
    refine (O.os 0 rfl).addr rfl g2 fun a3 cs4 ha5 hc6 he7 => ?_
    obtain ⟨y8, g9, e⟩ := bind_e e
    refine (O.os 0 rfl).addr rfl g9 fun a10 cs11 ha12 hc13 he14 => ?_
    refine ⟨_, ldAn (Sub.refl _) hc6 rfl, ?_⟩
    refine ⟨_, ldAn (Sub.refl _) hc13 rfl, ?_⟩
    obtain ⟨y15, g16, e⟩ := bind_e e
    refine CallF.mono (f_3 _ _ O.up O.s _ _ he7 _ _ he14 _ g16) ?_
    rintro _ h17 ⟨rfl, x18⟩
    have O19 := O.ext x18
    refine ⟨_, rfl, ?_⟩
    refine split_not ?_
    refine split_dec_e e (fun c20 e => ?_) (fun c20 e => ?_)
    · exact (ih _ _ e) _ _ _ _ _ _ _ _ _ (O19.pick [0]).nm rfl f_3
    · exact (ih _ _ e) _ _ _ _ _ _ _ _ _ (O19.pick [0]).nm rfl f_3
  · exact (ih _ _ e) _ _ _ _ _ _ _ _ _ (O.pick [0]).nm rfl f_3
set_option maxRecDepth 100000 in
theorem slices_partialInsertionSortCmpFunc_170.l0_k.step_j2 (go : (p : slices_partialInsertionSortCmpFunc_170.l0_k.Pt) → Option (Bool × (List T_part_Step))) (ih : ∀ p r, go p = some r → slices_partialInsertionSortCmpFunc_170.l0_k.I p r) (a_0 : List T_part_Step) (x_1 : Int) (x_2 : Int) (p_3 : T_part_Step → T_part_Step → Option Int) (x_9 : Int) (x_10 : Int) (r : Bool × (List T_part_Step)) (e : slices_partialInsertionSortCmpFunc_170.l0_k.body go (.j2 a_0 x_1 x_2 p_3 x_9 x_10) = some r) : slices_partialInsertionSortCmpFunc_170.l0_k.I (.j2 a_0 x_1 x_2 p_3 x_9 x_10) r := by
  unfold slices_partialInsertionSortCmpFunc_170.l0_k.body at e
  intro W h0 m0 h m A_0 n_0 c_0 fv_3 O ne_0 f_3
  subst ne_0
  refine f170.j2_in ?_
  unfold f170.j2T
  exact (ih _ _ e) _ _ _ _ _ _ _ _ _ (O.pick [0]).nm rfl f_3
set_option maxRecDepth 100000 in
theorem slices_partialInsertionSortCmpFunc_170.l0_k.step_j1 (go : (p : slices_partialInsertionSortCmpFunc_170.l0_k.Pt) → Option (Bool × (List T_part_Step))) (ih : ∀ p r, go p = some r → slices_partialInsertionSortCmpFunc_170.l0_k.I p r) (a_0 : List T_part_Step) (x_1 : Int) (x_2 : Int) (p_3 : T_part_Step → T_part_Step → Option Int) (x_9 : Int) (x_10 : Int) (r : Bool × (List T_part_Step)) (e : slices_partialInsertionSortCmpFunc_170.l0_k.body go (.j1 a_0 x_1 x_2 p_3 x_9 x_10) = some r) : slices_partialInsertionSortCmpFunc_170.l0_k.I (.j1 a_0 x_1 x_2 p_3 x_9 x_10) r := by
  unfold slices_partialInsertionSortCmpFunc_170.l0_k.body at e
  intro W h0 m0 h m A_0 n_0 c_0 fv_3 O ne_0 f_3
  subst ne_0
  refine f170.j1_in ?_
  unfold f170.j1T
  refine split_eq_e e (fun c41 e => ?_) (fun c41 e => ?_)
  · cases e
    exact ⟨_, O.pick [0], rfl, rfl⟩
  · refine split_dec_e e (fun c40 e => ?_) (fun c40 e => ?_)
    · cases e
      exact ⟨_, O.pick [0], rfl, rfl⟩
    · obtain ⟨y1, g2, e⟩ := bind_e e
      refine (O.os 0 rfl).addr rfl g2 fun a3 cs4 ha5 hc6 he7 => ?_
      obtain ⟨y8, g9, e⟩ := bind_e e
      refine (O.os 0 rfl).addr rfl g9 fun a10 cs11 ha12 hc13 he14 => ?_
      refine ⟨_, ldAn (Sub.refl _) hc6 rfl, ?_⟩
      refine ⟨_, ldAn (Sub.refl _) hc13 rfl, ?_⟩
      obtain ⟨y15, g16, e⟩ := bind_e e
      refine (O.os 0 rfl).addr rfl g16 fun a17 cs18 ha19 hc20 he21 => ?_
      obtain ⟨l24, g25, e⟩ := bind_e e
      replace g25 := Option.some.inj g25
      refine ⟨_, rfl, (T_part_Step.T.len _ _ _ he7), ?_⟩
      refine O.elstA 0 rfl g16 ha19 hc20 (y' := y1) he7 (T_part_Step.T.flat _ _ _ he7) g25 fun h22 O23 => ?_
      obtain ⟨y26, g27, e⟩ := bind_e e
      refine (O23.os 0 rfl).addr (lset' g25) g27 fun a28 cs29 ha30 hc31 he32 => ?_
      obtain ⟨l35, g36, e⟩ := bind_e e
      replace g36 := Option.some.inj g36
      refine ⟨_, rfl, (T_part_Step.T.len _ _ _ he14), ?_⟩
      refine O23.elstA 0 rfl g27 ha30 hc31 (y' := y8) he14 (T_part_Step.T.flat _ _ _ he14) g36 fun h33 O34 => ?_
      refine split_dec_e e (fun c39 e => ?_) (fun c39 e => ?_)
      · have O37 := O34.nm
        exact (ih _ _ e) _ _ _ _ _ _ _ _ _ (O37.pick [0]).nm ((lset' g25).trans (lset' g36)) f_3
      · have O38 := O34.nm
        exact (ih _ _ e) _ _ _ _ _ _ _ _ _ (O38.pick [0]).nm ((lset' g25).trans (lset' g36)) f_3
set_option maxHeartbeats 4000000 in
set_option maxRecDepth 100000 in
theorem slices_partialInsertionSortCmpFunc_170.l0_k.step_l2 (go : (p : slices_partialInsertionSortCmpFunc_170.l0_k.Pt) → Option (Bool × (List T_part_Step))) (ih : ∀ p r, go p = some r → slices_partialInsertionSortCmpFunc_170.l0_k.I p r) (a_0 : List T_part_Step) (x_1 : Int) (x_2 : Int) (p_3 : T_part_Step → T_part_Step → Option Int) (x_9 : Int) (x_10 : Int) (x_11 : Int) (r : Bool × (List T_part_Step)) (e : slices_partialInsertionSortCmpFunc_170.l0_k.body go (.l2 a_0 x_1 x_2 p_3 x_9 x_10 x_11) = some r) : slices_partialInsertionSortCmpFunc_170.l0_k.I (.l2 a_0 x_1 x_2 p_3 x_9 x_10 x_11) r := by
  unfold slices_partialInsertionSortCmpFunc_170.l0_k.body at e
  intro W h0 m0 h m A_0 n_0 c_0 fv_3 O ne_0 f_3
  subst ne_0
  refine f170.l2_in ?_
  unfold f170.l2T
  refine split_dec_e e (fun c58 e => ?_) (fun c58 e => ?_)
  · obtain ⟨y1, g2, e⟩ := bind_e e
    refine (O.os 0 rfl).addr rfl g2 fun a3 cs4 ha5 hc6 he7 => ?_
    obtain ⟨y8, g9, e⟩ := bind_e e
    refine (O.os 0 rfl).addr rfl g9 fun a10 cs11 ha12 hc13 he14 => ?_
    refine ⟨_, ldAn (Sub.refl _) hc6 rfl, ?_⟩
    refine ⟨_, ldAn (Sub.refl _) hc13 rfl, ?_⟩
    obtain ⟨y15, g16, e⟩ := bind_e e
    refine CallF.mono (f_3 _ _ O.up O.s _ _ he7 _ _ he14 _ g16) ?_
    rintro _ h17 ⟨rfl, x18⟩
    have O19 := O.ext x18
    refine ⟨_, rfl, ?_⟩
    refine split_not ?_
    refine split_dec_e e (fun c57 e => ?_) (fun c57 e => ?_)
    · obtain ⟨y20, g21, e⟩ := bind_e e
      refine (O19.os 0 rfl).addr rfl g21 fun a22 cs23 ha24 hc25 he26 => ?_
      obtain ⟨y27, g28, e⟩ := bind_e e
      refine (O19.os 0 rfl).addr rfl g28 fun a29 cs30 ha31 hc32 he33 => ?_
      refine ⟨_, ldAn (Sub.refl _) hc25 rfl, ?_⟩
      refine ⟨_, ldAn (Sub.refl _) hc32 rfl, ?_⟩
      obtain ⟨y34, g35, e⟩ := bind_e e
      refine (O19.os 0 rfl).addr rfl g35 fun a36 cs37 ha38 hc39 he40 => ?_
      obtain ⟨l43, g44, e⟩ := bind_e e
      replace g44 := Option.some.inj g44
      refine ⟨_, rfl, (T_part_Step.T.len _ _ _ he26), ?_⟩
      refine O19.elstA 0 rfl g35 ha38 hc39 (y' := y20) he26 (T_part_Step.T.flat _ _ _ he26) g44 fun h41 O42 => ?_
      obtain ⟨y45, g46, e⟩ := bind_e e
      refine (O42.os 0 rfl).addr (lset' g44) g46 fun a47 cs48 ha49 hc50 he51 => ?_
      obtain ⟨l54, g55, e⟩ := bind_e e
      replace g55 := Option.some.inj g55
      refine ⟨_, rfl, (T_part_Step.T.len _ _ _ he33), ?_⟩
      refine O42.elstA 0 rfl g46 ha49 hc50 (y' := y27) he33 (T_part_Step.T.flat _ _ _ he33) g55 fun h52 O53 => ?_
      have O56 := O53.nm
      exact (ih _ _ e) _ _ _ _ _ _ _ _ _ (O56.pick [0]).nm ((lset' g44).trans (lset' g55)) f_3
    · exact (ih _ _ e) _ _ _ _ _ _ _ _ _ (O19.pick [0]).nm rfl f_3
  · exact (ih _ _ e) _ _ _ _ _ _ _ _ _ (O.pick [0]).nm rfl f_3
set_option maxRecDepth 100000 in
theorem slices_partialInsertionSortCmpFunc_170.l0_k.step_j3 (go : (p : slices_partialInsertionSortCmpFunc_170.l0_k.Pt) → Option (Bool × (List T_part_Step))) (ih : ∀ p r, go p = some r → slices_partialInsertionSortCmpFunc_170.l0_k.I p r) (a_0 : List T_part_Step) (x_1 : Int) (x_2 : Int) (p_3 : T_part_Step → T_part_Step → Option Int) (x_9 : Int) (x_10 : Int) (r : Bool × (List T_part_Step)) (e : slices_partialInsertionSortCmpFunc_170.l0_k.body go (.j3 a_0 x_1 x_2 p_3 x_9 x_10) = some r) : slices_partialInsertionSortCmpFunc_170.l0_k.I (.j3 a_0 x_1 x_2 p_3 x_9 x_10) r := by
  unfold slices_partialInsertionSortCmpFunc_170.l0_k.body at e
  intro W h0 m0 h m A_0 n_0 c_0 fv_3 O ne_0 f_3
  subst ne_0
  refine f170.j3_in ?_
  unfold f170.j3T
  refine split_dec_e e (fun c1 e => ?_) (fun c1 e => ?_)
  · exact (ih _ _ e) _ _ _ _ _ _ _ _ _ (O.pick [0]).nm rfl f_3
  · exact (ih _ _ e) _ _ _ _ _ _ _ _ _ (O.pick [0]).nm rfl f_3
set_option maxHeartbeats 4000000 in
set_option maxRecDepth 100000 in
theorem slices_partialInsertionSortCmpFunc_170.l0_k.step_l3 (go : (p : slices_partialInsertionSortCmpFunc_170.l0_k.Pt) → Option (Bool × (List T_part_Step))) (ih : ∀ p r, go p = some r → slices_partialInsertionSortCmpFunc_170.l0_k.I p r) (a_0 : List T_part_Step) (x_1 : Int) (x_2 : Int) (p_3 : T_part_Step → T_part_Step → Option Int) (x_9 : Int) (x_10 : Int) (x_12 : Int) (r : Bool × (List T_part_Step)) (e : slices_partialInsertionSortCmpFunc_170.l0_k.body go (.l3 a_0 x_1 x_2 p_3 x_9 x_10 x_12) = some r) : slices_partialInsertionSortCmpFunc_170.l0_k.I (.l3 a_0 x_1 x_2 p_3 x_9 x_10 x_12) r := by
  unfold slices_partialInsertionSortCmpFunc_170.l0_k.body at e
  intro W h0 m0 h m A_0 n_0 c_0 fv_3 O ne_0 f_3
  subst ne_0
  refine f170.l3_in ?_
  unfold f170.l3T
  refine split_dec_e e (fun c58 e => ?_) (fun c58 e => ?_)
  · obtain ⟨y1, g2, e⟩ := bind_e e
    refine (O.os 0 rfl).addr rfl g2 fun a3 cs4 ha5 hc6 he7 => ?_
    obtain ⟨y8, g9, e⟩ := bind_e e
    refine (O.os 0 rfl).addr rfl g9 fun a10 cs11 ha12 hc13 he14 => ?_
    refine ⟨_, ldAn (Sub.refl _) hc6 rfl, ?_⟩
    refine ⟨_, ldAn (Sub.refl _) hc13 rfl, ?_⟩
    obtain ⟨y15, g16, e⟩ := bind_e e
    refine CallF.mono (f_3 _ _ O.up O.s _ _ he7 _ _ he14 _ g16) ?_
    rintro _ h17 ⟨rfl, x18⟩
    have O19 := O.ext x18
    refine ⟨_, rfl, ?_⟩
    refine split_not ?_
    refine split_dec_e e (fun c57 e => ?_) (fun c57 e => ?_)
    · obtain ⟨y20, g21, e⟩ := bind_e e
      refine (O19.os 0 rfl).addr rfl g21 fun a22 cs23 ha24 hc25 he26 => ?_
      obtain ⟨y27, g28, e⟩ := bind_e e
      refine (O19.os 0 rfl).addr rfl g28 fun a29 cs30 ha31 hc32 he33 => ?_
      refine ⟨_, ldAn (Sub.refl _) hc25 rfl, ?_⟩
      refine ⟨_, ldAn (Sub.refl _) hc32 rfl, ?_⟩
      obtain ⟨y34, g35, e⟩ := bind_e e
      refine (O19.os 0 rfl).addr rfl g35 fun a36 cs37 ha38 hc39 he40 => ?_
      obtain ⟨l43, g44, e⟩ := bind_e e
      replace g44 := Option.some.inj g44
      refine ⟨_, rfl, (T_part_Step.T.len _ _ _ he26), ?_⟩
      refine O19.elstA 0 rfl g35 ha38 hc39 (y' := y20) he26 (T_part_Step.T.flat _ _ _ he26) g44 fun h41 O42 => ?_
      obtain ⟨y45, g46, e⟩ := bind_e e
      refine (O42.os 0 rfl).addr (lset' g44) g46 fun a47 cs48 ha49 hc50 he51 => ?_
      obtain ⟨l54, g55, e⟩ := bind_e e
      replace g55 := Option.some.inj g55
      refine ⟨_, rfl, (T_part_Step.T.len _ _ _ he33), ?_⟩
      refine O42.elstA 0 rfl g46 ha49 hc50 (y' := y27) he33 (T_part_Step.T.flat _ _ _ he33) g55 fun h52 O53 => ?_
      have O56 := O53.nm
      exact (ih _ _ e) _ _ _ _ _ _ _ _ _ (O56.pick [0]).nm ((lset' g44).trans (lset' g55)) f_3
    · exact (ih _ _ e) _ _ _ _ _ _ _ _ _ (O19.pick [0]).nm rfl f_3
  · exact (ih _ _ e) _ _ _ _ _ _ _ _ _ (O.pick [0]).nm rfl f_3
set_option maxRecDepth 100000 in
theorem slices_partialInsertionSortCmpFunc_170.l0_k.step_j0 (go : (p : slices_partialInsertionSortCmpFunc_170.l0_k.Pt) → Option (Bool × (List T_part_Step))) (ih : ∀ p r, go p = some r → slices_partialInsertionSortCmpFunc_170.l0_k.I p r) (a_0 : List T_part_Step) (x_1 : Int) (x_2 : Int) (p_3 : T_part_Step → T_part_Step → Option Int) (x_9 : Int) (x_10 : Int) (r : Bool × (List T_part_Step)) (e : slices_partialInsertionSortCmpFunc_170.l0_k.body go (.j0 a_0 x_1 x_2 p_3 x_9 x_10) = some r) : slices_partialInsertionSortCmpFunc_170.l0_k.I (.j0 a_0 x_1 x_2 p_3 x_9 x_10) r := by
  unfold slices_partialInsertionSortCmpFunc_170.l0_k.body at e
  intro W h0 m0 h m A_0 n_0 c_0 fv_3 O ne_0 f_3
  subst ne_0
  refine f170.j0_in ?_
  unfold f170.j0T
  exact (ih _ _ e) _ _ _ _ _ _ _ _ _ (O.pick [0]).nm rfl f_3
theorem slices_partialInsertionSortCmpFunc_170.l0_k.all {p : slices_partialInsertionSortCmpFunc_170.l0_k.Pt} {r : (Bool × (List T_part_Step))} (e : slices_partialInsertionSortCmpFunc_170.l0_k.go p = some r) : slices_partialInsertionSortCmpFunc_170.l0_k.I p r := fixF_ind (β := fun _ => (Bool × (List T_part_Step))) slices_partialInsertionSortCmpFunc_170.l0_k.mono (I := slices_partialInsertionSortCmpFunc_170.l0_k.I) (fun go ih p r e => match p with
  | .l0 a_0 x_1 x_2 p_3 x_9 x_10 => slices_partialInsertionSortCmpFunc_170.l0_k.step_l0 go ih a_0 x_1 x_2 p_3 x_9 x_10 r e
  | .l1 a_0 x_1 x_2 p_3 x_9 x_10 => slices_partialInsertionSortCmpFunc_170.l0_k.step_l1 go ih a_0 x_1 x_2 p_3 x_9 x_10 r e
  | .j2 a_0 x_1 x_2 p_3 x_9 x_10 => slices_partialInsertionSortCmpFunc_170.l0_k.step_j2 go ih a_0 x_1 x_2 p_3 x_9 x_10 r e
  | .j1 a_0 x_1 x_2 p_3 x_9 x_10 => slices_partialInsertionSortCmpFunc_170.l0_k.step_j1 go ih a_0 x_1 x_2 p_3 x_9 x_10 r e
  | .l2 a_0 x_1 x_2 p_3 x_9 x_10 x_11 => slices_partialInsertionSortCmpFunc_170.l0_k.step_l2 go ih a_0 x_1 x_2 p_3 x_9 x_10 x_11 r e
  | .j3 a_0 x_1 x_2 p_3 x_9 x_10 => slices_partialInsertionSortCmpFunc_170.l0_k.step_j3 go ih a_0 x_1 x_2 p_3 x_9 x_10 r e
  | .l3 a_0 x_1 x_2 p_3 x_9 x_10 x_12 => slices_partialInsertionSortCmpFunc_170.l0_k.step_l3 go ih a_0 x_1 x_2 p_3 x_9 x_10 x_12 r e
  | .j0 a_0 x_1 x_2 p_3 x_9 x_10 => slices_partialInsertionSortCmpFunc_170.l0_k.step_j0 go ih a_0 x_1 x_2 p_3 x_9 x_10 r e
  ) e
theorem slices_partialInsertionSortCmpFunc_170.l0.walk {W : Nat → Prop} {h0 m0 h m : Heap} {A_0 : Option Addr} {n_0 c_0 : Nat} {fv_3 : Value} {a_0 : List T_part_Step} {x_1 : Int} {x_2 : Int} {p_3 : T_part_Step → T_part_Step → Option Int} {x_9 : Int} {x_10 : Int} (O : Hold W h0 m0 h m [rR (aE T_part_Step.T) A_0 c_0 a_0]) (ne_0 : n_0 = List.length a_0) (f_3 : ∀ h' m', Sub m0 m' → Sub m' h' → ∀ (y0 : T_part_Step) (cs0 : List Value) (_ : T_part_Step.E m' y0 cs0) (y1 : T_part_Step) (cs1 : List Value) (_ : T_part_Step.E m' y1 cs1) (r : Int), p_3 y0 y1 = some r → CallF Try.prog fv_3 [.agg cs0.toArray, .agg cs1.toArray] h' (fun v h'' => v = .int .i64 r ∧ Ext h' h'')) {r : Bool × (List T_part_Step)} (e : slices_partialInsertionSortCmpFunc_170.l0 a_0 x_1 x_2 p_3 x_9 x_10 = some r) : f170.l0 (slices_partialInsertionSortCmpFunc_170.post W A_0 n_0 c_0 h0 m0 r) A_0 n_0 c_0 x_1 x_2 fv_3 x_9 x_10 h := slices_partialInsertionSortCmpFunc_170.l0_k.all (p := .l0 a_0 x_1 x_2 p_3 x_9 x_10) e W h0 m0 h m A_0 n_0 c_0 fv_3 O ne_0 f_3
noncomputable def slices_partialInsertionSortCmpFunc_170 (a_0 : List T_part_Step) (x_1 : Int) (x_2 : Int) (p_3 : T_part_Step → T_part_Step → Option Int) : Option (Bool × (List T_part_Step)) :=
  (slices_partialInsertionSortCmpFunc_170.l0 a_0 x_1 x_2 p_3 (IntKind.wrap .i64 (x_1 + (1 : Int))) (0 : Int))
set_option maxRecDepth 100000 in
theorem slices_partialInsertionSortCmpFunc_170.walk {W : Nat → Prop} {h m : Heap} {A_0 : Option Addr} {n_0 c_0 : Nat} {fv_3 : Value} {a_0 : List T_part_Step} {x_1 : Int} {x_2 : Int} {p_3 : T_part_Step → T_part_Step → Option Int} (O : Hold W h m h m [rR (aE T_part_Step.T) A_0 c_0 a_0]) (ne_0 : n_0 = List.length a_0) (f_3 : ∀ h' m', Sub m m' → Sub m' h' → ∀ (y0 : T_part_Step) (cs0 : List Value) (_ : T_part_Step.E m' y0 cs0) (y1 : T_part_Step) (cs1 : List Value) (_ : T_part_Step.E m' y1 cs1) (r : Int), p_3 y0 y1 = some r → CallF Try.prog fv_3 [.agg cs0.toArray, .agg cs1.toArray] h' (fun v h'' => v = .int .i64 r ∧ Ext h' h'')) {r : Bool × (List T_part_Step)} (e : slices_partialInsertionSortCmpFunc_170 a_0 x_1 x_2 p_3 = some r) : Run Try.prog 170 #[Value.slice A_0 n_0 c_0, Value.int .i64 x_1, Value.int .i64 x_2, fv_3] h (slices_partialInsertionSortCmpFunc_170.post W A_0 n_0 c_0 h m r) := by
  unfold slices_partialInsertionSortCmpFunc_170 at e
  subst ne_0
  refine f170.run ?_
  unfold f170.runT
  exact slices_partialInsertionSortCmpFunc_170.l0.walk (O.pick [0]).nm rfl f_3 e
def slices_partitionEqualCmpFunc_171.post (W : Nat → Prop) (Asl0 : Option Addr) (nsl0 csl0 : Nat) (h0 m0 : Heap) (r : Int × (List T_part_Step)) (v : Value) (h : Heap) : Prop := ∃ m , Hold W h0 m0 h m [rR (aE T_part_Step.T) Asl0 csl0 r.2] ∧ v = .int .i64 r.1 ∧ nsl0 = List.length r.2
inductive slices_partitionEqualCmpFunc_171.l0_k.Pt where
  | l0 (a_0 : List T_part_Step) (x_1 : Int) (p_4 : T_part_Step → T_part_Step → Option Int) (x_11 : Int) (x_12 : Int)
  | l1 (a_0 : List T_part_Step) (x_1 : Int) (p_4 : T_part_Step → T_part_Step → Option Int) (x_11 : Int) (x_12 : Int)
  | j2 (a_0 : List T_part_Step) (x_1 : Int) (p_4 : T_part_Step → T_part_Step → Option Int) (x_11 : Int) (x_12 : Int)
  | j0 (a_0 : List T_part_Step) (x_1 : Int) (p_4 : T_part_Step → T_part_Step → Option Int) (x_11 : Int) (x_12 : Int)
  | l2 (a_0 : List T_part_Step) (x_1 : Int) (p_4 : T_part_Step → T_part_Step → Option Int) (x_11 : Int) (x_12 : Int)
  | j3 (a_0 : List T_part_Step) (x_1 : Int) (p_4 : T_part_Step → T_part_Step → Option Int) (x_11 : Int) (x_12 : Int)
  | j1 (a_0 : List T_part_Step) (x_1 : Int) (p_4 : T_part_Step → T_part_Step → Option Int) (x_11 : Int) (x_12 : Int)
noncomputable def slices_partitionEqualCmpFunc_171.l0_k.body (go : (p : slices_partitionEqualCmpFunc_171.l0_k.Pt) → Option (Int × (List T_part_Step))) : (p : slices_partitionEqualCmpFunc_171.l0_k.Pt) → Option (Int × (List T_part_Step))
  | .l0 a_0 x_1 p_4 x_11 x_12 => (go (.l1 a_0 x_1 p_4 x_11 x_12))
  | .l1 a_0 x_1 p_4 x_11 x_12 => if x_11 ≤ x_12 then (Option.bind (gi a_0 x_1) fun y1 => Option.bind (gi a_0 x_11) fun y8 => Option.bind (p_4 y1 y8) fun y15 => if y15 < (0 : Int) then ((go (.j0 a_0 x_1 p_4 x_11 x_12))) else ((go (.j2 a_0 x_1 p_4 x_11 x_12)))) else ((go (.j0 a_0 x_1 p_4 x_11 x_12)))
  | .j2 a_0 x_1 p_4 x_11 x_12 => (go (.l1 a_0 x_1 p_4 (IntKind.wrap .i64 (x_11 + (1 : Int))) x_12))
  | .j0 a_0 x_1 p_4 x_11 x_12 => (go (.l2 a_0 x_1 p_4 x_11 x_12))
  | .l2 a_0 x_1 p_4 x_11 x_12 => if x_11 ≤ x_12 then (Option.bind (gi a_0 x_1) fun y1 => Option.bind (gi a_0 x_12) fun y8 => Option.bind (p_4 y1 y8) fun y15 => if y15 < (0 : Int) then ((go (.j3 a_0 x_1 p_4 x_11 x_12))) else ((go (.j1 a_0 x_1 p_4 x_11 x_12)))) else ((go (.j1 a_0 x_1 p_4 x_11 x_12)))
  | .j3 a_0 x_1 p_4 x_11 x_12 => (go (.l2 a_0 x_1 p_4 x_11 (IntKind.wrap .i64 (x_12 - (1 : Int)))))
  | .j1 a_0 x_1 p_4 x_11 x_12 => if x_11 > x_12 then (some (x_11, a_0)) else (Option.bind (gi a_0 x_12) fun y1 => Option.bind (gi a_0 x_11) fun y8 => Option.bind (gi a_0 x_11) fun y15 => Option.bind (some (List.set a_0 (Int.toNat x_11) y1)) fun l24 => Option.bind (gi l24 x_12) fun y26 => Option.bind (some (List.set l24 (Int.toNat x_12) y8)) fun l35 => (go (.l0 l35 x_1 p_4 (IntKind.wrap .i64 (x_11 + (1 : Int))) (IntKind.wrap .i64 (x_12 - (1 : Int))))))
theorem slices_partitionEqualCmpFunc_171.l0_k.mono : MonoF (β := fun _ => (Int × (List T_part_Step))) slices_partitionEqualCmpFunc_171.l0_k.body := fun f g hfg p => match p with
  | .l0 a_0 x_1 p_4 x_11 x_12 => (hfg _)
  | .l1 a_0 x_1 p_4 x_11 x_12 => LeO.ite (LeO.bind (LeO.refl _) fun y1 => LeO.bind (LeO.refl _) fun y8 => LeO.bind (LeO.refl _) fun y15 => LeO.ite ((hfg _)) ((hfg _))) ((hfg _))
  | .j2 a_0 x_1 p_4 x_11 x_12 => (hfg _)
  | .j0 a_0 x_1 p_4 x_11 x_12 => (hfg _)
  | .l2 a_0 x_1 p_4 x_11 x_12 => LeO.ite (LeO.bind (LeO.refl _) fun y1 => LeO.bind (LeO.refl _) fun y8 => LeO.bind (LeO.refl _) fun y15 => LeO.ite ((hfg _)) ((hfg _))) ((hfg _))
  | .j3 a_0 x_1 p_4 x_11 x_12 => (hfg _)
  | .j1 a_0 x_1 p_4 x_11 x_12 => LeO.ite (LeO.refl _) (LeO.bind (LeO.refl _) fun y1 => LeO.bind (LeO.refl _) fun y8 => LeO.bind (LeO.refl _) fun y15 => LeO.bind (LeO.refl _) fun l24 => LeO.bind (LeO.refl _) fun y26 => LeO.bind (LeO.refl _) fun l35 => (hfg _))
noncomputable def slices_partitionEqualCmpFunc_171.l0_k.go (p : slices_partitionEqualCmpFunc_171.l0_k.Pt) : Option (Int × (List T_part_Step)) := fixF (β := fun _ => (Int × (List T_part_Step))) slices_partitionEqualCmpFunc_171.l0_k.body p
noncomputable def slices_partitionEqualCmpFunc_171.l0 (a_0 : List T_part_Step) (x_1 : Int) (p_4 : T_part_Step → T_part_Step → Option Int) (x_11 : Int) (x_12 : Int) : Option (Int × (List T_part_Step)) := slices_partitionEqualCmpFunc_171.l0_k.go (.l0 a_0 x_1 p_4 x_11 x_12)
def slices_partitionEqualCmpFunc_171.l0_k.I : (p : slices_partitionEqualCmpFunc_171.l0_k.Pt) → (Int × (List T_part_Step)) → Prop
  | .l0 a_0 x_1 p_4 x_11 x_12, r => ∀ (W : Nat → Prop) (h0 m0 h m : Heap) (A_0 : Option Addr) (n_0 c_0 : Nat) (fv_4 : Value) (O : Hold W h0 m0 h m [rR (aE T_part_Step.T) A_0 c_0 a_0]) (ne_0 : n_0 = List.length a_0) (f_4 : ∀ h' m', Sub m0 m' → Sub m' h' → ∀ (y0 : T_part_Step) (cs0 : List Value) (_ : T_part_Step.E m' y0 cs0) (y1 : T_part_Step) (cs1 : List Value) (_ : T_part_Step.E m' y1 cs1) (r : Int), p_4 y0 y1 = some r → CallF Try.prog fv_4 [.agg cs0.toArray, .agg cs1.toArray] h' (fun v h'' => v = .int .i64 r ∧ Ext h' h'')), f171.l0 (slices_partitionEqualCmpFunc_171.post W A_0 n_0 c_0 h0 m0 r) A_0 n_0 c_0 x_1 fv_4 x_11 x_12 h
  | .l1 a_0 x_1 p_4 x_11 x_12, r => ∀ (W : Nat → Prop) (h0 m0 h m : Heap) (A_0 : Option Addr) (n_0 c_0 : Nat) (fv_4 : Value) (O : Hold W h0 m0 h m [rR (aE T_part_Step.T) A_0 c_0 a_0]) (ne_0 : n_0 = List.length a_0) (f_4 : ∀ h' m', Sub m0 m' → Sub m' h' → ∀ (y0 : T_part_Step) (cs0 : List Value) (_ : T_part_Step.E m' y0 cs0) (y1 : T_part_Step) (cs1 : List Value) (_ : T_part_Step.E m' y1 cs1) (r : Int), p_4 y0 y1 = some r → CallF Try.prog fv_4 [.agg cs0.toArray, .agg cs1.toArray] h' (fun v h'' => v = .int .i64 r ∧ Ext h' h'')), f171.l1 (slices_partitionEqualCmpFunc_171.post W A_0 n_0 c_0 h0 m0 r) A_0 n_0 c_0 x_1 fv_4 x_11 x_12 h
  | .j2 a_0 x_1 p_4 x_11 x_12, r => ∀ (W : Nat → Prop) (h0 m0 h m : Heap) (A_0 : Option Addr) (n_0 c_0 : Nat) (fv_4 : Value) (O : Hold W h0 m0 h m [rR (aE T_part_Step.T) A_0 c_0 a_0]) (ne_0 : n_0 = List.length a_0) (f_4 : ∀ h' m', Sub m0 m' → Sub m' h' → ∀ (y0 : T_part_Step) (cs0 : List Value) (_ : T_part_Step.E m' y0 cs0) (y1 : T_part_Step) (cs1 : List Value) (_ : T_part_Step.E m' y1 cs1) (r : Int), p_4 y0 y1 = some r → CallF Try.prog fv_4 [.agg cs0.toArray, .agg cs1.toArray] h' (fun v h'' => v = .int .i64 r ∧ Ext h' h'')), f171.j2 (slices_partitionEqualCmpFunc_171.post W A_0 n_0 c_0 h0 m0 r) A_0 n_0 c_0 x_1 fv_4 x_11 x_12 h
  | .j0 a_0 x_1 p_4 x_11 x_12, r => ∀ (W : Nat → Prop) (h0 m0 h m : Heap) (A_0 : Option Addr) (n_0 c_0 : Nat) (fv_4 : Value) (O : Hold W h0 m0 h m [rR (aE T_part_Step.T) A_0 c_0 a_0]) (ne_0 : n_0 = List.length a_0) (f_4 : ∀ h' m', Sub m0 m' → Sub m' h' → ∀ (y0 : T_part_Step) (cs0 : List Value) (_ : T_part_Step.E m' y0 cs0) (y1 : T_part_Step) (cs1 : List Value) (_ : T_part_Step.E m' y1 cs1) (r : Int), p_4 y0 y1 = some r → CallF Try.prog fv_4 [.agg cs0.toArray, .agg cs1.toArray] h' (fun v h'' => v = .int .i64 r ∧ Ext h' h'')), f171.j0 (slices_partitionEqualCmpFunc_171.post W A_0 n_0 c_0 h0 m0 r) A_0 n_0 c_0 x_1 fv_4 x_11 x_12 h
  | .l2 a_0 x_1 p_4 x_11 x_12, r => ∀ (W : Nat → Prop) (h0 m0 h m : Heap) (A_0 : Option Addr) (n_0 c_0 : Nat) (fv_4 : Value) (O : Hold W h0 m0 h m [rR (aE T_part_Step.T) A_0 c_0 a_0]) (ne_0 : n_0 = List.length a_0) (f_4 : ∀ h' m', Sub m0 m' → Sub m' h' → ∀ (y0 : T_part_Step) (cs0 : List Value) (_ : T_part_Step.E m' y0 cs0) (y1 : T_part_Step) (cs1 : List Value) (_ : T_part_Step.E m' y1 cs1) (r : Int), p_4 y0 y1 = some r → CallF Try.prog fv_4 [.agg cs0.toArray, .agg cs1.toArray] h' (fun v h'' => v = .int .i64 r ∧ Ext h' h'')), f171.l2 (slices_partitionEqualCmpFunc_171.post W A_0 n_0 c_0 h0 m0 r) A_0 n_0 c_0 x_1 fv_4 x_11 x_12 h
  | .j3 a_0 x_1 p_4 x_11 x_12, r => ∀ (W : Nat → Prop) (h0 m0 h m : Heap) (A_0 : Option Addr) (n_0 c_0 : Nat) (fv_4 : Value) (O : Hold W h0 m0 h m [rR (aE T_part_Step.T) A_0 c_0 a_0]) (ne_0 : n_0 = List.length a_0) (f_4 : ∀ h' m', Sub m0 m' → Sub m' h' → ∀ (y0 : T_part_Step) (cs0 : List Value) (_ : T_part_Step.E m' y0 cs0) (y1 : T_part_Step) (cs1 : List Value) (_ : T_part_Step.E m' y1 cs1) (r : Int), p_4 y0 y1 = some r → CallF Try.prog fv_4 [.agg cs0.toArray, .agg cs1.toArray] h' (fun v h'' => v = .int .i64 r ∧ Ext h' h'')), f171.j3 (slices_partitionEqualCmpFunc_171.post W A_0 n_0 c_0 h0 m0 r) A_0 n_0 c_0 x_1 fv_4 x_11 x_12 h
  | .j1 a_0 x_1 p_4 x_11 x_12, r => ∀ (W : Nat → Prop) (h0 m0 h m : Heap) (A_0 : Option Addr) (n_0 c_0 : Nat) (fv_4 : Value) (O : Hold W h0 m0 h m [rR (aE T_part_Step.T) A_0 c_0 a_0]) (ne_0 : n_0 = List.length a_0) (f_4 : ∀ h' m', Sub m0 m' → Sub m' h' → ∀ (y0 : T_part_Step) (cs0 : List Value) (_ : T_part_Step.E m' y0 cs0) (y1 : T_part_Step) (cs1 : List Value) (_ : T_part_Step.E m' y1 cs1) (r : Int), p_4 y0 y1 = some r → CallF Try.prog fv_4 [.agg cs0.toArray, .agg cs1.toArray] h' (fun v h'' => v = .int .i64 r ∧ Ext h' h'')), f171.j1 (slices_partitionEqualCmpFunc_171.post W A_0 n_0 c_0 h0 m0 r) A_0 n_0 c_0 x_1 fv_4 x_11 x_12 h
set_option maxRecDepth 100000 in
theorem slices_partitionEqualCmpFunc_171.l0_k.step_l0 (go : (p : slices_partitionEqualCmpFunc_171.l0_k.Pt) → Option (Int × (List T_part_Step))) (ih : ∀ p r, go p = some r → slices_partitionEqualCmpFunc_171.l0_k.I p r) (a_0 : List T_part_Step) (x_1 : Int) (p_4 : T_part_Step → T_part_Step → Option Int) (x_11 : Int) (x_12 : Int) (r : Int × (List T_part_Step)) (e : slices_partitionEqualCmpFunc_171.l0_k.body go (.l0 a_0 x_1 p_4 x_11 x_12) = some r) : slices_partitionEqualCmpFunc_171.l0_k.I (.l0 a_0 x_1 p_4 x_11 x_12) r := by
  unfold slices_partitionEqualCmpFunc_171.l0_k.body at e
  intro W h0 m0 h m A_0 n_0 c_0 fv_4 O ne_0 f_4
  subst ne_0
  refine f171.l0_in ?_
  unfold f171.l0T
  exact (ih _ _ e) _ _ _ _ _ _ _ _ _ (O.pick [0]).nm rfl f_4
set_option maxRecDepth 100000 in
theorem slices_partitionEqualCmpFunc_171.l0_k.step_l1 (go : (p : slices_partitionEqualCmpFunc_171.l0_k.Pt) → Option (Int × (List T_part_Step))) (ih : ∀ p r, go p = some r → slices_partitionEqualCmpFunc_171.l0_k.I p r) (a_0 : List T_part_Step) (x_1 : Int) (p_4 : T_part_Step → T_part_Step → Option Int) (x_11 : Int) (x_12 : Int) (r : Int × (List T_part_Step)) (e : slices_partitionEqualCmpFunc_171.l0_k.body go (.l1 a_0 x_1 p_4 x_11 x_12) = some r) : slices_partitionEqualCmpFunc_171.l0_k.I (.l1 a_0 x_1 p_4 x_11 x_12) r := by
  unfold slices_partitionEqualCmpFunc_171.l0_k.body at e
  intro W h0 m0 h m A_0 n_0 c_0 fv_4 O ne_0 f_4
  subst ne_0
  refine f171.l1_in ?_
  unfold f171.l1T
  refine split_dec_e e (fun c21 e => ?_) (fun c21 e => ?_)
  · obtain ⟨y1, g2, e⟩ := bind_e e
    refine (O.os 0 rfl).addr rfl g2 fun a3 cs4 ha5 hc6 he7 => ?_
    obtain ⟨y8, g9, e⟩ := bind_e e
    refine (O.os 0 rfl).addr rfl g9 fun a10 cs11 ha12 hc13 he14 => ?_
    refine ⟨_, ldAn (Sub.refl _) hc6 rfl, ?_⟩
    refine ⟨_, ldAn (Sub.refl _) hc13 rfl, ?_⟩
    obtain ⟨y15, g16, e⟩ := bind_e e
    refine CallF.mono (f_4 _ _ O.up O.s _ _ he7 _ _ he14 _ g16) ?_
    rintro _ h17 ⟨rfl, x18⟩
    have O19 := O.ext x18
    refine ⟨_, rfl, ?_⟩
    refine split_not ?_
    refine split_dec_e e (fun c20 e => ?_) (fun c20 e => ?_)
    · exact (ih _ _ e) _ _ _ _ _ _ _ _ _ (O19.pick [0]).nm rfl f_4
    · exact (ih _ _ e) _ _ _ _ _ _ _ _ _ (O19.pick [0]).nm rfl f_4
  · exact (ih _ _ e) _ _ _ _ _ _ _ _ _ (O.pick [0]).nm rfl f_4
set_option maxRecDepth 100000 in
theorem slices_partitionEqualCmpFunc_171.l0_k.step_j2 (go : (p : slices_partitionEqualCmpFunc_171.l0_k.Pt) → Option (Int × (List T_part_Step))) (ih : ∀ p r, go p = some r → slices_partitionEqualCmpFunc_171.l0_k.I p r) (a_0 : List T_part_Step) (x_1 : Int) (p_4 : T_part_Step → T_part_Step → Option Int) (x_11 : Int) (x_12 : Int) (r : Int × (List T_part_Step)) (e : slices_partitionEqualCmpFunc_171.l0_k.body go (.j2 a_0 x_1 p_4 x_11 x_12) = some r) : slices_partitionEqualCmpFunc_171.l0_k.I (.j2 a_0 x_1 p_4 x_11 x_12) r := by
  unfold slices_partitionEqualCmpFunc_171.l0_k.body at e
  intro W h0 m0 h m A_0 n_0 c_0 fv_4 O ne_0 f_4
  subst ne_0
  refine f171.j2_in ?_
  unfold f171.j2T
  exact (ih _ _ e) _ _ _ _ _ _ _ _ _ (O.pick [0]).nm rfl f_4
set_option maxRecDepth 100000 in
theorem slices_partitionEqualCmpFunc_171.l0_k.step_j0 (go : (p : slices_partitionEqualCmpFunc_171.l0_k.Pt) → Option (Int × (List T_part_Step))) (ih : ∀ p r, go p = some r → slices_partitionEqualCmpFunc_171.l0_k.I p r) (a_0 : List T_part_Step) (x_1 : Int) (p_4 : T_part_Step → T_part_Step → Option Int) (x_11 : Int) (x_12 : Int) (r : Int × (List T_part_Step)) (e : slices_partitionEqualCmpFunc_171.l0_k.body go (.j0 a_0 x_1 p_4 x_11 x_12) = some r) : slices_partitionEqualCmpFunc_171.l0_k.I (.j0 a_0 x_1 p_4 x_11 x_12) r := by
  unfold slices_partitionEqualCmpFunc_171.l0_k.body at e
  intro W h0 m0 h m A_0 n_0 c_0 fv_4 O ne_0 f_4
  subst ne_0
  refine f171.j0_in ?_
  unfold f171.j0T
  exact (ih _ _ e) _ _ _ _ _ _ _ _ _ (O.pick [0]).nm rfl f_4
set_option maxRecDepth 100000 in
theorem slices_partitionEqualCmpFunc_171.l0_k.step_l2 (go : (p : slices_partitionEqualCmpFunc_171.l0_k.Pt) → Option (Int × (List T_part_Step))) (ih : ∀ p r, go p = some r → slices_partitionEqualCmpFunc_171.l0_k.I p r) (a_0 : List T_part_Step) (x_1 : Int) (p_4 : T_part_Step → T_part_Step → Option Int) (x_11 : Int) (x_12 : Int) (r : Int × (List T_part_Step)) (e : slices_partitionEqualCmpFunc_171.l0_k.body go (.l2 a_0 x_1 p_4 x_11 x_12) = some r) : slices_partitionEqualCmpFunc_171.l0_k.I (.l2 a_0 x_1 p_4 x_11 x_12) r := by
  unfold slices_partitionEqualCmpFunc_171.l0_k.body at e
  intro W h0 m0 h m A_0 n_0 c_0 fv_4 O ne_0 f_4
  subst ne_0
  refine f171.l2_in ?_
  unfold f171.l2T
  refine split_dec_e e (fun c21 e => ?_) (fun c21 e => ?_)
  · obtain ⟨y1, g2, e⟩ := bind_e e
    refine (O.os 0 rfl).addr rfl g2 fun a3 cs4 ha5 hc6 he7 => ?_
    obtain ⟨y8, g9, e⟩ := bind_e e
    refine (O.os 0 rfl).addr rfl g9 fun a10 cs11 ha12 hc13 he14 => ?_
    refine ⟨_, ldAn (Sub.refl _) hc6 rfl, ?_⟩
    refine ⟨_, ldAn (Sub.refl _) hc13 rfl, ?_⟩
    obtain ⟨y15, g16, e⟩ := bind_e e
    refine CallF.mono (f_4 _ _ O.up O.s _ _ he7 _ _ he14 _ g16) ?_
    rintro _ h17 ⟨rfl, x18⟩
    have O19 := O.ext x18
    refine ⟨_, rfl, ?_⟩
    refine split_dec_e e (fun c20 e => ?_) (fun c20 e => ?_)
    · exact (ih _ _ e) _ _ _ _ _ _ _ _ _ (O19.pick [0]).nm rfl f_4
    · exact (ih _ _ e) _ _ _ _ _ _ _ _ _ (O19.pick [0]).nm rfl f_4
  · exact (ih _ _ e) _ _ _ _ _ _ _ _ _ (O.pick [0]).nm rfl f_4
set_option maxRecDepth 100000 in
theorem slices_partitionEqualCmpFunc_171.l0_k.step_j3 (go : (p : slices_partitionEqualCmpFunc_171.l0_k.Pt) → Option (Int × (List T_part_Step))) (ih : ∀ p r, go p = some r → slices_partitionEqualCmpFunc_171.l0_k.I p r) (a_0 : List T_part_Step) (x_1 : Int) (p_4 : T_part_Step → T_part_Step → Option Int) (x_11 : Int) (x_12 : Int) (r : Int × (List T_part_Step)) (e : slices_partitionEqualCmpFunc_171.l0_k.body go (.j3 a_0 x_1 p_4 x_11 x_12) = some r) : slices_partitionEqualCmpFunc_171.l0_k.I (.j3 a_0 x_1 p_4 x_11 x_12) r := by
  unfold slices_partitionEqualCmpFunc_171.l0_k.body at e
  intro W h0 m0 h m A_0 n_0 c_0 fv_4 O ne_0 f_4
  subst ne_0
  refine f171.j3_in ?_
  unfold f171.j3T
  exact (ih _ _ e) _ _ _ _ _ _ _ _ _ (O.pick [0]).nm rfl f_4
set_option maxRecDepth 100000 in
theorem slices_partitionEqualCmpFunc_171.l0_k.step_j1 (go : (p : slices_partitionEqualCmpFunc_171.l0_k.Pt) → Option (Int × (List T_part_Step))) (ih : ∀ p r, go p = some r → slices_partitionEqualCmpFunc_171.l0_k.I p r) (a_0 : List T_part_Step) (x_1 : Int) (p_4 : T_part_Step → T_part_Step → Option Int) (x_11 : Int) (x_12 : Int) (r : Int × (List T_part_Step)) (e : slices_partitionEqualCmpFunc_171.l0_k.body go (.j1 a_0 x_1 p_4 x_11 x_12) = some r) : slices_partitionEqualCmpFunc_171.l0_k.I (.j1 a_0 x_1 p_4 x_11 x_12) r := by
  unfold slices_partitionEqualCmpFunc_171.l0_k.body at e
  intro W h0 m0 h m A_0 n_0 c_0 fv_4 O ne_0 f_4
  subst ne_0
  refine f171.j1_in ?_
  unfold f171.j1T
  refine split_dec_e e (fun c38 e => ?_) (fun c38 e => ?_)
  · cases e
    exact ⟨_, O.pick [0], rfl, rfl⟩
  · obtain ⟨y1, g2, e⟩ := bind_e e
    refine (O.os 0 rfl).addr rfl g2 fun a3 cs4 ha5 hc6 he7 => ?_
    obtain ⟨y8, g9, e⟩ := bind_e e
    refine (O.os 0 rfl).addr rfl g9 fun a10 cs11 ha12 hc13 he14 => ?_
    refine ⟨_, ldAn (Sub.refl _) hc6 rfl, ?_⟩
    refine ⟨_, ldAn (Sub.refl _) hc13 rfl, ?_⟩
    obtain ⟨y15, g16, e⟩ := bind_e e
    refine (O.os 0 rfl).addr rfl g16 fun a17 cs18 ha19 hc20 he21 => ?_
    obtain ⟨l24, g25, e⟩ := bind_e e
    replace g25 := Option.some.inj g25
    refine ⟨_, rfl, (T_part_Step.T.len _ _ _ he7), ?_⟩
    refine O.elstA 0 rfl g16 ha19 hc20 (y' := y1) he7 (T_part_Step.T.flat _ _ _ he7) g25 fun h22 O23 => ?_
    obtain ⟨y26, g27, e⟩ := bind_e e
    refine (O23.os 0 rfl).addr (lset' g25) g27 fun a28 cs29 ha30 hc31 he32 => ?_
    obtain ⟨l35, g36, e⟩ := bind_e e
    replace g36 := Option.some.inj g36
    refine ⟨_, rfl, (T_part_Step.T.len _ _ _ he14), ?_⟩
    refine O23.elstA 0 rfl g27 ha30 hc31 (y' := y8) he14 (T_part_Step.T.flat _ _ _ he14) g36 fun h33 O34 => ?_
    have O37 := O34.nm
    exact (ih _ _ e) _ _ _ _ _ _ _ _ _ (O37.pick [0]).nm ((lset' g25).trans (lset' g36)) f_4
theorem slices_partitionEqualCmpFunc_171.l0_k.all {p : slices_partitionEqualCmpFunc_171.l0_k.Pt} {r : (Int × (List T_part_Step))} (e : slices_partitionEqualCmpFunc_171.l0_k.go p = some r) : slices_partitionEqualCmpFunc_171.l0_k.I p r := fixF_ind (β := fun _ => (Int × (List T_part_Step))) slices_partitionEqualCmpFunc_171.l0_k.mono (I := slices_partitionEqualCmpFunc_171.l0_k.I) (fun go ih p r e => match p with
  | .l0 a_0 x_1 p_4 x_11 x_12 => slices_partitionEqualCmpFunc_171.l0_k.step_l0 go ih a_0 x_1 p_4 x_11 x_12 r e
  | .l1 a_0 x_1 p_4 x_11 x_12 => slices_partitionEqualCmpFunc_171.l0_k.step_l1 go ih a_0 x_1 p_4 x_11 x_12 r e
  | .j2 a_0 x_1 p_4 x_11 x_12 => slices_partitionEqualCmpFunc_171.l0_k.step_j2 go ih a_0 x_1 p_4 x_11 x_12 r e
  | .j0 a_0 x_1 p_4 x_11 x_12 => slices_partitionEqualCmpFunc_171.l0_k.step_j0 go ih a_0 x_1 p_4 x_11 x_12 r e
  | .l2 a_0 x_1 p_4 x_11 x_12 => slices_partitionEqualCmpFunc_171.l0_k.step_l2 go ih a_0 x_1 p_4 x_11 x_12 r e
  | .j3 a_0 x_1 p_4 x_11 x_12 => slices_partitionEqualCmpFunc_171.l0_k.step_j3 go ih a_0 x_1 p_4 x_11 x_12 r e
  | .j1 a_0 x_1 p_4 x_11 x_12 => slices_partitionEqualCmpFunc_171.l0_k.step_j1 go ih a_0 x_1 p_4 x_11 x_12 r e
  ) e
theorem slices_partitionEqualCmpFunc_171.l0.walk {W : Nat → Prop} {h0 m0 h m : Heap} {A_0 : Option Addr} {n_0 c_0 : Nat} {fv_4 : Value} {a_0 : List T_part_Step} {x_1 : Int} {p_4 : T_part_Step → T_part_Step → Option Int} {x_11 : Int} {x_12 : Int} (O : Hold W h0 m0 h m [rR (aE T_part_Step.T) A_0 c_0 a_0]) (ne_0 : n_0 = List.length a_0) (f_4 : ∀ h' m', Sub m0 m' → Sub m' h' → ∀ (y0 : T_part_Step) (cs0 : List Value) (_ : T_part_Step.E m' y0 cs0) (y1 : T_part_Step) (cs1 : List Value) (_ : T_part_Step.E m' y1 cs1) (r : Int), p_4 y0 y1 = some r → CallF Try.prog fv_4 [.agg cs0.toArray, .agg cs1.toArray] h' (fun v h'' => v = .int .i64 r ∧ Ext h' h'')) {r : Int × (List T_part_Step)} (e : slices_partitionEqualCmpFunc_171.l0 a_0 x_1 p_4 x_11 x_12 = some r) : f171.l0 (slices_partitionEqualCmpFunc_171.post W A_0 n_0 c_0 h0 m0 r) A_0 n_0 c_0 x_1 fv_4 x_11 x_12 h := slices_partitionEqualCmpFunc_171.l0_k.all (p := .l0 a_0 x_1 p_4 x_11 x_12) e W h0 m0 h m A_0 n_0 c_0 fv_4 O ne_0 f_4
noncomputable def slices_partitionEqualCmpFunc_171 (a_0 : List T_part_Step) (x_1 : Int) (x_2 : Int) (x_3 : Int) (p_4 : T_part_Step → T_part_Step → Option Int) : Option (Int × (List T_part_Step)) :=
  Option.bind (gi a_0 x_3) fun y1 => Option.bind (gi a_0 x_1) fun y8 => Option.bind (gi a_0 x_1) fun y15 => Option.bind (some (List.set a_0 (Int.toNat x_1) y1)) fun l24 => Option.bind (gi l24 x_3) fun y26 => Option.bind (some (List.set l24 (Int.toNat x_3) y8)) fun l35 => (slices_partitionEqualCmpFunc_171.l0 l35 x_1 p_4 (IntKind.wrap .i64 (x_1 + (1 : Int))) (IntKind.wrap .i64 (x_2 - (1 : Int))))
set_option maxRecDepth 100000 in
theorem slices_partitionEqualCmpFunc_171.walk {W : Nat → Prop} {h m : Heap} {A_0 : Option Addr} {n_0 c_0 : Nat} {fv_4 : Value} {a_0 : List T_part_Step} {x_1 : Int} {x_2 : Int} {x_3 : Int} {p_4 : T_part_Step → T_part_Step → Option Int} (O : Hold W h m h m [rR (aE T_part_Step.T) A_0 c_0 a_0]) (ne_0 : n_0 = List.length a_0) (f_4 : ∀ h' m', Sub m m' → Sub m' h' → ∀ (y0 : T_part_Step) (cs0 : List Value) (_ : T_part_Step.E m' y0 cs0) (y1 : T_part_Step) (cs1 : List Value) (_ : T_part_Step.E m' y1 cs1) (r : Int), p_4 y0 y1 = some r → CallF Try.prog fv_4 [.agg cs0.toArray, .agg cs1.toArray] h' (fun v h'' => v = .int .i64 r ∧ Ext h' h'')) {r : Int × (List T_part_Step)} (e : slices_partitionEqualCmpFunc_171 a_0 x_1 x_2 x_3 p_4 = some r) : Run Try.prog 171 #[Value.slice A_0 n_0 c_0, Value.int .i64 x_1, Value.int .i64 x_2, Value.int .i64 x_3, fv_4] h (slices_partitionEqualCmpFunc_171.post W A_0 n_0 c_0 h m r) := by
  unfold slices_partitionEqualCmpFunc_171 at e
  subst ne_0
  refine f171.run ?_
  unfold f171.runT
  obtain ⟨y1, g2, e⟩ := bind_e e
  refine (O.os 0 rfl).addr rfl g2 fun a3 cs4 ha5 hc6 he7 => ?_
  obtain ⟨y8, g9, e⟩ := bind_e e
  refine (O.os 0 rfl).addr rfl g9 fun a10 cs11 ha12 hc13 he14 => ?_
  refine ⟨_, ldAn (Sub.refl _) hc6 rfl, ?_⟩
  refine ⟨_, ldAn (Sub.refl _) hc13 rfl, ?_⟩
  obtain ⟨y15, g16, e⟩ := bind_e e
  refine (O.os 0 rfl).addr rfl g16 fun a17 cs18 ha19 hc20 he21 => ?_
  obtain ⟨l24, g25, e⟩ := bind_e e
  replace g25 := Option.some.inj g25
  refine ⟨_, rfl, (T_part_Step.T.len _ _ _ he7), ?_⟩
  refine O.elstA 0 rfl g16 ha19 hc20 (y' := y1) he7 (T_part_Step.T.flat _ _ _ he7) g25 fun h22 O23 => ?_
  obtain ⟨y26, g27, e⟩ := bind_e e
  refine (O23.os 0 rfl).addr (lset' g25) g27 fun a28 cs29 ha30 hc31 he32 => ?_
  obtain ⟨l35, g36, e⟩ := bind_e e
  replace g36 := Option.some.inj g36
  refine ⟨_, rfl, (T_part_Step.T.len _ _ _ he14), ?_⟩
  refine O23.elstA 0 rfl g27 ha30 hc31 (y' := y8) he14 (T_part_Step.T.flat _ _ _ he14) g36 fun h33 O34 => ?_
  have O37 := O34.nm
  exact slices_partitionEqualCmpFunc_171.l0.walk (O37.pick [0]).nm ((lset' g25).trans (lset' g36)) f_4 e
end Go.Proofs.Ythnlhffpmlgmfad.Fw

end
