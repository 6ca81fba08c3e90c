/- Last part: what the law TimerTells needs, put together out of texts of this session. -/
import Derived.Test.YtmcfmmoaofileaaRows
import Derived.WalkKit
import Derived.Test.YtmcfmmoaofileaaZTimerTellsb
section
namespace Go.Proofs.Ytmcfmmoaofileaa.Fw
open Go Go.Hw Go.Proofs
set_option linter.unusedVariables false
set_option synthInstance.maxHeartbeats 400000
set_option synthInstance.maxSize 1000
structure T_timer_Due where
  At : Int
  Id : Int
def T_timer_Due.E (h : Heap) (x : T_timer_Due) (cs : List Value) : Prop := cs = [.int .i64 x.At, .int .i64 x.Id]
theorem T_timer_Due.T : Tell 2 T_timer_Due.E := ⟨by rintro m h x _ s rfl; exact rfl, by rintro h x _ rfl; rfl, by rintro h x _ rfl; exact Flats.cons trivial (Flats.cons trivial Flats.nil)⟩
theorem T_timer_Due.keep {m h : Heap} {x : T_timer_Due} {cs : List Value} (e : T_timer_Due.E m x cs) : T_timer_Due.E h x cs := e
def T_timer_Due.Q (x : T_timer_Due) : Prop := (-9223372036854775808 ≤ x.At ∧ x.At ≤ 9223372036854775807) ∧ (-9223372036854775808 ≤ x.Id ∧ x.Id ≤ 9223372036854775807)
theorem T_timer_Due.tells {H : Type} {enc : TypeId × Value → H} {W : World} : Tells enc Try.prog W 60 T_timer_Due.E T_timer_Due.Q := tells_map (tells_struct (t := 60) (fs := [(3, 0), (3, 1)]) (T := 2) (by kernel_rfl) (by kernel_rfl) (tf_cons (s := 1) (f := 3) (by kernel_rfl) (tells_i64 (t := 3) (by kernel_rfl)) (tf_cons (s := 1) (f := 3) (by kernel_rfl) (tells_i64 (t := 3) (by kernel_rfl)) tf_nil))) (by
  rintro ⟨x0, x1, ⟨⟩⟩ cs e q
  obtain ⟨c0, r0, rfl, e0, c1, r1, rfl, e1, eN⟩ := e
  obtain rfl : c0 = [.int .i64 x0] := e0
  obtain rfl : c1 = [.int .i64 x1] := e1
  obtain rfl : r1 = [] := eN
  exact ⟨⟨x0, x1⟩, rfl, q.1, q.2.1⟩)
structure T_timer_Timers where
  Now : Int
  Dues : (List T_timer_Due)
def T_timer_Timers.E (h : Heap) (x : T_timer_Timers) (cs : List Value) : Prop := ∃ A1 c1, cs = [.int .i64 x.Now, .slice A1 x.Dues.length c1] ∧ x.Dues.length ≤ c1 ∧ Rd 2 T_timer_Due.E h A1 x.Dues
theorem T_timer_Timers.T : Tell 2 T_timer_Timers.E := ⟨by rintro m h x _ s ⟨A1, c1, rfl, k1, r1⟩; exact ⟨_, _, rfl, k1, r1.sub T_timer_Due.T s⟩, by rintro h x _ ⟨A1, c1, rfl, k1, r1⟩; rfl, by rintro h x _ ⟨A1, c1, rfl, k1, r1⟩; exact Flats.cons trivial (Flats.cons trivial Flats.nil)⟩
def T_timer_Timers.Q (x : T_timer_Timers) : Prop := (-9223372036854775808 ≤ x.Now ∧ x.Now ≤ 9223372036854775807) ∧ (x.Dues.length * 16 ≤ 140737488351232 ∧ ∀ a ∈ x.Dues, (T_timer_Due.Q a))
theorem T_timer_Timers.tells {H : Type} {enc : TypeId × Value → H} {W : World} : Tells enc Try.prog W 48 T_timer_Timers.E T_timer_Timers.Q := tells_map (tells_struct (t := 48) (fs := [(3, 0), (46, 1)]) (T := 2) (by kernel_rfl) (by kernel_rfl) (tf_cons (s := 1) (f := 3) (by kernel_rfl) (tells_i64 (t := 3) (by kernel_rfl)) (tf_cons (s := 1) (f := 46) (by kernel_rfl) (tells_sliceL (t := 46) (e := 60) (sz := 2) (B := 16) (by kernel_rfl) (by kernel_rfl) (by kernel_rfl) T_timer_Due.tells) tf_nil))) (by
  rintro ⟨x0, x1, ⟨⟩⟩ cs e q
  obtain ⟨c0, r0, rfl, e0, c1, r1, rfl, e1, eN⟩ := e
  obtain rfl : c0 = [.int .i64 x0] := e0
  obtain ⟨A1, k1, rfl, l1, R1⟩ := e1
  obtain rfl : r1 = [] := eN
  exact ⟨⟨x0, x1⟩, ⟨_, _, rfl, l1, R1⟩, q.1, q.2.1⟩)
theorem T_timer_Due.g0 {m : Heap} {x : T_timer_Due} {cs : List Value} (e : T_timer_Due.E m x cs) : cs[0]? = some (Value.int .i64 x.At) := by
  obtain rfl := e
  exact rfl
theorem T_timer_Due.g1 {m : Heap} {x : T_timer_Due} {cs : List Value} (e : T_timer_Due.E m x cs) : cs[1]? = some (Value.int .i64 x.Id) := by
  obtain rfl := e
  exact rfl
theorem T_timer_Timers.g1 {m : Heap} {x : T_timer_Timers} {cs : List Value} (e : T_timer_Timers.E m x cs) : ∃ A c, cs[1]? = some (.slice A (List.length x.Dues) c) ∧ List.length x.Dues ≤ c ∧ Rd 2 T_timer_Due.E m A x.Dues := by
  obtain ⟨A1, c1, rfl, k1, r1⟩ := e
  exact ⟨_, _, rfl, k1, r1⟩
theorem T_timer_Timers.g0 {m : Heap} {x : T_timer_Timers} {cs : List Value} (e : T_timer_Timers.E m x cs) : cs[0]? = some (Value.int .i64 x.Now) := by
  obtain ⟨A1, c1, rfl, k1, r1⟩ := e
  exact rfl
def cmp_Or_127.post (W : Nat → Prop) (h0 m0 : Heap) (r : Int) (v : Value) (h : Heap) : Prop := ∃ m , Hold W h0 m0 h m [] ∧ v = .int .i64 r
inductive cmp_Or_127.l0_k.Pt where
  | l0 (x_3 : Int) (a_6 : List Int) (x_7 : Int) (x_8 : Int)
noncomputable def cmp_Or_127.l0_k.body (go : (p : cmp_Or_127.l0_k.Pt) → Option (Int)) : (p : cmp_Or_127.l0_k.Pt) → Option (Int)
  | .l0 x_3 a_6 x_7 x_8 => if x_8 < x_7 then (Option.bind (gi a_6 x_8) fun y1 => if y1 = x_3 then ((go (.l0 x_3 a_6 x_7 (IntKind.wrap .i64 (x_8 + (1 : Int)))))) else (some (y1))) else (some (x_3))
theorem cmp_Or_127.l0_k.mono : MonoF (β := fun _ => (Int)) cmp_Or_127.l0_k.body := fun f g hfg p => match p with
  | .l0 x_3 a_6 x_7 x_8 => LeO.ite (LeO.bind (LeO.refl _) fun y1 => LeO.ite ((hfg _)) (LeO.refl _)) (LeO.refl _)
noncomputable def cmp_Or_127.l0_k.go (p : cmp_Or_127.l0_k.Pt) : Option (Int) := fixF (β := fun _ => (Int)) cmp_Or_127.l0_k.body p
noncomputable def cmp_Or_127.l0 (x_3 : Int) (a_6 : List Int) (x_7 : Int) (x_8 : Int) : Option (Int) := cmp_Or_127.l0_k.go (.l0 x_3 a_6 x_7 x_8)
theorem cmp_Or_127.l0_eq (x_3 : Int) (a_6 : List Int) (x_7 : Int) (x_8 : Int) : cmp_Or_127.l0 x_3 a_6 x_7 x_8 = if x_8 < x_7 then (Option.bind (gi a_6 x_8) fun y1 => if y1 = x_3 then ((cmp_Or_127.l0 x_3 a_6 x_7 (IntKind.wrap .i64 (x_8 + (1 : Int))))) else (some (y1))) else (some (x_3)) := fixF_eq cmp_Or_127.l0_k.mono _
def cmp_Or_127.l0_k.I : (p : cmp_Or_127.l0_k.Pt) → (Int) → Prop
  | .l0 x_3 a_6 x_7 x_8, r => ∀ (W : Nat → Prop) (h0 m0 h m : Heap) (A_6 : Option Addr) (n_6 c_6 : Nat) (O : Hold W h0 m0 h m []) (ne_6 : n_6 = List.length a_6) (k_6 : List.length a_6 ≤ c_6) (r_6 : Rd 1 (eInt .i64) m A_6 a_6), f127.l0 (cmp_Or_127.post W h0 m0 r) x_3 A_6 n_6 c_6 x_7 x_8 h
set_option maxRecDepth 100000 in
theorem cmp_Or_127.l0_k.step_l0 (go : (p : cmp_Or_127.l0_k.Pt) → Option (Int)) (ih : ∀ p r, go p = some r → cmp_Or_127.l0_k.I p r) (x_3 : Int) (a_6 : List Int) (x_7 : Int) (x_8 : Int) (r : Int) (e : cmp_Or_127.l0_k.body go (.l0 x_3 a_6 x_7 x_8) = some r) : cmp_Or_127.l0_k.I (.l0 x_3 a_6 x_7 x_8) r := by
  unfold cmp_Or_127.l0_k.body at e
  intro W h0 m0 h m A_6 n_6 c_6 O ne_6 k_6 r_6
  subst ne_6
  refine f127.l0_in ?_
  unfold f127.l0T
  refine split_dec_e e (fun c9 e => ?_) (fun c9 e => ?_)
  · obtain ⟨y1, g2, e⟩ := bind_e e
    refine r_6.addr rfl g2 fun a3 cs4 ha5 hc6 he7 => ?_
    obtain rfl : cs4 = [(Value.int .i64 y1)] := he7
    refine ⟨_, ld0 O.s hc6 rfl, _, rfl, ?_⟩
    refine split_ne_e e (fun c8 e => ?_) (fun c8 e => ?_)
    · cases e
      exact ⟨_, O.pick [], rfl⟩
    · exact (ih _ _ e) _ _ _ _ _ _ _ _ (O.pick []).nm rfl k_6 r_6
  · cases e
    exact ⟨_, O.pick [], rfl⟩
theorem cmp_Or_127.l0_k.all {p : cmp_Or_127.l0_k.Pt} {r : (Int)} (e : cmp_Or_127.l0_k.go p = some r) : cmp_Or_127.l0_k.I p r := fixF_ind (β := fun _ => (Int)) cmp_Or_127.l0_k.mono (I := cmp_Or_127.l0_k.I) (fun go ih p r e => match p with
  | .l0 x_3 a_6 x_7 x_8 => cmp_Or_127.l0_k.step_l0 go ih x_3 a_6 x_7 x_8 r e
  ) e
theorem cmp_Or_127.l0.walk {W : Nat → Prop} {h0 m0 h m : Heap} {A_6 : Option Addr} {n_6 c_6 : Nat} {x_3 : Int} {a_6 : List Int} {x_7 : Int} {x_8 : Int} (O : Hold W h0 m0 h m []) (ne_6 : n_6 = List.length a_6) (k_6 : List.length a_6 ≤ c_6) (r_6 : Rd 1 (eInt .i64) m A_6 a_6) {r : Int} (e : cmp_Or_127.l0 x_3 a_6 x_7 x_8 = some r) : f127.l0 (cmp_Or_127.post W h0 m0 r) x_3 A_6 n_6 c_6 x_7 x_8 h := cmp_Or_127.l0_k.all (p := .l0 x_3 a_6 x_7 x_8) e W h0 m0 h m A_6 n_6 c_6 O ne_6 k_6 r_6
noncomputable def cmp_Or_127 (a_0 : List Int) : Option (Int) :=
  (cmp_Or_127.l0 (0 : Int) a_0 (((List.length a_0) : Nat) : Int) (0 : Int))
set_option maxRecDepth 100000 in
theorem cmp_Or_127.walk {W : Nat → Prop} {h m : Heap} {A_0 : Option Addr} {n_0 c_0 : Nat} {a_0 : List Int} (O : Hold W h m h m []) (ne_0 : n_0 = List.length a_0) (k_0 : List.length a_0 ≤ c_0) (r_0 : Rd 1 (eInt .i64) m A_0 a_0) {r : Int} (e : cmp_Or_127 a_0 = some r) : Run Try.prog 127 #[Value.slice A_0 n_0 c_0] h (cmp_Or_127.post W h m r) := by
  unfold cmp_Or_127 at e
  subst ne_0
  refine f127.run ?_
  unfold f127.runT
  exact cmp_Or_127.l0.walk (O.pick []).nm rfl k_0 r_0 e
def cmp_isNaN_166.post (W : Nat → Prop) (h0 m0 : Heap) (r : Bool) (v : Value) (h : Heap) : Prop := ∃ m , Hold W h0 m0 h m [] ∧ v = .bool r
noncomputable def cmp_isNaN_166 (x_0 : Int) : Option (Bool) :=
  some ((x_0 != x_0))
set_option maxRecDepth 100000 in
theorem cmp_isNaN_166.walk {W : Nat → Prop} {h m : Heap} {x_0 : Int} (O : Hold W h m h m []) {r : Bool} (e : cmp_isNaN_166 x_0 = some r) : Run Try.prog 166 #[Value.int .i64 x_0] h (cmp_isNaN_166.post W h m r) := by
  unfold cmp_isNaN_166 at e
  refine f166.run ?_
  unfold f166.runT
  cases e
  exact ⟨_, O.pick [], rfl⟩
def cmp_Compare_128.post (W : Nat → Prop) (h0 m0 : Heap) (r : Int) (v : Value) (h : Heap) : Prop := ∃ m , Hold W h0 m0 h m [] ∧ v = .int .i64 r
noncomputable def cmp_Compare_128 (x_0 : Int) (x_1 : Int) : Option (Int) :=
  Option.bind (cmp_isNaN_166 x_0) fun y1 => Option.bind (cmp_isNaN_166 x_1) fun y8 => if y1 = true then (if y8 = true then (some ((0 : Int))) else (some ((-1 : Int)))) else (if y8 = true then (some ((1 : Int))) else (if x_0 < x_1 then (some ((-1 : Int))) else (if x_0 > x_1 then (some ((1 : Int))) else (some ((0 : Int))))))
set_option maxRecDepth 100000 in
theorem cmp_Compare_128.walk {W : Nat → Prop} {h m : Heap} {x_0 : Int} {x_1 : Int} (O : Hold W h m h m []) {r : Int} (e : cmp_Compare_128 x_0 x_1 = some r) : Run Try.prog 128 #[Value.int .i64 x_0, Value.int .i64 x_1] h (cmp_Compare_128.post W h m r) := by
  unfold cmp_Compare_128 at e
  refine f128.run ?_
  unfold f128.runT
  obtain ⟨y1, g2, e⟩ := bind_e e
  refine (cmp_isNaN_166.walk (Hold.start (W := No) O.s)  g2).mono ?_
  rintro _ h3 ⟨m4, Q5, rfl⟩
  have O7 := Hold.nm (O.retC Q5 vfs_nil)
  refine ⟨_, rfl, ?_⟩
  obtain ⟨y8, g9, e⟩ := bind_e e
  refine (cmp_isNaN_166.walk (Hold.start (W := No) O7.s)  g9).mono ?_
  rintro _ h10 ⟨m11, Q12, rfl⟩
  have O14 := Hold.nm (O7.retC Q12 vfs_nil)
  refine ⟨_, rfl, ?_⟩
  refine split_any_e e (fun c19 e => ?_) (fun c19 e => ?_)
  · refine split_any_e e (fun c15 e => ?_) (fun c15 e => ?_)
    · cases e
      exact ⟨_, O14.pick [], rfl⟩
    · cases e
      exact ⟨_, O14.pick [], rfl⟩
  · refine split_any_e e (fun c18 e => ?_) (fun c18 e => ?_)
    · cases e
      exact ⟨_, O14.pick [], rfl⟩
    · refine split_dec_e e (fun c17 e => ?_) (fun c17 e => ?_)
      · cases e
        exact ⟨_, O14.pick [], rfl⟩
      · refine split_dec_e e (fun c16 e => ?_) (fun c16 e => ?_)
        · cases e
          exact ⟨_, O14.pick [], rfl⟩
        · cases e
          exact ⟨_, O14.pick [], rfl⟩
def timer_order.post (W : Nat → Prop) (h0 m0 : Heap) (r : Int) (v : Value) (h : Heap) : Prop := ∃ m , Hold W h0 m0 h m [] ∧ v = .int .i64 r
noncomputable def timer_order (y_0 : T_timer_Due) (y_1 : T_timer_Due) : Option (Int) :=
  Option.bind (cmp_Compare_128 y_0.At y_1.At) fun y9 => Option.bind (cmp_Compare_128 y_0.Id y_1.Id) fun y16 => Option.bind (cmp_Or_127 ([y9, y16] : List Int)) fun y28 => some (y28)
set_option maxRecDepth 100000 in
theorem timer_order.walk {W : Nat → Prop} {h m : Heap} {cs_0 : List Value} {cs_1 : List Value} {y_0 : T_timer_Due} {y_1 : T_timer_Due} (O : Hold W h m h m []) (e_0 : T_timer_Due.E m y_0 cs_0) (e_1 : T_timer_Due.E m y_1 cs_1) {r : Int} (e : timer_order y_0 y_1 = some r) : Run Try.prog 80 #[Value.agg cs_0.toArray, Value.agg cs_1.toArray] h (timer_order.post W h m r) := by
  unfold timer_order at e
  refine f80.run ?_
  unfold f80.runT
  refine O.new fun h1 x2 O3 => ?_
  refine O3.new fun h5 x6 O7 => ?_
  refine ⟨_, ld0 (Sub.refl _) (O7.all 0 rfl) (T_timer_Due.g0 e_0), _, rfl, ?_⟩
  refine ⟨_, ld0 (Sub.refl _) (O7.all 1 rfl) (T_timer_Due.g0 e_1), _, rfl, ?_⟩
  refine ⟨_, ldk (k := 1) (Sub.refl _) (O7.all 0 rfl) (T_timer_Due.g1 e_0), _, rfl, ?_⟩
  refine ⟨_, ldk (k := 1) (Sub.refl _) (O7.all 1 rfl) (T_timer_Due.g1 e_1), _, rfl, ?_⟩
  obtain ⟨y9, g10, e⟩ := bind_e e
  refine (cmp_Compare_128.walk (Hold.start (W := No) O7.s)  g10).mono ?_
  rintro _ h11 ⟨m12, Q13, rfl⟩
  have O15 := Hold.nm (O7.retC Q13 vfs_nil)
  refine ⟨_, rfl, ?_⟩
  refine ⟨Q13.S.ext, ?_⟩
  obtain ⟨y16, g17, e⟩ := bind_e e
  refine (cmp_Compare_128.walk (Hold.start (W := No) O15.s)  g17).mono ?_
  rintro _ h18 ⟨m19, Q20, rfl⟩
  have O22 := Hold.nm (O15.retC Q20 vfs_nil)
  refine ⟨_, rfl, ?_⟩
  refine O22.new fun h23 x24 O25 => ?_
  obtain ⟨y28, g29, e⟩ := bind_e e
  have O27 := O25.rowE (l := ([y9, y16] : List Int)) 2 rfl (tell_int .i64) (show CsE _ _ _ _ _ from (CsE.cons (c1 := [(Value.int .i64 y9)]) rfl rfl (CsE.cons (c1 := [(Value.int .i64 y16)]) rfl rfl CsE.nil))) rfl
  have O34 := O27.nm
  obtain ⟨m35, u36, s41, ⟨⟨r39, k40⟩, _⟩, B37, C38⟩ := O34.lend0 [2]
  replace r39 : Rd 1 (eInt .i64) m35 (some ⟨(Array.size h18), 0, none⟩) ([y9, y16] : List Int) := r39
  replace k40 : List.length ([y9, y16] : List Int) ≤ 2 := k40
  refine (cmp_Or_127.walk (Hold.start (W := No) s41) rfl k40 r39 g29).mono ?_
  rintro _ h30 ⟨m31, Q32, rfl⟩
  have O42 := Hold.nm (C38 Q32 vfs_nil)
  refine ⟨_, rfl, ?_⟩
  cases e
  exact ⟨_, O42.pick [], rfl⟩
def timer_Check.post (W : Nat → Prop) (h0 m0 : Heap) (r : Int) (v : Value) (h : Heap) : Prop := ∃ m , Hold W h0 m0 h m [] ∧ v = .int .i64 r
inductive timer_Check.l0_k.Pt where
  | l0 (y_1 : T_timer_Timers) (es_3 : (List (Int × Bool))) (a_22 : List T_timer_Due) (x_23 : Int) (x_24 : Int)
  | j2 (y_1 : T_timer_Timers) (es_3 : (List (Int × Bool))) (x_4 : Int) (y_5 : T_timer_Due) (a_22 : List T_timer_Due) (x_23 : Int) (x_24 : Int) (b_29 : Bool)
  | j3 (y_1 : T_timer_Timers) (es_3 : (List (Int × Bool))) (y_5 : T_timer_Due) (a_22 : List T_timer_Due) (x_23 : Int) (x_24 : Int) (b_40 : Bool)
  | j1 (y_1 : T_timer_Timers) (es_3 : (List (Int × Bool))) (y_5 : T_timer_Due) (a_22 : List T_timer_Due) (x_23 : Int) (x_24 : Int)
noncomputable def timer_Check.l0_k.body (go : (p : timer_Check.l0_k.Pt) → Option (Int)) : (p : timer_Check.l0_k.Pt) → Option (Int)
  | .l0 y_1 es_3 a_22 x_23 x_24 => if x_24 < x_23 then (Option.bind (gi a_22 x_24) fun y1 => if y1.At ≤ y_1.Now then ((go (.j2 y_1 es_3 x_24 y1 a_22 x_23 x_24 true))) else ((go (.j2 y_1 es_3 x_24 y1 a_22 x_23 x_24 (decide (y1.At > (2199023255552 : Int))))))) else (some ((0 : Int)))
  | .j2 y_1 es_3 x_4 y_5 a_22 x_23 x_24 b_29 => if b_29 = true then (some ((1 : Int))) else (if x_4 > (0 : Int) then (Option.bind (gi y_1.Dues (IntKind.wrap .i64 (x_4 - (1 : Int)))) fun y6 => Option.bind (timer_order y6 y_5) fun y13 => (go (.j3 y_1 es_3 y_5 a_22 x_23 x_24 (decide (y13 ≥ (0 : Int)))))) else ((go (.j3 y_1 es_3 y_5 a_22 x_23 x_24 false))))
  | .j3 y_1 es_3 y_5 a_22 x_23 x_24 b_40 => if b_40 = true then (some ((21 : Int))) else (if (pgd es_3 y_5.Id false) = true then (some ((5 : Int))) else ((go (.j1 y_1 es_3 y_5 a_22 x_23 x_24))))
  | .j1 y_1 es_3 y_5 a_22 x_23 x_24 => Option.bind (some (pset es_3 y_5.Id true)) fun l3 => (go (.l0 y_1 l3 a_22 x_23 (IntKind.wrap .i64 (x_24 + (1 : Int)))))
attribute [local irreducible] timer_order in
theorem timer_Check.l0_k.mono : MonoF (β := fun _ => (Int)) timer_Check.l0_k.body := fun f g hfg p => match p with
  | .l0 y_1 es_3 a_22 x_23 x_24 => LeO.ite (LeO.bind (LeO.refl _) fun y1 => LeO.ite ((hfg _)) ((hfg _))) (LeO.refl _)
  | .j2 y_1 es_3 x_4 y_5 a_22 x_23 x_24 b_29 => LeO.ite (LeO.refl _) (LeO.ite (LeO.bind (LeO.refl _) fun y6 => LeO.bind (LeO.refl _) fun y13 => (hfg _)) ((hfg _)))
  | .j3 y_1 es_3 y_5 a_22 x_23 x_24 b_40 => LeO.ite (LeO.refl _) (LeO.ite (LeO.refl _) ((hfg _)))
  | .j1 y_1 es_3 y_5 a_22 x_23 x_24 => (hfg _)
noncomputable def timer_Check.l0_k.go (p : timer_Check.l0_k.Pt) : Option (Int) := fixF (β := fun _ => (Int)) timer_Check.l0_k.body p
noncomputable def timer_Check.l0 (y_1 : T_timer_Timers) (es_3 : (List (Int × Bool))) (a_22 : List T_timer_Due) (x_23 : Int) (x_24 : Int) : Option (Int) := timer_Check.l0_k.go (.l0 y_1 es_3 a_22 x_23 x_24)
noncomputable def timer_Check.j2 (y_1 : T_timer_Timers) (es_3 : (List (Int × Bool))) (x_4 : Int) (y_5 : T_timer_Due) (a_22 : List T_timer_Due) (x_23 : Int) (x_24 : Int) (b_29 : Bool) : Option (Int) := timer_Check.l0_k.go (.j2 y_1 es_3 x_4 y_5 a_22 x_23 x_24 b_29)
noncomputable def timer_Check.j3 (y_1 : T_timer_Timers) (es_3 : (List (Int × Bool))) (y_5 : T_timer_Due) (a_22 : List T_timer_Due) (x_23 : Int) (x_24 : Int) (b_40 : Bool) : Option (Int) := timer_Check.l0_k.go (.j3 y_1 es_3 y_5 a_22 x_23 x_24 b_40)
noncomputable def timer_Check.j1 (y_1 : T_timer_Timers) (es_3 : (List (Int × Bool))) (y_5 : T_timer_Due) (a_22 : List T_timer_Due) (x_23 : Int) (x_24 : Int) : Option (Int) := timer_Check.l0_k.go (.j1 y_1 es_3 y_5 a_22 x_23 x_24)
theorem timer_Check.l0_eq (y_1 : T_timer_Timers) (es_3 : (List (Int × Bool))) (a_22 : List T_timer_Due) (x_23 : Int) (x_24 : Int) : timer_Check.l0 y_1 es_3 a_22 x_23 x_24 = if x_24 < x_23 then (Option.bind (gi a_22 x_24) fun y1 => if y1.At ≤ y_1.Now then ((timer_Check.j2 y_1 es_3 x_24 y1 a_22 x_23 x_24 true)) else ((timer_Check.j2 y_1 es_3 x_24 y1 a_22 x_23 x_24 (decide (y1.At > (2199023255552 : Int)))))) else (some ((0 : Int))) := fixF_eq timer_Check.l0_k.mono _
theorem timer_Check.j2_eq (y_1 : T_timer_Timers) (es_3 : (List (Int × Bool))) (x_4 : Int) (y_5 : T_timer_Due) (a_22 : List T_timer_Due) (x_23 : Int) (x_24 : Int) (b_29 : Bool) : timer_Check.j2 y_1 es_3 x_4 y_5 a_22 x_23 x_24 b_29 = if b_29 = true then (some ((1 : Int))) else (if x_4 > (0 : Int) then (Option.bind (gi y_1.Dues (IntKind.wrap .i64 (x_4 - (1 : Int)))) fun y6 => Option.bind (timer_order y6 y_5) fun y13 => (timer_Check.j3 y_1 es_3 y_5 a_22 x_23 x_24 (decide (y13 ≥ (0 : Int))))) else ((timer_Check.j3 y_1 es_3 y_5 a_22 x_23 x_24 false))) := fixF_eq timer_Check.l0_k.mono _
theorem timer_Check.j3_eq (y_1 : T_timer_Timers) (es_3 : (List (Int × Bool))) (y_5 : T_timer_Due) (a_22 : List T_timer_Due) (x_23 : Int) (x_24 : Int) (b_40 : Bool) : timer_Check.j3 y_1 es_3 y_5 a_22 x_23 x_24 b_40 = if b_40 = true then (some ((21 : Int))) else (if (pgd es_3 y_5.Id false) = true then (some ((5 : Int))) else ((timer_Check.j1 y_1 es_3 y_5 a_22 x_23 x_24))) := fixF_eq timer_Check.l0_k.mono _
theorem timer_Check.j1_eq (y_1 : T_timer_Timers) (es_3 : (List (Int × Bool))) (y_5 : T_timer_Due) (a_22 : List T_timer_Due) (x_23 : Int) (x_24 : Int) : timer_Check.j1 y_1 es_3 y_5 a_22 x_23 x_24 = Option.bind (some (pset es_3 y_5.Id true)) fun l3 => (timer_Check.l0 y_1 l3 a_22 x_23 (IntKind.wrap .i64 (x_24 + (1 : Int)))) := fixF_eq timer_Check.l0_k.mono _
def timer_Check.l0_k.I : (p : timer_Check.l0_k.Pt) → (Int) → Prop
  | .l0 y_1 es_3 a_22 x_23 x_24, r => ∀ (W : Nat → Prop) (h0 m0 h m : Heap) (bk_1 : Nat) (cs_1 : List Value) (bk_3 : Nat) (A_22 : Option Addr) (n_22 c_22 : Nat) (O : Hold W h0 m0 h m [rV bk_1 48 cs_1, rM (monoV0 tell_bool) (fun n : Int => Value.int .i64 n) bk_3 es_3]) (e_1 : T_timer_Timers.E m y_1 cs_1) (ne_22 : n_22 = List.length a_22) (k_22 : List.length a_22 ≤ c_22) (r_22 : Rd 2 T_timer_Due.E m A_22 a_22), f23.l0 (timer_Check.post W h0 m0 r) (⟨bk_1, 0, none⟩ : Addr) (Value.map (some bk_3)) A_22 n_22 c_22 x_23 x_24 h
  | .j2 y_1 es_3 x_4 y_5 a_22 x_23 x_24 b_29, r => ∀ (W : Nat → Prop) (h0 m0 h m : Heap) (bk_1 : Nat) (cs_1 : List Value) (bk_3 : Nat) (bk_5 : Nat) (cs_5 : List Value) (A_22 : Option Addr) (n_22 c_22 : Nat) (O : Hold W h0 m0 h m [rV bk_1 48 cs_1, rM (monoV0 tell_bool) (fun n : Int => Value.int .i64 n) bk_3 es_3, rV bk_5 60 cs_5]) (e_1 : T_timer_Timers.E m y_1 cs_1) (e_5 : T_timer_Due.E m y_5 cs_5) (ne_22 : n_22 = List.length a_22) (k_22 : List.length a_22 ≤ c_22) (r_22 : Rd 2 T_timer_Due.E m A_22 a_22), f23.j2 (timer_Check.post W h0 m0 r) (⟨bk_1, 0, none⟩ : Addr) (Value.map (some bk_3)) x_4 (⟨bk_5, 0, none⟩ : Addr) A_22 n_22 c_22 x_23 x_24 b_29 h
  | .j3 y_1 es_3 y_5 a_22 x_23 x_24 b_40, r => ∀ (W : Nat → Prop) (h0 m0 h m : Heap) (bk_1 : Nat) (cs_1 : List Value) (bk_3 : Nat) (bk_5 : Nat) (cs_5 : List Value) (A_22 : Option Addr) (n_22 c_22 : Nat) (O : Hold W h0 m0 h m [rV bk_1 48 cs_1, rM (monoV0 tell_bool) (fun n : Int => Value.int .i64 n) bk_3 es_3, rV bk_5 60 cs_5]) (e_1 : T_timer_Timers.E m y_1 cs_1) (e_5 : T_timer_Due.E m y_5 cs_5) (ne_22 : n_22 = List.length a_22) (k_22 : List.length a_22 ≤ c_22) (r_22 : Rd 2 T_timer_Due.E m A_22 a_22), f23.j3 (timer_Check.post W h0 m0 r) (⟨bk_1, 0, none⟩ : Addr) (Value.map (some bk_3)) (⟨bk_5, 0, none⟩ : Addr) A_22 n_22 c_22 x_23 x_24 b_40 h
  | .j1 y_1 es_3 y_5 a_22 x_23 x_24, r => ∀ (W : Nat → Prop) (h0 m0 h m : Heap) (bk_1 : Nat) (cs_1 : List Value) (bk_3 : Nat) (bk_5 : Nat) (cs_5 : List Value) (A_22 : Option Addr) (n_22 c_22 : Nat) (O : Hold W h0 m0 h m [rV bk_1 48 cs_1, rM (monoV0 tell_bool) (fun n : Int => Value.int .i64 n) bk_3 es_3, rV bk_5 60 cs_5]) (e_1 : T_timer_Timers.E m y_1 cs_1) (e_5 : T_timer_Due.E m y_5 cs_5) (ne_22 : n_22 = List.length a_22) (k_22 : List.length a_22 ≤ c_22) (r_22 : Rd 2 T_timer_Due.E m A_22 a_22), f23.j1 (timer_Check.post W h0 m0 r) (⟨bk_1, 0, none⟩ : Addr) (Value.map (some bk_3)) (⟨bk_5, 0, none⟩ : Addr) A_22 n_22 c_22 x_23 x_24 h
set_option maxRecDepth 100000 in
theorem timer_Check.l0_k.step_l0 (go : (p : timer_Check.l0_k.Pt) → Option (Int)) (ih : ∀ p r, go p = some r → timer_Check.l0_k.I p r) (y_1 : T_timer_Timers) (es_3 : (List (Int × Bool))) (a_22 : List T_timer_Due) (x_23 : Int) (x_24 : Int) (r : Int) (e : timer_Check.l0_k.body go (.l0 y_1 es_3 a_22 x_23 x_24) = some r) : timer_Check.l0_k.I (.l0 y_1 es_3 a_22 x_23 x_24) r := by
  unfold timer_Check.l0_k.body at e
  intro W h0 m0 h m bk_1 cs_1 bk_3 A_22 n_22 c_22 O e_1 ne_22 k_22 r_22
  subst ne_22
  refine f23.l0_in ?_
  unfold f23.l0T
  refine split_dec_e e (fun c17 e => ?_) (fun c17 e => ?_)
  · obtain ⟨y1, g2, e⟩ := bind_e e
    refine r_22.addr rfl g2 fun a3 cs4 ha5 hc6 he7 => ?_
    refine ⟨_, ldAn O.s hc6 rfl, ?_⟩
    refine O.new fun h8 x9 O10 => ?_
    refine ⟨_, rfl, (T_timer_Due.T.len _ _ _ he7), ?_⟩
    refine O10.stA 2 rfl (T_timer_Due.T.len _ _ _ he7) (T_timer_Due.T.flat _ _ _ he7) fun h12 O13 => ?_
    refine ⟨_, ld0 (Sub.refl _) (O13.all 2 rfl) (T_timer_Due.g0 he7), _, rfl, ?_⟩
    refine ⟨_, ld0 (Sub.refl _) (O13.all 0 rfl) (T_timer_Timers.g0 e_1), _, rfl, ?_⟩
    refine split_dec_e e (fun c16 e => ?_) (fun c16 e => ?_)
    · have O14 := O13.nm
      exact (ih _ _ e) _ _ _ _ _ _ _ _ _ _ _ _ _ (O14.pick [0, 1, 2]).nm e_1 he7 rfl k_22 r_22
    · refine ⟨_, ld0 (Sub.refl _) (O13.all 2 rfl) (T_timer_Due.g0 he7), _, rfl, ?_⟩
      have O15 := O13.nm
      exact (ih _ _ e) _ _ _ _ _ _ _ _ _ _ _ _ _ (O15.pick [0, 1, 2]).nm e_1 he7 rfl k_22 r_22
  · cases e
    exact ⟨_, O.pick [], rfl⟩
set_option maxRecDepth 100000 in
theorem timer_Check.l0_k.step_j2 (go : (p : timer_Check.l0_k.Pt) → Option (Int)) (ih : ∀ p r, go p = some r → timer_Check.l0_k.I p r) (y_1 : T_timer_Timers) (es_3 : (List (Int × Bool))) (x_4 : Int) (y_5 : T_timer_Due) (a_22 : List T_timer_Due) (x_23 : Int) (x_24 : Int) (b_29 : Bool) (r : Int) (e : timer_Check.l0_k.body go (.j2 y_1 es_3 x_4 y_5 a_22 x_23 x_24 b_29) = some r) : timer_Check.l0_k.I (.j2 y_1 es_3 x_4 y_5 a_22 x_23 x_24 b_29) r := by
  unfold timer_Check.l0_k.body at e
  intro W h0 m0 h m bk_1 cs_1 bk_3 bk_5 cs_5 A_22 n_22 c_22 O e_1 e_5 ne_22 k_22 r_22
  subst ne_22
  refine f23.j2_in ?_
  unfold f23.j2T
  refine split_any_e e (fun c21 e => ?_) (fun c21 e => ?_)
  · cases e
    exact ⟨_, O.pick [], rfl⟩
  · refine split_dec_e e (fun c20 e => ?_) (fun c20 e => ?_)
    · obtain ⟨A1, c2, q3, k4, r5⟩ := T_timer_Timers.g1 e_1
      refine ⟨_, ldk (k := 1) (Sub.refl _) (O.all 0 rfl) q3, _, _, _, rfl, ?_⟩
      obtain ⟨y6, g7, e⟩ := bind_e e
      refine r5.addr rfl g7 fun a8 cs9 ha10 hc11 he12 => ?_
      refine ⟨_, ldAn O.s hc11 rfl, ?_⟩
      refine ⟨_, ldAn (Sub.refl _) (O.all 2 rfl) (T_timer_Due.T.len _ _ _ e_5), ?_⟩
      obtain ⟨y13, g14, e⟩ := bind_e e
      refine (timer_order.walk (Hold.start (W := No) O.s) he12 e_5 g14).mono ?_
      rintro _ h15 ⟨m16, Q17, rfl⟩
      have O19 := Hold.nm (O.retC Q17 vfs_nil)
      refine ⟨_, rfl, ?_⟩
      exact (ih _ _ e) _ _ _ _ _ _ _ _ _ _ _ _ _ (O19.pick [0, 1, 2]).nm e_1 e_5 rfl k_22 r_22
    · exact (ih _ _ e) _ _ _ _ _ _ _ _ _ _ _ _ _ (O.pick [0, 1, 2]).nm e_1 e_5 rfl k_22 r_22
set_option maxRecDepth 100000 in
theorem timer_Check.l0_k.step_j3 (go : (p : timer_Check.l0_k.Pt) → Option (Int)) (ih : ∀ p r, go p = some r → timer_Check.l0_k.I p r) (y_1 : T_timer_Timers) (es_3 : (List (Int × Bool))) (y_5 : T_timer_Due) (a_22 : List T_timer_Due) (x_23 : Int) (x_24 : Int) (b_40 : Bool) (r : Int) (e : timer_Check.l0_k.body go (.j3 y_1 es_3 y_5 a_22 x_23 x_24 b_40) = some r) : timer_Check.l0_k.I (.j3 y_1 es_3 y_5 a_22 x_23 x_24 b_40) r := by
  unfold timer_Check.l0_k.body at e
  intro W h0 m0 h m bk_1 cs_1 bk_3 bk_5 cs_5 A_22 n_22 c_22 O e_1 e_5 ne_22 k_22 r_22
  subst ne_22
  refine f23.j3_in ?_
  unfold f23.j3T
  refine split_any_e e (fun c4 e => ?_) (fun c4 e => ?_)
  · cases e
    exact ⟨_, O.pick [], rfl⟩
  · refine ⟨_, ldk (k := 1) (Sub.refl _) (O.all 2 rfl) (T_timer_Due.g1 e_5), _, rfl, ?_⟩
    refine (O.om 1 rfl).look (zv := false) (z := (Value.bool false)) (keyOk_int (key := 3) (elem := 4) (by kernel_rfl) (by kernel_rfl)) y_5.Id (by kernel_rfl) rfl (fun v1 hv2 => ?_)
    obtain rfl : v1 = (Value.bool (pgd es_3 y_5.Id false)) := (List.cons.inj (show [v1] = [(Value.bool (pgd es_3 y_5.Id false))] from hv2)).1
    refine ⟨_, rfl, ?_⟩
    refine split_any_e e (fun c3 e => ?_) (fun c3 e => ?_)
    · cases e
      exact ⟨_, O.pick [], rfl⟩
    · exact (ih _ _ e) _ _ _ _ _ _ _ _ _ _ _ _ _ (O.pick [0, 1, 2]).nm e_1 e_5 rfl k_22 r_22
set_option maxRecDepth 100000 in
theorem timer_Check.l0_k.step_j1 (go : (p : timer_Check.l0_k.Pt) → Option (Int)) (ih : ∀ p r, go p = some r → timer_Check.l0_k.I p r) (y_1 : T_timer_Timers) (es_3 : (List (Int × Bool))) (y_5 : T_timer_Due) (a_22 : List T_timer_Due) (x_23 : Int) (x_24 : Int) (r : Int) (e : timer_Check.l0_k.body go (.j1 y_1 es_3 y_5 a_22 x_23 x_24) = some r) : timer_Check.l0_k.I (.j1 y_1 es_3 y_5 a_22 x_23 x_24) r := by
  unfold timer_Check.l0_k.body at e
  intro W h0 m0 h m bk_1 cs_1 bk_3 bk_5 cs_5 A_22 n_22 c_22 O e_1 e_5 ne_22 k_22 r_22
  subst ne_22
  refine f23.j1_in ?_
  unfold f23.j1T
  refine ⟨_, ldk (k := 1) (Sub.refl _) (O.all 2 rfl) (T_timer_Due.g1 e_5), _, rfl, ?_⟩
  obtain ⟨l3, g4, e⟩ := bind_e e
  replace g4 := Option.some.inj g4
  refine O.mapUpd (x := true) (v := (Value.bool true)) 1 rfl (keyOk_int (key := 3) (elem := 4) (by kernel_rfl) (by kernel_rfl)) y_5.Id (show (eV0 eBool) m true (Value.bool true) from rfl) g4 fun h1 O2 => ?_
  have O5 := O2.nm
  exact (ih _ _ e) _ _ _ _ _ _ _ _ _ _ _ (O5.pick [0, 1]).nm e_1 rfl k_22 r_22
theorem timer_Check.l0_k.all {p : timer_Check.l0_k.Pt} {r : (Int)} (e : timer_Check.l0_k.go p = some r) : timer_Check.l0_k.I p r := fixF_ind (β := fun _ => (Int)) timer_Check.l0_k.mono (I := timer_Check.l0_k.I) (fun go ih p r e => match p with
  | .l0 y_1 es_3 a_22 x_23 x_24 => timer_Check.l0_k.step_l0 go ih y_1 es_3 a_22 x_23 x_24 r e
  | .j2 y_1 es_3 x_4 y_5 a_22 x_23 x_24 b_29 => timer_Check.l0_k.step_j2 go ih y_1 es_3 x_4 y_5 a_22 x_23 x_24 b_29 r e
  | .j3 y_1 es_3 y_5 a_22 x_23 x_24 b_40 => timer_Check.l0_k.step_j3 go ih y_1 es_3 y_5 a_22 x_23 x_24 b_40 r e
  | .j1 y_1 es_3 y_5 a_22 x_23 x_24 => timer_Check.l0_k.step_j1 go ih y_1 es_3 y_5 a_22 x_23 x_24 r e
  ) e
theorem timer_Check.l0.walk {W : Nat → Prop} {h0 m0 h m : Heap} {bk_1 : Nat} {cs_1 : List Value} {bk_3 : Nat} {A_22 : Option Addr} {n_22 c_22 : Nat} {y_1 : T_timer_Timers} {es_3 : (List (Int × Bool))} {a_22 : List T_timer_Due} {x_23 : Int} {x_24 : Int} (O : Hold W h0 m0 h m [rV bk_1 48 cs_1, rM (monoV0 tell_bool) (fun n : Int => Value.int .i64 n) bk_3 es_3]) (e_1 : T_timer_Timers.E m y_1 cs_1) (ne_22 : n_22 = List.length a_22) (k_22 : List.length a_22 ≤ c_22) (r_22 : Rd 2 T_timer_Due.E m A_22 a_22) {r : Int} (e : timer_Check.l0 y_1 es_3 a_22 x_23 x_24 = some r) : f23.l0 (timer_Check.post W h0 m0 r) (⟨bk_1, 0, none⟩ : Addr) (Value.map (some bk_3)) A_22 n_22 c_22 x_23 x_24 h := timer_Check.l0_k.all (p := .l0 y_1 es_3 a_22 x_23 x_24) e W h0 m0 h m bk_1 cs_1 bk_3 A_22 n_22 c_22 O e_1 ne_22 k_22 r_22
noncomputable def timer_Check.j0 (y_1 : T_timer_Timers) : Option (Int) :=
  (timer_Check.l0 y_1 ([] : (List (Int × Bool))) y_1.Dues (((List.length y_1.Dues) : Nat) : Int) (0 : Int))
set_option maxRecDepth 100000 in
theorem timer_Check.j0.walk {W : Nat → Prop} {h0 m0 h m : Heap} {bk_1 : Nat} {cs_1 : List Value} {y_1 : T_timer_Timers} (O : Hold W h0 m0 h m [rV bk_1 48 cs_1]) (e_1 : T_timer_Timers.E m y_1 cs_1) {r : Int} (e : timer_Check.j0 y_1 = some r) : f23.j0 (timer_Check.post W h0 m0 r) (⟨bk_1, 0, none⟩ : Addr) h := by
  unfold timer_Check.j0 at e
  refine f23.j0_in ?_
  unfold f23.j0T
  refine O.mkMap (ν := Bool) (monoV0 tell_bool) (fun n : Int => Value.int .i64 n) fun h1 x2 O3 => ?_
  obtain ⟨A5, c6, q7, k8, r9⟩ := T_timer_Timers.g1 e_1
  refine ⟨_, ldk (k := 1) (Sub.refl _) (O3.all 0 rfl) q7, _, _, _, rfl, ?_⟩
  have O10 := O3.nm
  exact timer_Check.l0.walk (O10.pick [0, 1]).nm e_1 rfl k8 r9 e
noncomputable def timer_Check (y_0 : T_timer_Timers) : Option (Int) :=
  if (((List.length y_0.Dues) : Nat) : Int) > (100 : Int) then (some ((2 : Int))) else (if y_0.Now < (0 : Int) then (some ((1 : Int))) else (if y_0.Now > (1099511627776 : Int) then (some ((1 : Int))) else ((timer_Check.j0 y_0))))
set_option maxRecDepth 100000 in
theorem timer_Check.walk {W : Nat → Prop} {h m : Heap} {cs_0 : List Value} {y_0 : T_timer_Timers} (O : Hold W h m h m []) (e_0 : T_timer_Timers.E m y_0 cs_0) {r : Int} (e : timer_Check y_0 = some r) : Run Try.prog 23 #[Value.agg cs_0.toArray] h (timer_Check.post W h m r) := by
  unfold timer_Check at e
  refine f23.run ?_
  unfold f23.runT
  refine O.new fun h1 x2 O3 => ?_
  obtain ⟨A5, c6, q7, k8, r9⟩ := T_timer_Timers.g1 e_0
  refine ⟨_, ldk (k := 1) (Sub.refl _) (O3.all 0 rfl) q7, _, _, _, rfl, ?_⟩
  refine split_dec_e e (fun c16 e => ?_) (fun c16 e => ?_)
  · have O10 := O3.nm
    cases e
    exact ⟨_, O10.pick [], rfl⟩
  · refine ⟨_, ld0 (Sub.refl _) (O3.all 0 rfl) (T_timer_Timers.g0 e_0), _, rfl, ?_⟩
    refine split_dec_e e (fun c15 e => ?_) (fun c15 e => ?_)
    · have O11 := O3.nm
      cases e
      exact ⟨_, O11.pick [], rfl⟩
    · refine ⟨_, ld0 (Sub.refl _) (O3.all 0 rfl) (T_timer_Timers.g0 e_0), _, rfl, ?_⟩
      refine split_dec_e e (fun c14 e => ?_) (fun c14 e => ?_)
      · have O12 := O3.nm
        cases e
        exact ⟨_, O12.pick [], rfl⟩
      · have O13 := O3.nm
        exact timer_Check.j0.walk (O13.pick [0]).nm e_0 e
def slices_Insert_27.post (W : Nat → Prop) (h0 m0 : Heap) (r : (List T_timer_Due)) (v : Value) (h : Heap) : Prop := ∃ m A0 n0 c0, Hold W h0 m0 h m [rR (aE T_timer_Due.T) A0 c0 r] ∧ v = .slice A0 n0 c0 ∧ n0 = List.length r
noncomputable def slices_Insert_27 (a0 : List T_timer_Due) (x1 : Int) (a2 : List T_timer_Due) : Option (List T_timer_Due) := if (0 ≤ x1 ∧ x1 ≤ ((List.length a0 : Nat) : Int)) ∧ (List.length a0 + List.length a2) * 16 ≤ 140737488355328 then some (List.take (Int.toNat x1) a0 ++ a2 ++ List.drop (Int.toNat x1) a0) else none
set_option maxRecDepth 100000 in
theorem slices_Insert_27.walk {W : Nat → Prop} {h m : Heap} {A0 : Option Addr} {n0 c0 : Nat} {a0 : List T_timer_Due} {x1 : Int} {A2 : Option Addr} {n2 c2 : Nat} {a2 : List T_timer_Due} (O : Hold W h m h m [rR (aE T_timer_Due.T) A0 c0 a0]) (ne0 : n0 = List.length a0) (ne2 : n2 = List.length a2) (k2 : List.length a2 ≤ c2) (r2 : Rd 2 T_timer_Due.E m A2 a2) {r : List T_timer_Due} (e : slices_Insert_27 a0 x1 a2 = some r) : Run Try.prog 27 #[Value.slice A0 n0 c0, Value.int .i64 x1, Value.slice A2 n2 c2] h (slices_Insert_27.post W h m r) := by
  unfold slices_Insert_27 at e
  subst ne0
  subst ne2
  obtain ⟨⟨g, gb⟩, e⟩ := guard_e e
  cases e
  refine f27.run ?_
  unfold f27.runT
  exact insert_ok (e := 60) (rs := _) O r2 (by decide) (by kernel_rfl) (by kernel_rfl) rfl (by decide) Try.func81 (by kernel_rfl) (by kernel_rfl) (by kernel_rfl) (show Extern.find Try.f81 = some (Extern.SlicesOverlaps.overlaps #[46, 46] #[]) by kernel_rfl) g gb (by omega) fun A' c' h' O' => ⟨m, _, _, _, O', rfl, by rw [List.length_append, List.length_append, List.length_take, List.length_drop]; omega⟩
def slices_Clone_28.post (W : Nat → Prop) (h0 m0 : Heap) (r : (List T_timer_Due)) (v : Value) (h : Heap) : Prop := ∃ m A0 n0 c0, Hold W h0 m0 h m [rR (aE T_timer_Due.T) A0 c0 r] ∧ v = .slice A0 n0 c0 ∧ n0 = List.length r
noncomputable def slices_Clone_28 (a0 : List T_timer_Due) : Option (List T_timer_Due) := ap 16 ([] : List T_timer_Due) a0
set_option maxRecDepth 100000 in
theorem slices_Clone_28.walk {W : Nat → Prop} {h m : Heap} {A0 : Option Addr} {n0 c0 : Nat} {a0 : List T_timer_Due} (O : Hold W h m h m []) (ne0 : n0 = List.length a0) (k0 : List.length a0 ≤ c0) (r0 : Rd 2 T_timer_Due.E m A0 a0) {r : List T_timer_Due} (e : slices_Clone_28 a0 = some r) : Run Try.prog 28 #[Value.slice A0 n0 c0] h (slices_Clone_28.post W h m r) := by
  unfold slices_Clone_28 at e
  subst ne0
  refine f28.run ?_
  unfold f28.runT
  cases A0 with
  | none =>
    refine split_t ?_
    obtain rfl := Rd.void r0
    obtain rfl : [] = r := by have := (ap_e e).2; simpa using this
    exact ⟨m, none, 0, 0, O.nil (aE T_timer_Due.T) none, rfl, rfl⟩
  | some a =>
    refine split_f ?_
    refine O.new fun h1 x1 O1 => ?_
    refine O1.appE0 T_timer_Due.T rfl rfl (r0.srcE T_timer_Due.T O1.s rfl) (by decide) e fun A4 c4 h4 x4 O4 => ?_
    refine ⟨_, _, _, rfl, ?_⟩
    exact ⟨m, _, _, _, O4.pick [1], rfl, rfl⟩
theorem slices_Clone_28.val (l : List T_timer_Due) (h : l.length * 16 ≤ 140737488355328) : slices_Clone_28 l = some l := ap_nil h
def slices_IndexFunc_125.post (W : Nat → Prop) (h0 m0 : Heap) (r : Int) (v : Value) (h : Heap) : Prop := ∃ m , Hold W h0 m0 h m [] ∧ v = .int .i64 r
inductive slices_IndexFunc_125.l0_k.Pt where
  | l0 (a_0 : List T_timer_Due) (p_1 : T_timer_Due → Option Bool) (x_7 : Int) (x_8 : Int)
noncomputable def slices_IndexFunc_125.l0_k.body (go : (p : slices_IndexFunc_125.l0_k.Pt) → Option (Int)) : (p : slices_IndexFunc_125.l0_k.Pt) → Option (Int)
  | .l0 a_0 p_1 x_7 x_8 => if x_8 < x_7 then (Option.bind (gi a_0 x_8) fun y1 => Option.bind (p_1 y1) fun y8 => if y8 = true then (some (x_8)) else ((go (.l0 a_0 p_1 x_7 (IntKind.wrap .i64 (x_8 + (1 : Int))))))) else (some ((-1 : Int)))
theorem slices_IndexFunc_125.l0_k.mono : MonoF (β := fun _ => (Int)) slices_IndexFunc_125.l0_k.body := fun f g hfg p => match p with
  | .l0 a_0 p_1 x_7 x_8 => LeO.ite (LeO.bind (LeO.refl _) fun y1 => LeO.bind (LeO.refl _) fun y8 => LeO.ite (LeO.refl _) ((hfg _))) (LeO.refl _)
noncomputable def slices_IndexFunc_125.l0_k.go (p : slices_IndexFunc_125.l0_k.Pt) : Option (Int) := fixF (β := fun _ => (Int)) slices_IndexFunc_125.l0_k.body p
noncomputable def slices_IndexFunc_125.l0 (a_0 : List T_timer_Due) (p_1 : T_timer_Due → Option Bool) (x_7 : Int) (x_8 : Int) : Option (Int) := slices_IndexFunc_125.l0_k.go (.l0 a_0 p_1 x_7 x_8)
theorem slices_IndexFunc_125.l0_eq (a_0 : List T_timer_Due) (p_1 : T_timer_Due → Option Bool) (x_7 : Int) (x_8 : Int) : slices_IndexFunc_125.l0 a_0 p_1 x_7 x_8 = if x_8 < x_7 then (Option.bind (gi a_0 x_8) fun y1 => Option.bind (p_1 y1) fun y8 => if y8 = true then (some (x_8)) else ((slices_IndexFunc_125.l0 a_0 p_1 x_7 (IntKind.wrap .i64 (x_8 + (1 : Int)))))) else (some ((-1 : Int))) := fixF_eq slices_IndexFunc_125.l0_k.mono _
def slices_IndexFunc_125.l0_k.I : (p : slices_IndexFunc_125.l0_k.Pt) → (Int) → Prop
  | .l0 a_0 p_1 x_7 x_8, r => ∀ (W : Nat → Prop) (h0 m0 h m : Heap) (A_0 : Option Addr) (n_0 c_0 : Nat) (fv_1 : Value) (O : Hold W h0 m0 h m []) (ne_0 : n_0 = List.length a_0) (k_0 : List.length a_0 ≤ c_0) (r_0 : Rd 2 T_timer_Due.E m A_0 a_0) (f_1 : ∀ h' m', Sub m0 m' → Sub m' h' → ∀ (y0 : T_timer_Due) (cs0 : List Value) (_ : T_timer_Due.E m' y0 cs0) (r : Bool), p_1 y0 = some r → CallF Try.prog fv_1 [.agg cs0.toArray] h' (fun v h'' => v = .bool r ∧ Ext h' h'')), f125.l0 (slices_IndexFunc_125.post W h0 m0 r) A_0 n_0 c_0 fv_1 x_7 x_8 h
set_option maxRecDepth 100000 in
theorem slices_IndexFunc_125.l0_k.step_l0 (go : (p : slices_IndexFunc_125.l0_k.Pt) → Option (Int)) (ih : ∀ p r, go p = some r → slices_IndexFunc_125.l0_k.I p r) (a_0 : List T_timer_Due) (p_1 : T_timer_Due → Option Bool) (x_7 : Int) (x_8 : Int) (r : Int) (e : slices_IndexFunc_125.l0_k.body go (.l0 a_0 p_1 x_7 x_8) = some r) : slices_IndexFunc_125.l0_k.I (.l0 a_0 p_1 x_7 x_8) r := by
  unfold slices_IndexFunc_125.l0_k.body at e
  intro W h0 m0 h m A_0 n_0 c_0 fv_1 O ne_0 k_0 r_0 f_1
  subst ne_0
  refine f125.l0_in ?_
  unfold f125.l0T
  refine split_dec_e e (fun c14 e => ?_) (fun c14 e => ?_)
  · obtain ⟨y1, g2, e⟩ := bind_e e
    refine r_0.addr rfl g2 fun a3 cs4 ha5 hc6 he7 => ?_
    refine ⟨_, ldAn O.s hc6 rfl, ?_⟩
    obtain ⟨y8, g9, e⟩ := bind_e e
    refine CallF.mono (f_1 _ _ O.up O.s _ _ he7 _ g9) ?_
    rintro _ h10 ⟨rfl, x11⟩
    have O12 := O.ext x11
    refine ⟨_, rfl, ?_⟩
    refine split_any_e e (fun c13 e => ?_) (fun c13 e => ?_)
    · cases e
      exact ⟨_, O12.pick [], rfl⟩
    · exact (ih _ _ e) _ _ _ _ _ _ _ _ _ (O12.pick []).nm rfl k_0 r_0 f_1
  · cases e
    exact ⟨_, O.pick [], rfl⟩
theorem slices_IndexFunc_125.l0_k.all {p : slices_IndexFunc_125.l0_k.Pt} {r : (Int)} (e : slices_IndexFunc_125.l0_k.go p = some r) : slices_IndexFunc_125.l0_k.I p r := fixF_ind (β := fun _ => (Int)) slices_IndexFunc_125.l0_k.mono (I := slices_IndexFunc_125.l0_k.I) (fun go ih p r e => match p with
  | .l0 a_0 p_1 x_7 x_8 => slices_IndexFunc_125.l0_k.step_l0 go ih a_0 p_1 x_7 x_8 r e
  ) e
theorem slices_IndexFunc_125.l0.walk {W : Nat → Prop} {h0 m0 h m : Heap} {A_0 : Option Addr} {n_0 c_0 : Nat} {fv_1 : Value} {a_0 : List T_timer_Due} {p_1 : T_timer_Due → Option Bool} {x_7 : Int} {x_8 : Int} (O : Hold W h0 m0 h m []) (ne_0 : n_0 = List.length a_0) (k_0 : List.length a_0 ≤ c_0) (r_0 : Rd 2 T_timer_Due.E m A_0 a_0) (f_1 : ∀ h' m', Sub m0 m' → Sub m' h' → ∀ (y0 : T_timer_Due) (cs0 : List Value) (_ : T_timer_Due.E m' y0 cs0) (r : Bool), p_1 y0 = some r → CallF Try.prog fv_1 [.agg cs0.toArray] h' (fun v h'' => v = .bool r ∧ Ext h' h'')) {r : Int} (e : slices_IndexFunc_125.l0 a_0 p_1 x_7 x_8 = some r) : f125.l0 (slices_IndexFunc_125.post W h0 m0 r) A_0 n_0 c_0 fv_1 x_7 x_8 h := slices_IndexFunc_125.l0_k.all (p := .l0 a_0 p_1 x_7 x_8) e W h0 m0 h m A_0 n_0 c_0 fv_1 O ne_0 k_0 r_0 f_1
noncomputable def slices_IndexFunc_125 (a_0 : List T_timer_Due) (p_1 : T_timer_Due → Option Bool) : Option (Int) :=
  (slices_IndexFunc_125.l0 a_0 p_1 (((List.length a_0) : Nat) : Int) (0 : Int))
set_option maxRecDepth 100000 in
theorem slices_IndexFunc_125.walk {W : Nat → Prop} {h m : Heap} {A_0 : Option Addr} {n_0 c_0 : Nat} {fv_1 : Value} {a_0 : List T_timer_Due} {p_1 : T_timer_Due → Option Bool} (O : Hold W h m h m []) (ne_0 : n_0 = List.length a_0) (k_0 : List.length a_0 ≤ c_0) (r_0 : Rd 2 T_timer_Due.E m A_0 a_0) (f_1 : ∀ h' m', Sub m m' → Sub m' h' → ∀ (y0 : T_timer_Due) (cs0 : List Value) (_ : T_timer_Due.E m' y0 cs0) (r : Bool), p_1 y0 = some r → CallF Try.prog fv_1 [.agg cs0.toArray] h' (fun v h'' => v = .bool r ∧ Ext h' h'')) {r : Int} (e : slices_IndexFunc_125 a_0 p_1 = some r) : Run Try.prog 125 #[Value.slice A_0 n_0 c_0, fv_1] h (slices_IndexFunc_125.post W h m r) := by
  unfold slices_IndexFunc_125 at e
  subst ne_0
  refine f125.run ?_
  unfold f125.runT
  exact slices_IndexFunc_125.l0.walk (O.pick []).nm rfl k_0 r_0 f_1 e
def timer_find_1.post (W : Nat → Prop) (h0 m0 : Heap) (r : Bool) (v : Value) (h : Heap) : Prop := ∃ m , Hold W h0 m0 h m [] ∧ v = .bool r
noncomputable def timer_find_1 (y_0 : T_timer_Due) (y_1 : Int) : Option (Bool) :=
  some ((y_0.Id == y_1))
set_option maxRecDepth 100000 in
theorem timer_find_1.walk {W : Nat → Prop} {h m : Heap} {cs_0 : List Value} {bk_1 : Nat} {y_0 : T_timer_Due} {y_1 : Int} (O : Hold W h m h m []) (e_0 : T_timer_Due.E m y_0 cs_0) (v_1 : VB (eInt .i64) m bk_1 y_1) {r : Bool} (e : timer_find_1 y_0 y_1 = some r) : Run Try.prog 126 #[Value.agg cs_0.toArray, Value.pointer (some ⟨bk_1, 0, none⟩)] h (timer_find_1.post W h m r) := by
  unfold timer_find_1 at e
  obtain ⟨cs_1, t_1, hb_1, nn_1, e_1⟩ := id v_1
  obtain rfl : cs_1 = [(Value.int .i64 y_1)] := e_1
  refine f126.run ?_
  unfold f126.runT
  refine O.new fun h1 x2 O3 => ?_
  refine ⟨_, ldk (k := 1) (Sub.refl _) (O3.all 0 rfl) (T_timer_Due.g1 e_0), _, rfl, ?_⟩
  refine ⟨_, ld0 O3.s (Blk.all' hb_1) rfl, _, rfl, ?_⟩
  have O5 := O3.nm
  cases e
  exact ⟨_, O5.pick [], rfl⟩
def timer_find.post (W : Nat → Prop) (h0 m0 : Heap) (r : Int) (v : Value) (h : Heap) : Prop := ∃ m , Hold W h0 m0 h m [] ∧ v = .int .i64 r
noncomputable def timer_find (y_0 : T_timer_Timers) (x_1 : Int) : Option (Int) :=
  Option.bind (slices_IndexFunc_125 y_0.Dues (fun z27 => timer_find_1 z27 x_1)) fun y14 => some (y14)
set_option maxRecDepth 100000 in
theorem timer_find.walk {W : Nat → Prop} {h m : Heap} {cs_0 : List Value} {y_0 : T_timer_Timers} {x_1 : Int} (O : Hold W h m h m []) (e_0 : T_timer_Timers.E m y_0 cs_0) {r : Int} (e : timer_find y_0 x_1 = some r) : Run Try.prog 77 #[Value.agg cs_0.toArray, Value.int .i64 x_1] h (timer_find.post W h m r) := by
  unfold timer_find at e
  refine f77.run ?_
  unfold f77.runT
  refine O.new fun h1 x2 O3 => ?_
  refine O3.new fun h5 x6 O7 => ?_
  obtain ⟨A9, c10, q11, k12, r13⟩ := T_timer_Timers.g1 e_0
  refine ⟨_, ldk (k := 1) (Sub.refl _) (O7.all 0 rfl) q11, _, _, _, rfl, ?_⟩
  obtain ⟨y14, g15, e⟩ := bind_e e
  have O20 := O7.nm
  obtain ⟨m21, u22, s26, ⟨hb25, _⟩, B23, C24⟩ := O20.lend0 [1]
  refine (slices_IndexFunc_125.walk (Hold.start (W := No) s26) rfl k12 (r13.sub T_timer_Due.T u22) (fun h28 m29 u30 s31 y34 cs34 he34 r32 e33 => CallF.of [Value.agg cs34.toArray, Value.pointer (some ⟨(Array.size h1), 0, none⟩)] f126.ok rfl ((timer_find_1.walk (Hold.start (W := No) s31) he34 (VB.sub (show VB (eInt .i64) _ _ _ from ⟨_, _, hb25, nn, rfl⟩) (tell_int .i64) u30) e33).mono (fun _ _ h => let ⟨_, t, e⟩ := h; ⟨e, t.S.ext⟩))) g15).mono ?_
  rintro _ h16 ⟨m17, Q18, rfl⟩
  have O35 := Hold.nm (C24 Q18 vfs_nil)
  refine ⟨_, rfl, ?_⟩
  cases e
  exact ⟨_, O35.pick [], rfl⟩
def slices_Delete_78.post (W : Nat → Prop) (h0 m0 : Heap) (r : (List T_timer_Due)) (v : Value) (h : Heap) : Prop := ∃ m A0 n0 c0, Hold W h0 m0 h m [rR (aE T_timer_Due.T) A0 c0 r] ∧ v = .slice A0 n0 c0 ∧ n0 = List.length r
noncomputable def slices_Delete_78 (a0 : List T_timer_Due) (x1 x2 : Int) : Option (List T_timer_Due) := if 0 ≤ x1 ∧ x1 ≤ x2 ∧ x2 ≤ ((List.length a0 : Nat) : Int) then some (List.take (Int.toNat x1) a0 ++ List.drop (Int.toNat x2) a0) else none
set_option maxRecDepth 100000 in
theorem slices_Delete_78.walk {W : Nat → Prop} {h m : Heap} {A0 : Option Addr} {n0 c0 : Nat} {a0 : List T_timer_Due} {x1 x2 : Int} (O : Hold W h m h m [rR (aE T_timer_Due.T) A0 c0 a0]) (ne0 : n0 = List.length a0) {r : List T_timer_Due} (e : slices_Delete_78 a0 x1 x2 = some r) : Run Try.prog 78 #[Value.slice A0 n0 c0, Value.int .i64 x1, Value.int .i64 x2] h (slices_Delete_78.post W h m r) := by
  unfold slices_Delete_78 at e
  subst ne0
  obtain ⟨g, e⟩ := guard_e e
  cases e
  refine f78.run ?_
  unfold f78.runT
  exact delete_ok (e := 60) (zv := (Value.agg #[(Value.int .i64 (0 : Int)), (Value.int .i64 (0 : Int))])) (zp := (T_timer_Due.mk (0 : Int) (0 : Int))) O 0 rfl (by kernel_rfl) (by kernel_rfl) (show T_timer_Due.E m (T_timer_Due.mk (0 : Int) (0 : Int)) [(Value.int .i64 (0 : Int)), (Value.int .i64 (0 : Int))] from (show T_timer_Due.E _ (T_timer_Due.mk (0 : Int) (0 : Int)) [(Value.int .i64 (0 : Int)), (Value.int .i64 (0 : Int))] from rfl)) g fun h' O' => ⟨m, _, _, _, O'.pick [0], rfl, rfl⟩
def slices_BinarySearchFunc_79.post (W : Nat → Prop) (h0 m0 : Heap) (r : Int × Bool) (v : Value) (h : Heap) : Prop := ∃ m , Hold W h0 m0 h m [] ∧ v = .tuple #[.int .i64 r.1, .bool r.2]
inductive slices_BinarySearchFunc_79.l0_k.Pt where
  | l0 (a_0 : List T_timer_Due) (p_2 : T_timer_Due → T_timer_Due → Option Int) (y_4 : T_timer_Due) (x_8 : Int) (x_9 : Int) (x_10 : Int)
noncomputable def slices_BinarySearchFunc_79.l0_k.body (go : (p : slices_BinarySearchFunc_79.l0_k.Pt) → Option (Int × Bool)) : (p : slices_BinarySearchFunc_79.l0_k.Pt) → Option (Int × Bool)
  | .l0 a_0 p_2 y_4 x_8 x_9 x_10 => if x_9 < x_10 then (Option.bind (gi a_0 (IntKind.wrap .i64 (shrI .u64 (IntKind.wrap .u64 (IntKind.wrap .i64 (x_9 + x_10))) (1 : Int)))) fun y1 => Option.bind (p_2 y1 y_4) fun y8 => if y8 < (0 : Int) then ((go (.l0 a_0 p_2 y_4 x_8 (IntKind.wrap .i64 ((IntKind.wrap .i64 (shrI .u64 (IntKind.wrap .u64 (IntKind.wrap .i64 (x_9 + x_10))) (1 : Int))) + (1 : Int))) x_10))) else ((go (.l0 a_0 p_2 y_4 x_8 x_9 (IntKind.wrap .i64 (shrI .u64 (IntKind.wrap .u64 (IntKind.wrap .i64 (x_9 + x_10))) (1 : Int))))))) else (if x_9 < x_8 then (Option.bind (gi a_0 x_9) fun y14 => Option.bind (p_2 y14 y_4) fun y21 => some (x_9, (y21 == (0 : Int)))) else (some (x_9, false)))
theorem slices_BinarySearchFunc_79.l0_k.mono : MonoF (β := fun _ => (Int × Bool)) slices_BinarySearchFunc_79.l0_k.body := fun f g hfg p => match p with
  | .l0 a_0 p_2 y_4 x_8 x_9 x_10 => LeO.ite (LeO.bind (LeO.refl _) fun y1 => LeO.bind (LeO.refl _) fun y8 => LeO.ite ((hfg _)) ((hfg _))) (LeO.ite (LeO.bind (LeO.refl _) fun y14 => LeO.bind (LeO.refl _) fun y21 => LeO.refl _) (LeO.refl _))
noncomputable def slices_BinarySearchFunc_79.l0_k.go (p : slices_BinarySearchFunc_79.l0_k.Pt) : Option (Int × Bool) := fixF (β := fun _ => (Int × Bool)) slices_BinarySearchFunc_79.l0_k.body p
noncomputable def slices_BinarySearchFunc_79.l0 (a_0 : List T_timer_Due) (p_2 : T_timer_Due → T_timer_Due → Option Int) (y_4 : T_timer_Due) (x_8 : Int) (x_9 : Int) (x_10 : Int) : Option (Int × Bool) := slices_BinarySearchFunc_79.l0_k.go (.l0 a_0 p_2 y_4 x_8 x_9 x_10)
theorem slices_BinarySearchFunc_79.l0_eq (a_0 : List T_timer_Due) (p_2 : T_timer_Due → T_timer_Due → Option Int) (y_4 : T_timer_Due) (x_8 : Int) (x_9 : Int) (x_10 : Int) : slices_BinarySearchFunc_79.l0 a_0 p_2 y_4 x_8 x_9 x_10 = if x_9 < x_10 then (Option.bind (gi a_0 (IntKind.wrap .i64 (shrI .u64 (IntKind.wrap .u64 (IntKind.wrap .i64 (x_9 + x_10))) (1 : Int)))) fun y1 => Option.bind (p_2 y1 y_4) fun y8 => if y8 < (0 : Int) then ((slices_BinarySearchFunc_79.l0 a_0 p_2 y_4 x_8 (IntKind.wrap .i64 ((IntKind.wrap .i64 (shrI .u64 (IntKind.wrap .u64 (IntKind.wrap .i64 (x_9 + x_10))) (1 : Int))) + (1 : Int))) x_10)) else ((slices_BinarySearchFunc_79.l0 a_0 p_2 y_4 x_8 x_9 (IntKind.wrap .i64 (shrI .u64 (IntKind.wrap .u64 (IntKind.wrap .i64 (x_9 + x_10))) (1 : Int)))))) else (if x_9 < x_8 then (Option.bind (gi a_0 x_9) fun y14 => Option.bind (p_2 y14 y_4) fun y21 => some (x_9, (y21 == (0 : Int)))) else (some (x_9, false))) := fixF_eq slices_BinarySearchFunc_79.l0_k.mono _
def slices_BinarySearchFunc_79.l0_k.I : (p : slices_BinarySearchFunc_79.l0_k.Pt) → (Int × Bool) → Prop
  | .l0 a_0 p_2 y_4 x_8 x_9 x_10, r => ∀ (W : Nat → Prop) (h0 m0 h m : Heap) (A_0 : Option Addr) (n_0 c_0 : Nat) (fv_2 : Value) (bk_4 : Nat) (cs_4 : List Value) (O : Hold W h0 m0 h m [rV bk_4 60 cs_4]) (ne_0 : n_0 = List.length a_0) (k_0 : List.length a_0 ≤ c_0) (r_0 : Rd 2 T_timer_Due.E m A_0 a_0) (f_2 : ∀ h' m', Sub m0 m' → Sub m' h' → ∀ (y0 : T_timer_Due) (cs0 : List Value) (_ : T_timer_Due.E m' y0 cs0) (y1 : T_timer_Due) (cs1 : List Value) (_ : T_timer_Due.E m' y1 cs1) (r : Int), p_2 y0 y1 = some r → CallF Try.prog fv_2 [.agg cs0.toArray, .agg cs1.toArray] h' (fun v h'' => v = .int .i64 r ∧ Ext h' h'')) (e_4 : T_timer_Due.E m y_4 cs_4), f79.l0 (slices_BinarySearchFunc_79.post W h0 m0 r) A_0 n_0 c_0 fv_2 (⟨bk_4, 0, none⟩ : Addr) x_8 x_9 x_10 h
set_option maxRecDepth 100000 in
theorem slices_BinarySearchFunc_79.l0_k.step_l0 (go : (p : slices_BinarySearchFunc_79.l0_k.Pt) → Option (Int × Bool)) (ih : ∀ p r, go p = some r → slices_BinarySearchFunc_79.l0_k.I p r) (a_0 : List T_timer_Due) (p_2 : T_timer_Due → T_timer_Due → Option Int) (y_4 : T_timer_Due) (x_8 : Int) (x_9 : Int) (x_10 : Int) (r : Int × Bool) (e : slices_BinarySearchFunc_79.l0_k.body go (.l0 a_0 p_2 y_4 x_8 x_9 x_10) = some r) : slices_BinarySearchFunc_79.l0_k.I (.l0 a_0 p_2 y_4 x_8 x_9 x_10) r := by
  unfold slices_BinarySearchFunc_79.l0_k.body at e
  intro W h0 m0 h m A_0 n_0 c_0 fv_2 bk_4 cs_4 O ne_0 k_0 r_0 f_2 e_4
  subst ne_0
  refine f79.l0_in ?_
  unfold f79.l0T
  refine split_dec_e e (fun c27 e => ?_) (fun c27 e => ?_)
  · refine ⟨by decide, ?_⟩
    obtain ⟨y1, g2, e⟩ := bind_e e
    refine r_0.addr rfl g2 fun a3 cs4 ha5 hc6 he7 => ?_
    refine ⟨_, ldAn O.s hc6 rfl, ?_⟩
    refine ⟨_, ldAn (Sub.refl _) (O.all 0 rfl) (T_timer_Due.T.len _ _ _ e_4), ?_⟩
    obtain ⟨y8, g9, e⟩ := bind_e e
    refine CallF.mono (f_2 _ _ O.up O.s _ _ he7 _ _ e_4 _ g9) ?_
    rintro _ h10 ⟨rfl, x11⟩
    have O12 := O.ext x11
    refine ⟨_, rfl, ?_⟩
    refine split_dec_e e (fun c13 e => ?_) (fun c13 e => ?_)
    · exact (ih _ _ e) _ _ _ _ _ _ _ _ _ _ _ (O12.pick [0]).nm rfl k_0 r_0 f_2 e_4
    · exact (ih _ _ e) _ _ _ _ _ _ _ _ _ _ _ (O12.pick [0]).nm rfl k_0 r_0 f_2 e_4
  · refine split_dec_e e (fun c26 e => ?_) (fun c26 e => ?_)
    · obtain ⟨y14, g15, e⟩ := bind_e e
      refine r_0.addr rfl g15 fun a16 cs17 ha18 hc19 he20 => ?_
      refine ⟨_, ldAn O.s hc19 rfl, ?_⟩
      refine ⟨_, ldAn (Sub.refl _) (O.all 0 rfl) (T_timer_Due.T.len _ _ _ e_4), ?_⟩
      obtain ⟨y21, g22, e⟩ := bind_e e
      refine CallF.mono (f_2 _ _ O.up O.s _ _ he20 _ _ e_4 _ g22) ?_
      rintro _ h23 ⟨rfl, x24⟩
      have O25 := O.ext x24
      refine ⟨_, rfl, ?_⟩
      cases e
      exact ⟨_, O25.pick [], rfl⟩
    · cases e
      exact ⟨_, O.pick [], rfl⟩
theorem slices_BinarySearchFunc_79.l0_k.all {p : slices_BinarySearchFunc_79.l0_k.Pt} {r : (Int × Bool)} (e : slices_BinarySearchFunc_79.l0_k.go p = some r) : slices_BinarySearchFunc_79.l0_k.I p r := fixF_ind (β := fun _ => (Int × Bool)) slices_BinarySearchFunc_79.l0_k.mono (I := slices_BinarySearchFunc_79.l0_k.I) (fun go ih p r e => match p with
  | .l0 a_0 p_2 y_4 x_8 x_9 x_10 => slices_BinarySearchFunc_79.l0_k.step_l0 go ih a_0 p_2 y_4 x_8 x_9 x_10 r e
  ) e
theorem slices_BinarySearchFunc_79.l0.walk {W : Nat → Prop} {h0 m0 h m : Heap} {A_0 : Option Addr} {n_0 c_0 : Nat} {fv_2 : Value} {bk_4 : Nat} {cs_4 : List Value} {a_0 : List T_timer_Due} {p_2 : T_timer_Due → T_timer_Due → Option Int} {y_4 : T_timer_Due} {x_8 : Int} {x_9 : Int} {x_10 : Int} (O : Hold W h0 m0 h m [rV bk_4 60 cs_4]) (ne_0 : n_0 = List.length a_0) (k_0 : List.length a_0 ≤ c_0) (r_0 : Rd 2 T_timer_Due.E m A_0 a_0) (f_2 : ∀ h' m', Sub m0 m' → Sub m' h' → ∀ (y0 : T_timer_Due) (cs0 : List Value) (_ : T_timer_Due.E m' y0 cs0) (y1 : T_timer_Due) (cs1 : List Value) (_ : T_timer_Due.E m' y1 cs1) (r : Int), p_2 y0 y1 = some r → CallF Try.prog fv_2 [.agg cs0.toArray, .agg cs1.toArray] h' (fun v h'' => v = .int .i64 r ∧ Ext h' h'')) (e_4 : T_timer_Due.E m y_4 cs_4) {r : Int × Bool} (e : slices_BinarySearchFunc_79.l0 a_0 p_2 y_4 x_8 x_9 x_10 = some r) : f79.l0 (slices_BinarySearchFunc_79.post W h0 m0 r) A_0 n_0 c_0 fv_2 (⟨bk_4, 0, none⟩ : Addr) x_8 x_9 x_10 h := slices_BinarySearchFunc_79.l0_k.all (p := .l0 a_0 p_2 y_4 x_8 x_9 x_10) e W h0 m0 h m A_0 n_0 c_0 fv_2 bk_4 cs_4 O ne_0 k_0 r_0 f_2 e_4
noncomputable def slices_BinarySearchFunc_79 (a_0 : List T_timer_Due) (y_1 : T_timer_Due) (p_2 : T_timer_Due → T_timer_Due → Option Int) : Option (Int × Bool) :=
  (slices_BinarySearchFunc_79.l0 a_0 p_2 y_1 (((List.length a_0) : Nat) : Int) (0 : Int) (((List.length a_0) : Nat) : Int))
set_option maxRecDepth 100000 in
theorem slices_BinarySearchFunc_79.walk {W : Nat → Prop} {h m : Heap} {A_0 : Option Addr} {n_0 c_0 : Nat} {cs_1 : List Value} {fv_2 : Value} {a_0 : List T_timer_Due} {y_1 : T_timer_Due} {p_2 : T_timer_Due → T_timer_Due → Option Int} (O : Hold W h m h m []) (ne_0 : n_0 = List.length a_0) (k_0 : List.length a_0 ≤ c_0) (r_0 : Rd 2 T_timer_Due.E m A_0 a_0) (e_1 : T_timer_Due.E m y_1 cs_1) (f_2 : ∀ h' m', Sub m m' → Sub m' h' → ∀ (y0 : T_timer_Due) (cs0 : List Value) (_ : T_timer_Due.E m' y0 cs0) (y1 : T_timer_Due) (cs1 : List Value) (_ : T_timer_Due.E m' y1 cs1) (r : Int), p_2 y0 y1 = some r → CallF Try.prog fv_2 [.agg cs0.toArray, .agg cs1.toArray] h' (fun v h'' => v = .int .i64 r ∧ Ext h' h'')) {r : Int × Bool} (e : slices_BinarySearchFunc_79 a_0 y_1 p_2 = some r) : Run Try.prog 79 #[Value.slice A_0 n_0 c_0, Value.agg cs_1.toArray, fv_2] h (slices_BinarySearchFunc_79.post W h m r) := by
  unfold slices_BinarySearchFunc_79 at e
  subst ne_0
  refine f79.run ?_
  unfold f79.runT
  refine O.new fun h1 x2 O3 => ?_
  have O5 := O3.nm
  exact slices_BinarySearchFunc_79.l0.walk (O5.pick [0]).nm rfl k_0 r_0 f_2 e_1 e
def timer_Set.post (W : Nat → Prop) (h0 m0 : Heap) (r : T_timer_Timers × Int) (v : Value) (h : Heap) : Prop := ∃ m cs0, Hold W h0 m0 h m [] ∧ v = .tuple #[.agg cs0.toArray, .int .i64 r.2] ∧ T_timer_Timers.E m r.1 cs0
noncomputable def timer_Set.j1 (x_1 : Int) (x_2 : Int) (y_3 : T_timer_Timers) (y_6 : T_timer_Timers) (a_9 : List T_timer_Due) : Option (T_timer_Timers × Int) :=
  if (((List.length a_9) : Nat) : Int) = (100 : Int) then (some ((T_timer_Timers.mk (0 : Int) ([] : List T_timer_Due)), (6 : Int))) else (Option.bind (slices_BinarySearchFunc_79 a_9 (T_timer_Due.mk (IntKind.wrap .i64 (y_3.Now + x_2)) x_1) (fun z24 z25 => timer_order z24 z25)) fun y10 => Option.bind (slices_Insert_27 a_9 y10.1 ([(T_timer_Due.mk (IntKind.wrap .i64 (y_3.Now + x_2)) x_1)] : List T_timer_Due)) fun y40 => some ((T_timer_Timers.mk y_3.Now y40), (0 : Int)))
set_option maxHeartbeats 4000000 in
set_option maxRecDepth 100000 in
theorem timer_Set.j1.walk {W : Nat → Prop} {h0 m0 h m : Heap} {bk_3 : Nat} {cs_3 : List Value} {bk_6 : Nat} {cs_6 : List Value} {A_9 : Option Addr} {n_9 c_9 : Nat} {x_1 : Int} {x_2 : Int} {y_3 : T_timer_Timers} {y_6 : T_timer_Timers} {a_9 : List T_timer_Due} (O : Hold W h0 m0 h m [rV bk_3 48 cs_3, rV bk_6 48 cs_6, rR (aE T_timer_Due.T) A_9 c_9 a_9]) (e_3 : T_timer_Timers.E m y_3 cs_3) (e_6 : T_timer_Timers.E m y_6 cs_6) (ne_9 : n_9 = List.length a_9) {r : T_timer_Timers × Int} (e : timer_Set.j1 x_1 x_2 y_3 y_6 a_9 = some r) : f18.j1 (timer_Set.post W h0 m0 r) x_1 x_2 (⟨bk_3, 0, none⟩ : Addr) (⟨bk_6, 0, none⟩ : Addr) A_9 n_9 c_9 h := by
  unfold timer_Set.j1 at e
  subst ne_9
  refine f18.j1_in ?_
  unfold f18.j1T
  refine split_eq_e e (fun c69 e => ?_) (fun c69 e => ?_)
  · refine ⟨_, rfl, rfl, ?_⟩
    refine O.stA 1 rfl ((T_timer_Timers.T.len _ _ _ e_6)).symm (Flats.cons trivial (Flats.cons trivial Flats.nil)) fun h1 O2 => ?_
    refine ⟨_, ldAn (Sub.refl _) (O2.all 1 rfl) rfl, ?_⟩
    have O3 := O2.nm
    cases e
    exact ⟨_, _, O3.pick [], rfl, (show T_timer_Timers.E _ (T_timer_Timers.mk (0 : Int) ([] : List T_timer_Due)) [(Value.int .i64 (0 : Int)), (Value.slice none 0 0)] from ⟨_, _, rfl, (by exact Nat.le_refl 0), Rd.nil⟩)⟩
  · refine ⟨_, ld0 (Sub.refl _) (O.all 0 rfl) (T_timer_Timers.g0 e_3), _, rfl, ?_⟩
    refine O.new fun h4 x5 O6 => ?_
    refine ⟨_, rfl, rfl, ?_⟩
    refine O6.stA 3 rfl rfl (Flats.cons trivial (Flats.cons trivial Flats.nil)) fun h8 O9 => ?_
    refine ⟨_, ldAn (Sub.refl _) (O9.all 3 rfl) rfl, ?_⟩
    obtain ⟨y10, g11, e⟩ := bind_e e
    have O16 := O9.nm
    obtain ⟨m17, u18, s23, ⟨⟨r21, k22⟩, _⟩, B19, C20⟩ := O16.lend0 [2]
    replace r21 : Rd 2 T_timer_Due.E m17 A_9 a_9 := r21
    replace k22 : List.length a_9 ≤ c_9 := k22
    refine (slices_BinarySearchFunc_79.walk (Hold.start (W := No) s23) rfl k22 r21 (show T_timer_Due.E _ (T_timer_Due.mk (IntKind.wrap .i64 (y_3.Now + x_2)) x_1) [(Value.int .i64 (IntKind.wrap .i64 (y_3.Now + x_2))), (Value.int .i64 x_1)] from rfl) (fun h26 m27 u28 s29 y32 cs32 he32 y33 cs33 he33 r30 e31 => CallF.of [Value.agg cs32.toArray, Value.agg cs33.toArray] f80.ok rfl ((timer_order.walk (Hold.start (W := No) s29) he32 he33 e31).mono (fun _ _ h => let ⟨_, t, e⟩ := h; ⟨e, t.S.ext⟩))) g11).mono ?_
    rintro _ h12 ⟨m13, Q14, rfl⟩
    have O34 := Hold.nm (C20 Q14 vfs_nil)
    refine ⟨_, _, rfl, ?_⟩
    refine ⟨_, ldAn (Sub.refl _) (O34.all 3 rfl) rfl, ?_⟩
    refine ⟨_, ld0 (Sub.refl _) (O34.all 0 rfl) (T_timer_Timers.g0 e_3), _, rfl, ?_⟩
    refine ⟨[(Value.int .i64 (IntKind.wrap .i64 (y_3.Now + x_2))), (Value.int .i64 x_1)], rfl, rfl, ?_⟩
    refine O34.new fun h35 x36 O37 => ?_
    refine ⟨ld0 (Sub.refl _) (O37.all 0 rfl) (T_timer_Timers.g0 e_3), ?_⟩
    obtain ⟨y40, g41, e⟩ := bind_e e
    have O39 := O37.rowE (l := ([(T_timer_Due.mk (IntKind.wrap .i64 (y_3.Now + x_2)) x_1)] : List T_timer_Due)) 4 rfl T_timer_Due.T (show CsE _ _ _ _ _ from (CsE.cons (c1 := [(Value.int .i64 (IntKind.wrap .i64 (y_3.Now + x_2))), (Value.int .i64 x_1)]) (show T_timer_Due.E _ (T_timer_Due.mk (IntKind.wrap .i64 (y_3.Now + x_2)) x_1) [(Value.int .i64 (IntKind.wrap .i64 (y_3.Now + x_2))), (Value.int .i64 x_1)] from rfl) rfl CsE.nil)) rfl
    have O46 := O39.nm
    obtain ⟨m47, W53, u48, P54, ⟨⟨r51, k52⟩, _⟩, B49, C50⟩ := O46.lend [2] [4]
    replace r51 : Rd 2 T_timer_Due.E m47 (some ⟨(Array.size h12), 0, none⟩) ([(T_timer_Due.mk (IntKind.wrap .i64 (y_3.Now + x_2)) x_1)] : List T_timer_Due) := r51
    replace k52 : List.length ([(T_timer_Due.mk (IntKind.wrap .i64 (y_3.Now + x_2)) x_1)] : List T_timer_Due) ≤ 1 := k52
    refine (slices_Insert_27.walk P54 rfl rfl k52 r51 g41).mono ?_
    rintro _ h42 ⟨m43, A55, n56, c57, Q44, rfl, ne58⟩
    have O60 := Hold.nm (C50 Q44 (vfs_cons (rR_vf (aE_vf (fun _ _ _ _ h => T_timer_Due.keep h))) vfs_nil))
    subst ne58
    refine ⟨_, _, _, rfl, ?_⟩
    refine ⟨ld0 (Sub.refl _) (O60.all 0 rfl) (T_timer_Timers.g0 e_3), ?_⟩
    refine ⟨_, rfl, rfl, ?_⟩
    refine O60.stA 1 rfl ((T_timer_Timers.T.len _ _ _ e_6)).symm (Flats.cons trivial (Flats.cons trivial Flats.nil)) fun h61 O62 => ?_
    refine ⟨_, ldAn (Sub.refl _) (O62.all 1 rfl) rfl, ?_⟩
    obtain ⟨m63, u64, ⟨r65, k66⟩, O67⟩ := O62.frz 5 rfl
    replace r65 : Rd 2 T_timer_Due.E m63 A55 y40 := r65
    have O68 := O67.nm
    cases e
    exact ⟨_, _, O68.pick [], rfl, (show T_timer_Timers.E _ (T_timer_Timers.mk y_3.Now y40) [(Value.int .i64 y_3.Now), (Value.slice A55 (List.length y40) c57)] from ⟨_, _, rfl, k66, r65⟩)⟩
noncomputable def timer_Set.j0 (x_1 : Int) (x_2 : Int) (y_3 : T_timer_Timers) (y_6 : T_timer_Timers) : Option (T_timer_Timers × Int) :=
  Option.bind (slices_Clone_28 y_3.Dues) fun y6 => Option.bind (timer_find y_3 x_1) fun y18 => if y18 ≥ (0 : Int) then (Option.bind (slices_Delete_78 y6 y18 (IntKind.wrap .i64 (y18 + (1 : Int)))) fun y25 => (timer_Set.j1 x_1 x_2 y_3 y_6 y25)) else ((timer_Set.j1 x_1 x_2 y_3 y_6 y6))
set_option maxRecDepth 100000 in
theorem timer_Set.j0.walk {W : Nat → Prop} {h0 m0 h m : Heap} {bk_3 : Nat} {cs_3 : List Value} {bk_6 : Nat} {cs_6 : List Value} {x_1 : Int} {x_2 : Int} {y_3 : T_timer_Timers} {y_6 : T_timer_Timers} (O : Hold W h0 m0 h m [rV bk_3 48 cs_3, rV bk_6 48 cs_6]) (e_3 : T_timer_Timers.E m y_3 cs_3) (e_6 : T_timer_Timers.E m y_6 cs_6) {r : T_timer_Timers × Int} (e : timer_Set.j0 x_1 x_2 y_3 y_6 = some r) : f18.j0 (timer_Set.post W h0 m0 r) x_1 x_2 (⟨bk_3, 0, none⟩ : Addr) (⟨bk_6, 0, none⟩ : Addr) h := by
  unfold timer_Set.j0 at e
  refine f18.j0_in ?_
  unfold f18.j0T
  obtain ⟨A1, c2, q3, k4, r5⟩ := T_timer_Timers.g1 e_3
  refine ⟨_, ldk (k := 1) (Sub.refl _) (O.all 0 rfl) q3, _, _, _, rfl, ?_⟩
  obtain ⟨y6, g7, e⟩ := bind_e e
  refine (slices_Clone_28.walk (Hold.start (W := No) O.s) rfl k4 r5 g7).mono ?_
  rintro _ h8 ⟨m9, A12, n13, c14, Q10, rfl, ne15⟩
  have O17 := Hold.nm (O.retC Q10 (vfs_cons (rR_vf (aE_vf (fun _ _ _ _ h => T_timer_Due.keep h))) vfs_nil))
  subst ne15
  refine ⟨_, _, _, rfl, ?_⟩
  refine ⟨_, ldAn (Sub.refl _) (O17.all 0 rfl) (T_timer_Timers.T.len _ _ _ e_3), ?_⟩
  obtain ⟨y18, g19, e⟩ := bind_e e
  refine (timer_find.walk (Hold.start (W := No) O17.s) e_3 g19).mono ?_
  rintro _ h20 ⟨m21, Q22, rfl⟩
  have O24 := Hold.nm (O17.retC Q22 vfs_nil)
  refine ⟨_, rfl, ?_⟩
  refine split_dec_e e (fun c41 e => ?_) (fun c41 e => ?_)
  · obtain ⟨y25, g26, e⟩ := bind_e e
    obtain ⟨W31, P32, B33, C34⟩ := O24.callC [2]
    refine (slices_Delete_78.walk P32 rfl g26).mono ?_
    rintro _ h27 ⟨m28, A35, n36, c37, Q29, rfl, ne38⟩
    have O40 := Hold.nm (C34 Q29 (vfs_cons (rR_vf (aE_vf (fun _ _ _ _ h => T_timer_Due.keep h))) vfs_nil))
    subst ne38
    refine ⟨_, _, _, rfl, ?_⟩
    exact timer_Set.j1.walk (O40.pick [0, 1, 3]).nm e_3 e_6 rfl e
  · exact timer_Set.j1.walk (O24.pick [0, 1, 2]).nm e_3 e_6 rfl e
noncomputable def timer_Set.j2 (x_1 : Int) (x_2 : Int) (y_3 : T_timer_Timers) (y_6 : T_timer_Timers) (b_21 : Bool) : Option (T_timer_Timers × Int) :=
  if b_21 = true then (some ((T_timer_Timers.mk (0 : Int) ([] : List T_timer_Due)), (1 : Int))) else ((timer_Set.j0 x_1 x_2 y_3 y_6))
set_option maxRecDepth 100000 in
theorem timer_Set.j2.walk {W : Nat → Prop} {h0 m0 h m : Heap} {bk_3 : Nat} {cs_3 : List Value} {bk_6 : Nat} {cs_6 : List Value} {x_1 : Int} {x_2 : Int} {y_3 : T_timer_Timers} {y_6 : T_timer_Timers} {b_21 : Bool} (O : Hold W h0 m0 h m [rV bk_3 48 cs_3, rV bk_6 48 cs_6]) (e_3 : T_timer_Timers.E m y_3 cs_3) (e_6 : T_timer_Timers.E m y_6 cs_6) {r : T_timer_Timers × Int} (e : timer_Set.j2 x_1 x_2 y_3 y_6 b_21 = some r) : f18.j2 (timer_Set.post W h0 m0 r) x_1 x_2 (⟨bk_3, 0, none⟩ : Addr) (⟨bk_6, 0, none⟩ : Addr) b_21 h := by
  unfold timer_Set.j2 at e
  refine f18.j2_in ?_
  unfold f18.j2T
  refine split_any_e e (fun c4 e => ?_) (fun c4 e => ?_)
  · refine ⟨_, rfl, rfl, ?_⟩
    refine O.stA 1 rfl ((T_timer_Timers.T.len _ _ _ e_6)).symm (Flats.cons trivial (Flats.cons trivial Flats.nil)) fun h1 O2 => ?_
    refine ⟨_, ldAn (Sub.refl _) (O2.all 1 rfl) rfl, ?_⟩
    have O3 := O2.nm
    cases e
    exact ⟨_, _, O3.pick [], rfl, (show T_timer_Timers.E _ (T_timer_Timers.mk (0 : Int) ([] : List T_timer_Due)) [(Value.int .i64 (0 : Int)), (Value.slice none 0 0)] from ⟨_, _, rfl, (by exact Nat.le_refl 0), Rd.nil⟩)⟩
  · exact timer_Set.j0.walk (O.pick [0, 1]).nm e_3 e_6 e
noncomputable def timer_Set (y_0 : T_timer_Timers) (x_1 : Int) (x_2 : Int) : Option (T_timer_Timers × Int) :=
  Option.bind (timer_Check y_0) fun y9 => if y9 = (0 : Int) then (if x_2 < (1 : Int) then ((timer_Set.j2 x_1 x_2 y_0 (T_timer_Timers.mk (0 : Int) ([] : List T_timer_Due)) true)) else ((timer_Set.j2 x_1 x_2 y_0 (T_timer_Timers.mk (0 : Int) ([] : List T_timer_Due)) (decide (x_2 > (1099511627776 : Int)))))) else (some ((T_timer_Timers.mk (0 : Int) ([] : List T_timer_Due)), y9))
set_option maxRecDepth 100000 in
theorem timer_Set.walk {W : Nat → Prop} {h m : Heap} {cs_0 : List Value} {y_0 : T_timer_Timers} {x_1 : Int} {x_2 : Int} (O : Hold W h m h m []) (e_0 : T_timer_Timers.E m y_0 cs_0) {r : T_timer_Timers × Int} (e : timer_Set y_0 x_1 x_2 = some r) : Run Try.prog 18 #[Value.agg cs_0.toArray, Value.int .i64 x_1, Value.int .i64 x_2] h (timer_Set.post W h m r) := by
  unfold timer_Set at e
  refine f18.run ?_
  unfold f18.runT
  refine O.new fun h1 x2 O3 => ?_
  refine O3.new fun h5 x6 O7 => ?_
  refine ⟨_, ldAn (Sub.refl _) (O7.all 0 rfl) (T_timer_Timers.T.len _ _ _ e_0), ?_⟩
  obtain ⟨y9, g10, e⟩ := bind_e e
  refine (timer_Check.walk (Hold.start (W := No) O7.s) e_0 g10).mono ?_
  rintro _ h11 ⟨m12, Q13, rfl⟩
  have O15 := Hold.nm (O7.retC Q13 vfs_nil)
  refine ⟨_, rfl, ?_⟩
  refine split_ne_e e (fun c20 e => ?_) (fun c20 e => ?_)
  · refine ⟨_, rfl, rfl, ?_⟩
    refine O15.stA 1 rfl rfl (Flats.cons trivial (Flats.cons trivial Flats.nil)) fun h16 O17 => ?_
    refine ⟨_, ldAn (Sub.refl _) (O17.all 1 rfl) rfl, ?_⟩
    have O18 := O17.nm
    cases e
    exact ⟨_, _, O18.pick [], rfl, (show T_timer_Timers.E _ (T_timer_Timers.mk (0 : Int) ([] : List T_timer_Due)) [(Value.int .i64 (0 : Int)), (Value.slice none 0 0)] from ⟨_, _, rfl, (by exact Nat.le_refl 0), Rd.nil⟩)⟩
  · refine split_dec_e e (fun c19 e => ?_) (fun c19 e => ?_)
    · exact timer_Set.j2.walk (O15.pick [0, 1]).nm e_0 (show T_timer_Timers.E _ (T_timer_Timers.mk (0 : Int) ([] : List T_timer_Due)) [(Value.int .i64 (0 : Int)), (Value.slice none 0 0)] from ⟨_, _, rfl, (by exact Nat.le_refl 0), Rd.nil⟩) e
    · exact timer_Set.j2.walk (O15.pick [0, 1]).nm e_0 (show T_timer_Timers.E _ (T_timer_Timers.mk (0 : Int) ([] : List T_timer_Due)) [(Value.int .i64 (0 : Int)), (Value.slice none 0 0)] from ⟨_, _, rfl, (by exact Nat.le_refl 0), Rd.nil⟩) e
def timer_Out.post (W : Nat → Prop) (h0 m0 : Heap) (r : T_timer_Timers × Int × Int) (v : Value) (h : Heap) : Prop := ∃ m cs0, Hold W h0 m0 h m [] ∧ v = .tuple #[.agg cs0.toArray, .int .i64 r.2.1, .int .i64 r.2.2] ∧ T_timer_Timers.E m r.1 cs0
noncomputable def timer_Out (y_0 : T_timer_Timers) (x_1 : Int) : Option (T_timer_Timers × Int × Int) :=
  Option.bind (timer_Check y_0) fun y9 => if y9 = (0 : Int) then (Option.bind (timer_find y_0 x_1) fun y19 => if y19 < (0 : Int) then (some ((T_timer_Timers.mk (0 : Int) ([] : List T_timer_Due)), (0 : Int), (4 : Int))) else (Option.bind (gi y_0.Dues y19) fun y39 => Option.bind (slices_Clone_28 y_0.Dues) fun y46 => Option.bind (slices_Delete_78 y46 y19 (IntKind.wrap .i64 (y19 + (1 : Int)))) fun y58 => some ((T_timer_Timers.mk y_0.Now y58), (IntKind.wrap .i64 (y39.At - y_0.Now)), (0 : Int)))) else (some ((T_timer_Timers.mk (0 : Int) ([] : List T_timer_Due)), (0 : Int), y9))
set_option maxHeartbeats 4000000 in
set_option maxRecDepth 100000 in
theorem timer_Out.walk {W : Nat → Prop} {h m : Heap} {cs_0 : List Value} {y_0 : T_timer_Timers} {x_1 : Int} (O : Hold W h m h m []) (e_0 : T_timer_Timers.E m y_0 cs_0) {r : T_timer_Timers × Int × Int} (e : timer_Out y_0 x_1 = some r) : Run Try.prog 19 #[Value.agg cs_0.toArray, Value.int .i64 x_1] h (timer_Out.post W h m r) := by
  unfold timer_Out at e
  refine f19.run ?_
  unfold f19.runT
  refine O.new fun h1 x2 O3 => ?_
  refine O3.new fun h5 x6 O7 => ?_
  refine ⟨_, ldAn (Sub.refl _) (O7.all 0 rfl) (T_timer_Timers.T.len _ _ _ e_0), ?_⟩
  obtain ⟨y9, g10, e⟩ := bind_e e
  refine (timer_Check.walk (Hold.start (W := No) O7.s) e_0 g10).mono ?_
  rintro _ h11 ⟨m12, Q13, rfl⟩
  have O15 := Hold.nm (O7.retC Q13 vfs_nil)
  refine ⟨_, rfl, ?_⟩
  refine split_ne_e e (fun c83 e => ?_) (fun c83 e => ?_)
  · refine ⟨_, rfl, rfl, ?_⟩
    refine O15.stA 1 rfl rfl (Flats.cons trivial (Flats.cons trivial Flats.nil)) fun h16 O17 => ?_
    refine ⟨_, ldAn (Sub.refl _) (O17.all 1 rfl) rfl, ?_⟩
    have O18 := O17.nm
    cases e
    exact ⟨_, _, O18.pick [], rfl, (show T_timer_Timers.E _ (T_timer_Timers.mk (0 : Int) ([] : List T_timer_Due)) [(Value.int .i64 (0 : Int)), (Value.slice none 0 0)] from ⟨_, _, rfl, (by exact Nat.le_refl 0), Rd.nil⟩)⟩
  · refine ⟨_, ldAn (Sub.refl _) (O15.all 0 rfl) (T_timer_Timers.T.len _ _ _ e_0), ?_⟩
    obtain ⟨y19, g20, e⟩ := bind_e e
    refine (timer_find.walk (Hold.start (W := No) O15.s) e_0 g20).mono ?_
    rintro _ h21 ⟨m22, Q23, rfl⟩
    have O25 := Hold.nm (O15.retC Q23 vfs_nil)
    refine ⟨_, rfl, ?_⟩
    refine split_dec_e e (fun c82 e => ?_) (fun c82 e => ?_)
    · refine ⟨_, rfl, rfl, ?_⟩
      refine O25.stA 1 rfl rfl (Flats.cons trivial (Flats.cons trivial Flats.nil)) fun h26 O27 => ?_
      refine ⟨_, ldAn (Sub.refl _) (O27.all 1 rfl) rfl, ?_⟩
      have O28 := O27.nm
      cases e
      exact ⟨_, _, O28.pick [], rfl, (show T_timer_Timers.E _ (T_timer_Timers.mk (0 : Int) ([] : List T_timer_Due)) [(Value.int .i64 (0 : Int)), (Value.slice none 0 0)] from ⟨_, _, rfl, (by exact Nat.le_refl 0), Rd.nil⟩)⟩
    · obtain ⟨A29, c30, q31, k32, r33⟩ := T_timer_Timers.g1 e_0
      refine ⟨_, ldk (k := 1) (Sub.refl _) (O25.all 0 rfl) q31, _, _, _, rfl, ?_⟩
      refine ⟨_, ld0 (Sub.refl _) (O25.all 0 rfl) (T_timer_Timers.g0 e_0), _, rfl, ?_⟩
      obtain ⟨A34, c35, q36, k37, r38⟩ := T_timer_Timers.g1 e_0
      refine ⟨_, ldk (k := 1) (Sub.refl _) (O25.all 0 rfl) q36, _, _, _, rfl, ?_⟩
      obtain ⟨y39, g40, e⟩ := bind_e e
      refine r38.addr rfl g40 fun a41 cs42 ha43 hc44 he45 => ?_
      refine ⟨_, ld0 O25.s hc44 (T_timer_Due.g0 he45), _, rfl, ?_⟩
      refine ⟨_, ld0 (Sub.refl _) (O25.all 0 rfl) (T_timer_Timers.g0 e_0), _, rfl, ?_⟩
      obtain ⟨y46, g47, e⟩ := bind_e e
      refine (slices_Clone_28.walk (Hold.start (W := No) O25.s) rfl k32 r33 g47).mono ?_
      rintro _ h48 ⟨m49, A52, n53, c54, Q50, rfl, ne55⟩
      have O57 := Hold.nm (O25.retC Q50 (vfs_cons (rR_vf (aE_vf (fun _ _ _ _ h => T_timer_Due.keep h))) vfs_nil))
      subst ne55
      refine ⟨_, _, _, rfl, ?_⟩
      refine ⟨ld0 (Sub.refl _) (O57.all 0 rfl) (T_timer_Timers.g0 e_0), ?_⟩
      refine ⟨ldk (k := 1) (Sub.refl _) (O57.all 0 rfl) q36, ?_⟩
      refine ⟨ld0 O57.s hc44 (T_timer_Due.g0 he45), ?_⟩
      refine ⟨ld0 (Sub.refl _) (O57.all 0 rfl) (T_timer_Timers.g0 e_0), ?_⟩
      obtain ⟨y58, g59, e⟩ := bind_e e
      obtain ⟨W64, P65, B66, C67⟩ := O57.callC [2]
      refine (slices_Delete_78.walk P65 rfl g59).mono ?_
      rintro _ h60 ⟨m61, A68, n69, c70, Q62, rfl, ne71⟩
      have O73 := Hold.nm (C67 Q62 (vfs_cons (rR_vf (aE_vf (fun _ _ _ _ h => T_timer_Due.keep h))) vfs_nil))
      subst ne71
      refine ⟨_, _, _, rfl, ?_⟩
      refine ⟨ld0 (Sub.refl _) (O73.all 0 rfl) (T_timer_Timers.g0 e_0), ?_⟩
      refine ⟨ldk (k := 1) (Sub.refl _) (O73.all 0 rfl) q36, ?_⟩
      refine ⟨ld0 O73.s hc44 (T_timer_Due.g0 he45), ?_⟩
      refine ⟨ld0 (Sub.refl _) (O73.all 0 rfl) (T_timer_Timers.g0 e_0), ?_⟩
      refine ⟨ldk (k := 1) (Sub.refl _) (O73.all 0 rfl) q36, ?_⟩
      refine ⟨ld0 O73.s hc44 (T_timer_Due.g0 he45), ?_⟩
      refine ⟨ld0 (Sub.refl _) (O73.all 0 rfl) (T_timer_Timers.g0 e_0), ?_⟩
      refine ⟨_, rfl, rfl, ?_⟩
      refine O73.stA 1 rfl rfl (Flats.cons trivial (Flats.cons trivial Flats.nil)) fun h74 O75 => ?_
      refine ⟨ldk (k := 1) (Sub.refl _) (O75.all 0 rfl) q36, ?_⟩
      refine ⟨ld0 O75.s hc44 (T_timer_Due.g0 he45), ?_⟩
      refine ⟨ld0 (Sub.refl _) (O75.all 0 rfl) (T_timer_Timers.g0 e_0), ?_⟩
      refine ⟨_, ldAn (Sub.refl _) (O75.all 1 rfl) rfl, ?_⟩
      obtain ⟨m76, u77, ⟨r78, k79⟩, O80⟩ := O75.frz 3 rfl
      replace r78 : Rd 2 T_timer_Due.E m76 A68 y58 := r78
      have O81 := O80.nm
      cases e
      exact ⟨_, _, O81.pick [], rfl, (show T_timer_Timers.E _ (T_timer_Timers.mk y_0.Now y58) [(Value.int .i64 y_0.Now), (Value.slice A68 (List.length y58) c70)] from ⟨_, _, rfl, k79, r78⟩)⟩
def timer_Go.post (W : Nat → Prop) (h0 m0 : Heap) (r : T_timer_Timers × (List T_timer_Due) × Int) (v : Value) (h : Heap) : Prop := ∃ m cs0 A1 n1 c1, Hold W h0 m0 h m [rR (aE T_timer_Due.T) A1 c1 r.2.1] ∧ v = .tuple #[.agg cs0.toArray, .slice A1 n1 c1, .int .i64 r.2.2] ∧ T_timer_Timers.E m r.1 cs0 ∧ n1 = List.length r.2.1
noncomputable def timer_Go.j1 (y_2 : T_timer_Timers) (y_4 : T_timer_Timers) (x_8 : Int) (x_9 : Int) : Option (T_timer_Timers × (List T_timer_Due) × Int) :=
  Option.bind (sls y_2.Dues x_9 (((List.length y_2.Dues) : Nat) : Int)) fun l6 => Option.bind (sls y_2.Dues (0 : Int) x_9) fun l16 => Option.bind (slices_Clone_28 l6) fun y21 => Option.bind (slices_Clone_28 l16) fun y33 => some ((T_timer_Timers.mk x_8 y21), y33, (0 : Int))
set_option maxHeartbeats 4000000 in
set_option maxRecDepth 100000 in
theorem timer_Go.j1.walk {W : Nat → Prop} {h0 m0 h m : Heap} {bk_2 : Nat} {cs_2 : List Value} {bk_4 : Nat} {cs_4 : List Value} {y_2 : T_timer_Timers} {y_4 : T_timer_Timers} {x_8 : Int} {x_9 : Int} (O : Hold W h0 m0 h m [rV bk_2 48 cs_2, rV bk_4 48 cs_4]) (e_2 : T_timer_Timers.E m y_2 cs_2) (e_4 : T_timer_Timers.E m y_4 cs_4) {r : T_timer_Timers × (List T_timer_Due) × Int} (e : timer_Go.j1 y_2 y_4 x_8 x_9 = some r) : f20.j1 (timer_Go.post W h0 m0 r) (⟨bk_2, 0, none⟩ : Addr) (⟨bk_4, 0, none⟩ : Addr) x_8 x_9 h := by
  unfold timer_Go.j1 at e
  refine f20.j1_in ?_
  unfold f20.j1T
  obtain ⟨A1, c2, q3, k4, r5⟩ := T_timer_Timers.g1 e_2
  refine ⟨_, ldk (k := 1) (Sub.refl _) (O.all 0 rfl) q3, _, _, _, rfl, ?_⟩
  obtain ⟨l6, g7, e⟩ := bind_e e
  have q8 := sls_e g7
  refine ⟨q8.1, q8.2.1, cap_in q8.2.2.1 k4, ?_⟩
  try rw [q8.2.2.2.1]
  have k9 : List.length l6 ≤ (c2 - Int.toNat x_9) := sls_cap g7 k4
  have r10 := r5.sls g7 (le_mx q8.2.2.1 k4)
  obtain ⟨A11, c12, q13, k14, r15⟩ := T_timer_Timers.g1 e_2
  refine ⟨_, ldk (k := 1) (Sub.refl _) (O.all 0 rfl) q13, _, _, _, rfl, ?_⟩
  obtain ⟨l16, g17, e⟩ := bind_e e
  have q18 := sls_e g17
  refine ⟨q18.1, q18.2.1, cap_in q18.2.2.1 k14, ?_⟩
  try rw [q18.2.2.2.1]
  have k19 : List.length l16 ≤ (c12 - Int.toNat (0 : Int)) := sls_cap g17 k14
  have r20 := r15.sls g17 (le_mx q18.2.2.1 k14)
  obtain ⟨y21, g22, e⟩ := bind_e e
  obtain ⟨y33, g34, e⟩ := bind_e e
  refine (slices_Clone_28.walk (Hold.start (W := No) O.s) rfl k9 r10 g22).mono ?_
  rintro _ h56 ⟨m57, A60, n61, c62, Q58, rfl, ne63⟩
  have O65 := Hold.nm (O.retC Q58 (vfs_cons (rR_vf (aE_vf (fun _ _ _ _ h => T_timer_Due.keep h))) vfs_nil))
  subst ne63
  refine ⟨_, _, _, rfl, ?_⟩
  refine ⟨Q58.S.ext, ?_⟩
  refine ⟨?_, ?_⟩
  · refine ⟨Q58.S.ext, ?_⟩
    refine (slices_Clone_28.walk (Hold.start (W := No) O65.s) rfl k19 r20 g34).mono ?_
    rintro _ h68 ⟨m69, A72, n73, c74, Q70, rfl, ne75⟩
    have O77 := Hold.nm (O65.retC Q70 (vfs_cons (rR_vf (aE_vf (fun _ _ _ _ h => T_timer_Due.keep h))) vfs_nil))
    subst ne75
    refine ⟨_, _, _, rfl, ?_⟩
    refine ⟨_, rfl, rfl, ?_⟩
    refine O77.stAO 1 rfl ((T_timer_Timers.T.len _ _ _ e_4)).symm (Flats.cons trivial (Flats.cons trivial Flats.nil)) fun h78 S80 O79 => ?_
    refine ⟨_, ldAn (Sub.refl _) (O79.all 1 rfl) rfl, ?_⟩
    obtain ⟨m81, u82, ⟨r83, k84⟩, O85⟩ := O79.frz 2 rfl
    replace r83 : Rd 2 T_timer_Due.E m81 A60 y21 := r83
    have O86 := O85.nm
    cases e
    exact ⟨_, _, _, _, _, O86.pick [3], rfl, (show T_timer_Timers.E _ (T_timer_Timers.mk x_8 y21) [(Value.int .i64 x_8), (Value.slice A60 (List.length y21) c62)] from ⟨_, _, rfl, k84, r83⟩), rfl⟩
  · refine (slices_Clone_28.walk (Hold.start (W := No) O65.s) rfl k19 r20 g34).mono ?_
    rintro _ h89 ⟨m90, A93, n94, c95, Q91, rfl, ne96⟩
    have O98 := Hold.nm (O65.retC Q91 (vfs_cons (rR_vf (aE_vf (fun _ _ _ _ h => T_timer_Due.keep h))) vfs_nil))
    subst ne96
    refine ⟨_, _, _, rfl, ?_⟩
    refine ⟨(Q58.S.ext.trans Q91.S.ext), ?_⟩
    refine ⟨_, rfl, rfl, ?_⟩
    refine O98.stAO 1 rfl ((T_timer_Timers.T.len _ _ _ e_4)).symm (Flats.cons trivial (Flats.cons trivial Flats.nil)) fun h99 S101 O100 => ?_
    refine ⟨_, ldAn (Sub.refl _) (O100.all 1 rfl) rfl, ?_⟩
    obtain ⟨m102, u103, ⟨r104, k105⟩, O106⟩ := O100.frz 2 rfl
    replace r104 : Rd 2 T_timer_Due.E m102 A60 y21 := r104
    have O107 := O106.nm
    cases e
    exact ⟨_, _, _, _, _, O107.pick [3], rfl, (show T_timer_Timers.E _ (T_timer_Timers.mk x_8 y21) [(Value.int .i64 x_8), (Value.slice A60 (List.length y21) c62)] from ⟨_, _, rfl, k105, r104⟩), rfl⟩
inductive timer_Go.l0_k.Pt where
  | l0 (y_2 : T_timer_Timers) (y_4 : T_timer_Timers) (x_8 : Int) (x_9 : Int)
  | j2 (y_2 : T_timer_Timers) (y_4 : T_timer_Timers) (x_8 : Int) (x_9 : Int)
noncomputable def timer_Go.l0_k.body (go : (p : timer_Go.l0_k.Pt) → Option (T_timer_Timers × (List T_timer_Due) × Int)) : (p : timer_Go.l0_k.Pt) → Option (T_timer_Timers × (List T_timer_Due) × Int)
  | .l0 y_2 y_4 x_8 x_9 => if x_9 < (((List.length y_2.Dues) : Nat) : Int) then (Option.bind (gi y_2.Dues x_9) fun y11 => if y11.At ≤ x_8 then ((go (.j2 y_2 y_4 x_8 x_9))) else ((timer_Go.j1 y_2 y_4 x_8 x_9))) else ((timer_Go.j1 y_2 y_4 x_8 x_9))
  | .j2 y_2 y_4 x_8 x_9 => (go (.l0 y_2 y_4 x_8 (IntKind.wrap .i64 (x_9 + (1 : Int)))))
theorem timer_Go.l0_k.mono : MonoF (β := fun _ => (T_timer_Timers × (List T_timer_Due) × Int)) timer_Go.l0_k.body := fun f g hfg p => match p with
  | .l0 y_2 y_4 x_8 x_9 => LeO.ite (LeO.bind (LeO.refl _) fun y11 => LeO.ite ((hfg _)) ((LeO.refl _))) ((LeO.refl _))
  | .j2 y_2 y_4 x_8 x_9 => (hfg _)
noncomputable def timer_Go.l0_k.go (p : timer_Go.l0_k.Pt) : Option (T_timer_Timers × (List T_timer_Due) × Int) := fixF (β := fun _ => (T_timer_Timers × (List T_timer_Due) × Int)) timer_Go.l0_k.body p
noncomputable def timer_Go.l0 (y_2 : T_timer_Timers) (y_4 : T_timer_Timers) (x_8 : Int) (x_9 : Int) : Option (T_timer_Timers × (List T_timer_Due) × Int) := timer_Go.l0_k.go (.l0 y_2 y_4 x_8 x_9)
noncomputable def timer_Go.j2 (y_2 : T_timer_Timers) (y_4 : T_timer_Timers) (x_8 : Int) (x_9 : Int) : Option (T_timer_Timers × (List T_timer_Due) × Int) := timer_Go.l0_k.go (.j2 y_2 y_4 x_8 x_9)
theorem timer_Go.l0_eq (y_2 : T_timer_Timers) (y_4 : T_timer_Timers) (x_8 : Int) (x_9 : Int) : timer_Go.l0 y_2 y_4 x_8 x_9 = if x_9 < (((List.length y_2.Dues) : Nat) : Int) then (Option.bind (gi y_2.Dues x_9) fun y11 => if y11.At ≤ x_8 then ((timer_Go.j2 y_2 y_4 x_8 x_9)) else ((timer_Go.j1 y_2 y_4 x_8 x_9))) else ((timer_Go.j1 y_2 y_4 x_8 x_9)) := fixF_eq timer_Go.l0_k.mono _
theorem timer_Go.j2_eq (y_2 : T_timer_Timers) (y_4 : T_timer_Timers) (x_8 : Int) (x_9 : Int) : timer_Go.j2 y_2 y_4 x_8 x_9 = (timer_Go.l0 y_2 y_4 x_8 (IntKind.wrap .i64 (x_9 + (1 : Int)))) := fixF_eq timer_Go.l0_k.mono _
def timer_Go.l0_k.I : (p : timer_Go.l0_k.Pt) → (T_timer_Timers × (List T_timer_Due) × Int) → Prop
  | .l0 y_2 y_4 x_8 x_9, r => ∀ (W : Nat → Prop) (h0 m0 h m : Heap) (bk_2 : Nat) (cs_2 : List Value) (bk_4 : Nat) (cs_4 : List Value) (O : Hold W h0 m0 h m [rV bk_2 48 cs_2, rV bk_4 48 cs_4]) (e_2 : T_timer_Timers.E m y_2 cs_2) (e_4 : T_timer_Timers.E m y_4 cs_4), f20.l0 (timer_Go.post W h0 m0 r) (⟨bk_2, 0, none⟩ : Addr) (⟨bk_4, 0, none⟩ : Addr) x_8 x_9 h
  | .j2 y_2 y_4 x_8 x_9, r => ∀ (W : Nat → Prop) (h0 m0 h m : Heap) (bk_2 : Nat) (cs_2 : List Value) (bk_4 : Nat) (cs_4 : List Value) (O : Hold W h0 m0 h m [rV bk_2 48 cs_2, rV bk_4 48 cs_4]) (e_2 : T_timer_Timers.E m y_2 cs_2) (e_4 : T_timer_Timers.E m y_4 cs_4), f20.j2 (timer_Go.post W h0 m0 r) (⟨bk_2, 0, none⟩ : Addr) (⟨bk_4, 0, none⟩ : Addr) x_8 x_9 h
set_option maxRecDepth 100000 in
theorem timer_Go.l0_k.step_l0 (go : (p : timer_Go.l0_k.Pt) → Option (T_timer_Timers × (List T_timer_Due) × Int)) (ih : ∀ p r, go p = some r → timer_Go.l0_k.I p r) (y_2 : T_timer_Timers) (y_4 : T_timer_Timers) (x_8 : Int) (x_9 : Int) (r : T_timer_Timers × (List T_timer_Due) × Int) (e : timer_Go.l0_k.body go (.l0 y_2 y_4 x_8 x_9) = some r) : timer_Go.l0_k.I (.l0 y_2 y_4 x_8 x_9) r := by
  unfold timer_Go.l0_k.body at e
  intro W h0 m0 h m bk_2 cs_2 bk_4 cs_4 O e_2 e_4
  refine f20.l0_in ?_
  unfold f20.l0T
  obtain ⟨A1, c2, q3, k4, r5⟩ := T_timer_Timers.g1 e_2
  refine ⟨_, ldk (k := 1) (Sub.refl _) (O.all 0 rfl) q3, _, _, _, rfl, ?_⟩
  refine split_dec_e e (fun c19 e => ?_) (fun c19 e => ?_)
  · obtain ⟨A6, c7, q8, k9, r10⟩ := T_timer_Timers.g1 e_2
    refine ⟨_, ldk (k := 1) (Sub.refl _) (O.all 0 rfl) q8, _, _, _, rfl, ?_⟩
    obtain ⟨y11, g12, e⟩ := bind_e e
    refine r10.addr rfl g12 fun a13 cs14 ha15 hc16 he17 => ?_
    refine ⟨_, ld0 O.s hc16 (T_timer_Due.g0 he17), _, rfl, ?_⟩
    refine split_dec_e e (fun c18 e => ?_) (fun c18 e => ?_)
    · exact (ih _ _ e) _ _ _ _ _ _ _ _ _ (O.pick [0, 1]).nm e_2 e_4
    · exact timer_Go.j1.walk (O.pick [0, 1]).nm e_2 e_4 e
  · exact timer_Go.j1.walk (O.pick [0, 1]).nm e_2 e_4 e
set_option maxRecDepth 100000 in
theorem timer_Go.l0_k.step_j2 (go : (p : timer_Go.l0_k.Pt) → Option (T_timer_Timers × (List T_timer_Due) × Int)) (ih : ∀ p r, go p = some r → timer_Go.l0_k.I p r) (y_2 : T_timer_Timers) (y_4 : T_timer_Timers) (x_8 : Int) (x_9 : Int) (r : T_timer_Timers × (List T_timer_Due) × Int) (e : timer_Go.l0_k.body go (.j2 y_2 y_4 x_8 x_9) = some r) : timer_Go.l0_k.I (.j2 y_2 y_4 x_8 x_9) r := by
  unfold timer_Go.l0_k.body at e
  intro W h0 m0 h m bk_2 cs_2 bk_4 cs_4 O e_2 e_4
  refine f20.j2_in ?_
  unfold f20.j2T
  exact (ih _ _ e) _ _ _ _ _ _ _ _ _ (O.pick [0, 1]).nm e_2 e_4
theorem timer_Go.l0_k.all {p : timer_Go.l0_k.Pt} {r : (T_timer_Timers × (List T_timer_Due) × Int)} (e : timer_Go.l0_k.go p = some r) : timer_Go.l0_k.I p r := fixF_ind (β := fun _ => (T_timer_Timers × (List T_timer_Due) × Int)) timer_Go.l0_k.mono (I := timer_Go.l0_k.I) (fun go ih p r e => match p with
  | .l0 y_2 y_4 x_8 x_9 => timer_Go.l0_k.step_l0 go ih y_2 y_4 x_8 x_9 r e
  | .j2 y_2 y_4 x_8 x_9 => timer_Go.l0_k.step_j2 go ih y_2 y_4 x_8 x_9 r e
  ) e
theorem timer_Go.l0.walk {W : Nat → Prop} {h0 m0 h m : Heap} {bk_2 : Nat} {cs_2 : List Value} {bk_4 : Nat} {cs_4 : List Value} {y_2 : T_timer_Timers} {y_4 : T_timer_Timers} {x_8 : Int} {x_9 : Int} (O : Hold W h0 m0 h m [rV bk_2 48 cs_2, rV bk_4 48 cs_4]) (e_2 : T_timer_Timers.E m y_2 cs_2) (e_4 : T_timer_Timers.E m y_4 cs_4) {r : T_timer_Timers × (List T_timer_Due) × Int} (e : timer_Go.l0 y_2 y_4 x_8 x_9 = some r) : f20.l0 (timer_Go.post W h0 m0 r) (⟨bk_2, 0, none⟩ : Addr) (⟨bk_4, 0, none⟩ : Addr) x_8 x_9 h := timer_Go.l0_k.all (p := .l0 y_2 y_4 x_8 x_9) e W h0 m0 h m bk_2 cs_2 bk_4 cs_4 O e_2 e_4
noncomputable def timer_Go.j0 (x_1 : Int) (y_2 : T_timer_Timers) (y_4 : T_timer_Timers) (x_7 : Int) : Option (T_timer_Timers × (List T_timer_Due) × Int) :=
  if x_7 = (0 : Int) then ((timer_Go.l0 y_2 y_4 (IntKind.wrap .i64 (y_2.Now + x_1)) (0 : Int))) else (some ((T_timer_Timers.mk (0 : Int) ([] : List T_timer_Due)), ([] : List T_timer_Due), x_7))
set_option maxRecDepth 100000 in
theorem timer_Go.j0.walk {W : Nat → Prop} {h0 m0 h m : Heap} {bk_2 : Nat} {cs_2 : List Value} {bk_4 : Nat} {cs_4 : List Value} {x_1 : Int} {y_2 : T_timer_Timers} {y_4 : T_timer_Timers} {x_7 : Int} (O : Hold W h0 m0 h m [rV bk_2 48 cs_2, rV bk_4 48 cs_4]) (e_2 : T_timer_Timers.E m y_2 cs_2) (e_4 : T_timer_Timers.E m y_4 cs_4) {r : T_timer_Timers × (List T_timer_Due) × Int} (e : timer_Go.j0 x_1 y_2 y_4 x_7 = some r) : f20.j0 (timer_Go.post W h0 m0 r) x_1 (⟨bk_2, 0, none⟩ : Addr) (⟨bk_4, 0, none⟩ : Addr) x_7 h := by
  unfold timer_Go.j0 at e
  refine f20.j0_in ?_
  unfold f20.j0T
  refine split_ne_e e (fun c6 e => ?_) (fun c6 e => ?_)
  · refine ⟨_, rfl, rfl, ?_⟩
    refine O.stA 1 rfl ((T_timer_Timers.T.len _ _ _ e_4)).symm (Flats.cons trivial (Flats.cons trivial Flats.nil)) fun h1 O2 => ?_
    refine ⟨_, ldAn (Sub.refl _) (O2.all 1 rfl) rfl, ?_⟩
    have O3 := O2.nil (aE T_timer_Due.T) none
    have O5 := O3.nm
    cases e
    exact ⟨_, _, _, _, _, O5.pick [2], rfl, (show T_timer_Timers.E _ (T_timer_Timers.mk (0 : Int) ([] : List T_timer_Due)) [(Value.int .i64 (0 : Int)), (Value.slice none 0 0)] from ⟨_, _, rfl, (by exact Nat.le_refl 0), Rd.nil⟩), rfl⟩
  · refine ⟨_, ld0 (Sub.refl _) (O.all 0 rfl) (T_timer_Timers.g0 e_2), _, rfl, ?_⟩
    exact timer_Go.l0.walk (O.pick [0, 1]).nm e_2 e_4 e
noncomputable def timer_Go (y_0 : T_timer_Timers) (x_1 : Int) : Option (T_timer_Timers × (List T_timer_Due) × Int) :=
  Option.bind (timer_Check y_0) fun y9 => if y9 = (0 : Int) then (if x_1 < (0 : Int) then ((timer_Go.j0 x_1 y_0 (T_timer_Timers.mk (0 : Int) ([] : List T_timer_Due)) (1 : Int))) else (if x_1 > (IntKind.wrap .i64 ((1099511627776 : Int) - y_0.Now)) then ((timer_Go.j0 x_1 y_0 (T_timer_Timers.mk (0 : Int) ([] : List T_timer_Due)) (1 : Int))) else ((timer_Go.j0 x_1 y_0 (T_timer_Timers.mk (0 : Int) ([] : List T_timer_Due)) y9)))) else ((timer_Go.j0 x_1 y_0 (T_timer_Timers.mk (0 : Int) ([] : List T_timer_Due)) y9))
set_option maxRecDepth 100000 in
theorem timer_Go.walk {W : Nat → Prop} {h m : Heap} {cs_0 : List Value} {y_0 : T_timer_Timers} {x_1 : Int} (O : Hold W h m h m []) (e_0 : T_timer_Timers.E m y_0 cs_0) {r : T_timer_Timers × (List T_timer_Due) × Int} (e : timer_Go y_0 x_1 = some r) : Run Try.prog 20 #[Value.agg cs_0.toArray, Value.int .i64 x_1] h (timer_Go.post W h m r) := by
  unfold timer_Go at e
  refine f20.run ?_
  unfold f20.runT
  refine O.new fun h1 x2 O3 => ?_
  refine O3.new fun h5 x6 O7 => ?_
  refine ⟨_, ldAn (Sub.refl _) (O7.all 0 rfl) (T_timer_Timers.T.len _ _ _ e_0), ?_⟩
  obtain ⟨y9, g10, e⟩ := bind_e e
  refine (timer_Check.walk (Hold.start (W := No) O7.s) e_0 g10).mono ?_
  rintro _ h11 ⟨m12, Q13, rfl⟩
  have O15 := Hold.nm (O7.retC Q13 vfs_nil)
  refine ⟨_, rfl, ?_⟩
  refine split_eq_e e (fun c18 e => ?_) (fun c18 e => ?_)
  · refine split_dec_e e (fun c17 e => ?_) (fun c17 e => ?_)
    · exact timer_Go.j0.walk (O15.pick [0, 1]).nm e_0 (show T_timer_Timers.E _ (T_timer_Timers.mk (0 : Int) ([] : List T_timer_Due)) [(Value.int .i64 (0 : Int)), (Value.slice none 0 0)] from ⟨_, _, rfl, (by exact Nat.le_refl 0), Rd.nil⟩) e
    · refine ⟨_, ld0 (Sub.refl _) (O15.all 0 rfl) (T_timer_Timers.g0 e_0), _, rfl, ?_⟩
      refine split_dec_e e (fun c16 e => ?_) (fun c16 e => ?_)
      · exact timer_Go.j0.walk (O15.pick [0, 1]).nm e_0 (show T_timer_Timers.E _ (T_timer_Timers.mk (0 : Int) ([] : List T_timer_Due)) [(Value.int .i64 (0 : Int)), (Value.slice none 0 0)] from ⟨_, _, rfl, (by exact Nat.le_refl 0), Rd.nil⟩) e
      · exact timer_Go.j0.walk (O15.pick [0, 1]).nm e_0 (show T_timer_Timers.E _ (T_timer_Timers.mk (0 : Int) ([] : List T_timer_Due)) [(Value.int .i64 (0 : Int)), (Value.slice none 0 0)] from ⟨_, _, rfl, (by exact Nat.le_refl 0), Rd.nil⟩) e
  · exact timer_Go.j0.walk (O15.pick [0, 1]).nm e_0 (show T_timer_Timers.E _ (T_timer_Timers.mk (0 : Int) ([] : List T_timer_Due)) [(Value.int .i64 (0 : Int)), (Value.slice none 0 0)] from ⟨_, _, rfl, (by exact Nat.le_refl 0), Rd.nil⟩) e
def timer_Next.post (W : Nat → Prop) (h0 m0 : Heap) (r : Int × Int) (v : Value) (h : Heap) : Prop := ∃ m , Hold W h0 m0 h m [] ∧ v = .tuple #[.int .i64 r.1, .int .i64 r.2]
noncomputable def timer_Next (y_0 : T_timer_Timers) : Option (Int × Int) :=
  Option.bind (timer_Check y_0) fun y5 => if y5 = (0 : Int) then (if (((List.length y_0.Dues) : Nat) : Int) = (0 : Int) then (some ((0 : Int), (4 : Int))) else (Option.bind (gi y_0.Dues (0 : Int)) fun y22 => some ((IntKind.wrap .i64 (y22.At - y_0.Now)), (0 : Int)))) else (some ((0 : Int), y5))
set_option maxRecDepth 100000 in
theorem timer_Next.walk {W : Nat → Prop} {h m : Heap} {cs_0 : List Value} {y_0 : T_timer_Timers} (O : Hold W h m h m []) (e_0 : T_timer_Timers.E m y_0 cs_0) {r : Int × Int} (e : timer_Next y_0 = some r) : Run Try.prog 21 #[Value.agg cs_0.toArray] h (timer_Next.post W h m r) := by
  unfold timer_Next at e
  refine f21.run ?_
  unfold f21.runT
  refine O.new fun h1 x2 O3 => ?_
  refine ⟨_, ldAn (Sub.refl _) (O3.all 0 rfl) (T_timer_Timers.T.len _ _ _ e_0), ?_⟩
  obtain ⟨y5, g6, e⟩ := bind_e e
  refine (timer_Check.walk (Hold.start (W := No) O3.s) e_0 g6).mono ?_
  rintro _ h7 ⟨m8, Q9, rfl⟩
  have O11 := Hold.nm (O3.retC Q9 vfs_nil)
  refine ⟨_, rfl, ?_⟩
  refine split_ne_e e (fun c30 e => ?_) (fun c30 e => ?_)
  · cases e
    exact ⟨_, O11.pick [], rfl⟩
  · obtain ⟨A12, c13, q14, k15, r16⟩ := T_timer_Timers.g1 e_0
    refine ⟨_, ldk (k := 1) (Sub.refl _) (O11.all 0 rfl) q14, _, _, _, rfl, ?_⟩
    refine split_eq_e e (fun c29 e => ?_) (fun c29 e => ?_)
    · cases e
      exact ⟨_, O11.pick [], rfl⟩
    · obtain ⟨A17, c18, q19, k20, r21⟩ := T_timer_Timers.g1 e_0
      refine ⟨_, ldk (k := 1) (Sub.refl _) (O11.all 0 rfl) q19, _, _, _, rfl, ?_⟩
      obtain ⟨y22, g23, e⟩ := bind_e e
      refine r21.addr rfl g23 fun a24 cs25 ha26 hc27 he28 => ?_
      refine ⟨_, ld0 O11.s hc27 (T_timer_Due.g0 he28), _, rfl, ?_⟩
      refine ⟨_, ld0 (Sub.refl _) (O11.all 0 rfl) (T_timer_Timers.g0 e_0), _, rfl, ?_⟩
      cases e
      exact ⟨_, O11.pick [], rfl⟩
def roadref3_In.post (W : Nat → Prop) (h0 m0 : Heap) (r : Bool) (v : Value) (h : Heap) : Prop := ∃ m , Hold W h0 m0 h m [] ∧ v = .bool r
noncomputable def roadref3_In (x_0 : Int) (x_1 : Int) (x_2 : Int) : Option (Bool) :=
  if x_0 ≥ x_1 then (some ((decide (x_0 ≤ x_2)))) else (some (false))
set_option maxRecDepth 100000 in
theorem roadref3_In.walk {W : Nat → Prop} {h m : Heap} {x_0 : Int} {x_1 : Int} {x_2 : Int} (O : Hold W h m h m []) {r : Bool} (e : roadref3_In x_0 x_1 x_2 = some r) : Run Try.prog 25 #[Value.int .i64 x_0, Value.int .i64 x_1, Value.int .i64 x_2] h (roadref3_In.post W h m r) := by
  unfold roadref3_In at e
  refine f25.run ?_
  unfold f25.runT
  refine split_dec_e e (fun c1 e => ?_) (fun c1 e => ?_)
  · cases e
    exact ⟨_, O.pick [], rfl⟩
  · cases e
    exact ⟨_, O.pick [], rfl⟩
def roadref3_TimersFault.post (W : Nat → Prop) (h0 m0 : Heap) (r : Int) (v : Value) (h : Heap) : Prop := ∃ m , Hold W h0 m0 h m [] ∧ v = .int .i64 r
inductive roadref3_TimersFault.l0_k.Pt where
  | l0 (y_1 : T_timer_Timers) (a_16 : List T_timer_Due) (x_17 : Int) (x_18 : Int)
  | j0 (y_1 : T_timer_Timers) (x_3 : Int) (y_4 : T_timer_Due) (a_16 : List T_timer_Due) (x_17 : Int) (x_18 : Int)
  | l1 (y_1 : T_timer_Timers) (y_4 : T_timer_Due) (a_16 : List T_timer_Due) (x_17 : Int) (x_18 : Int) (a_71 : List T_timer_Due) (x_72 : Int) (x_73 : Int)
noncomputable def roadref3_TimersFault.l0_k.body (go : (p : roadref3_TimersFault.l0_k.Pt) → Option (Int)) : (p : roadref3_TimersFault.l0_k.Pt) → Option (Int)
  | .l0 y_1 a_16 x_17 x_18 => if x_18 < x_17 then (Option.bind (gi a_16 x_18) fun y1 => Option.bind (roadref3_In y1.At (IntKind.wrap .i64 (y_1.Now + (1 : Int))) (2199023255552 : Int)) fun y14 => if y14 = true then (if x_18 > (0 : Int) then (Option.bind (gi y_1.Dues (IntKind.wrap .i64 (x_18 - (1 : Int)))) fun y26 => if y26.At > y1.At then (some ((21 : Int))) else (Option.bind (gi y_1.Dues (IntKind.wrap .i64 (x_18 - (1 : Int)))) fun y38 => if y38.At = y1.At then (Option.bind (gi y_1.Dues (IntKind.wrap .i64 (x_18 - (1 : Int)))) fun y50 => if y50.Id ≥ y1.Id then (some ((21 : Int))) else ((go (.j0 y_1 x_18 y1 a_16 x_17 x_18)))) else ((go (.j0 y_1 x_18 y1 a_16 x_17 x_18))))) else ((go (.j0 y_1 x_18 y1 a_16 x_17 x_18)))) else (some ((1 : Int)))) else (some ((0 : Int)))
  | .j0 y_1 x_3 y_4 a_16 x_17 x_18 => Option.bind (sls y_1.Dues (0 : Int) x_3) fun l6 => (go (.l1 y_1 y_4 a_16 x_17 x_18 l6 (((List.length l6) : Nat) : Int) (0 : Int)))
  | .l1 y_1 y_4 a_16 x_17 x_18 a_71 x_72 x_73 => if x_73 < x_72 then (Option.bind (gi a_71 x_73) fun y1 => if y1.Id = y_4.Id then (some ((5 : Int))) else ((go (.l1 y_1 y_4 a_16 x_17 x_18 a_71 x_72 (IntKind.wrap .i64 (x_73 + (1 : Int))))))) else ((go (.l0 y_1 a_16 x_17 (IntKind.wrap .i64 (x_18 + (1 : Int))))))
theorem roadref3_TimersFault.l0_k.mono : MonoF (β := fun _ => (Int)) roadref3_TimersFault.l0_k.body := fun f g hfg p => match p with
  | .l0 y_1 a_16 x_17 x_18 => LeO.ite (LeO.bind (LeO.refl _) fun y1 => LeO.bind (LeO.refl _) fun y14 => LeO.ite (LeO.ite (LeO.bind (LeO.refl _) fun y26 => LeO.ite (LeO.refl _) (LeO.bind (LeO.refl _) fun y38 => LeO.ite (LeO.bind (LeO.refl _) fun y50 => LeO.ite (LeO.refl _) ((hfg _))) ((hfg _)))) ((hfg _))) (LeO.refl _)) (LeO.refl _)
  | .j0 y_1 x_3 y_4 a_16 x_17 x_18 => LeO.bind (LeO.refl _) fun l6 => (hfg _)
  | .l1 y_1 y_4 a_16 x_17 x_18 a_71 x_72 x_73 => LeO.ite (LeO.bind (LeO.refl _) fun y1 => LeO.ite (LeO.refl _) ((hfg _))) ((hfg _))
noncomputable def roadref3_TimersFault.l0_k.go (p : roadref3_TimersFault.l0_k.Pt) : Option (Int) := fixF (β := fun _ => (Int)) roadref3_TimersFault.l0_k.body p
noncomputable def roadref3_TimersFault.l0 (y_1 : T_timer_Timers) (a_16 : List T_timer_Due) (x_17 : Int) (x_18 : Int) : Option (Int) := roadref3_TimersFault.l0_k.go (.l0 y_1 a_16 x_17 x_18)
noncomputable def roadref3_TimersFault.j0 (y_1 : T_timer_Timers) (x_3 : Int) (y_4 : T_timer_Due) (a_16 : List T_timer_Due) (x_17 : Int) (x_18 : Int) : Option (Int) := roadref3_TimersFault.l0_k.go (.j0 y_1 x_3 y_4 a_16 x_17 x_18)
noncomputable def roadref3_TimersFault.l1 (y_1 : T_timer_Timers) (y_4 : T_timer_Due) (a_16 : List T_timer_Due) (x_17 : Int) (x_18 : Int) (a_71 : List T_timer_Due) (x_72 : Int) (x_73 : Int) : Option (Int) := roadref3_TimersFault.l0_k.go (.l1 y_1 y_4 a_16 x_17 x_18 a_71 x_72 x_73)
theorem roadref3_TimersFault.l0_eq (y_1 : T_timer_Timers) (a_16 : List T_timer_Due) (x_17 : Int) (x_18 : Int) : roadref3_TimersFault.l0 y_1 a_16 x_17 x_18 = if x_18 < x_17 then (Option.bind (gi a_16 x_18) fun y1 => Option.bind (roadref3_In y1.At (IntKind.wrap .i64 (y_1.Now + (1 : Int))) (2199023255552 : Int)) fun y14 => if y14 = true then (if x_18 > (0 : Int) then (Option.bind (gi y_1.Dues (IntKind.wrap .i64 (x_18 - (1 : Int)))) fun y26 => if y26.At > y1.At then (some ((21 : Int))) else (Option.bind (gi y_1.Dues (IntKind.wrap .i64 (x_18 - (1 : Int)))) fun y38 => if y38.At = y1.At then (Option.bind (gi y_1.Dues (IntKind.wrap .i64 (x_18 - (1 : Int)))) fun y50 => if y50.Id ≥ y1.Id then (some ((21 : Int))) else ((roadref3_TimersFault.j0 y_1 x_18 y1 a_16 x_17 x_18))) else ((roadref3_TimersFault.j0 y_1 x_18 y1 a_16 x_17 x_18)))) else ((roadref3_TimersFault.j0 y_1 x_18 y1 a_16 x_17 x_18))) else (some ((1 : Int)))) else (some ((0 : Int))) := fixF_eq roadref3_TimersFault.l0_k.mono _
theorem roadref3_TimersFault.j0_eq (y_1 : T_timer_Timers) (x_3 : Int) (y_4 : T_timer_Due) (a_16 : List T_timer_Due) (x_17 : Int) (x_18 : Int) : roadref3_TimersFault.j0 y_1 x_3 y_4 a_16 x_17 x_18 = Option.bind (sls y_1.Dues (0 : Int) x_3) fun l6 => (roadref3_TimersFault.l1 y_1 y_4 a_16 x_17 x_18 l6 (((List.length l6) : Nat) : Int) (0 : Int)) := fixF_eq roadref3_TimersFault.l0_k.mono _
theorem roadref3_TimersFault.l1_eq (y_1 : T_timer_Timers) (y_4 : T_timer_Due) (a_16 : List T_timer_Due) (x_17 : Int) (x_18 : Int) (a_71 : List T_timer_Due) (x_72 : Int) (x_73 : Int) : roadref3_TimersFault.l1 y_1 y_4 a_16 x_17 x_18 a_71 x_72 x_73 = if x_73 < x_72 then (Option.bind (gi a_71 x_73) fun y1 => if y1.Id = y_4.Id then (some ((5 : Int))) else ((roadref3_TimersFault.l1 y_1 y_4 a_16 x_17 x_18 a_71 x_72 (IntKind.wrap .i64 (x_73 + (1 : Int)))))) else ((roadref3_TimersFault.l0 y_1 a_16 x_17 (IntKind.wrap .i64 (x_18 + (1 : Int))))) := fixF_eq roadref3_TimersFault.l0_k.mono _
def roadref3_TimersFault.l0_k.I : (p : roadref3_TimersFault.l0_k.Pt) → (Int) → Prop
  | .l0 y_1 a_16 x_17 x_18, r => ∀ (W : Nat → Prop) (h0 m0 h m : Heap) (bk_1 : Nat) (cs_1 : List Value) (A_16 : Option Addr) (n_16 c_16 : Nat) (O : Hold W h0 m0 h m [rV bk_1 48 cs_1]) (e_1 : T_timer_Timers.E m y_1 cs_1) (ne_16 : n_16 = List.length a_16) (k_16 : List.length a_16 ≤ c_16) (r_16 : Rd 2 T_timer_Due.E m A_16 a_16), f22.l0 (roadref3_TimersFault.post W h0 m0 r) (⟨bk_1, 0, none⟩ : Addr) A_16 n_16 c_16 x_17 x_18 h
  | .j0 y_1 x_3 y_4 a_16 x_17 x_18, r => ∀ (W : Nat → Prop) (h0 m0 h m : Heap) (bk_1 : Nat) (cs_1 : List Value) (bk_4 : Nat) (cs_4 : List Value) (A_16 : Option Addr) (n_16 c_16 : Nat) (O : Hold W h0 m0 h m [rV bk_1 48 cs_1, rV bk_4 60 cs_4]) (e_1 : T_timer_Timers.E m y_1 cs_1) (e_4 : T_timer_Due.E m y_4 cs_4) (ne_16 : n_16 = List.length a_16) (k_16 : List.length a_16 ≤ c_16) (r_16 : Rd 2 T_timer_Due.E m A_16 a_16), f22.j0 (roadref3_TimersFault.post W h0 m0 r) (⟨bk_1, 0, none⟩ : Addr) x_3 (⟨bk_4, 0, none⟩ : Addr) A_16 n_16 c_16 x_17 x_18 h
  | .l1 y_1 y_4 a_16 x_17 x_18 a_71 x_72 x_73, r => ∀ (W : Nat → Prop) (h0 m0 h m : Heap) (bk_1 : Nat) (cs_1 : List Value) (bk_4 : Nat) (cs_4 : List Value) (A_16 : Option Addr) (n_16 c_16 : Nat) (A_71 : Option Addr) (n_71 c_71 : Nat) (O : Hold W h0 m0 h m [rV bk_1 48 cs_1, rV bk_4 60 cs_4]) (e_1 : T_timer_Timers.E m y_1 cs_1) (e_4 : T_timer_Due.E m y_4 cs_4) (ne_16 : n_16 = List.length a_16) (k_16 : List.length a_16 ≤ c_16) (r_16 : Rd 2 T_timer_Due.E m A_16 a_16) (ne_71 : n_71 = List.length a_71) (k_71 : List.length a_71 ≤ c_71) (r_71 : Rd 2 T_timer_Due.E m A_71 a_71), f22.l1 (roadref3_TimersFault.post W h0 m0 r) (⟨bk_1, 0, none⟩ : Addr) (⟨bk_4, 0, none⟩ : Addr) A_16 n_16 c_16 x_17 x_18 A_71 n_71 c_71 x_72 x_73 h
set_option maxHeartbeats 4000000 in
set_option maxRecDepth 100000 in
theorem roadref3_TimersFault.l0_k.step_l0 (go : (p : roadref3_TimersFault.l0_k.Pt) → Option (Int)) (ih : ∀ p r, go p = some r → roadref3_TimersFault.l0_k.I p r) (y_1 : T_timer_Timers) (a_16 : List T_timer_Due) (x_17 : Int) (x_18 : Int) (r : Int) (e : roadref3_TimersFault.l0_k.body go (.l0 y_1 a_16 x_17 x_18) = some r) : roadref3_TimersFault.l0_k.I (.l0 y_1 a_16 x_17 x_18) r := by
  unfold roadref3_TimersFault.l0_k.body at e
  intro W h0 m0 h m bk_1 cs_1 A_16 n_16 c_16 O e_1 ne_16 k_16 r_16
  subst ne_16
  refine f22.l0_in ?_
  unfold f22.l0T
  refine split_dec_e e (fun c62 e => ?_) (fun c62 e => ?_)
  · obtain ⟨y1, g2, e⟩ := bind_e e
    refine r_16.addr rfl g2 fun a3 cs4 ha5 hc6 he7 => ?_
    refine ⟨_, ldAn O.s hc6 rfl, ?_⟩
    refine O.new fun h8 x9 O10 => ?_
    refine ⟨_, rfl, (T_timer_Due.T.len _ _ _ he7), ?_⟩
    refine O10.stA 1 rfl (T_timer_Due.T.len _ _ _ he7) (T_timer_Due.T.flat _ _ _ he7) fun h12 O13 => ?_
    refine ⟨_, ld0 (Sub.refl _) (O13.all 1 rfl) (T_timer_Due.g0 he7), _, rfl, ?_⟩
    refine ⟨_, ld0 (Sub.refl _) (O13.all 0 rfl) (T_timer_Timers.g0 e_1), _, rfl, ?_⟩
    obtain ⟨y14, g15, e⟩ := bind_e e
    refine (roadref3_In.walk (Hold.start (W := No) O13.s)  g15).mono ?_
    rintro _ h16 ⟨m17, Q18, rfl⟩
    have O20 := Hold.nm (O13.retC Q18 vfs_nil)
    refine ⟨_, rfl, ?_⟩
    refine split_not ?_
    refine split_any_e e (fun c61 e => ?_) (fun c61 e => ?_)
    · refine split_dec_e e (fun c60 e => ?_) (fun c60 e => ?_)
      · obtain ⟨A21, c22, q23, k24, r25⟩ := T_timer_Timers.g1 e_1
        refine ⟨_, ldk (k := 1) (Sub.refl _) (O20.all 0 rfl) q23, _, _, _, rfl, ?_⟩
        obtain ⟨y26, g27, e⟩ := bind_e e
        refine r25.addr rfl g27 fun a28 cs29 ha30 hc31 he32 => ?_
        refine ⟨_, ld0 O20.s hc31 (T_timer_Due.g0 he32), _, rfl, ?_⟩
        refine ⟨_, ld0 (Sub.refl _) (O20.all 1 rfl) (T_timer_Due.g0 he7), _, rfl, ?_⟩
        refine split_dec_e e (fun c59 e => ?_) (fun c59 e => ?_)
        · cases e
          exact ⟨_, O20.pick [], rfl⟩
        · obtain ⟨A33, c34, q35, k36, r37⟩ := T_timer_Timers.g1 e_1
          refine ⟨_, ldk (k := 1) (Sub.refl _) (O20.all 0 rfl) q35, _, _, _, rfl, ?_⟩
          obtain ⟨y38, g39, e⟩ := bind_e e
          refine r37.addr rfl g39 fun a40 cs41 ha42 hc43 he44 => ?_
          refine ⟨_, ld0 O20.s hc43 (T_timer_Due.g0 he44), _, rfl, ?_⟩
          refine ⟨_, ld0 (Sub.refl _) (O20.all 1 rfl) (T_timer_Due.g0 he7), _, rfl, ?_⟩
          refine split_eq_e e (fun c58 e => ?_) (fun c58 e => ?_)
          · obtain ⟨A45, c46, q47, k48, r49⟩ := T_timer_Timers.g1 e_1
            refine ⟨_, ldk (k := 1) (Sub.refl _) (O20.all 0 rfl) q47, _, _, _, rfl, ?_⟩
            obtain ⟨y50, g51, e⟩ := bind_e e
            refine r49.addr rfl g51 fun a52 cs53 ha54 hc55 he56 => ?_
            refine ⟨_, ldk (k := 1) O20.s hc55 (T_timer_Due.g1 he56), _, rfl, ?_⟩
            refine ⟨_, ldk (k := 1) (Sub.refl _) (O20.all 1 rfl) (T_timer_Due.g1 he7), _, rfl, ?_⟩
            refine split_dec_e e (fun c57 e => ?_) (fun c57 e => ?_)
            · cases e
              exact ⟨_, O20.pick [], rfl⟩
            · exact (ih _ _ e) _ _ _ _ _ _ _ _ _ _ _ _ (O20.pick [0, 1]).nm e_1 he7 rfl k_16 r_16
          · exact (ih _ _ e) _ _ _ _ _ _ _ _ _ _ _ _ (O20.pick [0, 1]).nm e_1 he7 rfl k_16 r_16
      · exact (ih _ _ e) _ _ _ _ _ _ _ _ _ _ _ _ (O20.pick [0, 1]).nm e_1 he7 rfl k_16 r_16
    · cases e
      exact ⟨_, O20.pick [], rfl⟩
  · cases e
    exact ⟨_, O.pick [], rfl⟩
set_option maxRecDepth 100000 in
theorem roadref3_TimersFault.l0_k.step_j0 (go : (p : roadref3_TimersFault.l0_k.Pt) → Option (Int)) (ih : ∀ p r, go p = some r → roadref3_TimersFault.l0_k.I p r) (y_1 : T_timer_Timers) (x_3 : Int) (y_4 : T_timer_Due) (a_16 : List T_timer_Due) (x_17 : Int) (x_18 : Int) (r : Int) (e : roadref3_TimersFault.l0_k.body go (.j0 y_1 x_3 y_4 a_16 x_17 x_18) = some r) : roadref3_TimersFault.l0_k.I (.j0 y_1 x_3 y_4 a_16 x_17 x_18) r := by
  unfold roadref3_TimersFault.l0_k.body at e
  intro W h0 m0 h m bk_1 cs_1 bk_4 cs_4 A_16 n_16 c_16 O e_1 e_4 ne_16 k_16 r_16
  subst ne_16
  refine f22.j0_in ?_
  unfold f22.j0T
  obtain ⟨A1, c2, q3, k4, r5⟩ := T_timer_Timers.g1 e_1
  refine ⟨_, ldk (k := 1) (Sub.refl _) (O.all 0 rfl) q3, _, _, _, rfl, ?_⟩
  obtain ⟨l6, g7, e⟩ := bind_e e
  have q8 := sls_e g7
  refine ⟨q8.1, q8.2.1, cap_in q8.2.2.1 k4, ?_⟩
  try rw [q8.2.2.2.1]
  have k9 : List.length l6 ≤ (c2 - Int.toNat (0 : Int)) := sls_cap g7 k4
  have r10 := r5.sls g7 (le_mx q8.2.2.1 k4)
  exact (ih _ _ e) _ _ _ _ _ _ _ _ _ _ _ _ _ _ _ (O.pick [0, 1]).nm e_1 e_4 rfl k_16 r_16 rfl k9 r10
set_option maxRecDepth 100000 in
theorem roadref3_TimersFault.l0_k.step_l1 (go : (p : roadref3_TimersFault.l0_k.Pt) → Option (Int)) (ih : ∀ p r, go p = some r → roadref3_TimersFault.l0_k.I p r) (y_1 : T_timer_Timers) (y_4 : T_timer_Due) (a_16 : List T_timer_Due) (x_17 : Int) (x_18 : Int) (a_71 : List T_timer_Due) (x_72 : Int) (x_73 : Int) (r : Int) (e : roadref3_TimersFault.l0_k.body go (.l1 y_1 y_4 a_16 x_17 x_18 a_71 x_72 x_73) = some r) : roadref3_TimersFault.l0_k.I (.l1 y_1 y_4 a_16 x_17 x_18 a_71 x_72 x_73) r := by
  unfold roadref3_TimersFault.l0_k.body at e
  intro W h0 m0 h m bk_1 cs_1 bk_4 cs_4 A_16 n_16 c_16 A_71 n_71 c_71 O e_1 e_4 ne_16 k_16 r_16 ne_71 k_71 r_71
  subst ne_16
  subst ne_71
  refine f22.l1_in ?_
  unfold f22.l1T
  refine split_dec_e e (fun c17 e => ?_) (fun c17 e => ?_)
  · obtain ⟨y1, g2, e⟩ := bind_e e
    refine r_71.addr rfl g2 fun a3 cs4 ha5 hc6 he7 => ?_
    refine ⟨_, ldAn O.s hc6 rfl, ?_⟩
    refine O.new fun h8 x9 O10 => ?_
    refine ⟨_, rfl, (T_timer_Due.T.len _ _ _ he7), ?_⟩
    refine O10.stA 2 rfl (T_timer_Due.T.len _ _ _ he7) (T_timer_Due.T.flat _ _ _ he7) fun h12 O13 => ?_
    refine ⟨_, ldk (k := 1) (Sub.refl _) (O13.all 2 rfl) (T_timer_Due.g1 he7), _, rfl, ?_⟩
    refine ⟨_, ldk (k := 1) (Sub.refl _) (O13.all 1 rfl) (T_timer_Due.g1 e_4), _, rfl, ?_⟩
    refine split_eq_e e (fun c16 e => ?_) (fun c16 e => ?_)
    · have O14 := O13.nm
      cases e
      exact ⟨_, O14.pick [], rfl⟩
    · have O15 := O13.nm
      exact (ih _ _ e) _ _ _ _ _ _ _ _ _ _ _ _ _ _ _ (O15.pick [0, 1]).nm e_1 e_4 rfl k_16 r_16 rfl k_71 r_71
  · exact (ih _ _ e) _ _ _ _ _ _ _ _ _ _ (O.pick [0]).nm e_1 rfl k_16 r_16
theorem roadref3_TimersFault.l0_k.all {p : roadref3_TimersFault.l0_k.Pt} {r : (Int)} (e : roadref3_TimersFault.l0_k.go p = some r) : roadref3_TimersFault.l0_k.I p r := fixF_ind (β := fun _ => (Int)) roadref3_TimersFault.l0_k.mono (I := roadref3_TimersFault.l0_k.I) (fun go ih p r e => match p with
  | .l0 y_1 a_16 x_17 x_18 => roadref3_TimersFault.l0_k.step_l0 go ih y_1 a_16 x_17 x_18 r e
  | .j0 y_1 x_3 y_4 a_16 x_17 x_18 => roadref3_TimersFault.l0_k.step_j0 go ih y_1 x_3 y_4 a_16 x_17 x_18 r e
  | .l1 y_1 y_4 a_16 x_17 x_18 a_71 x_72 x_73 => roadref3_TimersFault.l0_k.step_l1 go ih y_1 y_4 a_16 x_17 x_18 a_71 x_72 x_73 r e
  ) e
theorem roadref3_TimersFault.l0.walk {W : Nat → Prop} {h0 m0 h m : Heap} {bk_1 : Nat} {cs_1 : List Value} {A_16 : Option Addr} {n_16 c_16 : Nat} {y_1 : T_timer_Timers} {a_16 : List T_timer_Due} {x_17 : Int} {x_18 : Int} (O : Hold W h0 m0 h m [rV bk_1 48 cs_1]) (e_1 : T_timer_Timers.E m y_1 cs_1) (ne_16 : n_16 = List.length a_16) (k_16 : List.length a_16 ≤ c_16) (r_16 : Rd 2 T_timer_Due.E m A_16 a_16) {r : Int} (e : roadref3_TimersFault.l0 y_1 a_16 x_17 x_18 = some r) : f22.l0 (roadref3_TimersFault.post W h0 m0 r) (⟨bk_1, 0, none⟩ : Addr) A_16 n_16 c_16 x_17 x_18 h := roadref3_TimersFault.l0_k.all (p := .l0 y_1 a_16 x_17 x_18) e W h0 m0 h m bk_1 cs_1 A_16 n_16 c_16 O e_1 ne_16 k_16 r_16
noncomputable def roadref3_TimersFault (y_0 : T_timer_Timers) : Option (Int) :=
  if (((List.length y_0.Dues) : Nat) : Int) > (100 : Int) then (some ((2 : Int))) else (Option.bind (roadref3_In y_0.Now (0 : Int) (1099511627776 : Int)) fun y11 => if y11 = true then ((roadref3_TimersFault.l0 y_0 y_0.Dues (((List.length y_0.Dues) : Nat) : Int) (0 : Int))) else (some ((1 : Int))))
set_option maxRecDepth 100000 in
theorem roadref3_TimersFault.walk {W : Nat → Prop} {h m : Heap} {cs_0 : List Value} {y_0 : T_timer_Timers} (O : Hold W h m h m []) (e_0 : T_timer_Timers.E m y_0 cs_0) {r : Int} (e : roadref3_TimersFault y_0 = some r) : Run Try.prog 22 #[Value.agg cs_0.toArray] h (roadref3_TimersFault.post W h m r) := by
  unfold roadref3_TimersFault at e
  refine f22.run ?_
  unfold f22.runT
  refine O.new fun h1 x2 O3 => ?_
  obtain ⟨A5, c6, q7, k8, r9⟩ := T_timer_Timers.g1 e_0
  refine ⟨_, ldk (k := 1) (Sub.refl _) (O3.all 0 rfl) q7, _, _, _, rfl, ?_⟩
  refine split_dec_e e (fun c24 e => ?_) (fun c24 e => ?_)
  · have O10 := O3.nm
    cases e
    exact ⟨_, O10.pick [], rfl⟩
  · refine ⟨_, ld0 (Sub.refl _) (O3.all 0 rfl) (T_timer_Timers.g0 e_0), _, rfl, ?_⟩
    obtain ⟨y11, g12, e⟩ := bind_e e
    refine (roadref3_In.walk (Hold.start (W := No) O3.s)  g12).mono ?_
    rintro _ h13 ⟨m14, Q15, rfl⟩
    have O17 := Hold.nm (O3.retC Q15 vfs_nil)
    refine ⟨_, rfl, ?_⟩
    refine split_not ?_
    refine split_any_e e (fun c23 e => ?_) (fun c23 e => ?_)
    · obtain ⟨A18, c19, q20, k21, r22⟩ := T_timer_Timers.g1 e_0
      refine ⟨_, ldk (k := 1) (Sub.refl _) (O17.all 0 rfl) q20, _, _, _, rfl, ?_⟩
      exact roadref3_TimersFault.l0.walk (O17.pick [0]).nm e_0 rfl k21 r22 e
    · cases e
      exact ⟨_, O17.pick [], rfl⟩
def roadref3_SameDues.post (W : Nat → Prop) (h0 m0 : Heap) (r : Bool) (v : Value) (h : Heap) : Prop := ∃ m , Hold W h0 m0 h m [] ∧ v = .bool r
inductive roadref3_SameDues.l0_k.Pt where
  | l0 (a_0 : List T_timer_Due) (a_1 : List T_timer_Due) (x_12 : Int) (x_13 : Int)
noncomputable def roadref3_SameDues.l0_k.body (go : (p : roadref3_SameDues.l0_k.Pt) → Option (Bool)) : (p : roadref3_SameDues.l0_k.Pt) → Option (Bool)
  | .l0 a_0 a_1 x_12 x_13 => if x_13 < x_12 then (Option.bind (gi a_0 x_13) fun y1 => Option.bind (gi a_1 x_13) fun y8 => if ((y1.At == y8.At) && ((y1.Id == y8.Id) && true)) = true then ((go (.l0 a_0 a_1 x_12 (IntKind.wrap .i64 (x_13 + (1 : Int)))))) else (some (false))) else (some (true))
theorem roadref3_SameDues.l0_k.mono : MonoF (β := fun _ => (Bool)) roadref3_SameDues.l0_k.body := fun f g hfg p => match p with
  | .l0 a_0 a_1 x_12 x_13 => LeO.ite (LeO.bind (LeO.refl _) fun y1 => LeO.bind (LeO.refl _) fun y8 => LeO.ite ((hfg _)) (LeO.refl _)) (LeO.refl _)
noncomputable def roadref3_SameDues.l0_k.go (p : roadref3_SameDues.l0_k.Pt) : Option (Bool) := fixF (β := fun _ => (Bool)) roadref3_SameDues.l0_k.body p
noncomputable def roadref3_SameDues.l0 (a_0 : List T_timer_Due) (a_1 : List T_timer_Due) (x_12 : Int) (x_13 : Int) : Option (Bool) := roadref3_SameDues.l0_k.go (.l0 a_0 a_1 x_12 x_13)
theorem roadref3_SameDues.l0_eq (a_0 : List T_timer_Due) (a_1 : List T_timer_Due) (x_12 : Int) (x_13 : Int) : roadref3_SameDues.l0 a_0 a_1 x_12 x_13 = if x_13 < x_12 then (Option.bind (gi a_0 x_13) fun y1 => Option.bind (gi a_1 x_13) fun y8 => if ((y1.At == y8.At) && ((y1.Id == y8.Id) && true)) = true then ((roadref3_SameDues.l0 a_0 a_1 x_12 (IntKind.wrap .i64 (x_13 + (1 : Int))))) else (some (false))) else (some (true)) := fixF_eq roadref3_SameDues.l0_k.mono _
def roadref3_SameDues.l0_k.I : (p : roadref3_SameDues.l0_k.Pt) → (Bool) → Prop
  | .l0 a_0 a_1 x_12 x_13, r => ∀ (W : Nat → Prop) (h0 m0 h m : Heap) (A_0 : Option Addr) (n_0 c_0 : Nat) (A_1 : Option Addr) (n_1 c_1 : Nat) (O : Hold W h0 m0 h m []) (ne_0 : n_0 = List.length a_0) (k_0 : List.length a_0 ≤ c_0) (r_0 : Rd 2 T_timer_Due.E m A_0 a_0) (ne_1 : n_1 = List.length a_1) (k_1 : List.length a_1 ≤ c_1) (r_1 : Rd 2 T_timer_Due.E m A_1 a_1), f26.l0 (roadref3_SameDues.post W h0 m0 r) A_0 n_0 c_0 A_1 n_1 c_1 x_12 x_13 h
set_option maxRecDepth 100000 in
theorem roadref3_SameDues.l0_k.step_l0 (go : (p : roadref3_SameDues.l0_k.Pt) → Option (Bool)) (ih : ∀ p r, go p = some r → roadref3_SameDues.l0_k.I p r) (a_0 : List T_timer_Due) (a_1 : List T_timer_Due) (x_12 : Int) (x_13 : Int) (r : Bool) (e : roadref3_SameDues.l0_k.body go (.l0 a_0 a_1 x_12 x_13) = some r) : roadref3_SameDues.l0_k.I (.l0 a_0 a_1 x_12 x_13) r := by
  unfold roadref3_SameDues.l0_k.body at e
  intro W h0 m0 h m A_0 n_0 c_0 A_1 n_1 c_1 O ne_0 k_0 r_0 ne_1 k_1 r_1
  subst ne_0
  subst ne_1
  refine f26.l0_in ?_
  unfold f26.l0T
  refine split_dec_e e (fun c18 e => ?_) (fun c18 e => ?_)
  · obtain ⟨y1, g2, e⟩ := bind_e e
    refine r_0.addr rfl g2 fun a3 cs4 ha5 hc6 he7 => ?_
    obtain ⟨y8, g9, e⟩ := bind_e e
    refine r_1.addr rfl g9 fun a10 cs11 ha12 hc13 he14 => ?_
    refine ⟨_, ldAn O.s hc6 rfl, ?_⟩
    refine ⟨_, ldAn O.s hc13 rfl, ?_⟩
    obtain rfl : cs4 = [(Value.int .i64 y1.At), (Value.int .i64 y1.Id)] := he7
    obtain rfl : cs11 = [(Value.int .i64 y8.At), (Value.int .i64 y8.Id)] := he14
    refine gen_neq (b := ((y1.At == y8.At) && ((y1.Id == y8.Id) && true))) (by kernel_rfl) ?_
    refine ⟨_, rfl, ?_⟩
    refine split_not ?_
    refine split_any_e e (fun c17 e => ?_) (fun c17 e => ?_)
    · exact (ih _ _ e) _ _ _ _ _ _ _ _ _ _ _ (O.pick []).nm rfl k_0 r_0 rfl k_1 r_1
    · cases e
      exact ⟨_, O.pick [], rfl⟩
  · cases e
    exact ⟨_, O.pick [], rfl⟩
theorem roadref3_SameDues.l0_k.all {p : roadref3_SameDues.l0_k.Pt} {r : (Bool)} (e : roadref3_SameDues.l0_k.go p = some r) : roadref3_SameDues.l0_k.I p r := fixF_ind (β := fun _ => (Bool)) roadref3_SameDues.l0_k.mono (I := roadref3_SameDues.l0_k.I) (fun go ih p r e => match p with
  | .l0 a_0 a_1 x_12 x_13 => roadref3_SameDues.l0_k.step_l0 go ih a_0 a_1 x_12 x_13 r e
  ) e
theorem roadref3_SameDues.l0.walk {W : Nat → Prop} {h0 m0 h m : Heap} {A_0 : Option Addr} {n_0 c_0 : Nat} {A_1 : Option Addr} {n_1 c_1 : Nat} {a_0 : List T_timer_Due} {a_1 : List T_timer_Due} {x_12 : Int} {x_13 : Int} (O : Hold W h0 m0 h m []) (ne_0 : n_0 = List.length a_0) (k_0 : List.length a_0 ≤ c_0) (r_0 : Rd 2 T_timer_Due.E m A_0 a_0) (ne_1 : n_1 = List.length a_1) (k_1 : List.length a_1 ≤ c_1) (r_1 : Rd 2 T_timer_Due.E m A_1 a_1) {r : Bool} (e : roadref3_SameDues.l0 a_0 a_1 x_12 x_13 = some r) : f26.l0 (roadref3_SameDues.post W h0 m0 r) A_0 n_0 c_0 A_1 n_1 c_1 x_12 x_13 h := roadref3_SameDues.l0_k.all (p := .l0 a_0 a_1 x_12 x_13) e W h0 m0 h m A_0 n_0 c_0 A_1 n_1 c_1 O ne_0 k_0 r_0 ne_1 k_1 r_1
noncomputable def roadref3_SameDues (a_0 : List T_timer_Due) (a_1 : List T_timer_Due) : Option (Bool) :=
  if (((List.length a_0) : Nat) : Int) = (((List.length a_1) : Nat) : Int) then ((roadref3_SameDues.l0 a_0 a_1 (((List.length a_0) : Nat) : Int) (0 : Int))) else (some (false))
set_option maxRecDepth 100000 in
theorem roadref3_SameDues.walk {W : Nat → Prop} {h m : Heap} {A_0 : Option Addr} {n_0 c_0 : Nat} {A_1 : Option Addr} {n_1 c_1 : Nat} {a_0 : List T_timer_Due} {a_1 : List T_timer_Due} (O : Hold W h m h m []) (ne_0 : n_0 = List.length a_0) (k_0 : List.length a_0 ≤ c_0) (r_0 : Rd 2 T_timer_Due.E m A_0 a_0) (ne_1 : n_1 = List.length a_1) (k_1 : List.length a_1 ≤ c_1) (r_1 : Rd 2 T_timer_Due.E m A_1 a_1) {r : Bool} (e : roadref3_SameDues a_0 a_1 = some r) : Run Try.prog 26 #[Value.slice A_0 n_0 c_0, Value.slice A_1 n_1 c_1] h (roadref3_SameDues.post W h m r) := by
  unfold roadref3_SameDues at e
  subst ne_0
  subst ne_1
  refine f26.run ?_
  unfold f26.runT
  refine split_ne_e e (fun c1 e => ?_) (fun c1 e => ?_)
  · cases e
    exact ⟨_, O.pick [], rfl⟩
  · exact roadref3_SameDues.l0.walk (O.pick []).nm rfl k_0 r_0 rfl k_1 r_1 e
def roadref3_SameTimers.post (W : Nat → Prop) (h0 m0 : Heap) (r : Bool) (v : Value) (h : Heap) : Prop := ∃ m , Hold W h0 m0 h m [] ∧ v = .bool r
noncomputable def roadref3_SameTimers (y_0 : T_timer_Timers) (y_1 : T_timer_Timers) : Option (Bool) :=
  if y_0.Now = y_1.Now then (Option.bind (roadref3_SameDues y_0.Dues y_1.Dues) fun y19 => some (y19)) else (some (false))
set_option maxRecDepth 100000 in
theorem roadref3_SameTimers.walk {W : Nat → Prop} {h m : Heap} {cs_0 : List Value} {cs_1 : List Value} {y_0 : T_timer_Timers} {y_1 : T_timer_Timers} (O : Hold W h m h m []) (e_0 : T_timer_Timers.E m y_0 cs_0) (e_1 : T_timer_Timers.E m y_1 cs_1) {r : Bool} (e : roadref3_SameTimers y_0 y_1 = some r) : Run Try.prog 24 #[Value.agg cs_0.toArray, Value.agg cs_1.toArray] h (roadref3_SameTimers.post W h m r) := by
  unfold roadref3_SameTimers at e
  refine f24.run ?_
  unfold f24.runT
  refine O.new fun h1 x2 O3 => ?_
  refine O3.new fun h5 x6 O7 => ?_
  refine ⟨_, ld0 (Sub.refl _) (O7.all 0 rfl) (T_timer_Timers.g0 e_0), _, rfl, ?_⟩
  refine ⟨_, ld0 (Sub.refl _) (O7.all 1 rfl) (T_timer_Timers.g0 e_1), _, rfl, ?_⟩
  refine split_eq_e e (fun c27 e => ?_) (fun c27 e => ?_)
  · obtain ⟨A9, c10, q11, k12, r13⟩ := T_timer_Timers.g1 e_0
    refine ⟨_, ldk (k := 1) (Sub.refl _) (O7.all 0 rfl) q11, _, _, _, rfl, ?_⟩
    obtain ⟨A14, c15, q16, k17, r18⟩ := T_timer_Timers.g1 e_1
    refine ⟨_, ldk (k := 1) (Sub.refl _) (O7.all 1 rfl) q16, _, _, _, rfl, ?_⟩
    obtain ⟨y19, g20, e⟩ := bind_e e
    refine (roadref3_SameDues.walk (Hold.start (W := No) O7.s) rfl k12 r13 rfl k17 r18 g20).mono ?_
    rintro _ h21 ⟨m22, Q23, rfl⟩
    have O25 := Hold.nm (O7.retC Q23 vfs_nil)
    refine ⟨_, rfl, ?_⟩
    cases e
    exact ⟨_, O25.pick [], rfl⟩
  · have O26 := O7.nm
    cases e
    exact ⟨_, O26.pick [], rfl⟩
def roadlaw3_TimerTells.post (W : Nat → Prop) (h0 m0 : Heap) (r : Bool) (v : Value) (h : Heap) : Prop := ∃ m , Hold W h0 m0 h m [] ∧ v = .bool r
noncomputable def roadlaw3_TimerTells.j3 (y_3 : T_timer_Timers) (y_7 : T_timer_Timers) (x_8 : Int) (a_19 : List T_timer_Due) (y_25 : T_timer_Due) (x_26 : Int) : Option (Bool) :=
  Option.bind (slices_Clone_28 a_19) fun y1 => Option.bind (slices_Insert_27 y1 x_26 ([y_25] : List T_timer_Due)) fun y26 => Option.bind (roadref3_SameTimers y_7 (T_timer_Timers.mk y_3.Now y26)) fun y47 => if y47 = true then (some ((x_8 == (0 : Int)))) else (some (false))
set_option maxHeartbeats 4000000 in
set_option maxRecDepth 100000 in
theorem roadlaw3_TimerTells.j3.walk {W : Nat → Prop} {h0 m0 h m : Heap} {bk_3 : Nat} {cs_3 : List Value} {bk_7 : Nat} {cs_7 : List Value} {A_19 : Option Addr} {n_19 c_19 : Nat} {bk_25 : Nat} {cs_25 : List Value} {y_3 : T_timer_Timers} {y_7 : T_timer_Timers} {x_8 : Int} {a_19 : List T_timer_Due} {y_25 : T_timer_Due} {x_26 : Int} (O : Hold W h0 m0 h m [rV bk_3 48 cs_3, rV bk_7 48 cs_7, rR (aE T_timer_Due.T) A_19 c_19 a_19, rV bk_25 60 cs_25]) (e_3 : T_timer_Timers.E m y_3 cs_3) (e_7 : T_timer_Timers.E m y_7 cs_7) (ne_19 : n_19 = List.length a_19) (e_25 : T_timer_Due.E m y_25 cs_25) {r : Bool} (e : roadlaw3_TimerTells.j3 y_3 y_7 x_8 a_19 y_25 x_26 = some r) : f4.j3 (roadlaw3_TimerTells.post W h0 m0 r) (⟨bk_3, 0, none⟩ : Addr) (⟨bk_7, 0, none⟩ : Addr) x_8 A_19 n_19 c_19 (⟨bk_25, 0, none⟩ : Addr) x_26 h := by
  unfold roadlaw3_TimerTells.j3 at e
  subst ne_19
  refine f4.j3_in ?_
  unfold f4.j3T
  refine ⟨_, ldAn (Sub.refl _) (O.all 3 rfl) (T_timer_Due.T.len _ _ _ e_25), ?_⟩
  refine ⟨_, ldAn (Sub.refl _) (O.all 1 rfl) (T_timer_Timers.T.len _ _ _ e_7), ?_⟩
  refine ⟨_, ld0 (Sub.refl _) (O.all 0 rfl) (T_timer_Timers.g0 e_3), _, rfl, ?_⟩
  obtain ⟨y1, g2, e⟩ := bind_e e
  obtain ⟨y26, g27, e⟩ := bind_e e
  obtain ⟨y47, g48, e⟩ := bind_e e
  refine ⟨?_, ?_⟩
  · obtain ⟨m68, u69, s74, ⟨⟨r72, k73⟩, _⟩, B70, C71⟩ := O.lend0 [2]
    replace r72 : Rd 2 T_timer_Due.E m68 A_19 a_19 := r72
    replace k73 : List.length a_19 ≤ c_19 := k73
    refine (slices_Clone_28.walk (Hold.start (W := No) s74) rfl k73 r72 g2).mono ?_
    rintro _ h64 ⟨m65, A75, n76, c77, Q66, rfl, ne78⟩
    have O80 := Hold.nm (C71 Q66 (vfs_cons (rR_vf (aE_vf (fun _ _ _ _ h => T_timer_Due.keep h))) vfs_nil))
    subst ne78
    refine ⟨_, _, _, rfl, ?_⟩
    refine ⟨Q66.S.ext, ?_⟩
    refine ⟨ldAn (Sub.refl _) (O80.all 1 rfl) (T_timer_Timers.T.len _ _ _ e_7), ?_⟩
    refine ⟨ld0 (Sub.refl _) (O80.all 0 rfl) (T_timer_Timers.g0 e_3), ?_⟩
    refine ⟨cs_25, rfl, (T_timer_Due.T.len _ _ _ e_25), ?_⟩
    refine O80.new fun h81 x82 O83 => ?_
    have O85 := O83.recell 5 rfl (cs' := cs_25 ++ []) rfl
    refine ⟨ldAn (Sub.refl _) (O85.all 1 rfl) (T_timer_Timers.T.len _ _ _ e_7), ?_⟩
    refine ⟨ld0 (Sub.refl _) (O85.all 0 rfl) (T_timer_Timers.g0 e_3), ?_⟩
    have O86 := O85.rowE (l := ([y_25] : List T_timer_Due)) 5 rfl T_timer_Due.T (show CsE _ _ _ _ _ from (CsE.cons e_25 (T_timer_Due.T.len _ _ _ e_25) CsE.nil)) rfl
    have O93 := O86.nm
    obtain ⟨m94, W100, u95, P101, ⟨⟨r98, k99⟩, _⟩, B96, C97⟩ := O93.lend [4] [5]
    replace r98 : Rd 2 T_timer_Due.E m94 (some ⟨(Array.size h64), 0, none⟩) ([y_25] : List T_timer_Due) := r98
    replace k99 : List.length ([y_25] : List T_timer_Due) ≤ 1 := k99
    refine (slices_Insert_27.walk P101 rfl rfl k99 r98 g27).mono ?_
    rintro _ h89 ⟨m90, A102, n103, c104, Q91, rfl, ne105⟩
    have O107 := Hold.nm (C97 Q91 (vfs_cons (rR_vf (aE_vf (fun _ _ _ _ h => T_timer_Due.keep h))) vfs_nil))
    subst ne105
    refine ⟨_, _, _, rfl, ?_⟩
    refine ⟨ldAn (Sub.refl _) (O107.all 1 rfl) (T_timer_Timers.T.len _ _ _ e_7), ?_⟩
    refine ⟨ld0 (Sub.refl _) (O107.all 0 rfl) (T_timer_Timers.g0 e_3), ?_⟩
    refine ⟨ldAn (Sub.refl _) (O107.all 1 rfl) (T_timer_Timers.T.len _ _ _ e_7), ?_⟩
    obtain ⟨m114, u115, s120, ⟨⟨r118, k119⟩, _⟩, B116, C117⟩ := O107.lend0 [6]
    replace r118 : Rd 2 T_timer_Due.E m114 A102 y26 := r118
    replace k119 : List.length y26 ≤ c104 := k119
    refine (roadref3_SameTimers.walk (Hold.start (W := No) s120) (T_timer_Timers.T.mono _ _ _ _ u115 e_7) (show T_timer_Timers.E _ (T_timer_Timers.mk y_3.Now y26) [(Value.int .i64 y_3.Now), (Value.slice A102 (List.length y26) c104)] from ⟨_, _, rfl, k119, r118⟩) g48).mono ?_
    rintro _ h110 ⟨m111, Q112, rfl⟩
    have O121 := Hold.nm (C117 Q112 vfs_nil)
    refine ⟨_, rfl, ?_⟩
    refine split_any_e e (fun c122 e => ?_) (fun c122 e => ?_)
    · cases e
      exact ⟨_, O121.pick [], rfl⟩
    · cases e
      exact ⟨_, O121.pick [], rfl⟩
  · refine ⟨cs_25, rfl, (T_timer_Due.T.len _ _ _ e_25), ?_⟩
    refine O.new fun h123 x124 O125 => ?_
    have O127 := O125.recell 4 rfl (cs' := cs_25 ++ []) rfl
    refine ⟨ldAn (Sub.refl _) (O127.all 1 rfl) (T_timer_Timers.T.len _ _ _ e_7), ?_⟩
    refine ⟨ld0 (Sub.refl _) (O127.all 0 rfl) (T_timer_Timers.g0 e_3), ?_⟩
    have O134 := O127.nm
    obtain ⟨m135, u136, s141, ⟨⟨r139, k140⟩, _⟩, B137, C138⟩ := O134.lend0 [2]
    replace r139 : Rd 2 T_timer_Due.E m135 A_19 a_19 := r139
    replace k140 : List.length a_19 ≤ c_19 := k140
    refine (slices_Clone_28.walk (Hold.start (W := No) s141) rfl k140 r139 g2).mono ?_
    rintro _ h130 ⟨m131, A142, n143, c144, Q132, rfl, ne145⟩
    have O147 := Hold.nm (C138 Q132 (vfs_cons (rR_vf (aE_vf (fun _ _ _ _ h => T_timer_Due.keep h))) vfs_nil))
    subst ne145
    refine ⟨_, _, _, rfl, ?_⟩
    refine ⟨(x124.trans Q132.S.ext), ?_⟩
    refine ⟨ldAn (Sub.refl _) (O147.all 1 rfl) (T_timer_Timers.T.len _ _ _ e_7), ?_⟩
    refine ⟨ld0 (Sub.refl _) (O147.all 0 rfl) (T_timer_Timers.g0 e_3), ?_⟩
    have O148 := O147.rowE (l := ([y_25] : List T_timer_Due)) 4 rfl T_timer_Due.T (show CsE _ _ _ _ _ from (CsE.cons e_25 (T_timer_Due.T.len _ _ _ e_25) CsE.nil)) rfl
    have O155 := O148.nm
    obtain ⟨m156, W162, u157, P163, ⟨⟨r160, k161⟩, _⟩, B158, C159⟩ := O155.lend [5] [4]
    replace r160 : Rd 2 T_timer_Due.E m156 (some ⟨(Array.size h), 0, none⟩) ([y_25] : List T_timer_Due) := r160
    replace k161 : List.length ([y_25] : List T_timer_Due) ≤ 1 := k161
    refine (slices_Insert_27.walk P163 rfl rfl k161 r160 g27).mono ?_
    rintro _ h151 ⟨m152, A164, n165, c166, Q153, rfl, ne167⟩
    have O169 := Hold.nm (C159 Q153 (vfs_cons (rR_vf (aE_vf (fun _ _ _ _ h => T_timer_Due.keep h))) vfs_nil))
    subst ne167
    refine ⟨_, _, _, rfl, ?_⟩
    refine ⟨ldAn (Sub.refl _) (O169.all 1 rfl) (T_timer_Timers.T.len _ _ _ e_7), ?_⟩
    refine ⟨ld0 (Sub.refl _) (O169.all 0 rfl) (T_timer_Timers.g0 e_3), ?_⟩
    refine ⟨ldAn (Sub.refl _) (O169.all 1 rfl) (T_timer_Timers.T.len _ _ _ e_7), ?_⟩
    obtain ⟨m176, u177, s182, ⟨⟨r180, k181⟩, _⟩, B178, C179⟩ := O169.lend0 [6]
    replace r180 : Rd 2 T_timer_Due.E m176 A164 y26 := r180
    replace k181 : List.length y26 ≤ c166 := k181
    refine (roadref3_SameTimers.walk (Hold.start (W := No) s182) (T_timer_Timers.T.mono _ _ _ _ u177 e_7) (show T_timer_Timers.E _ (T_timer_Timers.mk y_3.Now y26) [(Value.int .i64 y_3.Now), (Value.slice A164 (List.length y26) c166)] from ⟨_, _, rfl, k181, r180⟩) g48).mono ?_
    rintro _ h172 ⟨m173, Q174, rfl⟩
    have O183 := Hold.nm (C179 Q174 vfs_nil)
    refine ⟨_, rfl, ?_⟩
    refine split_any_e e (fun c184 e => ?_) (fun c184 e => ?_)
    · cases e
      exact ⟨_, O183.pick [], rfl⟩
    · cases e
      exact ⟨_, O183.pick [], rfl⟩
inductive roadlaw3_TimerTells.l1_k.Pt where
  | l1 (x_1 : Int) (y_3 : T_timer_Timers) (y_7 : T_timer_Timers) (x_8 : Int) (a_19 : List T_timer_Due) (y_25 : T_timer_Due) (x_26 : Int)
  | j5 (x_1 : Int) (y_3 : T_timer_Timers) (y_7 : T_timer_Timers) (x_8 : Int) (a_19 : List T_timer_Due) (y_25 : T_timer_Due) (x_26 : Int)
noncomputable def roadlaw3_TimerTells.l1_k.body (go : (p : roadlaw3_TimerTells.l1_k.Pt) → Option (Bool)) : (p : roadlaw3_TimerTells.l1_k.Pt) → Option (Bool)
  | .l1 x_1 y_3 y_7 x_8 a_19 y_25 x_26 => if x_26 < (((List.length a_19) : Nat) : Int) then (Option.bind (gi a_19 x_26) fun y1 => if y1.At < y_25.At then ((go (.j5 x_1 y_3 y_7 x_8 a_19 y_25 x_26))) else (Option.bind (gi a_19 x_26) fun y8 => if y8.At = y_25.At then (Option.bind (gi a_19 x_26) fun y15 => if y15.Id < x_1 then ((go (.j5 x_1 y_3 y_7 x_8 a_19 y_25 x_26))) else ((roadlaw3_TimerTells.j3 y_3 y_7 x_8 a_19 y_25 x_26))) else ((roadlaw3_TimerTells.j3 y_3 y_7 x_8 a_19 y_25 x_26)))) else ((roadlaw3_TimerTells.j3 y_3 y_7 x_8 a_19 y_25 x_26))
  | .j5 x_1 y_3 y_7 x_8 a_19 y_25 x_26 => (go (.l1 x_1 y_3 y_7 x_8 a_19 y_25 (IntKind.wrap .i64 (x_26 + (1 : Int)))))
theorem roadlaw3_TimerTells.l1_k.mono : MonoF (β := fun _ => (Bool)) roadlaw3_TimerTells.l1_k.body := fun f g hfg p => match p with
  | .l1 x_1 y_3 y_7 x_8 a_19 y_25 x_26 => LeO.ite (LeO.bind (LeO.refl _) fun y1 => LeO.ite ((hfg _)) (LeO.bind (LeO.refl _) fun y8 => LeO.ite (LeO.bind (LeO.refl _) fun y15 => LeO.ite ((hfg _)) ((LeO.refl _))) ((LeO.refl _)))) ((LeO.refl _))
  | .j5 x_1 y_3 y_7 x_8 a_19 y_25 x_26 => (hfg _)
noncomputable def roadlaw3_TimerTells.l1_k.go (p : roadlaw3_TimerTells.l1_k.Pt) : Option (Bool) := fixF (β := fun _ => (Bool)) roadlaw3_TimerTells.l1_k.body p
noncomputable def roadlaw3_TimerTells.l1 (x_1 : Int) (y_3 : T_timer_Timers) (y_7 : T_timer_Timers) (x_8 : Int) (a_19 : List T_timer_Due) (y_25 : T_timer_Due) (x_26 : Int) : Option (Bool) := roadlaw3_TimerTells.l1_k.go (.l1 x_1 y_3 y_7 x_8 a_19 y_25 x_26)
noncomputable def roadlaw3_TimerTells.j5 (x_1 : Int) (y_3 : T_timer_Timers) (y_7 : T_timer_Timers) (x_8 : Int) (a_19 : List T_timer_Due) (y_25 : T_timer_Due) (x_26 : Int) : Option (Bool) := roadlaw3_TimerTells.l1_k.go (.j5 x_1 y_3 y_7 x_8 a_19 y_25 x_26)
theorem roadlaw3_TimerTells.l1_eq (x_1 : Int) (y_3 : T_timer_Timers) (y_7 : T_timer_Timers) (x_8 : Int) (a_19 : List T_timer_Due) (y_25 : T_timer_Due) (x_26 : Int) : roadlaw3_TimerTells.l1 x_1 y_3 y_7 x_8 a_19 y_25 x_26 = if x_26 < (((List.length a_19) : Nat) : Int) then (Option.bind (gi a_19 x_26) fun y1 => if y1.At < y_25.At then ((roadlaw3_TimerTells.j5 x_1 y_3 y_7 x_8 a_19 y_25 x_26)) else (Option.bind (gi a_19 x_26) fun y8 => if y8.At = y_25.At then (Option.bind (gi a_19 x_26) fun y15 => if y15.Id < x_1 then ((roadlaw3_TimerTells.j5 x_1 y_3 y_7 x_8 a_19 y_25 x_26)) else ((roadlaw3_TimerTells.j3 y_3 y_7 x_8 a_19 y_25 x_26))) else ((roadlaw3_TimerTells.j3 y_3 y_7 x_8 a_19 y_25 x_26)))) else ((roadlaw3_TimerTells.j3 y_3 y_7 x_8 a_19 y_25 x_26)) := fixF_eq roadlaw3_TimerTells.l1_k.mono _
theorem roadlaw3_TimerTells.j5_eq (x_1 : Int) (y_3 : T_timer_Timers) (y_7 : T_timer_Timers) (x_8 : Int) (a_19 : List T_timer_Due) (y_25 : T_timer_Due) (x_26 : Int) : roadlaw3_TimerTells.j5 x_1 y_3 y_7 x_8 a_19 y_25 x_26 = (roadlaw3_TimerTells.l1 x_1 y_3 y_7 x_8 a_19 y_25 (IntKind.wrap .i64 (x_26 + (1 : Int)))) := fixF_eq roadlaw3_TimerTells.l1_k.mono _
def roadlaw3_TimerTells.l1_k.I : (p : roadlaw3_TimerTells.l1_k.Pt) → (Bool) → Prop
  | .l1 x_1 y_3 y_7 x_8 a_19 y_25 x_26, r => ∀ (W : Nat → Prop) (h0 m0 h m : Heap) (bk_3 : Nat) (cs_3 : List Value) (bk_7 : Nat) (cs_7 : List Value) (A_19 : Option Addr) (n_19 c_19 : Nat) (bk_25 : Nat) (cs_25 : List Value) (O : Hold W h0 m0 h m [rV bk_3 48 cs_3, rV bk_7 48 cs_7, rR (aE T_timer_Due.T) A_19 c_19 a_19, rV bk_25 60 cs_25]) (e_3 : T_timer_Timers.E m y_3 cs_3) (e_7 : T_timer_Timers.E m y_7 cs_7) (ne_19 : n_19 = List.length a_19) (e_25 : T_timer_Due.E m y_25 cs_25), f4.l1 (roadlaw3_TimerTells.post W h0 m0 r) x_1 (⟨bk_3, 0, none⟩ : Addr) (⟨bk_7, 0, none⟩ : Addr) x_8 A_19 n_19 c_19 (⟨bk_25, 0, none⟩ : Addr) x_26 h
  | .j5 x_1 y_3 y_7 x_8 a_19 y_25 x_26, r => ∀ (W : Nat → Prop) (h0 m0 h m : Heap) (bk_3 : Nat) (cs_3 : List Value) (bk_7 : Nat) (cs_7 : List Value) (A_19 : Option Addr) (n_19 c_19 : Nat) (bk_25 : Nat) (cs_25 : List Value) (O : Hold W h0 m0 h m [rV bk_3 48 cs_3, rV bk_7 48 cs_7, rR (aE T_timer_Due.T) A_19 c_19 a_19, rV bk_25 60 cs_25]) (e_3 : T_timer_Timers.E m y_3 cs_3) (e_7 : T_timer_Timers.E m y_7 cs_7) (ne_19 : n_19 = List.length a_19) (e_25 : T_timer_Due.E m y_25 cs_25), f4.j5 (roadlaw3_TimerTells.post W h0 m0 r) x_1 (⟨bk_3, 0, none⟩ : Addr) (⟨bk_7, 0, none⟩ : Addr) x_8 A_19 n_19 c_19 (⟨bk_25, 0, none⟩ : Addr) x_26 h
set_option maxRecDepth 100000 in
theorem roadlaw3_TimerTells.l1_k.step_l1 (go : (p : roadlaw3_TimerTells.l1_k.Pt) → Option (Bool)) (ih : ∀ p r, go p = some r → roadlaw3_TimerTells.l1_k.I p r) (x_1 : Int) (y_3 : T_timer_Timers) (y_7 : T_timer_Timers) (x_8 : Int) (a_19 : List T_timer_Due) (y_25 : T_timer_Due) (x_26 : Int) (r : Bool) (e : roadlaw3_TimerTells.l1_k.body go (.l1 x_1 y_3 y_7 x_8 a_19 y_25 x_26) = some r) : roadlaw3_TimerTells.l1_k.I (.l1 x_1 y_3 y_7 x_8 a_19 y_25 x_26) r := by
  unfold roadlaw3_TimerTells.l1_k.body at e
  intro W h0 m0 h m bk_3 cs_3 bk_7 cs_7 A_19 n_19 c_19 bk_25 cs_25 O e_3 e_7 ne_19 e_25
  subst ne_19
  refine f4.l1_in ?_
  unfold f4.l1T
  refine split_dec_e e (fun c25 e => ?_) (fun c25 e => ?_)
  · obtain ⟨y1, g2, e⟩ := bind_e e
    refine (O.os 2 rfl).addr rfl g2 fun a3 cs4 ha5 hc6 he7 => ?_
    refine ⟨_, ld0 (Sub.refl _) hc6 (T_timer_Due.g0 he7), _, rfl, ?_⟩
    refine ⟨_, ld0 (Sub.refl _) (O.all 3 rfl) (T_timer_Due.g0 e_25), _, rfl, ?_⟩
    refine split_dec_e e (fun c24 e => ?_) (fun c24 e => ?_)
    · exact (ih _ _ e) _ _ _ _ _ _ _ _ _ _ _ _ _ _ (O.pick [0, 1, 2, 3]).nm e_3 e_7 rfl e_25
    · obtain ⟨y8, g9, e⟩ := bind_e e
      refine (O.os 2 rfl).addr rfl g9 fun a10 cs11 ha12 hc13 he14 => ?_
      refine ⟨_, ld0 (Sub.refl _) hc13 (T_timer_Due.g0 he14), _, rfl, ?_⟩
      refine ⟨_, ld0 (Sub.refl _) (O.all 3 rfl) (T_timer_Due.g0 e_25), _, rfl, ?_⟩
      refine split_eq_e e (fun c23 e => ?_) (fun c23 e => ?_)
      · obtain ⟨y15, g16, e⟩ := bind_e e
        refine (O.os 2 rfl).addr rfl g16 fun a17 cs18 ha19 hc20 he21 => ?_
        refine ⟨_, ldk (k := 1) (Sub.refl _) hc20 (T_timer_Due.g1 he21), _, rfl, ?_⟩
        refine split_dec_e e (fun c22 e => ?_) (fun c22 e => ?_)
        · exact (ih _ _ e) _ _ _ _ _ _ _ _ _ _ _ _ _ _ (O.pick [0, 1, 2, 3]).nm e_3 e_7 rfl e_25
        · exact roadlaw3_TimerTells.j3.walk (O.pick [0, 1, 2, 3]).nm e_3 e_7 rfl e_25 e
      · exact roadlaw3_TimerTells.j3.walk (O.pick [0, 1, 2, 3]).nm e_3 e_7 rfl e_25 e
  · exact roadlaw3_TimerTells.j3.walk (O.pick [0, 1, 2, 3]).nm e_3 e_7 rfl e_25 e
set_option maxRecDepth 100000 in
theorem roadlaw3_TimerTells.l1_k.step_j5 (go : (p : roadlaw3_TimerTells.l1_k.Pt) → Option (Bool)) (ih : ∀ p r, go p = some r → roadlaw3_TimerTells.l1_k.I p r) (x_1 : Int) (y_3 : T_timer_Timers) (y_7 : T_timer_Timers) (x_8 : Int) (a_19 : List T_timer_Due) (y_25 : T_timer_Due) (x_26 : Int) (r : Bool) (e : roadlaw3_TimerTells.l1_k.body go (.j5 x_1 y_3 y_7 x_8 a_19 y_25 x_26) = some r) : roadlaw3_TimerTells.l1_k.I (.j5 x_1 y_3 y_7 x_8 a_19 y_25 x_26) r := by
  unfold roadlaw3_TimerTells.l1_k.body at e
  intro W h0 m0 h m bk_3 cs_3 bk_7 cs_7 A_19 n_19 c_19 bk_25 cs_25 O e_3 e_7 ne_19 e_25
  subst ne_19
  refine f4.j5_in ?_
  unfold f4.j5T
  exact (ih _ _ e) _ _ _ _ _ _ _ _ _ _ _ _ _ _ (O.pick [0, 1, 2, 3]).nm e_3 e_7 rfl e_25
theorem roadlaw3_TimerTells.l1_k.all {p : roadlaw3_TimerTells.l1_k.Pt} {r : (Bool)} (e : roadlaw3_TimerTells.l1_k.go p = some r) : roadlaw3_TimerTells.l1_k.I p r := fixF_ind (β := fun _ => (Bool)) roadlaw3_TimerTells.l1_k.mono (I := roadlaw3_TimerTells.l1_k.I) (fun go ih p r e => match p with
  | .l1 x_1 y_3 y_7 x_8 a_19 y_25 x_26 => roadlaw3_TimerTells.l1_k.step_l1 go ih x_1 y_3 y_7 x_8 a_19 y_25 x_26 r e
  | .j5 x_1 y_3 y_7 x_8 a_19 y_25 x_26 => roadlaw3_TimerTells.l1_k.step_j5 go ih x_1 y_3 y_7 x_8 a_19 y_25 x_26 r e
  ) e
theorem roadlaw3_TimerTells.l1.walk {W : Nat → Prop} {h0 m0 h m : Heap} {bk_3 : Nat} {cs_3 : List Value} {bk_7 : Nat} {cs_7 : List Value} {A_19 : Option Addr} {n_19 c_19 : Nat} {bk_25 : Nat} {cs_25 : List Value} {x_1 : Int} {y_3 : T_timer_Timers} {y_7 : T_timer_Timers} {x_8 : Int} {a_19 : List T_timer_Due} {y_25 : T_timer_Due} {x_26 : Int} (O : Hold W h0 m0 h m [rV bk_3 48 cs_3, rV bk_7 48 cs_7, rR (aE T_timer_Due.T) A_19 c_19 a_19, rV bk_25 60 cs_25]) (e_3 : T_timer_Timers.E m y_3 cs_3) (e_7 : T_timer_Timers.E m y_7 cs_7) (ne_19 : n_19 = List.length a_19) (e_25 : T_timer_Due.E m y_25 cs_25) {r : Bool} (e : roadlaw3_TimerTells.l1 x_1 y_3 y_7 x_8 a_19 y_25 x_26 = some r) : f4.l1 (roadlaw3_TimerTells.post W h0 m0 r) x_1 (⟨bk_3, 0, none⟩ : Addr) (⟨bk_7, 0, none⟩ : Addr) x_8 A_19 n_19 c_19 (⟨bk_25, 0, none⟩ : Addr) x_26 h := roadlaw3_TimerTells.l1_k.all (p := .l1 x_1 y_3 y_7 x_8 a_19 y_25 x_26) e W h0 m0 h m bk_3 cs_3 bk_7 cs_7 A_19 n_19 c_19 bk_25 cs_25 O e_3 e_7 ne_19 e_25
noncomputable def roadlaw3_TimerTells.j2 (x_1 : Int) (x_2 : Int) (y_3 : T_timer_Timers) (y_7 : T_timer_Timers) (x_8 : Int) (y_17 : T_timer_Timers) (a_19 : List T_timer_Due) : Option (Bool) :=
  Option.bind (roadref3_In x_2 (1 : Int) (1099511627776 : Int)) fun y1 => if y1 = true then (if (((List.length a_19) : Nat) : Int) = (100 : Int) then (Option.bind (roadref3_SameTimers y_7 y_17) fun y8 => if y8 = true then (some ((x_8 == (6 : Int)))) else (some (false))) else ((roadlaw3_TimerTells.l1 x_1 y_3 y_7 x_8 a_19 (T_timer_Due.mk (IntKind.wrap .i64 (y_3.Now + x_2)) x_1) (0 : Int)))) else (Option.bind (roadref3_SameTimers y_7 y_17) fun y24 => if y24 = true then (some ((x_8 == (1 : Int)))) else (some (false)))
set_option maxHeartbeats 4000000 in
set_option maxRecDepth 100000 in
theorem roadlaw3_TimerTells.j2.walk {W : Nat → Prop} {h0 m0 h m : Heap} {bk_3 : Nat} {cs_3 : List Value} {bk_7 : Nat} {cs_7 : List Value} {bk_17 : Nat} {cs_17 : List Value} {A_19 : Option Addr} {n_19 c_19 : Nat} {x_1 : Int} {x_2 : Int} {y_3 : T_timer_Timers} {y_7 : T_timer_Timers} {x_8 : Int} {y_17 : T_timer_Timers} {a_19 : List T_timer_Due} (O : Hold W h0 m0 h m [rV bk_3 48 cs_3, rV bk_7 48 cs_7, rV bk_17 48 cs_17, rR (aE T_timer_Due.T) A_19 c_19 a_19]) (e_3 : T_timer_Timers.E m y_3 cs_3) (e_7 : T_timer_Timers.E m y_7 cs_7) (e_17 : T_timer_Timers.E m y_17 cs_17) (ne_19 : n_19 = List.length a_19) {r : Bool} (e : roadlaw3_TimerTells.j2 x_1 x_2 y_3 y_7 x_8 y_17 a_19 = some r) : f4.j2 (roadlaw3_TimerTells.post W h0 m0 r) x_1 x_2 (⟨bk_3, 0, none⟩ : Addr) (⟨bk_7, 0, none⟩ : Addr) x_8 (⟨bk_17, 0, none⟩ : Addr) A_19 n_19 c_19 h := by
  unfold roadlaw3_TimerTells.j2 at e
  subst ne_19
  refine f4.j2_in ?_
  unfold f4.j2T
  obtain ⟨y1, g2, e⟩ := bind_e e
  refine (roadref3_In.walk (Hold.start (W := No) O.s)  g2).mono ?_
  rintro _ h3 ⟨m4, Q5, rfl⟩
  have O7 := Hold.nm (O.retC Q5 vfs_nil)
  refine ⟨_, rfl, ?_⟩
  refine split_not ?_
  refine split_any_e e (fun c32 e => ?_) (fun c32 e => ?_)
  · refine split_eq_e e (fun c23 e => ?_) (fun c23 e => ?_)
    · refine ⟨_, ldAn (Sub.refl _) (O7.all 1 rfl) (T_timer_Timers.T.len _ _ _ e_7), ?_⟩
      refine ⟨_, ldAn (Sub.refl _) (O7.all 2 rfl) (T_timer_Timers.T.len _ _ _ e_17), ?_⟩
      obtain ⟨y8, g9, e⟩ := bind_e e
      refine (roadref3_SameTimers.walk (Hold.start (W := No) O7.s) e_7 e_17 g9).mono ?_
      rintro _ h10 ⟨m11, Q12, rfl⟩
      have O14 := Hold.nm (O7.retC Q12 vfs_nil)
      refine ⟨_, rfl, ?_⟩
      refine split_any_e e (fun c15 e => ?_) (fun c15 e => ?_)
      · cases e
        exact ⟨_, O14.pick [], rfl⟩
      · cases e
        exact ⟨_, O14.pick [], rfl⟩
    · refine ⟨_, ld0 (Sub.refl _) (O7.all 0 rfl) (T_timer_Timers.g0 e_3), _, rfl, ?_⟩
      refine O7.new fun h16 x17 O18 => ?_
      refine ⟨_, rfl, rfl, ?_⟩
      refine O18.stA 4 rfl rfl (Flats.cons trivial (Flats.cons trivial Flats.nil)) fun h20 O21 => ?_
      have O22 := O21.nm
      exact roadlaw3_TimerTells.l1.walk (O22.pick [0, 1, 3, 4]).nm e_3 e_7 rfl (show T_timer_Due.E _ (T_timer_Due.mk (IntKind.wrap .i64 (y_3.Now + x_2)) x_1) [(Value.int .i64 (IntKind.wrap .i64 (y_3.Now + x_2))), (Value.int .i64 x_1)] from rfl) e
  · refine ⟨_, ldAn (Sub.refl _) (O7.all 1 rfl) (T_timer_Timers.T.len _ _ _ e_7), ?_⟩
    refine ⟨_, ldAn (Sub.refl _) (O7.all 2 rfl) (T_timer_Timers.T.len _ _ _ e_17), ?_⟩
    obtain ⟨y24, g25, e⟩ := bind_e e
    refine (roadref3_SameTimers.walk (Hold.start (W := No) O7.s) e_7 e_17 g25).mono ?_
    rintro _ h26 ⟨m27, Q28, rfl⟩
    have O30 := Hold.nm (O7.retC Q28 vfs_nil)
    refine ⟨_, rfl, ?_⟩
    refine split_any_e e (fun c31 e => ?_) (fun c31 e => ?_)
    · cases e
      exact ⟨_, O30.pick [], rfl⟩
    · cases e
      exact ⟨_, O30.pick [], rfl⟩
noncomputable def roadlaw3_TimerTells.j1 (x_1 : Int) (x_2 : Int) (y_3 : T_timer_Timers) (y_7 : T_timer_Timers) (x_8 : Int) (y_12 : T_timer_Timers) (a_13 : List T_timer_Due) (x_14 : Int) (y_17 : T_timer_Timers) (a_19 : List T_timer_Due) (a_20 : List T_timer_Due) (a_21 : List T_timer_Due) : Option (Bool) :=
  Option.bind (roadref3_In x_2 (0 : Int) (IntKind.wrap .i64 ((1099511627776 : Int) - y_3.Now))) fun y1 => if y1 = true then (Option.bind (roadref3_SameTimers y_12 (T_timer_Timers.mk (IntKind.wrap .i64 (y_3.Now + x_2)) a_21)) fun y8 => if y8 = true then (Option.bind (roadref3_SameDues a_13 a_20) fun y22 => if y22 = true then (if x_14 = (0 : Int) then ((roadlaw3_TimerTells.j2 x_1 x_2 y_3 y_7 x_8 y_17 a_19)) else (some (false))) else (some (false))) else (some (false))) else (Option.bind (roadref3_SameTimers y_12 y_17) fun y41 => if y41 = true then (if (((List.length a_13) : Nat) : Int) > (0 : Int) then (some (false)) else (if x_14 = (1 : Int) then ((roadlaw3_TimerTells.j2 x_1 x_2 y_3 y_7 x_8 y_17 a_19)) else (some (false)))) else (some (false)))
set_option maxHeartbeats 4000000 in
set_option maxRecDepth 100000 in
theorem roadlaw3_TimerTells.j1.walk {W : Nat → Prop} {h0 m0 h m : Heap} {bk_3 : Nat} {cs_3 : List Value} {bk_7 : Nat} {cs_7 : List Value} {bk_12 : Nat} {cs_12 : List Value} {A_13 : Option Addr} {n_13 c_13 : Nat} {bk_17 : Nat} {cs_17 : List Value} {A_19 : Option Addr} {n_19 c_19 : Nat} {A_20 : Option Addr} {n_20 c_20 : Nat} {A_21 : Option Addr} {n_21 c_21 : Nat} {x_1 : Int} {x_2 : Int} {y_3 : T_timer_Timers} {y_7 : T_timer_Timers} {x_8 : Int} {y_12 : T_timer_Timers} {a_13 : List T_timer_Due} {x_14 : Int} {y_17 : T_timer_Timers} {a_19 : List T_timer_Due} {a_20 : List T_timer_Due} {a_21 : List T_timer_Due} (O : Hold W h0 m0 h m [rV bk_3 48 cs_3, rV bk_7 48 cs_7, rV bk_12 48 cs_12, rR (aE T_timer_Due.T) A_13 c_13 a_13, rV bk_17 48 cs_17, rR (aE T_timer_Due.T) A_19 c_19 a_19, rR (aE T_timer_Due.T) A_20 c_20 a_20, rR (aE T_timer_Due.T) A_21 c_21 a_21]) (e_3 : T_timer_Timers.E m y_3 cs_3) (e_7 : T_timer_Timers.E m y_7 cs_7) (e_12 : T_timer_Timers.E m y_12 cs_12) (ne_13 : n_13 = List.length a_13) (e_17 : T_timer_Timers.E m y_17 cs_17) (ne_19 : n_19 = List.length a_19) (ne_20 : n_20 = List.length a_20) (ne_21 : n_21 = List.length a_21) {r : Bool} (e : roadlaw3_TimerTells.j1 x_1 x_2 y_3 y_7 x_8 y_12 a_13 x_14 y_17 a_19 a_20 a_21 = some r) : f4.j1 (roadlaw3_TimerTells.post W h0 m0 r) x_1 x_2 (⟨bk_3, 0, none⟩ : Addr) (⟨bk_7, 0, none⟩ : Addr) x_8 (⟨bk_12, 0, none⟩ : Addr) A_13 n_13 c_13 x_14 (⟨bk_17, 0, none⟩ : Addr) A_19 n_19 c_19 A_20 n_20 c_20 A_21 n_21 c_21 h := by
  unfold roadlaw3_TimerTells.j1 at e
  subst ne_13
  subst ne_19
  subst ne_20
  subst ne_21
  refine f4.j1_in ?_
  unfold f4.j1T
  refine ⟨_, ld0 (Sub.refl _) (O.all 0 rfl) (T_timer_Timers.g0 e_3), _, rfl, ?_⟩
  obtain ⟨y1, g2, e⟩ := bind_e e
  refine (roadref3_In.walk (Hold.start (W := No) O.s)  g2).mono ?_
  rintro _ h3 ⟨m4, Q5, rfl⟩
  have O7 := Hold.nm (O.retC Q5 vfs_nil)
  refine ⟨_, rfl, ?_⟩
  refine split_not ?_
  refine split_any_e e (fun c51 e => ?_) (fun c51 e => ?_)
  · refine ⟨_, ldAn (Sub.refl _) (O7.all 2 rfl) (T_timer_Timers.T.len _ _ _ e_12), ?_⟩
    refine ⟨_, ld0 (Sub.refl _) (O7.all 0 rfl) (T_timer_Timers.g0 e_3), _, rfl, ?_⟩
    obtain ⟨y8, g9, e⟩ := bind_e e
    obtain ⟨m14, u15, s20, ⟨⟨r18, k19⟩, _⟩, B16, C17⟩ := O7.lend0 [7]
    replace r18 : Rd 2 T_timer_Due.E m14 A_21 a_21 := r18
    replace k19 : List.length a_21 ≤ c_21 := k19
    refine (roadref3_SameTimers.walk (Hold.start (W := No) s20) (T_timer_Timers.T.mono _ _ _ _ u15 e_12) (show T_timer_Timers.E _ (T_timer_Timers.mk (IntKind.wrap .i64 (y_3.Now + x_2)) a_21) [(Value.int .i64 (IntKind.wrap .i64 (y_3.Now + x_2))), (Value.slice A_21 (List.length a_21) c_21)] from ⟨_, _, rfl, k19, r18⟩) g9).mono ?_
    rintro _ h10 ⟨m11, Q12, rfl⟩
    have O21 := Hold.nm (C17 Q12 vfs_nil)
    refine ⟨_, rfl, ?_⟩
    refine split_not ?_
    refine split_any_e e (fun c40 e => ?_) (fun c40 e => ?_)
    · obtain ⟨y22, g23, e⟩ := bind_e e
      obtain ⟨m28, u29, s36, ⟨⟨r32, k33⟩, ⟨r34, k35⟩, _⟩, B30, C31⟩ := O21.lend0 [3, 6]
      replace r32 : Rd 2 T_timer_Due.E m28 A_13 a_13 := r32
      replace k33 : List.length a_13 ≤ c_13 := k33
      replace r34 : Rd 2 T_timer_Due.E m28 A_20 a_20 := r34
      replace k35 : List.length a_20 ≤ c_20 := k35
      refine (roadref3_SameDues.walk (Hold.start (W := No) s36) rfl k33 r32 rfl k35 r34 g23).mono ?_
      rintro _ h24 ⟨m25, Q26, rfl⟩
      have O37 := Hold.nm (C31 Q26 vfs_nil)
      refine ⟨_, rfl, ?_⟩
      refine split_not ?_
      refine split_any_e e (fun c39 e => ?_) (fun c39 e => ?_)
      · refine split_ne_e e (fun c38 e => ?_) (fun c38 e => ?_)
        · cases e
          exact ⟨_, O37.pick [], rfl⟩
        · exact roadlaw3_TimerTells.j2.walk (O37.pick [0, 1, 4, 5]).nm e_3 e_7 e_17 rfl e
      · cases e
        exact ⟨_, O37.pick [], rfl⟩
    · cases e
      exact ⟨_, O21.pick [], rfl⟩
  · refine ⟨_, ldAn (Sub.refl _) (O7.all 2 rfl) (T_timer_Timers.T.len _ _ _ e_12), ?_⟩
    refine ⟨_, ldAn (Sub.refl _) (O7.all 4 rfl) (T_timer_Timers.T.len _ _ _ e_17), ?_⟩
    obtain ⟨y41, g42, e⟩ := bind_e e
    refine (roadref3_SameTimers.walk (Hold.start (W := No) O7.s) e_12 e_17 g42).mono ?_
    rintro _ h43 ⟨m44, Q45, rfl⟩
    have O47 := Hold.nm (O7.retC Q45 vfs_nil)
    refine ⟨_, rfl, ?_⟩
    refine split_not ?_
    refine split_any_e e (fun c50 e => ?_) (fun c50 e => ?_)
    · refine split_dec_e e (fun c49 e => ?_) (fun c49 e => ?_)
      · cases e
        exact ⟨_, O47.pick [], rfl⟩
      · refine split_ne_e e (fun c48 e => ?_) (fun c48 e => ?_)
        · cases e
          exact ⟨_, O47.pick [], rfl⟩
        · exact roadlaw3_TimerTells.j2.walk (O47.pick [0, 1, 4, 5]).nm e_3 e_7 e_17 rfl e
    · cases e
      exact ⟨_, O47.pick [], rfl⟩
inductive roadlaw3_TimerTells.l0_k.Pt where
  | l0 (x_1 : Int) (x_2 : Int) (y_3 : T_timer_Timers) (y_7 : T_timer_Timers) (x_8 : Int) (y_9 : T_timer_Timers) (x_10 : Int) (x_11 : Int) (y_12 : T_timer_Timers) (a_13 : List T_timer_Due) (x_14 : Int) (y_17 : T_timer_Timers) (a_19 : List T_timer_Due) (a_20 : List T_timer_Due) (a_21 : List T_timer_Due) (x_22 : Int) (a_143 : List T_timer_Due) (x_144 : Int) (x_145 : Int)
  | j4 (x_1 : Int) (x_2 : Int) (y_3 : T_timer_Timers) (y_7 : T_timer_Timers) (x_8 : Int) (y_9 : T_timer_Timers) (x_10 : Int) (x_11 : Int) (y_12 : T_timer_Timers) (a_13 : List T_timer_Due) (x_14 : Int) (y_17 : T_timer_Timers) (a_19 : List T_timer_Due) (a_20 : List T_timer_Due) (a_21 : List T_timer_Due) (x_22 : Int) (y_24 : T_timer_Due) (a_143 : List T_timer_Due) (x_144 : Int) (x_145 : Int)
  | j6 (x_1 : Int) (x_2 : Int) (y_3 : T_timer_Timers) (y_7 : T_timer_Timers) (x_8 : Int) (y_9 : T_timer_Timers) (x_10 : Int) (x_11 : Int) (y_12 : T_timer_Timers) (a_13 : List T_timer_Due) (x_14 : Int) (y_17 : T_timer_Timers) (a_19 : List T_timer_Due) (a_20 : List T_timer_Due) (a_21 : List T_timer_Due) (x_22 : Int) (y_24 : T_timer_Due) (a_143 : List T_timer_Due) (x_144 : Int) (x_145 : Int) (b_169 : Bool)
noncomputable def roadlaw3_TimerTells.l0_k.body (go : (p : roadlaw3_TimerTells.l0_k.Pt) → Option (Bool)) : (p : roadlaw3_TimerTells.l0_k.Pt) → Option (Bool)
  | .l0 x_1 x_2 y_3 y_7 x_8 y_9 x_10 x_11 y_12 a_13 x_14 y_17 a_19 a_20 a_21 x_22 a_143 x_144 x_145 => if x_145 < x_144 then (Option.bind (gi a_143 x_145) fun y1 => if y1.Id = x_1 then ((go (.j4 x_1 x_2 y_3 y_7 x_8 y_9 x_10 x_11 y_12 a_13 x_14 y_17 a_19 a_20 a_21 y1.At y1 a_143 x_144 x_145))) else (Option.bind (ap 16 a_19 ([y1] : List T_timer_Due)) fun l20 => (go (.j4 x_1 x_2 y_3 y_7 x_8 y_9 x_10 x_11 y_12 a_13 x_14 y_17 l20 a_20 a_21 x_22 y1 a_143 x_144 x_145)))) else (if x_22 = (0 : Int) then (Option.bind (roadref3_SameTimers y_9 y_17) fun y31 => if y31 = true then (if x_10 = (0 : Int) then (if x_11 = (4 : Int) then (if x_22 > (0 : Int) then (Option.bind (roadref3_SameTimers y_9 (T_timer_Timers.mk y_3.Now a_19)) fun y38 => if y38 = true then (if x_10 = (IntKind.wrap .i64 (x_22 - y_3.Now)) then (if x_11 = (0 : Int) then ((roadlaw3_TimerTells.j1 x_1 x_2 y_3 y_7 x_8 y_12 a_13 x_14 y_17 a_19 a_20 a_21)) else (some (false))) else (some (false))) else (some (false))) else ((roadlaw3_TimerTells.j1 x_1 x_2 y_3 y_7 x_8 y_12 a_13 x_14 y_17 a_19 a_20 a_21))) else (some (false))) else (some (false))) else (some (false))) else (if x_22 > (0 : Int) then (Option.bind (roadref3_SameTimers y_9 (T_timer_Timers.mk y_3.Now a_19)) fun y59 => if y59 = true then (if x_10 = (IntKind.wrap .i64 (x_22 - y_3.Now)) then (if x_11 = (0 : Int) then ((roadlaw3_TimerTells.j1 x_1 x_2 y_3 y_7 x_8 y_12 a_13 x_14 y_17 a_19 a_20 a_21)) else (some (false))) else (some (false))) else (some (false))) else ((roadlaw3_TimerTells.j1 x_1 x_2 y_3 y_7 x_8 y_12 a_13 x_14 y_17 a_19 a_20 a_21))))
  | .j4 x_1 x_2 y_3 y_7 x_8 y_9 x_10 x_11 y_12 a_13 x_14 y_17 a_19 a_20 a_21 x_22 y_24 a_143 x_144 x_145 => Option.bind (roadref3_In x_2 (0 : Int) (1099511627776 : Int)) fun y1 => if y1 = true then ((go (.j6 x_1 x_2 y_3 y_7 x_8 y_9 x_10 x_11 y_12 a_13 x_14 y_17 a_19 a_20 a_21 x_22 y_24 a_143 x_144 x_145 (decide (y_24.At ≤ (IntKind.wrap .i64 (y_3.Now + x_2))))))) else ((go (.j6 x_1 x_2 y_3 y_7 x_8 y_9 x_10 x_11 y_12 a_13 x_14 y_17 a_19 a_20 a_21 x_22 y_24 a_143 x_144 x_145 false)))
  | .j6 x_1 x_2 y_3 y_7 x_8 y_9 x_10 x_11 y_12 a_13 x_14 y_17 a_19 a_20 a_21 x_22 y_24 a_143 x_144 x_145 b_169 => if b_169 = true then (Option.bind (ap 16 a_20 ([y_24] : List T_timer_Due)) fun l6 => (go (.l0 x_1 x_2 y_3 y_7 x_8 y_9 x_10 x_11 y_12 a_13 x_14 y_17 a_19 l6 a_21 x_22 a_143 x_144 (IntKind.wrap .i64 (x_145 + (1 : Int)))))) else (Option.bind (ap 16 a_21 ([y_24] : List T_timer_Due)) fun l21 => (go (.l0 x_1 x_2 y_3 y_7 x_8 y_9 x_10 x_11 y_12 a_13 x_14 y_17 a_19 a_20 l21 x_22 a_143 x_144 (IntKind.wrap .i64 (x_145 + (1 : Int))))))
theorem roadlaw3_TimerTells.l0_k.mono : MonoF (β := fun _ => (Bool)) roadlaw3_TimerTells.l0_k.body := fun f g hfg p => match p with
  | .l0 x_1 x_2 y_3 y_7 x_8 y_9 x_10 x_11 y_12 a_13 x_14 y_17 a_19 a_20 a_21 x_22 a_143 x_144 x_145 => LeO.ite (LeO.bind (LeO.refl _) fun y1 => LeO.ite ((hfg _)) (LeO.bind (LeO.refl _) fun l20 => (hfg _))) (LeO.ite (LeO.bind (LeO.refl _) fun y31 => LeO.ite (LeO.ite (LeO.ite (LeO.ite (LeO.bind (LeO.refl _) fun y38 => LeO.ite (LeO.ite (LeO.ite ((LeO.refl _)) (LeO.refl _)) (LeO.refl _)) (LeO.refl _)) ((LeO.refl _))) (LeO.refl _)) (LeO.refl _)) (LeO.refl _)) (LeO.ite (LeO.bind (LeO.refl _) fun y59 => LeO.ite (LeO.ite (LeO.ite ((LeO.refl _)) (LeO.refl _)) (LeO.refl _)) (LeO.refl _)) ((LeO.refl _))))
  | .j4 x_1 x_2 y_3 y_7 x_8 y_9 x_10 x_11 y_12 a_13 x_14 y_17 a_19 a_20 a_21 x_22 y_24 a_143 x_144 x_145 => LeO.bind (LeO.refl _) fun y1 => LeO.ite ((hfg _)) ((hfg _))
  | .j6 x_1 x_2 y_3 y_7 x_8 y_9 x_10 x_11 y_12 a_13 x_14 y_17 a_19 a_20 a_21 x_22 y_24 a_143 x_144 x_145 b_169 => LeO.ite (LeO.bind (LeO.refl _) fun l6 => (hfg _)) (LeO.bind (LeO.refl _) fun l21 => (hfg _))
noncomputable def roadlaw3_TimerTells.l0_k.go (p : roadlaw3_TimerTells.l0_k.Pt) : Option (Bool) := fixF (β := fun _ => (Bool)) roadlaw3_TimerTells.l0_k.body p
noncomputable def roadlaw3_TimerTells.l0 (x_1 : Int) (x_2 : Int) (y_3 : T_timer_Timers) (y_7 : T_timer_Timers) (x_8 : Int) (y_9 : T_timer_Timers) (x_10 : Int) (x_11 : Int) (y_12 : T_timer_Timers) (a_13 : List T_timer_Due) (x_14 : Int) (y_17 : T_timer_Timers) (a_19 : List T_timer_Due) (a_20 : List T_timer_Due) (a_21 : List T_timer_Due) (x_22 : Int) (a_143 : List T_timer_Due) (x_144 : Int) (x_145 : Int) : Option (Bool) := roadlaw3_TimerTells.l0_k.go (.l0 x_1 x_2 y_3 y_7 x_8 y_9 x_10 x_11 y_12 a_13 x_14 y_17 a_19 a_20 a_21 x_22 a_143 x_144 x_145)
noncomputable def roadlaw3_TimerTells.j4 (x_1 : Int) (x_2 : Int) (y_3 : T_timer_Timers) (y_7 : T_timer_Timers) (x_8 : Int) (y_9 : T_timer_Timers) (x_10 : Int) (x_11 : Int) (y_12 : T_timer_Timers) (a_13 : List T_timer_Due) (x_14 : Int) (y_17 : T_timer_Timers) (a_19 : List T_timer_Due) (a_20 : List T_timer_Due) (a_21 : List T_timer_Due) (x_22 : Int) (y_24 : T_timer_Due) (a_143 : List T_timer_Due) (x_144 : Int) (x_145 : Int) : Option (Bool) := roadlaw3_TimerTells.l0_k.go (.j4 x_1 x_2 y_3 y_7 x_8 y_9 x_10 x_11 y_12 a_13 x_14 y_17 a_19 a_20 a_21 x_22 y_24 a_143 x_144 x_145)
noncomputable def roadlaw3_TimerTells.j6 (x_1 : Int) (x_2 : Int) (y_3 : T_timer_Timers) (y_7 : T_timer_Timers) (x_8 : Int) (y_9 : T_timer_Timers) (x_10 : Int) (x_11 : Int) (y_12 : T_timer_Timers) (a_13 : List T_timer_Due) (x_14 : Int) (y_17 : T_timer_Timers) (a_19 : List T_timer_Due) (a_20 : List T_timer_Due) (a_21 : List T_timer_Due) (x_22 : Int) (y_24 : T_timer_Due) (a_143 : List T_timer_Due) (x_144 : Int) (x_145 : Int) (b_169 : Bool) : Option (Bool) := roadlaw3_TimerTells.l0_k.go (.j6 x_1 x_2 y_3 y_7 x_8 y_9 x_10 x_11 y_12 a_13 x_14 y_17 a_19 a_20 a_21 x_22 y_24 a_143 x_144 x_145 b_169)
theorem roadlaw3_TimerTells.l0_eq (x_1 : Int) (x_2 : Int) (y_3 : T_timer_Timers) (y_7 : T_timer_Timers) (x_8 : Int) (y_9 : T_timer_Timers) (x_10 : Int) (x_11 : Int) (y_12 : T_timer_Timers) (a_13 : List T_timer_Due) (x_14 : Int) (y_17 : T_timer_Timers) (a_19 : List T_timer_Due) (a_20 : List T_timer_Due) (a_21 : List T_timer_Due) (x_22 : Int) (a_143 : List T_timer_Due) (x_144 : Int) (x_145 : Int) : roadlaw3_TimerTells.l0 x_1 x_2 y_3 y_7 x_8 y_9 x_10 x_11 y_12 a_13 x_14 y_17 a_19 a_20 a_21 x_22 a_143 x_144 x_145 = if x_145 < x_144 then (Option.bind (gi a_143 x_145) fun y1 => if y1.Id = x_1 then ((roadlaw3_TimerTells.j4 x_1 x_2 y_3 y_7 x_8 y_9 x_10 x_11 y_12 a_13 x_14 y_17 a_19 a_20 a_21 y1.At y1 a_143 x_144 x_145)) else (Option.bind (ap 16 a_19 ([y1] : List T_timer_Due)) fun l20 => (roadlaw3_TimerTells.j4 x_1 x_2 y_3 y_7 x_8 y_9 x_10 x_11 y_12 a_13 x_14 y_17 l20 a_20 a_21 x_22 y1 a_143 x_144 x_145))) else (if x_22 = (0 : Int) then (Option.bind (roadref3_SameTimers y_9 y_17) fun y31 => if y31 = true then (if x_10 = (0 : Int) then (if x_11 = (4 : Int) then (if x_22 > (0 : Int) then (Option.bind (roadref3_SameTimers y_9 (T_timer_Timers.mk y_3.Now a_19)) fun y38 => if y38 = true then (if x_10 = (IntKind.wrap .i64 (x_22 - y_3.Now)) then (if x_11 = (0 : Int) then ((roadlaw3_TimerTells.j1 x_1 x_2 y_3 y_7 x_8 y_12 a_13 x_14 y_17 a_19 a_20 a_21)) else (some (false))) else (some (false))) else (some (false))) else ((roadlaw3_TimerTells.j1 x_1 x_2 y_3 y_7 x_8 y_12 a_13 x_14 y_17 a_19 a_20 a_21))) else (some (false))) else (some (false))) else (some (false))) else (if x_22 > (0 : Int) then (Option.bind (roadref3_SameTimers y_9 (T_timer_Timers.mk y_3.Now a_19)) fun y59 => if y59 = true then (if x_10 = (IntKind.wrap .i64 (x_22 - y_3.Now)) then (if x_11 = (0 : Int) then ((roadlaw3_TimerTells.j1 x_1 x_2 y_3 y_7 x_8 y_12 a_13 x_14 y_17 a_19 a_20 a_21)) else (some (false))) else (some (false))) else (some (false))) else ((roadlaw3_TimerTells.j1 x_1 x_2 y_3 y_7 x_8 y_12 a_13 x_14 y_17 a_19 a_20 a_21)))) := fixF_eq roadlaw3_TimerTells.l0_k.mono _
theorem roadlaw3_TimerTells.j4_eq (x_1 : Int) (x_2 : Int) (y_3 : T_timer_Timers) (y_7 : T_timer_Timers) (x_8 : Int) (y_9 : T_timer_Timers) (x_10 : Int) (x_11 : Int) (y_12 : T_timer_Timers) (a_13 : List T_timer_Due) (x_14 : Int) (y_17 : T_timer_Timers) (a_19 : List T_timer_Due) (a_20 : List T_timer_Due) (a_21 : List T_timer_Due) (x_22 : Int) (y_24 : T_timer_Due) (a_143 : List T_timer_Due) (x_144 : Int) (x_145 : Int) : roadlaw3_TimerTells.j4 x_1 x_2 y_3 y_7 x_8 y_9 x_10 x_11 y_12 a_13 x_14 y_17 a_19 a_20 a_21 x_22 y_24 a_143 x_144 x_145 = Option.bind (roadref3_In x_2 (0 : Int) (1099511627776 : Int)) fun y1 => if y1 = true then ((roadlaw3_TimerTells.j6 x_1 x_2 y_3 y_7 x_8 y_9 x_10 x_11 y_12 a_13 x_14 y_17 a_19 a_20 a_21 x_22 y_24 a_143 x_144 x_145 (decide (y_24.At ≤ (IntKind.wrap .i64 (y_3.Now + x_2)))))) else ((roadlaw3_TimerTells.j6 x_1 x_2 y_3 y_7 x_8 y_9 x_10 x_11 y_12 a_13 x_14 y_17 a_19 a_20 a_21 x_22 y_24 a_143 x_144 x_145 false)) := fixF_eq roadlaw3_TimerTells.l0_k.mono _
theorem roadlaw3_TimerTells.j6_eq (x_1 : Int) (x_2 : Int) (y_3 : T_timer_Timers) (y_7 : T_timer_Timers) (x_8 : Int) (y_9 : T_timer_Timers) (x_10 : Int) (x_11 : Int) (y_12 : T_timer_Timers) (a_13 : List T_timer_Due) (x_14 : Int) (y_17 : T_timer_Timers) (a_19 : List T_timer_Due) (a_20 : List T_timer_Due) (a_21 : List T_timer_Due) (x_22 : Int) (y_24 : T_timer_Due) (a_143 : List T_timer_Due) (x_144 : Int) (x_145 : Int) (b_169 : Bool) : roadlaw3_TimerTells.j6 x_1 x_2 y_3 y_7 x_8 y_9 x_10 x_11 y_12 a_13 x_14 y_17 a_19 a_20 a_21 x_22 y_24 a_143 x_144 x_145 b_169 = if b_169 = true then (Option.bind (ap 16 a_20 ([y_24] : List T_timer_Due)) fun l6 => (roadlaw3_TimerTells.l0 x_1 x_2 y_3 y_7 x_8 y_9 x_10 x_11 y_12 a_13 x_14 y_17 a_19 l6 a_21 x_22 a_143 x_144 (IntKind.wrap .i64 (x_145 + (1 : Int))))) else (Option.bind (ap 16 a_21 ([y_24] : List T_timer_Due)) fun l21 => (roadlaw3_TimerTells.l0 x_1 x_2 y_3 y_7 x_8 y_9 x_10 x_11 y_12 a_13 x_14 y_17 a_19 a_20 l21 x_22 a_143 x_144 (IntKind.wrap .i64 (x_145 + (1 : Int))))) := fixF_eq roadlaw3_TimerTells.l0_k.mono _
def roadlaw3_TimerTells.l0_k.I : (p : roadlaw3_TimerTells.l0_k.Pt) → (Bool) → Prop
  | .l0 x_1 x_2 y_3 y_7 x_8 y_9 x_10 x_11 y_12 a_13 x_14 y_17 a_19 a_20 a_21 x_22 a_143 x_144 x_145, r => ∀ (W : Nat → Prop) (h0 m0 h m : Heap) (bk_3 : Nat) (cs_3 : List Value) (bk_7 : Nat) (cs_7 : List Value) (bk_9 : Nat) (cs_9 : List Value) (bk_12 : Nat) (cs_12 : List Value) (A_13 : Option Addr) (n_13 c_13 : Nat) (bk_17 : Nat) (cs_17 : List Value) (A_19 : Option Addr) (n_19 c_19 : Nat) (A_20 : Option Addr) (n_20 c_20 : Nat) (A_21 : Option Addr) (n_21 c_21 : Nat) (A_143 : Option Addr) (n_143 c_143 : Nat) (O : Hold W h0 m0 h m [rV bk_3 48 cs_3, rV bk_7 48 cs_7, rV bk_9 48 cs_9, rV bk_12 48 cs_12, rR (aE T_timer_Due.T) A_13 c_13 a_13, rV bk_17 48 cs_17, rR (aE T_timer_Due.T) A_19 c_19 a_19, rR (aE T_timer_Due.T) A_20 c_20 a_20, rR (aE T_timer_Due.T) A_21 c_21 a_21]) (e_3 : T_timer_Timers.E m y_3 cs_3) (e_7 : T_timer_Timers.E m y_7 cs_7) (e_9 : T_timer_Timers.E m y_9 cs_9) (e_12 : T_timer_Timers.E m y_12 cs_12) (ne_13 : n_13 = List.length a_13) (e_17 : T_timer_Timers.E m y_17 cs_17) (ne_19 : n_19 = List.length a_19) (ne_20 : n_20 = List.length a_20) (ne_21 : n_21 = List.length a_21) (ne_143 : n_143 = List.length a_143) (k_143 : List.length a_143 ≤ c_143) (r_143 : Rd 2 T_timer_Due.E m A_143 a_143), f4.l0 (roadlaw3_TimerTells.post W h0 m0 r) x_1 x_2 (⟨bk_3, 0, none⟩ : Addr) (⟨bk_7, 0, none⟩ : Addr) x_8 (⟨bk_9, 0, none⟩ : Addr) x_10 x_11 (⟨bk_12, 0, none⟩ : Addr) A_13 n_13 c_13 x_14 (⟨bk_17, 0, none⟩ : Addr) A_19 n_19 c_19 A_20 n_20 c_20 A_21 n_21 c_21 x_22 A_143 n_143 c_143 x_144 x_145 h
  | .j4 x_1 x_2 y_3 y_7 x_8 y_9 x_10 x_11 y_12 a_13 x_14 y_17 a_19 a_20 a_21 x_22 y_24 a_143 x_144 x_145, r => ∀ (W : Nat → Prop) (h0 m0 h m : Heap) (bk_3 : Nat) (cs_3 : List Value) (bk_7 : Nat) (cs_7 : List Value) (bk_9 : Nat) (cs_9 : List Value) (bk_12 : Nat) (cs_12 : List Value) (A_13 : Option Addr) (n_13 c_13 : Nat) (bk_17 : Nat) (cs_17 : List Value) (A_19 : Option Addr) (n_19 c_19 : Nat) (A_20 : Option Addr) (n_20 c_20 : Nat) (A_21 : Option Addr) (n_21 c_21 : Nat) (bk_24 : Nat) (cs_24 : List Value) (A_143 : Option Addr) (n_143 c_143 : Nat) (O : Hold W h0 m0 h m [rV bk_3 48 cs_3, rV bk_7 48 cs_7, rV bk_9 48 cs_9, rV bk_12 48 cs_12, rR (aE T_timer_Due.T) A_13 c_13 a_13, rV bk_17 48 cs_17, rR (aE T_timer_Due.T) A_19 c_19 a_19, rR (aE T_timer_Due.T) A_20 c_20 a_20, rR (aE T_timer_Due.T) A_21 c_21 a_21, rV bk_24 60 cs_24]) (e_3 : T_timer_Timers.E m y_3 cs_3) (e_7 : T_timer_Timers.E m y_7 cs_7) (e_9 : T_timer_Timers.E m y_9 cs_9) (e_12 : T_timer_Timers.E m y_12 cs_12) (ne_13 : n_13 = List.length a_13) (e_17 : T_timer_Timers.E m y_17 cs_17) (ne_19 : n_19 = List.length a_19) (ne_20 : n_20 = List.length a_20) (ne_21 : n_21 = List.length a_21) (e_24 : T_timer_Due.E m y_24 cs_24) (ne_143 : n_143 = List.length a_143) (k_143 : List.length a_143 ≤ c_143) (r_143 : Rd 2 T_timer_Due.E m A_143 a_143), f4.j4 (roadlaw3_TimerTells.post W h0 m0 r) x_1 x_2 (⟨bk_3, 0, none⟩ : Addr) (⟨bk_7, 0, none⟩ : Addr) x_8 (⟨bk_9, 0, none⟩ : Addr) x_10 x_11 (⟨bk_12, 0, none⟩ : Addr) A_13 n_13 c_13 x_14 (⟨bk_17, 0, none⟩ : Addr) A_19 n_19 c_19 A_20 n_20 c_20 A_21 n_21 c_21 x_22 (⟨bk_24, 0, none⟩ : Addr) A_143 n_143 c_143 x_144 x_145 h
  | .j6 x_1 x_2 y_3 y_7 x_8 y_9 x_10 x_11 y_12 a_13 x_14 y_17 a_19 a_20 a_21 x_22 y_24 a_143 x_144 x_145 b_169, r => ∀ (W : Nat → Prop) (h0 m0 h m : Heap) (bk_3 : Nat) (cs_3 : List Value) (bk_7 : Nat) (cs_7 : List Value) (bk_9 : Nat) (cs_9 : List Value) (bk_12 : Nat) (cs_12 : List Value) (A_13 : Option Addr) (n_13 c_13 : Nat) (bk_17 : Nat) (cs_17 : List Value) (A_19 : Option Addr) (n_19 c_19 : Nat) (A_20 : Option Addr) (n_20 c_20 : Nat) (A_21 : Option Addr) (n_21 c_21 : Nat) (bk_24 : Nat) (cs_24 : List Value) (A_143 : Option Addr) (n_143 c_143 : Nat) (O : Hold W h0 m0 h m [rV bk_3 48 cs_3, rV bk_7 48 cs_7, rV bk_9 48 cs_9, rV bk_12 48 cs_12, rR (aE T_timer_Due.T) A_13 c_13 a_13, rV bk_17 48 cs_17, rR (aE T_timer_Due.T) A_19 c_19 a_19, rR (aE T_timer_Due.T) A_20 c_20 a_20, rR (aE T_timer_Due.T) A_21 c_21 a_21, rV bk_24 60 cs_24]) (e_3 : T_timer_Timers.E m y_3 cs_3) (e_7 : T_timer_Timers.E m y_7 cs_7) (e_9 : T_timer_Timers.E m y_9 cs_9) (e_12 : T_timer_Timers.E m y_12 cs_12) (ne_13 : n_13 = List.length a_13) (e_17 : T_timer_Timers.E m y_17 cs_17) (ne_19 : n_19 = List.length a_19) (ne_20 : n_20 = List.length a_20) (ne_21 : n_21 = List.length a_21) (e_24 : T_timer_Due.E m y_24 cs_24) (ne_143 : n_143 = List.length a_143) (k_143 : List.length a_143 ≤ c_143) (r_143 : Rd 2 T_timer_Due.E m A_143 a_143), f4.j6 (roadlaw3_TimerTells.post W h0 m0 r) x_1 x_2 (⟨bk_3, 0, none⟩ : Addr) (⟨bk_7, 0, none⟩ : Addr) x_8 (⟨bk_9, 0, none⟩ : Addr) x_10 x_11 (⟨bk_12, 0, none⟩ : Addr) A_13 n_13 c_13 x_14 (⟨bk_17, 0, none⟩ : Addr) A_19 n_19 c_19 A_20 n_20 c_20 A_21 n_21 c_21 x_22 (⟨bk_24, 0, none⟩ : Addr) A_143 n_143 c_143 x_144 x_145 b_169 h
set_option maxHeartbeats 4000000 in
set_option maxRecDepth 100000 in
theorem roadlaw3_TimerTells.l0_k.step_l0 (go : (p : roadlaw3_TimerTells.l0_k.Pt) → Option (Bool)) (ih : ∀ p r, go p = some r → roadlaw3_TimerTells.l0_k.I p r) (x_1 : Int) (x_2 : Int) (y_3 : T_timer_Timers) (y_7 : T_timer_Timers) (x_8 : Int) (y_9 : T_timer_Timers) (x_10 : Int) (x_11 : Int) (y_12 : T_timer_Timers) (a_13 : List T_timer_Due) (x_14 : Int) (y_17 : T_timer_Timers) (a_19 : List T_timer_Due) (a_20 : List T_timer_Due) (a_21 : List T_timer_Due) (x_22 : Int) (a_143 : List T_timer_Due) (x_144 : Int) (x_145 : Int) (r : Bool) (e : roadlaw3_TimerTells.l0_k.body go (.l0 x_1 x_2 y_3 y_7 x_8 y_9 x_10 x_11 y_12 a_13 x_14 y_17 a_19 a_20 a_21 x_22 a_143 x_144 x_145) = some r) : roadlaw3_TimerTells.l0_k.I (.l0 x_1 x_2 y_3 y_7 x_8 y_9 x_10 x_11 y_12 a_13 x_14 y_17 a_19 a_20 a_21 x_22 a_143 x_144 x_145) r := by
  unfold roadlaw3_TimerTells.l0_k.body at e
  intro W h0 m0 h m bk_3 cs_3 bk_7 cs_7 bk_9 cs_9 bk_12 cs_12 A_13 n_13 c_13 bk_17 cs_17 A_19 n_19 c_19 A_20 n_20 c_20 A_21 n_21 c_21 A_143 n_143 c_143 O e_3 e_7 e_9 e_12 ne_13 e_17 ne_19 ne_20 ne_21 ne_143 k_143 r_143
  subst ne_13
  subst ne_19
  subst ne_20
  subst ne_21
  subst ne_143
  refine f4.l0_in ?_
  unfold f4.l0T
  refine split_dec_e e (fun c78 e => ?_) (fun c78 e => ?_)
  · obtain ⟨y1, g2, e⟩ := bind_e e
    refine r_143.addr rfl g2 fun a3 cs4 ha5 hc6 he7 => ?_
    refine ⟨_, ldAn O.s hc6 rfl, ?_⟩
    refine O.new fun h8 x9 O10 => ?_
    refine ⟨_, rfl, (T_timer_Due.T.len _ _ _ he7), ?_⟩
    refine O10.stA 9 rfl (T_timer_Due.T.len _ _ _ he7) (T_timer_Due.T.flat _ _ _ he7) fun h12 O13 => ?_
    refine ⟨_, ldk (k := 1) (Sub.refl _) (O13.all 9 rfl) (T_timer_Due.g1 he7), _, rfl, ?_⟩
    refine split_eq_e e (fun c30 e => ?_) (fun c30 e => ?_)
    · refine ⟨_, ld0 (Sub.refl _) (O13.all 9 rfl) (T_timer_Due.g0 he7), _, rfl, ?_⟩
      have O14 := O13.nm
      exact (ih _ _ e) _ _ _ _ _ _ _ _ _ _ _ _ _ _ _ _ _ _ _ _ _ _ _ _ _ _ _ _ _ _ _ _ (O14.pick [0, 1, 2, 3, 4, 5, 6, 7, 8, 9]).nm e_3 e_7 e_9 e_12 rfl e_17 rfl rfl rfl he7 rfl k_143 r_143
    · refine ⟨_, ldAn (Sub.refl _) (O13.all 9 rfl) (T_timer_Due.T.len _ _ _ he7), ?_⟩
      refine ⟨cs4, rfl, (T_timer_Due.T.len _ _ _ he7), ?_⟩
      refine O13.new fun h15 x16 O17 => ?_
      have O19 := O17.recell 10 rfl (cs' := cs4 ++ []) rfl
      obtain ⟨l20, g21, e⟩ := bind_e e
      have O28 := O19.rowE (l := ([y1] : List T_timer_Due)) 10 rfl T_timer_Due.T (show CsE _ _ _ _ _ from (CsE.cons he7 (T_timer_Due.T.len _ _ _ he7) CsE.nil)) rfl
      refine O28.app 6 rfl rfl rfl ((O28.os 10 rfl).srcE rfl) (by decide) g21 fun A22 c23 h24 O25 => ?_
      refine ⟨_, _, _, rfl, ?_⟩
      have O29 := O25.nm
      exact (ih _ _ e) _ _ _ _ _ _ _ _ _ _ _ _ _ _ _ _ _ _ _ _ _ _ _ _ _ _ _ _ _ _ _ _ (O29.pick [0, 1, 2, 3, 4, 5, 6, 7, 8, 9]).nm e_3 e_7 e_9 e_12 rfl e_17 rfl rfl rfl he7 rfl k_143 r_143
  · refine split_eq_e e (fun c77 e => ?_) (fun c77 e => ?_)
    · refine ⟨_, ldAn (Sub.refl _) (O.all 2 rfl) (T_timer_Timers.T.len _ _ _ e_9), ?_⟩
      refine ⟨_, ldAn (Sub.refl _) (O.all 5 rfl) (T_timer_Timers.T.len _ _ _ e_17), ?_⟩
      obtain ⟨y31, g32, e⟩ := bind_e e
      refine (roadref3_SameTimers.walk (Hold.start (W := No) O.s) e_9 e_17 g32).mono ?_
      rintro _ h33 ⟨m34, Q35, rfl⟩
      have O37 := Hold.nm (O.retC Q35 vfs_nil)
      refine ⟨_, rfl, ?_⟩
      refine split_not ?_
      refine split_any_e e (fun c58 e => ?_) (fun c58 e => ?_)
      · refine split_ne_e e (fun c57 e => ?_) (fun c57 e => ?_)
        · cases e
          exact ⟨_, O37.pick [], rfl⟩
        · refine split_ne_e e (fun c56 e => ?_) (fun c56 e => ?_)
          · cases e
            exact ⟨_, O37.pick [], rfl⟩
          · refine split_dec_e e (fun c55 e => ?_) (fun c55 e => ?_)
            · refine ⟨_, ldAn (Sub.refl _) (O37.all 2 rfl) (T_timer_Timers.T.len _ _ _ e_9), ?_⟩
              refine ⟨_, ld0 (Sub.refl _) (O37.all 0 rfl) (T_timer_Timers.g0 e_3), _, rfl, ?_⟩
              obtain ⟨y38, g39, e⟩ := bind_e e
              obtain ⟨m44, u45, s50, ⟨⟨r48, k49⟩, _⟩, B46, C47⟩ := O37.lend0 [6]
              replace r48 : Rd 2 T_timer_Due.E m44 A_19 a_19 := r48
              replace k49 : List.length a_19 ≤ c_19 := k49
              refine (roadref3_SameTimers.walk (Hold.start (W := No) s50) (T_timer_Timers.T.mono _ _ _ _ u45 e_9) (show T_timer_Timers.E _ (T_timer_Timers.mk y_3.Now a_19) [(Value.int .i64 y_3.Now), (Value.slice A_19 (List.length a_19) c_19)] from ⟨_, _, rfl, k49, r48⟩) g39).mono ?_
              rintro _ h40 ⟨m41, Q42, rfl⟩
              have O51 := Hold.nm (C47 Q42 vfs_nil)
              refine ⟨_, rfl, ?_⟩
              refine split_not ?_
              refine split_any_e e (fun c54 e => ?_) (fun c54 e => ?_)
              · refine ⟨_, ld0 (Sub.refl _) (O51.all 0 rfl) (T_timer_Timers.g0 e_3), _, rfl, ?_⟩
                refine split_ne_e e (fun c53 e => ?_) (fun c53 e => ?_)
                · cases e
                  exact ⟨_, O51.pick [], rfl⟩
                · refine split_ne_e e (fun c52 e => ?_) (fun c52 e => ?_)
                  · cases e
                    exact ⟨_, O51.pick [], rfl⟩
                  · exact roadlaw3_TimerTells.j1.walk (O51.pick [0, 1, 3, 4, 5, 6, 7, 8]).nm e_3 e_7 e_12 rfl e_17 rfl rfl rfl e
              · cases e
                exact ⟨_, O51.pick [], rfl⟩
            · exact roadlaw3_TimerTells.j1.walk (O37.pick [0, 1, 3, 4, 5, 6, 7, 8]).nm e_3 e_7 e_12 rfl e_17 rfl rfl rfl e
      · cases e
        exact ⟨_, O37.pick [], rfl⟩
    · refine split_dec_e e (fun c76 e => ?_) (fun c76 e => ?_)
      · refine ⟨_, ldAn (Sub.refl _) (O.all 2 rfl) (T_timer_Timers.T.len _ _ _ e_9), ?_⟩
        refine ⟨_, ld0 (Sub.refl _) (O.all 0 rfl) (T_timer_Timers.g0 e_3), _, rfl, ?_⟩
        obtain ⟨y59, g60, e⟩ := bind_e e
        obtain ⟨m65, u66, s71, ⟨⟨r69, k70⟩, _⟩, B67, C68⟩ := O.lend0 [6]
        replace r69 : Rd 2 T_timer_Due.E m65 A_19 a_19 := r69
        replace k70 : List.length a_19 ≤ c_19 := k70
        refine (roadref3_SameTimers.walk (Hold.start (W := No) s71) (T_timer_Timers.T.mono _ _ _ _ u66 e_9) (show T_timer_Timers.E _ (T_timer_Timers.mk y_3.Now a_19) [(Value.int .i64 y_3.Now), (Value.slice A_19 (List.length a_19) c_19)] from ⟨_, _, rfl, k70, r69⟩) g60).mono ?_
        rintro _ h61 ⟨m62, Q63, rfl⟩
        have O72 := Hold.nm (C68 Q63 vfs_nil)
        refine ⟨_, rfl, ?_⟩
        refine split_not ?_
        refine split_any_e e (fun c75 e => ?_) (fun c75 e => ?_)
        · refine ⟨_, ld0 (Sub.refl _) (O72.all 0 rfl) (T_timer_Timers.g0 e_3), _, rfl, ?_⟩
          refine split_ne_e e (fun c74 e => ?_) (fun c74 e => ?_)
          · cases e
            exact ⟨_, O72.pick [], rfl⟩
          · refine split_ne_e e (fun c73 e => ?_) (fun c73 e => ?_)
            · cases e
              exact ⟨_, O72.pick [], rfl⟩
            · exact roadlaw3_TimerTells.j1.walk (O72.pick [0, 1, 3, 4, 5, 6, 7, 8]).nm e_3 e_7 e_12 rfl e_17 rfl rfl rfl e
        · cases e
          exact ⟨_, O72.pick [], rfl⟩
      · exact roadlaw3_TimerTells.j1.walk (O.pick [0, 1, 3, 4, 5, 6, 7, 8]).nm e_3 e_7 e_12 rfl e_17 rfl rfl rfl e
set_option maxRecDepth 100000 in
theorem roadlaw3_TimerTells.l0_k.step_j4 (go : (p : roadlaw3_TimerTells.l0_k.Pt) → Option (Bool)) (ih : ∀ p r, go p = some r → roadlaw3_TimerTells.l0_k.I p r) (x_1 : Int) (x_2 : Int) (y_3 : T_timer_Timers) (y_7 : T_timer_Timers) (x_8 : Int) (y_9 : T_timer_Timers) (x_10 : Int) (x_11 : Int) (y_12 : T_timer_Timers) (a_13 : List T_timer_Due) (x_14 : Int) (y_17 : T_timer_Timers) (a_19 : List T_timer_Due) (a_20 : List T_timer_Due) (a_21 : List T_timer_Due) (x_22 : Int) (y_24 : T_timer_Due) (a_143 : List T_timer_Due) (x_144 : Int) (x_145 : Int) (r : Bool) (e : roadlaw3_TimerTells.l0_k.body go (.j4 x_1 x_2 y_3 y_7 x_8 y_9 x_10 x_11 y_12 a_13 x_14 y_17 a_19 a_20 a_21 x_22 y_24 a_143 x_144 x_145) = some r) : roadlaw3_TimerTells.l0_k.I (.j4 x_1 x_2 y_3 y_7 x_8 y_9 x_10 x_11 y_12 a_13 x_14 y_17 a_19 a_20 a_21 x_22 y_24 a_143 x_144 x_145) r := by
  unfold roadlaw3_TimerTells.l0_k.body at e
  intro W h0 m0 h m bk_3 cs_3 bk_7 cs_7 bk_9 cs_9 bk_12 cs_12 A_13 n_13 c_13 bk_17 cs_17 A_19 n_19 c_19 A_20 n_20 c_20 A_21 n_21 c_21 bk_24 cs_24 A_143 n_143 c_143 O e_3 e_7 e_9 e_12 ne_13 e_17 ne_19 ne_20 ne_21 e_24 ne_143 k_143 r_143
  subst ne_13
  subst ne_19
  subst ne_20
  subst ne_21
  subst ne_143
  refine f4.j4_in ?_
  unfold f4.j4T
  obtain ⟨y1, g2, e⟩ := bind_e e
  refine (roadref3_In.walk (Hold.start (W := No) O.s)  g2).mono ?_
  rintro _ h3 ⟨m4, Q5, rfl⟩
  have O7 := Hold.nm (O.retC Q5 vfs_nil)
  refine ⟨_, rfl, ?_⟩
  refine split_any_e e (fun c8 e => ?_) (fun c8 e => ?_)
  · refine ⟨_, ld0 (Sub.refl _) (O7.all 9 rfl) (T_timer_Due.g0 e_24), _, rfl, ?_⟩
    refine ⟨_, ld0 (Sub.refl _) (O7.all 0 rfl) (T_timer_Timers.g0 e_3), _, rfl, ?_⟩
    exact (ih _ _ e) _ _ _ _ _ _ _ _ _ _ _ _ _ _ _ _ _ _ _ _ _ _ _ _ _ _ _ _ _ _ _ _ (O7.pick [0, 1, 2, 3, 4, 5, 6, 7, 8, 9]).nm e_3 e_7 e_9 e_12 rfl e_17 rfl rfl rfl e_24 rfl k_143 r_143
  · exact (ih _ _ e) _ _ _ _ _ _ _ _ _ _ _ _ _ _ _ _ _ _ _ _ _ _ _ _ _ _ _ _ _ _ _ _ (O7.pick [0, 1, 2, 3, 4, 5, 6, 7, 8, 9]).nm e_3 e_7 e_9 e_12 rfl e_17 rfl rfl rfl e_24 rfl k_143 r_143
set_option maxRecDepth 100000 in
theorem roadlaw3_TimerTells.l0_k.step_j6 (go : (p : roadlaw3_TimerTells.l0_k.Pt) → Option (Bool)) (ih : ∀ p r, go p = some r → roadlaw3_TimerTells.l0_k.I p r) (x_1 : Int) (x_2 : Int) (y_3 : T_timer_Timers) (y_7 : T_timer_Timers) (x_8 : Int) (y_9 : T_timer_Timers) (x_10 : Int) (x_11 : Int) (y_12 : T_timer_Timers) (a_13 : List T_timer_Due) (x_14 : Int) (y_17 : T_timer_Timers) (a_19 : List T_timer_Due) (a_20 : List T_timer_Due) (a_21 : List T_timer_Due) (x_22 : Int) (y_24 : T_timer_Due) (a_143 : List T_timer_Due) (x_144 : Int) (x_145 : Int) (b_169 : Bool) (r : Bool) (e : roadlaw3_TimerTells.l0_k.body go (.j6 x_1 x_2 y_3 y_7 x_8 y_9 x_10 x_11 y_12 a_13 x_14 y_17 a_19 a_20 a_21 x_22 y_24 a_143 x_144 x_145 b_169) = some r) : roadlaw3_TimerTells.l0_k.I (.j6 x_1 x_2 y_3 y_7 x_8 y_9 x_10 x_11 y_12 a_13 x_14 y_17 a_19 a_20 a_21 x_22 y_24 a_143 x_144 x_145 b_169) r := by
  unfold roadlaw3_TimerTells.l0_k.body at e
  intro W h0 m0 h m bk_3 cs_3 bk_7 cs_7 bk_9 cs_9 bk_12 cs_12 A_13 n_13 c_13 bk_17 cs_17 A_19 n_19 c_19 A_20 n_20 c_20 A_21 n_21 c_21 bk_24 cs_24 A_143 n_143 c_143 O e_3 e_7 e_9 e_12 ne_13 e_17 ne_19 ne_20 ne_21 e_24 ne_143 k_143 r_143
  subst ne_13
  subst ne_19
  subst ne_20
  subst ne_21
  subst ne_143
  refine f4.j6_in ?_
  unfold f4.j6T
  refine split_any_e e (fun c31 e => ?_) (fun c31 e => ?_)
  · refine ⟨_, ldAn (Sub.refl _) (O.all 9 rfl) (T_timer_Due.T.len _ _ _ e_24), ?_⟩
    refine ⟨cs_24, rfl, (T_timer_Due.T.len _ _ _ e_24), ?_⟩
    refine O.new fun h1 x2 O3 => ?_
    have O5 := O3.recell 10 rfl (cs' := cs_24 ++ []) rfl
    obtain ⟨l6, g7, e⟩ := bind_e e
    have O14 := O5.rowE (l := ([y_24] : List T_timer_Due)) 10 rfl T_timer_Due.T (show CsE _ _ _ _ _ from (CsE.cons e_24 (T_timer_Due.T.len _ _ _ e_24) CsE.nil)) rfl
    refine O14.app 7 rfl rfl rfl ((O14.os 10 rfl).srcE rfl) (by decide) g7 fun A8 c9 h10 O11 => ?_
    refine ⟨_, _, _, rfl, ?_⟩
    have O15 := O11.nm
    exact (ih _ _ e) _ _ _ _ _ _ _ _ _ _ _ _ _ _ _ _ _ _ _ _ _ _ _ _ _ _ _ _ _ _ (O15.pick [0, 1, 2, 3, 4, 5, 6, 7, 8]).nm e_3 e_7 e_9 e_12 rfl e_17 rfl rfl rfl rfl k_143 r_143
  · refine ⟨_, ldAn (Sub.refl _) (O.all 9 rfl) (T_timer_Due.T.len _ _ _ e_24), ?_⟩
    refine ⟨cs_24, rfl, (T_timer_Due.T.len _ _ _ e_24), ?_⟩
    refine O.new fun h16 x17 O18 => ?_
    have O20 := O18.recell 10 rfl (cs' := cs_24 ++ []) rfl
    obtain ⟨l21, g22, e⟩ := bind_e e
    have O29 := O20.rowE (l := ([y_24] : List T_timer_Due)) 10 rfl T_timer_Due.T (show CsE _ _ _ _ _ from (CsE.cons e_24 (T_timer_Due.T.len _ _ _ e_24) CsE.nil)) rfl
    refine O29.app 8 rfl rfl rfl ((O29.os 10 rfl).srcE rfl) (by decide) g22 fun A23 c24 h25 O26 => ?_
    refine ⟨_, _, _, rfl, ?_⟩
    have O30 := O26.nm
    exact (ih _ _ e) _ _ _ _ _ _ _ _ _ _ _ _ _ _ _ _ _ _ _ _ _ _ _ _ _ _ _ _ _ _ (O30.pick [0, 1, 2, 3, 4, 5, 6, 7, 8]).nm e_3 e_7 e_9 e_12 rfl e_17 rfl rfl rfl rfl k_143 r_143
theorem roadlaw3_TimerTells.l0_k.all {p : roadlaw3_TimerTells.l0_k.Pt} {r : (Bool)} (e : roadlaw3_TimerTells.l0_k.go p = some r) : roadlaw3_TimerTells.l0_k.I p r := fixF_ind (β := fun _ => (Bool)) roadlaw3_TimerTells.l0_k.mono (I := roadlaw3_TimerTells.l0_k.I) (fun go ih p r e => match p with
  | .l0 x_1 x_2 y_3 y_7 x_8 y_9 x_10 x_11 y_12 a_13 x_14 y_17 a_19 a_20 a_21 x_22 a_143 x_144 x_145 => roadlaw3_TimerTells.l0_k.step_l0 go ih x_1 x_2 y_3 y_7 x_8 y_9 x_10 x_11 y_12 a_13 x_14 y_17 a_19 a_20 a_21 x_22 a_143 x_144 x_145 r e
  | .j4 x_1 x_2 y_3 y_7 x_8 y_9 x_10 x_11 y_12 a_13 x_14 y_17 a_19 a_20 a_21 x_22 y_24 a_143 x_144 x_145 => roadlaw3_TimerTells.l0_k.step_j4 go ih x_1 x_2 y_3 y_7 x_8 y_9 x_10 x_11 y_12 a_13 x_14 y_17 a_19 a_20 a_21 x_22 y_24 a_143 x_144 x_145 r e
  | .j6 x_1 x_2 y_3 y_7 x_8 y_9 x_10 x_11 y_12 a_13 x_14 y_17 a_19 a_20 a_21 x_22 y_24 a_143 x_144 x_145 b_169 => roadlaw3_TimerTells.l0_k.step_j6 go ih x_1 x_2 y_3 y_7 x_8 y_9 x_10 x_11 y_12 a_13 x_14 y_17 a_19 a_20 a_21 x_22 y_24 a_143 x_144 x_145 b_169 r e
  ) e
theorem roadlaw3_TimerTells.l0.walk {W : Nat → Prop} {h0 m0 h m : Heap} {bk_3 : Nat} {cs_3 : List Value} {bk_7 : Nat} {cs_7 : List Value} {bk_9 : Nat} {cs_9 : List Value} {bk_12 : Nat} {cs_12 : List Value} {A_13 : Option Addr} {n_13 c_13 : Nat} {bk_17 : Nat} {cs_17 : List Value} {A_19 : Option Addr} {n_19 c_19 : Nat} {A_20 : Option Addr} {n_20 c_20 : Nat} {A_21 : Option Addr} {n_21 c_21 : Nat} {A_143 : Option Addr} {n_143 c_143 : Nat} {x_1 : Int} {x_2 : Int} {y_3 : T_timer_Timers} {y_7 : T_timer_Timers} {x_8 : Int} {y_9 : T_timer_Timers} {x_10 : Int} {x_11 : Int} {y_12 : T_timer_Timers} {a_13 : List T_timer_Due} {x_14 : Int} {y_17 : T_timer_Timers} {a_19 : List T_timer_Due} {a_20 : List T_timer_Due} {a_21 : List T_timer_Due} {x_22 : Int} {a_143 : List T_timer_Due} {x_144 : Int} {x_145 : Int} (O : Hold W h0 m0 h m [rV bk_3 48 cs_3, rV bk_7 48 cs_7, rV bk_9 48 cs_9, rV bk_12 48 cs_12, rR (aE T_timer_Due.T) A_13 c_13 a_13, rV bk_17 48 cs_17, rR (aE T_timer_Due.T) A_19 c_19 a_19, rR (aE T_timer_Due.T) A_20 c_20 a_20, rR (aE T_timer_Due.T) A_21 c_21 a_21]) (e_3 : T_timer_Timers.E m y_3 cs_3) (e_7 : T_timer_Timers.E m y_7 cs_7) (e_9 : T_timer_Timers.E m y_9 cs_9) (e_12 : T_timer_Timers.E m y_12 cs_12) (ne_13 : n_13 = List.length a_13) (e_17 : T_timer_Timers.E m y_17 cs_17) (ne_19 : n_19 = List.length a_19) (ne_20 : n_20 = List.length a_20) (ne_21 : n_21 = List.length a_21) (ne_143 : n_143 = List.length a_143) (k_143 : List.length a_143 ≤ c_143) (r_143 : Rd 2 T_timer_Due.E m A_143 a_143) {r : Bool} (e : roadlaw3_TimerTells.l0 x_1 x_2 y_3 y_7 x_8 y_9 x_10 x_11 y_12 a_13 x_14 y_17 a_19 a_20 a_21 x_22 a_143 x_144 x_145 = some r) : f4.l0 (roadlaw3_TimerTells.post W h0 m0 r) x_1 x_2 (⟨bk_3, 0, none⟩ : Addr) (⟨bk_7, 0, none⟩ : Addr) x_8 (⟨bk_9, 0, none⟩ : Addr) x_10 x_11 (⟨bk_12, 0, none⟩ : Addr) A_13 n_13 c_13 x_14 (⟨bk_17, 0, none⟩ : Addr) A_19 n_19 c_19 A_20 n_20 c_20 A_21 n_21 c_21 x_22 A_143 n_143 c_143 x_144 x_145 h := roadlaw3_TimerTells.l0_k.all (p := .l0 x_1 x_2 y_3 y_7 x_8 y_9 x_10 x_11 y_12 a_13 x_14 y_17 a_19 a_20 a_21 x_22 a_143 x_144 x_145) e W h0 m0 h m bk_3 cs_3 bk_7 cs_7 bk_9 cs_9 bk_12 cs_12 A_13 n_13 c_13 bk_17 cs_17 A_19 n_19 c_19 A_20 n_20 c_20 A_21 n_21 c_21 A_143 n_143 c_143 O e_3 e_7 e_9 e_12 ne_13 e_17 ne_19 ne_20 ne_21 ne_143 k_143 r_143
noncomputable def roadlaw3_TimerTells.j0 (x_1 : Int) (x_2 : Int) (y_3 : T_timer_Timers) (y_7 : T_timer_Timers) (x_8 : Int) (y_9 : T_timer_Timers) (x_10 : Int) (x_11 : Int) (y_12 : T_timer_Timers) (a_13 : List T_timer_Due) (x_14 : Int) (y_17 : T_timer_Timers) : Option (Bool) :=
  (roadlaw3_TimerTells.l0 x_1 x_2 y_3 y_7 x_8 y_9 x_10 x_11 y_12 a_13 x_14 y_17 ([] : List T_timer_Due) ([] : List T_timer_Due) ([] : List T_timer_Due) (0 : Int) y_3.Dues (((List.length y_3.Dues) : Nat) : Int) (0 : Int))
set_option maxRecDepth 100000 in
theorem roadlaw3_TimerTells.j0.walk {W : Nat → Prop} {h0 m0 h m : Heap} {bk_3 : Nat} {cs_3 : List Value} {bk_7 : Nat} {cs_7 : List Value} {bk_9 : Nat} {cs_9 : List Value} {bk_12 : Nat} {cs_12 : List Value} {A_13 : Option Addr} {n_13 c_13 : Nat} {bk_17 : Nat} {cs_17 : List Value} {x_1 : Int} {x_2 : Int} {y_3 : T_timer_Timers} {y_7 : T_timer_Timers} {x_8 : Int} {y_9 : T_timer_Timers} {x_10 : Int} {x_11 : Int} {y_12 : T_timer_Timers} {a_13 : List T_timer_Due} {x_14 : Int} {y_17 : T_timer_Timers} (O : Hold W h0 m0 h m [rV bk_3 48 cs_3, rV bk_7 48 cs_7, rV bk_9 48 cs_9, rV bk_12 48 cs_12, rR (aE T_timer_Due.T) A_13 c_13 a_13, rV bk_17 48 cs_17]) (e_3 : T_timer_Timers.E m y_3 cs_3) (e_7 : T_timer_Timers.E m y_7 cs_7) (e_9 : T_timer_Timers.E m y_9 cs_9) (e_12 : T_timer_Timers.E m y_12 cs_12) (ne_13 : n_13 = List.length a_13) (e_17 : T_timer_Timers.E m y_17 cs_17) {r : Bool} (e : roadlaw3_TimerTells.j0 x_1 x_2 y_3 y_7 x_8 y_9 x_10 x_11 y_12 a_13 x_14 y_17 = some r) : f4.j0 (roadlaw3_TimerTells.post W h0 m0 r) x_1 x_2 (⟨bk_3, 0, none⟩ : Addr) (⟨bk_7, 0, none⟩ : Addr) x_8 (⟨bk_9, 0, none⟩ : Addr) x_10 x_11 (⟨bk_12, 0, none⟩ : Addr) A_13 n_13 c_13 x_14 (⟨bk_17, 0, none⟩ : Addr) h := by
  unfold roadlaw3_TimerTells.j0 at e
  subst ne_13
  refine f4.j0_in ?_
  unfold f4.j0T
  obtain ⟨A1, c2, q3, k4, r5⟩ := T_timer_Timers.g1 e_3
  refine ⟨_, ldk (k := 1) (Sub.refl _) (O.all 0 rfl) q3, _, _, _, rfl, ?_⟩
  have O6 := O.nil (aE T_timer_Due.T) none
  have O8 := O6.nil (aE T_timer_Due.T) none
  have O10 := O8.nil (aE T_timer_Due.T) none
  have O12 := O10.nm
  exact roadlaw3_TimerTells.l0.walk (O12.pick [0, 1, 2, 3, 4, 5, 6, 7, 8]).nm e_3 e_7 e_9 e_12 rfl e_17 rfl rfl rfl rfl k4 r5 e
noncomputable def roadlaw3_TimerTells (y_0 : T_timer_Timers) (x_1 : Int) (x_2 : Int) : Option (Bool) :=
  Option.bind (timer_Set y_0 x_1 x_2) fun y5 => Option.bind (timer_Out y_0 x_1) fun y21 => Option.bind (timer_Go y_0 x_2) fun y37 => Option.bind (timer_Next y_0) fun y58 => Option.bind (roadref3_TimersFault y_0) fun y71 => Option.bind (timer_Check y_0) fun y78 => if y78 = y71 then (if y71 = (0 : Int) then (if (((List.length y_0.Dues) : Nat) : Int) = (0 : Int) then (if y58.1 = (0 : Int) then (if y58.2 = (4 : Int) then (if (((List.length y_0.Dues) : Nat) : Int) > (0 : Int) then (Option.bind (gi y_0.Dues (0 : Int)) fun y130 => if y58.1 = (IntKind.wrap .i64 (y130.At - y_0.Now)) then (if y58.2 = (0 : Int) then ((roadlaw3_TimerTells.j0 x_1 x_2 y_0 y5.1 y5.2 y21.1 y21.2.1 y21.2.2 y37.1 y37.2.1 y37.2.2 (T_timer_Timers.mk (0 : Int) ([] : List T_timer_Due)))) else (some (false))) else (some (false))) else ((roadlaw3_TimerTells.j0 x_1 x_2 y_0 y5.1 y5.2 y21.1 y21.2.1 y21.2.2 y37.1 y37.2.1 y37.2.2 (T_timer_Timers.mk (0 : Int) ([] : List T_timer_Due))))) else (some (false))) else (some (false))) else (if (((List.length y_0.Dues) : Nat) : Int) > (0 : Int) then (Option.bind (gi y_0.Dues (0 : Int)) fun y152 => if y58.1 = (IntKind.wrap .i64 (y152.At - y_0.Now)) then (if y58.2 = (0 : Int) then ((roadlaw3_TimerTells.j0 x_1 x_2 y_0 y5.1 y5.2 y21.1 y21.2.1 y21.2.2 y37.1 y37.2.1 y37.2.2 (T_timer_Timers.mk (0 : Int) ([] : List T_timer_Due)))) else (some (false))) else (some (false))) else ((roadlaw3_TimerTells.j0 x_1 x_2 y_0 y5.1 y5.2 y21.1 y21.2.1 y21.2.2 y37.1 y37.2.1 y37.2.2 (T_timer_Timers.mk (0 : Int) ([] : List T_timer_Due)))))) else (Option.bind (roadref3_SameTimers y5.1 (T_timer_Timers.mk (0 : Int) ([] : List T_timer_Due))) fun y85 => if y85 = true then (if y5.2 = y71 then (Option.bind (roadref3_SameTimers y21.1 (T_timer_Timers.mk (0 : Int) ([] : List T_timer_Due))) fun y92 => if y92 = true then (if y21.2.1 = (0 : Int) then (if y21.2.2 = y71 then (Option.bind (roadref3_SameTimers y37.1 (T_timer_Timers.mk (0 : Int) ([] : List T_timer_Due))) fun y99 => if y99 = true then (if (((List.length y37.2.1) : Nat) : Int) = (0 : Int) then (if y37.2.2 = y71 then (if y58.1 = (0 : Int) then (some ((y58.2 == y71))) else (some (false))) else (some (false))) else (some (false))) else (some (false))) else (some (false))) else (some (false))) else (some (false))) else (some (false))) else (some (false)))) else (some (false))
set_option maxHeartbeats 4000000 in
set_option maxRecDepth 100000 in
theorem roadlaw3_TimerTells.walk {W : Nat → Prop} {h m : Heap} {cs_0 : List Value} {y_0 : T_timer_Timers} {x_1 : Int} {x_2 : Int} (O : Hold W h m h m []) (e_0 : T_timer_Timers.E m y_0 cs_0) {r : Bool} (e : roadlaw3_TimerTells y_0 x_1 x_2 = some r) : Run Try.prog 4 #[Value.agg cs_0.toArray, Value.int .i64 x_1, Value.int .i64 x_2] h (roadlaw3_TimerTells.post W h m r) := by
  unfold roadlaw3_TimerTells at e
  refine f4.run ?_
  unfold f4.runT
  refine O.new fun h1 x2 O3 => ?_
  refine ⟨_, ldAn (Sub.refl _) (O3.all 0 rfl) (T_timer_Timers.T.len _ _ _ e_0), ?_⟩
  obtain ⟨y5, g6, e⟩ := bind_e e
  refine (timer_Set.walk (Hold.start (W := No) O3.s) e_0 g6).mono ?_
  rintro _ h7 ⟨m8, cs12, Q9, rfl, he13⟩
  have O14 := Hold.nm (O3.ret Q9)
  refine ⟨_, _, rfl, ?_⟩
  refine O14.new fun h15 x16 O17 => ?_
  refine ⟨_, rfl, (T_timer_Timers.T.len _ _ _ he13), ?_⟩
  refine O17.stA 1 rfl (T_timer_Timers.T.len _ _ _ he13) (T_timer_Timers.T.flat _ _ _ he13) fun h19 O20 => ?_
  refine ⟨_, ldAn (Sub.refl _) (O20.all 0 rfl) (T_timer_Timers.T.len _ _ _ e_0), ?_⟩
  obtain ⟨y21, g22, e⟩ := bind_e e
  refine (timer_Out.walk (Hold.start (W := No) O20.s) (T_timer_Timers.T.mono _ _ _ _ Q9.S.up e_0) g22).mono ?_
  rintro _ h23 ⟨m24, cs28, Q25, rfl, he29⟩
  have O30 := Hold.nm (O20.ret Q25)
  refine ⟨_, _, _, rfl, ?_⟩
  refine O30.new fun h31 x32 O33 => ?_
  refine ⟨_, rfl, (T_timer_Timers.T.len _ _ _ he29), ?_⟩
  refine O33.stA 2 rfl (T_timer_Timers.T.len _ _ _ he29) (T_timer_Timers.T.flat _ _ _ he29) fun h35 O36 => ?_
  refine ⟨_, ldAn (Sub.refl _) (O36.all 0 rfl) (T_timer_Timers.T.len _ _ _ e_0), ?_⟩
  obtain ⟨y37, g38, e⟩ := bind_e e
  refine (timer_Go.walk (Hold.start (W := No) O36.s) (T_timer_Timers.T.mono _ _ _ _ (Q9.S.up.trans Q25.S.up) e_0) g38).mono ?_
  rintro _ h39 ⟨m40, cs44, A46, n47, c48, Q41, rfl, he45, ne49⟩
  have O51 := Hold.nm (O36.ret Q41)
  subst ne49
  refine ⟨_, _, _, _, _, rfl, ?_⟩
  refine O51.new fun h52 x53 O54 => ?_
  refine ⟨_, rfl, (T_timer_Timers.T.len _ _ _ he45), ?_⟩
  refine O54.stA 4 rfl (T_timer_Timers.T.len _ _ _ he45) (T_timer_Timers.T.flat _ _ _ he45) fun h56 O57 => ?_
  refine ⟨_, ldAn (Sub.refl _) (O57.all 0 rfl) (T_timer_Timers.T.len _ _ _ e_0), ?_⟩
  obtain ⟨y58, g59, e⟩ := bind_e e
  refine (timer_Next.walk (Hold.start (W := No) O57.s) (T_timer_Timers.T.mono _ _ _ _ (Q9.S.up.trans (Q25.S.up.trans Q41.S.up)) e_0) g59).mono ?_
  rintro _ h60 ⟨m61, Q62, rfl⟩
  have O64 := Hold.nm (O57.retC Q62 vfs_nil)
  refine ⟨_, _, rfl, ?_⟩
  refine O64.new fun h65 x66 O67 => ?_
  refine ⟨_, rfl, rfl, ?_⟩
  refine O67.stA 5 rfl rfl (Flats.cons trivial (Flats.cons trivial Flats.nil)) fun h69 O70 => ?_
  refine ⟨_, ldAn (Sub.refl _) (O70.all 0 rfl) (T_timer_Timers.T.len _ _ _ e_0), ?_⟩
  obtain ⟨y71, g72, e⟩ := bind_e e
  refine (roadref3_TimersFault.walk (Hold.start (W := No) O70.s) (T_timer_Timers.T.mono _ _ _ _ (Q9.S.up.trans (Q25.S.up.trans Q41.S.up)) e_0) g72).mono ?_
  rintro _ h73 ⟨m74, Q75, rfl⟩
  have O77 := Hold.nm (O70.retC Q75 vfs_nil)
  refine ⟨_, rfl, ?_⟩
  refine ⟨_, ldAn (Sub.refl _) (O77.all 0 rfl) (T_timer_Timers.T.len _ _ _ e_0), ?_⟩
  obtain ⟨y78, g79, e⟩ := bind_e e
  refine (timer_Check.walk (Hold.start (W := No) O77.s) (T_timer_Timers.T.mono _ _ _ _ (Q9.S.up.trans (Q25.S.up.trans Q41.S.up)) e_0) g79).mono ?_
  rintro _ h80 ⟨m81, Q82, rfl⟩
  have O84 := Hold.nm (O77.retC Q82 vfs_nil)
  refine ⟨_, rfl, ?_⟩
  refine split_ne_e e (fun c164 e => ?_) (fun c164 e => ?_)
  · cases e
    exact ⟨_, O84.pick [], rfl⟩
  · refine split_ne_e e (fun c163 e => ?_) (fun c163 e => ?_)
    · refine ⟨_, ldAn (Sub.refl _) (O84.all 1 rfl) (T_timer_Timers.T.len _ _ _ he13), ?_⟩
      refine ⟨_, ldAn (Sub.refl _) (O84.all 5 rfl) rfl, ?_⟩
      obtain ⟨y85, g86, e⟩ := bind_e e
      refine (roadref3_SameTimers.walk (Hold.start (W := No) O84.s) (T_timer_Timers.T.mono _ _ _ _ (Q25.S.up.trans Q41.S.up) he13) (show T_timer_Timers.E _ (T_timer_Timers.mk (0 : Int) ([] : List T_timer_Due)) [(Value.int .i64 (0 : Int)), (Value.slice none 0 0)] from ⟨_, _, rfl, (by exact Nat.le_refl 0), Rd.nil⟩) g86).mono ?_
      rintro _ h87 ⟨m88, Q89, rfl⟩
      have O91 := Hold.nm (O84.retC Q89 vfs_nil)
      refine ⟨_, rfl, ?_⟩
      refine split_any_e e (fun c114 e => ?_) (fun c114 e => ?_)
      · refine split_eq_e e (fun c113 e => ?_) (fun c113 e => ?_)
        · refine ⟨_, ldAn (Sub.refl _) (O91.all 2 rfl) (T_timer_Timers.T.len _ _ _ he29), ?_⟩
          refine ⟨_, ldAn (Sub.refl _) (O91.all 5 rfl) rfl, ?_⟩
          obtain ⟨y92, g93, e⟩ := bind_e e
          refine (roadref3_SameTimers.walk (Hold.start (W := No) O91.s) (T_timer_Timers.T.mono _ _ _ _ Q41.S.up he29) (show T_timer_Timers.E _ (T_timer_Timers.mk (0 : Int) ([] : List T_timer_Due)) [(Value.int .i64 (0 : Int)), (Value.slice none 0 0)] from ⟨_, _, rfl, (by exact Nat.le_refl 0), Rd.nil⟩) g93).mono ?_
          rintro _ h94 ⟨m95, Q96, rfl⟩
          have O98 := Hold.nm (O91.retC Q96 vfs_nil)
          refine ⟨_, rfl, ?_⟩
          refine split_any_e e (fun c112 e => ?_) (fun c112 e => ?_)
          · refine split_eq_e e (fun c111 e => ?_) (fun c111 e => ?_)
            · refine split_eq_e e (fun c110 e => ?_) (fun c110 e => ?_)
              · refine ⟨_, ldAn (Sub.refl _) (O98.all 4 rfl) (T_timer_Timers.T.len _ _ _ he45), ?_⟩
                refine ⟨_, ldAn (Sub.refl _) (O98.all 5 rfl) rfl, ?_⟩
                obtain ⟨y99, g100, e⟩ := bind_e e
                refine (roadref3_SameTimers.walk (Hold.start (W := No) O98.s) he45 (show T_timer_Timers.E _ (T_timer_Timers.mk (0 : Int) ([] : List T_timer_Due)) [(Value.int .i64 (0 : Int)), (Value.slice none 0 0)] from ⟨_, _, rfl, (by exact Nat.le_refl 0), Rd.nil⟩) g100).mono ?_
                rintro _ h101 ⟨m102, Q103, rfl⟩
                have O105 := Hold.nm (O98.retC Q103 vfs_nil)
                refine ⟨_, rfl, ?_⟩
                refine split_any_e e (fun c109 e => ?_) (fun c109 e => ?_)
                · refine split_eq_e e (fun c108 e => ?_) (fun c108 e => ?_)
                  · refine split_eq_e e (fun c107 e => ?_) (fun c107 e => ?_)
                    · refine split_eq_e e (fun c106 e => ?_) (fun c106 e => ?_)
                      · cases e
                        exact ⟨_, O105.pick [], rfl⟩
                      · cases e
                        exact ⟨_, O105.pick [], rfl⟩
                    · cases e
                      exact ⟨_, O105.pick [], rfl⟩
                  · cases e
                    exact ⟨_, O105.pick [], rfl⟩
                · cases e
                  exact ⟨_, O105.pick [], rfl⟩
              · cases e
                exact ⟨_, O98.pick [], rfl⟩
            · cases e
              exact ⟨_, O98.pick [], rfl⟩
          · cases e
            exact ⟨_, O98.pick [], rfl⟩
        · cases e
          exact ⟨_, O91.pick [], rfl⟩
      · cases e
        exact ⟨_, O91.pick [], rfl⟩
    · obtain ⟨A115, c116, q117, k118, r119⟩ := T_timer_Timers.g1 e_0
      refine ⟨_, ldk (k := 1) (Sub.refl _) (O84.all 0 rfl) q117, _, _, _, rfl, ?_⟩
      refine split_eq_e e (fun c162 e => ?_) (fun c162 e => ?_)
      · refine split_ne_e e (fun c141 e => ?_) (fun c141 e => ?_)
        · cases e
          exact ⟨_, O84.pick [], rfl⟩
        · refine split_ne_e e (fun c140 e => ?_) (fun c140 e => ?_)
          · cases e
            exact ⟨_, O84.pick [], rfl⟩
          · obtain ⟨A120, c121, q122, k123, r124⟩ := T_timer_Timers.g1 e_0
            refine ⟨_, ldk (k := 1) (Sub.refl _) (O84.all 0 rfl) q122, _, _, _, rfl, ?_⟩
            refine split_dec_e e (fun c139 e => ?_) (fun c139 e => ?_)
            · obtain ⟨A125, c126, q127, k128, r129⟩ := T_timer_Timers.g1 e_0
              refine ⟨_, ldk (k := 1) (Sub.refl _) (O84.all 0 rfl) q127, _, _, _, rfl, ?_⟩
              obtain ⟨y130, g131, e⟩ := bind_e e
              refine (r129.sub T_timer_Due.T (Q9.S.up.trans (Q25.S.up.trans Q41.S.up))).addr rfl g131 fun a132 cs133 ha134 hc135 he136 => ?_
              refine ⟨_, ld0 O84.s hc135 (T_timer_Due.g0 he136), _, rfl, ?_⟩
              refine ⟨_, ld0 (Sub.refl _) (O84.all 0 rfl) (T_timer_Timers.g0 e_0), _, rfl, ?_⟩
              refine split_ne_e e (fun c138 e => ?_) (fun c138 e => ?_)
              · cases e
                exact ⟨_, O84.pick [], rfl⟩
              · refine split_ne_e e (fun c137 e => ?_) (fun c137 e => ?_)
                · cases e
                  exact ⟨_, O84.pick [], rfl⟩
                · exact roadlaw3_TimerTells.j0.walk (O84.pick [0, 1, 2, 4, 3, 5]).nm (T_timer_Timers.T.mono _ _ _ _ (Q9.S.up.trans (Q25.S.up.trans Q41.S.up)) e_0) (T_timer_Timers.T.mono _ _ _ _ (Q25.S.up.trans Q41.S.up) he13) (T_timer_Timers.T.mono _ _ _ _ Q41.S.up he29) he45 rfl (show T_timer_Timers.E _ (T_timer_Timers.mk (0 : Int) ([] : List T_timer_Due)) [(Value.int .i64 (0 : Int)), (Value.slice none 0 0)] from ⟨_, _, rfl, (by exact Nat.le_refl 0), Rd.nil⟩) e
            · exact roadlaw3_TimerTells.j0.walk (O84.pick [0, 1, 2, 4, 3, 5]).nm (T_timer_Timers.T.mono _ _ _ _ (Q9.S.up.trans (Q25.S.up.trans Q41.S.up)) e_0) (T_timer_Timers.T.mono _ _ _ _ (Q25.S.up.trans Q41.S.up) he13) (T_timer_Timers.T.mono _ _ _ _ Q41.S.up he29) he45 rfl (show T_timer_Timers.E _ (T_timer_Timers.mk (0 : Int) ([] : List T_timer_Due)) [(Value.int .i64 (0 : Int)), (Value.slice none 0 0)] from ⟨_, _, rfl, (by exact Nat.le_refl 0), Rd.nil⟩) e
      · obtain ⟨A142, c143, q144, k145, r146⟩ := T_timer_Timers.g1 e_0
        refine ⟨_, ldk (k := 1) (Sub.refl _) (O84.all 0 rfl) q144, _, _, _, rfl, ?_⟩
        refine split_dec_e e (fun c161 e => ?_) (fun c161 e => ?_)
        · obtain ⟨A147, c148, q149, k150, r151⟩ := T_timer_Timers.g1 e_0
          refine ⟨_, ldk (k := 1) (Sub.refl _) (O84.all 0 rfl) q149, _, _, _, rfl, ?_⟩
          obtain ⟨y152, g153, e⟩ := bind_e e
          refine (r151.sub T_timer_Due.T (Q9.S.up.trans (Q25.S.up.trans Q41.S.up))).addr rfl g153 fun a154 cs155 ha156 hc157 he158 => ?_
          refine ⟨_, ld0 O84.s hc157 (T_timer_Due.g0 he158), _, rfl, ?_⟩
          refine ⟨_, ld0 (Sub.refl _) (O84.all 0 rfl) (T_timer_Timers.g0 e_0), _, rfl, ?_⟩
          refine split_ne_e e (fun c160 e => ?_) (fun c160 e => ?_)
          · cases e
            exact ⟨_, O84.pick [], rfl⟩
          · refine split_ne_e e (fun c159 e => ?_) (fun c159 e => ?_)
            · cases e
              exact ⟨_, O84.pick [], rfl⟩
            · exact roadlaw3_TimerTells.j0.walk (O84.pick [0, 1, 2, 4, 3, 5]).nm (T_timer_Timers.T.mono _ _ _ _ (Q9.S.up.trans (Q25.S.up.trans Q41.S.up)) e_0) (T_timer_Timers.T.mono _ _ _ _ (Q25.S.up.trans Q41.S.up) he13) (T_timer_Timers.T.mono _ _ _ _ Q41.S.up he29) he45 rfl (show T_timer_Timers.E _ (T_timer_Timers.mk (0 : Int) ([] : List T_timer_Due)) [(Value.int .i64 (0 : Int)), (Value.slice none 0 0)] from ⟨_, _, rfl, (by exact Nat.le_refl 0), Rd.nil⟩) e
        · exact roadlaw3_TimerTells.j0.walk (O84.pick [0, 1, 2, 4, 3, 5]).nm (T_timer_Timers.T.mono _ _ _ _ (Q9.S.up.trans (Q25.S.up.trans Q41.S.up)) e_0) (T_timer_Timers.T.mono _ _ _ _ (Q25.S.up.trans Q41.S.up) he13) (T_timer_Timers.T.mono _ _ _ _ Q41.S.up he29) he45 rfl (show T_timer_Timers.E _ (T_timer_Timers.mk (0 : Int) ([] : List T_timer_Due)) [(Value.int .i64 (0 : Int)), (Value.slice none 0 0)] from ⟨_, _, rfl, (by exact Nat.le_refl 0), Rd.nil⟩) e
end Go.Proofs.Ytmcfmmoaofileaa.Fw

end
section
set_option linter.unusedVariables false
namespace Go.Hw
open Go
end Go.Hw

end
section
set_option linter.unusedVariables false
namespace Go.Hw
open Go
theorem u64_in' {n : Int} (h0 : 0 ≤ n) (h1 : n ≤ 18446744073709551615) : IntKind.wrap .u64 n = n := by
  have : n % 18446744073709551616 = n := Int.emod_eq_of_lt h0 (by omega)
  simp [IntKind.wrap, IntKind.bits, IntKind.signed, this]
theorem shr_nat {x s : Nat} (hs : s ≤ 64) : shrI .u64 (x : Int) (s : Int) = ((x / 2 ^ s : Nat) : Int) := by
  unfold shrI
  rw [show Int.toNat (s : Int) = s from rfl, show min s (IntKind.bits .u64) = s from Nat.min_eq_left hs]
  have : ((2 : Int) ^ s) = ((2 ^ s : Nat) : Int) := by push_cast; rfl
  rw [this, Int.fdiv_eq_ediv_of_nonneg _ (Int.natCast_nonneg _)]
  exact (Int.natCast_ediv x (2 ^ s)).symm
end Go.Hw

end
section
namespace Go.Proofs.Ytmcfmmoaofileaa.Fw
open Go Go.Hw Go.Proofs
set_option linter.unusedVariables false
set_option linter.unusedSectionVars false
abbrev Du := T_timer_Due
abbrev Ti := T_timer_Timers
theorem nlt (n : Int) : ¬ n < n := by omega
theorem pgdb_set {es : List (Int × Bool)} {k q : Int} {x : Bool} : pgd (pset es k x) q false = if q = k then x else pgd es q false := by
  unfold pgd; rw [pget_pset]; split <;> rfl
def ord (a b : Du) : Int := if a.At < b.At then -1 else if a.At > b.At then 1 else if a.Id < b.Id then -1 else if a.Id > b.Id then 1 else 0
def lt (a b : Du) : Prop := a.At < b.At ∨ a.At = b.At ∧ a.Id < b.Id
theorem cmp_val (x y : Int) : cmp_Compare_128 x y = some (if x < y then -1 else if x > y then 1 else 0) := by
  unfold cmp_Compare_128 cmp_isNaN_166
  simp only [bne_self_eq_false, Option.bind_some]
  rw [if_neg (by decide), if_neg (by decide)]
  split
  · rfl
  · split <;> rfl
theorem or_val (x y : Int) : cmp_Or_127 [x, y] = some (if x = 0 then y else x) := by
  unfold cmp_Or_127
  show cmp_Or_127.l0 0 [x, y] ((2 : Nat) : Int) ((0 : Nat) : Int) = _
  rw [cmp_Or_127.l0_eq, if_pos (by omega), gi_at (by simp), Option.bind_some]
  by_cases c : x = 0
  · rw [if_pos c, if_pos (show [x, y][0] = 0 from c), w_succ (by omega), cmp_Or_127.l0_eq, if_pos (by omega), gi_at (by simp), Option.bind_some]
    by_cases c2 : y = 0
    · rw [if_pos (show [x, y][0 + 1] = 0 from c2), w_succ (by omega), cmp_Or_127.l0_eq, if_neg (by omega), c2]
    · rw [if_neg (show ¬ [x, y][0 + 1] = 0 from c2)]; rfl
  · rw [if_neg c, if_neg (show ¬ [x, y][0] = 0 from c)]; rfl
theorem order_val (a b : Du) : timer_order a b = some (ord a b) := by
  unfold timer_order ord
  rw [cmp_val, Option.bind_some, cmp_val, Option.bind_some, or_val, Option.bind_some]
  congr 1
  repeat' split
  all_goals first | rfl | omega
theorem ord_neg (a b : Du) : ord a b < 0 ↔ lt a b := by
  unfold ord lt
  repeat' split
  all_goals omega
theorem ord_ge (a b : Du) : ord a b ≥ 0 ↔ ¬ lt a b := by rw [← ord_neg]; omega
theorem lt_trans {a b c : Du} (h : lt a b) (k : lt b c) : lt a c := by unfold lt at *; omega
theorem in_val (x a b : Int) : roadref3_In x a b = some (decide (a ≤ x ∧ x ≤ b)) := by
  unfold roadref3_In
  by_cases c : a ≤ x
  · rw [if_pos c]; simp [c]
  · rw [if_neg c]; simp [c]
structure Pre (t : Ti) (n : Nat) : Prop where
  at_ : ∀ i (h : i < t.Dues.length), i < n → t.Now < t.Dues[i].At ∧ t.Dues[i].At ≤ 2199023255552
  srt : ∀ i j (hj : j < t.Dues.length) (h : i < j), j < n → lt t.Dues[i] t.Dues[j]
  dis : ∀ i j (hj : j < t.Dues.length) (h : i < j), j < n → t.Dues[i].Id ≠ t.Dues[j].Id
structure Good (t : Ti) : Prop where
  len : t.Dues.length ≤ 100
  n0 : 0 ≤ t.Now
  n1 : t.Now ≤ 1099511627776
  pre : Pre t t.Dues.length
theorem Pre.next {t : Ti} {i : Nat} (p : Pre t i) (hi : i < t.Dues.length) (ha : t.Now < t.Dues[i].At ∧ t.Dues[i].At ≤ 2199023255552)
    (ho : ∀ h : 0 < i, lt t.Dues[i - 1] t.Dues[i]) (hd : ∀ j (h : j < i), t.Dues[j].Id ≠ t.Dues[i].Id) : Pre t (i + 1) := by
  refine ⟨fun j h hj => ?_, fun j k hk h hj => ?_, fun j k hk h hj => ?_⟩
  · by_cases e : j = i
    · subst e; exact ha
    · exact p.at_ j h (by omega)
  · by_cases e : k = i
    · subst e
      by_cases e2 : j = k - 1
      · subst e2; exact ho (by omega)
      · exact lt_trans (p.srt j (k - 1) (by omega) (by omega) (by omega)) (ho (by omega))
    · exact p.srt j k hk h (by omega)
  · by_cases e : k = i
    · subst e; exact hd j h
    · exact p.dis j k hk h (by omega)
theorem same_l1 (t : Ti) (d : Du) (n i : Nat) {l : List Du} (hl : l.length ≤ 100) (hi : i < 1000) : ∀ (m j : Nat), j + m = l.length → roadref3_TimersFault.l1 t d t.Dues (n : Int) (i : Int) l (l.length : Int) (j : Int)
    = if (l.drop j).any (fun x => decide (x.Id = d.Id)) = true then some 5 else roadref3_TimersFault.l0 t t.Dues (n : Int) ((i + 1 : Nat) : Int) := by
  intro m
  induction m with
  | zero =>
    intro j hj
    obtain rfl : j = l.length := by omega
    rw [roadref3_TimersFault.l1_eq, if_neg (nlt _), List.drop_length, if_neg (by simp), w_succ (by omega)]
  | succ m ih =>
    intro j hj
    have hlt : j < l.length := by omega
    rw [roadref3_TimersFault.l1_eq, if_pos (by omega), gi_at hlt, Option.bind_some, List.drop_eq_getElem_cons hlt, List.any_cons]
    by_cases c : l[j].Id = d.Id
    · rw [if_pos c, decide_eq_true c, Bool.true_or, if_pos rfl]
    · rw [if_neg c, decide_eq_false c, Bool.false_or, w_succ (by omega)]
      exact ih (j + 1) (by omega)
theorem check_loop (t : Ti) (hl : t.Dues.length ≤ 100) (h0 : 0 ≤ t.Now) (h1 : t.Now ≤ 1099511627776) : ∀ (m i : Nat) (es : List (Int × Bool)), i + m = t.Dues.length →
    (∀ k, pgd es k false = (t.Dues.take i).any (fun x => decide (x.Id = k))) → Pre t i →
    ∃ e, timer_Check.l0 t es t.Dues (t.Dues.length : Int) (i : Int) = some e ∧ roadref3_TimersFault.l0 t t.Dues (t.Dues.length : Int) (i : Int) = some e ∧ (e = 0 → Good t) := by
  intro m
  induction m with
  | zero =>
    intro i es hi he p
    obtain rfl : i = t.Dues.length := by omega
    rw [timer_Check.l0_eq, roadref3_TimersFault.l0_eq, if_neg (nlt _), if_neg (nlt _)]
    exact ⟨0, rfl, rfl, fun _ => ⟨hl, h0, h1, p⟩⟩
  | succ m ih =>
    intro i es hi he p
    have hlt : i < t.Dues.length := by omega
    rw [timer_Check.l0_eq, roadref3_TimersFault.l0_eq, if_pos (by omega), if_pos (by omega), gi_at hlt, Option.bind_some, Option.bind_some, in_val, Option.bind_some, wrap_in (n := t.Now + 1) (by omega) (by omega)]
    by_cases c : t.Now + 1 ≤ t.Dues[i].At ∧ t.Dues[i].At ≤ 2199023255552
    · rw [if_pos (decide_eq_true c), if_neg (show ¬ t.Dues[i].At ≤ t.Now by omega), decide_eq_false (show ¬ t.Dues[i].At > 2199023255552 by omega), timer_Check.j2_eq, if_neg (by decide)]
      have fin : (∀ h : 0 < i, lt t.Dues[i - 1] t.Dues[i]) → ∃ e, timer_Check.j3 t es t.Dues[i] t.Dues (t.Dues.length : Int) (i : Int) false = some e ∧ roadref3_TimersFault.j0 t (i : Int) t.Dues[i] t.Dues (t.Dues.length : Int) (i : Int) = some e ∧ (e = 0 → Good t) := by
        intro ho
        rw [timer_Check.j3_eq, if_neg (by decide), roadref3_TimersFault.j0_eq, sls_take rfl (by omega), Option.bind_some, he]
        have := same_l1 t t.Dues[i] t.Dues.length i (l := t.Dues.take i) (by rw [List.length_take]; omega) (by omega) (t.Dues.take i).length 0 (by omega)
        rw [List.drop_zero] at this
        rw [show roadref3_TimersFault.l1 t t.Dues[i] t.Dues (t.Dues.length : Int) (i : Int) (t.Dues.take i) ((t.Dues.take i).length : Int) 0 = roadref3_TimersFault.l1 t t.Dues[i] t.Dues (t.Dues.length : Int) (i : Int) (t.Dues.take i) ((t.Dues.take i).length : Int) ((0 : Nat) : Int) from rfl, this]
        cases hq : (t.Dues.take i).any (fun x => decide (x.Id = t.Dues[i].Id)) with
        | true => rw [if_pos rfl, if_pos rfl]; exact ⟨5, rfl, rfl, fun h => absurd h (by decide)⟩
        | false =>
          rw [if_neg (by decide), if_neg (by decide), timer_Check.j1_eq, Option.bind_some, w_succ (by omega)]
          refine ih (i + 1) _ (by omega) (fun k => ?_) (p.next hlt ⟨by omega, c.2⟩ ho fun j hj e => ?_)
          · rw [pgdb_set, List.take_succ_eq_append_getElem hlt, List.any_append, List.any_cons, List.any_nil, Bool.or_false, he]
            by_cases hk : k = t.Dues[i].Id
            · rw [if_pos hk, decide_eq_true hk.symm, Bool.or_true]
            · rw [if_neg hk, decide_eq_false (fun h => hk h.symm), Bool.or_false]
          · rw [List.any_eq_false] at hq
            have := hq t.Dues[j] (by rw [List.mem_take_iff_getElem]; exact ⟨j, by omega, rfl⟩)
            simp [e] at this
      by_cases c2 : (i : Int) > 0
      · have hw : IntKind.wrap .i64 ((i : Int) - 1) = ((i - 1 : Nat) : Int) := by rw [wrap_in (by omega) (by omega)]; omega
        have hp : i - 1 < t.Dues.length := by omega
        rw [if_pos c2, if_pos c2, hw, gi_at hp, Option.bind_some, Option.bind_some, order_val, Option.bind_some]
        by_cases c3 : lt t.Dues[i - 1] t.Dues[i]
        · have c3' := c3
          rw [decide_eq_false (fun h => (ord_ge _ _).1 h c3)]
          unfold lt at c3
          rw [if_neg (show ¬ t.Dues[i - 1].At > t.Dues[i].At by omega), Option.bind_some]
          by_cases c4 : t.Dues[i - 1].At = t.Dues[i].At
          · rw [if_pos c4, Option.bind_some, if_neg (show ¬ t.Dues[i - 1].Id ≥ t.Dues[i].Id by omega)]
            exact fin fun _ => c3'
          · rw [if_neg c4]
            exact fin fun _ => c3'
        · rw [decide_eq_true ((ord_ge _ _).2 c3), timer_Check.j3_eq, if_pos rfl]
          refine ⟨21, rfl, ?_, fun h => absurd h (by decide)⟩
          unfold lt at c3
          by_cases c4 : t.Dues[i - 1].At > t.Dues[i].At
          · rw [if_pos c4]
          · rw [if_neg c4, Option.bind_some, if_pos (by omega), Option.bind_some, if_pos (by omega)]
      · rw [if_neg c2, if_neg c2]
        exact fin fun h => absurd h (by omega)
    · rw [if_neg (show ¬ decide (t.Now + 1 ≤ t.Dues[i].At ∧ t.Dues[i].At ≤ 2199023255552) = true by rw [decide_eq_false c]; decide)]
      refine ⟨1, ?_, rfl, fun h => absurd h (by decide)⟩
      by_cases c2 : t.Dues[i].At ≤ t.Now
      · rw [if_pos c2, timer_Check.j2_eq, if_pos rfl]
      · rw [if_neg c2, decide_eq_true (show t.Dues[i].At > 2199023255552 by omega), timer_Check.j2_eq, if_pos rfl]
theorem check_both (t : Ti) : ∃ e, timer_Check t = some e ∧ roadref3_TimersFault t = some e ∧ (e = 0 → Good t) := by
  unfold timer_Check roadref3_TimersFault
  by_cases c : (t.Dues.length : Int) > 100
  · rw [if_pos c, if_pos c]; exact ⟨2, rfl, rfl, fun h => absurd h (by decide)⟩
  · rw [if_neg c, if_neg c, in_val, Option.bind_some]
    by_cases c2 : 0 ≤ t.Now ∧ t.Now ≤ 1099511627776
    · rw [if_neg (by omega), if_neg (by omega), if_pos (decide_eq_true c2)]
      unfold timer_Check.j0
      exact check_loop t (by omega) c2.1 c2.2 t.Dues.length 0 [] (by omega) (fun k => rfl) ⟨fun i _ h => absurd h (by omega), fun i j _ _ h => absurd h (by omega), fun i j _ _ h => absurd h (by omega)⟩
    · rw [if_neg (show ¬ decide (0 ≤ t.Now ∧ t.Now ≤ 1099511627776) = true by rw [decide_eq_false c2]; decide)]
      refine ⟨1, ?_, rfl, fun h => absurd h (by decide)⟩
      by_cases c3 : t.Now < 0
      · rw [if_pos c3]
      · rw [if_neg c3, if_pos (by omega)]
abbrev none_ : Ti := T_timer_Timers.mk 0 ([] : List T_timer_Due)
def isId (id : Int) : Du → Bool := fun z => z.Id == id
def Rst (id : Int) (l : List Du) : List Du := l.filter fun d => !decide (d.Id = id)
def atF (id : Int) (l : List Du) : Int := l.foldl (fun a d => if d.Id = id then d.At else a) 0
theorem fold_no {id : Int} : ∀ {l : List Du} {a : Int}, (∀ x ∈ l, x.Id ≠ id) → l.foldl (fun a d => if d.Id = id then d.At else a) a = a
  | [], _, _ => rfl
  | x :: l, a, h => by rw [List.foldl_cons, if_neg (h x (List.mem_cons_self ..))]; exact fold_no fun y hy => h y (List.mem_cons_of_mem _ hy)
theorem rst_no {id : Int} {l : List Du} (h : ∀ x ∈ l, x.Id ≠ id) : Rst id l = l := by
  unfold Rst
  rw [List.filter_eq_self]
  intro x hx
  simp [h x hx]
theorem split_facts {id : Int} {a b : List Du} {d : Du} (hd : d.Id = id) (ha : ∀ x ∈ a, x.Id ≠ id) (hb : ∀ x ∈ b, x.Id ≠ id) : Rst id (a ++ d :: b) = a ++ b ∧ atF id (a ++ d :: b) = d.At := by
  constructor
  · show List.filter _ _ = _
    rw [List.filter_append, List.filter_cons, if_neg (by simp [hd])]
    show Rst id a ++ Rst id b = _
    rw [rst_no ha, rst_no hb]
  · unfold atF
    rw [List.foldl_append, fold_no ha, List.foldl_cons, if_pos hd, fold_no hb]
theorem find_eq {t : Ti} (id : Int) (h : t.Dues.length ≤ 100) : timer_find t id = some (idxOf (isId id) t.Dues) := by
  unfold timer_find slices_IndexFunc_125
  rw [find_val (f := slices_IndexFunc_125.l0) slices_IndexFunc_125.l0_eq (p := fun z => timer_find_1 z id) (isId id) (fun x _ => rfl) (by omega), Option.bind_some]
theorem find_cases {t : Ti} (g : Good t) (id : Int) : (∃ k, ∃ h : k < t.Dues.length, timer_find t id = some (k : Int) ∧ Rst id t.Dues = t.Dues.take k ++ t.Dues.drop (k + 1) ∧ atF id t.Dues = t.Dues[k].At) ∨
    (timer_find t id = some (-1) ∧ Rst id t.Dues = t.Dues ∧ atF id t.Dues = 0) := by
  rw [find_eq id g.len]
  cases h : t.Dues.findIdx? (isId id) with
  | none =>
    rw [List.findIdx?_eq_none_iff] at h
    have hn : ∀ x ∈ t.Dues, x.Id ≠ id := fun x hx e => by have := h x hx; simp [isId, e] at this
    have h' := List.findIdx?_eq_none_iff.2 h
    refine .inr ⟨by simp [idxOf, h'], rst_no hn, fold_no hn⟩
  | some k =>
    have h0 := h
    rw [List.findIdx?_eq_some_iff_getElem] at h
    obtain ⟨hlt, hq, _⟩ := h
    have hid : t.Dues[k].Id = id := by simpa [isId] using hq
    have hs : t.Dues = t.Dues.take k ++ t.Dues[k] :: t.Dues.drop (k + 1) := by rw [← List.drop_eq_getElem_cons hlt, List.take_append_drop]
    have := split_facts (a := t.Dues.take k) (b := t.Dues.drop (k + 1)) hid (fun x hx e => by
      obtain ⟨j, hj, rfl⟩ := List.mem_take_iff_getElem.1 hx
      exact g.pre.dis j k hlt (by omega) hlt (e.trans hid.symm)) (fun x hx e => by
      obtain ⟨j, hj, rfl⟩ := List.mem_drop_iff_getElem.1 hx
      exact g.pre.dis k (k + 1 + j) (by omega) (by omega) (by omega) (hid.trans e.symm))
    rw [← hs] at this
    exact .inl ⟨k, hlt, by simp [idxOf, h0], this⟩
theorem out_val {t : Ti} (g : Good t) (hc : timer_Check t = some 0) (id : Int) :
    (atF id t.Dues = 0 ∧ timer_Out t id = some (none_, 0, 4)) ∨ (atF id t.Dues > 0 ∧ timer_Out t id = some (T_timer_Timers.mk t.Now (Rst id t.Dues), IntKind.wrap .i64 (atF id t.Dues - t.Now), 0)) := by
  have hl := g.len
  unfold timer_Out
  rw [hc, Option.bind_some, if_pos rfl]
  rcases find_cases g id with ⟨k, hk, f1, f2, f3⟩ | ⟨f1, f2, f3⟩
  · have := (g.pre.at_ k hk hk).1
    have := g.n0
    rw [f1, Option.bind_some, if_neg (by omega), gi_at hk, Option.bind_some, slices_Clone_28.val _ (by omega), Option.bind_some, w_succ (by omega)]
    unfold slices_Delete_78
    rw [if_pos (by omega), Option.bind_some, f3]
    refine .inr ⟨by omega, ?_⟩
    rw [f2]; rfl
  · rw [f1, Option.bind_some, if_pos (by decide)]
    exact .inl ⟨f3, rfl⟩
theorem next_val {t : Ti} (g : Good t) (hc : timer_Check t = some 0) : timer_Next t = some (if h : 0 < t.Dues.length then (IntKind.wrap .i64 (t.Dues[0].At - t.Now), 0) else (0, 4)) := by
  unfold timer_Next
  rw [hc, Option.bind_some, if_pos rfl]
  by_cases h : 0 < t.Dues.length
  · rw [dif_pos h, if_neg (by omega), show gi t.Dues 0 = some t.Dues[0] from gi_at h, Option.bind_some]
  · rw [dif_neg h, if_pos (by omega)]
theorem go_l0 {t z : Ti} (hl : t.Dues.length ≤ 100) (now : Int) : ∀ (m i : Nat), i + m = t.Dues.length → (∀ j (h : j < t.Dues.length), j < i → t.Dues[j].At ≤ now) →
    ∃ k, k ≤ t.Dues.length ∧ (∀ j (h : j < t.Dues.length), j < k → t.Dues[j].At ≤ now) ∧ (∀ h : k < t.Dues.length, ¬ t.Dues[k].At ≤ now) ∧ timer_Go.l0 t z now (i : Int) = timer_Go.j1 t z now (k : Int) := by
  intro m
  induction m with
  | zero =>
    intro i hi ha
    rw [timer_Go.l0_eq, if_neg (by omega)]
    exact ⟨i, by omega, ha, fun h => absurd h (by omega), rfl⟩
  | succ m ih =>
    intro i hi ha
    have hlt : i < t.Dues.length := by omega
    rw [timer_Go.l0_eq, if_pos (by omega), gi_at hlt, Option.bind_some]
    by_cases c : t.Dues[i].At ≤ now
    · rw [if_pos c, timer_Go.j2_eq, w_succ (by omega)]
      exact ih (i + 1) (by omega) fun j h hj => by
        by_cases e : j = i
        · subst e; exact c
        · exact ha j h (by omega)
    · rw [if_neg c]
      exact ⟨i, by omega, ha, fun _ => c, rfl⟩
theorem filt_cut {l : List Du} {k : Nat} {p : Du → Bool} (h1 : ∀ x ∈ l.take k, p x = true) (h2 : ∀ x ∈ l.drop k, p x = false) : l.filter p = l.take k ∧ (l.filter fun x => !p x) = l.drop k := by
  have e1 : (l.take k).filter p = l.take k := List.filter_eq_self.2 h1
  have e2 : (l.drop k).filter p = [] := List.filter_eq_nil_iff.2 fun x hx => by rw [h2 x hx]; decide
  have e3 : ((l.take k).filter fun x => !p x) = [] := List.filter_eq_nil_iff.2 fun x hx => by rw [h1 x hx]; decide
  have e4 : ((l.drop k).filter fun x => !p x) = l.drop k := List.filter_eq_self.2 fun x hx => by rw [h2 x hx]; rfl
  constructor
  · conv => lhs; rw [← List.take_append_drop k l]
    rw [List.filter_append, e1, e2, List.append_nil]
  · conv => lhs; rw [← List.take_append_drop k l]
    rw [List.filter_append, e3, e4, List.nil_append]
def isDue (t : Ti) (ticks : Int) : Du → Bool := fun d => decide (0 ≤ ticks ∧ ticks ≤ 1099511627776) && decide (d.At ≤ IntKind.wrap .i64 (t.Now + ticks))
theorem go_val {t : Ti} (g : Good t) (hc : timer_Check t = some 0) (ticks : Int) : timer_Go t ticks = some (if 0 ≤ ticks ∧ ticks ≤ 1099511627776 - t.Now then (T_timer_Timers.mk (IntKind.wrap .i64 (t.Now + ticks)) (t.Dues.filter fun d => !isDue t ticks d), t.Dues.filter (isDue t ticks), 0) else (none_, [], 1)) := by
  have hl := g.len
  have h0 := g.n0
  have h1 := g.n1
  unfold timer_Go
  rw [hc, Option.bind_some, if_pos rfl, wrap_in (n := 1099511627776 - t.Now) (by omega) (by omega)]
  by_cases c : 0 ≤ ticks ∧ ticks ≤ 1099511627776 - t.Now
  · rw [if_neg (by omega), if_neg (by omega), if_pos c]
    unfold timer_Go.j0
    rw [if_pos rfl, wrap_in (n := t.Now + ticks) (by omega) (by omega)]
    obtain ⟨k, hk, k1, k2, k3⟩ := go_l0 (t := t) (z := T_timer_Timers.mk 0 []) hl (t.Now + ticks) t.Dues.length 0 (by omega) (fun j _ h => absurd h (by omega))
    have mono : ∀ j (h : j < t.Dues.length), k ≤ j → ¬ t.Dues[j].At ≤ t.Now + ticks := fun j h hj hle => by
      by_cases e : k = j
      · subst e; exact k2 h hle
      · have := g.pre.srt k j h (by omega) h
        have := k2 (by omega)
        unfold lt at *; omega
    obtain ⟨f1, f2⟩ := filt_cut (l := t.Dues) (k := k) (p := isDue t ticks) (fun x hx => by
      obtain ⟨j, hj, rfl⟩ := List.mem_take_iff_getElem.1 hx
      unfold isDue
      rw [wrap_in (n := t.Now + ticks) (by omega) (by omega), decide_eq_true (show 0 ≤ ticks ∧ ticks ≤ 1099511627776 by omega), decide_eq_true (k1 j (by omega) (by omega))]; rfl) (fun x hx => by
      obtain ⟨j, hj, rfl⟩ := List.mem_drop_iff_getElem.1 hx
      unfold isDue
      rw [wrap_in (n := t.Now + ticks) (by omega) (by omega), decide_eq_false (mono (k + j) (by omega) (by omega)), Bool.and_false])
    show timer_Go.l0 t _ (t.Now + ticks) ((0 : Nat) : Int) = _
    rw [k3]
    unfold timer_Go.j1
    rw [sls_drop rfl hk, Option.bind_some, sls_take rfl hk, Option.bind_some, slices_Clone_28.val _ (by rw [List.length_drop]; omega), Option.bind_some, slices_Clone_28.val _ (by rw [List.length_take]; omega), Option.bind_some, f1, f2]
  · rw [if_neg c]
    have : ∀ e z, e ≠ 0 → timer_Go.j0 ticks t z e = some (none_, [], e) := fun e z he => by unfold timer_Go.j0; rw [if_neg he]
    by_cases c2 : ticks < 0
    · rw [if_pos c2]; exact this _ _ (by decide)
    · rw [if_neg c2, if_pos (by omega)]; exact this _ _ (by decide)
theorem bs_loop {r : List Du} {d : Du} (hr : r.length ≤ 100) (hs : ∀ i j (hj : j < r.length) (h : i < j), lt r[i] r[j]) : ∀ (m lo hi : Nat), hi - lo ≤ m → lo ≤ hi → hi ≤ r.length →
    (∀ j (h : j < r.length), j < lo → lt r[j] d) → (∀ j (h : j < r.length), hi ≤ j → ¬ lt r[j] d) →
    ∃ (i : Nat) (b : Bool), slices_BinarySearchFunc_79.l0 r (fun z24 z25 => timer_order z24 z25) d (r.length : Int) (lo : Int) (hi : Int) = some ((i : Int), b) ∧ i ≤ r.length ∧ (∀ j (h : j < r.length), j < i → lt r[j] d) ∧ (∀ h : i < r.length, ¬ lt r[i] d) := by
  intro m
  induction m with
  | zero =>
    intro lo hi hm h1 h2 ha hb
    obtain rfl : lo = hi := by omega
    rw [slices_BinarySearchFunc_79.l0_eq, if_neg (nlt _)]
    by_cases c : lo < r.length
    · rw [if_pos (by omega), gi_at c, Option.bind_some, order_val, Option.bind_some]
      exact ⟨lo, _, rfl, h2, ha, fun h => hb lo h (Nat.le_refl _)⟩
    · rw [if_neg (by omega)]
      exact ⟨lo, _, rfl, h2, ha, fun h => hb lo h (Nat.le_refl _)⟩
  | succ m ih =>
    intro lo hi hm h1 h2 ha hb
    by_cases c : lo < hi
    · have hmid : IntKind.wrap .i64 (shrI .u64 (IntKind.wrap .u64 (IntKind.wrap .i64 ((lo : Int) + (hi : Int)))) 1) = (((lo + hi) / 2 : Nat) : Int) := by
        rw [wrap_in (n := (lo : Int) + (hi : Int)) (by omega) (by omega), u64_in' (by omega) (by omega), show ((lo : Int) + (hi : Int)) = ((lo + hi : Nat) : Int) by omega]
        have := shr_nat (x := lo + hi) (s := 1) (by omega)
        rw [show shrI .u64 ((lo + hi : Nat) : Int) 1 = shrI .u64 ((lo + hi : Nat) : Int) ((1 : Nat) : Int) from rfl, this, wrap_in (by omega) (by omega)]
      have hq : (lo + hi) / 2 < r.length := by omega
      rw [slices_BinarySearchFunc_79.l0_eq, if_pos (by omega), hmid, gi_at hq, Option.bind_some, order_val, Option.bind_some]
      by_cases c2 : lt r[(lo + hi) / 2] d
      · rw [if_pos ((ord_neg _ _).2 c2), w_succ (by omega)]
        exact ih ((lo + hi) / 2 + 1) hi (by omega) (by omega) h2 (fun j h hj => by
          by_cases e : j = (lo + hi) / 2
          · subst e; exact c2
          · exact lt_trans (hs j ((lo + hi) / 2) hq (by omega)) c2) hb
      · rw [if_neg (fun h => c2 ((ord_neg _ _).1 h))]
        exact ih lo ((lo + hi) / 2) (by omega) (by omega) (by omega) ha (fun j h hj hlt => by
          by_cases e : (lo + hi) / 2 = j
          · subst e; exact c2 hlt
          · exact c2 (lt_trans (hs ((lo + hi) / 2) j h (by omega)) hlt))
    · exact ih lo hi (by omega) h1 h2 ha hb
theorem rst_sorted {t : Ti} (g : Good t) (id : Int) : ∀ i j (hj : j < (Rst id t.Dues).length) (h : i < j), lt (Rst id t.Dues)[i] (Rst id t.Dues)[j] := by
  have h1 : t.Dues.Pairwise lt := List.pairwise_iff_getElem.2 fun i j hi hj h => g.pre.srt i j hj h hj
  have h2 := List.pairwise_iff_getElem.1 (h1.filter fun d => !decide (d.Id = id))
  exact fun i j hj h => h2 i j (Nat.lt_trans h hj) hj h
theorem rst_len {t : Ti} (g : Good t) (id : Int) : (Rst id t.Dues).length ≤ 100 := Nat.le_trans (List.length_filter_le _ _) g.len
theorem set_val {t : Ti} (g : Good t) (hc : timer_Check t = some 0) (id ticks : Int) :
    (¬ (1 ≤ ticks ∧ ticks ≤ 1099511627776) ∧ timer_Set t id ticks = some (none_, 1)) ∨ ((1 ≤ ticks ∧ ticks ≤ 1099511627776) ∧ (Rst id t.Dues).length = 100 ∧ timer_Set t id ticks = some (none_, 6)) ∨
    ((1 ≤ ticks ∧ ticks ≤ 1099511627776) ∧ (Rst id t.Dues).length ≠ 100 ∧ ∃ i : Nat, i ≤ (Rst id t.Dues).length ∧
      (∀ j (h : j < (Rst id t.Dues).length), j < i → lt (Rst id t.Dues)[j] (T_timer_Due.mk (IntKind.wrap .i64 (t.Now + ticks)) id)) ∧ (∀ h : i < (Rst id t.Dues).length, ¬ lt (Rst id t.Dues)[i] (T_timer_Due.mk (IntKind.wrap .i64 (t.Now + ticks)) id)) ∧
      ∃ u, slices_Insert_27 (Rst id t.Dues) (i : Int) [T_timer_Due.mk (IntKind.wrap .i64 (t.Now + ticks)) id] = some u ∧ u.length ≤ 200 ∧ timer_Set t id ticks = some (T_timer_Timers.mk t.Now u, 0)) := by
  have hl := g.len
  have hrl := rst_len g id
  unfold timer_Set
  rw [hc, Option.bind_some, if_pos rfl]
  by_cases c : 1 ≤ ticks ∧ ticks ≤ 1099511627776
  · refine .inr ?_
    rw [if_neg (by omega), decide_eq_false (by omega : ¬ ticks > 1099511627776)]
    unfold timer_Set.j2
    rw [if_neg (by decide)]
    unfold timer_Set.j0
    rw [slices_Clone_28.val _ (by omega), Option.bind_some]
    have main : ∀ z, ((1 ≤ ticks ∧ ticks ≤ 1099511627776) ∧ (Rst id t.Dues).length = 100 ∧ timer_Set.j1 id ticks t z (Rst id t.Dues) = some (none_, 6)) ∨
        ((1 ≤ ticks ∧ ticks ≤ 1099511627776) ∧ (Rst id t.Dues).length ≠ 100 ∧ ∃ i : Nat, i ≤ (Rst id t.Dues).length ∧
          (∀ j (h : j < (Rst id t.Dues).length), j < i → lt (Rst id t.Dues)[j] (T_timer_Due.mk (IntKind.wrap .i64 (t.Now + ticks)) id)) ∧ (∀ h : i < (Rst id t.Dues).length, ¬ lt (Rst id t.Dues)[i] (T_timer_Due.mk (IntKind.wrap .i64 (t.Now + ticks)) id)) ∧
          ∃ u, slices_Insert_27 (Rst id t.Dues) (i : Int) [T_timer_Due.mk (IntKind.wrap .i64 (t.Now + ticks)) id] = some u ∧ u.length ≤ 200 ∧ timer_Set.j1 id ticks t z (Rst id t.Dues) = some (T_timer_Timers.mk t.Now u, 0)) := by
      intro z
      unfold timer_Set.j1
      by_cases c2 : (Rst id t.Dues).length = 100
      · rw [if_pos (by omega)]
        exact .inl ⟨c, c2, rfl⟩
      · rw [if_neg (by omega)]
        refine .inr ⟨c, c2, ?_⟩
        obtain ⟨i, b, e1, e2, e3, e4⟩ := bs_loop (d := T_timer_Due.mk (IntKind.wrap .i64 (t.Now + ticks)) id) hrl (rst_sorted g id) _ 0 (Rst id t.Dues).length (Nat.le_refl _) (Nat.zero_le _) (Nat.le_refl _) (fun j _ h => absurd h (by omega)) (fun j h h2 => absurd h (by omega))
        unfold slices_BinarySearchFunc_79
        rw [show slices_BinarySearchFunc_79.l0 (Rst id t.Dues) (fun z24 z25 => timer_order z24 z25) (T_timer_Due.mk (IntKind.wrap .i64 (t.Now + ticks)) id) ((Rst id t.Dues).length : Int) 0 ((Rst id t.Dues).length : Int) = some ((i : Int), b) from e1, Option.bind_some]
        refine ⟨i, e2, e3, e4, ?_⟩
        simp only
        have hin : slices_Insert_27 (Rst id t.Dues) (i : Int) [T_timer_Due.mk (IntKind.wrap .i64 (t.Now + ticks)) id] = some ((Rst id t.Dues).take i ++ [T_timer_Due.mk (IntKind.wrap .i64 (t.Now + ticks)) id] ++ (Rst id t.Dues).drop i) := by
          unfold slices_Insert_27
          rw [if_pos ⟨⟨by omega, by omega⟩, by rw [List.length_singleton]; omega⟩]; rfl
        refine ⟨_, hin, ?_, ?_⟩
        · rw [List.length_append, List.length_append, List.length_take, List.length_drop, List.length_singleton]; omega
        · rw [hin, Option.bind_some]
    rcases find_cases g id with ⟨k, hk, f1, f2, f3⟩ | ⟨f1, f2, f3⟩
    · rw [f1, Option.bind_some, if_pos (by omega), w_succ (by omega)]
      unfold slices_Delete_78
      rw [if_pos (by omega), Option.bind_some, show t.Dues.take (Int.toNat (k : Int)) ++ t.Dues.drop (Int.toNat ((k + 1 : Nat) : Int)) = Rst id t.Dues from f2.symm]
      exact main _
    · rw [f1, Option.bind_some, if_neg (by decide)]
      have := main (T_timer_Timers.mk 0 [])
      rw [f2] at this ⊢
      exact this
  · refine .inl ⟨c, ?_⟩
    have : ∀ z, timer_Set.j2 id ticks t z true = some (none_, 1) := fun z => by unfold timer_Set.j2; rw [if_pos rfl]
    by_cases c2 : ticks < 1
    · rw [if_pos c2]; exact this _
    · rw [if_neg c2, decide_eq_true (by omega : ticks > 1099511627776)]; exact this _
theorem sameD_self {l : List Du} (h : l.length ≤ 1000) : roadref3_SameDues l l = some true := by
  unfold roadref3_SameDues
  rw [if_pos rfl]
  have key : ∀ (m i : Nat), i + m = l.length → roadref3_SameDues.l0 l l (l.length : Int) (i : Int) = some true := by
    intro m
    induction m with
    | zero => intro i hi; rw [roadref3_SameDues.l0_eq, if_neg (by omega)]
    | succ m ih =>
      intro i hi
      have hlt : i < l.length := by omega
      rw [roadref3_SameDues.l0_eq, if_pos (by omega), gi_at hlt, Option.bind_some, Option.bind_some, if_pos (by simp), w_succ (by omega)]
      exact ih (i + 1) (by omega)
  exact key l.length 0 (by omega)
theorem sameT_self {t : Ti} (h : t.Dues.length ≤ 1000) : roadref3_SameTimers t t = some true := by
  unfold roadref3_SameTimers
  rw [if_pos rfl, sameD_self h, Option.bind_some]
theorem sameT_none : roadref3_SameTimers none_ none_ = some true := sameT_self (by show (0 : Nat) ≤ 1000; omega)
theorem lin {t a : Ti} {e : Int} {r : List Du} {d : Du} {i : Nat} (hr : r.length ≤ 100) (hi : i ≤ r.length) (h1 : ∀ j (h : j < r.length), j < i → lt r[j] d) (h2 : ∀ h : i < r.length, ¬ lt r[i] d) :
    ∀ (m j : Nat), j + m = i → roadlaw3_TimerTells.l1 d.Id t a e r d (j : Int) = roadlaw3_TimerTells.j3 t a e r d (i : Int) := by
  intro m
  induction m with
  | zero =>
    intro j hj
    obtain rfl : j = i := by omega
    rw [roadlaw3_TimerTells.l1_eq]
    by_cases c : j < r.length
    · have := h2 c
      unfold lt at this
      rw [if_pos (by omega), gi_at c, Option.bind_some, if_neg (by omega), Option.bind_some]
      by_cases c2 : r[j].At = d.At
      · rw [if_pos c2, Option.bind_some, if_neg (by omega)]
      · rw [if_neg c2]
    · rw [if_neg (by omega)]
  | succ m ih =>
    intro j hj
    have hlt : j < r.length := by omega
    have := h1 j hlt (by omega)
    unfold lt at this
    have nx : roadlaw3_TimerTells.j5 d.Id t a e r d (j : Int) = roadlaw3_TimerTells.j3 t a e r d (i : Int) := by
      rw [roadlaw3_TimerTells.j5_eq, w_succ (by omega)]; exact ih (j + 1) (by omega)
    rw [roadlaw3_TimerTells.l1_eq, if_pos (by omega), gi_at hlt, Option.bind_some]
    by_cases c : r[j].At < d.At
    · rw [if_pos c]; exact nx
    · rw [if_neg c, Option.bind_some, if_pos (by omega), Option.bind_some, if_pos (by omega)]; exact nx
theorem j2_true {t : Ti} (g : Good t) (hc : timer_Check t = some 0) {id ticks : Int} {a : Ti} {e : Int} (hs : timer_Set t id ticks = some (a, e)) : roadlaw3_TimerTells.j2 id ticks t a e none_ (Rst id t.Dues) = some true := by
  have hrl := rst_len g id
  unfold roadlaw3_TimerTells.j2
  rw [in_val, Option.bind_some]
  rcases set_val g hc id ticks with ⟨c, h⟩ | ⟨c, c2, h⟩ | ⟨c, c2, i, i1, i2, i3, u, u1, u2, h⟩
  · rw [hs] at h; cases h
    rw [if_neg (by simpa using c), sameT_none, Option.bind_some, if_pos rfl]; rfl
  · rw [hs] at h; cases h
    rw [if_pos (decide_eq_true c), if_pos (by omega), sameT_none, Option.bind_some, if_pos rfl]; rfl
  · rw [hs] at h; cases h
    rw [if_pos (decide_eq_true c), if_neg (by omega)]
    have := lin (t := t) (a := T_timer_Timers.mk t.Now u) (e := 0) (d := T_timer_Due.mk (IntKind.wrap .i64 (t.Now + ticks)) id) hrl i1 i2 i3 i 0 (by omega)
    refine Eq.trans this ?_
    unfold roadlaw3_TimerTells.j3
    rw [slices_Clone_28.val _ (by omega), Option.bind_some, u1, Option.bind_some, sameT_self (t := T_timer_Timers.mk t.Now u) (by show u.length ≤ 1000; omega), Option.bind_some, if_pos rfl]; rfl
theorem j1_true {t : Ti} (g : Good t) (hc : timer_Check t = some 0) {id ticks : Int} {a c : Ti} {l : List Du} {e e3 : Int} (hs : timer_Set t id ticks = some (a, e)) (hg : timer_Go t ticks = some (c, l, e3)) :
    roadlaw3_TimerTells.j1 id ticks t a e c l e3 none_ (Rst id t.Dues) (t.Dues.filter (isDue t ticks)) (t.Dues.filter fun d => !isDue t ticks d) = some true := by
  have hl := g.len
  have h0 := g.n0
  have h1 := g.n1
  have f1 := List.length_filter_le (isDue t ticks) t.Dues
  have f2 := List.length_filter_le (fun d => !isDue t ticks d) t.Dues
  rw [go_val g hc] at hg
  unfold roadlaw3_TimerTells.j1
  rw [in_val, Option.bind_some, wrap_in (n := 1099511627776 - t.Now) (by omega) (by omega)]
  by_cases q : 0 ≤ ticks ∧ ticks ≤ 1099511627776 - t.Now
  · rw [if_pos q] at hg; cases hg
    rw [if_pos (decide_eq_true q), sameT_self (t := T_timer_Timers.mk _ _) (Nat.le_trans (List.length_filter_le _ _) (by omega)), Option.bind_some, if_pos rfl, sameD_self (by omega), Option.bind_some, if_pos rfl, if_pos rfl]
    exact j2_true g hc hs
  · rw [if_neg q] at hg; cases hg
    rw [if_neg (by simpa using q), sameT_none, Option.bind_some, if_pos rfl, if_neg (by decide), if_pos rfl]
    exact j2_true g hc hs
theorem law_l0 {t : Ti} {id ticks : Int} {a b c n : Ti} {x8 x10 x11 x14 : Int} {a13 : List Du} (hl : t.Dues.length ≤ 100) (h0 : 0 ≤ t.Now) (h1 : t.Now ≤ 1099511627776) : ∀ (r pre : List Du), t.Dues = pre ++ r →
    roadlaw3_TimerTells.l0 id ticks t a x8 b x10 x11 c a13 x14 n (Rst id pre) (pre.filter (isDue t ticks)) (pre.filter fun d => !isDue t ticks d) (atF id pre) t.Dues (t.Dues.length : Int) (pre.length : Int)
    = roadlaw3_TimerTells.l0 id ticks t a x8 b x10 x11 c a13 x14 n (Rst id t.Dues) (t.Dues.filter (isDue t ticks)) (t.Dues.filter fun d => !isDue t ticks d) (atF id t.Dues) t.Dues (t.Dues.length : Int) (t.Dues.length : Int) := by
  intro r
  induction r with
  | nil => intro pre h; rw [List.append_nil] at h; rw [← h]
  | cons d r ih =>
    intro pre h
    have hlen : t.Dues.length = pre.length + (r.length + 1) := by rw [h, List.length_append, List.length_cons]
    have g1 := List.length_filter_le (fun d : Du => !decide (d.Id = id)) pre
    have g2 := List.length_filter_le (isDue t ticks) pre
    have g3 := List.length_filter_le (fun d => !isDue t ticks d) pre
    have hgi : gi t.Dues (pre.length : Int) = some d := gi_some rfl (by rw [h]; simp)
    have nx := ih (pre ++ [d]) (by rw [h]; simp)
    rw [List.length_append, List.length_singleton] at nx
    have e1 : Rst id (pre ++ [d]) = if d.Id = id then Rst id pre else Rst id pre ++ [d] := by
      unfold Rst
      rw [List.filter_append, List.filter_cons, List.filter_nil]
      by_cases q : d.Id = id
      · rw [if_pos q, if_neg (by simp [q]), List.append_nil]
      · rw [if_neg q, if_pos (by simp [q])]
    have e2 : atF id (pre ++ [d]) = if d.Id = id then d.At else atF id pre := by
      unfold atF
      rw [List.foldl_append, List.foldl_cons, List.foldl_nil]
    rw [List.filter_append, List.filter_append, List.filter_cons, List.filter_nil, List.filter_cons, List.filter_nil, e1, e2] at nx
    have j4 : ∀ (R : List Du) (A : Int), R = (if d.Id = id then Rst id pre else Rst id pre ++ [d]) → A = (if d.Id = id then d.At else atF id pre) →
        roadlaw3_TimerTells.j4 id ticks t a x8 b x10 x11 c a13 x14 n R (pre.filter (isDue t ticks)) (pre.filter fun d => !isDue t ticks d) A d t.Dues (t.Dues.length : Int) (pre.length : Int)
        = roadlaw3_TimerTells.l0 id ticks t a x8 b x10 x11 c a13 x14 n (Rst id t.Dues) (t.Dues.filter (isDue t ticks)) (t.Dues.filter fun d => !isDue t ticks d) (atF id t.Dues) t.Dues (t.Dues.length : Int) (t.Dues.length : Int) := by
      intro R A hR hA
      subst hR; subst hA
      rw [roadlaw3_TimerTells.j4_eq, in_val, Option.bind_some]
      have j6 : ∀ q : Bool, q = isDue t ticks d → roadlaw3_TimerTells.j6 id ticks t a x8 b x10 x11 c a13 x14 n (if d.Id = id then Rst id pre else Rst id pre ++ [d]) (pre.filter (isDue t ticks)) (pre.filter fun d => !isDue t ticks d) (if d.Id = id then d.At else atF id pre) d t.Dues (t.Dues.length : Int) (pre.length : Int) q
          = roadlaw3_TimerTells.l0 id ticks t a x8 b x10 x11 c a13 x14 n (Rst id t.Dues) (t.Dues.filter (isDue t ticks)) (t.Dues.filter fun d => !isDue t ticks d) (atF id t.Dues) t.Dues (t.Dues.length : Int) (t.Dues.length : Int) := by
        intro q hq
        rw [roadlaw3_TimerTells.j6_eq]
        cases q with
        | true =>
          rw [← hq, if_pos (show true = true from rfl), if_neg (show ¬ (!true) = true by decide), List.append_nil] at nx
          rw [if_pos rfl, ap_one (by omega), Option.bind_some, w_succ (by omega)]
          exact nx
        | false =>
          rw [← hq, if_neg (show ¬ false = true by decide), if_pos (show (!false) = true from rfl), List.append_nil] at nx
          rw [if_neg (by decide), ap_one (Nat.le_trans (Nat.mul_le_mul_right _ (Nat.succ_le_succ (List.length_filter_le _ _))) (by omega)), Option.bind_some, w_succ (by omega)]
          exact nx
      by_cases q : 0 ≤ ticks ∧ ticks ≤ 1099511627776
      · rw [if_pos (decide_eq_true q)]
        exact j6 _ (by unfold isDue; rw [decide_eq_true q, Bool.true_and])
      · rw [if_neg (by simpa using q)]
        exact j6 _ (by unfold isDue; rw [decide_eq_false q, Bool.false_and])
    rw [roadlaw3_TimerTells.l0_eq, if_pos (by omega), hgi, Option.bind_some]
    by_cases q : d.Id = id
    · rw [if_pos q]
      exact j4 _ _ (by rw [if_pos q]) (by rw [if_pos q])
    · rw [if_neg q, ap_one (by unfold Rst; omega), Option.bind_some]
      exact j4 _ _ (by rw [if_neg q]) (by rw [if_neg q])
theorem j0_true {t : Ti} (g : Good t) (hc : timer_Check t = some 0) {id ticks : Int} {a b c : Ti} {l : List Du} {e left e2 e3 : Int} (hs : timer_Set t id ticks = some (a, e)) (ho : timer_Out t id = some (b, left, e2)) (hg : timer_Go t ticks = some (c, l, e3)) :
    roadlaw3_TimerTells.j0 id ticks t a e b left e2 c l e3 none_ = some true := by
  have hrl := rst_len g id
  have j1 := j1_true g hc hs hg
  unfold roadlaw3_TimerTells.j0
  have := law_l0 (t := t) (id := id) (ticks := ticks) (a := a) (b := b) (c := c) (n := none_) (x8 := e) (x10 := left) (x11 := e2) (x14 := e3) (a13 := l) g.len g.n0 g.n1 t.Dues [] rfl
  refine Eq.trans this ?_
  rw [roadlaw3_TimerTells.l0_eq, if_neg (nlt _)]
  rcases out_val g hc id with ⟨h1, h2⟩ | ⟨h1, h2⟩
  · rw [ho] at h2; cases h2
    rw [if_pos h1, sameT_none, Option.bind_some, if_pos rfl, if_pos rfl, if_pos rfl, if_neg (by omega)]
    exact j1
  · rw [ho] at h2; cases h2
    rw [if_neg (by omega), if_pos h1, sameT_self (t := T_timer_Timers.mk t.Now (Rst id t.Dues)) (by show (Rst id t.Dues).length ≤ 1000; omega), Option.bind_some, if_pos rfl, if_pos rfl, if_pos rfl]
    exact j1
theorem TimerTells (t : T_timer_Timers) (id ticks : Int) (q : t.Q) (hi : -9223372036854775808 ≤ id ∧ id ≤ 9223372036854775807) (ht : -9223372036854775808 ≤ ticks ∧ ticks ≤ 9223372036854775807) : roadlaw3_TimerTells t id ticks = some true := by
  obtain ⟨e, c1, c2, cg⟩ := check_both t
  unfold roadlaw3_TimerTells
  by_cases he : e = 0
  · subst he
    have g := cg rfl
    obtain ⟨⟨a, e1⟩, hs⟩ : ∃ x, timer_Set t id ticks = some x := by
      rcases set_val g c1 id ticks with ⟨_, h⟩ | ⟨_, _, h⟩ | ⟨_, _, _, _, _, _, _, _, _, h⟩ <;> exact ⟨_, h⟩
    obtain ⟨⟨b, lf, e2⟩, ho⟩ : ∃ x, timer_Out t id = some x := by
      rcases out_val g c1 id with ⟨_, h⟩ | ⟨_, h⟩ <;> exact ⟨_, h⟩
    obtain ⟨⟨c, l, e3⟩, hg⟩ : ∃ x, timer_Go t ticks = some x := ⟨_, go_val g c1 ticks⟩
    rw [hs, Option.bind_some, ho, Option.bind_some, hg, Option.bind_some, next_val g c1, Option.bind_some, c2, Option.bind_some, c1, Option.bind_some, if_pos rfl, if_pos rfl]
    have fin := j0_true g c1 hs ho hg
    by_cases h : 0 < t.Dues.length
    · rw [dif_pos h, if_neg (by omega), if_pos (by omega), show gi t.Dues 0 = some t.Dues[0] from gi_at h, Option.bind_some, if_pos rfl, if_pos rfl]
      exact fin
    · rw [dif_neg h, if_pos (by omega), if_pos rfl, if_pos rfl, if_neg (by omega)]
      exact fin
  · have s1 : timer_Set t id ticks = some (none_, e) := by unfold timer_Set; rw [c1, Option.bind_some, if_neg he]
    have s2 : timer_Out t id = some (none_, 0, e) := by unfold timer_Out; rw [c1, Option.bind_some, if_neg he]
    have s3 : timer_Go t ticks = some (none_, [], e) := by unfold timer_Go; rw [c1, Option.bind_some, if_neg he]; unfold timer_Go.j0; rw [if_neg he]
    have s4 : timer_Next t = some (0, e) := by unfold timer_Next; rw [c1, Option.bind_some, if_neg he]
    rw [s1, Option.bind_some, s2, Option.bind_some, s3, Option.bind_some, s4, Option.bind_some, c2, Option.bind_some, c1, Option.bind_some, if_pos rfl, if_neg he]
    simp [sameT_none]
end Go.Proofs.Ytmcfmmoaofileaa.Fw

end
section
namespace Go.Proofs.Ytmcfmmoaofileaa.timerTells
open Go Go.Hw Go.ChangeShapes Go.WideShapes Go.ChangeAt Go.RowKit Go.Proofs.Ytmcfmmoaofileaa.Fw
open Go.ChangeMaps (open_string shut_string)
set_option linter.unusedVariables false
theorem own : ownKnob Try.prog.godebug = none := by kernel_rfl
theorem laidOut : laidOutB Try.prog = true := by kernel_rfl
set_option maxRecDepth 100000 in
theorem lifted (os : Os) (started : os.Started) (H : Type) (enc : TypeId × Value → H) :
    ReturnsInHanded {} Try.checked os 4 .any (Rows.timerTellsSpec.pre6 enc Try.prog Try.f4 Rows.timerTellsRow.domain false) (Rows.timerTellsSpec.post enc Try.prog Try.f4 false true false false) := by
  refine returnsInHanded_of_change_sized (C := Try.checked) own started (by kernel_rfl) Try.func4
    (ChangeSpec.witness6 (enc := enc) (C := Try.checked) false ⟨#[], #[(.agg #[(.int .i64 (0 : Int)), (.slice none 0 0)]), (.int .i64 (0 : Int)), (.int .i64 (0 : Int))], []⟩ 8 (by kernel_rfl) (by kernel_rfl) (by kernel_rfl) (by kernel_rfl)) ?_
  intro W base args ds gs before hval0 hW hcnd hsz0 _
  have hsz : (DataW.weightsEach Try.prog (Try.f4.params.toList ++ Rows.timerTellsSpec.plain.varTypes Try.prog) (ds ++ gs)).all (· ≤ reachBytes) = true := hsz0
  have hval : ∀ (j : Nat) t v, Try.f4.params[j]? = some t → args[j]? = some v → Value.okWide Try.prog W .any base t v := hval0
  have hW' := hW
  obtain ⟨p, q, hA0, hV, rfl, hfz, hnd⟩ := hW
  have hA : DataW.TrodAll enc Try.prog W 0 (fun _ => true) true Try.f4.params.toList args.toList ds p := hA0
  rw [Try.params4] at hA hval hsz
  obtain ⟨v0, vs0, d0, ds0, p0, q0_, hargs, rfl, rfl, h0, r0_⟩ := trodAll_cons hA
  obtain ⟨v1, vs1, d1, ds1, p1, q1_, rfl, rfl, rfl, h1, r1_⟩ := trodAll_cons r0_
  obtain ⟨v2, vs2, d2, ds2, p2, q2_, rfl, rfl, rfl, h2, r2_⟩ := trodAll_cons r1_
  obtain ⟨rfl, rfl, rfl⟩ := trodAll_nil r2_
  obtain rfl : args = #[v0, v1, v2] := by cases args; simp_all
  obtain ⟨rfl, rfl⟩ := trodVars_none hV
  have hs : (DataW.weightsEach Try.prog [48, 3, 3] [d0, d1, d2]).all (· ≤ reachBytes) = true := hsz
  simp only [DataW.weightsEach, List.append_nil, List.all_append, Bool.and_eq_true] at hs
  obtain ⟨hw0, hw1, hw2⟩ := hs
  have k0 := h0
  have lt0 : ∀ x ∈ p0, x.block < W.heap.size := by obtain ⟨m, hm⟩ := k0; exact DataW.trod_lt m _ _ _ hm
  obtain ⟨cs0, rfl⟩ : ∃ cs : List Value, v0 = .agg cs.toArray := okWide_agg_of (show shapeOf Try.prog 48 = some [(3, 0), (46, 1)] by kernel_rfl) (hval 0 48 v0 rfl rfl)
  obtain ⟨fuel0, hf0⟩ := h0
  obtain ⟨x0, e0, q0⟩ := T_timer_Timers.tells fuel0 _ _ hf0 hw0
  have e0 : T_timer_Timers.E W.heap x0 cs0 := by simpa [Value.cells] using e0
  have k1 := h1
  have lt1 : ∀ x ∈ p1, x.block < W.heap.size := by obtain ⟨m, hm⟩ := k1; exact DataW.trod_lt m _ _ _ hm
  obtain ⟨a1, rfl, rfl, rfl, w1⟩ := open_int (show Try.prog.underlying 3 = some (.int .i64) by kernel_rfl) (hval 1 3 v1 rfl rfl) h1
  have k2 := h2
  have lt2 : ∀ x ∈ p2, x.block < W.heap.size := by obtain ⟨m, hm⟩ := k2; exact DataW.trod_lt m _ _ _ hm
  obtain ⟨a2, rfl, rfl, rfl, w2⟩ := open_int (show Try.prog.underlying 3 = some (.int .i64) by kernel_rfl) (hval 2 3 v2 rfl rfl) h2
  refine ((Run.mono (R' := fun v h' => v = Value.bool true ∧ Ext W.heap h') (Fw.roadlaw3_TimerTells.walk (W := No) (Hold.start (Sub.refl _)) e0 (Fw.TimerTells x0 a1 a2 q0 (wf_i64 w1) (wf_i64 w2))) (fun v h' hp => by obtain ⟨m', st, hv⟩ := hp; exact ⟨hv, st.S.ext⟩)) W rfl).mono fun e W' he => ?_
  obtain ⟨v, rfl, ⟨rfl, ext⟩, same⟩ := he
  have bel := below_of ext same
  exact ⟨_, rfl, _, _, _, [], _, [], hW', trodAll_mk1 (shut_bool (show Try.prog.underlying 4 = some .bool by kernel_rfl) _), (trodAll_cons_mk (Below.trod laidOut (by kernel_rfl) (of_decide_eq_true (by kernel_rfl)) k0 bel lt0) (trodAll_cons_mk (Below.trod laidOut (by kernel_rfl) (of_decide_eq_true (by kernel_rfl)) k1 bel lt1) (trodAll_cons_mk (Below.trod laidOut (by kernel_rfl) (of_decide_eq_true (by kernel_rfl)) k2 bel lt2) trodAll_mk0))), rfl, bel.frame _, fun h => by cases h⟩
theorem over : Rows.timerTellsRow.holds Try.pinned (OpenSpec.ofChange Rows.timerTellsSpec) :=
  OpenClaim.holds_of_wide 4 Try.f4 rfl rfl rfl rfl rfl rfl rfl ⟨rfl, rfl, rfl, rfl, rfl⟩ rfl rfl rfl rfl rfl (by kernel_rfl) Try.func4 (by kernel_rfl)
    (of_decide_eq_true (by kernel_rfl)) (by unfold Func.isWrapper; first | (rw [if_pos (by decide +kernel)]; kernel_rfl) | (rw [if_neg (by decide +kernel)]; exact ⟨rfl, rfl⟩))
    (fun os started H enc _ => lifted os started H enc)
end Go.Proofs.Ytmcfmmoaofileaa.timerTells
namespace Go.Proofs.Ytmcfmmoaofileaa
theorem timerTells_holds : Rows.TimerTellsSaid := timerTells.over
end Go.Proofs.Ytmcfmmoaofileaa

end
