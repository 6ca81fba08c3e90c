/- Part 5: what the law TraitSays needs, put together out of texts of this session. -/
import Derived.Test.YtkbhpagogmmgnaaDoorZTraitSaysd
section
namespace Go.Proofs.YtkbhpagogmmgnaaDoor.Fw
open Go Go.Hw Go.Proofs
set_option linter.unusedVariables false
set_option maxRecDepth 100000
set_option synthInstance.maxHeartbeats 400000
set_option synthInstance.maxSize 1000
def sq146.post (W : Nat → Prop) (bkio3 : Nat) (h0 m0 : Heap) (r : Int × Int × Int) (v : Value) (h : Heap) : Prop := ∃ m csio3, Hold W h0 m0 h m [rV bkio3 3 csio3] ∧ v = .tuple #[.int .i64 r.1, .int .i64 r.2.1] ∧ (eInt .i64) m r.2.2 csio3
noncomputable def sq146 (a_0 : List ByteArray) (x_1 : Int) (x_2 : Int) (y_3 : Int) : Option (Int × Int × Int) :=
  Option.bind (gi a_0 x_2) fun y1 => Option.bind (gi a_0 x_1) fun y8 => Option.bind (cmp_Less_110 y1 y8) fun y15 => if y15 = true then (some (x_2, x_1, (IntKind.wrap .i64 (y_3 + (1 : Int))))) else (some (x_1, x_2, y_3))
theorem sq146.walk {W h m A_0 n_0 c_0 bkio3 cs_3 a_0 x_1 x_2 y_3} (O : Hold W h m h m [rV bkio3 3 cs_3]) (ne_0 : n_0 = List.length a_0) (k_0 : List.length a_0 ≤ c_0) (r_0 : Rd 1 eStr m A_0 a_0) (e_3 : (eInt .i64) m y_3 cs_3) {r} (e : sq146 a_0 x_1 x_2 y_3 = some r) : Run Tryd.prog 146 #[Value.slice A_0 n_0 c_0, Value.int .i64 x_1, Value.int .i64 x_2, Value.pointer (some ⟨bkio3, 0, none⟩)] h (sq146.post W bkio3 h m r) := by
  unfold sq146 at e
  subst ne_0
  obtain rfl : cs_3 = [(Value.int .i64 y_3)] := e_3
  refine f146.run ?_
  unfold f146.runT
  obtain ⟨y1, g2, e⟩ := bind_e e
  refine r_0.addr rfl g2 fun a3 cs4 ha5 hc6 he7 => ?_
  obtain rfl : cs4 = [(Value.string y1)] := he7
  obtain ⟨y8, g9, e⟩ := bind_e e
  refine r_0.addr rfl g9 fun a10 cs11 ha12 hc13 he14 => ?_
  obtain rfl : cs11 = [(Value.string y8)] := he14
  refine ⟨_, ld0 O.s hc6 rfl, _, rfl, ?_⟩
  refine ⟨_, ld0 O.s hc13 rfl, _, rfl, ?_⟩
  obtain ⟨y15, g16, e⟩ := bind_e e
  refine (cmp_Less_110.walk (Hold.start (W := No) O.s)  g16).mono ?_
  rintro _ h17 ⟨m18, Q19, rfl⟩
  have O21 := Hold.nm (O.retC Q19 vfs_nil)
  refine ⟨_, rfl, ?_⟩
  refine split_any_e e (fun c25 e => ?_) (fun c25 e => ?_)
  · refine ⟨_, ld0 (Sub.refl _) (O21.all 0 rfl) rfl, _, rfl, ?_⟩
    refine O21.st0 0 rfl (Nat.le_of_ble_eq_true rfl) trivial fun h22 O23 => ?_
    have O24 := O23.nm
    cases e
    exact ⟨_, _, O24.pick [0], rfl, rfl⟩
  · cases e
    exact ⟨_, _, O21.pick [0], rfl, rfl⟩
def sq130.post (W : Nat → Prop) (bkio4 : Nat) (h0 m0 : Heap) (r : Int × Int) (v : Value) (h : Heap) : Prop := ∃ m csio4, Hold W h0 m0 h m [rV bkio4 3 csio4] ∧ v = .int .i64 r.1 ∧ (eInt .i64) m r.2 csio4
noncomputable def sq130 (a_0 : List ByteArray) (x_1 : Int) (x_2 : Int) (x_3 : Int) (y_4 : Int) : Option (Int × Int) :=
  Option.bind (sq146 a_0 x_1 x_2 y_4) fun y1 => Option.bind (sq146 a_0 y1.2.1 x_3 y1.2.2) fun y15 => Option.bind (sq146 a_0 y1.1 y15.1 y15.2.2) fun y29 => some (y29.2.1, y29.2.2)
theorem sq130.walk {W h m A_0 n_0 c_0 bkio4 cs_4 a_0 x_1 x_2 x_3 y_4} (O : Hold W h m h m [rV bkio4 3 cs_4]) (ne_0 : n_0 = List.length a_0) (k_0 : List.length a_0 ≤ c_0) (r_0 : Rd 1 eStr m A_0 a_0) (e_4 : (eInt .i64) m y_4 cs_4) {r} (e : sq130 a_0 x_1 x_2 x_3 y_4 = some r) : Run Tryd.prog 130 #[Value.slice A_0 n_0 c_0, Value.int .i64 x_1, Value.int .i64 x_2, Value.int .i64 x_3, Value.pointer (some ⟨bkio4, 0, none⟩)] h (sq130.post W bkio4 h m r) := by
  unfold sq130 at e
  subst ne_0
  obtain rfl : cs_4 = [(Value.int .i64 y_4)] := e_4
  refine f130.run ?_
  unfold f130.runT
  obtain ⟨y1, g2, e⟩ := bind_e e
  obtain ⟨W7, P8, B9, C10⟩ := O.callC [0]
  refine (sq146.walk P8 rfl k_0 r_0 rfl g2).mono ?_
  rintro _ h3 ⟨m4, cs12, Q5, rfl, he13⟩
  have O14 := Hold.nm (C10 Q5 (vfs_cons rV_vf vfs_nil))
  obtain rfl : cs12 = [(Value.int .i64 y1.2.2)] := he13
  refine ⟨_, _, rfl, ?_⟩
  obtain ⟨y15, g16, e⟩ := bind_e e
  obtain ⟨W21, P22, B23, C24⟩ := O14.callC [1]
  refine (sq146.walk P22 rfl k_0 r_0 rfl g16).mono ?_
  rintro _ h17 ⟨m18, cs26, Q19, rfl, he27⟩
  have O28 := Hold.nm (C24 Q19 (vfs_cons rV_vf vfs_nil))
  obtain rfl : cs26 = [(Value.int .i64 y15.2.2)] := he27
  refine ⟨_, _, rfl, ?_⟩
  obtain ⟨y29, g30, e⟩ := bind_e e
  obtain ⟨W35, P36, B37, C38⟩ := O28.callC [2]
  refine (sq146.walk P36 rfl k_0 r_0 rfl g30).mono ?_
  rintro _ h31 ⟨m32, cs40, Q33, rfl, he41⟩
  have O42 := Hold.nm (C38 Q33 (vfs_cons rV_vf vfs_nil))
  obtain rfl : cs40 = [(Value.int .i64 y29.2.2)] := he41
  refine ⟨_, _, rfl, ?_⟩
  cases e
  exact ⟨_, _, O42.pick [3], rfl, rfl⟩
def sq129.post (W : Nat → Prop) (bkio2 : Nat) (h0 m0 : Heap) (r : Int × Int) (v : Value) (h : Heap) : Prop := ∃ m csio2, Hold W h0 m0 h m [rV bkio2 3 csio2] ∧ v = .int .i64 r.1 ∧ (eInt .i64) m r.2 csio2
noncomputable def sq129 (a_0 : List ByteArray) (x_1 : Int) (y_2 : Int) : Option (Int × Int) :=
  Option.bind (sq130 a_0 (IntKind.wrap .i64 (x_1 - (1 : Int))) x_1 (IntKind.wrap .i64 (x_1 + (1 : Int))) y_2) fun y1 => some (y1.1, y1.2)
theorem sq129.walk {W h m A_0 n_0 c_0 bkio2 cs_2 a_0 x_1 y_2} (O : Hold W h m h m [rV bkio2 3 cs_2]) (ne_0 : n_0 = List.length a_0) (k_0 : List.length a_0 ≤ c_0) (r_0 : Rd 1 eStr m A_0 a_0) (e_2 : (eInt .i64) m y_2 cs_2) {r} (e : sq129 a_0 x_1 y_2 = some r) : Run Tryd.prog 129 #[Value.slice A_0 n_0 c_0, Value.int .i64 x_1, Value.pointer (some ⟨bkio2, 0, none⟩)] h (sq129.post W bkio2 h m r) := by
  unfold sq129 at e
  subst ne_0
  obtain rfl : cs_2 = [(Value.int .i64 y_2)] := e_2
  refine f129.run ?_
  unfold f129.runT
  obtain ⟨y1, g2, e⟩ := bind_e e
  obtain ⟨W7, P8, B9, C10⟩ := O.callC [0]
  refine (sq130.walk P8 rfl k_0 r_0 rfl g2).mono ?_
  rintro _ h3 ⟨m4, cs12, Q5, rfl, he13⟩
  have O14 := Hold.nm (C10 Q5 (vfs_cons rV_vf vfs_nil))
  obtain rfl : cs12 = [(Value.int .i64 y1.2)] := he13
  refine ⟨_, rfl, ?_⟩
  cases e
  exact ⟨_, _, O14.pick [1], rfl, rfl⟩
def sq107.post (W : Nat → Prop) (h0 m0 : Heap) (r : Int × Int) (v : Value) (h : Heap) : Prop := ∃ m , Hold W h0 m0 h m [] ∧ v = .tuple #[.int .i64 r.1, .int .i64 r.2]
noncomputable def sq107.j0 (y_9 : Int) (x_11 : Int) : Option (Int × Int) :=
  if y_9 = (0 : Int) then (some (x_11, (1 : Int))) else (if y_9 = (12 : Int) then (some (x_11, (2 : Int))) else (some (x_11, (0 : Int))))
theorem sq107.j0.walk {W h0 m0 h m bk_9 cs_9 y_9 x_11} (O : Hold W h0 m0 h m [rV bk_9 3 cs_9]) (e_9 : (eInt .i64) m y_9 cs_9) {r} (e : sq107.j0 y_9 x_11 = some r) : f107.j0 (sq107.post W h0 m0 r) (⟨bk_9, 0, none⟩ : Addr) x_11 h := by
  unfold sq107.j0 at e
  obtain rfl : cs_9 = [(Value.int .i64 y_9)] := e_9
  refine f107.j0_in ?_
  unfold f107.j0T
  refine ⟨_, ld0 (Sub.refl _) (O.all 0 rfl) rfl, _, rfl, ?_⟩
  refine split_eq_e e (fun c2 e => ?_) (fun c2 e => ?_)
  · cases e
    exact ⟨_, O.pick [], rfl⟩
  · refine split_eq_e e (fun c1 e => ?_) (fun c1 e => ?_)
    · cases e
      exact ⟨_, O.pick [], rfl⟩
    · cases e
      exact ⟨_, O.pick [], rfl⟩
noncomputable def sq107.j1 (a_0 : List ByteArray) (y_9 : Int) (x_10 : Int) (x_11 : Int) (x_12 : Int) : Option (Int × Int) :=
  Option.bind (sq130 a_0 x_10 x_11 x_12 y_9) fun y1 => (sq107.j0 y1.2 y1.1)
theorem sq107.j1.walk {W h0 m0 h m A_0 n_0 c_0 bk_9 cs_9 a_0 y_9 x_10 x_11 x_12} (O : Hold W h0 m0 h m [rV bk_9 3 cs_9]) (ne_0 : n_0 = List.length a_0) (k_0 : List.length a_0 ≤ c_0) (r_0 : Rd 1 eStr m A_0 a_0) (e_9 : (eInt .i64) m y_9 cs_9) {r} (e : sq107.j1 a_0 y_9 x_10 x_11 x_12 = some r) : f107.j1 (sq107.post W h0 m0 r) A_0 n_0 c_0 (⟨bk_9, 0, none⟩ : Addr) x_10 x_11 x_12 h := by
  unfold sq107.j1 at e
  subst ne_0
  obtain rfl : cs_9 = [(Value.int .i64 y_9)] := e_9
  refine f107.j1_in ?_
  unfold f107.j1T
  obtain ⟨y1, g2, e⟩ := bind_e e
  obtain ⟨W7, P8, B9, C10⟩ := O.callC [0]
  refine (sq130.walk P8 rfl k_0 r_0 rfl g2).mono ?_
  rintro _ h3 ⟨m4, cs12, Q5, rfl, he13⟩
  have O14 := Hold.nm (C10 Q5 (vfs_cons rV_vf vfs_nil))
  obtain rfl : cs12 = [(Value.int .i64 y1.2)] := he13
  refine ⟨_, rfl, ?_⟩
  exact sq107.j0.walk (O14.pick [1]).nm rfl e
noncomputable def sq107 (a_0 : List ByteArray) (x_1 : Int) (x_2 : Int) : Option (Int × Int) :=
  if (IntKind.wrap .i64 (x_2 - x_1)) ≥ (8 : Int) then (if (IntKind.wrap .i64 (x_2 - x_1)) ≥ (50 : Int) then (Option.bind (sq129 a_0 (IntKind.wrap .i64 (x_1 + (IntKind.wrap .i64 ((IntKind.wrap .i64 (Int.tdiv (IntKind.wrap .i64 (x_2 - x_1)) (4 : Int))) * (1 : Int))))) (0 : Int)) fun y5 => Option.bind (sq129 a_0 (IntKind.wrap .i64 (x_1 + (IntKind.wrap .i64 ((IntKind.wrap .i64 (Int.tdiv (IntKind.wrap .i64 (x_2 - x_1)) (4 : Int))) * (2 : Int))))) y5.2) fun y20 => Option.bind (sq129 a_0 (IntKind.wrap .i64 (x_1 + (IntKind.wrap .i64 ((IntKind.wrap .i64 (Int.tdiv (IntKind.wrap .i64 (x_2 - x_1)) (4 : Int))) * (3 : Int))))) y20.2) fun y34 => (sq107.j1 a_0 y34.2 y5.1 y20.1 y34.1)) else ((sq107.j1 a_0 (0 : Int) (IntKind.wrap .i64 (x_1 + (IntKind.wrap .i64 ((IntKind.wrap .i64 (Int.tdiv (IntKind.wrap .i64 (x_2 - x_1)) (4 : Int))) * (1 : Int))))) (IntKind.wrap .i64 (x_1 + (IntKind.wrap .i64 ((IntKind.wrap .i64 (Int.tdiv (IntKind.wrap .i64 (x_2 - x_1)) (4 : Int))) * (2 : Int))))) (IntKind.wrap .i64 (x_1 + (IntKind.wrap .i64 ((IntKind.wrap .i64 (Int.tdiv (IntKind.wrap .i64 (x_2 - x_1)) (4 : Int))) * (3 : Int)))))))) else ((sq107.j0 (0 : Int) (IntKind.wrap .i64 (x_1 + (IntKind.wrap .i64 ((IntKind.wrap .i64 (Int.tdiv (IntKind.wrap .i64 (x_2 - x_1)) (4 : Int))) * (2 : Int)))))))
set_option maxHeartbeats 4000000 in
theorem sq107.walk {W h m A_0 n_0 c_0 a_0 x_1 x_2} (O : Hold W h m h m []) (ne_0 : n_0 = List.length a_0) (k_0 : List.length a_0 ≤ c_0) (r_0 : Rd 1 eStr m A_0 a_0) {r} (e : sq107 a_0 x_1 x_2 = some r) : Run Tryd.prog 107 #[Value.slice A_0 n_0 c_0, Value.int .i64 x_1, Value.int .i64 x_2] h (sq107.post W h m r) := by
  unfold sq107 at e
  subst ne_0
  refine f107.run ?_
  unfold f107.runT
  refine O.new fun h1 x2 O3 => ?_
  refine ⟨by decide, ?_⟩
  refine ⟨by decide, ?_⟩
  refine ⟨by decide, ?_⟩
  refine split_dec_e e (fun c51 e => ?_) (fun c51 e => ?_)
  · refine split_dec_e e (fun c49 e => ?_) (fun c49 e => ?_)
    · obtain ⟨y5, g6, e⟩ := bind_e e
      have O11 := O3.nm
      obtain ⟨W12, P13, B14, C15⟩ := O11.callC [0]
      refine (sq129.walk P13 rfl k_0 r_0 rfl g6).mono ?_
      rintro _ h7 ⟨m8, cs17, Q9, rfl, he18⟩
      have O19 := Hold.nm (C15 Q9 (vfs_cons rV_vf vfs_nil))
      obtain rfl : cs17 = [(Value.int .i64 y5.2)] := he18
      refine ⟨_, rfl, ?_⟩
      obtain ⟨y20, g21, e⟩ := bind_e e
      obtain ⟨W26, P27, B28, C29⟩ := O19.callC [1]
      refine (sq129.walk P27 rfl k_0 r_0 rfl g21).mono ?_
      rintro _ h22 ⟨m23, cs31, Q24, rfl, he32⟩
      have O33 := Hold.nm (C29 Q24 (vfs_cons rV_vf vfs_nil))
      obtain rfl : cs31 = [(Value.int .i64 y20.2)] := he32
      refine ⟨_, rfl, ?_⟩
      obtain ⟨y34, g35, e⟩ := bind_e e
      obtain ⟨W40, P41, B42, C43⟩ := O33.callC [2]
      refine (sq129.walk P41 rfl k_0 r_0 rfl g35).mono ?_
      rintro _ h36 ⟨m37, cs45, Q38, rfl, he46⟩
      have O47 := Hold.nm (C43 Q38 (vfs_cons rV_vf vfs_nil))
      obtain rfl : cs45 = [(Value.int .i64 y34.2)] := he46
      refine ⟨_, rfl, ?_⟩
      exact sq107.j1.walk (O47.pick [3]).nm rfl k_0 r_0 rfl e
    · have O48 := O3.nm
      exact sq107.j1.walk (O48.pick [0]).nm rfl k_0 r_0 rfl e
  · have O50 := O3.nm
    exact sq107.j0.walk (O50.pick [0]).nm rfl e
def sq108.post (W : Nat → Prop) (Asl0 : Option Addr) (nsl0 csl0 : Nat) (h0 m0 : Heap) (r : (List ByteArray)) (v : Value) (h : Heap) : Prop := ∃ m , Hold W h0 m0 h m [rR (aE tell_str) Asl0 csl0 r] ∧ v = .tuple #[] ∧ nsl0 = List.length r
inductive sq108.l0_k.Pt where
  | l0 (a_0 : List ByteArray) (x_6 : Int) (x_7 : Int)
noncomputable def sq108.l0_k.body (go : (p : sq108.l0_k.Pt) → Option ((List ByteArray))) : (p : sq108.l0_k.Pt) → Option ((List ByteArray))
  | .l0 a_0 x_6 x_7 => if x_6 < x_7 then (Option.bind (gi a_0 x_7) fun y1 => Option.bind (gi a_0 x_6) fun y8 => Option.bind (gi a_0 x_6) fun y15 => Option.bind (some (List.set a_0 (Int.toNat x_6) y1)) fun l24 => Option.bind (gi l24 x_7) fun y26 => Option.bind (some (List.set l24 (Int.toNat x_7) y8)) fun l35 => (go (.l0 l35 (IntKind.wrap .i64 (x_6 + (1 : Int))) (IntKind.wrap .i64 (x_7 - (1 : Int)))))) else (some (a_0))
theorem sq108.l0_k.mono : MonoF (β := fun _ => ((List ByteArray))) sq108.l0_k.body := fun f g hfg p => match p with
  | .l0 a_0 x_6 x_7 => LeO.ite (LeO.bind (LeO.refl _) fun y1 => LeO.bind (LeO.refl _) fun y8 => LeO.bind (LeO.refl _) fun y15 => LeO.bind (LeO.refl _) fun l24 => LeO.bind (LeO.refl _) fun y26 => LeO.bind (LeO.refl _) fun l35 => (hfg _)) (LeO.refl _)
noncomputable def sq108.l0_k.go (p : sq108.l0_k.Pt) : Option ((List ByteArray)) := fixF (β := fun _ => ((List ByteArray))) sq108.l0_k.body p
noncomputable def sq108.l0 (a_0 x_6 x_7) := sq108.l0_k.go (.l0 a_0 x_6 x_7)
theorem sq108.l0_eq (a_0 x_6 x_7) : sq108.l0 a_0 x_6 x_7 = if x_6 < x_7 then (Option.bind (gi a_0 x_7) fun y1 => Option.bind (gi a_0 x_6) fun y8 => Option.bind (gi a_0 x_6) fun y15 => Option.bind (some (List.set a_0 (Int.toNat x_6) y1)) fun l24 => Option.bind (gi l24 x_7) fun y26 => Option.bind (some (List.set l24 (Int.toNat x_7) y8)) fun l35 => (sq108.l0 l35 (IntKind.wrap .i64 (x_6 + (1 : Int))) (IntKind.wrap .i64 (x_7 - (1 : Int))))) else (some (a_0)) := fixF_eq sq108.l0_k.mono _
def sq108.l0_k.I : (p : sq108.l0_k.Pt) → ((List ByteArray)) → Prop
  | .l0 a_0 x_6 x_7, r => ∀ {W h0 m0 h m A_0 n_0 c_0} (O : Hold W h0 m0 h m [rR (aE tell_str) A_0 c_0 a_0]) (ne_0 : n_0 = List.length a_0), f108.l0 (sq108.post W A_0 n_0 c_0 h0 m0 r) A_0 n_0 c_0 x_6 x_7 h
theorem sq108.l0_k.step_l0 (go : (p : sq108.l0_k.Pt) → Option ((List ByteArray))) (ih : ∀ p r, go p = some r → sq108.l0_k.I p r) (a_0 x_6 x_7) (r) (e : sq108.l0_k.body go (.l0 a_0 x_6 x_7) = some r) : sq108.l0_k.I (.l0 a_0 x_6 x_7) r := by
  unfold sq108.l0_k.body at e
  intro W h0 m0 h m A_0 n_0 c_0 O ne_0
  subst ne_0
  refine f108.l0_in ?_
  unfold f108.l0T
  refine split_dec_e e (fun c38 e => ?_) (fun c38 e => ?_)
  · obtain ⟨y1, g2, e⟩ := bind_e e
    refine (O.os 0 rfl).addr rfl g2 fun a3 cs4 ha5 hc6 he7 => ?_
    obtain rfl : cs4 = [(Value.string y1)] := he7
    obtain ⟨y8, g9, e⟩ := bind_e e
    refine (O.os 0 rfl).addr rfl g9 fun a10 cs11 ha12 hc13 he14 => ?_
    obtain rfl : cs11 = [(Value.string y8)] := he14
    refine ⟨_, ld0 (Sub.refl _) hc6 rfl, _, rfl, ?_⟩
    refine ⟨_, ld0 (Sub.refl _) hc13 rfl, _, rfl, ?_⟩
    obtain ⟨y15, g16, e⟩ := bind_e e
    refine (O.os 0 rfl).addr rfl g16 fun a17 cs18 ha19 hc20 he21 => ?_
    obtain rfl : cs18 = [(Value.string y15)] := he21
    obtain ⟨l24, g25, e⟩ := bind_e e
    replace g25 := Option.some.inj g25
    refine O.elst0 0 rfl g16 ha19 hc20 (by decide) (y' := y1) rfl trivial g25 fun h22 O23 => ?_
    obtain ⟨y26, g27, e⟩ := bind_e e
    refine (O23.os 0 rfl).addr (lset' g25) g27 fun a28 cs29 ha30 hc31 he32 => ?_
    obtain rfl : cs29 = [(Value.string y26)] := he32
    obtain ⟨l35, g36, e⟩ := bind_e e
    replace g36 := Option.some.inj g36
    refine O23.elst0 0 rfl g27 ha30 hc31 (by decide) (y' := y8) rfl trivial g36 fun h33 O34 => ?_
    have O37 := O34.nm
    exact (ih _ _ e) (O37.pick [0]).nm ((lset' g25).trans (lset' g36))
  · cases e
    exact ⟨_, O.pick [0], rfl, rfl⟩
theorem sq108.l0_k.all {p : sq108.l0_k.Pt} {r : ((List ByteArray))} (e : sq108.l0_k.go p = some r) : sq108.l0_k.I p r := fixF_ind (β := fun _ => ((List ByteArray))) sq108.l0_k.mono (I := sq108.l0_k.I) (fun go ih p r e => match p with
  | .l0 a_0 x_6 x_7 => sq108.l0_k.step_l0 go ih a_0 x_6 x_7 r e
  ) e
noncomputable def sq108 (a_0 : List ByteArray) (x_1 : Int) (x_2 : Int) : Option ((List ByteArray)) :=
  (sq108.l0 a_0 x_1 (IntKind.wrap .i64 (x_2 - (1 : Int))))
theorem sq108.walk {W h m A_0 n_0 c_0 a_0 x_1 x_2} (O : Hold W h m h m [rR (aE tell_str) A_0 c_0 a_0]) (ne_0 : n_0 = List.length a_0) {r} (e : sq108 a_0 x_1 x_2 = some r) : Run Tryd.prog 108 #[Value.slice A_0 n_0 c_0, Value.int .i64 x_1, Value.int .i64 x_2] h (sq108.post W A_0 n_0 c_0 h m r) := by
  unfold sq108 at e
  subst ne_0
  refine f108.run ?_
  unfold f108.runT
  exact (sq108.l0_k.all e) (O.pick [0]).nm rfl
def sq109.post (W : Nat → Prop) (Asl0 : Option Addr) (nsl0 csl0 : Nat) (h0 m0 : Heap) (r : Bool × (List ByteArray)) (v : Value) (h : Heap) : Prop := ∃ m , Hold W h0 m0 h m [rR (aE tell_str) Asl0 csl0 r.2] ∧ v = .bool r.1 ∧ nsl0 = List.length r.2
inductive sq109.l0_k.Pt where
  | l0 (a_0 : List ByteArray) (x_1 : Int) (x_2 : Int) (x_7 : Int) (x_8 : Int)
  | l1 (a_0 : List ByteArray) (x_1 : Int) (x_2 : Int) (x_7 : Int) (x_8 : Int)
  | j2 (a_0 : List ByteArray) (x_1 : Int) (x_2 : Int) (x_7 : Int) (x_8 : Int)
  | j1 (a_0 : List ByteArray) (x_1 : Int) (x_2 : Int) (x_7 : Int) (x_8 : Int)
  | l2 (a_0 : List ByteArray) (x_1 : Int) (x_2 : Int) (x_7 : Int) (x_8 : Int) (x_9 : Int)
  | j3 (a_0 : List ByteArray) (x_1 : Int) (x_2 : Int) (x_7 : Int) (x_8 : Int)
  | l3 (a_0 : List ByteArray) (x_1 : Int) (x_2 : Int) (x_7 : Int) (x_8 : Int) (x_10 : Int)
  | j0 (a_0 : List ByteArray) (x_1 : Int) (x_2 : Int) (x_7 : Int) (x_8 : Int)
noncomputable def sq109.l0_k.body (go : (p : sq109.l0_k.Pt) → Option (Bool × (List ByteArray))) : (p : sq109.l0_k.Pt) → Option (Bool × (List ByteArray))
  | .l0 a_0 x_1 x_2 x_7 x_8 => if x_8 < (5 : Int) then ((go (.l1 a_0 x_1 x_2 x_7 x_8))) else (some (false, a_0))
  | .l1 a_0 x_1 x_2 x_7 x_8 => if x_7 < x_2 then (Option.bind (gi a_0 x_7) fun y1 => Option.bind (gi a_0 (IntKind.wrap .i64 (x_7 - (1 : Int)))) fun y8 => Option.bind (cmp_Less_110 y1 y8) fun y15 => if y15 = true then ((go (.j1 a_0 x_1 x_2 x_7 x_8))) else ((go (.j2 a_0 x_1 x_2 x_7 x_8)))) else ((go (.j1 a_0 x_1 x_2 x_7 x_8)))
  | .j2 a_0 x_1 x_2 x_7 x_8 => (go (.l1 a_0 x_1 x_2 (IntKind.wrap .i64 (x_7 + (1 : Int))) x_8))
  | .j1 a_0 x_1 x_2 x_7 x_8 => if x_7 = x_2 then (some (true, a_0)) else (if (IntKind.wrap .i64 (x_2 - x_1)) < (50 : Int) then (some (false, a_0)) else (Option.bind (gi a_0 (IntKind.wrap .i64 (x_7 - (1 : Int)))) fun y1 => Option.bind (gi a_0 x_7) fun y8 => Option.bind (gi a_0 x_7) fun y15 => Option.bind (some (List.set a_0 (Int.toNat x_7) y1)) fun l24 => Option.bind (gi l24 (IntKind.wrap .i64 (x_7 - (1 : Int)))) fun y26 => Option.bind (some (List.set l24 (Int.toNat (IntKind.wrap .i64 (x_7 - (1 : Int)))) y8)) fun l35 => if (IntKind.wrap .i64 (x_7 - x_1)) ≥ (2 : Int) then ((go (.l2 l35 x_1 x_2 x_7 x_8 (IntKind.wrap .i64 (x_7 - (1 : Int)))))) else ((go (.j3 l35 x_1 x_2 x_7 x_8)))))
  | .l2 a_0 x_1 x_2 x_7 x_8 x_9 => if x_9 ≥ (1 : Int) then (Option.bind (gi a_0 x_9) fun y1 => Option.bind (gi a_0 (IntKind.wrap .i64 (x_9 - (1 : Int)))) fun y8 => Option.bind (cmp_Less_110 y1 y8) fun y15 => if y15 = true then (Option.bind (gi a_0 (IntKind.wrap .i64 (x_9 - (1 : Int)))) fun y22 => Option.bind (gi a_0 x_9) fun y29 => Option.bind (gi a_0 x_9) fun y36 => Option.bind (some (List.set a_0 (Int.toNat x_9) y22)) fun l45 => Option.bind (gi l45 (IntKind.wrap .i64 (x_9 - (1 : Int)))) fun y47 => Option.bind (some (List.set l45 (Int.toNat (IntKind.wrap .i64 (x_9 - (1 : Int)))) y29)) fun l56 => (go (.l2 l56 x_1 x_2 x_7 x_8 (IntKind.wrap .i64 (x_9 - (1 : Int)))))) else ((go (.j3 a_0 x_1 x_2 x_7 x_8)))) else ((go (.j3 a_0 x_1 x_2 x_7 x_8)))
  | .j3 a_0 x_1 x_2 x_7 x_8 => if (IntKind.wrap .i64 (x_2 - x_7)) ≥ (2 : Int) then ((go (.l3 a_0 x_1 x_2 x_7 x_8 (IntKind.wrap .i64 (x_7 + (1 : Int)))))) else ((go (.j0 a_0 x_1 x_2 x_7 x_8)))
  | .l3 a_0 x_1 x_2 x_7 x_8 x_10 => if x_10 < x_2 then (Option.bind (gi a_0 x_10) fun y1 => Option.bind (gi a_0 (IntKind.wrap .i64 (x_10 - (1 : Int)))) fun y8 => Option.bind (cmp_Less_110 y1 y8) fun y15 => if y15 = true then (Option.bind (gi a_0 (IntKind.wrap .i64 (x_10 - (1 : Int)))) fun y22 => Option.bind (gi a_0 x_10) fun y29 => Option.bind (gi a_0 x_10) fun y36 => Option.bind (some (List.set a_0 (Int.toNat x_10) y22)) fun l45 => Option.bind (gi l45 (IntKind.wrap .i64 (x_10 - (1 : Int)))) fun y47 => Option.bind (some (List.set l45 (Int.toNat (IntKind.wrap .i64 (x_10 - (1 : Int)))) y29)) fun l56 => (go (.l3 l56 x_1 x_2 x_7 x_8 (IntKind.wrap .i64 (x_10 + (1 : Int)))))) else ((go (.j0 a_0 x_1 x_2 x_7 x_8)))) else ((go (.j0 a_0 x_1 x_2 x_7 x_8)))
  | .j0 a_0 x_1 x_2 x_7 x_8 => (go (.l0 a_0 x_1 x_2 x_7 (IntKind.wrap .i64 (x_8 + (1 : Int)))))
attribute [local irreducible] cmp_Less_110 in
theorem sq109.l0_k.mono : MonoF (β := fun _ => (Bool × (List ByteArray))) sq109.l0_k.body := fun f g hfg p => match p with
  | .l0 a_0 x_1 x_2 x_7 x_8 => LeO.ite ((hfg _)) (LeO.refl _)
  | .l1 a_0 x_1 x_2 x_7 x_8 => LeO.ite (LeO.bind (LeO.refl _) fun y1 => LeO.bind (LeO.refl _) fun y8 => LeO.bind (LeO.refl _) fun y15 => LeO.ite ((hfg _)) ((hfg _))) ((hfg _))
  | .j2 a_0 x_1 x_2 x_7 x_8 => (hfg _)
  | .j1 a_0 x_1 x_2 x_7 x_8 => LeO.ite (LeO.refl _) (LeO.ite (LeO.refl _) (LeO.bind (LeO.refl _) fun y1 => LeO.bind (LeO.refl _) fun y8 => LeO.bind (LeO.refl _) fun y15 => LeO.bind (LeO.refl _) fun l24 => LeO.bind (LeO.refl _) fun y26 => LeO.bind (LeO.refl _) fun l35 => LeO.ite ((hfg _)) ((hfg _))))
  | .l2 a_0 x_1 x_2 x_7 x_8 x_9 => LeO.ite (LeO.bind (LeO.refl _) fun y1 => LeO.bind (LeO.refl _) fun y8 => LeO.bind (LeO.refl _) fun y15 => LeO.ite (LeO.bind (LeO.refl _) fun y22 => LeO.bind (LeO.refl _) fun y29 => LeO.bind (LeO.refl _) fun y36 => LeO.bind (LeO.refl _) fun l45 => LeO.bind (LeO.refl _) fun y47 => LeO.bind (LeO.refl _) fun l56 => (hfg _)) ((hfg _))) ((hfg _))
  | .j3 a_0 x_1 x_2 x_7 x_8 => LeO.ite ((hfg _)) ((hfg _))
  | .l3 a_0 x_1 x_2 x_7 x_8 x_10 => LeO.ite (LeO.bind (LeO.refl _) fun y1 => LeO.bind (LeO.refl _) fun y8 => LeO.bind (LeO.refl _) fun y15 => LeO.ite (LeO.bind (LeO.refl _) fun y22 => LeO.bind (LeO.refl _) fun y29 => LeO.bind (LeO.refl _) fun y36 => LeO.bind (LeO.refl _) fun l45 => LeO.bind (LeO.refl _) fun y47 => LeO.bind (LeO.refl _) fun l56 => (hfg _)) ((hfg _))) ((hfg _))
  | .j0 a_0 x_1 x_2 x_7 x_8 => (hfg _)
noncomputable def sq109.l0_k.go (p : sq109.l0_k.Pt) : Option (Bool × (List ByteArray)) := fixF (β := fun _ => (Bool × (List ByteArray))) sq109.l0_k.body p
noncomputable def sq109.l0 (a_0 x_1 x_2 x_7 x_8) := sq109.l0_k.go (.l0 a_0 x_1 x_2 x_7 x_8)
noncomputable def sq109.l1 (a_0 x_1 x_2 x_7 x_8) := sq109.l0_k.go (.l1 a_0 x_1 x_2 x_7 x_8)
noncomputable def sq109.j2 (a_0 x_1 x_2 x_7 x_8) := sq109.l0_k.go (.j2 a_0 x_1 x_2 x_7 x_8)
noncomputable def sq109.j1 (a_0 x_1 x_2 x_7 x_8) := sq109.l0_k.go (.j1 a_0 x_1 x_2 x_7 x_8)
noncomputable def sq109.l2 (a_0 x_1 x_2 x_7 x_8 x_9) := sq109.l0_k.go (.l2 a_0 x_1 x_2 x_7 x_8 x_9)
noncomputable def sq109.j3 (a_0 x_1 x_2 x_7 x_8) := sq109.l0_k.go (.j3 a_0 x_1 x_2 x_7 x_8)
noncomputable def sq109.l3 (a_0 x_1 x_2 x_7 x_8 x_10) := sq109.l0_k.go (.l3 a_0 x_1 x_2 x_7 x_8 x_10)
noncomputable def sq109.j0 (a_0 x_1 x_2 x_7 x_8) := sq109.l0_k.go (.j0 a_0 x_1 x_2 x_7 x_8)
theorem sq109.l0_eq (a_0 x_1 x_2 x_7 x_8) : sq109.l0 a_0 x_1 x_2 x_7 x_8 = if x_8 < (5 : Int) then ((sq109.l1 a_0 x_1 x_2 x_7 x_8)) else (some (false, a_0)) := fixF_eq sq109.l0_k.mono _
theorem sq109.l1_eq (a_0 x_1 x_2 x_7 x_8) : sq109.l1 a_0 x_1 x_2 x_7 x_8 = if x_7 < x_2 then (Option.bind (gi a_0 x_7) fun y1 => Option.bind (gi a_0 (IntKind.wrap .i64 (x_7 - (1 : Int)))) fun y8 => Option.bind (cmp_Less_110 y1 y8) fun y15 => if y15 = true then ((sq109.j1 a_0 x_1 x_2 x_7 x_8)) else ((sq109.j2 a_0 x_1 x_2 x_7 x_8))) else ((sq109.j1 a_0 x_1 x_2 x_7 x_8)) := fixF_eq sq109.l0_k.mono _
theorem sq109.j2_eq (a_0 x_1 x_2 x_7 x_8) : sq109.j2 a_0 x_1 x_2 x_7 x_8 = (sq109.l1 a_0 x_1 x_2 (IntKind.wrap .i64 (x_7 + (1 : Int))) x_8) := fixF_eq sq109.l0_k.mono _
theorem sq109.j1_eq (a_0 x_1 x_2 x_7 x_8) : sq109.j1 a_0 x_1 x_2 x_7 x_8 = if x_7 = x_2 then (some (true, a_0)) else (if (IntKind.wrap .i64 (x_2 - x_1)) < (50 : Int) then (some (false, a_0)) else (Option.bind (gi a_0 (IntKind.wrap .i64 (x_7 - (1 : Int)))) fun y1 => Option.bind (gi a_0 x_7) fun y8 => Option.bind (gi a_0 x_7) fun y15 => Option.bind (some (List.set a_0 (Int.toNat x_7) y1)) fun l24 => Option.bind (gi l24 (IntKind.wrap .i64 (x_7 - (1 : Int)))) fun y26 => Option.bind (some (List.set l24 (Int.toNat (IntKind.wrap .i64 (x_7 - (1 : Int)))) y8)) fun l35 => if (IntKind.wrap .i64 (x_7 - x_1)) ≥ (2 : Int) then ((sq109.l2 l35 x_1 x_2 x_7 x_8 (IntKind.wrap .i64 (x_7 - (1 : Int))))) else ((sq109.j3 l35 x_1 x_2 x_7 x_8)))) := fixF_eq sq109.l0_k.mono _
theorem sq109.l2_eq (a_0 x_1 x_2 x_7 x_8 x_9) : sq109.l2 a_0 x_1 x_2 x_7 x_8 x_9 = if x_9 ≥ (1 : Int) then (Option.bind (gi a_0 x_9) fun y1 => Option.bind (gi a_0 (IntKind.wrap .i64 (x_9 - (1 : Int)))) fun y8 => Option.bind (cmp_Less_110 y1 y8) fun y15 => if y15 = true then (Option.bind (gi a_0 (IntKind.wrap .i64 (x_9 - (1 : Int)))) fun y22 => Option.bind (gi a_0 x_9) fun y29 => Option.bind (gi a_0 x_9) fun y36 => Option.bind (some (List.set a_0 (Int.toNat x_9) y22)) fun l45 => Option.bind (gi l45 (IntKind.wrap .i64 (x_9 - (1 : Int)))) fun y47 => Option.bind (some (List.set l45 (Int.toNat (IntKind.wrap .i64 (x_9 - (1 : Int)))) y29)) fun l56 => (sq109.l2 l56 x_1 x_2 x_7 x_8 (IntKind.wrap .i64 (x_9 - (1 : Int))))) else ((sq109.j3 a_0 x_1 x_2 x_7 x_8))) else ((sq109.j3 a_0 x_1 x_2 x_7 x_8)) := fixF_eq sq109.l0_k.mono _
theorem sq109.j3_eq (a_0 x_1 x_2 x_7 x_8) : sq109.j3 a_0 x_1 x_2 x_7 x_8 = if (IntKind.wrap .i64 (x_2 - x_7)) ≥ (2 : Int) then ((sq109.l3 a_0 x_1 x_2 x_7 x_8 (IntKind.wrap .i64 (x_7 + (1 : Int))))) else ((sq109.j0 a_0 x_1 x_2 x_7 x_8)) := fixF_eq sq109.l0_k.mono _
theorem sq109.l3_eq (a_0 x_1 x_2 x_7 x_8 x_10) : sq109.l3 a_0 x_1 x_2 x_7 x_8 x_10 = if x_10 < x_2 then (Option.bind (gi a_0 x_10) fun y1 => Option.bind (gi a_0 (IntKind.wrap .i64 (x_10 - (1 : Int)))) fun y8 => Option.bind (cmp_Less_110 y1 y8) fun y15 => if y15 = true then (Option.bind (gi a_0 (IntKind.wrap .i64 (x_10 - (1 : Int)))) fun y22 => Option.bind (gi a_0 x_10) fun y29 => Option.bind (gi a_0 x_10) fun y36 => Option.bind (some (List.set a_0 (Int.toNat x_10) y22)) fun l45 => Option.bind (gi l45 (IntKind.wrap .i64 (x_10 - (1 : Int)))) fun y47 => Option.bind (some (List.set l45 (Int.toNat (IntKind.wrap .i64 (x_10 - (1 : Int)))) y29)) fun l56 => (sq109.l3 l56 x_1 x_2 x_7 x_8 (IntKind.wrap .i64 (x_10 + (1 : Int))))) else ((sq109.j0 a_0 x_1 x_2 x_7 x_8))) else ((sq109.j0 a_0 x_1 x_2 x_7 x_8)) := fixF_eq sq109.l0_k.mono _
theorem sq109.j0_eq (a_0 x_1 x_2 x_7 x_8) : sq109.j0 a_0 x_1 x_2 x_7 x_8 = (sq109.l0 a_0 x_1 x_2 x_7 (IntKind.wrap .i64 (x_8 + (1 : Int)))) := fixF_eq sq109.l0_k.mono _
def sq109.l0_k.I : (p : sq109.l0_k.Pt) → (Bool × (List ByteArray)) → Prop
  | .l0 a_0 x_1 x_2 x_7 x_8, r => ∀ {W h0 m0 h m A_0 n_0 c_0} (O : Hold W h0 m0 h m [rR (aE tell_str) A_0 c_0 a_0]) (ne_0 : n_0 = List.length a_0), f109.l0 (sq109.post W A_0 n_0 c_0 h0 m0 r) A_0 n_0 c_0 x_1 x_2 x_7 x_8 h
  | .l1 a_0 x_1 x_2 x_7 x_8, r => ∀ {W h0 m0 h m A_0 n_0 c_0} (O : Hold W h0 m0 h m [rR (aE tell_str) A_0 c_0 a_0]) (ne_0 : n_0 = List.length a_0), f109.l1 (sq109.post W A_0 n_0 c_0 h0 m0 r) A_0 n_0 c_0 x_1 x_2 x_7 x_8 h
  | .j2 a_0 x_1 x_2 x_7 x_8, r => ∀ {W h0 m0 h m A_0 n_0 c_0} (O : Hold W h0 m0 h m [rR (aE tell_str) A_0 c_0 a_0]) (ne_0 : n_0 = List.length a_0), f109.j2 (sq109.post W A_0 n_0 c_0 h0 m0 r) A_0 n_0 c_0 x_1 x_2 x_7 x_8 h
  | .j1 a_0 x_1 x_2 x_7 x_8, r => ∀ {W h0 m0 h m A_0 n_0 c_0} (O : Hold W h0 m0 h m [rR (aE tell_str) A_0 c_0 a_0]) (ne_0 : n_0 = List.length a_0), f109.j1 (sq109.post W A_0 n_0 c_0 h0 m0 r) A_0 n_0 c_0 x_1 x_2 x_7 x_8 h
  | .l2 a_0 x_1 x_2 x_7 x_8 x_9, r => ∀ {W h0 m0 h m A_0 n_0 c_0} (O : Hold W h0 m0 h m [rR (aE tell_str) A_0 c_0 a_0]) (ne_0 : n_0 = List.length a_0), f109.l2 (sq109.post W A_0 n_0 c_0 h0 m0 r) A_0 n_0 c_0 x_1 x_2 x_7 x_8 x_9 h
  | .j3 a_0 x_1 x_2 x_7 x_8, r => ∀ {W h0 m0 h m A_0 n_0 c_0} (O : Hold W h0 m0 h m [rR (aE tell_str) A_0 c_0 a_0]) (ne_0 : n_0 = List.length a_0), f109.j3 (sq109.post W A_0 n_0 c_0 h0 m0 r) A_0 n_0 c_0 x_1 x_2 x_7 x_8 h
  | .l3 a_0 x_1 x_2 x_7 x_8 x_10, r => ∀ {W h0 m0 h m A_0 n_0 c_0} (O : Hold W h0 m0 h m [rR (aE tell_str) A_0 c_0 a_0]) (ne_0 : n_0 = List.length a_0), f109.l3 (sq109.post W A_0 n_0 c_0 h0 m0 r) A_0 n_0 c_0 x_1 x_2 x_7 x_8 x_10 h
  | .j0 a_0 x_1 x_2 x_7 x_8, r => ∀ {W h0 m0 h m A_0 n_0 c_0} (O : Hold W h0 m0 h m [rR (aE tell_str) A_0 c_0 a_0]) (ne_0 : n_0 = List.length a_0), f109.j0 (sq109.post W A_0 n_0 c_0 h0 m0 r) A_0 n_0 c_0 x_1 x_2 x_7 x_8 h
theorem sq109.l0_k.step_l0 (go : (p : sq109.l0_k.Pt) → Option (Bool × (List ByteArray))) (ih : ∀ p r, go p = some r → sq109.l0_k.I p r) (a_0 x_1 x_2 x_7 x_8) (r) (e : sq109.l0_k.body go (.l0 a_0 x_1 x_2 x_7 x_8) = some r) : sq109.l0_k.I (.l0 a_0 x_1 x_2 x_7 x_8) r := by
  unfold sq109.l0_k.body at e
  intro W h0 m0 h m A_0 n_0 c_0 O ne_0
  subst ne_0
  refine f109.l0_in ?_
  unfold f109.l0T
  refine split_dec_e e (fun c1 e => ?_) (fun c1 e => ?_)
  · exact (ih _ _ e) (O.pick [0]).nm rfl
  · cases e
    exact ⟨_, O.pick [0], rfl, rfl⟩
theorem sq109.l0_k.step_l1 (go : (p : sq109.l0_k.Pt) → Option (Bool × (List ByteArray))) (ih : ∀ p r, go p = some r → sq109.l0_k.I p r) (a_0 x_1 x_2 x_7 x_8) (r) (e : sq109.l0_k.body go (.l1 a_0 x_1 x_2 x_7 x_8) = some r) : sq109.l0_k.I (.l1 a_0 x_1 x_2 x_7 x_8) r := by
  unfold sq109.l0_k.body at e
  intro W h0 m0 h m A_0 n_0 c_0 O ne_0
  subst ne_0
  refine f109.l1_in ?_
  unfold f109.l1T
  refine split_dec_e e (fun c23 e => ?_) (fun c23 e => ?_)
  · obtain ⟨y1, g2, e⟩ := bind_e e
    refine (O.os 0 rfl).addr rfl g2 fun a3 cs4 ha5 hc6 he7 => ?_
    obtain rfl : cs4 = [(Value.string y1)] := he7
    obtain ⟨y8, g9, e⟩ := bind_e e
    refine (O.os 0 rfl).addr rfl g9 fun a10 cs11 ha12 hc13 he14 => ?_
    obtain rfl : cs11 = [(Value.string y8)] := he14
    refine ⟨_, ld0 (Sub.refl _) hc6 rfl, _, rfl, ?_⟩
    refine ⟨_, ld0 (Sub.refl _) hc13 rfl, _, rfl, ?_⟩
    obtain ⟨y15, g16, e⟩ := bind_e e
    refine (cmp_Less_110.walk (Hold.start (W := No) O.s)  g16).mono ?_
    rintro _ h17 ⟨m18, Q19, rfl⟩
    have O21 := Hold.nm (O.retC Q19 vfs_nil)
    refine ⟨_, rfl, ?_⟩
    refine split_not ?_
    refine split_any_e e (fun c22 e => ?_) (fun c22 e => ?_)
    · exact (ih _ _ e) (O21.pick [0]).nm rfl
    · exact (ih _ _ e) (O21.pick [0]).nm rfl
  · exact (ih _ _ e) (O.pick [0]).nm rfl
theorem sq109.l0_k.step_j2 (go : (p : sq109.l0_k.Pt) → Option (Bool × (List ByteArray))) (ih : ∀ p r, go p = some r → sq109.l0_k.I p r) (a_0 x_1 x_2 x_7 x_8) (r) (e : sq109.l0_k.body go (.j2 a_0 x_1 x_2 x_7 x_8) = some r) : sq109.l0_k.I (.j2 a_0 x_1 x_2 x_7 x_8) r := by
  unfold sq109.l0_k.body at e
  intro W h0 m0 h m A_0 n_0 c_0 O ne_0
  subst ne_0
  refine f109.j2_in ?_
  unfold f109.j2T
  exact (ih _ _ e) (O.pick [0]).nm rfl
set_option maxHeartbeats 4000000 in
theorem sq109.l0_k.step_j1 (go : (p : sq109.l0_k.Pt) → Option (Bool × (List ByteArray))) (ih : ∀ p r, go p = some r → sq109.l0_k.I p r) (a_0 x_1 x_2 x_7 x_8) (r) (e : sq109.l0_k.body go (.j1 a_0 x_1 x_2 x_7 x_8) = some r) : sq109.l0_k.I (.j1 a_0 x_1 x_2 x_7 x_8) r := by
  unfold sq109.l0_k.body at e
  intro W h0 m0 h m A_0 n_0 c_0 O ne_0
  subst ne_0
  refine f109.j1_in ?_
  unfold f109.j1T
  refine split_eq_e e (fun c41 e => ?_) (fun c41 e => ?_)
  · cases e
    exact ⟨_, O.pick [0], rfl, rfl⟩
  · refine split_dec_e e (fun c40 e => ?_) (fun c40 e => ?_)
    · cases e
      exact ⟨_, O.pick [0], rfl, rfl⟩
    · obtain ⟨y1, g2, e⟩ := bind_e e
      refine (O.os 0 rfl).addr rfl g2 fun a3 cs4 ha5 hc6 he7 => ?_
      obtain rfl : cs4 = [(Value.string y1)] := he7
      obtain ⟨y8, g9, e⟩ := bind_e e
      refine (O.os 0 rfl).addr rfl g9 fun a10 cs11 ha12 hc13 he14 => ?_
      obtain rfl : cs11 = [(Value.string y8)] := he14
      refine ⟨_, ld0 (Sub.refl _) hc6 rfl, _, rfl, ?_⟩
      refine ⟨_, ld0 (Sub.refl _) hc13 rfl, _, rfl, ?_⟩
      obtain ⟨y15, g16, e⟩ := bind_e e
      refine (O.os 0 rfl).addr rfl g16 fun a17 cs18 ha19 hc20 he21 => ?_
      obtain rfl : cs18 = [(Value.string y15)] := he21
      obtain ⟨l24, g25, e⟩ := bind_e e
      replace g25 := Option.some.inj g25
      refine O.elst0 0 rfl g16 ha19 hc20 (by decide) (y' := y1) rfl trivial g25 fun h22 O23 => ?_
      obtain ⟨y26, g27, e⟩ := bind_e e
      refine (O23.os 0 rfl).addr (lset' g25) g27 fun a28 cs29 ha30 hc31 he32 => ?_
      obtain rfl : cs29 = [(Value.string y26)] := he32
      obtain ⟨l35, g36, e⟩ := bind_e e
      replace g36 := Option.some.inj g36
      refine O23.elst0 0 rfl g27 ha30 hc31 (by decide) (y' := y8) rfl trivial g36 fun h33 O34 => ?_
      refine split_dec_e e (fun c39 e => ?_) (fun c39 e => ?_)
      · have O37 := O34.nm
        exact (ih _ _ e) (O37.pick [0]).nm ((lset' g25).trans (lset' g36))
      · have O38 := O34.nm
        exact (ih _ _ e) (O38.pick [0]).nm ((lset' g25).trans (lset' g36))
set_option maxHeartbeats 4000000 in
theorem sq109.l0_k.step_l2 (go : (p : sq109.l0_k.Pt) → Option (Bool × (List ByteArray))) (ih : ∀ p r, go p = some r → sq109.l0_k.I p r) (a_0 x_1 x_2 x_7 x_8 x_9) (r) (e : sq109.l0_k.body go (.l2 a_0 x_1 x_2 x_7 x_8 x_9) = some r) : sq109.l0_k.I (.l2 a_0 x_1 x_2 x_7 x_8 x_9) r := by
  unfold sq109.l0_k.body at e
  intro W h0 m0 h m A_0 n_0 c_0 O ne_0
  subst ne_0
  refine f109.l2_in ?_
  unfold f109.l2T
  refine split_dec_e e (fun c60 e => ?_) (fun c60 e => ?_)
  · obtain ⟨y1, g2, e⟩ := bind_e e
    refine (O.os 0 rfl).addr rfl g2 fun a3 cs4 ha5 hc6 he7 => ?_
    obtain rfl : cs4 = [(Value.string y1)] := he7
    obtain ⟨y8, g9, e⟩ := bind_e e
    refine (O.os 0 rfl).addr rfl g9 fun a10 cs11 ha12 hc13 he14 => ?_
    obtain rfl : cs11 = [(Value.string y8)] := he14
    refine ⟨_, ld0 (Sub.refl _) hc6 rfl, _, rfl, ?_⟩
    refine ⟨_, ld0 (Sub.refl _) hc13 rfl, _, rfl, ?_⟩
    obtain ⟨y15, g16, e⟩ := bind_e e
    refine (cmp_Less_110.walk (Hold.start (W := No) O.s)  g16).mono ?_
    rintro _ h17 ⟨m18, Q19, rfl⟩
    have O21 := Hold.nm (O.retC Q19 vfs_nil)
    refine ⟨_, rfl, ?_⟩
    refine split_not ?_
    refine split_any_e e (fun c59 e => ?_) (fun c59 e => ?_)
    · obtain ⟨y22, g23, e⟩ := bind_e e
      refine (O21.os 0 rfl).addr rfl g23 fun a24 cs25 ha26 hc27 he28 => ?_
      obtain rfl : cs25 = [(Value.string y22)] := he28
      obtain ⟨y29, g30, e⟩ := bind_e e
      refine (O21.os 0 rfl).addr rfl g30 fun a31 cs32 ha33 hc34 he35 => ?_
      obtain rfl : cs32 = [(Value.string y29)] := he35
      refine ⟨_, ld0 (Sub.refl _) hc27 rfl, _, rfl, ?_⟩
      refine ⟨_, ld0 (Sub.refl _) hc34 rfl, _, rfl, ?_⟩
      obtain ⟨y36, g37, e⟩ := bind_e e
      refine (O21.os 0 rfl).addr rfl g37 fun a38 cs39 ha40 hc41 he42 => ?_
      obtain rfl : cs39 = [(Value.string y36)] := he42
      obtain ⟨l45, g46, e⟩ := bind_e e
      replace g46 := Option.some.inj g46
      refine O21.elst0 0 rfl g37 ha40 hc41 (by decide) (y' := y22) rfl trivial g46 fun h43 O44 => ?_
      obtain ⟨y47, g48, e⟩ := bind_e e
      refine (O44.os 0 rfl).addr (lset' g46) g48 fun a49 cs50 ha51 hc52 he53 => ?_
      obtain rfl : cs50 = [(Value.string y47)] := he53
      obtain ⟨l56, g57, e⟩ := bind_e e
      replace g57 := Option.some.inj g57
      refine O44.elst0 0 rfl g48 ha51 hc52 (by decide) (y' := y29) rfl trivial g57 fun h54 O55 => ?_
      have O58 := O55.nm
      exact (ih _ _ e) (O58.pick [0]).nm ((lset' g46).trans (lset' g57))
    · exact (ih _ _ e) (O21.pick [0]).nm rfl
  · exact (ih _ _ e) (O.pick [0]).nm rfl
theorem sq109.l0_k.step_j3 (go : (p : sq109.l0_k.Pt) → Option (Bool × (List ByteArray))) (ih : ∀ p r, go p = some r → sq109.l0_k.I p r) (a_0 x_1 x_2 x_7 x_8) (r) (e : sq109.l0_k.body go (.j3 a_0 x_1 x_2 x_7 x_8) = some r) : sq109.l0_k.I (.j3 a_0 x_1 x_2 x_7 x_8) r := by
  unfold sq109.l0_k.body at e
  intro W h0 m0 h m A_0 n_0 c_0 O ne_0
  subst ne_0
  refine f109.j3_in ?_
  unfold f109.j3T
  refine split_dec_e e (fun c1 e => ?_) (fun c1 e => ?_)
  · exact (ih _ _ e) (O.pick [0]).nm rfl
  · exact (ih _ _ e) (O.pick [0]).nm rfl
set_option maxHeartbeats 4000000 in
theorem sq109.l0_k.step_l3 (go : (p : sq109.l0_k.Pt) → Option (Bool × (List ByteArray))) (ih : ∀ p r, go p = some r → sq109.l0_k.I p r) (a_0 x_1 x_2 x_7 x_8 x_10) (r) (e : sq109.l0_k.body go (.l3 a_0 x_1 x_2 x_7 x_8 x_10) = some r) : sq109.l0_k.I (.l3 a_0 x_1 x_2 x_7 x_8 x_10) r := by
  unfold sq109.l0_k.body at e
  intro W h0 m0 h m A_0 n_0 c_0 O ne_0
  subst ne_0
  refine f109.l3_in ?_
  unfold f109.l3T
  refine split_dec_e e (fun c60 e => ?_) (fun c60 e => ?_)
  · obtain ⟨y1, g2, e⟩ := bind_e e
    refine (O.os 0 rfl).addr rfl g2 fun a3 cs4 ha5 hc6 he7 => ?_
    obtain rfl : cs4 = [(Value.string y1)] := he7
    obtain ⟨y8, g9, e⟩ := bind_e e
    refine (O.os 0 rfl).addr rfl g9 fun a10 cs11 ha12 hc13 he14 => ?_
    obtain rfl : cs11 = [(Value.string y8)] := he14
    refine ⟨_, ld0 (Sub.refl _) hc6 rfl, _, rfl, ?_⟩
    refine ⟨_, ld0 (Sub.refl _) hc13 rfl, _, rfl, ?_⟩
    obtain ⟨y15, g16, e⟩ := bind_e e
    refine (cmp_Less_110.walk (Hold.start (W := No) O.s)  g16).mono ?_
    rintro _ h17 ⟨m18, Q19, rfl⟩
    have O21 := Hold.nm (O.retC Q19 vfs_nil)
    refine ⟨_, rfl, ?_⟩
    refine split_not ?_
    refine split_any_e e (fun c59 e => ?_) (fun c59 e => ?_)
    · obtain ⟨y22, g23, e⟩ := bind_e e
      refine (O21.os 0 rfl).addr rfl g23 fun a24 cs25 ha26 hc27 he28 => ?_
      obtain rfl : cs25 = [(Value.string y22)] := he28
      obtain ⟨y29, g30, e⟩ := bind_e e
      refine (O21.os 0 rfl).addr rfl g30 fun a31 cs32 ha33 hc34 he35 => ?_
      obtain rfl : cs32 = [(Value.string y29)] := he35
      refine ⟨_, ld0 (Sub.refl _) hc27 rfl, _, rfl, ?_⟩
      refine ⟨_, ld0 (Sub.refl _) hc34 rfl, _, rfl, ?_⟩
      obtain ⟨y36, g37, e⟩ := bind_e e
      refine (O21.os 0 rfl).addr rfl g37 fun a38 cs39 ha40 hc41 he42 => ?_
      obtain rfl : cs39 = [(Value.string y36)] := he42
      obtain ⟨l45, g46, e⟩ := bind_e e
      replace g46 := Option.some.inj g46
      refine O21.elst0 0 rfl g37 ha40 hc41 (by decide) (y' := y22) rfl trivial g46 fun h43 O44 => ?_
      obtain ⟨y47, g48, e⟩ := bind_e e
      refine (O44.os 0 rfl).addr (lset' g46) g48 fun a49 cs50 ha51 hc52 he53 => ?_
      obtain rfl : cs50 = [(Value.string y47)] := he53
      obtain ⟨l56, g57, e⟩ := bind_e e
      replace g57 := Option.some.inj g57
      refine O44.elst0 0 rfl g48 ha51 hc52 (by decide) (y' := y29) rfl trivial g57 fun h54 O55 => ?_
      have O58 := O55.nm
      exact (ih _ _ e) (O58.pick [0]).nm ((lset' g46).trans (lset' g57))
    · exact (ih _ _ e) (O21.pick [0]).nm rfl
  · exact (ih _ _ e) (O.pick [0]).nm rfl
theorem sq109.l0_k.step_j0 (go : (p : sq109.l0_k.Pt) → Option (Bool × (List ByteArray))) (ih : ∀ p r, go p = some r → sq109.l0_k.I p r) (a_0 x_1 x_2 x_7 x_8) (r) (e : sq109.l0_k.body go (.j0 a_0 x_1 x_2 x_7 x_8) = some r) : sq109.l0_k.I (.j0 a_0 x_1 x_2 x_7 x_8) r := by
  unfold sq109.l0_k.body at e
  intro W h0 m0 h m A_0 n_0 c_0 O ne_0
  subst ne_0
  refine f109.j0_in ?_
  unfold f109.j0T
  exact (ih _ _ e) (O.pick [0]).nm rfl
theorem sq109.l0_k.all {p : sq109.l0_k.Pt} {r : (Bool × (List ByteArray))} (e : sq109.l0_k.go p = some r) : sq109.l0_k.I p r := fixF_ind (β := fun _ => (Bool × (List ByteArray))) sq109.l0_k.mono (I := sq109.l0_k.I) (fun go ih p r e => match p with
  | .l0 a_0 x_1 x_2 x_7 x_8 => sq109.l0_k.step_l0 go ih a_0 x_1 x_2 x_7 x_8 r e
  | .l1 a_0 x_1 x_2 x_7 x_8 => sq109.l0_k.step_l1 go ih a_0 x_1 x_2 x_7 x_8 r e
  | .j2 a_0 x_1 x_2 x_7 x_8 => sq109.l0_k.step_j2 go ih a_0 x_1 x_2 x_7 x_8 r e
  | .j1 a_0 x_1 x_2 x_7 x_8 => sq109.l0_k.step_j1 go ih a_0 x_1 x_2 x_7 x_8 r e
  | .l2 a_0 x_1 x_2 x_7 x_8 x_9 => sq109.l0_k.step_l2 go ih a_0 x_1 x_2 x_7 x_8 x_9 r e
  | .j3 a_0 x_1 x_2 x_7 x_8 => sq109.l0_k.step_j3 go ih a_0 x_1 x_2 x_7 x_8 r e
  | .l3 a_0 x_1 x_2 x_7 x_8 x_10 => sq109.l0_k.step_l3 go ih a_0 x_1 x_2 x_7 x_8 x_10 r e
  | .j0 a_0 x_1 x_2 x_7 x_8 => sq109.l0_k.step_j0 go ih a_0 x_1 x_2 x_7 x_8 r e
  ) e
noncomputable def sq109 (a_0 : List ByteArray) (x_1 : Int) (x_2 : Int) : Option (Bool × (List ByteArray)) :=
  (sq109.l0 a_0 x_1 x_2 (IntKind.wrap .i64 (x_1 + (1 : Int))) (0 : Int))
theorem sq109.walk {W h m A_0 n_0 c_0 a_0 x_1 x_2} (O : Hold W h m h m [rR (aE tell_str) A_0 c_0 a_0]) (ne_0 : n_0 = List.length a_0) {r} (e : sq109 a_0 x_1 x_2 = some r) : Run Tryd.prog 109 #[Value.slice A_0 n_0 c_0, Value.int .i64 x_1, Value.int .i64 x_2] h (sq109.post W A_0 n_0 c_0 h m r) := by
  unfold sq109 at e
  subst ne_0
  refine f109.run ?_
  unfold f109.runT
  exact (sq109.l0_k.all e) (O.pick [0]).nm rfl
def sq111.post (W : Nat → Prop) (Asl0 : Option Addr) (nsl0 csl0 : Nat) (h0 m0 : Heap) (r : Int × (List ByteArray)) (v : Value) (h : Heap) : Prop := ∃ m , Hold W h0 m0 h m [rR (aE tell_str) Asl0 csl0 r.2] ∧ v = .int .i64 r.1 ∧ nsl0 = List.length r.2
inductive sq111.l0_k.Pt where
  | l0 (a_0 : List ByteArray) (x_1 : Int) (x_9 : Int) (x_10 : Int)
  | l1 (a_0 : List ByteArray) (x_1 : Int) (x_9 : Int) (x_10 : Int)
  | j2 (a_0 : List ByteArray) (x_1 : Int) (x_9 : Int) (x_10 : Int)
  | j0 (a_0 : List ByteArray) (x_1 : Int) (x_9 : Int) (x_10 : Int)
  | l2 (a_0 : List ByteArray) (x_1 : Int) (x_9 : Int) (x_10 : Int)
  | j3 (a_0 : List ByteArray) (x_1 : Int) (x_9 : Int) (x_10 : Int)
  | j1 (a_0 : List ByteArray) (x_1 : Int) (x_9 : Int) (x_10 : Int)
noncomputable def sq111.l0_k.body (go : (p : sq111.l0_k.Pt) → Option (Int × (List ByteArray))) : (p : sq111.l0_k.Pt) → Option (Int × (List ByteArray))
  | .l0 a_0 x_1 x_9 x_10 => (go (.l1 a_0 x_1 x_9 x_10))
  | .l1 a_0 x_1 x_9 x_10 => if x_9 ≤ x_10 then (Option.bind (gi a_0 x_1) fun y1 => Option.bind (gi a_0 x_9) fun y8 => Option.bind (cmp_Less_110 y1 y8) fun y15 => if y15 = true then ((go (.j0 a_0 x_1 x_9 x_10))) else ((go (.j2 a_0 x_1 x_9 x_10)))) else ((go (.j0 a_0 x_1 x_9 x_10)))
  | .j2 a_0 x_1 x_9 x_10 => (go (.l1 a_0 x_1 (IntKind.wrap .i64 (x_9 + (1 : Int))) x_10))
  | .j0 a_0 x_1 x_9 x_10 => (go (.l2 a_0 x_1 x_9 x_10))
  | .l2 a_0 x_1 x_9 x_10 => if x_9 ≤ x_10 then (Option.bind (gi a_0 x_1) fun y1 => Option.bind (gi a_0 x_10) fun y8 => Option.bind (cmp_Less_110 y1 y8) fun y15 => if y15 = true then ((go (.j3 a_0 x_1 x_9 x_10))) else ((go (.j1 a_0 x_1 x_9 x_10)))) else ((go (.j1 a_0 x_1 x_9 x_10)))
  | .j3 a_0 x_1 x_9 x_10 => (go (.l2 a_0 x_1 x_9 (IntKind.wrap .i64 (x_10 - (1 : Int)))))
  | .j1 a_0 x_1 x_9 x_10 => if x_9 > x_10 then (some (x_9, a_0)) else (Option.bind (gi a_0 x_10) fun y1 => Option.bind (gi a_0 x_9) fun y8 => Option.bind (gi a_0 x_9) fun y15 => Option.bind (some (List.set a_0 (Int.toNat x_9) y1)) fun l24 => Option.bind (gi l24 x_10) fun y26 => Option.bind (some (List.set l24 (Int.toNat x_10) y8)) fun l35 => (go (.l0 l35 x_1 (IntKind.wrap .i64 (x_9 + (1 : Int))) (IntKind.wrap .i64 (x_10 - (1 : Int))))))
attribute [local irreducible] cmp_Less_110 in
theorem sq111.l0_k.mono : MonoF (β := fun _ => (Int × (List ByteArray))) sq111.l0_k.body := fun f g hfg p => match p with
  | .l0 a_0 x_1 x_9 x_10 => (hfg _)
  | .l1 a_0 x_1 x_9 x_10 => LeO.ite (LeO.bind (LeO.refl _) fun y1 => LeO.bind (LeO.refl _) fun y8 => LeO.bind (LeO.refl _) fun y15 => LeO.ite ((hfg _)) ((hfg _))) ((hfg _))
  | .j2 a_0 x_1 x_9 x_10 => (hfg _)
  | .j0 a_0 x_1 x_9 x_10 => (hfg _)
  | .l2 a_0 x_1 x_9 x_10 => LeO.ite (LeO.bind (LeO.refl _) fun y1 => LeO.bind (LeO.refl _) fun y8 => LeO.bind (LeO.refl _) fun y15 => LeO.ite ((hfg _)) ((hfg _))) ((hfg _))
  | .j3 a_0 x_1 x_9 x_10 => (hfg _)
  | .j1 a_0 x_1 x_9 x_10 => LeO.ite (LeO.refl _) (LeO.bind (LeO.refl _) fun y1 => LeO.bind (LeO.refl _) fun y8 => LeO.bind (LeO.refl _) fun y15 => LeO.bind (LeO.refl _) fun l24 => LeO.bind (LeO.refl _) fun y26 => LeO.bind (LeO.refl _) fun l35 => (hfg _))
noncomputable def sq111.l0_k.go (p : sq111.l0_k.Pt) : Option (Int × (List ByteArray)) := fixF (β := fun _ => (Int × (List ByteArray))) sq111.l0_k.body p
noncomputable def sq111.l0 (a_0 x_1 x_9 x_10) := sq111.l0_k.go (.l0 a_0 x_1 x_9 x_10)
noncomputable def sq111.l1 (a_0 x_1 x_9 x_10) := sq111.l0_k.go (.l1 a_0 x_1 x_9 x_10)
noncomputable def sq111.j2 (a_0 x_1 x_9 x_10) := sq111.l0_k.go (.j2 a_0 x_1 x_9 x_10)
noncomputable def sq111.j0 (a_0 x_1 x_9 x_10) := sq111.l0_k.go (.j0 a_0 x_1 x_9 x_10)
noncomputable def sq111.l2 (a_0 x_1 x_9 x_10) := sq111.l0_k.go (.l2 a_0 x_1 x_9 x_10)
noncomputable def sq111.j3 (a_0 x_1 x_9 x_10) := sq111.l0_k.go (.j3 a_0 x_1 x_9 x_10)
noncomputable def sq111.j1 (a_0 x_1 x_9 x_10) := sq111.l0_k.go (.j1 a_0 x_1 x_9 x_10)
theorem sq111.l0_eq (a_0 x_1 x_9 x_10) : sq111.l0 a_0 x_1 x_9 x_10 = (sq111.l1 a_0 x_1 x_9 x_10) := fixF_eq sq111.l0_k.mono _
theorem sq111.l1_eq (a_0 x_1 x_9 x_10) : sq111.l1 a_0 x_1 x_9 x_10 = if x_9 ≤ x_10 then (Option.bind (gi a_0 x_1) fun y1 => Option.bind (gi a_0 x_9) fun y8 => Option.bind (cmp_Less_110 y1 y8) fun y15 => if y15 = true then ((sq111.j0 a_0 x_1 x_9 x_10)) else ((sq111.j2 a_0 x_1 x_9 x_10))) else ((sq111.j0 a_0 x_1 x_9 x_10)) := fixF_eq sq111.l0_k.mono _
theorem sq111.j2_eq (a_0 x_1 x_9 x_10) : sq111.j2 a_0 x_1 x_9 x_10 = (sq111.l1 a_0 x_1 (IntKind.wrap .i64 (x_9 + (1 : Int))) x_10) := fixF_eq sq111.l0_k.mono _
theorem sq111.j0_eq (a_0 x_1 x_9 x_10) : sq111.j0 a_0 x_1 x_9 x_10 = (sq111.l2 a_0 x_1 x_9 x_10) := fixF_eq sq111.l0_k.mono _
theorem sq111.l2_eq (a_0 x_1 x_9 x_10) : sq111.l2 a_0 x_1 x_9 x_10 = if x_9 ≤ x_10 then (Option.bind (gi a_0 x_1) fun y1 => Option.bind (gi a_0 x_10) fun y8 => Option.bind (cmp_Less_110 y1 y8) fun y15 => if y15 = true then ((sq111.j3 a_0 x_1 x_9 x_10)) else ((sq111.j1 a_0 x_1 x_9 x_10))) else ((sq111.j1 a_0 x_1 x_9 x_10)) := fixF_eq sq111.l0_k.mono _
theorem sq111.j3_eq (a_0 x_1 x_9 x_10) : sq111.j3 a_0 x_1 x_9 x_10 = (sq111.l2 a_0 x_1 x_9 (IntKind.wrap .i64 (x_10 - (1 : Int)))) := fixF_eq sq111.l0_k.mono _
theorem sq111.j1_eq (a_0 x_1 x_9 x_10) : sq111.j1 a_0 x_1 x_9 x_10 = if x_9 > x_10 then (some (x_9, a_0)) else (Option.bind (gi a_0 x_10) fun y1 => Option.bind (gi a_0 x_9) fun y8 => Option.bind (gi a_0 x_9) fun y15 => Option.bind (some (List.set a_0 (Int.toNat x_9) y1)) fun l24 => Option.bind (gi l24 x_10) fun y26 => Option.bind (some (List.set l24 (Int.toNat x_10) y8)) fun l35 => (sq111.l0 l35 x_1 (IntKind.wrap .i64 (x_9 + (1 : Int))) (IntKind.wrap .i64 (x_10 - (1 : Int))))) := fixF_eq sq111.l0_k.mono _
def sq111.l0_k.I : (p : sq111.l0_k.Pt) → (Int × (List ByteArray)) → Prop
  | .l0 a_0 x_1 x_9 x_10, r => ∀ {W h0 m0 h m A_0 n_0 c_0} (O : Hold W h0 m0 h m [rR (aE tell_str) A_0 c_0 a_0]) (ne_0 : n_0 = List.length a_0), f111.l0 (sq111.post W A_0 n_0 c_0 h0 m0 r) A_0 n_0 c_0 x_1 x_9 x_10 h
  | .l1 a_0 x_1 x_9 x_10, r => ∀ {W h0 m0 h m A_0 n_0 c_0} (O : Hold W h0 m0 h m [rR (aE tell_str) A_0 c_0 a_0]) (ne_0 : n_0 = List.length a_0), f111.l1 (sq111.post W A_0 n_0 c_0 h0 m0 r) A_0 n_0 c_0 x_1 x_9 x_10 h
  | .j2 a_0 x_1 x_9 x_10, r => ∀ {W h0 m0 h m A_0 n_0 c_0} (O : Hold W h0 m0 h m [rR (aE tell_str) A_0 c_0 a_0]) (ne_0 : n_0 = List.length a_0), f111.j2 (sq111.post W A_0 n_0 c_0 h0 m0 r) A_0 n_0 c_0 x_1 x_9 x_10 h
  | .j0 a_0 x_1 x_9 x_10, r => ∀ {W h0 m0 h m A_0 n_0 c_0} (O : Hold W h0 m0 h m [rR (aE tell_str) A_0 c_0 a_0]) (ne_0 : n_0 = List.length a_0), f111.j0 (sq111.post W A_0 n_0 c_0 h0 m0 r) A_0 n_0 c_0 x_1 x_9 x_10 h
  | .l2 a_0 x_1 x_9 x_10, r => ∀ {W h0 m0 h m A_0 n_0 c_0} (O : Hold W h0 m0 h m [rR (aE tell_str) A_0 c_0 a_0]) (ne_0 : n_0 = List.length a_0), f111.l2 (sq111.post W A_0 n_0 c_0 h0 m0 r) A_0 n_0 c_0 x_1 x_9 x_10 h
  | .j3 a_0 x_1 x_9 x_10, r => ∀ {W h0 m0 h m A_0 n_0 c_0} (O : Hold W h0 m0 h m [rR (aE tell_str) A_0 c_0 a_0]) (ne_0 : n_0 = List.length a_0), f111.j3 (sq111.post W A_0 n_0 c_0 h0 m0 r) A_0 n_0 c_0 x_1 x_9 x_10 h
  | .j1 a_0 x_1 x_9 x_10, r => ∀ {W h0 m0 h m A_0 n_0 c_0} (O : Hold W h0 m0 h m [rR (aE tell_str) A_0 c_0 a_0]) (ne_0 : n_0 = List.length a_0), f111.j1 (sq111.post W A_0 n_0 c_0 h0 m0 r) A_0 n_0 c_0 x_1 x_9 x_10 h
theorem sq111.l0_k.step_l0 (go : (p : sq111.l0_k.Pt) → Option (Int × (List ByteArray))) (ih : ∀ p r, go p = some r → sq111.l0_k.I p r) (a_0 x_1 x_9 x_10) (r) (e : sq111.l0_k.body go (.l0 a_0 x_1 x_9 x_10) = some r) : sq111.l0_k.I (.l0 a_0 x_1 x_9 x_10) r := by
  unfold sq111.l0_k.body at e
  intro W h0 m0 h m A_0 n_0 c_0 O ne_0
  subst ne_0
  refine f111.l0_in ?_
  unfold f111.l0T
  exact (ih _ _ e) (O.pick [0]).nm rfl
theorem sq111.l0_k.step_l1 (go : (p : sq111.l0_k.Pt) → Option (Int × (List ByteArray))) (ih : ∀ p r, go p = some r → sq111.l0_k.I p r) (a_0 x_1 x_9 x_10) (r) (e : sq111.l0_k.body go (.l1 a_0 x_1 x_9 x_10) = some r) : sq111.l0_k.I (.l1 a_0 x_1 x_9 x_10) r := by
  unfold sq111.l0_k.body at e
  intro W h0 m0 h m A_0 n_0 c_0 O ne_0
  subst ne_0
  refine f111.l1_in ?_
  unfold f111.l1T
  refine split_dec_e e (fun c23 e => ?_) (fun c23 e => ?_)
  · obtain ⟨y1, g2, e⟩ := bind_e e
    refine (O.os 0 rfl).addr rfl g2 fun a3 cs4 ha5 hc6 he7 => ?_
    obtain rfl : cs4 = [(Value.string y1)] := he7
    obtain ⟨y8, g9, e⟩ := bind_e e
    refine (O.os 0 rfl).addr rfl g9 fun a10 cs11 ha12 hc13 he14 => ?_
    obtain rfl : cs11 = [(Value.string y8)] := he14
    refine ⟨_, ld0 (Sub.refl _) hc6 rfl, _, rfl, ?_⟩
    refine ⟨_, ld0 (Sub.refl _) hc13 rfl, _, rfl, ?_⟩
    obtain ⟨y15, g16, e⟩ := bind_e e
    refine (cmp_Less_110.walk (Hold.start (W := No) O.s)  g16).mono ?_
    rintro _ h17 ⟨m18, Q19, rfl⟩
    have O21 := Hold.nm (O.retC Q19 vfs_nil)
    refine ⟨_, rfl, ?_⟩
    refine split_not ?_
    refine split_any_e e (fun c22 e => ?_) (fun c22 e => ?_)
    · exact (ih _ _ e) (O21.pick [0]).nm rfl
    · exact (ih _ _ e) (O21.pick [0]).nm rfl
  · exact (ih _ _ e) (O.pick [0]).nm rfl
theorem sq111.l0_k.step_j2 (go : (p : sq111.l0_k.Pt) → Option (Int × (List ByteArray))) (ih : ∀ p r, go p = some r → sq111.l0_k.I p r) (a_0 x_1 x_9 x_10) (r) (e : sq111.l0_k.body go (.j2 a_0 x_1 x_9 x_10) = some r) : sq111.l0_k.I (.j2 a_0 x_1 x_9 x_10) r := by
  unfold sq111.l0_k.body at e
  intro W h0 m0 h m A_0 n_0 c_0 O ne_0
  subst ne_0
  refine f111.j2_in ?_
  unfold f111.j2T
  exact (ih _ _ e) (O.pick [0]).nm rfl
theorem sq111.l0_k.step_j0 (go : (p : sq111.l0_k.Pt) → Option (Int × (List ByteArray))) (ih : ∀ p r, go p = some r → sq111.l0_k.I p r) (a_0 x_1 x_9 x_10) (r) (e : sq111.l0_k.body go (.j0 a_0 x_1 x_9 x_10) = some r) : sq111.l0_k.I (.j0 a_0 x_1 x_9 x_10) r := by
  unfold sq111.l0_k.body at e
  intro W h0 m0 h m A_0 n_0 c_0 O ne_0
  subst ne_0
  refine f111.j0_in ?_
  unfold f111.j0T
  exact (ih _ _ e) (O.pick [0]).nm rfl
theorem sq111.l0_k.step_l2 (go : (p : sq111.l0_k.Pt) → Option (Int × (List ByteArray))) (ih : ∀ p r, go p = some r → sq111.l0_k.I p r) (a_0 x_1 x_9 x_10) (r) (e : sq111.l0_k.body go (.l2 a_0 x_1 x_9 x_10) = some r) : sq111.l0_k.I (.l2 a_0 x_1 x_9 x_10) r := by
  unfold sq111.l0_k.body at e
  intro W h0 m0 h m A_0 n_0 c_0 O ne_0
  subst ne_0
  refine f111.l2_in ?_
  unfold f111.l2T
  refine split_dec_e e (fun c23 e => ?_) (fun c23 e => ?_)
  · obtain ⟨y1, g2, e⟩ := bind_e e
    refine (O.os 0 rfl).addr rfl g2 fun a3 cs4 ha5 hc6 he7 => ?_
    obtain rfl : cs4 = [(Value.string y1)] := he7
    obtain ⟨y8, g9, e⟩ := bind_e e
    refine (O.os 0 rfl).addr rfl g9 fun a10 cs11 ha12 hc13 he14 => ?_
    obtain rfl : cs11 = [(Value.string y8)] := he14
    refine ⟨_, ld0 (Sub.refl _) hc6 rfl, _, rfl, ?_⟩
    refine ⟨_, ld0 (Sub.refl _) hc13 rfl, _, rfl, ?_⟩
    obtain ⟨y15, g16, e⟩ := bind_e e
    refine (cmp_Less_110.walk (Hold.start (W := No) O.s)  g16).mono ?_
    rintro _ h17 ⟨m18, Q19, rfl⟩
    have O21 := Hold.nm (O.retC Q19 vfs_nil)
    refine ⟨_, rfl, ?_⟩
    refine split_any_e e (fun c22 e => ?_) (fun c22 e => ?_)
    · exact (ih _ _ e) (O21.pick [0]).nm rfl
    · exact (ih _ _ e) (O21.pick [0]).nm rfl
  · exact (ih _ _ e) (O.pick [0]).nm rfl
theorem sq111.l0_k.step_j3 (go : (p : sq111.l0_k.Pt) → Option (Int × (List ByteArray))) (ih : ∀ p r, go p = some r → sq111.l0_k.I p r) (a_0 x_1 x_9 x_10) (r) (e : sq111.l0_k.body go (.j3 a_0 x_1 x_9 x_10) = some r) : sq111.l0_k.I (.j3 a_0 x_1 x_9 x_10) r := by
  unfold sq111.l0_k.body at e
  intro W h0 m0 h m A_0 n_0 c_0 O ne_0
  subst ne_0
  refine f111.j3_in ?_
  unfold f111.j3T
  exact (ih _ _ e) (O.pick [0]).nm rfl
theorem sq111.l0_k.step_j1 (go : (p : sq111.l0_k.Pt) → Option (Int × (List ByteArray))) (ih : ∀ p r, go p = some r → sq111.l0_k.I p r) (a_0 x_1 x_9 x_10) (r) (e : sq111.l0_k.body go (.j1 a_0 x_1 x_9 x_10) = some r) : sq111.l0_k.I (.j1 a_0 x_1 x_9 x_10) r := by
  unfold sq111.l0_k.body at e
  intro W h0 m0 h m A_0 n_0 c_0 O ne_0
  subst ne_0
  refine f111.j1_in ?_
  unfold f111.j1T
  refine split_dec_e e (fun c38 e => ?_) (fun c38 e => ?_)
  · cases e
    exact ⟨_, O.pick [0], rfl, rfl⟩
  · obtain ⟨y1, g2, e⟩ := bind_e e
    refine (O.os 0 rfl).addr rfl g2 fun a3 cs4 ha5 hc6 he7 => ?_
    obtain rfl : cs4 = [(Value.string y1)] := he7
    obtain ⟨y8, g9, e⟩ := bind_e e
    refine (O.os 0 rfl).addr rfl g9 fun a10 cs11 ha12 hc13 he14 => ?_
    obtain rfl : cs11 = [(Value.string y8)] := he14
    refine ⟨_, ld0 (Sub.refl _) hc6 rfl, _, rfl, ?_⟩
    refine ⟨_, ld0 (Sub.refl _) hc13 rfl, _, rfl, ?_⟩
    obtain ⟨y15, g16, e⟩ := bind_e e
    refine (O.os 0 rfl).addr rfl g16 fun a17 cs18 ha19 hc20 he21 => ?_
    obtain rfl : cs18 = [(Value.string y15)] := he21
    obtain ⟨l24, g25, e⟩ := bind_e e
    replace g25 := Option.some.inj g25
    refine O.elst0 0 rfl g16 ha19 hc20 (by decide) (y' := y1) rfl trivial g25 fun h22 O23 => ?_
    obtain ⟨y26, g27, e⟩ := bind_e e
    refine (O23.os 0 rfl).addr (lset' g25) g27 fun a28 cs29 ha30 hc31 he32 => ?_
    obtain rfl : cs29 = [(Value.string y26)] := he32
    obtain ⟨l35, g36, e⟩ := bind_e e
    replace g36 := Option.some.inj g36
    refine O23.elst0 0 rfl g27 ha30 hc31 (by decide) (y' := y8) rfl trivial g36 fun h33 O34 => ?_
    have O37 := O34.nm
    exact (ih _ _ e) (O37.pick [0]).nm ((lset' g25).trans (lset' g36))
theorem sq111.l0_k.all {p : sq111.l0_k.Pt} {r : (Int × (List ByteArray))} (e : sq111.l0_k.go p = some r) : sq111.l0_k.I p r := fixF_ind (β := fun _ => (Int × (List ByteArray))) sq111.l0_k.mono (I := sq111.l0_k.I) (fun go ih p r e => match p with
  | .l0 a_0 x_1 x_9 x_10 => sq111.l0_k.step_l0 go ih a_0 x_1 x_9 x_10 r e
  | .l1 a_0 x_1 x_9 x_10 => sq111.l0_k.step_l1 go ih a_0 x_1 x_9 x_10 r e
  | .j2 a_0 x_1 x_9 x_10 => sq111.l0_k.step_j2 go ih a_0 x_1 x_9 x_10 r e
  | .j0 a_0 x_1 x_9 x_10 => sq111.l0_k.step_j0 go ih a_0 x_1 x_9 x_10 r e
  | .l2 a_0 x_1 x_9 x_10 => sq111.l0_k.step_l2 go ih a_0 x_1 x_9 x_10 r e
  | .j3 a_0 x_1 x_9 x_10 => sq111.l0_k.step_j3 go ih a_0 x_1 x_9 x_10 r e
  | .j1 a_0 x_1 x_9 x_10 => sq111.l0_k.step_j1 go ih a_0 x_1 x_9 x_10 r e
  ) e
noncomputable def sq111 (a_0 : List ByteArray) (x_1 : Int) (x_2 : Int) (x_3 : Int) : Option (Int × (List ByteArray)) :=
  Option.bind (gi a_0 x_3) fun y1 => Option.bind (gi a_0 x_1) fun y8 => Option.bind (gi a_0 x_1) fun y15 => Option.bind (some (List.set a_0 (Int.toNat x_1) y1)) fun l24 => Option.bind (gi l24 x_3) fun y26 => Option.bind (some (List.set l24 (Int.toNat x_3) y8)) fun l35 => (sq111.l0 l35 x_1 (IntKind.wrap .i64 (x_1 + (1 : Int))) (IntKind.wrap .i64 (x_2 - (1 : Int))))
theorem sq111.walk {W h m A_0 n_0 c_0 a_0 x_1 x_2 x_3} (O : Hold W h m h m [rR (aE tell_str) A_0 c_0 a_0]) (ne_0 : n_0 = List.length a_0) {r} (e : sq111 a_0 x_1 x_2 x_3 = some r) : Run Tryd.prog 111 #[Value.slice A_0 n_0 c_0, Value.int .i64 x_1, Value.int .i64 x_2, Value.int .i64 x_3] h (sq111.post W A_0 n_0 c_0 h m r) := by
  unfold sq111 at e
  subst ne_0
  refine f111.run ?_
  unfold f111.runT
  obtain ⟨y1, g2, e⟩ := bind_e e
  refine (O.os 0 rfl).addr rfl g2 fun a3 cs4 ha5 hc6 he7 => ?_
  obtain rfl : cs4 = [(Value.string y1)] := he7
  obtain ⟨y8, g9, e⟩ := bind_e e
  refine (O.os 0 rfl).addr rfl g9 fun a10 cs11 ha12 hc13 he14 => ?_
  obtain rfl : cs11 = [(Value.string y8)] := he14
  refine ⟨_, ld0 (Sub.refl _) hc6 rfl, _, rfl, ?_⟩
  refine ⟨_, ld0 (Sub.refl _) hc13 rfl, _, rfl, ?_⟩
  obtain ⟨y15, g16, e⟩ := bind_e e
  refine (O.os 0 rfl).addr rfl g16 fun a17 cs18 ha19 hc20 he21 => ?_
  obtain rfl : cs18 = [(Value.string y15)] := he21
  obtain ⟨l24, g25, e⟩ := bind_e e
  replace g25 := Option.some.inj g25
  refine O.elst0 0 rfl g16 ha19 hc20 (by decide) (y' := y1) rfl trivial g25 fun h22 O23 => ?_
  obtain ⟨y26, g27, e⟩ := bind_e e
  refine (O23.os 0 rfl).addr (lset' g25) g27 fun a28 cs29 ha30 hc31 he32 => ?_
  obtain rfl : cs29 = [(Value.string y26)] := he32
  obtain ⟨l35, g36, e⟩ := bind_e e
  replace g36 := Option.some.inj g36
  refine O23.elst0 0 rfl g27 ha30 hc31 (by decide) (y' := y8) rfl trivial g36 fun h33 O34 => ?_
  have O37 := O34.nm
  exact (sq111.l0_k.all e) (O37.pick [0]).nm ((lset' g25).trans (lset' g36))
def sq112.post (W : Nat → Prop) (Asl0 : Option Addr) (nsl0 csl0 : Nat) (h0 m0 : Heap) (r : Int × Bool × (List ByteArray)) (v : Value) (h : Heap) : Prop := ∃ m , Hold W h0 m0 h m [rR (aE tell_str) Asl0 csl0 r.2.2] ∧ v = .tuple #[.int .i64 r.1, .bool r.2.1] ∧ nsl0 = List.length r.2.2
noncomputable def sq112.j4 (a_0 : List ByteArray) (x_1 : Int) (x_11 : Int) : Option (Int × Bool × (List ByteArray)) :=
  Option.bind (gi a_0 x_1) fun y1 => Option.bind (gi a_0 x_11) fun y8 => Option.bind (gi a_0 x_11) fun y15 => Option.bind (some (List.set a_0 (Int.toNat x_11) y1)) fun l24 => Option.bind (gi l24 x_1) fun y26 => Option.bind (some (List.set l24 (Int.toNat x_1) y8)) fun l35 => some (x_11, false, l35)
theorem sq112.j4.walk {W h0 m0 h m A_0 n_0 c_0 a_0 x_1 x_11} (O : Hold W h0 m0 h m [rR (aE tell_str) A_0 c_0 a_0]) (ne_0 : n_0 = List.length a_0) {r} (e : sq112.j4 a_0 x_1 x_11 = some r) : f112.j4 (sq112.post W A_0 n_0 c_0 h0 m0 r) A_0 n_0 c_0 x_1 x_11 h := by
  unfold sq112.j4 at e
  subst ne_0
  refine f112.j4_in ?_
  unfold f112.j4T
  obtain ⟨y1, g2, e⟩ := bind_e e
  refine (O.os 0 rfl).addr rfl g2 fun a3 cs4 ha5 hc6 he7 => ?_
  obtain rfl : cs4 = [(Value.string y1)] := he7
  obtain ⟨y8, g9, e⟩ := bind_e e
  refine (O.os 0 rfl).addr rfl g9 fun a10 cs11 ha12 hc13 he14 => ?_
  obtain rfl : cs11 = [(Value.string y8)] := he14
  refine ⟨_, ld0 (Sub.refl _) hc6 rfl, _, rfl, ?_⟩
  refine ⟨_, ld0 (Sub.refl _) hc13 rfl, _, rfl, ?_⟩
  obtain ⟨y15, g16, e⟩ := bind_e e
  refine (O.os 0 rfl).addr rfl g16 fun a17 cs18 ha19 hc20 he21 => ?_
  obtain rfl : cs18 = [(Value.string y15)] := he21
  obtain ⟨l24, g25, e⟩ := bind_e e
  replace g25 := Option.some.inj g25
  refine O.elst0 0 rfl g16 ha19 hc20 (by decide) (y' := y1) rfl trivial g25 fun h22 O23 => ?_
  obtain ⟨y26, g27, e⟩ := bind_e e
  refine (O23.os 0 rfl).addr (lset' g25) g27 fun a28 cs29 ha30 hc31 he32 => ?_
  obtain rfl : cs29 = [(Value.string y26)] := he32
  obtain ⟨l35, g36, e⟩ := bind_e e
  replace g36 := Option.some.inj g36
  refine O23.elst0 0 rfl g27 ha30 hc31 (by decide) (y' := y8) rfl trivial g36 fun h33 O34 => ?_
  have O37 := O34.nm
  cases e
  exact ⟨_, O37.pick [0], rfl, ((lset' g25).trans (lset' g36))⟩
inductive sq112.l2_k.Pt where
  | l2 (a_0 : List ByteArray) (x_1 : Int) (x_10 : Int) (x_11 : Int)
  | l3 (a_0 : List ByteArray) (x_1 : Int) (x_10 : Int) (x_11 : Int)
  | j7 (a_0 : List ByteArray) (x_1 : Int) (x_10 : Int) (x_11 : Int)
  | j5 (a_0 : List ByteArray) (x_1 : Int) (x_10 : Int) (x_11 : Int)
  | l4 (a_0 : List ByteArray) (x_1 : Int) (x_10 : Int) (x_11 : Int)
  | j8 (a_0 : List ByteArray) (x_1 : Int) (x_10 : Int) (x_11 : Int)
  | j6 (a_0 : List ByteArray) (x_1 : Int) (x_10 : Int) (x_11 : Int)
noncomputable def sq112.l2_k.body (go : (p : sq112.l2_k.Pt) → Option (Int × Bool × (List ByteArray))) : (p : sq112.l2_k.Pt) → Option (Int × Bool × (List ByteArray))
  | .l2 a_0 x_1 x_10 x_11 => (go (.l3 a_0 x_1 x_10 x_11))
  | .l3 a_0 x_1 x_10 x_11 => if x_10 ≤ x_11 then (Option.bind (gi a_0 x_10) fun y1 => Option.bind (gi a_0 x_1) fun y8 => Option.bind (cmp_Less_110 y1 y8) fun y15 => if y15 = true then ((go (.j7 a_0 x_1 x_10 x_11))) else ((go (.j5 a_0 x_1 x_10 x_11)))) else ((go (.j5 a_0 x_1 x_10 x_11)))
  | .j7 a_0 x_1 x_10 x_11 => (go (.l3 a_0 x_1 (IntKind.wrap .i64 (x_10 + (1 : Int))) x_11))
  | .j5 a_0 x_1 x_10 x_11 => (go (.l4 a_0 x_1 x_10 x_11))
  | .l4 a_0 x_1 x_10 x_11 => if x_10 ≤ x_11 then (Option.bind (gi a_0 x_11) fun y1 => Option.bind (gi a_0 x_1) fun y8 => Option.bind (cmp_Less_110 y1 y8) fun y15 => if y15 = true then ((go (.j6 a_0 x_1 x_10 x_11))) else ((go (.j8 a_0 x_1 x_10 x_11)))) else ((go (.j6 a_0 x_1 x_10 x_11)))
  | .j8 a_0 x_1 x_10 x_11 => (go (.l4 a_0 x_1 x_10 (IntKind.wrap .i64 (x_11 - (1 : Int)))))
  | .j6 a_0 x_1 x_10 x_11 => if x_10 > x_11 then ((sq112.j4 a_0 x_1 x_11)) else (Option.bind (gi a_0 x_11) fun y1 => Option.bind (gi a_0 x_10) fun y8 => Option.bind (gi a_0 x_10) fun y15 => Option.bind (some (List.set a_0 (Int.toNat x_10) y1)) fun l24 => Option.bind (gi l24 x_11) fun y26 => Option.bind (some (List.set l24 (Int.toNat x_11) y8)) fun l35 => (go (.l2 l35 x_1 (IntKind.wrap .i64 (x_10 + (1 : Int))) (IntKind.wrap .i64 (x_11 - (1 : Int))))))
attribute [local irreducible] cmp_Less_110 in
theorem sq112.l2_k.mono : MonoF (β := fun _ => (Int × Bool × (List ByteArray))) sq112.l2_k.body := fun f g hfg p => match p with
  | .l2 a_0 x_1 x_10 x_11 => (hfg _)
  | .l3 a_0 x_1 x_10 x_11 => LeO.ite (LeO.bind (LeO.refl _) fun y1 => LeO.bind (LeO.refl _) fun y8 => LeO.bind (LeO.refl _) fun y15 => LeO.ite ((hfg _)) ((hfg _))) ((hfg _))
  | .j7 a_0 x_1 x_10 x_11 => (hfg _)
  | .j5 a_0 x_1 x_10 x_11 => (hfg _)
  | .l4 a_0 x_1 x_10 x_11 => LeO.ite (LeO.bind (LeO.refl _) fun y1 => LeO.bind (LeO.refl _) fun y8 => LeO.bind (LeO.refl _) fun y15 => LeO.ite ((hfg _)) ((hfg _))) ((hfg _))
  | .j8 a_0 x_1 x_10 x_11 => (hfg _)
  | .j6 a_0 x_1 x_10 x_11 => LeO.ite ((LeO.refl _)) (LeO.bind (LeO.refl _) fun y1 => LeO.bind (LeO.refl _) fun y8 => LeO.bind (LeO.refl _) fun y15 => LeO.bind (LeO.refl _) fun l24 => LeO.bind (LeO.refl _) fun y26 => LeO.bind (LeO.refl _) fun l35 => (hfg _))
noncomputable def sq112.l2_k.go (p : sq112.l2_k.Pt) : Option (Int × Bool × (List ByteArray)) := fixF (β := fun _ => (Int × Bool × (List ByteArray))) sq112.l2_k.body p
noncomputable def sq112.l2 (a_0 x_1 x_10 x_11) := sq112.l2_k.go (.l2 a_0 x_1 x_10 x_11)
noncomputable def sq112.l3 (a_0 x_1 x_10 x_11) := sq112.l2_k.go (.l3 a_0 x_1 x_10 x_11)
noncomputable def sq112.j7 (a_0 x_1 x_10 x_11) := sq112.l2_k.go (.j7 a_0 x_1 x_10 x_11)
noncomputable def sq112.j5 (a_0 x_1 x_10 x_11) := sq112.l2_k.go (.j5 a_0 x_1 x_10 x_11)
noncomputable def sq112.l4 (a_0 x_1 x_10 x_11) := sq112.l2_k.go (.l4 a_0 x_1 x_10 x_11)
noncomputable def sq112.j8 (a_0 x_1 x_10 x_11) := sq112.l2_k.go (.j8 a_0 x_1 x_10 x_11)
noncomputable def sq112.j6 (a_0 x_1 x_10 x_11) := sq112.l2_k.go (.j6 a_0 x_1 x_10 x_11)
theorem sq112.l2_eq (a_0 x_1 x_10 x_11) : sq112.l2 a_0 x_1 x_10 x_11 = (sq112.l3 a_0 x_1 x_10 x_11) := fixF_eq sq112.l2_k.mono _
theorem sq112.l3_eq (a_0 x_1 x_10 x_11) : sq112.l3 a_0 x_1 x_10 x_11 = if x_10 ≤ x_11 then (Option.bind (gi a_0 x_10) fun y1 => Option.bind (gi a_0 x_1) fun y8 => Option.bind (cmp_Less_110 y1 y8) fun y15 => if y15 = true then ((sq112.j7 a_0 x_1 x_10 x_11)) else ((sq112.j5 a_0 x_1 x_10 x_11))) else ((sq112.j5 a_0 x_1 x_10 x_11)) := fixF_eq sq112.l2_k.mono _
theorem sq112.j7_eq (a_0 x_1 x_10 x_11) : sq112.j7 a_0 x_1 x_10 x_11 = (sq112.l3 a_0 x_1 (IntKind.wrap .i64 (x_10 + (1 : Int))) x_11) := fixF_eq sq112.l2_k.mono _
theorem sq112.j5_eq (a_0 x_1 x_10 x_11) : sq112.j5 a_0 x_1 x_10 x_11 = (sq112.l4 a_0 x_1 x_10 x_11) := fixF_eq sq112.l2_k.mono _
theorem sq112.l4_eq (a_0 x_1 x_10 x_11) : sq112.l4 a_0 x_1 x_10 x_11 = if x_10 ≤ x_11 then (Option.bind (gi a_0 x_11) fun y1 => Option.bind (gi a_0 x_1) fun y8 => Option.bind (cmp_Less_110 y1 y8) fun y15 => if y15 = true then ((sq112.j6 a_0 x_1 x_10 x_11)) else ((sq112.j8 a_0 x_1 x_10 x_11))) else ((sq112.j6 a_0 x_1 x_10 x_11)) := fixF_eq sq112.l2_k.mono _
theorem sq112.j8_eq (a_0 x_1 x_10 x_11) : sq112.j8 a_0 x_1 x_10 x_11 = (sq112.l4 a_0 x_1 x_10 (IntKind.wrap .i64 (x_11 - (1 : Int)))) := fixF_eq sq112.l2_k.mono _
theorem sq112.j6_eq (a_0 x_1 x_10 x_11) : sq112.j6 a_0 x_1 x_10 x_11 = if x_10 > x_11 then ((sq112.j4 a_0 x_1 x_11)) else (Option.bind (gi a_0 x_11) fun y1 => Option.bind (gi a_0 x_10) fun y8 => Option.bind (gi a_0 x_10) fun y15 => Option.bind (some (List.set a_0 (Int.toNat x_10) y1)) fun l24 => Option.bind (gi l24 x_11) fun y26 => Option.bind (some (List.set l24 (Int.toNat x_11) y8)) fun l35 => (sq112.l2 l35 x_1 (IntKind.wrap .i64 (x_10 + (1 : Int))) (IntKind.wrap .i64 (x_11 - (1 : Int))))) := fixF_eq sq112.l2_k.mono _
def sq112.l2_k.I : (p : sq112.l2_k.Pt) → (Int × Bool × (List ByteArray)) → Prop
  | .l2 a_0 x_1 x_10 x_11, r => ∀ {W h0 m0 h m A_0 n_0 c_0} (O : Hold W h0 m0 h m [rR (aE tell_str) A_0 c_0 a_0]) (ne_0 : n_0 = List.length a_0), f112.l2 (sq112.post W A_0 n_0 c_0 h0 m0 r) A_0 n_0 c_0 x_1 x_10 x_11 h
  | .l3 a_0 x_1 x_10 x_11, r => ∀ {W h0 m0 h m A_0 n_0 c_0} (O : Hold W h0 m0 h m [rR (aE tell_str) A_0 c_0 a_0]) (ne_0 : n_0 = List.length a_0), f112.l3 (sq112.post W A_0 n_0 c_0 h0 m0 r) A_0 n_0 c_0 x_1 x_10 x_11 h
  | .j7 a_0 x_1 x_10 x_11, r => ∀ {W h0 m0 h m A_0 n_0 c_0} (O : Hold W h0 m0 h m [rR (aE tell_str) A_0 c_0 a_0]) (ne_0 : n_0 = List.length a_0), f112.j7 (sq112.post W A_0 n_0 c_0 h0 m0 r) A_0 n_0 c_0 x_1 x_10 x_11 h
  | .j5 a_0 x_1 x_10 x_11, r => ∀ {W h0 m0 h m A_0 n_0 c_0} (O : Hold W h0 m0 h m [rR (aE tell_str) A_0 c_0 a_0]) (ne_0 : n_0 = List.length a_0), f112.j5 (sq112.post W A_0 n_0 c_0 h0 m0 r) A_0 n_0 c_0 x_1 x_10 x_11 h
  | .l4 a_0 x_1 x_10 x_11, r => ∀ {W h0 m0 h m A_0 n_0 c_0} (O : Hold W h0 m0 h m [rR (aE tell_str) A_0 c_0 a_0]) (ne_0 : n_0 = List.length a_0), f112.l4 (sq112.post W A_0 n_0 c_0 h0 m0 r) A_0 n_0 c_0 x_1 x_10 x_11 h
  | .j8 a_0 x_1 x_10 x_11, r => ∀ {W h0 m0 h m A_0 n_0 c_0} (O : Hold W h0 m0 h m [rR (aE tell_str) A_0 c_0 a_0]) (ne_0 : n_0 = List.length a_0), f112.j8 (sq112.post W A_0 n_0 c_0 h0 m0 r) A_0 n_0 c_0 x_1 x_10 x_11 h
  | .j6 a_0 x_1 x_10 x_11, r => ∀ {W h0 m0 h m A_0 n_0 c_0} (O : Hold W h0 m0 h m [rR (aE tell_str) A_0 c_0 a_0]) (ne_0 : n_0 = List.length a_0), f112.j6 (sq112.post W A_0 n_0 c_0 h0 m0 r) A_0 n_0 c_0 x_1 x_10 x_11 h
theorem sq112.l2_k.step_l2 (go : (p : sq112.l2_k.Pt) → Option (Int × Bool × (List ByteArray))) (ih : ∀ p r, go p = some r → sq112.l2_k.I p r) (a_0 x_1 x_10 x_11) (r) (e : sq112.l2_k.body go (.l2 a_0 x_1 x_10 x_11) = some r) : sq112.l2_k.I (.l2 a_0 x_1 x_10 x_11) r := by
  unfold sq112.l2_k.body at e
  intro W h0 m0 h m A_0 n_0 c_0 O ne_0
  subst ne_0
  refine f112.l2_in ?_
  unfold f112.l2T
  exact (ih _ _ e) (O.pick [0]).nm rfl
theorem sq112.l2_k.step_l3 (go : (p : sq112.l2_k.Pt) → Option (Int × Bool × (List ByteArray))) (ih : ∀ p r, go p = some r → sq112.l2_k.I p r) (a_0 x_1 x_10 x_11) (r) (e : sq112.l2_k.body go (.l3 a_0 x_1 x_10 x_11) = some r) : sq112.l2_k.I (.l3 a_0 x_1 x_10 x_11) r := by
  unfold sq112.l2_k.body at e
  intro W h0 m0 h m A_0 n_0 c_0 O ne_0
  subst ne_0
  refine f112.l3_in ?_
  unfold f112.l3T
  refine split_dec_e e (fun c23 e => ?_) (fun c23 e => ?_)
  · obtain ⟨y1, g2, e⟩ := bind_e e
    refine (O.os 0 rfl).addr rfl g2 fun a3 cs4 ha5 hc6 he7 => ?_
    obtain rfl : cs4 = [(Value.string y1)] := he7
    obtain ⟨y8, g9, e⟩ := bind_e e
    refine (O.os 0 rfl).addr rfl g9 fun a10 cs11 ha12 hc13 he14 => ?_
    obtain rfl : cs11 = [(Value.string y8)] := he14
    refine ⟨_, ld0 (Sub.refl _) hc6 rfl, _, rfl, ?_⟩
    refine ⟨_, ld0 (Sub.refl _) hc13 rfl, _, rfl, ?_⟩
    obtain ⟨y15, g16, e⟩ := bind_e e
    refine (cmp_Less_110.walk (Hold.start (W := No) O.s)  g16).mono ?_
    rintro _ h17 ⟨m18, Q19, rfl⟩
    have O21 := Hold.nm (O.retC Q19 vfs_nil)
    refine ⟨_, rfl, ?_⟩
    refine split_any_e e (fun c22 e => ?_) (fun c22 e => ?_)
    · exact (ih _ _ e) (O21.pick [0]).nm rfl
    · exact (ih _ _ e) (O21.pick [0]).nm rfl
  · exact (ih _ _ e) (O.pick [0]).nm rfl
theorem sq112.l2_k.step_j7 (go : (p : sq112.l2_k.Pt) → Option (Int × Bool × (List ByteArray))) (ih : ∀ p r, go p = some r → sq112.l2_k.I p r) (a_0 x_1 x_10 x_11) (r) (e : sq112.l2_k.body go (.j7 a_0 x_1 x_10 x_11) = some r) : sq112.l2_k.I (.j7 a_0 x_1 x_10 x_11) r := by
  unfold sq112.l2_k.body at e
  intro W h0 m0 h m A_0 n_0 c_0 O ne_0
  subst ne_0
  refine f112.j7_in ?_
  unfold f112.j7T
  exact (ih _ _ e) (O.pick [0]).nm rfl
theorem sq112.l2_k.step_j5 (go : (p : sq112.l2_k.Pt) → Option (Int × Bool × (List ByteArray))) (ih : ∀ p r, go p = some r → sq112.l2_k.I p r) (a_0 x_1 x_10 x_11) (r) (e : sq112.l2_k.body go (.j5 a_0 x_1 x_10 x_11) = some r) : sq112.l2_k.I (.j5 a_0 x_1 x_10 x_11) r := by
  unfold sq112.l2_k.body at e
  intro W h0 m0 h m A_0 n_0 c_0 O ne_0
  subst ne_0
  refine f112.j5_in ?_
  unfold f112.j5T
  exact (ih _ _ e) (O.pick [0]).nm rfl
theorem sq112.l2_k.step_l4 (go : (p : sq112.l2_k.Pt) → Option (Int × Bool × (List ByteArray))) (ih : ∀ p r, go p = some r → sq112.l2_k.I p r) (a_0 x_1 x_10 x_11) (r) (e : sq112.l2_k.body go (.l4 a_0 x_1 x_10 x_11) = some r) : sq112.l2_k.I (.l4 a_0 x_1 x_10 x_11) r := by
  unfold sq112.l2_k.body at e
  intro W h0 m0 h m A_0 n_0 c_0 O ne_0
  subst ne_0
  refine f112.l4_in ?_
  unfold f112.l4T
  refine split_dec_e e (fun c23 e => ?_) (fun c23 e => ?_)
  · obtain ⟨y1, g2, e⟩ := bind_e e
    refine (O.os 0 rfl).addr rfl g2 fun a3 cs4 ha5 hc6 he7 => ?_
    obtain rfl : cs4 = [(Value.string y1)] := he7
    obtain ⟨y8, g9, e⟩ := bind_e e
    refine (O.os 0 rfl).addr rfl g9 fun a10 cs11 ha12 hc13 he14 => ?_
    obtain rfl : cs11 = [(Value.string y8)] := he14
    refine ⟨_, ld0 (Sub.refl _) hc6 rfl, _, rfl, ?_⟩
    refine ⟨_, ld0 (Sub.refl _) hc13 rfl, _, rfl, ?_⟩
    obtain ⟨y15, g16, e⟩ := bind_e e
    refine (cmp_Less_110.walk (Hold.start (W := No) O.s)  g16).mono ?_
    rintro _ h17 ⟨m18, Q19, rfl⟩
    have O21 := Hold.nm (O.retC Q19 vfs_nil)
    refine ⟨_, rfl, ?_⟩
    refine split_not ?_
    refine split_any_e e (fun c22 e => ?_) (fun c22 e => ?_)
    · exact (ih _ _ e) (O21.pick [0]).nm rfl
    · exact (ih _ _ e) (O21.pick [0]).nm rfl
  · exact (ih _ _ e) (O.pick [0]).nm rfl
theorem sq112.l2_k.step_j8 (go : (p : sq112.l2_k.Pt) → Option (Int × Bool × (List ByteArray))) (ih : ∀ p r, go p = some r → sq112.l2_k.I p r) (a_0 x_1 x_10 x_11) (r) (e : sq112.l2_k.body go (.j8 a_0 x_1 x_10 x_11) = some r) : sq112.l2_k.I (.j8 a_0 x_1 x_10 x_11) r := by
  unfold sq112.l2_k.body at e
  intro W h0 m0 h m A_0 n_0 c_0 O ne_0
  subst ne_0
  refine f112.j8_in ?_
  unfold f112.j8T
  exact (ih _ _ e) (O.pick [0]).nm rfl
theorem sq112.l2_k.step_j6 (go : (p : sq112.l2_k.Pt) → Option (Int × Bool × (List ByteArray))) (ih : ∀ p r, go p = some r → sq112.l2_k.I p r) (a_0 x_1 x_10 x_11) (r) (e : sq112.l2_k.body go (.j6 a_0 x_1 x_10 x_11) = some r) : sq112.l2_k.I (.j6 a_0 x_1 x_10 x_11) r := by
  unfold sq112.l2_k.body at e
  intro W h0 m0 h m A_0 n_0 c_0 O ne_0
  subst ne_0
  refine f112.j6_in ?_
  unfold f112.j6T
  refine split_dec_e e (fun c38 e => ?_) (fun c38 e => ?_)
  · exact sq112.j4.walk (O.pick [0]).nm rfl e
  · obtain ⟨y1, g2, e⟩ := bind_e e
    refine (O.os 0 rfl).addr rfl g2 fun a3 cs4 ha5 hc6 he7 => ?_
    obtain rfl : cs4 = [(Value.string y1)] := he7
    obtain ⟨y8, g9, e⟩ := bind_e e
    refine (O.os 0 rfl).addr rfl g9 fun a10 cs11 ha12 hc13 he14 => ?_
    obtain rfl : cs11 = [(Value.string y8)] := he14
    refine ⟨_, ld0 (Sub.refl _) hc6 rfl, _, rfl, ?_⟩
    refine ⟨_, ld0 (Sub.refl _) hc13 rfl, _, rfl, ?_⟩
    obtain ⟨y15, g16, e⟩ := bind_e e
    refine (O.os 0 rfl).addr rfl g16 fun a17 cs18 ha19 hc20 he21 => ?_
    obtain rfl : cs18 = [(Value.string y15)] := he21
    obtain ⟨l24, g25, e⟩ := bind_e e
    replace g25 := Option.some.inj g25
    refine O.elst0 0 rfl g16 ha19 hc20 (by decide) (y' := y1) rfl trivial g25 fun h22 O23 => ?_
    obtain ⟨y26, g27, e⟩ := bind_e e
    refine (O23.os 0 rfl).addr (lset' g25) g27 fun a28 cs29 ha30 hc31 he32 => ?_
    obtain rfl : cs29 = [(Value.string y26)] := he32
    obtain ⟨l35, g36, e⟩ := bind_e e
    replace g36 := Option.some.inj g36
    refine O23.elst0 0 rfl g27 ha30 hc31 (by decide) (y' := y8) rfl trivial g36 fun h33 O34 => ?_
    have O37 := O34.nm
    exact (ih _ _ e) (O37.pick [0]).nm ((lset' g25).trans (lset' g36))
theorem sq112.l2_k.all {p : sq112.l2_k.Pt} {r : (Int × Bool × (List ByteArray))} (e : sq112.l2_k.go p = some r) : sq112.l2_k.I p r := fixF_ind (β := fun _ => (Int × Bool × (List ByteArray))) sq112.l2_k.mono (I := sq112.l2_k.I) (fun go ih p r e => match p with
  | .l2 a_0 x_1 x_10 x_11 => sq112.l2_k.step_l2 go ih a_0 x_1 x_10 x_11 r e
  | .l3 a_0 x_1 x_10 x_11 => sq112.l2_k.step_l3 go ih a_0 x_1 x_10 x_11 r e
  | .j7 a_0 x_1 x_10 x_11 => sq112.l2_k.step_j7 go ih a_0 x_1 x_10 x_11 r e
  | .j5 a_0 x_1 x_10 x_11 => sq112.l2_k.step_j5 go ih a_0 x_1 x_10 x_11 r e
  | .l4 a_0 x_1 x_10 x_11 => sq112.l2_k.step_l4 go ih a_0 x_1 x_10 x_11 r e
  | .j8 a_0 x_1 x_10 x_11 => sq112.l2_k.step_j8 go ih a_0 x_1 x_10 x_11 r e
  | .j6 a_0 x_1 x_10 x_11 => sq112.l2_k.step_j6 go ih a_0 x_1 x_10 x_11 r e
  ) e
noncomputable def sq112.j1 (a_0 : List ByteArray) (x_1 : Int) (x_10 : Int) (x_11 : Int) : Option (Int × Bool × (List ByteArray)) :=
  if x_10 > x_11 then (Option.bind (gi a_0 x_1) fun y1 => Option.bind (gi a_0 x_11) fun y8 => Option.bind (gi a_0 x_11) fun y15 => Option.bind (some (List.set a_0 (Int.toNat x_11) y1)) fun l24 => Option.bind (gi l24 x_1) fun y26 => Option.bind (some (List.set l24 (Int.toNat x_1) y8)) fun l35 => some (x_11, true, l35)) else (Option.bind (gi a_0 x_11) fun y38 => Option.bind (gi a_0 x_10) fun y45 => Option.bind (gi a_0 x_10) fun y52 => Option.bind (some (List.set a_0 (Int.toNat x_10) y38)) fun l61 => Option.bind (gi l61 x_11) fun y63 => Option.bind (some (List.set l61 (Int.toNat x_11) y45)) fun l72 => (sq112.l2 l72 x_1 (IntKind.wrap .i64 (x_10 + (1 : Int))) (IntKind.wrap .i64 (x_11 - (1 : Int)))))
set_option maxHeartbeats 4000000 in
theorem sq112.j1.walk {W h0 m0 h m A_0 n_0 c_0 a_0 x_1 x_10 x_11} (O : Hold W h0 m0 h m [rR (aE tell_str) A_0 c_0 a_0]) (ne_0 : n_0 = List.length a_0) {r} (e : sq112.j1 a_0 x_1 x_10 x_11 = some r) : f112.j1 (sq112.post W A_0 n_0 c_0 h0 m0 r) A_0 n_0 c_0 x_1 x_10 x_11 h := by
  unfold sq112.j1 at e
  subst ne_0
  refine f112.j1_in ?_
  unfold f112.j1T
  refine split_dec_e e (fun c75 e => ?_) (fun c75 e => ?_)
  · obtain ⟨y1, g2, e⟩ := bind_e e
    refine (O.os 0 rfl).addr rfl g2 fun a3 cs4 ha5 hc6 he7 => ?_
    obtain rfl : cs4 = [(Value.string y1)] := he7
    obtain ⟨y8, g9, e⟩ := bind_e e
    refine (O.os 0 rfl).addr rfl g9 fun a10 cs11 ha12 hc13 he14 => ?_
    obtain rfl : cs11 = [(Value.string y8)] := he14
    refine ⟨_, ld0 (Sub.refl _) hc6 rfl, _, rfl, ?_⟩
    refine ⟨_, ld0 (Sub.refl _) hc13 rfl, _, rfl, ?_⟩
    obtain ⟨y15, g16, e⟩ := bind_e e
    refine (O.os 0 rfl).addr rfl g16 fun a17 cs18 ha19 hc20 he21 => ?_
    obtain rfl : cs18 = [(Value.string y15)] := he21
    obtain ⟨l24, g25, e⟩ := bind_e e
    replace g25 := Option.some.inj g25
    refine O.elst0 0 rfl g16 ha19 hc20 (by decide) (y' := y1) rfl trivial g25 fun h22 O23 => ?_
    obtain ⟨y26, g27, e⟩ := bind_e e
    refine (O23.os 0 rfl).addr (lset' g25) g27 fun a28 cs29 ha30 hc31 he32 => ?_
    obtain rfl : cs29 = [(Value.string y26)] := he32
    obtain ⟨l35, g36, e⟩ := bind_e e
    replace g36 := Option.some.inj g36
    refine O23.elst0 0 rfl g27 ha30 hc31 (by decide) (y' := y8) rfl trivial g36 fun h33 O34 => ?_
    have O37 := O34.nm
    cases e
    exact ⟨_, O37.pick [0], rfl, ((lset' g25).trans (lset' g36))⟩
  · obtain ⟨y38, g39, e⟩ := bind_e e
    refine (O.os 0 rfl).addr rfl g39 fun a40 cs41 ha42 hc43 he44 => ?_
    obtain rfl : cs41 = [(Value.string y38)] := he44
    obtain ⟨y45, g46, e⟩ := bind_e e
    refine (O.os 0 rfl).addr rfl g46 fun a47 cs48 ha49 hc50 he51 => ?_
    obtain rfl : cs48 = [(Value.string y45)] := he51
    refine ⟨_, ld0 (Sub.refl _) hc43 rfl, _, rfl, ?_⟩
    refine ⟨_, ld0 (Sub.refl _) hc50 rfl, _, rfl, ?_⟩
    obtain ⟨y52, g53, e⟩ := bind_e e
    refine (O.os 0 rfl).addr rfl g53 fun a54 cs55 ha56 hc57 he58 => ?_
    obtain rfl : cs55 = [(Value.string y52)] := he58
    obtain ⟨l61, g62, e⟩ := bind_e e
    replace g62 := Option.some.inj g62
    refine O.elst0 0 rfl g53 ha56 hc57 (by decide) (y' := y38) rfl trivial g62 fun h59 O60 => ?_
    obtain ⟨y63, g64, e⟩ := bind_e e
    refine (O60.os 0 rfl).addr (lset' g62) g64 fun a65 cs66 ha67 hc68 he69 => ?_
    obtain rfl : cs66 = [(Value.string y63)] := he69
    obtain ⟨l72, g73, e⟩ := bind_e e
    replace g73 := Option.some.inj g73
    refine O60.elst0 0 rfl g64 ha67 hc68 (by decide) (y' := y45) rfl trivial g73 fun h70 O71 => ?_
    have O74 := O71.nm
    exact (sq112.l2_k.all e) (O74.pick [0]).nm ((lset' g62).trans (lset' g73))
inductive sq112.l1_k.Pt where
  | l1 (a_0 : List ByteArray) (x_1 : Int) (x_10 : Int) (x_11 : Int)
  | j3 (a_0 : List ByteArray) (x_1 : Int) (x_10 : Int) (x_11 : Int)
noncomputable def sq112.l1_k.body (go : (p : sq112.l1_k.Pt) → Option (Int × Bool × (List ByteArray))) : (p : sq112.l1_k.Pt) → Option (Int × Bool × (List ByteArray))
  | .l1 a_0 x_1 x_10 x_11 => if x_10 ≤ x_11 then (Option.bind (gi a_0 x_11) fun y1 => Option.bind (gi a_0 x_1) fun y8 => Option.bind (cmp_Less_110 y1 y8) fun y15 => if y15 = true then ((sq112.j1 a_0 x_1 x_10 x_11)) else ((go (.j3 a_0 x_1 x_10 x_11)))) else ((sq112.j1 a_0 x_1 x_10 x_11))
  | .j3 a_0 x_1 x_10 x_11 => (go (.l1 a_0 x_1 x_10 (IntKind.wrap .i64 (x_11 - (1 : Int)))))
attribute [local irreducible] cmp_Less_110 in
theorem sq112.l1_k.mono : MonoF (β := fun _ => (Int × Bool × (List ByteArray))) sq112.l1_k.body := fun f g hfg p => match p with
  | .l1 a_0 x_1 x_10 x_11 => LeO.ite (LeO.bind (LeO.refl _) fun y1 => LeO.bind (LeO.refl _) fun y8 => LeO.bind (LeO.refl _) fun y15 => LeO.ite ((LeO.refl _)) ((hfg _))) ((LeO.refl _))
  | .j3 a_0 x_1 x_10 x_11 => (hfg _)
noncomputable def sq112.l1_k.go (p : sq112.l1_k.Pt) : Option (Int × Bool × (List ByteArray)) := fixF (β := fun _ => (Int × Bool × (List ByteArray))) sq112.l1_k.body p
noncomputable def sq112.l1 (a_0 x_1 x_10 x_11) := sq112.l1_k.go (.l1 a_0 x_1 x_10 x_11)
noncomputable def sq112.j3 (a_0 x_1 x_10 x_11) := sq112.l1_k.go (.j3 a_0 x_1 x_10 x_11)
theorem sq112.l1_eq (a_0 x_1 x_10 x_11) : sq112.l1 a_0 x_1 x_10 x_11 = if x_10 ≤ x_11 then (Option.bind (gi a_0 x_11) fun y1 => Option.bind (gi a_0 x_1) fun y8 => Option.bind (cmp_Less_110 y1 y8) fun y15 => if y15 = true then ((sq112.j1 a_0 x_1 x_10 x_11)) else ((sq112.j3 a_0 x_1 x_10 x_11))) else ((sq112.j1 a_0 x_1 x_10 x_11)) := fixF_eq sq112.l1_k.mono _
theorem sq112.j3_eq (a_0 x_1 x_10 x_11) : sq112.j3 a_0 x_1 x_10 x_11 = (sq112.l1 a_0 x_1 x_10 (IntKind.wrap .i64 (x_11 - (1 : Int)))) := fixF_eq sq112.l1_k.mono _
def sq112.l1_k.I : (p : sq112.l1_k.Pt) → (Int × Bool × (List ByteArray)) → Prop
  | .l1 a_0 x_1 x_10 x_11, r => ∀ {W h0 m0 h m A_0 n_0 c_0} (O : Hold W h0 m0 h m [rR (aE tell_str) A_0 c_0 a_0]) (ne_0 : n_0 = List.length a_0), f112.l1 (sq112.post W A_0 n_0 c_0 h0 m0 r) A_0 n_0 c_0 x_1 x_10 x_11 h
  | .j3 a_0 x_1 x_10 x_11, r => ∀ {W h0 m0 h m A_0 n_0 c_0} (O : Hold W h0 m0 h m [rR (aE tell_str) A_0 c_0 a_0]) (ne_0 : n_0 = List.length a_0), f112.j3 (sq112.post W A_0 n_0 c_0 h0 m0 r) A_0 n_0 c_0 x_1 x_10 x_11 h
theorem sq112.l1_k.step_l1 (go : (p : sq112.l1_k.Pt) → Option (Int × Bool × (List ByteArray))) (ih : ∀ p r, go p = some r → sq112.l1_k.I p r) (a_0 x_1 x_10 x_11) (r) (e : sq112.l1_k.body go (.l1 a_0 x_1 x_10 x_11) = some r) : sq112.l1_k.I (.l1 a_0 x_1 x_10 x_11) r := by
  unfold sq112.l1_k.body at e
  intro W h0 m0 h m A_0 n_0 c_0 O ne_0
  subst ne_0
  refine f112.l1_in ?_
  unfold f112.l1T
  refine split_dec_e e (fun c23 e => ?_) (fun c23 e => ?_)
  · obtain ⟨y1, g2, e⟩ := bind_e e
    refine (O.os 0 rfl).addr rfl g2 fun a3 cs4 ha5 hc6 he7 => ?_
    obtain rfl : cs4 = [(Value.string y1)] := he7
    obtain ⟨y8, g9, e⟩ := bind_e e
    refine (O.os 0 rfl).addr rfl g9 fun a10 cs11 ha12 hc13 he14 => ?_
    obtain rfl : cs11 = [(Value.string y8)] := he14
    refine ⟨_, ld0 (Sub.refl _) hc6 rfl, _, rfl, ?_⟩
    refine ⟨_, ld0 (Sub.refl _) hc13 rfl, _, rfl, ?_⟩
    obtain ⟨y15, g16, e⟩ := bind_e e
    refine (cmp_Less_110.walk (Hold.start (W := No) O.s)  g16).mono ?_
    rintro _ h17 ⟨m18, Q19, rfl⟩
    have O21 := Hold.nm (O.retC Q19 vfs_nil)
    refine ⟨_, rfl, ?_⟩
    refine split_not ?_
    refine split_any_e e (fun c22 e => ?_) (fun c22 e => ?_)
    · exact sq112.j1.walk (O21.pick [0]).nm rfl e
    · exact (ih _ _ e) (O21.pick [0]).nm rfl
  · exact sq112.j1.walk (O.pick [0]).nm rfl e
theorem sq112.l1_k.step_j3 (go : (p : sq112.l1_k.Pt) → Option (Int × Bool × (List ByteArray))) (ih : ∀ p r, go p = some r → sq112.l1_k.I p r) (a_0 x_1 x_10 x_11) (r) (e : sq112.l1_k.body go (.j3 a_0 x_1 x_10 x_11) = some r) : sq112.l1_k.I (.j3 a_0 x_1 x_10 x_11) r := by
  unfold sq112.l1_k.body at e
  intro W h0 m0 h m A_0 n_0 c_0 O ne_0
  subst ne_0
  refine f112.j3_in ?_
  unfold f112.j3T
  exact (ih _ _ e) (O.pick [0]).nm rfl
theorem sq112.l1_k.all {p : sq112.l1_k.Pt} {r : (Int × Bool × (List ByteArray))} (e : sq112.l1_k.go p = some r) : sq112.l1_k.I p r := fixF_ind (β := fun _ => (Int × Bool × (List ByteArray))) sq112.l1_k.mono (I := sq112.l1_k.I) (fun go ih p r e => match p with
  | .l1 a_0 x_1 x_10 x_11 => sq112.l1_k.step_l1 go ih a_0 x_1 x_10 x_11 r e
  | .j3 a_0 x_1 x_10 x_11 => sq112.l1_k.step_j3 go ih a_0 x_1 x_10 x_11 r e
  ) e
noncomputable def sq112.j0 (a_0 : List ByteArray) (x_1 : Int) (x_10 : Int) (x_11 : Int) : Option (Int × Bool × (List ByteArray)) :=
  (sq112.l1 a_0 x_1 x_10 x_11)
theorem sq112.j0.walk {W h0 m0 h m A_0 n_0 c_0 a_0 x_1 x_10 x_11} (O : Hold W h0 m0 h m [rR (aE tell_str) A_0 c_0 a_0]) (ne_0 : n_0 = List.length a_0) {r} (e : sq112.j0 a_0 x_1 x_10 x_11 = some r) : f112.j0 (sq112.post W A_0 n_0 c_0 h0 m0 r) A_0 n_0 c_0 x_1 x_10 x_11 h := by
  unfold sq112.j0 at e
  subst ne_0
  refine f112.j0_in ?_
  unfold f112.j0T
  exact (sq112.l1_k.all e) (O.pick [0]).nm rfl
inductive sq112.l0_k.Pt where
  | l0 (a_0 : List ByteArray) (x_1 : Int) (x_10 : Int) (x_11 : Int)
  | j2 (a_0 : List ByteArray) (x_1 : Int) (x_10 : Int) (x_11 : Int)
noncomputable def sq112.l0_k.body (go : (p : sq112.l0_k.Pt) → Option (Int × Bool × (List ByteArray))) : (p : sq112.l0_k.Pt) → Option (Int × Bool × (List ByteArray))
  | .l0 a_0 x_1 x_10 x_11 => if x_10 ≤ x_11 then (Option.bind (gi a_0 x_10) fun y1 => Option.bind (gi a_0 x_1) fun y8 => Option.bind (cmp_Less_110 y1 y8) fun y15 => if y15 = true then ((go (.j2 a_0 x_1 x_10 x_11))) else ((sq112.j0 a_0 x_1 x_10 x_11))) else ((sq112.j0 a_0 x_1 x_10 x_11))
  | .j2 a_0 x_1 x_10 x_11 => (go (.l0 a_0 x_1 (IntKind.wrap .i64 (x_10 + (1 : Int))) x_11))
attribute [local irreducible] cmp_Less_110 in
theorem sq112.l0_k.mono : MonoF (β := fun _ => (Int × Bool × (List ByteArray))) sq112.l0_k.body := fun f g hfg p => match p with
  | .l0 a_0 x_1 x_10 x_11 => LeO.ite (LeO.bind (LeO.refl _) fun y1 => LeO.bind (LeO.refl _) fun y8 => LeO.bind (LeO.refl _) fun y15 => LeO.ite ((hfg _)) ((LeO.refl _))) ((LeO.refl _))
  | .j2 a_0 x_1 x_10 x_11 => (hfg _)
noncomputable def sq112.l0_k.go (p : sq112.l0_k.Pt) : Option (Int × Bool × (List ByteArray)) := fixF (β := fun _ => (Int × Bool × (List ByteArray))) sq112.l0_k.body p
noncomputable def sq112.l0 (a_0 x_1 x_10 x_11) := sq112.l0_k.go (.l0 a_0 x_1 x_10 x_11)
noncomputable def sq112.j2 (a_0 x_1 x_10 x_11) := sq112.l0_k.go (.j2 a_0 x_1 x_10 x_11)
theorem sq112.l0_eq (a_0 x_1 x_10 x_11) : sq112.l0 a_0 x_1 x_10 x_11 = if x_10 ≤ x_11 then (Option.bind (gi a_0 x_10) fun y1 => Option.bind (gi a_0 x_1) fun y8 => Option.bind (cmp_Less_110 y1 y8) fun y15 => if y15 = true then ((sq112.j2 a_0 x_1 x_10 x_11)) else ((sq112.j0 a_0 x_1 x_10 x_11))) else ((sq112.j0 a_0 x_1 x_10 x_11)) := fixF_eq sq112.l0_k.mono _
theorem sq112.j2_eq (a_0 x_1 x_10 x_11) : sq112.j2 a_0 x_1 x_10 x_11 = (sq112.l0 a_0 x_1 (IntKind.wrap .i64 (x_10 + (1 : Int))) x_11) := fixF_eq sq112.l0_k.mono _
def sq112.l0_k.I : (p : sq112.l0_k.Pt) → (Int × Bool × (List ByteArray)) → Prop
  | .l0 a_0 x_1 x_10 x_11, r => ∀ {W h0 m0 h m A_0 n_0 c_0} (O : Hold W h0 m0 h m [rR (aE tell_str) A_0 c_0 a_0]) (ne_0 : n_0 = List.length a_0), f112.l0 (sq112.post W A_0 n_0 c_0 h0 m0 r) A_0 n_0 c_0 x_1 x_10 x_11 h
  | .j2 a_0 x_1 x_10 x_11, r => ∀ {W h0 m0 h m A_0 n_0 c_0} (O : Hold W h0 m0 h m [rR (aE tell_str) A_0 c_0 a_0]) (ne_0 : n_0 = List.length a_0), f112.j2 (sq112.post W A_0 n_0 c_0 h0 m0 r) A_0 n_0 c_0 x_1 x_10 x_11 h
theorem sq112.l0_k.step_l0 (go : (p : sq112.l0_k.Pt) → Option (Int × Bool × (List ByteArray))) (ih : ∀ p r, go p = some r → sq112.l0_k.I p r) (a_0 x_1 x_10 x_11) (r) (e : sq112.l0_k.body go (.l0 a_0 x_1 x_10 x_11) = some r) : sq112.l0_k.I (.l0 a_0 x_1 x_10 x_11) r := by
  unfold sq112.l0_k.body at e
  intro W h0 m0 h m A_0 n_0 c_0 O ne_0
  subst ne_0
  refine f112.l0_in ?_
  unfold f112.l0T
  refine split_dec_e e (fun c23 e => ?_) (fun c23 e => ?_)
  · obtain ⟨y1, g2, e⟩ := bind_e e
    refine (O.os 0 rfl).addr rfl g2 fun a3 cs4 ha5 hc6 he7 => ?_
    obtain rfl : cs4 = [(Value.string y1)] := he7
    obtain ⟨y8, g9, e⟩ := bind_e e
    refine (O.os 0 rfl).addr rfl g9 fun a10 cs11 ha12 hc13 he14 => ?_
    obtain rfl : cs11 = [(Value.string y8)] := he14
    refine ⟨_, ld0 (Sub.refl _) hc6 rfl, _, rfl, ?_⟩
    refine ⟨_, ld0 (Sub.refl _) hc13 rfl, _, rfl, ?_⟩
    obtain ⟨y15, g16, e⟩ := bind_e e
    refine (cmp_Less_110.walk (Hold.start (W := No) O.s)  g16).mono ?_
    rintro _ h17 ⟨m18, Q19, rfl⟩
    have O21 := Hold.nm (O.retC Q19 vfs_nil)
    refine ⟨_, rfl, ?_⟩
    refine split_any_e e (fun c22 e => ?_) (fun c22 e => ?_)
    · exact (ih _ _ e) (O21.pick [0]).nm rfl
    · exact sq112.j0.walk (O21.pick [0]).nm rfl e
  · exact sq112.j0.walk (O.pick [0]).nm rfl e
theorem sq112.l0_k.step_j2 (go : (p : sq112.l0_k.Pt) → Option (Int × Bool × (List ByteArray))) (ih : ∀ p r, go p = some r → sq112.l0_k.I p r) (a_0 x_1 x_10 x_11) (r) (e : sq112.l0_k.body go (.j2 a_0 x_1 x_10 x_11) = some r) : sq112.l0_k.I (.j2 a_0 x_1 x_10 x_11) r := by
  unfold sq112.l0_k.body at e
  intro W h0 m0 h m A_0 n_0 c_0 O ne_0
  subst ne_0
  refine f112.j2_in ?_
  unfold f112.j2T
  exact (ih _ _ e) (O.pick [0]).nm rfl
theorem sq112.l0_k.all {p : sq112.l0_k.Pt} {r : (Int × Bool × (List ByteArray))} (e : sq112.l0_k.go p = some r) : sq112.l0_k.I p r := fixF_ind (β := fun _ => (Int × Bool × (List ByteArray))) sq112.l0_k.mono (I := sq112.l0_k.I) (fun go ih p r e => match p with
  | .l0 a_0 x_1 x_10 x_11 => sq112.l0_k.step_l0 go ih a_0 x_1 x_10 x_11 r e
  | .j2 a_0 x_1 x_10 x_11 => sq112.l0_k.step_j2 go ih a_0 x_1 x_10 x_11 r e
  ) e
noncomputable def sq112 (a_0 : List ByteArray) (x_1 : Int) (x_2 : Int) (x_3 : Int) : Option (Int × Bool × (List ByteArray)) :=
  Option.bind (gi a_0 x_3) fun y1 => Option.bind (gi a_0 x_1) fun y8 => Option.bind (gi a_0 x_1) fun y15 => Option.bind (some (List.set a_0 (Int.toNat x_1) y1)) fun l24 => Option.bind (gi l24 x_3) fun y26 => Option.bind (some (List.set l24 (Int.toNat x_3) y8)) fun l35 => (sq112.l0 l35 x_1 (IntKind.wrap .i64 (x_1 + (1 : Int))) (IntKind.wrap .i64 (x_2 - (1 : Int))))
theorem sq112.walk {W h m A_0 n_0 c_0 a_0 x_1 x_2 x_3} (O : Hold W h m h m [rR (aE tell_str) A_0 c_0 a_0]) (ne_0 : n_0 = List.length a_0) {r} (e : sq112 a_0 x_1 x_2 x_3 = some r) : Run Tryd.prog 112 #[Value.slice A_0 n_0 c_0, Value.int .i64 x_1, Value.int .i64 x_2, Value.int .i64 x_3] h (sq112.post W A_0 n_0 c_0 h m r) := by
  unfold sq112 at e
  subst ne_0
  refine f112.run ?_
  unfold f112.runT
  obtain ⟨y1, g2, e⟩ := bind_e e
  refine (O.os 0 rfl).addr rfl g2 fun a3 cs4 ha5 hc6 he7 => ?_
  obtain rfl : cs4 = [(Value.string y1)] := he7
  obtain ⟨y8, g9, e⟩ := bind_e e
  refine (O.os 0 rfl).addr rfl g9 fun a10 cs11 ha12 hc13 he14 => ?_
  obtain rfl : cs11 = [(Value.string y8)] := he14
  refine ⟨_, ld0 (Sub.refl _) hc6 rfl, _, rfl, ?_⟩
  refine ⟨_, ld0 (Sub.refl _) hc13 rfl, _, rfl, ?_⟩
  obtain ⟨y15, g16, e⟩ := bind_e e
  refine (O.os 0 rfl).addr rfl g16 fun a17 cs18 ha19 hc20 he21 => ?_
  obtain rfl : cs18 = [(Value.string y15)] := he21
  obtain ⟨l24, g25, e⟩ := bind_e e
  replace g25 := Option.some.inj g25
  refine O.elst0 0 rfl g16 ha19 hc20 (by decide) (y' := y1) rfl trivial g25 fun h22 O23 => ?_
  obtain ⟨y26, g27, e⟩ := bind_e e
  refine (O23.os 0 rfl).addr (lset' g25) g27 fun a28 cs29 ha30 hc31 he32 => ?_
  obtain rfl : cs29 = [(Value.string y26)] := he32
  obtain ⟨l35, g36, e⟩ := bind_e e
  replace g36 := Option.some.inj g36
  refine O23.elst0 0 rfl g27 ha30 hc31 (by decide) (y' := y8) rfl trivial g36 fun h33 O34 => ?_
  have O37 := O34.nm
  exact (sq112.l0_k.all e) (O37.pick [0]).nm ((lset' g25).trans (lset' g36))
def sq86.post (W : Nat → Prop) (Asl0 : Option Addr) (nsl0 csl0 : Nat) (h0 m0 : Heap) (r : (List ByteArray)) (v : Value) (h : Heap) : Prop := ∃ m , Hold W h0 m0 h m [rR (aE tell_str) Asl0 csl0 r] ∧ v = .tuple #[] ∧ nsl0 = List.length r
inductive sq86_k.Pt where
  | f (a_0 : List ByteArray) (x_1 : Int) (x_2 : Int) (x_3 : Int)
  | l0 (a_0 : List ByteArray) (x_1 : Int) (x_2 : Int) (x_3 : Int) (b_8 : Bool) (b_9 : Bool)
  | j0 (a_0 : List ByteArray) (x_1 : Int) (x_2 : Int) (x_3 : Int) (b_8 : Bool) (b_9 : Bool) (x_10 : Int)
  | j1 (a_0 : List ByteArray) (x_1 : Int) (x_2 : Int) (x_3 : Int) (b_8 : Bool) (b_9 : Bool) (x_10 : Int) (x_11 : Int) (x_12 : Int)
  | j3 (a_0 : List ByteArray) (x_1 : Int) (x_2 : Int) (x_3 : Int) (b_8 : Bool) (b_9 : Bool) (x_10 : Int) (x_11 : Int) (b_68 : Bool)
  | j2 (a_0 : List ByteArray) (x_1 : Int) (x_2 : Int) (x_3 : Int) (b_8 : Bool) (b_9 : Bool) (x_10 : Int) (x_11 : Int)
  | j5 (a_0 : List ByteArray) (x_1 : Int) (x_2 : Int) (x_3 : Int) (b_8 : Bool) (b_9 : Bool) (x_10 : Int) (x_11 : Int) (b_87 : Bool)
  | j4 (a_0 : List ByteArray) (x_1 : Int) (x_2 : Int) (x_3 : Int) (x_10 : Int) (x_11 : Int)
noncomputable def sq86_k.body (go : (p : sq86_k.Pt) → Option ((List ByteArray))) : (p : sq86_k.Pt) → Option ((List ByteArray))
  | .f a_0 x_1 x_2 x_3 => (go (.l0 a_0 x_1 x_2 x_3 true true))
  | .l0 a_0 x_1 x_2 x_3 b_8 b_9 => if (IntKind.wrap .i64 (x_2 - x_1)) ≤ (12 : Int) then (Option.bind (sq104 a_0 x_1 x_2) fun y1 => some (y1)) else (if x_3 = (0 : Int) then (Option.bind (sq105 a_0 x_1 x_2) fun y13 => some (y13)) else (if b_8 = true then ((go (.j0 a_0 x_1 x_2 x_3 b_8 b_9 (IntKind.wrap .i64 (x_2 - x_1))))) else (Option.bind (sq106 a_0 x_1 x_2) fun y25 => (go (.j0 y25 x_1 x_2 (IntKind.wrap .i64 (x_3 - (1 : Int))) b_8 b_9 (IntKind.wrap .i64 (x_2 - x_1)))))))
  | .j0 a_0 x_1 x_2 x_3 b_8 b_9 x_10 => Option.bind (sq107 a_0 x_1 x_2) fun y1 => if y1.2 = (2 : Int) then (Option.bind (sq108 a_0 x_1 x_2) fun y15 => (go (.j1 y15 x_1 x_2 x_3 b_8 b_9 x_10 (IntKind.wrap .i64 ((IntKind.wrap .i64 (x_2 - (1 : Int))) - (IntKind.wrap .i64 (y1.1 - x_1)))) (1 : Int)))) else ((go (.j1 a_0 x_1 x_2 x_3 b_8 b_9 x_10 y1.1 y1.2)))
  | .j1 a_0 x_1 x_2 x_3 b_8 b_9 x_10 x_11 x_12 => if b_8 = true then (if b_9 = true then ((go (.j3 a_0 x_1 x_2 x_3 b_8 b_9 x_10 x_11 (x_12 == (1 : Int))))) else ((go (.j3 a_0 x_1 x_2 x_3 b_8 b_9 x_10 x_11 false)))) else ((go (.j3 a_0 x_1 x_2 x_3 b_8 b_9 x_10 x_11 false)))
  | .j3 a_0 x_1 x_2 x_3 b_8 b_9 x_10 x_11 b_68 => if b_68 = true then (Option.bind (sq109 a_0 x_1 x_2) fun y1 => if y1.1 = true then (some (y1.2)) else ((go (.j2 y1.2 x_1 x_2 x_3 b_8 b_9 x_10 x_11)))) else ((go (.j2 a_0 x_1 x_2 x_3 b_8 b_9 x_10 x_11)))
  | .j2 a_0 x_1 x_2 x_3 b_8 b_9 x_10 x_11 => if x_1 > (0 : Int) then (Option.bind (gi a_0 (IntKind.wrap .i64 (x_1 - (1 : Int)))) fun y1 => Option.bind (gi a_0 x_11) fun y8 => Option.bind (cmp_Less_110 y1 y8) fun y15 => (go (.j5 a_0 x_1 x_2 x_3 b_8 b_9 x_10 x_11 (!y15)))) else ((go (.j5 a_0 x_1 x_2 x_3 b_8 b_9 x_10 x_11 false)))
  | .j5 a_0 x_1 x_2 x_3 b_8 b_9 x_10 x_11 b_87 => if b_87 = true then (Option.bind (sq111 a_0 x_1 x_2 x_11) fun y1 => (go (.l0 y1.2 y1.1 x_2 x_3 b_8 b_9))) else ((go (.j4 a_0 x_1 x_2 x_3 x_10 x_11)))
  | .j4 a_0 x_1 x_2 x_3 x_10 x_11 => Option.bind (sq112 a_0 x_1 x_2 x_11) fun y1 => if (IntKind.wrap .i64 (y1.1 - x_1)) < (IntKind.wrap .i64 (x_2 - y1.1)) then (Option.bind ((go (.f y1.2.2 x_1 y1.1 x_3))) fun y13 => (go (.l0 y13 (IntKind.wrap .i64 (y1.1 + (1 : Int))) x_2 x_3 (decide ((IntKind.wrap .i64 (y1.1 - x_1)) ≥ (IntKind.wrap .i64 (Int.tdiv x_10 (8 : Int))))) y1.2.1))) else (Option.bind ((go (.f y1.2.2 (IntKind.wrap .i64 (y1.1 + (1 : Int))) x_2 x_3))) fun y25 => (go (.l0 y25 x_1 y1.1 x_3 (decide ((IntKind.wrap .i64 (x_2 - y1.1)) ≥ (IntKind.wrap .i64 (Int.tdiv x_10 (8 : Int))))) y1.2.1)))
attribute [local irreducible] cmp_Less_110 in
theorem sq86_k.mono : MonoF (β := fun _ => ((List ByteArray))) sq86_k.body := fun f g hfg p => match p with
  | .f a_0 x_1 x_2 x_3 => (hfg _)
  | .l0 a_0 x_1 x_2 x_3 b_8 b_9 => LeO.ite (LeO.bind (LeO.refl _) fun y1 => LeO.refl _) (LeO.ite (LeO.bind (LeO.refl _) fun y13 => LeO.refl _) (LeO.ite ((hfg _)) (LeO.bind (LeO.refl _) fun y25 => (hfg _))))
  | .j0 a_0 x_1 x_2 x_3 b_8 b_9 x_10 => LeO.bind (LeO.refl _) fun y1 => LeO.ite (LeO.bind (LeO.refl _) fun y15 => (hfg _)) ((hfg _))
  | .j1 a_0 x_1 x_2 x_3 b_8 b_9 x_10 x_11 x_12 => LeO.ite (LeO.ite ((hfg _)) ((hfg _))) ((hfg _))
  | .j3 a_0 x_1 x_2 x_3 b_8 b_9 x_10 x_11 b_68 => LeO.ite (LeO.bind (LeO.refl _) fun y1 => LeO.ite (LeO.refl _) ((hfg _))) ((hfg _))
  | .j2 a_0 x_1 x_2 x_3 b_8 b_9 x_10 x_11 => LeO.ite (LeO.bind (LeO.refl _) fun y1 => LeO.bind (LeO.refl _) fun y8 => LeO.bind (LeO.refl _) fun y15 => (hfg _)) ((hfg _))
  | .j5 a_0 x_1 x_2 x_3 b_8 b_9 x_10 x_11 b_87 => LeO.ite (LeO.bind (LeO.refl _) fun y1 => (hfg _)) ((hfg _))
  | .j4 a_0 x_1 x_2 x_3 x_10 x_11 => LeO.bind (LeO.refl _) fun y1 => LeO.ite (LeO.bind ((hfg _)) fun y13 => (hfg _)) (LeO.bind ((hfg _)) fun y25 => (hfg _))
noncomputable def sq86_k.go (p : sq86_k.Pt) : Option ((List ByteArray)) := fixF (β := fun _ => ((List ByteArray))) sq86_k.body p
noncomputable def sq86 (a_0 x_1 x_2 x_3) := sq86_k.go (.f a_0 x_1 x_2 x_3)
noncomputable def sq86.l0 (a_0 x_1 x_2 x_3 b_8 b_9) := sq86_k.go (.l0 a_0 x_1 x_2 x_3 b_8 b_9)
noncomputable def sq86.j0 (a_0 x_1 x_2 x_3 b_8 b_9 x_10) := sq86_k.go (.j0 a_0 x_1 x_2 x_3 b_8 b_9 x_10)
noncomputable def sq86.j1 (a_0 x_1 x_2 x_3 b_8 b_9 x_10 x_11 x_12) := sq86_k.go (.j1 a_0 x_1 x_2 x_3 b_8 b_9 x_10 x_11 x_12)
noncomputable def sq86.j3 (a_0 x_1 x_2 x_3 b_8 b_9 x_10 x_11 b_68) := sq86_k.go (.j3 a_0 x_1 x_2 x_3 b_8 b_9 x_10 x_11 b_68)
noncomputable def sq86.j2 (a_0 x_1 x_2 x_3 b_8 b_9 x_10 x_11) := sq86_k.go (.j2 a_0 x_1 x_2 x_3 b_8 b_9 x_10 x_11)
noncomputable def sq86.j5 (a_0 x_1 x_2 x_3 b_8 b_9 x_10 x_11 b_87) := sq86_k.go (.j5 a_0 x_1 x_2 x_3 b_8 b_9 x_10 x_11 b_87)
noncomputable def sq86.j4 (a_0 x_1 x_2 x_3 x_10 x_11) := sq86_k.go (.j4 a_0 x_1 x_2 x_3 x_10 x_11)
theorem sq86_eq (a_0 x_1 x_2 x_3) : sq86 a_0 x_1 x_2 x_3 = (sq86.l0 a_0 x_1 x_2 x_3 true true) := fixF_eq sq86_k.mono _
theorem sq86.l0_eq (a_0 x_1 x_2 x_3 b_8 b_9) : sq86.l0 a_0 x_1 x_2 x_3 b_8 b_9 = if (IntKind.wrap .i64 (x_2 - x_1)) ≤ (12 : Int) then (Option.bind (sq104 a_0 x_1 x_2) fun y1 => some (y1)) else (if x_3 = (0 : Int) then (Option.bind (sq105 a_0 x_1 x_2) fun y13 => some (y13)) else (if b_8 = true then ((sq86.j0 a_0 x_1 x_2 x_3 b_8 b_9 (IntKind.wrap .i64 (x_2 - x_1)))) else (Option.bind (sq106 a_0 x_1 x_2) fun y25 => (sq86.j0 y25 x_1 x_2 (IntKind.wrap .i64 (x_3 - (1 : Int))) b_8 b_9 (IntKind.wrap .i64 (x_2 - x_1)))))) := fixF_eq sq86_k.mono _
theorem sq86.j0_eq (a_0 x_1 x_2 x_3 b_8 b_9 x_10) : sq86.j0 a_0 x_1 x_2 x_3 b_8 b_9 x_10 = Option.bind (sq107 a_0 x_1 x_2) fun y1 => if y1.2 = (2 : Int) then (Option.bind (sq108 a_0 x_1 x_2) fun y15 => (sq86.j1 y15 x_1 x_2 x_3 b_8 b_9 x_10 (IntKind.wrap .i64 ((IntKind.wrap .i64 (x_2 - (1 : Int))) - (IntKind.wrap .i64 (y1.1 - x_1)))) (1 : Int))) else ((sq86.j1 a_0 x_1 x_2 x_3 b_8 b_9 x_10 y1.1 y1.2)) := fixF_eq sq86_k.mono _
theorem sq86.j1_eq (a_0 x_1 x_2 x_3 b_8 b_9 x_10 x_11 x_12) : sq86.j1 a_0 x_1 x_2 x_3 b_8 b_9 x_10 x_11 x_12 = if b_8 = true then (if b_9 = true then ((sq86.j3 a_0 x_1 x_2 x_3 b_8 b_9 x_10 x_11 (x_12 == (1 : Int)))) else ((sq86.j3 a_0 x_1 x_2 x_3 b_8 b_9 x_10 x_11 false))) else ((sq86.j3 a_0 x_1 x_2 x_3 b_8 b_9 x_10 x_11 false)) := fixF_eq sq86_k.mono _
theorem sq86.j3_eq (a_0 x_1 x_2 x_3 b_8 b_9 x_10 x_11 b_68) : sq86.j3 a_0 x_1 x_2 x_3 b_8 b_9 x_10 x_11 b_68 = if b_68 = true then (Option.bind (sq109 a_0 x_1 x_2) fun y1 => if y1.1 = true then (some (y1.2)) else ((sq86.j2 y1.2 x_1 x_2 x_3 b_8 b_9 x_10 x_11))) else ((sq86.j2 a_0 x_1 x_2 x_3 b_8 b_9 x_10 x_11)) := fixF_eq sq86_k.mono _
theorem sq86.j2_eq (a_0 x_1 x_2 x_3 b_8 b_9 x_10 x_11) : sq86.j2 a_0 x_1 x_2 x_3 b_8 b_9 x_10 x_11 = if x_1 > (0 : Int) then (Option.bind (gi a_0 (IntKind.wrap .i64 (x_1 - (1 : Int)))) fun y1 => Option.bind (gi a_0 x_11) fun y8 => Option.bind (cmp_Less_110 y1 y8) fun y15 => (sq86.j5 a_0 x_1 x_2 x_3 b_8 b_9 x_10 x_11 (!y15))) else ((sq86.j5 a_0 x_1 x_2 x_3 b_8 b_9 x_10 x_11 false)) := fixF_eq sq86_k.mono _
theorem sq86.j5_eq (a_0 x_1 x_2 x_3 b_8 b_9 x_10 x_11 b_87) : sq86.j5 a_0 x_1 x_2 x_3 b_8 b_9 x_10 x_11 b_87 = if b_87 = true then (Option.bind (sq111 a_0 x_1 x_2 x_11) fun y1 => (sq86.l0 y1.2 y1.1 x_2 x_3 b_8 b_9)) else ((sq86.j4 a_0 x_1 x_2 x_3 x_10 x_11)) := fixF_eq sq86_k.mono _
theorem sq86.j4_eq (a_0 x_1 x_2 x_3 x_10 x_11) : sq86.j4 a_0 x_1 x_2 x_3 x_10 x_11 = Option.bind (sq112 a_0 x_1 x_2 x_11) fun y1 => if (IntKind.wrap .i64 (y1.1 - x_1)) < (IntKind.wrap .i64 (x_2 - y1.1)) then (Option.bind ((sq86 y1.2.2 x_1 y1.1 x_3)) fun y13 => (sq86.l0 y13 (IntKind.wrap .i64 (y1.1 + (1 : Int))) x_2 x_3 (decide ((IntKind.wrap .i64 (y1.1 - x_1)) ≥ (IntKind.wrap .i64 (Int.tdiv x_10 (8 : Int))))) y1.2.1)) else (Option.bind ((sq86 y1.2.2 (IntKind.wrap .i64 (y1.1 + (1 : Int))) x_2 x_3)) fun y25 => (sq86.l0 y25 x_1 y1.1 x_3 (decide ((IntKind.wrap .i64 (x_2 - y1.1)) ≥ (IntKind.wrap .i64 (Int.tdiv x_10 (8 : Int))))) y1.2.1)) := fixF_eq sq86_k.mono _
def sq86_k.I : (p : sq86_k.Pt) → ((List ByteArray)) → Prop
  | .f a_0 x_1 x_2 x_3, r => ∀ {W h m A_0 n_0 c_0} (O : Hold W h m h m [rR (aE tell_str) A_0 c_0 a_0]) (ne_0 : n_0 = List.length a_0), Run Tryd.prog 86 #[Value.slice A_0 n_0 c_0, Value.int .i64 x_1, Value.int .i64 x_2, Value.int .i64 x_3] h (sq86.post W A_0 n_0 c_0 h m r)
  | .l0 a_0 x_1 x_2 x_3 b_8 b_9, r => ∀ {W h0 m0 h m A_0 n_0 c_0} (O : Hold W h0 m0 h m [rR (aE tell_str) A_0 c_0 a_0]) (ne_0 : n_0 = List.length a_0), f86.l0 (sq86.post W A_0 n_0 c_0 h0 m0 r) A_0 n_0 c_0 x_1 x_2 x_3 b_8 b_9 h
  | .j0 a_0 x_1 x_2 x_3 b_8 b_9 x_10, r => ∀ {W h0 m0 h m A_0 n_0 c_0} (O : Hold W h0 m0 h m [rR (aE tell_str) A_0 c_0 a_0]) (ne_0 : n_0 = List.length a_0), f86.j0 (sq86.post W A_0 n_0 c_0 h0 m0 r) A_0 n_0 c_0 x_1 x_2 x_3 b_8 b_9 x_10 h
  | .j1 a_0 x_1 x_2 x_3 b_8 b_9 x_10 x_11 x_12, r => ∀ {W h0 m0 h m A_0 n_0 c_0} (O : Hold W h0 m0 h m [rR (aE tell_str) A_0 c_0 a_0]) (ne_0 : n_0 = List.length a_0), f86.j1 (sq86.post W A_0 n_0 c_0 h0 m0 r) A_0 n_0 c_0 x_1 x_2 x_3 b_8 b_9 x_10 x_11 x_12 h
  | .j3 a_0 x_1 x_2 x_3 b_8 b_9 x_10 x_11 b_68, r => ∀ {W h0 m0 h m A_0 n_0 c_0} (O : Hold W h0 m0 h m [rR (aE tell_str) A_0 c_0 a_0]) (ne_0 : n_0 = List.length a_0), f86.j3 (sq86.post W A_0 n_0 c_0 h0 m0 r) A_0 n_0 c_0 x_1 x_2 x_3 b_8 b_9 x_10 x_11 b_68 h
  | .j2 a_0 x_1 x_2 x_3 b_8 b_9 x_10 x_11, r => ∀ {W h0 m0 h m A_0 n_0 c_0} (O : Hold W h0 m0 h m [rR (aE tell_str) A_0 c_0 a_0]) (ne_0 : n_0 = List.length a_0), f86.j2 (sq86.post W A_0 n_0 c_0 h0 m0 r) A_0 n_0 c_0 x_1 x_2 x_3 b_8 b_9 x_10 x_11 h
  | .j5 a_0 x_1 x_2 x_3 b_8 b_9 x_10 x_11 b_87, r => ∀ {W h0 m0 h m A_0 n_0 c_0} (O : Hold W h0 m0 h m [rR (aE tell_str) A_0 c_0 a_0]) (ne_0 : n_0 = List.length a_0), f86.j5 (sq86.post W A_0 n_0 c_0 h0 m0 r) A_0 n_0 c_0 x_1 x_2 x_3 b_8 b_9 x_10 x_11 b_87 h
  | .j4 a_0 x_1 x_2 x_3 x_10 x_11, r => ∀ {W h0 m0 h m A_0 n_0 c_0} (O : Hold W h0 m0 h m [rR (aE tell_str) A_0 c_0 a_0]) (ne_0 : n_0 = List.length a_0), f86.j4 (sq86.post W A_0 n_0 c_0 h0 m0 r) A_0 n_0 c_0 x_1 x_2 x_3 x_10 x_11 h
theorem sq86_k.step_f (go : (p : sq86_k.Pt) → Option ((List ByteArray))) (ih : ∀ p r, go p = some r → sq86_k.I p r) (a_0 x_1 x_2 x_3) (r) (e : sq86_k.body go (.f a_0 x_1 x_2 x_3) = some r) : sq86_k.I (.f a_0 x_1 x_2 x_3) r := by
  unfold sq86_k.body at e
  intro W h m A_0 n_0 c_0 O ne_0
  subst ne_0
  refine f86.run ?_
  unfold f86.runT
  exact (ih _ _ e) (O.pick [0]).nm rfl
theorem sq86_k.step_l0 (go : (p : sq86_k.Pt) → Option ((List ByteArray))) (ih : ∀ p r, go p = some r → sq86_k.I p r) (a_0 x_1 x_2 x_3 b_8 b_9) (r) (e : sq86_k.body go (.l0 a_0 x_1 x_2 x_3 b_8 b_9) = some r) : sq86_k.I (.l0 a_0 x_1 x_2 x_3 b_8 b_9) r := by
  unfold sq86_k.body at e
  intro W h0 m0 h m A_0 n_0 c_0 O ne_0
  subst ne_0
  refine f86.l0_in ?_
  unfold f86.l0T
  refine split_dec_e e (fun c39 e => ?_) (fun c39 e => ?_)
  · obtain ⟨y1, g2, e⟩ := bind_e e
    obtain ⟨W7, P8, B9, C10⟩ := O.callC [0]
    refine (sq104.walk P8 rfl g2).mono ?_
    rintro _ h3 ⟨m4, Q5, rfl, hl11⟩
    have O12 := Hold.nm (C10 Q5 (vfs_cons (rR_vf (aE_vf (fun _ _ _ _ h => h))) vfs_nil))
    refine ⟨rfl, ?_⟩
    cases e
    exact ⟨_, O12.pick [1], rfl, hl11⟩
  · refine split_eq_e e (fun c38 e => ?_) (fun c38 e => ?_)
    · obtain ⟨y13, g14, e⟩ := bind_e e
      obtain ⟨W19, P20, B21, C22⟩ := O.callC [0]
      refine (sq105.walk P20 rfl g14).mono ?_
      rintro _ h15 ⟨m16, Q17, rfl, hl23⟩
      have O24 := Hold.nm (C22 Q17 (vfs_cons (rR_vf (aE_vf (fun _ _ _ _ h => h))) vfs_nil))
      refine ⟨rfl, ?_⟩
      cases e
      exact ⟨_, O24.pick [1], rfl, hl23⟩
    · refine split_not ?_
      refine split_any_e e (fun c37 e => ?_) (fun c37 e => ?_)
      · exact (ih _ _ e) (O.pick [0]).nm rfl
      · obtain ⟨y25, g26, e⟩ := bind_e e
        obtain ⟨W31, P32, B33, C34⟩ := O.callC [0]
        refine (sq106.walk P32 rfl g26).mono ?_
        rintro _ h27 ⟨m28, Q29, rfl, hl35⟩
        have O36 := Hold.nm (C34 Q29 (vfs_cons (rR_vf (aE_vf (fun _ _ _ _ h => h))) vfs_nil))
        refine ⟨rfl, ?_⟩
        exact (ih _ _ e) (O36.pick [1]).nm hl35
theorem sq86_k.step_j0 (go : (p : sq86_k.Pt) → Option ((List ByteArray))) (ih : ∀ p r, go p = some r → sq86_k.I p r) (a_0 x_1 x_2 x_3 b_8 b_9 x_10) (r) (e : sq86_k.body go (.j0 a_0 x_1 x_2 x_3 b_8 b_9 x_10) = some r) : sq86_k.I (.j0 a_0 x_1 x_2 x_3 b_8 b_9 x_10) r := by
  unfold sq86_k.body at e
  intro W h0 m0 h m A_0 n_0 c_0 O ne_0
  subst ne_0
  refine f86.j0_in ?_
  unfold f86.j0T
  obtain ⟨y1, g2, e⟩ := bind_e e
  obtain ⟨m7, u8, s13, ⟨⟨r11, k12⟩, _⟩, B9, C10⟩ := O.lend0 [0]
  replace r11 : Rd 1 eStr m7 A_0 a_0 := r11
  replace k12 : List.length a_0 ≤ c_0 := k12
  refine (sq107.walk (Hold.start (W := No) s13) rfl k12 r11 g2).mono ?_
  rintro _ h3 ⟨m4, Q5, rfl⟩
  have O14 := Hold.nm (C10 Q5 vfs_nil)
  refine ⟨_, _, rfl, ?_⟩
  refine split_eq_e e (fun c27 e => ?_) (fun c27 e => ?_)
  · obtain ⟨y15, g16, e⟩ := bind_e e
    obtain ⟨W21, P22, B23, C24⟩ := O14.callC [0]
    refine (sq108.walk P22 rfl g16).mono ?_
    rintro _ h17 ⟨m18, Q19, rfl, hl25⟩
    have O26 := Hold.nm (C24 Q19 (vfs_cons (rR_vf (aE_vf (fun _ _ _ _ h => h))) vfs_nil))
    refine ⟨rfl, ?_⟩
    exact (ih _ _ e) (O26.pick [1]).nm hl25
  · exact (ih _ _ e) (O14.pick [0]).nm rfl
theorem sq86_k.step_j1 (go : (p : sq86_k.Pt) → Option ((List ByteArray))) (ih : ∀ p r, go p = some r → sq86_k.I p r) (a_0 x_1 x_2 x_3 b_8 b_9 x_10 x_11 x_12) (r) (e : sq86_k.body go (.j1 a_0 x_1 x_2 x_3 b_8 b_9 x_10 x_11 x_12) = some r) : sq86_k.I (.j1 a_0 x_1 x_2 x_3 b_8 b_9 x_10 x_11 x_12) r := by
  unfold sq86_k.body at e
  intro W h0 m0 h m A_0 n_0 c_0 O ne_0
  subst ne_0
  refine f86.j1_in ?_
  unfold f86.j1T
  refine split_any_e e (fun c2 e => ?_) (fun c2 e => ?_)
  · refine split_any_e e (fun c1 e => ?_) (fun c1 e => ?_)
    · exact (ih _ _ e) (O.pick [0]).nm rfl
    · exact (ih _ _ e) (O.pick [0]).nm rfl
  · exact (ih _ _ e) (O.pick [0]).nm rfl
theorem sq86_k.step_j3 (go : (p : sq86_k.Pt) → Option ((List ByteArray))) (ih : ∀ p r, go p = some r → sq86_k.I p r) (a_0 x_1 x_2 x_3 b_8 b_9 x_10 x_11 b_68) (r) (e : sq86_k.body go (.j3 a_0 x_1 x_2 x_3 b_8 b_9 x_10 x_11 b_68) = some r) : sq86_k.I (.j3 a_0 x_1 x_2 x_3 b_8 b_9 x_10 x_11 b_68) r := by
  unfold sq86_k.body at e
  intro W h0 m0 h m A_0 n_0 c_0 O ne_0
  subst ne_0
  refine f86.j3_in ?_
  unfold f86.j3T
  refine split_any_e e (fun c14 e => ?_) (fun c14 e => ?_)
  · obtain ⟨y1, g2, e⟩ := bind_e e
    obtain ⟨W7, P8, B9, C10⟩ := O.callC [0]
    refine (sq109.walk P8 rfl g2).mono ?_
    rintro _ h3 ⟨m4, Q5, rfl, hl11⟩
    have O12 := Hold.nm (C10 Q5 (vfs_cons (rR_vf (aE_vf (fun _ _ _ _ h => h))) vfs_nil))
    refine ⟨_, rfl, ?_⟩
    refine split_any_e e (fun c13 e => ?_) (fun c13 e => ?_)
    · cases e
      exact ⟨_, O12.pick [1], rfl, hl11⟩
    · exact (ih _ _ e) (O12.pick [1]).nm hl11
  · exact (ih _ _ e) (O.pick [0]).nm rfl
theorem sq86_k.step_j2 (go : (p : sq86_k.Pt) → Option ((List ByteArray))) (ih : ∀ p r, go p = some r → sq86_k.I p r) (a_0 x_1 x_2 x_3 b_8 b_9 x_10 x_11) (r) (e : sq86_k.body go (.j2 a_0 x_1 x_2 x_3 b_8 b_9 x_10 x_11) = some r) : sq86_k.I (.j2 a_0 x_1 x_2 x_3 b_8 b_9 x_10 x_11) r := by
  unfold sq86_k.body at e
  intro W h0 m0 h m A_0 n_0 c_0 O ne_0
  subst ne_0
  refine f86.j2_in ?_
  unfold f86.j2T
  refine split_dec_e e (fun c22 e => ?_) (fun c22 e => ?_)
  · obtain ⟨y1, g2, e⟩ := bind_e e
    refine (O.os 0 rfl).addr rfl g2 fun a3 cs4 ha5 hc6 he7 => ?_
    obtain rfl : cs4 = [(Value.string y1)] := he7
    obtain ⟨y8, g9, e⟩ := bind_e e
    refine (O.os 0 rfl).addr rfl g9 fun a10 cs11 ha12 hc13 he14 => ?_
    obtain rfl : cs11 = [(Value.string y8)] := he14
    refine ⟨_, ld0 (Sub.refl _) hc6 rfl, _, rfl, ?_⟩
    refine ⟨_, ld0 (Sub.refl _) hc13 rfl, _, rfl, ?_⟩
    obtain ⟨y15, g16, e⟩ := bind_e e
    refine (cmp_Less_110.walk (Hold.start (W := No) O.s)  g16).mono ?_
    rintro _ h17 ⟨m18, Q19, rfl⟩
    have O21 := Hold.nm (O.retC Q19 vfs_nil)
    refine ⟨_, rfl, ?_⟩
    exact (ih _ _ e) (O21.pick [0]).nm rfl
  · exact (ih _ _ e) (O.pick [0]).nm rfl
theorem sq86_k.step_j5 (go : (p : sq86_k.Pt) → Option ((List ByteArray))) (ih : ∀ p r, go p = some r → sq86_k.I p r) (a_0 x_1 x_2 x_3 b_8 b_9 x_10 x_11 b_87) (r) (e : sq86_k.body go (.j5 a_0 x_1 x_2 x_3 b_8 b_9 x_10 x_11 b_87) = some r) : sq86_k.I (.j5 a_0 x_1 x_2 x_3 b_8 b_9 x_10 x_11 b_87) r := by
  unfold sq86_k.body at e
  intro W h0 m0 h m A_0 n_0 c_0 O ne_0
  subst ne_0
  refine f86.j5_in ?_
  unfold f86.j5T
  refine split_any_e e (fun c13 e => ?_) (fun c13 e => ?_)
  · obtain ⟨y1, g2, e⟩ := bind_e e
    obtain ⟨W7, P8, B9, C10⟩ := O.callC [0]
    refine (sq111.walk P8 rfl g2).mono ?_
    rintro _ h3 ⟨m4, Q5, rfl, hl11⟩
    have O12 := Hold.nm (C10 Q5 (vfs_cons (rR_vf (aE_vf (fun _ _ _ _ h => h))) vfs_nil))
    refine ⟨_, rfl, ?_⟩
    exact (ih _ _ e) (O12.pick [1]).nm hl11
  · exact (ih _ _ e) (O.pick [0]).nm rfl
theorem sq86_k.step_j4 (go : (p : sq86_k.Pt) → Option ((List ByteArray))) (ih : ∀ p r, go p = some r → sq86_k.I p r) (a_0 x_1 x_2 x_3 x_10 x_11) (r) (e : sq86_k.body go (.j4 a_0 x_1 x_2 x_3 x_10 x_11) = some r) : sq86_k.I (.j4 a_0 x_1 x_2 x_3 x_10 x_11) r := by
  unfold sq86_k.body at e
  intro W h0 m0 h m A_0 n_0 c_0 O ne_0
  subst ne_0
  refine f86.j4_in ?_
  unfold f86.j4T
  obtain ⟨y1, g2, e⟩ := bind_e e
  obtain ⟨W7, P8, B9, C10⟩ := O.callC [0]
  refine (sq112.walk P8 rfl g2).mono ?_
  rintro _ h3 ⟨m4, Q5, rfl, hl11⟩
  have O12 := Hold.nm (C10 Q5 (vfs_cons (rR_vf (aE_vf (fun _ _ _ _ h => h))) vfs_nil))
  refine ⟨_, _, rfl, ?_⟩
  refine ⟨by decide, ?_⟩
  refine split_dec_e e (fun c37 e => ?_) (fun c37 e => ?_)
  · obtain ⟨y13, g14, e⟩ := bind_e e
    obtain ⟨W19, P20, B21, C22⟩ := O12.callC [1]
    refine ((ih _ _ g14) P20 hl11).mono ?_
    rintro _ h15 ⟨m16, Q17, rfl, hl23⟩
    have O24 := Hold.nm (C22 Q17 (vfs_cons (rR_vf (aE_vf (fun _ _ _ _ h => h))) vfs_nil))
    refine ⟨rfl, ?_⟩
    exact (ih _ _ e) (O24.pick [2]).nm hl23
  · obtain ⟨y25, g26, e⟩ := bind_e e
    obtain ⟨W31, P32, B33, C34⟩ := O12.callC [1]
    refine ((ih _ _ g26) P32 hl11).mono ?_
    rintro _ h27 ⟨m28, Q29, rfl, hl35⟩
    have O36 := Hold.nm (C34 Q29 (vfs_cons (rR_vf (aE_vf (fun _ _ _ _ h => h))) vfs_nil))
    refine ⟨rfl, ?_⟩
    exact (ih _ _ e) (O36.pick [2]).nm hl35
theorem sq86_k.all {p : sq86_k.Pt} {r : ((List ByteArray))} (e : sq86_k.go p = some r) : sq86_k.I p r := fixF_ind (β := fun _ => ((List ByteArray))) sq86_k.mono (I := sq86_k.I) (fun go ih p r e => match p with
  | .f a_0 x_1 x_2 x_3 => sq86_k.step_f go ih a_0 x_1 x_2 x_3 r e
  | .l0 a_0 x_1 x_2 x_3 b_8 b_9 => sq86_k.step_l0 go ih a_0 x_1 x_2 x_3 b_8 b_9 r e
  | .j0 a_0 x_1 x_2 x_3 b_8 b_9 x_10 => sq86_k.step_j0 go ih a_0 x_1 x_2 x_3 b_8 b_9 x_10 r e
  | .j1 a_0 x_1 x_2 x_3 b_8 b_9 x_10 x_11 x_12 => sq86_k.step_j1 go ih a_0 x_1 x_2 x_3 b_8 b_9 x_10 x_11 x_12 r e
  | .j3 a_0 x_1 x_2 x_3 b_8 b_9 x_10 x_11 b_68 => sq86_k.step_j3 go ih a_0 x_1 x_2 x_3 b_8 b_9 x_10 x_11 b_68 r e
  | .j2 a_0 x_1 x_2 x_3 b_8 b_9 x_10 x_11 => sq86_k.step_j2 go ih a_0 x_1 x_2 x_3 b_8 b_9 x_10 x_11 r e
  | .j5 a_0 x_1 x_2 x_3 b_8 b_9 x_10 x_11 b_87 => sq86_k.step_j5 go ih a_0 x_1 x_2 x_3 b_8 b_9 x_10 x_11 b_87 r e
  | .j4 a_0 x_1 x_2 x_3 x_10 x_11 => sq86_k.step_j4 go ih a_0 x_1 x_2 x_3 x_10 x_11 r e
  ) e
theorem sq86.walk {W h m A_0 n_0 c_0 a_0 x_1 x_2 x_3} (O : Hold W h m h m [rR (aE tell_str) A_0 c_0 a_0]) (ne_0 : n_0 = List.length a_0) {r} (e : sq86 a_0 x_1 x_2 x_3 = some r) : Run Tryd.prog 86 #[Value.slice A_0 n_0 c_0, Value.int .i64 x_1, Value.int .i64 x_2, Value.int .i64 x_3] h (sq86.post W A_0 n_0 c_0 h m r) := sq86_k.all (p := .f a_0 x_1 x_2 x_3) e O ne_0
def slices_Sort_70.post (W : Nat → Prop) (Asl0 : Option Addr) (nsl0 csl0 : Nat) (h0 m0 : Heap) (r : (List ByteArray)) (v : Value) (h : Heap) : Prop := ∃ m , Hold W h0 m0 h m [rR (aE tell_str) Asl0 csl0 r] ∧ v = .tuple #[] ∧ nsl0 = List.length r
noncomputable def slices_Sort_70 (a_0 : List ByteArray) : Option ((List ByteArray)) :=
  Option.bind (math_bits_Len (IntKind.wrap .u64 (((List.length a_0) : Nat) : Int))) fun y1 => Option.bind (sq86 a_0 (0 : Int) (((List.length a_0) : Nat) : Int) y1) fun y8 => some (y8)
theorem slices_Sort_70.walk {W h m A_0 n_0 c_0 a_0} (O : Hold W h m h m [rR (aE tell_str) A_0 c_0 a_0]) (ne_0 : n_0 = List.length a_0) {r} (e : slices_Sort_70 a_0 = some r) : Run Tryd.prog 70 #[Value.slice A_0 n_0 c_0] h (slices_Sort_70.post W A_0 n_0 c_0 h m r) := by
  unfold slices_Sort_70 at e
  subst ne_0
  refine f70.run ?_
  unfold f70.runT
  obtain ⟨y1, g2, e⟩ := bind_e e
  refine (math_bits_Len.walk (Hold.start (W := No) O.s)  g2).mono ?_
  rintro _ h3 ⟨m4, Q5, rfl⟩
  have O7 := Hold.nm (O.retC Q5 vfs_nil)
  refine ⟨_, rfl, ?_⟩
  obtain ⟨y8, g9, e⟩ := bind_e e
  obtain ⟨W14, P15, B16, C17⟩ := O7.callC [0]
  refine (sq86.walk P15 rfl g9).mono ?_
  rintro _ h10 ⟨m11, Q12, rfl, hl18⟩
  have O19 := Hold.nm (C17 Q12 (vfs_cons (rR_vf (aE_vf (fun _ _ _ _ h => h))) vfs_nil))
  refine ⟨rfl, ?_⟩
  cases e
  exact ⟨_, O19.pick [1], rfl, hl18⟩
theorem slices_Sort_70.val (l : List ByteArray) (hn : l.length ≤ 1000000000000000000) : ∃ r, slices_Sort_70 l = some r ∧ r.Perm l ∧ r.Pairwise (· ≤ ·) := by
  have hl : ∀ x y : ByteArray, cmp_Less_110 x y = some (Op.bytesLess (ByteArray.toList x) (ByteArray.toList y)) := fun x y => by unfold cmp_Less_110 cmp_isNaN_131; rw [Option.bind_some, if_neg (by simp)]
  have hlen : ∀ x : Nat, x < 18446744073709551616 → ∃ k : Nat, math_bits_Len (x : Int) = some (k : Int) ∧ k ≤ 64 ∧ (1 ≤ x → 2 ^ k ≤ 2 * x) := by
    intro x hx
    obtain ⟨k, k1, k2⟩ := len_val (F := math_bits_Len64) (j0 := math_bits_Len64.j0) (j1 := math_bits_Len64.j1) (j2 := math_bits_Len64.j2) (fun x => rfl) (fun x n => rfl) (fun x n => rfl) (fun x n => rfl) x hx
    exact ⟨k, by unfold math_bits_Len; rw [k1, Option.bind_some], k2⟩
  have hu : ∀ x : Nat, x ≤ 1000000000000000000 → IntKind.wrap .u64 (x : Int) = x := fun x h => u64_in' (by omega) (by omega)
  have P := pdq_val (lt := fun x y : ByteArray => Op.bytesLess (ByteArray.toList x) (ByteArray.toList y)) ord3_str hl (f := sq86) (l0 := sq86.l0) (j0 := sq86.j0) (j1 := sq86.j1) (j2 := sq86.j2) (j3 := sq86.j3) (j4 := sq86.j4) (j5 := sq86.j5)
    (ins := sq104) (heap := sq105) (brk := sq106) (rev := sq108) (cho := sq107) (pi := sq109) (pe := sq111) (pt := sq112)
    (fun {a b l} h1 h2 h3 => by
      unfold sq104
      by_cases c : a = b
      · subst c
        exact ⟨l, .refl, fun i j _ _ k1 k2 k3 => by omega, by rw [w_succ (by omega), sq104.l0_eq, if_neg (by omega)]⟩
      · rw [w_succ (by omega)]
        exact insertion_val ord3_str hl (f0 := sq104.l0) (f1 := sq104.l1) (fun l a b i => sq104.l0_eq l a b i) (fun l a b i j => by rw [sq104.l1_eq]; simp only [sq104.j1_eq, sq104.j0_eq]) (b - (a + 1)) (a + 1) l (by omega) (by omega) h1 (by omega) (fun i j _ _ k1 k2 k3 => by omega))
    (fun {a b l} h1 h2 h3 => heapSort_val ord3_str hl (f := sq126.l0) (J1 := sq126.j1) (J0 := sq126.j0) (fun l hi a x => sq126.l0_eq l hi a x) (fun l hi a x c b => sq126.j1_eq l hi a x c b) (fun l hi a x c => sq126.j0_eq l hi a x c) (G := sq126) (H := sq105) (f0 := sq105.l0) (f1 := sq105.l1) (fun l lo hi a => rfl) (fun l a lo hi i => sq105.l0_eq l a lo hi i) (fun l a lo i => sq105.l1_eq l a lo i) (fun l a b => rfl) h1 h2 h3)
    (fun {a b l} h1 h2 h3 => by
      obtain ⟨n, rfl⟩ : ∃ n, b = a + n := ⟨b - a, by omega⟩
      unfold sq106
      have w1 : IntKind.wrap .i64 (((a + n : Nat) : Int) - (a : Int)) = (n : Int) := by rw [wrap_in (by omega) (by omega)]; omega
      have w2 : Int.tdiv (n : Int) 4 = ((n / 4 : Nat) : Int) := by rw [Int.tdiv_eq_ediv_of_nonneg (by omega)]; omega
      rw [w1, if_pos (by omega)]
      unfold slices_nextPowerOfTwo
      obtain ⟨k, k1, k2, k3⟩ := hlen n (by omega)
      have k4 := k3 (by omega)
      rw [hu n (by omega), k1, Option.bind_some, if_pos (by omega), Option.bind_some, shl_one (by omega), w2, wrap_in (n := ((n / 4 : Nat) : Int)) (by omega) (by omega), wrap_in (n := ((n / 4 : Nat) : Int) * 2) (by omega) (by omega), wrap_in (n := (a : Int) + ((n / 4 : Nat) : Int) * 2) (by omega) (by omega), wrap_in (by omega) (by omega), show (a : Int) + ((n / 4 : Nat) : Int) * 2 - 1 = ((a + n / 4 * 2 - 1 : Nat) : Int) by omega]
      exact brk_val (F := sq106.l0) (J := sq106.j1) (nx := slices_xorshift_Next) (fun y => ⟨_, rfl⟩) (fun l a n y m i => sq106.l0_eq l a n y m i) (fun l a n y m i o => by rw [sq106.j1_eq]; simp only [sq106.j0_eq]) (Nat.one_le_two_pow) k4 (by omega) 3 (a + n / 4 * 2 - 1) l _ (by omega) (by omega) (by omega) (by omega))
    (fun {a b l} h1 h2 h3 => by
      unfold sq108
      rw [wrap_in (by omega) (by omega), show (b : Int) - 1 = ((b - 1 : Nat) : Int) by omega]
      exact rev_val (f := sq108.l0) (fun l x y => sq108.l0_eq l x y) b a (b - 1) l (by omega) (Nat.le_refl _) (by omega) h2 h3)
    (fun {a b l} h1 h2 h3 => choose_val hl (o := sq146) (fun l x1 x2 y3 => rfl) (md := sq130) (fun l x1 x2 x3 y4 => rfl) (ma := sq129) (fun l x y => rfl) (j0 := sq107.j0) (fun y x => rfl) (j1 := sq107.j1) (fun l y x1 x2 x3 => rfl) (ch := sq107) (fun l a b => rfl) h1 h2 h3)
    (fun {a b l} h1 h2 h3 h4 => pins_val ord3_str hl (l0 := sq109.l0) (l1 := sq109.l1) (l2 := sq109.l2) (l3 := sq109.l3) (j0 := sq109.j0) (j1 := sq109.j1) (j2 := sq109.j2) (j3 := sq109.j3) (P := sq109)
      (fun l a b i s => sq109.l0_eq l a b i s) (fun l a b i s => sq109.l1_eq l a b i s) (fun l a b i s => sq109.j2_eq l a b i s) (fun l a b i s => sq109.j1_eq l a b i s) (fun l a b i s j => sq109.l2_eq l a b i s j) (fun l a b i s => sq109.j3_eq l a b i s) (fun l a b i s j => sq109.l3_eq l a b i s j) (fun l a b i s => sq109.j0_eq l a b i s) (fun l a b => rfl) h1 h2 h3 h4)
    (fun {a b p l} h1 h2 h3 h4 => parte_val ord3_str hl (l0 := sq111.l0) (l1 := sq111.l1) (l2 := sq111.l2) (j0 := sq111.j0) (j1 := sq111.j1) (j2 := sq111.j2) (j3 := sq111.j3) (P := sq111)
      (fun l a b p => rfl) (fun l a i j => sq111.l0_eq l a i j) (fun l a i j => sq111.l1_eq l a i j) (fun l a i j => sq111.j2_eq l a i j) (fun l a i j => sq111.j0_eq l a i j) (fun l a i j => sq111.l2_eq l a i j) (fun l a i j => sq111.j3_eq l a i j) (fun l a i j => sq111.j1_eq l a i j) h1 h2 h3 h4)
    (fun {a b p l} h1 h2 h3 h4 => part_val ord3_str hl (k0 := sq112.l0) (kj2 := sq112.j2) (kj0 := sq112.j0) (k1 := sq112.l1) (kj3 := sq112.j3) (J1 := sq112.j1) (l2 := sq112.l2) (l3 := sq112.l3) (j7 := sq112.j7) (j5 := sq112.j5) (l4 := sq112.l4) (j8 := sq112.j8) (j6 := sq112.j6) (j4 := sq112.j4) (P := sq112)
      (fun l a b p => rfl) (fun l a i j => sq112.l0_eq l a i j) (fun l a i j => sq112.j2_eq l a i j) (fun l a i j => rfl) (fun l a i j => sq112.l1_eq l a i j) (fun l a i j => sq112.j3_eq l a i j) (fun l a i j => rfl) (fun l a i j => sq112.l2_eq l a i j) (fun l a i j => sq112.l3_eq l a i j) (fun l a i j => sq112.j7_eq l a i j) (fun l a i j => sq112.j5_eq l a i j) (fun l a i j => sq112.l4_eq l a i j) (fun l a i j => sq112.j8_eq l a i j) (fun l a i j => sq112.j6_eq l a i j) (fun l a j => rfl) h1 h2 h3 h4)
    (fun l a b lim => sq86_eq l a b lim) (fun l a b lim b8 b9 => sq86.l0_eq l a b lim b8 b9) (fun l a b lim b8 b9 n => sq86.j0_eq l a b lim b8 b9 n) (fun l a b lim b8 b9 n p h => sq86.j1_eq l a b lim b8 b9 n p h) (fun l a b lim b8 b9 n p c => sq86.j3_eq l a b lim b8 b9 n p c) (fun l a b lim b8 b9 n p => sq86.j2_eq l a b lim b8 b9 n p) (fun l a b lim b8 b9 n p c => sq86.j5_eq l a b lim b8 b9 n p c) (fun l a b lim n p => sq86.j4_eq l a b lim n p)
  obtain ⟨k, k1, _⟩ := hlen l.length (by omega)
  obtain ⟨r, t1, t2, t3⟩ := P l.length 0 l.length l (k : Int) true true (by omega) (by omega) (Nat.le_refl _) hn (fun i h0 hi h => by omega)
  refine ⟨r, ?_, t1.1, Srt.all (by rw [t1.len]; exact t2)⟩
  unfold slices_Sort_70
  rw [hu _ hn, k1, Option.bind_some, sq86_eq]
  rw [show (0 : Int) = ((0 : Nat) : Int) from rfl, t3, Option.bind_some]
def slices_Compact_71.post (W : Nat → Prop) (h0 m0 : Heap) (r : (List ByteArray)) (v : Value) (h : Heap) : Prop := ∃ m A0 n0 c0, Hold W h0 m0 h m [rR (aE tell_str) A0 c0 r] ∧ v = .slice A0 n0 c0 ∧ n0 = List.length r
def slices_Compact_71.dq (y : ByteArray) : List ByteArray → List ByteArray
  | [] => []
  | x :: l => if x = y then slices_Compact_71.dq y l else x :: slices_Compact_71.dq x l
def slices_Compact_71.dd : List ByteArray → List ByteArray
  | [] => []
  | y :: l => y :: slices_Compact_71.dq y l
noncomputable def slices_Compact_71 (a0 : List ByteArray) : Option (List ByteArray) := if List.length a0 ≤ 1000000000000000 then some (slices_Compact_71.dd a0) else none
theorem slices_Compact_71.l1_walk {W : Nat → Prop} {h0 m0 m : Heap} {A0 : Option Addr} {c0 : Nat} (k : Nat) : ∀ (rest out junk : List ByteArray) (y : ByteArray) (h : Heap) (O : Hold W h0 m0 h m [rR (aE tell_str) A0 c0 (out ++ junk ++ y :: rest)]) (N : Nat) (hN : N = (out ++ junk ++ y :: rest).length) (hb : N ≤ 1000000000000000) (k2 : Nat) (hk : k + k2 = out.length + junk.length + 1) (hk1 : 1 ≤ k2),
    f71.l1 (slices_Compact_71.post W h0 m0 (out ++ slices_Compact_71.dq y rest)) A0 N c0 (out.length : Int) (sliceA A0 k c0 1) (N - k) (c0 - k) (k2 : Int) h := by
  intro rest
  induction rest with
  | nil =>
    intro out junk y h O N hN hb k2 hk hk1
    subst hN
    refine f71.l1_in ?_
    unfold f71.l1T
    have hl : (out ++ junk ++ [y]).length = out.length + junk.length + 1 := by simp only [List.length_append, List.length_cons, List.length_nil]
    have hc := O.cap 0 rfl
    refine split_dec (fun c => absurd c (by omega)) (fun _ => ?_)
    have g : sls (out ++ junk ++ [y]) (out.length : Int) ((out ++ junk ++ [y]).length : Int) = some ((out ++ junk ++ [y]).drop out.length) := sls_drop rfl (by omega)
    refine ⟨by omega, by omega, by omega, ?_⟩
    have e : Int.toNat (((out ++ junk ++ [y]).length : Nat) : Int) - Int.toNat (out.length : Int) = ((out ++ junk ++ [y]).drop out.length).length := by rw [List.length_drop]; omega
    rw [e]
    refine O.clr (zp := ByteArray.mk #[]) 0 rfl g (e := 9) (zv := Value.string (ByteArray.mk #[])) (by kernel_rfl) (by kernel_rfl) rfl fun h' O' => ?_
    have g2 : sls (clrL (out ++ junk ++ [y]) (out.length : Int) ((out ++ junk ++ [y]).length : Int) (ByteArray.mk #[])) 0 (out.length : Int) = some out := by
      have hl2 := clrL_len (l := out ++ junk ++ [y]) (lo := (out.length : Int)) (hi := ((out ++ junk ++ [y]).length : Int)) (z := ByteArray.mk #[]) (by omega) (by omega)
      rw [sls_take rfl (by omega)]
      unfold clrL
      have t1 : List.take out.length (out ++ junk ++ [y]) = out := by rw [List.append_assoc]; exact List.take_left
      rw [Int.toNat_natCast out.length, t1, List.append_assoc, List.take_left]
    refine ⟨rfl, by decide, by omega, by omega, ?_⟩
    have O2 := O'.sls 0 rfl g2
    rw [slices_Compact_71.dq, List.append_nil]
    exact ⟨m, _, _, _, O2.pick [0], rfl, by simp⟩
  | cons x rest ih =>
    intro out junk y h O N hN hb k2 hk hk1
    subst hN
    refine f71.l1_in ?_
    unfold f71.l1T
    have hl : (out ++ junk ++ y :: x :: rest).length = out.length + junk.length + rest.length + 2 := by simp only [List.length_append, List.length_cons]; omega
    have hc := O.cap 0 rfl
    refine split_dec (fun _ => ?_) (fun c => absurd (show ((k2 : Nat) : Int) < _ by omega) c)
    have g0 : sls (out ++ junk ++ y :: x :: rest) (k : Int) ((out ++ junk ++ y :: x :: rest).length : Int) = some ((out ++ junk ++ y :: x :: rest).drop k) := sls_drop rfl (by omega)
    have o2 := (O.os 0 rfl).sls g0 (mx := c0) (by omega) (Nat.le_refl _)
    rw [Int.toNat_natCast] at o2
    have q1 : gi ((out ++ junk ++ y :: x :: rest).drop k) (k2 : Int) = some x := by
      refine gi_some rfl ?_
      rw [List.getElem?_drop, hk, List.getElem?_append_right (by simp only [List.length_append]; omega), List.length_append, show out.length + junk.length + 1 - (out.length + junk.length) = 1 by omega]
      rfl
    have w1 : IntKind.wrap .i64 ((k2 : Int) - (1 : Int)) = ((k2 - 1 : Nat) : Int) := by rw [wrap_in (by omega) (by omega)]; omega
    have q0 : gi ((out ++ junk ++ y :: x :: rest).drop k) ((k2 - 1 : Nat) : Int) = some y := by
      refine gi_some rfl ?_
      rw [List.getElem?_drop, show k + (k2 - 1) = out.length + junk.length by omega, List.getElem?_append_right (by simp only [List.length_append]; omega), List.length_append, Nat.sub_self]
      rfl
    rw [w1]
    have hn : (out ++ junk ++ y :: x :: rest).length - k = ((out ++ junk ++ y :: x :: rest).drop k).length := List.length_drop.symm
    refine o2.addr hn q1 fun a3 cs4 ha5 hc6 he7 => ?_
    obtain rfl : cs4 = [(Value.string x)] := he7
    refine o2.addr hn q0 fun a10 cs11 ha12 hc13 he14 => ?_
    obtain rfl : cs11 = [(Value.string y)] := he14
    refine ⟨_, ld0 (Sub.refl _) hc6 rfl, _, rfl, ?_⟩
    refine ⟨_, ld0 (Sub.refl _) hc13 rfl, _, rfl, ?_⟩
    rw [ba_list x y]
    by_cases e : x = y
    · rw [decide_eq_true e]
      refine split_f ?_
      refine f71.j0_in ?_
      unfold f71.j0T
      rw [w_succ (by omega)]
      have hr : slices_Compact_71.dq y (x :: rest) = slices_Compact_71.dq x rest := by rw [slices_Compact_71.dq, if_pos e, e]
      rw [hr]
      have hL : out ++ junk ++ y :: x :: rest = out ++ (junk ++ [y]) ++ x :: rest := by simp
      rw [hL] at O ⊢
      exact ih out (junk ++ [y]) x h O _ rfl (by rw [← hL]; exact hb) (k2 + 1) (by simp only [List.length_append, List.length_cons, List.length_nil]; omega) (by omega)
    · rw [decide_eq_false e]
      refine split_t ?_
      refine o2.addr hn q1 fun a17 cs18 ha19 hc20 he21 => ?_
      obtain rfl : cs18 = [(Value.string x)] := he21
      refine ⟨_, ld0 (Sub.refl _) hc20 rfl, _, rfl, ?_⟩
      obtain ⟨j0, js, hj⟩ : ∃ j0 js, junk ++ [y] = j0 :: js := by
        cases junk with
        | nil => exact ⟨_, _, rfl⟩
        | cons a b => exact ⟨_, _, rfl⟩
      have hL : out ++ junk ++ y :: x :: rest = out ++ j0 :: (js ++ x :: rest) := by
        have : out ++ junk ++ y :: x :: rest = out ++ (junk ++ [y]) ++ x :: rest := by simp
        rw [this, hj]; simp
      have hjl : js.length = junk.length := by have := congrArg List.length hj; simp at this; omega
      have qs : gi (out ++ junk ++ y :: x :: rest) (out.length : Int) = some j0 := by
        rw [hL]
        refine gi_some rfl ?_
        rw [List.getElem?_append_right (Nat.le_refl _), Nat.sub_self]
        rfl
      have es : (out ++ junk ++ y :: x :: rest).set (Int.toNat (out.length : Int)) x = (out ++ [x]) ++ js ++ x :: rest := by
        rw [hL, Int.toNat_natCast, List.set_append_right _ _ (Nat.le_refl _), Nat.sub_self, List.set_cons_zero]
        simp
      refine (O.os 0 rfl).addr rfl qs fun a22 cs23 ha24 hc25 he26 => ?_
      obtain rfl : cs23 = [(Value.string j0)] := he26
      refine O.elst0 0 rfl qs ha24 hc25 (by decide) (y' := x) rfl trivial es fun h28 O29 => ?_
      refine f71.j0_in ?_
      unfold f71.j0T
      rw [w_succ (by omega), w_succ (by omega)]
      have hr : out ++ slices_Compact_71.dq y (x :: rest) = (out ++ [x]) ++ slices_Compact_71.dq x rest := by rw [slices_Compact_71.dq, if_neg e]; simp
      rw [hr]
      have hN2 : (out ++ junk ++ y :: x :: rest).length = ((out ++ [x]) ++ js ++ x :: rest).length := by rw [← es, List.length_set]
      have := ih (out ++ [x]) js x h28 O29 _ rfl (by rw [← hN2]; exact hb) (k2 + 1) (by simp only [List.length_append, List.length_cons, List.length_nil]; omega) (by omega)
      rw [← hN2] at this
      rw [show (out ++ [x]).length = out.length + 1 by simp] at this
      exact this
theorem slices_Compact_71.l0_walk {W : Nat → Prop} {h0 m0 h m : Heap} {A0 : Option Addr} {c0 : Nat} : ∀ (rest pre : List ByteArray) (y : ByteArray) (O : Hold W h0 m0 h m [rR (aE tell_str) A0 c0 (pre ++ y :: rest)]) (N : Nat) (hN : N = (pre ++ y :: rest).length) (hb : N ≤ 1000000000000000),
    f71.l0 (slices_Compact_71.post W h0 m0 (pre ++ y :: slices_Compact_71.dq y rest)) A0 N c0 ((pre.length + 1 : Nat) : Int) h := by
  intro rest
  induction rest with
  | nil =>
    intro pre y O N hN hb
    subst hN
    refine f71.l0_in ?_
    unfold f71.l0T
    refine split_dec (fun c => absurd c (by simp only [List.length_append, List.length_cons, List.length_nil]; omega)) (fun _ => ?_)
    exact ⟨m, _, _, _, O.pick [0], rfl, rfl⟩
  | cons x rest ih =>
    intro pre y O N hN hb
    subst hN
    refine f71.l0_in ?_
    unfold f71.l0T
    have hl : (pre ++ y :: x :: rest).length = pre.length + rest.length + 2 := by simp only [List.length_append, List.length_cons]; omega
    have hc := O.cap 0 rfl
    refine split_dec (fun _ => ?_) (fun c => absurd (show ((pre.length + 1 : Nat) : Int) < _ by omega) c)
    have q1 : gi (pre ++ y :: x :: rest) ((pre.length + 1 : Nat) : Int) = some x := by
      refine gi_some rfl ?_
      rw [List.getElem?_append_right (by omega), show pre.length + 1 - pre.length = 1 by omega]
      rfl
    have w1 : IntKind.wrap .i64 (((pre.length + 1 : Nat) : Int) - (1 : Int)) = (pre.length : Int) := by rw [wrap_in (by omega) (by omega)]; omega
    have q0 : gi (pre ++ y :: x :: rest) (pre.length : Int) = some y := by
      refine gi_some rfl ?_
      rw [List.getElem?_append_right (Nat.le_refl _), Nat.sub_self]
      rfl
    rw [w1]
    refine (O.os 0 rfl).addr rfl q1 fun a3 cs4 ha5 hc6 he7 => ?_
    obtain rfl : cs4 = [(Value.string x)] := he7
    refine (O.os 0 rfl).addr rfl q0 fun a10 cs11 ha12 hc13 he14 => ?_
    obtain rfl : cs11 = [(Value.string y)] := he14
    refine ⟨_, ld0 (Sub.refl _) hc6 rfl, _, rfl, ?_⟩
    refine ⟨_, ld0 (Sub.refl _) hc13 rfl, _, rfl, ?_⟩
    rw [ba_list x y]
    by_cases e : x = y
    · rw [decide_eq_true e]
      refine split_t ?_
      refine ⟨by omega, by omega, by omega, ?_⟩
      have hr : pre ++ y :: slices_Compact_71.dq y (x :: rest) = (pre ++ [y]) ++ slices_Compact_71.dq x rest := by rw [slices_Compact_71.dq, if_pos e, e]; simp
      rw [hr]
      have hL : pre ++ y :: x :: rest = (pre ++ [y]) ++ [] ++ x :: rest := by simp
      have hp : (pre ++ [y]).length = pre.length + 1 := by simp
      have := slices_Compact_71.l1_walk (W := W) (h0 := h0) (m0 := m0) (m := m) (A0 := A0) (c0 := c0) (pre.length + 1) rest (pre ++ [y]) [] x h (by rw [← hL]; exact O) _ rfl (by rw [← hL]; exact hb) 1 (by simp) (Nat.le_refl _)
      rw [← hL, hp] at this
      exact this
    · rw [decide_eq_false e]
      refine split_f ?_
      have hr : pre ++ y :: slices_Compact_71.dq y (x :: rest) = (pre ++ [y]) ++ x :: slices_Compact_71.dq x rest := by rw [slices_Compact_71.dq, if_neg e]; simp
      rw [hr, w_succ (by omega)]
      have hL : pre ++ y :: x :: rest = (pre ++ [y]) ++ x :: rest := by simp
      have hp : (pre ++ [y]).length = pre.length + 1 := by simp
      have := ih (pre ++ [y]) x (by rw [← hL]; exact O) _ rfl (by rw [← hL]; exact hb)
      rw [← hL, hp] at this
      exact this
theorem slices_Compact_71.walk {W : Nat → Prop} {h m : Heap} {A0 : Option Addr} {n0 c0 : Nat} {a0 : List ByteArray} (O : Hold W h m h m [rR (aE tell_str) A0 c0 a0]) (ne0 : n0 = List.length a0) {r : List ByteArray} (e : slices_Compact_71 a0 = some r) : Run Tryd.prog 71 #[Value.slice A0 n0 c0] h (slices_Compact_71.post W h m r) := by
  unfold slices_Compact_71 at e
  subst ne0
  obtain ⟨g, e⟩ := guard_e e
  cases e
  refine f71.run ?_
  unfold f71.runT
  match a0, O, g with
  | [], O, g => exact split_dec (fun _ => ⟨m, _, _, _, O.pick [0], rfl, rfl⟩) (fun c => absurd (by decide) c)
  | y :: rest, O, g =>
    refine split_dec (fun c => ?_) (fun c => ?_)
    · have hr : rest = [] := by
        cases rest with
        | nil => rfl
        | cons a b => simp only [List.length_cons] at c; omega
      subst hr
      exact ⟨m, _, _, _, O.pick [0], rfl, rfl⟩
    · exact slices_Compact_71.l0_walk (W := W) (h0 := h) (m0 := m) (h := h) (m := m) (A0 := A0) (c0 := c0) rest [] y O _ rfl g
def roadref2_doubled.post (W : Nat → Prop) (h0 m0 : Heap) (r : Bool) (v : Value) (h : Heap) : Prop := ∃ m , Hold W h0 m0 h m [] ∧ v = .bool r
noncomputable def roadref2_doubled (a_0 : List ByteArray) : Option (Bool) :=
  Option.bind (slices_Clone_69 a_0) fun y1 => Option.bind (slices_Sort_70 y1) fun y13 => Option.bind (slices_Compact_71 y13) fun y25 => some ((decide ((((List.length y25) : Nat) : Int) < (((List.length a_0) : Nat) : Int))))
theorem roadref2_doubled.walk {W h m A_0 n_0 c_0 a_0} (O : Hold W h m h m []) (ne_0 : n_0 = List.length a_0) (k_0 : List.length a_0 ≤ c_0) (r_0 : Rd 1 eStr m A_0 a_0) {r} (e : roadref2_doubled a_0 = some r) : Run Tryd.prog 43 #[Value.slice A_0 n_0 c_0] h (roadref2_doubled.post W h m r) := by
  unfold roadref2_doubled at e
  subst ne_0
  refine f43.run ?_
  unfold f43.runT
  obtain ⟨y1, g2, e⟩ := bind_e e
  refine (slices_Clone_69.walk (Hold.start (W := No) O.s) rfl k_0 r_0 g2).mono ?_
  rintro _ h3 ⟨m4, A7, n8, c9, Q5, rfl, ne10⟩
  have O12 := Hold.nm (O.retC Q5 (vfs_cons (rR_vf (aE_vf (fun _ _ _ _ h => h))) vfs_nil))
  subst ne10
  refine ⟨_, _, _, rfl, ?_⟩
  obtain ⟨y13, g14, e⟩ := bind_e e
  obtain ⟨W19, P20, B21, C22⟩ := O12.callC [0]
  refine (slices_Sort_70.walk P20 rfl g14).mono ?_
  rintro _ h15 ⟨m16, Q17, rfl, hl23⟩
  have O24 := Hold.nm (C22 Q17 (vfs_cons (rR_vf (aE_vf (fun _ _ _ _ h => h))) vfs_nil))
  refine ⟨rfl, ?_⟩
  obtain ⟨y25, g26, e⟩ := bind_e e
  obtain ⟨W31, P32, B33, C34⟩ := O24.callC [1]
  refine (slices_Compact_71.walk P32 hl23 g26).mono ?_
  rintro _ h27 ⟨m28, A35, n36, c37, Q29, rfl, ne38⟩
  have O40 := Hold.nm (C34 Q29 (vfs_cons (rR_vf (aE_vf (fun _ _ _ _ h => h))) vfs_nil))
  subst ne38
  refine ⟨_, _, _, rfl, ?_⟩
  cases e
  exact ⟨_, O40.pick [], rfl⟩
def roadref2_TraitErr.post (W : Nat → Prop) (h0 m0 : Heap) (r : Int) (v : Value) (h : Heap) : Prop := ∃ m , Hold W h0 m0 h m [] ∧ v = .int .i64 r
inductive roadref2_TraitErr.l0_k.Pt where
  | l0 (a_3 : List ByteArray) (a_7 : List T_api_Func) (x_8 : Int) (x_9 : Int)
  | j0 (a_3 : List ByteArray) (y_5 : T_api_Func) (a_7 : List T_api_Func) (x_8 : Int) (x_9 : Int)
noncomputable def roadref2_TraitErr.l0_k.body (go : (p : roadref2_TraitErr.l0_k.Pt) → Option (Int)) : (p : roadref2_TraitErr.l0_k.Pt) → Option (Int)
  | .l0 a_3 a_7 x_8 x_9 => if x_9 < x_8 then (Option.bind (gi a_7 x_9) fun y1 => if (((List.length y1.Types) : Nat) : Int) = (0 : Int) then (some ((12 : Int))) else (Option.bind (gi y1.Types (0 : Int)) fun y25 => if y25.Kind = (5 : Int) then (Option.bind (gi y1.Types (0 : Int)) fun y38 => if y38.Name = (ByteArray.mk #[115, 101, 108, 102]) then (Option.bind (gi y1.Types (0 : Int)) fun y50 => if (((List.length y50.Args) : Nat) : Int) > (0 : Int) then (some ((12 : Int))) else ((go (.j0 a_3 y1 a_7 x_8 x_9)))) else (some ((12 : Int)))) else (some ((12 : Int))))) else (Option.bind (roadref2_doubled a_3) fun y69 => if y69 = true then (some ((11 : Int))) else (some ((0 : Int))))
  | .j0 a_3 y_5 a_7 x_8 x_9 => Option.bind (ap 16 a_3 ([y_5.Name] : List ByteArray)) fun l5 => (go (.l0 l5 a_7 x_8 (IntKind.wrap .i64 (x_9 + (1 : Int)))))
theorem roadref2_TraitErr.l0_k.mono : MonoF (β := fun _ => (Int)) roadref2_TraitErr.l0_k.body := fun f g hfg p => match p with
  | .l0 a_3 a_7 x_8 x_9 => LeO.ite (LeO.bind (LeO.refl _) fun y1 => LeO.ite (LeO.refl _) (LeO.bind (LeO.refl _) fun y25 => LeO.ite (LeO.bind (LeO.refl _) fun y38 => LeO.ite (LeO.bind (LeO.refl _) fun y50 => LeO.ite (LeO.refl _) ((hfg _))) (LeO.refl _)) (LeO.refl _))) (LeO.bind (LeO.refl _) fun y69 => LeO.ite (LeO.refl _) (LeO.refl _))
  | .j0 a_3 y_5 a_7 x_8 x_9 => LeO.bind (LeO.refl _) fun l5 => (hfg _)
noncomputable def roadref2_TraitErr.l0_k.go (p : roadref2_TraitErr.l0_k.Pt) : Option (Int) := fixF (β := fun _ => (Int)) roadref2_TraitErr.l0_k.body p
noncomputable def roadref2_TraitErr.l0 (a_3 a_7 x_8 x_9) := roadref2_TraitErr.l0_k.go (.l0 a_3 a_7 x_8 x_9)
noncomputable def roadref2_TraitErr.j0 (a_3 y_5 a_7 x_8 x_9) := roadref2_TraitErr.l0_k.go (.j0 a_3 y_5 a_7 x_8 x_9)
theorem roadref2_TraitErr.l0_eq (a_3 a_7 x_8 x_9) : roadref2_TraitErr.l0 a_3 a_7 x_8 x_9 = if x_9 < x_8 then (Option.bind (gi a_7 x_9) fun y1 => if (((List.length y1.Types) : Nat) : Int) = (0 : Int) then (some ((12 : Int))) else (Option.bind (gi y1.Types (0 : Int)) fun y25 => if y25.Kind = (5 : Int) then (Option.bind (gi y1.Types (0 : Int)) fun y38 => if y38.Name = (ByteArray.mk #[115, 101, 108, 102]) then (Option.bind (gi y1.Types (0 : Int)) fun y50 => if (((List.length y50.Args) : Nat) : Int) > (0 : Int) then (some ((12 : Int))) else ((roadref2_TraitErr.j0 a_3 y1 a_7 x_8 x_9))) else (some ((12 : Int)))) else (some ((12 : Int))))) else (Option.bind (roadref2_doubled a_3) fun y69 => if y69 = true then (some ((11 : Int))) else (some ((0 : Int)))) := fixF_eq roadref2_TraitErr.l0_k.mono _
theorem roadref2_TraitErr.j0_eq (a_3 y_5 a_7 x_8 x_9) : roadref2_TraitErr.j0 a_3 y_5 a_7 x_8 x_9 = Option.bind (ap 16 a_3 ([y_5.Name] : List ByteArray)) fun l5 => (roadref2_TraitErr.l0 l5 a_7 x_8 (IntKind.wrap .i64 (x_9 + (1 : Int)))) := fixF_eq roadref2_TraitErr.l0_k.mono _
def roadref2_TraitErr.l0_k.I : (p : roadref2_TraitErr.l0_k.Pt) → (Int) → Prop
  | .l0 a_3 a_7 x_8 x_9, r => ∀ {W h0 m0 h m A_3 n_3 c_3 A_7 n_7 c_7} (O : Hold W h0 m0 h m [rR (aE tell_str) A_3 c_3 a_3]) (ne_3 : n_3 = List.length a_3) (ne_7 : n_7 = List.length a_7) (k_7 : List.length a_7 ≤ c_7) (r_7 : Rd 15 T_api_Func.E m A_7 a_7), f16.l0 (roadref2_TraitErr.post W h0 m0 r) A_3 n_3 c_3 A_7 n_7 c_7 x_8 x_9 h
  | .j0 a_3 y_5 a_7 x_8 x_9, r => ∀ {W h0 m0 h m A_3 n_3 c_3 bk_5 cs_5 A_7 n_7 c_7} (O : Hold W h0 m0 h m [rR (aE tell_str) A_3 c_3 a_3, rV bk_5 56 cs_5]) (ne_3 : n_3 = List.length a_3) (e_5 : T_api_Func.E m y_5 cs_5) (ne_7 : n_7 = List.length a_7) (k_7 : List.length a_7 ≤ c_7) (r_7 : Rd 15 T_api_Func.E m A_7 a_7), f16.j0 (roadref2_TraitErr.post W h0 m0 r) A_3 n_3 c_3 (⟨bk_5, 0, none⟩ : Addr) A_7 n_7 c_7 x_8 x_9 h
set_option maxHeartbeats 4000000 in
theorem roadref2_TraitErr.l0_k.step_l0 (go : (p : roadref2_TraitErr.l0_k.Pt) → Option (Int)) (ih : ∀ p r, go p = some r → roadref2_TraitErr.l0_k.I p r) (a_3 a_7 x_8 x_9) (r) (e : roadref2_TraitErr.l0_k.body go (.l0 a_3 a_7 x_8 x_9) = some r) : roadref2_TraitErr.l0_k.I (.l0 a_3 a_7 x_8 x_9) r := by
  unfold roadref2_TraitErr.l0_k.body at e
  intro W h0 m0 h m A_3 n_3 c_3 A_7 n_7 c_7 O ne_3 ne_7 k_7 r_7
  subst ne_3
  subst ne_7
  refine f16.l0_in ?_
  unfold f16.l0T
  refine split_dec_e e (fun c84 e => ?_) (fun c84 e => ?_)
  · obtain ⟨y1, g2, e⟩ := bind_e e
    refine r_7.addr rfl g2 fun a3 cs4 ha5 hc6 he7 => ?_
    refine ⟨_, ldAn O.s hc6 rfl, ?_⟩
    refine O.new fun h8 x9 O10 => ?_
    refine ⟨_, rfl, (T_api_Func.T.len _ _ _ he7), ?_⟩
    refine O10.stA 1 rfl (T_api_Func.T.len _ _ _ he7) (T_api_Func.T.flat _ _ _ he7) fun h12 O13 => ?_
    obtain ⟨A14, c15, q16, k17, r18⟩ := T_api_Func.g3 he7
    refine ⟨_, ldk (k := 3) (Sub.refl _) (O13.all 1 rfl) q16, _, _, _, rfl, ?_⟩
    refine split_eq_e e (fun c68 e => ?_) (fun c68 e => ?_)
    · have O19 := O13.nm
      cases e
      exact ⟨_, O19.pick [], rfl⟩
    · obtain ⟨A20, c21, q22, k23, r24⟩ := T_api_Func.g3 he7
      refine ⟨_, ldk (k := 3) (Sub.refl _) (O13.all 1 rfl) q22, _, _, _, rfl, ?_⟩
      obtain ⟨y25, g26, e⟩ := bind_e e
      refine r24.addr rfl g26 fun a27 cs28 ha29 hc30 he31 => ?_
      refine ⟨_, ld0 O13.s hc30 (T_api_Type.g0 he31), _, rfl, ?_⟩
      refine split_ne_e e (fun c67 e => ?_) (fun c67 e => ?_)
      · have O32 := O13.nm
        cases e
        exact ⟨_, O32.pick [], rfl⟩
      · obtain ⟨A33, c34, q35, k36, r37⟩ := T_api_Func.g3 he7
        refine ⟨_, ldk (k := 3) (Sub.refl _) (O13.all 1 rfl) q35, _, _, _, rfl, ?_⟩
        obtain ⟨y38, g39, e⟩ := bind_e e
        refine r37.addr rfl g39 fun a40 cs41 ha42 hc43 he44 => ?_
        refine ⟨_, ldk (k := 1) O13.s hc43 (T_api_Type.g1 he44), _, rfl, ?_⟩
        try rw [ba_list y38.Name (ByteArray.mk #[115, 101, 108, 102])]
        refine split_not ?_
        refine split_dec_e e (fun c66 e => ?_) (fun c66 e => ?_)
        · obtain ⟨A45, c46, q47, k48, r49⟩ := T_api_Func.g3 he7
          refine ⟨_, ldk (k := 3) (Sub.refl _) (O13.all 1 rfl) q47, _, _, _, rfl, ?_⟩
          obtain ⟨y50, g51, e⟩ := bind_e e
          refine r49.addr rfl g51 fun a52 cs53 ha54 hc55 he56 => ?_
          obtain ⟨A57, c58, q59, k60, r61⟩ := T_api_Type.g2 he56
          refine ⟨_, ldk (k := 2) O13.s hc55 q59, _, _, _, rfl, ?_⟩
          refine split_dec_e e (fun c64 e => ?_) (fun c64 e => ?_)
          · have O62 := O13.nm
            cases e
            exact ⟨_, O62.pick [], rfl⟩
          · have O63 := O13.nm
            exact (ih _ _ e) (O63.pick [0, 1]).nm rfl he7 rfl k_7 r_7
        · have O65 := O13.nm
          cases e
          exact ⟨_, O65.pick [], rfl⟩
  · obtain ⟨y69, g70, e⟩ := bind_e e
    obtain ⟨m75, u76, s81, ⟨⟨r79, k80⟩, _⟩, B77, C78⟩ := O.lend0 [0]
    replace r79 : Rd 1 eStr m75 A_3 a_3 := r79
    replace k80 : List.length a_3 ≤ c_3 := k80
    refine (roadref2_doubled.walk (Hold.start (W := No) s81) rfl k80 r79 g70).mono ?_
    rintro _ h71 ⟨m72, Q73, rfl⟩
    have O82 := Hold.nm (C78 Q73 vfs_nil)
    refine ⟨_, rfl, ?_⟩
    refine split_any_e e (fun c83 e => ?_) (fun c83 e => ?_)
    · cases e
      exact ⟨_, O82.pick [], rfl⟩
    · cases e
      exact ⟨_, O82.pick [], rfl⟩
theorem roadref2_TraitErr.l0_k.step_j0 (go : (p : roadref2_TraitErr.l0_k.Pt) → Option (Int)) (ih : ∀ p r, go p = some r → roadref2_TraitErr.l0_k.I p r) (a_3 y_5 a_7 x_8 x_9) (r) (e : roadref2_TraitErr.l0_k.body go (.j0 a_3 y_5 a_7 x_8 x_9) = some r) : roadref2_TraitErr.l0_k.I (.j0 a_3 y_5 a_7 x_8 x_9) r := by
  unfold roadref2_TraitErr.l0_k.body at e
  intro W h0 m0 h m A_3 n_3 c_3 bk_5 cs_5 A_7 n_7 c_7 O ne_3 e_5 ne_7 k_7 r_7
  subst ne_3
  subst ne_7
  refine f16.j0_in ?_
  unfold f16.j0T
  refine ⟨_, ld0 (Sub.refl _) (O.all 1 rfl) (T_api_Func.g0 e_5), _, rfl, ?_⟩
  refine O.new fun h1 x2 O3 => ?_
  obtain ⟨l5, g6, e⟩ := bind_e e
  have O13 := O3.rowE (l := ([y_5.Name] : List ByteArray)) 2 rfl tell_str (show CsE _ _ _ _ _ from (CsE.cons (c1 := [(Value.string y_5.Name)]) rfl rfl CsE.nil)) rfl
  refine O13.app 0 rfl rfl rfl ((O13.os 2 rfl).srcE rfl) (by decide) g6 fun A7 c8 h9 O10 => ?_
  refine ⟨_, _, _, rfl, ?_⟩
  have O14 := O10.nm
  exact (ih _ _ e) (O14.pick [0]).nm rfl rfl k_7 r_7
theorem roadref2_TraitErr.l0_k.all {p : roadref2_TraitErr.l0_k.Pt} {r : (Int)} (e : roadref2_TraitErr.l0_k.go p = some r) : roadref2_TraitErr.l0_k.I p r := fixF_ind (β := fun _ => (Int)) roadref2_TraitErr.l0_k.mono (I := roadref2_TraitErr.l0_k.I) (fun go ih p r e => match p with
  | .l0 a_3 a_7 x_8 x_9 => roadref2_TraitErr.l0_k.step_l0 go ih a_3 a_7 x_8 x_9 r e
  | .j0 a_3 y_5 a_7 x_8 x_9 => roadref2_TraitErr.l0_k.step_j0 go ih a_3 y_5 a_7 x_8 x_9 r e
  ) e
noncomputable def roadref2_TraitErr (y_0 : T_api_Trait) : Option (Int) :=
  (roadref2_TraitErr.l0 ([] : List ByteArray) y_0.Funcs (((List.length y_0.Funcs) : Nat) : Int) (0 : Int))
theorem roadref2_TraitErr.walk {W h m cs_0 y_0} (O : Hold W h m h m []) (e_0 : T_api_Trait.E m y_0 cs_0) {r} (e : roadref2_TraitErr y_0 = some r) : Run Tryd.prog 16 #[Value.agg cs_0.toArray] h (roadref2_TraitErr.post W h m r) := by
  unfold roadref2_TraitErr at e
  refine f16.run ?_
  unfold f16.runT
  refine O.new fun h1 x2 O3 => ?_
  obtain ⟨A5, c6, q7, k8, r9⟩ := T_api_Trait.g1 e_0
  refine ⟨_, ldk (k := 1) (Sub.refl _) (O3.all 0 rfl) q7, _, _, _, rfl, ?_⟩
  have O10 := O3.nil (aE tell_str) none
  have O12 := O10.nm
  exact (roadref2_TraitErr.l0_k.all e) (O12.pick [1]).nm rfl rfl k8 r9
def strings_Fields.post (W : Nat → Prop) (h0 m0 : Heap) (r : (List ByteArray)) (v : Value) (h : Heap) : Prop := ∃ m A0 n0 c0, Hold W h0 m0 h m [rR (aE tell_str) A0 c0 r] ∧ v = .slice A0 n0 c0 ∧ n0 = List.length r
noncomputable def strings_Fields (x0 : ByteArray) : Option (List ByteArray) := if x0.size < 4294967281 ∧ ascii x0 = true then some (fieldsB x0) else none
theorem strings_Fields.walk {W : Nat → Prop} {h m : Heap} {x0 : ByteArray} (O : Hold W h m h m []) (tab : TB m) {r : List ByteArray} (e : strings_Fields x0 = some r) : Run Tryd.prog 40 #[Value.string x0] h (strings_Fields.post W h m r) := by
  unfold strings_Fields at e
  exact (fields_run (by kernel_rfl) Tryd.strings_Fields O tab.2 e).mono fun v h' hp => hp
def roadref2_HeadOf.post (W : Nat → Prop) (h0 m0 : Heap) (r : ByteArray) (v : Value) (h : Heap) : Prop := ∃ m , Hold W h0 m0 h m [] ∧ v = .string r
noncomputable def roadref2_HeadOf.j0 (y_1 : T_api_Type) (b_15 : Bool) : Option (ByteArray) :=
  if b_15 = true then (Option.bind (strings_Fields (ByteArray.mk #[105, 110, 116, 32, 98, 111, 111, 108, 32, 116, 101, 120, 116, 32, 117, 110, 105, 116])) fun y1 => Option.bind (gi y1 (IntKind.wrap .i64 (y_1.Kind - (1 : Int)))) fun y13 => some (y13)) else (some ((ByteArray.mk #[])))
theorem roadref2_HeadOf.j0.walk {W h0 m0 h m bk_1 cs_1 y_1 b_15} (O : Hold W h0 m0 h m [rV bk_1 32 cs_1]) (e_1 : T_api_Type.E m y_1 cs_1) (tab : TB m) {r} (e : roadref2_HeadOf.j0 y_1 b_15 = some r) : f14.j0 (roadref2_HeadOf.post W h0 m0 r) (⟨bk_1, 0, none⟩ : Addr) b_15 h := by
  unfold roadref2_HeadOf.j0 at e
  refine f14.j0_in ?_
  unfold f14.j0T
  refine split_any_e e (fun c20 e => ?_) (fun c20 e => ?_)
  · refine ⟨_, ld0 (Sub.refl _) (O.all 0 rfl) (T_api_Type.g0 e_1), _, rfl, ?_⟩
    obtain ⟨y1, g2, e⟩ := bind_e e
    refine (strings_Fields.walk (Hold.start (W := No) O.s) tab g2).mono ?_
    rintro _ h3 ⟨m4, A7, n8, c9, Q5, rfl, ne10⟩
    have O12 := Hold.nm (O.retC Q5 (vfs_cons (rR_vf (aE_vf (fun _ _ _ _ h => h))) vfs_nil))
    subst ne10
    refine ⟨_, _, _, rfl, ?_⟩
    refine ⟨ld0 (Sub.refl _) (O12.all 0 rfl) (T_api_Type.g0 e_1), ?_⟩
    obtain ⟨y13, g14, e⟩ := bind_e e
    refine (O12.os 1 rfl).addr rfl g14 fun a15 cs16 ha17 hc18 he19 => ?_
    obtain rfl : cs16 = [(Value.string y13)] := he19
    refine ⟨_, ld0 (Sub.refl _) hc18 rfl, _, rfl, ?_⟩
    cases e
    exact ⟨_, O12.pick [], rfl⟩
  · cases e
    exact ⟨_, O.pick [], rfl⟩
noncomputable def roadref2_HeadOf (y_0 : T_api_Type) : Option (ByteArray) :=
  if y_0.Kind = (6 : Int) then (some (y_0.Name)) else (if y_0.Kind ≥ (1 : Int) then ((roadref2_HeadOf.j0 y_0 (decide (y_0.Kind ≤ (4 : Int))))) else ((roadref2_HeadOf.j0 y_0 false)))
theorem roadref2_HeadOf.walk {W h m cs_0 y_0} (O : Hold W h m h m []) (e_0 : T_api_Type.E m y_0 cs_0) (tab : TB m) {r} (e : roadref2_HeadOf y_0 = some r) : Run Tryd.prog 14 #[Value.agg cs_0.toArray] h (roadref2_HeadOf.post W h m r) := by
  unfold roadref2_HeadOf at e
  refine f14.run ?_
  unfold f14.runT
  refine O.new fun h1 x2 O3 => ?_
  refine ⟨_, ld0 (Sub.refl _) (O3.all 0 rfl) (T_api_Type.g0 e_0), _, rfl, ?_⟩
  refine split_eq_e e (fun c9 e => ?_) (fun c9 e => ?_)
  · refine ⟨_, ldk (k := 1) (Sub.refl _) (O3.all 0 rfl) (T_api_Type.g1 e_0), _, rfl, ?_⟩
    have O5 := O3.nm
    cases e
    exact ⟨_, O5.pick [], rfl⟩
  · refine ⟨_, ld0 (Sub.refl _) (O3.all 0 rfl) (T_api_Type.g0 e_0), _, rfl, ?_⟩
    refine split_dec_e e (fun c8 e => ?_) (fun c8 e => ?_)
    · refine ⟨_, ld0 (Sub.refl _) (O3.all 0 rfl) (T_api_Type.g0 e_0), _, rfl, ?_⟩
      have O6 := O3.nm
      exact roadref2_HeadOf.j0.walk (O6.pick [0]).nm e_0 tab e
    · have O7 := O3.nm
      exact roadref2_HeadOf.j0.walk (O7.pick [0]).nm e_0 tab e
def slices_Grow_74.post (W : Nat → Prop) (h0 m0 : Heap) (r : (List ByteArray)) (v : Value) (h : Heap) : Prop := ∃ m A0 n0 c0, Hold W h0 m0 h m [rR (aE tell_str) A0 c0 r] ∧ v = .slice A0 n0 c0 ∧ n0 = List.length r
noncomputable def slices_Grow_74 (x1 : Int) : Option (List ByteArray) := if gro 16 x1 = true then some [] else none
theorem slices_Grow_74.walk {W : Nat → Prop} {h m : Heap} {x1 : Int} (O : Hold W h m h m []) {r : List ByteArray} (e : slices_Grow_74 x1 = some r) : Run Tryd.prog 74 #[Value.slice none 0 0, Value.int .i64 x1] h (slices_Grow_74.post W h m r) := by
  unfold slices_Grow_74 at e
  have S : St No h m h m := .refl O.s
  obtain ⟨g, e⟩ := guard_e e
  cases e
  refine f74.run ?_
  unfold f74.runT
  refine split_dec (fun c => absurd c (by have := of_decide_eq_true (show decide _ = true from g); omega)) (fun _ => ?_)
  refine f74.j0_in ?_
  unfold f74.j0T
  exact grow_nil S rfl (by decide) g (fun A' c' h' o' x' => ⟨m, _, _, _, O.add (R := rR (aE tell_str) A' c' []) (St.of_ext O.s x') o'.rowP o'.newNo, rfl, rfl⟩)
def slices_Concat_46.post (W : Nat → Prop) (h0 m0 : Heap) (r : (List ByteArray)) (v : Value) (h : Heap) : Prop := ∃ m A0 n0 c0, Hold W h0 m0 h m [rR (aE tell_str) A0 c0 r] ∧ v = .slice A0 n0 c0 ∧ n0 = List.length r
inductive slices_Concat_46.l1_k.Pt where
  | l1 (a_6 : List ByteArray) (a_25 : List (List ByteArray)) (x_26 : Int) (x_27 : Int)
noncomputable def slices_Concat_46.l1_k.body (go : (p : slices_Concat_46.l1_k.Pt) → Option ((List ByteArray))) : (p : slices_Concat_46.l1_k.Pt) → Option ((List ByteArray))
  | .l1 a_6 a_25 x_26 x_27 => if x_27 < x_26 then (Option.bind (gi a_25 x_27) fun y1 => Option.bind (ap 16 a_6 y1) fun l8 => (go (.l1 l8 a_25 x_26 (IntKind.wrap .i64 (x_27 + (1 : Int)))))) else (some (a_6))
theorem slices_Concat_46.l1_k.mono : MonoF (β := fun _ => ((List ByteArray))) slices_Concat_46.l1_k.body := fun f g hfg p => match p with
  | .l1 a_6 a_25 x_26 x_27 => LeO.ite (LeO.bind (LeO.refl _) fun y1 => LeO.bind (LeO.refl _) fun l8 => (hfg _)) (LeO.refl _)
noncomputable def slices_Concat_46.l1_k.go (p : slices_Concat_46.l1_k.Pt) : Option ((List ByteArray)) := fixF (β := fun _ => ((List ByteArray))) slices_Concat_46.l1_k.body p
noncomputable def slices_Concat_46.l1 (a_6 a_25 x_26 x_27) := slices_Concat_46.l1_k.go (.l1 a_6 a_25 x_26 x_27)
theorem slices_Concat_46.l1_eq (a_6 a_25 x_26 x_27) : slices_Concat_46.l1 a_6 a_25 x_26 x_27 = if x_27 < x_26 then (Option.bind (gi a_25 x_27) fun y1 => Option.bind (ap 16 a_6 y1) fun l8 => (slices_Concat_46.l1 l8 a_25 x_26 (IntKind.wrap .i64 (x_27 + (1 : Int))))) else (some (a_6)) := fixF_eq slices_Concat_46.l1_k.mono _
def slices_Concat_46.l1_k.I : (p : slices_Concat_46.l1_k.Pt) → ((List ByteArray)) → Prop
  | .l1 a_6 a_25 x_26 x_27, r => ∀ {W h0 m0 h m A_6 n_6 c_6 A_25 n_25 c_25} (O : Hold W h0 m0 h m [rR (aE tell_str) A_6 c_6 a_6]) (ne_6 : n_6 = List.length a_6) (ne_25 : n_25 = List.length a_25) (k_25 : List.length a_25 ≤ c_25) (r_25 : Rd 1 (eRow 1 eStr) m A_25 a_25), f46.l1 (slices_Concat_46.post W h0 m0 r) A_6 n_6 c_6 A_25 n_25 c_25 x_26 x_27 h
theorem slices_Concat_46.l1_k.step_l1 (go : (p : slices_Concat_46.l1_k.Pt) → Option ((List ByteArray))) (ih : ∀ p r, go p = some r → slices_Concat_46.l1_k.I p r) (a_6 a_25 x_26 x_27) (r) (e : slices_Concat_46.l1_k.body go (.l1 a_6 a_25 x_26 x_27) = some r) : slices_Concat_46.l1_k.I (.l1 a_6 a_25 x_26 x_27) r := by
  unfold slices_Concat_46.l1_k.body at e
  intro W h0 m0 h m A_6 n_6 c_6 A_25 n_25 c_25 O ne_6 ne_25 k_25 r_25
  subst ne_6
  subst ne_25
  refine f46.l1_in ?_
  unfold f46.l1T
  refine split_dec_e e (fun c17 e => ?_) (fun c17 e => ?_)
  · obtain ⟨y1, g2, e⟩ := bind_e e
    refine r_25.addr rfl g2 fun a3 cs4 ha5 hc6 he7 => ?_
    obtain ⟨Acs4_0, ccs4_0, rfl, kcs4_0, rcs4_0⟩ := id he7
    refine ⟨_, ld0 O.s hc6 rfl, _, _, _, rfl, ?_⟩
    obtain ⟨l8, g9, e⟩ := bind_e e
    refine O.app 0 rfl rfl rfl (Rd.srcE rcs4_0 tell_str O.s rfl) (by decide) g9 fun A10 c11 h12 O13 => ?_
    refine ⟨_, _, _, rfl, ?_⟩
    have O16 := O13.nm
    exact (ih _ _ e) (O16.pick [0]).nm rfl rfl k_25 r_25
  · cases e
    exact ⟨_, _, _, _, O.pick [0], rfl, rfl⟩
theorem slices_Concat_46.l1_k.all {p : slices_Concat_46.l1_k.Pt} {r : ((List ByteArray))} (e : slices_Concat_46.l1_k.go p = some r) : slices_Concat_46.l1_k.I p r := fixF_ind (β := fun _ => ((List ByteArray))) slices_Concat_46.l1_k.mono (I := slices_Concat_46.l1_k.I) (fun go ih p r e => match p with
  | .l1 a_6 a_25 x_26 x_27 => slices_Concat_46.l1_k.step_l1 go ih a_6 a_25 x_26 x_27 r e
  ) e
inductive slices_Concat_46.l0_k.Pt where
  | l0 (a_0 : List (List ByteArray)) (x_3 : Int) (a_9 : List (List ByteArray)) (x_10 : Int) (x_11 : Int)
noncomputable def slices_Concat_46.l0_k.body (go : (p : slices_Concat_46.l0_k.Pt) → Option ((List ByteArray))) : (p : slices_Concat_46.l0_k.Pt) → Option ((List ByteArray))
  | .l0 a_0 x_3 a_9 x_10 x_11 => if x_11 < x_10 then (Option.bind (gi a_9 x_11) fun y1 => if (IntKind.wrap .i64 (x_3 + (((List.length y1) : Nat) : Int))) < (0 : Int) then ((none : Option _)) else ((go (.l0 a_0 (IntKind.wrap .i64 (x_3 + (((List.length y1) : Nat) : Int))) a_9 x_10 (IntKind.wrap .i64 (x_11 + (1 : Int))))))) else (Option.bind (slices_Grow_74 x_3) fun y9 => (slices_Concat_46.l1 y9 a_0 (((List.length a_0) : Nat) : Int) (0 : Int)))
theorem slices_Concat_46.l0_k.mono : MonoF (β := fun _ => ((List ByteArray))) slices_Concat_46.l0_k.body := fun f g hfg p => match p with
  | .l0 a_0 x_3 a_9 x_10 x_11 => LeO.ite (LeO.bind (LeO.refl _) fun y1 => LeO.ite (LeO.refl _) ((hfg _))) (LeO.bind (LeO.refl _) fun y9 => (LeO.refl _))
noncomputable def slices_Concat_46.l0_k.go (p : slices_Concat_46.l0_k.Pt) : Option ((List ByteArray)) := fixF (β := fun _ => ((List ByteArray))) slices_Concat_46.l0_k.body p
noncomputable def slices_Concat_46.l0 (a_0 x_3 a_9 x_10 x_11) := slices_Concat_46.l0_k.go (.l0 a_0 x_3 a_9 x_10 x_11)
theorem slices_Concat_46.l0_eq (a_0 x_3 a_9 x_10 x_11) : slices_Concat_46.l0 a_0 x_3 a_9 x_10 x_11 = if x_11 < x_10 then (Option.bind (gi a_9 x_11) fun y1 => if (IntKind.wrap .i64 (x_3 + (((List.length y1) : Nat) : Int))) < (0 : Int) then ((none : Option _)) else ((slices_Concat_46.l0 a_0 (IntKind.wrap .i64 (x_3 + (((List.length y1) : Nat) : Int))) a_9 x_10 (IntKind.wrap .i64 (x_11 + (1 : Int)))))) else (Option.bind (slices_Grow_74 x_3) fun y9 => (slices_Concat_46.l1 y9 a_0 (((List.length a_0) : Nat) : Int) (0 : Int))) := fixF_eq slices_Concat_46.l0_k.mono _
def slices_Concat_46.l0_k.I : (p : slices_Concat_46.l0_k.Pt) → ((List ByteArray)) → Prop
  | .l0 a_0 x_3 a_9 x_10 x_11, r => ∀ {W h0 m0 h m A_0 n_0 c_0 A_9 n_9 c_9} (O : Hold W h0 m0 h m []) (ne_0 : n_0 = List.length a_0) (k_0 : List.length a_0 ≤ c_0) (r_0 : Rd 1 (eRow 1 eStr) m A_0 a_0) (ne_9 : n_9 = List.length a_9) (k_9 : List.length a_9 ≤ c_9) (r_9 : Rd 1 (eRow 1 eStr) m A_9 a_9), f46.l0 (slices_Concat_46.post W h0 m0 r) A_0 n_0 c_0 x_3 A_9 n_9 c_9 x_10 x_11 h
theorem slices_Concat_46.l0_k.step_l0 (go : (p : slices_Concat_46.l0_k.Pt) → Option ((List ByteArray))) (ih : ∀ p r, go p = some r → slices_Concat_46.l0_k.I p r) (a_0 x_3 a_9 x_10 x_11) (r) (e : slices_Concat_46.l0_k.body go (.l0 a_0 x_3 a_9 x_10 x_11) = some r) : slices_Concat_46.l0_k.I (.l0 a_0 x_3 a_9 x_10 x_11) r := by
  unfold slices_Concat_46.l0_k.body at e
  intro W h0 m0 h m A_0 n_0 c_0 A_9 n_9 c_9 O ne_0 k_0 r_0 ne_9 k_9 r_9
  subst ne_0
  subst ne_9
  refine f46.l0_in ?_
  unfold f46.l0T
  refine split_dec_e e (fun c21 e => ?_) (fun c21 e => ?_)
  · obtain ⟨y1, g2, e⟩ := bind_e e
    refine r_9.addr rfl g2 fun a3 cs4 ha5 hc6 he7 => ?_
    obtain ⟨Acs4_0, ccs4_0, rfl, kcs4_0, rcs4_0⟩ := id he7
    refine ⟨_, ld0 O.s hc6 rfl, _, _, _, rfl, ?_⟩
    refine split_dec_e e (fun c8 e => ?_) (fun c8 e => ?_)
    · cases e
    · exact (ih _ _ e) (O.pick []).nm rfl k_0 r_0 rfl k_9 r_9
  · obtain ⟨y9, g10, e⟩ := bind_e e
    refine (slices_Grow_74.walk (Hold.start (W := No) O.s)  g10).mono ?_
    rintro _ h11 ⟨m12, A15, n16, c17, Q13, rfl, ne18⟩
    have O20 := Hold.nm (O.retC Q13 (vfs_cons (rR_vf (aE_vf (fun _ _ _ _ h => h))) vfs_nil))
    subst ne18
    refine ⟨_, _, _, rfl, ?_⟩
    exact (slices_Concat_46.l1_k.all e) (O20.pick [0]).nm rfl rfl k_0 r_0
theorem slices_Concat_46.l0_k.all {p : slices_Concat_46.l0_k.Pt} {r : ((List ByteArray))} (e : slices_Concat_46.l0_k.go p = some r) : slices_Concat_46.l0_k.I p r := fixF_ind (β := fun _ => ((List ByteArray))) slices_Concat_46.l0_k.mono (I := slices_Concat_46.l0_k.I) (fun go ih p r e => match p with
  | .l0 a_0 x_3 a_9 x_10 x_11 => slices_Concat_46.l0_k.step_l0 go ih a_0 x_3 a_9 x_10 x_11 r e
  ) e
noncomputable def slices_Concat_46 (a_0 : List (List ByteArray)) : Option ((List ByteArray)) :=
  (slices_Concat_46.l0 a_0 (0 : Int) a_0 (((List.length a_0) : Nat) : Int) (0 : Int))
theorem slices_Concat_46.walk {W h m A_0 n_0 c_0 a_0} (O : Hold W h m h m []) (ne_0 : n_0 = List.length a_0) (k_0 : List.length a_0 ≤ c_0) (r_0 : Rd 1 (eRow 1 eStr) m A_0 a_0) {r} (e : slices_Concat_46 a_0 = some r) : Run Tryd.prog 46 #[Value.slice A_0 n_0 c_0] h (slices_Concat_46.post W h m r) := by
  unfold slices_Concat_46 at e
  subst ne_0
  refine f46.run ?_
  unfold f46.runT
  exact (slices_Concat_46.l0_k.all e) (O.pick []).nm rfl k_0 r_0 rfl k_0 r_0
theorem slices_Concat_46.val (ls : List (List ByteArray)) (hl : ls.length ≤ 4611686018427387904) (hs : ls.flatten.length * 16 ≤ 140737488355328) : slices_Concat_46 ls = some ls.flatten := concat_val (B := 16) (by decide) (fun r a n i => slices_Concat_46.l1_eq r a n i) (fun a s b n i => slices_Concat_46.l0_eq a s b n i) (gr := slices_Grow_74) (fun _ => rfl) (fun _ => rfl) ls hl hs
def slices_Grow_75.post (W : Nat → Prop) (h0 m0 : Heap) (r : (List T_api_Type)) (v : Value) (h : Heap) : Prop := ∃ m A0 n0 c0, Hold W h0 m0 h m [rR (aE T_api_Type.T) A0 c0 r] ∧ v = .slice A0 n0 c0 ∧ n0 = List.length r
noncomputable def slices_Grow_75 (x1 : Int) : Option (List T_api_Type) := if gro 48 x1 = true then some [] else none
theorem slices_Grow_75.walk {W : Nat → Prop} {h m : Heap} {x1 : Int} (O : Hold W h m h m []) {r : List T_api_Type} (e : slices_Grow_75 x1 = some r) : Run Tryd.prog 75 #[Value.slice none 0 0, Value.int .i64 x1] h (slices_Grow_75.post W h m r) := by
  unfold slices_Grow_75 at e
  have S : St No h m h m := .refl O.s
  obtain ⟨g, e⟩ := guard_e e
  cases e
  refine f75.run ?_
  unfold f75.runT
  refine split_dec (fun c => absurd c (by have := of_decide_eq_true (show decide _ = true from g); omega)) (fun _ => ?_)
  refine f75.j0_in ?_
  unfold f75.j0T
  exact grow_nil S rfl (by decide) g (fun A' c' h' o' x' => ⟨m, _, _, _, O.add (R := rR (aE T_api_Type.T) A' c' []) (St.of_ext O.s x') o'.rowP o'.newNo, rfl, rfl⟩)
def slices_Concat_47.post (W : Nat → Prop) (h0 m0 : Heap) (r : (List T_api_Type)) (v : Value) (h : Heap) : Prop := ∃ m A0 n0 c0, Hold W h0 m0 h m [rR (aE T_api_Type.T) A0 c0 r] ∧ v = .slice A0 n0 c0 ∧ n0 = List.length r
inductive slices_Concat_47.l1_k.Pt where
  | l1 (a_6 : List T_api_Type) (a_25 : List (List T_api_Type)) (x_26 : Int) (x_27 : Int)
noncomputable def slices_Concat_47.l1_k.body (go : (p : slices_Concat_47.l1_k.Pt) → Option ((List T_api_Type))) : (p : slices_Concat_47.l1_k.Pt) → Option ((List T_api_Type))
  | .l1 a_6 a_25 x_26 x_27 => if x_27 < x_26 then (Option.bind (gi a_25 x_27) fun y1 => Option.bind (ap 48 a_6 y1) fun l8 => (go (.l1 l8 a_25 x_26 (IntKind.wrap .i64 (x_27 + (1 : Int)))))) else (some (a_6))
theorem slices_Concat_47.l1_k.mono : MonoF (β := fun _ => ((List T_api_Type))) slices_Concat_47.l1_k.body := fun f g hfg p => match p with
  | .l1 a_6 a_25 x_26 x_27 => LeO.ite (LeO.bind (LeO.refl _) fun y1 => LeO.bind (LeO.refl _) fun l8 => (hfg _)) (LeO.refl _)
noncomputable def slices_Concat_47.l1_k.go (p : slices_Concat_47.l1_k.Pt) : Option ((List T_api_Type)) := fixF (β := fun _ => ((List T_api_Type))) slices_Concat_47.l1_k.body p
noncomputable def slices_Concat_47.l1 (a_6 a_25 x_26 x_27) := slices_Concat_47.l1_k.go (.l1 a_6 a_25 x_26 x_27)
theorem slices_Concat_47.l1_eq (a_6 a_25 x_26 x_27) : slices_Concat_47.l1 a_6 a_25 x_26 x_27 = if x_27 < x_26 then (Option.bind (gi a_25 x_27) fun y1 => Option.bind (ap 48 a_6 y1) fun l8 => (slices_Concat_47.l1 l8 a_25 x_26 (IntKind.wrap .i64 (x_27 + (1 : Int))))) else (some (a_6)) := fixF_eq slices_Concat_47.l1_k.mono _
def slices_Concat_47.l1_k.I : (p : slices_Concat_47.l1_k.Pt) → ((List T_api_Type)) → Prop
  | .l1 a_6 a_25 x_26 x_27, r => ∀ {W h0 m0 h m A_6 n_6 c_6 A_25 n_25 c_25} (O : Hold W h0 m0 h m [rR (aE T_api_Type.T) A_6 c_6 a_6]) (ne_6 : n_6 = List.length a_6) (ne_25 : n_25 = List.length a_25) (k_25 : List.length a_25 ≤ c_25) (r_25 : Rd 1 (eRow 3 T_api_Type.E) m A_25 a_25), f47.l1 (slices_Concat_47.post W h0 m0 r) A_6 n_6 c_6 A_25 n_25 c_25 x_26 x_27 h
theorem slices_Concat_47.l1_k.step_l1 (go : (p : slices_Concat_47.l1_k.Pt) → Option ((List T_api_Type))) (ih : ∀ p r, go p = some r → slices_Concat_47.l1_k.I p r) (a_6 a_25 x_26 x_27) (r) (e : slices_Concat_47.l1_k.body go (.l1 a_6 a_25 x_26 x_27) = some r) : slices_Concat_47.l1_k.I (.l1 a_6 a_25 x_26 x_27) r := by
  unfold slices_Concat_47.l1_k.body at e
  intro W h0 m0 h m A_6 n_6 c_6 A_25 n_25 c_25 O ne_6 ne_25 k_25 r_25
  subst ne_6
  subst ne_25
  refine f47.l1_in ?_
  unfold f47.l1T
  refine split_dec_e e (fun c17 e => ?_) (fun c17 e => ?_)
  · obtain ⟨y1, g2, e⟩ := bind_e e
    refine r_25.addr rfl g2 fun a3 cs4 ha5 hc6 he7 => ?_
    obtain ⟨Acs4_0, ccs4_0, rfl, kcs4_0, rcs4_0⟩ := id he7
    refine ⟨_, ld0 O.s hc6 rfl, _, _, _, rfl, ?_⟩
    obtain ⟨l8, g9, e⟩ := bind_e e
    refine O.app 0 rfl rfl rfl (Rd.srcE rcs4_0 T_api_Type.T O.s rfl) (by decide) g9 fun A10 c11 h12 O13 => ?_
    refine ⟨_, _, _, rfl, ?_⟩
    have O16 := O13.nm
    exact (ih _ _ e) (O16.pick [0]).nm rfl rfl k_25 r_25
  · cases e
    exact ⟨_, _, _, _, O.pick [0], rfl, rfl⟩
theorem slices_Concat_47.l1_k.all {p : slices_Concat_47.l1_k.Pt} {r : ((List T_api_Type))} (e : slices_Concat_47.l1_k.go p = some r) : slices_Concat_47.l1_k.I p r := fixF_ind (β := fun _ => ((List T_api_Type))) slices_Concat_47.l1_k.mono (I := slices_Concat_47.l1_k.I) (fun go ih p r e => match p with
  | .l1 a_6 a_25 x_26 x_27 => slices_Concat_47.l1_k.step_l1 go ih a_6 a_25 x_26 x_27 r e
  ) e
inductive slices_Concat_47.l0_k.Pt where
  | l0 (a_0 : List (List T_api_Type)) (x_3 : Int) (a_9 : List (List T_api_Type)) (x_10 : Int) (x_11 : Int)
noncomputable def slices_Concat_47.l0_k.body (go : (p : slices_Concat_47.l0_k.Pt) → Option ((List T_api_Type))) : (p : slices_Concat_47.l0_k.Pt) → Option ((List T_api_Type))
  | .l0 a_0 x_3 a_9 x_10 x_11 => if x_11 < x_10 then (Option.bind (gi a_9 x_11) fun y1 => if (IntKind.wrap .i64 (x_3 + (((List.length y1) : Nat) : Int))) < (0 : Int) then ((none : Option _)) else ((go (.l0 a_0 (IntKind.wrap .i64 (x_3 + (((List.length y1) : Nat) : Int))) a_9 x_10 (IntKind.wrap .i64 (x_11 + (1 : Int))))))) else (Option.bind (slices_Grow_75 x_3) fun y9 => (slices_Concat_47.l1 y9 a_0 (((List.length a_0) : Nat) : Int) (0 : Int)))
theorem slices_Concat_47.l0_k.mono : MonoF (β := fun _ => ((List T_api_Type))) slices_Concat_47.l0_k.body := fun f g hfg p => match p with
  | .l0 a_0 x_3 a_9 x_10 x_11 => LeO.ite (LeO.bind (LeO.refl _) fun y1 => LeO.ite (LeO.refl _) ((hfg _))) (LeO.bind (LeO.refl _) fun y9 => (LeO.refl _))
noncomputable def slices_Concat_47.l0_k.go (p : slices_Concat_47.l0_k.Pt) : Option ((List T_api_Type)) := fixF (β := fun _ => ((List T_api_Type))) slices_Concat_47.l0_k.body p
noncomputable def slices_Concat_47.l0 (a_0 x_3 a_9 x_10 x_11) := slices_Concat_47.l0_k.go (.l0 a_0 x_3 a_9 x_10 x_11)
theorem slices_Concat_47.l0_eq (a_0 x_3 a_9 x_10 x_11) : slices_Concat_47.l0 a_0 x_3 a_9 x_10 x_11 = if x_11 < x_10 then (Option.bind (gi a_9 x_11) fun y1 => if (IntKind.wrap .i64 (x_3 + (((List.length y1) : Nat) : Int))) < (0 : Int) then ((none : Option _)) else ((slices_Concat_47.l0 a_0 (IntKind.wrap .i64 (x_3 + (((List.length y1) : Nat) : Int))) a_9 x_10 (IntKind.wrap .i64 (x_11 + (1 : Int)))))) else (Option.bind (slices_Grow_75 x_3) fun y9 => (slices_Concat_47.l1 y9 a_0 (((List.length a_0) : Nat) : Int) (0 : Int))) := fixF_eq slices_Concat_47.l0_k.mono _
def slices_Concat_47.l0_k.I : (p : slices_Concat_47.l0_k.Pt) → ((List T_api_Type)) → Prop
  | .l0 a_0 x_3 a_9 x_10 x_11, r => ∀ {W h0 m0 h m A_0 n_0 c_0 A_9 n_9 c_9} (O : Hold W h0 m0 h m []) (ne_0 : n_0 = List.length a_0) (k_0 : List.length a_0 ≤ c_0) (r_0 : Rd 1 (eRow 3 T_api_Type.E) m A_0 a_0) (ne_9 : n_9 = List.length a_9) (k_9 : List.length a_9 ≤ c_9) (r_9 : Rd 1 (eRow 3 T_api_Type.E) m A_9 a_9), f47.l0 (slices_Concat_47.post W h0 m0 r) A_0 n_0 c_0 x_3 A_9 n_9 c_9 x_10 x_11 h
theorem slices_Concat_47.l0_k.step_l0 (go : (p : slices_Concat_47.l0_k.Pt) → Option ((List T_api_Type))) (ih : ∀ p r, go p = some r → slices_Concat_47.l0_k.I p r) (a_0 x_3 a_9 x_10 x_11) (r) (e : slices_Concat_47.l0_k.body go (.l0 a_0 x_3 a_9 x_10 x_11) = some r) : slices_Concat_47.l0_k.I (.l0 a_0 x_3 a_9 x_10 x_11) r := by
  unfold slices_Concat_47.l0_k.body at e
  intro W h0 m0 h m A_0 n_0 c_0 A_9 n_9 c_9 O ne_0 k_0 r_0 ne_9 k_9 r_9
  subst ne_0
  subst ne_9
  refine f47.l0_in ?_
  unfold f47.l0T
  refine split_dec_e e (fun c21 e => ?_) (fun c21 e => ?_)
  · obtain ⟨y1, g2, e⟩ := bind_e e
    refine r_9.addr rfl g2 fun a3 cs4 ha5 hc6 he7 => ?_
    obtain ⟨Acs4_0, ccs4_0, rfl, kcs4_0, rcs4_0⟩ := id he7
    refine ⟨_, ld0 O.s hc6 rfl, _, _, _, rfl, ?_⟩
    refine split_dec_e e (fun c8 e => ?_) (fun c8 e => ?_)
    · cases e
    · exact (ih _ _ e) (O.pick []).nm rfl k_0 r_0 rfl k_9 r_9
  · obtain ⟨y9, g10, e⟩ := bind_e e
    refine (slices_Grow_75.walk (Hold.start (W := No) O.s)  g10).mono ?_
    rintro _ h11 ⟨m12, A15, n16, c17, Q13, rfl, ne18⟩
    have O20 := Hold.nm (O.ret Q13)
    subst ne18
    refine ⟨_, _, _, rfl, ?_⟩
    exact (slices_Concat_47.l1_k.all e) (O20.pick [0]).nm rfl rfl k_0 (r_0.sub (tell_row T_api_Type.T) Q13.S.up)
theorem slices_Concat_47.l0_k.all {p : slices_Concat_47.l0_k.Pt} {r : ((List T_api_Type))} (e : slices_Concat_47.l0_k.go p = some r) : slices_Concat_47.l0_k.I p r := fixF_ind (β := fun _ => ((List T_api_Type))) slices_Concat_47.l0_k.mono (I := slices_Concat_47.l0_k.I) (fun go ih p r e => match p with
  | .l0 a_0 x_3 a_9 x_10 x_11 => slices_Concat_47.l0_k.step_l0 go ih a_0 x_3 a_9 x_10 x_11 r e
  ) e
noncomputable def slices_Concat_47 (a_0 : List (List T_api_Type)) : Option ((List T_api_Type)) :=
  (slices_Concat_47.l0 a_0 (0 : Int) a_0 (((List.length a_0) : Nat) : Int) (0 : Int))
theorem slices_Concat_47.walk {W h m A_0 n_0 c_0 a_0} (O : Hold W h m h m []) (ne_0 : n_0 = List.length a_0) (k_0 : List.length a_0 ≤ c_0) (r_0 : Rd 1 (eRow 3 T_api_Type.E) m A_0 a_0) {r} (e : slices_Concat_47 a_0 = some r) : Run Tryd.prog 47 #[Value.slice A_0 n_0 c_0] h (slices_Concat_47.post W h m r) := by
  unfold slices_Concat_47 at e
  subst ne_0
  refine f47.run ?_
  unfold f47.runT
  exact (slices_Concat_47.l0_k.all e) (O.pick []).nm rfl k_0 r_0 rfl k_0 r_0
theorem slices_Concat_47.val (ls : List (List T_api_Type)) (hl : ls.length ≤ 4611686018427387904) (hs : ls.flatten.length * 48 ≤ 140737488355328) : slices_Concat_47 ls = some ls.flatten := concat_val (B := 48) (by decide) (fun r a n i => slices_Concat_47.l1_eq r a n i) (fun a s b n i => slices_Concat_47.l0_eq a s b n i) (gr := slices_Grow_75) (fun _ => rfl) (fun _ => rfl) ls hl hs
def roadref2_Swap.post (W : Nat → Prop) (h0 m0 : Heap) (r : T_api_Type) (v : Value) (h : Heap) : Prop := ∃ m cs0, Hold W h0 m0 h m [] ∧ v = .agg cs0.toArray ∧ T_api_Type.E m r cs0
inductive roadref2_Swap_k.Pt where
  | f (y_0 : T_api_Type) (a_1 : List ByteArray) (a_2 : List T_api_Type)
  | j1 (a_1 : List ByteArray) (a_2 : List T_api_Type) (y_3 : T_api_Type) (y_6 : T_api_Type) (x_7 : Int) (b_27 : Bool)
  | j0 (a_1 : List ByteArray) (a_2 : List T_api_Type) (y_3 : T_api_Type) (y_6 : T_api_Type)
  | l0 (a_1 : List ByteArray) (a_2 : List T_api_Type) (y_6 : T_api_Type) (x_8_0 : Int) (s_8_1 : ByteArray) (a_8_2 : (List T_api_Type)) (a_39 : List T_api_Type) (x_40 : Int) (x_41 : Int)
noncomputable def roadref2_Swap_k.body (go : (p : roadref2_Swap_k.Pt) → Option (T_api_Type)) : (p : roadref2_Swap_k.Pt) → Option (T_api_Type)
  | .f y_0 a_1 a_2 => Option.bind (slices_Index_53 a_1 y_0.Name) fun y9 => if y_0.Kind = (5 : Int) then (if y9 ≥ (0 : Int) then ((go (.j1 a_1 a_2 y_0 (T_api_Type.mk (0 : Int) (ByteArray.mk #[]) ([] : List T_api_Type)) y9 (decide (y9 < (((List.length a_2) : Nat) : Int)))))) else ((go (.j1 a_1 a_2 y_0 (T_api_Type.mk (0 : Int) (ByteArray.mk #[]) ([] : List T_api_Type)) y9 false)))) else ((go (.j1 a_1 a_2 y_0 (T_api_Type.mk (0 : Int) (ByteArray.mk #[]) ([] : List T_api_Type)) y9 false)))
  | .j1 a_1 a_2 y_3 y_6 x_7 b_27 => if b_27 = true then (Option.bind (gi a_2 x_7) fun y1 => Option.bind ((go (.f y1 ([] : List ByteArray) ([] : List T_api_Type)))) fun y8 => some (y8)) else ((go (.j0 a_1 a_2 y_3 y_6)))
  | .j0 a_1 a_2 y_3 y_6 => (go (.l0 a_1 a_2 y_6 y_3.Kind y_3.Name ([] : List T_api_Type) y_3.Args (((List.length y_3.Args) : Nat) : Int) (0 : Int)))
  | .l0 a_1 a_2 y_6 x_8_0 s_8_1 a_8_2 a_39 x_40 x_41 => if x_41 < x_40 then (Option.bind (gi a_39 x_41) fun y1 => Option.bind ((go (.f y1 a_1 a_2))) fun y14 => Option.bind (ap 48 a_8_2 ([y14] : List T_api_Type)) fun l29 => (go (.l0 a_1 a_2 y_6 x_8_0 s_8_1 l29 a_39 x_40 (IntKind.wrap .i64 (x_41 + (1 : Int)))))) else (some ((T_api_Type.mk x_8_0 s_8_1 a_8_2)))
theorem roadref2_Swap_k.mono : MonoF (β := fun _ => (T_api_Type)) roadref2_Swap_k.body := fun f g hfg p => match p with
  | .f y_0 a_1 a_2 => LeO.bind (LeO.refl _) fun y9 => LeO.ite (LeO.ite ((hfg _)) ((hfg _))) ((hfg _))
  | .j1 a_1 a_2 y_3 y_6 x_7 b_27 => LeO.ite (LeO.bind (LeO.refl _) fun y1 => LeO.bind ((hfg _)) fun y8 => LeO.refl _) ((hfg _))
  | .j0 a_1 a_2 y_3 y_6 => (hfg _)
  | .l0 a_1 a_2 y_6 x_8_0 s_8_1 a_8_2 a_39 x_40 x_41 => LeO.ite (LeO.bind (LeO.refl _) fun y1 => LeO.bind ((hfg _)) fun y14 => LeO.bind (LeO.refl _) fun l29 => (hfg _)) (LeO.refl _)
noncomputable def roadref2_Swap_k.go (p : roadref2_Swap_k.Pt) : Option (T_api_Type) := fixF (β := fun _ => (T_api_Type)) roadref2_Swap_k.body p
noncomputable def roadref2_Swap (y_0 a_1 a_2) := roadref2_Swap_k.go (.f y_0 a_1 a_2)
noncomputable def roadref2_Swap.j1 (a_1 a_2 y_3 y_6 x_7 b_27) := roadref2_Swap_k.go (.j1 a_1 a_2 y_3 y_6 x_7 b_27)
noncomputable def roadref2_Swap.j0 (a_1 a_2 y_3 y_6) := roadref2_Swap_k.go (.j0 a_1 a_2 y_3 y_6)
noncomputable def roadref2_Swap.l0 (a_1 a_2 y_6 x_8_0 s_8_1 a_8_2 a_39 x_40 x_41) := roadref2_Swap_k.go (.l0 a_1 a_2 y_6 x_8_0 s_8_1 a_8_2 a_39 x_40 x_41)
theorem roadref2_Swap_eq (y_0 a_1 a_2) : roadref2_Swap y_0 a_1 a_2 = Option.bind (slices_Index_53 a_1 y_0.Name) fun y9 => if y_0.Kind = (5 : Int) then (if y9 ≥ (0 : Int) then ((roadref2_Swap.j1 a_1 a_2 y_0 (T_api_Type.mk (0 : Int) (ByteArray.mk #[]) ([] : List T_api_Type)) y9 (decide (y9 < (((List.length a_2) : Nat) : Int))))) else ((roadref2_Swap.j1 a_1 a_2 y_0 (T_api_Type.mk (0 : Int) (ByteArray.mk #[]) ([] : List T_api_Type)) y9 false))) else ((roadref2_Swap.j1 a_1 a_2 y_0 (T_api_Type.mk (0 : Int) (ByteArray.mk #[]) ([] : List T_api_Type)) y9 false)) := fixF_eq roadref2_Swap_k.mono _
theorem roadref2_Swap.j1_eq (a_1 a_2 y_3 y_6 x_7 b_27) : roadref2_Swap.j1 a_1 a_2 y_3 y_6 x_7 b_27 = if b_27 = true then (Option.bind (gi a_2 x_7) fun y1 => Option.bind ((roadref2_Swap y1 ([] : List ByteArray) ([] : List T_api_Type))) fun y8 => some (y8)) else ((roadref2_Swap.j0 a_1 a_2 y_3 y_6)) := fixF_eq roadref2_Swap_k.mono _
theorem roadref2_Swap.j0_eq (a_1 a_2 y_3 y_6) : roadref2_Swap.j0 a_1 a_2 y_3 y_6 = (roadref2_Swap.l0 a_1 a_2 y_6 y_3.Kind y_3.Name ([] : List T_api_Type) y_3.Args (((List.length y_3.Args) : Nat) : Int) (0 : Int)) := fixF_eq roadref2_Swap_k.mono _
theorem roadref2_Swap.l0_eq (a_1 a_2 y_6 x_8_0 s_8_1 a_8_2 a_39 x_40 x_41) : roadref2_Swap.l0 a_1 a_2 y_6 x_8_0 s_8_1 a_8_2 a_39 x_40 x_41 = if x_41 < x_40 then (Option.bind (gi a_39 x_41) fun y1 => Option.bind ((roadref2_Swap y1 a_1 a_2)) fun y14 => Option.bind (ap 48 a_8_2 ([y14] : List T_api_Type)) fun l29 => (roadref2_Swap.l0 a_1 a_2 y_6 x_8_0 s_8_1 l29 a_39 x_40 (IntKind.wrap .i64 (x_41 + (1 : Int))))) else (some ((T_api_Type.mk x_8_0 s_8_1 a_8_2))) := fixF_eq roadref2_Swap_k.mono _
def roadref2_Swap_k.I : (p : roadref2_Swap_k.Pt) → (T_api_Type) → Prop
  | .f y_0 a_1 a_2, r => ∀ {W h m cs_0 A_1 n_1 c_1 A_2 n_2 c_2} (O : Hold W h m h m []) (e_0 : T_api_Type.E m y_0 cs_0) (ne_1 : n_1 = List.length a_1) (k_1 : List.length a_1 ≤ c_1) (r_1 : Rd 1 eStr m A_1 a_1) (ne_2 : n_2 = List.length a_2) (k_2 : List.length a_2 ≤ c_2) (r_2 : Rd 3 T_api_Type.E m A_2 a_2), Run Tryd.prog 48 #[Value.agg cs_0.toArray, Value.slice A_1 n_1 c_1, Value.slice A_2 n_2 c_2] h (roadref2_Swap.post W h m r)
  | .j1 a_1 a_2 y_3 y_6 x_7 b_27, r => ∀ {W h0 m0 h m A_1 n_1 c_1 A_2 n_2 c_2 bk_3 cs_3 bk_6 cs_6} (O : Hold W h0 m0 h m [rV bk_3 32 cs_3, rV bk_6 32 cs_6]) (ne_1 : n_1 = List.length a_1) (k_1 : List.length a_1 ≤ c_1) (r_1 : Rd 1 eStr m A_1 a_1) (ne_2 : n_2 = List.length a_2) (k_2 : List.length a_2 ≤ c_2) (r_2 : Rd 3 T_api_Type.E m A_2 a_2) (e_3 : T_api_Type.E m y_3 cs_3) (e_6 : T_api_Type.E m y_6 cs_6), f48.j1 (roadref2_Swap.post W h0 m0 r) A_1 n_1 c_1 A_2 n_2 c_2 (⟨bk_3, 0, none⟩ : Addr) (⟨bk_6, 0, none⟩ : Addr) x_7 b_27 h
  | .j0 a_1 a_2 y_3 y_6, r => ∀ {W h0 m0 h m A_1 n_1 c_1 A_2 n_2 c_2 bk_3 cs_3 bk_6 cs_6} (O : Hold W h0 m0 h m [rV bk_3 32 cs_3, rV bk_6 32 cs_6]) (ne_1 : n_1 = List.length a_1) (k_1 : List.length a_1 ≤ c_1) (r_1 : Rd 1 eStr m A_1 a_1) (ne_2 : n_2 = List.length a_2) (k_2 : List.length a_2 ≤ c_2) (r_2 : Rd 3 T_api_Type.E m A_2 a_2) (e_3 : T_api_Type.E m y_3 cs_3) (e_6 : T_api_Type.E m y_6 cs_6), f48.j0 (roadref2_Swap.post W h0 m0 r) A_1 n_1 c_1 A_2 n_2 c_2 (⟨bk_3, 0, none⟩ : Addr) (⟨bk_6, 0, none⟩ : Addr) h
  | .l0 a_1 a_2 y_6 x_8_0 s_8_1 a_8_2 a_39 x_40 x_41, r => ∀ {W h0 m0 h m A_1 n_1 c_1 A_2 n_2 c_2 bk_6 cs_6 bk_8 A_8_2_0 n_8_2_0 c_8_2_0 A_39 n_39 c_39} (O : Hold W h0 m0 h m [rV bk_6 32 cs_6, rV bk_8 32 [(Value.int .i64 x_8_0), (Value.string s_8_1), (Value.slice A_8_2_0 n_8_2_0 c_8_2_0)], rR (aE T_api_Type.T) A_8_2_0 c_8_2_0 a_8_2]) (ne_1 : n_1 = List.length a_1) (k_1 : List.length a_1 ≤ c_1) (r_1 : Rd 1 eStr m A_1 a_1) (ne_2 : n_2 = List.length a_2) (k_2 : List.length a_2 ≤ c_2) (r_2 : Rd 3 T_api_Type.E m A_2 a_2) (e_6 : T_api_Type.E m y_6 cs_6) (ne_8_2_0 : n_8_2_0 = List.length a_8_2) (ne_39 : n_39 = List.length a_39) (k_39 : List.length a_39 ≤ c_39) (r_39 : Rd 3 T_api_Type.E m A_39 a_39), f48.l0 (roadref2_Swap.post W h0 m0 r) A_1 n_1 c_1 A_2 n_2 c_2 (⟨bk_6, 0, none⟩ : Addr) (⟨bk_8, 0, none⟩ : Addr) A_39 n_39 c_39 x_40 x_41 h
theorem roadref2_Swap_k.step_f (go : (p : roadref2_Swap_k.Pt) → Option (T_api_Type)) (ih : ∀ p r, go p = some r → roadref2_Swap_k.I p r) (y_0 a_1 a_2) (r) (e : roadref2_Swap_k.body go (.f y_0 a_1 a_2) = some r) : roadref2_Swap_k.I (.f y_0 a_1 a_2) r := by
  unfold roadref2_Swap_k.body at e
  intro W h m cs_0 A_1 n_1 c_1 A_2 n_2 c_2 O e_0 ne_1 k_1 r_1 ne_2 k_2 r_2
  subst ne_1
  subst ne_2
  refine f48.run ?_
  unfold f48.runT
  refine O.new fun h1 x2 O3 => ?_
  refine O3.new fun h5 x6 O7 => ?_
  refine ⟨_, ldk (k := 1) (Sub.refl _) (O7.all 0 rfl) (T_api_Type.g1 e_0), _, rfl, ?_⟩
  obtain ⟨y9, g10, e⟩ := bind_e e
  refine (slices_Index_53.walk (Hold.start (W := No) O7.s) rfl k_1 r_1 g10).mono ?_
  rintro _ h11 ⟨m12, Q13, rfl⟩
  have O15 := Hold.nm (O7.retC Q13 vfs_nil)
  refine ⟨_, rfl, ?_⟩
  refine ⟨_, ld0 (Sub.refl _) (O15.all 0 rfl) (T_api_Type.g0 e_0), _, rfl, ?_⟩
  refine split_eq_e e (fun c17 e => ?_) (fun c17 e => ?_)
  · refine split_dec_e e (fun c16 e => ?_) (fun c16 e => ?_)
    · exact (ih _ _ e) (O15.pick [0, 1]).nm rfl k_1 r_1 rfl k_2 r_2 e_0 (T_api_Type.iff.2 ⟨_, _, rfl, (by exact Nat.le_refl 0), Rd.nil⟩)
    · exact (ih _ _ e) (O15.pick [0, 1]).nm rfl k_1 r_1 rfl k_2 r_2 e_0 (T_api_Type.iff.2 ⟨_, _, rfl, (by exact Nat.le_refl 0), Rd.nil⟩)
  · exact (ih _ _ e) (O15.pick [0, 1]).nm rfl k_1 r_1 rfl k_2 r_2 e_0 (T_api_Type.iff.2 ⟨_, _, rfl, (by exact Nat.le_refl 0), Rd.nil⟩)
theorem roadref2_Swap_k.step_j1 (go : (p : roadref2_Swap_k.Pt) → Option (T_api_Type)) (ih : ∀ p r, go p = some r → roadref2_Swap_k.I p r) (a_1 a_2 y_3 y_6 x_7 b_27) (r) (e : roadref2_Swap_k.body go (.j1 a_1 a_2 y_3 y_6 x_7 b_27) = some r) : roadref2_Swap_k.I (.j1 a_1 a_2 y_3 y_6 x_7 b_27) r := by
  unfold roadref2_Swap_k.body at e
  intro W h0 m0 h m A_1 n_1 c_1 A_2 n_2 c_2 bk_3 cs_3 bk_6 cs_6 O ne_1 k_1 r_1 ne_2 k_2 r_2 e_3 e_6
  subst ne_1
  subst ne_2
  refine f48.j1_in ?_
  unfold f48.j1T
  refine split_any_e e (fun c21 e => ?_) (fun c21 e => ?_)
  · obtain ⟨y1, g2, e⟩ := bind_e e
    refine r_2.addr rfl g2 fun a3 cs4 ha5 hc6 he7 => ?_
    refine ⟨_, ldAn O.s hc6 rfl, ?_⟩
    obtain ⟨y8, g9, e⟩ := bind_e e
    refine ((ih _ _ g9) (Hold.start (W := No) O.s) he7 rfl (by exact Nat.le_refl 0) Rd.nil rfl (by exact Nat.le_refl 0) Rd.nil).mono ?_
    rintro _ h10 ⟨m11, cs15, Q12, rfl, he16⟩
    have O17 := Hold.nm (O.ret Q12)
    refine ⟨_, rfl, (T_api_Type.T.len _ _ _ he16), ?_⟩
    refine O17.stA 1 rfl ((T_api_Type.T.len _ _ _ he16).trans ((T_api_Type.T.len _ _ _ e_6)).symm) (T_api_Type.T.flat _ _ _ he16) fun h18 O19 => ?_
    refine ⟨_, ldAn (Sub.refl _) (O19.all 1 rfl) (T_api_Type.T.len _ _ _ he16), ?_⟩
    have O20 := O19.nm
    cases e
    exact ⟨_, _, O20.pick [], rfl, he16⟩
  · exact (ih _ _ e) (O.pick [0, 1]).nm rfl k_1 r_1 rfl k_2 r_2 e_3 e_6
theorem roadref2_Swap_k.step_j0 (go : (p : roadref2_Swap_k.Pt) → Option (T_api_Type)) (ih : ∀ p r, go p = some r → roadref2_Swap_k.I p r) (a_1 a_2 y_3 y_6) (r) (e : roadref2_Swap_k.body go (.j0 a_1 a_2 y_3 y_6) = some r) : roadref2_Swap_k.I (.j0 a_1 a_2 y_3 y_6) r := by
  unfold roadref2_Swap_k.body at e
  intro W h0 m0 h m A_1 n_1 c_1 A_2 n_2 c_2 bk_3 cs_3 bk_6 cs_6 O ne_1 k_1 r_1 ne_2 k_2 r_2 e_3 e_6
  subst ne_1
  subst ne_2
  refine f48.j0_in ?_
  unfold f48.j0T
  refine ⟨_, ld0 (Sub.refl _) (O.all 0 rfl) (T_api_Type.g0 e_3), _, rfl, ?_⟩
  refine ⟨_, ldk (k := 1) (Sub.refl _) (O.all 0 rfl) (T_api_Type.g1 e_3), _, rfl, ?_⟩
  refine O.new fun h1 x2 O3 => ?_
  refine ⟨_, rfl, rfl, ?_⟩
  refine O3.stA 2 rfl rfl (Flats.cons trivial (Flats.cons trivial (Flats.cons trivial Flats.nil))) fun h5 O6 => ?_
  obtain ⟨A7, c8, q9, k10, r11⟩ := T_api_Type.g2 e_3
  refine ⟨_, ldk (k := 2) (Sub.refl _) (O6.all 0 rfl) q9, _, _, _, rfl, ?_⟩
  have O12 := O6.nil (aE T_api_Type.T) none
  have O14 := O12.nm
  exact (ih _ _ e) (O14.pick [1, 2, 3]).nm rfl k_1 r_1 rfl k_2 r_2 e_6 rfl rfl k10 r11
set_option maxHeartbeats 4000000 in
theorem roadref2_Swap_k.step_l0 (go : (p : roadref2_Swap_k.Pt) → Option (T_api_Type)) (ih : ∀ p r, go p = some r → roadref2_Swap_k.I p r) (a_1 a_2 y_6 x_8_0 s_8_1 a_8_2 a_39 x_40 x_41) (r) (e : roadref2_Swap_k.body go (.l0 a_1 a_2 y_6 x_8_0 s_8_1 a_8_2 a_39 x_40 x_41) = some r) : roadref2_Swap_k.I (.l0 a_1 a_2 y_6 x_8_0 s_8_1 a_8_2 a_39 x_40 x_41) r := by
  unfold roadref2_Swap_k.body at e
  intro W h0 m0 h m A_1 n_1 c_1 A_2 n_2 c_2 bk_6 cs_6 bk_8 A_8_2_0 n_8_2_0 c_8_2_0 A_39 n_39 c_39 O ne_1 k_1 r_1 ne_2 k_2 r_2 e_6 ne_8_2_0 ne_39 k_39 r_39
  subst ne_1
  subst ne_2
  subst ne_8_2_0
  subst ne_39
  refine f48.l0_in ?_
  unfold f48.l0T
  refine split_dec_e e (fun c49 e => ?_) (fun c49 e => ?_)
  · obtain ⟨y1, g2, e⟩ := bind_e e
    refine r_39.addr rfl g2 fun a3 cs4 ha5 hc6 he7 => ?_
    refine ⟨_, ldAn O.s hc6 rfl, ?_⟩
    refine O.new fun h8 x9 O10 => ?_
    refine ⟨_, rfl, (T_api_Type.T.len _ _ _ he7), ?_⟩
    refine O10.stA 3 rfl (T_api_Type.T.len _ _ _ he7) (T_api_Type.T.flat _ _ _ he7) fun h12 O13 => ?_
    refine ⟨_, ldk (k := 2) (Sub.refl _) (O13.all 1 rfl) rfl, _, _, _, rfl, ?_⟩
    refine ⟨_, ldAn (Sub.refl _) (O13.all 3 rfl) (T_api_Type.T.len _ _ _ he7), ?_⟩
    obtain ⟨y14, g15, e⟩ := bind_e e
    refine ((ih _ _ g15) (Hold.start (W := No) O13.s) he7 rfl k_1 r_1 rfl k_2 r_2).mono ?_
    rintro _ h16 ⟨m17, cs21, Q18, rfl, he22⟩
    have O23 := Hold.nm (O13.ret Q18)
    refine ⟨Q18.S.ext, ?_⟩
    refine ⟨cs21, rfl, (T_api_Type.T.len _ _ _ he22), ?_⟩
    refine O23.new fun h24 x25 O26 => ?_
    have O28 := O26.recell 4 rfl (cs' := cs21 ++ []) rfl
    refine ⟨(Q18.S.ext.trans x25), ?_⟩
    obtain ⟨l29, g30, e⟩ := bind_e e
    have O37 := O28.rowE (l := ([y14] : List T_api_Type)) 4 rfl T_api_Type.T (show CsE _ _ _ _ _ from (CsE.cons he22 (T_api_Type.T.len _ _ _ he22) CsE.nil)) rfl
    refine O37.app 2 rfl rfl rfl ((O37.os 4 rfl).srcE rfl) (by decide) g30 fun A31 c32 h33 O34 => ?_
    refine ⟨_, _, _, rfl, ?_⟩
    refine O34.st 1 rfl 2 (Nat.le_of_ble_eq_true rfl) trivial fun h38 O39 => ?_
    have O40 := O39.nm
    exact (ih _ _ e) (O40.pick [0, 1, 2]).nm rfl k_1 (r_1.sub tell_str Q18.S.up) rfl k_2 (r_2.sub T_api_Type.T Q18.S.up) (T_api_Type.T.mono _ _ _ _ Q18.S.up e_6) rfl rfl k_39 (r_39.sub T_api_Type.T Q18.S.up)
  · refine ⟨_, ldAn (Sub.refl _) (O.all 1 rfl) rfl, ?_⟩
    refine ⟨_, rfl, rfl, ?_⟩
    refine O.stA 0 rfl ((T_api_Type.T.len _ _ _ e_6)).symm (Flats.cons trivial (Flats.cons trivial (Flats.cons trivial Flats.nil))) fun h41 O42 => ?_
    refine ⟨_, ldAn (Sub.refl _) (O42.all 0 rfl) rfl, ?_⟩
    obtain ⟨m43, u44, ⟨r45, k46⟩, O47⟩ := O42.frz 2 rfl
    replace r45 : Rd 3 T_api_Type.E m43 A_8_2_0 a_8_2 := r45
    have O48 := O47.nm
    cases e
    exact ⟨_, _, O48.pick [], rfl, (T_api_Type.iff.2 ⟨_, _, rfl, k46, r45⟩)⟩
theorem roadref2_Swap_k.all {p : roadref2_Swap_k.Pt} {r : (T_api_Type)} (e : roadref2_Swap_k.go p = some r) : roadref2_Swap_k.I p r := fixF_ind (β := fun _ => (T_api_Type)) roadref2_Swap_k.mono (I := roadref2_Swap_k.I) (fun go ih p r e => match p with
  | .f y_0 a_1 a_2 => roadref2_Swap_k.step_f go ih y_0 a_1 a_2 r e
  | .j1 a_1 a_2 y_3 y_6 x_7 b_27 => roadref2_Swap_k.step_j1 go ih a_1 a_2 y_3 y_6 x_7 b_27 r e
  | .j0 a_1 a_2 y_3 y_6 => roadref2_Swap_k.step_j0 go ih a_1 a_2 y_3 y_6 r e
  | .l0 a_1 a_2 y_6 x_8_0 s_8_1 a_8_2 a_39 x_40 x_41 => roadref2_Swap_k.step_l0 go ih a_1 a_2 y_6 x_8_0 s_8_1 a_8_2 a_39 x_40 x_41 r e
  ) e
theorem roadref2_Swap.walk {W h m cs_0 A_1 n_1 c_1 A_2 n_2 c_2 y_0 a_1 a_2} (O : Hold W h m h m []) (e_0 : T_api_Type.E m y_0 cs_0) (ne_1 : n_1 = List.length a_1) (k_1 : List.length a_1 ≤ c_1) (r_1 : Rd 1 eStr m A_1 a_1) (ne_2 : n_2 = List.length a_2) (k_2 : List.length a_2 ≤ c_2) (r_2 : Rd 3 T_api_Type.E m A_2 a_2) {r} (e : roadref2_Swap y_0 a_1 a_2 = some r) : Run Tryd.prog 48 #[Value.agg cs_0.toArray, Value.slice A_1 n_1 c_1, Value.slice A_2 n_2 c_2] h (roadref2_Swap.post W h m r) := roadref2_Swap_k.all (p := .f y_0 a_1 a_2) e O e_0 ne_1 k_1 r_1 ne_2 k_2 r_2
def strconv_Itoa.post (W : Nat → Prop) (h0 m0 : Heap) (r : ByteArray) (v : Value) (h : Heap) : Prop := ∃ m , Hold W h0 m0 h m [] ∧ v = .string r
noncomputable def strconv_Itoa (x0 : Int) : Option ByteArray := if -9223372036854775808 ≤ x0 ∧ x0 ≤ 9223372036854775807 then some (itoaB x0) else none
theorem strconv_Itoa.walk {W : Nat → Prop} {h m : Heap} {x0 : Int} (O : Hold W h m h m []) (tab : TB m) {r : ByteArray} (e : strconv_Itoa x0 = some r) : Run Tryd.prog 88 #[Value.int .i64 x0] h (strconv_Itoa.post W h m r) := by
  unfold strconv_Itoa at e
  exact (itoa_run (by kernel_rfl) Tryd.strconv_Itoa O tab.1 e).mono fun v h' hp => hp
def roadref2_nums.post (W : Nat → Prop) (h0 m0 : Heap) (r : ByteArray) (v : Value) (h : Heap) : Prop := ∃ m , Hold W h0 m0 h m [] ∧ v = .string r
inductive roadref2_nums.l0_k.Pt where
  | l0 (s_3 : ByteArray) (a_6 : List Int) (x_7 : Int) (x_8 : Int)
noncomputable def roadref2_nums.l0_k.body (go : (p : roadref2_nums.l0_k.Pt) → Option (ByteArray)) : (p : roadref2_nums.l0_k.Pt) → Option (ByteArray)
  | .l0 s_3 a_6 x_7 x_8 => if x_8 < x_7 then (Option.bind (gi a_6 x_8) fun y1 => Option.bind (strconv_Itoa y1) fun y8 => if ByteArray.size y8 + ByteArray.size (ByteArray.mk #[44]) ≤ 9223372036854775807 then (if ByteArray.size s_3 + ByteArray.size (y8 ++ (ByteArray.mk #[44])) ≤ 9223372036854775807 then ((go (.l0 (s_3 ++ (y8 ++ (ByteArray.mk #[44]))) a_6 x_7 (IntKind.wrap .i64 (x_8 + (1 : Int)))))) else none) else none) else (some (s_3))
theorem roadref2_nums.l0_k.mono : MonoF (β := fun _ => (ByteArray)) roadref2_nums.l0_k.body := fun f g hfg p => match p with
  | .l0 s_3 a_6 x_7 x_8 => LeO.ite (LeO.bind (LeO.refl _) fun y1 => LeO.bind (LeO.refl _) fun y8 => LeO.ite (LeO.ite ((hfg _)) (LeO.refl _)) (LeO.refl _)) (LeO.refl _)
noncomputable def roadref2_nums.l0_k.go (p : roadref2_nums.l0_k.Pt) : Option (ByteArray) := fixF (β := fun _ => (ByteArray)) roadref2_nums.l0_k.body p
noncomputable def roadref2_nums.l0 (s_3 a_6 x_7 x_8) := roadref2_nums.l0_k.go (.l0 s_3 a_6 x_7 x_8)
theorem roadref2_nums.l0_eq (s_3 a_6 x_7 x_8) : roadref2_nums.l0 s_3 a_6 x_7 x_8 = if x_8 < x_7 then (Option.bind (gi a_6 x_8) fun y1 => Option.bind (strconv_Itoa y1) fun y8 => if ByteArray.size y8 + ByteArray.size (ByteArray.mk #[44]) ≤ 9223372036854775807 then (if ByteArray.size s_3 + ByteArray.size (y8 ++ (ByteArray.mk #[44])) ≤ 9223372036854775807 then ((roadref2_nums.l0 (s_3 ++ (y8 ++ (ByteArray.mk #[44]))) a_6 x_7 (IntKind.wrap .i64 (x_8 + (1 : Int))))) else none) else none) else (some (s_3)) := fixF_eq roadref2_nums.l0_k.mono _
def roadref2_nums.l0_k.I : (p : roadref2_nums.l0_k.Pt) → (ByteArray) → Prop
  | .l0 s_3 a_6 x_7 x_8, r => ∀ {W h0 m0 h m A_6 n_6 c_6} (O : Hold W h0 m0 h m []) (ne_6 : n_6 = List.length a_6) (k_6 : List.length a_6 ≤ c_6) (r_6 : Rd 1 (eInt .i64) m A_6 a_6) (tab : TB m), f76.l0 (roadref2_nums.post W h0 m0 r) s_3 A_6 n_6 c_6 x_7 x_8 h
theorem roadref2_nums.l0_k.step_l0 (go : (p : roadref2_nums.l0_k.Pt) → Option (ByteArray)) (ih : ∀ p r, go p = some r → roadref2_nums.l0_k.I p r) (s_3 a_6 x_7 x_8) (r) (e : roadref2_nums.l0_k.body go (.l0 s_3 a_6 x_7 x_8) = some r) : roadref2_nums.l0_k.I (.l0 s_3 a_6 x_7 x_8) r := by
  unfold roadref2_nums.l0_k.body at e
  intro W h0 m0 h m A_6 n_6 c_6 O ne_6 k_6 r_6 tab
  subst ne_6
  refine f76.l0_in ?_
  unfold f76.l0T
  refine split_dec_e e (fun c17 e => ?_) (fun c17 e => ?_)
  · obtain ⟨y1, g2, e⟩ := bind_e e
    refine r_6.addr rfl g2 fun a3 cs4 ha5 hc6 he7 => ?_
    obtain rfl : cs4 = [(Value.int .i64 y1)] := he7
    refine ⟨_, ld0 O.s hc6 rfl, _, rfl, ?_⟩
    obtain ⟨y8, g9, e⟩ := bind_e e
    refine (strconv_Itoa.walk (Hold.start (W := No) O.s) tab g9).mono ?_
    rintro _ h10 ⟨m11, Q12, rfl⟩
    have O14 := Hold.nm (O.retC Q12 vfs_nil)
    refine ⟨_, rfl, ?_⟩
    obtain ⟨g15, e⟩ := guard_e e
    refine ⟨g15, ?_⟩
    obtain ⟨g16, e⟩ := guard_e e
    refine ⟨g16, ?_⟩
    exact (ih _ _ e) (O14.pick []).nm rfl k_6 r_6 tab
  · cases e
    exact ⟨_, O.pick [], rfl⟩
theorem roadref2_nums.l0_k.all {p : roadref2_nums.l0_k.Pt} {r : (ByteArray)} (e : roadref2_nums.l0_k.go p = some r) : roadref2_nums.l0_k.I p r := fixF_ind (β := fun _ => (ByteArray)) roadref2_nums.l0_k.mono (I := roadref2_nums.l0_k.I) (fun go ih p r e => match p with
  | .l0 s_3 a_6 x_7 x_8 => roadref2_nums.l0_k.step_l0 go ih s_3 a_6 x_7 x_8 r e
  ) e
noncomputable def roadref2_nums (a_0 : List Int) : Option (ByteArray) :=
  (roadref2_nums.l0 (ByteArray.mk #[]) a_0 (((List.length a_0) : Nat) : Int) (0 : Int))
theorem roadref2_nums.walk {W h m A_0 n_0 c_0 a_0} (O : Hold W h m h m []) (ne_0 : n_0 = List.length a_0) (k_0 : List.length a_0 ≤ c_0) (r_0 : Rd 1 (eInt .i64) m A_0 a_0) (tab : TB m) {r} (e : roadref2_nums a_0 = some r) : Run Tryd.prog 76 #[Value.slice A_0 n_0 c_0] h (roadref2_nums.post W h m r) := by
  unfold roadref2_nums at e
  subst ne_0
  refine f76.run ?_
  unfold f76.runT
  exact (roadref2_nums.l0_k.all e) (O.pick []).nm rfl k_0 r_0 tab
def roadref2_texts.post (W : Nat → Prop) (h0 m0 : Heap) (r : ByteArray) (v : Value) (h : Heap) : Prop := ∃ m , Hold W h0 m0 h m [] ∧ v = .string r
inductive roadref2_texts.l0_k.Pt where
  | l0 (s_3 : ByteArray) (a_6 : List ByteArray) (x_7 : Int) (x_8 : Int)
noncomputable def roadref2_texts.l0_k.body (go : (p : roadref2_texts.l0_k.Pt) → Option (ByteArray)) : (p : roadref2_texts.l0_k.Pt) → Option (ByteArray)
  | .l0 s_3 a_6 x_7 x_8 => if x_8 < x_7 then (Option.bind (gi a_6 x_8) fun y1 => Option.bind (roadref2_nums ([((ByteArray.size y1 : Nat) : Int)] : List Int)) fun y13 => if ByteArray.size y13 + ByteArray.size y1 ≤ 9223372036854775807 then (if ByteArray.size s_3 + ByteArray.size (y13 ++ y1) ≤ 9223372036854775807 then ((go (.l0 (s_3 ++ (y13 ++ y1)) a_6 x_7 (IntKind.wrap .i64 (x_8 + (1 : Int)))))) else none) else none) else (some (s_3))
theorem roadref2_texts.l0_k.mono : MonoF (β := fun _ => (ByteArray)) roadref2_texts.l0_k.body := fun f g hfg p => match p with
  | .l0 s_3 a_6 x_7 x_8 => LeO.ite (LeO.bind (LeO.refl _) fun y1 => LeO.bind (LeO.refl _) fun y13 => LeO.ite (LeO.ite ((hfg _)) (LeO.refl _)) (LeO.refl _)) (LeO.refl _)
noncomputable def roadref2_texts.l0_k.go (p : roadref2_texts.l0_k.Pt) : Option (ByteArray) := fixF (β := fun _ => (ByteArray)) roadref2_texts.l0_k.body p
noncomputable def roadref2_texts.l0 (s_3 a_6 x_7 x_8) := roadref2_texts.l0_k.go (.l0 s_3 a_6 x_7 x_8)
theorem roadref2_texts.l0_eq (s_3 a_6 x_7 x_8) : roadref2_texts.l0 s_3 a_6 x_7 x_8 = if x_8 < x_7 then (Option.bind (gi a_6 x_8) fun y1 => Option.bind (roadref2_nums ([((ByteArray.size y1 : Nat) : Int)] : List Int)) fun y13 => if ByteArray.size y13 + ByteArray.size y1 ≤ 9223372036854775807 then (if ByteArray.size s_3 + ByteArray.size (y13 ++ y1) ≤ 9223372036854775807 then ((roadref2_texts.l0 (s_3 ++ (y13 ++ y1)) a_6 x_7 (IntKind.wrap .i64 (x_8 + (1 : Int))))) else none) else none) else (some (s_3)) := fixF_eq roadref2_texts.l0_k.mono _
def roadref2_texts.l0_k.I : (p : roadref2_texts.l0_k.Pt) → (ByteArray) → Prop
  | .l0 s_3 a_6 x_7 x_8, r => ∀ {W h0 m0 h m A_6 n_6 c_6} (O : Hold W h0 m0 h m []) (ne_6 : n_6 = List.length a_6) (k_6 : List.length a_6 ≤ c_6) (r_6 : Rd 1 eStr m A_6 a_6) (tab : TB m), f89.l0 (roadref2_texts.post W h0 m0 r) s_3 A_6 n_6 c_6 x_7 x_8 h
theorem roadref2_texts.l0_k.step_l0 (go : (p : roadref2_texts.l0_k.Pt) → Option (ByteArray)) (ih : ∀ p r, go p = some r → roadref2_texts.l0_k.I p r) (s_3 a_6 x_7 x_8) (r) (e : roadref2_texts.l0_k.body go (.l0 s_3 a_6 x_7 x_8) = some r) : roadref2_texts.l0_k.I (.l0 s_3 a_6 x_7 x_8) r := by
  unfold roadref2_texts.l0_k.body at e
  intro W h0 m0 h m A_6 n_6 c_6 O ne_6 k_6 r_6 tab
  subst ne_6
  refine f89.l0_in ?_
  unfold f89.l0T
  refine split_dec_e e (fun c30 e => ?_) (fun c30 e => ?_)
  · obtain ⟨y1, g2, e⟩ := bind_e e
    refine r_6.addr rfl g2 fun a3 cs4 ha5 hc6 he7 => ?_
    obtain rfl : cs4 = [(Value.string y1)] := he7
    refine ⟨_, ld0 O.s hc6 rfl, _, rfl, ?_⟩
    refine O.new fun h8 x9 O10 => ?_
    obtain ⟨y13, g14, e⟩ := bind_e e
    have O12 := O10.rowE (l := ([((ByteArray.size y1 : Nat) : Int)] : List Int)) 0 rfl (tell_int .i64) (show CsE _ _ _ _ _ from (CsE.cons (c1 := [(Value.int .i64 ((ByteArray.size y1 : Nat) : Int))]) rfl rfl CsE.nil)) rfl
    have O19 := O12.nm
    obtain ⟨m20, u21, s26, ⟨⟨r24, k25⟩, _⟩, B22, C23⟩ := O19.lend0 [0]
    replace r24 : Rd 1 (eInt .i64) m20 (some ⟨(Array.size h), 0, none⟩) ([((ByteArray.size y1 : Nat) : Int)] : List Int) := r24
    replace k25 : List.length ([((ByteArray.size y1 : Nat) : Int)] : List Int) ≤ 1 := k25
    refine (roadref2_nums.walk (Hold.start (W := No) s26) rfl k25 r24 (TB.sub tab u21) g14).mono ?_
    rintro _ h15 ⟨m16, Q17, rfl⟩
    have O27 := Hold.nm (C23 Q17 vfs_nil)
    refine ⟨_, rfl, ?_⟩
    obtain ⟨g28, e⟩ := guard_e e
    refine ⟨g28, ?_⟩
    obtain ⟨g29, e⟩ := guard_e e
    refine ⟨g29, ?_⟩
    exact (ih _ _ e) (O27.pick []).nm rfl k_6 r_6 tab
  · cases e
    exact ⟨_, O.pick [], rfl⟩
theorem roadref2_texts.l0_k.all {p : roadref2_texts.l0_k.Pt} {r : (ByteArray)} (e : roadref2_texts.l0_k.go p = some r) : roadref2_texts.l0_k.I p r := fixF_ind (β := fun _ => (ByteArray)) roadref2_texts.l0_k.mono (I := roadref2_texts.l0_k.I) (fun go ih p r e => match p with
  | .l0 s_3 a_6 x_7 x_8 => roadref2_texts.l0_k.step_l0 go ih s_3 a_6 x_7 x_8 r e
  ) e
noncomputable def roadref2_texts (a_0 : List ByteArray) : Option (ByteArray) :=
  (roadref2_texts.l0 (ByteArray.mk #[]) a_0 (((List.length a_0) : Nat) : Int) (0 : Int))
theorem roadref2_texts.walk {W h m A_0 n_0 c_0 a_0} (O : Hold W h m h m []) (ne_0 : n_0 = List.length a_0) (k_0 : List.length a_0 ≤ c_0) (r_0 : Rd 1 eStr m A_0 a_0) (tab : TB m) {r} (e : roadref2_texts a_0 = some r) : Run Tryd.prog 89 #[Value.slice A_0 n_0 c_0] h (roadref2_texts.post W h m r) := by
  unfold roadref2_texts at e
  subst ne_0
  refine f89.run ?_
  unfold f89.runT
  exact (roadref2_texts.l0_k.all e) (O.pick []).nm rfl k_0 r_0 tab
def roadref2_TypeMark.post (W : Nat → Prop) (h0 m0 : Heap) (r : ByteArray) (v : Value) (h : Heap) : Prop := ∃ m , Hold W h0 m0 h m [] ∧ v = .string r
inductive roadref2_TypeMark_k.Pt where
  | f (y_0 : T_api_Type)
  | j0 (y_1 : T_api_Type) (s_3 : ByteArray)
  | l0 (s_3 : ByteArray) (a_19 : List T_api_Type) (x_20 : Int) (x_21 : Int)
noncomputable def roadref2_TypeMark_k.body (go : (p : roadref2_TypeMark_k.Pt) → Option (ByteArray)) : (p : roadref2_TypeMark_k.Pt) → Option (ByteArray)
  | .f y_0 => Option.bind (roadref2_nums ([y_0.Kind, (((List.length y_0.Args) : Nat) : Int)] : List Int)) fun y15 => Option.bind (roadref2_texts ([y_0.Name] : List ByteArray)) fun y35 => if ByteArray.size y15 + ByteArray.size y35 ≤ 9223372036854775807 then ((go (.j0 y_0 (y15 ++ y35)))) else none
  | .j0 y_1 s_3 => (go (.l0 s_3 y_1.Args (((List.length y_1.Args) : Nat) : Int) (0 : Int)))
  | .l0 s_3 a_19 x_20 x_21 => if x_21 < x_20 then (Option.bind (gi a_19 x_21) fun y1 => Option.bind ((go (.f y1))) fun y14 => if ByteArray.size s_3 + ByteArray.size y14 ≤ 9223372036854775807 then ((go (.l0 (s_3 ++ y14) a_19 x_20 (IntKind.wrap .i64 (x_21 + (1 : Int)))))) else none) else (some (s_3))
theorem roadref2_TypeMark_k.mono : MonoF (β := fun _ => (ByteArray)) roadref2_TypeMark_k.body := fun f g hfg p => match p with
  | .f y_0 => LeO.bind (LeO.refl _) fun y15 => LeO.bind (LeO.refl _) fun y35 => LeO.ite ((hfg _)) (LeO.refl _)
  | .j0 y_1 s_3 => (hfg _)
  | .l0 s_3 a_19 x_20 x_21 => LeO.ite (LeO.bind (LeO.refl _) fun y1 => LeO.bind ((hfg _)) fun y14 => LeO.ite ((hfg _)) (LeO.refl _)) (LeO.refl _)
noncomputable def roadref2_TypeMark_k.go (p : roadref2_TypeMark_k.Pt) : Option (ByteArray) := fixF (β := fun _ => (ByteArray)) roadref2_TypeMark_k.body p
noncomputable def roadref2_TypeMark (y_0) := roadref2_TypeMark_k.go (.f y_0)
noncomputable def roadref2_TypeMark.j0 (y_1 s_3) := roadref2_TypeMark_k.go (.j0 y_1 s_3)
noncomputable def roadref2_TypeMark.l0 (s_3 a_19 x_20 x_21) := roadref2_TypeMark_k.go (.l0 s_3 a_19 x_20 x_21)
theorem roadref2_TypeMark_eq (y_0) : roadref2_TypeMark y_0 = Option.bind (roadref2_nums ([y_0.Kind, (((List.length y_0.Args) : Nat) : Int)] : List Int)) fun y15 => Option.bind (roadref2_texts ([y_0.Name] : List ByteArray)) fun y35 => if ByteArray.size y15 + ByteArray.size y35 ≤ 9223372036854775807 then ((roadref2_TypeMark.j0 y_0 (y15 ++ y35))) else none := fixF_eq roadref2_TypeMark_k.mono _
theorem roadref2_TypeMark.j0_eq (y_1 s_3) : roadref2_TypeMark.j0 y_1 s_3 = (roadref2_TypeMark.l0 s_3 y_1.Args (((List.length y_1.Args) : Nat) : Int) (0 : Int)) := fixF_eq roadref2_TypeMark_k.mono _
theorem roadref2_TypeMark.l0_eq (s_3 a_19 x_20 x_21) : roadref2_TypeMark.l0 s_3 a_19 x_20 x_21 = if x_21 < x_20 then (Option.bind (gi a_19 x_21) fun y1 => Option.bind ((roadref2_TypeMark y1)) fun y14 => if ByteArray.size s_3 + ByteArray.size y14 ≤ 9223372036854775807 then ((roadref2_TypeMark.l0 (s_3 ++ y14) a_19 x_20 (IntKind.wrap .i64 (x_21 + (1 : Int))))) else none) else (some (s_3)) := fixF_eq roadref2_TypeMark_k.mono _
def roadref2_TypeMark_k.I : (p : roadref2_TypeMark_k.Pt) → (ByteArray) → Prop
  | .f y_0, r => ∀ {W h m cs_0} (O : Hold W h m h m []) (e_0 : T_api_Type.E m y_0 cs_0) (tab : TB m), Run Tryd.prog 77 #[Value.agg cs_0.toArray] h (roadref2_TypeMark.post W h m r)
  | .j0 y_1 s_3, r => ∀ {W h0 m0 h m bk_1 cs_1} (O : Hold W h0 m0 h m [rV bk_1 32 cs_1]) (e_1 : T_api_Type.E m y_1 cs_1) (tab : TB m), f77.j0 (roadref2_TypeMark.post W h0 m0 r) (⟨bk_1, 0, none⟩ : Addr) s_3 h
  | .l0 s_3 a_19 x_20 x_21, r => ∀ {W h0 m0 h m A_19 n_19 c_19} (O : Hold W h0 m0 h m []) (ne_19 : n_19 = List.length a_19) (k_19 : List.length a_19 ≤ c_19) (r_19 : Rd 3 T_api_Type.E m A_19 a_19) (tab : TB m), f77.l0 (roadref2_TypeMark.post W h0 m0 r) s_3 A_19 n_19 c_19 x_20 x_21 h
set_option maxHeartbeats 4000000 in
theorem roadref2_TypeMark_k.step_f (go : (p : roadref2_TypeMark_k.Pt) → Option (ByteArray)) (ih : ∀ p r, go p = some r → roadref2_TypeMark_k.I p r) (y_0) (r) (e : roadref2_TypeMark_k.body go (.f y_0) = some r) : roadref2_TypeMark_k.I (.f y_0) r := by
  unfold roadref2_TypeMark_k.body at e
  intro W h m cs_0 O e_0 tab
  refine f77.run ?_
  unfold f77.runT
  refine O.new fun h1 x2 O3 => ?_
  refine ⟨_, ld0 (Sub.refl _) (O3.all 0 rfl) (T_api_Type.g0 e_0), _, rfl, ?_⟩
  obtain ⟨A5, c6, q7, k8, r9⟩ := T_api_Type.g2 e_0
  refine ⟨_, ldk (k := 2) (Sub.refl _) (O3.all 0 rfl) q7, _, _, _, rfl, ?_⟩
  refine ⟨_, ldk (k := 1) (Sub.refl _) (O3.all 0 rfl) (T_api_Type.g1 e_0), _, rfl, ?_⟩
  obtain ⟨y15, g16, e⟩ := bind_e e
  obtain ⟨y35, g36, e⟩ := bind_e e
  refine ⟨?_, ?_⟩
  · refine O3.new fun h51 x52 O53 => ?_
    refine ⟨ldk (k := 1) (Sub.refl _) (O53.all 0 rfl) (T_api_Type.g1 e_0), ?_⟩
    refine ⟨?_, ?_⟩
    · have O55 := O53.rowE (l := ([y_0.Kind, (((List.length y_0.Args) : Nat) : Int)] : List Int)) 1 rfl (tell_int .i64) (show CsE _ _ _ _ _ from (CsE.cons (c1 := [(Value.int .i64 y_0.Kind)]) rfl rfl (CsE.cons (c1 := [(Value.int .i64 (((List.length y_0.Args) : Nat) : Int))]) rfl rfl CsE.nil))) rfl
      have O62 := O55.nm
      obtain ⟨m63, u64, s69, ⟨⟨r67, k68⟩, _⟩, B65, C66⟩ := O62.lend0 [1]
      replace r67 : Rd 1 (eInt .i64) m63 (some ⟨(Array.size h1), 0, none⟩) ([y_0.Kind, (((List.length y_0.Args) : Nat) : Int)] : List Int) := r67
      replace k68 : List.length ([y_0.Kind, (((List.length y_0.Args) : Nat) : Int)] : List Int) ≤ 2 := k68
      refine (roadref2_nums.walk (Hold.start (W := No) s69) rfl k68 r67 (TB.sub tab u64) g16).mono ?_
      rintro _ h58 ⟨m59, Q60, rfl⟩
      have O70 := Hold.nm (C66 Q60 vfs_nil)
      refine ⟨_, rfl, ?_⟩
      refine ⟨ldk (k := 1) (Sub.refl _) (O70.all 0 rfl) (T_api_Type.g1 e_0), ?_⟩
      refine O70.new fun h71 x72 O73 => ?_
      refine ⟨((x52.trans Q60.S.ext).trans x72), ?_⟩
      have O75 := O73.rowE (l := ([y_0.Name] : List ByteArray)) 2 rfl tell_str (show CsE _ _ _ _ _ from (CsE.cons (c1 := [(Value.string y_0.Name)]) rfl rfl CsE.nil)) rfl
      have O82 := O75.nm
      obtain ⟨m83, u84, s89, ⟨⟨r87, k88⟩, _⟩, B85, C86⟩ := O82.lend0 [2]
      replace r87 : Rd 1 eStr m83 (some ⟨(Array.size h58), 0, none⟩) ([y_0.Name] : List ByteArray) := r87
      replace k88 : List.length ([y_0.Name] : List ByteArray) ≤ 1 := k88
      refine (roadref2_texts.walk (Hold.start (W := No) s89) rfl k88 r87 (TB.sub tab u84) g36).mono ?_
      rintro _ h78 ⟨m79, Q80, rfl⟩
      have O90 := Hold.nm (C86 Q80 vfs_nil)
      refine ⟨_, rfl, ?_⟩
      obtain ⟨g91, e⟩ := guard_e e
      refine ⟨g91, ?_⟩
      exact (ih _ _ e) (O90.pick [0]).nm e_0 tab
    · refine O53.new fun h92 x93 O94 => ?_
      refine ⟨(x52.trans x93), ?_⟩
      have O96 := O94.rowE (l := ([y_0.Kind, (((List.length y_0.Args) : Nat) : Int)] : List Int)) 1 rfl (tell_int .i64) (show CsE _ _ _ _ _ from (CsE.cons (c1 := [(Value.int .i64 y_0.Kind)]) rfl rfl (CsE.cons (c1 := [(Value.int .i64 (((List.length y_0.Args) : Nat) : Int))]) rfl rfl CsE.nil))) rfl
      have O103 := O96.nm
      obtain ⟨m104, u105, s110, ⟨⟨r108, k109⟩, _⟩, B106, C107⟩ := O103.lend0 [1]
      replace r108 : Rd 1 (eInt .i64) m104 (some ⟨(Array.size h1), 0, none⟩) ([y_0.Kind, (((List.length y_0.Args) : Nat) : Int)] : List Int) := r108
      replace k109 : List.length ([y_0.Kind, (((List.length y_0.Args) : Nat) : Int)] : List Int) ≤ 2 := k109
      refine (roadref2_nums.walk (Hold.start (W := No) s110) rfl k109 r108 (TB.sub tab u105) g16).mono ?_
      rintro _ h99 ⟨m100, Q101, rfl⟩
      have O111 := Hold.nm (C107 Q101 vfs_nil)
      refine ⟨_, rfl, ?_⟩
      refine ⟨ldk (k := 1) (Sub.refl _) (O111.all 0 rfl) (T_api_Type.g1 e_0), ?_⟩
      have O112 := O111.rowE (l := ([y_0.Name] : List ByteArray)) 2 rfl tell_str (show CsE _ _ _ _ _ from (CsE.cons (c1 := [(Value.string y_0.Name)]) rfl rfl CsE.nil)) rfl
      have O119 := O112.nm
      obtain ⟨m120, u121, s126, ⟨⟨r124, k125⟩, _⟩, B122, C123⟩ := O119.lend0 [2]
      replace r124 : Rd 1 eStr m120 (some ⟨(Array.size h51), 0, none⟩) ([y_0.Name] : List ByteArray) := r124
      replace k125 : List.length ([y_0.Name] : List ByteArray) ≤ 1 := k125
      refine (roadref2_texts.walk (Hold.start (W := No) s126) rfl k125 r124 (TB.sub tab u121) g36).mono ?_
      rintro _ h115 ⟨m116, Q117, rfl⟩
      have O127 := Hold.nm (C123 Q117 vfs_nil)
      refine ⟨_, rfl, ?_⟩
      obtain ⟨g128, e⟩ := guard_e e
      refine ⟨g128, ?_⟩
      exact (ih _ _ e) (O127.pick [0]).nm e_0 tab
  · refine O3.new fun h129 x130 O131 => ?_
    refine ⟨x130, ?_⟩
    refine O131.new fun h133 x134 O135 => ?_
    refine ⟨ldk (k := 1) (Sub.refl _) (O135.all 0 rfl) (T_api_Type.g1 e_0), ?_⟩
    have O137 := O135.rowE (l := ([y_0.Kind, (((List.length y_0.Args) : Nat) : Int)] : List Int)) 2 rfl (tell_int .i64) (show CsE _ _ _ _ _ from (CsE.cons (c1 := [(Value.int .i64 y_0.Kind)]) rfl rfl (CsE.cons (c1 := [(Value.int .i64 (((List.length y_0.Args) : Nat) : Int))]) rfl rfl CsE.nil))) rfl
    have O144 := O137.nm
    obtain ⟨m145, u146, s151, ⟨⟨r149, k150⟩, _⟩, B147, C148⟩ := O144.lend0 [2]
    replace r149 : Rd 1 (eInt .i64) m145 (some ⟨(Array.size h129), 0, none⟩) ([y_0.Kind, (((List.length y_0.Args) : Nat) : Int)] : List Int) := r149
    replace k150 : List.length ([y_0.Kind, (((List.length y_0.Args) : Nat) : Int)] : List Int) ≤ 2 := k150
    refine (roadref2_nums.walk (Hold.start (W := No) s151) rfl k150 r149 (TB.sub tab u146) g16).mono ?_
    rintro _ h140 ⟨m141, Q142, rfl⟩
    have O152 := Hold.nm (C148 Q142 vfs_nil)
    refine ⟨_, rfl, ?_⟩
    refine ⟨ldk (k := 1) (Sub.refl _) (O152.all 0 rfl) (T_api_Type.g1 e_0), ?_⟩
    have O153 := O152.rowE (l := ([y_0.Name] : List ByteArray)) 1 rfl tell_str (show CsE _ _ _ _ _ from (CsE.cons (c1 := [(Value.string y_0.Name)]) rfl rfl CsE.nil)) rfl
    have O160 := O153.nm
    obtain ⟨m161, u162, s167, ⟨⟨r165, k166⟩, _⟩, B163, C164⟩ := O160.lend0 [1]
    replace r165 : Rd 1 eStr m161 (some ⟨(Array.size h1), 0, none⟩) ([y_0.Name] : List ByteArray) := r165
    replace k166 : List.length ([y_0.Name] : List ByteArray) ≤ 1 := k166
    refine (roadref2_texts.walk (Hold.start (W := No) s167) rfl k166 r165 (TB.sub tab u162) g36).mono ?_
    rintro _ h156 ⟨m157, Q158, rfl⟩
    have O168 := Hold.nm (C164 Q158 vfs_nil)
    refine ⟨_, rfl, ?_⟩
    obtain ⟨g169, e⟩ := guard_e e
    refine ⟨g169, ?_⟩
    exact (ih _ _ e) (O168.pick [0]).nm e_0 tab
theorem roadref2_TypeMark_k.step_j0 (go : (p : roadref2_TypeMark_k.Pt) → Option (ByteArray)) (ih : ∀ p r, go p = some r → roadref2_TypeMark_k.I p r) (y_1 s_3) (r) (e : roadref2_TypeMark_k.body go (.j0 y_1 s_3) = some r) : roadref2_TypeMark_k.I (.j0 y_1 s_3) r := by
  unfold roadref2_TypeMark_k.body at e
  intro W h0 m0 h m bk_1 cs_1 O e_1 tab
  refine f77.j0_in ?_
  unfold f77.j0T
  obtain ⟨A1, c2, q3, k4, r5⟩ := T_api_Type.g2 e_1
  refine ⟨_, ldk (k := 2) (Sub.refl _) (O.all 0 rfl) q3, _, _, _, rfl, ?_⟩
  exact (ih _ _ e) (O.pick []).nm rfl k4 r5 tab
theorem roadref2_TypeMark_k.step_l0 (go : (p : roadref2_TypeMark_k.Pt) → Option (ByteArray)) (ih : ∀ p r, go p = some r → roadref2_TypeMark_k.I p r) (s_3 a_19 x_20 x_21) (r) (e : roadref2_TypeMark_k.body go (.l0 s_3 a_19 x_20 x_21) = some r) : roadref2_TypeMark_k.I (.l0 s_3 a_19 x_20 x_21) r := by
  unfold roadref2_TypeMark_k.body at e
  intro W h0 m0 h m A_19 n_19 c_19 O ne_19 k_19 r_19 tab
  subst ne_19
  refine f77.l0_in ?_
  unfold f77.l0T
  refine split_dec_e e (fun c22 e => ?_) (fun c22 e => ?_)
  · obtain ⟨y1, g2, e⟩ := bind_e e
    refine r_19.addr rfl g2 fun a3 cs4 ha5 hc6 he7 => ?_
    refine ⟨_, ldAn O.s hc6 rfl, ?_⟩
    refine O.new fun h8 x9 O10 => ?_
    refine ⟨_, rfl, (T_api_Type.T.len _ _ _ he7), ?_⟩
    refine O10.stA 0 rfl (T_api_Type.T.len _ _ _ he7) (T_api_Type.T.flat _ _ _ he7) fun h12 O13 => ?_
    refine ⟨_, ldAn (Sub.refl _) (O13.all 0 rfl) (T_api_Type.T.len _ _ _ he7), ?_⟩
    obtain ⟨y14, g15, e⟩ := bind_e e
    refine ((ih _ _ g15) (Hold.start (W := No) O13.s) he7 tab).mono ?_
    rintro _ h16 ⟨m17, Q18, rfl⟩
    have O20 := Hold.nm (O13.retC Q18 vfs_nil)
    refine ⟨_, rfl, ?_⟩
    obtain ⟨g21, e⟩ := guard_e e
    refine ⟨g21, ?_⟩
    exact (ih _ _ e) (O20.pick []).nm rfl k_19 r_19 tab
  · cases e
    exact ⟨_, O.pick [], rfl⟩
theorem roadref2_TypeMark_k.all {p : roadref2_TypeMark_k.Pt} {r : (ByteArray)} (e : roadref2_TypeMark_k.go p = some r) : roadref2_TypeMark_k.I p r := fixF_ind (β := fun _ => (ByteArray)) roadref2_TypeMark_k.mono (I := roadref2_TypeMark_k.I) (fun go ih p r e => match p with
  | .f y_0 => roadref2_TypeMark_k.step_f go ih y_0 r e
  | .j0 y_1 s_3 => roadref2_TypeMark_k.step_j0 go ih y_1 s_3 r e
  | .l0 s_3 a_19 x_20 x_21 => roadref2_TypeMark_k.step_l0 go ih s_3 a_19 x_20 x_21 r e
  ) e
theorem roadref2_TypeMark.walk {W h m cs_0 y_0} (O : Hold W h m h m []) (e_0 : T_api_Type.E m y_0 cs_0) (tab : TB m) {r} (e : roadref2_TypeMark y_0 = some r) : Run Tryd.prog 77 #[Value.agg cs_0.toArray] h (roadref2_TypeMark.post W h m r) := roadref2_TypeMark_k.all (p := .f y_0) e O e_0 tab
def roadref2_typesMark.post (W : Nat → Prop) (h0 m0 : Heap) (r : ByteArray) (v : Value) (h : Heap) : Prop := ∃ m , Hold W h0 m0 h m [] ∧ v = .string r
inductive roadref2_typesMark.l0_k.Pt where
  | l0 (s_3 : ByteArray) (a_10 : List T_api_Type) (x_11 : Int) (x_12 : Int)
noncomputable def roadref2_typesMark.l0_k.body (go : (p : roadref2_typesMark.l0_k.Pt) → Option (ByteArray)) : (p : roadref2_typesMark.l0_k.Pt) → Option (ByteArray)
  | .l0 s_3 a_10 x_11 x_12 => if x_12 < x_11 then (Option.bind (gi a_10 x_12) fun y1 => Option.bind (roadref2_TypeMark y1) fun y14 => if ByteArray.size s_3 + ByteArray.size y14 ≤ 9223372036854775807 then ((go (.l0 (s_3 ++ y14) a_10 x_11 (IntKind.wrap .i64 (x_12 + (1 : Int)))))) else none) else (some (s_3))
theorem roadref2_typesMark.l0_k.mono : MonoF (β := fun _ => (ByteArray)) roadref2_typesMark.l0_k.body := fun f g hfg p => match p with
  | .l0 s_3 a_10 x_11 x_12 => LeO.ite (LeO.bind (LeO.refl _) fun y1 => LeO.bind (LeO.refl _) fun y14 => LeO.ite ((hfg _)) (LeO.refl _)) (LeO.refl _)
noncomputable def roadref2_typesMark.l0_k.go (p : roadref2_typesMark.l0_k.Pt) : Option (ByteArray) := fixF (β := fun _ => (ByteArray)) roadref2_typesMark.l0_k.body p
noncomputable def roadref2_typesMark.l0 (s_3 a_10 x_11 x_12) := roadref2_typesMark.l0_k.go (.l0 s_3 a_10 x_11 x_12)
theorem roadref2_typesMark.l0_eq (s_3 a_10 x_11 x_12) : roadref2_typesMark.l0 s_3 a_10 x_11 x_12 = if x_12 < x_11 then (Option.bind (gi a_10 x_12) fun y1 => Option.bind (roadref2_TypeMark y1) fun y14 => if ByteArray.size s_3 + ByteArray.size y14 ≤ 9223372036854775807 then ((roadref2_typesMark.l0 (s_3 ++ y14) a_10 x_11 (IntKind.wrap .i64 (x_12 + (1 : Int))))) else none) else (some (s_3)) := fixF_eq roadref2_typesMark.l0_k.mono _
def roadref2_typesMark.l0_k.I : (p : roadref2_typesMark.l0_k.Pt) → (ByteArray) → Prop
  | .l0 s_3 a_10 x_11 x_12, r => ∀ {W h0 m0 h m A_10 n_10 c_10} (O : Hold W h0 m0 h m []) (ne_10 : n_10 = List.length a_10) (k_10 : List.length a_10 ≤ c_10) (r_10 : Rd 3 T_api_Type.E m A_10 a_10) (tab : TB m), f49.l0 (roadref2_typesMark.post W h0 m0 r) s_3 A_10 n_10 c_10 x_11 x_12 h
theorem roadref2_typesMark.l0_k.step_l0 (go : (p : roadref2_typesMark.l0_k.Pt) → Option (ByteArray)) (ih : ∀ p r, go p = some r → roadref2_typesMark.l0_k.I p r) (s_3 a_10 x_11 x_12) (r) (e : roadref2_typesMark.l0_k.body go (.l0 s_3 a_10 x_11 x_12) = some r) : roadref2_typesMark.l0_k.I (.l0 s_3 a_10 x_11 x_12) r := by
  unfold roadref2_typesMark.l0_k.body at e
  intro W h0 m0 h m A_10 n_10 c_10 O ne_10 k_10 r_10 tab
  subst ne_10
  refine f49.l0_in ?_
  unfold f49.l0T
  refine split_dec_e e (fun c22 e => ?_) (fun c22 e => ?_)
  · obtain ⟨y1, g2, e⟩ := bind_e e
    refine r_10.addr rfl g2 fun a3 cs4 ha5 hc6 he7 => ?_
    refine ⟨_, ldAn O.s hc6 rfl, ?_⟩
    refine O.new fun h8 x9 O10 => ?_
    refine ⟨_, rfl, (T_api_Type.T.len _ _ _ he7), ?_⟩
    refine O10.stA 0 rfl (T_api_Type.T.len _ _ _ he7) (T_api_Type.T.flat _ _ _ he7) fun h12 O13 => ?_
    refine ⟨_, ldAn (Sub.refl _) (O13.all 0 rfl) (T_api_Type.T.len _ _ _ he7), ?_⟩
    obtain ⟨y14, g15, e⟩ := bind_e e
    refine (roadref2_TypeMark.walk (Hold.start (W := No) O13.s) he7 tab g15).mono ?_
    rintro _ h16 ⟨m17, Q18, rfl⟩
    have O20 := Hold.nm (O13.retC Q18 vfs_nil)
    refine ⟨_, rfl, ?_⟩
    obtain ⟨g21, e⟩ := guard_e e
    refine ⟨g21, ?_⟩
    exact (ih _ _ e) (O20.pick []).nm rfl k_10 r_10 tab
  · cases e
    exact ⟨_, O.pick [], rfl⟩
theorem roadref2_typesMark.l0_k.all {p : roadref2_typesMark.l0_k.Pt} {r : (ByteArray)} (e : roadref2_typesMark.l0_k.go p = some r) : roadref2_typesMark.l0_k.I p r := fixF_ind (β := fun _ => (ByteArray)) roadref2_typesMark.l0_k.mono (I := roadref2_typesMark.l0_k.I) (fun go ih p r e => match p with
  | .l0 s_3 a_10 x_11 x_12 => roadref2_typesMark.l0_k.step_l0 go ih s_3 a_10 x_11 x_12 r e
  ) e
noncomputable def roadref2_typesMark (a_0 : List T_api_Type) : Option (ByteArray) :=
  Option.bind (roadref2_nums ([(((List.length a_0) : Nat) : Int)] : List Int)) fun y6 => (roadref2_typesMark.l0 y6 a_0 (((List.length a_0) : Nat) : Int) (0 : Int))
theorem roadref2_typesMark.walk {W h m A_0 n_0 c_0 a_0} (O : Hold W h m h m []) (ne_0 : n_0 = List.length a_0) (k_0 : List.length a_0 ≤ c_0) (r_0 : Rd 3 T_api_Type.E m A_0 a_0) (tab : TB m) {r} (e : roadref2_typesMark a_0 = some r) : Run Tryd.prog 49 #[Value.slice A_0 n_0 c_0] h (roadref2_typesMark.post W h m r) := by
  unfold roadref2_typesMark at e
  subst ne_0
  refine f49.run ?_
  unfold f49.runT
  refine O.new fun h1 x2 O3 => ?_
  obtain ⟨y6, g7, e⟩ := bind_e e
  have O5 := O3.rowE (l := ([(((List.length a_0) : Nat) : Int)] : List Int)) 0 rfl (tell_int .i64) (show CsE _ _ _ _ _ from (CsE.cons (c1 := [(Value.int .i64 (((List.length a_0) : Nat) : Int))]) rfl rfl CsE.nil)) rfl
  have O12 := O5.nm
  obtain ⟨m13, u14, s19, ⟨⟨r17, k18⟩, _⟩, B15, C16⟩ := O12.lend0 [0]
  replace r17 : Rd 1 (eInt .i64) m13 (some ⟨(Array.size h), 0, none⟩) ([(((List.length a_0) : Nat) : Int)] : List Int) := r17
  replace k18 : List.length ([(((List.length a_0) : Nat) : Int)] : List Int) ≤ 1 := k18
  refine (roadref2_nums.walk (Hold.start (W := No) s19) rfl k18 r17 (TB.sub tab u14) g7).mono ?_
  rintro _ h8 ⟨m9, Q10, rfl⟩
  have O20 := Hold.nm (C16 Q10 vfs_nil)
  refine ⟨_, rfl, ?_⟩
  exact (roadref2_typesMark.l0_k.all e) (O20.pick []).nm rfl k_0 r_0 tab
end Go.Proofs.YtkbhpagogmmgnaaDoor.Fw

end
