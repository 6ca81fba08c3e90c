/- Last part: what the law StealTells needs, put together out of texts of this session. -/
import Derived.Test.YtdlihfedhojdgaaRows
import Derived.WalkKit
import Derived.Test.YtdlihfedhojdgaaZStealTellsb
section
namespace Go.Proofs.Ytdlihfedhojdgaa.Fw
open Go Go.Hw Go.Proofs
set_option linter.unusedVariables false
set_option synthInstance.maxHeartbeats 400000
set_option synthInstance.maxSize 1000
def slices_Index_68.post (W : Nat → Prop) (h0 m0 : Heap) (r : Int) (v : Value) (h : Heap) : Prop := ∃ m , Hold W h0 m0 h m [] ∧ v = .int .i64 r
inductive slices_Index_68.l0_k.Pt where
  | l0 (a_0 : List Int) (x_1 : Int) (x_7 : Int) (x_8 : Int)
noncomputable def slices_Index_68.l0_k.body (go : (p : slices_Index_68.l0_k.Pt) → Option (Int)) : (p : slices_Index_68.l0_k.Pt) → Option (Int)
  | .l0 a_0 x_1 x_7 x_8 => if x_8 < x_7 then (Option.bind (gi a_0 x_8) fun y1 => if x_1 = y1 then (some (x_8)) else ((go (.l0 a_0 x_1 x_7 (IntKind.wrap .i64 (x_8 + (1 : Int))))))) else (some ((-1 : Int)))
theorem slices_Index_68.l0_k.mono : MonoF (β := fun _ => (Int)) slices_Index_68.l0_k.body := fun f g hfg p => match p with
  | .l0 a_0 x_1 x_7 x_8 => LeO.ite (LeO.bind (LeO.refl _) fun y1 => LeO.ite (LeO.refl _) ((hfg _))) (LeO.refl _)
noncomputable def slices_Index_68.l0_k.go (p : slices_Index_68.l0_k.Pt) : Option (Int) := fixF (β := fun _ => (Int)) slices_Index_68.l0_k.body p
noncomputable def slices_Index_68.l0 (a_0 : List Int) (x_1 : Int) (x_7 : Int) (x_8 : Int) : Option (Int) := slices_Index_68.l0_k.go (.l0 a_0 x_1 x_7 x_8)
theorem slices_Index_68.l0_eq (a_0 : List Int) (x_1 : Int) (x_7 : Int) (x_8 : Int) : slices_Index_68.l0 a_0 x_1 x_7 x_8 = if x_8 < x_7 then (Option.bind (gi a_0 x_8) fun y1 => if x_1 = y1 then (some (x_8)) else ((slices_Index_68.l0 a_0 x_1 x_7 (IntKind.wrap .i64 (x_8 + (1 : Int)))))) else (some ((-1 : Int))) := fixF_eq slices_Index_68.l0_k.mono _
def slices_Index_68.l0_k.I : (p : slices_Index_68.l0_k.Pt) → (Int) → Prop
  | .l0 a_0 x_1 x_7 x_8, r => ∀ (W : Nat → Prop) (h0 m0 h m : Heap) (A_0 : Option Addr) (n_0 c_0 : Nat) (O : Hold W h0 m0 h m []) (ne_0 : n_0 = List.length a_0) (k_0 : List.length a_0 ≤ c_0) (r_0 : Rd 1 (eInt .i64) m A_0 a_0), f68.l0 (slices_Index_68.post W h0 m0 r) A_0 n_0 c_0 x_1 x_7 x_8 h
set_option maxRecDepth 100000 in
theorem slices_Index_68.l0_k.step_l0 (go : (p : slices_Index_68.l0_k.Pt) → Option (Int)) (ih : ∀ p r, go p = some r → slices_Index_68.l0_k.I p r) (a_0 : List Int) (x_1 : Int) (x_7 : Int) (x_8 : Int) (r : Int) (e : slices_Index_68.l0_k.body go (.l0 a_0 x_1 x_7 x_8) = some r) : slices_Index_68.l0_k.I (.l0 a_0 x_1 x_7 x_8) r := by
  unfold slices_Index_68.l0_k.body at e
  intro W h0 m0 h m A_0 n_0 c_0 O ne_0 k_0 r_0
  subst ne_0
  refine f68.l0_in ?_
  unfold f68.l0T
  refine split_dec_e e (fun c9 e => ?_) (fun c9 e => ?_)
  · obtain ⟨y1, g2, e⟩ := bind_e e
    refine r_0.addr rfl g2 fun a3 cs4 ha5 hc6 he7 => ?_
    obtain rfl : cs4 = [(Value.int .i64 y1)] := he7
    refine ⟨_, ld0 O.s hc6 rfl, _, rfl, ?_⟩
    refine split_eq_e e (fun c8 e => ?_) (fun c8 e => ?_)
    · cases e
      exact ⟨_, O.pick [], rfl⟩
    · exact (ih _ _ e) _ _ _ _ _ _ _ _ (O.pick []).nm rfl k_0 r_0
  · cases e
    exact ⟨_, O.pick [], rfl⟩
theorem slices_Index_68.l0_k.all {p : slices_Index_68.l0_k.Pt} {r : (Int)} (e : slices_Index_68.l0_k.go p = some r) : slices_Index_68.l0_k.I p r := fixF_ind (β := fun _ => (Int)) slices_Index_68.l0_k.mono (I := slices_Index_68.l0_k.I) (fun go ih p r e => match p with
  | .l0 a_0 x_1 x_7 x_8 => slices_Index_68.l0_k.step_l0 go ih a_0 x_1 x_7 x_8 r e
  ) e
theorem slices_Index_68.l0.walk {W : Nat → Prop} {h0 m0 h m : Heap} {A_0 : Option Addr} {n_0 c_0 : Nat} {a_0 : List Int} {x_1 : Int} {x_7 : Int} {x_8 : Int} (O : Hold W h0 m0 h m []) (ne_0 : n_0 = List.length a_0) (k_0 : List.length a_0 ≤ c_0) (r_0 : Rd 1 (eInt .i64) m A_0 a_0) {r : Int} (e : slices_Index_68.l0 a_0 x_1 x_7 x_8 = some r) : f68.l0 (slices_Index_68.post W h0 m0 r) A_0 n_0 c_0 x_1 x_7 x_8 h := slices_Index_68.l0_k.all (p := .l0 a_0 x_1 x_7 x_8) e W h0 m0 h m A_0 n_0 c_0 O ne_0 k_0 r_0
noncomputable def slices_Index_68 (a_0 : List Int) (x_1 : Int) : Option (Int) :=
  (slices_Index_68.l0 a_0 x_1 (((List.length a_0) : Nat) : Int) (0 : Int))
set_option maxRecDepth 100000 in
theorem slices_Index_68.walk {W : Nat → Prop} {h m : Heap} {A_0 : Option Addr} {n_0 c_0 : Nat} {a_0 : List Int} {x_1 : Int} (O : Hold W h m h m []) (ne_0 : n_0 = List.length a_0) (k_0 : List.length a_0 ≤ c_0) (r_0 : Rd 1 (eInt .i64) m A_0 a_0) {r : Int} (e : slices_Index_68 a_0 x_1 = some r) : Run Try.prog 68 #[Value.slice A_0 n_0 c_0, Value.int .i64 x_1] h (slices_Index_68.post W h m r) := by
  unfold slices_Index_68 at e
  subst ne_0
  refine f68.run ?_
  unfold f68.runT
  exact slices_Index_68.l0.walk (O.pick []).nm rfl k_0 r_0 e
def slices_Contains_35.post (W : Nat → Prop) (h0 m0 : Heap) (r : Bool) (v : Value) (h : Heap) : Prop := ∃ m , Hold W h0 m0 h m [] ∧ v = .bool r
noncomputable def slices_Contains_35 (a_0 : List Int) (x_1 : Int) : Option (Bool) :=
  Option.bind (slices_Index_68 a_0 x_1) fun y1 => some ((decide (y1 ≥ (0 : Int))))
set_option maxRecDepth 100000 in
theorem slices_Contains_35.walk {W : Nat → Prop} {h m : Heap} {A_0 : Option Addr} {n_0 c_0 : Nat} {a_0 : List Int} {x_1 : Int} (O : Hold W h m h m []) (ne_0 : n_0 = List.length a_0) (k_0 : List.length a_0 ≤ c_0) (r_0 : Rd 1 (eInt .i64) m A_0 a_0) {r : Bool} (e : slices_Contains_35 a_0 x_1 = some r) : Run Try.prog 35 #[Value.slice A_0 n_0 c_0, Value.int .i64 x_1] h (slices_Contains_35.post W h m r) := by
  unfold slices_Contains_35 at e
  subst ne_0
  refine f35.run ?_
  unfold f35.runT
  obtain ⟨y1, g2, e⟩ := bind_e e
  refine (slices_Index_68.walk (Hold.start (W := No) O.s) rfl k_0 r_0 g2).mono ?_
  rintro _ h3 ⟨m4, Q5, rfl⟩
  have O7 := Hold.nm (O.retC Q5 vfs_nil)
  refine ⟨_, rfl, ?_⟩
  cases e
  exact ⟨_, O7.pick [], rfl⟩
theorem slices_Contains_35.val {l : List Int} (v : Int) (hl : l.length ≤ 4611686018427387904) : slices_Contains_35 l v = some (decide (v ∈ l)) := contains_val (fun a p n i => slices_Index_68.l0_eq a p n i) (fun _ _ => rfl) (fun _ _ => rfl) v hl
def steal_Check.post (W : Nat → Prop) (h0 m0 : Heap) (r : Int) (v : Value) (h : Heap) : Prop := ∃ m , Hold W h0 m0 h m [] ∧ v = .int .i64 r
inductive steal_Check.l0_k.Pt where
  | l0 (es_3 : (List (Int × Bool))) (x_4 : Int) (a_18 : List (List Int)) (x_19 : Int) (x_20 : Int)
  | l1 (es_3 : (List (Int × Bool))) (x_4 : Int) (a_18 : List (List Int)) (x_19 : Int) (x_20 : Int) (a_30 : List Int) (x_31 : Int) (x_32 : Int)
noncomputable def steal_Check.l0_k.body (go : (p : steal_Check.l0_k.Pt) → Option (Int)) : (p : steal_Check.l0_k.Pt) → Option (Int)
  | .l0 es_3 x_4 a_18 x_19 x_20 => if x_20 < x_19 then (Option.bind (gi a_18 x_20) fun y1 => if (IntKind.wrap .i64 (x_4 + (((List.length y1) : Nat) : Int))) > (100 : Int) then (some ((2 : Int))) else ((go (.l1 es_3 (IntKind.wrap .i64 (x_4 + (((List.length y1) : Nat) : Int))) a_18 x_19 x_20 y1 (((List.length y1) : Nat) : Int) (0 : Int))))) else (some ((0 : Int)))
  | .l1 es_3 x_4 a_18 x_19 x_20 a_30 x_31 x_32 => if x_32 < x_31 then (Option.bind (gi a_30 x_32) fun y1 => if (pgd es_3 y1 false) = true then (some ((5 : Int))) else (Option.bind (some (pset es_3 y1 true)) fun l12 => (go (.l1 l12 x_4 a_18 x_19 x_20 a_30 x_31 (IntKind.wrap .i64 (x_32 + (1 : Int))))))) else ((go (.l0 es_3 x_4 a_18 x_19 (IntKind.wrap .i64 (x_20 + (1 : Int))))))
theorem steal_Check.l0_k.mono : MonoF (β := fun _ => (Int)) steal_Check.l0_k.body := fun f g hfg p => match p with
  | .l0 es_3 x_4 a_18 x_19 x_20 => LeO.ite (LeO.bind (LeO.refl _) fun y1 => LeO.ite (LeO.refl _) ((hfg _))) (LeO.refl _)
  | .l1 es_3 x_4 a_18 x_19 x_20 a_30 x_31 x_32 => LeO.ite (LeO.bind (LeO.refl _) fun y1 => LeO.ite (LeO.refl _) (LeO.bind (LeO.refl _) fun l12 => (hfg _))) ((hfg _))
noncomputable def steal_Check.l0_k.go (p : steal_Check.l0_k.Pt) : Option (Int) := fixF (β := fun _ => (Int)) steal_Check.l0_k.body p
noncomputable def steal_Check.l0 (es_3 : (List (Int × Bool))) (x_4 : Int) (a_18 : List (List Int)) (x_19 : Int) (x_20 : Int) : Option (Int) := steal_Check.l0_k.go (.l0 es_3 x_4 a_18 x_19 x_20)
noncomputable def steal_Check.l1 (es_3 : (List (Int × Bool))) (x_4 : Int) (a_18 : List (List Int)) (x_19 : Int) (x_20 : Int) (a_30 : List Int) (x_31 : Int) (x_32 : Int) : Option (Int) := steal_Check.l0_k.go (.l1 es_3 x_4 a_18 x_19 x_20 a_30 x_31 x_32)
theorem steal_Check.l0_eq (es_3 : (List (Int × Bool))) (x_4 : Int) (a_18 : List (List Int)) (x_19 : Int) (x_20 : Int) : steal_Check.l0 es_3 x_4 a_18 x_19 x_20 = if x_20 < x_19 then (Option.bind (gi a_18 x_20) fun y1 => if (IntKind.wrap .i64 (x_4 + (((List.length y1) : Nat) : Int))) > (100 : Int) then (some ((2 : Int))) else ((steal_Check.l1 es_3 (IntKind.wrap .i64 (x_4 + (((List.length y1) : Nat) : Int))) a_18 x_19 x_20 y1 (((List.length y1) : Nat) : Int) (0 : Int)))) else (some ((0 : Int))) := fixF_eq steal_Check.l0_k.mono _
theorem steal_Check.l1_eq (es_3 : (List (Int × Bool))) (x_4 : Int) (a_18 : List (List Int)) (x_19 : Int) (x_20 : Int) (a_30 : List Int) (x_31 : Int) (x_32 : Int) : steal_Check.l1 es_3 x_4 a_18 x_19 x_20 a_30 x_31 x_32 = if x_32 < x_31 then (Option.bind (gi a_30 x_32) fun y1 => if (pgd es_3 y1 false) = true then (some ((5 : Int))) else (Option.bind (some (pset es_3 y1 true)) fun l12 => (steal_Check.l1 l12 x_4 a_18 x_19 x_20 a_30 x_31 (IntKind.wrap .i64 (x_32 + (1 : Int)))))) else ((steal_Check.l0 es_3 x_4 a_18 x_19 (IntKind.wrap .i64 (x_20 + (1 : Int))))) := fixF_eq steal_Check.l0_k.mono _
def steal_Check.l0_k.I : (p : steal_Check.l0_k.Pt) → (Int) → Prop
  | .l0 es_3 x_4 a_18 x_19 x_20, r => ∀ (W : Nat → Prop) (h0 m0 h m : Heap) (bk_3 : Nat) (A_18 : Option Addr) (n_18 c_18 : Nat) (O : Hold W h0 m0 h m [rM (monoV0 tell_bool) (fun n : Int => Value.int .i64 n) bk_3 es_3]) (ne_18 : n_18 = List.length a_18) (k_18 : List.length a_18 ≤ c_18) (r_18 : Rd 1 (eRow 1 (eInt .i64)) m A_18 a_18), f28.l0 (steal_Check.post W h0 m0 r) (Value.map (some bk_3)) x_4 A_18 n_18 c_18 x_19 x_20 h
  | .l1 es_3 x_4 a_18 x_19 x_20 a_30 x_31 x_32, r => ∀ (W : Nat → Prop) (h0 m0 h m : Heap) (bk_3 : Nat) (A_18 : Option Addr) (n_18 c_18 : Nat) (A_30 : Option Addr) (n_30 c_30 : Nat) (O : Hold W h0 m0 h m [rM (monoV0 tell_bool) (fun n : Int => Value.int .i64 n) bk_3 es_3]) (ne_18 : n_18 = List.length a_18) (k_18 : List.length a_18 ≤ c_18) (r_18 : Rd 1 (eRow 1 (eInt .i64)) m A_18 a_18) (ne_30 : n_30 = List.length a_30) (k_30 : List.length a_30 ≤ c_30) (r_30 : Rd 1 (eInt .i64) m A_30 a_30), f28.l1 (steal_Check.post W h0 m0 r) (Value.map (some bk_3)) x_4 A_18 n_18 c_18 x_19 x_20 A_30 n_30 c_30 x_31 x_32 h
set_option maxRecDepth 100000 in
theorem steal_Check.l0_k.step_l0 (go : (p : steal_Check.l0_k.Pt) → Option (Int)) (ih : ∀ p r, go p = some r → steal_Check.l0_k.I p r) (es_3 : (List (Int × Bool))) (x_4 : Int) (a_18 : List (List Int)) (x_19 : Int) (x_20 : Int) (r : Int) (e : steal_Check.l0_k.body go (.l0 es_3 x_4 a_18 x_19 x_20) = some r) : steal_Check.l0_k.I (.l0 es_3 x_4 a_18 x_19 x_20) r := by
  unfold steal_Check.l0_k.body at e
  intro W h0 m0 h m bk_3 A_18 n_18 c_18 O ne_18 k_18 r_18
  subst ne_18
  refine f28.l0_in ?_
  unfold f28.l0T
  refine split_dec_e e (fun c9 e => ?_) (fun c9 e => ?_)
  · obtain ⟨y1, g2, e⟩ := bind_e e
    refine r_18.addr rfl g2 fun a3 cs4 ha5 hc6 he7 => ?_
    obtain ⟨Acs4_0, ccs4_0, rfl, kcs4_0, rcs4_0⟩ := id he7
    refine ⟨_, ld0 O.s hc6 rfl, _, _, _, rfl, ?_⟩
    refine split_dec_e e (fun c8 e => ?_) (fun c8 e => ?_)
    · cases e
      exact ⟨_, O.pick [], rfl⟩
    · exact (ih _ _ e) _ _ _ _ _ _ _ _ _ _ _ _ (O.pick [0]).nm rfl k_18 r_18 rfl kcs4_0 rcs4_0
  · cases e
    exact ⟨_, O.pick [], rfl⟩
set_option maxRecDepth 100000 in
theorem steal_Check.l0_k.step_l1 (go : (p : steal_Check.l0_k.Pt) → Option (Int)) (ih : ∀ p r, go p = some r → steal_Check.l0_k.I p r) (es_3 : (List (Int × Bool))) (x_4 : Int) (a_18 : List (List Int)) (x_19 : Int) (x_20 : Int) (a_30 : List Int) (x_31 : Int) (x_32 : Int) (r : Int) (e : steal_Check.l0_k.body go (.l1 es_3 x_4 a_18 x_19 x_20 a_30 x_31 x_32) = some r) : steal_Check.l0_k.I (.l1 es_3 x_4 a_18 x_19 x_20 a_30 x_31 x_32) r := by
  unfold steal_Check.l0_k.body at e
  intro W h0 m0 h m bk_3 A_18 n_18 c_18 A_30 n_30 c_30 O ne_18 k_18 r_18 ne_30 k_30 r_30
  subst ne_18
  subst ne_30
  refine f28.l1_in ?_
  unfold f28.l1T
  refine split_dec_e e (fun c16 e => ?_) (fun c16 e => ?_)
  · obtain ⟨y1, g2, e⟩ := bind_e e
    refine r_30.addr rfl g2 fun a3 cs4 ha5 hc6 he7 => ?_
    obtain rfl : cs4 = [(Value.int .i64 y1)] := he7
    refine ⟨_, ld0 O.s hc6 rfl, _, rfl, ?_⟩
    refine (O.om 0 rfl).look (zv := false) (z := (Value.bool false)) (keyOk_int (key := 3) (elem := 4) (by kernel_rfl) (by kernel_rfl)) y1 (by kernel_rfl) rfl (fun v8 hv9 => ?_)
    obtain rfl : v8 = (Value.bool (pgd es_3 y1 false)) := (List.cons.inj (show [v8] = [(Value.bool (pgd es_3 y1 false))] from hv9)).1
    refine ⟨_, rfl, ?_⟩
    refine split_any_e e (fun c15 e => ?_) (fun c15 e => ?_)
    · cases e
      exact ⟨_, O.pick [], rfl⟩
    · obtain ⟨l12, g13, e⟩ := bind_e e
      replace g13 := Option.some.inj g13
      refine O.mapUpd (x := true) (v := (Value.bool true)) 0 rfl (keyOk_int (key := 3) (elem := 4) (by kernel_rfl) (by kernel_rfl)) y1 (show (eV0 eBool) m true (Value.bool true) from rfl) g13 fun h10 O11 => ?_
      have O14 := O11.nm
      exact (ih _ _ e) _ _ _ _ _ _ _ _ _ _ _ _ (O14.pick [0]).nm rfl k_18 r_18 rfl k_30 r_30
  · exact (ih _ _ e) _ _ _ _ _ _ _ _ _ (O.pick [0]).nm rfl k_18 r_18
theorem steal_Check.l0_k.all {p : steal_Check.l0_k.Pt} {r : (Int)} (e : steal_Check.l0_k.go p = some r) : steal_Check.l0_k.I p r := fixF_ind (β := fun _ => (Int)) steal_Check.l0_k.mono (I := steal_Check.l0_k.I) (fun go ih p r e => match p with
  | .l0 es_3 x_4 a_18 x_19 x_20 => steal_Check.l0_k.step_l0 go ih es_3 x_4 a_18 x_19 x_20 r e
  | .l1 es_3 x_4 a_18 x_19 x_20 a_30 x_31 x_32 => steal_Check.l0_k.step_l1 go ih es_3 x_4 a_18 x_19 x_20 a_30 x_31 x_32 r e
  ) e
theorem steal_Check.l0.walk {W : Nat → Prop} {h0 m0 h m : Heap} {bk_3 : Nat} {A_18 : Option Addr} {n_18 c_18 : Nat} {es_3 : (List (Int × Bool))} {x_4 : Int} {a_18 : List (List Int)} {x_19 : Int} {x_20 : Int} (O : Hold W h0 m0 h m [rM (monoV0 tell_bool) (fun n : Int => Value.int .i64 n) bk_3 es_3]) (ne_18 : n_18 = List.length a_18) (k_18 : List.length a_18 ≤ c_18) (r_18 : Rd 1 (eRow 1 (eInt .i64)) m A_18 a_18) {r : Int} (e : steal_Check.l0 es_3 x_4 a_18 x_19 x_20 = some r) : f28.l0 (steal_Check.post W h0 m0 r) (Value.map (some bk_3)) x_4 A_18 n_18 c_18 x_19 x_20 h := steal_Check.l0_k.all (p := .l0 es_3 x_4 a_18 x_19 x_20) e W h0 m0 h m bk_3 A_18 n_18 c_18 O ne_18 k_18 r_18
noncomputable def steal_Check.j0 (a_0 : List (List Int)) : Option (Int) :=
  (steal_Check.l0 ([] : (List (Int × Bool))) (0 : Int) a_0 (((List.length a_0) : Nat) : Int) (0 : Int))
set_option maxRecDepth 100000 in
theorem steal_Check.j0.walk {W : Nat → Prop} {h0 m0 h m : Heap} {A_0 : Option Addr} {n_0 c_0 : Nat} {a_0 : List (List Int)} (O : Hold W h0 m0 h m []) (ne_0 : n_0 = List.length a_0) (k_0 : List.length a_0 ≤ c_0) (r_0 : Rd 1 (eRow 1 (eInt .i64)) m A_0 a_0) {r : Int} (e : steal_Check.j0 a_0 = some r) : f28.j0 (steal_Check.post W h0 m0 r) A_0 n_0 c_0 h := by
  unfold steal_Check.j0 at e
  subst ne_0
  refine f28.j0_in ?_
  unfold f28.j0T
  refine O.mkMap (ν := Bool) (monoV0 tell_bool) (fun n : Int => Value.int .i64 n) fun h1 x2 O3 => ?_
  have O5 := O3.nm
  exact steal_Check.l0.walk (O5.pick [0]).nm rfl k_0 r_0 e
noncomputable def steal_Check (a_0 : List (List Int)) : Option (Int) :=
  if (((List.length a_0) : Nat) : Int) < (1 : Int) then (some ((1 : Int))) else (if (((List.length a_0) : Nat) : Int) > (8 : Int) then (some ((1 : Int))) else ((steal_Check.j0 a_0)))
set_option maxRecDepth 100000 in
theorem steal_Check.walk {W : Nat → Prop} {h m : Heap} {A_0 : Option Addr} {n_0 c_0 : Nat} {a_0 : List (List Int)} (O : Hold W h m h m []) (ne_0 : n_0 = List.length a_0) (k_0 : List.length a_0 ≤ c_0) (r_0 : Rd 1 (eRow 1 (eInt .i64)) m A_0 a_0) {r : Int} (e : steal_Check a_0 = some r) : Run Try.prog 28 #[Value.slice A_0 n_0 c_0] h (steal_Check.post W h m r) := by
  unfold steal_Check at e
  subst ne_0
  refine f28.run ?_
  unfold f28.runT
  refine split_dec_e e (fun c2 e => ?_) (fun c2 e => ?_)
  · cases e
    exact ⟨_, O.pick [], rfl⟩
  · refine split_dec_e e (fun c1 e => ?_) (fun c1 e => ?_)
    · cases e
      exact ⟨_, O.pick [], rfl⟩
    · exact steal_Check.j0.walk (O.pick []).nm rfl k_0 r_0 e
def steal_check.post (W : Nat → Prop) (h0 m0 : Heap) (r : Int) (v : Value) (h : Heap) : Prop := ∃ m , Hold W h0 m0 h m [] ∧ v = .int .i64 r
noncomputable def steal_check (a_0 : List (List Int)) (x_1 : Int) : Option (Int) :=
  Option.bind (steal_Check a_0) fun y1 => if y1 = (0 : Int) then (if x_1 < (0 : Int) then (some ((4 : Int))) else (if x_1 ≥ (((List.length a_0) : Nat) : Int) then (some ((4 : Int))) else (some (y1)))) else (some (y1))
set_option maxRecDepth 100000 in
theorem steal_check.walk {W : Nat → Prop} {h m : Heap} {A_0 : Option Addr} {n_0 c_0 : Nat} {a_0 : List (List Int)} {x_1 : Int} (O : Hold W h m h m []) (ne_0 : n_0 = List.length a_0) (k_0 : List.length a_0 ≤ c_0) (r_0 : Rd 1 (eRow 1 (eInt .i64)) m A_0 a_0) {r : Int} (e : steal_check a_0 x_1 = some r) : Run Try.prog 64 #[Value.slice A_0 n_0 c_0, Value.int .i64 x_1] h (steal_check.post W h m r) := by
  unfold steal_check at e
  subst ne_0
  refine f64.run ?_
  unfold f64.runT
  obtain ⟨y1, g2, e⟩ := bind_e e
  refine (steal_Check.walk (Hold.start (W := No) O.s) rfl k_0 r_0 g2).mono ?_
  rintro _ h3 ⟨m4, Q5, rfl⟩
  have O7 := Hold.nm (O.retC Q5 vfs_nil)
  refine ⟨_, rfl, ?_⟩
  refine split_eq_e e (fun c10 e => ?_) (fun c10 e => ?_)
  · refine split_dec_e e (fun c9 e => ?_) (fun c9 e => ?_)
    · cases e
      exact ⟨_, O7.pick [], rfl⟩
    · refine split_dec_e e (fun c8 e => ?_) (fun c8 e => ?_)
      · cases e
        exact ⟨_, O7.pick [], rfl⟩
      · cases e
        exact ⟨_, O7.pick [], rfl⟩
  · cases e
    exact ⟨_, O7.pick [], rfl⟩
def slices_Clone_36.post (W : Nat → Prop) (h0 m0 : Heap) (r : (List (List Int))) (v : Value) (h : Heap) : Prop := ∃ m A0 n0 c0, Hold W h0 m0 h m [rR (aE (tell_row (tell_int .i64))) A0 c0 r] ∧ v = .slice A0 n0 c0 ∧ n0 = List.length r
noncomputable def slices_Clone_36 (a0 : List (List Int)) : Option (List (List Int)) := ap 24 ([] : List (List Int)) a0
set_option maxRecDepth 100000 in
theorem slices_Clone_36.walk {W : Nat → Prop} {h m : Heap} {A0 : Option Addr} {n0 c0 : Nat} {a0 : List (List Int)} (O : Hold W h m h m []) (ne0 : n0 = List.length a0) (k0 : List.length a0 ≤ c0) (r0 : Rd 1 (eRow 1 (eInt .i64)) m A0 a0) {r : List (List Int)} (e : slices_Clone_36 a0 = some r) : Run Try.prog 36 #[Value.slice A0 n0 c0] h (slices_Clone_36.post W h m r) := by
  unfold slices_Clone_36 at e
  subst ne0
  refine f36.run ?_
  unfold f36.runT
  cases A0 with
  | none =>
    refine split_t ?_
    obtain rfl := Rd.void r0
    obtain rfl : [] = r := by have := (ap_e e).2; simpa using this
    exact ⟨m, none, 0, 0, O.nil (aE (tell_row (tell_int .i64))) none, rfl, rfl⟩
  | some a =>
    refine split_f ?_
    refine O.new fun h1 x1 O1 => ?_
    refine O1.appE0 (tell_row (tell_int .i64)) rfl rfl (r0.srcE (tell_row (tell_int .i64)) O1.s rfl) (by decide) e fun A4 c4 h4 x4 O4 => ?_
    refine ⟨_, _, _, rfl, ?_⟩
    exact ⟨m, _, _, _, O4.pick [1], rfl, rfl⟩
def slices_Clone_37.post (W : Nat → Prop) (h0 m0 : Heap) (r : (List Int)) (v : Value) (h : Heap) : Prop := ∃ m A0 n0 c0, Hold W h0 m0 h m [rR (aE (tell_int .i64)) A0 c0 r] ∧ v = .slice A0 n0 c0 ∧ n0 = List.length r
noncomputable def slices_Clone_37 (a0 : List Int) : Option (List Int) := ap 8 ([] : List Int) a0
set_option maxRecDepth 100000 in
theorem slices_Clone_37.walk {W : Nat → Prop} {h m : Heap} {A0 : Option Addr} {n0 c0 : Nat} {a0 : List Int} (O : Hold W h m h m []) (ne0 : n0 = List.length a0) (k0 : List.length a0 ≤ c0) (r0 : Rd 1 (eInt .i64) m A0 a0) {r : List Int} (e : slices_Clone_37 a0 = some r) : Run Try.prog 37 #[Value.slice A0 n0 c0] h (slices_Clone_37.post W h m r) := by
  unfold slices_Clone_37 at e
  subst ne0
  refine f37.run ?_
  unfold f37.runT
  cases A0 with
  | none =>
    refine split_t ?_
    obtain rfl := Rd.void r0
    obtain rfl : [] = r := by have := (ap_e e).2; simpa using this
    exact ⟨m, none, 0, 0, O.nil (aE (tell_int .i64)) none, rfl, rfl⟩
  | some a =>
    refine split_f ?_
    refine O.new fun h1 x1 O1 => ?_
    refine O1.appE0 (tell_int .i64) rfl rfl (r0.srcE (tell_int .i64) O1.s rfl) (by decide) e fun A4 c4 h4 x4 O4 => ?_
    refine ⟨_, _, _, rfl, ?_⟩
    exact ⟨m, _, _, _, O4.pick [1], rfl, rfl⟩
def steal_copied.post (W : Nat → Prop) (h0 m0 : Heap) (r : (List (List Int))) (v : Value) (h : Heap) : Prop := ∃ m A0 n0 c0, Hold W h0 m0 h m [rR (aRow (aE (tell_int .i64))) A0 c0 r] ∧ v = .slice A0 n0 c0 ∧ n0 = List.length r
noncomputable def steal_copied (a0 : List (List Int)) : Option (List (List Int)) := if List.length a0 ≤ 1000000000000 ∧ ∀ x ∈ a0, List.length x ≤ 1000000000000 then some a0 else none
set_option maxRecDepth 100000 in
theorem steal_copied.l0_walk {W : Nat → Prop} {h0 m0 : Heap} {A0 : Option Addr} {c0 : Nat} : ∀ (rest dn : List (List Int)) (h m : Heap) (O : Hold W h0 m0 h m [rR (aMix (tell_int .i64)) A0 c0 (List.map (fun y => (true, y)) dn ++ List.map (fun y => (false, y)) rest)]) (hq : ∀ x ∈ rest, List.length x ≤ 1000000000000) (N : Nat) (hN : N = dn.length + rest.length) (hb : N ≤ 1000000000000),
    f65.l0 (steal_copied.post W h0 m0 (dn ++ rest)) A0 N c0 (N : Int) (dn.length : Int) h := by
  intro rest
  induction rest with
  | nil =>
    intro dn h m O hq N hN hb
    subst hN
    refine f65.l0_in ?_
    unfold f65.l0T
    refine split_dec (fun c => absurd c (by simp only [List.length_nil]; omega)) (fun _ => ?_)
    rw [List.map_nil, List.append_nil] at O
    rw [List.append_nil, List.length_nil, Nat.add_zero]
    exact ⟨m, _, _, _, O.unmix 0 rfl, rfl, rfl⟩
  | cons x rest ih =>
    intro dn h m O hq N hN hb
    have hl : N = dn.length + rest.length + 1 := by rw [hN, List.length_cons]; omega
    refine f65.l0_in ?_
    unfold f65.l0T
    refine split_dec (fun _ => ?_) (fun c => absurd (show ((dn.length : Nat) : Int) < _ by omega) c)
    have g : gi (List.map (fun y => (true, y)) dn ++ List.map (fun y => (false, y)) (x :: rest)) (dn.length : Int) = some (false, x) := gi_some (k := dn.length) rfl (by rw [List.getElem?_append_right (by rw [List.length_map]; omega), List.length_map, Nat.sub_self]; rfl)
    obtain ⟨a', Ai, ci, rfl, hc, hk, r, O2⟩ := O.mixHole g
    refine ⟨by omega, by omega, _, ld0 (Sub.refl _) hc rfl, _, _, _, rfl, ?_⟩
    obtain ⟨W', O3, back⟩ := O2.call []
    have hx := hq x (List.mem_cons_self ..)
    refine (slices_Clone_37.walk O3 rfl hk r (show slices_Clone_37 x = some x from by unfold slices_Clone_37; rw [ap_of (by rw [List.length_nil]; omega), List.nil_append])).mono ?_
    rintro v h1 ⟨m1, A1, n1, c1, O4, rfl, rfl⟩
    refine ⟨_, _, _, rfl, ?_⟩
    refine ⟨by omega, by omega, ?_⟩
    have O5 := back O4
    refine O5.holeSt1 0 rfl rfl trivial fun h2 O6 => ?_
    have O7 := O6.mixFill (M' := List.map (fun y => (true, y)) (dn ++ [x]) ++ List.map (fun y => (false, y)) rest) (by rw [Int.toNat_natCast, List.set_append_right _ _ (by rw [List.length_map]; omega), List.length_map, Nat.sub_self, List.map_cons, List.set_cons_zero, List.map_append, List.append_assoc]; rfl)
    rw [w_succ (by omega)]
    have := ih (dn ++ [x]) h2 m1 O7 (fun y hy => hq y (List.mem_cons_of_mem _ hy)) N (by rw [List.length_append, List.length_singleton]; omega) hb
    rw [List.length_append, List.length_singleton, List.append_assoc, List.singleton_append] at this
    exact this
set_option maxRecDepth 100000 in
theorem steal_copied.walk {W : Nat → Prop} {h m : Heap} {A0 : Option Addr} {n0 c0 : Nat} {a0 : List (List Int)} (O : Hold W h m h m []) (ne0 : n0 = List.length a0) (k0 : List.length a0 ≤ c0) (r0 : Rd 1 (eRow 1 (eInt .i64)) m A0 a0) {r : List (List Int)} (e : steal_copied a0 = some r) : Run Try.prog 65 #[Value.slice A0 n0 c0] h (steal_copied.post W h m r) := by
  unfold steal_copied at e
  obtain ⟨⟨g1, g2⟩, e⟩ := guard_e e
  cases e
  subst ne0
  refine f65.run ?_
  unfold f65.runT
  obtain ⟨W', O3, back⟩ := O.call []
  refine (slices_Clone_36.walk O3 rfl k0 r0 (show slices_Clone_36 a0 = some a0 from by unfold slices_Clone_36; rw [ap_of (by rw [List.length_nil]; omega), List.nil_append])).mono ?_
  rintro v h1 ⟨m1, A1, n1, c1, O4, rfl, rfl⟩
  refine ⟨_, _, _, rfl, ?_⟩
  exact steal_copied.l0_walk a0 [] h1 m1 ((back O4).mix 0 rfl) g2 _ (by rw [List.length_nil, Nat.zero_add]) g1
def steal_Push.post (W : Nat → Prop) (h0 m0 : Heap) (r : (List (List Int)) × Int) (v : Value) (h : Heap) : Prop := ∃ m A0 n0 c0, Hold W h0 m0 h m [rR (aRow (aE (tell_int .i64))) A0 c0 r.1] ∧ v = .tuple #[.slice A0 n0 c0, .int .i64 r.2] ∧ n0 = List.length r.1
inductive steal_Push.l0_k.Pt where
  | l0 (a_0 : List (List Int)) (x_1 : Int) (x_2 : Int) (x_9 : Int) (a_19 : List (List Int)) (x_20 : Int) (x_21 : Int)
noncomputable def steal_Push.l0_k.body (go : (p : steal_Push.l0_k.Pt) → Option ((List (List Int)) × Int)) : (p : steal_Push.l0_k.Pt) → Option ((List (List Int)) × Int)
  | .l0 a_0 x_1 x_2 x_9 a_19 x_20 x_21 => if x_21 < x_20 then (Option.bind (gi a_19 x_21) fun y1 => Option.bind (slices_Contains_35 y1 x_2) fun y8 => if y8 = true then (some (([] : List (List Int)), (5 : Int))) else ((go (.l0 a_0 x_1 x_2 (IntKind.wrap .i64 (x_9 + (((List.length y1) : Nat) : Int))) a_19 x_20 (IntKind.wrap .i64 (x_21 + (1 : Int))))))) else (if x_9 = (100 : Int) then (some (([] : List (List Int)), (6 : Int))) else (Option.bind (steal_copied a_0) fun y22 => Option.bind (gi y22 x_1) fun y36 => Option.bind (ap 8 y36 ([x_2] : List Int)) fun l51 => Option.bind (some (List.set y22 (Int.toNat x_1) l51)) fun l66 => some (l66, (0 : Int))))
theorem steal_Push.l0_k.mono : MonoF (β := fun _ => ((List (List Int)) × Int)) steal_Push.l0_k.body := fun f g hfg p => match p with
  | .l0 a_0 x_1 x_2 x_9 a_19 x_20 x_21 => LeO.ite (LeO.bind (LeO.refl _) fun y1 => LeO.bind (LeO.refl _) fun y8 => LeO.ite (LeO.refl _) ((hfg _))) (LeO.ite (LeO.refl _) (LeO.bind (LeO.refl _) fun y22 => LeO.bind (LeO.refl _) fun y36 => LeO.bind (LeO.refl _) fun l51 => LeO.bind (LeO.refl _) fun l66 => LeO.refl _))
noncomputable def steal_Push.l0_k.go (p : steal_Push.l0_k.Pt) : Option ((List (List Int)) × Int) := fixF (β := fun _ => ((List (List Int)) × Int)) steal_Push.l0_k.body p
noncomputable def steal_Push.l0 (a_0 : List (List Int)) (x_1 : Int) (x_2 : Int) (x_9 : Int) (a_19 : List (List Int)) (x_20 : Int) (x_21 : Int) : Option ((List (List Int)) × Int) := steal_Push.l0_k.go (.l0 a_0 x_1 x_2 x_9 a_19 x_20 x_21)
theorem steal_Push.l0_eq (a_0 : List (List Int)) (x_1 : Int) (x_2 : Int) (x_9 : Int) (a_19 : List (List Int)) (x_20 : Int) (x_21 : Int) : steal_Push.l0 a_0 x_1 x_2 x_9 a_19 x_20 x_21 = if x_21 < x_20 then (Option.bind (gi a_19 x_21) fun y1 => Option.bind (slices_Contains_35 y1 x_2) fun y8 => if y8 = true then (some (([] : List (List Int)), (5 : Int))) else ((steal_Push.l0 a_0 x_1 x_2 (IntKind.wrap .i64 (x_9 + (((List.length y1) : Nat) : Int))) a_19 x_20 (IntKind.wrap .i64 (x_21 + (1 : Int)))))) else (if x_9 = (100 : Int) then (some (([] : List (List Int)), (6 : Int))) else (Option.bind (steal_copied a_0) fun y22 => Option.bind (gi y22 x_1) fun y36 => Option.bind (ap 8 y36 ([x_2] : List Int)) fun l51 => Option.bind (some (List.set y22 (Int.toNat x_1) l51)) fun l66 => some (l66, (0 : Int)))) := fixF_eq steal_Push.l0_k.mono _
def steal_Push.l0_k.I : (p : steal_Push.l0_k.Pt) → ((List (List Int)) × Int) → Prop
  | .l0 a_0 x_1 x_2 x_9 a_19 x_20 x_21, r => ∀ (W : Nat → Prop) (h0 m0 h m : Heap) (A_0 : Option Addr) (n_0 c_0 : Nat) (A_19 : Option Addr) (n_19 c_19 : Nat) (O : Hold W h0 m0 h m []) (ne_0 : n_0 = List.length a_0) (k_0 : List.length a_0 ≤ c_0) (r_0 : Rd 1 (eRow 1 (eInt .i64)) m A_0 a_0) (ne_19 : n_19 = List.length a_19) (k_19 : List.length a_19 ≤ c_19) (r_19 : Rd 1 (eRow 1 (eInt .i64)) m A_19 a_19), f23.l0 (steal_Push.post W h0 m0 r) A_0 n_0 c_0 x_1 x_2 x_9 A_19 n_19 c_19 x_20 x_21 h
set_option maxHeartbeats 4000000 in
set_option maxRecDepth 100000 in
theorem steal_Push.l0_k.step_l0 (go : (p : steal_Push.l0_k.Pt) → Option ((List (List Int)) × Int)) (ih : ∀ p r, go p = some r → steal_Push.l0_k.I p r) (a_0 : List (List Int)) (x_1 : Int) (x_2 : Int) (x_9 : Int) (a_19 : List (List Int)) (x_20 : Int) (x_21 : Int) (r : (List (List Int)) × Int) (e : steal_Push.l0_k.body go (.l0 a_0 x_1 x_2 x_9 a_19 x_20 x_21) = some r) : steal_Push.l0_k.I (.l0 a_0 x_1 x_2 x_9 a_19 x_20 x_21) r := by
  unfold steal_Push.l0_k.body at e
  intro W h0 m0 h m A_0 n_0 c_0 A_19 n_19 c_19 O ne_0 k_0 r_0 ne_19 k_19 r_19
  subst ne_0
  subst ne_19
  refine f23.l0_in ?_
  unfold f23.l0T
  refine split_dec_e e (fun c73 e => ?_) (fun c73 e => ?_)
  · obtain ⟨y1, g2, e⟩ := bind_e e
    refine r_19.addr rfl g2 fun a3 cs4 ha5 hc6 he7 => ?_
    obtain ⟨Acs4_0, ccs4_0, rfl, kcs4_0, rcs4_0⟩ := id he7
    refine ⟨_, ld0 O.s hc6 rfl, _, _, _, rfl, ?_⟩
    obtain ⟨y8, g9, e⟩ := bind_e e
    refine (slices_Contains_35.walk (Hold.start (W := No) O.s) rfl kcs4_0 rcs4_0 g9).mono ?_
    rintro _ h10 ⟨m11, Q12, rfl⟩
    have O14 := Hold.nm (O.retC Q12 vfs_nil)
    refine ⟨_, rfl, ?_⟩
    refine split_any_e e (fun c18 e => ?_) (fun c18 e => ?_)
    · have O15 := O14.nil (aRow (aE (tell_int .i64))) none
      have O17 := O15.nm
      cases e
      exact ⟨_, _, _, _, O17.pick [0], rfl, rfl⟩
    · exact (ih _ _ e) _ _ _ _ _ _ _ _ _ _ _ (O14.pick []).nm rfl k_0 r_0 rfl k_19 r_19
  · refine split_eq_e e (fun c72 e => ?_) (fun c72 e => ?_)
    · have O19 := O.nil (aRow (aE (tell_int .i64))) none
      have O21 := O19.nm
      cases e
      exact ⟨_, _, _, _, O21.pick [0], rfl, rfl⟩
    · obtain ⟨y22, g23, e⟩ := bind_e e
      refine (steal_copied.walk (Hold.start (W := No) O.s) rfl k_0 r_0 g23).mono ?_
      rintro _ h24 ⟨m25, A28, n29, c30, Q26, rfl, ne31⟩
      have O33 := Hold.nm (O.ret Q26)
      subst ne31
      refine ⟨_, _, _, rfl, ?_⟩
      obtain ⟨y36, g37, e⟩ := bind_e e
      refine O33.adr 0 rfl rfl g37 fun a34 ha35 => ?_
      obtain ⟨hs38, O39⟩ := O33.openX 0 rfl g37
      obtain ⟨A40, c41, hx42, hc43, k44⟩ := O39.hdX 0 rfl ha35 g37
      refine ⟨_, ld0 (Sub.refl _) hc43 rfl, _, _, _, rfl, ?_⟩
      refine O39.new fun h46 x47 O48 => ?_
      obtain ⟨l51, g52, e⟩ := bind_e e
      have O50 := O48.takeX 0 rfl hx42 g37
      have O59 := O50.rowE (l := ([x_2] : List Int)) 1 rfl (tell_int .i64) (show CsE _ _ _ _ _ from (CsE.cons (c1 := [(Value.int .i64 x_2)]) rfl rfl CsE.nil)) rfl
      refine O59.app 2 rfl rfl rfl ((O59.os 1 rfl).srcE rfl) (by decide) g52 fun A53 c54 h55 O56 => ?_
      refine ⟨_, _, _, rfl, ?_⟩
      have O60 := O56.nm
      refine O60.adrX 0 rfl rfl g37 fun a61 ha62 => ?_
      obtain ⟨l66, g67, e⟩ := bind_e e
      replace g67 := Option.some.inj g67
      refine O60.hdSt 0 rfl ha62 (v := (Value.slice A53 (List.length l51) c54)) trivial fun h63 O64 => ?_
      have hx68 := hs_set (v := (Value.slice A53 (List.length l51) c54)) hx42
      have O65 := O64.putX 0 2 rfl rfl hx68 rfl g67
      have O70 := O65.closeX 0 rfl
      have O71 := O70.nm
      cases e
      exact ⟨_, _, _, _, O71.pick [0], rfl, (lset' g67)⟩
theorem steal_Push.l0_k.all {p : steal_Push.l0_k.Pt} {r : ((List (List Int)) × Int)} (e : steal_Push.l0_k.go p = some r) : steal_Push.l0_k.I p r := fixF_ind (β := fun _ => ((List (List Int)) × Int)) steal_Push.l0_k.mono (I := steal_Push.l0_k.I) (fun go ih p r e => match p with
  | .l0 a_0 x_1 x_2 x_9 a_19 x_20 x_21 => steal_Push.l0_k.step_l0 go ih a_0 x_1 x_2 x_9 a_19 x_20 x_21 r e
  ) e
theorem steal_Push.l0.walk {W : Nat → Prop} {h0 m0 h m : Heap} {A_0 : Option Addr} {n_0 c_0 : Nat} {A_19 : Option Addr} {n_19 c_19 : Nat} {a_0 : List (List Int)} {x_1 : Int} {x_2 : Int} {x_9 : Int} {a_19 : List (List Int)} {x_20 : Int} {x_21 : Int} (O : Hold W h0 m0 h m []) (ne_0 : n_0 = List.length a_0) (k_0 : List.length a_0 ≤ c_0) (r_0 : Rd 1 (eRow 1 (eInt .i64)) m A_0 a_0) (ne_19 : n_19 = List.length a_19) (k_19 : List.length a_19 ≤ c_19) (r_19 : Rd 1 (eRow 1 (eInt .i64)) m A_19 a_19) {r : (List (List Int)) × Int} (e : steal_Push.l0 a_0 x_1 x_2 x_9 a_19 x_20 x_21 = some r) : f23.l0 (steal_Push.post W h0 m0 r) A_0 n_0 c_0 x_1 x_2 x_9 A_19 n_19 c_19 x_20 x_21 h := steal_Push.l0_k.all (p := .l0 a_0 x_1 x_2 x_9 a_19 x_20 x_21) e W h0 m0 h m A_0 n_0 c_0 A_19 n_19 c_19 O ne_0 k_0 r_0 ne_19 k_19 r_19
noncomputable def steal_Push (a_0 : List (List Int)) (x_1 : Int) (x_2 : Int) : Option ((List (List Int)) × Int) :=
  Option.bind (steal_check a_0 x_1) fun y1 => if y1 = (0 : Int) then ((steal_Push.l0 a_0 x_1 x_2 (0 : Int) a_0 (((List.length a_0) : Nat) : Int) (0 : Int))) else (some (([] : List (List Int)), y1))
set_option maxRecDepth 100000 in
theorem steal_Push.walk {W : Nat → Prop} {h m : Heap} {A_0 : Option Addr} {n_0 c_0 : Nat} {a_0 : List (List Int)} {x_1 : Int} {x_2 : Int} (O : Hold W h m h m []) (ne_0 : n_0 = List.length a_0) (k_0 : List.length a_0 ≤ c_0) (r_0 : Rd 1 (eRow 1 (eInt .i64)) m A_0 a_0) {r : (List (List Int)) × Int} (e : steal_Push a_0 x_1 x_2 = some r) : Run Try.prog 23 #[Value.slice A_0 n_0 c_0, Value.int .i64 x_1, Value.int .i64 x_2] h (steal_Push.post W h m r) := by
  unfold steal_Push at e
  subst ne_0
  refine f23.run ?_
  unfold f23.runT
  obtain ⟨y1, g2, e⟩ := bind_e e
  refine (steal_check.walk (Hold.start (W := No) O.s) rfl k_0 r_0 g2).mono ?_
  rintro _ h3 ⟨m4, Q5, rfl⟩
  have O7 := Hold.nm (O.retC Q5 vfs_nil)
  refine ⟨_, rfl, ?_⟩
  refine split_ne_e e (fun c11 e => ?_) (fun c11 e => ?_)
  · have O8 := O7.nil (aRow (aE (tell_int .i64))) none
    have O10 := O8.nm
    cases e
    exact ⟨_, _, _, _, O10.pick [0], rfl, rfl⟩
  · exact steal_Push.l0.walk (O7.pick []).nm rfl k_0 r_0 rfl k_0 r_0 e
def steal_Victim.post (W : Nat → Prop) (h0 m0 : Heap) (r : Int) (v : Value) (h : Heap) : Prop := ∃ m , Hold W h0 m0 h m [] ∧ v = .int .i64 r
inductive steal_Victim.l0_k.Pt where
  | l0 (a_0 : List (List Int)) (x_1 : Int) (x_5 : Int) (x_6 : Int)
  | j1 (a_0 : List (List Int)) (x_1 : Int) (x_5 : Int) (x_6 : Int) (x_7 : Int) (b_46 : Bool)
  | j0 (a_0 : List (List Int)) (x_1 : Int) (x_5 : Int) (x_6 : Int)
noncomputable def steal_Victim.l0_k.body (go : (p : steal_Victim.l0_k.Pt) → Option (Int)) : (p : steal_Victim.l0_k.Pt) → Option (Int)
  | .l0 a_0 x_1 x_5 x_6 => if x_6 < (((List.length a_0) : Nat) : Int) then (if (((List.length a_0) : Nat) : Int) ≠ 0 then (Option.bind (gi a_0 (Int.tmod (IntKind.wrap .i64 (x_1 + x_6)) (((List.length a_0) : Nat) : Int))) fun y2 => if (((List.length y2) : Nat) : Int) > (0 : Int) then (if x_5 < (0 : Int) then ((go (.j1 a_0 x_1 x_5 x_6 (Int.tmod (IntKind.wrap .i64 (x_1 + x_6)) (((List.length a_0) : Nat) : Int)) true))) else (Option.bind (gi a_0 (Int.tmod (IntKind.wrap .i64 (x_1 + x_6)) (((List.length a_0) : Nat) : Int))) fun y9 => Option.bind (gi a_0 x_5) fun y16 => (go (.j1 a_0 x_1 x_5 x_6 (Int.tmod (IntKind.wrap .i64 (x_1 + x_6)) (((List.length a_0) : Nat) : Int)) (decide ((((List.length y9) : Nat) : Int) > (((List.length y16) : Nat) : Int))))))) else ((go (.j1 a_0 x_1 x_5 x_6 (Int.tmod (IntKind.wrap .i64 (x_1 + x_6)) (((List.length a_0) : Nat) : Int)) false)))) else none) else (some (x_5))
  | .j1 a_0 x_1 x_5 x_6 x_7 b_46 => if b_46 = true then ((go (.j0 a_0 x_1 x_7 x_6))) else ((go (.j0 a_0 x_1 x_5 x_6)))
  | .j0 a_0 x_1 x_5 x_6 => (go (.l0 a_0 x_1 x_5 (IntKind.wrap .i64 (x_6 + (1 : Int)))))
theorem steal_Victim.l0_k.mono : MonoF (β := fun _ => (Int)) steal_Victim.l0_k.body := fun f g hfg p => match p with
  | .l0 a_0 x_1 x_5 x_6 => LeO.ite (LeO.ite (LeO.bind (LeO.refl _) fun y2 => LeO.ite (LeO.ite ((hfg _)) (LeO.bind (LeO.refl _) fun y9 => LeO.bind (LeO.refl _) fun y16 => (hfg _))) ((hfg _))) (LeO.refl _)) (LeO.refl _)
  | .j1 a_0 x_1 x_5 x_6 x_7 b_46 => LeO.ite ((hfg _)) ((hfg _))
  | .j0 a_0 x_1 x_5 x_6 => (hfg _)
noncomputable def steal_Victim.l0_k.go (p : steal_Victim.l0_k.Pt) : Option (Int) := fixF (β := fun _ => (Int)) steal_Victim.l0_k.body p
noncomputable def steal_Victim.l0 (a_0 : List (List Int)) (x_1 : Int) (x_5 : Int) (x_6 : Int) : Option (Int) := steal_Victim.l0_k.go (.l0 a_0 x_1 x_5 x_6)
noncomputable def steal_Victim.j1 (a_0 : List (List Int)) (x_1 : Int) (x_5 : Int) (x_6 : Int) (x_7 : Int) (b_46 : Bool) : Option (Int) := steal_Victim.l0_k.go (.j1 a_0 x_1 x_5 x_6 x_7 b_46)
noncomputable def steal_Victim.j0 (a_0 : List (List Int)) (x_1 : Int) (x_5 : Int) (x_6 : Int) : Option (Int) := steal_Victim.l0_k.go (.j0 a_0 x_1 x_5 x_6)
theorem steal_Victim.l0_eq (a_0 : List (List Int)) (x_1 : Int) (x_5 : Int) (x_6 : Int) : steal_Victim.l0 a_0 x_1 x_5 x_6 = if x_6 < (((List.length a_0) : Nat) : Int) then (if (((List.length a_0) : Nat) : Int) ≠ 0 then (Option.bind (gi a_0 (Int.tmod (IntKind.wrap .i64 (x_1 + x_6)) (((List.length a_0) : Nat) : Int))) fun y2 => if (((List.length y2) : Nat) : Int) > (0 : Int) then (if x_5 < (0 : Int) then ((steal_Victim.j1 a_0 x_1 x_5 x_6 (Int.tmod (IntKind.wrap .i64 (x_1 + x_6)) (((List.length a_0) : Nat) : Int)) true)) else (Option.bind (gi a_0 (Int.tmod (IntKind.wrap .i64 (x_1 + x_6)) (((List.length a_0) : Nat) : Int))) fun y9 => Option.bind (gi a_0 x_5) fun y16 => (steal_Victim.j1 a_0 x_1 x_5 x_6 (Int.tmod (IntKind.wrap .i64 (x_1 + x_6)) (((List.length a_0) : Nat) : Int)) (decide ((((List.length y9) : Nat) : Int) > (((List.length y16) : Nat) : Int)))))) else ((steal_Victim.j1 a_0 x_1 x_5 x_6 (Int.tmod (IntKind.wrap .i64 (x_1 + x_6)) (((List.length a_0) : Nat) : Int)) false))) else none) else (some (x_5)) := fixF_eq steal_Victim.l0_k.mono _
theorem steal_Victim.j1_eq (a_0 : List (List Int)) (x_1 : Int) (x_5 : Int) (x_6 : Int) (x_7 : Int) (b_46 : Bool) : steal_Victim.j1 a_0 x_1 x_5 x_6 x_7 b_46 = if b_46 = true then ((steal_Victim.j0 a_0 x_1 x_7 x_6)) else ((steal_Victim.j0 a_0 x_1 x_5 x_6)) := fixF_eq steal_Victim.l0_k.mono _
theorem steal_Victim.j0_eq (a_0 : List (List Int)) (x_1 : Int) (x_5 : Int) (x_6 : Int) : steal_Victim.j0 a_0 x_1 x_5 x_6 = (steal_Victim.l0 a_0 x_1 x_5 (IntKind.wrap .i64 (x_6 + (1 : Int)))) := fixF_eq steal_Victim.l0_k.mono _
def steal_Victim.l0_k.I : (p : steal_Victim.l0_k.Pt) → (Int) → Prop
  | .l0 a_0 x_1 x_5 x_6, r => ∀ (W : Nat → Prop) (h0 m0 h m : Heap) (A_0 : Option Addr) (n_0 c_0 : Nat) (O : Hold W h0 m0 h m []) (ne_0 : n_0 = List.length a_0) (k_0 : List.length a_0 ≤ c_0) (r_0 : Rd 1 (eRow 1 (eInt .i64)) m A_0 a_0), f25.l0 (steal_Victim.post W h0 m0 r) A_0 n_0 c_0 x_1 x_5 x_6 h
  | .j1 a_0 x_1 x_5 x_6 x_7 b_46, r => ∀ (W : Nat → Prop) (h0 m0 h m : Heap) (A_0 : Option Addr) (n_0 c_0 : Nat) (O : Hold W h0 m0 h m []) (ne_0 : n_0 = List.length a_0) (k_0 : List.length a_0 ≤ c_0) (r_0 : Rd 1 (eRow 1 (eInt .i64)) m A_0 a_0), f25.j1 (steal_Victim.post W h0 m0 r) A_0 n_0 c_0 x_1 x_5 x_6 x_7 b_46 h
  | .j0 a_0 x_1 x_5 x_6, r => ∀ (W : Nat → Prop) (h0 m0 h m : Heap) (A_0 : Option Addr) (n_0 c_0 : Nat) (O : Hold W h0 m0 h m []) (ne_0 : n_0 = List.length a_0) (k_0 : List.length a_0 ≤ c_0) (r_0 : Rd 1 (eRow 1 (eInt .i64)) m A_0 a_0), f25.j0 (steal_Victim.post W h0 m0 r) A_0 n_0 c_0 x_1 x_5 x_6 h
set_option maxRecDepth 100000 in
theorem steal_Victim.l0_k.step_l0 (go : (p : steal_Victim.l0_k.Pt) → Option (Int)) (ih : ∀ p r, go p = some r → steal_Victim.l0_k.I p r) (a_0 : List (List Int)) (x_1 : Int) (x_5 : Int) (x_6 : Int) (r : Int) (e : steal_Victim.l0_k.body go (.l0 a_0 x_1 x_5 x_6) = some r) : steal_Victim.l0_k.I (.l0 a_0 x_1 x_5 x_6) r := by
  unfold steal_Victim.l0_k.body at e
  intro W h0 m0 h m A_0 n_0 c_0 O ne_0 k_0 r_0
  subst ne_0
  refine f25.l0_in ?_
  unfold f25.l0T
  refine split_dec_e e (fun c25 e => ?_) (fun c25 e => ?_)
  · obtain ⟨g1, e⟩ := guard_e e
    refine ⟨g1, ?_⟩
    obtain ⟨y2, g3, e⟩ := bind_e e
    refine r_0.addr rfl g3 fun a4 cs5 ha6 hc7 he8 => ?_
    obtain ⟨Acs5_0, ccs5_0, rfl, kcs5_0, rcs5_0⟩ := id he8
    refine ⟨_, ld0 O.s hc7 rfl, _, _, _, rfl, ?_⟩
    refine split_dec_e e (fun c24 e => ?_) (fun c24 e => ?_)
    · refine split_dec_e e (fun c23 e => ?_) (fun c23 e => ?_)
      · exact (ih _ _ e) _ _ _ _ _ _ _ _ (O.pick []).nm rfl k_0 r_0
      · obtain ⟨y9, g10, e⟩ := bind_e e
        refine r_0.addr rfl g10 fun a11 cs12 ha13 hc14 he15 => ?_
        obtain ⟨Acs12_0, ccs12_0, rfl, kcs12_0, rcs12_0⟩ := id he15
        obtain ⟨y16, g17, e⟩ := bind_e e
        refine r_0.addr rfl g17 fun a18 cs19 ha20 hc21 he22 => ?_
        obtain ⟨Acs19_0, ccs19_0, rfl, kcs19_0, rcs19_0⟩ := id he22
        refine ⟨_, ld0 O.s hc14 rfl, _, _, _, rfl, ?_⟩
        refine ⟨_, ld0 O.s hc21 rfl, _, _, _, rfl, ?_⟩
        exact (ih _ _ e) _ _ _ _ _ _ _ _ (O.pick []).nm rfl k_0 r_0
    · exact (ih _ _ e) _ _ _ _ _ _ _ _ (O.pick []).nm rfl k_0 r_0
  · cases e
    exact ⟨_, O.pick [], rfl⟩
set_option maxRecDepth 100000 in
theorem steal_Victim.l0_k.step_j1 (go : (p : steal_Victim.l0_k.Pt) → Option (Int)) (ih : ∀ p r, go p = some r → steal_Victim.l0_k.I p r) (a_0 : List (List Int)) (x_1 : Int) (x_5 : Int) (x_6 : Int) (x_7 : Int) (b_46 : Bool) (r : Int) (e : steal_Victim.l0_k.body go (.j1 a_0 x_1 x_5 x_6 x_7 b_46) = some r) : steal_Victim.l0_k.I (.j1 a_0 x_1 x_5 x_6 x_7 b_46) r := by
  unfold steal_Victim.l0_k.body at e
  intro W h0 m0 h m A_0 n_0 c_0 O ne_0 k_0 r_0
  subst ne_0
  refine f25.j1_in ?_
  unfold f25.j1T
  refine split_any_e e (fun c1 e => ?_) (fun c1 e => ?_)
  · exact (ih _ _ e) _ _ _ _ _ _ _ _ (O.pick []).nm rfl k_0 r_0
  · exact (ih _ _ e) _ _ _ _ _ _ _ _ (O.pick []).nm rfl k_0 r_0
set_option maxRecDepth 100000 in
theorem steal_Victim.l0_k.step_j0 (go : (p : steal_Victim.l0_k.Pt) → Option (Int)) (ih : ∀ p r, go p = some r → steal_Victim.l0_k.I p r) (a_0 : List (List Int)) (x_1 : Int) (x_5 : Int) (x_6 : Int) (r : Int) (e : steal_Victim.l0_k.body go (.j0 a_0 x_1 x_5 x_6) = some r) : steal_Victim.l0_k.I (.j0 a_0 x_1 x_5 x_6) r := by
  unfold steal_Victim.l0_k.body at e
  intro W h0 m0 h m A_0 n_0 c_0 O ne_0 k_0 r_0
  subst ne_0
  refine f25.j0_in ?_
  unfold f25.j0T
  exact (ih _ _ e) _ _ _ _ _ _ _ _ (O.pick []).nm rfl k_0 r_0
theorem steal_Victim.l0_k.all {p : steal_Victim.l0_k.Pt} {r : (Int)} (e : steal_Victim.l0_k.go p = some r) : steal_Victim.l0_k.I p r := fixF_ind (β := fun _ => (Int)) steal_Victim.l0_k.mono (I := steal_Victim.l0_k.I) (fun go ih p r e => match p with
  | .l0 a_0 x_1 x_5 x_6 => steal_Victim.l0_k.step_l0 go ih a_0 x_1 x_5 x_6 r e
  | .j1 a_0 x_1 x_5 x_6 x_7 b_46 => steal_Victim.l0_k.step_j1 go ih a_0 x_1 x_5 x_6 x_7 b_46 r e
  | .j0 a_0 x_1 x_5 x_6 => steal_Victim.l0_k.step_j0 go ih a_0 x_1 x_5 x_6 r e
  ) e
theorem steal_Victim.l0.walk {W : Nat → Prop} {h0 m0 h m : Heap} {A_0 : Option Addr} {n_0 c_0 : Nat} {a_0 : List (List Int)} {x_1 : Int} {x_5 : Int} {x_6 : Int} (O : Hold W h0 m0 h m []) (ne_0 : n_0 = List.length a_0) (k_0 : List.length a_0 ≤ c_0) (r_0 : Rd 1 (eRow 1 (eInt .i64)) m A_0 a_0) {r : Int} (e : steal_Victim.l0 a_0 x_1 x_5 x_6 = some r) : f25.l0 (steal_Victim.post W h0 m0 r) A_0 n_0 c_0 x_1 x_5 x_6 h := steal_Victim.l0_k.all (p := .l0 a_0 x_1 x_5 x_6) e W h0 m0 h m A_0 n_0 c_0 O ne_0 k_0 r_0
noncomputable def steal_Victim (a_0 : List (List Int)) (x_1 : Int) : Option (Int) :=
  Option.bind (steal_check a_0 x_1) fun y1 => if y1 = (0 : Int) then ((steal_Victim.l0 a_0 x_1 (-1 : Int) (1 : Int))) else (some ((-1 : Int)))
set_option maxRecDepth 100000 in
theorem steal_Victim.walk {W : Nat → Prop} {h m : Heap} {A_0 : Option Addr} {n_0 c_0 : Nat} {a_0 : List (List Int)} {x_1 : Int} (O : Hold W h m h m []) (ne_0 : n_0 = List.length a_0) (k_0 : List.length a_0 ≤ c_0) (r_0 : Rd 1 (eRow 1 (eInt .i64)) m A_0 a_0) {r : Int} (e : steal_Victim a_0 x_1 = some r) : Run Try.prog 25 #[Value.slice A_0 n_0 c_0, Value.int .i64 x_1] h (steal_Victim.post W h m r) := by
  unfold steal_Victim at e
  subst ne_0
  refine f25.run ?_
  unfold f25.runT
  obtain ⟨y1, g2, e⟩ := bind_e e
  refine (steal_check.walk (Hold.start (W := No) O.s) rfl k_0 r_0 g2).mono ?_
  rintro _ h3 ⟨m4, Q5, rfl⟩
  have O7 := Hold.nm (O.retC Q5 vfs_nil)
  refine ⟨_, rfl, ?_⟩
  refine split_ne_e e (fun c8 e => ?_) (fun c8 e => ?_)
  · cases e
    exact ⟨_, O7.pick [], rfl⟩
  · exact steal_Victim.l0.walk (O7.pick []).nm rfl k_0 r_0 e
def steal_Pop.post (W : Nat → Prop) (h0 m0 : Heap) (r : (List (List Int)) × Int × Int) (v : Value) (h : Heap) : Prop := ∃ m A0 n0 c0, Hold W h0 m0 h m [rR (aRow (aE (tell_int .i64))) A0 c0 r.1] ∧ v = .tuple #[.slice A0 n0 c0, .int .i64 r.2.1, .int .i64 r.2.2] ∧ n0 = List.length r.1
noncomputable def steal_Pop.j0 (x_1 : Int) (a_8 : List (List Int)) : Option ((List (List Int)) × Int × Int) :=
  Option.bind (gi a_8 x_1) fun y3 => Option.bind (gi y3 (IntKind.wrap .i64 ((((List.length y3) : Nat) : Int) - (1 : Int)))) fun y15 => Option.bind (sls y3 (0 : Int) (IntKind.wrap .i64 ((((List.length y3) : Nat) : Int) - (1 : Int)))) fun l25 => Option.bind (some (List.set a_8 (Int.toNat x_1) l25)) fun l35 => some (l35, y15, (0 : Int))
set_option maxRecDepth 100000 in
theorem steal_Pop.j0.walk {W : Nat → Prop} {h0 m0 h m : Heap} {A_8 : Option Addr} {n_8 c_8 : Nat} {x_1 : Int} {a_8 : List (List Int)} (O : Hold W h0 m0 h m [rR (aRow (aE (tell_int .i64))) A_8 c_8 a_8]) (ne_8 : n_8 = List.length a_8) {r : (List (List Int)) × Int × Int} (e : steal_Pop.j0 x_1 a_8 = some r) : f24.j0 (steal_Pop.post W h0 m0 r) x_1 A_8 n_8 c_8 h := by
  unfold steal_Pop.j0 at e
  subst ne_8
  refine f24.j0_in ?_
  unfold f24.j0T
  obtain ⟨y3, g4, e⟩ := bind_e e
  refine O.adr 0 rfl rfl g4 fun a1 ha2 => ?_
  obtain ⟨hs5, O6⟩ := O.openX 0 rfl g4
  obtain ⟨A7, c8, hx9, hc10, k11⟩ := O6.hdX 0 rfl ha2 g4
  refine ⟨_, ld0 (Sub.refl _) hc10 rfl, _, _, _, rfl, ?_⟩
  refine O6.adrX 0 rfl rfl g4 fun a13 ha14 => ?_
  refine ⟨_, ld0 (Sub.refl _) (O6.hcX 0 rfl ha14 hx9) rfl, _, _, _, rfl, ?_⟩
  obtain ⟨y15, g16, e⟩ := bind_e e
  refine (O6.xos 0 rfl hx9 g4).addr rfl g16 fun a17 cs18 ha19 hc20 he21 => ?_
  obtain rfl : cs18 = [(Value.int .i64 y15)] := he21
  refine ⟨_, ld0 (Sub.refl _) hc20 rfl, _, rfl, ?_⟩
  refine O6.adrX 0 rfl rfl g4 fun a22 ha23 => ?_
  refine ⟨_, ld0 (Sub.refl _) (O6.hcX 0 rfl ha23 hx9) rfl, _, _, _, rfl, ?_⟩
  obtain ⟨l25, g26, e⟩ := bind_e e
  have O24 := O6.takeX 0 rfl hx9 g4
  have q27 := sls_e g26
  refine ⟨q27.1, q27.2.1, cap_in q27.2.2.1 (O24.cap 1 rfl), ?_⟩
  try rw [q27.2.2.2.1]
  refine O24.adrX 0 rfl rfl g4 fun a28 ha29 => ?_
  obtain ⟨l35, g36, e⟩ := bind_e e
  have O30 := O24.sls 1 rfl g26
  replace g36 := Option.some.inj g36
  refine O30.hdSt 0 rfl ha29 (v := (Value.slice (sliceA A7 (Int.toNat (0 : Int)) c8 1) (List.length l25) (c8 - Int.toNat (0 : Int)))) trivial fun h32 O33 => ?_
  have hx37 := hs_set (v := (Value.slice (sliceA A7 (Int.toNat (0 : Int)) c8 1) (List.length l25) (c8 - Int.toNat (0 : Int)))) hx9
  have O34 := O33.putX 0 1 rfl rfl hx37 rfl g36
  have O39 := O34.closeX 0 rfl
  have O40 := O39.nm
  cases e
  exact ⟨_, _, _, _, O40.pick [0], rfl, (lset' g36)⟩
noncomputable def steal_Pop (a_0 : List (List Int)) (x_1 : Int) : Option ((List (List Int)) × Int × Int) :=
  Option.bind (steal_check a_0 x_1) fun y1 => if y1 = (0 : Int) then (Option.bind (steal_copied a_0) fun y11 => Option.bind (gi y11 x_1) fun y25 => if (((List.length y25) : Nat) : Int) = (0 : Int) then (Option.bind (steal_Victim a_0 x_1) fun y35 => if y35 < (0 : Int) then (some (([] : List (List Int)), (0 : Int), (4 : Int))) else (Option.bind (gi a_0 y35) fun y45 => Option.bind (gi a_0 y35) fun y52 => Option.bind (gi a_0 y35) fun y59 => Option.bind (sls y52 (0 : Int) (IntKind.wrap .i64 (Int.tdiv (IntKind.wrap .i64 ((((List.length y45) : Nat) : Int) + (1 : Int))) (2 : Int)))) fun l66 => Option.bind (sls y59 (IntKind.wrap .i64 (Int.tdiv (IntKind.wrap .i64 ((((List.length y45) : Nat) : Int) + (1 : Int))) (2 : Int))) (((List.length y59) : Nat) : Int)) fun l71 => Option.bind (slices_Clone_37 l66) fun y76 => Option.bind (slices_Clone_37 l71) fun y88 => Option.bind (some (List.set y11 (Int.toNat x_1) y76)) fun l106 => Option.bind (gi l106 y35) fun y112 => Option.bind (some (List.set l106 (Int.toNat y35) y88)) fun l124 => (steal_Pop.j0 x_1 l124))) else ((steal_Pop.j0 x_1 y11))) else (some (([] : List (List Int)), (0 : Int), y1))
set_option maxHeartbeats 4000000 in
set_option maxRecDepth 100000 in
theorem steal_Pop.walk {W : Nat → Prop} {h m : Heap} {A_0 : Option Addr} {n_0 c_0 : Nat} {a_0 : List (List Int)} {x_1 : Int} (O : Hold W h m h m []) (ne_0 : n_0 = List.length a_0) (k_0 : List.length a_0 ≤ c_0) (r_0 : Rd 1 (eRow 1 (eInt .i64)) m A_0 a_0) {r : (List (List Int)) × Int × Int} (e : steal_Pop a_0 x_1 = some r) : Run Try.prog 24 #[Value.slice A_0 n_0 c_0, Value.int .i64 x_1] h (steal_Pop.post W h m r) := by
  unfold steal_Pop at e
  subst ne_0
  refine f24.run ?_
  unfold f24.runT
  obtain ⟨y1, g2, e⟩ := bind_e e
  refine (steal_check.walk (Hold.start (W := No) O.s) rfl k_0 r_0 g2).mono ?_
  rintro _ h3 ⟨m4, Q5, rfl⟩
  have O7 := Hold.nm (O.retC Q5 vfs_nil)
  refine ⟨_, rfl, ?_⟩
  refine split_ne_e e (fun c134 e => ?_) (fun c134 e => ?_)
  · have O8 := O7.nil (aRow (aE (tell_int .i64))) none
    have O10 := O8.nm
    cases e
    exact ⟨_, _, _, _, O10.pick [0], rfl, rfl⟩
  · obtain ⟨y11, g12, e⟩ := bind_e e
    refine (steal_copied.walk (Hold.start (W := No) O7.s) rfl k_0 r_0 g12).mono ?_
    rintro _ h13 ⟨m14, A17, n18, c19, Q15, rfl, ne20⟩
    have O22 := Hold.nm (O7.ret Q15)
    subst ne20
    refine ⟨_, _, _, rfl, ?_⟩
    obtain ⟨y25, g26, e⟩ := bind_e e
    refine O22.adr 0 rfl rfl g26 fun a23 ha24 => ?_
    obtain ⟨hs27, O28⟩ := O22.openX 0 rfl g26
    obtain ⟨A29, c30, hx31, hc32, k33⟩ := O28.hdX 0 rfl ha24 g26
    refine ⟨_, ld0 (Sub.refl _) hc32 rfl, _, _, _, rfl, ?_⟩
    refine split_eq_e e (fun c133 e => ?_) (fun c133 e => ?_)
    · obtain ⟨y35, g36, e⟩ := bind_e e
      refine (steal_Victim.walk (Hold.start (W := No) O28.s) rfl k_0 (r_0.sub (tell_row (tell_int .i64)) Q15.S.up) g36).mono ?_
      rintro _ h37 ⟨m38, Q39, rfl⟩
      have O41 := Hold.nm (O28.retC Q39 vfs_nil)
      refine ⟨_, rfl, ?_⟩
      refine split_dec_e e (fun c130 e => ?_) (fun c130 e => ?_)
      · have O42 := O41.nil (aRow (aE (tell_int .i64))) none
        have O44 := O42.nm
        cases e
        exact ⟨_, _, _, _, O44.pick [1], rfl, rfl⟩
      · obtain ⟨y45, g46, e⟩ := bind_e e
        refine (r_0.sub (tell_row (tell_int .i64)) Q15.S.up).addr rfl g46 fun a47 cs48 ha49 hc50 he51 => ?_
        obtain ⟨Acs48_0, ccs48_0, rfl, kcs48_0, rcs48_0⟩ := id he51
        refine ⟨_, ld0 O41.s hc50 rfl, _, _, _, rfl, ?_⟩
        refine ⟨by decide, ?_⟩
        obtain ⟨y52, g53, e⟩ := bind_e e
        refine (r_0.sub (tell_row (tell_int .i64)) Q15.S.up).addr rfl g53 fun a54 cs55 ha56 hc57 he58 => ?_
        obtain ⟨Acs55_0, ccs55_0, rfl, kcs55_0, rcs55_0⟩ := id he58
        obtain ⟨y59, g60, e⟩ := bind_e e
        refine (r_0.sub (tell_row (tell_int .i64)) Q15.S.up).addr rfl g60 fun a61 cs62 ha63 hc64 he65 => ?_
        obtain ⟨Acs62_0, ccs62_0, rfl, kcs62_0, rcs62_0⟩ := id he65
        refine ⟨_, ld0 O41.s hc57 rfl, _, _, _, rfl, ?_⟩
        obtain ⟨l66, g67, e⟩ := bind_e e
        have q68 := sls_e g67
        refine ⟨q68.1, q68.2.1, cap_in q68.2.2.1 kcs55_0, ?_⟩
        try rw [q68.2.2.2.1]
        have k69 : List.length l66 ≤ (ccs55_0 - Int.toNat (0 : Int)) := sls_cap g67 kcs55_0
        have r70 := rcs55_0.sls g67 (le_mx q68.2.2.1 kcs55_0)
        refine ⟨_, ld0 O41.s hc64 rfl, _, _, _, rfl, ?_⟩
        obtain ⟨l71, g72, e⟩ := bind_e e
        have q73 := sls_e g72
        refine ⟨q73.1, q73.2.1, cap_in q73.2.2.1 kcs62_0, ?_⟩
        try rw [q73.2.2.2.1]
        have k74 : List.length l71 ≤ (ccs62_0 - Int.toNat (IntKind.wrap .i64 (Int.tdiv (IntKind.wrap .i64 ((((List.length y45) : Nat) : Int) + (1 : Int))) (2 : Int)))) := sls_cap g72 kcs62_0
        have r75 := rcs62_0.sls g72 (le_mx q73.2.2.1 kcs62_0)
        obtain ⟨y76, g77, e⟩ := bind_e e
        refine (slices_Clone_37.walk (Hold.start (W := No) O41.s) rfl k69 r70 g77).mono ?_
        rintro _ h78 ⟨m79, A82, n83, c84, Q80, rfl, ne85⟩
        have O87 := Hold.nm (O41.retC Q80 (vfs_cons (rR_vf (aE_vf (fun _ _ _ _ h => h))) vfs_nil))
        subst ne85
        refine ⟨_, _, _, rfl, ?_⟩
        refine ⟨Q80.S.ext, ?_⟩
        obtain ⟨y88, g89, e⟩ := bind_e e
        refine (slices_Clone_37.walk (Hold.start (W := No) O87.s) rfl k74 r75 g89).mono ?_
        rintro _ h90 ⟨m91, A94, n95, c96, Q92, rfl, ne97⟩
        have O99 := Hold.nm (O87.retC Q92 (vfs_cons (rR_vf (aE_vf (fun _ _ _ _ h => h))) vfs_nil))
        subst ne97
        refine ⟨_, _, _, rfl, ?_⟩
        refine O99.adrX 0 rfl rfl g26 fun a100 ha101 => ?_
        obtain ⟨l106, g107, e⟩ := bind_e e
        have O102 := O99.takeX 0 rfl hx31 g26
        replace g107 := Option.some.inj g107
        refine O102.hdSt 0 rfl ha101 (v := (Value.slice A82 (List.length y76) c84)) trivial fun h103 O104 => ?_
        have hx108 := hs_set (v := (Value.slice A82 (List.length y76) c84)) hx31
        have O105 := O104.putX 0 1 rfl rfl hx108 rfl g107
        obtain ⟨y112, g113, e⟩ := bind_e e
        refine O105.adrX 0 rfl (lset' g107) g113 fun a110 ha111 => ?_
        obtain ⟨l124, g125, e⟩ := bind_e e
        obtain ⟨A114, c115, hx116, hc117, k118⟩ := O105.hdX 0 rfl ha111 g113
        have O120 := O105.takeX 0 rfl hx116 g113
        replace g125 := Option.some.inj g125
        refine O120.hdSt 0 rfl ha111 (v := (Value.slice A94 (List.length y88) c96)) trivial fun h121 O122 => ?_
        have hx126 := hs_set (v := (Value.slice A94 (List.length y88) c96)) hx116
        have O123 := O122.putX 0 2 rfl rfl hx126 rfl g125
        have O128 := O123.closeX 0 rfl
        have O129 := O128.nm
        exact steal_Pop.j0.walk (O129.pick [0]).nm ((lset' g107).trans (lset' g125)) e
    · have O131 := O28.closeX 0 rfl
      have O132 := O131.nm
      exact steal_Pop.j0.walk (O132.pick [0]).nm rfl e
def steal_Run.post (W : Nat → Prop) (h0 m0 : Heap) (r : (List (List Int)) × (List (List Int)) × Int) (v : Value) (h : Heap) : Prop := ∃ m A0 n0 c0 A1 n1 c1, Hold W h0 m0 h m [rR (aE (tell_arr (n := 2) (f := (fun n : Int => Value.int .i64 n)) (d := (0 : Int)) (fun _ => trivial))) A0 c0 r.1] ∧ v = .tuple #[.slice A0 n0 c0, .slice A1 n1 c1, .int .i64 r.2.2] ∧ n0 = List.length r.1 ∧ n1 = List.length r.2.1 ∧ List.length r.2.1 ≤ c1 ∧ Rd 1 (eRow 1 (eInt .i64)) m A1 r.2.1
inductive steal_Run.l0_k.Pt where
  | l0 (a_8 : List (List Int)) (a_9 : List (List Int)) (a_25 : List Int) (x_26 : Int) (x_27 : Int)
noncomputable def steal_Run.l0_k.body (go : (p : steal_Run.l0_k.Pt) → Option ((List (List Int)) × (List (List Int)) × Int)) : (p : steal_Run.l0_k.Pt) → Option ((List (List Int)) × (List (List Int)) × Int)
  | .l0 a_8 a_9 a_25 x_26 x_27 => if x_27 < x_26 then (Option.bind (gi a_25 x_27) fun y1 => Option.bind (steal_Pop a_8 y1) fun y8 => if y8.2.2 = (0 : Int) then (Option.bind (ap 16 a_9 ([([y1, y8.2.1] : List Int)] : List (List Int))) fun l24 => (go (.l0 y8.1 l24 a_25 x_26 (IntKind.wrap .i64 (x_27 + (1 : Int)))))) else ((go (.l0 a_8 a_9 a_25 x_26 (IntKind.wrap .i64 (x_27 + (1 : Int))))))) else (some (a_9, a_8, (0 : Int)))
theorem steal_Run.l0_k.mono : MonoF (β := fun _ => ((List (List Int)) × (List (List Int)) × Int)) steal_Run.l0_k.body := fun f g hfg p => match p with
  | .l0 a_8 a_9 a_25 x_26 x_27 => LeO.ite (LeO.bind (LeO.refl _) fun y1 => LeO.bind (LeO.refl _) fun y8 => LeO.ite (LeO.bind (LeO.refl _) fun l24 => (hfg _)) ((hfg _))) (LeO.refl _)
noncomputable def steal_Run.l0_k.go (p : steal_Run.l0_k.Pt) : Option ((List (List Int)) × (List (List Int)) × Int) := fixF (β := fun _ => ((List (List Int)) × (List (List Int)) × Int)) steal_Run.l0_k.body p
noncomputable def steal_Run.l0 (a_8 : List (List Int)) (a_9 : List (List Int)) (a_25 : List Int) (x_26 : Int) (x_27 : Int) : Option ((List (List Int)) × (List (List Int)) × Int) := steal_Run.l0_k.go (.l0 a_8 a_9 a_25 x_26 x_27)
theorem steal_Run.l0_eq (a_8 : List (List Int)) (a_9 : List (List Int)) (a_25 : List Int) (x_26 : Int) (x_27 : Int) : steal_Run.l0 a_8 a_9 a_25 x_26 x_27 = if x_27 < x_26 then (Option.bind (gi a_25 x_27) fun y1 => Option.bind (steal_Pop a_8 y1) fun y8 => if y8.2.2 = (0 : Int) then (Option.bind (ap 16 a_9 ([([y1, y8.2.1] : List Int)] : List (List Int))) fun l24 => (steal_Run.l0 y8.1 l24 a_25 x_26 (IntKind.wrap .i64 (x_27 + (1 : Int))))) else ((steal_Run.l0 a_8 a_9 a_25 x_26 (IntKind.wrap .i64 (x_27 + (1 : Int)))))) else (some (a_9, a_8, (0 : Int))) := fixF_eq steal_Run.l0_k.mono _
def steal_Run.l0_k.I : (p : steal_Run.l0_k.Pt) → ((List (List Int)) × (List (List Int)) × Int) → Prop
  | .l0 a_8 a_9 a_25 x_26 x_27, r => ∀ (W : Nat → Prop) (h0 m0 h m : Heap) (A_8 : Option Addr) (n_8 c_8 : Nat) (A_9 : Option Addr) (n_9 c_9 : Nat) (A_25 : Option Addr) (n_25 c_25 : Nat) (O : Hold W h0 m0 h m [rR (aE (tell_arr (n := 2) (f := (fun n : Int => Value.int .i64 n)) (d := (0 : Int)) (fun _ => trivial))) A_9 c_9 a_9]) (ne_8 : n_8 = List.length a_8) (k_8 : List.length a_8 ≤ c_8) (r_8 : Rd 1 (eRow 1 (eInt .i64)) m A_8 a_8) (ne_9 : n_9 = List.length a_9) (ne_25 : n_25 = List.length a_25) (k_25 : List.length a_25 ≤ c_25) (r_25 : Rd 1 (eInt .i64) m A_25 a_25), f26.l0 (steal_Run.post W h0 m0 r) A_8 n_8 c_8 A_9 n_9 c_9 A_25 n_25 c_25 x_26 x_27 h
set_option maxRecDepth 100000 in
theorem steal_Run.l0_k.step_l0 (go : (p : steal_Run.l0_k.Pt) → Option ((List (List Int)) × (List (List Int)) × Int)) (ih : ∀ p r, go p = some r → steal_Run.l0_k.I p r) (a_8 : List (List Int)) (a_9 : List (List Int)) (a_25 : List Int) (x_26 : Int) (x_27 : Int) (r : (List (List Int)) × (List (List Int)) × Int) (e : steal_Run.l0_k.body go (.l0 a_8 a_9 a_25 x_26 x_27) = some r) : steal_Run.l0_k.I (.l0 a_8 a_9 a_25 x_26 x_27) r := by
  unfold steal_Run.l0_k.body at e
  intro W h0 m0 h m A_8 n_8 c_8 A_9 n_9 c_9 A_25 n_25 c_25 O ne_8 k_8 r_8 ne_9 ne_25 k_25 r_25
  subst ne_8
  subst ne_9
  subst ne_25
  refine f26.l0_in ?_
  unfold f26.l0T
  refine split_dec_e e (fun c40 e => ?_) (fun c40 e => ?_)
  · obtain ⟨y1, g2, e⟩ := bind_e e
    refine r_25.addr rfl g2 fun a3 cs4 ha5 hc6 he7 => ?_
    obtain rfl : cs4 = [(Value.int .i64 y1)] := he7
    refine ⟨_, ld0 O.s hc6 rfl, _, rfl, ?_⟩
    obtain ⟨y8, g9, e⟩ := bind_e e
    refine (steal_Pop.walk (Hold.start (W := No) O.s) rfl k_8 r_8 g9).mono ?_
    rintro _ h10 ⟨m11, A14, n15, c16, Q12, rfl, ne17⟩
    have O19 := Hold.nm (O.ret Q12)
    subst ne17
    refine ⟨_, _, _, _, _, rfl, ?_⟩
    refine split_eq_e e (fun c39 e => ?_) (fun c39 e => ?_)
    · refine ⟨[(Value.int .i64 y1), (Value.int .i64 y8.2.1)], rfl, rfl, ?_⟩
      refine O19.new fun h20 x21 O22 => ?_
      obtain ⟨l24, g25, e⟩ := bind_e e
      have O32 := O22.rowE (l := ([([y1, y8.2.1] : List Int)] : List (List Int))) 2 rfl (tell_arr (n := 2) (f := (fun n : Int => Value.int .i64 n)) (d := (0 : Int)) (fun _ => trivial)) (show CsE _ _ _ _ _ from (CsE.cons (c1 := [(Value.int .i64 y1), (Value.int .i64 y8.2.1)]) ⟨rfl, rfl⟩ rfl CsE.nil)) rfl
      refine O32.app 0 rfl rfl rfl ((O32.os 2 rfl).srcE rfl) (by decide) g25 fun A26 c27 h28 O29 => ?_
      refine ⟨_, _, _, rfl, ?_⟩
      obtain ⟨m33, u34, ⟨r35, k36⟩, O37⟩ := O29.frz 1 rfl
      replace r35 : Rd 1 (eRow 1 (eInt .i64)) m33 A14 y8.1 := r35
      have O38 := O37.nm
      exact (ih _ _ e) _ _ _ _ _ _ _ _ _ _ _ _ _ _ (O38.pick [0]).nm rfl k36 r35 rfl rfl k_25 (r_25.sub (tell_int .i64) (Q12.S.up.trans u34))
    · exact (ih _ _ e) _ _ _ _ _ _ _ _ _ _ _ _ _ _ (O19.pick [0]).nm rfl k_8 (r_8.sub (tell_row (tell_int .i64)) Q12.S.up) rfl rfl k_25 (r_25.sub (tell_int .i64) Q12.S.up)
  · cases e
    exact ⟨_, _, _, _, _, _, _, O.pick [0], rfl, rfl, rfl, k_8, r_8⟩
theorem steal_Run.l0_k.all {p : steal_Run.l0_k.Pt} {r : ((List (List Int)) × (List (List Int)) × Int)} (e : steal_Run.l0_k.go p = some r) : steal_Run.l0_k.I p r := fixF_ind (β := fun _ => ((List (List Int)) × (List (List Int)) × Int)) steal_Run.l0_k.mono (I := steal_Run.l0_k.I) (fun go ih p r e => match p with
  | .l0 a_8 a_9 a_25 x_26 x_27 => steal_Run.l0_k.step_l0 go ih a_8 a_9 a_25 x_26 x_27 r e
  ) e
theorem steal_Run.l0.walk {W : Nat → Prop} {h0 m0 h m : Heap} {A_8 : Option Addr} {n_8 c_8 : Nat} {A_9 : Option Addr} {n_9 c_9 : Nat} {A_25 : Option Addr} {n_25 c_25 : Nat} {a_8 : List (List Int)} {a_9 : List (List Int)} {a_25 : List Int} {x_26 : Int} {x_27 : Int} (O : Hold W h0 m0 h m [rR (aE (tell_arr (n := 2) (f := (fun n : Int => Value.int .i64 n)) (d := (0 : Int)) (fun _ => trivial))) A_9 c_9 a_9]) (ne_8 : n_8 = List.length a_8) (k_8 : List.length a_8 ≤ c_8) (r_8 : Rd 1 (eRow 1 (eInt .i64)) m A_8 a_8) (ne_9 : n_9 = List.length a_9) (ne_25 : n_25 = List.length a_25) (k_25 : List.length a_25 ≤ c_25) (r_25 : Rd 1 (eInt .i64) m A_25 a_25) {r : (List (List Int)) × (List (List Int)) × Int} (e : steal_Run.l0 a_8 a_9 a_25 x_26 x_27 = some r) : f26.l0 (steal_Run.post W h0 m0 r) A_8 n_8 c_8 A_9 n_9 c_9 A_25 n_25 c_25 x_26 x_27 h := steal_Run.l0_k.all (p := .l0 a_8 a_9 a_25 x_26 x_27) e W h0 m0 h m A_8 n_8 c_8 A_9 n_9 c_9 A_25 n_25 c_25 O ne_8 k_8 r_8 ne_9 ne_25 k_25 r_25
noncomputable def steal_Run (a_0 : List (List Int)) (a_1 : List Int) : Option ((List (List Int)) × (List (List Int)) × Int) :=
  Option.bind (steal_Check a_0) fun y1 => if y1 = (0 : Int) then (if (((List.length a_1) : Nat) : Int) > (100 : Int) then (some (([] : List (List Int)), ([] : List (List Int)), (2 : Int))) else (Option.bind (steal_copied a_0) fun y14 => (steal_Run.l0 y14 ([] : List (List Int)) a_1 (((List.length a_1) : Nat) : Int) (0 : Int)))) else (some (([] : List (List Int)), ([] : List (List Int)), y1))
set_option maxRecDepth 100000 in
theorem steal_Run.walk {W : Nat → Prop} {h m : Heap} {A_0 : Option Addr} {n_0 c_0 : Nat} {A_1 : Option Addr} {n_1 c_1 : Nat} {a_0 : List (List Int)} {a_1 : List Int} (O : Hold W h m h m []) (ne_0 : n_0 = List.length a_0) (k_0 : List.length a_0 ≤ c_0) (r_0 : Rd 1 (eRow 1 (eInt .i64)) m A_0 a_0) (ne_1 : n_1 = List.length a_1) (k_1 : List.length a_1 ≤ c_1) (r_1 : Rd 1 (eInt .i64) m A_1 a_1) {r : (List (List Int)) × (List (List Int)) × Int} (e : steal_Run a_0 a_1 = some r) : Run Try.prog 26 #[Value.slice A_0 n_0 c_0, Value.slice A_1 n_1 c_1] h (steal_Run.post W h m r) := by
  unfold steal_Run at e
  subst ne_0
  subst ne_1
  refine f26.run ?_
  unfold f26.runT
  obtain ⟨y1, g2, e⟩ := bind_e e
  refine (steal_Check.walk (Hold.start (W := No) O.s) rfl k_0 r_0 g2).mono ?_
  rintro _ h3 ⟨m4, Q5, rfl⟩
  have O7 := Hold.nm (O.retC Q5 vfs_nil)
  refine ⟨_, rfl, ?_⟩
  refine split_ne_e e (fun c35 e => ?_) (fun c35 e => ?_)
  · have O8 := O7.nil (aE (tell_arr (n := 2) (f := (fun n : Int => Value.int .i64 n)) (d := (0 : Int)) (fun _ => trivial))) none
    have O10 := O8.nm
    cases e
    exact ⟨_, _, _, _, _, _, _, O10.pick [0], rfl, rfl, rfl, (by exact Nat.le_refl 0), Rd.nil⟩
  · refine split_dec_e e (fun c34 e => ?_) (fun c34 e => ?_)
    · have O11 := O7.nil (aE (tell_arr (n := 2) (f := (fun n : Int => Value.int .i64 n)) (d := (0 : Int)) (fun _ => trivial))) none
      have O13 := O11.nm
      cases e
      exact ⟨_, _, _, _, _, _, _, O13.pick [0], rfl, rfl, rfl, (by exact Nat.le_refl 0), Rd.nil⟩
    · obtain ⟨y14, g15, e⟩ := bind_e e
      refine (steal_copied.walk (Hold.start (W := No) O7.s) rfl k_0 r_0 g15).mono ?_
      rintro _ h16 ⟨m17, A20, n21, c22, Q18, rfl, ne23⟩
      have O25 := Hold.nm (O7.ret Q18)
      subst ne23
      refine ⟨_, _, _, rfl, ?_⟩
      obtain ⟨m26, u27, ⟨r28, k29⟩, O30⟩ := O25.frz 0 rfl
      replace r28 : Rd 1 (eRow 1 (eInt .i64)) m26 A20 y14 := r28
      have O31 := O30.nil (aE (tell_arr (n := 2) (f := (fun n : Int => Value.int .i64 n)) (d := (0 : Int)) (fun _ => trivial))) none
      have O33 := O31.nm
      exact steal_Run.l0.walk (O33.pick [1]).nm rfl k29 r28 rfl rfl k_1 (r_1.sub (tell_int .i64) (Q18.S.up.trans u27)) e
def roadref3_In.post (W : Nat → Prop) (h0 m0 : Heap) (r : Bool) (v : Value) (h : Heap) : Prop := ∃ m , Hold W h0 m0 h m [] ∧ v = .bool r
noncomputable def roadref3_In (x_0 : Int) (x_1 : Int) (x_2 : Int) : Option (Bool) :=
  if x_0 ≥ x_1 then (some ((decide (x_0 ≤ x_2)))) else (some (false))
set_option maxRecDepth 100000 in
theorem roadref3_In.walk {W : Nat → Prop} {h m : Heap} {x_0 : Int} {x_1 : Int} {x_2 : Int} (O : Hold W h m h m []) {r : Bool} (e : roadref3_In x_0 x_1 x_2 = some r) : Run Try.prog 29 #[Value.int .i64 x_0, Value.int .i64 x_1, Value.int .i64 x_2] h (roadref3_In.post W h m r) := by
  unfold roadref3_In at e
  refine f29.run ?_
  unfold f29.runT
  refine split_dec_e e (fun c1 e => ?_) (fun c1 e => ?_)
  · cases e
    exact ⟨_, O.pick [], rfl⟩
  · cases e
    exact ⟨_, O.pick [], rfl⟩
def roadref3_LinesFault.post (W : Nat → Prop) (h0 m0 : Heap) (r : Int) (v : Value) (h : Heap) : Prop := ∃ m , Hold W h0 m0 h m [] ∧ v = .int .i64 r
inductive roadref3_LinesFault.l0_k.Pt where
  | l0 (a_3 : List Int) (a_14 : List (List Int)) (x_15 : Int) (x_16 : Int)
  | l1 (a_3 : List Int) (a_14 : List (List Int)) (x_15 : Int) (x_16 : Int) (a_26 : List Int) (x_27 : Int) (x_28 : Int)
  | l2 (a_3 : List Int) (x_7 : Int) (a_14 : List (List Int)) (x_15 : Int) (x_16 : Int) (a_26 : List Int) (x_27 : Int) (x_28 : Int) (x_33 : Int) (x_34 : Int)
noncomputable def roadref3_LinesFault.l0_k.body (go : (p : roadref3_LinesFault.l0_k.Pt) → Option (Int)) : (p : roadref3_LinesFault.l0_k.Pt) → Option (Int)
  | .l0 a_3 a_14 x_15 x_16 => if x_16 < x_15 then (Option.bind (gi a_14 x_16) fun y1 => if (IntKind.wrap .i64 ((((List.length a_3) : Nat) : Int) + (((List.length y1) : Nat) : Int))) > (100 : Int) then (some ((2 : Int))) else ((go (.l1 a_3 a_14 x_15 x_16 y1 (((List.length y1) : Nat) : Int) (0 : Int))))) else (some ((0 : Int)))
  | .l1 a_3 a_14 x_15 x_16 a_26 x_27 x_28 => if x_28 < x_27 then (Option.bind (gi a_26 x_28) fun y1 => (go (.l2 a_3 y1 a_14 x_15 x_16 a_26 x_27 x_28 (((List.length a_3) : Nat) : Int) (0 : Int)))) else ((go (.l0 a_3 a_14 x_15 (IntKind.wrap .i64 (x_16 + (1 : Int))))))
  | .l2 a_3 x_7 a_14 x_15 x_16 a_26 x_27 x_28 x_33 x_34 => if x_34 < x_33 then (Option.bind (gi a_3 x_34) fun y1 => if y1 = x_7 then (some ((5 : Int))) else ((go (.l2 a_3 x_7 a_14 x_15 x_16 a_26 x_27 x_28 x_33 (IntKind.wrap .i64 (x_34 + (1 : Int))))))) else (Option.bind (ap 8 a_3 ([x_7] : List Int)) fun l13 => (go (.l1 l13 a_14 x_15 x_16 a_26 x_27 (IntKind.wrap .i64 (x_28 + (1 : Int))))))
theorem roadref3_LinesFault.l0_k.mono : MonoF (β := fun _ => (Int)) roadref3_LinesFault.l0_k.body := fun f g hfg p => match p with
  | .l0 a_3 a_14 x_15 x_16 => LeO.ite (LeO.bind (LeO.refl _) fun y1 => LeO.ite (LeO.refl _) ((hfg _))) (LeO.refl _)
  | .l1 a_3 a_14 x_15 x_16 a_26 x_27 x_28 => LeO.ite (LeO.bind (LeO.refl _) fun y1 => (hfg _)) ((hfg _))
  | .l2 a_3 x_7 a_14 x_15 x_16 a_26 x_27 x_28 x_33 x_34 => LeO.ite (LeO.bind (LeO.refl _) fun y1 => LeO.ite (LeO.refl _) ((hfg _))) (LeO.bind (LeO.refl _) fun l13 => (hfg _))
noncomputable def roadref3_LinesFault.l0_k.go (p : roadref3_LinesFault.l0_k.Pt) : Option (Int) := fixF (β := fun _ => (Int)) roadref3_LinesFault.l0_k.body p
noncomputable def roadref3_LinesFault.l0 (a_3 : List Int) (a_14 : List (List Int)) (x_15 : Int) (x_16 : Int) : Option (Int) := roadref3_LinesFault.l0_k.go (.l0 a_3 a_14 x_15 x_16)
noncomputable def roadref3_LinesFault.l1 (a_3 : List Int) (a_14 : List (List Int)) (x_15 : Int) (x_16 : Int) (a_26 : List Int) (x_27 : Int) (x_28 : Int) : Option (Int) := roadref3_LinesFault.l0_k.go (.l1 a_3 a_14 x_15 x_16 a_26 x_27 x_28)
noncomputable def roadref3_LinesFault.l2 (a_3 : List Int) (x_7 : Int) (a_14 : List (List Int)) (x_15 : Int) (x_16 : Int) (a_26 : List Int) (x_27 : Int) (x_28 : Int) (x_33 : Int) (x_34 : Int) : Option (Int) := roadref3_LinesFault.l0_k.go (.l2 a_3 x_7 a_14 x_15 x_16 a_26 x_27 x_28 x_33 x_34)
theorem roadref3_LinesFault.l0_eq (a_3 : List Int) (a_14 : List (List Int)) (x_15 : Int) (x_16 : Int) : roadref3_LinesFault.l0 a_3 a_14 x_15 x_16 = if x_16 < x_15 then (Option.bind (gi a_14 x_16) fun y1 => if (IntKind.wrap .i64 ((((List.length a_3) : Nat) : Int) + (((List.length y1) : Nat) : Int))) > (100 : Int) then (some ((2 : Int))) else ((roadref3_LinesFault.l1 a_3 a_14 x_15 x_16 y1 (((List.length y1) : Nat) : Int) (0 : Int)))) else (some ((0 : Int))) := fixF_eq roadref3_LinesFault.l0_k.mono _
theorem roadref3_LinesFault.l1_eq (a_3 : List Int) (a_14 : List (List Int)) (x_15 : Int) (x_16 : Int) (a_26 : List Int) (x_27 : Int) (x_28 : Int) : roadref3_LinesFault.l1 a_3 a_14 x_15 x_16 a_26 x_27 x_28 = if x_28 < x_27 then (Option.bind (gi a_26 x_28) fun y1 => (roadref3_LinesFault.l2 a_3 y1 a_14 x_15 x_16 a_26 x_27 x_28 (((List.length a_3) : Nat) : Int) (0 : Int))) else ((roadref3_LinesFault.l0 a_3 a_14 x_15 (IntKind.wrap .i64 (x_16 + (1 : Int))))) := fixF_eq roadref3_LinesFault.l0_k.mono _
theorem roadref3_LinesFault.l2_eq (a_3 : List Int) (x_7 : Int) (a_14 : List (List Int)) (x_15 : Int) (x_16 : Int) (a_26 : List Int) (x_27 : Int) (x_28 : Int) (x_33 : Int) (x_34 : Int) : roadref3_LinesFault.l2 a_3 x_7 a_14 x_15 x_16 a_26 x_27 x_28 x_33 x_34 = if x_34 < x_33 then (Option.bind (gi a_3 x_34) fun y1 => if y1 = x_7 then (some ((5 : Int))) else ((roadref3_LinesFault.l2 a_3 x_7 a_14 x_15 x_16 a_26 x_27 x_28 x_33 (IntKind.wrap .i64 (x_34 + (1 : Int)))))) else (Option.bind (ap 8 a_3 ([x_7] : List Int)) fun l13 => (roadref3_LinesFault.l1 l13 a_14 x_15 x_16 a_26 x_27 (IntKind.wrap .i64 (x_28 + (1 : Int))))) := fixF_eq roadref3_LinesFault.l0_k.mono _
def roadref3_LinesFault.l0_k.I : (p : roadref3_LinesFault.l0_k.Pt) → (Int) → Prop
  | .l0 a_3 a_14 x_15 x_16, r => ∀ (W : Nat → Prop) (h0 m0 h m : Heap) (A_3 : Option Addr) (n_3 c_3 : Nat) (A_14 : Option Addr) (n_14 c_14 : Nat) (O : Hold W h0 m0 h m [rR (aE (tell_int .i64)) A_3 c_3 a_3]) (ne_3 : n_3 = List.length a_3) (ne_14 : n_14 = List.length a_14) (k_14 : List.length a_14 ≤ c_14) (r_14 : Rd 1 (eRow 1 (eInt .i64)) m A_14 a_14), f27.l0 (roadref3_LinesFault.post W h0 m0 r) A_3 n_3 c_3 A_14 n_14 c_14 x_15 x_16 h
  | .l1 a_3 a_14 x_15 x_16 a_26 x_27 x_28, r => ∀ (W : Nat → Prop) (h0 m0 h m : Heap) (A_3 : Option Addr) (n_3 c_3 : Nat) (A_14 : Option Addr) (n_14 c_14 : Nat) (A_26 : Option Addr) (n_26 c_26 : Nat) (O : Hold W h0 m0 h m [rR (aE (tell_int .i64)) A_3 c_3 a_3]) (ne_3 : n_3 = List.length a_3) (ne_14 : n_14 = List.length a_14) (k_14 : List.length a_14 ≤ c_14) (r_14 : Rd 1 (eRow 1 (eInt .i64)) m A_14 a_14) (ne_26 : n_26 = List.length a_26) (k_26 : List.length a_26 ≤ c_26) (r_26 : Rd 1 (eInt .i64) m A_26 a_26), f27.l1 (roadref3_LinesFault.post W h0 m0 r) A_3 n_3 c_3 A_14 n_14 c_14 x_15 x_16 A_26 n_26 c_26 x_27 x_28 h
  | .l2 a_3 x_7 a_14 x_15 x_16 a_26 x_27 x_28 x_33 x_34, r => ∀ (W : Nat → Prop) (h0 m0 h m : Heap) (A_3 : Option Addr) (n_3 c_3 : Nat) (A_14 : Option Addr) (n_14 c_14 : Nat) (A_26 : Option Addr) (n_26 c_26 : Nat) (O : Hold W h0 m0 h m [rR (aE (tell_int .i64)) A_3 c_3 a_3]) (ne_3 : n_3 = List.length a_3) (ne_14 : n_14 = List.length a_14) (k_14 : List.length a_14 ≤ c_14) (r_14 : Rd 1 (eRow 1 (eInt .i64)) m A_14 a_14) (ne_26 : n_26 = List.length a_26) (k_26 : List.length a_26 ≤ c_26) (r_26 : Rd 1 (eInt .i64) m A_26 a_26), f27.l2 (roadref3_LinesFault.post W h0 m0 r) A_3 n_3 c_3 x_7 A_14 n_14 c_14 x_15 x_16 A_26 n_26 c_26 x_27 x_28 A_3 n_3 c_3 x_33 x_34 h
set_option maxRecDepth 100000 in
theorem roadref3_LinesFault.l0_k.step_l0 (go : (p : roadref3_LinesFault.l0_k.Pt) → Option (Int)) (ih : ∀ p r, go p = some r → roadref3_LinesFault.l0_k.I p r) (a_3 : List Int) (a_14 : List (List Int)) (x_15 : Int) (x_16 : Int) (r : Int) (e : roadref3_LinesFault.l0_k.body go (.l0 a_3 a_14 x_15 x_16) = some r) : roadref3_LinesFault.l0_k.I (.l0 a_3 a_14 x_15 x_16) r := by
  unfold roadref3_LinesFault.l0_k.body at e
  intro W h0 m0 h m A_3 n_3 c_3 A_14 n_14 c_14 O ne_3 ne_14 k_14 r_14
  subst ne_3
  subst ne_14
  refine f27.l0_in ?_
  unfold f27.l0T
  refine split_dec_e e (fun c9 e => ?_) (fun c9 e => ?_)
  · obtain ⟨y1, g2, e⟩ := bind_e e
    refine r_14.addr rfl g2 fun a3 cs4 ha5 hc6 he7 => ?_
    obtain ⟨Acs4_0, ccs4_0, rfl, kcs4_0, rcs4_0⟩ := id he7
    refine ⟨_, ld0 O.s hc6 rfl, _, _, _, rfl, ?_⟩
    refine split_dec_e e (fun c8 e => ?_) (fun c8 e => ?_)
    · cases e
      exact ⟨_, O.pick [], rfl⟩
    · exact (ih _ _ e) _ _ _ _ _ _ _ _ _ _ _ _ _ _ (O.pick [0]).nm rfl rfl k_14 r_14 rfl kcs4_0 rcs4_0
  · cases e
    exact ⟨_, O.pick [], rfl⟩
set_option maxRecDepth 100000 in
theorem roadref3_LinesFault.l0_k.step_l1 (go : (p : roadref3_LinesFault.l0_k.Pt) → Option (Int)) (ih : ∀ p r, go p = some r → roadref3_LinesFault.l0_k.I p r) (a_3 : List Int) (a_14 : List (List Int)) (x_15 : Int) (x_16 : Int) (a_26 : List Int) (x_27 : Int) (x_28 : Int) (r : Int) (e : roadref3_LinesFault.l0_k.body go (.l1 a_3 a_14 x_15 x_16 a_26 x_27 x_28) = some r) : roadref3_LinesFault.l0_k.I (.l1 a_3 a_14 x_15 x_16 a_26 x_27 x_28) r := by
  unfold roadref3_LinesFault.l0_k.body at e
  intro W h0 m0 h m A_3 n_3 c_3 A_14 n_14 c_14 A_26 n_26 c_26 O ne_3 ne_14 k_14 r_14 ne_26 k_26 r_26
  subst ne_3
  subst ne_14
  subst ne_26
  refine f27.l1_in ?_
  unfold f27.l1T
  refine split_dec_e e (fun c8 e => ?_) (fun c8 e => ?_)
  · obtain ⟨y1, g2, e⟩ := bind_e e
    refine r_26.addr rfl g2 fun a3 cs4 ha5 hc6 he7 => ?_
    obtain rfl : cs4 = [(Value.int .i64 y1)] := he7
    refine ⟨_, ld0 O.s hc6 rfl, _, rfl, ?_⟩
    exact (ih _ _ e) _ _ _ _ _ _ _ _ _ _ _ _ _ _ (O.pick [0]).nm rfl rfl k_14 r_14 rfl k_26 r_26
  · exact (ih _ _ e) _ _ _ _ _ _ _ _ _ _ _ (O.pick [0]).nm rfl rfl k_14 r_14
set_option maxRecDepth 100000 in
theorem roadref3_LinesFault.l0_k.step_l2 (go : (p : roadref3_LinesFault.l0_k.Pt) → Option (Int)) (ih : ∀ p r, go p = some r → roadref3_LinesFault.l0_k.I p r) (a_3 : List Int) (x_7 : Int) (a_14 : List (List Int)) (x_15 : Int) (x_16 : Int) (a_26 : List Int) (x_27 : Int) (x_28 : Int) (x_33 : Int) (x_34 : Int) (r : Int) (e : roadref3_LinesFault.l0_k.body go (.l2 a_3 x_7 a_14 x_15 x_16 a_26 x_27 x_28 x_33 x_34) = some r) : roadref3_LinesFault.l0_k.I (.l2 a_3 x_7 a_14 x_15 x_16 a_26 x_27 x_28 x_33 x_34) r := by
  unfold roadref3_LinesFault.l0_k.body at e
  intro W h0 m0 h m A_3 n_3 c_3 A_14 n_14 c_14 A_26 n_26 c_26 O ne_3 ne_14 k_14 r_14 ne_26 k_26 r_26
  subst ne_3
  subst ne_14
  subst ne_26
  refine f27.l2_in ?_
  unfold f27.l2T
  refine split_dec_e e (fun c23 e => ?_) (fun c23 e => ?_)
  · obtain ⟨y1, g2, e⟩ := bind_e e
    refine (O.os 0 rfl).addr rfl g2 fun a3 cs4 ha5 hc6 he7 => ?_
    obtain rfl : cs4 = [(Value.int .i64 y1)] := he7
    refine ⟨_, ld0 (Sub.refl _) hc6 rfl, _, rfl, ?_⟩
    refine split_eq_e e (fun c8 e => ?_) (fun c8 e => ?_)
    · cases e
      exact ⟨_, O.pick [], rfl⟩
    · exact (ih _ _ e) _ _ _ _ _ _ _ _ _ _ _ _ _ _ (O.pick [0]).nm rfl rfl k_14 r_14 rfl k_26 r_26
  · refine O.new fun h9 x10 O11 => ?_
    obtain ⟨l13, g14, e⟩ := bind_e e
    have O21 := O11.rowE (l := ([x_7] : List Int)) 1 rfl (tell_int .i64) (show CsE _ _ _ _ _ from (CsE.cons (c1 := [(Value.int .i64 x_7)]) rfl rfl CsE.nil)) rfl
    refine O21.app 0 rfl rfl rfl ((O21.os 1 rfl).srcE rfl) (by decide) g14 fun A15 c16 h17 O18 => ?_
    refine ⟨_, _, _, rfl, ?_⟩
    have O22 := O18.nm
    exact (ih _ _ e) _ _ _ _ _ _ _ _ _ _ _ _ _ _ (O22.pick [0]).nm rfl rfl k_14 r_14 rfl k_26 r_26
theorem roadref3_LinesFault.l0_k.all {p : roadref3_LinesFault.l0_k.Pt} {r : (Int)} (e : roadref3_LinesFault.l0_k.go p = some r) : roadref3_LinesFault.l0_k.I p r := fixF_ind (β := fun _ => (Int)) roadref3_LinesFault.l0_k.mono (I := roadref3_LinesFault.l0_k.I) (fun go ih p r e => match p with
  | .l0 a_3 a_14 x_15 x_16 => roadref3_LinesFault.l0_k.step_l0 go ih a_3 a_14 x_15 x_16 r e
  | .l1 a_3 a_14 x_15 x_16 a_26 x_27 x_28 => roadref3_LinesFault.l0_k.step_l1 go ih a_3 a_14 x_15 x_16 a_26 x_27 x_28 r e
  | .l2 a_3 x_7 a_14 x_15 x_16 a_26 x_27 x_28 x_33 x_34 => roadref3_LinesFault.l0_k.step_l2 go ih a_3 x_7 a_14 x_15 x_16 a_26 x_27 x_28 x_33 x_34 r e
  ) e
theorem roadref3_LinesFault.l0.walk {W : Nat → Prop} {h0 m0 h m : Heap} {A_3 : Option Addr} {n_3 c_3 : Nat} {A_14 : Option Addr} {n_14 c_14 : Nat} {a_3 : List Int} {a_14 : List (List Int)} {x_15 : Int} {x_16 : Int} (O : Hold W h0 m0 h m [rR (aE (tell_int .i64)) A_3 c_3 a_3]) (ne_3 : n_3 = List.length a_3) (ne_14 : n_14 = List.length a_14) (k_14 : List.length a_14 ≤ c_14) (r_14 : Rd 1 (eRow 1 (eInt .i64)) m A_14 a_14) {r : Int} (e : roadref3_LinesFault.l0 a_3 a_14 x_15 x_16 = some r) : f27.l0 (roadref3_LinesFault.post W h0 m0 r) A_3 n_3 c_3 A_14 n_14 c_14 x_15 x_16 h := roadref3_LinesFault.l0_k.all (p := .l0 a_3 a_14 x_15 x_16) e W h0 m0 h m A_3 n_3 c_3 A_14 n_14 c_14 O ne_3 ne_14 k_14 r_14
noncomputable def roadref3_LinesFault (a_0 : List (List Int)) : Option (Int) :=
  Option.bind (roadref3_In (((List.length a_0) : Nat) : Int) (1 : Int) (8 : Int)) fun y1 => if y1 = true then ((roadref3_LinesFault.l0 ([] : List Int) a_0 (((List.length a_0) : Nat) : Int) (0 : Int))) else (some ((1 : Int)))
set_option maxRecDepth 100000 in
theorem roadref3_LinesFault.walk {W : Nat → Prop} {h m : Heap} {A_0 : Option Addr} {n_0 c_0 : Nat} {a_0 : List (List Int)} (O : Hold W h m h m []) (ne_0 : n_0 = List.length a_0) (k_0 : List.length a_0 ≤ c_0) (r_0 : Rd 1 (eRow 1 (eInt .i64)) m A_0 a_0) {r : Int} (e : roadref3_LinesFault a_0 = some r) : Run Try.prog 27 #[Value.slice A_0 n_0 c_0] h (roadref3_LinesFault.post W h m r) := by
  unfold roadref3_LinesFault at e
  subst ne_0
  refine f27.run ?_
  unfold f27.runT
  obtain ⟨y1, g2, e⟩ := bind_e e
  refine (roadref3_In.walk (Hold.start (W := No) O.s)  g2).mono ?_
  rintro _ h3 ⟨m4, Q5, rfl⟩
  have O7 := Hold.nm (O.retC Q5 vfs_nil)
  refine ⟨_, rfl, ?_⟩
  refine split_not ?_
  refine split_any_e e (fun c11 e => ?_) (fun c11 e => ?_)
  · have O8 := O7.nil (aE (tell_int .i64)) none
    have O10 := O8.nm
    exact roadref3_LinesFault.l0.walk (O10.pick [0]).nm rfl rfl k_0 r_0 e
  · cases e
    exact ⟨_, O7.pick [], rfl⟩
def roadref3_Robbed.post (W : Nat → Prop) (h0 m0 : Heap) (r : Int) (v : Value) (h : Heap) : Prop := ∃ m , Hold W h0 m0 h m [] ∧ v = .int .i64 r
inductive roadref3_Robbed.l1_k.Pt where
  | l1 (a_0 : List (List Int)) (x_1 : Int) (x_5 : Int) (x_26 : Int) (x_27 : Int)
  | j0 (a_0 : List (List Int)) (x_1 : Int) (x_5 : Int) (x_9 : Int) (x_26 : Int) (x_27 : Int) (b_52 : Bool)
noncomputable def roadref3_Robbed.l1_k.body (go : (p : roadref3_Robbed.l1_k.Pt) → Option (Int)) : (p : roadref3_Robbed.l1_k.Pt) → Option (Int)
  | .l1 a_0 x_1 x_5 x_26 x_27 => if x_27 < x_26 then (if (((List.length a_0) : Nat) : Int) ≠ 0 then (if (Int.tmod (IntKind.wrap .i64 ((IntKind.wrap .i64 (x_1 + (1 : Int))) + x_27)) (((List.length a_0) : Nat) : Int)) = x_1 then ((go (.j0 a_0 x_1 x_5 (Int.tmod (IntKind.wrap .i64 ((IntKind.wrap .i64 (x_1 + (1 : Int))) + x_27)) (((List.length a_0) : Nat) : Int)) x_26 x_27 false))) else (if x_5 > (0 : Int) then (Option.bind (gi a_0 (Int.tmod (IntKind.wrap .i64 ((IntKind.wrap .i64 (x_1 + (1 : Int))) + x_27)) (((List.length a_0) : Nat) : Int))) fun y2 => (go (.j0 a_0 x_1 x_5 (Int.tmod (IntKind.wrap .i64 ((IntKind.wrap .i64 (x_1 + (1 : Int))) + x_27)) (((List.length a_0) : Nat) : Int)) x_26 x_27 ((((List.length y2) : Nat) : Int) == x_5)))) else ((go (.j0 a_0 x_1 x_5 (Int.tmod (IntKind.wrap .i64 ((IntKind.wrap .i64 (x_1 + (1 : Int))) + x_27)) (((List.length a_0) : Nat) : Int)) x_26 x_27 false))))) else none) else (some ((-1 : Int)))
  | .j0 a_0 x_1 x_5 x_9 x_26 x_27 b_52 => if b_52 = true then (some (x_9)) else ((go (.l1 a_0 x_1 x_5 x_26 (IntKind.wrap .i64 (x_27 + (1 : Int))))))
theorem roadref3_Robbed.l1_k.mono : MonoF (β := fun _ => (Int)) roadref3_Robbed.l1_k.body := fun f g hfg p => match p with
  | .l1 a_0 x_1 x_5 x_26 x_27 => LeO.ite (LeO.ite (LeO.ite ((hfg _)) (LeO.ite (LeO.bind (LeO.refl _) fun y2 => (hfg _)) ((hfg _)))) (LeO.refl _)) (LeO.refl _)
  | .j0 a_0 x_1 x_5 x_9 x_26 x_27 b_52 => LeO.ite (LeO.refl _) ((hfg _))
noncomputable def roadref3_Robbed.l1_k.go (p : roadref3_Robbed.l1_k.Pt) : Option (Int) := fixF (β := fun _ => (Int)) roadref3_Robbed.l1_k.body p
noncomputable def roadref3_Robbed.l1 (a_0 : List (List Int)) (x_1 : Int) (x_5 : Int) (x_26 : Int) (x_27 : Int) : Option (Int) := roadref3_Robbed.l1_k.go (.l1 a_0 x_1 x_5 x_26 x_27)
noncomputable def roadref3_Robbed.j0 (a_0 : List (List Int)) (x_1 : Int) (x_5 : Int) (x_9 : Int) (x_26 : Int) (x_27 : Int) (b_52 : Bool) : Option (Int) := roadref3_Robbed.l1_k.go (.j0 a_0 x_1 x_5 x_9 x_26 x_27 b_52)
theorem roadref3_Robbed.l1_eq (a_0 : List (List Int)) (x_1 : Int) (x_5 : Int) (x_26 : Int) (x_27 : Int) : roadref3_Robbed.l1 a_0 x_1 x_5 x_26 x_27 = if x_27 < x_26 then (if (((List.length a_0) : Nat) : Int) ≠ 0 then (if (Int.tmod (IntKind.wrap .i64 ((IntKind.wrap .i64 (x_1 + (1 : Int))) + x_27)) (((List.length a_0) : Nat) : Int)) = x_1 then ((roadref3_Robbed.j0 a_0 x_1 x_5 (Int.tmod (IntKind.wrap .i64 ((IntKind.wrap .i64 (x_1 + (1 : Int))) + x_27)) (((List.length a_0) : Nat) : Int)) x_26 x_27 false)) else (if x_5 > (0 : Int) then (Option.bind (gi a_0 (Int.tmod (IntKind.wrap .i64 ((IntKind.wrap .i64 (x_1 + (1 : Int))) + x_27)) (((List.length a_0) : Nat) : Int))) fun y2 => (roadref3_Robbed.j0 a_0 x_1 x_5 (Int.tmod (IntKind.wrap .i64 ((IntKind.wrap .i64 (x_1 + (1 : Int))) + x_27)) (((List.length a_0) : Nat) : Int)) x_26 x_27 ((((List.length y2) : Nat) : Int) == x_5))) else ((roadref3_Robbed.j0 a_0 x_1 x_5 (Int.tmod (IntKind.wrap .i64 ((IntKind.wrap .i64 (x_1 + (1 : Int))) + x_27)) (((List.length a_0) : Nat) : Int)) x_26 x_27 false)))) else none) else (some ((-1 : Int))) := fixF_eq roadref3_Robbed.l1_k.mono _
theorem roadref3_Robbed.j0_eq (a_0 : List (List Int)) (x_1 : Int) (x_5 : Int) (x_9 : Int) (x_26 : Int) (x_27 : Int) (b_52 : Bool) : roadref3_Robbed.j0 a_0 x_1 x_5 x_9 x_26 x_27 b_52 = if b_52 = true then (some (x_9)) else ((roadref3_Robbed.l1 a_0 x_1 x_5 x_26 (IntKind.wrap .i64 (x_27 + (1 : Int))))) := fixF_eq roadref3_Robbed.l1_k.mono _
def roadref3_Robbed.l1_k.I : (p : roadref3_Robbed.l1_k.Pt) → (Int) → Prop
  | .l1 a_0 x_1 x_5 x_26 x_27, r => ∀ (W : Nat → Prop) (h0 m0 h m : Heap) (A_0 : Option Addr) (n_0 c_0 : Nat) (O : Hold W h0 m0 h m []) (ne_0 : n_0 = List.length a_0) (k_0 : List.length a_0 ≤ c_0) (r_0 : Rd 1 (eRow 1 (eInt .i64)) m A_0 a_0), f33.l1 (roadref3_Robbed.post W h0 m0 r) A_0 n_0 c_0 x_1 x_5 x_26 x_27 h
  | .j0 a_0 x_1 x_5 x_9 x_26 x_27 b_52, r => ∀ (W : Nat → Prop) (h0 m0 h m : Heap) (A_0 : Option Addr) (n_0 c_0 : Nat) (O : Hold W h0 m0 h m []) (ne_0 : n_0 = List.length a_0) (k_0 : List.length a_0 ≤ c_0) (r_0 : Rd 1 (eRow 1 (eInt .i64)) m A_0 a_0), f33.j0 (roadref3_Robbed.post W h0 m0 r) A_0 n_0 c_0 x_1 x_5 x_9 x_26 x_27 b_52 h
set_option maxRecDepth 100000 in
theorem roadref3_Robbed.l1_k.step_l1 (go : (p : roadref3_Robbed.l1_k.Pt) → Option (Int)) (ih : ∀ p r, go p = some r → roadref3_Robbed.l1_k.I p r) (a_0 : List (List Int)) (x_1 : Int) (x_5 : Int) (x_26 : Int) (x_27 : Int) (r : Int) (e : roadref3_Robbed.l1_k.body go (.l1 a_0 x_1 x_5 x_26 x_27) = some r) : roadref3_Robbed.l1_k.I (.l1 a_0 x_1 x_5 x_26 x_27) r := by
  unfold roadref3_Robbed.l1_k.body at e
  intro W h0 m0 h m A_0 n_0 c_0 O ne_0 k_0 r_0
  subst ne_0
  refine f33.l1_in ?_
  unfold f33.l1T
  refine split_dec_e e (fun c11 e => ?_) (fun c11 e => ?_)
  · obtain ⟨g1, e⟩ := guard_e e
    refine ⟨g1, ?_⟩
    refine split_ne_e e (fun c10 e => ?_) (fun c10 e => ?_)
    · refine split_dec_e e (fun c9 e => ?_) (fun c9 e => ?_)
      · obtain ⟨y2, g3, e⟩ := bind_e e
        refine r_0.addr rfl g3 fun a4 cs5 ha6 hc7 he8 => ?_
        obtain ⟨Acs5_0, ccs5_0, rfl, kcs5_0, rcs5_0⟩ := id he8
        refine ⟨_, ld0 O.s hc7 rfl, _, _, _, rfl, ?_⟩
        exact (ih _ _ e) _ _ _ _ _ _ _ _ (O.pick []).nm rfl k_0 r_0
      · exact (ih _ _ e) _ _ _ _ _ _ _ _ (O.pick []).nm rfl k_0 r_0
    · exact (ih _ _ e) _ _ _ _ _ _ _ _ (O.pick []).nm rfl k_0 r_0
  · cases e
    exact ⟨_, O.pick [], rfl⟩
set_option maxRecDepth 100000 in
theorem roadref3_Robbed.l1_k.step_j0 (go : (p : roadref3_Robbed.l1_k.Pt) → Option (Int)) (ih : ∀ p r, go p = some r → roadref3_Robbed.l1_k.I p r) (a_0 : List (List Int)) (x_1 : Int) (x_5 : Int) (x_9 : Int) (x_26 : Int) (x_27 : Int) (b_52 : Bool) (r : Int) (e : roadref3_Robbed.l1_k.body go (.j0 a_0 x_1 x_5 x_9 x_26 x_27 b_52) = some r) : roadref3_Robbed.l1_k.I (.j0 a_0 x_1 x_5 x_9 x_26 x_27 b_52) r := by
  unfold roadref3_Robbed.l1_k.body at e
  intro W h0 m0 h m A_0 n_0 c_0 O ne_0 k_0 r_0
  subst ne_0
  refine f33.j0_in ?_
  unfold f33.j0T
  refine split_any_e e (fun c1 e => ?_) (fun c1 e => ?_)
  · cases e
    exact ⟨_, O.pick [], rfl⟩
  · exact (ih _ _ e) _ _ _ _ _ _ _ _ (O.pick []).nm rfl k_0 r_0
theorem roadref3_Robbed.l1_k.all {p : roadref3_Robbed.l1_k.Pt} {r : (Int)} (e : roadref3_Robbed.l1_k.go p = some r) : roadref3_Robbed.l1_k.I p r := fixF_ind (β := fun _ => (Int)) roadref3_Robbed.l1_k.mono (I := roadref3_Robbed.l1_k.I) (fun go ih p r e => match p with
  | .l1 a_0 x_1 x_5 x_26 x_27 => roadref3_Robbed.l1_k.step_l1 go ih a_0 x_1 x_5 x_26 x_27 r e
  | .j0 a_0 x_1 x_5 x_9 x_26 x_27 b_52 => roadref3_Robbed.l1_k.step_j0 go ih a_0 x_1 x_5 x_9 x_26 x_27 b_52 r e
  ) e
theorem roadref3_Robbed.l1.walk {W : Nat → Prop} {h0 m0 h m : Heap} {A_0 : Option Addr} {n_0 c_0 : Nat} {a_0 : List (List Int)} {x_1 : Int} {x_5 : Int} {x_26 : Int} {x_27 : Int} (O : Hold W h0 m0 h m []) (ne_0 : n_0 = List.length a_0) (k_0 : List.length a_0 ≤ c_0) (r_0 : Rd 1 (eRow 1 (eInt .i64)) m A_0 a_0) {r : Int} (e : roadref3_Robbed.l1 a_0 x_1 x_5 x_26 x_27 = some r) : f33.l1 (roadref3_Robbed.post W h0 m0 r) A_0 n_0 c_0 x_1 x_5 x_26 x_27 h := roadref3_Robbed.l1_k.all (p := .l1 a_0 x_1 x_5 x_26 x_27) e W h0 m0 h m A_0 n_0 c_0 O ne_0 k_0 r_0
inductive roadref3_Robbed.l0_k.Pt where
  | l0 (a_0 : List (List Int)) (x_1 : Int) (x_5 : Int) (a_10 : List (List Int)) (x_11 : Int) (x_12 : Int)
noncomputable def roadref3_Robbed.l0_k.body (go : (p : roadref3_Robbed.l0_k.Pt) → Option (Int)) : (p : roadref3_Robbed.l0_k.Pt) → Option (Int)
  | .l0 a_0 x_1 x_5 a_10 x_11 x_12 => if x_12 < x_11 then (Option.bind (gi a_10 x_12) fun y1 => if x_12 = x_1 then ((go (.l0 a_0 x_1 x_5 a_10 x_11 (IntKind.wrap .i64 (x_12 + (1 : Int)))))) else ((go (.l0 a_0 x_1 (if (((List.length y1) : Nat) : Int) > x_5 then (((List.length y1) : Nat) : Int) else x_5) a_10 x_11 (IntKind.wrap .i64 (x_12 + (1 : Int))))))) else ((roadref3_Robbed.l1 a_0 x_1 x_5 (((List.length a_0) : Nat) : Int) (0 : Int)))
theorem roadref3_Robbed.l0_k.mono : MonoF (β := fun _ => (Int)) roadref3_Robbed.l0_k.body := fun f g hfg p => match p with
  | .l0 a_0 x_1 x_5 a_10 x_11 x_12 => LeO.ite (LeO.bind (LeO.refl _) fun y1 => LeO.ite ((hfg _)) ((hfg _))) ((LeO.refl _))
noncomputable def roadref3_Robbed.l0_k.go (p : roadref3_Robbed.l0_k.Pt) : Option (Int) := fixF (β := fun _ => (Int)) roadref3_Robbed.l0_k.body p
noncomputable def roadref3_Robbed.l0 (a_0 : List (List Int)) (x_1 : Int) (x_5 : Int) (a_10 : List (List Int)) (x_11 : Int) (x_12 : Int) : Option (Int) := roadref3_Robbed.l0_k.go (.l0 a_0 x_1 x_5 a_10 x_11 x_12)
theorem roadref3_Robbed.l0_eq (a_0 : List (List Int)) (x_1 : Int) (x_5 : Int) (a_10 : List (List Int)) (x_11 : Int) (x_12 : Int) : roadref3_Robbed.l0 a_0 x_1 x_5 a_10 x_11 x_12 = if x_12 < x_11 then (Option.bind (gi a_10 x_12) fun y1 => if x_12 = x_1 then ((roadref3_Robbed.l0 a_0 x_1 x_5 a_10 x_11 (IntKind.wrap .i64 (x_12 + (1 : Int))))) else ((roadref3_Robbed.l0 a_0 x_1 (if (((List.length y1) : Nat) : Int) > x_5 then (((List.length y1) : Nat) : Int) else x_5) a_10 x_11 (IntKind.wrap .i64 (x_12 + (1 : Int)))))) else ((roadref3_Robbed.l1 a_0 x_1 x_5 (((List.length a_0) : Nat) : Int) (0 : Int))) := fixF_eq roadref3_Robbed.l0_k.mono _
def roadref3_Robbed.l0_k.I : (p : roadref3_Robbed.l0_k.Pt) → (Int) → Prop
  | .l0 a_0 x_1 x_5 a_10 x_11 x_12, r => ∀ (W : Nat → Prop) (h0 m0 h m : Heap) (A_0 : Option Addr) (n_0 c_0 : Nat) (A_10 : Option Addr) (n_10 c_10 : Nat) (O : Hold W h0 m0 h m []) (ne_0 : n_0 = List.length a_0) (k_0 : List.length a_0 ≤ c_0) (r_0 : Rd 1 (eRow 1 (eInt .i64)) m A_0 a_0) (ne_10 : n_10 = List.length a_10) (k_10 : List.length a_10 ≤ c_10) (r_10 : Rd 1 (eRow 1 (eInt .i64)) m A_10 a_10), f33.l0 (roadref3_Robbed.post W h0 m0 r) A_0 n_0 c_0 x_1 x_5 A_10 n_10 c_10 x_11 x_12 h
set_option maxRecDepth 100000 in
theorem roadref3_Robbed.l0_k.step_l0 (go : (p : roadref3_Robbed.l0_k.Pt) → Option (Int)) (ih : ∀ p r, go p = some r → roadref3_Robbed.l0_k.I p r) (a_0 : List (List Int)) (x_1 : Int) (x_5 : Int) (a_10 : List (List Int)) (x_11 : Int) (x_12 : Int) (r : Int) (e : roadref3_Robbed.l0_k.body go (.l0 a_0 x_1 x_5 a_10 x_11 x_12) = some r) : roadref3_Robbed.l0_k.I (.l0 a_0 x_1 x_5 a_10 x_11 x_12) r := by
  unfold roadref3_Robbed.l0_k.body at e
  intro W h0 m0 h m A_0 n_0 c_0 A_10 n_10 c_10 O ne_0 k_0 r_0 ne_10 k_10 r_10
  subst ne_0
  subst ne_10
  refine f33.l0_in ?_
  unfold f33.l0T
  refine split_dec_e e (fun c9 e => ?_) (fun c9 e => ?_)
  · obtain ⟨y1, g2, e⟩ := bind_e e
    refine r_10.addr rfl g2 fun a3 cs4 ha5 hc6 he7 => ?_
    obtain ⟨Acs4_0, ccs4_0, rfl, kcs4_0, rcs4_0⟩ := id he7
    refine ⟨_, ld0 O.s hc6 rfl, _, _, _, rfl, ?_⟩
    refine split_ne_e e (fun c8 e => ?_) (fun c8 e => ?_)
    · exact (ih _ _ e) _ _ _ _ _ _ _ _ _ _ _ (O.pick []).nm rfl k_0 r_0 rfl k_10 r_10
    · exact (ih _ _ e) _ _ _ _ _ _ _ _ _ _ _ (O.pick []).nm rfl k_0 r_0 rfl k_10 r_10
  · exact roadref3_Robbed.l1.walk (O.pick []).nm rfl k_0 r_0 e
theorem roadref3_Robbed.l0_k.all {p : roadref3_Robbed.l0_k.Pt} {r : (Int)} (e : roadref3_Robbed.l0_k.go p = some r) : roadref3_Robbed.l0_k.I p r := fixF_ind (β := fun _ => (Int)) roadref3_Robbed.l0_k.mono (I := roadref3_Robbed.l0_k.I) (fun go ih p r e => match p with
  | .l0 a_0 x_1 x_5 a_10 x_11 x_12 => roadref3_Robbed.l0_k.step_l0 go ih a_0 x_1 x_5 a_10 x_11 x_12 r e
  ) e
theorem roadref3_Robbed.l0.walk {W : Nat → Prop} {h0 m0 h m : Heap} {A_0 : Option Addr} {n_0 c_0 : Nat} {A_10 : Option Addr} {n_10 c_10 : Nat} {a_0 : List (List Int)} {x_1 : Int} {x_5 : Int} {a_10 : List (List Int)} {x_11 : Int} {x_12 : Int} (O : Hold W h0 m0 h m []) (ne_0 : n_0 = List.length a_0) (k_0 : List.length a_0 ≤ c_0) (r_0 : Rd 1 (eRow 1 (eInt .i64)) m A_0 a_0) (ne_10 : n_10 = List.length a_10) (k_10 : List.length a_10 ≤ c_10) (r_10 : Rd 1 (eRow 1 (eInt .i64)) m A_10 a_10) {r : Int} (e : roadref3_Robbed.l0 a_0 x_1 x_5 a_10 x_11 x_12 = some r) : f33.l0 (roadref3_Robbed.post W h0 m0 r) A_0 n_0 c_0 x_1 x_5 A_10 n_10 c_10 x_11 x_12 h := roadref3_Robbed.l0_k.all (p := .l0 a_0 x_1 x_5 a_10 x_11 x_12) e W h0 m0 h m A_0 n_0 c_0 A_10 n_10 c_10 O ne_0 k_0 r_0 ne_10 k_10 r_10
noncomputable def roadref3_Robbed (a_0 : List (List Int)) (x_1 : Int) : Option (Int) :=
  (roadref3_Robbed.l0 a_0 x_1 (0 : Int) a_0 (((List.length a_0) : Nat) : Int) (0 : Int))
set_option maxRecDepth 100000 in
theorem roadref3_Robbed.walk {W : Nat → Prop} {h m : Heap} {A_0 : Option Addr} {n_0 c_0 : Nat} {a_0 : List (List Int)} {x_1 : Int} (O : Hold W h m h m []) (ne_0 : n_0 = List.length a_0) (k_0 : List.length a_0 ≤ c_0) (r_0 : Rd 1 (eRow 1 (eInt .i64)) m A_0 a_0) {r : Int} (e : roadref3_Robbed a_0 x_1 = some r) : Run Try.prog 33 #[Value.slice A_0 n_0 c_0, Value.int .i64 x_1] h (roadref3_Robbed.post W h m r) := by
  unfold roadref3_Robbed at e
  subst ne_0
  refine f33.run ?_
  unfold f33.runT
  exact roadref3_Robbed.l0.walk (O.pick []).nm rfl k_0 r_0 rfl k_0 r_0 e
def roadref3_Popped.post (W : Nat → Prop) (h0 m0 : Heap) (r : (List (List Int)) × Int × Bool) (v : Value) (h : Heap) : Prop := ∃ m A0 n0 c0, Hold W h0 m0 h m [rR (aRow (aE (tell_int .i64))) A0 c0 r.1] ∧ v = .tuple #[.slice A0 n0 c0, .int .i64 r.2.1, .bool r.2.2] ∧ n0 = List.length r.1
noncomputable def roadref3_Popped.j0 (x_1 : Int) (a_7 : List (List Int)) : Option ((List (List Int)) × Int × Bool) :=
  Option.bind (gi a_7 x_1) fun y3 => Option.bind (gi y3 (IntKind.wrap .i64 ((((List.length y3) : Nat) : Int) - (1 : Int)))) fun y15 => Option.bind (sls y3 (0 : Int) (IntKind.wrap .i64 ((((List.length y3) : Nat) : Int) - (1 : Int)))) fun l25 => Option.bind (some (List.set a_7 (Int.toNat x_1) l25)) fun l35 => some (l35, y15, true)
set_option maxRecDepth 100000 in
theorem roadref3_Popped.j0.walk {W : Nat → Prop} {h0 m0 h m : Heap} {A_7 : Option Addr} {n_7 c_7 : Nat} {x_1 : Int} {a_7 : List (List Int)} (O : Hold W h0 m0 h m [rR (aRow (aE (tell_int .i64))) A_7 c_7 a_7]) (ne_7 : n_7 = List.length a_7) {r : (List (List Int)) × Int × Bool} (e : roadref3_Popped.j0 x_1 a_7 = some r) : f30.j0 (roadref3_Popped.post W h0 m0 r) x_1 A_7 n_7 c_7 h := by
  unfold roadref3_Popped.j0 at e
  subst ne_7
  refine f30.j0_in ?_
  unfold f30.j0T
  obtain ⟨y3, g4, e⟩ := bind_e e
  refine O.adr 0 rfl rfl g4 fun a1 ha2 => ?_
  obtain ⟨hs5, O6⟩ := O.openX 0 rfl g4
  obtain ⟨A7, c8, hx9, hc10, k11⟩ := O6.hdX 0 rfl ha2 g4
  refine ⟨_, ld0 (Sub.refl _) hc10 rfl, _, _, _, rfl, ?_⟩
  refine O6.adrX 0 rfl rfl g4 fun a13 ha14 => ?_
  refine ⟨_, ld0 (Sub.refl _) (O6.hcX 0 rfl ha14 hx9) rfl, _, _, _, rfl, ?_⟩
  obtain ⟨y15, g16, e⟩ := bind_e e
  refine (O6.xos 0 rfl hx9 g4).addr rfl g16 fun a17 cs18 ha19 hc20 he21 => ?_
  obtain rfl : cs18 = [(Value.int .i64 y15)] := he21
  refine ⟨_, ld0 (Sub.refl _) hc20 rfl, _, rfl, ?_⟩
  refine O6.adrX 0 rfl rfl g4 fun a22 ha23 => ?_
  refine ⟨_, ld0 (Sub.refl _) (O6.hcX 0 rfl ha23 hx9) rfl, _, _, _, rfl, ?_⟩
  obtain ⟨l25, g26, e⟩ := bind_e e
  have O24 := O6.takeX 0 rfl hx9 g4
  have q27 := sls_e g26
  refine ⟨q27.1, q27.2.1, cap_in q27.2.2.1 (O24.cap 1 rfl), ?_⟩
  try rw [q27.2.2.2.1]
  refine O24.adrX 0 rfl rfl g4 fun a28 ha29 => ?_
  obtain ⟨l35, g36, e⟩ := bind_e e
  have O30 := O24.sls 1 rfl g26
  replace g36 := Option.some.inj g36
  refine O30.hdSt 0 rfl ha29 (v := (Value.slice (sliceA A7 (Int.toNat (0 : Int)) c8 1) (List.length l25) (c8 - Int.toNat (0 : Int)))) trivial fun h32 O33 => ?_
  have hx37 := hs_set (v := (Value.slice (sliceA A7 (Int.toNat (0 : Int)) c8 1) (List.length l25) (c8 - Int.toNat (0 : Int)))) hx9
  have O34 := O33.putX 0 1 rfl rfl hx37 rfl g36
  have O39 := O34.closeX 0 rfl
  have O40 := O39.nm
  cases e
  exact ⟨_, _, _, _, O40.pick [0], rfl, (lset' g36)⟩
inductive roadref3_Popped.l1_k.Pt where
  | l1 (x_1 : Int) (a_7 : List (List Int)) (x_10 : Int) (x_11 : Int)
noncomputable def roadref3_Popped.l1_k.body (go : (p : roadref3_Popped.l1_k.Pt) → Option ((List (List Int)) × Int × Bool)) : (p : roadref3_Popped.l1_k.Pt) → Option ((List (List Int)) × Int × Bool)
  | .l1 x_1 a_7 x_10 x_11 => if x_11 > (0 : Int) then (Option.bind (gi a_7 x_1) fun y3 => Option.bind (gi a_7 x_10) fun y7 => Option.bind (gi y7 (0 : Int)) fun y23 => Option.bind (ap 8 y3 ([y23] : List Int)) fun l35 => Option.bind (some (List.set a_7 (Int.toNat x_1) l35)) fun l50 => Option.bind (gi l50 x_10) fun y56 => if Int.toNat x_1 ≠ Int.toNat x_10 then (Option.bind (sls y7 (1 : Int) (((List.length y7) : Nat) : Int)) fun l60 => Option.bind (some (List.set l50 (Int.toNat x_10) l60)) fun l70 => (go (.l1 x_1 l70 x_10 (IntKind.wrap .i64 (x_11 - (1 : Int)))))) else none) else ((roadref3_Popped.j0 x_1 a_7))
theorem roadref3_Popped.l1_k.mono : MonoF (β := fun _ => ((List (List Int)) × Int × Bool)) roadref3_Popped.l1_k.body := fun f g hfg p => match p with
  | .l1 x_1 a_7 x_10 x_11 => LeO.ite (LeO.bind (LeO.refl _) fun y3 => LeO.bind (LeO.refl _) fun y7 => LeO.bind (LeO.refl _) fun y23 => LeO.bind (LeO.refl _) fun l35 => LeO.bind (LeO.refl _) fun l50 => LeO.bind (LeO.refl _) fun y56 => LeO.ite (LeO.bind (LeO.refl _) fun l60 => LeO.bind (LeO.refl _) fun l70 => (hfg _)) (LeO.refl _)) ((LeO.refl _))
noncomputable def roadref3_Popped.l1_k.go (p : roadref3_Popped.l1_k.Pt) : Option ((List (List Int)) × Int × Bool) := fixF (β := fun _ => ((List (List Int)) × Int × Bool)) roadref3_Popped.l1_k.body p
noncomputable def roadref3_Popped.l1 (x_1 : Int) (a_7 : List (List Int)) (x_10 : Int) (x_11 : Int) : Option ((List (List Int)) × Int × Bool) := roadref3_Popped.l1_k.go (.l1 x_1 a_7 x_10 x_11)
theorem roadref3_Popped.l1_eq (x_1 : Int) (a_7 : List (List Int)) (x_10 : Int) (x_11 : Int) : roadref3_Popped.l1 x_1 a_7 x_10 x_11 = if x_11 > (0 : Int) then (Option.bind (gi a_7 x_1) fun y3 => Option.bind (gi a_7 x_10) fun y7 => Option.bind (gi y7 (0 : Int)) fun y23 => Option.bind (ap 8 y3 ([y23] : List Int)) fun l35 => Option.bind (some (List.set a_7 (Int.toNat x_1) l35)) fun l50 => Option.bind (gi l50 x_10) fun y56 => if Int.toNat x_1 ≠ Int.toNat x_10 then (Option.bind (sls y7 (1 : Int) (((List.length y7) : Nat) : Int)) fun l60 => Option.bind (some (List.set l50 (Int.toNat x_10) l60)) fun l70 => (roadref3_Popped.l1 x_1 l70 x_10 (IntKind.wrap .i64 (x_11 - (1 : Int))))) else none) else ((roadref3_Popped.j0 x_1 a_7)) := fixF_eq roadref3_Popped.l1_k.mono _
def roadref3_Popped.l1_k.I : (p : roadref3_Popped.l1_k.Pt) → ((List (List Int)) × Int × Bool) → Prop
  | .l1 x_1 a_7 x_10 x_11, r => ∀ (W : Nat → Prop) (h0 m0 h m : Heap) (A_7 : Option Addr) (n_7 c_7 : Nat) (O : Hold W h0 m0 h m [rR (aRow (aE (tell_int .i64))) A_7 c_7 a_7]) (ne_7 : n_7 = List.length a_7), f30.l1 (roadref3_Popped.post W h0 m0 r) x_1 A_7 n_7 c_7 x_10 x_11 h
set_option maxHeartbeats 4000000 in
set_option maxRecDepth 100000 in
theorem roadref3_Popped.l1_k.step_l1 (go : (p : roadref3_Popped.l1_k.Pt) → Option ((List (List Int)) × Int × Bool)) (ih : ∀ p r, go p = some r → roadref3_Popped.l1_k.I p r) (x_1 : Int) (a_7 : List (List Int)) (x_10 : Int) (x_11 : Int) (r : (List (List Int)) × Int × Bool) (e : roadref3_Popped.l1_k.body go (.l1 x_1 a_7 x_10 x_11) = some r) : roadref3_Popped.l1_k.I (.l1 x_1 a_7 x_10 x_11) r := by
  unfold roadref3_Popped.l1_k.body at e
  intro W h0 m0 h m A_7 n_7 c_7 O ne_7
  subst ne_7
  refine f30.l1_in ?_
  unfold f30.l1T
  refine split_dec_e e (fun c76 e => ?_) (fun c76 e => ?_)
  · obtain ⟨y3, g4, e⟩ := bind_e e
    refine O.adr 0 rfl rfl g4 fun a1 ha2 => ?_
    obtain ⟨y7, g8, e⟩ := bind_e e
    refine O.adr 0 rfl rfl g8 fun a5 ha6 => ?_
    obtain ⟨hs9, O10⟩ := O.openX 0 rfl g4
    obtain ⟨A11, c12, hx13, hc14, k15⟩ := O10.hdX 0 rfl ha2 g4
    refine ⟨_, ld0 (Sub.refl _) hc14 rfl, _, _, _, rfl, ?_⟩
    obtain ⟨A17, c18, hx19, hc20, k21⟩ := O10.hdX 0 rfl ha6 g8
    refine ⟨_, ld0 (Sub.refl _) hc20 rfl, _, _, _, rfl, ?_⟩
    obtain ⟨y23, g24, e⟩ := bind_e e
    refine (O10.xos 0 rfl hx19 g8).addr rfl g24 fun a25 cs26 ha27 hc28 he29 => ?_
    obtain rfl : cs26 = [(Value.int .i64 y23)] := he29
    refine ⟨_, ld0 (Sub.refl _) hc28 rfl, _, rfl, ?_⟩
    refine O10.new fun h30 x31 O32 => ?_
    refine ⟨x31, ?_⟩
    obtain ⟨l35, g36, e⟩ := bind_e e
    have O34 := O32.takeX 0 rfl hx13 g4
    have O43 := O34.rowE (l := ([y23] : List Int)) 1 rfl (tell_int .i64) (show CsE _ _ _ _ _ from (CsE.cons (c1 := [(Value.int .i64 y23)]) rfl rfl CsE.nil)) rfl
    refine O43.app 2 rfl rfl rfl ((O43.os 1 rfl).srcE rfl) (by decide) g36 fun A37 c38 h39 O40 => ?_
    refine ⟨_, _, _, rfl, ?_⟩
    have O44 := O40.nm
    refine O44.adrX 0 rfl rfl g4 fun a45 ha46 => ?_
    obtain ⟨l50, g51, e⟩ := bind_e e
    replace g51 := Option.some.inj g51
    refine O44.hdSt 0 rfl ha46 (v := (Value.slice A37 (List.length l35) c38)) trivial fun h47 O48 => ?_
    have hx52 := hs_set (v := (Value.slice A37 (List.length l35) c38)) hx13
    have O49 := O48.putX 0 2 rfl rfl hx52 rfl g51
    obtain ⟨y56, g57, e⟩ := bind_e e
    refine O49.adrX 0 rfl (lset' g51) g57 fun a54 ha55 => ?_
    obtain ⟨g58, e⟩ := guard_e e
    refine ⟨_, ld0 (Sub.refl _) (O49.hcX 0 rfl ha55 (hs_ne (v := (Value.slice A37 (List.length l35) c38)) hx19 g58)) rfl, _, _, _, rfl, ?_⟩
    obtain ⟨l60, g61, e⟩ := bind_e e
    have O59 := O49.takeX 0 rfl (hs_ne (v := (Value.slice A37 (List.length l35) c38)) hx19 g58) (gi_ne g8 g51 g58)
    have q62 := sls_e g61
    refine ⟨q62.1, q62.2.1, cap_in q62.2.2.1 (O59.cap 3 rfl), ?_⟩
    try rw [q62.2.2.2.1]
    refine O59.adrX 0 rfl (lset' g51) (gi_ne g8 g51 g58) fun a63 ha64 => ?_
    obtain ⟨l70, g71, e⟩ := bind_e e
    have O65 := O59.sls 3 rfl g61
    replace g71 := Option.some.inj g71
    refine O65.hdSt 0 rfl ha64 (v := (Value.slice (sliceA A17 (Int.toNat (1 : Int)) c18 1) (List.length l60) (c18 - Int.toNat (1 : Int)))) trivial fun h67 O68 => ?_
    have hx72 := hs_set (v := (Value.slice (sliceA A17 (Int.toNat (1 : Int)) c18 1) (List.length l60) (c18 - Int.toNat (1 : Int)))) (hs_ne (v := (Value.slice A37 (List.length l35) c38)) hx19 g58)
    have O69 := O68.putX 0 3 rfl rfl hx72 rfl g71
    have O74 := O69.closeX 0 rfl
    have O75 := O74.nm
    exact (ih _ _ e) _ _ _ _ _ _ _ _ (O75.pick [0]).nm ((lset' g51).trans (lset' g71))
  · exact roadref3_Popped.j0.walk (O.pick [0]).nm rfl e
theorem roadref3_Popped.l1_k.all {p : roadref3_Popped.l1_k.Pt} {r : ((List (List Int)) × Int × Bool)} (e : roadref3_Popped.l1_k.go p = some r) : roadref3_Popped.l1_k.I p r := fixF_ind (β := fun _ => ((List (List Int)) × Int × Bool)) roadref3_Popped.l1_k.mono (I := roadref3_Popped.l1_k.I) (fun go ih p r e => match p with
  | .l1 x_1 a_7 x_10 x_11 => roadref3_Popped.l1_k.step_l1 go ih x_1 a_7 x_10 x_11 r e
  ) e
theorem roadref3_Popped.l1.walk {W : Nat → Prop} {h0 m0 h m : Heap} {A_7 : Option Addr} {n_7 c_7 : Nat} {x_1 : Int} {a_7 : List (List Int)} {x_10 : Int} {x_11 : Int} (O : Hold W h0 m0 h m [rR (aRow (aE (tell_int .i64))) A_7 c_7 a_7]) (ne_7 : n_7 = List.length a_7) {r : (List (List Int)) × Int × Bool} (e : roadref3_Popped.l1 x_1 a_7 x_10 x_11 = some r) : f30.l1 (roadref3_Popped.post W h0 m0 r) x_1 A_7 n_7 c_7 x_10 x_11 h := roadref3_Popped.l1_k.all (p := .l1 x_1 a_7 x_10 x_11) e W h0 m0 h m A_7 n_7 c_7 O ne_7
inductive roadref3_Popped.l0_k.Pt where
  | l0 (a_0 : List (List Int)) (x_1 : Int) (a_7 : List (List Int)) (a_14 : List (List Int)) (x_15 : Int) (x_16 : Int)
noncomputable def roadref3_Popped.l0_k.body (go : (p : roadref3_Popped.l0_k.Pt) → Option ((List (List Int)) × Int × Bool)) : (p : roadref3_Popped.l0_k.Pt) → Option ((List (List Int)) × Int × Bool)
  | .l0 a_0 x_1 a_7 a_14 x_15 x_16 => if x_16 < x_15 then (Option.bind (gi a_14 x_16) fun y1 => Option.bind (ap 8 ([] : List Int) y1) fun l8 => Option.bind (ap 24 a_7 [l8]) fun l20 => (go (.l0 a_0 x_1 l20 a_14 x_15 (IntKind.wrap .i64 (x_16 + (1 : Int)))))) else (Option.bind (gi a_7 x_1) fun y31 => if (((List.length y31) : Nat) : Int) = (0 : Int) then (Option.bind (roadref3_Robbed a_0 x_1) fun y41 => if y41 < (0 : Int) then (some (([] : List (List Int)), (0 : Int), false)) else (Option.bind (gi a_0 y41) fun y51 => (roadref3_Popped.l1 x_1 a_7 y41 (IntKind.wrap .i64 (Int.tdiv (IntKind.wrap .i64 ((((List.length y51) : Nat) : Int) + (1 : Int))) (2 : Int)))))) else ((roadref3_Popped.j0 x_1 a_7)))
theorem roadref3_Popped.l0_k.mono : MonoF (β := fun _ => ((List (List Int)) × Int × Bool)) roadref3_Popped.l0_k.body := fun f g hfg p => match p with
  | .l0 a_0 x_1 a_7 a_14 x_15 x_16 => LeO.ite (LeO.bind (LeO.refl _) fun y1 => LeO.bind (LeO.refl _) fun l8 => LeO.bind (LeO.refl _) fun l20 => (hfg _)) (LeO.bind (LeO.refl _) fun y31 => LeO.ite (LeO.bind (LeO.refl _) fun y41 => LeO.ite (LeO.refl _) (LeO.bind (LeO.refl _) fun y51 => (LeO.refl _))) ((LeO.refl _)))
noncomputable def roadref3_Popped.l0_k.go (p : roadref3_Popped.l0_k.Pt) : Option ((List (List Int)) × Int × Bool) := fixF (β := fun _ => ((List (List Int)) × Int × Bool)) roadref3_Popped.l0_k.body p
noncomputable def roadref3_Popped.l0 (a_0 : List (List Int)) (x_1 : Int) (a_7 : List (List Int)) (a_14 : List (List Int)) (x_15 : Int) (x_16 : Int) : Option ((List (List Int)) × Int × Bool) := roadref3_Popped.l0_k.go (.l0 a_0 x_1 a_7 a_14 x_15 x_16)
theorem roadref3_Popped.l0_eq (a_0 : List (List Int)) (x_1 : Int) (a_7 : List (List Int)) (a_14 : List (List Int)) (x_15 : Int) (x_16 : Int) : roadref3_Popped.l0 a_0 x_1 a_7 a_14 x_15 x_16 = if x_16 < x_15 then (Option.bind (gi a_14 x_16) fun y1 => Option.bind (ap 8 ([] : List Int) y1) fun l8 => Option.bind (ap 24 a_7 [l8]) fun l20 => (roadref3_Popped.l0 a_0 x_1 l20 a_14 x_15 (IntKind.wrap .i64 (x_16 + (1 : Int))))) else (Option.bind (gi a_7 x_1) fun y31 => if (((List.length y31) : Nat) : Int) = (0 : Int) then (Option.bind (roadref3_Robbed a_0 x_1) fun y41 => if y41 < (0 : Int) then (some (([] : List (List Int)), (0 : Int), false)) else (Option.bind (gi a_0 y41) fun y51 => (roadref3_Popped.l1 x_1 a_7 y41 (IntKind.wrap .i64 (Int.tdiv (IntKind.wrap .i64 ((((List.length y51) : Nat) : Int) + (1 : Int))) (2 : Int)))))) else ((roadref3_Popped.j0 x_1 a_7))) := fixF_eq roadref3_Popped.l0_k.mono _
def roadref3_Popped.l0_k.I : (p : roadref3_Popped.l0_k.Pt) → ((List (List Int)) × Int × Bool) → Prop
  | .l0 a_0 x_1 a_7 a_14 x_15 x_16, r => ∀ (W : Nat → Prop) (h0 m0 h m : Heap) (A_0 : Option Addr) (n_0 c_0 : Nat) (A_7 : Option Addr) (n_7 c_7 : Nat) (A_14 : Option Addr) (n_14 c_14 : Nat) (O : Hold W h0 m0 h m [rR (aRow (aE (tell_int .i64))) A_7 c_7 a_7]) (ne_0 : n_0 = List.length a_0) (k_0 : List.length a_0 ≤ c_0) (r_0 : Rd 1 (eRow 1 (eInt .i64)) m A_0 a_0) (ne_7 : n_7 = List.length a_7) (ne_14 : n_14 = List.length a_14) (k_14 : List.length a_14 ≤ c_14) (r_14 : Rd 1 (eRow 1 (eInt .i64)) m A_14 a_14), f30.l0 (roadref3_Popped.post W h0 m0 r) A_0 n_0 c_0 x_1 A_7 n_7 c_7 A_14 n_14 c_14 x_15 x_16 h
set_option maxHeartbeats 4000000 in
set_option maxRecDepth 100000 in
theorem roadref3_Popped.l0_k.step_l0 (go : (p : roadref3_Popped.l0_k.Pt) → Option ((List (List Int)) × Int × Bool)) (ih : ∀ p r, go p = some r → roadref3_Popped.l0_k.I p r) (a_0 : List (List Int)) (x_1 : Int) (a_7 : List (List Int)) (a_14 : List (List Int)) (x_15 : Int) (x_16 : Int) (r : (List (List Int)) × Int × Bool) (e : roadref3_Popped.l0_k.body go (.l0 a_0 x_1 a_7 a_14 x_15 x_16) = some r) : roadref3_Popped.l0_k.I (.l0 a_0 x_1 a_7 a_14 x_15 x_16) r := by
  unfold roadref3_Popped.l0_k.body at e
  intro W h0 m0 h m A_0 n_0 c_0 A_7 n_7 c_7 A_14 n_14 c_14 O ne_0 k_0 r_0 ne_7 ne_14 k_14 r_14
  subst ne_0
  subst ne_7
  subst ne_14
  refine f30.l0_in ?_
  unfold f30.l0T
  refine split_dec_e e (fun c64 e => ?_) (fun c64 e => ?_)
  · obtain ⟨y1, g2, e⟩ := bind_e e
    refine r_14.addr rfl g2 fun a3 cs4 ha5 hc6 he7 => ?_
    obtain ⟨Acs4_0, ccs4_0, rfl, kcs4_0, rcs4_0⟩ := id he7
    refine ⟨_, ld0 O.s hc6 rfl, _, _, _, rfl, ?_⟩
    obtain ⟨l8, g9, e⟩ := bind_e e
    refine O.appE0 (tell_int .i64) rfl rfl (Rd.srcE rcs4_0 (tell_int .i64) O.s rfl) (by decide) g9 fun A10 c11 h12 x14 O13 => ?_
    refine ⟨_, _, _, rfl, ?_⟩
    refine O13.new fun h16 x17 O18 => ?_
    obtain ⟨l20, g21, e⟩ := bind_e e
    refine O18.appR 0 1 rfl rfl rfl rfl (srcV O18 2 rfl rfl) (by decide) g21 fun A22 c23 h24 O25 => ?_
    refine ⟨_, _, _, rfl, ?_⟩
    have O28 := O25.nm
    exact (ih _ _ e) _ _ _ _ _ _ _ _ _ _ _ _ _ _ (O28.pick [0]).nm rfl k_0 r_0 rfl rfl k_14 r_14
  · obtain ⟨y31, g32, e⟩ := bind_e e
    refine O.adr 0 rfl rfl g32 fun a29 ha30 => ?_
    obtain ⟨hs33, O34⟩ := O.openX 0 rfl g32
    obtain ⟨A35, c36, hx37, hc38, k39⟩ := O34.hdX 0 rfl ha30 g32
    refine ⟨_, ld0 (Sub.refl _) hc38 rfl, _, _, _, rfl, ?_⟩
    refine split_eq_e e (fun c63 e => ?_) (fun c63 e => ?_)
    · obtain ⟨y41, g42, e⟩ := bind_e e
      refine (roadref3_Robbed.walk (Hold.start (W := No) O34.s) rfl k_0 r_0 g42).mono ?_
      rintro _ h43 ⟨m44, Q45, rfl⟩
      have O47 := Hold.nm (O34.retC Q45 vfs_nil)
      refine ⟨_, rfl, ?_⟩
      refine split_dec_e e (fun c60 e => ?_) (fun c60 e => ?_)
      · have O48 := O47.nil (aRow (aE (tell_int .i64))) none
        have O50 := O48.nm
        cases e
        exact ⟨_, _, _, _, O50.pick [1], rfl, rfl⟩
      · obtain ⟨y51, g52, e⟩ := bind_e e
        refine r_0.addr rfl g52 fun a53 cs54 ha55 hc56 he57 => ?_
        obtain ⟨Acs54_0, ccs54_0, rfl, kcs54_0, rcs54_0⟩ := id he57
        refine ⟨_, ld0 O47.s hc56 rfl, _, _, _, rfl, ?_⟩
        refine ⟨by decide, ?_⟩
        have O58 := O47.closeX 0 rfl
        have O59 := O58.nm
        exact roadref3_Popped.l1.walk (O59.pick [0]).nm rfl e
    · have O61 := O34.closeX 0 rfl
      have O62 := O61.nm
      exact roadref3_Popped.j0.walk (O62.pick [0]).nm rfl e
theorem roadref3_Popped.l0_k.all {p : roadref3_Popped.l0_k.Pt} {r : ((List (List Int)) × Int × Bool)} (e : roadref3_Popped.l0_k.go p = some r) : roadref3_Popped.l0_k.I p r := fixF_ind (β := fun _ => ((List (List Int)) × Int × Bool)) roadref3_Popped.l0_k.mono (I := roadref3_Popped.l0_k.I) (fun go ih p r e => match p with
  | .l0 a_0 x_1 a_7 a_14 x_15 x_16 => roadref3_Popped.l0_k.step_l0 go ih a_0 x_1 a_7 a_14 x_15 x_16 r e
  ) e
theorem roadref3_Popped.l0.walk {W : Nat → Prop} {h0 m0 h m : Heap} {A_0 : Option Addr} {n_0 c_0 : Nat} {A_7 : Option Addr} {n_7 c_7 : Nat} {A_14 : Option Addr} {n_14 c_14 : Nat} {a_0 : List (List Int)} {x_1 : Int} {a_7 : List (List Int)} {a_14 : List (List Int)} {x_15 : Int} {x_16 : Int} (O : Hold W h0 m0 h m [rR (aRow (aE (tell_int .i64))) A_7 c_7 a_7]) (ne_0 : n_0 = List.length a_0) (k_0 : List.length a_0 ≤ c_0) (r_0 : Rd 1 (eRow 1 (eInt .i64)) m A_0 a_0) (ne_7 : n_7 = List.length a_7) (ne_14 : n_14 = List.length a_14) (k_14 : List.length a_14 ≤ c_14) (r_14 : Rd 1 (eRow 1 (eInt .i64)) m A_14 a_14) {r : (List (List Int)) × Int × Bool} (e : roadref3_Popped.l0 a_0 x_1 a_7 a_14 x_15 x_16 = some r) : f30.l0 (roadref3_Popped.post W h0 m0 r) A_0 n_0 c_0 x_1 A_7 n_7 c_7 A_14 n_14 c_14 x_15 x_16 h := roadref3_Popped.l0_k.all (p := .l0 a_0 x_1 a_7 a_14 x_15 x_16) e W h0 m0 h m A_0 n_0 c_0 A_7 n_7 c_7 A_14 n_14 c_14 O ne_0 k_0 r_0 ne_7 ne_14 k_14 r_14
noncomputable def roadref3_Popped (a_0 : List (List Int)) (x_1 : Int) : Option ((List (List Int)) × Int × Bool) :=
  (roadref3_Popped.l0 a_0 x_1 ([] : List (List Int)) a_0 (((List.length a_0) : Nat) : Int) (0 : Int))
set_option maxRecDepth 100000 in
theorem roadref3_Popped.walk {W : Nat → Prop} {h m : Heap} {A_0 : Option Addr} {n_0 c_0 : Nat} {a_0 : List (List Int)} {x_1 : Int} (O : Hold W h m h m []) (ne_0 : n_0 = List.length a_0) (k_0 : List.length a_0 ≤ c_0) (r_0 : Rd 1 (eRow 1 (eInt .i64)) m A_0 a_0) {r : (List (List Int)) × Int × Bool} (e : roadref3_Popped a_0 x_1 = some r) : Run Try.prog 30 #[Value.slice A_0 n_0 c_0, Value.int .i64 x_1] h (roadref3_Popped.post W h m r) := by
  unfold roadref3_Popped at e
  subst ne_0
  refine f30.run ?_
  unfold f30.runT
  have O1 := O.nil (aRow (aE (tell_int .i64))) none
  have O3 := O1.nm
  exact roadref3_Popped.l0.walk (O3.pick [0]).nm rfl k_0 r_0 rfl rfl k_0 r_0 e
def slices_Equal_31.post (W : Nat → Prop) (h0 m0 : Heap) (r : Bool) (v : Value) (h : Heap) : Prop := ∃ m , Hold W h0 m0 h m [] ∧ v = .bool r
inductive slices_Equal_31.l0_k.Pt where
  | l0 (a_0 : List (List Int)) (a_1 : List (List Int)) (x_12 : Int) (x_13 : Int)
noncomputable def slices_Equal_31.l0_k.body (go : (p : slices_Equal_31.l0_k.Pt) → Option (Bool)) : (p : slices_Equal_31.l0_k.Pt) → Option (Bool)
  | .l0 a_0 a_1 x_12 x_13 => if x_13 < x_12 then (Option.bind (gi a_0 x_13) fun y1 => Option.bind (gi a_1 x_13) fun y8 => if (((List.getD y1 0 (0 : Int)) == (List.getD y8 0 (0 : Int))) && (((List.getD y1 1 (0 : Int)) == (List.getD y8 1 (0 : Int))) && true)) = true then ((go (.l0 a_0 a_1 x_12 (IntKind.wrap .i64 (x_13 + (1 : Int)))))) else (some (false))) else (some (true))
theorem slices_Equal_31.l0_k.mono : MonoF (β := fun _ => (Bool)) slices_Equal_31.l0_k.body := fun f g hfg p => match p with
  | .l0 a_0 a_1 x_12 x_13 => LeO.ite (LeO.bind (LeO.refl _) fun y1 => LeO.bind (LeO.refl _) fun y8 => LeO.ite ((hfg _)) (LeO.refl _)) (LeO.refl _)
noncomputable def slices_Equal_31.l0_k.go (p : slices_Equal_31.l0_k.Pt) : Option (Bool) := fixF (β := fun _ => (Bool)) slices_Equal_31.l0_k.body p
noncomputable def slices_Equal_31.l0 (a_0 : List (List Int)) (a_1 : List (List Int)) (x_12 : Int) (x_13 : Int) : Option (Bool) := slices_Equal_31.l0_k.go (.l0 a_0 a_1 x_12 x_13)
theorem slices_Equal_31.l0_eq (a_0 : List (List Int)) (a_1 : List (List Int)) (x_12 : Int) (x_13 : Int) : slices_Equal_31.l0 a_0 a_1 x_12 x_13 = if x_13 < x_12 then (Option.bind (gi a_0 x_13) fun y1 => Option.bind (gi a_1 x_13) fun y8 => if (((List.getD y1 0 (0 : Int)) == (List.getD y8 0 (0 : Int))) && (((List.getD y1 1 (0 : Int)) == (List.getD y8 1 (0 : Int))) && true)) = true then ((slices_Equal_31.l0 a_0 a_1 x_12 (IntKind.wrap .i64 (x_13 + (1 : Int))))) else (some (false))) else (some (true)) := fixF_eq slices_Equal_31.l0_k.mono _
def slices_Equal_31.l0_k.I : (p : slices_Equal_31.l0_k.Pt) → (Bool) → Prop
  | .l0 a_0 a_1 x_12 x_13, r => ∀ (W : Nat → Prop) (h0 m0 h m : Heap) (A_0 : Option Addr) (n_0 c_0 : Nat) (A_1 : Option Addr) (n_1 c_1 : Nat) (O : Hold W h0 m0 h m []) (ne_0 : n_0 = List.length a_0) (k_0 : List.length a_0 ≤ c_0) (r_0 : Rd 2 (eArr 2 (fun n : Int => Value.int .i64 n) (0 : Int)) m A_0 a_0) (ne_1 : n_1 = List.length a_1) (k_1 : List.length a_1 ≤ c_1) (r_1 : Rd 2 (eArr 2 (fun n : Int => Value.int .i64 n) (0 : Int)) m A_1 a_1), f31.l0 (slices_Equal_31.post W h0 m0 r) A_0 n_0 c_0 A_1 n_1 c_1 x_12 x_13 h
set_option maxRecDepth 100000 in
theorem slices_Equal_31.l0_k.step_l0 (go : (p : slices_Equal_31.l0_k.Pt) → Option (Bool)) (ih : ∀ p r, go p = some r → slices_Equal_31.l0_k.I p r) (a_0 : List (List Int)) (a_1 : List (List Int)) (x_12 : Int) (x_13 : Int) (r : Bool) (e : slices_Equal_31.l0_k.body go (.l0 a_0 a_1 x_12 x_13) = some r) : slices_Equal_31.l0_k.I (.l0 a_0 a_1 x_12 x_13) r := by
  unfold slices_Equal_31.l0_k.body at e
  intro W h0 m0 h m A_0 n_0 c_0 A_1 n_1 c_1 O ne_0 k_0 r_0 ne_1 k_1 r_1
  subst ne_0
  subst ne_1
  refine f31.l0_in ?_
  unfold f31.l0T
  refine split_dec_e e (fun c16 e => ?_) (fun c16 e => ?_)
  · obtain ⟨y1, g2, e⟩ := bind_e e
    refine r_0.addr rfl g2 fun a3 cs4 ha5 hc6 he7 => ?_
    have qcs4_0 := he7.1
    obtain rfl : cs4 = [(Value.int .i64 (List.getD y1 0 (0 : Int))), (Value.int .i64 (List.getD y1 1 (0 : Int)))] := he7.2
    obtain ⟨y8, g9, e⟩ := bind_e e
    refine r_1.addr rfl g9 fun a10 cs11 ha12 hc13 he14 => ?_
    have qcs11_0 := he14.1
    obtain rfl : cs11 = [(Value.int .i64 (List.getD y8 0 (0 : Int))), (Value.int .i64 (List.getD y8 1 (0 : Int)))] := he14.2
    refine ⟨_, ldAn O.s hc6 rfl, ?_⟩
    refine ⟨_, ldAn O.s hc13 rfl, ?_⟩
    refine gen_neq (b := (((List.getD y1 0 (0 : Int)) == (List.getD y8 0 (0 : Int))) && (((List.getD y1 1 (0 : Int)) == (List.getD y8 1 (0 : Int))) && true))) (by kernel_rfl) ?_
    refine ⟨_, rfl, ?_⟩
    refine split_not ?_
    refine split_any_e e (fun c15 e => ?_) (fun c15 e => ?_)
    · exact (ih _ _ e) _ _ _ _ _ _ _ _ _ _ _ (O.pick []).nm rfl k_0 r_0 rfl k_1 r_1
    · cases e
      exact ⟨_, O.pick [], rfl⟩
  · cases e
    exact ⟨_, O.pick [], rfl⟩
theorem slices_Equal_31.l0_k.all {p : slices_Equal_31.l0_k.Pt} {r : (Bool)} (e : slices_Equal_31.l0_k.go p = some r) : slices_Equal_31.l0_k.I p r := fixF_ind (β := fun _ => (Bool)) slices_Equal_31.l0_k.mono (I := slices_Equal_31.l0_k.I) (fun go ih p r e => match p with
  | .l0 a_0 a_1 x_12 x_13 => slices_Equal_31.l0_k.step_l0 go ih a_0 a_1 x_12 x_13 r e
  ) e
theorem slices_Equal_31.l0.walk {W : Nat → Prop} {h0 m0 h m : Heap} {A_0 : Option Addr} {n_0 c_0 : Nat} {A_1 : Option Addr} {n_1 c_1 : Nat} {a_0 : List (List Int)} {a_1 : List (List Int)} {x_12 : Int} {x_13 : Int} (O : Hold W h0 m0 h m []) (ne_0 : n_0 = List.length a_0) (k_0 : List.length a_0 ≤ c_0) (r_0 : Rd 2 (eArr 2 (fun n : Int => Value.int .i64 n) (0 : Int)) m A_0 a_0) (ne_1 : n_1 = List.length a_1) (k_1 : List.length a_1 ≤ c_1) (r_1 : Rd 2 (eArr 2 (fun n : Int => Value.int .i64 n) (0 : Int)) m A_1 a_1) {r : Bool} (e : slices_Equal_31.l0 a_0 a_1 x_12 x_13 = some r) : f31.l0 (slices_Equal_31.post W h0 m0 r) A_0 n_0 c_0 A_1 n_1 c_1 x_12 x_13 h := slices_Equal_31.l0_k.all (p := .l0 a_0 a_1 x_12 x_13) e W h0 m0 h m A_0 n_0 c_0 A_1 n_1 c_1 O ne_0 k_0 r_0 ne_1 k_1 r_1
noncomputable def slices_Equal_31 (a_0 : List (List Int)) (a_1 : List (List Int)) : Option (Bool) :=
  if (((List.length a_0) : Nat) : Int) = (((List.length a_1) : Nat) : Int) then ((slices_Equal_31.l0 a_0 a_1 (((List.length a_0) : Nat) : Int) (0 : Int))) else (some (false))
set_option maxRecDepth 100000 in
theorem slices_Equal_31.walk {W : Nat → Prop} {h m : Heap} {A_0 : Option Addr} {n_0 c_0 : Nat} {A_1 : Option Addr} {n_1 c_1 : Nat} {a_0 : List (List Int)} {a_1 : List (List Int)} (O : Hold W h m h m []) (ne_0 : n_0 = List.length a_0) (k_0 : List.length a_0 ≤ c_0) (r_0 : Rd 2 (eArr 2 (fun n : Int => Value.int .i64 n) (0 : Int)) m A_0 a_0) (ne_1 : n_1 = List.length a_1) (k_1 : List.length a_1 ≤ c_1) (r_1 : Rd 2 (eArr 2 (fun n : Int => Value.int .i64 n) (0 : Int)) m A_1 a_1) {r : Bool} (e : slices_Equal_31 a_0 a_1 = some r) : Run Try.prog 31 #[Value.slice A_0 n_0 c_0, Value.slice A_1 n_1 c_1] h (slices_Equal_31.post W h m r) := by
  unfold slices_Equal_31 at e
  subst ne_0
  subst ne_1
  refine f31.run ?_
  unfold f31.runT
  refine split_ne_e e (fun c1 e => ?_) (fun c1 e => ?_)
  · cases e
    exact ⟨_, O.pick [], rfl⟩
  · exact slices_Equal_31.l0.walk (O.pick []).nm rfl k_0 r_0 rfl k_1 r_1 e
def roadref3_SameInts.post (W : Nat → Prop) (h0 m0 : Heap) (r : Bool) (v : Value) (h : Heap) : Prop := ∃ m , Hold W h0 m0 h m [] ∧ v = .bool r
inductive roadref3_SameInts.l0_k.Pt where
  | l0 (a_0 : List Int) (a_1 : List Int) (x_12 : Int) (x_13 : Int)
noncomputable def roadref3_SameInts.l0_k.body (go : (p : roadref3_SameInts.l0_k.Pt) → Option (Bool)) : (p : roadref3_SameInts.l0_k.Pt) → Option (Bool)
  | .l0 a_0 a_1 x_12 x_13 => if x_13 < x_12 then (Option.bind (gi a_0 x_13) fun y1 => Option.bind (gi a_1 x_13) fun y8 => if y1 = y8 then ((go (.l0 a_0 a_1 x_12 (IntKind.wrap .i64 (x_13 + (1 : Int)))))) else (some (false))) else (some (true))
theorem roadref3_SameInts.l0_k.mono : MonoF (β := fun _ => (Bool)) roadref3_SameInts.l0_k.body := fun f g hfg p => match p with
  | .l0 a_0 a_1 x_12 x_13 => LeO.ite (LeO.bind (LeO.refl _) fun y1 => LeO.bind (LeO.refl _) fun y8 => LeO.ite ((hfg _)) (LeO.refl _)) (LeO.refl _)
noncomputable def roadref3_SameInts.l0_k.go (p : roadref3_SameInts.l0_k.Pt) : Option (Bool) := fixF (β := fun _ => (Bool)) roadref3_SameInts.l0_k.body p
noncomputable def roadref3_SameInts.l0 (a_0 : List Int) (a_1 : List Int) (x_12 : Int) (x_13 : Int) : Option (Bool) := roadref3_SameInts.l0_k.go (.l0 a_0 a_1 x_12 x_13)
theorem roadref3_SameInts.l0_eq (a_0 : List Int) (a_1 : List Int) (x_12 : Int) (x_13 : Int) : roadref3_SameInts.l0 a_0 a_1 x_12 x_13 = if x_13 < x_12 then (Option.bind (gi a_0 x_13) fun y1 => Option.bind (gi a_1 x_13) fun y8 => if y1 = y8 then ((roadref3_SameInts.l0 a_0 a_1 x_12 (IntKind.wrap .i64 (x_13 + (1 : Int))))) else (some (false))) else (some (true)) := fixF_eq roadref3_SameInts.l0_k.mono _
def roadref3_SameInts.l0_k.I : (p : roadref3_SameInts.l0_k.Pt) → (Bool) → Prop
  | .l0 a_0 a_1 x_12 x_13, r => ∀ (W : Nat → Prop) (h0 m0 h m : Heap) (A_0 : Option Addr) (n_0 c_0 : Nat) (A_1 : Option Addr) (n_1 c_1 : Nat) (O : Hold W h0 m0 h m []) (ne_0 : n_0 = List.length a_0) (k_0 : List.length a_0 ≤ c_0) (r_0 : Rd 1 (eInt .i64) m A_0 a_0) (ne_1 : n_1 = List.length a_1) (k_1 : List.length a_1 ≤ c_1) (r_1 : Rd 1 (eInt .i64) m A_1 a_1), f66.l0 (roadref3_SameInts.post W h0 m0 r) A_0 n_0 c_0 A_1 n_1 c_1 x_12 x_13 h
set_option maxRecDepth 100000 in
theorem roadref3_SameInts.l0_k.step_l0 (go : (p : roadref3_SameInts.l0_k.Pt) → Option (Bool)) (ih : ∀ p r, go p = some r → roadref3_SameInts.l0_k.I p r) (a_0 : List Int) (a_1 : List Int) (x_12 : Int) (x_13 : Int) (r : Bool) (e : roadref3_SameInts.l0_k.body go (.l0 a_0 a_1 x_12 x_13) = some r) : roadref3_SameInts.l0_k.I (.l0 a_0 a_1 x_12 x_13) r := by
  unfold roadref3_SameInts.l0_k.body at e
  intro W h0 m0 h m A_0 n_0 c_0 A_1 n_1 c_1 O ne_0 k_0 r_0 ne_1 k_1 r_1
  subst ne_0
  subst ne_1
  refine f66.l0_in ?_
  unfold f66.l0T
  refine split_dec_e e (fun c16 e => ?_) (fun c16 e => ?_)
  · obtain ⟨y1, g2, e⟩ := bind_e e
    refine r_0.addr rfl g2 fun a3 cs4 ha5 hc6 he7 => ?_
    obtain rfl : cs4 = [(Value.int .i64 y1)] := he7
    obtain ⟨y8, g9, e⟩ := bind_e e
    refine r_1.addr rfl g9 fun a10 cs11 ha12 hc13 he14 => ?_
    obtain rfl : cs11 = [(Value.int .i64 y8)] := he14
    refine ⟨_, ld0 O.s hc6 rfl, _, rfl, ?_⟩
    refine ⟨_, ld0 O.s hc13 rfl, _, rfl, ?_⟩
    refine split_ne_e e (fun c15 e => ?_) (fun c15 e => ?_)
    · cases e
      exact ⟨_, O.pick [], rfl⟩
    · exact (ih _ _ e) _ _ _ _ _ _ _ _ _ _ _ (O.pick []).nm rfl k_0 r_0 rfl k_1 r_1
  · cases e
    exact ⟨_, O.pick [], rfl⟩
theorem roadref3_SameInts.l0_k.all {p : roadref3_SameInts.l0_k.Pt} {r : (Bool)} (e : roadref3_SameInts.l0_k.go p = some r) : roadref3_SameInts.l0_k.I p r := fixF_ind (β := fun _ => (Bool)) roadref3_SameInts.l0_k.mono (I := roadref3_SameInts.l0_k.I) (fun go ih p r e => match p with
  | .l0 a_0 a_1 x_12 x_13 => roadref3_SameInts.l0_k.step_l0 go ih a_0 a_1 x_12 x_13 r e
  ) e
theorem roadref3_SameInts.l0.walk {W : Nat → Prop} {h0 m0 h m : Heap} {A_0 : Option Addr} {n_0 c_0 : Nat} {A_1 : Option Addr} {n_1 c_1 : Nat} {a_0 : List Int} {a_1 : List Int} {x_12 : Int} {x_13 : Int} (O : Hold W h0 m0 h m []) (ne_0 : n_0 = List.length a_0) (k_0 : List.length a_0 ≤ c_0) (r_0 : Rd 1 (eInt .i64) m A_0 a_0) (ne_1 : n_1 = List.length a_1) (k_1 : List.length a_1 ≤ c_1) (r_1 : Rd 1 (eInt .i64) m A_1 a_1) {r : Bool} (e : roadref3_SameInts.l0 a_0 a_1 x_12 x_13 = some r) : f66.l0 (roadref3_SameInts.post W h0 m0 r) A_0 n_0 c_0 A_1 n_1 c_1 x_12 x_13 h := roadref3_SameInts.l0_k.all (p := .l0 a_0 a_1 x_12 x_13) e W h0 m0 h m A_0 n_0 c_0 A_1 n_1 c_1 O ne_0 k_0 r_0 ne_1 k_1 r_1
noncomputable def roadref3_SameInts (a_0 : List Int) (a_1 : List Int) : Option (Bool) :=
  if (((List.length a_0) : Nat) : Int) = (((List.length a_1) : Nat) : Int) then ((roadref3_SameInts.l0 a_0 a_1 (((List.length a_0) : Nat) : Int) (0 : Int))) else (some (false))
set_option maxRecDepth 100000 in
theorem roadref3_SameInts.walk {W : Nat → Prop} {h m : Heap} {A_0 : Option Addr} {n_0 c_0 : Nat} {A_1 : Option Addr} {n_1 c_1 : Nat} {a_0 : List Int} {a_1 : List Int} (O : Hold W h m h m []) (ne_0 : n_0 = List.length a_0) (k_0 : List.length a_0 ≤ c_0) (r_0 : Rd 1 (eInt .i64) m A_0 a_0) (ne_1 : n_1 = List.length a_1) (k_1 : List.length a_1 ≤ c_1) (r_1 : Rd 1 (eInt .i64) m A_1 a_1) {r : Bool} (e : roadref3_SameInts a_0 a_1 = some r) : Run Try.prog 66 #[Value.slice A_0 n_0 c_0, Value.slice A_1 n_1 c_1] h (roadref3_SameInts.post W h m r) := by
  unfold roadref3_SameInts at e
  subst ne_0
  subst ne_1
  refine f66.run ?_
  unfold f66.runT
  refine split_ne_e e (fun c1 e => ?_) (fun c1 e => ?_)
  · cases e
    exact ⟨_, O.pick [], rfl⟩
  · exact roadref3_SameInts.l0.walk (O.pick []).nm rfl k_0 r_0 rfl k_1 r_1 e
def roadref3_SameLines.post (W : Nat → Prop) (h0 m0 : Heap) (r : Bool) (v : Value) (h : Heap) : Prop := ∃ m , Hold W h0 m0 h m [] ∧ v = .bool r
inductive roadref3_SameLines.l0_k.Pt where
  | l0 (a_0 : List (List Int)) (a_1 : List (List Int)) (x_12 : Int) (x_13 : Int)
noncomputable def roadref3_SameLines.l0_k.body (go : (p : roadref3_SameLines.l0_k.Pt) → Option (Bool)) : (p : roadref3_SameLines.l0_k.Pt) → Option (Bool)
  | .l0 a_0 a_1 x_12 x_13 => if x_13 < x_12 then (Option.bind (gi a_0 x_13) fun y1 => Option.bind (gi a_1 x_13) fun y8 => Option.bind (roadref3_SameInts y1 y8) fun y15 => if y15 = true then ((go (.l0 a_0 a_1 x_12 (IntKind.wrap .i64 (x_13 + (1 : Int)))))) else (some (false))) else (some (true))
theorem roadref3_SameLines.l0_k.mono : MonoF (β := fun _ => (Bool)) roadref3_SameLines.l0_k.body := fun f g hfg p => match p with
  | .l0 a_0 a_1 x_12 x_13 => LeO.ite (LeO.bind (LeO.refl _) fun y1 => LeO.bind (LeO.refl _) fun y8 => LeO.bind (LeO.refl _) fun y15 => LeO.ite ((hfg _)) (LeO.refl _)) (LeO.refl _)
noncomputable def roadref3_SameLines.l0_k.go (p : roadref3_SameLines.l0_k.Pt) : Option (Bool) := fixF (β := fun _ => (Bool)) roadref3_SameLines.l0_k.body p
noncomputable def roadref3_SameLines.l0 (a_0 : List (List Int)) (a_1 : List (List Int)) (x_12 : Int) (x_13 : Int) : Option (Bool) := roadref3_SameLines.l0_k.go (.l0 a_0 a_1 x_12 x_13)
theorem roadref3_SameLines.l0_eq (a_0 : List (List Int)) (a_1 : List (List Int)) (x_12 : Int) (x_13 : Int) : roadref3_SameLines.l0 a_0 a_1 x_12 x_13 = if x_13 < x_12 then (Option.bind (gi a_0 x_13) fun y1 => Option.bind (gi a_1 x_13) fun y8 => Option.bind (roadref3_SameInts y1 y8) fun y15 => if y15 = true then ((roadref3_SameLines.l0 a_0 a_1 x_12 (IntKind.wrap .i64 (x_13 + (1 : Int))))) else (some (false))) else (some (true)) := fixF_eq roadref3_SameLines.l0_k.mono _
def roadref3_SameLines.l0_k.I : (p : roadref3_SameLines.l0_k.Pt) → (Bool) → Prop
  | .l0 a_0 a_1 x_12 x_13, r => ∀ (W : Nat → Prop) (h0 m0 h m : Heap) (A_0 : Option Addr) (n_0 c_0 : Nat) (A_1 : Option Addr) (n_1 c_1 : Nat) (O : Hold W h0 m0 h m []) (ne_0 : n_0 = List.length a_0) (k_0 : List.length a_0 ≤ c_0) (r_0 : Rd 1 (eRow 1 (eInt .i64)) m A_0 a_0) (ne_1 : n_1 = List.length a_1) (k_1 : List.length a_1 ≤ c_1) (r_1 : Rd 1 (eRow 1 (eInt .i64)) m A_1 a_1), f32.l0 (roadref3_SameLines.post W h0 m0 r) A_0 n_0 c_0 A_1 n_1 c_1 x_12 x_13 h
set_option maxRecDepth 100000 in
theorem roadref3_SameLines.l0_k.step_l0 (go : (p : roadref3_SameLines.l0_k.Pt) → Option (Bool)) (ih : ∀ p r, go p = some r → roadref3_SameLines.l0_k.I p r) (a_0 : List (List Int)) (a_1 : List (List Int)) (x_12 : Int) (x_13 : Int) (r : Bool) (e : roadref3_SameLines.l0_k.body go (.l0 a_0 a_1 x_12 x_13) = some r) : roadref3_SameLines.l0_k.I (.l0 a_0 a_1 x_12 x_13) r := by
  unfold roadref3_SameLines.l0_k.body at e
  intro W h0 m0 h m A_0 n_0 c_0 A_1 n_1 c_1 O ne_0 k_0 r_0 ne_1 k_1 r_1
  subst ne_0
  subst ne_1
  refine f32.l0_in ?_
  unfold f32.l0T
  refine split_dec_e e (fun c23 e => ?_) (fun c23 e => ?_)
  · obtain ⟨y1, g2, e⟩ := bind_e e
    refine r_0.addr rfl g2 fun a3 cs4 ha5 hc6 he7 => ?_
    obtain ⟨Acs4_0, ccs4_0, rfl, kcs4_0, rcs4_0⟩ := id he7
    obtain ⟨y8, g9, e⟩ := bind_e e
    refine r_1.addr rfl g9 fun a10 cs11 ha12 hc13 he14 => ?_
    obtain ⟨Acs11_0, ccs11_0, rfl, kcs11_0, rcs11_0⟩ := id he14
    refine ⟨_, ld0 O.s hc6 rfl, _, _, _, rfl, ?_⟩
    refine ⟨_, ld0 O.s hc13 rfl, _, _, _, rfl, ?_⟩
    obtain ⟨y15, g16, e⟩ := bind_e e
    refine (roadref3_SameInts.walk (Hold.start (W := No) O.s) rfl kcs4_0 rcs4_0 rfl kcs11_0 rcs11_0 g16).mono ?_
    rintro _ h17 ⟨m18, Q19, rfl⟩
    have O21 := Hold.nm (O.retC Q19 vfs_nil)
    refine ⟨_, rfl, ?_⟩
    refine split_not ?_
    refine split_any_e e (fun c22 e => ?_) (fun c22 e => ?_)
    · exact (ih _ _ e) _ _ _ _ _ _ _ _ _ _ _ (O21.pick []).nm rfl k_0 r_0 rfl k_1 r_1
    · cases e
      exact ⟨_, O21.pick [], rfl⟩
  · cases e
    exact ⟨_, O.pick [], rfl⟩
theorem roadref3_SameLines.l0_k.all {p : roadref3_SameLines.l0_k.Pt} {r : (Bool)} (e : roadref3_SameLines.l0_k.go p = some r) : roadref3_SameLines.l0_k.I p r := fixF_ind (β := fun _ => (Bool)) roadref3_SameLines.l0_k.mono (I := roadref3_SameLines.l0_k.I) (fun go ih p r e => match p with
  | .l0 a_0 a_1 x_12 x_13 => roadref3_SameLines.l0_k.step_l0 go ih a_0 a_1 x_12 x_13 r e
  ) e
theorem roadref3_SameLines.l0.walk {W : Nat → Prop} {h0 m0 h m : Heap} {A_0 : Option Addr} {n_0 c_0 : Nat} {A_1 : Option Addr} {n_1 c_1 : Nat} {a_0 : List (List Int)} {a_1 : List (List Int)} {x_12 : Int} {x_13 : Int} (O : Hold W h0 m0 h m []) (ne_0 : n_0 = List.length a_0) (k_0 : List.length a_0 ≤ c_0) (r_0 : Rd 1 (eRow 1 (eInt .i64)) m A_0 a_0) (ne_1 : n_1 = List.length a_1) (k_1 : List.length a_1 ≤ c_1) (r_1 : Rd 1 (eRow 1 (eInt .i64)) m A_1 a_1) {r : Bool} (e : roadref3_SameLines.l0 a_0 a_1 x_12 x_13 = some r) : f32.l0 (roadref3_SameLines.post W h0 m0 r) A_0 n_0 c_0 A_1 n_1 c_1 x_12 x_13 h := roadref3_SameLines.l0_k.all (p := .l0 a_0 a_1 x_12 x_13) e W h0 m0 h m A_0 n_0 c_0 A_1 n_1 c_1 O ne_0 k_0 r_0 ne_1 k_1 r_1
noncomputable def roadref3_SameLines (a_0 : List (List Int)) (a_1 : List (List Int)) : Option (Bool) :=
  if (((List.length a_0) : Nat) : Int) = (((List.length a_1) : Nat) : Int) then ((roadref3_SameLines.l0 a_0 a_1 (((List.length a_0) : Nat) : Int) (0 : Int))) else (some (false))
set_option maxRecDepth 100000 in
theorem roadref3_SameLines.walk {W : Nat → Prop} {h m : Heap} {A_0 : Option Addr} {n_0 c_0 : Nat} {A_1 : Option Addr} {n_1 c_1 : Nat} {a_0 : List (List Int)} {a_1 : List (List Int)} (O : Hold W h m h m []) (ne_0 : n_0 = List.length a_0) (k_0 : List.length a_0 ≤ c_0) (r_0 : Rd 1 (eRow 1 (eInt .i64)) m A_0 a_0) (ne_1 : n_1 = List.length a_1) (k_1 : List.length a_1 ≤ c_1) (r_1 : Rd 1 (eRow 1 (eInt .i64)) m A_1 a_1) {r : Bool} (e : roadref3_SameLines a_0 a_1 = some r) : Run Try.prog 32 #[Value.slice A_0 n_0 c_0, Value.slice A_1 n_1 c_1] h (roadref3_SameLines.post W h m r) := by
  unfold roadref3_SameLines at e
  subst ne_0
  subst ne_1
  refine f32.run ?_
  unfold f32.runT
  refine split_ne_e e (fun c1 e => ?_) (fun c1 e => ?_)
  · cases e
    exact ⟨_, O.pick [], rfl⟩
  · exact roadref3_SameLines.l0.walk (O.pick []).nm rfl k_0 r_0 rfl k_1 r_1 e
def slices_Grow_67.post (W : Nat → Prop) (h0 m0 : Heap) (r : (List Int)) (v : Value) (h : Heap) : Prop := ∃ m A0 n0 c0, Hold W h0 m0 h m [rR (aE (tell_int .i64)) A0 c0 r] ∧ v = .slice A0 n0 c0 ∧ n0 = List.length r
noncomputable def slices_Grow_67 (x1 : Int) : Option (List Int) := if gro 8 x1 = true then some [] else none
set_option maxRecDepth 100000 in
theorem slices_Grow_67.walk {W : Nat → Prop} {h m : Heap} {x1 : Int} (O : Hold W h m h m []) {r : List Int} (e : slices_Grow_67 x1 = some r) : Run Try.prog 67 #[Value.slice none 0 0, Value.int .i64 x1] h (slices_Grow_67.post W h m r) := by
  unfold slices_Grow_67 at e
  have S : St No h m h m := .refl O.s
  obtain ⟨g, e⟩ := guard_e e
  cases e
  refine f67.run ?_
  unfold f67.runT
  refine split_dec (fun c => absurd c (by have := of_decide_eq_true (show decide _ = true from g); omega)) (fun _ => ?_)
  refine f67.j0_in ?_
  unfold f67.j0T
  exact grow_nil S rfl (by decide) g (fun A' c' h' o' x' => ⟨m, _, _, _, O.add (R := rR (aE (tell_int .i64)) A' c' []) (St.of_ext O.s x') o'.rowP o'.newNo, rfl, rfl⟩)
def slices_Concat_34.post (W : Nat → Prop) (h0 m0 : Heap) (r : (List Int)) (v : Value) (h : Heap) : Prop := ∃ m A0 n0 c0, Hold W h0 m0 h m [rR (aE (tell_int .i64)) A0 c0 r] ∧ v = .slice A0 n0 c0 ∧ n0 = List.length r
inductive slices_Concat_34.l1_k.Pt where
  | l1 (a_6 : List Int) (a_25 : List (List Int)) (x_26 : Int) (x_27 : Int)
noncomputable def slices_Concat_34.l1_k.body (go : (p : slices_Concat_34.l1_k.Pt) → Option ((List Int))) : (p : slices_Concat_34.l1_k.Pt) → Option ((List Int))
  | .l1 a_6 a_25 x_26 x_27 => if x_27 < x_26 then (Option.bind (gi a_25 x_27) fun y1 => Option.bind (ap 8 a_6 y1) fun l8 => (go (.l1 l8 a_25 x_26 (IntKind.wrap .i64 (x_27 + (1 : Int)))))) else (some (a_6))
theorem slices_Concat_34.l1_k.mono : MonoF (β := fun _ => ((List Int))) slices_Concat_34.l1_k.body := fun f g hfg p => match p with
  | .l1 a_6 a_25 x_26 x_27 => LeO.ite (LeO.bind (LeO.refl _) fun y1 => LeO.bind (LeO.refl _) fun l8 => (hfg _)) (LeO.refl _)
noncomputable def slices_Concat_34.l1_k.go (p : slices_Concat_34.l1_k.Pt) : Option ((List Int)) := fixF (β := fun _ => ((List Int))) slices_Concat_34.l1_k.body p
noncomputable def slices_Concat_34.l1 (a_6 : List Int) (a_25 : List (List Int)) (x_26 : Int) (x_27 : Int) : Option ((List Int)) := slices_Concat_34.l1_k.go (.l1 a_6 a_25 x_26 x_27)
theorem slices_Concat_34.l1_eq (a_6 : List Int) (a_25 : List (List Int)) (x_26 : Int) (x_27 : Int) : slices_Concat_34.l1 a_6 a_25 x_26 x_27 = if x_27 < x_26 then (Option.bind (gi a_25 x_27) fun y1 => Option.bind (ap 8 a_6 y1) fun l8 => (slices_Concat_34.l1 l8 a_25 x_26 (IntKind.wrap .i64 (x_27 + (1 : Int))))) else (some (a_6)) := fixF_eq slices_Concat_34.l1_k.mono _
def slices_Concat_34.l1_k.I : (p : slices_Concat_34.l1_k.Pt) → ((List Int)) → Prop
  | .l1 a_6 a_25 x_26 x_27, r => ∀ (W : Nat → Prop) (h0 m0 h m : Heap) (A_6 : Option Addr) (n_6 c_6 : Nat) (A_25 : Option Addr) (n_25 c_25 : Nat) (O : Hold W h0 m0 h m [rR (aE (tell_int .i64)) A_6 c_6 a_6]) (ne_6 : n_6 = List.length a_6) (ne_25 : n_25 = List.length a_25) (k_25 : List.length a_25 ≤ c_25) (r_25 : Rd 1 (eRow 1 (eInt .i64)) m A_25 a_25), f34.l1 (slices_Concat_34.post W h0 m0 r) A_6 n_6 c_6 A_25 n_25 c_25 x_26 x_27 h
set_option maxRecDepth 100000 in
theorem slices_Concat_34.l1_k.step_l1 (go : (p : slices_Concat_34.l1_k.Pt) → Option ((List Int))) (ih : ∀ p r, go p = some r → slices_Concat_34.l1_k.I p r) (a_6 : List Int) (a_25 : List (List Int)) (x_26 : Int) (x_27 : Int) (r : (List Int)) (e : slices_Concat_34.l1_k.body go (.l1 a_6 a_25 x_26 x_27) = some r) : slices_Concat_34.l1_k.I (.l1 a_6 a_25 x_26 x_27) r := by
  unfold slices_Concat_34.l1_k.body at e
  intro W h0 m0 h m A_6 n_6 c_6 A_25 n_25 c_25 O ne_6 ne_25 k_25 r_25
  subst ne_6
  subst ne_25
  refine f34.l1_in ?_
  unfold f34.l1T
  refine split_dec_e e (fun c17 e => ?_) (fun c17 e => ?_)
  · obtain ⟨y1, g2, e⟩ := bind_e e
    refine r_25.addr rfl g2 fun a3 cs4 ha5 hc6 he7 => ?_
    obtain ⟨Acs4_0, ccs4_0, rfl, kcs4_0, rcs4_0⟩ := id he7
    refine ⟨_, ld0 O.s hc6 rfl, _, _, _, rfl, ?_⟩
    obtain ⟨l8, g9, e⟩ := bind_e e
    refine O.app 0 rfl rfl rfl (Rd.srcE rcs4_0 (tell_int .i64) O.s rfl) (by decide) g9 fun A10 c11 h12 O13 => ?_
    refine ⟨_, _, _, rfl, ?_⟩
    have O16 := O13.nm
    exact (ih _ _ e) _ _ _ _ _ _ _ _ _ _ _ (O16.pick [0]).nm rfl rfl k_25 r_25
  · cases e
    exact ⟨_, _, _, _, O.pick [0], rfl, rfl⟩
theorem slices_Concat_34.l1_k.all {p : slices_Concat_34.l1_k.Pt} {r : ((List Int))} (e : slices_Concat_34.l1_k.go p = some r) : slices_Concat_34.l1_k.I p r := fixF_ind (β := fun _ => ((List Int))) slices_Concat_34.l1_k.mono (I := slices_Concat_34.l1_k.I) (fun go ih p r e => match p with
  | .l1 a_6 a_25 x_26 x_27 => slices_Concat_34.l1_k.step_l1 go ih a_6 a_25 x_26 x_27 r e
  ) e
theorem slices_Concat_34.l1.walk {W : Nat → Prop} {h0 m0 h m : Heap} {A_6 : Option Addr} {n_6 c_6 : Nat} {A_25 : Option Addr} {n_25 c_25 : Nat} {a_6 : List Int} {a_25 : List (List Int)} {x_26 : Int} {x_27 : Int} (O : Hold W h0 m0 h m [rR (aE (tell_int .i64)) A_6 c_6 a_6]) (ne_6 : n_6 = List.length a_6) (ne_25 : n_25 = List.length a_25) (k_25 : List.length a_25 ≤ c_25) (r_25 : Rd 1 (eRow 1 (eInt .i64)) m A_25 a_25) {r : (List Int)} (e : slices_Concat_34.l1 a_6 a_25 x_26 x_27 = some r) : f34.l1 (slices_Concat_34.post W h0 m0 r) A_6 n_6 c_6 A_25 n_25 c_25 x_26 x_27 h := slices_Concat_34.l1_k.all (p := .l1 a_6 a_25 x_26 x_27) e W h0 m0 h m A_6 n_6 c_6 A_25 n_25 c_25 O ne_6 ne_25 k_25 r_25
inductive slices_Concat_34.l0_k.Pt where
  | l0 (a_0 : List (List Int)) (x_3 : Int) (a_9 : List (List Int)) (x_10 : Int) (x_11 : Int)
noncomputable def slices_Concat_34.l0_k.body (go : (p : slices_Concat_34.l0_k.Pt) → Option ((List Int))) : (p : slices_Concat_34.l0_k.Pt) → Option ((List Int))
  | .l0 a_0 x_3 a_9 x_10 x_11 => if x_11 < x_10 then (Option.bind (gi a_9 x_11) fun y1 => if (IntKind.wrap .i64 (x_3 + (((List.length y1) : Nat) : Int))) < (0 : Int) then ((none : Option _)) else ((go (.l0 a_0 (IntKind.wrap .i64 (x_3 + (((List.length y1) : Nat) : Int))) a_9 x_10 (IntKind.wrap .i64 (x_11 + (1 : Int))))))) else (Option.bind (slices_Grow_67 x_3) fun y9 => (slices_Concat_34.l1 y9 a_0 (((List.length a_0) : Nat) : Int) (0 : Int)))
theorem slices_Concat_34.l0_k.mono : MonoF (β := fun _ => ((List Int))) slices_Concat_34.l0_k.body := fun f g hfg p => match p with
  | .l0 a_0 x_3 a_9 x_10 x_11 => LeO.ite (LeO.bind (LeO.refl _) fun y1 => LeO.ite (LeO.refl _) ((hfg _))) (LeO.bind (LeO.refl _) fun y9 => (LeO.refl _))
noncomputable def slices_Concat_34.l0_k.go (p : slices_Concat_34.l0_k.Pt) : Option ((List Int)) := fixF (β := fun _ => ((List Int))) slices_Concat_34.l0_k.body p
noncomputable def slices_Concat_34.l0 (a_0 : List (List Int)) (x_3 : Int) (a_9 : List (List Int)) (x_10 : Int) (x_11 : Int) : Option ((List Int)) := slices_Concat_34.l0_k.go (.l0 a_0 x_3 a_9 x_10 x_11)
theorem slices_Concat_34.l0_eq (a_0 : List (List Int)) (x_3 : Int) (a_9 : List (List Int)) (x_10 : Int) (x_11 : Int) : slices_Concat_34.l0 a_0 x_3 a_9 x_10 x_11 = if x_11 < x_10 then (Option.bind (gi a_9 x_11) fun y1 => if (IntKind.wrap .i64 (x_3 + (((List.length y1) : Nat) : Int))) < (0 : Int) then ((none : Option _)) else ((slices_Concat_34.l0 a_0 (IntKind.wrap .i64 (x_3 + (((List.length y1) : Nat) : Int))) a_9 x_10 (IntKind.wrap .i64 (x_11 + (1 : Int)))))) else (Option.bind (slices_Grow_67 x_3) fun y9 => (slices_Concat_34.l1 y9 a_0 (((List.length a_0) : Nat) : Int) (0 : Int))) := fixF_eq slices_Concat_34.l0_k.mono _
def slices_Concat_34.l0_k.I : (p : slices_Concat_34.l0_k.Pt) → ((List Int)) → Prop
  | .l0 a_0 x_3 a_9 x_10 x_11, r => ∀ (W : Nat → Prop) (h0 m0 h m : Heap) (A_0 : Option Addr) (n_0 c_0 : Nat) (A_9 : Option Addr) (n_9 c_9 : Nat) (O : Hold W h0 m0 h m []) (ne_0 : n_0 = List.length a_0) (k_0 : List.length a_0 ≤ c_0) (r_0 : Rd 1 (eRow 1 (eInt .i64)) m A_0 a_0) (ne_9 : n_9 = List.length a_9) (k_9 : List.length a_9 ≤ c_9) (r_9 : Rd 1 (eRow 1 (eInt .i64)) m A_9 a_9), f34.l0 (slices_Concat_34.post W h0 m0 r) A_0 n_0 c_0 x_3 A_9 n_9 c_9 x_10 x_11 h
set_option maxRecDepth 100000 in
theorem slices_Concat_34.l0_k.step_l0 (go : (p : slices_Concat_34.l0_k.Pt) → Option ((List Int))) (ih : ∀ p r, go p = some r → slices_Concat_34.l0_k.I p r) (a_0 : List (List Int)) (x_3 : Int) (a_9 : List (List Int)) (x_10 : Int) (x_11 : Int) (r : (List Int)) (e : slices_Concat_34.l0_k.body go (.l0 a_0 x_3 a_9 x_10 x_11) = some r) : slices_Concat_34.l0_k.I (.l0 a_0 x_3 a_9 x_10 x_11) r := by
  unfold slices_Concat_34.l0_k.body at e
  intro W h0 m0 h m A_0 n_0 c_0 A_9 n_9 c_9 O ne_0 k_0 r_0 ne_9 k_9 r_9
  subst ne_0
  subst ne_9
  refine f34.l0_in ?_
  unfold f34.l0T
  refine split_dec_e e (fun c21 e => ?_) (fun c21 e => ?_)
  · obtain ⟨y1, g2, e⟩ := bind_e e
    refine r_9.addr rfl g2 fun a3 cs4 ha5 hc6 he7 => ?_
    obtain ⟨Acs4_0, ccs4_0, rfl, kcs4_0, rcs4_0⟩ := id he7
    refine ⟨_, ld0 O.s hc6 rfl, _, _, _, rfl, ?_⟩
    refine split_dec_e e (fun c8 e => ?_) (fun c8 e => ?_)
    · cases e
    · exact (ih _ _ e) _ _ _ _ _ _ _ _ _ _ _ (O.pick []).nm rfl k_0 r_0 rfl k_9 r_9
  · obtain ⟨y9, g10, e⟩ := bind_e e
    refine (slices_Grow_67.walk (Hold.start (W := No) O.s)  g10).mono ?_
    rintro _ h11 ⟨m12, A15, n16, c17, Q13, rfl, ne18⟩
    have O20 := Hold.nm (O.retC Q13 (vfs_cons (rR_vf (aE_vf (fun _ _ _ _ h => h))) vfs_nil))
    subst ne18
    refine ⟨_, _, _, rfl, ?_⟩
    exact slices_Concat_34.l1.walk (O20.pick [0]).nm rfl rfl k_0 r_0 e
theorem slices_Concat_34.l0_k.all {p : slices_Concat_34.l0_k.Pt} {r : ((List Int))} (e : slices_Concat_34.l0_k.go p = some r) : slices_Concat_34.l0_k.I p r := fixF_ind (β := fun _ => ((List Int))) slices_Concat_34.l0_k.mono (I := slices_Concat_34.l0_k.I) (fun go ih p r e => match p with
  | .l0 a_0 x_3 a_9 x_10 x_11 => slices_Concat_34.l0_k.step_l0 go ih a_0 x_3 a_9 x_10 x_11 r e
  ) e
theorem slices_Concat_34.l0.walk {W : Nat → Prop} {h0 m0 h m : Heap} {A_0 : Option Addr} {n_0 c_0 : Nat} {A_9 : Option Addr} {n_9 c_9 : Nat} {a_0 : List (List Int)} {x_3 : Int} {a_9 : List (List Int)} {x_10 : Int} {x_11 : Int} (O : Hold W h0 m0 h m []) (ne_0 : n_0 = List.length a_0) (k_0 : List.length a_0 ≤ c_0) (r_0 : Rd 1 (eRow 1 (eInt .i64)) m A_0 a_0) (ne_9 : n_9 = List.length a_9) (k_9 : List.length a_9 ≤ c_9) (r_9 : Rd 1 (eRow 1 (eInt .i64)) m A_9 a_9) {r : (List Int)} (e : slices_Concat_34.l0 a_0 x_3 a_9 x_10 x_11 = some r) : f34.l0 (slices_Concat_34.post W h0 m0 r) A_0 n_0 c_0 x_3 A_9 n_9 c_9 x_10 x_11 h := slices_Concat_34.l0_k.all (p := .l0 a_0 x_3 a_9 x_10 x_11) e W h0 m0 h m A_0 n_0 c_0 A_9 n_9 c_9 O ne_0 k_0 r_0 ne_9 k_9 r_9
noncomputable def slices_Concat_34 (a_0 : List (List Int)) : Option ((List Int)) :=
  (slices_Concat_34.l0 a_0 (0 : Int) a_0 (((List.length a_0) : Nat) : Int) (0 : Int))
set_option maxRecDepth 100000 in
theorem slices_Concat_34.walk {W : Nat → Prop} {h m : Heap} {A_0 : Option Addr} {n_0 c_0 : Nat} {a_0 : List (List Int)} (O : Hold W h m h m []) (ne_0 : n_0 = List.length a_0) (k_0 : List.length a_0 ≤ c_0) (r_0 : Rd 1 (eRow 1 (eInt .i64)) m A_0 a_0) {r : (List Int)} (e : slices_Concat_34 a_0 = some r) : Run Try.prog 34 #[Value.slice A_0 n_0 c_0] h (slices_Concat_34.post W h m r) := by
  unfold slices_Concat_34 at e
  subst ne_0
  refine f34.run ?_
  unfold f34.runT
  exact slices_Concat_34.l0.walk (O.pick []).nm rfl k_0 r_0 rfl k_0 r_0 e
theorem slices_Concat_34.val (ls : List (List Int)) (hl : ls.length ≤ 4611686018427387904) (hs : ls.flatten.length * 8 ≤ 140737488355328) : slices_Concat_34 ls = some ls.flatten := concat_val (B := 8) (by decide) (fun r a n i => slices_Concat_34.l1_eq r a n i) (fun a s b n i => slices_Concat_34.l0_eq a s b n i) (gr := slices_Grow_67) (fun _ => rfl) (fun _ => rfl) ls hl hs
def roadlaw3_StealTells.post (W : Nat → Prop) (h0 m0 : Heap) (r : Bool) (v : Value) (h : Heap) : Prop := ∃ m , Hold W h0 m0 h m [] ∧ v = .bool r
noncomputable def roadlaw3_StealTells.j4 (a_0 : List (List Int)) (x_1 : Int) (x_2 : Int) (a_9 : List (List Int)) (x_10 : Int) : Option (Bool) :=
  Option.bind (slices_Concat_34 a_0) fun y1 => Option.bind (slices_Contains_35 y1 x_2) fun y13 => if y13 = true then (if (((List.length a_9) : Nat) : Int) = (0 : Int) then (some ((x_10 == (5 : Int)))) else (some (false))) else (if (((List.length y1) : Nat) : Int) = (100 : Int) then (if (((List.length a_9) : Nat) : Int) = (0 : Int) then (some ((x_10 == (6 : Int)))) else (some (false))) else (Option.bind (slices_Clone_36 a_0) fun y29 => Option.bind (gi a_0 x_1) fun y41 => Option.bind (slices_Clone_37 y41) fun y48 => Option.bind (ap 8 y48 ([x_2] : List Int)) fun l64 => Option.bind (gi y29 x_1) fun y73 => Option.bind (some (List.set y29 (Int.toNat x_1) l64)) fun l87 => Option.bind (roadref3_SameLines a_9 l87) fun y90 => if y90 = true then (some ((x_10 == (0 : Int)))) else (some (false))))
set_option maxHeartbeats 4000000 in
set_option maxRecDepth 100000 in
theorem roadlaw3_StealTells.j4.walk {W : Nat → Prop} {h0 m0 h m : Heap} {A_0 : Option Addr} {n_0 c_0 : Nat} {A_9 : Option Addr} {n_9 c_9 : Nat} {a_0 : List (List Int)} {x_1 : Int} {x_2 : Int} {a_9 : List (List Int)} {x_10 : Int} (O : Hold W h0 m0 h m [rR (aRow (aE (tell_int .i64))) A_9 c_9 a_9]) (ne_0 : n_0 = List.length a_0) (k_0 : List.length a_0 ≤ c_0) (r_0 : Rd 1 (eRow 1 (eInt .i64)) m A_0 a_0) (ne_9 : n_9 = List.length a_9) {r : Bool} (e : roadlaw3_StealTells.j4 a_0 x_1 x_2 a_9 x_10 = some r) : f5.j4 (roadlaw3_StealTells.post W h0 m0 r) A_0 n_0 c_0 x_1 x_2 A_9 n_9 c_9 x_10 h := by
  unfold roadlaw3_StealTells.j4 at e
  subst ne_0
  subst ne_9
  refine f5.j4_in ?_
  unfold f5.j4T
  obtain ⟨y1, g2, e⟩ := bind_e e
  refine (slices_Concat_34.walk (Hold.start (W := No) O.s) rfl k_0 r_0 g2).mono ?_
  rintro _ h3 ⟨m4, A7, n8, c9, Q5, rfl, ne10⟩
  have O12 := Hold.nm (O.retC Q5 (vfs_cons (rR_vf (aE_vf (fun _ _ _ _ h => h))) vfs_nil))
  subst ne10
  refine ⟨_, _, _, rfl, ?_⟩
  obtain ⟨y13, g14, e⟩ := bind_e e
  obtain ⟨m19, u20, s25, ⟨⟨r23, k24⟩, _⟩, B21, C22⟩ := O12.lend0 [1]
  replace r23 : Rd 1 (eInt .i64) m19 A7 y1 := r23
  replace k24 : List.length y1 ≤ c9 := k24
  refine (slices_Contains_35.walk (Hold.start (W := No) s25) rfl k24 r23 g14).mono ?_
  rintro _ h15 ⟨m16, Q17, rfl⟩
  have O26 := Hold.nm (C22 Q17 vfs_nil)
  refine ⟨_, rfl, ?_⟩
  refine split_any_e e (fun c108 e => ?_) (fun c108 e => ?_)
  · refine split_eq_e e (fun c27 e => ?_) (fun c27 e => ?_)
    · cases e
      exact ⟨_, O26.pick [], rfl⟩
    · cases e
      exact ⟨_, O26.pick [], rfl⟩
  · refine split_eq_e e (fun c107 e => ?_) (fun c107 e => ?_)
    · refine split_eq_e e (fun c28 e => ?_) (fun c28 e => ?_)
      · cases e
        exact ⟨_, O26.pick [], rfl⟩
      · cases e
        exact ⟨_, O26.pick [], rfl⟩
    · obtain ⟨y29, g30, e⟩ := bind_e e
      refine (slices_Clone_36.walk (Hold.start (W := No) O26.s) rfl k_0 r_0 g30).mono ?_
      rintro _ h31 ⟨m32, A35, n36, c37, Q33, rfl, ne38⟩
      have O40 := Hold.nm (O26.ret Q33)
      subst ne38
      refine ⟨_, _, _, rfl, ?_⟩
      obtain ⟨y41, g42, e⟩ := bind_e e
      refine (r_0.sub (tell_row (tell_int .i64)) Q33.S.up).addr rfl g42 fun a43 cs44 ha45 hc46 he47 => ?_
      obtain ⟨Acs44_0, ccs44_0, rfl, kcs44_0, rcs44_0⟩ := id he47
      refine ⟨_, ld0 O40.s hc46 rfl, _, _, _, rfl, ?_⟩
      obtain ⟨y48, g49, e⟩ := bind_e e
      refine (slices_Clone_37.walk (Hold.start (W := No) O40.s) rfl kcs44_0 rcs44_0 g49).mono ?_
      rintro _ h50 ⟨m51, A54, n55, c56, Q52, rfl, ne57⟩
      have O59 := Hold.nm (O40.retC Q52 (vfs_cons (rR_vf (aE_vf (fun _ _ _ _ h => h))) vfs_nil))
      subst ne57
      refine ⟨_, _, _, rfl, ?_⟩
      refine O59.new fun h60 x61 O62 => ?_
      obtain ⟨l64, g65, e⟩ := bind_e e
      have O72 := O62.rowE (l := ([x_2] : List Int)) 4 rfl (tell_int .i64) (show CsE _ _ _ _ _ from (CsE.cons (c1 := [(Value.int .i64 x_2)]) rfl rfl CsE.nil)) rfl
      refine O72.app 3 rfl rfl rfl ((O72.os 4 rfl).srcE rfl) (by decide) g65 fun A66 c67 h68 O69 => ?_
      refine ⟨_, _, _, rfl, ?_⟩
      obtain ⟨y73, g74, e⟩ := bind_e e
      refine (O69.os 2 rfl).addr rfl g74 fun a75 cs76 ha77 hc78 he79 => ?_
      obtain ⟨Acs76_0, ccs76_0, rfl, kcs76_0, rcs76_0⟩ := id he79
      obtain ⟨l87, g88, e⟩ := bind_e e
      obtain ⟨m80, u81, ⟨r82, k83⟩, O84⟩ := O69.frz 3 rfl
      replace r82 : Rd 1 (eInt .i64) m80 A66 l64 := r82
      replace g88 := Option.some.inj g88
      refine O84.elst0 2 rfl g74 ha77 hc78 (by decide) (y' := l64) ⟨_, _, rfl, k83, r82⟩ trivial g88 fun h85 O86 => ?_
      have O89 := O86.nm
      obtain ⟨y90, g91, e⟩ := bind_e e
      obtain ⟨m96, u97, s104, ⟨⟨r100, k101⟩, ⟨r102, k103⟩, _⟩, B98, C99⟩ := O89.lend0 [0, 2]
      replace r100 : Rd 1 (eRow 1 (eInt .i64)) m96 A_9 a_9 := r100
      replace k101 : List.length a_9 ≤ c_9 := k101
      replace r102 : Rd 1 (eRow 1 (eInt .i64)) m96 A35 l87 := r102
      replace k103 : List.length l87 ≤ c37 := k103
      refine (roadref3_SameLines.walk (Hold.start (W := No) s104) rfl k101 r100 (lset' g88) k103 r102 g91).mono ?_
      rintro _ h92 ⟨m93, Q94, rfl⟩
      have O105 := Hold.nm (C99 Q94 vfs_nil)
      refine ⟨_, rfl, ?_⟩
      refine split_any_e e (fun c106 e => ?_) (fun c106 e => ?_)
      · cases e
        exact ⟨_, O105.pick [], rfl⟩
      · cases e
        exact ⟨_, O105.pick [], rfl⟩
noncomputable def roadlaw3_StealTells.j3 (a_0 : List (List Int)) (x_1 : Int) (x_2 : Int) (a_9 : List (List Int)) (x_10 : Int) (a_11 : List (List Int)) (x_12 : Int) (x_13 : Int) (x_14 : Int) (x_18 : Int) : Option (Bool) :=
  if x_18 = (0 : Int) then (Option.bind (roadref3_Robbed a_0 x_1) fun y5 => if x_14 = y5 then (Option.bind (roadref3_Popped a_0 x_1) fun y12 => if y12.2.2 = true then (Option.bind (roadref3_SameLines a_11 y12.1) fun y24 => if y24 = true then (if x_12 = y12.2.1 then (if x_13 = (0 : Int) then (if y12.2.2 = true then ((roadlaw3_StealTells.j4 a_0 x_1 x_2 a_9 x_10)) else (if (((List.length a_11) : Nat) : Int) > (0 : Int) then (some (false)) else (if x_12 = (0 : Int) then (if x_13 = (4 : Int) then ((roadlaw3_StealTells.j4 a_0 x_1 x_2 a_9 x_10)) else (some (false))) else (some (false))))) else (some (false))) else (some (false))) else (some (false))) else (if y12.2.2 = true then ((roadlaw3_StealTells.j4 a_0 x_1 x_2 a_9 x_10)) else (if (((List.length a_11) : Nat) : Int) > (0 : Int) then (some (false)) else (if x_12 = (0 : Int) then (if x_13 = (4 : Int) then ((roadlaw3_StealTells.j4 a_0 x_1 x_2 a_9 x_10)) else (some (false))) else (some (false)))))) else (some (false))) else (if (IntKind.wrap .i64 ((((List.length a_9) : Nat) : Int) + (((List.length a_11) : Nat) : Int))) = (0 : Int) then (if x_12 = (0 : Int) then (if x_14 = (-1 : Int) then (if x_10 = x_18 then (some ((x_13 == x_18))) else (some (false))) else (some (false))) else (some (false))) else (some (false)))
set_option maxHeartbeats 4000000 in
set_option maxRecDepth 100000 in
theorem roadlaw3_StealTells.j3.walk {W : Nat → Prop} {h0 m0 h m : Heap} {A_0 : Option Addr} {n_0 c_0 : Nat} {A_9 : Option Addr} {n_9 c_9 : Nat} {A_11 : Option Addr} {n_11 c_11 : Nat} {a_0 : List (List Int)} {x_1 : Int} {x_2 : Int} {a_9 : List (List Int)} {x_10 : Int} {a_11 : List (List Int)} {x_12 : Int} {x_13 : Int} {x_14 : Int} {x_18 : Int} (O : Hold W h0 m0 h m [rR (aRow (aE (tell_int .i64))) A_9 c_9 a_9, rR (aRow (aE (tell_int .i64))) A_11 c_11 a_11]) (ne_0 : n_0 = List.length a_0) (k_0 : List.length a_0 ≤ c_0) (r_0 : Rd 1 (eRow 1 (eInt .i64)) m A_0 a_0) (ne_9 : n_9 = List.length a_9) (ne_11 : n_11 = List.length a_11) {r : Bool} (e : roadlaw3_StealTells.j3 a_0 x_1 x_2 a_9 x_10 a_11 x_12 x_13 x_14 x_18 = some r) : f5.j3 (roadlaw3_StealTells.post W h0 m0 r) A_0 n_0 c_0 x_1 x_2 A_9 n_9 c_9 x_10 A_11 n_11 c_11 x_12 x_13 x_14 x_18 h := by
  unfold roadlaw3_StealTells.j3 at e
  subst ne_0
  subst ne_9
  subst ne_11
  refine f5.j3_in ?_
  unfold f5.j3T
  refine split_ne_e e (fun c53 e => ?_) (fun c53 e => ?_)
  · refine split_eq_e e (fun c4 e => ?_) (fun c4 e => ?_)
    · refine split_eq_e e (fun c3 e => ?_) (fun c3 e => ?_)
      · refine split_eq_e e (fun c2 e => ?_) (fun c2 e => ?_)
        · refine split_eq_e e (fun c1 e => ?_) (fun c1 e => ?_)
          · cases e
            exact ⟨_, O.pick [], rfl⟩
          · cases e
            exact ⟨_, O.pick [], rfl⟩
        · cases e
          exact ⟨_, O.pick [], rfl⟩
      · cases e
        exact ⟨_, O.pick [], rfl⟩
    · cases e
      exact ⟨_, O.pick [], rfl⟩
  · obtain ⟨y5, g6, e⟩ := bind_e e
    refine (roadref3_Robbed.walk (Hold.start (W := No) O.s) rfl k_0 r_0 g6).mono ?_
    rintro _ h7 ⟨m8, Q9, rfl⟩
    have O11 := Hold.nm (O.retC Q9 vfs_nil)
    refine ⟨_, rfl, ?_⟩
    refine split_ne_e e (fun c52 e => ?_) (fun c52 e => ?_)
    · cases e
      exact ⟨_, O11.pick [], rfl⟩
    · obtain ⟨y12, g13, e⟩ := bind_e e
      refine (roadref3_Popped.walk (Hold.start (W := No) O11.s) rfl k_0 r_0 g13).mono ?_
      rintro _ h14 ⟨m15, A18, n19, c20, Q16, rfl, ne21⟩
      have O23 := Hold.nm (O11.ret Q16)
      subst ne21
      refine ⟨_, _, _, _, _, rfl, ?_⟩
      refine split_any_e e (fun c51 e => ?_) (fun c51 e => ?_)
      · obtain ⟨y24, g25, e⟩ := bind_e e
        obtain ⟨m30, u31, s38, ⟨⟨r34, k35⟩, ⟨r36, k37⟩, _⟩, B32, C33⟩ := O23.lend0 [1, 2]
        replace r34 : Rd 1 (eRow 1 (eInt .i64)) m30 A_11 a_11 := r34
        replace k35 : List.length a_11 ≤ c_11 := k35
        replace r36 : Rd 1 (eRow 1 (eInt .i64)) m30 A18 y12.1 := r36
        replace k37 : List.length y12.1 ≤ c20 := k37
        refine (roadref3_SameLines.walk (Hold.start (W := No) s38) rfl k35 r34 rfl k37 r36 g25).mono ?_
        rintro _ h26 ⟨m27, Q28, rfl⟩
        have O39 := Hold.nm (C33 Q28 vfs_nil)
        refine ⟨_, rfl, ?_⟩
        refine split_not ?_
        refine split_any_e e (fun c46 e => ?_) (fun c46 e => ?_)
        · refine split_ne_e e (fun c45 e => ?_) (fun c45 e => ?_)
          · cases e
            exact ⟨_, O39.pick [], rfl⟩
          · refine split_ne_e e (fun c44 e => ?_) (fun c44 e => ?_)
            · cases e
              exact ⟨_, O39.pick [], rfl⟩
            · refine split_not ?_
              refine split_any_e e (fun c43 e => ?_) (fun c43 e => ?_)
              · exact roadlaw3_StealTells.j4.walk (O39.pick [0]).nm rfl k_0 (r_0.sub (tell_row (tell_int .i64)) Q16.S.up) rfl e
              · refine split_dec_e e (fun c42 e => ?_) (fun c42 e => ?_)
                · cases e
                  exact ⟨_, O39.pick [], rfl⟩
                · refine split_ne_e e (fun c41 e => ?_) (fun c41 e => ?_)
                  · cases e
                    exact ⟨_, O39.pick [], rfl⟩
                  · refine split_ne_e e (fun c40 e => ?_) (fun c40 e => ?_)
                    · cases e
                      exact ⟨_, O39.pick [], rfl⟩
                    · exact roadlaw3_StealTells.j4.walk (O39.pick [0]).nm rfl k_0 (r_0.sub (tell_row (tell_int .i64)) Q16.S.up) rfl e
        · cases e
          exact ⟨_, O39.pick [], rfl⟩
      · refine split_not ?_
        refine split_any_e e (fun c50 e => ?_) (fun c50 e => ?_)
        · exact roadlaw3_StealTells.j4.walk (O23.pick [0]).nm rfl k_0 (r_0.sub (tell_row (tell_int .i64)) Q16.S.up) rfl e
        · refine split_dec_e e (fun c49 e => ?_) (fun c49 e => ?_)
          · cases e
            exact ⟨_, O23.pick [], rfl⟩
          · refine split_ne_e e (fun c48 e => ?_) (fun c48 e => ?_)
            · cases e
              exact ⟨_, O23.pick [], rfl⟩
            · refine split_ne_e e (fun c47 e => ?_) (fun c47 e => ?_)
              · cases e
                exact ⟨_, O23.pick [], rfl⟩
              · exact roadlaw3_StealTells.j4.walk (O23.pick [0]).nm rfl k_0 (r_0.sub (tell_row (tell_int .i64)) Q16.S.up) rfl e
noncomputable def roadlaw3_StealTells.j2 (a_0 : List (List Int)) (x_1 : Int) (x_2 : Int) (a_9 : List (List Int)) (x_10 : Int) (a_11 : List (List Int)) (x_12 : Int) (x_13 : Int) (x_14 : Int) (x_18 : Int) : Option (Bool) :=
  if x_18 = (0 : Int) then (Option.bind (roadref3_In x_1 (0 : Int) (IntKind.wrap .i64 ((((List.length a_0) : Nat) : Int) - (1 : Int)))) fun y1 => if y1 = true then ((roadlaw3_StealTells.j3 a_0 x_1 x_2 a_9 x_10 a_11 x_12 x_13 x_14 x_18)) else ((roadlaw3_StealTells.j3 a_0 x_1 x_2 a_9 x_10 a_11 x_12 x_13 x_14 (4 : Int)))) else ((roadlaw3_StealTells.j3 a_0 x_1 x_2 a_9 x_10 a_11 x_12 x_13 x_14 x_18))
set_option maxRecDepth 100000 in
theorem roadlaw3_StealTells.j2.walk {W : Nat → Prop} {h0 m0 h m : Heap} {A_0 : Option Addr} {n_0 c_0 : Nat} {A_9 : Option Addr} {n_9 c_9 : Nat} {A_11 : Option Addr} {n_11 c_11 : Nat} {a_0 : List (List Int)} {x_1 : Int} {x_2 : Int} {a_9 : List (List Int)} {x_10 : Int} {a_11 : List (List Int)} {x_12 : Int} {x_13 : Int} {x_14 : Int} {x_18 : Int} (O : Hold W h0 m0 h m [rR (aRow (aE (tell_int .i64))) A_9 c_9 a_9, rR (aRow (aE (tell_int .i64))) A_11 c_11 a_11]) (ne_0 : n_0 = List.length a_0) (k_0 : List.length a_0 ≤ c_0) (r_0 : Rd 1 (eRow 1 (eInt .i64)) m A_0 a_0) (ne_9 : n_9 = List.length a_9) (ne_11 : n_11 = List.length a_11) {r : Bool} (e : roadlaw3_StealTells.j2 a_0 x_1 x_2 a_9 x_10 a_11 x_12 x_13 x_14 x_18 = some r) : f5.j2 (roadlaw3_StealTells.post W h0 m0 r) A_0 n_0 c_0 x_1 x_2 A_9 n_9 c_9 x_10 A_11 n_11 c_11 x_12 x_13 x_14 x_18 h := by
  unfold roadlaw3_StealTells.j2 at e
  subst ne_0
  subst ne_9
  subst ne_11
  refine f5.j2_in ?_
  unfold f5.j2T
  refine split_eq_e e (fun c9 e => ?_) (fun c9 e => ?_)
  · obtain ⟨y1, g2, e⟩ := bind_e e
    refine (roadref3_In.walk (Hold.start (W := No) O.s)  g2).mono ?_
    rintro _ h3 ⟨m4, Q5, rfl⟩
    have O7 := Hold.nm (O.retC Q5 vfs_nil)
    refine ⟨_, rfl, ?_⟩
    refine split_not ?_
    refine split_any_e e (fun c8 e => ?_) (fun c8 e => ?_)
    · exact roadlaw3_StealTells.j3.walk (O7.pick [0, 1]).nm rfl k_0 r_0 rfl rfl e
    · exact roadlaw3_StealTells.j3.walk (O7.pick [0, 1]).nm rfl k_0 r_0 rfl rfl e
  · exact roadlaw3_StealTells.j3.walk (O.pick [0, 1]).nm rfl k_0 r_0 rfl rfl e
inductive roadlaw3_StealTells.l0_k.Pt where
  | l0 (a_0 : List (List Int)) (x_1 : Int) (x_2 : Int) (a_9 : List (List Int)) (x_10 : Int) (a_11 : List (List Int)) (x_12 : Int) (x_13 : Int) (x_14 : Int) (a_15 : List (List Int)) (a_16 : List (List Int)) (x_18 : Int) (a_20 : List (List Int)) (a_21 : List (List Int)) (a_88 : List Int) (x_89 : Int) (x_90 : Int)
noncomputable def roadlaw3_StealTells.l0_k.body (go : (p : roadlaw3_StealTells.l0_k.Pt) → Option (Bool)) : (p : roadlaw3_StealTells.l0_k.Pt) → Option (Bool)
  | .l0 a_0 x_1 x_2 a_9 x_10 a_11 x_12 x_13 x_14 a_15 a_16 x_18 a_20 a_21 a_88 x_89 x_90 => if x_90 < x_89 then (Option.bind (gi a_88 x_90) fun y1 => Option.bind (roadref3_In y1 (0 : Int) (IntKind.wrap .i64 ((((List.length a_0) : Nat) : Int) - (1 : Int)))) fun y8 => if y8 = true then (Option.bind (roadref3_Popped a_21 y1) fun y15 => if y15.2.2 = true then (Option.bind (ap 16 a_20 ([([y1, y15.2.1] : List Int)] : List (List Int))) fun l31 => (go (.l0 a_0 x_1 x_2 a_9 x_10 a_11 x_12 x_13 x_14 a_15 a_16 x_18 l31 y15.1 a_88 x_89 (IntKind.wrap .i64 (x_90 + (1 : Int)))))) else ((go (.l0 a_0 x_1 x_2 a_9 x_10 a_11 x_12 x_13 x_14 a_15 a_16 x_18 a_20 a_21 a_88 x_89 (IntKind.wrap .i64 (x_90 + (1 : Int))))))) else ((go (.l0 a_0 x_1 x_2 a_9 x_10 a_11 x_12 x_13 x_14 a_15 a_16 x_18 a_20 a_21 a_88 x_89 (IntKind.wrap .i64 (x_90 + (1 : Int))))))) else (Option.bind (slices_Equal_31 a_15 a_20) fun y48 => if y48 = true then (Option.bind (roadref3_SameLines a_16 a_21) fun y64 => if y64 = true then ((roadlaw3_StealTells.j2 a_0 x_1 x_2 a_9 x_10 a_11 x_12 x_13 x_14 x_18)) else (some (false))) else (some (false)))
theorem roadlaw3_StealTells.l0_k.mono : MonoF (β := fun _ => (Bool)) roadlaw3_StealTells.l0_k.body := fun f g hfg p => match p with
  | .l0 a_0 x_1 x_2 a_9 x_10 a_11 x_12 x_13 x_14 a_15 a_16 x_18 a_20 a_21 a_88 x_89 x_90 => LeO.ite (LeO.bind (LeO.refl _) fun y1 => LeO.bind (LeO.refl _) fun y8 => LeO.ite (LeO.bind (LeO.refl _) fun y15 => LeO.ite (LeO.bind (LeO.refl _) fun l31 => (hfg _)) ((hfg _))) ((hfg _))) (LeO.bind (LeO.refl _) fun y48 => LeO.ite (LeO.bind (LeO.refl _) fun y64 => LeO.ite ((LeO.refl _)) (LeO.refl _)) (LeO.refl _))
noncomputable def roadlaw3_StealTells.l0_k.go (p : roadlaw3_StealTells.l0_k.Pt) : Option (Bool) := fixF (β := fun _ => (Bool)) roadlaw3_StealTells.l0_k.body p
noncomputable def roadlaw3_StealTells.l0 (a_0 : List (List Int)) (x_1 : Int) (x_2 : Int) (a_9 : List (List Int)) (x_10 : Int) (a_11 : List (List Int)) (x_12 : Int) (x_13 : Int) (x_14 : Int) (a_15 : List (List Int)) (a_16 : List (List Int)) (x_18 : Int) (a_20 : List (List Int)) (a_21 : List (List Int)) (a_88 : List Int) (x_89 : Int) (x_90 : Int) : Option (Bool) := roadlaw3_StealTells.l0_k.go (.l0 a_0 x_1 x_2 a_9 x_10 a_11 x_12 x_13 x_14 a_15 a_16 x_18 a_20 a_21 a_88 x_89 x_90)
theorem roadlaw3_StealTells.l0_eq (a_0 : List (List Int)) (x_1 : Int) (x_2 : Int) (a_9 : List (List Int)) (x_10 : Int) (a_11 : List (List Int)) (x_12 : Int) (x_13 : Int) (x_14 : Int) (a_15 : List (List Int)) (a_16 : List (List Int)) (x_18 : Int) (a_20 : List (List Int)) (a_21 : List (List Int)) (a_88 : List Int) (x_89 : Int) (x_90 : Int) : roadlaw3_StealTells.l0 a_0 x_1 x_2 a_9 x_10 a_11 x_12 x_13 x_14 a_15 a_16 x_18 a_20 a_21 a_88 x_89 x_90 = if x_90 < x_89 then (Option.bind (gi a_88 x_90) fun y1 => Option.bind (roadref3_In y1 (0 : Int) (IntKind.wrap .i64 ((((List.length a_0) : Nat) : Int) - (1 : Int)))) fun y8 => if y8 = true then (Option.bind (roadref3_Popped a_21 y1) fun y15 => if y15.2.2 = true then (Option.bind (ap 16 a_20 ([([y1, y15.2.1] : List Int)] : List (List Int))) fun l31 => (roadlaw3_StealTells.l0 a_0 x_1 x_2 a_9 x_10 a_11 x_12 x_13 x_14 a_15 a_16 x_18 l31 y15.1 a_88 x_89 (IntKind.wrap .i64 (x_90 + (1 : Int))))) else ((roadlaw3_StealTells.l0 a_0 x_1 x_2 a_9 x_10 a_11 x_12 x_13 x_14 a_15 a_16 x_18 a_20 a_21 a_88 x_89 (IntKind.wrap .i64 (x_90 + (1 : Int)))))) else ((roadlaw3_StealTells.l0 a_0 x_1 x_2 a_9 x_10 a_11 x_12 x_13 x_14 a_15 a_16 x_18 a_20 a_21 a_88 x_89 (IntKind.wrap .i64 (x_90 + (1 : Int)))))) else (Option.bind (slices_Equal_31 a_15 a_20) fun y48 => if y48 = true then (Option.bind (roadref3_SameLines a_16 a_21) fun y64 => if y64 = true then ((roadlaw3_StealTells.j2 a_0 x_1 x_2 a_9 x_10 a_11 x_12 x_13 x_14 x_18)) else (some (false))) else (some (false))) := fixF_eq roadlaw3_StealTells.l0_k.mono _
def roadlaw3_StealTells.l0_k.I : (p : roadlaw3_StealTells.l0_k.Pt) → (Bool) → Prop
  | .l0 a_0 x_1 x_2 a_9 x_10 a_11 x_12 x_13 x_14 a_15 a_16 x_18 a_20 a_21 a_88 x_89 x_90, r => ∀ (W : Nat → Prop) (h0 m0 h m : Heap) (A_0 : Option Addr) (n_0 c_0 : Nat) (A_9 : Option Addr) (n_9 c_9 : Nat) (A_11 : Option Addr) (n_11 c_11 : Nat) (A_15 : Option Addr) (n_15 c_15 : Nat) (A_16 : Option Addr) (n_16 c_16 : Nat) (A_20 : Option Addr) (n_20 c_20 : Nat) (A_21 : Option Addr) (n_21 c_21 : Nat) (A_88 : Option Addr) (n_88 c_88 : Nat) (O : Hold W h0 m0 h m [rR (aRow (aE (tell_int .i64))) A_9 c_9 a_9, rR (aRow (aE (tell_int .i64))) A_11 c_11 a_11, rR (aE (tell_arr (n := 2) (f := (fun n : Int => Value.int .i64 n)) (d := (0 : Int)) (fun _ => trivial))) A_15 c_15 a_15, rR (aE (tell_arr (n := 2) (f := (fun n : Int => Value.int .i64 n)) (d := (0 : Int)) (fun _ => trivial))) A_20 c_20 a_20]) (ne_0 : n_0 = List.length a_0) (k_0 : List.length a_0 ≤ c_0) (r_0 : Rd 1 (eRow 1 (eInt .i64)) m A_0 a_0) (ne_9 : n_9 = List.length a_9) (ne_11 : n_11 = List.length a_11) (ne_15 : n_15 = List.length a_15) (ne_16 : n_16 = List.length a_16) (k_16 : List.length a_16 ≤ c_16) (r_16 : Rd 1 (eRow 1 (eInt .i64)) m A_16 a_16) (ne_20 : n_20 = List.length a_20) (ne_21 : n_21 = List.length a_21) (k_21 : List.length a_21 ≤ c_21) (r_21 : Rd 1 (eRow 1 (eInt .i64)) m A_21 a_21) (ne_88 : n_88 = List.length a_88) (k_88 : List.length a_88 ≤ c_88) (r_88 : Rd 1 (eInt .i64) m A_88 a_88), f5.l0 (roadlaw3_StealTells.post W h0 m0 r) A_0 n_0 c_0 x_1 x_2 A_9 n_9 c_9 x_10 A_11 n_11 c_11 x_12 x_13 x_14 A_15 n_15 c_15 A_16 n_16 c_16 x_18 A_20 n_20 c_20 A_21 n_21 c_21 A_88 n_88 c_88 x_89 x_90 h
set_option maxHeartbeats 4000000 in
set_option maxRecDepth 100000 in
theorem roadlaw3_StealTells.l0_k.step_l0 (go : (p : roadlaw3_StealTells.l0_k.Pt) → Option (Bool)) (ih : ∀ p r, go p = some r → roadlaw3_StealTells.l0_k.I p r) (a_0 : List (List Int)) (x_1 : Int) (x_2 : Int) (a_9 : List (List Int)) (x_10 : Int) (a_11 : List (List Int)) (x_12 : Int) (x_13 : Int) (x_14 : Int) (a_15 : List (List Int)) (a_16 : List (List Int)) (x_18 : Int) (a_20 : List (List Int)) (a_21 : List (List Int)) (a_88 : List Int) (x_89 : Int) (x_90 : Int) (r : Bool) (e : roadlaw3_StealTells.l0_k.body go (.l0 a_0 x_1 x_2 a_9 x_10 a_11 x_12 x_13 x_14 a_15 a_16 x_18 a_20 a_21 a_88 x_89 x_90) = some r) : roadlaw3_StealTells.l0_k.I (.l0 a_0 x_1 x_2 a_9 x_10 a_11 x_12 x_13 x_14 a_15 a_16 x_18 a_20 a_21 a_88 x_89 x_90) r := by
  unfold roadlaw3_StealTells.l0_k.body at e
  intro W h0 m0 h m A_0 n_0 c_0 A_9 n_9 c_9 A_11 n_11 c_11 A_15 n_15 c_15 A_16 n_16 c_16 A_20 n_20 c_20 A_21 n_21 c_21 A_88 n_88 c_88 O ne_0 k_0 r_0 ne_9 ne_11 ne_15 ne_16 k_16 r_16 ne_20 ne_21 k_21 r_21 ne_88 k_88 r_88
  subst ne_0
  subst ne_9
  subst ne_11
  subst ne_15
  subst ne_16
  subst ne_20
  subst ne_21
  subst ne_88
  refine f5.l0_in ?_
  unfold f5.l0T
  refine split_dec_e e (fun c73 e => ?_) (fun c73 e => ?_)
  · obtain ⟨y1, g2, e⟩ := bind_e e
    refine r_88.addr rfl g2 fun a3 cs4 ha5 hc6 he7 => ?_
    obtain rfl : cs4 = [(Value.int .i64 y1)] := he7
    refine ⟨_, ld0 O.s hc6 rfl, _, rfl, ?_⟩
    obtain ⟨y8, g9, e⟩ := bind_e e
    refine (roadref3_In.walk (Hold.start (W := No) O.s)  g9).mono ?_
    rintro _ h10 ⟨m11, Q12, rfl⟩
    have O14 := Hold.nm (O.retC Q12 vfs_nil)
    refine ⟨_, rfl, ?_⟩
    refine split_not ?_
    refine split_any_e e (fun c47 e => ?_) (fun c47 e => ?_)
    · obtain ⟨y15, g16, e⟩ := bind_e e
      refine (roadref3_Popped.walk (Hold.start (W := No) O14.s) rfl k_21 r_21 g16).mono ?_
      rintro _ h17 ⟨m18, A21, n22, c23, Q19, rfl, ne24⟩
      have O26 := Hold.nm (O14.ret Q19)
      subst ne24
      refine ⟨_, _, _, _, _, rfl, ?_⟩
      refine split_any_e e (fun c46 e => ?_) (fun c46 e => ?_)
      · refine ⟨[(Value.int .i64 y1), (Value.int .i64 y15.2.1)], rfl, rfl, ?_⟩
        refine O26.new fun h27 x28 O29 => ?_
        obtain ⟨l31, g32, e⟩ := bind_e e
        have O39 := O29.rowE (l := ([([y1, y15.2.1] : List Int)] : List (List Int))) 5 rfl (tell_arr (n := 2) (f := (fun n : Int => Value.int .i64 n)) (d := (0 : Int)) (fun _ => trivial)) (show CsE _ _ _ _ _ from (CsE.cons (c1 := [(Value.int .i64 y1), (Value.int .i64 y15.2.1)]) ⟨rfl, rfl⟩ rfl CsE.nil)) rfl
        refine O39.app 3 rfl rfl rfl ((O39.os 5 rfl).srcE rfl) (by decide) g32 fun A33 c34 h35 O36 => ?_
        refine ⟨_, _, _, rfl, ?_⟩
        obtain ⟨m40, u41, ⟨r42, k43⟩, O44⟩ := O36.frz 4 rfl
        replace r42 : Rd 1 (eRow 1 (eInt .i64)) m40 A21 y15.1 := r42
        have O45 := O44.nm
        exact (ih _ _ e) _ _ _ _ _ _ _ _ _ _ _ _ _ _ _ _ _ _ _ _ _ _ _ _ _ _ _ _ _ (O45.pick [0, 1, 2, 3]).nm rfl k_0 (r_0.sub (tell_row (tell_int .i64)) (Q19.S.up.trans u41)) rfl rfl rfl rfl k_16 (r_16.sub (tell_row (tell_int .i64)) (Q19.S.up.trans u41)) rfl rfl k43 r42 rfl k_88 (r_88.sub (tell_int .i64) (Q19.S.up.trans u41))
      · exact (ih _ _ e) _ _ _ _ _ _ _ _ _ _ _ _ _ _ _ _ _ _ _ _ _ _ _ _ _ _ _ _ _ (O26.pick [0, 1, 2, 3]).nm rfl k_0 (r_0.sub (tell_row (tell_int .i64)) Q19.S.up) rfl rfl rfl rfl k_16 (r_16.sub (tell_row (tell_int .i64)) Q19.S.up) rfl rfl k_21 (r_21.sub (tell_row (tell_int .i64)) Q19.S.up) rfl k_88 (r_88.sub (tell_int .i64) Q19.S.up)
    · exact (ih _ _ e) _ _ _ _ _ _ _ _ _ _ _ _ _ _ _ _ _ _ _ _ _ _ _ _ _ _ _ _ _ (O14.pick [0, 1, 2, 3]).nm rfl k_0 r_0 rfl rfl rfl rfl k_16 r_16 rfl rfl k_21 r_21 rfl k_88 r_88
  · obtain ⟨y48, g49, e⟩ := bind_e e
    obtain ⟨m54, u55, s62, ⟨⟨r58, k59⟩, ⟨r60, k61⟩, _⟩, B56, C57⟩ := O.lend0 [2, 3]
    replace r58 : Rd 2 (eArr 2 (fun n : Int => Value.int .i64 n) (0 : Int)) m54 A_15 a_15 := r58
    replace k59 : List.length a_15 ≤ c_15 := k59
    replace r60 : Rd 2 (eArr 2 (fun n : Int => Value.int .i64 n) (0 : Int)) m54 A_20 a_20 := r60
    replace k61 : List.length a_20 ≤ c_20 := k61
    refine (slices_Equal_31.walk (Hold.start (W := No) s62) rfl k59 r58 rfl k61 r60 g49).mono ?_
    rintro _ h50 ⟨m51, Q52, rfl⟩
    have O63 := Hold.nm (C57 Q52 vfs_nil)
    refine ⟨_, rfl, ?_⟩
    refine split_not ?_
    refine split_any_e e (fun c72 e => ?_) (fun c72 e => ?_)
    · obtain ⟨y64, g65, e⟩ := bind_e e
      refine (roadref3_SameLines.walk (Hold.start (W := No) O63.s) rfl k_16 r_16 rfl k_21 r_21 g65).mono ?_
      rintro _ h66 ⟨m67, Q68, rfl⟩
      have O70 := Hold.nm (O63.retC Q68 vfs_nil)
      refine ⟨_, rfl, ?_⟩
      refine split_not ?_
      refine split_any_e e (fun c71 e => ?_) (fun c71 e => ?_)
      · exact roadlaw3_StealTells.j2.walk (O70.pick [0, 1]).nm rfl k_0 r_0 rfl rfl e
      · cases e
        exact ⟨_, O70.pick [], rfl⟩
    · cases e
      exact ⟨_, O63.pick [], rfl⟩
theorem roadlaw3_StealTells.l0_k.all {p : roadlaw3_StealTells.l0_k.Pt} {r : (Bool)} (e : roadlaw3_StealTells.l0_k.go p = some r) : roadlaw3_StealTells.l0_k.I p r := fixF_ind (β := fun _ => (Bool)) roadlaw3_StealTells.l0_k.mono (I := roadlaw3_StealTells.l0_k.I) (fun go ih p r e => match p with
  | .l0 a_0 x_1 x_2 a_9 x_10 a_11 x_12 x_13 x_14 a_15 a_16 x_18 a_20 a_21 a_88 x_89 x_90 => roadlaw3_StealTells.l0_k.step_l0 go ih a_0 x_1 x_2 a_9 x_10 a_11 x_12 x_13 x_14 a_15 a_16 x_18 a_20 a_21 a_88 x_89 x_90 r e
  ) e
theorem roadlaw3_StealTells.l0.walk {W : Nat → Prop} {h0 m0 h m : Heap} {A_0 : Option Addr} {n_0 c_0 : Nat} {A_9 : Option Addr} {n_9 c_9 : Nat} {A_11 : Option Addr} {n_11 c_11 : Nat} {A_15 : Option Addr} {n_15 c_15 : Nat} {A_16 : Option Addr} {n_16 c_16 : Nat} {A_20 : Option Addr} {n_20 c_20 : Nat} {A_21 : Option Addr} {n_21 c_21 : Nat} {A_88 : Option Addr} {n_88 c_88 : Nat} {a_0 : List (List Int)} {x_1 : Int} {x_2 : Int} {a_9 : List (List Int)} {x_10 : Int} {a_11 : List (List Int)} {x_12 : Int} {x_13 : Int} {x_14 : Int} {a_15 : List (List Int)} {a_16 : List (List Int)} {x_18 : Int} {a_20 : List (List Int)} {a_21 : List (List Int)} {a_88 : List Int} {x_89 : Int} {x_90 : Int} (O : Hold W h0 m0 h m [rR (aRow (aE (tell_int .i64))) A_9 c_9 a_9, rR (aRow (aE (tell_int .i64))) A_11 c_11 a_11, rR (aE (tell_arr (n := 2) (f := (fun n : Int => Value.int .i64 n)) (d := (0 : Int)) (fun _ => trivial))) A_15 c_15 a_15, rR (aE (tell_arr (n := 2) (f := (fun n : Int => Value.int .i64 n)) (d := (0 : Int)) (fun _ => trivial))) A_20 c_20 a_20]) (ne_0 : n_0 = List.length a_0) (k_0 : List.length a_0 ≤ c_0) (r_0 : Rd 1 (eRow 1 (eInt .i64)) m A_0 a_0) (ne_9 : n_9 = List.length a_9) (ne_11 : n_11 = List.length a_11) (ne_15 : n_15 = List.length a_15) (ne_16 : n_16 = List.length a_16) (k_16 : List.length a_16 ≤ c_16) (r_16 : Rd 1 (eRow 1 (eInt .i64)) m A_16 a_16) (ne_20 : n_20 = List.length a_20) (ne_21 : n_21 = List.length a_21) (k_21 : List.length a_21 ≤ c_21) (r_21 : Rd 1 (eRow 1 (eInt .i64)) m A_21 a_21) (ne_88 : n_88 = List.length a_88) (k_88 : List.length a_88 ≤ c_88) (r_88 : Rd 1 (eInt .i64) m A_88 a_88) {r : Bool} (e : roadlaw3_StealTells.l0 a_0 x_1 x_2 a_9 x_10 a_11 x_12 x_13 x_14 a_15 a_16 x_18 a_20 a_21 a_88 x_89 x_90 = some r) : f5.l0 (roadlaw3_StealTells.post W h0 m0 r) A_0 n_0 c_0 x_1 x_2 A_9 n_9 c_9 x_10 A_11 n_11 c_11 x_12 x_13 x_14 A_15 n_15 c_15 A_16 n_16 c_16 x_18 A_20 n_20 c_20 A_21 n_21 c_21 A_88 n_88 c_88 x_89 x_90 h := roadlaw3_StealTells.l0_k.all (p := .l0 a_0 x_1 x_2 a_9 x_10 a_11 x_12 x_13 x_14 a_15 a_16 x_18 a_20 a_21 a_88 x_89 x_90) e W h0 m0 h m A_0 n_0 c_0 A_9 n_9 c_9 A_11 n_11 c_11 A_15 n_15 c_15 A_16 n_16 c_16 A_20 n_20 c_20 A_21 n_21 c_21 A_88 n_88 c_88 O ne_0 k_0 r_0 ne_9 ne_11 ne_15 ne_16 k_16 r_16 ne_20 ne_21 k_21 r_21 ne_88 k_88 r_88
noncomputable def roadlaw3_StealTells.j1 (a_0 : List (List Int)) (x_1 : Int) (x_2 : Int) (a_3 : List Int) (a_9 : List (List Int)) (x_10 : Int) (a_11 : List (List Int)) (x_12 : Int) (x_13 : Int) (x_14 : Int) (a_15 : List (List Int)) (a_16 : List (List Int)) (x_18 : Int) (x_19 : Int) : Option (Bool) :=
  if x_19 = (0 : Int) then ((roadlaw3_StealTells.l0 a_0 x_1 x_2 a_9 x_10 a_11 x_12 x_13 x_14 a_15 a_16 x_18 ([] : List (List Int)) a_0 a_3 (((List.length a_3) : Nat) : Int) (0 : Int))) else ((roadlaw3_StealTells.j2 a_0 x_1 x_2 a_9 x_10 a_11 x_12 x_13 x_14 x_18))
set_option maxRecDepth 100000 in
theorem roadlaw3_StealTells.j1.walk {W : Nat → Prop} {h0 m0 h m : Heap} {A_0 : Option Addr} {n_0 c_0 : Nat} {A_3 : Option Addr} {n_3 c_3 : Nat} {A_9 : Option Addr} {n_9 c_9 : Nat} {A_11 : Option Addr} {n_11 c_11 : Nat} {A_15 : Option Addr} {n_15 c_15 : Nat} {A_16 : Option Addr} {n_16 c_16 : Nat} {a_0 : List (List Int)} {x_1 : Int} {x_2 : Int} {a_3 : List Int} {a_9 : List (List Int)} {x_10 : Int} {a_11 : List (List Int)} {x_12 : Int} {x_13 : Int} {x_14 : Int} {a_15 : List (List Int)} {a_16 : List (List Int)} {x_18 : Int} {x_19 : Int} (O : Hold W h0 m0 h m [rR (aRow (aE (tell_int .i64))) A_9 c_9 a_9, rR (aRow (aE (tell_int .i64))) A_11 c_11 a_11, rR (aE (tell_arr (n := 2) (f := (fun n : Int => Value.int .i64 n)) (d := (0 : Int)) (fun _ => trivial))) A_15 c_15 a_15]) (ne_0 : n_0 = List.length a_0) (k_0 : List.length a_0 ≤ c_0) (r_0 : Rd 1 (eRow 1 (eInt .i64)) m A_0 a_0) (ne_3 : n_3 = List.length a_3) (k_3 : List.length a_3 ≤ c_3) (r_3 : Rd 1 (eInt .i64) m A_3 a_3) (ne_9 : n_9 = List.length a_9) (ne_11 : n_11 = List.length a_11) (ne_15 : n_15 = List.length a_15) (ne_16 : n_16 = List.length a_16) (k_16 : List.length a_16 ≤ c_16) (r_16 : Rd 1 (eRow 1 (eInt .i64)) m A_16 a_16) {r : Bool} (e : roadlaw3_StealTells.j1 a_0 x_1 x_2 a_3 a_9 x_10 a_11 x_12 x_13 x_14 a_15 a_16 x_18 x_19 = some r) : f5.j1 (roadlaw3_StealTells.post W h0 m0 r) A_0 n_0 c_0 x_1 x_2 A_3 n_3 c_3 A_9 n_9 c_9 x_10 A_11 n_11 c_11 x_12 x_13 x_14 A_15 n_15 c_15 A_16 n_16 c_16 x_18 x_19 h := by
  unfold roadlaw3_StealTells.j1 at e
  subst ne_0
  subst ne_3
  subst ne_9
  subst ne_11
  subst ne_15
  subst ne_16
  refine f5.j1_in ?_
  unfold f5.j1T
  refine split_eq_e e (fun c4 e => ?_) (fun c4 e => ?_)
  · have O1 := O.nil (aE (tell_arr (n := 2) (f := (fun n : Int => Value.int .i64 n)) (d := (0 : Int)) (fun _ => trivial))) none
    have O3 := O1.nm
    exact roadlaw3_StealTells.l0.walk (O3.pick [0, 1, 2, 3]).nm rfl k_0 r_0 rfl rfl rfl rfl k_16 r_16 rfl rfl k_0 r_0 rfl k_3 r_3 e
  · exact roadlaw3_StealTells.j2.walk (O.pick [0, 1]).nm rfl k_0 r_0 rfl rfl e
noncomputable def roadlaw3_StealTells.j0 (a_0 : List (List Int)) (x_1 : Int) (x_2 : Int) (a_3 : List Int) (a_9 : List (List Int)) (x_10 : Int) (a_11 : List (List Int)) (x_12 : Int) (x_13 : Int) (x_14 : Int) (a_15 : List (List Int)) (a_16 : List (List Int)) (x_17 : Int) (x_18 : Int) (x_19 : Int) : Option (Bool) :=
  if x_17 = x_19 then (if x_19 = (0 : Int) then ((roadlaw3_StealTells.j1 a_0 x_1 x_2 a_3 a_9 x_10 a_11 x_12 x_13 x_14 a_15 a_16 x_18 x_19)) else (if (IntKind.wrap .i64 ((((List.length a_15) : Nat) : Int) + (((List.length a_16) : Nat) : Int))) > (0 : Int) then (some (false)) else ((roadlaw3_StealTells.j1 a_0 x_1 x_2 a_3 a_9 x_10 a_11 x_12 x_13 x_14 a_15 a_16 x_18 x_19)))) else (some (false))
set_option maxRecDepth 100000 in
theorem roadlaw3_StealTells.j0.walk {W : Nat → Prop} {h0 m0 h m : Heap} {A_0 : Option Addr} {n_0 c_0 : Nat} {A_3 : Option Addr} {n_3 c_3 : Nat} {A_9 : Option Addr} {n_9 c_9 : Nat} {A_11 : Option Addr} {n_11 c_11 : Nat} {A_15 : Option Addr} {n_15 c_15 : Nat} {A_16 : Option Addr} {n_16 c_16 : Nat} {a_0 : List (List Int)} {x_1 : Int} {x_2 : Int} {a_3 : List Int} {a_9 : List (List Int)} {x_10 : Int} {a_11 : List (List Int)} {x_12 : Int} {x_13 : Int} {x_14 : Int} {a_15 : List (List Int)} {a_16 : List (List Int)} {x_17 : Int} {x_18 : Int} {x_19 : Int} (O : Hold W h0 m0 h m [rR (aRow (aE (tell_int .i64))) A_9 c_9 a_9, rR (aRow (aE (tell_int .i64))) A_11 c_11 a_11, rR (aE (tell_arr (n := 2) (f := (fun n : Int => Value.int .i64 n)) (d := (0 : Int)) (fun _ => trivial))) A_15 c_15 a_15]) (ne_0 : n_0 = List.length a_0) (k_0 : List.length a_0 ≤ c_0) (r_0 : Rd 1 (eRow 1 (eInt .i64)) m A_0 a_0) (ne_3 : n_3 = List.length a_3) (k_3 : List.length a_3 ≤ c_3) (r_3 : Rd 1 (eInt .i64) m A_3 a_3) (ne_9 : n_9 = List.length a_9) (ne_11 : n_11 = List.length a_11) (ne_15 : n_15 = List.length a_15) (ne_16 : n_16 = List.length a_16) (k_16 : List.length a_16 ≤ c_16) (r_16 : Rd 1 (eRow 1 (eInt .i64)) m A_16 a_16) {r : Bool} (e : roadlaw3_StealTells.j0 a_0 x_1 x_2 a_3 a_9 x_10 a_11 x_12 x_13 x_14 a_15 a_16 x_17 x_18 x_19 = some r) : f5.j0 (roadlaw3_StealTells.post W h0 m0 r) A_0 n_0 c_0 x_1 x_2 A_3 n_3 c_3 A_9 n_9 c_9 x_10 A_11 n_11 c_11 x_12 x_13 x_14 A_15 n_15 c_15 A_16 n_16 c_16 x_17 x_18 x_19 h := by
  unfold roadlaw3_StealTells.j0 at e
  subst ne_0
  subst ne_3
  subst ne_9
  subst ne_11
  subst ne_15
  subst ne_16
  refine f5.j0_in ?_
  unfold f5.j0T
  refine split_ne_e e (fun c3 e => ?_) (fun c3 e => ?_)
  · cases e
    exact ⟨_, O.pick [], rfl⟩
  · refine split_ne_e e (fun c2 e => ?_) (fun c2 e => ?_)
    · refine split_dec_e e (fun c1 e => ?_) (fun c1 e => ?_)
      · cases e
        exact ⟨_, O.pick [], rfl⟩
      · exact roadlaw3_StealTells.j1.walk (O.pick [0, 1, 2]).nm rfl k_0 r_0 rfl k_3 r_3 rfl rfl rfl rfl k_16 r_16 e
    · exact roadlaw3_StealTells.j1.walk (O.pick [0, 1, 2]).nm rfl k_0 r_0 rfl k_3 r_3 rfl rfl rfl rfl k_16 r_16 e
noncomputable def roadlaw3_StealTells (a_0 : List (List Int)) (x_1 : Int) (x_2 : Int) (a_3 : List Int) : Option (Bool) :=
  Option.bind (steal_Push a_0 x_1 x_2) fun y1 => Option.bind (steal_Pop a_0 x_1) fun y13 => Option.bind (steal_Victim a_0 x_1) fun y25 => Option.bind (steal_Run a_0 a_3) fun y32 => Option.bind (roadref3_LinesFault a_0) fun y50 => Option.bind (steal_Check a_0) fun y57 => if y57 = y50 then (if y50 = (0 : Int) then (if (((List.length a_3) : Nat) : Int) > (100 : Int) then ((roadlaw3_StealTells.j0 a_0 x_1 x_2 a_3 y1.1 y1.2 y13.1 y13.2.1 y13.2.2 y25 y32.1 y32.2.1 y32.2.2 y50 (2 : Int))) else ((roadlaw3_StealTells.j0 a_0 x_1 x_2 a_3 y1.1 y1.2 y13.1 y13.2.1 y13.2.2 y25 y32.1 y32.2.1 y32.2.2 y50 y50))) else ((roadlaw3_StealTells.j0 a_0 x_1 x_2 a_3 y1.1 y1.2 y13.1 y13.2.1 y13.2.2 y25 y32.1 y32.2.1 y32.2.2 y50 y50))) else (some (false))
set_option maxHeartbeats 4000000 in
set_option maxRecDepth 100000 in
theorem roadlaw3_StealTells.walk {W : Nat → Prop} {h m : Heap} {A_0 : Option Addr} {n_0 c_0 : Nat} {A_3 : Option Addr} {n_3 c_3 : Nat} {a_0 : List (List Int)} {x_1 : Int} {x_2 : Int} {a_3 : List Int} (O : Hold W h m h m []) (ne_0 : n_0 = List.length a_0) (k_0 : List.length a_0 ≤ c_0) (r_0 : Rd 1 (eRow 1 (eInt .i64)) m A_0 a_0) (ne_3 : n_3 = List.length a_3) (k_3 : List.length a_3 ≤ c_3) (r_3 : Rd 1 (eInt .i64) m A_3 a_3) {r : Bool} (e : roadlaw3_StealTells a_0 x_1 x_2 a_3 = some r) : Run Try.prog 5 #[Value.slice A_0 n_0 c_0, Value.int .i64 x_1, Value.int .i64 x_2, Value.slice A_3 n_3 c_3] h (roadlaw3_StealTells.post W h m r) := by
  unfold roadlaw3_StealTells at e
  subst ne_0
  subst ne_3
  refine f5.run ?_
  unfold f5.runT
  obtain ⟨y1, g2, e⟩ := bind_e e
  refine (steal_Push.walk (Hold.start (W := No) O.s) rfl k_0 r_0 g2).mono ?_
  rintro _ h3 ⟨m4, A7, n8, c9, Q5, rfl, ne10⟩
  have O12 := Hold.nm (O.ret Q5)
  subst ne10
  refine ⟨_, _, _, _, rfl, ?_⟩
  obtain ⟨y13, g14, e⟩ := bind_e e
  refine (steal_Pop.walk (Hold.start (W := No) O12.s) rfl k_0 (r_0.sub (tell_row (tell_int .i64)) Q5.S.up) g14).mono ?_
  rintro _ h15 ⟨m16, A19, n20, c21, Q17, rfl, ne22⟩
  have O24 := Hold.nm (O12.ret Q17)
  subst ne22
  refine ⟨_, _, _, _, _, rfl, ?_⟩
  obtain ⟨y25, g26, e⟩ := bind_e e
  refine (steal_Victim.walk (Hold.start (W := No) O24.s) rfl k_0 (r_0.sub (tell_row (tell_int .i64)) (Q5.S.up.trans Q17.S.up)) g26).mono ?_
  rintro _ h27 ⟨m28, Q29, rfl⟩
  have O31 := Hold.nm (O24.retC Q29 vfs_nil)
  refine ⟨_, rfl, ?_⟩
  obtain ⟨y32, g33, e⟩ := bind_e e
  refine (steal_Run.walk (Hold.start (W := No) O31.s) rfl k_0 (r_0.sub (tell_row (tell_int .i64)) (Q5.S.up.trans Q17.S.up)) rfl k_3 (r_3.sub (tell_int .i64) (Q5.S.up.trans Q17.S.up)) g33).mono ?_
  rintro _ h34 ⟨m35, A38, n39, c40, A43, n44, c45, Q36, rfl, ne41, ne46, k47, r48⟩
  have O49 := Hold.nm (O31.ret Q36)
  subst ne41
  subst ne46
  refine ⟨_, _, _, _, _, _, _, rfl, ?_⟩
  obtain ⟨y50, g51, e⟩ := bind_e e
  refine (roadref3_LinesFault.walk (Hold.start (W := No) O49.s) rfl k_0 (r_0.sub (tell_row (tell_int .i64)) (Q5.S.up.trans (Q17.S.up.trans Q36.S.up))) g51).mono ?_
  rintro _ h52 ⟨m53, Q54, rfl⟩
  have O56 := Hold.nm (O49.retC Q54 vfs_nil)
  refine ⟨_, rfl, ?_⟩
  obtain ⟨y57, g58, e⟩ := bind_e e
  refine (steal_Check.walk (Hold.start (W := No) O56.s) rfl k_0 (r_0.sub (tell_row (tell_int .i64)) (Q5.S.up.trans (Q17.S.up.trans Q36.S.up))) g58).mono ?_
  rintro _ h59 ⟨m60, Q61, rfl⟩
  have O63 := Hold.nm (O56.retC Q61 vfs_nil)
  refine ⟨_, rfl, ?_⟩
  refine split_ne_e e (fun c66 e => ?_) (fun c66 e => ?_)
  · cases e
    exact ⟨_, O63.pick [], rfl⟩
  · refine split_eq_e e (fun c65 e => ?_) (fun c65 e => ?_)
    · refine split_dec_e e (fun c64 e => ?_) (fun c64 e => ?_)
      · exact roadlaw3_StealTells.j0.walk (O63.pick [0, 1, 2]).nm rfl k_0 (r_0.sub (tell_row (tell_int .i64)) (Q5.S.up.trans (Q17.S.up.trans Q36.S.up))) rfl k_3 (r_3.sub (tell_int .i64) (Q5.S.up.trans (Q17.S.up.trans Q36.S.up))) rfl rfl rfl rfl k47 r48 e
      · exact roadlaw3_StealTells.j0.walk (O63.pick [0, 1, 2]).nm rfl k_0 (r_0.sub (tell_row (tell_int .i64)) (Q5.S.up.trans (Q17.S.up.trans Q36.S.up))) rfl k_3 (r_3.sub (tell_int .i64) (Q5.S.up.trans (Q17.S.up.trans Q36.S.up))) rfl rfl rfl rfl k47 r48 e
    · exact roadlaw3_StealTells.j0.walk (O63.pick [0, 1, 2]).nm rfl k_0 (r_0.sub (tell_row (tell_int .i64)) (Q5.S.up.trans (Q17.S.up.trans Q36.S.up))) rfl k_3 (r_3.sub (tell_int .i64) (Q5.S.up.trans (Q17.S.up.trans Q36.S.up))) rfl rfl rfl rfl k47 r48 e
end Go.Proofs.Ytdlihfedhojdgaa.Fw

end
section
namespace Go.Proofs.Ytdlihfedhojdgaa.Fw
open Go Go.Hw Go.Proofs
set_option linter.unusedVariables false
set_option linter.unusedSectionVars false
section
open List
def dup (seen : List Int) : List Int → Bool
  | [] => false
  | t :: x => decide (t ∈ seen) || dup (seen ++ [t]) x
def err (big there : Int) (seen : List Int) : List (List Int) → Int
  | [] => 0
  | x :: l => if 100 < seen.length + x.length then big else if dup seen x = true then there else err big there (seen ++ x) l
def Ok (l : List (List Int)) : Prop := 1 ≤ l.length ∧ l.length ≤ 8 ∧ l.flatten.length ≤ 100 ∧ ∀ a, count a l.flatten ≤ 1
theorem dup_iff : ∀ (x seen : List Int), (∀ a, count a seen ≤ 1) → (dup seen x = false ↔ ∀ a, count a (seen ++ x) ≤ 1)
  | [], seen, h => by simp only [dup, List.append_nil, true_iff]; exact h
  | t :: x, seen, h => by
    rw [dup, Bool.or_eq_false_iff, decide_eq_false_iff_not]
    by_cases ht : t ∈ seen
    · constructor
      · exact fun h => absurd ht h.1
      · intro h2
        have := h2 t
        rw [count_append, count_cons_self] at this
        have := count_pos_iff.2 ht
        omega
    · have h3 : ∀ a, count a (seen ++ [t]) ≤ 1 := by
        intro a
        rw [count_append]
        by_cases e : t = a
        · subst e; rw [count_eq_zero_of_not_mem ht, count_singleton_self]; decide
        · have := h a; rw [count_singleton, if_neg (by simpa using e)]; omega
      rw [dup_iff x _ h3, List.append_assoc]
      simp only [ht, not_false_eq_true, true_and, List.singleton_append]
theorem err_iff {big there : Int} (hb : big ≠ 0) (ht : there ≠ 0) : ∀ (l : List (List Int)) (seen : List Int), (∀ a, count a seen ≤ 1) → seen.length ≤ 100 → (err big there seen l = 0 ↔ seen.length + l.flatten.length ≤ 100 ∧ ∀ a, count a (seen ++ l.flatten) ≤ 1)
  | [], seen, h, h2 => by simp only [err, flatten_nil, List.append_nil, length_nil, Nat.add_zero, true_iff]; exact ⟨h2, h⟩
  | x :: l, seen, h, h2 => by
    rw [err, flatten_cons, length_append]
    by_cases c : 100 < seen.length + x.length
    · rw [if_pos c]; exact ⟨fun h => absurd h hb, fun h => by omega⟩
    · rw [if_neg c]
      by_cases d : dup seen x = true
      · rw [if_pos d]
        refine ⟨fun h => absurd h ht, fun ⟨_, h3⟩ => ?_⟩
        have : dup seen x = false := (dup_iff x seen h).2 fun a => by have := h3 a; rw [← List.append_assoc, count_append] at this; omega
        rw [d] at this; cases this
      · have d' : dup seen x = false := by simpa using d
        rw [if_neg d, err_iff hb ht l _ ((dup_iff x seen h).1 d') (by rw [length_append]; omega), length_append, List.append_assoc, Nat.add_assoc]
theorem cnt_set (a : Int) (x : List Int) : ∀ (l : List (List Int)) (i : Nat), i < l.length → count a (l.set i x).flatten + count a (l.getD i []) = count a l.flatten + count a x
  | [], i, h => absurd h (Nat.not_lt_zero _)
  | y :: l, 0, _ => by simp only [set_cons_zero, flatten_cons, count_append, getD_cons_zero]; omega
  | y :: l, i + 1, h => by
    have := cnt_set a x l i (Nat.lt_of_succ_lt_succ h)
    simp only [set_cons_succ, flatten_cons, count_append, getD_cons_succ]; omega
theorem len_set (x : List Int) : ∀ (l : List (List Int)) (i : Nat), i < l.length → (l.set i x).flatten.length + (l.getD i []).length = l.flatten.length + x.length
  | [], i, h => absurd h (Nat.not_lt_zero _)
  | y :: l, 0, _ => by simp only [set_cons_zero, flatten_cons, length_append, getD_cons_zero]; omega
  | y :: l, i + 1, h => by
    have := len_set x l i (Nat.lt_of_succ_lt_succ h)
    simp only [set_cons_succ, flatten_cons, length_append, getD_cons_succ]; omega
theorem getD_set_ne (l : List (List Int)) {i j : Nat} (x : List Int) (h : i ≠ j) : (l.set i x).getD j [] = l.getD j [] := by
  rw [getD_eq_getElem?_getD, getD_eq_getElem?_getD, getElem?_set_ne h]
theorem getD_set_self (l : List (List Int)) {i : Nat} (x : List Int) (h : i < l.length) : (l.set i x).getD i [] = x := by
  rw [getD_eq_getElem?_getD, getElem?_set_self h]; rfl
theorem ok_short {l : List (List Int)} {i k : Nat} (o : Ok l) (hi : i < l.length) : Ok (l.set i ((l.getD i []).take k)) := by
  refine ⟨by rw [length_set]; exact o.1, by rw [length_set]; exact o.2.1, ?_, fun a => ?_⟩
  · have := len_set ((l.getD i []).take k) l i hi; have := length_take_le' k (l.getD i []); have := o.2.2.1; omega
  · have := cnt_set a ((l.getD i []).take k) l i hi; have := (take_sublist k (l.getD i [])).count_le a; have := o.2.2.2 a; omega
theorem ok_half {l : List (List Int)} {i j k : Nat} (o : Ok l) (hi : i < l.length) (hj : j < l.length) (hne : i ≠ j) (he : l.getD i [] = []) : Ok ((l.set i ((l.getD j []).take k)).set j ((l.getD j []).drop k)) := by
  have hj2 : j < (l.set i ((l.getD j []).take k)).length := by rw [length_set]; exact hj
  refine ⟨by simp only [length_set]; exact o.1, by simp only [length_set]; exact o.2.1, ?_, fun a => ?_⟩
  · have h1 := len_set ((l.getD j []).take k) l i hi
    have h2 := len_set ((l.getD j []).drop k) _ j hj2
    rw [getD_set_ne _ _ hne] at h2
    rw [he] at h1
    have h3 : ((l.getD j []).take k).length + ((l.getD j []).drop k).length = (l.getD j []).length := by rw [← length_append, take_append_drop]
    have := o.2.2.1
    simp only [length_nil] at h1; omega
  · have h1 := cnt_set a ((l.getD j []).take k) l i hi
    have h2 := cnt_set a ((l.getD j []).drop k) _ j hj2
    rw [getD_set_ne _ _ hne] at h2
    rw [he] at h1
    have h3 : count a ((l.getD j []).take k) + count a ((l.getD j []).drop k) = count a (l.getD j []) := by rw [← count_append, take_append_drop]
    have := o.2.2.2 a
    simp only [count_nil] at h1; omega
def ix (n c k : Nat) : Nat := (c + k) % n
theorem ix_lt {n c k : Nat} (h : c < n) : ix n c k < n := Nat.mod_lt _ (by omega)
theorem ix_eq {n c k : Nat} (h : c < n) (hk : k ≤ n) : ix n c k = if c + k < n then c + k else c + k - n := by
  unfold ix
  split
  · rename_i h1; exact Nat.mod_eq_of_lt h1
  · rename_i h1; rw [Nat.mod_eq_sub_mod (by omega), Nat.mod_eq_of_lt (by omega)]
theorem ix_ne {n c k : Nat} (h : c < n) (h1 : 1 ≤ k) (h2 : k < n) : ix n c k ≠ c := by
  rw [ix_eq h (by omega)]; split <;> omega
theorem ix_n {n c : Nat} (h : c < n) : ix n c n = c := by
  rw [ix_eq h (by omega)]; split <;> omega
theorem ix_on {n c i : Nat} (h : c < n) (hi : i < n) (hne : i ≠ c) : ∃ k, 1 ≤ k ∧ k < n ∧ ix n c k = i := by
  by_cases g : c < i
  · exact ⟨i - c, by omega, by omega, by rw [ix_eq h (by omega)]; split <;> omega⟩
  · exact ⟨i + n - c, by omega, by omega, by rw [ix_eq h (by omega)]; split <;> omega⟩
end
abbrev Ls := List (List Int)
theorem nlt (n : Int) : ¬ n < n := by omega
theorem gi_at {α : Type} {l : List α} {k : Nat} (h : k < l.length) : gi l (k : Int) = some l[k] := gi_some rfl (List.getElem?_eq_getElem h)
theorem gi_d {l : Ls} {k : Nat} (h : k < l.length) : gi l (k : Int) = some (l.getD k []) := by
  rw [gi_at h, List.getD_eq_getElem?_getD, List.getElem?_eq_getElem h]; rfl
theorem gi_d0 {l : List Int} {k : Nat} (h : k < l.length) : gi l (k : Int) = some (l.getD k 0) := by
  rw [gi_at h, List.getD_eq_getElem?_getD, List.getElem?_eq_getElem h]; rfl
theorem pgdb_set {es : List (Int × Bool)} {k q : Int} {x : Bool} : pgd (pset es k x) q false = if q = k then x else pgd es q false := by
  unfold pgd; rw [pget_pset]; split <;> rfl
theorem check_l1 {l : Ls} {x4 n i : Int} {row : List Int} (hr : row.length ≤ 1000) {K : Int} : ∀ (r pre seen : List Int) (es : List (Int × Bool)), row = pre ++ r → (∀ t, pgd es t false = decide (t ∈ seen)) → (∀ es', (∀ t, pgd es' t false = decide (t ∈ seen ++ r)) → steal_Check.l0 es' x4 l n (IntKind.wrap .i64 (i + 1)) = some K) →
    steal_Check.l1 es x4 l n i row (row.length : Int) (pre.length : Int) = some (if dup seen r = true then 5 else K) := by
  intro r
  induction r with
  | nil =>
    intro pre seen es he hes hK
    rw [steal_Check.l1_eq, if_neg (by rw [he, List.append_nil]; exact nlt _)]
    exact hK es (by simpa using hes)
  | cons t r ih =>
    intro pre seen es he hes hK
    have hl : row.length = pre.length + (r.length + 1) := by rw [he]; simp
    rw [steal_Check.l1_eq, if_pos (by omega), gi_some (k := pre.length) rfl (by rw [he]; simp : row[pre.length]? = some t), Option.bind_some, hes t]
    by_cases ht : t ∈ seen
    · rw [decide_eq_true ht, if_pos rfl, dup, decide_eq_true ht, Bool.true_or, if_pos rfl]
    · rw [decide_eq_false ht, if_neg (by decide), Option.bind_some, w_succ (by omega), dup, decide_eq_false ht, Bool.false_or]
      have := ih (pre ++ [t]) (seen ++ [t]) (pset es t true) (by rw [he]; simp) (fun u => by
        rw [pgdb_set, hes u]
        by_cases e : u = t
        · rw [if_pos e, e]; simp
        · rw [if_neg e]; simp [e]) (fun es' h => hK es' (by simpa using h))
      rw [List.length_append, List.length_singleton] at this
      exact this
theorem check_l0 {l : Ls} (hn : l.length ≤ 8) : ∀ (r pre : Ls) (seen : List Int) (es : List (Int × Bool)), l = pre ++ r → (∀ t, pgd es t false = decide (t ∈ seen)) → seen.length ≤ 100 → (∀ x ∈ r, x.length * 8 ≤ 140737488351232) →
    steal_Check.l0 es (seen.length : Int) l (l.length : Int) (pre.length : Int) = some (err 2 5 seen r) := by
  intro r
  induction r with
  | nil =>
    intro pre seen es he hes h1 h2
    rw [steal_Check.l0_eq, if_neg (by rw [he, List.append_nil]; exact nlt _)]; rfl
  | cons x r ih =>
    intro pre seen es he hes h1 h2
    have hl : l.length = pre.length + (r.length + 1) := by rw [he]; simp
    have hx := h2 x (List.mem_cons_self ..)
    rw [steal_Check.l0_eq, if_pos (by omega), gi_some (k := pre.length) rfl (by rw [he]; simp : l[pre.length]? = some x), Option.bind_some, wrap_in (by omega) (by omega), err]
    by_cases c : 100 < seen.length + x.length
    · rw [if_pos (by omega), if_pos c]
    · rw [if_neg (by omega), if_neg c]
      refine check_l1 (by omega) x [] seen es rfl hes fun es' h => ?_
      rw [w_succ (by omega)]
      have := ih (pre ++ [x]) (seen ++ x) es' (by rw [he]; simp) h (by rw [List.length_append]; omega) (fun y hy => h2 y (List.mem_cons_of_mem _ hy))
      simp only [List.length_append, List.length_singleton] at this
      rw [show ((seen.length + x.length : Nat) : Int) = (seen.length : Int) + (x.length : Int) by omega] at this
      exact this
def fault (l : Ls) : Int := if l.length < 1 ∨ 8 < l.length then 1 else err 2 5 [] l
theorem fault_ok {l : Ls} : fault l = 0 ↔ Ok l := by
  unfold fault Ok
  by_cases h : l.length < 1 ∨ 8 < l.length
  · rw [if_pos h]; constructor
    · intro h; cases h
    · intro h; omega
  · rw [if_neg h, err_iff (by decide) (by decide) l [] (fun a => by simp) (by simp)]
    simp only [List.length_nil, Nat.zero_add, List.nil_append]
    constructor
    · rintro ⟨a, b⟩; exact ⟨by omega, by omega, a, b⟩
    · rintro ⟨_, _, a, b⟩; exact ⟨a, b⟩
abbrev Bd (l : Ls) : Prop := ∀ x ∈ l, x.length * 8 ≤ 140737488351232
theorem Check_val {l : Ls} (hb : Bd l) : steal_Check l = some (fault l) := by
  unfold steal_Check steal_Check.j0 fault
  by_cases h1 : l.length < 1
  · rw [if_pos (by omega), if_pos (.inl h1)]
  · rw [if_neg (by omega)]
    by_cases h2 : 8 < l.length
    · rw [if_pos (by omega), if_pos (.inr h2)]
    · rw [if_neg (by omega), if_neg (by omega)]
      exact check_l0 (by omega) l [] [] [] rfl (fun t => by rfl) (by simp) hb
theorem check_val {l : Ls} (hb : Bd l) (c : Int) : steal_check l c = some (if fault l = 0 then (if c < 0 ∨ (l.length : Int) ≤ c then 4 else 0) else fault l) := by
  unfold steal_check
  rw [Check_val hb, Option.bind_some]
  by_cases h : fault l = 0
  · rw [if_pos h, if_pos h]
    by_cases h1 : c < 0
    · rw [if_pos h1, if_pos (.inl h1)]
    · rw [if_neg h1]
      by_cases h2 : (l.length : Int) ≤ c
      · rw [if_pos h2, if_pos (.inr h2)]
      · rw [if_neg (by omega), if_neg (by omega), h]
  · rw [if_neg h, if_neg h]
theorem lf_l2 {l : Ls} {n i m : Int} {row all : List Int} {t j : Int} (ha : all.length ≤ 1000) : ∀ (r pre : List Int), all = pre ++ r →
    roadref3_LinesFault.l2 all t l n i row m j (all.length : Int) (pre.length : Int) = if t ∈ r then some 5 else roadref3_LinesFault.l1 (all ++ [t]) l n i row m (IntKind.wrap .i64 (j + 1)) := by
  intro r
  induction r with
  | nil =>
    intro pre he
    rw [roadref3_LinesFault.l2_eq, if_neg (by rw [he, List.append_nil]; exact nlt _), ap_of (by simp only [List.length_singleton]; omega), Option.bind_some, if_neg (by simp)]
  | cons u r ih =>
    intro pre he
    have hl : all.length = pre.length + (r.length + 1) := by rw [he]; simp
    rw [roadref3_LinesFault.l2_eq, if_pos (by omega), gi_some (k := pre.length) rfl (by rw [he]; simp : all[pre.length]? = some u), Option.bind_some]
    by_cases e : u = t
    · rw [if_pos e, if_pos (by rw [e]; exact List.mem_cons_self ..)]
    · rw [if_neg e, w_succ (by omega)]
      have := ih (pre ++ [u]) (by rw [he]; simp)
      rw [List.length_append, List.length_singleton] at this
      rw [this]
      have : t ∈ u :: r ↔ t ∈ r := by simp [Ne.symm e]
      simp only [this]
theorem lf_l1 {l : Ls} {n i : Int} {row : List Int} (hr : row.length ≤ 200) {K : Int} : ∀ (r pre all : List Int), row = pre ++ r → all.length + r.length ≤ 400 → roadref3_LinesFault.l0 (all ++ r) l n (IntKind.wrap .i64 (i + 1)) = some K →
    roadref3_LinesFault.l1 all l n i row (row.length : Int) (pre.length : Int) = some (if dup all r = true then 5 else K) := by
  intro r
  induction r with
  | nil =>
    intro pre all he ha hK
    rw [roadref3_LinesFault.l1_eq, if_neg (by rw [he, List.append_nil]; exact nlt _)]
    rw [List.append_nil] at hK
    exact hK
  | cons t r ih =>
    intro pre all he ha hK
    have hl : row.length = pre.length + (r.length + 1) := by rw [he]; simp
    rw [List.length_cons] at ha
    rw [roadref3_LinesFault.l1_eq, if_pos (by omega), gi_some (k := pre.length) rfl (by rw [he]; simp : row[pre.length]? = some t), Option.bind_some]
    have h2 := lf_l2 (all := all) (l := l) (n := n) (i := i) (m := (row.length : Int)) (row := row) (t := t) (j := (pre.length : Int)) (by omega) all [] rfl
    rw [List.length_nil] at h2
    rw [show ((0 : Nat) : Int) = (0 : Int) from rfl] at h2
    rw [h2, dup]
    by_cases ht : t ∈ all
    · rw [if_pos ht, decide_eq_true ht, Bool.true_or, if_pos rfl]
    · rw [if_neg ht, decide_eq_false ht, Bool.false_or, w_succ (by omega)]
      have := ih (pre ++ [t]) (all ++ [t]) (by rw [he]; simp) (by rw [List.length_append, List.length_singleton]; omega) (by simpa using hK)
      rw [List.length_append, List.length_singleton] at this
      exact this
theorem lf_l0 {l : Ls} (hn : l.length ≤ 8) : ∀ (r pre : Ls) (all : List Int), l = pre ++ r → all.length ≤ 100 → Bd r →
    roadref3_LinesFault.l0 all l (l.length : Int) (pre.length : Int) = some (err 2 5 all r) := by
  intro r
  induction r with
  | nil =>
    intro pre all he h1 h2
    rw [roadref3_LinesFault.l0_eq, if_neg (by rw [he, List.append_nil]; exact nlt _)]; rfl
  | cons x r ih =>
    intro pre all he h1 h2
    have hl : l.length = pre.length + (r.length + 1) := by rw [he]; simp
    have hx := h2 x (List.mem_cons_self ..)
    rw [roadref3_LinesFault.l0_eq, if_pos (by omega), gi_some (k := pre.length) rfl (by rw [he]; simp : l[pre.length]? = some x), Option.bind_some, wrap_in (by omega) (by omega), err]
    by_cases c : 100 < all.length + x.length
    · rw [if_pos (by omega), if_pos c]
    · rw [if_neg (by omega), if_neg c]
      refine lf_l1 (by omega) x [] all rfl (by omega) ?_
      rw [w_succ (by omega)]
      have := ih (pre ++ [x]) (all ++ x) (by rw [he]; simp) (by rw [List.length_append]; omega) (fun y hy => h2 y (List.mem_cons_of_mem _ hy))
      simp only [List.length_append, List.length_singleton] at this
      exact this
theorem In_val (x lo hi : Int) : roadref3_In x lo hi = some (decide (lo ≤ x ∧ x ≤ hi)) := by
  unfold roadref3_In
  by_cases h : lo ≤ x
  · rw [if_pos h]; simp [h]
  · rw [if_neg h]; simp [h]
theorem LinesFault_val {l : Ls} (hb : Bd l) : roadref3_LinesFault l = some (fault l) := by
  unfold roadref3_LinesFault fault
  rw [In_val, Option.bind_some]
  by_cases h : l.length < 1 ∨ 8 < l.length
  · rw [if_pos h, decide_eq_false (by omega), if_neg (by decide)]
  · rw [if_neg h, decide_eq_true (by omega), if_pos rfl]
    exact lf_l0 (by omega) l [] [] rfl (by simp) hb
def RobK (l : Ls) (c k : Nat) (v : Int) : Prop :=
  (v = -1 ∧ ∀ j, 1 ≤ j → j < k → (List.getD l (ix l.length c j) []).length = 0) ∨
  ∃ b, 1 ≤ b ∧ b < k ∧ v = (ix l.length c b : Int) ∧ 0 < (List.getD l (ix l.length c b) []).length ∧ (∀ j, 1 ≤ j → j < b → (List.getD l (ix l.length c j) []).length < (List.getD l (ix l.length c b) []).length) ∧ ∀ j, b ≤ j → j < k → (List.getD l (ix l.length c j) []).length ≤ (List.getD l (ix l.length c b) []).length
theorem RobK.uniq {l : Ls} {c k : Nat} {v w : Int} (h : RobK l c k v) (h' : RobK l c k w) : v = w := by
  rcases h with ⟨e, z⟩ | ⟨b, b1, b2, b3, b4, b5, b6⟩ <;> rcases h' with ⟨e', z'⟩ | ⟨d, d1, d2, d3, d4, d5, d6⟩
  · rw [e, e']
  · have := z d d1 d2; omega
  · have := z' b b1 b2; omega
  · rcases Nat.lt_trichotomy b d with h | h | h
    · have := d5 b b1 h; have := b6 d (by omega) d2; omega
    · rw [b3, d3, h]
    · have := b5 d d1 h; have := d6 b (by omega) b2; omega
theorem tm_ix {n c k : Nat} (hc : c < n) (hn : n ≤ 1000) (hk : k ≤ n) : Int.tmod (IntKind.wrap .i64 ((c : Int) + (k : Int))) (n : Int) = (ix n c k : Int) := by
  rw [wrap_in (by omega) (by omega), show (c : Int) + (k : Int) = ((c + k : Nat) : Int) by omega, Int.tmod_eq_emod_of_nonneg (by omega)]; rfl
theorem victim_l0 {l : Ls} {c : Nat} (hc : c < l.length) (hn : l.length ≤ 8) : ∀ (d k : Nat) (v : Int), k + d = l.length → 1 ≤ k → RobK l c k v → ∃ w, steal_Victim.l0 l c v k = some w ∧ RobK l c l.length w := by
  intro d
  induction d with
  | zero =>
    intro k v hk h1 hR
    rw [steal_Victim.l0_eq, if_neg (by omega)]
    refine ⟨v, rfl, ?_⟩
    have : k = l.length := by omega
    rw [← this]; exact this ▸ hR
  | succ d ih =>
    intro k v hk h1 hR
    have hi := ix_lt (k := k) hc
    have next : ∀ (b : Bool), RobK l c (k + 1) (if b = true then (ix l.length c k : Int) else v) → ∃ w, steal_Victim.j1 l c v k (ix l.length c k) b = some w ∧ RobK l c l.length w := by
      intro b hb
      rw [steal_Victim.j1_eq]
      cases b with
      | true => rw [if_pos rfl, steal_Victim.j0_eq, w_succ (by omega)]; rw [if_pos rfl] at hb; exact ih (k + 1) _ (by omega) (by omega) hb
      | false => rw [if_neg (by decide), steal_Victim.j0_eq, w_succ (by omega)]; rw [if_neg (by decide)] at hb; exact ih (k + 1) _ (by omega) (by omega) hb
    rw [steal_Victim.l0_eq, if_pos (by omega), if_pos (by omega), tm_ix hc (by omega) (by omega), gi_d hi, Option.bind_some]
    by_cases hp : (List.getD l (ix l.length c k) []).length > 0
    · rw [if_pos (by omega)]
      rcases hR with ⟨e, z⟩ | ⟨b, b1, b2, b3, b4, b5, b6⟩
      · rw [if_pos (by omega)]
        refine next true (.inr ⟨k, h1, by omega, by rw [if_pos rfl], hp, fun j j1 j2 => by rw [z j j1 j2]; exact hp, fun j j1 j2 => by rw [show j = k by omega]; exact Nat.le_refl _⟩)
      · have hib := ix_lt (k := b) hc
        rw [if_neg (by omega), b3, gi_d hib, Option.bind_some, Option.bind_some]
        rw [← b3]
        by_cases g : (List.getD l (ix l.length c k) []).length > (List.getD l (ix l.length c b) []).length
        · rw [decide_eq_true (by omega)]
          refine next true (.inr ⟨k, h1, by omega, by rw [if_pos rfl], hp, fun j j1 j2 => ?_, fun j j1 j2 => by rw [show j = k by omega]; exact Nat.le_refl _⟩)
          by_cases hj : j < b
          · have := b5 j j1 hj; omega
          · have := b6 j (by omega) j2; omega
        · rw [decide_eq_false (by omega)]
          refine next false (.inr ⟨b, b1, by omega, by rw [if_neg (by decide)]; exact b3, b4, b5, fun j j1 j2 => ?_⟩)
          by_cases hj : j = k
          · rw [hj]; omega
          · exact b6 j j1 (by omega)
    · rw [if_neg (by omega)]
      refine next false ?_
      rw [if_neg (by decide)]
      rcases hR with ⟨e, z⟩ | ⟨b, b1, b2, b3, b4, b5, b6⟩
      · exact .inl ⟨e, fun j j1 j2 => by by_cases hj : j = k; rw [hj]; omega; exact z j j1 (by omega)⟩
      · exact .inr ⟨b, b1, by omega, b3, b4, b5, fun j j1 j2 => by by_cases hj : j = k; rw [hj]; omega; exact b6 j j1 (by omega)⟩
def Mx (l : Ls) (c k M : Nat) : Prop := (∀ i, i < k → i ≠ c → (List.getD l i []).length ≤ M) ∧ (M = 0 ∨ ∃ i, i < k ∧ i ≠ c ∧ (List.getD l i []).length = M)
theorem robbed_l1 {l : Ls} {c M : Nat} (hc : c < l.length) (hn : l.length ≤ 8) (hM : Mx l c l.length M) : ∀ (d k : Nat), k + d = l.length → (∀ j, 1 ≤ j → j ≤ k → j < l.length → 0 < M → (List.getD l (ix l.length c j) []).length ≠ M) →
    ∃ w, roadref3_Robbed.l1 l c M (l.length : Int) k = some w ∧ RobK l c l.length w := by
  intro d
  induction d with
  | zero =>
    intro k hk hj
    rw [roadref3_Robbed.l1_eq, if_neg (by omega)]
    refine ⟨-1, rfl, .inl ⟨rfl, fun j j1 j2 => ?_⟩⟩
    have hne := ix_ne hc j1 j2
    have hle := hM.1 _ (ix_lt (k := j) hc) hne
    rcases hM.2 with h0 | ⟨i, i1, i2, i3⟩
    · omega
    · by_cases h0 : 0 < M
      · obtain ⟨q, q1, q2, q3⟩ := ix_on hc i1 i2
        exact absurd (q3 ▸ i3) (hj q q1 (by omega) q2 h0)
      · omega
  | succ d ih =>
    intro k hk hj
    have hi := ix_lt (k := k + 1) hc
    have next : (k + 1 < l.length → 0 < M → (List.getD l (ix l.length c (k + 1)) []).length ≠ M) → ∃ w, roadref3_Robbed.j0 l c M (ix l.length c (k + 1)) (l.length : Int) k false = some w ∧ RobK l c l.length w := by
      intro hx
      rw [roadref3_Robbed.j0_eq, if_neg (by decide), w_succ (by omega)]
      refine ih (k + 1) (by omega) fun j j1 j2 j3 j4 => ?_
      by_cases e : j = k + 1
      · rw [e]; exact hx (by omega) j4
      · exact hj j j1 (by omega) j3 j4
    have e1 : IntKind.wrap .i64 ((c : Int) + 1) + (k : Int) = (c : Int) + ((k + 1 : Nat) : Int) := by rw [wrap_in (by omega) (by omega)]; omega
    rw [roadref3_Robbed.l1_eq, if_pos (by omega), if_pos (by omega), e1, tm_ix hc (by omega) (by omega)]
    by_cases hs : ix l.length c (k + 1) = c
    · rw [if_pos (by omega)]
      exact next fun h => absurd hs (ix_ne hc (by omega) h)
    · rw [if_neg (by omega)]
      have hk1 : k + 1 < l.length := by
        rcases Nat.lt_or_ge (k + 1) l.length with h | h
        · exact h
        · exact absurd (by rw [show k + 1 = l.length by omega]; exact ix_n hc) hs
      by_cases hm : 0 < M
      · rw [if_pos (by omega), gi_d hi, Option.bind_some]
        by_cases he : (List.getD l (ix l.length c (k + 1)) []).length = M
        · rw [show (((List.getD l (ix l.length c (k + 1)) []).length : Int) == (M : Int)) = true from beq_iff_eq.2 (by omega), roadref3_Robbed.j0_eq, if_pos rfl]
          refine ⟨_, rfl, .inr ⟨k + 1, by omega, hk1, rfl, by omega, fun j j1 j2 => ?_, fun j j1 j2 => ?_⟩⟩
          · have h1 := hj j j1 (by omega) (by omega) hm
            have h2 := hM.1 _ (ix_lt (k := j) hc) (ix_ne hc j1 (by omega))
            omega
          · have h2 := hM.1 _ (ix_lt (k := j) hc) (ix_ne hc (by omega) j2)
            omega
        · rw [show (((List.getD l (ix l.length c (k + 1)) []).length : Int) == (M : Int)) = false from beq_eq_false_iff_ne.2 (by omega)]
          exact next fun _ _ => he
      · rw [if_neg (by omega)]
        exact next fun _ h => absurd h hm
theorem robbed_l0 {l : Ls} {c : Nat} (hc : c < l.length) (hn : l.length ≤ 8) : ∀ (d k M : Nat), k + d = l.length → Mx l c k M →
    ∃ w, roadref3_Robbed.l0 l c M l (l.length : Int) k = some w ∧ RobK l c l.length w := by
  intro d
  induction d with
  | zero =>
    intro k M hk hM
    rw [roadref3_Robbed.l0_eq, if_neg (by omega)]
    have : k = l.length := by omega
    exact robbed_l1 hc hn (this ▸ hM) l.length 0 (by omega) fun j j1 j2 => by omega
  | succ d ih =>
    intro k M hk hM
    rw [roadref3_Robbed.l0_eq, if_pos (by omega), gi_d (by omega), Option.bind_some, w_succ (by omega)]
    by_cases e : k = c
    · rw [if_pos (by omega)]
      refine ih (k + 1) M (by omega) ⟨fun i i1 i2 => hM.1 i (by omega) i2, hM.2.imp id fun ⟨i, i1, i2, i3⟩ => ⟨i, by omega, i2, i3⟩⟩
    · rw [if_neg (by omega)]
      by_cases g : (List.getD l k []).length > M
      · rw [if_pos (by omega)]
        refine ih (k + 1) ((List.getD l k []).length) (by omega) ⟨fun i i1 i2 => ?_, .inr ⟨k, by omega, e, rfl⟩⟩
        by_cases hi : i = k
        · rw [hi]; exact Nat.le_refl _
        · have := hM.1 i (by omega) i2; omega
      · rw [if_neg (by omega)]
        refine ih (k + 1) M (by omega) ⟨fun i i1 i2 => ?_, hM.2.imp id fun ⟨i, i1, i2, i3⟩ => ⟨i, by omega, i2, i3⟩⟩
        by_cases hi : i = k
        · rw [hi]; omega
        · exact hM.1 i (by omega) i2
noncomputable def vic (l : Ls) (c : Nat) : Int := (roadref3_Robbed l c).getD (-1)
theorem vic_rob {l : Ls} {c : Nat} (hc : c < l.length) (hn : l.length ≤ 8) : roadref3_Robbed l c = some (vic l c) ∧ RobK l c l.length (vic l c) := by
  obtain ⟨w, h1, h2⟩ := robbed_l0 hc hn l.length 0 0 (by omega) ⟨fun i i1 => by omega, .inl rfl⟩
  have h3 : roadref3_Robbed l c = some w := by unfold roadref3_Robbed; exact h1
  unfold vic
  rw [h3]
  exact ⟨rfl, h2⟩
theorem Ok.bd {l : Ls} (o : Ok l) : ∀ x ∈ l, x.length ≤ 100 := by
  intro x hx
  have h1 : x.length ≤ l.flatten.length := by
    obtain ⟨a, b, rfl⟩ := List.append_of_mem hx
    simp only [List.flatten_append, List.flatten_cons, List.length_append]; omega
  have := o.2.2.1; omega
theorem Ok.Bd {l : Ls} (o : Ok l) : Bd l := fun x hx => by have := o.bd x hx; omega
theorem Ok.d {l : Ls} (o : Ok l) (i : Nat) : (List.getD l i []).length ≤ 100 := by
  rw [List.getD_eq_getElem?_getD]
  cases h : l[i]? with
  | none => simp
  | some x => exact o.bd x (List.mem_of_getElem? h)
theorem check_ok {l : Ls} (o : Ok l) {c : Nat} (hc : c < l.length) : steal_check l c = some 0 := by
  rw [check_val o.Bd, fault_ok.2 o, if_pos rfl, if_neg (by omega)]
theorem Victim_ok {l : Ls} (o : Ok l) {c : Nat} (hc : c < l.length) : steal_Victim l c = some (vic l c) := by
  unfold steal_Victim
  rw [check_ok o hc, Option.bind_some, if_pos rfl]
  obtain ⟨w, h1, h2⟩ := victim_l0 hc o.2.1 (l.length - 1) 1 (-1) (by omega) (by omega) (.inl ⟨rfl, fun j j1 j2 => by omega⟩)
  rw [show ((1 : Nat) : Int) = (1 : Int) from rfl] at h1
  rw [h1, h2.uniq (vic_rob hc o.2.1).2]
theorem check_no {l : Ls} (o : Ok l) {c : Int} (hc : c < 0 ∨ (l.length : Int) ≤ c) : steal_check l c = some 4 := by
  rw [check_val o.Bd, fault_ok.2 o, if_pos rfl, if_pos hc]
theorem copied_val {l : Ls} (o : Ok l) : steal_copied l = some l := by
  unfold steal_copied
  rw [if_pos ⟨by have := o.2.1; omega, fun x hx => by have := o.bd x hx; omega⟩]
def fin (c : Nat) (o : Ls) : Ls × Int := (o.set c ((o.getD c []).take ((o.getD c []).length - 1)), (o.getD c []).getD ((o.getD c []).length - 1) 0)
theorem popj_val {o : Ls} {c : Nat} (hc : c < o.length) (h1 : 0 < (o.getD c []).length) (h2 : (o.getD c []).length ≤ 1000) : steal_Pop.j0 c o = some ((fin c o).1, (fin c o).2, 0) := by
  unfold steal_Pop.j0 fin
  have hw : IntKind.wrap .i64 (((o.getD c []).length : Int) - 1) = (((o.getD c []).length - 1 : Nat) : Int) := by rw [wrap_in (by omega) (by omega)]; omega
  rw [gi_d hc, Option.bind_some, hw, gi_d0 (by omega), Option.bind_some, sls_take rfl (by omega), Option.bind_some, Option.bind_some, Int.toNat_natCast]
theorem poppedj_val {o : Ls} {c : Nat} (hc : c < o.length) (h1 : 0 < (o.getD c []).length) (h2 : (o.getD c []).length ≤ 1000) : roadref3_Popped.j0 c o = some ((fin c o).1, (fin c o).2, true) := by
  unfold roadref3_Popped.j0 fin
  have hw : IntKind.wrap .i64 (((o.getD c []).length : Int) - 1) = (((o.getD c []).length - 1 : Nat) : Int) := by rw [wrap_in (by omega) (by omega)]; omega
  rw [gi_d hc, Option.bind_some, hw, gi_d0 (by omega), Option.bind_some, sls_take rfl (by omega), Option.bind_some, Option.bind_some, Int.toNat_natCast]
theorem drop_hd {x : List Int} {i : Nat} (h : i < x.length) : gi (x.drop i) 0 = some (x.getD i 0) := by
  have := gi_d0 (l := x.drop i) (k := 0) (by rw [List.length_drop]; omega)
  rw [show ((0 : Nat) : Int) = (0 : Int) from rfl] at this
  rw [this, List.getD_eq_getElem?_getD, List.getD_eq_getElem?_getD, List.getElem?_drop, Nat.add_zero]
theorem take_one {x : List Int} {i : Nat} (h : i < x.length) : x.take i ++ [x.getD i 0] = x.take (i + 1) := by
  rw [List.take_add_one, List.getD_eq_getElem?_getD, List.getElem?_eq_getElem h]; rfl
theorem sls_one {x : List Int} {i : Nat} (h : i < x.length) : sls (x.drop i) 1 ((x.drop i).length : Int) = some (x.drop (i + 1)) := by
  have := sls_drop (l := x.drop i) (k := 1) (x := 1) rfl (by rw [List.length_drop]; omega)
  rw [this, List.drop_drop]
def half (l : Ls) (c f : Nat) (i : Nat) : Ls := (l.set c ((l.getD f []).take i)).set f ((l.getD f []).drop i)
noncomputable def popv (l : Ls) (c : Nat) : Option (Ls × Int) :=
  if (l.getD c []).length = 0 then (if vic l c < 0 then none else some (fin c (half l c (vic l c).toNat (((l.getD (vic l c).toNat []).length + 1) / 2)))) else some (fin c l)
theorem vic_at {l : Ls} {c : Nat} (o : Ok l) (hc : c < l.length) (h : ¬ vic l c < 0) : ∃ f, f < l.length ∧ f ≠ c ∧ vic l c = (f : Int) ∧ 0 < (l.getD f []).length := by
  rcases (vic_rob hc o.2.1).2 with ⟨e, _⟩ | ⟨b, b1, b2, b3, b4, _⟩
  · rw [e] at h; exact absurd (by decide) h
  · exact ⟨_, ix_lt hc, ix_ne hc b1 b2, b3, b4⟩
theorem half_c {l : Ls} {c f i : Nat} (hc : c < l.length) (hne : f ≠ c) : (half l c f i).getD c [] = (l.getD f []).take i := by
  unfold half; rw [getD_set_ne _ _ hne, getD_set_self _ _ hc]
theorem half_f {l : Ls} {c f i : Nat} (hf : f < l.length) : (half l c f i).getD f [] = (l.getD f []).drop i := by
  unfold half; rw [getD_set_self _ _ (by rw [List.length_set]; exact hf)]
theorem half_len {l : Ls} {c f i : Nat} : (half l c f i).length = l.length := by unfold half; simp only [List.length_set]
theorem wh {n : Nat} (h : n ≤ 1000) : IntKind.wrap .i64 (Int.tdiv (IntKind.wrap .i64 ((n : Int) + 1)) 2) = (((n + 1) / 2 : Nat) : Int) := by
  rw [wrap_in (n := (n : Int) + 1) (by omega) (by omega), Int.tdiv_eq_ediv_of_nonneg (by omega), wrap_in (by omega) (by omega)]; omega
theorem clone_val {x : List Int} (h : x.length ≤ 1000) : slices_Clone_37 x = some x := by
  unfold slices_Clone_37; rw [ap_nil (by omega)]
theorem Pop_val {l : Ls} {c : Nat} (o : Ok l) (hc : c < l.length) : steal_Pop l c = some (match popv l c with | some (a, t) => (a, t, 0) | none => ([], 0, 4)) := by
  unfold steal_Pop
  have hd := o.d c
  rw [check_ok o hc, Option.bind_some, if_pos rfl, copied_val o, Option.bind_some, gi_d hc, Option.bind_some]
  unfold popv
  by_cases h0 : (l.getD c []).length = 0
  · rw [if_pos (by omega), if_pos h0, Victim_ok o hc, Option.bind_some]
    by_cases hv : vic l c < 0
    · rw [if_pos hv, if_pos hv]
    · rw [if_neg hv, if_neg hv]
      obtain ⟨f, f1, f2, f3, f4⟩ := vic_at o hc hv
      have hfd := o.d f
      rw [f3, Int.toNat_natCast, gi_d f1, Option.bind_some, Option.bind_some, Option.bind_some, wh (by omega), sls_take rfl (by omega), Option.bind_some, sls_drop rfl (by omega), Option.bind_some,
        clone_val (by rw [List.length_take]; omega), Option.bind_some, clone_val (by rw [List.length_drop]; omega), Option.bind_some, Option.bind_some, gi_d (by rw [List.length_set]; exact f1), Option.bind_some, Option.bind_some, Int.toNat_natCast]
      have e := half_c (l := l) (c := c) (f := f) (i := ((l.getD f []).length + 1) / 2) hc f2
      have := popj_val (o := half l c f (((l.getD f []).length + 1) / 2)) (c := c) (by rw [half_len]; exact hc) (by rw [e, List.length_take]; omega) (by rw [e, List.length_take]; omega)
      exact this
  · rw [if_neg (by omega), if_neg h0, popj_val hc (by omega) (by omega)]
theorem popped_l1 {l : Ls} {c f : Nat} (o : Ok l) (hc : c < l.length) (hf1 : f < l.length) (hne : f ≠ c) (hp : 0 < (l.getD f []).length) : ∀ (d i : Nat), i + d = ((l.getD f []).length + 1) / 2 →
    roadref3_Popped.l1 c (half l c f i) f d = roadref3_Popped.j0 c (half l c f (((l.getD f []).length + 1) / 2)) := by
  intro d
  have hfd := o.d f
  induction d with
  | zero =>
    intro i hi
    rw [roadref3_Popped.l1_eq, if_neg (by omega), show i = ((l.getD f []).length + 1) / 2 by omega]
  | succ d ih =>
    intro i hi
    have hlt : i < (l.getD f []).length := by omega
    have e0 := drop_hd hlt
    have e1 := take_one hlt
    have s1 : (half l c f i).set c ((l.getD f []).take (i + 1)) = (l.set c ((l.getD f []).take (i + 1))).set f ((l.getD f []).drop i) := by
      unfold half; rw [List.set_comm _ _ (Ne.symm hne), List.set_set, List.set_comm _ _ hne]
    have s2 : ((l.set c ((l.getD f []).take (i + 1))).set f ((l.getD f []).drop i)).set f ((l.getD f []).drop (i + 1)) = half l c f (i + 1) := by
      unfold half; rw [List.set_set]
    have s3 : gi ((l.set c ((l.getD f []).take (i + 1))).set f ((l.getD f []).drop i)) (f : Int) = some ((l.getD f []).drop i) := by
      rw [gi_d (by simp only [List.length_set]; exact hf1), getD_set_self _ _ (by rw [List.length_set]; exact hf1)]
    have s4 := sls_one hlt
    have w1 : IntKind.wrap .i64 (((d + 1 : Nat) : Int) - 1) = (d : Int) := by rw [wrap_in (by omega) (by omega)]; omega
    rw [roadref3_Popped.l1_eq, if_pos (by omega), gi_d (by rw [half_len]; exact hc), Option.bind_some, gi_d (by rw [half_len]; exact hf1), Option.bind_some, half_c hc hne, half_f hf1, e0, Option.bind_some,
      ap_of (by rw [List.length_take, List.length_singleton]; omega), Option.bind_some, e1, Option.bind_some, Int.toNat_natCast, s1, s3, Option.bind_some, Int.toNat_natCast, if_pos (Ne.symm hne), s4, Option.bind_some, Option.bind_some, s2, w1]
    exact ih (i + 1) (by omega)
theorem set_self {l : Ls} {f : Nat} (h : f < l.length) : l.set f (l.getD f []) = l := by
  rw [List.getD_eq_getElem?_getD, List.getElem?_eq_getElem h]; exact List.set_getElem_self h
theorem Popped_val {l : Ls} {c : Nat} (o : Ok l) (hc : c < l.length) : roadref3_Popped l c = some (match popv l c with | some (a, t) => (a, t, true) | none => ([], 0, false)) := by
  have key : ∀ (r pre : Ls), l = pre ++ r → roadref3_Popped.l0 l c pre l (l.length : Int) (pre.length : Int) = some (match popv l c with | some (a, t) => (a, t, true) | none => ([], 0, false)) := by
    intro r
    induction r with
    | nil =>
      intro pre he
      rw [List.append_nil] at he
      rw [← he, roadref3_Popped.l0_eq, if_neg (nlt _), gi_d hc, Option.bind_some]
      have hd := o.d c
      unfold popv
      by_cases h0 : (l.getD c []).length = 0
      · rw [if_pos (by omega), if_pos h0, (vic_rob hc o.2.1).1, Option.bind_some]
        by_cases hv : vic l c < 0
        · rw [if_pos hv, if_pos hv]
        · rw [if_neg hv, if_neg hv]
          obtain ⟨f, f1, f2, f3, f4⟩ := vic_at o hc hv
          have hfd := o.d f
          have e0 : half l c f 0 = l := by
            unfold half
            have z : l.set c [] = l := by
              have := set_self hc
              rw [List.length_eq_zero_iff.1 h0] at this
              exact this
            rw [List.take_zero, List.drop_zero, z, set_self f1]
          have e := half_c (l := l) (c := c) (f := f) (i := ((l.getD f []).length + 1) / 2) hc f2
          have h1 := popped_l1 o hc f1 f2 f4 (((l.getD f []).length + 1) / 2) 0 (by omega)
          rw [e0] at h1
          rw [f3, Int.toNat_natCast, gi_d f1, Option.bind_some, wh (by omega), h1]
          exact poppedj_val (o := half l c f (((l.getD f []).length + 1) / 2)) (c := c) (by rw [half_len]; exact hc) (by rw [e, List.length_take]; omega) (by rw [e, List.length_take]; omega)
      · rw [if_neg (by omega), if_neg h0, poppedj_val hc (by omega) (by omega)]
    | cons x r ih =>
      intro pre he
      have hl : l.length = pre.length + (r.length + 1) := by rw [he]; simp
      have hx := o.bd x (by rw [he]; simp)
      have := o.2.1
      rw [roadref3_Popped.l0_eq, if_pos (by omega), gi_some (k := pre.length) rfl (by rw [he]; simp : l[pre.length]? = some x), Option.bind_some, ap_nil (by omega), Option.bind_some, ap_of (by rw [List.length_singleton]; omega), Option.bind_some, w_succ (by omega)]
      have := ih (pre ++ [x]) (by rw [he]; simp)
      rw [List.length_append, List.length_singleton] at this
      exact this
  exact key l [] rfl
theorem popv_ok {l : Ls} {c : Nat} (o : Ok l) (hc : c < l.length) {a : Ls} {t : Int} (h : popv l c = some (a, t)) : Ok a ∧ a.length = l.length := by
  unfold popv at h
  have hfin : ∀ {x : Ls}, Ok x → c < x.length → Ok (fin c x).1 ∧ (fin c x).1.length = x.length := fun ox hx => ⟨ok_short ox hx, by unfold fin; rw [List.length_set]⟩
  by_cases h0 : (l.getD c []).length = 0
  · rw [if_pos h0] at h
    by_cases hv : vic l c < 0
    · rw [if_pos hv] at h; cases h
    · rw [if_neg hv] at h
      obtain ⟨f, f1, f2, f3, f4⟩ := vic_at o hc hv
      rw [f3, Int.toNat_natCast] at h
      have oh : Ok (half l c f (((l.getD f []).length + 1) / 2)) := ok_half o hc f1 (Ne.symm f2) (List.length_eq_zero_iff.1 h0)
      have := hfin oh (by rw [half_len]; exact hc)
      rw [half_len, Option.some.inj h] at this
      exact this
  · rw [if_neg h0] at h
    have := hfin o hc
    rw [Option.some.inj h] at this
    exact this
noncomputable def stepv (l : Ls) (c : Int) : Option (Ls × Int) := if 0 ≤ c ∧ c < l.length then popv l c.toNat else none
theorem stepv_ok {l : Ls} {c : Int} (o : Ok l) {a : Ls} {t : Int} (h : stepv l c = some (a, t)) : Ok a ∧ a.length = l.length := by
  unfold stepv at h
  by_cases g : 0 ≤ c ∧ c < l.length
  · rw [if_pos g] at h; exact popv_ok o (by omega) h
  · rw [if_neg g] at h; cases h
theorem Pop_step {l : Ls} (o : Ok l) (c : Int) : steal_Pop l c = some (match stepv l c with | some (a, t) => (a, t, 0) | none => ([], 0, 4)) := by
  unfold stepv
  by_cases g : 0 ≤ c ∧ c < l.length
  · obtain ⟨k, rfl⟩ := Int.eq_ofNat_of_zero_le g.1
    rw [if_pos g, Int.toNat_natCast]
    exact Pop_val o (by omega)
  · rw [if_neg g]
    unfold steal_Pop
    rw [check_no o (by omega), Option.bind_some, if_neg (by decide)]
noncomputable def runv : Ls → Ls → List Int → Ls × Ls
  | l, did, [] => (did, l)
  | l, did, c :: r => match stepv l c with
    | some (a, t) => runv a (did ++ [[c, t]]) r
    | none => runv l did r
theorem run_l0 {ts : List Int} (ht : ts.length ≤ 100) : ∀ (r pre : List Int) (l did : Ls), ts = pre ++ r → Ok l → did.length ≤ pre.length →
    steal_Run.l0 l did ts (ts.length : Int) (pre.length : Int) = some ((runv l did r).1, (runv l did r).2, 0) := by
  intro r
  induction r with
  | nil =>
    intro pre l did he o hd
    rw [steal_Run.l0_eq, if_neg (by rw [he, List.append_nil]; exact nlt _)]; rfl
  | cons c r ih =>
    intro pre l did he o hd
    have hl : ts.length = pre.length + (r.length + 1) := by rw [he]; simp
    rw [steal_Run.l0_eq, if_pos (by omega), gi_some (k := pre.length) rfl (by rw [he]; simp : ts[pre.length]? = some c), Option.bind_some, Pop_step o c, Option.bind_some, w_succ (by omega), runv]
    cases h : stepv l c with
    | none =>
      have := ih (pre ++ [c]) l did (by rw [he]; simp) o (by rw [List.length_append]; omega)
      rw [List.length_append, List.length_singleton] at this
      rw [if_neg (by simp)]; exact this
    | some p =>
      obtain ⟨a, t⟩ := p
      have := ih (pre ++ [c]) a (did ++ [[c, t]]) (by rw [he]; simp) (stepv_ok o h).1 (by simp only [List.length_append, List.length_singleton]; omega)
      rw [List.length_append, List.length_singleton] at this
      rw [if_pos rfl, ap_of (by rw [List.length_singleton]; omega), Option.bind_some]; exact this
theorem Run_val {l : Ls} {ts : List Int} (hb : Bd l) : steal_Run l ts = some (if fault l = 0 then (if 100 < ts.length then ([], [], 2) else ((runv l [] ts).1, (runv l [] ts).2, 0)) else ([], [], fault l)) := by
  unfold steal_Run
  rw [Check_val hb, Option.bind_some]
  by_cases h : fault l = 0
  · rw [if_pos h, if_pos h]
    by_cases h1 : 100 < ts.length
    · rw [if_pos (by omega), if_pos h1]
    · rw [if_neg (by omega), if_neg h1, copied_val (fault_ok.1 h), Option.bind_some]
      exact run_l0 (by omega) ts [] l [] rfl (fault_ok.1 h) (by simp)
  · rw [if_neg h, if_neg h]
theorem cont_val {x : List Int} {t : Int} (h : x.length ≤ 1000) : slices_Contains_35 x t = some (decide (t ∈ x)) := slices_Contains_35.val t (by omega)
theorem push_l0 {l : Ls} {c : Nat} {t : Int} (o : Ok l) (hc : c < l.length) : ∀ (r pre : Ls), l = pre ++ r →
    steal_Push.l0 l c t (pre.flatten.length : Int) l (l.length : Int) (pre.length : Int) = some (if t ∈ r.flatten then ([], 5) else if l.flatten.length = 100 then ([], 6) else (l.set c (l.getD c [] ++ [t]), 0)) := by
  intro r
  have hcd := o.d c
  have ho := o.2.2.1
  have ho2 := o.2.1
  induction r with
  | nil =>
    intro pre he
    rw [List.append_nil] at he
    have hm : ¬ t ∈ ([] : Ls).flatten := by simp
    rw [← he, steal_Push.l0_eq, if_neg (nlt _), if_neg hm]
    by_cases h : l.flatten.length = 100
    · rw [if_pos (by omega), if_pos h]
    · rw [if_neg (by omega), if_neg h, copied_val o, Option.bind_some, gi_d hc, Option.bind_some, ap_of (by rw [List.length_singleton]; omega), Option.bind_some, Option.bind_some, Int.toNat_natCast]
  | cons x r ih =>
    intro pre he
    have hl : l.length = pre.length + (r.length + 1) := by rw [he]; simp
    have hx := o.bd x (by rw [he]; simp)
    have hfl : l.flatten.length = pre.flatten.length + (x.length + r.flatten.length) := by rw [he]; simp only [List.flatten_append, List.flatten_cons, List.length_append]
    rw [steal_Push.l0_eq, if_pos (by omega), gi_some (k := pre.length) rfl (by rw [he]; simp : l[pre.length]? = some x), Option.bind_some, cont_val (by omega), Option.bind_some]
    by_cases h : t ∈ x
    · rw [decide_eq_true h, if_pos rfl, if_pos (by rw [List.flatten_cons]; exact List.mem_append_left _ h)]
    · rw [decide_eq_false h, if_neg (by decide), w_succ (by omega), wrap_in (by omega) (by omega)]
      have := ih (pre ++ [x]) (by rw [he]; simp)
      rw [List.length_append, List.length_singleton, List.flatten_append, List.length_append, List.flatten_cons, List.flatten_nil, List.append_nil] at this
      rw [show ((pre.flatten.length + x.length : Nat) : Int) = (pre.flatten.length : Int) + (x.length : Int) by omega] at this
      rw [this]
      have hm : t ∈ (x :: r).flatten ↔ t ∈ r.flatten := by rw [List.flatten_cons, List.mem_append]; simp only [h, false_or]
      simp only [hm]
theorem Push_val {l : Ls} {c : Nat} {t : Int} (o : Ok l) (hc : c < l.length) : steal_Push l c t = some (if t ∈ l.flatten then ([], 5) else if l.flatten.length = 100 then ([], 6) else (l.set c (l.getD c [] ++ [t]), 0)) := by
  unfold steal_Push
  rw [check_ok o hc, Option.bind_some, if_pos rfl]
  exact push_l0 o hc l [] rfl
theorem same_ints {x : List Int} (hx : x.length ≤ 1000) : roadref3_SameInts x x = some true := by
  have key : ∀ (d i : Nat), i + d = x.length → roadref3_SameInts.l0 x x (x.length : Int) (i : Int) = some true := by
    intro d
    induction d with
    | zero => intro i hi; rw [roadref3_SameInts.l0_eq, if_neg (by omega)]
    | succ d ih => intro i hi; rw [roadref3_SameInts.l0_eq, if_pos (by omega), gi_d0 (by omega), Option.bind_some, Option.bind_some, if_pos rfl, w_succ (by omega)]; exact ih (i + 1) (by omega)
  unfold roadref3_SameInts
  rw [if_pos rfl]
  exact key x.length 0 (by omega)
theorem same_lines {l : Ls} (h8 : l.length ≤ 1000) (hb : ∀ i, (l.getD i []).length ≤ 1000) : roadref3_SameLines l l = some true := by
  have key : ∀ (d i : Nat), i + d = l.length → roadref3_SameLines.l0 l l (l.length : Int) (i : Int) = some true := by
    intro d
    induction d with
    | zero => intro i hi; rw [roadref3_SameLines.l0_eq, if_neg (by omega)]
    | succ d ih => intro i hi; rw [roadref3_SameLines.l0_eq, if_pos (by omega), gi_d (by omega), Option.bind_some, Option.bind_some, same_ints (hb i), Option.bind_some, if_pos rfl, w_succ (by omega)]; exact ih (i + 1) (by omega)
  unfold roadref3_SameLines
  rw [if_pos rfl]
  exact key l.length 0 (by omega)
theorem equal_val {l : Ls} (h8 : l.length ≤ 1000) : slices_Equal_31 l l = some true := by
  have key : ∀ (d i : Nat), i + d = l.length → slices_Equal_31.l0 l l (l.length : Int) (i : Int) = some true := by
    intro d
    induction d with
    | zero => intro i hi; rw [slices_Equal_31.l0_eq, if_neg (by omega)]
    | succ d ih => intro i hi; rw [slices_Equal_31.l0_eq, if_pos (by omega), gi_d (by omega), Option.bind_some, Option.bind_some, if_pos (by simp), w_succ (by omega)]; exact ih (i + 1) (by omega)
  unfold slices_Equal_31
  rw [if_pos rfl]
  exact key l.length 0 (by omega)
theorem Ok.same {l : Ls} (o : Ok l) : roadref3_SameLines l l = some true := same_lines (by have := o.2.1; omega) fun i => by have := o.d i; omega
theorem runv_ok : ∀ (ts : List Int) (l did : Ls), Ok l → Ok (runv l did ts).2 ∧ (runv l did ts).1.length ≤ did.length + ts.length
  | [], l, did, o => ⟨o, by simp [runv]⟩
  | c :: r, l, did, o => by
    rw [runv]
    cases h : stepv l c with
    | none => have := runv_ok r l did o; exact ⟨this.1, show (runv l did r).1.length ≤ _ by have := this.2; rw [List.length_cons]; omega⟩
    | some p =>
      obtain ⟨a, t⟩ := p
      have := runv_ok r a (did ++ [[c, t]]) (stepv_ok o h).1
      exact ⟨this.1, show (runv a (did ++ [[c, t]]) r).1.length ≤ _ by have := this.2; rw [List.length_append, List.length_singleton] at this; rw [List.length_cons]; omega⟩
theorem clones_val {l : Ls} (h : l.length ≤ 1000) : slices_Clone_36 l = some l := by
  unfold slices_Clone_36; rw [ap_nil (by omega)]
theorem j4_val {l : Ls} {c : Nat} {t : Int} (o : Ok l) (hc : c < l.length) {a : Ls} {e : Int} (h : steal_Push l c t = some (a, e)) : roadlaw3_StealTells.j4 l c t a e = some true := by
  rw [Push_val o hc] at h
  have h := Option.some.inj h
  have ho := o.2.2.1
  have ho2 := o.2.1
  have hcd := o.d c
  unfold roadlaw3_StealTells.j4
  rw [slices_Concat_34.val l (by omega) (by omega), Option.bind_some, cont_val (by omega), Option.bind_some]
  by_cases ht : t ∈ l.flatten
  · rw [if_pos ht] at h
    cases h
    rw [decide_eq_true ht, if_pos rfl, if_pos (by rfl)]; rfl
  · rw [if_neg ht] at h
    rw [decide_eq_false ht, if_neg (by decide)]
    by_cases h1 : l.flatten.length = 100
    · rw [if_pos h1] at h
      cases h
      rw [if_pos (by omega), if_pos (by rfl)]; rfl
    · rw [if_neg h1] at h
      cases h
      have hcl : c < l.length := hc
      rw [if_neg (by omega), clones_val (by omega), Option.bind_some, gi_d hc, Option.bind_some, clone_val (by omega), Option.bind_some, ap_of (by rw [List.length_singleton]; omega), Option.bind_some, Option.bind_some, Option.bind_some, Int.toNat_natCast]
      rw [same_lines (by rw [List.length_set]; omega) (fun i => ?_), Option.bind_some, if_pos rfl]
      · rfl
      · by_cases e : c = i
        · subst e; rw [getD_set_self _ _ hc, List.length_append, List.length_singleton]; omega
        · rw [getD_set_ne _ _ e]; have := o.d i; omega
theorem j2_val {l : Ls} {x t : Int} (hb : Bd l) {a b : Ls} {e t1 f v : Int} (h1 : steal_Push l x t = some (a, e)) (h2 : steal_Pop l x = some (b, t1, f)) (h3 : steal_Victim l x = some v) :
    roadlaw3_StealTells.j2 l x t a e b t1 f v (fault l) = some true := by
  have none_ : ∀ k : Int, k ≠ 0 → steal_check l x = some k → roadlaw3_StealTells.j3 l x t a e b t1 f v k = some true := by
    intro k hk hck
    unfold steal_Push at h1
    unfold steal_Pop at h2
    unfold steal_Victim at h3
    rw [hck, Option.bind_some, if_neg hk] at h1 h2 h3
    cases h1; cases h2; cases h3
    unfold roadlaw3_StealTells.j3
    rw [if_neg hk, if_pos (by rfl), if_pos rfl, if_pos rfl, if_pos rfl]
    simp
  unfold roadlaw3_StealTells.j2
  by_cases h0 : fault l = 0
  · rw [if_pos h0, In_val, Option.bind_some]
    have o := fault_ok.1 h0
    have o1 := o.1
    have o2 := o.2.1
    by_cases hx : 0 ≤ x ∧ x < l.length
    · rw [wrap_in (by omega) (by omega), decide_eq_true (by omega), if_pos rfl, h0]
      obtain ⟨c, rfl⟩ := Int.eq_ofNat_of_zero_le hx.1
      have hc : c < l.length := by omega
      have hj := j4_val o hc h1
      rw [Victim_ok o hc] at h3
      cases h3
      unfold roadlaw3_StealTells.j3
      rw [if_pos rfl, (vic_rob hc o2).1, Option.bind_some, if_pos rfl, Popped_val o hc, Option.bind_some]
      rw [Pop_val o hc] at h2
      have h2 := Option.some.inj h2
      cases hp : popv l c with
      | none =>
        rw [hp] at h2
        cases h2
        rw [if_neg (by simp), if_neg (by simp), if_neg (by simp), if_pos rfl, if_pos rfl]
        exact hj
      | some p =>
        obtain ⟨y, u⟩ := p
        rw [hp] at h2
        cases h2
        rw [if_pos rfl, (popv_ok o hc hp).1.same, Option.bind_some, if_pos rfl, if_pos rfl, if_pos rfl, if_pos rfl]
        exact hj
    · rw [wrap_in (by omega) (by omega), decide_eq_false (by omega), if_neg (by decide)]
      exact none_ 4 (by decide) (check_no o (by omega))
  · rw [if_neg h0]
    exact none_ _ h0 (by rw [check_val hb, if_neg h0])
theorem law_l0 {l : Ls} {x t : Int} (hb : Bd l) {a b : Ls} {e t1 f v : Int} (h1 : steal_Push l x t = some (a, e)) (h2 : steal_Pop l x = some (b, t1, f)) (h3 : steal_Victim l x = some v) (o : Ok l) {ts : List Int} (ht : ts.length ≤ 100) {D : Ls} {N : Ls} (hN : Ok N) (hD : D.length ≤ 1000) : ∀ (r pre : List Int) (now did : Ls), ts = pre ++ r → Ok now → now.length = l.length → did.length ≤ pre.length → runv now did r = (D, N) →
    roadlaw3_StealTells.l0 l x t a e b t1 f v D N (fault l) did now ts (ts.length : Int) (pre.length : Int) = some true := by
  intro r
  induction r with
  | nil =>
    intro pre now did he on hn hd hr
    rw [roadlaw3_StealTells.l0_eq, if_neg (by rw [he, List.append_nil]; exact nlt _)]
    cases hr
    rw [equal_val hD, Option.bind_some, if_pos rfl, hN.same, Option.bind_some, if_pos rfl]
    exact j2_val hb h1 h2 h3
  | cons c r ih =>
    intro pre now did he on hn hd hr
    have hl : ts.length = pre.length + (r.length + 1) := by rw [he]; simp
    have o1 := o.1
    have o2 := o.2.1
    rw [roadlaw3_StealTells.l0_eq, if_pos (by omega), gi_some (k := pre.length) rfl (by rw [he]; simp : ts[pre.length]? = some c), Option.bind_some, In_val, Option.bind_some, w_succ (by omega), wrap_in (n := (l.length : Int) - 1) (by omega) (by omega)]
    rw [runv] at hr
    have skip : stepv now c = none → roadlaw3_StealTells.l0 l x t a e b t1 f v D N (fault l) did now ts (ts.length : Int) ((pre.length + 1 : Nat) : Int) = some true := by
      intro hs
      rw [hs] at hr
      have := ih (pre ++ [c]) now did (by rw [he]; simp) on hn (by rw [List.length_append]; omega) hr
      rw [List.length_append, List.length_singleton] at this
      exact this
    by_cases hx : 0 ≤ c ∧ c < l.length
    · rw [decide_eq_true (by omega), if_pos rfl]
      obtain ⟨k, rfl⟩ := Int.eq_ofNat_of_zero_le hx.1
      have hk : k < now.length := by omega
      have hs : stepv now (k : Int) = popv now k := by unfold stepv; rw [if_pos (by omega), Int.toNat_natCast]
      rw [Popped_val on hk, Option.bind_some]
      cases hp : popv now k with
      | none =>
        rw [if_neg (by simp)]
        exact skip (by rw [hs, hp])
      | some p =>
        obtain ⟨y, u⟩ := p
        rw [hs, hp] at hr
        have hy := popv_ok on hk hp
        have := ih (pre ++ [(k : Int)]) y (did ++ [[(k : Int), u]]) (by rw [he]; simp) hy.1 (by rw [hy.2, hn]) (by simp only [List.length_append, List.length_singleton]; omega) hr
        rw [List.length_append, List.length_singleton] at this
        rw [if_pos rfl, ap_of (by rw [List.length_singleton]; omega), Option.bind_some]
        exact this
    · rw [decide_eq_false (by omega), if_neg (by decide)]
      refine skip ?_
      unfold stepv; rw [if_neg (by rw [hn]; exact hx)]
theorem push_some {l : Ls} (hb : Bd l) (x t : Int) : ∃ r, steal_Push l x t = some r := by
  by_cases h0 : fault l = 0
  · have o := fault_ok.1 h0
    by_cases hx : 0 ≤ x ∧ x < l.length
    · obtain ⟨c, rfl⟩ := Int.eq_ofNat_of_zero_le hx.1
      exact ⟨_, Push_val o (by omega)⟩
    · unfold steal_Push; rw [check_no o (by omega), Option.bind_some, if_neg (by decide)]; exact ⟨_, rfl⟩
  · unfold steal_Push; rw [check_val hb, if_neg h0, Option.bind_some, if_neg h0]; exact ⟨_, rfl⟩
theorem pop_some {l : Ls} (hb : Bd l) (x : Int) : ∃ r, steal_Pop l x = some r := by
  by_cases h0 : fault l = 0
  · exact ⟨_, Pop_step (fault_ok.1 h0) x⟩
  · unfold steal_Pop; rw [check_val hb, if_neg h0, Option.bind_some, if_neg h0]; exact ⟨_, rfl⟩
theorem victim_some {l : Ls} (hb : Bd l) (x : Int) : ∃ r, steal_Victim l x = some r := by
  by_cases h0 : fault l = 0
  · have o := fault_ok.1 h0
    by_cases hx : 0 ≤ x ∧ x < l.length
    · obtain ⟨c, rfl⟩ := Int.eq_ofNat_of_zero_le hx.1
      exact ⟨_, Victim_ok o (by omega)⟩
    · unfold steal_Victim; rw [check_no o (by omega), Option.bind_some, if_neg (by decide)]; exact ⟨_, rfl⟩
  · unfold steal_Victim; rw [check_val hb, if_neg h0, Option.bind_some, if_neg h0]; exact ⟨_, rfl⟩
theorem StealTells (l : List (List Int)) (cpu task : Int) (turns : List Int) (hl : l.length * 24 ≤ 140737488351232 ∧ ∀ x ∈ l, (x.length * 8 ≤ 140737488351232 ∧ ∀ y ∈ x, (-9223372036854775808 ≤ y ∧ y ≤ 9223372036854775807))) (hc : -9223372036854775808 ≤ cpu ∧ cpu ≤ 9223372036854775807) (ht : -9223372036854775808 ≤ task ∧ task ≤ 9223372036854775807) (hts : turns.length * 8 ≤ 140737488351232 ∧ ∀ x ∈ turns, (-9223372036854775808 ≤ x ∧ x ≤ 9223372036854775807)) : roadlaw3_StealTells l cpu task turns = some true := by
  have hb : Bd l := fun x hx => (hl.2 x hx).1
  obtain ⟨⟨a, e⟩, h1⟩ := push_some hb cpu task
  obtain ⟨⟨b, t1, f⟩, h2⟩ := pop_some hb cpu
  obtain ⟨v, h3⟩ := victim_some hb cpu
  have fin_ := j2_val hb h1 h2 h3
  unfold roadlaw3_StealTells
  rw [h1, Option.bind_some, h2, Option.bind_some, h3, Option.bind_some, Run_val hb, Option.bind_some, LinesFault_val hb, Option.bind_some, Check_val hb, Option.bind_some, if_pos rfl]
  by_cases h0 : fault l = 0
  · have o := fault_ok.1 h0
    rw [if_pos h0, if_pos h0]
    by_cases h100 : 100 < turns.length
    · rw [if_pos (by omega), if_pos h100]
      unfold roadlaw3_StealTells.j0 roadlaw3_StealTells.j1
      rw [if_pos rfl, if_neg (by decide), if_neg (by decide), if_neg (by decide)]
      exact fin_
    · rw [if_neg (by omega), if_neg h100]
      unfold roadlaw3_StealTells.j0 roadlaw3_StealTells.j1
      rw [if_pos h0.symm, if_pos h0, if_pos h0]
      have hr := runv_ok turns l [] o
      have := law_l0 (D := (runv l [] turns).1) hb h1 h2 h3 o (by omega : turns.length ≤ 100) hr.1 (by have := hr.2; simp at this; omega) turns [] l [] rfl o rfl (by simp) (by rfl)
      exact this
  · rw [if_neg h0, if_neg h0]
    unfold roadlaw3_StealTells.j0 roadlaw3_StealTells.j1
    rw [if_pos rfl, if_neg h0]
    refine (if_neg (show ¬ (IntKind.wrap .i64 (((0 : Nat) : Int) + ((0 : Nat) : Int)) > 0) from by decide)).trans ?_
    rw [if_neg h0]
    exact fin_
end Go.Proofs.Ytdlihfedhojdgaa.Fw

end
section
namespace Go.Proofs.Ytdlihfedhojdgaa.stealTells
open Go Go.Hw Go.ChangeShapes Go.WideShapes Go.ChangeAt Go.RowKit Go.Proofs.Ytdlihfedhojdgaa.Fw
open Go.ChangeMaps (open_string shut_string)
set_option linter.unusedVariables false
theorem own : ownKnob Try.prog.godebug = none := by kernel_rfl
theorem laidOut : laidOutB Try.prog = true := by kernel_rfl
set_option maxRecDepth 100000 in
theorem lifted (os : Os) (started : os.Started) (H : Type) (enc : TypeId × Value → H) :
    ReturnsInHanded {} Try.checked os 5 .any (Rows.stealTellsSpec.pre6 enc Try.prog Try.f5 Rows.stealTellsRow.domain false) (Rows.stealTellsSpec.post enc Try.prog Try.f5 false true false false) := by
  refine returnsInHanded_of_change_sized (C := Try.checked) own started (by kernel_rfl) Try.func5
    (ChangeSpec.witness6 (enc := enc) (C := Try.checked) false ⟨#[], #[(.slice none 0 0), (.int .i64 (0 : Int)), (.int .i64 (0 : Int)), (.slice none 0 0)], []⟩ 8 (by kernel_rfl) (by kernel_rfl) (by kernel_rfl) (by kernel_rfl)) ?_
  intro W base args ds gs before hval0 hW hcnd hsz0 _
  have hsz : (DataW.weightsEach Try.prog (Try.f5.params.toList ++ Rows.stealTellsSpec.plain.varTypes Try.prog) (ds ++ gs)).all (· ≤ reachBytes) = true := hsz0
  have hval : ∀ (j : Nat) t v, Try.f5.params[j]? = some t → args[j]? = some v → Value.okWide Try.prog W .any base t v := hval0
  have hW' := hW
  obtain ⟨p, q, hA0, hV, rfl, hfz, hnd⟩ := hW
  have hA : DataW.TrodAll enc Try.prog W 0 (fun _ => true) true Try.f5.params.toList args.toList ds p := hA0
  rw [Try.params5] at hA hval hsz
  obtain ⟨v0, vs0, d0, ds0, p0, q0_, hargs, rfl, rfl, h0, r0_⟩ := trodAll_cons hA
  obtain ⟨v1, vs1, d1, ds1, p1, q1_, rfl, rfl, rfl, h1, r1_⟩ := trodAll_cons r0_
  obtain ⟨v2, vs2, d2, ds2, p2, q2_, rfl, rfl, rfl, h2, r2_⟩ := trodAll_cons r1_
  obtain ⟨v3, vs3, d3, ds3, p3, q3_, rfl, rfl, rfl, h3, r3_⟩ := trodAll_cons r2_
  obtain ⟨rfl, rfl, rfl⟩ := trodAll_nil r3_
  obtain rfl : args = #[v0, v1, v2, v3] := by cases args; simp_all
  obtain ⟨rfl, rfl⟩ := trodVars_none hV
  have hs : (DataW.weightsEach Try.prog [54, 3, 3, 45] [d0, d1, d2, d3]).all (· ≤ reachBytes) = true := hsz
  simp only [DataW.weightsEach, List.append_nil, List.all_append, Bool.and_eq_true] at hs
  obtain ⟨hw0, hw1, hw2, hw3⟩ := hs
  have k0 := h0
  have lt0 : ∀ x ∈ p0, x.block < W.heap.size := by obtain ⟨m, hm⟩ := k0; exact DataW.trod_lt m _ _ _ hm
  obtain ⟨A0, n0, c0, rfl⟩ := okWide_slice (show Try.prog.underlying 54 = some (.slice 45) by kernel_rfl) (hval 0 54 v0 rfl rfl)
  obtain ⟨fuel0, hf0⟩ := h0
  obtain ⟨l0, ⟨A0', c0', hcs0, hle0, r0⟩, q0⟩ := (tells_sliceL (t := 54) (e := 45) (sz := 1) (B := 24) (by kernel_rfl) (by kernel_rfl) (by kernel_rfl) (tells_sliceL (t := 45) (e := 3) (sz := 1) (B := 8) (by kernel_rfl) (by kernel_rfl) (by kernel_rfl) (tells_i64 (t := 3) (by kernel_rfl)))) fuel0 _ _ hf0 hw0
  simp only [Value.cells, List.cons.injEq, Value.slice.injEq, and_true] at hcs0
  obtain ⟨rfl, rfl, rfl⟩ := hcs0
  have k1 := h1
  have lt1 : ∀ x ∈ p1, x.block < W.heap.size := by obtain ⟨m, hm⟩ := k1; exact DataW.trod_lt m _ _ _ hm
  obtain ⟨a1, rfl, rfl, rfl, w1⟩ := open_int (show Try.prog.underlying 3 = some (.int .i64) by kernel_rfl) (hval 1 3 v1 rfl rfl) h1
  have k2 := h2
  have lt2 : ∀ x ∈ p2, x.block < W.heap.size := by obtain ⟨m, hm⟩ := k2; exact DataW.trod_lt m _ _ _ hm
  obtain ⟨a2, rfl, rfl, rfl, w2⟩ := open_int (show Try.prog.underlying 3 = some (.int .i64) by kernel_rfl) (hval 2 3 v2 rfl rfl) h2
  have k3 := h3
  have lt3 : ∀ x ∈ p3, x.block < W.heap.size := by obtain ⟨m, hm⟩ := k3; exact DataW.trod_lt m _ _ _ hm
  obtain ⟨A3, n3, c3, rfl⟩ := okWide_slice (show Try.prog.underlying 45 = some (.slice 3) by kernel_rfl) (hval 3 45 v3 rfl rfl)
  obtain ⟨fuel3, hf3⟩ := h3
  obtain ⟨l3, ⟨A3', c3', hcs3, hle3, r3⟩, q3⟩ := (tells_sliceL (t := 45) (e := 3) (sz := 1) (B := 8) (by kernel_rfl) (by kernel_rfl) (by kernel_rfl) (tells_i64 (t := 3) (by kernel_rfl))) fuel3 _ _ hf3 hw3
  simp only [Value.cells, List.cons.injEq, Value.slice.injEq, and_true] at hcs3
  obtain ⟨rfl, rfl, rfl⟩ := hcs3
  refine ((Run.mono (R' := fun v h' => v = Value.bool true ∧ Ext W.heap h') (Fw.roadlaw3_StealTells.walk (W := No) (Hold.start (Sub.refl _)) rfl hle0 r0 rfl hle3 r3 (Fw.StealTells l0 a1 a2 l3 q0 (wf_i64 w1) (wf_i64 w2) q3)) (fun v h' hp => by obtain ⟨m', st, hv⟩ := hp; exact ⟨hv, st.S.ext⟩)) W rfl).mono fun e W' he => ?_
  obtain ⟨v, rfl, ⟨rfl, ext⟩, same⟩ := he
  have bel := below_of ext same
  exact ⟨_, rfl, _, _, _, [], _, [], hW', trodAll_mk1 (shut_bool (show Try.prog.underlying 4 = some .bool by kernel_rfl) _), (trodAll_cons_mk (Below.trod laidOut (by kernel_rfl) (of_decide_eq_true (by kernel_rfl)) k0 bel lt0) (trodAll_cons_mk (Below.trod laidOut (by kernel_rfl) (of_decide_eq_true (by kernel_rfl)) k1 bel lt1) (trodAll_cons_mk (Below.trod laidOut (by kernel_rfl) (of_decide_eq_true (by kernel_rfl)) k2 bel lt2) (trodAll_cons_mk (Below.trod laidOut (by kernel_rfl) (of_decide_eq_true (by kernel_rfl)) k3 bel lt3) trodAll_mk0)))), rfl, bel.frame _, fun h => by cases h⟩
theorem over : Rows.stealTellsRow.holds Try.pinned (OpenSpec.ofChange Rows.stealTellsSpec) :=
  OpenClaim.holds_of_wide 5 Try.f5 rfl rfl rfl rfl rfl rfl rfl ⟨rfl, rfl, rfl, rfl, rfl⟩ rfl rfl rfl rfl rfl (by kernel_rfl) Try.func5 (by kernel_rfl)
    (of_decide_eq_true (by kernel_rfl)) (by unfold Func.isWrapper; first | (rw [if_pos (by decide +kernel)]; kernel_rfl) | (rw [if_neg (by decide +kernel)]; exact ⟨rfl, rfl⟩))
    (fun os started H enc _ => lifted os started H enc)
end Go.Proofs.Ytdlihfedhojdgaa.stealTells
namespace Go.Proofs.Ytdlihfedhojdgaa
theorem stealTells_holds : Rows.StealTellsSaid := stealTells.over
end Go.Proofs.Ytdlihfedhojdgaa

end
