/- Part 6: what the law ScopeSays needs, put together out of texts of this session. -/
import Derived.Test.YtmcfmmoaofileaaZScopeSayse
section
namespace Go.Proofs.Ytmcfmmoaofileaa.Fw
open Go Go.Hw Go.Proofs
set_option linter.unusedVariables false
set_option maxRecDepth 100000
set_option synthInstance.maxHeartbeats 400000
set_option synthInstance.maxSize 1000
def sq212.post (W : Nat → Prop) (Asl0 : Option Addr) (nsl0 csl0 : Nat) (h0 m0 : Heap) (r : Int × (List ByteArray)) (v : Value) (h : Heap) : Prop := ∃ m , Hold W h0 m0 h m [rR (aE tell_str) Asl0 csl0 r.2] ∧ v = .int .i64 r.1 ∧ nsl0 = List.length r.2
inductive sq212.l0_k.Pt where
  | l0 (a_0 : List ByteArray) (x_1 : Int) (x_9 : Int) (x_10 : Int)
  | l1 (a_0 : List ByteArray) (x_1 : Int) (x_9 : Int) (x_10 : Int)
  | j2 (a_0 : List ByteArray) (x_1 : Int) (x_9 : Int) (x_10 : Int)
  | j0 (a_0 : List ByteArray) (x_1 : Int) (x_9 : Int) (x_10 : Int)
  | l2 (a_0 : List ByteArray) (x_1 : Int) (x_9 : Int) (x_10 : Int)
  | j3 (a_0 : List ByteArray) (x_1 : Int) (x_9 : Int) (x_10 : Int)
  | j1 (a_0 : List ByteArray) (x_1 : Int) (x_9 : Int) (x_10 : Int)
noncomputable def sq212.l0_k.body (go : (p : sq212.l0_k.Pt) → Option (Int × (List ByteArray))) : (p : sq212.l0_k.Pt) → Option (Int × (List ByteArray))
  | .l0 a_0 x_1 x_9 x_10 => (go (.l1 a_0 x_1 x_9 x_10))
  | .l1 a_0 x_1 x_9 x_10 => if x_9 ≤ x_10 then (Option.bind (gi a_0 x_1) fun y1 => Option.bind (gi a_0 x_9) fun y8 => Option.bind (cmp_Less_211 y1 y8) fun y15 => if y15 = true then ((go (.j0 a_0 x_1 x_9 x_10))) else ((go (.j2 a_0 x_1 x_9 x_10)))) else ((go (.j0 a_0 x_1 x_9 x_10)))
  | .j2 a_0 x_1 x_9 x_10 => (go (.l1 a_0 x_1 (IntKind.wrap .i64 (x_9 + (1 : Int))) x_10))
  | .j0 a_0 x_1 x_9 x_10 => (go (.l2 a_0 x_1 x_9 x_10))
  | .l2 a_0 x_1 x_9 x_10 => if x_9 ≤ x_10 then (Option.bind (gi a_0 x_1) fun y1 => Option.bind (gi a_0 x_10) fun y8 => Option.bind (cmp_Less_211 y1 y8) fun y15 => if y15 = true then ((go (.j3 a_0 x_1 x_9 x_10))) else ((go (.j1 a_0 x_1 x_9 x_10)))) else ((go (.j1 a_0 x_1 x_9 x_10)))
  | .j3 a_0 x_1 x_9 x_10 => (go (.l2 a_0 x_1 x_9 (IntKind.wrap .i64 (x_10 - (1 : Int)))))
  | .j1 a_0 x_1 x_9 x_10 => if x_9 > x_10 then (some (x_9, a_0)) else (Option.bind (gi a_0 x_10) fun y1 => Option.bind (gi a_0 x_9) fun y8 => Option.bind (gi a_0 x_9) fun y15 => Option.bind (some (List.set a_0 (Int.toNat x_9) y1)) fun l24 => Option.bind (gi l24 x_10) fun y26 => Option.bind (some (List.set l24 (Int.toNat x_10) y8)) fun l35 => (go (.l0 l35 x_1 (IntKind.wrap .i64 (x_9 + (1 : Int))) (IntKind.wrap .i64 (x_10 - (1 : Int))))))
attribute [local irreducible] cmp_Less_211 in
theorem sq212.l0_k.mono : MonoF (β := fun _ => (Int × (List ByteArray))) sq212.l0_k.body := fun f g hfg p => match p with
  | .l0 a_0 x_1 x_9 x_10 => (hfg _)
  | .l1 a_0 x_1 x_9 x_10 => LeO.ite (LeO.bind (LeO.refl _) fun y1 => LeO.bind (LeO.refl _) fun y8 => LeO.bind (LeO.refl _) fun y15 => LeO.ite ((hfg _)) ((hfg _))) ((hfg _))
  | .j2 a_0 x_1 x_9 x_10 => (hfg _)
  | .j0 a_0 x_1 x_9 x_10 => (hfg _)
  | .l2 a_0 x_1 x_9 x_10 => LeO.ite (LeO.bind (LeO.refl _) fun y1 => LeO.bind (LeO.refl _) fun y8 => LeO.bind (LeO.refl _) fun y15 => LeO.ite ((hfg _)) ((hfg _))) ((hfg _))
  | .j3 a_0 x_1 x_9 x_10 => (hfg _)
  | .j1 a_0 x_1 x_9 x_10 => LeO.ite (LeO.refl _) (LeO.bind (LeO.refl _) fun y1 => LeO.bind (LeO.refl _) fun y8 => LeO.bind (LeO.refl _) fun y15 => LeO.bind (LeO.refl _) fun l24 => LeO.bind (LeO.refl _) fun y26 => LeO.bind (LeO.refl _) fun l35 => (hfg _))
noncomputable def sq212.l0_k.go (p : sq212.l0_k.Pt) : Option (Int × (List ByteArray)) := fixF (β := fun _ => (Int × (List ByteArray))) sq212.l0_k.body p
noncomputable def sq212.l0 (a_0 x_1 x_9 x_10) := sq212.l0_k.go (.l0 a_0 x_1 x_9 x_10)
noncomputable def sq212.l1 (a_0 x_1 x_9 x_10) := sq212.l0_k.go (.l1 a_0 x_1 x_9 x_10)
noncomputable def sq212.j2 (a_0 x_1 x_9 x_10) := sq212.l0_k.go (.j2 a_0 x_1 x_9 x_10)
noncomputable def sq212.j0 (a_0 x_1 x_9 x_10) := sq212.l0_k.go (.j0 a_0 x_1 x_9 x_10)
noncomputable def sq212.l2 (a_0 x_1 x_9 x_10) := sq212.l0_k.go (.l2 a_0 x_1 x_9 x_10)
noncomputable def sq212.j3 (a_0 x_1 x_9 x_10) := sq212.l0_k.go (.j3 a_0 x_1 x_9 x_10)
noncomputable def sq212.j1 (a_0 x_1 x_9 x_10) := sq212.l0_k.go (.j1 a_0 x_1 x_9 x_10)
theorem sq212.l0_eq (a_0 x_1 x_9 x_10) : sq212.l0 a_0 x_1 x_9 x_10 = (sq212.l1 a_0 x_1 x_9 x_10) := fixF_eq sq212.l0_k.mono _
theorem sq212.l1_eq (a_0 x_1 x_9 x_10) : sq212.l1 a_0 x_1 x_9 x_10 = if x_9 ≤ x_10 then (Option.bind (gi a_0 x_1) fun y1 => Option.bind (gi a_0 x_9) fun y8 => Option.bind (cmp_Less_211 y1 y8) fun y15 => if y15 = true then ((sq212.j0 a_0 x_1 x_9 x_10)) else ((sq212.j2 a_0 x_1 x_9 x_10))) else ((sq212.j0 a_0 x_1 x_9 x_10)) := fixF_eq sq212.l0_k.mono _
theorem sq212.j2_eq (a_0 x_1 x_9 x_10) : sq212.j2 a_0 x_1 x_9 x_10 = (sq212.l1 a_0 x_1 (IntKind.wrap .i64 (x_9 + (1 : Int))) x_10) := fixF_eq sq212.l0_k.mono _
theorem sq212.j0_eq (a_0 x_1 x_9 x_10) : sq212.j0 a_0 x_1 x_9 x_10 = (sq212.l2 a_0 x_1 x_9 x_10) := fixF_eq sq212.l0_k.mono _
theorem sq212.l2_eq (a_0 x_1 x_9 x_10) : sq212.l2 a_0 x_1 x_9 x_10 = if x_9 ≤ x_10 then (Option.bind (gi a_0 x_1) fun y1 => Option.bind (gi a_0 x_10) fun y8 => Option.bind (cmp_Less_211 y1 y8) fun y15 => if y15 = true then ((sq212.j3 a_0 x_1 x_9 x_10)) else ((sq212.j1 a_0 x_1 x_9 x_10))) else ((sq212.j1 a_0 x_1 x_9 x_10)) := fixF_eq sq212.l0_k.mono _
theorem sq212.j3_eq (a_0 x_1 x_9 x_10) : sq212.j3 a_0 x_1 x_9 x_10 = (sq212.l2 a_0 x_1 x_9 (IntKind.wrap .i64 (x_10 - (1 : Int)))) := fixF_eq sq212.l0_k.mono _
theorem sq212.j1_eq (a_0 x_1 x_9 x_10) : sq212.j1 a_0 x_1 x_9 x_10 = if x_9 > x_10 then (some (x_9, a_0)) else (Option.bind (gi a_0 x_10) fun y1 => Option.bind (gi a_0 x_9) fun y8 => Option.bind (gi a_0 x_9) fun y15 => Option.bind (some (List.set a_0 (Int.toNat x_9) y1)) fun l24 => Option.bind (gi l24 x_10) fun y26 => Option.bind (some (List.set l24 (Int.toNat x_10) y8)) fun l35 => (sq212.l0 l35 x_1 (IntKind.wrap .i64 (x_9 + (1 : Int))) (IntKind.wrap .i64 (x_10 - (1 : Int))))) := fixF_eq sq212.l0_k.mono _
def sq212.l0_k.I : (p : sq212.l0_k.Pt) → (Int × (List ByteArray)) → Prop
  | .l0 a_0 x_1 x_9 x_10, r => ∀ {W h0 m0 h m A_0 n_0 c_0} (O : Hold W h0 m0 h m [rR (aE tell_str) A_0 c_0 a_0]) (ne_0 : n_0 = List.length a_0), f212.l0 (sq212.post W A_0 n_0 c_0 h0 m0 r) A_0 n_0 c_0 x_1 x_9 x_10 h
  | .l1 a_0 x_1 x_9 x_10, r => ∀ {W h0 m0 h m A_0 n_0 c_0} (O : Hold W h0 m0 h m [rR (aE tell_str) A_0 c_0 a_0]) (ne_0 : n_0 = List.length a_0), f212.l1 (sq212.post W A_0 n_0 c_0 h0 m0 r) A_0 n_0 c_0 x_1 x_9 x_10 h
  | .j2 a_0 x_1 x_9 x_10, r => ∀ {W h0 m0 h m A_0 n_0 c_0} (O : Hold W h0 m0 h m [rR (aE tell_str) A_0 c_0 a_0]) (ne_0 : n_0 = List.length a_0), f212.j2 (sq212.post W A_0 n_0 c_0 h0 m0 r) A_0 n_0 c_0 x_1 x_9 x_10 h
  | .j0 a_0 x_1 x_9 x_10, r => ∀ {W h0 m0 h m A_0 n_0 c_0} (O : Hold W h0 m0 h m [rR (aE tell_str) A_0 c_0 a_0]) (ne_0 : n_0 = List.length a_0), f212.j0 (sq212.post W A_0 n_0 c_0 h0 m0 r) A_0 n_0 c_0 x_1 x_9 x_10 h
  | .l2 a_0 x_1 x_9 x_10, r => ∀ {W h0 m0 h m A_0 n_0 c_0} (O : Hold W h0 m0 h m [rR (aE tell_str) A_0 c_0 a_0]) (ne_0 : n_0 = List.length a_0), f212.l2 (sq212.post W A_0 n_0 c_0 h0 m0 r) A_0 n_0 c_0 x_1 x_9 x_10 h
  | .j3 a_0 x_1 x_9 x_10, r => ∀ {W h0 m0 h m A_0 n_0 c_0} (O : Hold W h0 m0 h m [rR (aE tell_str) A_0 c_0 a_0]) (ne_0 : n_0 = List.length a_0), f212.j3 (sq212.post W A_0 n_0 c_0 h0 m0 r) A_0 n_0 c_0 x_1 x_9 x_10 h
  | .j1 a_0 x_1 x_9 x_10, r => ∀ {W h0 m0 h m A_0 n_0 c_0} (O : Hold W h0 m0 h m [rR (aE tell_str) A_0 c_0 a_0]) (ne_0 : n_0 = List.length a_0), f212.j1 (sq212.post W A_0 n_0 c_0 h0 m0 r) A_0 n_0 c_0 x_1 x_9 x_10 h
theorem sq212.l0_k.step_l0 (go : (p : sq212.l0_k.Pt) → Option (Int × (List ByteArray))) (ih : ∀ p r, go p = some r → sq212.l0_k.I p r) (a_0 x_1 x_9 x_10) (r) (e : sq212.l0_k.body go (.l0 a_0 x_1 x_9 x_10) = some r) : sq212.l0_k.I (.l0 a_0 x_1 x_9 x_10) r := by
  unfold sq212.l0_k.body at e
  intro W h0 m0 h m A_0 n_0 c_0 O ne_0
  subst ne_0
  refine f212.l0_in ?_
  unfold f212.l0T
  exact (ih _ _ e) (O.pick [0]).nm rfl
theorem sq212.l0_k.step_l1 (go : (p : sq212.l0_k.Pt) → Option (Int × (List ByteArray))) (ih : ∀ p r, go p = some r → sq212.l0_k.I p r) (a_0 x_1 x_9 x_10) (r) (e : sq212.l0_k.body go (.l1 a_0 x_1 x_9 x_10) = some r) : sq212.l0_k.I (.l1 a_0 x_1 x_9 x_10) r := by
  unfold sq212.l0_k.body at e
  intro W h0 m0 h m A_0 n_0 c_0 O ne_0
  subst ne_0
  refine f212.l1_in ?_
  unfold f212.l1T
  refine split_dec_e e (fun c23 e => ?_) (fun c23 e => ?_)
  · obtain ⟨y1, g2, e⟩ := bind_e e
    refine (O.os 0 rfl).addr rfl g2 fun a3 cs4 ha5 hc6 he7 => ?_
    obtain rfl : cs4 = [(Value.string y1)] := he7
    obtain ⟨y8, g9, e⟩ := bind_e e
    refine (O.os 0 rfl).addr rfl g9 fun a10 cs11 ha12 hc13 he14 => ?_
    obtain rfl : cs11 = [(Value.string y8)] := he14
    refine ⟨_, ld0 (Sub.refl _) hc6 rfl, _, rfl, ?_⟩
    refine ⟨_, ld0 (Sub.refl _) hc13 rfl, _, rfl, ?_⟩
    obtain ⟨y15, g16, e⟩ := bind_e e
    refine (cmp_Less_211.walk (Hold.start (W := No) O.s)  g16).mono ?_
    rintro _ h17 ⟨m18, Q19, rfl⟩
    have O21 := Hold.nm (O.retC Q19 vfs_nil)
    refine ⟨_, rfl, ?_⟩
    refine split_not ?_
    refine split_any_e e (fun c22 e => ?_) (fun c22 e => ?_)
    · exact (ih _ _ e) (O21.pick [0]).nm rfl
    · exact (ih _ _ e) (O21.pick [0]).nm rfl
  · exact (ih _ _ e) (O.pick [0]).nm rfl
theorem sq212.l0_k.step_j2 (go : (p : sq212.l0_k.Pt) → Option (Int × (List ByteArray))) (ih : ∀ p r, go p = some r → sq212.l0_k.I p r) (a_0 x_1 x_9 x_10) (r) (e : sq212.l0_k.body go (.j2 a_0 x_1 x_9 x_10) = some r) : sq212.l0_k.I (.j2 a_0 x_1 x_9 x_10) r := by
  unfold sq212.l0_k.body at e
  intro W h0 m0 h m A_0 n_0 c_0 O ne_0
  subst ne_0
  refine f212.j2_in ?_
  unfold f212.j2T
  exact (ih _ _ e) (O.pick [0]).nm rfl
theorem sq212.l0_k.step_j0 (go : (p : sq212.l0_k.Pt) → Option (Int × (List ByteArray))) (ih : ∀ p r, go p = some r → sq212.l0_k.I p r) (a_0 x_1 x_9 x_10) (r) (e : sq212.l0_k.body go (.j0 a_0 x_1 x_9 x_10) = some r) : sq212.l0_k.I (.j0 a_0 x_1 x_9 x_10) r := by
  unfold sq212.l0_k.body at e
  intro W h0 m0 h m A_0 n_0 c_0 O ne_0
  subst ne_0
  refine f212.j0_in ?_
  unfold f212.j0T
  exact (ih _ _ e) (O.pick [0]).nm rfl
theorem sq212.l0_k.step_l2 (go : (p : sq212.l0_k.Pt) → Option (Int × (List ByteArray))) (ih : ∀ p r, go p = some r → sq212.l0_k.I p r) (a_0 x_1 x_9 x_10) (r) (e : sq212.l0_k.body go (.l2 a_0 x_1 x_9 x_10) = some r) : sq212.l0_k.I (.l2 a_0 x_1 x_9 x_10) r := by
  unfold sq212.l0_k.body at e
  intro W h0 m0 h m A_0 n_0 c_0 O ne_0
  subst ne_0
  refine f212.l2_in ?_
  unfold f212.l2T
  refine split_dec_e e (fun c23 e => ?_) (fun c23 e => ?_)
  · obtain ⟨y1, g2, e⟩ := bind_e e
    refine (O.os 0 rfl).addr rfl g2 fun a3 cs4 ha5 hc6 he7 => ?_
    obtain rfl : cs4 = [(Value.string y1)] := he7
    obtain ⟨y8, g9, e⟩ := bind_e e
    refine (O.os 0 rfl).addr rfl g9 fun a10 cs11 ha12 hc13 he14 => ?_
    obtain rfl : cs11 = [(Value.string y8)] := he14
    refine ⟨_, ld0 (Sub.refl _) hc6 rfl, _, rfl, ?_⟩
    refine ⟨_, ld0 (Sub.refl _) hc13 rfl, _, rfl, ?_⟩
    obtain ⟨y15, g16, e⟩ := bind_e e
    refine (cmp_Less_211.walk (Hold.start (W := No) O.s)  g16).mono ?_
    rintro _ h17 ⟨m18, Q19, rfl⟩
    have O21 := Hold.nm (O.retC Q19 vfs_nil)
    refine ⟨_, rfl, ?_⟩
    refine split_any_e e (fun c22 e => ?_) (fun c22 e => ?_)
    · exact (ih _ _ e) (O21.pick [0]).nm rfl
    · exact (ih _ _ e) (O21.pick [0]).nm rfl
  · exact (ih _ _ e) (O.pick [0]).nm rfl
theorem sq212.l0_k.step_j3 (go : (p : sq212.l0_k.Pt) → Option (Int × (List ByteArray))) (ih : ∀ p r, go p = some r → sq212.l0_k.I p r) (a_0 x_1 x_9 x_10) (r) (e : sq212.l0_k.body go (.j3 a_0 x_1 x_9 x_10) = some r) : sq212.l0_k.I (.j3 a_0 x_1 x_9 x_10) r := by
  unfold sq212.l0_k.body at e
  intro W h0 m0 h m A_0 n_0 c_0 O ne_0
  subst ne_0
  refine f212.j3_in ?_
  unfold f212.j3T
  exact (ih _ _ e) (O.pick [0]).nm rfl
theorem sq212.l0_k.step_j1 (go : (p : sq212.l0_k.Pt) → Option (Int × (List ByteArray))) (ih : ∀ p r, go p = some r → sq212.l0_k.I p r) (a_0 x_1 x_9 x_10) (r) (e : sq212.l0_k.body go (.j1 a_0 x_1 x_9 x_10) = some r) : sq212.l0_k.I (.j1 a_0 x_1 x_9 x_10) r := by
  unfold sq212.l0_k.body at e
  intro W h0 m0 h m A_0 n_0 c_0 O ne_0
  subst ne_0
  refine f212.j1_in ?_
  unfold f212.j1T
  refine split_dec_e e (fun c38 e => ?_) (fun c38 e => ?_)
  · cases e
    exact ⟨_, O.pick [0], rfl, rfl⟩
  · obtain ⟨y1, g2, e⟩ := bind_e e
    refine (O.os 0 rfl).addr rfl g2 fun a3 cs4 ha5 hc6 he7 => ?_
    obtain rfl : cs4 = [(Value.string y1)] := he7
    obtain ⟨y8, g9, e⟩ := bind_e e
    refine (O.os 0 rfl).addr rfl g9 fun a10 cs11 ha12 hc13 he14 => ?_
    obtain rfl : cs11 = [(Value.string y8)] := he14
    refine ⟨_, ld0 (Sub.refl _) hc6 rfl, _, rfl, ?_⟩
    refine ⟨_, ld0 (Sub.refl _) hc13 rfl, _, rfl, ?_⟩
    obtain ⟨y15, g16, e⟩ := bind_e e
    refine (O.os 0 rfl).addr rfl g16 fun a17 cs18 ha19 hc20 he21 => ?_
    obtain rfl : cs18 = [(Value.string y15)] := he21
    obtain ⟨l24, g25, e⟩ := bind_e e
    replace g25 := Option.some.inj g25
    refine O.elst0 0 rfl g16 ha19 hc20 (by decide) (y' := y1) rfl trivial g25 fun h22 O23 => ?_
    obtain ⟨y26, g27, e⟩ := bind_e e
    refine (O23.os 0 rfl).addr (lset' g25) g27 fun a28 cs29 ha30 hc31 he32 => ?_
    obtain rfl : cs29 = [(Value.string y26)] := he32
    obtain ⟨l35, g36, e⟩ := bind_e e
    replace g36 := Option.some.inj g36
    refine O23.elst0 0 rfl g27 ha30 hc31 (by decide) (y' := y8) rfl trivial g36 fun h33 O34 => ?_
    have O37 := O34.nm
    exact (ih _ _ e) (O37.pick [0]).nm ((lset' g25).trans (lset' g36))
theorem sq212.l0_k.all {p : sq212.l0_k.Pt} {r : (Int × (List ByteArray))} (e : sq212.l0_k.go p = some r) : sq212.l0_k.I p r := fixF_ind (β := fun _ => (Int × (List ByteArray))) sq212.l0_k.mono (I := sq212.l0_k.I) (fun go ih p r e => match p with
  | .l0 a_0 x_1 x_9 x_10 => sq212.l0_k.step_l0 go ih a_0 x_1 x_9 x_10 r e
  | .l1 a_0 x_1 x_9 x_10 => sq212.l0_k.step_l1 go ih a_0 x_1 x_9 x_10 r e
  | .j2 a_0 x_1 x_9 x_10 => sq212.l0_k.step_j2 go ih a_0 x_1 x_9 x_10 r e
  | .j0 a_0 x_1 x_9 x_10 => sq212.l0_k.step_j0 go ih a_0 x_1 x_9 x_10 r e
  | .l2 a_0 x_1 x_9 x_10 => sq212.l0_k.step_l2 go ih a_0 x_1 x_9 x_10 r e
  | .j3 a_0 x_1 x_9 x_10 => sq212.l0_k.step_j3 go ih a_0 x_1 x_9 x_10 r e
  | .j1 a_0 x_1 x_9 x_10 => sq212.l0_k.step_j1 go ih a_0 x_1 x_9 x_10 r e
  ) e
noncomputable def sq212 (a_0 : List ByteArray) (x_1 : Int) (x_2 : Int) (x_3 : Int) : Option (Int × (List ByteArray)) :=
  Option.bind (gi a_0 x_3) fun y1 => Option.bind (gi a_0 x_1) fun y8 => Option.bind (gi a_0 x_1) fun y15 => Option.bind (some (List.set a_0 (Int.toNat x_1) y1)) fun l24 => Option.bind (gi l24 x_3) fun y26 => Option.bind (some (List.set l24 (Int.toNat x_3) y8)) fun l35 => (sq212.l0 l35 x_1 (IntKind.wrap .i64 (x_1 + (1 : Int))) (IntKind.wrap .i64 (x_2 - (1 : Int))))
theorem sq212.walk {W h m A_0 n_0 c_0 a_0 x_1 x_2 x_3} (O : Hold W h m h m [rR (aE tell_str) A_0 c_0 a_0]) (ne_0 : n_0 = List.length a_0) {r} (e : sq212 a_0 x_1 x_2 x_3 = some r) : Run Try.prog 212 #[Value.slice A_0 n_0 c_0, Value.int .i64 x_1, Value.int .i64 x_2, Value.int .i64 x_3] h (sq212.post W A_0 n_0 c_0 h m r) := by
  unfold sq212 at e
  subst ne_0
  refine f212.run ?_
  unfold f212.runT
  obtain ⟨y1, g2, e⟩ := bind_e e
  refine (O.os 0 rfl).addr rfl g2 fun a3 cs4 ha5 hc6 he7 => ?_
  obtain rfl : cs4 = [(Value.string y1)] := he7
  obtain ⟨y8, g9, e⟩ := bind_e e
  refine (O.os 0 rfl).addr rfl g9 fun a10 cs11 ha12 hc13 he14 => ?_
  obtain rfl : cs11 = [(Value.string y8)] := he14
  refine ⟨_, ld0 (Sub.refl _) hc6 rfl, _, rfl, ?_⟩
  refine ⟨_, ld0 (Sub.refl _) hc13 rfl, _, rfl, ?_⟩
  obtain ⟨y15, g16, e⟩ := bind_e e
  refine (O.os 0 rfl).addr rfl g16 fun a17 cs18 ha19 hc20 he21 => ?_
  obtain rfl : cs18 = [(Value.string y15)] := he21
  obtain ⟨l24, g25, e⟩ := bind_e e
  replace g25 := Option.some.inj g25
  refine O.elst0 0 rfl g16 ha19 hc20 (by decide) (y' := y1) rfl trivial g25 fun h22 O23 => ?_
  obtain ⟨y26, g27, e⟩ := bind_e e
  refine (O23.os 0 rfl).addr (lset' g25) g27 fun a28 cs29 ha30 hc31 he32 => ?_
  obtain rfl : cs29 = [(Value.string y26)] := he32
  obtain ⟨l35, g36, e⟩ := bind_e e
  replace g36 := Option.some.inj g36
  refine O23.elst0 0 rfl g27 ha30 hc31 (by decide) (y' := y8) rfl trivial g36 fun h33 O34 => ?_
  have O37 := O34.nm
  exact (sq212.l0_k.all e) (O37.pick [0]).nm ((lset' g25).trans (lset' g36))
def sq213.post (W : Nat → Prop) (Asl0 : Option Addr) (nsl0 csl0 : Nat) (h0 m0 : Heap) (r : Int × Bool × (List ByteArray)) (v : Value) (h : Heap) : Prop := ∃ m , Hold W h0 m0 h m [rR (aE tell_str) Asl0 csl0 r.2.2] ∧ v = .tuple #[.int .i64 r.1, .bool r.2.1] ∧ nsl0 = List.length r.2.2
noncomputable def sq213.j4 (a_0 : List ByteArray) (x_1 : Int) (x_11 : Int) : Option (Int × Bool × (List ByteArray)) :=
  Option.bind (gi a_0 x_1) fun y1 => Option.bind (gi a_0 x_11) fun y8 => Option.bind (gi a_0 x_11) fun y15 => Option.bind (some (List.set a_0 (Int.toNat x_11) y1)) fun l24 => Option.bind (gi l24 x_1) fun y26 => Option.bind (some (List.set l24 (Int.toNat x_1) y8)) fun l35 => some (x_11, false, l35)
theorem sq213.j4.walk {W h0 m0 h m A_0 n_0 c_0 a_0 x_1 x_11} (O : Hold W h0 m0 h m [rR (aE tell_str) A_0 c_0 a_0]) (ne_0 : n_0 = List.length a_0) {r} (e : sq213.j4 a_0 x_1 x_11 = some r) : f213.j4 (sq213.post W A_0 n_0 c_0 h0 m0 r) A_0 n_0 c_0 x_1 x_11 h := by
  unfold sq213.j4 at e
  subst ne_0
  refine f213.j4_in ?_
  unfold f213.j4T
  obtain ⟨y1, g2, e⟩ := bind_e e
  refine (O.os 0 rfl).addr rfl g2 fun a3 cs4 ha5 hc6 he7 => ?_
  obtain rfl : cs4 = [(Value.string y1)] := he7
  obtain ⟨y8, g9, e⟩ := bind_e e
  refine (O.os 0 rfl).addr rfl g9 fun a10 cs11 ha12 hc13 he14 => ?_
  obtain rfl : cs11 = [(Value.string y8)] := he14
  refine ⟨_, ld0 (Sub.refl _) hc6 rfl, _, rfl, ?_⟩
  refine ⟨_, ld0 (Sub.refl _) hc13 rfl, _, rfl, ?_⟩
  obtain ⟨y15, g16, e⟩ := bind_e e
  refine (O.os 0 rfl).addr rfl g16 fun a17 cs18 ha19 hc20 he21 => ?_
  obtain rfl : cs18 = [(Value.string y15)] := he21
  obtain ⟨l24, g25, e⟩ := bind_e e
  replace g25 := Option.some.inj g25
  refine O.elst0 0 rfl g16 ha19 hc20 (by decide) (y' := y1) rfl trivial g25 fun h22 O23 => ?_
  obtain ⟨y26, g27, e⟩ := bind_e e
  refine (O23.os 0 rfl).addr (lset' g25) g27 fun a28 cs29 ha30 hc31 he32 => ?_
  obtain rfl : cs29 = [(Value.string y26)] := he32
  obtain ⟨l35, g36, e⟩ := bind_e e
  replace g36 := Option.some.inj g36
  refine O23.elst0 0 rfl g27 ha30 hc31 (by decide) (y' := y8) rfl trivial g36 fun h33 O34 => ?_
  have O37 := O34.nm
  cases e
  exact ⟨_, O37.pick [0], rfl, ((lset' g25).trans (lset' g36))⟩
inductive sq213.l2_k.Pt where
  | l2 (a_0 : List ByteArray) (x_1 : Int) (x_10 : Int) (x_11 : Int)
  | l3 (a_0 : List ByteArray) (x_1 : Int) (x_10 : Int) (x_11 : Int)
  | j7 (a_0 : List ByteArray) (x_1 : Int) (x_10 : Int) (x_11 : Int)
  | j5 (a_0 : List ByteArray) (x_1 : Int) (x_10 : Int) (x_11 : Int)
  | l4 (a_0 : List ByteArray) (x_1 : Int) (x_10 : Int) (x_11 : Int)
  | j8 (a_0 : List ByteArray) (x_1 : Int) (x_10 : Int) (x_11 : Int)
  | j6 (a_0 : List ByteArray) (x_1 : Int) (x_10 : Int) (x_11 : Int)
noncomputable def sq213.l2_k.body (go : (p : sq213.l2_k.Pt) → Option (Int × Bool × (List ByteArray))) : (p : sq213.l2_k.Pt) → Option (Int × Bool × (List ByteArray))
  | .l2 a_0 x_1 x_10 x_11 => (go (.l3 a_0 x_1 x_10 x_11))
  | .l3 a_0 x_1 x_10 x_11 => if x_10 ≤ x_11 then (Option.bind (gi a_0 x_10) fun y1 => Option.bind (gi a_0 x_1) fun y8 => Option.bind (cmp_Less_211 y1 y8) fun y15 => if y15 = true then ((go (.j7 a_0 x_1 x_10 x_11))) else ((go (.j5 a_0 x_1 x_10 x_11)))) else ((go (.j5 a_0 x_1 x_10 x_11)))
  | .j7 a_0 x_1 x_10 x_11 => (go (.l3 a_0 x_1 (IntKind.wrap .i64 (x_10 + (1 : Int))) x_11))
  | .j5 a_0 x_1 x_10 x_11 => (go (.l4 a_0 x_1 x_10 x_11))
  | .l4 a_0 x_1 x_10 x_11 => if x_10 ≤ x_11 then (Option.bind (gi a_0 x_11) fun y1 => Option.bind (gi a_0 x_1) fun y8 => Option.bind (cmp_Less_211 y1 y8) fun y15 => if y15 = true then ((go (.j6 a_0 x_1 x_10 x_11))) else ((go (.j8 a_0 x_1 x_10 x_11)))) else ((go (.j6 a_0 x_1 x_10 x_11)))
  | .j8 a_0 x_1 x_10 x_11 => (go (.l4 a_0 x_1 x_10 (IntKind.wrap .i64 (x_11 - (1 : Int)))))
  | .j6 a_0 x_1 x_10 x_11 => if x_10 > x_11 then ((sq213.j4 a_0 x_1 x_11)) else (Option.bind (gi a_0 x_11) fun y1 => Option.bind (gi a_0 x_10) fun y8 => Option.bind (gi a_0 x_10) fun y15 => Option.bind (some (List.set a_0 (Int.toNat x_10) y1)) fun l24 => Option.bind (gi l24 x_11) fun y26 => Option.bind (some (List.set l24 (Int.toNat x_11) y8)) fun l35 => (go (.l2 l35 x_1 (IntKind.wrap .i64 (x_10 + (1 : Int))) (IntKind.wrap .i64 (x_11 - (1 : Int))))))
attribute [local irreducible] cmp_Less_211 in
theorem sq213.l2_k.mono : MonoF (β := fun _ => (Int × Bool × (List ByteArray))) sq213.l2_k.body := fun f g hfg p => match p with
  | .l2 a_0 x_1 x_10 x_11 => (hfg _)
  | .l3 a_0 x_1 x_10 x_11 => LeO.ite (LeO.bind (LeO.refl _) fun y1 => LeO.bind (LeO.refl _) fun y8 => LeO.bind (LeO.refl _) fun y15 => LeO.ite ((hfg _)) ((hfg _))) ((hfg _))
  | .j7 a_0 x_1 x_10 x_11 => (hfg _)
  | .j5 a_0 x_1 x_10 x_11 => (hfg _)
  | .l4 a_0 x_1 x_10 x_11 => LeO.ite (LeO.bind (LeO.refl _) fun y1 => LeO.bind (LeO.refl _) fun y8 => LeO.bind (LeO.refl _) fun y15 => LeO.ite ((hfg _)) ((hfg _))) ((hfg _))
  | .j8 a_0 x_1 x_10 x_11 => (hfg _)
  | .j6 a_0 x_1 x_10 x_11 => LeO.ite ((LeO.refl _)) (LeO.bind (LeO.refl _) fun y1 => LeO.bind (LeO.refl _) fun y8 => LeO.bind (LeO.refl _) fun y15 => LeO.bind (LeO.refl _) fun l24 => LeO.bind (LeO.refl _) fun y26 => LeO.bind (LeO.refl _) fun l35 => (hfg _))
noncomputable def sq213.l2_k.go (p : sq213.l2_k.Pt) : Option (Int × Bool × (List ByteArray)) := fixF (β := fun _ => (Int × Bool × (List ByteArray))) sq213.l2_k.body p
noncomputable def sq213.l2 (a_0 x_1 x_10 x_11) := sq213.l2_k.go (.l2 a_0 x_1 x_10 x_11)
noncomputable def sq213.l3 (a_0 x_1 x_10 x_11) := sq213.l2_k.go (.l3 a_0 x_1 x_10 x_11)
noncomputable def sq213.j7 (a_0 x_1 x_10 x_11) := sq213.l2_k.go (.j7 a_0 x_1 x_10 x_11)
noncomputable def sq213.j5 (a_0 x_1 x_10 x_11) := sq213.l2_k.go (.j5 a_0 x_1 x_10 x_11)
noncomputable def sq213.l4 (a_0 x_1 x_10 x_11) := sq213.l2_k.go (.l4 a_0 x_1 x_10 x_11)
noncomputable def sq213.j8 (a_0 x_1 x_10 x_11) := sq213.l2_k.go (.j8 a_0 x_1 x_10 x_11)
noncomputable def sq213.j6 (a_0 x_1 x_10 x_11) := sq213.l2_k.go (.j6 a_0 x_1 x_10 x_11)
theorem sq213.l2_eq (a_0 x_1 x_10 x_11) : sq213.l2 a_0 x_1 x_10 x_11 = (sq213.l3 a_0 x_1 x_10 x_11) := fixF_eq sq213.l2_k.mono _
theorem sq213.l3_eq (a_0 x_1 x_10 x_11) : sq213.l3 a_0 x_1 x_10 x_11 = if x_10 ≤ x_11 then (Option.bind (gi a_0 x_10) fun y1 => Option.bind (gi a_0 x_1) fun y8 => Option.bind (cmp_Less_211 y1 y8) fun y15 => if y15 = true then ((sq213.j7 a_0 x_1 x_10 x_11)) else ((sq213.j5 a_0 x_1 x_10 x_11))) else ((sq213.j5 a_0 x_1 x_10 x_11)) := fixF_eq sq213.l2_k.mono _
theorem sq213.j7_eq (a_0 x_1 x_10 x_11) : sq213.j7 a_0 x_1 x_10 x_11 = (sq213.l3 a_0 x_1 (IntKind.wrap .i64 (x_10 + (1 : Int))) x_11) := fixF_eq sq213.l2_k.mono _
theorem sq213.j5_eq (a_0 x_1 x_10 x_11) : sq213.j5 a_0 x_1 x_10 x_11 = (sq213.l4 a_0 x_1 x_10 x_11) := fixF_eq sq213.l2_k.mono _
theorem sq213.l4_eq (a_0 x_1 x_10 x_11) : sq213.l4 a_0 x_1 x_10 x_11 = if x_10 ≤ x_11 then (Option.bind (gi a_0 x_11) fun y1 => Option.bind (gi a_0 x_1) fun y8 => Option.bind (cmp_Less_211 y1 y8) fun y15 => if y15 = true then ((sq213.j6 a_0 x_1 x_10 x_11)) else ((sq213.j8 a_0 x_1 x_10 x_11))) else ((sq213.j6 a_0 x_1 x_10 x_11)) := fixF_eq sq213.l2_k.mono _
theorem sq213.j8_eq (a_0 x_1 x_10 x_11) : sq213.j8 a_0 x_1 x_10 x_11 = (sq213.l4 a_0 x_1 x_10 (IntKind.wrap .i64 (x_11 - (1 : Int)))) := fixF_eq sq213.l2_k.mono _
theorem sq213.j6_eq (a_0 x_1 x_10 x_11) : sq213.j6 a_0 x_1 x_10 x_11 = if x_10 > x_11 then ((sq213.j4 a_0 x_1 x_11)) else (Option.bind (gi a_0 x_11) fun y1 => Option.bind (gi a_0 x_10) fun y8 => Option.bind (gi a_0 x_10) fun y15 => Option.bind (some (List.set a_0 (Int.toNat x_10) y1)) fun l24 => Option.bind (gi l24 x_11) fun y26 => Option.bind (some (List.set l24 (Int.toNat x_11) y8)) fun l35 => (sq213.l2 l35 x_1 (IntKind.wrap .i64 (x_10 + (1 : Int))) (IntKind.wrap .i64 (x_11 - (1 : Int))))) := fixF_eq sq213.l2_k.mono _
def sq213.l2_k.I : (p : sq213.l2_k.Pt) → (Int × Bool × (List ByteArray)) → Prop
  | .l2 a_0 x_1 x_10 x_11, r => ∀ {W h0 m0 h m A_0 n_0 c_0} (O : Hold W h0 m0 h m [rR (aE tell_str) A_0 c_0 a_0]) (ne_0 : n_0 = List.length a_0), f213.l2 (sq213.post W A_0 n_0 c_0 h0 m0 r) A_0 n_0 c_0 x_1 x_10 x_11 h
  | .l3 a_0 x_1 x_10 x_11, r => ∀ {W h0 m0 h m A_0 n_0 c_0} (O : Hold W h0 m0 h m [rR (aE tell_str) A_0 c_0 a_0]) (ne_0 : n_0 = List.length a_0), f213.l3 (sq213.post W A_0 n_0 c_0 h0 m0 r) A_0 n_0 c_0 x_1 x_10 x_11 h
  | .j7 a_0 x_1 x_10 x_11, r => ∀ {W h0 m0 h m A_0 n_0 c_0} (O : Hold W h0 m0 h m [rR (aE tell_str) A_0 c_0 a_0]) (ne_0 : n_0 = List.length a_0), f213.j7 (sq213.post W A_0 n_0 c_0 h0 m0 r) A_0 n_0 c_0 x_1 x_10 x_11 h
  | .j5 a_0 x_1 x_10 x_11, r => ∀ {W h0 m0 h m A_0 n_0 c_0} (O : Hold W h0 m0 h m [rR (aE tell_str) A_0 c_0 a_0]) (ne_0 : n_0 = List.length a_0), f213.j5 (sq213.post W A_0 n_0 c_0 h0 m0 r) A_0 n_0 c_0 x_1 x_10 x_11 h
  | .l4 a_0 x_1 x_10 x_11, r => ∀ {W h0 m0 h m A_0 n_0 c_0} (O : Hold W h0 m0 h m [rR (aE tell_str) A_0 c_0 a_0]) (ne_0 : n_0 = List.length a_0), f213.l4 (sq213.post W A_0 n_0 c_0 h0 m0 r) A_0 n_0 c_0 x_1 x_10 x_11 h
  | .j8 a_0 x_1 x_10 x_11, r => ∀ {W h0 m0 h m A_0 n_0 c_0} (O : Hold W h0 m0 h m [rR (aE tell_str) A_0 c_0 a_0]) (ne_0 : n_0 = List.length a_0), f213.j8 (sq213.post W A_0 n_0 c_0 h0 m0 r) A_0 n_0 c_0 x_1 x_10 x_11 h
  | .j6 a_0 x_1 x_10 x_11, r => ∀ {W h0 m0 h m A_0 n_0 c_0} (O : Hold W h0 m0 h m [rR (aE tell_str) A_0 c_0 a_0]) (ne_0 : n_0 = List.length a_0), f213.j6 (sq213.post W A_0 n_0 c_0 h0 m0 r) A_0 n_0 c_0 x_1 x_10 x_11 h
theorem sq213.l2_k.step_l2 (go : (p : sq213.l2_k.Pt) → Option (Int × Bool × (List ByteArray))) (ih : ∀ p r, go p = some r → sq213.l2_k.I p r) (a_0 x_1 x_10 x_11) (r) (e : sq213.l2_k.body go (.l2 a_0 x_1 x_10 x_11) = some r) : sq213.l2_k.I (.l2 a_0 x_1 x_10 x_11) r := by
  unfold sq213.l2_k.body at e
  intro W h0 m0 h m A_0 n_0 c_0 O ne_0
  subst ne_0
  refine f213.l2_in ?_
  unfold f213.l2T
  exact (ih _ _ e) (O.pick [0]).nm rfl
theorem sq213.l2_k.step_l3 (go : (p : sq213.l2_k.Pt) → Option (Int × Bool × (List ByteArray))) (ih : ∀ p r, go p = some r → sq213.l2_k.I p r) (a_0 x_1 x_10 x_11) (r) (e : sq213.l2_k.body go (.l3 a_0 x_1 x_10 x_11) = some r) : sq213.l2_k.I (.l3 a_0 x_1 x_10 x_11) r := by
  unfold sq213.l2_k.body at e
  intro W h0 m0 h m A_0 n_0 c_0 O ne_0
  subst ne_0
  refine f213.l3_in ?_
  unfold f213.l3T
  refine split_dec_e e (fun c23 e => ?_) (fun c23 e => ?_)
  · obtain ⟨y1, g2, e⟩ := bind_e e
    refine (O.os 0 rfl).addr rfl g2 fun a3 cs4 ha5 hc6 he7 => ?_
    obtain rfl : cs4 = [(Value.string y1)] := he7
    obtain ⟨y8, g9, e⟩ := bind_e e
    refine (O.os 0 rfl).addr rfl g9 fun a10 cs11 ha12 hc13 he14 => ?_
    obtain rfl : cs11 = [(Value.string y8)] := he14
    refine ⟨_, ld0 (Sub.refl _) hc6 rfl, _, rfl, ?_⟩
    refine ⟨_, ld0 (Sub.refl _) hc13 rfl, _, rfl, ?_⟩
    obtain ⟨y15, g16, e⟩ := bind_e e
    refine (cmp_Less_211.walk (Hold.start (W := No) O.s)  g16).mono ?_
    rintro _ h17 ⟨m18, Q19, rfl⟩
    have O21 := Hold.nm (O.retC Q19 vfs_nil)
    refine ⟨_, rfl, ?_⟩
    refine split_any_e e (fun c22 e => ?_) (fun c22 e => ?_)
    · exact (ih _ _ e) (O21.pick [0]).nm rfl
    · exact (ih _ _ e) (O21.pick [0]).nm rfl
  · exact (ih _ _ e) (O.pick [0]).nm rfl
theorem sq213.l2_k.step_j7 (go : (p : sq213.l2_k.Pt) → Option (Int × Bool × (List ByteArray))) (ih : ∀ p r, go p = some r → sq213.l2_k.I p r) (a_0 x_1 x_10 x_11) (r) (e : sq213.l2_k.body go (.j7 a_0 x_1 x_10 x_11) = some r) : sq213.l2_k.I (.j7 a_0 x_1 x_10 x_11) r := by
  unfold sq213.l2_k.body at e
  intro W h0 m0 h m A_0 n_0 c_0 O ne_0
  subst ne_0
  refine f213.j7_in ?_
  unfold f213.j7T
  exact (ih _ _ e) (O.pick [0]).nm rfl
theorem sq213.l2_k.step_j5 (go : (p : sq213.l2_k.Pt) → Option (Int × Bool × (List ByteArray))) (ih : ∀ p r, go p = some r → sq213.l2_k.I p r) (a_0 x_1 x_10 x_11) (r) (e : sq213.l2_k.body go (.j5 a_0 x_1 x_10 x_11) = some r) : sq213.l2_k.I (.j5 a_0 x_1 x_10 x_11) r := by
  unfold sq213.l2_k.body at e
  intro W h0 m0 h m A_0 n_0 c_0 O ne_0
  subst ne_0
  refine f213.j5_in ?_
  unfold f213.j5T
  exact (ih _ _ e) (O.pick [0]).nm rfl
theorem sq213.l2_k.step_l4 (go : (p : sq213.l2_k.Pt) → Option (Int × Bool × (List ByteArray))) (ih : ∀ p r, go p = some r → sq213.l2_k.I p r) (a_0 x_1 x_10 x_11) (r) (e : sq213.l2_k.body go (.l4 a_0 x_1 x_10 x_11) = some r) : sq213.l2_k.I (.l4 a_0 x_1 x_10 x_11) r := by
  unfold sq213.l2_k.body at e
  intro W h0 m0 h m A_0 n_0 c_0 O ne_0
  subst ne_0
  refine f213.l4_in ?_
  unfold f213.l4T
  refine split_dec_e e (fun c23 e => ?_) (fun c23 e => ?_)
  · obtain ⟨y1, g2, e⟩ := bind_e e
    refine (O.os 0 rfl).addr rfl g2 fun a3 cs4 ha5 hc6 he7 => ?_
    obtain rfl : cs4 = [(Value.string y1)] := he7
    obtain ⟨y8, g9, e⟩ := bind_e e
    refine (O.os 0 rfl).addr rfl g9 fun a10 cs11 ha12 hc13 he14 => ?_
    obtain rfl : cs11 = [(Value.string y8)] := he14
    refine ⟨_, ld0 (Sub.refl _) hc6 rfl, _, rfl, ?_⟩
    refine ⟨_, ld0 (Sub.refl _) hc13 rfl, _, rfl, ?_⟩
    obtain ⟨y15, g16, e⟩ := bind_e e
    refine (cmp_Less_211.walk (Hold.start (W := No) O.s)  g16).mono ?_
    rintro _ h17 ⟨m18, Q19, rfl⟩
    have O21 := Hold.nm (O.retC Q19 vfs_nil)
    refine ⟨_, rfl, ?_⟩
    refine split_not ?_
    refine split_any_e e (fun c22 e => ?_) (fun c22 e => ?_)
    · exact (ih _ _ e) (O21.pick [0]).nm rfl
    · exact (ih _ _ e) (O21.pick [0]).nm rfl
  · exact (ih _ _ e) (O.pick [0]).nm rfl
theorem sq213.l2_k.step_j8 (go : (p : sq213.l2_k.Pt) → Option (Int × Bool × (List ByteArray))) (ih : ∀ p r, go p = some r → sq213.l2_k.I p r) (a_0 x_1 x_10 x_11) (r) (e : sq213.l2_k.body go (.j8 a_0 x_1 x_10 x_11) = some r) : sq213.l2_k.I (.j8 a_0 x_1 x_10 x_11) r := by
  unfold sq213.l2_k.body at e
  intro W h0 m0 h m A_0 n_0 c_0 O ne_0
  subst ne_0
  refine f213.j8_in ?_
  unfold f213.j8T
  exact (ih _ _ e) (O.pick [0]).nm rfl
theorem sq213.l2_k.step_j6 (go : (p : sq213.l2_k.Pt) → Option (Int × Bool × (List ByteArray))) (ih : ∀ p r, go p = some r → sq213.l2_k.I p r) (a_0 x_1 x_10 x_11) (r) (e : sq213.l2_k.body go (.j6 a_0 x_1 x_10 x_11) = some r) : sq213.l2_k.I (.j6 a_0 x_1 x_10 x_11) r := by
  unfold sq213.l2_k.body at e
  intro W h0 m0 h m A_0 n_0 c_0 O ne_0
  subst ne_0
  refine f213.j6_in ?_
  unfold f213.j6T
  refine split_dec_e e (fun c38 e => ?_) (fun c38 e => ?_)
  · exact sq213.j4.walk (O.pick [0]).nm rfl e
  · obtain ⟨y1, g2, e⟩ := bind_e e
    refine (O.os 0 rfl).addr rfl g2 fun a3 cs4 ha5 hc6 he7 => ?_
    obtain rfl : cs4 = [(Value.string y1)] := he7
    obtain ⟨y8, g9, e⟩ := bind_e e
    refine (O.os 0 rfl).addr rfl g9 fun a10 cs11 ha12 hc13 he14 => ?_
    obtain rfl : cs11 = [(Value.string y8)] := he14
    refine ⟨_, ld0 (Sub.refl _) hc6 rfl, _, rfl, ?_⟩
    refine ⟨_, ld0 (Sub.refl _) hc13 rfl, _, rfl, ?_⟩
    obtain ⟨y15, g16, e⟩ := bind_e e
    refine (O.os 0 rfl).addr rfl g16 fun a17 cs18 ha19 hc20 he21 => ?_
    obtain rfl : cs18 = [(Value.string y15)] := he21
    obtain ⟨l24, g25, e⟩ := bind_e e
    replace g25 := Option.some.inj g25
    refine O.elst0 0 rfl g16 ha19 hc20 (by decide) (y' := y1) rfl trivial g25 fun h22 O23 => ?_
    obtain ⟨y26, g27, e⟩ := bind_e e
    refine (O23.os 0 rfl).addr (lset' g25) g27 fun a28 cs29 ha30 hc31 he32 => ?_
    obtain rfl : cs29 = [(Value.string y26)] := he32
    obtain ⟨l35, g36, e⟩ := bind_e e
    replace g36 := Option.some.inj g36
    refine O23.elst0 0 rfl g27 ha30 hc31 (by decide) (y' := y8) rfl trivial g36 fun h33 O34 => ?_
    have O37 := O34.nm
    exact (ih _ _ e) (O37.pick [0]).nm ((lset' g25).trans (lset' g36))
theorem sq213.l2_k.all {p : sq213.l2_k.Pt} {r : (Int × Bool × (List ByteArray))} (e : sq213.l2_k.go p = some r) : sq213.l2_k.I p r := fixF_ind (β := fun _ => (Int × Bool × (List ByteArray))) sq213.l2_k.mono (I := sq213.l2_k.I) (fun go ih p r e => match p with
  | .l2 a_0 x_1 x_10 x_11 => sq213.l2_k.step_l2 go ih a_0 x_1 x_10 x_11 r e
  | .l3 a_0 x_1 x_10 x_11 => sq213.l2_k.step_l3 go ih a_0 x_1 x_10 x_11 r e
  | .j7 a_0 x_1 x_10 x_11 => sq213.l2_k.step_j7 go ih a_0 x_1 x_10 x_11 r e
  | .j5 a_0 x_1 x_10 x_11 => sq213.l2_k.step_j5 go ih a_0 x_1 x_10 x_11 r e
  | .l4 a_0 x_1 x_10 x_11 => sq213.l2_k.step_l4 go ih a_0 x_1 x_10 x_11 r e
  | .j8 a_0 x_1 x_10 x_11 => sq213.l2_k.step_j8 go ih a_0 x_1 x_10 x_11 r e
  | .j6 a_0 x_1 x_10 x_11 => sq213.l2_k.step_j6 go ih a_0 x_1 x_10 x_11 r e
  ) e
noncomputable def sq213.j1 (a_0 : List ByteArray) (x_1 : Int) (x_10 : Int) (x_11 : Int) : Option (Int × Bool × (List ByteArray)) :=
  if x_10 > x_11 then (Option.bind (gi a_0 x_1) fun y1 => Option.bind (gi a_0 x_11) fun y8 => Option.bind (gi a_0 x_11) fun y15 => Option.bind (some (List.set a_0 (Int.toNat x_11) y1)) fun l24 => Option.bind (gi l24 x_1) fun y26 => Option.bind (some (List.set l24 (Int.toNat x_1) y8)) fun l35 => some (x_11, true, l35)) else (Option.bind (gi a_0 x_11) fun y38 => Option.bind (gi a_0 x_10) fun y45 => Option.bind (gi a_0 x_10) fun y52 => Option.bind (some (List.set a_0 (Int.toNat x_10) y38)) fun l61 => Option.bind (gi l61 x_11) fun y63 => Option.bind (some (List.set l61 (Int.toNat x_11) y45)) fun l72 => (sq213.l2 l72 x_1 (IntKind.wrap .i64 (x_10 + (1 : Int))) (IntKind.wrap .i64 (x_11 - (1 : Int)))))
set_option maxHeartbeats 4000000 in
theorem sq213.j1.walk {W h0 m0 h m A_0 n_0 c_0 a_0 x_1 x_10 x_11} (O : Hold W h0 m0 h m [rR (aE tell_str) A_0 c_0 a_0]) (ne_0 : n_0 = List.length a_0) {r} (e : sq213.j1 a_0 x_1 x_10 x_11 = some r) : f213.j1 (sq213.post W A_0 n_0 c_0 h0 m0 r) A_0 n_0 c_0 x_1 x_10 x_11 h := by
  unfold sq213.j1 at e
  subst ne_0
  refine f213.j1_in ?_
  unfold f213.j1T
  refine split_dec_e e (fun c75 e => ?_) (fun c75 e => ?_)
  · obtain ⟨y1, g2, e⟩ := bind_e e
    refine (O.os 0 rfl).addr rfl g2 fun a3 cs4 ha5 hc6 he7 => ?_
    obtain rfl : cs4 = [(Value.string y1)] := he7
    obtain ⟨y8, g9, e⟩ := bind_e e
    refine (O.os 0 rfl).addr rfl g9 fun a10 cs11 ha12 hc13 he14 => ?_
    obtain rfl : cs11 = [(Value.string y8)] := he14
    refine ⟨_, ld0 (Sub.refl _) hc6 rfl, _, rfl, ?_⟩
    refine ⟨_, ld0 (Sub.refl _) hc13 rfl, _, rfl, ?_⟩
    obtain ⟨y15, g16, e⟩ := bind_e e
    refine (O.os 0 rfl).addr rfl g16 fun a17 cs18 ha19 hc20 he21 => ?_
    obtain rfl : cs18 = [(Value.string y15)] := he21
    obtain ⟨l24, g25, e⟩ := bind_e e
    replace g25 := Option.some.inj g25
    refine O.elst0 0 rfl g16 ha19 hc20 (by decide) (y' := y1) rfl trivial g25 fun h22 O23 => ?_
    obtain ⟨y26, g27, e⟩ := bind_e e
    refine (O23.os 0 rfl).addr (lset' g25) g27 fun a28 cs29 ha30 hc31 he32 => ?_
    obtain rfl : cs29 = [(Value.string y26)] := he32
    obtain ⟨l35, g36, e⟩ := bind_e e
    replace g36 := Option.some.inj g36
    refine O23.elst0 0 rfl g27 ha30 hc31 (by decide) (y' := y8) rfl trivial g36 fun h33 O34 => ?_
    have O37 := O34.nm
    cases e
    exact ⟨_, O37.pick [0], rfl, ((lset' g25).trans (lset' g36))⟩
  · obtain ⟨y38, g39, e⟩ := bind_e e
    refine (O.os 0 rfl).addr rfl g39 fun a40 cs41 ha42 hc43 he44 => ?_
    obtain rfl : cs41 = [(Value.string y38)] := he44
    obtain ⟨y45, g46, e⟩ := bind_e e
    refine (O.os 0 rfl).addr rfl g46 fun a47 cs48 ha49 hc50 he51 => ?_
    obtain rfl : cs48 = [(Value.string y45)] := he51
    refine ⟨_, ld0 (Sub.refl _) hc43 rfl, _, rfl, ?_⟩
    refine ⟨_, ld0 (Sub.refl _) hc50 rfl, _, rfl, ?_⟩
    obtain ⟨y52, g53, e⟩ := bind_e e
    refine (O.os 0 rfl).addr rfl g53 fun a54 cs55 ha56 hc57 he58 => ?_
    obtain rfl : cs55 = [(Value.string y52)] := he58
    obtain ⟨l61, g62, e⟩ := bind_e e
    replace g62 := Option.some.inj g62
    refine O.elst0 0 rfl g53 ha56 hc57 (by decide) (y' := y38) rfl trivial g62 fun h59 O60 => ?_
    obtain ⟨y63, g64, e⟩ := bind_e e
    refine (O60.os 0 rfl).addr (lset' g62) g64 fun a65 cs66 ha67 hc68 he69 => ?_
    obtain rfl : cs66 = [(Value.string y63)] := he69
    obtain ⟨l72, g73, e⟩ := bind_e e
    replace g73 := Option.some.inj g73
    refine O60.elst0 0 rfl g64 ha67 hc68 (by decide) (y' := y45) rfl trivial g73 fun h70 O71 => ?_
    have O74 := O71.nm
    exact (sq213.l2_k.all e) (O74.pick [0]).nm ((lset' g62).trans (lset' g73))
inductive sq213.l1_k.Pt where
  | l1 (a_0 : List ByteArray) (x_1 : Int) (x_10 : Int) (x_11 : Int)
  | j3 (a_0 : List ByteArray) (x_1 : Int) (x_10 : Int) (x_11 : Int)
noncomputable def sq213.l1_k.body (go : (p : sq213.l1_k.Pt) → Option (Int × Bool × (List ByteArray))) : (p : sq213.l1_k.Pt) → Option (Int × Bool × (List ByteArray))
  | .l1 a_0 x_1 x_10 x_11 => if x_10 ≤ x_11 then (Option.bind (gi a_0 x_11) fun y1 => Option.bind (gi a_0 x_1) fun y8 => Option.bind (cmp_Less_211 y1 y8) fun y15 => if y15 = true then ((sq213.j1 a_0 x_1 x_10 x_11)) else ((go (.j3 a_0 x_1 x_10 x_11)))) else ((sq213.j1 a_0 x_1 x_10 x_11))
  | .j3 a_0 x_1 x_10 x_11 => (go (.l1 a_0 x_1 x_10 (IntKind.wrap .i64 (x_11 - (1 : Int)))))
attribute [local irreducible] cmp_Less_211 in
theorem sq213.l1_k.mono : MonoF (β := fun _ => (Int × Bool × (List ByteArray))) sq213.l1_k.body := fun f g hfg p => match p with
  | .l1 a_0 x_1 x_10 x_11 => LeO.ite (LeO.bind (LeO.refl _) fun y1 => LeO.bind (LeO.refl _) fun y8 => LeO.bind (LeO.refl _) fun y15 => LeO.ite ((LeO.refl _)) ((hfg _))) ((LeO.refl _))
  | .j3 a_0 x_1 x_10 x_11 => (hfg _)
noncomputable def sq213.l1_k.go (p : sq213.l1_k.Pt) : Option (Int × Bool × (List ByteArray)) := fixF (β := fun _ => (Int × Bool × (List ByteArray))) sq213.l1_k.body p
noncomputable def sq213.l1 (a_0 x_1 x_10 x_11) := sq213.l1_k.go (.l1 a_0 x_1 x_10 x_11)
noncomputable def sq213.j3 (a_0 x_1 x_10 x_11) := sq213.l1_k.go (.j3 a_0 x_1 x_10 x_11)
theorem sq213.l1_eq (a_0 x_1 x_10 x_11) : sq213.l1 a_0 x_1 x_10 x_11 = if x_10 ≤ x_11 then (Option.bind (gi a_0 x_11) fun y1 => Option.bind (gi a_0 x_1) fun y8 => Option.bind (cmp_Less_211 y1 y8) fun y15 => if y15 = true then ((sq213.j1 a_0 x_1 x_10 x_11)) else ((sq213.j3 a_0 x_1 x_10 x_11))) else ((sq213.j1 a_0 x_1 x_10 x_11)) := fixF_eq sq213.l1_k.mono _
theorem sq213.j3_eq (a_0 x_1 x_10 x_11) : sq213.j3 a_0 x_1 x_10 x_11 = (sq213.l1 a_0 x_1 x_10 (IntKind.wrap .i64 (x_11 - (1 : Int)))) := fixF_eq sq213.l1_k.mono _
def sq213.l1_k.I : (p : sq213.l1_k.Pt) → (Int × Bool × (List ByteArray)) → Prop
  | .l1 a_0 x_1 x_10 x_11, r => ∀ {W h0 m0 h m A_0 n_0 c_0} (O : Hold W h0 m0 h m [rR (aE tell_str) A_0 c_0 a_0]) (ne_0 : n_0 = List.length a_0), f213.l1 (sq213.post W A_0 n_0 c_0 h0 m0 r) A_0 n_0 c_0 x_1 x_10 x_11 h
  | .j3 a_0 x_1 x_10 x_11, r => ∀ {W h0 m0 h m A_0 n_0 c_0} (O : Hold W h0 m0 h m [rR (aE tell_str) A_0 c_0 a_0]) (ne_0 : n_0 = List.length a_0), f213.j3 (sq213.post W A_0 n_0 c_0 h0 m0 r) A_0 n_0 c_0 x_1 x_10 x_11 h
theorem sq213.l1_k.step_l1 (go : (p : sq213.l1_k.Pt) → Option (Int × Bool × (List ByteArray))) (ih : ∀ p r, go p = some r → sq213.l1_k.I p r) (a_0 x_1 x_10 x_11) (r) (e : sq213.l1_k.body go (.l1 a_0 x_1 x_10 x_11) = some r) : sq213.l1_k.I (.l1 a_0 x_1 x_10 x_11) r := by
  unfold sq213.l1_k.body at e
  intro W h0 m0 h m A_0 n_0 c_0 O ne_0
  subst ne_0
  refine f213.l1_in ?_
  unfold f213.l1T
  refine split_dec_e e (fun c23 e => ?_) (fun c23 e => ?_)
  · obtain ⟨y1, g2, e⟩ := bind_e e
    refine (O.os 0 rfl).addr rfl g2 fun a3 cs4 ha5 hc6 he7 => ?_
    obtain rfl : cs4 = [(Value.string y1)] := he7
    obtain ⟨y8, g9, e⟩ := bind_e e
    refine (O.os 0 rfl).addr rfl g9 fun a10 cs11 ha12 hc13 he14 => ?_
    obtain rfl : cs11 = [(Value.string y8)] := he14
    refine ⟨_, ld0 (Sub.refl _) hc6 rfl, _, rfl, ?_⟩
    refine ⟨_, ld0 (Sub.refl _) hc13 rfl, _, rfl, ?_⟩
    obtain ⟨y15, g16, e⟩ := bind_e e
    refine (cmp_Less_211.walk (Hold.start (W := No) O.s)  g16).mono ?_
    rintro _ h17 ⟨m18, Q19, rfl⟩
    have O21 := Hold.nm (O.retC Q19 vfs_nil)
    refine ⟨_, rfl, ?_⟩
    refine split_not ?_
    refine split_any_e e (fun c22 e => ?_) (fun c22 e => ?_)
    · exact sq213.j1.walk (O21.pick [0]).nm rfl e
    · exact (ih _ _ e) (O21.pick [0]).nm rfl
  · exact sq213.j1.walk (O.pick [0]).nm rfl e
theorem sq213.l1_k.step_j3 (go : (p : sq213.l1_k.Pt) → Option (Int × Bool × (List ByteArray))) (ih : ∀ p r, go p = some r → sq213.l1_k.I p r) (a_0 x_1 x_10 x_11) (r) (e : sq213.l1_k.body go (.j3 a_0 x_1 x_10 x_11) = some r) : sq213.l1_k.I (.j3 a_0 x_1 x_10 x_11) r := by
  unfold sq213.l1_k.body at e
  intro W h0 m0 h m A_0 n_0 c_0 O ne_0
  subst ne_0
  refine f213.j3_in ?_
  unfold f213.j3T
  exact (ih _ _ e) (O.pick [0]).nm rfl
theorem sq213.l1_k.all {p : sq213.l1_k.Pt} {r : (Int × Bool × (List ByteArray))} (e : sq213.l1_k.go p = some r) : sq213.l1_k.I p r := fixF_ind (β := fun _ => (Int × Bool × (List ByteArray))) sq213.l1_k.mono (I := sq213.l1_k.I) (fun go ih p r e => match p with
  | .l1 a_0 x_1 x_10 x_11 => sq213.l1_k.step_l1 go ih a_0 x_1 x_10 x_11 r e
  | .j3 a_0 x_1 x_10 x_11 => sq213.l1_k.step_j3 go ih a_0 x_1 x_10 x_11 r e
  ) e
noncomputable def sq213.j0 (a_0 : List ByteArray) (x_1 : Int) (x_10 : Int) (x_11 : Int) : Option (Int × Bool × (List ByteArray)) :=
  (sq213.l1 a_0 x_1 x_10 x_11)
theorem sq213.j0.walk {W h0 m0 h m A_0 n_0 c_0 a_0 x_1 x_10 x_11} (O : Hold W h0 m0 h m [rR (aE tell_str) A_0 c_0 a_0]) (ne_0 : n_0 = List.length a_0) {r} (e : sq213.j0 a_0 x_1 x_10 x_11 = some r) : f213.j0 (sq213.post W A_0 n_0 c_0 h0 m0 r) A_0 n_0 c_0 x_1 x_10 x_11 h := by
  unfold sq213.j0 at e
  subst ne_0
  refine f213.j0_in ?_
  unfold f213.j0T
  exact (sq213.l1_k.all e) (O.pick [0]).nm rfl
inductive sq213.l0_k.Pt where
  | l0 (a_0 : List ByteArray) (x_1 : Int) (x_10 : Int) (x_11 : Int)
  | j2 (a_0 : List ByteArray) (x_1 : Int) (x_10 : Int) (x_11 : Int)
noncomputable def sq213.l0_k.body (go : (p : sq213.l0_k.Pt) → Option (Int × Bool × (List ByteArray))) : (p : sq213.l0_k.Pt) → Option (Int × Bool × (List ByteArray))
  | .l0 a_0 x_1 x_10 x_11 => if x_10 ≤ x_11 then (Option.bind (gi a_0 x_10) fun y1 => Option.bind (gi a_0 x_1) fun y8 => Option.bind (cmp_Less_211 y1 y8) fun y15 => if y15 = true then ((go (.j2 a_0 x_1 x_10 x_11))) else ((sq213.j0 a_0 x_1 x_10 x_11))) else ((sq213.j0 a_0 x_1 x_10 x_11))
  | .j2 a_0 x_1 x_10 x_11 => (go (.l0 a_0 x_1 (IntKind.wrap .i64 (x_10 + (1 : Int))) x_11))
attribute [local irreducible] cmp_Less_211 in
theorem sq213.l0_k.mono : MonoF (β := fun _ => (Int × Bool × (List ByteArray))) sq213.l0_k.body := fun f g hfg p => match p with
  | .l0 a_0 x_1 x_10 x_11 => LeO.ite (LeO.bind (LeO.refl _) fun y1 => LeO.bind (LeO.refl _) fun y8 => LeO.bind (LeO.refl _) fun y15 => LeO.ite ((hfg _)) ((LeO.refl _))) ((LeO.refl _))
  | .j2 a_0 x_1 x_10 x_11 => (hfg _)
noncomputable def sq213.l0_k.go (p : sq213.l0_k.Pt) : Option (Int × Bool × (List ByteArray)) := fixF (β := fun _ => (Int × Bool × (List ByteArray))) sq213.l0_k.body p
noncomputable def sq213.l0 (a_0 x_1 x_10 x_11) := sq213.l0_k.go (.l0 a_0 x_1 x_10 x_11)
noncomputable def sq213.j2 (a_0 x_1 x_10 x_11) := sq213.l0_k.go (.j2 a_0 x_1 x_10 x_11)
theorem sq213.l0_eq (a_0 x_1 x_10 x_11) : sq213.l0 a_0 x_1 x_10 x_11 = if x_10 ≤ x_11 then (Option.bind (gi a_0 x_10) fun y1 => Option.bind (gi a_0 x_1) fun y8 => Option.bind (cmp_Less_211 y1 y8) fun y15 => if y15 = true then ((sq213.j2 a_0 x_1 x_10 x_11)) else ((sq213.j0 a_0 x_1 x_10 x_11))) else ((sq213.j0 a_0 x_1 x_10 x_11)) := fixF_eq sq213.l0_k.mono _
theorem sq213.j2_eq (a_0 x_1 x_10 x_11) : sq213.j2 a_0 x_1 x_10 x_11 = (sq213.l0 a_0 x_1 (IntKind.wrap .i64 (x_10 + (1 : Int))) x_11) := fixF_eq sq213.l0_k.mono _
def sq213.l0_k.I : (p : sq213.l0_k.Pt) → (Int × Bool × (List ByteArray)) → Prop
  | .l0 a_0 x_1 x_10 x_11, r => ∀ {W h0 m0 h m A_0 n_0 c_0} (O : Hold W h0 m0 h m [rR (aE tell_str) A_0 c_0 a_0]) (ne_0 : n_0 = List.length a_0), f213.l0 (sq213.post W A_0 n_0 c_0 h0 m0 r) A_0 n_0 c_0 x_1 x_10 x_11 h
  | .j2 a_0 x_1 x_10 x_11, r => ∀ {W h0 m0 h m A_0 n_0 c_0} (O : Hold W h0 m0 h m [rR (aE tell_str) A_0 c_0 a_0]) (ne_0 : n_0 = List.length a_0), f213.j2 (sq213.post W A_0 n_0 c_0 h0 m0 r) A_0 n_0 c_0 x_1 x_10 x_11 h
theorem sq213.l0_k.step_l0 (go : (p : sq213.l0_k.Pt) → Option (Int × Bool × (List ByteArray))) (ih : ∀ p r, go p = some r → sq213.l0_k.I p r) (a_0 x_1 x_10 x_11) (r) (e : sq213.l0_k.body go (.l0 a_0 x_1 x_10 x_11) = some r) : sq213.l0_k.I (.l0 a_0 x_1 x_10 x_11) r := by
  unfold sq213.l0_k.body at e
  intro W h0 m0 h m A_0 n_0 c_0 O ne_0
  subst ne_0
  refine f213.l0_in ?_
  unfold f213.l0T
  refine split_dec_e e (fun c23 e => ?_) (fun c23 e => ?_)
  · obtain ⟨y1, g2, e⟩ := bind_e e
    refine (O.os 0 rfl).addr rfl g2 fun a3 cs4 ha5 hc6 he7 => ?_
    obtain rfl : cs4 = [(Value.string y1)] := he7
    obtain ⟨y8, g9, e⟩ := bind_e e
    refine (O.os 0 rfl).addr rfl g9 fun a10 cs11 ha12 hc13 he14 => ?_
    obtain rfl : cs11 = [(Value.string y8)] := he14
    refine ⟨_, ld0 (Sub.refl _) hc6 rfl, _, rfl, ?_⟩
    refine ⟨_, ld0 (Sub.refl _) hc13 rfl, _, rfl, ?_⟩
    obtain ⟨y15, g16, e⟩ := bind_e e
    refine (cmp_Less_211.walk (Hold.start (W := No) O.s)  g16).mono ?_
    rintro _ h17 ⟨m18, Q19, rfl⟩
    have O21 := Hold.nm (O.retC Q19 vfs_nil)
    refine ⟨_, rfl, ?_⟩
    refine split_any_e e (fun c22 e => ?_) (fun c22 e => ?_)
    · exact (ih _ _ e) (O21.pick [0]).nm rfl
    · exact sq213.j0.walk (O21.pick [0]).nm rfl e
  · exact sq213.j0.walk (O.pick [0]).nm rfl e
theorem sq213.l0_k.step_j2 (go : (p : sq213.l0_k.Pt) → Option (Int × Bool × (List ByteArray))) (ih : ∀ p r, go p = some r → sq213.l0_k.I p r) (a_0 x_1 x_10 x_11) (r) (e : sq213.l0_k.body go (.j2 a_0 x_1 x_10 x_11) = some r) : sq213.l0_k.I (.j2 a_0 x_1 x_10 x_11) r := by
  unfold sq213.l0_k.body at e
  intro W h0 m0 h m A_0 n_0 c_0 O ne_0
  subst ne_0
  refine f213.j2_in ?_
  unfold f213.j2T
  exact (ih _ _ e) (O.pick [0]).nm rfl
theorem sq213.l0_k.all {p : sq213.l0_k.Pt} {r : (Int × Bool × (List ByteArray))} (e : sq213.l0_k.go p = some r) : sq213.l0_k.I p r := fixF_ind (β := fun _ => (Int × Bool × (List ByteArray))) sq213.l0_k.mono (I := sq213.l0_k.I) (fun go ih p r e => match p with
  | .l0 a_0 x_1 x_10 x_11 => sq213.l0_k.step_l0 go ih a_0 x_1 x_10 x_11 r e
  | .j2 a_0 x_1 x_10 x_11 => sq213.l0_k.step_j2 go ih a_0 x_1 x_10 x_11 r e
  ) e
noncomputable def sq213 (a_0 : List ByteArray) (x_1 : Int) (x_2 : Int) (x_3 : Int) : Option (Int × Bool × (List ByteArray)) :=
  Option.bind (gi a_0 x_3) fun y1 => Option.bind (gi a_0 x_1) fun y8 => Option.bind (gi a_0 x_1) fun y15 => Option.bind (some (List.set a_0 (Int.toNat x_1) y1)) fun l24 => Option.bind (gi l24 x_3) fun y26 => Option.bind (some (List.set l24 (Int.toNat x_3) y8)) fun l35 => (sq213.l0 l35 x_1 (IntKind.wrap .i64 (x_1 + (1 : Int))) (IntKind.wrap .i64 (x_2 - (1 : Int))))
theorem sq213.walk {W h m A_0 n_0 c_0 a_0 x_1 x_2 x_3} (O : Hold W h m h m [rR (aE tell_str) A_0 c_0 a_0]) (ne_0 : n_0 = List.length a_0) {r} (e : sq213 a_0 x_1 x_2 x_3 = some r) : Run Try.prog 213 #[Value.slice A_0 n_0 c_0, Value.int .i64 x_1, Value.int .i64 x_2, Value.int .i64 x_3] h (sq213.post W A_0 n_0 c_0 h m r) := by
  unfold sq213 at e
  subst ne_0
  refine f213.run ?_
  unfold f213.runT
  obtain ⟨y1, g2, e⟩ := bind_e e
  refine (O.os 0 rfl).addr rfl g2 fun a3 cs4 ha5 hc6 he7 => ?_
  obtain rfl : cs4 = [(Value.string y1)] := he7
  obtain ⟨y8, g9, e⟩ := bind_e e
  refine (O.os 0 rfl).addr rfl g9 fun a10 cs11 ha12 hc13 he14 => ?_
  obtain rfl : cs11 = [(Value.string y8)] := he14
  refine ⟨_, ld0 (Sub.refl _) hc6 rfl, _, rfl, ?_⟩
  refine ⟨_, ld0 (Sub.refl _) hc13 rfl, _, rfl, ?_⟩
  obtain ⟨y15, g16, e⟩ := bind_e e
  refine (O.os 0 rfl).addr rfl g16 fun a17 cs18 ha19 hc20 he21 => ?_
  obtain rfl : cs18 = [(Value.string y15)] := he21
  obtain ⟨l24, g25, e⟩ := bind_e e
  replace g25 := Option.some.inj g25
  refine O.elst0 0 rfl g16 ha19 hc20 (by decide) (y' := y1) rfl trivial g25 fun h22 O23 => ?_
  obtain ⟨y26, g27, e⟩ := bind_e e
  refine (O23.os 0 rfl).addr (lset' g25) g27 fun a28 cs29 ha30 hc31 he32 => ?_
  obtain rfl : cs29 = [(Value.string y26)] := he32
  obtain ⟨l35, g36, e⟩ := bind_e e
  replace g36 := Option.some.inj g36
  refine O23.elst0 0 rfl g27 ha30 hc31 (by decide) (y' := y8) rfl trivial g36 fun h33 O34 => ?_
  have O37 := O34.nm
  exact (sq213.l0_k.all e) (O37.pick [0]).nm ((lset' g25).trans (lset' g36))
def sq184.post (W : Nat → Prop) (Asl0 : Option Addr) (nsl0 csl0 : Nat) (h0 m0 : Heap) (r : (List ByteArray)) (v : Value) (h : Heap) : Prop := ∃ m , Hold W h0 m0 h m [rR (aE tell_str) Asl0 csl0 r] ∧ v = .tuple #[] ∧ nsl0 = List.length r
inductive sq184_k.Pt where
  | f (a_0 : List ByteArray) (x_1 : Int) (x_2 : Int) (x_3 : Int)
  | l0 (a_0 : List ByteArray) (x_1 : Int) (x_2 : Int) (x_3 : Int) (b_8 : Bool) (b_9 : Bool)
  | j0 (a_0 : List ByteArray) (x_1 : Int) (x_2 : Int) (x_3 : Int) (b_8 : Bool) (b_9 : Bool) (x_10 : Int)
  | j1 (a_0 : List ByteArray) (x_1 : Int) (x_2 : Int) (x_3 : Int) (b_8 : Bool) (b_9 : Bool) (x_10 : Int) (x_11 : Int) (x_12 : Int)
  | j3 (a_0 : List ByteArray) (x_1 : Int) (x_2 : Int) (x_3 : Int) (b_8 : Bool) (b_9 : Bool) (x_10 : Int) (x_11 : Int) (b_68 : Bool)
  | j2 (a_0 : List ByteArray) (x_1 : Int) (x_2 : Int) (x_3 : Int) (b_8 : Bool) (b_9 : Bool) (x_10 : Int) (x_11 : Int)
  | j5 (a_0 : List ByteArray) (x_1 : Int) (x_2 : Int) (x_3 : Int) (b_8 : Bool) (b_9 : Bool) (x_10 : Int) (x_11 : Int) (b_87 : Bool)
  | j4 (a_0 : List ByteArray) (x_1 : Int) (x_2 : Int) (x_3 : Int) (x_10 : Int) (x_11 : Int)
noncomputable def sq184_k.body (go : (p : sq184_k.Pt) → Option ((List ByteArray))) : (p : sq184_k.Pt) → Option ((List ByteArray))
  | .f a_0 x_1 x_2 x_3 => (go (.l0 a_0 x_1 x_2 x_3 true true))
  | .l0 a_0 x_1 x_2 x_3 b_8 b_9 => if (IntKind.wrap .i64 (x_2 - x_1)) ≤ (12 : Int) then (Option.bind (sq205 a_0 x_1 x_2) fun y1 => some (y1)) else (if x_3 = (0 : Int) then (Option.bind (sq206 a_0 x_1 x_2) fun y13 => some (y13)) else (if b_8 = true then ((go (.j0 a_0 x_1 x_2 x_3 b_8 b_9 (IntKind.wrap .i64 (x_2 - x_1))))) else (Option.bind (sq207 a_0 x_1 x_2) fun y25 => (go (.j0 y25 x_1 x_2 (IntKind.wrap .i64 (x_3 - (1 : Int))) b_8 b_9 (IntKind.wrap .i64 (x_2 - x_1)))))))
  | .j0 a_0 x_1 x_2 x_3 b_8 b_9 x_10 => Option.bind (sq208 a_0 x_1 x_2) fun y1 => if y1.2 = (2 : Int) then (Option.bind (sq209 a_0 x_1 x_2) fun y15 => (go (.j1 y15 x_1 x_2 x_3 b_8 b_9 x_10 (IntKind.wrap .i64 ((IntKind.wrap .i64 (x_2 - (1 : Int))) - (IntKind.wrap .i64 (y1.1 - x_1)))) (1 : Int)))) else ((go (.j1 a_0 x_1 x_2 x_3 b_8 b_9 x_10 y1.1 y1.2)))
  | .j1 a_0 x_1 x_2 x_3 b_8 b_9 x_10 x_11 x_12 => if b_8 = true then (if b_9 = true then ((go (.j3 a_0 x_1 x_2 x_3 b_8 b_9 x_10 x_11 (x_12 == (1 : Int))))) else ((go (.j3 a_0 x_1 x_2 x_3 b_8 b_9 x_10 x_11 false)))) else ((go (.j3 a_0 x_1 x_2 x_3 b_8 b_9 x_10 x_11 false)))
  | .j3 a_0 x_1 x_2 x_3 b_8 b_9 x_10 x_11 b_68 => if b_68 = true then (Option.bind (sq210 a_0 x_1 x_2) fun y1 => if y1.1 = true then (some (y1.2)) else ((go (.j2 y1.2 x_1 x_2 x_3 b_8 b_9 x_10 x_11)))) else ((go (.j2 a_0 x_1 x_2 x_3 b_8 b_9 x_10 x_11)))
  | .j2 a_0 x_1 x_2 x_3 b_8 b_9 x_10 x_11 => if x_1 > (0 : Int) then (Option.bind (gi a_0 (IntKind.wrap .i64 (x_1 - (1 : Int)))) fun y1 => Option.bind (gi a_0 x_11) fun y8 => Option.bind (cmp_Less_211 y1 y8) fun y15 => (go (.j5 a_0 x_1 x_2 x_3 b_8 b_9 x_10 x_11 (!y15)))) else ((go (.j5 a_0 x_1 x_2 x_3 b_8 b_9 x_10 x_11 false)))
  | .j5 a_0 x_1 x_2 x_3 b_8 b_9 x_10 x_11 b_87 => if b_87 = true then (Option.bind (sq212 a_0 x_1 x_2 x_11) fun y1 => (go (.l0 y1.2 y1.1 x_2 x_3 b_8 b_9))) else ((go (.j4 a_0 x_1 x_2 x_3 x_10 x_11)))
  | .j4 a_0 x_1 x_2 x_3 x_10 x_11 => Option.bind (sq213 a_0 x_1 x_2 x_11) fun y1 => if (IntKind.wrap .i64 (y1.1 - x_1)) < (IntKind.wrap .i64 (x_2 - y1.1)) then (Option.bind ((go (.f y1.2.2 x_1 y1.1 x_3))) fun y13 => (go (.l0 y13 (IntKind.wrap .i64 (y1.1 + (1 : Int))) x_2 x_3 (decide ((IntKind.wrap .i64 (y1.1 - x_1)) ≥ (IntKind.wrap .i64 (Int.tdiv x_10 (8 : Int))))) y1.2.1))) else (Option.bind ((go (.f y1.2.2 (IntKind.wrap .i64 (y1.1 + (1 : Int))) x_2 x_3))) fun y25 => (go (.l0 y25 x_1 y1.1 x_3 (decide ((IntKind.wrap .i64 (x_2 - y1.1)) ≥ (IntKind.wrap .i64 (Int.tdiv x_10 (8 : Int))))) y1.2.1)))
attribute [local irreducible] cmp_Less_211 in
theorem sq184_k.mono : MonoF (β := fun _ => ((List ByteArray))) sq184_k.body := fun f g hfg p => match p with
  | .f a_0 x_1 x_2 x_3 => (hfg _)
  | .l0 a_0 x_1 x_2 x_3 b_8 b_9 => LeO.ite (LeO.bind (LeO.refl _) fun y1 => LeO.refl _) (LeO.ite (LeO.bind (LeO.refl _) fun y13 => LeO.refl _) (LeO.ite ((hfg _)) (LeO.bind (LeO.refl _) fun y25 => (hfg _))))
  | .j0 a_0 x_1 x_2 x_3 b_8 b_9 x_10 => LeO.bind (LeO.refl _) fun y1 => LeO.ite (LeO.bind (LeO.refl _) fun y15 => (hfg _)) ((hfg _))
  | .j1 a_0 x_1 x_2 x_3 b_8 b_9 x_10 x_11 x_12 => LeO.ite (LeO.ite ((hfg _)) ((hfg _))) ((hfg _))
  | .j3 a_0 x_1 x_2 x_3 b_8 b_9 x_10 x_11 b_68 => LeO.ite (LeO.bind (LeO.refl _) fun y1 => LeO.ite (LeO.refl _) ((hfg _))) ((hfg _))
  | .j2 a_0 x_1 x_2 x_3 b_8 b_9 x_10 x_11 => LeO.ite (LeO.bind (LeO.refl _) fun y1 => LeO.bind (LeO.refl _) fun y8 => LeO.bind (LeO.refl _) fun y15 => (hfg _)) ((hfg _))
  | .j5 a_0 x_1 x_2 x_3 b_8 b_9 x_10 x_11 b_87 => LeO.ite (LeO.bind (LeO.refl _) fun y1 => (hfg _)) ((hfg _))
  | .j4 a_0 x_1 x_2 x_3 x_10 x_11 => LeO.bind (LeO.refl _) fun y1 => LeO.ite (LeO.bind ((hfg _)) fun y13 => (hfg _)) (LeO.bind ((hfg _)) fun y25 => (hfg _))
noncomputable def sq184_k.go (p : sq184_k.Pt) : Option ((List ByteArray)) := fixF (β := fun _ => ((List ByteArray))) sq184_k.body p
noncomputable def sq184 (a_0 x_1 x_2 x_3) := sq184_k.go (.f a_0 x_1 x_2 x_3)
noncomputable def sq184.l0 (a_0 x_1 x_2 x_3 b_8 b_9) := sq184_k.go (.l0 a_0 x_1 x_2 x_3 b_8 b_9)
noncomputable def sq184.j0 (a_0 x_1 x_2 x_3 b_8 b_9 x_10) := sq184_k.go (.j0 a_0 x_1 x_2 x_3 b_8 b_9 x_10)
noncomputable def sq184.j1 (a_0 x_1 x_2 x_3 b_8 b_9 x_10 x_11 x_12) := sq184_k.go (.j1 a_0 x_1 x_2 x_3 b_8 b_9 x_10 x_11 x_12)
noncomputable def sq184.j3 (a_0 x_1 x_2 x_3 b_8 b_9 x_10 x_11 b_68) := sq184_k.go (.j3 a_0 x_1 x_2 x_3 b_8 b_9 x_10 x_11 b_68)
noncomputable def sq184.j2 (a_0 x_1 x_2 x_3 b_8 b_9 x_10 x_11) := sq184_k.go (.j2 a_0 x_1 x_2 x_3 b_8 b_9 x_10 x_11)
noncomputable def sq184.j5 (a_0 x_1 x_2 x_3 b_8 b_9 x_10 x_11 b_87) := sq184_k.go (.j5 a_0 x_1 x_2 x_3 b_8 b_9 x_10 x_11 b_87)
noncomputable def sq184.j4 (a_0 x_1 x_2 x_3 x_10 x_11) := sq184_k.go (.j4 a_0 x_1 x_2 x_3 x_10 x_11)
theorem sq184_eq (a_0 x_1 x_2 x_3) : sq184 a_0 x_1 x_2 x_3 = (sq184.l0 a_0 x_1 x_2 x_3 true true) := fixF_eq sq184_k.mono _
theorem sq184.l0_eq (a_0 x_1 x_2 x_3 b_8 b_9) : sq184.l0 a_0 x_1 x_2 x_3 b_8 b_9 = if (IntKind.wrap .i64 (x_2 - x_1)) ≤ (12 : Int) then (Option.bind (sq205 a_0 x_1 x_2) fun y1 => some (y1)) else (if x_3 = (0 : Int) then (Option.bind (sq206 a_0 x_1 x_2) fun y13 => some (y13)) else (if b_8 = true then ((sq184.j0 a_0 x_1 x_2 x_3 b_8 b_9 (IntKind.wrap .i64 (x_2 - x_1)))) else (Option.bind (sq207 a_0 x_1 x_2) fun y25 => (sq184.j0 y25 x_1 x_2 (IntKind.wrap .i64 (x_3 - (1 : Int))) b_8 b_9 (IntKind.wrap .i64 (x_2 - x_1)))))) := fixF_eq sq184_k.mono _
theorem sq184.j0_eq (a_0 x_1 x_2 x_3 b_8 b_9 x_10) : sq184.j0 a_0 x_1 x_2 x_3 b_8 b_9 x_10 = Option.bind (sq208 a_0 x_1 x_2) fun y1 => if y1.2 = (2 : Int) then (Option.bind (sq209 a_0 x_1 x_2) fun y15 => (sq184.j1 y15 x_1 x_2 x_3 b_8 b_9 x_10 (IntKind.wrap .i64 ((IntKind.wrap .i64 (x_2 - (1 : Int))) - (IntKind.wrap .i64 (y1.1 - x_1)))) (1 : Int))) else ((sq184.j1 a_0 x_1 x_2 x_3 b_8 b_9 x_10 y1.1 y1.2)) := fixF_eq sq184_k.mono _
theorem sq184.j1_eq (a_0 x_1 x_2 x_3 b_8 b_9 x_10 x_11 x_12) : sq184.j1 a_0 x_1 x_2 x_3 b_8 b_9 x_10 x_11 x_12 = if b_8 = true then (if b_9 = true then ((sq184.j3 a_0 x_1 x_2 x_3 b_8 b_9 x_10 x_11 (x_12 == (1 : Int)))) else ((sq184.j3 a_0 x_1 x_2 x_3 b_8 b_9 x_10 x_11 false))) else ((sq184.j3 a_0 x_1 x_2 x_3 b_8 b_9 x_10 x_11 false)) := fixF_eq sq184_k.mono _
theorem sq184.j3_eq (a_0 x_1 x_2 x_3 b_8 b_9 x_10 x_11 b_68) : sq184.j3 a_0 x_1 x_2 x_3 b_8 b_9 x_10 x_11 b_68 = if b_68 = true then (Option.bind (sq210 a_0 x_1 x_2) fun y1 => if y1.1 = true then (some (y1.2)) else ((sq184.j2 y1.2 x_1 x_2 x_3 b_8 b_9 x_10 x_11))) else ((sq184.j2 a_0 x_1 x_2 x_3 b_8 b_9 x_10 x_11)) := fixF_eq sq184_k.mono _
theorem sq184.j2_eq (a_0 x_1 x_2 x_3 b_8 b_9 x_10 x_11) : sq184.j2 a_0 x_1 x_2 x_3 b_8 b_9 x_10 x_11 = if x_1 > (0 : Int) then (Option.bind (gi a_0 (IntKind.wrap .i64 (x_1 - (1 : Int)))) fun y1 => Option.bind (gi a_0 x_11) fun y8 => Option.bind (cmp_Less_211 y1 y8) fun y15 => (sq184.j5 a_0 x_1 x_2 x_3 b_8 b_9 x_10 x_11 (!y15))) else ((sq184.j5 a_0 x_1 x_2 x_3 b_8 b_9 x_10 x_11 false)) := fixF_eq sq184_k.mono _
theorem sq184.j5_eq (a_0 x_1 x_2 x_3 b_8 b_9 x_10 x_11 b_87) : sq184.j5 a_0 x_1 x_2 x_3 b_8 b_9 x_10 x_11 b_87 = if b_87 = true then (Option.bind (sq212 a_0 x_1 x_2 x_11) fun y1 => (sq184.l0 y1.2 y1.1 x_2 x_3 b_8 b_9)) else ((sq184.j4 a_0 x_1 x_2 x_3 x_10 x_11)) := fixF_eq sq184_k.mono _
theorem sq184.j4_eq (a_0 x_1 x_2 x_3 x_10 x_11) : sq184.j4 a_0 x_1 x_2 x_3 x_10 x_11 = Option.bind (sq213 a_0 x_1 x_2 x_11) fun y1 => if (IntKind.wrap .i64 (y1.1 - x_1)) < (IntKind.wrap .i64 (x_2 - y1.1)) then (Option.bind ((sq184 y1.2.2 x_1 y1.1 x_3)) fun y13 => (sq184.l0 y13 (IntKind.wrap .i64 (y1.1 + (1 : Int))) x_2 x_3 (decide ((IntKind.wrap .i64 (y1.1 - x_1)) ≥ (IntKind.wrap .i64 (Int.tdiv x_10 (8 : Int))))) y1.2.1)) else (Option.bind ((sq184 y1.2.2 (IntKind.wrap .i64 (y1.1 + (1 : Int))) x_2 x_3)) fun y25 => (sq184.l0 y25 x_1 y1.1 x_3 (decide ((IntKind.wrap .i64 (x_2 - y1.1)) ≥ (IntKind.wrap .i64 (Int.tdiv x_10 (8 : Int))))) y1.2.1)) := fixF_eq sq184_k.mono _
def sq184_k.I : (p : sq184_k.Pt) → ((List ByteArray)) → Prop
  | .f a_0 x_1 x_2 x_3, r => ∀ {W h m A_0 n_0 c_0} (O : Hold W h m h m [rR (aE tell_str) A_0 c_0 a_0]) (ne_0 : n_0 = List.length a_0), Run Try.prog 184 #[Value.slice A_0 n_0 c_0, Value.int .i64 x_1, Value.int .i64 x_2, Value.int .i64 x_3] h (sq184.post W A_0 n_0 c_0 h m r)
  | .l0 a_0 x_1 x_2 x_3 b_8 b_9, r => ∀ {W h0 m0 h m A_0 n_0 c_0} (O : Hold W h0 m0 h m [rR (aE tell_str) A_0 c_0 a_0]) (ne_0 : n_0 = List.length a_0), f184.l0 (sq184.post W A_0 n_0 c_0 h0 m0 r) A_0 n_0 c_0 x_1 x_2 x_3 b_8 b_9 h
  | .j0 a_0 x_1 x_2 x_3 b_8 b_9 x_10, r => ∀ {W h0 m0 h m A_0 n_0 c_0} (O : Hold W h0 m0 h m [rR (aE tell_str) A_0 c_0 a_0]) (ne_0 : n_0 = List.length a_0), f184.j0 (sq184.post W A_0 n_0 c_0 h0 m0 r) A_0 n_0 c_0 x_1 x_2 x_3 b_8 b_9 x_10 h
  | .j1 a_0 x_1 x_2 x_3 b_8 b_9 x_10 x_11 x_12, r => ∀ {W h0 m0 h m A_0 n_0 c_0} (O : Hold W h0 m0 h m [rR (aE tell_str) A_0 c_0 a_0]) (ne_0 : n_0 = List.length a_0), f184.j1 (sq184.post W A_0 n_0 c_0 h0 m0 r) A_0 n_0 c_0 x_1 x_2 x_3 b_8 b_9 x_10 x_11 x_12 h
  | .j3 a_0 x_1 x_2 x_3 b_8 b_9 x_10 x_11 b_68, r => ∀ {W h0 m0 h m A_0 n_0 c_0} (O : Hold W h0 m0 h m [rR (aE tell_str) A_0 c_0 a_0]) (ne_0 : n_0 = List.length a_0), f184.j3 (sq184.post W A_0 n_0 c_0 h0 m0 r) A_0 n_0 c_0 x_1 x_2 x_3 b_8 b_9 x_10 x_11 b_68 h
  | .j2 a_0 x_1 x_2 x_3 b_8 b_9 x_10 x_11, r => ∀ {W h0 m0 h m A_0 n_0 c_0} (O : Hold W h0 m0 h m [rR (aE tell_str) A_0 c_0 a_0]) (ne_0 : n_0 = List.length a_0), f184.j2 (sq184.post W A_0 n_0 c_0 h0 m0 r) A_0 n_0 c_0 x_1 x_2 x_3 b_8 b_9 x_10 x_11 h
  | .j5 a_0 x_1 x_2 x_3 b_8 b_9 x_10 x_11 b_87, r => ∀ {W h0 m0 h m A_0 n_0 c_0} (O : Hold W h0 m0 h m [rR (aE tell_str) A_0 c_0 a_0]) (ne_0 : n_0 = List.length a_0), f184.j5 (sq184.post W A_0 n_0 c_0 h0 m0 r) A_0 n_0 c_0 x_1 x_2 x_3 b_8 b_9 x_10 x_11 b_87 h
  | .j4 a_0 x_1 x_2 x_3 x_10 x_11, r => ∀ {W h0 m0 h m A_0 n_0 c_0} (O : Hold W h0 m0 h m [rR (aE tell_str) A_0 c_0 a_0]) (ne_0 : n_0 = List.length a_0), f184.j4 (sq184.post W A_0 n_0 c_0 h0 m0 r) A_0 n_0 c_0 x_1 x_2 x_3 x_10 x_11 h
theorem sq184_k.step_f (go : (p : sq184_k.Pt) → Option ((List ByteArray))) (ih : ∀ p r, go p = some r → sq184_k.I p r) (a_0 x_1 x_2 x_3) (r) (e : sq184_k.body go (.f a_0 x_1 x_2 x_3) = some r) : sq184_k.I (.f a_0 x_1 x_2 x_3) r := by
  unfold sq184_k.body at e
  intro W h m A_0 n_0 c_0 O ne_0
  subst ne_0
  refine f184.run ?_
  unfold f184.runT
  exact (ih _ _ e) (O.pick [0]).nm rfl
theorem sq184_k.step_l0 (go : (p : sq184_k.Pt) → Option ((List ByteArray))) (ih : ∀ p r, go p = some r → sq184_k.I p r) (a_0 x_1 x_2 x_3 b_8 b_9) (r) (e : sq184_k.body go (.l0 a_0 x_1 x_2 x_3 b_8 b_9) = some r) : sq184_k.I (.l0 a_0 x_1 x_2 x_3 b_8 b_9) r := by
  unfold sq184_k.body at e
  intro W h0 m0 h m A_0 n_0 c_0 O ne_0
  subst ne_0
  refine f184.l0_in ?_
  unfold f184.l0T
  refine split_dec_e e (fun c39 e => ?_) (fun c39 e => ?_)
  · obtain ⟨y1, g2, e⟩ := bind_e e
    obtain ⟨W7, P8, B9, C10⟩ := O.callC [0]
    refine (sq205.walk P8 rfl g2).mono ?_
    rintro _ h3 ⟨m4, Q5, rfl, hl11⟩
    have O12 := Hold.nm (C10 Q5 (vfs_cons (rR_vf (aE_vf (fun _ _ _ _ h => h))) vfs_nil))
    refine ⟨rfl, ?_⟩
    cases e
    exact ⟨_, O12.pick [1], rfl, hl11⟩
  · refine split_eq_e e (fun c38 e => ?_) (fun c38 e => ?_)
    · obtain ⟨y13, g14, e⟩ := bind_e e
      obtain ⟨W19, P20, B21, C22⟩ := O.callC [0]
      refine (sq206.walk P20 rfl g14).mono ?_
      rintro _ h15 ⟨m16, Q17, rfl, hl23⟩
      have O24 := Hold.nm (C22 Q17 (vfs_cons (rR_vf (aE_vf (fun _ _ _ _ h => h))) vfs_nil))
      refine ⟨rfl, ?_⟩
      cases e
      exact ⟨_, O24.pick [1], rfl, hl23⟩
    · refine split_not ?_
      refine split_any_e e (fun c37 e => ?_) (fun c37 e => ?_)
      · exact (ih _ _ e) (O.pick [0]).nm rfl
      · obtain ⟨y25, g26, e⟩ := bind_e e
        obtain ⟨W31, P32, B33, C34⟩ := O.callC [0]
        refine (sq207.walk P32 rfl g26).mono ?_
        rintro _ h27 ⟨m28, Q29, rfl, hl35⟩
        have O36 := Hold.nm (C34 Q29 (vfs_cons (rR_vf (aE_vf (fun _ _ _ _ h => h))) vfs_nil))
        refine ⟨rfl, ?_⟩
        exact (ih _ _ e) (O36.pick [1]).nm hl35
theorem sq184_k.step_j0 (go : (p : sq184_k.Pt) → Option ((List ByteArray))) (ih : ∀ p r, go p = some r → sq184_k.I p r) (a_0 x_1 x_2 x_3 b_8 b_9 x_10) (r) (e : sq184_k.body go (.j0 a_0 x_1 x_2 x_3 b_8 b_9 x_10) = some r) : sq184_k.I (.j0 a_0 x_1 x_2 x_3 b_8 b_9 x_10) r := by
  unfold sq184_k.body at e
  intro W h0 m0 h m A_0 n_0 c_0 O ne_0
  subst ne_0
  refine f184.j0_in ?_
  unfold f184.j0T
  obtain ⟨y1, g2, e⟩ := bind_e e
  obtain ⟨m7, u8, s13, ⟨⟨r11, k12⟩, _⟩, B9, C10⟩ := O.lend0 [0]
  replace r11 : Rd 1 eStr m7 A_0 a_0 := r11
  replace k12 : List.length a_0 ≤ c_0 := k12
  refine (sq208.walk (Hold.start (W := No) s13) rfl k12 r11 g2).mono ?_
  rintro _ h3 ⟨m4, Q5, rfl⟩
  have O14 := Hold.nm (C10 Q5 vfs_nil)
  refine ⟨_, _, rfl, ?_⟩
  refine split_eq_e e (fun c27 e => ?_) (fun c27 e => ?_)
  · obtain ⟨y15, g16, e⟩ := bind_e e
    obtain ⟨W21, P22, B23, C24⟩ := O14.callC [0]
    refine (sq209.walk P22 rfl g16).mono ?_
    rintro _ h17 ⟨m18, Q19, rfl, hl25⟩
    have O26 := Hold.nm (C24 Q19 (vfs_cons (rR_vf (aE_vf (fun _ _ _ _ h => h))) vfs_nil))
    refine ⟨rfl, ?_⟩
    exact (ih _ _ e) (O26.pick [1]).nm hl25
  · exact (ih _ _ e) (O14.pick [0]).nm rfl
theorem sq184_k.step_j1 (go : (p : sq184_k.Pt) → Option ((List ByteArray))) (ih : ∀ p r, go p = some r → sq184_k.I p r) (a_0 x_1 x_2 x_3 b_8 b_9 x_10 x_11 x_12) (r) (e : sq184_k.body go (.j1 a_0 x_1 x_2 x_3 b_8 b_9 x_10 x_11 x_12) = some r) : sq184_k.I (.j1 a_0 x_1 x_2 x_3 b_8 b_9 x_10 x_11 x_12) r := by
  unfold sq184_k.body at e
  intro W h0 m0 h m A_0 n_0 c_0 O ne_0
  subst ne_0
  refine f184.j1_in ?_
  unfold f184.j1T
  refine split_any_e e (fun c2 e => ?_) (fun c2 e => ?_)
  · refine split_any_e e (fun c1 e => ?_) (fun c1 e => ?_)
    · exact (ih _ _ e) (O.pick [0]).nm rfl
    · exact (ih _ _ e) (O.pick [0]).nm rfl
  · exact (ih _ _ e) (O.pick [0]).nm rfl
theorem sq184_k.step_j3 (go : (p : sq184_k.Pt) → Option ((List ByteArray))) (ih : ∀ p r, go p = some r → sq184_k.I p r) (a_0 x_1 x_2 x_3 b_8 b_9 x_10 x_11 b_68) (r) (e : sq184_k.body go (.j3 a_0 x_1 x_2 x_3 b_8 b_9 x_10 x_11 b_68) = some r) : sq184_k.I (.j3 a_0 x_1 x_2 x_3 b_8 b_9 x_10 x_11 b_68) r := by
  unfold sq184_k.body at e
  intro W h0 m0 h m A_0 n_0 c_0 O ne_0
  subst ne_0
  refine f184.j3_in ?_
  unfold f184.j3T
  refine split_any_e e (fun c14 e => ?_) (fun c14 e => ?_)
  · obtain ⟨y1, g2, e⟩ := bind_e e
    obtain ⟨W7, P8, B9, C10⟩ := O.callC [0]
    refine (sq210.walk P8 rfl g2).mono ?_
    rintro _ h3 ⟨m4, Q5, rfl, hl11⟩
    have O12 := Hold.nm (C10 Q5 (vfs_cons (rR_vf (aE_vf (fun _ _ _ _ h => h))) vfs_nil))
    refine ⟨_, rfl, ?_⟩
    refine split_any_e e (fun c13 e => ?_) (fun c13 e => ?_)
    · cases e
      exact ⟨_, O12.pick [1], rfl, hl11⟩
    · exact (ih _ _ e) (O12.pick [1]).nm hl11
  · exact (ih _ _ e) (O.pick [0]).nm rfl
theorem sq184_k.step_j2 (go : (p : sq184_k.Pt) → Option ((List ByteArray))) (ih : ∀ p r, go p = some r → sq184_k.I p r) (a_0 x_1 x_2 x_3 b_8 b_9 x_10 x_11) (r) (e : sq184_k.body go (.j2 a_0 x_1 x_2 x_3 b_8 b_9 x_10 x_11) = some r) : sq184_k.I (.j2 a_0 x_1 x_2 x_3 b_8 b_9 x_10 x_11) r := by
  unfold sq184_k.body at e
  intro W h0 m0 h m A_0 n_0 c_0 O ne_0
  subst ne_0
  refine f184.j2_in ?_
  unfold f184.j2T
  refine split_dec_e e (fun c22 e => ?_) (fun c22 e => ?_)
  · obtain ⟨y1, g2, e⟩ := bind_e e
    refine (O.os 0 rfl).addr rfl g2 fun a3 cs4 ha5 hc6 he7 => ?_
    obtain rfl : cs4 = [(Value.string y1)] := he7
    obtain ⟨y8, g9, e⟩ := bind_e e
    refine (O.os 0 rfl).addr rfl g9 fun a10 cs11 ha12 hc13 he14 => ?_
    obtain rfl : cs11 = [(Value.string y8)] := he14
    refine ⟨_, ld0 (Sub.refl _) hc6 rfl, _, rfl, ?_⟩
    refine ⟨_, ld0 (Sub.refl _) hc13 rfl, _, rfl, ?_⟩
    obtain ⟨y15, g16, e⟩ := bind_e e
    refine (cmp_Less_211.walk (Hold.start (W := No) O.s)  g16).mono ?_
    rintro _ h17 ⟨m18, Q19, rfl⟩
    have O21 := Hold.nm (O.retC Q19 vfs_nil)
    refine ⟨_, rfl, ?_⟩
    exact (ih _ _ e) (O21.pick [0]).nm rfl
  · exact (ih _ _ e) (O.pick [0]).nm rfl
theorem sq184_k.step_j5 (go : (p : sq184_k.Pt) → Option ((List ByteArray))) (ih : ∀ p r, go p = some r → sq184_k.I p r) (a_0 x_1 x_2 x_3 b_8 b_9 x_10 x_11 b_87) (r) (e : sq184_k.body go (.j5 a_0 x_1 x_2 x_3 b_8 b_9 x_10 x_11 b_87) = some r) : sq184_k.I (.j5 a_0 x_1 x_2 x_3 b_8 b_9 x_10 x_11 b_87) r := by
  unfold sq184_k.body at e
  intro W h0 m0 h m A_0 n_0 c_0 O ne_0
  subst ne_0
  refine f184.j5_in ?_
  unfold f184.j5T
  refine split_any_e e (fun c13 e => ?_) (fun c13 e => ?_)
  · obtain ⟨y1, g2, e⟩ := bind_e e
    obtain ⟨W7, P8, B9, C10⟩ := O.callC [0]
    refine (sq212.walk P8 rfl g2).mono ?_
    rintro _ h3 ⟨m4, Q5, rfl, hl11⟩
    have O12 := Hold.nm (C10 Q5 (vfs_cons (rR_vf (aE_vf (fun _ _ _ _ h => h))) vfs_nil))
    refine ⟨_, rfl, ?_⟩
    exact (ih _ _ e) (O12.pick [1]).nm hl11
  · exact (ih _ _ e) (O.pick [0]).nm rfl
theorem sq184_k.step_j4 (go : (p : sq184_k.Pt) → Option ((List ByteArray))) (ih : ∀ p r, go p = some r → sq184_k.I p r) (a_0 x_1 x_2 x_3 x_10 x_11) (r) (e : sq184_k.body go (.j4 a_0 x_1 x_2 x_3 x_10 x_11) = some r) : sq184_k.I (.j4 a_0 x_1 x_2 x_3 x_10 x_11) r := by
  unfold sq184_k.body at e
  intro W h0 m0 h m A_0 n_0 c_0 O ne_0
  subst ne_0
  refine f184.j4_in ?_
  unfold f184.j4T
  obtain ⟨y1, g2, e⟩ := bind_e e
  obtain ⟨W7, P8, B9, C10⟩ := O.callC [0]
  refine (sq213.walk P8 rfl g2).mono ?_
  rintro _ h3 ⟨m4, Q5, rfl, hl11⟩
  have O12 := Hold.nm (C10 Q5 (vfs_cons (rR_vf (aE_vf (fun _ _ _ _ h => h))) vfs_nil))
  refine ⟨_, _, rfl, ?_⟩
  refine ⟨by decide, ?_⟩
  refine split_dec_e e (fun c37 e => ?_) (fun c37 e => ?_)
  · obtain ⟨y13, g14, e⟩ := bind_e e
    obtain ⟨W19, P20, B21, C22⟩ := O12.callC [1]
    refine ((ih _ _ g14) P20 hl11).mono ?_
    rintro _ h15 ⟨m16, Q17, rfl, hl23⟩
    have O24 := Hold.nm (C22 Q17 (vfs_cons (rR_vf (aE_vf (fun _ _ _ _ h => h))) vfs_nil))
    refine ⟨rfl, ?_⟩
    exact (ih _ _ e) (O24.pick [2]).nm hl23
  · obtain ⟨y25, g26, e⟩ := bind_e e
    obtain ⟨W31, P32, B33, C34⟩ := O12.callC [1]
    refine ((ih _ _ g26) P32 hl11).mono ?_
    rintro _ h27 ⟨m28, Q29, rfl, hl35⟩
    have O36 := Hold.nm (C34 Q29 (vfs_cons (rR_vf (aE_vf (fun _ _ _ _ h => h))) vfs_nil))
    refine ⟨rfl, ?_⟩
    exact (ih _ _ e) (O36.pick [2]).nm hl35
theorem sq184_k.all {p : sq184_k.Pt} {r : ((List ByteArray))} (e : sq184_k.go p = some r) : sq184_k.I p r := fixF_ind (β := fun _ => ((List ByteArray))) sq184_k.mono (I := sq184_k.I) (fun go ih p r e => match p with
  | .f a_0 x_1 x_2 x_3 => sq184_k.step_f go ih a_0 x_1 x_2 x_3 r e
  | .l0 a_0 x_1 x_2 x_3 b_8 b_9 => sq184_k.step_l0 go ih a_0 x_1 x_2 x_3 b_8 b_9 r e
  | .j0 a_0 x_1 x_2 x_3 b_8 b_9 x_10 => sq184_k.step_j0 go ih a_0 x_1 x_2 x_3 b_8 b_9 x_10 r e
  | .j1 a_0 x_1 x_2 x_3 b_8 b_9 x_10 x_11 x_12 => sq184_k.step_j1 go ih a_0 x_1 x_2 x_3 b_8 b_9 x_10 x_11 x_12 r e
  | .j3 a_0 x_1 x_2 x_3 b_8 b_9 x_10 x_11 b_68 => sq184_k.step_j3 go ih a_0 x_1 x_2 x_3 b_8 b_9 x_10 x_11 b_68 r e
  | .j2 a_0 x_1 x_2 x_3 b_8 b_9 x_10 x_11 => sq184_k.step_j2 go ih a_0 x_1 x_2 x_3 b_8 b_9 x_10 x_11 r e
  | .j5 a_0 x_1 x_2 x_3 b_8 b_9 x_10 x_11 b_87 => sq184_k.step_j5 go ih a_0 x_1 x_2 x_3 b_8 b_9 x_10 x_11 b_87 r e
  | .j4 a_0 x_1 x_2 x_3 x_10 x_11 => sq184_k.step_j4 go ih a_0 x_1 x_2 x_3 x_10 x_11 r e
  ) e
theorem sq184.walk {W h m A_0 n_0 c_0 a_0 x_1 x_2 x_3} (O : Hold W h m h m [rR (aE tell_str) A_0 c_0 a_0]) (ne_0 : n_0 = List.length a_0) {r} (e : sq184 a_0 x_1 x_2 x_3 = some r) : Run Try.prog 184 #[Value.slice A_0 n_0 c_0, Value.int .i64 x_1, Value.int .i64 x_2, Value.int .i64 x_3] h (sq184.post W A_0 n_0 c_0 h m r) := sq184_k.all (p := .f a_0 x_1 x_2 x_3) e O ne_0
def slices_Sort_152.post (W : Nat → Prop) (Asl0 : Option Addr) (nsl0 csl0 : Nat) (h0 m0 : Heap) (r : (List ByteArray)) (v : Value) (h : Heap) : Prop := ∃ m , Hold W h0 m0 h m [rR (aE tell_str) Asl0 csl0 r] ∧ v = .tuple #[] ∧ nsl0 = List.length r
noncomputable def slices_Sort_152 (a_0 : List ByteArray) : Option ((List ByteArray)) :=
  Option.bind (math_bits_Len (IntKind.wrap .u64 (((List.length a_0) : Nat) : Int))) fun y1 => Option.bind (sq184 a_0 (0 : Int) (((List.length a_0) : Nat) : Int) y1) fun y8 => some (y8)
theorem slices_Sort_152.walk {W h m A_0 n_0 c_0 a_0} (O : Hold W h m h m [rR (aE tell_str) A_0 c_0 a_0]) (ne_0 : n_0 = List.length a_0) {r} (e : slices_Sort_152 a_0 = some r) : Run Try.prog 152 #[Value.slice A_0 n_0 c_0] h (slices_Sort_152.post W A_0 n_0 c_0 h m r) := by
  unfold slices_Sort_152 at e
  subst ne_0
  refine f152.run ?_
  unfold f152.runT
  obtain ⟨y1, g2, e⟩ := bind_e e
  refine (math_bits_Len.walk (Hold.start (W := No) O.s)  g2).mono ?_
  rintro _ h3 ⟨m4, Q5, rfl⟩
  have O7 := Hold.nm (O.retC Q5 vfs_nil)
  refine ⟨_, rfl, ?_⟩
  obtain ⟨y8, g9, e⟩ := bind_e e
  obtain ⟨W14, P15, B16, C17⟩ := O7.callC [0]
  refine (sq184.walk P15 rfl g9).mono ?_
  rintro _ h10 ⟨m11, Q12, rfl, hl18⟩
  have O19 := Hold.nm (C17 Q12 (vfs_cons (rR_vf (aE_vf (fun _ _ _ _ h => h))) vfs_nil))
  refine ⟨rfl, ?_⟩
  cases e
  exact ⟨_, O19.pick [1], rfl, hl18⟩
theorem slices_Sort_152.val (l : List ByteArray) (hn : l.length ≤ 1000000000000000000) : ∃ r, slices_Sort_152 l = some r ∧ r.Perm l ∧ r.Pairwise (· ≤ ·) := by
  have hl : ∀ x y : ByteArray, cmp_Less_211 x y = some (Op.bytesLess (ByteArray.toList x) (ByteArray.toList y)) := fun x y => by unfold cmp_Less_211 cmp_isNaN_221; rw [Option.bind_some, if_neg (by simp)]
  have hlen : ∀ x : Nat, x < 18446744073709551616 → ∃ k : Nat, math_bits_Len (x : Int) = some (k : Int) ∧ k ≤ 64 ∧ (1 ≤ x → 2 ^ k ≤ 2 * x) := by
    intro x hx
    obtain ⟨k, k1, k2⟩ := len_val (F := math_bits_Len64) (j0 := math_bits_Len64.j0) (j1 := math_bits_Len64.j1) (j2 := math_bits_Len64.j2) (fun x => rfl) (fun x n => rfl) (fun x n => rfl) (fun x n => rfl) x hx
    exact ⟨k, by unfold math_bits_Len; rw [k1, Option.bind_some], k2⟩
  have hu : ∀ x : Nat, x ≤ 1000000000000000000 → IntKind.wrap .u64 (x : Int) = x := fun x h => u64_in' (by omega) (by omega)
  have P := pdq_val (lt := fun x y : ByteArray => Op.bytesLess (ByteArray.toList x) (ByteArray.toList y)) ord3_str hl (f := sq184) (l0 := sq184.l0) (j0 := sq184.j0) (j1 := sq184.j1) (j2 := sq184.j2) (j3 := sq184.j3) (j4 := sq184.j4) (j5 := sq184.j5)
    (ins := sq205) (heap := sq206) (brk := sq207) (rev := sq209) (cho := sq208) (pi := sq210) (pe := sq212) (pt := sq213)
    (fun {a b l} h1 h2 h3 => by
      unfold sq205
      by_cases c : a = b
      · subst c
        exact ⟨l, .refl, fun i j _ _ k1 k2 k3 => by omega, by rw [w_succ (by omega), sq205.l0_eq, if_neg (by omega)]⟩
      · rw [w_succ (by omega)]
        exact insertion_val ord3_str hl (f0 := sq205.l0) (f1 := sq205.l1) (fun l a b i => sq205.l0_eq l a b i) (fun l a b i j => by rw [sq205.l1_eq]; simp only [sq205.j1_eq, sq205.j0_eq]) (b - (a + 1)) (a + 1) l (by omega) (by omega) h1 (by omega) (fun i j _ _ k1 k2 k3 => by omega))
    (fun {a b l} h1 h2 h3 => heapSort_val ord3_str hl (f := sq218.l0) (J1 := sq218.j1) (J0 := sq218.j0) (fun l hi a x => sq218.l0_eq l hi a x) (fun l hi a x c b => sq218.j1_eq l hi a x c b) (fun l hi a x c => sq218.j0_eq l hi a x c) (G := sq218) (H := sq206) (f0 := sq206.l0) (f1 := sq206.l1) (fun l lo hi a => rfl) (fun l a lo hi i => sq206.l0_eq l a lo hi i) (fun l a lo i => sq206.l1_eq l a lo i) (fun l a b => rfl) h1 h2 h3)
    (fun {a b l} h1 h2 h3 => by
      obtain ⟨n, rfl⟩ : ∃ n, b = a + n := ⟨b - a, by omega⟩
      unfold sq207
      have w1 : IntKind.wrap .i64 (((a + n : Nat) : Int) - (a : Int)) = (n : Int) := by rw [wrap_in (by omega) (by omega)]; omega
      have w2 : Int.tdiv (n : Int) 4 = ((n / 4 : Nat) : Int) := by rw [Int.tdiv_eq_ediv_of_nonneg (by omega)]; omega
      rw [w1, if_pos (by omega)]
      unfold slices_nextPowerOfTwo
      obtain ⟨k, k1, k2, k3⟩ := hlen n (by omega)
      have k4 := k3 (by omega)
      rw [hu n (by omega), k1, Option.bind_some, if_pos (by omega), Option.bind_some, shl_one (by omega), w2, wrap_in (n := ((n / 4 : Nat) : Int)) (by omega) (by omega), wrap_in (n := ((n / 4 : Nat) : Int) * 2) (by omega) (by omega), wrap_in (n := (a : Int) + ((n / 4 : Nat) : Int) * 2) (by omega) (by omega), wrap_in (by omega) (by omega), show (a : Int) + ((n / 4 : Nat) : Int) * 2 - 1 = ((a + n / 4 * 2 - 1 : Nat) : Int) by omega]
      exact brk_val (F := sq207.l0) (J := sq207.j1) (nx := slices_xorshift_Next) (fun y => ⟨_, rfl⟩) (fun l a n y m i => sq207.l0_eq l a n y m i) (fun l a n y m i o => by rw [sq207.j1_eq]; simp only [sq207.j0_eq]) (Nat.one_le_two_pow) k4 (by omega) 3 (a + n / 4 * 2 - 1) l _ (by omega) (by omega) (by omega) (by omega))
    (fun {a b l} h1 h2 h3 => by
      unfold sq209
      rw [wrap_in (by omega) (by omega), show (b : Int) - 1 = ((b - 1 : Nat) : Int) by omega]
      exact rev_val (f := sq209.l0) (fun l x y => sq209.l0_eq l x y) b a (b - 1) l (by omega) (Nat.le_refl _) (by omega) h2 h3)
    (fun {a b l} h1 h2 h3 => choose_val hl (o := sq223) (fun l x1 x2 y3 => rfl) (md := sq220) (fun l x1 x2 x3 y4 => rfl) (ma := sq219) (fun l x y => rfl) (j0 := sq208.j0) (fun y x => rfl) (j1 := sq208.j1) (fun l y x1 x2 x3 => rfl) (ch := sq208) (fun l a b => rfl) h1 h2 h3)
    (fun {a b l} h1 h2 h3 h4 => pins_val ord3_str hl (l0 := sq210.l0) (l1 := sq210.l1) (l2 := sq210.l2) (l3 := sq210.l3) (j0 := sq210.j0) (j1 := sq210.j1) (j2 := sq210.j2) (j3 := sq210.j3) (P := sq210)
      (fun l a b i s => sq210.l0_eq l a b i s) (fun l a b i s => sq210.l1_eq l a b i s) (fun l a b i s => sq210.j2_eq l a b i s) (fun l a b i s => sq210.j1_eq l a b i s) (fun l a b i s j => sq210.l2_eq l a b i s j) (fun l a b i s => sq210.j3_eq l a b i s) (fun l a b i s j => sq210.l3_eq l a b i s j) (fun l a b i s => sq210.j0_eq l a b i s) (fun l a b => rfl) h1 h2 h3 h4)
    (fun {a b p l} h1 h2 h3 h4 => parte_val ord3_str hl (l0 := sq212.l0) (l1 := sq212.l1) (l2 := sq212.l2) (j0 := sq212.j0) (j1 := sq212.j1) (j2 := sq212.j2) (j3 := sq212.j3) (P := sq212)
      (fun l a b p => rfl) (fun l a i j => sq212.l0_eq l a i j) (fun l a i j => sq212.l1_eq l a i j) (fun l a i j => sq212.j2_eq l a i j) (fun l a i j => sq212.j0_eq l a i j) (fun l a i j => sq212.l2_eq l a i j) (fun l a i j => sq212.j3_eq l a i j) (fun l a i j => sq212.j1_eq l a i j) h1 h2 h3 h4)
    (fun {a b p l} h1 h2 h3 h4 => part_val ord3_str hl (k0 := sq213.l0) (kj2 := sq213.j2) (kj0 := sq213.j0) (k1 := sq213.l1) (kj3 := sq213.j3) (J1 := sq213.j1) (l2 := sq213.l2) (l3 := sq213.l3) (j7 := sq213.j7) (j5 := sq213.j5) (l4 := sq213.l4) (j8 := sq213.j8) (j6 := sq213.j6) (j4 := sq213.j4) (P := sq213)
      (fun l a b p => rfl) (fun l a i j => sq213.l0_eq l a i j) (fun l a i j => sq213.j2_eq l a i j) (fun l a i j => rfl) (fun l a i j => sq213.l1_eq l a i j) (fun l a i j => sq213.j3_eq l a i j) (fun l a i j => rfl) (fun l a i j => sq213.l2_eq l a i j) (fun l a i j => sq213.l3_eq l a i j) (fun l a i j => sq213.j7_eq l a i j) (fun l a i j => sq213.j5_eq l a i j) (fun l a i j => sq213.l4_eq l a i j) (fun l a i j => sq213.j8_eq l a i j) (fun l a i j => sq213.j6_eq l a i j) (fun l a j => rfl) h1 h2 h3 h4)
    (fun l a b lim => sq184_eq l a b lim) (fun l a b lim b8 b9 => sq184.l0_eq l a b lim b8 b9) (fun l a b lim b8 b9 n => sq184.j0_eq l a b lim b8 b9 n) (fun l a b lim b8 b9 n p h => sq184.j1_eq l a b lim b8 b9 n p h) (fun l a b lim b8 b9 n p c => sq184.j3_eq l a b lim b8 b9 n p c) (fun l a b lim b8 b9 n p => sq184.j2_eq l a b lim b8 b9 n p) (fun l a b lim b8 b9 n p c => sq184.j5_eq l a b lim b8 b9 n p c) (fun l a b lim n p => sq184.j4_eq l a b lim n p)
  obtain ⟨k, k1, _⟩ := hlen l.length (by omega)
  obtain ⟨r, t1, t2, t3⟩ := P l.length 0 l.length l (k : Int) true true (by omega) (by omega) (Nat.le_refl _) hn (fun i h0 hi h => by omega)
  refine ⟨r, ?_, t1.1, Srt.all (by rw [t1.len]; exact t2)⟩
  unfold slices_Sort_152
  rw [hu _ hn, k1, Option.bind_some, sq184_eq]
  rw [show (0 : Int) = ((0 : Nat) : Int) from rfl, t3, Option.bind_some]
def slices_Compact_153.post (W : Nat → Prop) (h0 m0 : Heap) (r : (List ByteArray)) (v : Value) (h : Heap) : Prop := ∃ m A0 n0 c0, Hold W h0 m0 h m [rR (aE tell_str) A0 c0 r] ∧ v = .slice A0 n0 c0 ∧ n0 = List.length r
def slices_Compact_153.dq (y : ByteArray) : List ByteArray → List ByteArray
  | [] => []
  | x :: l => if x = y then slices_Compact_153.dq y l else x :: slices_Compact_153.dq x l
def slices_Compact_153.dd : List ByteArray → List ByteArray
  | [] => []
  | y :: l => y :: slices_Compact_153.dq y l
noncomputable def slices_Compact_153 (a0 : List ByteArray) : Option (List ByteArray) := if List.length a0 ≤ 1000000000000000 then some (slices_Compact_153.dd a0) else none
theorem slices_Compact_153.l1_walk {W : Nat → Prop} {h0 m0 m : Heap} {A0 : Option Addr} {c0 : Nat} (k : Nat) : ∀ (rest out junk : List ByteArray) (y : ByteArray) (h : Heap) (O : Hold W h0 m0 h m [rR (aE tell_str) A0 c0 (out ++ junk ++ y :: rest)]) (N : Nat) (hN : N = (out ++ junk ++ y :: rest).length) (hb : N ≤ 1000000000000000) (k2 : Nat) (hk : k + k2 = out.length + junk.length + 1) (hk1 : 1 ≤ k2),
    f153.l1 (slices_Compact_153.post W h0 m0 (out ++ slices_Compact_153.dq y rest)) A0 N c0 (out.length : Int) (sliceA A0 k c0 1) (N - k) (c0 - k) (k2 : Int) h := by
  intro rest
  induction rest with
  | nil =>
    intro out junk y h O N hN hb k2 hk hk1
    subst hN
    refine f153.l1_in ?_
    unfold f153.l1T
    have hl : (out ++ junk ++ [y]).length = out.length + junk.length + 1 := by simp only [List.length_append, List.length_cons, List.length_nil]
    have hc := O.cap 0 rfl
    refine split_dec (fun c => absurd c (by omega)) (fun _ => ?_)
    have g : sls (out ++ junk ++ [y]) (out.length : Int) ((out ++ junk ++ [y]).length : Int) = some ((out ++ junk ++ [y]).drop out.length) := sls_drop rfl (by omega)
    refine ⟨by omega, by omega, by omega, ?_⟩
    have e : Int.toNat (((out ++ junk ++ [y]).length : Nat) : Int) - Int.toNat (out.length : Int) = ((out ++ junk ++ [y]).drop out.length).length := by rw [List.length_drop]; omega
    rw [e]
    refine O.clr (zp := ByteArray.mk #[]) 0 rfl g (e := 9) (zv := Value.string (ByteArray.mk #[])) (by kernel_rfl) (by kernel_rfl) rfl fun h' O' => ?_
    have g2 : sls (clrL (out ++ junk ++ [y]) (out.length : Int) ((out ++ junk ++ [y]).length : Int) (ByteArray.mk #[])) 0 (out.length : Int) = some out := by
      have hl2 := clrL_len (l := out ++ junk ++ [y]) (lo := (out.length : Int)) (hi := ((out ++ junk ++ [y]).length : Int)) (z := ByteArray.mk #[]) (by omega) (by omega)
      rw [sls_take rfl (by omega)]
      unfold clrL
      have t1 : List.take out.length (out ++ junk ++ [y]) = out := by rw [List.append_assoc]; exact List.take_left
      rw [Int.toNat_natCast out.length, t1, List.append_assoc, List.take_left]
    refine ⟨rfl, by decide, by omega, by omega, ?_⟩
    have O2 := O'.sls 0 rfl g2
    rw [slices_Compact_153.dq, List.append_nil]
    exact ⟨m, _, _, _, O2.pick [0], rfl, by simp⟩
  | cons x rest ih =>
    intro out junk y h O N hN hb k2 hk hk1
    subst hN
    refine f153.l1_in ?_
    unfold f153.l1T
    have hl : (out ++ junk ++ y :: x :: rest).length = out.length + junk.length + rest.length + 2 := by simp only [List.length_append, List.length_cons]; omega
    have hc := O.cap 0 rfl
    refine split_dec (fun _ => ?_) (fun c => absurd (show ((k2 : Nat) : Int) < _ by omega) c)
    have g0 : sls (out ++ junk ++ y :: x :: rest) (k : Int) ((out ++ junk ++ y :: x :: rest).length : Int) = some ((out ++ junk ++ y :: x :: rest).drop k) := sls_drop rfl (by omega)
    have o2 := (O.os 0 rfl).sls g0 (mx := c0) (by omega) (Nat.le_refl _)
    rw [Int.toNat_natCast] at o2
    have q1 : gi ((out ++ junk ++ y :: x :: rest).drop k) (k2 : Int) = some x := by
      refine gi_some rfl ?_
      rw [List.getElem?_drop, hk, List.getElem?_append_right (by simp only [List.length_append]; omega), List.length_append, show out.length + junk.length + 1 - (out.length + junk.length) = 1 by omega]
      rfl
    have w1 : IntKind.wrap .i64 ((k2 : Int) - (1 : Int)) = ((k2 - 1 : Nat) : Int) := by rw [wrap_in (by omega) (by omega)]; omega
    have q0 : gi ((out ++ junk ++ y :: x :: rest).drop k) ((k2 - 1 : Nat) : Int) = some y := by
      refine gi_some rfl ?_
      rw [List.getElem?_drop, show k + (k2 - 1) = out.length + junk.length by omega, List.getElem?_append_right (by simp only [List.length_append]; omega), List.length_append, Nat.sub_self]
      rfl
    rw [w1]
    have hn : (out ++ junk ++ y :: x :: rest).length - k = ((out ++ junk ++ y :: x :: rest).drop k).length := List.length_drop.symm
    refine o2.addr hn q1 fun a3 cs4 ha5 hc6 he7 => ?_
    obtain rfl : cs4 = [(Value.string x)] := he7
    refine o2.addr hn q0 fun a10 cs11 ha12 hc13 he14 => ?_
    obtain rfl : cs11 = [(Value.string y)] := he14
    refine ⟨_, ld0 (Sub.refl _) hc6 rfl, _, rfl, ?_⟩
    refine ⟨_, ld0 (Sub.refl _) hc13 rfl, _, rfl, ?_⟩
    rw [ba_list x y]
    by_cases e : x = y
    · rw [decide_eq_true e]
      refine split_f ?_
      refine f153.j0_in ?_
      unfold f153.j0T
      rw [w_succ (by omega)]
      have hr : slices_Compact_153.dq y (x :: rest) = slices_Compact_153.dq x rest := by rw [slices_Compact_153.dq, if_pos e, e]
      rw [hr]
      have hL : out ++ junk ++ y :: x :: rest = out ++ (junk ++ [y]) ++ x :: rest := by simp
      rw [hL] at O ⊢
      exact ih out (junk ++ [y]) x h O _ rfl (by rw [← hL]; exact hb) (k2 + 1) (by simp only [List.length_append, List.length_cons, List.length_nil]; omega) (by omega)
    · rw [decide_eq_false e]
      refine split_t ?_
      refine o2.addr hn q1 fun a17 cs18 ha19 hc20 he21 => ?_
      obtain rfl : cs18 = [(Value.string x)] := he21
      refine ⟨_, ld0 (Sub.refl _) hc20 rfl, _, rfl, ?_⟩
      obtain ⟨j0, js, hj⟩ : ∃ j0 js, junk ++ [y] = j0 :: js := by
        cases junk with
        | nil => exact ⟨_, _, rfl⟩
        | cons a b => exact ⟨_, _, rfl⟩
      have hL : out ++ junk ++ y :: x :: rest = out ++ j0 :: (js ++ x :: rest) := by
        have : out ++ junk ++ y :: x :: rest = out ++ (junk ++ [y]) ++ x :: rest := by simp
        rw [this, hj]; simp
      have hjl : js.length = junk.length := by have := congrArg List.length hj; simp at this; omega
      have qs : gi (out ++ junk ++ y :: x :: rest) (out.length : Int) = some j0 := by
        rw [hL]
        refine gi_some rfl ?_
        rw [List.getElem?_append_right (Nat.le_refl _), Nat.sub_self]
        rfl
      have es : (out ++ junk ++ y :: x :: rest).set (Int.toNat (out.length : Int)) x = (out ++ [x]) ++ js ++ x :: rest := by
        rw [hL, Int.toNat_natCast, List.set_append_right _ _ (Nat.le_refl _), Nat.sub_self, List.set_cons_zero]
        simp
      refine (O.os 0 rfl).addr rfl qs fun a22 cs23 ha24 hc25 he26 => ?_
      obtain rfl : cs23 = [(Value.string j0)] := he26
      refine O.elst0 0 rfl qs ha24 hc25 (by decide) (y' := x) rfl trivial es fun h28 O29 => ?_
      refine f153.j0_in ?_
      unfold f153.j0T
      rw [w_succ (by omega), w_succ (by omega)]
      have hr : out ++ slices_Compact_153.dq y (x :: rest) = (out ++ [x]) ++ slices_Compact_153.dq x rest := by rw [slices_Compact_153.dq, if_neg e]; simp
      rw [hr]
      have hN2 : (out ++ junk ++ y :: x :: rest).length = ((out ++ [x]) ++ js ++ x :: rest).length := by rw [← es, List.length_set]
      have := ih (out ++ [x]) js x h28 O29 _ rfl (by rw [← hN2]; exact hb) (k2 + 1) (by simp only [List.length_append, List.length_cons, List.length_nil]; omega) (by omega)
      rw [← hN2] at this
      rw [show (out ++ [x]).length = out.length + 1 by simp] at this
      exact this
theorem slices_Compact_153.l0_walk {W : Nat → Prop} {h0 m0 h m : Heap} {A0 : Option Addr} {c0 : Nat} : ∀ (rest pre : List ByteArray) (y : ByteArray) (O : Hold W h0 m0 h m [rR (aE tell_str) A0 c0 (pre ++ y :: rest)]) (N : Nat) (hN : N = (pre ++ y :: rest).length) (hb : N ≤ 1000000000000000),
    f153.l0 (slices_Compact_153.post W h0 m0 (pre ++ y :: slices_Compact_153.dq y rest)) A0 N c0 ((pre.length + 1 : Nat) : Int) h := by
  intro rest
  induction rest with
  | nil =>
    intro pre y O N hN hb
    subst hN
    refine f153.l0_in ?_
    unfold f153.l0T
    refine split_dec (fun c => absurd c (by simp only [List.length_append, List.length_cons, List.length_nil]; omega)) (fun _ => ?_)
    exact ⟨m, _, _, _, O.pick [0], rfl, rfl⟩
  | cons x rest ih =>
    intro pre y O N hN hb
    subst hN
    refine f153.l0_in ?_
    unfold f153.l0T
    have hl : (pre ++ y :: x :: rest).length = pre.length + rest.length + 2 := by simp only [List.length_append, List.length_cons]; omega
    have hc := O.cap 0 rfl
    refine split_dec (fun _ => ?_) (fun c => absurd (show ((pre.length + 1 : Nat) : Int) < _ by omega) c)
    have q1 : gi (pre ++ y :: x :: rest) ((pre.length + 1 : Nat) : Int) = some x := by
      refine gi_some rfl ?_
      rw [List.getElem?_append_right (by omega), show pre.length + 1 - pre.length = 1 by omega]
      rfl
    have w1 : IntKind.wrap .i64 (((pre.length + 1 : Nat) : Int) - (1 : Int)) = (pre.length : Int) := by rw [wrap_in (by omega) (by omega)]; omega
    have q0 : gi (pre ++ y :: x :: rest) (pre.length : Int) = some y := by
      refine gi_some rfl ?_
      rw [List.getElem?_append_right (Nat.le_refl _), Nat.sub_self]
      rfl
    rw [w1]
    refine (O.os 0 rfl).addr rfl q1 fun a3 cs4 ha5 hc6 he7 => ?_
    obtain rfl : cs4 = [(Value.string x)] := he7
    refine (O.os 0 rfl).addr rfl q0 fun a10 cs11 ha12 hc13 he14 => ?_
    obtain rfl : cs11 = [(Value.string y)] := he14
    refine ⟨_, ld0 (Sub.refl _) hc6 rfl, _, rfl, ?_⟩
    refine ⟨_, ld0 (Sub.refl _) hc13 rfl, _, rfl, ?_⟩
    rw [ba_list x y]
    by_cases e : x = y
    · rw [decide_eq_true e]
      refine split_t ?_
      refine ⟨by omega, by omega, by omega, ?_⟩
      have hr : pre ++ y :: slices_Compact_153.dq y (x :: rest) = (pre ++ [y]) ++ slices_Compact_153.dq x rest := by rw [slices_Compact_153.dq, if_pos e, e]; simp
      rw [hr]
      have hL : pre ++ y :: x :: rest = (pre ++ [y]) ++ [] ++ x :: rest := by simp
      have hp : (pre ++ [y]).length = pre.length + 1 := by simp
      have := slices_Compact_153.l1_walk (W := W) (h0 := h0) (m0 := m0) (m := m) (A0 := A0) (c0 := c0) (pre.length + 1) rest (pre ++ [y]) [] x h (by rw [← hL]; exact O) _ rfl (by rw [← hL]; exact hb) 1 (by simp) (Nat.le_refl _)
      rw [← hL, hp] at this
      exact this
    · rw [decide_eq_false e]
      refine split_f ?_
      have hr : pre ++ y :: slices_Compact_153.dq y (x :: rest) = (pre ++ [y]) ++ x :: slices_Compact_153.dq x rest := by rw [slices_Compact_153.dq, if_neg e]; simp
      rw [hr, w_succ (by omega)]
      have hL : pre ++ y :: x :: rest = (pre ++ [y]) ++ x :: rest := by simp
      have hp : (pre ++ [y]).length = pre.length + 1 := by simp
      have := ih (pre ++ [y]) x (by rw [← hL]; exact O) _ rfl (by rw [← hL]; exact hb)
      rw [← hL, hp] at this
      exact this
theorem slices_Compact_153.walk {W : Nat → Prop} {h m : Heap} {A0 : Option Addr} {n0 c0 : Nat} {a0 : List ByteArray} (O : Hold W h m h m [rR (aE tell_str) A0 c0 a0]) (ne0 : n0 = List.length a0) {r : List ByteArray} (e : slices_Compact_153 a0 = some r) : Run Try.prog 153 #[Value.slice A0 n0 c0] h (slices_Compact_153.post W h m r) := by
  unfold slices_Compact_153 at e
  subst ne0
  obtain ⟨g, e⟩ := guard_e e
  cases e
  refine f153.run ?_
  unfold f153.runT
  match a0, O, g with
  | [], O, g => exact split_dec (fun _ => ⟨m, _, _, _, O.pick [0], rfl, rfl⟩) (fun c => absurd (by decide) c)
  | y :: rest, O, g =>
    refine split_dec (fun c => ?_) (fun c => ?_)
    · have hr : rest = [] := by
        cases rest with
        | nil => rfl
        | cons a b => simp only [List.length_cons] at c; omega
      subst hr
      exact ⟨m, _, _, _, O.pick [0], rfl, rfl⟩
    · exact slices_Compact_153.l0_walk (W := W) (h0 := h) (m0 := m) (h := h) (m := m) (A0 := A0) (c0 := c0) rest [] y O _ rfl g
def roadref2_doubled.post (W : Nat → Prop) (h0 m0 : Heap) (r : Bool) (v : Value) (h : Heap) : Prop := ∃ m , Hold W h0 m0 h m [] ∧ v = .bool r
noncomputable def roadref2_doubled (a_0 : List ByteArray) : Option (Bool) :=
  Option.bind (slices_Clone_115 a_0) fun y1 => Option.bind (slices_Sort_152 y1) fun y13 => Option.bind (slices_Compact_153 y13) fun y25 => some ((decide ((((List.length y25) : Nat) : Int) < (((List.length a_0) : Nat) : Int))))
theorem roadref2_doubled.walk {W h m A_0 n_0 c_0 a_0} (O : Hold W h m h m []) (ne_0 : n_0 = List.length a_0) (k_0 : List.length a_0 ≤ c_0) (r_0 : Rd 1 eStr m A_0 a_0) {r} (e : roadref2_doubled a_0 = some r) : Run Try.prog 106 #[Value.slice A_0 n_0 c_0] h (roadref2_doubled.post W h m r) := by
  unfold roadref2_doubled at e
  subst ne_0
  refine f106.run ?_
  unfold f106.runT
  obtain ⟨y1, g2, e⟩ := bind_e e
  refine (slices_Clone_115.walk (Hold.start (W := No) O.s) rfl k_0 r_0 g2).mono ?_
  rintro _ h3 ⟨m4, A7, n8, c9, Q5, rfl, ne10⟩
  have O12 := Hold.nm (O.retC Q5 (vfs_cons (rR_vf (aE_vf (fun _ _ _ _ h => h))) vfs_nil))
  subst ne10
  refine ⟨_, _, _, rfl, ?_⟩
  obtain ⟨y13, g14, e⟩ := bind_e e
  obtain ⟨W19, P20, B21, C22⟩ := O12.callC [0]
  refine (slices_Sort_152.walk P20 rfl g14).mono ?_
  rintro _ h15 ⟨m16, Q17, rfl, hl23⟩
  have O24 := Hold.nm (C22 Q17 (vfs_cons (rR_vf (aE_vf (fun _ _ _ _ h => h))) vfs_nil))
  refine ⟨rfl, ?_⟩
  obtain ⟨y25, g26, e⟩ := bind_e e
  obtain ⟨W31, P32, B33, C34⟩ := O24.callC [1]
  refine (slices_Compact_153.walk P32 hl23 g26).mono ?_
  rintro _ h27 ⟨m28, A35, n36, c37, Q29, rfl, ne38⟩
  have O40 := Hold.nm (C34 Q29 (vfs_cons (rR_vf (aE_vf (fun _ _ _ _ h => h))) vfs_nil))
  subst ne38
  refine ⟨_, _, _, rfl, ?_⟩
  cases e
  exact ⟨_, O40.pick [], rfl⟩
def roadref2_makersOf.post (W : Nat → Prop) (h0 m0 : Heap) (r : (List ByteArray)) (v : Value) (h : Heap) : Prop := ∃ m A0 n0 c0, Hold W h0 m0 h m [rR (aE tell_str) A0 c0 r] ∧ v = .slice A0 n0 c0 ∧ n0 = List.length r
inductive roadref2_makersOf.l0_k.Pt where
  | l0 (a_3 : List ByteArray) (a_9 : List T_api_Data) (x_10 : Int) (x_11 : Int)
  | l1 (a_3 : List ByteArray) (a_9 : List T_api_Data) (x_10 : Int) (x_11 : Int) (a_16 : List T_api_Make) (x_17 : Int) (x_18 : Int)
noncomputable def roadref2_makersOf.l0_k.body (go : (p : roadref2_makersOf.l0_k.Pt) → Option ((List ByteArray))) : (p : roadref2_makersOf.l0_k.Pt) → Option ((List ByteArray))
  | .l0 a_3 a_9 x_10 x_11 => if x_11 < x_10 then (Option.bind (gi a_9 x_11) fun y1 => (go (.l1 a_3 a_9 x_10 x_11 y1.Makes (((List.length y1.Makes) : Nat) : Int) (0 : Int)))) else (some (a_3))
  | .l1 a_3 a_9 x_10 x_11 a_16 x_17 x_18 => if x_18 < x_17 then (Option.bind (gi a_16 x_18) fun y1 => Option.bind (ap 16 a_3 ([y1.Name] : List ByteArray)) fun l18 => (go (.l1 l18 a_9 x_10 x_11 a_16 x_17 (IntKind.wrap .i64 (x_18 + (1 : Int)))))) else ((go (.l0 a_3 a_9 x_10 (IntKind.wrap .i64 (x_11 + (1 : Int))))))
theorem roadref2_makersOf.l0_k.mono : MonoF (β := fun _ => ((List ByteArray))) roadref2_makersOf.l0_k.body := fun f g hfg p => match p with
  | .l0 a_3 a_9 x_10 x_11 => LeO.ite (LeO.bind (LeO.refl _) fun y1 => (hfg _)) (LeO.refl _)
  | .l1 a_3 a_9 x_10 x_11 a_16 x_17 x_18 => LeO.ite (LeO.bind (LeO.refl _) fun y1 => LeO.bind (LeO.refl _) fun l18 => (hfg _)) ((hfg _))
noncomputable def roadref2_makersOf.l0_k.go (p : roadref2_makersOf.l0_k.Pt) : Option ((List ByteArray)) := fixF (β := fun _ => ((List ByteArray))) roadref2_makersOf.l0_k.body p
noncomputable def roadref2_makersOf.l0 (a_3 a_9 x_10 x_11) := roadref2_makersOf.l0_k.go (.l0 a_3 a_9 x_10 x_11)
noncomputable def roadref2_makersOf.l1 (a_3 a_9 x_10 x_11 a_16 x_17 x_18) := roadref2_makersOf.l0_k.go (.l1 a_3 a_9 x_10 x_11 a_16 x_17 x_18)
theorem roadref2_makersOf.l0_eq (a_3 a_9 x_10 x_11) : roadref2_makersOf.l0 a_3 a_9 x_10 x_11 = if x_11 < x_10 then (Option.bind (gi a_9 x_11) fun y1 => (roadref2_makersOf.l1 a_3 a_9 x_10 x_11 y1.Makes (((List.length y1.Makes) : Nat) : Int) (0 : Int))) else (some (a_3)) := fixF_eq roadref2_makersOf.l0_k.mono _
theorem roadref2_makersOf.l1_eq (a_3 a_9 x_10 x_11 a_16 x_17 x_18) : roadref2_makersOf.l1 a_3 a_9 x_10 x_11 a_16 x_17 x_18 = if x_18 < x_17 then (Option.bind (gi a_16 x_18) fun y1 => Option.bind (ap 16 a_3 ([y1.Name] : List ByteArray)) fun l18 => (roadref2_makersOf.l1 l18 a_9 x_10 x_11 a_16 x_17 (IntKind.wrap .i64 (x_18 + (1 : Int))))) else ((roadref2_makersOf.l0 a_3 a_9 x_10 (IntKind.wrap .i64 (x_11 + (1 : Int))))) := fixF_eq roadref2_makersOf.l0_k.mono _
def roadref2_makersOf.l0_k.I : (p : roadref2_makersOf.l0_k.Pt) → ((List ByteArray)) → Prop
  | .l0 a_3 a_9 x_10 x_11, r => ∀ {W h0 m0 h m A_3 n_3 c_3 A_9 n_9 c_9} (O : Hold W h0 m0 h m [rR (aE tell_str) A_3 c_3 a_3]) (ne_3 : n_3 = List.length a_3) (ne_9 : n_9 = List.length a_9) (k_9 : List.length a_9 ≤ c_9) (r_9 : Rd 3 T_api_Data.E m A_9 a_9), f107.l0 (roadref2_makersOf.post W h0 m0 r) A_3 n_3 c_3 A_9 n_9 c_9 x_10 x_11 h
  | .l1 a_3 a_9 x_10 x_11 a_16 x_17 x_18, r => ∀ {W h0 m0 h m A_3 n_3 c_3 A_9 n_9 c_9 A_16 n_16 c_16} (O : Hold W h0 m0 h m [rR (aE tell_str) A_3 c_3 a_3]) (ne_3 : n_3 = List.length a_3) (ne_9 : n_9 = List.length a_9) (k_9 : List.length a_9 ≤ c_9) (r_9 : Rd 3 T_api_Data.E m A_9 a_9) (ne_16 : n_16 = List.length a_16) (k_16 : List.length a_16 ≤ c_16) (r_16 : Rd 2 T_api_Make.E m A_16 a_16), f107.l1 (roadref2_makersOf.post W h0 m0 r) A_3 n_3 c_3 A_9 n_9 c_9 x_10 x_11 A_16 n_16 c_16 x_17 x_18 h
theorem roadref2_makersOf.l0_k.step_l0 (go : (p : roadref2_makersOf.l0_k.Pt) → Option ((List ByteArray))) (ih : ∀ p r, go p = some r → roadref2_makersOf.l0_k.I p r) (a_3 a_9 x_10 x_11) (r) (e : roadref2_makersOf.l0_k.body go (.l0 a_3 a_9 x_10 x_11) = some r) : roadref2_makersOf.l0_k.I (.l0 a_3 a_9 x_10 x_11) r := by
  unfold roadref2_makersOf.l0_k.body at e
  intro W h0 m0 h m A_3 n_3 c_3 A_9 n_9 c_9 O ne_3 ne_9 k_9 r_9
  subst ne_3
  subst ne_9
  refine f107.l0_in ?_
  unfold f107.l0T
  refine split_dec_e e (fun c20 e => ?_) (fun c20 e => ?_)
  · obtain ⟨y1, g2, e⟩ := bind_e e
    refine r_9.addr rfl g2 fun a3 cs4 ha5 hc6 he7 => ?_
    refine ⟨_, ldAn O.s hc6 rfl, ?_⟩
    refine O.new fun h8 x9 O10 => ?_
    refine ⟨_, rfl, (T_api_Data.T.len _ _ _ he7), ?_⟩
    refine O10.stA 1 rfl (T_api_Data.T.len _ _ _ he7) (T_api_Data.T.flat _ _ _ he7) fun h12 O13 => ?_
    obtain ⟨A14, c15, q16, k17, r18⟩ := T_api_Data.g2 he7
    refine ⟨_, ldk (k := 2) (Sub.refl _) (O13.all 1 rfl) q16, _, _, _, rfl, ?_⟩
    have O19 := O13.nm
    exact (ih _ _ e) (O19.pick [0]).nm rfl rfl k_9 r_9 rfl k17 r18
  · cases e
    exact ⟨_, _, _, _, O.pick [0], rfl, rfl⟩
theorem roadref2_makersOf.l0_k.step_l1 (go : (p : roadref2_makersOf.l0_k.Pt) → Option ((List ByteArray))) (ih : ∀ p r, go p = some r → roadref2_makersOf.l0_k.I p r) (a_3 a_9 x_10 x_11 a_16 x_17 x_18) (r) (e : roadref2_makersOf.l0_k.body go (.l1 a_3 a_9 x_10 x_11 a_16 x_17 x_18) = some r) : roadref2_makersOf.l0_k.I (.l1 a_3 a_9 x_10 x_11 a_16 x_17 x_18) r := by
  unfold roadref2_makersOf.l0_k.body at e
  intro W h0 m0 h m A_3 n_3 c_3 A_9 n_9 c_9 A_16 n_16 c_16 O ne_3 ne_9 k_9 r_9 ne_16 k_16 r_16
  subst ne_3
  subst ne_9
  subst ne_16
  refine f107.l1_in ?_
  unfold f107.l1T
  refine split_dec_e e (fun c28 e => ?_) (fun c28 e => ?_)
  · obtain ⟨y1, g2, e⟩ := bind_e e
    refine r_16.addr rfl g2 fun a3 cs4 ha5 hc6 he7 => ?_
    refine ⟨_, ldAn O.s hc6 rfl, ?_⟩
    refine O.new fun h8 x9 O10 => ?_
    refine ⟨_, rfl, (T_api_Make.T.len _ _ _ he7), ?_⟩
    refine O10.stA 1 rfl (T_api_Make.T.len _ _ _ he7) (T_api_Make.T.flat _ _ _ he7) fun h12 O13 => ?_
    refine ⟨_, ld0 (Sub.refl _) (O13.all 1 rfl) (T_api_Make.g0 he7), _, rfl, ?_⟩
    refine O13.new fun h14 x15 O16 => ?_
    obtain ⟨l18, g19, e⟩ := bind_e e
    have O26 := O16.rowE (l := ([y1.Name] : List ByteArray)) 2 rfl tell_str (show CsE _ _ _ _ _ from (CsE.cons (c1 := [(Value.string y1.Name)]) rfl rfl CsE.nil)) rfl
    refine O26.app 0 rfl rfl rfl ((O26.os 2 rfl).srcE rfl) (by decide) g19 fun A20 c21 h22 O23 => ?_
    refine ⟨_, _, _, rfl, ?_⟩
    have O27 := O23.nm
    exact (ih _ _ e) (O27.pick [0]).nm rfl rfl k_9 r_9 rfl k_16 r_16
  · exact (ih _ _ e) (O.pick [0]).nm rfl rfl k_9 r_9
theorem roadref2_makersOf.l0_k.all {p : roadref2_makersOf.l0_k.Pt} {r : ((List ByteArray))} (e : roadref2_makersOf.l0_k.go p = some r) : roadref2_makersOf.l0_k.I p r := fixF_ind (β := fun _ => ((List ByteArray))) roadref2_makersOf.l0_k.mono (I := roadref2_makersOf.l0_k.I) (fun go ih p r e => match p with
  | .l0 a_3 a_9 x_10 x_11 => roadref2_makersOf.l0_k.step_l0 go ih a_3 a_9 x_10 x_11 r e
  | .l1 a_3 a_9 x_10 x_11 a_16 x_17 x_18 => roadref2_makersOf.l0_k.step_l1 go ih a_3 a_9 x_10 x_11 a_16 x_17 x_18 r e
  ) e
noncomputable def roadref2_makersOf (y_0 : T_api_Program) : Option ((List ByteArray)) :=
  (roadref2_makersOf.l0 ([] : List ByteArray) y_0.Datas (((List.length y_0.Datas) : Nat) : Int) (0 : Int))
theorem roadref2_makersOf.walk {W h m cs_0 y_0} (O : Hold W h m h m []) (e_0 : T_api_Program.E m y_0 cs_0) {r} (e : roadref2_makersOf y_0 = some r) : Run Try.prog 107 #[Value.agg cs_0.toArray] h (roadref2_makersOf.post W h m r) := by
  unfold roadref2_makersOf at e
  refine f107.run ?_
  unfold f107.runT
  refine O.new fun h1 x2 O3 => ?_
  obtain ⟨A5, c6, q7, k8, r9⟩ := T_api_Program.g3 e_0
  refine ⟨_, ldk (k := 3) (Sub.refl _) (O3.all 0 rfl) q7, _, _, _, rfl, ?_⟩
  have O10 := O3.nil (aE tell_str) none
  have O12 := O10.nm
  exact (roadref2_makersOf.l0_k.all e) (O12.pick [1]).nm rfl rfl k8 r9
def roadref2_callsOf.post (W : Nat → Prop) (h0 m0 : Heap) (r : (List ByteArray)) (v : Value) (h : Heap) : Prop := ∃ m A0 n0 c0, Hold W h0 m0 h m [rR (aE tell_str) A0 c0 r] ∧ v = .slice A0 n0 c0 ∧ n0 = List.length r
inductive roadref2_callsOf.l1_k.Pt where
  | l1 (a_3 : List ByteArray) (a_32 : List T_api_Func) (x_33 : Int) (x_34 : Int)
noncomputable def roadref2_callsOf.l1_k.body (go : (p : roadref2_callsOf.l1_k.Pt) → Option ((List ByteArray))) : (p : roadref2_callsOf.l1_k.Pt) → Option ((List ByteArray))
  | .l1 a_3 a_32 x_33 x_34 => if x_34 < x_33 then (Option.bind (gi a_32 x_34) fun y1 => Option.bind (ap 16 a_3 ([y1.Name] : List ByteArray)) fun l18 => (go (.l1 l18 a_32 x_33 (IntKind.wrap .i64 (x_34 + (1 : Int)))))) else (some (a_3))
theorem roadref2_callsOf.l1_k.mono : MonoF (β := fun _ => ((List ByteArray))) roadref2_callsOf.l1_k.body := fun f g hfg p => match p with
  | .l1 a_3 a_32 x_33 x_34 => LeO.ite (LeO.bind (LeO.refl _) fun y1 => LeO.bind (LeO.refl _) fun l18 => (hfg _)) (LeO.refl _)
noncomputable def roadref2_callsOf.l1_k.go (p : roadref2_callsOf.l1_k.Pt) : Option ((List ByteArray)) := fixF (β := fun _ => ((List ByteArray))) roadref2_callsOf.l1_k.body p
noncomputable def roadref2_callsOf.l1 (a_3 a_32 x_33 x_34) := roadref2_callsOf.l1_k.go (.l1 a_3 a_32 x_33 x_34)
theorem roadref2_callsOf.l1_eq (a_3 a_32 x_33 x_34) : roadref2_callsOf.l1 a_3 a_32 x_33 x_34 = if x_34 < x_33 then (Option.bind (gi a_32 x_34) fun y1 => Option.bind (ap 16 a_3 ([y1.Name] : List ByteArray)) fun l18 => (roadref2_callsOf.l1 l18 a_32 x_33 (IntKind.wrap .i64 (x_34 + (1 : Int))))) else (some (a_3)) := fixF_eq roadref2_callsOf.l1_k.mono _
def roadref2_callsOf.l1_k.I : (p : roadref2_callsOf.l1_k.Pt) → ((List ByteArray)) → Prop
  | .l1 a_3 a_32 x_33 x_34, r => ∀ {W h0 m0 h m A_3 n_3 c_3 A_32 n_32 c_32} (O : Hold W h0 m0 h m [rR (aE tell_str) A_3 c_3 a_3]) (ne_3 : n_3 = List.length a_3) (ne_32 : n_32 = List.length a_32) (k_32 : List.length a_32 ≤ c_32) (r_32 : Rd 15 T_api_Func.E m A_32 a_32), f108.l1 (roadref2_callsOf.post W h0 m0 r) A_3 n_3 c_3 A_32 n_32 c_32 x_33 x_34 h
theorem roadref2_callsOf.l1_k.step_l1 (go : (p : roadref2_callsOf.l1_k.Pt) → Option ((List ByteArray))) (ih : ∀ p r, go p = some r → roadref2_callsOf.l1_k.I p r) (a_3 a_32 x_33 x_34) (r) (e : roadref2_callsOf.l1_k.body go (.l1 a_3 a_32 x_33 x_34) = some r) : roadref2_callsOf.l1_k.I (.l1 a_3 a_32 x_33 x_34) r := by
  unfold roadref2_callsOf.l1_k.body at e
  intro W h0 m0 h m A_3 n_3 c_3 A_32 n_32 c_32 O ne_3 ne_32 k_32 r_32
  subst ne_3
  subst ne_32
  refine f108.l1_in ?_
  unfold f108.l1T
  refine split_dec_e e (fun c28 e => ?_) (fun c28 e => ?_)
  · obtain ⟨y1, g2, e⟩ := bind_e e
    refine r_32.addr rfl g2 fun a3 cs4 ha5 hc6 he7 => ?_
    refine ⟨_, ldAn O.s hc6 rfl, ?_⟩
    refine O.new fun h8 x9 O10 => ?_
    refine ⟨_, rfl, (T_api_Func.T.len _ _ _ he7), ?_⟩
    refine O10.stA 1 rfl (T_api_Func.T.len _ _ _ he7) (T_api_Func.T.flat _ _ _ he7) fun h12 O13 => ?_
    refine ⟨_, ld0 (Sub.refl _) (O13.all 1 rfl) (T_api_Func.g0 he7), _, rfl, ?_⟩
    refine O13.new fun h14 x15 O16 => ?_
    obtain ⟨l18, g19, e⟩ := bind_e e
    have O26 := O16.rowE (l := ([y1.Name] : List ByteArray)) 2 rfl tell_str (show CsE _ _ _ _ _ from (CsE.cons (c1 := [(Value.string y1.Name)]) rfl rfl CsE.nil)) rfl
    refine O26.app 0 rfl rfl rfl ((O26.os 2 rfl).srcE rfl) (by decide) g19 fun A20 c21 h22 O23 => ?_
    refine ⟨_, _, _, rfl, ?_⟩
    have O27 := O23.nm
    exact (ih _ _ e) (O27.pick [0]).nm rfl rfl k_32 r_32
  · cases e
    exact ⟨_, _, _, _, O.pick [0], rfl, rfl⟩
theorem roadref2_callsOf.l1_k.all {p : roadref2_callsOf.l1_k.Pt} {r : ((List ByteArray))} (e : roadref2_callsOf.l1_k.go p = some r) : roadref2_callsOf.l1_k.I p r := fixF_ind (β := fun _ => ((List ByteArray))) roadref2_callsOf.l1_k.mono (I := roadref2_callsOf.l1_k.I) (fun go ih p r e => match p with
  | .l1 a_3 a_32 x_33 x_34 => roadref2_callsOf.l1_k.step_l1 go ih a_3 a_32 x_33 x_34 r e
  ) e
inductive roadref2_callsOf.l0_k.Pt where
  | l0 (y_1 : T_api_Program) (a_3 : List ByteArray) (a_11 : List T_api_Trait) (x_12 : Int) (x_13 : Int)
  | l2 (y_1 : T_api_Program) (a_3 : List ByteArray) (a_11 : List T_api_Trait) (x_12 : Int) (x_13 : Int) (a_18 : List T_api_Func) (x_19 : Int) (x_20 : Int)
noncomputable def roadref2_callsOf.l0_k.body (go : (p : roadref2_callsOf.l0_k.Pt) → Option ((List ByteArray))) : (p : roadref2_callsOf.l0_k.Pt) → Option ((List ByteArray))
  | .l0 y_1 a_3 a_11 x_12 x_13 => if x_13 < x_12 then (Option.bind (gi a_11 x_13) fun y1 => (go (.l2 y_1 a_3 a_11 x_12 x_13 y1.Funcs (((List.length y1.Funcs) : Nat) : Int) (0 : Int)))) else ((roadref2_callsOf.l1 a_3 y_1.Funcs (((List.length y_1.Funcs) : Nat) : Int) (0 : Int)))
  | .l2 y_1 a_3 a_11 x_12 x_13 a_18 x_19 x_20 => if x_20 < x_19 then (Option.bind (gi a_18 x_20) fun y1 => Option.bind (ap 16 a_3 ([y1.Name] : List ByteArray)) fun l18 => (go (.l2 y_1 l18 a_11 x_12 x_13 a_18 x_19 (IntKind.wrap .i64 (x_20 + (1 : Int)))))) else ((go (.l0 y_1 a_3 a_11 x_12 (IntKind.wrap .i64 (x_13 + (1 : Int))))))
theorem roadref2_callsOf.l0_k.mono : MonoF (β := fun _ => ((List ByteArray))) roadref2_callsOf.l0_k.body := fun f g hfg p => match p with
  | .l0 y_1 a_3 a_11 x_12 x_13 => LeO.ite (LeO.bind (LeO.refl _) fun y1 => (hfg _)) ((LeO.refl _))
  | .l2 y_1 a_3 a_11 x_12 x_13 a_18 x_19 x_20 => LeO.ite (LeO.bind (LeO.refl _) fun y1 => LeO.bind (LeO.refl _) fun l18 => (hfg _)) ((hfg _))
noncomputable def roadref2_callsOf.l0_k.go (p : roadref2_callsOf.l0_k.Pt) : Option ((List ByteArray)) := fixF (β := fun _ => ((List ByteArray))) roadref2_callsOf.l0_k.body p
noncomputable def roadref2_callsOf.l0 (y_1 a_3 a_11 x_12 x_13) := roadref2_callsOf.l0_k.go (.l0 y_1 a_3 a_11 x_12 x_13)
noncomputable def roadref2_callsOf.l2 (y_1 a_3 a_11 x_12 x_13 a_18 x_19 x_20) := roadref2_callsOf.l0_k.go (.l2 y_1 a_3 a_11 x_12 x_13 a_18 x_19 x_20)
theorem roadref2_callsOf.l0_eq (y_1 a_3 a_11 x_12 x_13) : roadref2_callsOf.l0 y_1 a_3 a_11 x_12 x_13 = if x_13 < x_12 then (Option.bind (gi a_11 x_13) fun y1 => (roadref2_callsOf.l2 y_1 a_3 a_11 x_12 x_13 y1.Funcs (((List.length y1.Funcs) : Nat) : Int) (0 : Int))) else ((roadref2_callsOf.l1 a_3 y_1.Funcs (((List.length y_1.Funcs) : Nat) : Int) (0 : Int))) := fixF_eq roadref2_callsOf.l0_k.mono _
theorem roadref2_callsOf.l2_eq (y_1 a_3 a_11 x_12 x_13 a_18 x_19 x_20) : roadref2_callsOf.l2 y_1 a_3 a_11 x_12 x_13 a_18 x_19 x_20 = if x_20 < x_19 then (Option.bind (gi a_18 x_20) fun y1 => Option.bind (ap 16 a_3 ([y1.Name] : List ByteArray)) fun l18 => (roadref2_callsOf.l2 y_1 l18 a_11 x_12 x_13 a_18 x_19 (IntKind.wrap .i64 (x_20 + (1 : Int))))) else ((roadref2_callsOf.l0 y_1 a_3 a_11 x_12 (IntKind.wrap .i64 (x_13 + (1 : Int))))) := fixF_eq roadref2_callsOf.l0_k.mono _
def roadref2_callsOf.l0_k.I : (p : roadref2_callsOf.l0_k.Pt) → ((List ByteArray)) → Prop
  | .l0 y_1 a_3 a_11 x_12 x_13, r => ∀ {W h0 m0 h m bk_1 cs_1 A_3 n_3 c_3 A_11 n_11 c_11} (O : Hold W h0 m0 h m [rV bk_1 135 cs_1, rR (aE tell_str) A_3 c_3 a_3]) (e_1 : T_api_Program.E m y_1 cs_1) (ne_3 : n_3 = List.length a_3) (ne_11 : n_11 = List.length a_11) (k_11 : List.length a_11 ≤ c_11) (r_11 : Rd 2 T_api_Trait.E m A_11 a_11), f108.l0 (roadref2_callsOf.post W h0 m0 r) (⟨bk_1, 0, none⟩ : Addr) A_3 n_3 c_3 A_11 n_11 c_11 x_12 x_13 h
  | .l2 y_1 a_3 a_11 x_12 x_13 a_18 x_19 x_20, r => ∀ {W h0 m0 h m bk_1 cs_1 A_3 n_3 c_3 A_11 n_11 c_11 A_18 n_18 c_18} (O : Hold W h0 m0 h m [rV bk_1 135 cs_1, rR (aE tell_str) A_3 c_3 a_3]) (e_1 : T_api_Program.E m y_1 cs_1) (ne_3 : n_3 = List.length a_3) (ne_11 : n_11 = List.length a_11) (k_11 : List.length a_11 ≤ c_11) (r_11 : Rd 2 T_api_Trait.E m A_11 a_11) (ne_18 : n_18 = List.length a_18) (k_18 : List.length a_18 ≤ c_18) (r_18 : Rd 15 T_api_Func.E m A_18 a_18), f108.l2 (roadref2_callsOf.post W h0 m0 r) (⟨bk_1, 0, none⟩ : Addr) A_3 n_3 c_3 A_11 n_11 c_11 x_12 x_13 A_18 n_18 c_18 x_19 x_20 h
theorem roadref2_callsOf.l0_k.step_l0 (go : (p : roadref2_callsOf.l0_k.Pt) → Option ((List ByteArray))) (ih : ∀ p r, go p = some r → roadref2_callsOf.l0_k.I p r) (y_1 a_3 a_11 x_12 x_13) (r) (e : roadref2_callsOf.l0_k.body go (.l0 y_1 a_3 a_11 x_12 x_13) = some r) : roadref2_callsOf.l0_k.I (.l0 y_1 a_3 a_11 x_12 x_13) r := by
  unfold roadref2_callsOf.l0_k.body at e
  intro W h0 m0 h m bk_1 cs_1 A_3 n_3 c_3 A_11 n_11 c_11 O e_1 ne_3 ne_11 k_11 r_11
  subst ne_3
  subst ne_11
  refine f108.l0_in ?_
  unfold f108.l0T
  refine split_dec_e e (fun c25 e => ?_) (fun c25 e => ?_)
  · obtain ⟨y1, g2, e⟩ := bind_e e
    refine r_11.addr rfl g2 fun a3 cs4 ha5 hc6 he7 => ?_
    refine ⟨_, ldAn O.s hc6 rfl, ?_⟩
    refine O.new fun h8 x9 O10 => ?_
    refine ⟨_, rfl, (T_api_Trait.T.len _ _ _ he7), ?_⟩
    refine O10.stA 2 rfl (T_api_Trait.T.len _ _ _ he7) (T_api_Trait.T.flat _ _ _ he7) fun h12 O13 => ?_
    obtain ⟨A14, c15, q16, k17, r18⟩ := T_api_Trait.g1 he7
    refine ⟨_, ldk (k := 1) (Sub.refl _) (O13.all 2 rfl) q16, _, _, _, rfl, ?_⟩
    have O19 := O13.nm
    exact (ih _ _ e) (O19.pick [0, 1]).nm e_1 rfl rfl k_11 r_11 rfl k17 r18
  · obtain ⟨A20, c21, q22, k23, r24⟩ := T_api_Program.g6 e_1
    refine ⟨_, ldk (k := 6) (Sub.refl _) (O.all 0 rfl) q22, _, _, _, rfl, ?_⟩
    exact (roadref2_callsOf.l1_k.all e) (O.pick [1]).nm rfl rfl k23 r24
theorem roadref2_callsOf.l0_k.step_l2 (go : (p : roadref2_callsOf.l0_k.Pt) → Option ((List ByteArray))) (ih : ∀ p r, go p = some r → roadref2_callsOf.l0_k.I p r) (y_1 a_3 a_11 x_12 x_13 a_18 x_19 x_20) (r) (e : roadref2_callsOf.l0_k.body go (.l2 y_1 a_3 a_11 x_12 x_13 a_18 x_19 x_20) = some r) : roadref2_callsOf.l0_k.I (.l2 y_1 a_3 a_11 x_12 x_13 a_18 x_19 x_20) r := by
  unfold roadref2_callsOf.l0_k.body at e
  intro W h0 m0 h m bk_1 cs_1 A_3 n_3 c_3 A_11 n_11 c_11 A_18 n_18 c_18 O e_1 ne_3 ne_11 k_11 r_11 ne_18 k_18 r_18
  subst ne_3
  subst ne_11
  subst ne_18
  refine f108.l2_in ?_
  unfold f108.l2T
  refine split_dec_e e (fun c28 e => ?_) (fun c28 e => ?_)
  · obtain ⟨y1, g2, e⟩ := bind_e e
    refine r_18.addr rfl g2 fun a3 cs4 ha5 hc6 he7 => ?_
    refine ⟨_, ldAn O.s hc6 rfl, ?_⟩
    refine O.new fun h8 x9 O10 => ?_
    refine ⟨_, rfl, (T_api_Func.T.len _ _ _ he7), ?_⟩
    refine O10.stA 2 rfl (T_api_Func.T.len _ _ _ he7) (T_api_Func.T.flat _ _ _ he7) fun h12 O13 => ?_
    refine ⟨_, ld0 (Sub.refl _) (O13.all 2 rfl) (T_api_Func.g0 he7), _, rfl, ?_⟩
    refine O13.new fun h14 x15 O16 => ?_
    obtain ⟨l18, g19, e⟩ := bind_e e
    have O26 := O16.rowE (l := ([y1.Name] : List ByteArray)) 3 rfl tell_str (show CsE _ _ _ _ _ from (CsE.cons (c1 := [(Value.string y1.Name)]) rfl rfl CsE.nil)) rfl
    refine O26.app 1 rfl rfl rfl ((O26.os 3 rfl).srcE rfl) (by decide) g19 fun A20 c21 h22 O23 => ?_
    refine ⟨_, _, _, rfl, ?_⟩
    have O27 := O23.nm
    exact (ih _ _ e) (O27.pick [0, 1]).nm e_1 rfl rfl k_11 r_11 rfl k_18 r_18
  · exact (ih _ _ e) (O.pick [0, 1]).nm e_1 rfl rfl k_11 r_11
theorem roadref2_callsOf.l0_k.all {p : roadref2_callsOf.l0_k.Pt} {r : ((List ByteArray))} (e : roadref2_callsOf.l0_k.go p = some r) : roadref2_callsOf.l0_k.I p r := fixF_ind (β := fun _ => ((List ByteArray))) roadref2_callsOf.l0_k.mono (I := roadref2_callsOf.l0_k.I) (fun go ih p r e => match p with
  | .l0 y_1 a_3 a_11 x_12 x_13 => roadref2_callsOf.l0_k.step_l0 go ih y_1 a_3 a_11 x_12 x_13 r e
  | .l2 y_1 a_3 a_11 x_12 x_13 a_18 x_19 x_20 => roadref2_callsOf.l0_k.step_l2 go ih y_1 a_3 a_11 x_12 x_13 a_18 x_19 x_20 r e
  ) e
noncomputable def roadref2_callsOf (y_0 : T_api_Program) : Option ((List ByteArray)) :=
  (roadref2_callsOf.l0 y_0 ([] : List ByteArray) y_0.Traits (((List.length y_0.Traits) : Nat) : Int) (0 : Int))
theorem roadref2_callsOf.walk {W h m cs_0 y_0} (O : Hold W h m h m []) (e_0 : T_api_Program.E m y_0 cs_0) {r} (e : roadref2_callsOf y_0 = some r) : Run Try.prog 108 #[Value.agg cs_0.toArray] h (roadref2_callsOf.post W h m r) := by
  unfold roadref2_callsOf at e
  refine f108.run ?_
  unfold f108.runT
  refine O.new fun h1 x2 O3 => ?_
  obtain ⟨A5, c6, q7, k8, r9⟩ := T_api_Program.g4 e_0
  refine ⟨_, ldk (k := 4) (Sub.refl _) (O3.all 0 rfl) q7, _, _, _, rfl, ?_⟩
  have O10 := O3.nil (aE tell_str) none
  have O12 := O10.nm
  exact (roadref2_callsOf.l0_k.all e) (O12.pick [0, 1]).nm e_0 rfl rfl k8 r9
def roadref2_actorsOf.post (W : Nat → Prop) (h0 m0 : Heap) (r : (List ByteArray)) (v : Value) (h : Heap) : Prop := ∃ m A0 n0 c0, Hold W h0 m0 h m [rR (aE tell_str) A0 c0 r] ∧ v = .slice A0 n0 c0 ∧ n0 = List.length r
inductive roadref2_actorsOf.l0_k.Pt where
  | l0 (a_3 : List ByteArray) (a_7 : List T_api_Actor) (x_8 : Int) (x_9 : Int)
noncomputable def roadref2_actorsOf.l0_k.body (go : (p : roadref2_actorsOf.l0_k.Pt) → Option ((List ByteArray))) : (p : roadref2_actorsOf.l0_k.Pt) → Option ((List ByteArray))
  | .l0 a_3 a_7 x_8 x_9 => if x_9 < x_8 then (Option.bind (gi a_7 x_9) fun y1 => Option.bind (ap 16 a_3 ([y1.Name] : List ByteArray)) fun l18 => (go (.l0 l18 a_7 x_8 (IntKind.wrap .i64 (x_9 + (1 : Int)))))) else (some (a_3))
theorem roadref2_actorsOf.l0_k.mono : MonoF (β := fun _ => ((List ByteArray))) roadref2_actorsOf.l0_k.body := fun f g hfg p => match p with
  | .l0 a_3 a_7 x_8 x_9 => LeO.ite (LeO.bind (LeO.refl _) fun y1 => LeO.bind (LeO.refl _) fun l18 => (hfg _)) (LeO.refl _)
noncomputable def roadref2_actorsOf.l0_k.go (p : roadref2_actorsOf.l0_k.Pt) : Option ((List ByteArray)) := fixF (β := fun _ => ((List ByteArray))) roadref2_actorsOf.l0_k.body p
noncomputable def roadref2_actorsOf.l0 (a_3 a_7 x_8 x_9) := roadref2_actorsOf.l0_k.go (.l0 a_3 a_7 x_8 x_9)
theorem roadref2_actorsOf.l0_eq (a_3 a_7 x_8 x_9) : roadref2_actorsOf.l0 a_3 a_7 x_8 x_9 = if x_9 < x_8 then (Option.bind (gi a_7 x_9) fun y1 => Option.bind (ap 16 a_3 ([y1.Name] : List ByteArray)) fun l18 => (roadref2_actorsOf.l0 l18 a_7 x_8 (IntKind.wrap .i64 (x_9 + (1 : Int))))) else (some (a_3)) := fixF_eq roadref2_actorsOf.l0_k.mono _
def roadref2_actorsOf.l0_k.I : (p : roadref2_actorsOf.l0_k.Pt) → ((List ByteArray)) → Prop
  | .l0 a_3 a_7 x_8 x_9, r => ∀ {W h0 m0 h m A_3 n_3 c_3 A_7 n_7 c_7} (O : Hold W h0 m0 h m [rR (aE tell_str) A_3 c_3 a_3]) (ne_3 : n_3 = List.length a_3) (ne_7 : n_7 = List.length a_7) (k_7 : List.length a_7 ≤ c_7) (r_7 : Rd 14 T_api_Actor.E m A_7 a_7), f109.l0 (roadref2_actorsOf.post W h0 m0 r) A_3 n_3 c_3 A_7 n_7 c_7 x_8 x_9 h
theorem roadref2_actorsOf.l0_k.step_l0 (go : (p : roadref2_actorsOf.l0_k.Pt) → Option ((List ByteArray))) (ih : ∀ p r, go p = some r → roadref2_actorsOf.l0_k.I p r) (a_3 a_7 x_8 x_9) (r) (e : roadref2_actorsOf.l0_k.body go (.l0 a_3 a_7 x_8 x_9) = some r) : roadref2_actorsOf.l0_k.I (.l0 a_3 a_7 x_8 x_9) r := by
  unfold roadref2_actorsOf.l0_k.body at e
  intro W h0 m0 h m A_3 n_3 c_3 A_7 n_7 c_7 O ne_3 ne_7 k_7 r_7
  subst ne_3
  subst ne_7
  refine f109.l0_in ?_
  unfold f109.l0T
  refine split_dec_e e (fun c28 e => ?_) (fun c28 e => ?_)
  · obtain ⟨y1, g2, e⟩ := bind_e e
    refine r_7.addr rfl g2 fun a3 cs4 ha5 hc6 he7 => ?_
    refine ⟨_, ldAn O.s hc6 rfl, ?_⟩
    refine O.new fun h8 x9 O10 => ?_
    refine ⟨_, rfl, (T_api_Actor.T.len _ _ _ he7), ?_⟩
    refine O10.stA 1 rfl (T_api_Actor.T.len _ _ _ he7) (T_api_Actor.T.flat _ _ _ he7) fun h12 O13 => ?_
    refine ⟨_, ld0 (Sub.refl _) (O13.all 1 rfl) (T_api_Actor.g0 he7), _, rfl, ?_⟩
    refine O13.new fun h14 x15 O16 => ?_
    obtain ⟨l18, g19, e⟩ := bind_e e
    have O26 := O16.rowE (l := ([y1.Name] : List ByteArray)) 2 rfl tell_str (show CsE _ _ _ _ _ from (CsE.cons (c1 := [(Value.string y1.Name)]) rfl rfl CsE.nil)) rfl
    refine O26.app 0 rfl rfl rfl ((O26.os 2 rfl).srcE rfl) (by decide) g19 fun A20 c21 h22 O23 => ?_
    refine ⟨_, _, _, rfl, ?_⟩
    have O27 := O23.nm
    exact (ih _ _ e) (O27.pick [0]).nm rfl rfl k_7 r_7
  · cases e
    exact ⟨_, _, _, _, O.pick [0], rfl, rfl⟩
theorem roadref2_actorsOf.l0_k.all {p : roadref2_actorsOf.l0_k.Pt} {r : ((List ByteArray))} (e : roadref2_actorsOf.l0_k.go p = some r) : roadref2_actorsOf.l0_k.I p r := fixF_ind (β := fun _ => ((List ByteArray))) roadref2_actorsOf.l0_k.mono (I := roadref2_actorsOf.l0_k.I) (fun go ih p r e => match p with
  | .l0 a_3 a_7 x_8 x_9 => roadref2_actorsOf.l0_k.step_l0 go ih a_3 a_7 x_8 x_9 r e
  ) e
noncomputable def roadref2_actorsOf (y_0 : T_api_Program) : Option ((List ByteArray)) :=
  (roadref2_actorsOf.l0 ([] : List ByteArray) y_0.Actors (((List.length y_0.Actors) : Nat) : Int) (0 : Int))
theorem roadref2_actorsOf.walk {W h m cs_0 y_0} (O : Hold W h m h m []) (e_0 : T_api_Program.E m y_0 cs_0) {r} (e : roadref2_actorsOf y_0 = some r) : Run Try.prog 109 #[Value.agg cs_0.toArray] h (roadref2_actorsOf.post W h m r) := by
  unfold roadref2_actorsOf at e
  refine f109.run ?_
  unfold f109.runT
  refine O.new fun h1 x2 O3 => ?_
  obtain ⟨A5, c6, q7, k8, r9⟩ := T_api_Program.g7 e_0
  refine ⟨_, ldk (k := 7) (Sub.refl _) (O3.all 0 rfl) q7, _, _, _, rfl, ?_⟩
  have O10 := O3.nil (aE tell_str) none
  have O12 := O10.nm
  exact (roadref2_actorsOf.l0_k.all e) (O12.pick [1]).nm rfl rfl k8 r9
def roadref2_NamesOf.post (W : Nat → Prop) (h0 m0 : Heap) (r : (List ByteArray)) (v : Value) (h : Heap) : Prop := ∃ m A0 n0 c0, Hold W h0 m0 h m [rR (aE tell_str) A0 c0 r] ∧ v = .slice A0 n0 c0 ∧ n0 = List.length r
inductive roadref2_NamesOf_k.Pt where
  | f (y_0 : T_api_Pat)
  | l0 (a_3 : List ByteArray) (a_16 : List T_api_Pat) (x_17 : Int) (x_18 : Int)
noncomputable def roadref2_NamesOf_k.body (go : (p : roadref2_NamesOf_k.Pt) → Option ((List ByteArray))) : (p : roadref2_NamesOf_k.Pt) → Option ((List ByteArray))
  | .f y_0 => if y_0.Kind = (2 : Int) then (some (([y_0.Text] : List ByteArray))) else (if y_0.Kind = (6 : Int) then ((go (.l0 ([] : List ByteArray) y_0.Args (((List.length y_0.Args) : Nat) : Int) (0 : Int)))) else (some (([] : List ByteArray))))
  | .l0 a_3 a_16 x_17 x_18 => if x_18 < x_17 then (Option.bind (gi a_16 x_18) fun y1 => Option.bind ((go (.f y1))) fun y14 => Option.bind (ap 16 a_3 y14) fun l26 => (go (.l0 l26 a_16 x_17 (IntKind.wrap .i64 (x_18 + (1 : Int)))))) else (some (a_3))
theorem roadref2_NamesOf_k.mono : MonoF (β := fun _ => ((List ByteArray))) roadref2_NamesOf_k.body := fun f g hfg p => match p with
  | .f y_0 => LeO.ite (LeO.refl _) (LeO.ite ((hfg _)) (LeO.refl _))
  | .l0 a_3 a_16 x_17 x_18 => LeO.ite (LeO.bind (LeO.refl _) fun y1 => LeO.bind ((hfg _)) fun y14 => LeO.bind (LeO.refl _) fun l26 => (hfg _)) (LeO.refl _)
noncomputable def roadref2_NamesOf_k.go (p : roadref2_NamesOf_k.Pt) : Option ((List ByteArray)) := fixF (β := fun _ => ((List ByteArray))) roadref2_NamesOf_k.body p
noncomputable def roadref2_NamesOf (y_0) := roadref2_NamesOf_k.go (.f y_0)
noncomputable def roadref2_NamesOf.l0 (a_3 a_16 x_17 x_18) := roadref2_NamesOf_k.go (.l0 a_3 a_16 x_17 x_18)
theorem roadref2_NamesOf_eq (y_0) : roadref2_NamesOf y_0 = if y_0.Kind = (2 : Int) then (some (([y_0.Text] : List ByteArray))) else (if y_0.Kind = (6 : Int) then ((roadref2_NamesOf.l0 ([] : List ByteArray) y_0.Args (((List.length y_0.Args) : Nat) : Int) (0 : Int))) else (some (([] : List ByteArray)))) := fixF_eq roadref2_NamesOf_k.mono _
theorem roadref2_NamesOf.l0_eq (a_3 a_16 x_17 x_18) : roadref2_NamesOf.l0 a_3 a_16 x_17 x_18 = if x_18 < x_17 then (Option.bind (gi a_16 x_18) fun y1 => Option.bind ((roadref2_NamesOf y1)) fun y14 => Option.bind (ap 16 a_3 y14) fun l26 => (roadref2_NamesOf.l0 l26 a_16 x_17 (IntKind.wrap .i64 (x_18 + (1 : Int))))) else (some (a_3)) := fixF_eq roadref2_NamesOf_k.mono _
def roadref2_NamesOf_k.I : (p : roadref2_NamesOf_k.Pt) → ((List ByteArray)) → Prop
  | .f y_0, r => ∀ {W h m cs_0} (O : Hold W h m h m []) (e_0 : T_api_Pat.E m y_0 cs_0), Run Try.prog 154 #[Value.agg cs_0.toArray] h (roadref2_NamesOf.post W h m r)
  | .l0 a_3 a_16 x_17 x_18, r => ∀ {W h0 m0 h m A_3 n_3 c_3 A_16 n_16 c_16} (O : Hold W h0 m0 h m [rR (aE tell_str) A_3 c_3 a_3]) (ne_3 : n_3 = List.length a_3) (ne_16 : n_16 = List.length a_16) (k_16 : List.length a_16 ≤ c_16) (r_16 : Rd 4 T_api_Pat.E m A_16 a_16), f154.l0 (roadref2_NamesOf.post W h0 m0 r) A_3 n_3 c_3 A_16 n_16 c_16 x_17 x_18 h
theorem roadref2_NamesOf_k.step_f (go : (p : roadref2_NamesOf_k.Pt) → Option ((List ByteArray))) (ih : ∀ p r, go p = some r → roadref2_NamesOf_k.I p r) (y_0) (r) (e : roadref2_NamesOf_k.body go (.f y_0) = some r) : roadref2_NamesOf_k.I (.f y_0) r := by
  unfold roadref2_NamesOf_k.body at e
  intro W h m cs_0 O e_0
  refine f154.run ?_
  unfold f154.runT
  refine O.new fun h1 x2 O3 => ?_
  refine ⟨_, ld0 (Sub.refl _) (O3.all 0 rfl) (T_api_Pat.g0 e_0), _, rfl, ?_⟩
  refine split_eq_e e (fun c23 e => ?_) (fun c23 e => ?_)
  · refine ⟨_, ldk (k := 2) (Sub.refl _) (O3.all 0 rfl) (T_api_Pat.g2 e_0), _, rfl, ?_⟩
    refine O3.new fun h5 x6 O7 => ?_
    have O9 := O7.rowE (l := ([y_0.Text] : List ByteArray)) 1 rfl tell_str (show CsE _ _ _ _ _ from (CsE.cons (c1 := [(Value.string y_0.Text)]) rfl rfl CsE.nil)) rfl
    have O10 := O9.nm
    cases e
    exact ⟨_, _, _, _, O10.pick [1], rfl, rfl⟩
  · refine ⟨_, ld0 (Sub.refl _) (O3.all 0 rfl) (T_api_Pat.g0 e_0), _, rfl, ?_⟩
    refine split_eq_e e (fun c22 e => ?_) (fun c22 e => ?_)
    · obtain ⟨A11, c12, q13, k14, r15⟩ := T_api_Pat.g3 e_0
      refine ⟨_, ldk (k := 3) (Sub.refl _) (O3.all 0 rfl) q13, _, _, _, rfl, ?_⟩
      have O16 := O3.nil (aE tell_str) none
      have O18 := O16.nm
      exact (ih _ _ e) (O18.pick [1]).nm rfl rfl k14 r15
    · have O19 := O3.nil (aE tell_str) none
      have O21 := O19.nm
      cases e
      exact ⟨_, _, _, _, O21.pick [1], rfl, rfl⟩
theorem roadref2_NamesOf_k.step_l0 (go : (p : roadref2_NamesOf_k.Pt) → Option ((List ByteArray))) (ih : ∀ p r, go p = some r → roadref2_NamesOf_k.I p r) (a_3 a_16 x_17 x_18) (r) (e : roadref2_NamesOf_k.body go (.l0 a_3 a_16 x_17 x_18) = some r) : roadref2_NamesOf_k.I (.l0 a_3 a_16 x_17 x_18) r := by
  unfold roadref2_NamesOf_k.body at e
  intro W h0 m0 h m A_3 n_3 c_3 A_16 n_16 c_16 O ne_3 ne_16 k_16 r_16
  subst ne_3
  subst ne_16
  refine f154.l0_in ?_
  unfold f154.l0T
  refine split_dec_e e (fun c35 e => ?_) (fun c35 e => ?_)
  · obtain ⟨y1, g2, e⟩ := bind_e e
    refine r_16.addr rfl g2 fun a3 cs4 ha5 hc6 he7 => ?_
    refine ⟨_, ldAn O.s hc6 rfl, ?_⟩
    refine O.new fun h8 x9 O10 => ?_
    refine ⟨_, rfl, (T_api_Pat.T.len _ _ _ he7), ?_⟩
    refine O10.stA 1 rfl (T_api_Pat.T.len _ _ _ he7) (T_api_Pat.T.flat _ _ _ he7) fun h12 O13 => ?_
    refine ⟨_, ldAn (Sub.refl _) (O13.all 1 rfl) (T_api_Pat.T.len _ _ _ he7), ?_⟩
    obtain ⟨y14, g15, e⟩ := bind_e e
    refine ((ih _ _ g15) (Hold.start (W := No) O13.s) he7).mono ?_
    rintro _ h16 ⟨m17, A20, n21, c22, Q18, rfl, ne23⟩
    have O25 := Hold.nm (O13.retC Q18 (vfs_cons (rR_vf (aE_vf (fun _ _ _ _ h => h))) vfs_nil))
    subst ne23
    refine ⟨_, _, _, rfl, ?_⟩
    obtain ⟨l26, g27, e⟩ := bind_e e
    refine O25.app 0 rfl rfl rfl ((O25.os 2 rfl).srcE rfl) (by decide) g27 fun A28 c29 h30 O31 => ?_
    refine ⟨_, _, _, rfl, ?_⟩
    have O34 := O31.nm
    exact (ih _ _ e) (O34.pick [0]).nm rfl rfl k_16 r_16
  · cases e
    exact ⟨_, _, _, _, O.pick [0], rfl, rfl⟩
theorem roadref2_NamesOf_k.all {p : roadref2_NamesOf_k.Pt} {r : ((List ByteArray))} (e : roadref2_NamesOf_k.go p = some r) : roadref2_NamesOf_k.I p r := fixF_ind (β := fun _ => ((List ByteArray))) roadref2_NamesOf_k.mono (I := roadref2_NamesOf_k.I) (fun go ih p r e => match p with
  | .f y_0 => roadref2_NamesOf_k.step_f go ih y_0 r e
  | .l0 a_3 a_16 x_17 x_18 => roadref2_NamesOf_k.step_l0 go ih a_3 a_16 x_17 x_18 r e
  ) e
theorem roadref2_NamesOf.walk {W h m cs_0 y_0} (O : Hold W h m h m []) (e_0 : T_api_Pat.E m y_0 cs_0) {r} (e : roadref2_NamesOf y_0 = some r) : Run Try.prog 154 #[Value.agg cs_0.toArray] h (roadref2_NamesOf.post W h m r) := roadref2_NamesOf_k.all (p := .f y_0) e O e_0
def slices_Grow_185.post (W : Nat → Prop) (h0 m0 : Heap) (r : (List ByteArray)) (v : Value) (h : Heap) : Prop := ∃ m A0 n0 c0, Hold W h0 m0 h m [rR (aE tell_str) A0 c0 r] ∧ v = .slice A0 n0 c0 ∧ n0 = List.length r
noncomputable def slices_Grow_185 (x1 : Int) : Option (List ByteArray) := if gro 16 x1 = true then some [] else none
theorem slices_Grow_185.walk {W : Nat → Prop} {h m : Heap} {x1 : Int} (O : Hold W h m h m []) {r : List ByteArray} (e : slices_Grow_185 x1 = some r) : Run Try.prog 185 #[Value.slice none 0 0, Value.int .i64 x1] h (slices_Grow_185.post W h m r) := by
  unfold slices_Grow_185 at e
  have S : St No h m h m := .refl O.s
  obtain ⟨g, e⟩ := guard_e e
  cases e
  refine f185.run ?_
  unfold f185.runT
  refine split_dec (fun c => absurd c (by have := of_decide_eq_true (show decide _ = true from g); omega)) (fun _ => ?_)
  refine f185.j0_in ?_
  unfold f185.j0T
  exact grow_nil S rfl (by decide) g (fun A' c' h' o' x' => ⟨m, _, _, _, O.add (R := rR (aE tell_str) A' c' []) (St.of_ext O.s x') o'.rowP o'.newNo, rfl, rfl⟩)
def slices_Concat_155.post (W : Nat → Prop) (h0 m0 : Heap) (r : (List ByteArray)) (v : Value) (h : Heap) : Prop := ∃ m A0 n0 c0, Hold W h0 m0 h m [rR (aE tell_str) A0 c0 r] ∧ v = .slice A0 n0 c0 ∧ n0 = List.length r
inductive slices_Concat_155.l1_k.Pt where
  | l1 (a_6 : List ByteArray) (a_25 : List (List ByteArray)) (x_26 : Int) (x_27 : Int)
noncomputable def slices_Concat_155.l1_k.body (go : (p : slices_Concat_155.l1_k.Pt) → Option ((List ByteArray))) : (p : slices_Concat_155.l1_k.Pt) → Option ((List ByteArray))
  | .l1 a_6 a_25 x_26 x_27 => if x_27 < x_26 then (Option.bind (gi a_25 x_27) fun y1 => Option.bind (ap 16 a_6 y1) fun l8 => (go (.l1 l8 a_25 x_26 (IntKind.wrap .i64 (x_27 + (1 : Int)))))) else (some (a_6))
theorem slices_Concat_155.l1_k.mono : MonoF (β := fun _ => ((List ByteArray))) slices_Concat_155.l1_k.body := fun f g hfg p => match p with
  | .l1 a_6 a_25 x_26 x_27 => LeO.ite (LeO.bind (LeO.refl _) fun y1 => LeO.bind (LeO.refl _) fun l8 => (hfg _)) (LeO.refl _)
noncomputable def slices_Concat_155.l1_k.go (p : slices_Concat_155.l1_k.Pt) : Option ((List ByteArray)) := fixF (β := fun _ => ((List ByteArray))) slices_Concat_155.l1_k.body p
noncomputable def slices_Concat_155.l1 (a_6 a_25 x_26 x_27) := slices_Concat_155.l1_k.go (.l1 a_6 a_25 x_26 x_27)
theorem slices_Concat_155.l1_eq (a_6 a_25 x_26 x_27) : slices_Concat_155.l1 a_6 a_25 x_26 x_27 = if x_27 < x_26 then (Option.bind (gi a_25 x_27) fun y1 => Option.bind (ap 16 a_6 y1) fun l8 => (slices_Concat_155.l1 l8 a_25 x_26 (IntKind.wrap .i64 (x_27 + (1 : Int))))) else (some (a_6)) := fixF_eq slices_Concat_155.l1_k.mono _
def slices_Concat_155.l1_k.I : (p : slices_Concat_155.l1_k.Pt) → ((List ByteArray)) → Prop
  | .l1 a_6 a_25 x_26 x_27, r => ∀ {W h0 m0 h m A_6 n_6 c_6 A_25 n_25 c_25} (O : Hold W h0 m0 h m [rR (aE tell_str) A_6 c_6 a_6]) (ne_6 : n_6 = List.length a_6) (ne_25 : n_25 = List.length a_25) (k_25 : List.length a_25 ≤ c_25) (r_25 : Rd 1 (eRow 1 eStr) m A_25 a_25), f155.l1 (slices_Concat_155.post W h0 m0 r) A_6 n_6 c_6 A_25 n_25 c_25 x_26 x_27 h
theorem slices_Concat_155.l1_k.step_l1 (go : (p : slices_Concat_155.l1_k.Pt) → Option ((List ByteArray))) (ih : ∀ p r, go p = some r → slices_Concat_155.l1_k.I p r) (a_6 a_25 x_26 x_27) (r) (e : slices_Concat_155.l1_k.body go (.l1 a_6 a_25 x_26 x_27) = some r) : slices_Concat_155.l1_k.I (.l1 a_6 a_25 x_26 x_27) r := by
  unfold slices_Concat_155.l1_k.body at e
  intro W h0 m0 h m A_6 n_6 c_6 A_25 n_25 c_25 O ne_6 ne_25 k_25 r_25
  subst ne_6
  subst ne_25
  refine f155.l1_in ?_
  unfold f155.l1T
  refine split_dec_e e (fun c17 e => ?_) (fun c17 e => ?_)
  · obtain ⟨y1, g2, e⟩ := bind_e e
    refine r_25.addr rfl g2 fun a3 cs4 ha5 hc6 he7 => ?_
    obtain ⟨Acs4_0, ccs4_0, rfl, kcs4_0, rcs4_0⟩ := id he7
    refine ⟨_, ld0 O.s hc6 rfl, _, _, _, rfl, ?_⟩
    obtain ⟨l8, g9, e⟩ := bind_e e
    refine O.app 0 rfl rfl rfl (Rd.srcE rcs4_0 tell_str O.s rfl) (by decide) g9 fun A10 c11 h12 O13 => ?_
    refine ⟨_, _, _, rfl, ?_⟩
    have O16 := O13.nm
    exact (ih _ _ e) (O16.pick [0]).nm rfl rfl k_25 r_25
  · cases e
    exact ⟨_, _, _, _, O.pick [0], rfl, rfl⟩
theorem slices_Concat_155.l1_k.all {p : slices_Concat_155.l1_k.Pt} {r : ((List ByteArray))} (e : slices_Concat_155.l1_k.go p = some r) : slices_Concat_155.l1_k.I p r := fixF_ind (β := fun _ => ((List ByteArray))) slices_Concat_155.l1_k.mono (I := slices_Concat_155.l1_k.I) (fun go ih p r e => match p with
  | .l1 a_6 a_25 x_26 x_27 => slices_Concat_155.l1_k.step_l1 go ih a_6 a_25 x_26 x_27 r e
  ) e
inductive slices_Concat_155.l0_k.Pt where
  | l0 (a_0 : List (List ByteArray)) (x_3 : Int) (a_9 : List (List ByteArray)) (x_10 : Int) (x_11 : Int)
noncomputable def slices_Concat_155.l0_k.body (go : (p : slices_Concat_155.l0_k.Pt) → Option ((List ByteArray))) : (p : slices_Concat_155.l0_k.Pt) → Option ((List ByteArray))
  | .l0 a_0 x_3 a_9 x_10 x_11 => if x_11 < x_10 then (Option.bind (gi a_9 x_11) fun y1 => if (IntKind.wrap .i64 (x_3 + (((List.length y1) : Nat) : Int))) < (0 : Int) then ((none : Option _)) else ((go (.l0 a_0 (IntKind.wrap .i64 (x_3 + (((List.length y1) : Nat) : Int))) a_9 x_10 (IntKind.wrap .i64 (x_11 + (1 : Int))))))) else (Option.bind (slices_Grow_185 x_3) fun y9 => (slices_Concat_155.l1 y9 a_0 (((List.length a_0) : Nat) : Int) (0 : Int)))
theorem slices_Concat_155.l0_k.mono : MonoF (β := fun _ => ((List ByteArray))) slices_Concat_155.l0_k.body := fun f g hfg p => match p with
  | .l0 a_0 x_3 a_9 x_10 x_11 => LeO.ite (LeO.bind (LeO.refl _) fun y1 => LeO.ite (LeO.refl _) ((hfg _))) (LeO.bind (LeO.refl _) fun y9 => (LeO.refl _))
noncomputable def slices_Concat_155.l0_k.go (p : slices_Concat_155.l0_k.Pt) : Option ((List ByteArray)) := fixF (β := fun _ => ((List ByteArray))) slices_Concat_155.l0_k.body p
noncomputable def slices_Concat_155.l0 (a_0 x_3 a_9 x_10 x_11) := slices_Concat_155.l0_k.go (.l0 a_0 x_3 a_9 x_10 x_11)
theorem slices_Concat_155.l0_eq (a_0 x_3 a_9 x_10 x_11) : slices_Concat_155.l0 a_0 x_3 a_9 x_10 x_11 = if x_11 < x_10 then (Option.bind (gi a_9 x_11) fun y1 => if (IntKind.wrap .i64 (x_3 + (((List.length y1) : Nat) : Int))) < (0 : Int) then ((none : Option _)) else ((slices_Concat_155.l0 a_0 (IntKind.wrap .i64 (x_3 + (((List.length y1) : Nat) : Int))) a_9 x_10 (IntKind.wrap .i64 (x_11 + (1 : Int)))))) else (Option.bind (slices_Grow_185 x_3) fun y9 => (slices_Concat_155.l1 y9 a_0 (((List.length a_0) : Nat) : Int) (0 : Int))) := fixF_eq slices_Concat_155.l0_k.mono _
def slices_Concat_155.l0_k.I : (p : slices_Concat_155.l0_k.Pt) → ((List ByteArray)) → Prop
  | .l0 a_0 x_3 a_9 x_10 x_11, r => ∀ {W h0 m0 h m A_0 n_0 c_0 A_9 n_9 c_9} (O : Hold W h0 m0 h m []) (ne_0 : n_0 = List.length a_0) (k_0 : List.length a_0 ≤ c_0) (r_0 : Rd 1 (eRow 1 eStr) m A_0 a_0) (ne_9 : n_9 = List.length a_9) (k_9 : List.length a_9 ≤ c_9) (r_9 : Rd 1 (eRow 1 eStr) m A_9 a_9), f155.l0 (slices_Concat_155.post W h0 m0 r) A_0 n_0 c_0 x_3 A_9 n_9 c_9 x_10 x_11 h
theorem slices_Concat_155.l0_k.step_l0 (go : (p : slices_Concat_155.l0_k.Pt) → Option ((List ByteArray))) (ih : ∀ p r, go p = some r → slices_Concat_155.l0_k.I p r) (a_0 x_3 a_9 x_10 x_11) (r) (e : slices_Concat_155.l0_k.body go (.l0 a_0 x_3 a_9 x_10 x_11) = some r) : slices_Concat_155.l0_k.I (.l0 a_0 x_3 a_9 x_10 x_11) r := by
  unfold slices_Concat_155.l0_k.body at e
  intro W h0 m0 h m A_0 n_0 c_0 A_9 n_9 c_9 O ne_0 k_0 r_0 ne_9 k_9 r_9
  subst ne_0
  subst ne_9
  refine f155.l0_in ?_
  unfold f155.l0T
  refine split_dec_e e (fun c21 e => ?_) (fun c21 e => ?_)
  · obtain ⟨y1, g2, e⟩ := bind_e e
    refine r_9.addr rfl g2 fun a3 cs4 ha5 hc6 he7 => ?_
    obtain ⟨Acs4_0, ccs4_0, rfl, kcs4_0, rcs4_0⟩ := id he7
    refine ⟨_, ld0 O.s hc6 rfl, _, _, _, rfl, ?_⟩
    refine split_dec_e e (fun c8 e => ?_) (fun c8 e => ?_)
    · cases e
    · exact (ih _ _ e) (O.pick []).nm rfl k_0 r_0 rfl k_9 r_9
  · obtain ⟨y9, g10, e⟩ := bind_e e
    refine (slices_Grow_185.walk (Hold.start (W := No) O.s)  g10).mono ?_
    rintro _ h11 ⟨m12, A15, n16, c17, Q13, rfl, ne18⟩
    have O20 := Hold.nm (O.retC Q13 (vfs_cons (rR_vf (aE_vf (fun _ _ _ _ h => h))) vfs_nil))
    subst ne18
    refine ⟨_, _, _, rfl, ?_⟩
    exact (slices_Concat_155.l1_k.all e) (O20.pick [0]).nm rfl rfl k_0 r_0
theorem slices_Concat_155.l0_k.all {p : slices_Concat_155.l0_k.Pt} {r : ((List ByteArray))} (e : slices_Concat_155.l0_k.go p = some r) : slices_Concat_155.l0_k.I p r := fixF_ind (β := fun _ => ((List ByteArray))) slices_Concat_155.l0_k.mono (I := slices_Concat_155.l0_k.I) (fun go ih p r e => match p with
  | .l0 a_0 x_3 a_9 x_10 x_11 => slices_Concat_155.l0_k.step_l0 go ih a_0 x_3 a_9 x_10 x_11 r e
  ) e
noncomputable def slices_Concat_155 (a_0 : List (List ByteArray)) : Option ((List ByteArray)) :=
  (slices_Concat_155.l0 a_0 (0 : Int) a_0 (((List.length a_0) : Nat) : Int) (0 : Int))
theorem slices_Concat_155.walk {W h m A_0 n_0 c_0 a_0} (O : Hold W h m h m []) (ne_0 : n_0 = List.length a_0) (k_0 : List.length a_0 ≤ c_0) (r_0 : Rd 1 (eRow 1 eStr) m A_0 a_0) {r} (e : slices_Concat_155 a_0 = some r) : Run Try.prog 155 #[Value.slice A_0 n_0 c_0] h (slices_Concat_155.post W h m r) := by
  unfold slices_Concat_155 at e
  subst ne_0
  refine f155.run ?_
  unfold f155.runT
  exact (slices_Concat_155.l0_k.all e) (O.pick []).nm rfl k_0 r_0 rfl k_0 r_0
theorem slices_Concat_155.val (ls : List (List ByteArray)) (hl : ls.length ≤ 4611686018427387904) (hs : ls.flatten.length * 16 ≤ 140737488355328) : slices_Concat_155 ls = some ls.flatten := concat_val (B := 16) (by decide) (fun r a n i => slices_Concat_155.l1_eq r a n i) (fun a s b n i => slices_Concat_155.l0_eq a s b n i) (gr := slices_Grow_185) (fun _ => rfl) (fun _ => rfl) ls hl hs
end Go.Proofs.Ytmcfmmoaofileaa.Fw

end
