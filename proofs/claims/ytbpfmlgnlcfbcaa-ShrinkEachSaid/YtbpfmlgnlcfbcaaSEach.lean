/- What shrink.Each does, and that the law ShrinkEach holds, over heaps. -/
import Derived.Test.YtbpfmlgnlcfbcaaSClock
import Derived.Test.YtbpfmlgnlcfbcaaSTurn
import Derived.Test.YtbpfmlgnlcfbcaaHwR
namespace Go.Proofs.Ytbpfmlgnlcfbcaa.Fw.SE
open Go Go.Hw Go.Proofs
set_option linter.unusedVariables false

theorem clone_ints {h : Heap} {A : Option Addr} {c : Nat} {l : List Int} {R : Value → Heap → Prop} (hr : Rd 1 (eInt .i64) h A l) (hl : l.length ≤ 1000000000000) (hR : ∀ A' c' h', Own h.size 1 h' A' l.length c' (l.map (Value.int .i64)) → Ext h h' → R (.slice A' l.length c') h') :
    Run Try.prog 51 #[.slice A l.length c] h R := by
  refine f51.run ?_
  unfold f51.runT
  cases A with
  | none =>
    have : l = [] := by
      cases l with
      | nil => rfl
      | cons x l => obtain ⟨a, _, h1, _⟩ := hr 0 (by simp); cases h1
    subst this
    exact split_t (hR none 0 h Own.nil ⟨Nat.le_refl _, fun _ _ => rfl⟩)
  | some a =>
    refine split_f ?_
    refine newH_in fun h1 b1 e1 s1 => ?_
    have o1 : Own h.size 1 h1 (some ⟨h.size, 0, none⟩) 0 0 [] := ⟨rfl, Nat.le_refl _, .inr ⟨h.size, 3, [], [], rfl, Nat.le_refl _, by simpa using b1, by simp⟩⟩
    refine o1.app2 (by omega) rfl ((hr.ext (mono_int _) e1).srcInt c) (by simp) ?_ (by omega) (by omega) fun A' c' h' o r => ?_
    · intro v hv
      obtain ⟨x, _, rfl⟩ := List.mem_map.1 hv
      exact trivial
    · rw [Nat.zero_add] at o ⊢
      exact ⟨_, _, _, rfl, hR _ _ _ (by simpa using o) (o1.keep r.1 e1 (Nat.le_refl _))⟩

def sumL (l : List Int) : Nat := (l.map Int.toNat).sum
theorem sum_set {l : List Int} : ∀ {i k : Nat}, (k : Int) < l.getD i 0 → sumL (l.set i (k : Int)) < sumL l := by
  induction l with
  | nil => intro i k h; simp at h; omega
  | cons x l ih =>
    intro i k h
    cases i with
    | zero => simp [sumL] at h ⊢; omega
    | succ i =>
      have h' : (k : Int) < l.getD i 0 := by simpa using h
      have := ih h'
      simp [sumL] at this ⊢; omega
/-- Element i cannot be less alone. -/
def minAt (p : List Int → Bool) (out : List Int) (i : Nat) : Prop := ∀ k : Nat, (k : Int) < out.getD i 0 → p (out.set i k) = false
def below (l out : List Int) : Prop := out.length = l.length ∧ ∀ i, i < out.length → 0 ≤ out.getD i 0 ∧ out.getD i 0 ≤ l.getD i 0
theorem below_set {l out : List Int} (hb : below l out) {i k : Nat} (hk : (k : Int) < out.getD i 0) : below l (out.set i k) := by
  refine ⟨by rw [List.length_set]; exact hb.1, fun j hj => ?_⟩
  rw [List.length_set] at hj
  have h1 := hb.2 j hj
  by_cases hij : i = j
  · subst hij
    have e : (out.set i (k : Int)).getD i 0 = k := by rw [List.getD_eq_getElem?_getD, List.getElem?_set_self hj]; rfl
    rw [e]; omega
  · have e : (out.set i (k : Int)).getD j 0 = out.getD j 0 := by rw [List.getD_eq_getElem?_getD, List.getElem?_set_ne hij, ← List.getD_eq_getElem?_getD]
    rw [e]; exact h1
theorem map_set (l : List Int) (i : Nat) (v : Int) : (l.map (Value.int .i64)).set (i * 1) (.int .i64 v) = (l.set i v).map (Value.int .i64) := by
  rw [Nat.mul_one, List.map_set]

section
variable {h0 : Heap} {v : Value} {p : List Int → Bool} {N : Nat} {R : Value → Heap → Prop} {l0 : List Int}
  (hN : N ≤ 200) (h1000 : ∀ i, i < N → l0.getD i 0 ≤ 1000) (hf : ∀ h A c l, Ext h0 h → Rd 1 (eInt .i64) h A l → l.length = N → CallF Try.prog v [.slice A l.length c] h fun u h' => u = .bool (p l) ∧ h' = h)
include hN h1000 hf

/-- One pass over the numbers. -/
theorem pass_loop {S : Nat} (IH : ∀ (out : List Int) (h : Heap) (A : Option Addr) (c : Nat), sumL out < S → below l0 out → out.length = N → p out = true → Own h0.size 1 h A N c (out.map (Value.int .i64)) → Ext h0 h → f46.l1 R v A N c true h)
    (hR : ∀ (out : List Int) (h : Heap) (A : Option Addr) (c : Nat), below l0 out → out.length = N → p out = true → (∀ i, i < N → minAt p out i) → Own h0.size 1 h A N c (out.map (Value.int .i64)) → Ext h0 h → R (.tuple #[.slice A N c, .int .i64 0]) h) :
    ∀ (d i : Nat) (b9 : Bool) (out : List Int) (h : Heap) (A : Option Addr) (c : Nat), i + d = N → below l0 out → out.length = N → p out = true → (b9 = true → sumL out < S) → (b9 = false → sumL out = S ∧ ∀ j, j < i → minAt p out j) →
      Own h0.size 1 h A N c (out.map (Value.int .i64)) → Ext h0 h → f46.l2 R v A N c b9 (N : Int) (i : Int) h := by
  intro d
  induction d with
  | zero =>
    intro i b9 out h A c hi hb hl hp h1 h2 o e
    refine f46.l2_in ?_
    unfold f46.l2T
    refine split_dec (fun c => by omega) fun _ => ?_
    cases b9 with
    | true => exact IH out h A c (h1 rfl) hb hl hp o e
    | false =>
      refine f46.l1_in ?_
      unfold f46.l1T
      exact split_f (hR out h A c hb hl hp (fun j hj => (h2 rfl).2 j (by omega)) o e)
  | succ d ih =>
    intro i b9 out h A c hi hb hl hp h1 h2 o e
    have e1 : ∀ x : Nat, x < 9000000000 → IntKind.wrap .i64 ((x : Int) + 1) = ((x + 1 : Nat) : Int) := by intro x hx; rw [wrap_in (by omega) (by omega)]; omega
    refine f46.l2_in ?_
    unfold f46.l2T
    refine split_dec (fun _ => ?_) (fun c => by omega)
    refine o.ints.int rfl hl.symm (by omega) ?_
    have hx : out[i]'(by omega) = out.getD i 0 := (getD_at (by omega)).symm
    rw [hx]
    have hxb := hb.2 i (by omega)
    -- the numbers below
    have inner : ∀ (d2 k : Nat) (h' : Heap), (k : Int) + d2 = out.getD i 0 → (∀ j : Nat, j < k → p (out.set i j) = false) → Ext h h' → f46.l3 R v A N c b9 (i : Int) (N : Int) (i : Int) (out.getD i 0) (k : Int) h' := by
      intro d2
      induction d2 with
      | zero =>
        intro k h' hk hlow e'
        refine f46.l3_in ?_
        unfold f46.l3T
        refine split_dec (fun c => by omega) fun _ => ?_
        rw [e1 i (by omega)]
        refine ih (i + 1) b9 out h' A c (by omega) hb hl hp h1 (fun hbf => ⟨(h2 hbf).1, fun j hj => ?_⟩) (o.ext e') (e.trans e')
        rcases Nat.lt_or_ge j i with h3 | h3
        · exact (h2 hbf).2 j h3
        · have : j = i := by omega
          subst this
          intro k' hk'
          exact hlow k' (by omega)
      | succ d2 ih2 =>
        intro k h' hk hlow e'
        refine f46.l3_in ?_
        unfold f46.l3T
        refine split_dec (fun _ => ?_) (fun c => by omega)
        have hc1 : ∀ K, (∀ A' c' h2, Own h'.size 1 h2 A' out.length c' (out.map (Value.int .i64)) → Ext h' h2 → K (.slice A' out.length c') h2) → Run Try.prog 51 #[.slice A N c] h' K := by
          intro K hK
          have := clone_ints (c := c) (R := K) (o.ext e').ints (by omega) hK
          rwa [hl] at this
        refine hc1 _ fun A1 c1 h2 o1 e2 => ⟨_, _, _, rfl, ?_⟩
        refine o1.store0 (i := i) rfl rfl (by omega) (by omega) (by exact trivial) fun h3 o3 u3 => ?_
        rw [map_set] at o3
        have hlen : (out.set i (k : Int)).length = out.length := List.length_set
        have e3 : Ext h' h3 := o1.keep u3 e2 (Nat.le_refl _)
        have o3' : Own h'.size 1 h3 A1 (out.set i (k : Int)).length c1 ((out.set i (k : Int)).map (Value.int .i64)) := by rw [hlen]; exact o3
        have hc2 : ∀ K, (∀ A' c' h2, Own h3.size 1 h2 A' out.length c' ((out.set i (k : Int)).map (Value.int .i64)) → Ext h3 h2 → K (.slice A' out.length c') h2) → Run Try.prog 51 #[.slice A1 out.length c1] h3 K := by
          intro K hK
          have := clone_ints (c := c1) (R := K) o3'.ints (by omega) (fun A' c' h2 oo ee => by rw [hlen] at oo ⊢; exact hK A' c' h2 oo ee)
          rwa [hlen] at this
        refine hc2 _ fun A2 c2 h4 o4 e4 => ⟨_, _, _, rfl, ?_⟩
        have eall : Ext h0 h4 := e.trans (e'.trans (e3.trans e4))
        have hcall := hf h4 A2 c2 (out.set i (k : Int)) eall o4.ints (by rw [hlen]; exact hl)
        rw [hlen] at hcall
        refine hcall.mono ?_
        rintro _ h5 ⟨rfl, rfl⟩
        refine ⟨_, rfl, split_any (fun hpt => ?_) (fun hpf => ?_)⟩
        · rw [e1 i (by omega)]
          have hs := sum_set (l := out) (i := i) (k := k) (by omega)
          rw [hl] at o3 ⊢
          refine ih (i + 1) true (out.set i (k : Int)) h5 A1 c1 (by omega) (below_set hb (by omega)) (by rw [hlen]; exact hl) hpt (fun _ => ?_) (fun hh => by cases hh) ((o3.ext e4).low (by have := e.1; have := e'.1; omega)) eall
          cases b9 with
          | true => have := h1 rfl; omega
          | false => have := (h2 rfl).1; omega
        · rw [e1 k (by have := h1000 i (by omega); omega)]
          refine ih2 (k + 1) h5 (by omega) (fun j hj => ?_) (e'.trans (e3.trans e4))
          rcases Nat.lt_or_ge j k with h6 | h6
          · exact hlow j h6
          · have : j = k := by omega
            subst this; exact hpf
    exact inner (out.getD i 0).toNat 0 h (by omega) (fun j hj => by omega) ⟨Nat.le_refl _, fun _ _ => rfl⟩

theorem pass_all (hR : ∀ (out : List Int) (h : Heap) (A : Option Addr) (c : Nat), below l0 out → out.length = N → p out = true → (∀ i, i < N → minAt p out i) → Own h0.size 1 h A N c (out.map (Value.int .i64)) → Ext h0 h → R (.tuple #[.slice A N c, .int .i64 0]) h) :
    ∀ (S : Nat) (out : List Int) (h : Heap) (A : Option Addr) (c : Nat), sumL out ≤ S → below l0 out → out.length = N → p out = true → Own h0.size 1 h A N c (out.map (Value.int .i64)) → Ext h0 h → f46.l1 R v A N c true h := by
  intro S
  induction S with
  | zero =>
    intro out h A c hS hb hl hp o e
    refine f46.l1_in ?_
    unfold f46.l1T
    refine split_t ?_
    exact pass_loop hN h1000 hf (S := sumL out) (fun _ _ _ _ hlt => by omega) hR N 0 false out h A c (by omega) hb hl hp (fun h => by cases h) (fun _ => ⟨rfl, fun j hj => by omega⟩) o e
  | succ S ih =>
    intro out h A c hS hb hl hp o e
    refine f46.l1_in ?_
    unfold f46.l1T
    refine split_t ?_
    exact pass_loop hN h1000 hf (S := sumL out) (fun out' h' A' c' hlt => ih out' h' A' c' (by omega)) hR N 0 false out h A c (by omega) hb hl hp (fun h => by cases h) (fun _ => ⟨rfl, fun j hj => by omega⟩) o e
end

def badN (x : Int) : Bool := decide (x < 0) || decide (x > 1000)
theorem below_refl {l : List Int} (h : ∀ x ∈ l, badN x = false) : below l l := ⟨rfl, fun i hi => by
  have := h l[i] (List.getElem_mem hi)
  rw [getD_at hi]
  unfold badN at this
  simp at this
  omega⟩

theorem below_1000 {l : List Int} (h : ∀ x ∈ l, badN x = false) (i : Nat) (hi : i < l.length) : l.getD i 0 ≤ 1000 := by
  have := h l[i] (List.getElem_mem hi)
  rw [getD_at hi]
  unfold badN at this
  simp at this
  omega
/-- Each, whole. -/
theorem each_spec {h0 : Heap} {v : Value} {p : List Int → Bool} {R : Value → Heap → Prop} {A : Option Addr} {c : Nat} {l : List Int} (hr : Rd 1 (eInt .i64) h0 A l)
    (hf : l.length ≤ 200 → ∀ h A c m, Ext h0 h → Rd 1 (eInt .i64) h A m → m.length = l.length → CallF Try.prog v [.slice A m.length c] h fun u h' => u = .bool (p m) ∧ h' = h)
    (k1 : l.length > 200 → R (.tuple #[.slice none 0 0, .int .i64 2]) h0) (k2 : l.length ≤ 200 → l.any badN = true → R (.tuple #[.slice none 0 0, .int .i64 1]) h0)
    (k3 : l.length ≤ 200 → l.any badN = false → p l = false → ∀ h, Ext h0 h → R (.tuple #[.slice none 0 0, .int .i64 4]) h)
    (k4 : l.length ≤ 200 → l.any badN = false → p l = true → ∀ (out : List Int) (h : Heap) (A : Option Addr) (c : Nat), below l out → p out = true → (∀ i, i < out.length → minAt p out i) → Own h0.size 1 h A l.length c (out.map (Value.int .i64)) → Ext h0 h → R (.tuple #[.slice A l.length c, .int .i64 0]) h) :
    Run Try.prog 46 #[.slice A l.length c, v] h0 R := by
  refine f46.run ?_
  unfold f46.runT
  refine split_dec (fun c1 => k1 (by omega)) (fun c1 => ?_)
  have hN : l.length ≤ 200 := by omega
  have loop : ∀ (d i : Nat), i + d = l.length → (∀ x ∈ l.take i, badN x = false) → f46.l0 R A l.length c v A l.length c (l.length : Int) (i : Int) h0 := by
    intro d
    induction d with
    | zero =>
      intro i hi hb
      rw [List.take_of_length_le (by omega)] at hb
      have hany : l.any badN = false := List.any_eq_false.2 fun x hx => by simp [hb x hx]
      refine f46.l0_in ?_
      unfold f46.l0T
      refine split_dec (fun c => by omega) fun _ => ?_
      refine clone_ints hr (by omega) fun A1 c1 h1 o1 e1 => ⟨_, _, _, rfl, ?_⟩
      refine clone_ints o1.ints (by omega) fun A2 c2 h2 o2 e2 => ⟨_, _, _, rfl, ?_⟩
      refine (hf hN h2 A2 c2 l (e1.trans e2) o2.ints rfl).mono ?_
      rintro _ h3 ⟨rfl, rfl⟩
      refine ⟨_, rfl, split_not (split_any (fun hp => ?_) (fun hp => k3 hN hany hp _ (e1.trans e2)))⟩
      exact pass_all (l0 := l) hN (fun i hi => (below_1000 hb i hi)) (hf hN) (fun out h A c hb hl hp hm o e => k4 hN hany (by assumption) out h A c hb hp (fun i hi => hm i (by omega)) o e) (sumL l) l h3 A1 c1 (Nat.le_refl _) (below_refl hb) rfl hp (o1.ext e2) (e1.trans e2)
    | succ d ih =>
      intro i hi hb
      refine f46.l0_in ?_
      unfold f46.l0T
      refine split_dec (fun _ => ?_) (fun c => by omega)
      refine hr.int rfl rfl (by omega) ?_
      have bad : badN (l[i]'(by omega)) = true → f46.j0 R A l.length c v A l.length c (l.length : Int) (i : Int) true h0 := by
        intro hbad
        refine f46.j0_in ?_
        unfold f46.j0T
        exact split_t (k2 hN (List.any_eq_true.2 ⟨_, List.getElem_mem _, hbad⟩))
      refine split_dec (fun c2 => bad (by unfold badN; rw [decide_eq_true c2]; rfl)) (fun c2 => ?_)
      by_cases c3 : (l[i]'(by omega)) > 1000
      · rw [decide_eq_true c3]
        exact bad (by unfold badN; rw [decide_eq_true c3, Bool.or_true])
      · rw [decide_eq_false c3]
        refine f46.j0_in ?_
        unfold f46.j0T
        refine split_f ?_
        have e1 : IntKind.wrap .i64 ((i : Int) + 1) = ((i + 1 : Nat) : Int) := by rw [wrap_in (by omega) (by omega)]; omega
        rw [e1]
        refine ih (i + 1) (by omega) fun x hx => ?_
        rw [List.take_succ_eq_append_getElem (by omega)] at hx
        rcases List.mem_append.1 hx with hx | hx
        · exact hb x hx
        · simp at hx; subst hx
          unfold badN; rw [decide_eq_false c2, decide_eq_false c3]; rfl
  exact loop l.length 0 (by omega) (fun x hx => by simp at hx)

/-! ### The law's functions -/
def p47 (l : List Int) : Bool := decide (l.length > 1) && decide (l.getD 1 0 ≥ 4)
set_option maxRecDepth 100000 in
theorem call47 {h : Heap} {A : Option Addr} {c : Nat} {l : List Int} (hr : Rd 1 (eInt .i64) h A l) : CallF Try.prog (.func (.func 47) #[] #[]) [.slice A l.length c] h fun u h' => u = .bool (p47 l) ∧ h' = h := by
  refine CallF.of [.slice A l.length c] f47.ok rfl ?_
  refine f47.run ?_
  unfold f47.runT
  unfold p47
  refine split_dec (fun c1 => ?_) (fun c1 => ⟨?_, rfl⟩)
  · refine hr.int (i := 1) rfl rfl (by omega) ⟨?_, rfl⟩
    rw [decide_eq_true (show l.length > 1 by omega), Bool.true_and, getD_at (by omega)]
  · rw [decide_eq_false (show ¬ l.length > 1 by omega), Bool.false_and]

def sumW (most : Int) : List Int → Bool → Int → Int
  | [], _, s => s
  | x :: r, first, s => sumW most r false (IntKind.wrap .i64 (s + if first then x else if most < x then most else x))
def p49 (most least : Int) (l : List Int) : Bool := decide (sumW most l true 0 ≥ least)
theorem loop49 {h : Heap} {A : Option Addr} {c : Nat} {l : List Int} {most least : Int} {a1 a2 : Addr} (hr : Rd 1 (eInt .i64) h A l) (h1 : ldv false 1 h a1 = some (.int .i64 most)) (h2 : ldv false 1 h a2 = some (.int .i64 least)) (hl : l.length ≤ 200) :
    ∀ (d i : Nat) (s : Int), i + d = l.length → sumW most l true 0 = sumW most (l.drop i) (decide (i = 0)) s → f49.l0 (fun u h' => u = .bool (p49 most least l) ∧ h' = h) a1 a2 s A l.length c (l.length : Int) (i : Int) h := by
  intro d
  induction d with
  | zero =>
    intro i s hi hs
    refine f49.l0_in ?_
    unfold f49.l0T
    refine split_dec (fun c => by omega) fun _ => ?_
    refine ⟨_, h2, _, rfl, ?_, rfl⟩
    unfold p49
    rw [hs, List.drop_eq_nil_of_le (by omega)]; rfl
  | succ d ih =>
    intro i s hi hs
    have e1 : IntKind.wrap .i64 ((i : Int) + 1) = ((i + 1 : Nat) : Int) := by rw [wrap_in (by omega) (by omega)]; omega
    refine f49.l0_in ?_
    unfold f49.l0T
    refine split_dec (fun _ => ?_) (fun c => by omega)
    refine hr.int rfl rfl (by omega) ?_
    rw [List.drop_eq_getElem_cons (show i < l.length by omega)] at hs
    refine split_dec (fun c1 => ?_) (fun c1 => ?_)
    · refine ⟨_, h1, _, rfl, ?_⟩
      refine f49.j0_in ?_
      unfold f49.j0T
      rw [e1]
      refine ih (i + 1) _ (by omega) ?_
      rw [hs, decide_eq_false (show ¬ i = 0 by omega), decide_eq_false (show ¬ i + 1 = 0 by omega)]
      rfl
    · refine f49.j0_in ?_
      unfold f49.j0T
      rw [e1]
      refine ih (i + 1) _ (by omega) ?_
      rw [hs, decide_eq_true (show i = 0 by omega), decide_eq_false (show ¬ i + 1 = 0 by omega)]
      rfl
theorem run49 {h : Heap} {A : Option Addr} {c : Nat} {l : List Int} {most least : Int} {a1 a2 : Addr} (hr : Rd 1 (eInt .i64) h A l) (h1 : ldv false 1 h a1 = some (.int .i64 most)) (h2 : ldv false 1 h a2 = some (.int .i64 least)) (hl : l.length ≤ 200) :
    Run Try.prog 49 #[.slice A l.length c, .pointer (some a1), .pointer (some a2)] h fun u h' => u = .bool (p49 most least l) ∧ h' = h := by
  refine f49.run ?_
  unfold f49.runT
  exact loop49 hr h1 h2 hl l.length 0 0 (by omega) rfl
set_option maxRecDepth 100000 in
theorem call50 {h : Heap} {x : Int} : CallF Try.prog (.func (.func 50) #[] #[]) [.int .i64 x] h fun u h' => u = .bool (badN x) ∧ h' = h := by
  refine CallF.of [.int .i64 x] f50.ok rfl ?_
  refine f50.run ?_
  unfold f50.runT
  unfold badN
  refine split_dec (fun c1 => ⟨?_, rfl⟩) (fun c1 => ⟨?_, rfl⟩)
  · rw [decide_eq_true c1]; rfl
  · rw [decide_eq_false c1, Bool.false_or]

/-- The law, behind its call of Each. -/
def tailT (R : Value → Heap → Prop) (A0 : Option Addr) (n0 c0 : Nat) (a4 a5 : Addr) (v7_ : Value) (h8_ : Heap) : Prop :=
  ∃ A9_, ∃ n9_, ∃ c9_, ∃ x10_, v7_ = (Value.tuple #[(Value.slice A9_ n9_ c9_), (Value.int .i64 x10_)]) ∧ splitB (decide (((n0 : Nat) : Int) > (200 : Int))) (splitB (x10_ == (2 : Int)) (R (Value.bool (((n9_ : Nat) : Int) == (0 : Int))) h8_) (R (Value.bool false) h8_)) (Run Try.prog 24 #[(Value.slice A0 n0 c0), (Value.func (.func 50) #[] #[])] h8_ fun v11_ h12_ => ∃ b13_, v11_ = (Value.bool b13_) ∧ splitB b13_ (splitB (x10_ == (1 : Int)) (R (Value.bool (((n9_ : Nat) : Int) == (0 : Int))) h12_) (R (Value.bool false) h12_)) (Run Try.prog 51 #[(Value.slice A0 n0 c0)] h12_ fun v14_ h15_ => ∃ A16_, ∃ n16_, ∃ c16_, v14_ = (Value.slice A16_ n16_ c16_) ∧ Run Try.prog 49 #[(Value.slice A16_ n16_ c16_), (Value.pointer (some a5)), (Value.pointer (some a4))] h15_ fun v17_ h18_ => ∃ b19_, v17_ = (Value.bool b19_) ∧ splitB (!b19_) (splitB (x10_ == (4 : Int)) (R (Value.bool (((n9_ : Nat) : Int) == (0 : Int))) h18_) (R (Value.bool false) h18_)) (splitB (x10_ != (0 : Int)) (R (Value.bool false) h18_) (splitB (((n9_ : Nat) : Int) != ((n0 : Nat) : Int)) (R (Value.bool false) h18_) (Run Try.prog 51 #[(Value.slice A9_ n9_ c9_)] h18_ fun v20_ h21_ => ∃ A22_, ∃ n22_, ∃ c22_, v20_ = (Value.slice A22_ n22_ c22_) ∧ Run Try.prog 49 #[(Value.slice A22_ n22_ c22_), (Value.pointer (some a5)), (Value.pointer (some a4))] h21_ fun v23_ h24_ => ∃ b25_, v23_ = (Value.bool b25_) ∧ splitB (!b25_) (R (Value.bool false) h24_) (f8.j1 R A0 n0 c0 a5 a4 A9_ n9_ c9_ h24_))))))

section
variable {h0 hb : Heap} {A : Option Addr} {c : Nat} {l : List Int} {z w : Nat} {least most : Int}

set_option maxRecDepth 100000 in
/-- What was found is looked at. -/
theorem verify {A10 : Option Addr} {c10 : Nat} {out : List Int} {p : List Int → Bool} (hp : p = p49 most least) (hlw : Blk hb z [.int .i64 least] 3) (hmw : Blk hb w [.int .i64 most] 3) (es : Ext h0 hb)
    (hr : Rd 1 (eInt .i64) hb A l) (ho : Rd 1 (eInt .i64) hb A10 out) (hl : l.length ≤ 200) (hbel : below l out) (hmin : ∀ i, i < out.length → minAt p out i) (h1000 : l.any badN = false) :
    ∀ (d i : Nat) (h : Heap), i + d = out.length → Ext hb h → f8.l0 (fun v h' => v = .bool true ∧ Ext h0 h') A l.length c ⟨w, 0, none⟩ ⟨z, 0, none⟩ A10 out.length c10 (out.length : Int) (i : Int) h := by
  have hlen := hbel.1
  intro d
  induction d with
  | zero =>
    intro i h hi e
    refine f8.l0_in ?_
    unfold f8.l0T
    exact split_dec (fun c => by omega) fun _ => ⟨rfl, es.trans e⟩
  | succ d ih =>
    intro i h hi e
    have hil : i < out.length := by omega
    have hb := hbel.2 i hil
    have e1 : ∀ x : Nat, x < 9000000000 → IntKind.wrap .i64 ((x : Int) + 1) = ((x + 1 : Nat) : Int) := by intro x hx; rw [wrap_in (by omega) (by omega)]; omega
    refine f8.l0_in ?_
    unfold f8.l0T
    refine split_dec (fun _ => ?_) (fun c => by omega)
    have ho1 := ho.ext (mono_int _) e
    have hr1 := hr.ext (mono_int _) e
    refine ho1.int rfl rfl hil ?_
    rw [← getD_at hil]
    refine split_dec (fun c => by omega) fun _ => ?_
    obtain ⟨a, cs, ha, hc, hE⟩ := ho1 i hil
    obtain ⟨b, cs', hb1, hb2, hb3⟩ := hr1 i (by omega)
    subst ha hb1
    rw [hE] at hc; rw [hb3] at hb2
    refine ⟨by omega, by omega, by omega, by omega, _, one_cells hc, _, rfl, _, one_cells hb2, _, rfl, ?_⟩
    rw [← getD_at hil, ← getD_at (l := l)]
    refine split_dec (fun c => by omega) fun _ => ?_
    refine f8.j2_in ?_
    unfold f8.j2T
    refine ho1.int rfl rfl hil ?_
    rw [← getD_at hil]
    have le1000 : l.getD i 0 ≤ 1000 := by
      have h2 := List.any_eq_false.1 h1000 (l[i]'(by omega)) (List.getElem_mem _)
      rw [getD_at (by omega)]
      unfold badN at h2; simp at h2; omega
    have inner : ∀ (d2 k : Nat) (h' : Heap), (k : Int) + d2 = out.getD i 0 → Ext h h' → f8.l1 (fun v h' => v = .bool true ∧ Ext h0 h') (some b) l.length c ⟨w, 0, none⟩ ⟨z, 0, none⟩ (some a) out.length c10 (i : Int) (out.length : Int) (i : Int) (out.getD i 0) (k : Int) h' := by
      intro d2
      induction d2 with
      | zero =>
        intro k h' hk e'
        refine f8.l1_in ?_
        unfold f8.l1T
        refine split_dec (fun c => by omega) fun _ => ?_
        rw [e1 i (by omega)]
        exact ih (i + 1) h' (by omega) (e.trans e')
      | succ d2 ih2 =>
        intro k h' hk e'
        refine f8.l1_in ?_
        unfold f8.l1T
        refine split_dec (fun _ => ?_) (fun c => by omega)
        refine clone_ints (ho1.ext (mono_int _) e') (by omega) fun A1 c1 h2 o1 e2 => ⟨_, _, _, rfl, ?_⟩
        refine o1.store0 (i := i) rfl rfl hil (by omega) (by exact trivial) fun h3 o3 u3 => ?_
        rw [map_set] at o3
        have hlen2 : (out.set i (k : Int)).length = out.length := List.length_set
        have e3 : Ext h' h3 := o1.keep u3 e2 (Nat.le_refl _)
        have e4 := (e.trans e').trans e3
        have hcall := run49 (c := c1) (most := most) (least := least) (a1 := ⟨w, 0, none⟩) (a2 := ⟨z, 0, none⟩) o3.ints ((hmw.ext e4).ld rfl rfl rfl) ((hlw.ext e4).ld rfl rfl rfl) (by omega)
        rw [hlen2] at hcall
        refine hcall.ret ⟨_, rfl, ?_⟩
        have hmn := hmin i hil k (by omega)
        rw [hp] at hmn
        rw [hmn]
        refine split_f ?_
        rw [e1 k (by omega)]
        exact ih2 (k + 1) h3 (by omega) (e'.trans e3)
    exact inner (out.getD i 0).toNat 0 h (by omega) ⟨Nat.le_refl _, fun _ _ => rfl⟩

set_option maxRecDepth 100000 in
theorem tail_holds (hl0 : (l.length : Int) ≤ 9223372036854775806) (hlw : Blk hb z [.int .i64 least] 3) (hmw : Blk hb w [.int .i64 most] 3) (es : Ext h0 hb) (hr : Rd 1 (eInt .i64) hb A l) :
    Run Try.prog 46 #[.slice A l.length c, .func (.func 49) #[] #[.pointer (some ⟨w, 0, none⟩), .pointer (some ⟨z, 0, none⟩)]] hb (tailT (fun v h' => v = .bool true ∧ Ext h0 h') A l.length c ⟨z, 0, none⟩ ⟨w, 0, none⟩) := by
  have any50 : ∀ h, Ext hb h → Run Try.prog 24 #[.slice A l.length c, .func (.func 50) #[] #[]] h fun u h' => u = .bool (l.any badN) ∧ h' = h := fun h e =>
    containsFunc_spec (hr.ext (mono_int _) e) hl0 (fun x _ => call50)
  have end1 : ∀ {x y : Int} {n : Nat} {h : Heap}, x = y → n = 0 → Ext hb h → splitB (x == y) ((fun v h' => v = Value.bool true ∧ Ext h0 h') (.bool ((n : Int) == 0)) h) ((fun v h' => v = Value.bool true ∧ Ext h0 h') (.bool false) h) := by
    intro x y n h hxy hn e
    subst hn
    exact split_eq (fun _ => ⟨rfl, es.trans e⟩) (fun c => absurd hxy c)
  have e0 : Ext hb hb := ⟨Nat.le_refl _, fun _ _ => rfl⟩
  refine each_spec (p := p49 most least) hr (fun hN h A1 c1 m e hm hml => ?_) (fun c1 => ?_) (fun c1 c2 => ?_) (fun c1 c2 c3 h e => ?_) (fun c1 c2 c3 out h A1 c1' hbel hp hmin ho e => ?_)
  · refine CallF.of [.slice A1 m.length c1, .pointer (some ⟨w, 0, none⟩), .pointer (some ⟨z, 0, none⟩)] f49.ok rfl ?_
    exact run49 hm ((hmw.ext e).ld rfl rfl rfl) ((hlw.ext e).ld rfl rfl rfl) (by omega)
  · unfold tailT
    refine ⟨_, _, _, _, rfl, ?_⟩
    refine split_dec (fun _ => end1 rfl rfl e0) (fun c => by omega)
  · unfold tailT
    refine ⟨_, _, _, _, rfl, ?_⟩
    refine split_dec (fun c => by omega) (fun _ => ?_)
    refine (any50 hb e0).ret ⟨_, rfl, ?_⟩
    rw [c2]
    exact split_t (end1 rfl rfl e0)
  · unfold tailT
    refine ⟨_, _, _, _, rfl, ?_⟩
    refine split_dec (fun c => by omega) (fun _ => ?_)
    refine (any50 h e).ret ⟨_, rfl, ?_⟩
    rw [c2]
    refine split_f ?_
    refine clone_ints (hr.ext (mono_int _) e) (by omega) fun A2 c2' h2 o2 e2 => ⟨_, _, _, rfl, ?_⟩
    refine (run49 o2.ints ((hmw.ext (e.trans e2)).ld rfl rfl rfl) ((hlw.ext (e.trans e2)).ld rfl rfl rfl) (by omega)).ret ⟨_, rfl, ?_⟩
    rw [c3]
    exact split_t (end1 rfl rfl (e.trans e2))
  · unfold tailT
    refine ⟨_, _, _, _, rfl, ?_⟩
    refine split_dec (fun c => by omega) (fun _ => ?_)
    refine (any50 h e).ret ⟨_, rfl, ?_⟩
    rw [c2]
    refine split_f ?_
    refine clone_ints (hr.ext (mono_int _) e) (by omega) fun A2 c2' h2 o2 e2 => ⟨_, _, _, rfl, ?_⟩
    refine (run49 o2.ints ((hmw.ext (e.trans e2)).ld rfl rfl rfl) ((hlw.ext (e.trans e2)).ld rfl rfl rfl) (by omega)).ret ⟨_, rfl, ?_⟩
    rw [c3]
    refine split_f ?_
    refine split_ne (fun c => absurd rfl c) fun _ => split_ne (fun c => absurd rfl c) fun _ => ?_
    have e12 := e.trans e2
    have ho2 := (ho.ext e2).ints
    have hc : ∀ K, (∀ A' c' h', Own h2.size 1 h' A' out.length c' (out.map (Value.int .i64)) → Ext h2 h' → K (.slice A' out.length c') h') → Run Try.prog 51 #[.slice A1 l.length c1'] h2 K := by
      intro K hK
      have := clone_ints (c := c1') (R := K) ho2 (by have := hbel.1; omega) hK
      rwa [hbel.1] at this
    refine hc _ fun A3 c3' h3 o3 e3 => ⟨_, _, _, rfl, ?_⟩
    have e123 := e12.trans e3
    refine (run49 o3.ints ((hmw.ext e123).ld rfl rfl rfl) ((hlw.ext e123).ld rfl rfl rfl) (by have := hbel.1; omega)).ret ⟨_, rfl, ?_⟩
    rw [hp]
    refine split_f ?_
    refine f8.j1_in ?_
    unfold f8.j1T
    rw [← hbel.1]
    have := verify (c := c) (c10 := c1') (hb := h3) (p := p49 most least) rfl (hlw.ext e123) (hmw.ext e123) (es.trans e123) (hr.ext (mono_int _) e123) (ho2.ext (mono_int _) e3) c1 hbel hmin c2 out.length 0 h3 (by omega) ⟨Nat.le_refl _, fun _ _ => rfl⟩
    rwa [← hbel.1] at this
end

set_option maxRecDepth 100000 in
theorem ShrinkEach_run {h : Heap} {A : Option Addr} {c : Nat} {l : List Int} {x y : Int} (hr : Rd 1 (eInt .i64) h A l) (hl0 : (l.length : Int) ≤ 9223372036854775806) :
    Run Try.prog 8 #[.slice A l.length c, .int .i64 x, .int .i64 y] h fun v h' => v = .bool true ∧ Ext h h' := by
  refine f8.run ?_
  unfold f8.runT
  refine newH_in fun h1 b1 e1 s1 => newH_in fun h2 b2 e2 s2 => newH_in fun h3 b3 e3 s3 => ?_
  have b1 : Blk h3 h.size [.int .i64 x] 3 := (b1.ext e2).ext e3
  have b2 : Blk h3 h1.size [.int .i64 y] 3 := b2.ext e3
  have r3 : Rd 1 (eInt .i64) h3 (some ⟨h2.size, 0, none⟩) [5, 9] := Blk.ints' (l := [5, 9]) b3
  have e03 : Ext h h3 := e1.trans (e2.trans e3)
  have go : ∀ h', Ext h3 h' → f8.j0 (fun v h' => v = .bool true ∧ Ext h h') A l.length c ⟨h.size, 0, none⟩ ⟨h1.size, 0, none⟩ h' := by
    intro h' e'
    have c1 := b1.ext e'
    have c2 := b2.ext e'
    have eh : Ext h h' := e03.trans e'
    have fin : ∀ (h5 h6 : Heap) (p q : Int), Blk h5 h.size [.int .i64 p] 3 → Only h' h5 h.size → Blk h6 h1.size [.int .i64 q] 3 → Only h5 h6 h1.size →
        Run Try.prog 46 #[.slice A l.length c, .func (.func 49) #[] #[.pointer (some ⟨h1.size, 0, none⟩), .pointer (some ⟨h.size, 0, none⟩)]] h6 (tailT (fun v h' => v = .bool true ∧ Ext h h') A l.length c ⟨h.size, 0, none⟩ ⟨h1.size, 0, none⟩) := by
      intro h5 h6 p q d1 o1 d2 o2
      have ee : Ext h h6 := (eh.only o1 (Nat.le_refl _)).only o2 e1.1
      exact tail_holds hl0 (d1.only o2 (by omega)) d2 ee (hr.ext (mono_int _) ee)
    refine f8.j0_in ?_
    unfold f8.j0T
    refine ⟨_, c1.ld rfl rfl rfl, _, rfl, by omega, ?_, ?_⟩
    · refine ⟨_, c2.ld rfl rfl rfl, _, rfl, ⟨Nat.le_refl _, fun _ _ => rfl⟩, by omega, ?_⟩
      obtain ⟨h5, st5, d5, o5⟩ := c1.st (a := ⟨h.size, 0, none⟩) (v := .int .i64 (IntKind.wrap .i64 (Int.tmod (IntKind.wrap .u64 x) 100))) rfl rfl (by show 0 < 1; omega) trivial
      obtain ⟨h6, st6, d6, o6⟩ := (c2.only o5 (by omega)).st (a := ⟨h1.size, 0, none⟩) (v := .int .i64 (IntKind.wrap .i64 (1 + IntKind.wrap .i64 (Int.tmod (IntKind.wrap .u64 y) 9)))) rfl rfl (by show 0 < 1; omega) trivial
      exact ⟨h5, st5, h6, st6, fin h5 h6 _ _ d5 o5 d6 o6⟩
    · obtain ⟨h5, st5, d5, o5⟩ := c1.st (a := ⟨h.size, 0, none⟩) (v := .int .i64 (IntKind.wrap .i64 (Int.tmod (IntKind.wrap .u64 x) 100))) rfl rfl (by show 0 < 1; omega) trivial
      have c25 := c2.only o5 (by omega)
      obtain ⟨h6, st6, d6, o6⟩ := c25.st (a := ⟨h1.size, 0, none⟩) (v := .int .i64 (IntKind.wrap .i64 (1 + IntKind.wrap .i64 (Int.tmod (IntKind.wrap .u64 y) 9)))) rfl rfl (by show 0 < 1; omega) trivial
      exact ⟨h5, st5, _, c25.ld rfl rfl rfl, _, rfl, ⟨Nat.le_refl _, fun _ _ => rfl⟩, by omega, h6, st6, fin h5 h6 _ _ d5 o5 d6 o6⟩
  refine each_spec (l := [5, 9]) (p := p47) r3 (fun _ h' A' c' m e hm _ => call47 hm) (fun c => by simp at c) (fun _ c => by simp [badN] at c) (fun _ _ c => by simp [p47] at c) (fun _ _ _ out h5 A5 c5 hbel hp hmin ho e5 => ⟨_, _, _, _, rfl, ?_⟩)
  refine split_ne (fun c => absurd rfl c) fun _ => ?_
  have hlen : out.length = 2 := hbel.1
  have hout : out = [0, 4] := by
    obtain ⟨a, b, rfl⟩ : ∃ a b, out = [a, b] := by
      match out, hlen with
      | [a, b], _ => exact ⟨a, b, rfl⟩
    have ha := hbel.2 0 (by simp)
    have hb := hbel.2 1 (by simp)
    simp at ha hb
    have hp' : b ≥ 4 := by simpa [p47] using hp
    have h0 : a = 0 := by
      rcases Int.lt_or_le 0 a with h1 | h1
      · have := hmin 0 (by simp) 0 (by simpa using h1)
        simp [p47] at this; omega
      · omega
    have h1 : b = 4 := by
      rcases Int.lt_or_le 4 b with h1 | h1
      · have := hmin 1 (by simp) 4 (by simpa using h1)
        simp [p47] at this
      · omega
    rw [h0, h1]
  subst hout
  refine newH_in fun h8 b8 e8 s8 => ?_
  refine (equal_spec (l := [0, 4]) (m := [0, 4]) ((ho.ints).ext (mono_int _) e8) (Blk.ints' (l := [0, 4]) b8) (by simp)).ret ⟨_, rfl, ?_⟩
  exact split_f (go h8 (e5.trans e8))
end Go.Proofs.Ytbpfmlgnlcfbcaa.Fw.SE
