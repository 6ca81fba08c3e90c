/- Last part: what the law CyclePlays needs, put together out of texts of this session. -/
import Derived.Test.YthnlhffpmlgmfadRows
import Derived.WalkKit
import Derived.JoinedCond
import Derived.Deep.CondSized
import Derived.Test.YthnlhffpmlgmfadZCyclePlayse
section
namespace Go.Proofs.Ythnlhffpmlgmfad.Fw
open Go Go.Hw Go.Proofs
set_option linter.unusedVariables false
set_option linter.unusedSectionVars false
abbrev Kn := T_api_Know
def rf (l : List Kn) (j : Nat) : Int := match l[j]? with | some k => k.Ref | none => 0
def rs (l : List Kn) (j : Nat) : List Int := match l[j]? with | some k => k.Refs | none => []
def rt (l : List Kn) (j : Nat) : Bool := match l[j]? with | some k => k.Root || k.Awake | none => false
theorem rf_at {l : List Kn} {j : Nat} (h : j < l.length) : l[j].Ref = rf l j := by unfold rf; rw [List.getElem?_eq_getElem h]
theorem rs_at {l : List Kn} {j : Nat} (h : j < l.length) : l[j].Refs = rs l j := by unfold rs; rw [List.getElem?_eq_getElem h]
theorem rt_at {l : List Kn} {j : Nat} (h : j < l.length) : (l[j].Root || l[j].Awake) = rt l j := by unfold rt; rw [List.getElem?_eq_getElem h]
def nxt (l : List Kn) (f : Nat → Int) (n : Nat) (q : Nat) : Int := if f q < 0 ∧ (List.range l.length).any (fun k => decide (f k = n) && decide (rf l q ∈ rs l k)) = true then (n : Int) + 1 else f q
def lv (l : List Kn) : Nat → Nat → Int
  | 0, q => if rt l q = true then 0 else -1
  | n + 1, q => nxt l (lv l n) n q
theorem lv_succ (l : List Kn) (n q : Nat) : lv l (n + 1) q = nxt l (lv l n) n q := rfl
theorem any_iff {l : List Kn} {f : Nat → Int} {n q : Nat} : (List.range l.length).any (fun k => decide (f k = n) && decide (rf l q ∈ rs l k)) = true ↔ ∃ k, k < l.length ∧ f k = n ∧ rf l q ∈ rs l k := by
  rw [List.any_eq_true]
  constructor
  · rintro ⟨k, hk, h⟩
    simp only [Bool.and_eq_true, decide_eq_true_eq] at h
    exact ⟨k, List.mem_range.1 hk, h.1, h.2⟩
  · rintro ⟨k, hk, h1, h2⟩
    exact ⟨k, List.mem_range.2 hk, by simp [h1, h2]⟩
theorem lv_in (l : List Kn) : ∀ n q, -1 ≤ lv l n q ∧ lv l n q ≤ n := by
  intro n
  induction n with
  | zero => intro q; unfold lv; split <;> omega
  | succ n ih => intro q; rw [lv_succ]; unfold nxt; have := ih q; split <;> omega
theorem lv_keep {l : List Kn} {n q : Nat} (h : 0 ≤ lv l n q) : ∀ m, n ≤ m → lv l m q = lv l n q := by
  intro m hm
  induction m with
  | zero => have : n = 0 := by omega
            subst this; rfl
  | succ m ih =>
    by_cases c : n = m + 1
    · subst c; rfl
    · have := ih (by omega)
      rw [lv_succ]; unfold nxt; rw [if_neg (by omega), this]
theorem lv_eq {l : List Kn} {k q : Nat} : ∀ m, k ≤ m → (lv l m q = k ↔ lv l k q = k) := by
  intro m hm
  induction m with
  | zero => have : k = 0 := by omega
            subst this; exact Iff.rfl
  | succ m ih =>
    by_cases c : k = m + 1
    · subst c; exact Iff.rfl
    · rw [← ih (by omega), lv_succ]; unfold nxt
      have := (lv_in l m q).2
      constructor
      · intro h
        split at h
        · omega
        · exact h
      · intro h; rw [if_neg (by omega)]; exact h
theorem lv_new {l : List Kn} {n q : Nat} : lv l (n + 1) q = (n + 1 : Nat) ↔ lv l n q < 0 ∧ ∃ k, k < l.length ∧ lv l n k = n ∧ rf l q ∈ rs l k := by
  rw [lv_succ]; unfold nxt
  have := (lv_in l n q).2
  constructor
  · intro h
    by_cases c : lv l n q < 0 ∧ (List.range l.length).any (fun k => decide (lv l n k = n) && decide (rf l q ∈ rs l k)) = true
    · exact ⟨c.1, any_iff.1 c.2⟩
    · rw [if_neg c] at h; omega
  · intro h; rw [if_pos ⟨h.1, any_iff.2 h.2⟩]; rfl
theorem lv_pos {l : List Kn} {n q : Nat} : 0 ≤ lv l (n + 1) q ↔ 0 ≤ lv l n q ∨ lv l (n + 1) q = (n + 1 : Nat) := by
  rw [lv_succ]; unfold nxt
  split
  · constructor
    · intro _; exact .inr rfl
    · intro _; omega
  · constructor
    · intro h; exact .inl h
    · rintro (h | h)
      · exact h
      · omega
def at_ (l : List Kn) (f : Nat → Int) (k : Int) (n : Nat) : List Int := ((List.range n).filter fun j => decide (f j = k)).map (rf l)
def dead (l : List Kn) (f : Nat → Int) (n : Nat) : List Int := ((List.range n).filter fun j => decide (f j < 0)).map (rf l)
theorem dead_succ (l : List Kn) (f : Nat → Int) (n : Nat) : dead l f (n + 1) = if f n < 0 then dead l f n ++ [rf l n] else dead l f n := by
  unfold dead
  rw [List.range_succ, List.filter_append, List.map_append]
  by_cases c : f n < 0
  · rw [if_pos c]; simp [c]
  · rw [if_neg c]; simp [c]
theorem dead_len {l : List Kn} {f : Nat → Int} {n : Nat} : (dead l f n).length ≤ n := by
  unfold dead
  rw [List.length_map]
  exact Nat.le_trans (List.length_filter_le _ _) (by rw [List.length_range]; exact Nat.le_refl _)
def refs (l : List Kn) : List Int := l.map (·.Ref)
theorem refs_get {l : List Kn} {j : Nat} (h : j < l.length) : (refs l)[j]? = some (rf l j) := by unfold refs; rw [List.getElem?_map, List.getElem?_eq_getElem h, ← rf_at h]; rfl
theorem refs_mem {l : List Kn} {x : Int} : x ∈ refs l ↔ ∃ j, j < l.length ∧ rf l j = x := by
  rw [List.mem_iff_getElem?]
  constructor
  · rintro ⟨j, h⟩
    have hj : j < l.length := by
      rcases Nat.lt_or_ge j l.length with h' | h'
      · exact h'
      · rw [List.getElem?_eq_none (by unfold refs; rw [List.length_map]; exact h')] at h; cases h
    rw [refs_get hj] at h
    exact ⟨j, hj, Option.some.inj h⟩
  · rintro ⟨j, hj, h⟩; exact ⟨j, by rw [refs_get hj, h]⟩
theorem rf_inj {l : List Kn} (nd : (refs l).Nodup) {i j : Nat} (hi : i < l.length) (hj : j < l.length) (h : rf l i = rf l j) : i = j := by
  have hi' : i < (refs l).length := by unfold refs; rw [List.length_map]; exact hi
  have hj' : j < (refs l).length := by unfold refs; rw [List.length_map]; exact hj
  have e : (refs l)[i] = (refs l)[j] := by
    have h1 := refs_get hi; have h2 := refs_get hj
    rw [List.getElem?_eq_getElem hi'] at h1; rw [List.getElem?_eq_getElem hj'] at h2
    rw [Option.some.inj h1, Option.some.inj h2, h]
  rcases Nat.lt_trichotomy i j with g | g | g
  · exact absurd e (List.pairwise_iff_getElem.1 nd i j hi' hj' g)
  · exact g
  · exact absurd e.symm (List.pairwise_iff_getElem.1 nd j i hj' hi' g)
def Ix (l : List Kn) (i : Nat) (es : List (Int × Int)) : Prop := (∀ q, (pget es q).isSome = decide (q ∈ (refs l).take i)) ∧ ∀ k, k < i → k < l.length → pget es (rf l k) = some (k : Int)
theorem take_succ_refs {l : List Kn} {i : Nat} (h : i < l.length) : (refs l).take (i + 1) = (refs l).take i ++ [rf l i] := by
  have hi' : i < (refs l).length := by unfold refs; rw [List.length_map]; exact h
  rw [List.take_succ_eq_append_getElem hi']
  have := refs_get h
  rw [List.getElem?_eq_getElem hi'] at this
  rw [Option.some.inj this]
theorem not_nodup {l : List Kn} {i : Nat} (h : i < l.length) (hm : rf l i ∈ (refs l).take i) : ¬ (refs l).Nodup := by
  intro nd
  have h1 : ((refs l).take (i + 1)).Nodup := nd.sublist (List.take_sublist _ _)
  rw [take_succ_refs h, List.nodup_append] at h1
  exact h1.2.2 _ hm _ (List.mem_singleton.2 rfl) rfl
theorem index_loop {l : List Kn} (hl : l.length ≤ 480) : ∀ (d i : Nat) (es : List (Int × Int)), i + d = l.length → Ix l i es → ((refs l).take i).Nodup →
    ∃ r, cycle_index.l0 es l (l.length : Int) (i : Int) = some r ∧ ((refs l).Nodup → ∃ es', r = (some es', 0) ∧ Ix l l.length es') ∧ (¬ (refs l).Nodup → r = (none, 5)) := by
  intro d
  induction d with
  | zero =>
    intro i es h1 h2 h3
    have : i = l.length := by omega
    subst this
    refine ⟨(some es, 0), by rw [cycle_index.l0_eq, if_neg (by omega)], fun _ => ⟨es, rfl, h2⟩, fun h => absurd ?_ h⟩
    rwa [List.take_of_length_le (by unfold refs; rw [List.length_map]; exact Nat.le_refl _)] at h3
  | succ d ih =>
    intro i es h1 h2 h3
    have hi : i < l.length := by omega
    rw [cycle_index.l0_eq, if_pos (by omega), gi_at hi, Option.bind_some, rf_at hi, h2.1]
    by_cases c : rf l i ∈ (refs l).take i
    · rw [if_pos (decide_eq_true c)]
      exact ⟨_, rfl, fun nd => absurd nd (not_nodup hi c), fun _ => rfl⟩
    · rw [if_neg (by simpa using c), Option.bind_some, w_succ (by omega)]
      refine ih (i + 1) _ (by omega) ⟨fun q => ?_, fun k hk hkl => ?_⟩ ?_
      · rw [pget_pset, take_succ_refs hi]
        by_cases e : q = rf l i
        · rw [if_pos e]; subst e; simp
        · rw [if_neg e, h2.1]
          exact decide_eq_decide.2 (by simp [e])
      · rw [pget_pset]
        by_cases e : rf l k = rf l i
        · rw [if_pos e]
          by_cases ki : k = i
          · subst ki; rfl
          · exfalso
            apply c
            rw [← e]
            have := refs_get hkl
            exact List.mem_iff_getElem?.2 ⟨k, by rw [List.getElem?_take_of_lt (by omega)]; exact this⟩
        · rw [if_neg e]
          exact h2.2 k (by
            rcases Nat.lt_or_ge k i with g | g
            · exact g
            · have : k = i := by omega
              subst this; exact absurd rfl e) hkl
      · rw [take_succ_refs hi, List.nodup_append]
        exact ⟨h3, by simp, fun a ha b hb => by rw [List.mem_singleton.1 hb]; exact fun e => c (e ▸ ha)⟩
theorem knows_loop {l : List Kn} (hl : l.length ≤ 480) : ∀ (d i : Nat), i + d = l.length → ((refs l).take i).Nodup → roadref4_Knows.l0 l l (l.length : Int) (i : Int) = some (if (refs l).Nodup then 0 else 5) := by
  intro d
  induction d with
  | zero =>
    intro i h1 h3
    have : i = l.length := by omega
    subst this
    rw [List.take_of_length_le (by unfold refs; rw [List.length_map]; exact Nat.le_refl _)] at h3
    rw [roadref4_Knows.l0_eq, if_neg (by omega), if_pos h3]
  | succ d ih =>
    intro i h1 h3
    have hi : i < l.length := by omega
    have hc := slices_ContainsFunc_25.val (l := l.take i) (p := fun z32 => roadref4_Knows_1 z32 l[i]) (fun z => z.Ref == l[i].Ref) (fun z _ => rfl) (by rw [List.length_take]; omega)
    rw [roadref4_Knows.l0_eq, if_pos (by omega), gi_at hi, Option.bind_some, sls_take rfl (by omega), Option.bind_some, hc, Option.bind_some]
    have e : ((l.take i).any fun z => z.Ref == l[i].Ref) = decide (rf l i ∈ (refs l).take i) := by
      rw [rf_at hi]
      have : (refs l).take i = (l.take i).map (·.Ref) := by unfold refs; rw [List.map_take]
      rw [this, Bool.eq_iff_iff, List.any_eq_true, decide_eq_true_eq, List.mem_map]
      simp only [beq_iff_eq]
    rw [e]
    by_cases c : rf l i ∈ (refs l).take i
    · rw [if_pos (decide_eq_true c), if_neg (not_nodup hi c)]
    · rw [if_neg (by simpa using c), w_succ (by omega)]
      refine ih (i + 1) (by omega) ?_
      rw [take_succ_refs hi, List.nodup_append]
      exact ⟨h3, by simp, fun a ha b hb => by rw [List.mem_singleton.1 hb]; exact fun e => c (e ▸ ha)⟩
def Is (l : List Kn) (a : List Int) (f : Nat → Int) : Prop := a.length = l.length ∧ ∀ q, q < l.length → a[q]? = some (f q)
theorem Is.gi {l : List Kn} {a : List Int} {f : Nat → Int} (h : Is l a f) {q : Nat} (hq : q < l.length) : gi a (q : Int) = some (f q) := by rw [gi_nat]; exact h.2 q hq
theorem Is.set {l : List Kn} {a : List Int} {f : Nat → Int} (h : Is l a f) {q : Nat} (hq : q < l.length) (v : Int) : Is l (a.set q v) (fun j => if j = q then v else f j) := by
  refine ⟨by rw [List.length_set]; exact h.1, fun j hj => ?_⟩
  rw [List.getElem?_set]
  show _ = some (if j = q then v else f j)
  by_cases c : q = j
  · rw [if_pos c, if_pos (by rw [h.1]; exact hq), if_pos (show j = q from c.symm)]
  · rw [if_neg c, if_neg (show ¬ j = q from fun e => c e.symm)]; exact h.2 j hj
theorem Is.congr {l : List Kn} {a : List Int} {f g : Nat → Int} (h : Is l a f) (e : ∀ q, q < l.length → f q = g q) : Is l a g := ⟨h.1, fun q hq => by rw [h.2 q hq, e q hq]⟩
theorem alive_l3 {l : List Kn} (hl : l.length ≤ 480) (hQ : ∀ k ∈ l, k.Refs.length ≤ 4611686018427387904) {n k : Nat} (hn : n ≤ 1000) (hk : k < l.length) {x33 x34 : Int} : ∀ (d j : Nat) (a : List Int) (f : Nat → Int), j + d = l.length → Is l a f →
    ∃ a', Is l a' (fun q => if j ≤ q ∧ f q < 0 ∧ rf l q ∈ rs l k then (n : Int) + 1 else f q) ∧ roadref4_Alive.l3 l a (n : Int) (k : Int) x33 x34 (l.length : Int) (k : Int) (l.length : Int) (j : Int) = roadref4_Alive.l2 l a' (n : Int) x33 x34 (l.length : Int) (IntKind.wrap .i64 ((k : Int) + 1)) := by
  intro d
  induction d with
  | zero =>
    intro j a f h1 h2
    refine ⟨a, h2.congr fun q hq => by rw [if_neg (by omega)], by rw [roadref4_Alive.l3_eq, if_neg (by omega)]⟩
  | succ d ih =>
    intro j a f h1 h2
    have hj : j < l.length := by omega
    rw [roadref4_Alive.l3_eq, if_pos (by omega), h2.gi hj, Option.bind_some]
    by_cases c : f j < 0
    · rw [if_pos c, gi_at hk, Option.bind_some, gi_at hj, Option.bind_some, rs_at hk, rf_at hj, slices_Contains_24.val _ (by rw [← rs_at hk]; exact hQ _ (List.getElem_mem hk)), Option.bind_some, roadref4_Alive.j1_eq]
      by_cases g : rf l j ∈ rs l k
      · rw [if_pos (decide_eq_true g), h2.gi hj, Option.bind_some, Option.bind_some, w_succ (k := n) (by omega), w_succ (k := j) (by omega), show Int.toNat (j : Int) = j from rfl]
        obtain ⟨a', k1, k2⟩ := ih (j + 1) _ _ (by omega) (h2.set hj ((n + 1 : Nat) : Int))
        refine ⟨a', k1.congr fun q hq => ?_, k2⟩
        by_cases e : q = j
        · subst e; simp only [if_true]; rw [if_neg (by omega), if_pos ⟨Nat.le_refl _, c, g⟩]; rfl
        · simp only [if_neg e]
          by_cases e2 : j ≤ q
          · simp only [show j + 1 ≤ q by omega, e2, true_and]
          · simp only [show ¬ j + 1 ≤ q by omega, e2, false_and]
      · rw [if_neg (by simpa using g), w_succ (by omega)]
        obtain ⟨a', k1, k2⟩ := ih (j + 1) a f (by omega) h2
        refine ⟨a', k1.congr fun q hq => ?_, k2⟩
        by_cases e : q = j
        · subst e; rw [if_neg (by omega), if_neg (fun h => g h.2.2)]
        · by_cases e2 : j ≤ q
          · simp only [show j + 1 ≤ q by omega, e2, true_and]
          · simp only [show ¬ j + 1 ≤ q by omega, e2, false_and]
    · rw [if_neg c, roadref4_Alive.j1_eq, if_neg (by decide), w_succ (by omega)]
      obtain ⟨a', k1, k2⟩ := ih (j + 1) a f (by omega) h2
      refine ⟨a', k1.congr fun q hq => ?_, k2⟩
      by_cases e : q = j
      · subst e; rw [if_neg (by omega), if_neg (fun h => c h.2.1)]
      · by_cases e2 : j ≤ q
        · simp only [show j + 1 ≤ q by omega, e2, true_and]
        · simp only [show ¬ j + 1 ≤ q by omega, e2, false_and]
theorem ite_iff {α : Type} {a b : Prop} [Decidable a] [Decidable b] {x y : α} (h : a ↔ b) : (if a then x else y) = if b then x else y := by
  by_cases c : a
  · rw [if_pos c, if_pos (h.1 c)]
  · rw [if_neg c, if_neg (fun k => c (h.2 k))]
open Classical in
theorem alive_l2 {l : List Kn} (hl : l.length ≤ 480) (hQ : ∀ k ∈ l, k.Refs.length ≤ 4611686018427387904) {n : Nat} (hn : n ≤ 1000) {x33 x34 : Int} : ∀ (d k : Nat) (a : List Int) (f : Nat → Int), k + d = l.length → Is l a f → (∀ q, f q ≤ n ∨ f q = (n : Int) + 1) →
    ∃ a', Is l a' (fun q => if f q < 0 ∧ (∃ i, k ≤ i ∧ i < l.length ∧ f i = n ∧ rf l q ∈ rs l i) then (n : Int) + 1 else f q) ∧ roadref4_Alive.l2 l a (n : Int) x33 x34 (l.length : Int) (k : Int) = roadref4_Alive.l1 l a' x33 (IntKind.wrap .i64 (x34 + 1)) := by
  intro d
  induction d with
  | zero =>
    intro k a f h1 h2 h3
    refine ⟨a, h2.congr fun q hq => by rw [if_neg (by rintro ⟨_, i, _, _, _⟩; omega)], by rw [roadref4_Alive.l2_eq, if_neg (by omega)]⟩
  | succ d ih =>
    intro k a f h1 h2 h3
    have hk : k < l.length := by omega
    rw [roadref4_Alive.l2_eq, if_pos (by omega), h2.gi hk, Option.bind_some]
    by_cases c : f k = n
    · rw [if_pos c]
      obtain ⟨a1, k1, k2⟩ := alive_l3 hl hQ hn hk (x33 := x33) (x34 := x34) l.length 0 a f (by omega) h2
      rw [show ((0 : Nat) : Int) = 0 from rfl] at k2
      rw [k2, w_succ (by omega)]
      obtain ⟨g1, hA, hB, k3⟩ : ∃ g1 : Nat → Int, (∀ q, f q < 0 → rf l q ∈ rs l k → g1 q = (n : Int) + 1) ∧ (∀ q, ¬ (f q < 0 ∧ rf l q ∈ rs l k) → g1 q = f q) ∧ Is l a1 g1 :=
        ⟨_, fun q u v => if_pos ⟨Nat.zero_le _, u, v⟩, fun q u => if_neg (fun h => u h.2), k1⟩
      obtain ⟨a2, m1, m2⟩ := ih (k + 1) a1 g1 (by omega) k3 (fun q => by
        by_cases u : f q < 0 ∧ rf l q ∈ rs l k
        · exact .inr (hA q u.1 u.2)
        · rw [hB q u]; exact h3 q)
      refine ⟨a2, m1.congr fun q hq => ?_, m2⟩
      by_cases u : f q < 0 ∧ rf l q ∈ rs l k
      · rw [hA q u.1 u.2, if_neg (by omega), if_pos ⟨u.1, k, Nat.le_refl _, hk, c, u.2⟩]
      · rw [hB q u]
        refine ite_iff (and_congr_right fun hq0 => ⟨?_, ?_⟩)
        · rintro ⟨i, i1, i2, i3, i4⟩
          refine ⟨i, by omega, i2, ?_, i4⟩
          by_cases v : f i < 0 ∧ rf l i ∈ rs l k
          · rw [hA i v.1 v.2] at i3; omega
          · rw [hB i v] at i3; exact i3
        · rintro ⟨i, i1, i2, i3, i4⟩
          by_cases e : i = k
          · subst e; exact absurd ⟨hq0, i4⟩ u
          · exact ⟨i, by omega, i2, by rw [hB i (fun v => by omega)]; exact i3, i4⟩
    · rw [if_neg c, w_succ (by omega)]
      obtain ⟨a2, m1, m2⟩ := ih (k + 1) a f (by omega) h2 h3
      refine ⟨a2, m1.congr fun q hq => ?_, m2⟩
      refine ite_iff (and_congr_right fun _ => ⟨?_, ?_⟩)
      · rintro ⟨i, i1, i2, i3, i4⟩; exact ⟨i, by omega, i2, i3, i4⟩
      · rintro ⟨i, i1, i2, i3, i4⟩
        by_cases e : i = k
        · subst e; exact absurd i3 c
        · exact ⟨i, by omega, i2, i3, i4⟩
open Classical in
theorem alive_l1 {l : List Kn} (hl : l.length ≤ 480) (hQ : ∀ k ∈ l, k.Refs.length ≤ 4611686018427387904) : ∀ (d n : Nat) (a : List Int), n + d = l.length → Is l a (lv l n) → ∃ a', roadref4_Alive.l1 l a (l.length : Int) (n : Int) = some a' ∧ Is l a' (lv l l.length) := by
  intro d
  induction d with
  | zero =>
    intro n a h1 h2
    have : n = l.length := by omega
    subst this
    exact ⟨a, by rw [roadref4_Alive.l1_eq, if_neg (by omega)], h2⟩
  | succ d ih =>
    intro n a h1 h2
    rw [roadref4_Alive.l1_eq, if_pos (by omega)]
    obtain ⟨a1, k1, k2⟩ := alive_l2 hl hQ (n := n) (by omega) (x33 := (l.length : Int)) (x34 := (n : Int)) l.length 0 a (lv l n) (by omega) h2 (fun q => .inl (lv_in l n q).2)
    rw [show ((0 : Nat) : Int) = 0 from rfl] at k2
    rw [k2, w_succ (by omega)]
    refine ih (n + 1) a1 (by omega) (k1.congr fun q hq => ?_)
    rw [lv_succ]; unfold nxt
    refine ite_iff (and_congr_right fun _ => ?_)
    rw [any_iff]
    exact ⟨fun ⟨i, _, i2, i3, i4⟩ => ⟨i, i2, i3, i4⟩, fun ⟨i, i2, i3, i4⟩ => ⟨i, Nat.zero_le _, i2, i3, i4⟩⟩
theorem alive_l0 {l : List Kn} (hl : l.length ≤ 480) : ∀ (d i : Nat) (a : List Int), i + d = l.length → a.length = l.length → (∀ q, q < i → a[q]? = some (lv l 0 q)) →
    ∃ a', roadref4_Alive.l0 l a l (l.length : Int) (i : Int) = roadref4_Alive.l1 l a' (l.length : Int) 0 ∧ Is l a' (lv l 0) := by
  intro d
  induction d with
  | zero =>
    intro i a h1 h2 h3
    exact ⟨a, by rw [roadref4_Alive.l0_eq, if_neg (by omega)], h2, fun q hq => h3 q (by omega)⟩
  | succ d ih =>
    intro i a h1 h2 h3
    have hi : i < l.length := by omega
    have key : ∀ b, b = rt l i → ∃ a', roadref4_Alive.j0 l (a.set i (-1)) (i : Int) l (l.length : Int) (i : Int) b = roadref4_Alive.l1 l a' (l.length : Int) 0 ∧ Is l a' (lv l 0) := by
      rintro b rfl
      rw [roadref4_Alive.j0_eq]
      by_cases c : rt l i = true
      · rw [if_pos c, gi_at (show i < (a.set i (-1)).length by rw [List.length_set]; omega), Option.bind_some, Option.bind_some, show Int.toNat (i : Int) = i from rfl, List.set_set, w_succ (by omega)]
        refine ih (i + 1) _ (by omega) (by rw [List.length_set]; exact h2) fun q hq => ?_
        rw [List.getElem?_set]
        by_cases e : i = q
        · subst e; rw [if_pos rfl, if_pos (by omega)]; unfold lv; rw [if_pos c]
        · rw [if_neg e]; exact h3 q (by omega)
      · rw [if_neg c, w_succ (by omega)]
        refine ih (i + 1) _ (by omega) (by rw [List.length_set]; exact h2) fun q hq => ?_
        rw [List.getElem?_set]
        by_cases e : i = q
        · subst e; rw [if_pos rfl, if_pos (by omega)]; unfold lv; rw [if_neg c]
        · rw [if_neg e]; exact h3 q (by omega)
    rw [roadref4_Alive.l0_eq, if_pos (by omega), gi_at hi, Option.bind_some, gi_at (show i < a.length by omega), Option.bind_some, Option.bind_some, show Int.toNat (i : Int) = i from rfl]
    have hr := rt_at hi
    by_cases c : l[i].Root = true
    · rw [if_pos c]; exact key _ (by rw [← hr, c]; rfl)
    · rw [if_neg c]; exact key _ (by rw [← hr, Bool.eq_false_iff.2 c]; rfl)
theorem alive_val {l : List Kn} (hl : l.length ≤ 480) (hQ : ∀ k ∈ l, k.Refs.length ≤ 4611686018427387904) : ∃ a, roadref4_Alive l = some a ∧ Is l a (lv l l.length) := by
  unfold roadref4_Alive
  rw [mks_of rfl (by omega) (by omega), Option.bind_some]
  obtain ⟨a, k1, k2⟩ := alive_l0 hl l.length 0 (List.replicate l.length 0) (by omega) (by simp) (fun q hq => by omega)
  rw [show ((0 : Nat) : Int) = 0 from rfl] at k1
  rw [k1]
  obtain ⟨a', m1, m2⟩ := alive_l1 hl hQ l.length 0 a (by omega) k2
  exact ⟨a', m1, m2⟩
theorem sort_same {p q : List Int} (h : p.Perm q) (hl : p.length ≤ 1000000000000000000) : slices_Sort_14 p = slices_Sort_14 q := by
  obtain ⟨r, r1, r2, r3⟩ := slices_Sort_14.val p hl
  obtain ⟨s, s1, s2, s3⟩ := slices_Sort_14.val q (by rw [← h.length_eq]; exact hl)
  rw [r1, s1, sorted_one (fun x y h k => Int.le_antisymm h k) r2 (s2.trans h.symm) r3 s3]
theorem index_val' {l : List Kn} (hl : l.length ≤ 480) : ∃ r, cycle_index l = some r ∧ ((refs l).Nodup → ∃ es', r = (some es', 0) ∧ Ix l l.length es') ∧ (¬ (refs l).Nodup → r = (none, 5)) := by
  unfold cycle_index
  rw [if_neg (by omega)]
  exact index_loop hl l.length 0 [] (by omega) ⟨fun q => by simp [pget], fun k hk => by omega⟩ (by simp)
theorem pgd_set (es : List (Int × Bool)) (n q : Int) : pgd (pset es n true) q false = if q = n then true else pgd es q false := by
  unfold pgd
  rw [pget_pset]
  split <;> rfl
inductive Cl (l : List Kn) (B : Int → Prop) : Int → Prop
  | base {x : Int} : B x → Cl l B x
  | step {k : Nat} {x : Int} : k < l.length → Cl l B (rf l k) → x ∈ rs l k → Cl l B x
theorem Cl.least {l : List Kn} {B P : Int → Prop} (hb : ∀ x, B x → P x) (hs : ∀ k x, k < l.length → P (rf l k) → x ∈ rs l k → P x) {x : Int} (h : Cl l B x) : P x := by
  induction h with
  | base h => exact hb _ h
  | step hk _ hx ih => exact hs _ _ hk ih hx
theorem Cl.mono {l : List Kn} {B B' : Int → Prop} (hb : ∀ x, B x → B' x) {x : Int} (h : Cl l B x) : Cl l B' x := h.least (fun x hx => .base (hb x hx)) fun k x hk h hx => .step hk h hx
theorem Cl.row {l : List Kn} {B : Int → Prop} {x : Int} (h : Cl l B x) (hB : ∀ y, B y → y ∈ refs l) (hx : x ∉ refs l) : ∃ k, k < l.length ∧ Cl l B (rf l k) ∧ x ∈ rs l k := by
  cases h with
  | base h => exact absurd (hB _ h) hx
  | step hk h hx => exact ⟨_, hk, h, hx⟩
def RB (l : List Kn) (x : Int) : Prop := ∃ j, j < l.length ∧ rt l j = true ∧ rf l j = x
theorem lv_last {l : List Kn} {k : Nat} (hk : k < l.length) : lv l l.length k < l.length := by
  rcases Int.lt_or_le (lv l l.length k) l.length with g | g
  · exact g
  · exfalso
    have e : lv l l.length k = l.length := by have := (lv_in l l.length k).2; omega
    have key : ∀ d, d ≤ l.length → ∃ i, i < l.length ∧ lv l (l.length - d) i = (l.length - d : Nat) := by
      intro d
      induction d with
      | zero => intro _; exact ⟨k, hk, e⟩
      | succ d ih =>
        intro hd
        obtain ⟨i, i1, i2⟩ := ih (by omega)
        rw [show l.length - d = (l.length - (d + 1)) + 1 by omega] at i2
        obtain ⟨_, j, j1, j2, _⟩ := lv_new.1 i2
        exact ⟨j, j1, j2⟩
    have h1 : ((List.range (l.length + 1)).map fun k => ((k : Nat) : Int)).Nodup := by
      refine List.Pairwise.map (R := fun i j => i ≠ j) _ (fun i j h e => h (by omega)) ?_
      exact List.nodup_range
    have h2 := h1.length_le_of_subset (l₂ := (List.range l.length).map (lv l l.length)) (fun x hx => by
      obtain ⟨m, m1, rfl⟩ := List.mem_map.1 hx
      have m1 := List.mem_range.1 m1
      obtain ⟨j, j1, j2⟩ := key (l.length - m) (by omega)
      rw [show l.length - (l.length - m) = m by omega] at j2
      exact List.mem_map.2 ⟨j, List.mem_range.2 j1, (lv_eq l.length (by omega)).2 j2⟩)
    simp at h2
    omega
theorem lv_reach {l : List Kn} : ∀ n j, j < l.length → 0 ≤ lv l n j → Cl l (RB l) (rf l j) := by
  intro n
  induction n with
  | zero =>
    intro j hj h
    unfold lv at h
    by_cases c : rt l j = true
    · exact .base ⟨j, hj, c, rfl⟩
    · rw [if_neg c] at h; omega
  | succ n ih =>
    intro j hj h
    rcases lv_pos.1 h with h | h
    · exact ih j hj h
    · obtain ⟨_, k, k1, k2, k3⟩ := lv_new.1 h
      exact .step k1 (ih k k1 (by omega)) k3
theorem alive_iff {l : List Kn} (nd : (refs l).Nodup) {j : Nat} (hj : j < l.length) : 0 ≤ lv l l.length j ↔ Cl l (RB l) (rf l j) := by
  refine ⟨lv_reach _ j hj, fun h => ?_⟩
  refine Cl.least (P := fun x => ∀ j, j < l.length → rf l j = x → 0 ≤ lv l l.length j) ?_ ?_ h j hj rfl
  · rintro x ⟨i, i1, i2, rfl⟩ j hj e
    obtain rfl : j = i := rf_inj nd hj i1 e
    have h0 : lv l 0 j = 0 := by unfold lv; rw [if_pos i2]
    rw [lv_keep (n := 0) (by omega) _ (Nat.zero_le _)]; omega
  · intro k x hk hP hx j hj e
    have h1 := hP k hk rfl
    have h2 := lv_last hk
    obtain ⟨m, hm⟩ := Int.eq_ofNat_of_zero_le h1
    have h3 : lv l m k = m := (lv_eq l.length (by omega)).1 hm
    have h4 : 0 ≤ lv l (m + 1) j := by
      by_cases c : lv l m j < 0
      · have := lv_new.2 ⟨c, k, hk, h3, e ▸ hx⟩; omega
      · exact lv_pos.2 (.inl (by omega))
    rw [lv_keep h4 _ (by omega)]; exact h4
def Same (l c : List Kn) : Prop := c.length = l.length ∧ (∀ j, rf c j = rf l j) ∧ ∀ j, rs c j = rs l j
theorem refs_eq (l : List Kn) : refs l = (List.range l.length).map (rf l) := by
  refine List.ext_getElem? fun j => ?_
  rcases Nat.lt_or_ge j l.length with g | g
  · rw [refs_get g, List.getElem?_map, List.getElem?_range g]; rfl
  · rw [List.getElem?_eq_none (by unfold refs; rw [List.length_map]; exact g), List.getElem?_eq_none (by simpa using g)]
theorem Same.refsE {l c : List Kn} (h : Same l c) : refs c = refs l := by rw [refs_eq, refs_eq, h.1, funext h.2.1]
theorem Same.cl {l c : List Kn} (h : Same l c) {B : Int → Prop} {x : Int} : Cl c B x ↔ Cl l B x :=
  ⟨fun k => k.least (fun x hx => .base hx) fun k x hk g hx => .step (by rw [← h.1]; exact hk) (by rwa [h.2.1] at g) (by rwa [h.2.2] at hx), fun k => k.least (fun x hx => .base hx) fun k x hk g hx => .step (by rw [h.1]; exact hk) (by rwa [h.2.1]) (by rwa [h.2.2])⟩
def alls (l : List Kn) : List Int := (List.range l.length).flatMap (rs l)
theorem alls_len {l : List Kn} : (alls l).length = ((List.range l.length).map fun k => (rs l k).length).sum := by
  unfold alls; rw [List.length_flatMap]
theorem mem_alls {l : List Kn} {x : Int} : x ∈ alls l ↔ ∃ k, k < l.length ∧ x ∈ rs l k := by
  unfold alls
  rw [List.mem_flatMap]
  exact ⟨fun ⟨k, a, b⟩ => ⟨k, List.mem_range.1 a, b⟩, fun ⟨k, a, b⟩ => ⟨k, List.mem_range.2 a, b⟩⟩
def pot (l : List Kn) (mk : List (Int × Bool)) : Nat := ((List.range l.length).map fun k => if pgd mk (rf l k) false = true then 0 else (rs l k).length).sum
theorem sum_change {f g : Nat → Nat} {k : Nat} : ∀ n, (∀ i, i < n → i ≠ k → f i = g i) → (k < n → ((List.range n).map f).sum + g k = ((List.range n).map g).sum + f k) ∧ (n ≤ k → ((List.range n).map f).sum = ((List.range n).map g).sum) := by
  intro n
  induction n with
  | zero => intro _; exact ⟨fun h => absurd h (Nat.not_lt_zero _), fun _ => rfl⟩
  | succ n ih =>
    intro h
    obtain ⟨i1, i2⟩ := ih fun i hi => h i (by omega)
    simp only [List.range_succ, List.map_append, List.sum_append, List.map_cons, List.map_nil, List.sum_cons, List.sum_nil, Nat.add_zero]
    constructor
    · intro hk
      rcases Nat.lt_or_ge k n with g | g
      · have := i1 g; have := h n (by omega) (by omega); omega
      · have : k = n := by omega
        subst this
        have := i2 (Nat.le_refl _); omega
    · intro hk; have := i2 (by omega); have := h n (by omega) (by omega); omega
theorem pot_ref {l : List Kn} (nd : (refs l).Nodup) {mk : List (Int × Bool)} {k : Nat} (hk : k < l.length) (hm : ¬ pgd mk (rf l k) false = true) : pot l (pset mk (rf l k) true) + (rs l k).length = pot l mk := by
  unfold pot
  have := (sum_change (f := fun i => if pgd (pset mk (rf l k) true) (rf l i) false = true then 0 else (rs l i).length) (g := fun i => if pgd mk (rf l i) false = true then 0 else (rs l i).length) (k := k) l.length (fun i hi hik => by
    show (if pgd (pset mk (rf l k) true) (rf l i) false = true then 0 else (rs l i).length) = _
    rw [pgd_set, if_neg (fun e => hik (rf_inj nd hi hk e))])).1 hk
  rw [if_neg hm, if_pos (show pgd (pset mk (rf l k) true) (rf l k) false = true by rw [pgd_set, if_pos rfl])] at this
  omega
theorem pot_for {l : List Kn} {mk : List (Int × Bool)} {x : Int} (hx : x ∉ refs l) : pot l (pset mk x true) = pot l mk := by
  unfold pot
  congr 1
  refine List.map_congr_left fun k hk => ?_
  rw [pgd_set, if_neg (fun e => hx (refs_mem.2 ⟨k, List.mem_range.1 hk, e⟩))]
theorem pot_le {l : List Kn} {mk : List (Int × Bool)} : pot l mk ≤ (alls l).length := by
  rw [alls_len]; unfold pot
  have : ∀ (r : List Nat), (r.map fun k => if pgd mk (rf l k) false = true then 0 else (rs l k).length).sum ≤ (r.map fun k => (rs l k).length).sum := by
    intro r
    induction r with
    | nil => exact Nat.le_refl _
    | cons a r ih => simp only [List.map_cons, List.sum_cons]; split <;> omega
  exact this _
structure Fo (l : List Kn) (told : List Int) (mk : List (Int × Bool)) (out : List Int) (sent : Int) : Prop where
  nd : (told ++ out).Nodup
  mem : ∀ x, x ∈ told ++ out ↔ pgd mk x false = true ∧ x ∉ refs l
  n : sent = ((told ++ out).length : Nat)
section
variable {l : List Kn} (hl : l.length ≤ 480) (nd : (refs l).Nodup) (hA : (alls l).length ≤ 1048576) {at' : List (Int × Int)} (hx : Ix l l.length at')
include hl nd hA hx
theorem ix_some (q : Int) : (pget at' q).isSome = decide (q ∈ refs l) := by
  rw [hx.1, List.take_of_length_le (by unfold refs; rw [List.length_map]; exact Nat.le_refl _)]
theorem mark_l0 {told : List Int} {C : Int → Prop} (hC : ∀ k x, k < l.length → C (rf l k) → x ∈ rs l k → C x) (hfor : ∀ x, C x → x ∉ refs l → x ∈ alls l) {tk : Int} : ∀ (p : Nat) (mk : List (Int × Bool)) (out : List Int) (sent : Int) (work : List Int), work.length + pot l mk ≤ p → p ≤ 2000000 →
    (∀ x, pgd mk x false = true → C x) → (∀ x ∈ work, C x) → (∀ k, k < l.length → pgd mk (rf l k) false = true → ∀ x ∈ rs l k, pgd mk x false = true ∨ x ∈ work) → Fo l told mk out sent →
    ∃ mk' out' sent', cycle_Node_mark.l0 l at' mk out sent tk work = some ⟨l, at', mk', out', sent', tk⟩ ∧ (∀ x, pgd mk' x false = true → C x) ∧ (∀ x, pgd mk x false = true ∨ x ∈ work → pgd mk' x false = true) ∧ (∀ k, k < l.length → pgd mk' (rf l k) false = true → ∀ x ∈ rs l k, pgd mk' x false = true) ∧ Fo l told mk' out' sent' := by
  intro p
  induction p with
  | zero =>
    intro mk out sent work h1 h2 h3 h4 h5 h6
    obtain rfl : work = [] := List.length_eq_zero_iff.1 (by omega)
    refine ⟨mk, out, sent, by rw [cycle_Node_mark.l0_eq, if_neg (by decide)], h3, fun x h => h.elim id (fun h => by cases h), fun k hk hm x hx' => (h5 k hk hm x hx').elim id (fun h => by cases h), h6⟩
  | succ p ih =>
    intro mk out sent work h1 h2 h3 h4 h5 h6
    cases work with
    | nil =>
      refine ⟨mk, out, sent, by rw [cycle_Node_mark.l0_eq, if_neg (by decide)], h3, fun x h => h.elim id (fun h => by cases h), fun k hk hm x hx' => (h5 k hk hm x hx').elim id (fun h => by cases h), h6⟩
    | cons y w =>
      rw [List.length_cons] at h1
      rw [cycle_Node_mark.l0_eq, if_pos (by rw [List.length_cons]; omega), gi_cons, Option.bind_some, sls_drop (k := 1) (x := 1) rfl (by rw [List.length_cons]; omega), Option.bind_some, List.drop_one, List.tail_cons]
      by_cases c : pgd mk y false = true
      · rw [if_pos c]
        obtain ⟨m', o', s', k1, k2, k3, k4, k5⟩ := ih mk out sent w (by omega) (by omega) h3 (fun x hx' => h4 x (List.mem_cons_of_mem _ hx')) (fun k hk hm x hx' => (h5 k hk hm x hx').elim .inl fun h => by
          rcases List.mem_cons.1 h with rfl | h
          · exact .inl c
          · exact .inr h) h6
        refine ⟨m', o', s', k1, k2, fun x h => k3 x (h.elim .inl fun h => ?_), k4, k5⟩
        rcases List.mem_cons.1 h with rfl | h
        · exact .inl c
        · exact .inr h
      · rw [if_neg c, Option.bind_some, ix_some hl nd hA hx]
        have hy : C y := h4 y (List.mem_cons_self ..)
        have hmk : ∀ x, pgd (pset mk y true) x false = true ↔ x = y ∨ pgd mk x false = true := fun x => by
          rw [pgd_set]
          by_cases e : x = y
          · rw [if_pos e]; simp [e]
          · rw [if_neg e]; simp [e]
        by_cases g : y ∈ refs l
        · obtain ⟨k, k1, rfl⟩ := refs_mem.1 g
          have hg : pgd at' (rf l k) 0 = (k : Int) := by unfold pgd; rw [hx.2 k k1 k1]; rfl
          have hp := pot_ref nd k1 c
          have hpl := pot_le (l := l) (mk := mk)
          rw [if_pos (decide_eq_true g), hg, gi_at k1, Option.bind_some, rs_at k1, ap_of (by omega), Option.bind_some]
          obtain ⟨m', o', s', m1, m2, m3, m4, m5⟩ := ih (pset mk (rf l k) true) out sent (w ++ rs l k) (by rw [List.length_append]; omega) (by omega) (fun x hx' => ((hmk x).1 hx').elim (fun e => e ▸ hy) (h3 x)) (fun x hx' => (List.mem_append.1 hx').elim (fun h => h4 x (List.mem_cons_of_mem _ h)) fun h => hC k x k1 hy h) (fun k' hk' hm x hx' => by
            rw [hmk] at hm
            rw [hmk]
            rcases hm with e | hm
            · have := rf_inj nd hk' k1 e
              subst this
              exact .inr (List.mem_append_right _ hx')
            · rcases h5 k' hk' hm x hx' with h | h
              · exact .inl (.inr h)
              · rcases List.mem_cons.1 h with e | h
                · exact .inl (.inl e)
                · exact .inr (List.mem_append_left _ h)) ⟨h6.nd, fun x => by
            rw [h6.mem, hmk]
            constructor
            · rintro ⟨a, b⟩; exact ⟨.inr a, b⟩
            · rintro ⟨a, b⟩; exact ⟨a.elim (fun e => absurd (e ▸ g) b) id, b⟩, h6.n⟩
          refine ⟨m', o', s', m1, m2, fun x h => m3 x ?_, m4, m5⟩
          rw [hmk]
          rcases h with h | h
          · exact .inl (.inr h)
          · rcases List.mem_cons.1 h with e | h
            · exact .inl (.inl e)
            · exact .inr (List.mem_append_left _ h)
        · have hlen : (told ++ out).length ≤ (alls l).length := h6.nd.length_le_of_subset fun x hx' => by
            have := (h6.mem x).1 hx'
            exact hfor x (h3 x this.1) this.2
          have hn := h6.n
          rw [if_neg (by simpa using g), ap_one (by rw [List.length_append] at hlen; omega), Option.bind_some, hn, w_succ (by omega)]
          obtain ⟨m', o', s', m1, m2, m3, m4, m5⟩ := ih (pset mk y true) (out ++ [y]) (((told ++ out).length + 1 : Nat) : Int) w (by rw [pot_for g]; omega) (by omega) (fun x hx' => ((hmk x).1 hx').elim (fun e => e ▸ hy) (h3 x)) (fun x hx' => h4 x (List.mem_cons_of_mem _ hx')) (fun k' hk' hm x hx' => by
            rw [hmk] at hm
            rw [hmk]
            rcases hm with e | hm
            · exact absurd (refs_mem.2 ⟨k', hk', e⟩) g
            · rcases h5 k' hk' hm x hx' with h | h
              · exact .inl (.inr h)
              · rcases List.mem_cons.1 h with e | h
                · exact .inl (.inl e)
                · exact .inr h) ⟨by
            rw [← List.append_assoc, List.nodup_append]
            exact ⟨h6.nd, by simp, fun a ha b hb => by rw [List.mem_singleton.1 hb]; exact fun e => c ((h6.mem y).1 (e ▸ ha)).1⟩, fun x => by
            rw [← List.append_assoc, List.mem_append, h6.mem, hmk, List.mem_singleton]
            constructor
            · rintro (⟨a, b⟩ | rfl)
              · exact ⟨.inr a, b⟩
              · exact ⟨.inl rfl, g⟩
            · rintro ⟨a | a, b⟩
              · exact .inr a
              · exact .inl ⟨a, b⟩, by rw [← List.append_assoc, List.length_append (bs := [y])]; rfl⟩
          refine ⟨m', o', s', m1, m2, fun x h => m3 x ?_, m4, m5⟩
          rw [hmk]
          rcases h with h | h
          · exact .inl (.inr h)
          · rcases List.mem_cons.1 h with e | h
            · exact .inl (.inl e)
            · exact .inr h
end
structure Nd (l : List Kn) (B : Int → Prop) (told : List Int) (n : T_cycle_Node) : Prop where
  l_ : n.l_ = l
  ix : Ix l l.length n.at_
  mkd : ∀ x, pgd n.marked_ x false = true ↔ Cl l B x
  fo : Fo l told n.marked_ n.out_ n.sent_
theorem Nd.congr {l : List Kn} {B B' : Int → Prop} {told : List Int} {n : T_cycle_Node} (h : Nd l B told n) (e : ∀ x, B x ↔ B' x) : Nd l B' told n :=
  ⟨h.l_, h.ix, fun x => by rw [h.mkd]; exact ⟨Cl.mono fun x => (e x).1, Cl.mono fun x => (e x).2⟩, h.fo⟩
section
variable {l : List Kn} (hl : l.length ≤ 480) (nd : (refs l).Nodup) (hA : (alls l).length ≤ 1048576)
include hl nd hA
theorem mark_val {B : Int → Prop} {told : List Int} {n : T_cycle_Node} (h : Nd l B told n) (hB : ∀ x, B x → x ∈ refs l) {r : Int} (hr : r ∈ refs l) : ∃ n', cycle_Node_mark n r = some n' ∧ Nd l (fun x => B x ∨ x = r) told n' ∧ n'.took_ = n.took_ := by
  obtain ⟨nl, na, nm, no, ns, nt⟩ := n
  obtain ⟨h1, h2, h3, h4⟩ := h
  obtain rfl : nl = l := h1
  have hpl := pot_le (l := nl) (mk := nm)
  obtain ⟨m', o', s', k1, k2, k3, k4, k5⟩ := mark_l0 hl nd hA h2 (told := told) (C := Cl nl (fun x => B x ∨ x = r)) (tk := nt) (fun k x hk hc hx => .step hk hc hx) (fun x hc hx => by
    obtain ⟨k, a, _, b⟩ := hc.row (fun y hy => hy.elim (hB y) fun e => e ▸ hr) hx
    exact mem_alls.2 ⟨k, a, b⟩) (1 + pot nl nm) nm no ns [r] (by simp) (by omega) (fun x hx => ((h3 x).1 hx).mono fun y hy => .inl hy) (fun x hx => .base (.inr (List.mem_singleton.1 hx))) (fun k hk hm x hx => .inl ((h3 x).2 (.step hk ((h3 _).1 hm) hx))) h4
  refine ⟨_, k1, ⟨rfl, h2, fun x => ⟨k2 x, fun hc => ?_⟩, k5⟩, rfl⟩
  refine hc.least (fun y hy => k3 y ?_) fun k x hk hm hx => k4 k hk hm x hx
  rcases hy with hy | hy
  · exact .inl ((h3 y).2 (.base hy))
  · exact .inr (List.mem_singleton.2 hy)
omit nd hA in
theorem new_l0 (hb : ∀ k ∈ l, k.Refs.length ≤ 1048576) {at' : List (Int × Int)} : ∀ (d i : Nat), i + d = l.length → cycle_New.l0 l (l.take i) at' [] [] 0 0 l (l.length : Int) (i : Int) = cycle_New.l1 l at' [] [] 0 0 l (l.length : Int) 0 := by
  intro d
  induction d with
  | zero =>
    intro i h1
    have : i = l.length := by omega
    subst this
    rw [cycle_New.l0_eq, if_neg (by omega), List.take_length]
  | succ d ih =>
    intro i h1
    have hi : i < l.length := by omega
    have hr := hb _ (List.getElem_mem hi)
    rw [cycle_New.l0_eq, if_pos (by omega), gi_at hi, Option.bind_some, slices_Clone_80.val _ (by omega), Option.bind_some, show T_api_Know.mk l[i].Ref l[i].Awake l[i].Root l[i].Refs = l[i] from rfl, ap_one (by rw [List.length_take]; omega), Option.bind_some, w_succ (by omega), ← List.take_succ_eq_append_getElem hi]
    exact ih (i + 1) (by omega)
theorem new_l1 : ∀ (d i : Nat) (n : T_cycle_Node), i + d = l.length → Nd l (fun x => ∃ j, j < i ∧ j < l.length ∧ rt l j = true ∧ rf l j = x) [] n → n.took_ = 0 →
    ∃ n', cycle_New.l1 n.l_ n.at_ n.marked_ n.out_ n.sent_ n.took_ l (l.length : Int) (i : Int) = some (some n', 0) ∧ Nd l (RB l) [] n' ∧ n'.took_ = 0 := by
  intro d
  induction d with
  | zero =>
    intro i n h1 h2 h3
    have : i = l.length := by omega
    subst this
    refine ⟨n, by rw [cycle_New.l1_eq, if_neg (by omega)], h2.congr fun x => ⟨fun ⟨j, _, b⟩ => ⟨j, b⟩, fun ⟨j, b⟩ => ⟨j, b.1, b⟩⟩, h3⟩
  | succ d ih =>
    intro i n h1 h2 h3
    have hi : i < l.length := by omega
    have key : ∀ b, b = rt l i → ∃ n', cycle_New.j0 n.l_ n.at_ n.marked_ n.out_ n.sent_ n.took_ l[i] l (l.length : Int) (i : Int) b = some (some n', 0) ∧ Nd l (RB l) [] n' ∧ n'.took_ = 0 := by
      rintro b rfl
      rw [cycle_New.j0_eq]
      by_cases c : rt l i = true
      · obtain ⟨n1, k1, k2, k3⟩ := mark_val hl nd hA h2 (fun x ⟨j, a, b, _, e⟩ => refs_mem.2 ⟨j, b, e⟩) (refs_mem.2 ⟨i, hi, rfl⟩)
        rw [if_pos c, rf_at hi, show (T_cycle_Node.mk n.l_ n.at_ n.marked_ n.out_ n.sent_ n.took_) = n from rfl, k1, Option.bind_some, w_succ (by omega)]
        refine ih (i + 1) n1 (by omega) (k2.congr fun x => ?_) (by rw [k3, h3])
        constructor
        · rintro (⟨j, a, b, q⟩ | rfl)
          · exact ⟨j, by omega, b, q⟩
          · exact ⟨i, by omega, hi, c, rfl⟩
        · rintro ⟨j, a, b, q, e⟩
          by_cases f : j = i
          · subst f; exact .inr e.symm
          · exact .inl ⟨j, by omega, b, q, e⟩
      · rw [if_neg c, w_succ (by omega)]
        refine ih (i + 1) n (by omega) (h2.congr fun x => ?_) h3
        constructor
        · rintro ⟨j, a, b, q⟩; exact ⟨j, by omega, b, q⟩
        · rintro ⟨j, a, b, q, e⟩
          by_cases f : j = i
          · subst f; exact absurd q c
          · exact ⟨j, by omega, b, q, e⟩
    rw [cycle_New.l1_eq, if_pos (by omega), gi_at hi, Option.bind_some]
    have hr := rt_at hi
    by_cases c : l[i].Root = true
    · rw [if_pos c]; exact key _ (by rw [← hr, c]; rfl)
    · rw [if_neg c]; exact key _ (by rw [← hr, Bool.eq_false_iff.2 c]; rfl)
theorem new_good (hb : ∀ k ∈ l, k.Refs.length ≤ 1048576) : ∃ n, cycle_New l = some (some n, 0) ∧ Nd l (RB l) [] n ∧ n.took_ = 0 := by
  obtain ⟨r, r1, r2, _⟩ := index_val' hl
  obtain ⟨es, rfl, hx⟩ := r2 nd
  unfold cycle_New
  rw [r1, Option.bind_some]
  show ∃ n, (if (0 : Int) = 0 then cycle_New.l0 l (l.take 0) es [] [] 0 0 l (l.length : Int) ((0 : Nat) : Int) else some (none, 0)) = some (some n, 0) ∧ _
  rw [if_pos rfl, new_l0 hl hb l.length 0 (by omega)]
  exact new_l1 hl nd hA l.length 0 (T_cycle_Node.mk l es [] [] 0 0) (by omega) ⟨rfl, hx, fun x => ⟨fun h => absurd h (by simp [pgd, pget]), fun h => absurd (h.least (P := fun _ => False) (fun x ⟨j, a, _⟩ => absurd a (Nat.not_lt_zero _)) fun _ _ _ h _ => h) id⟩, by simp, fun x => by simp [pgd, pget], rfl⟩ rfl
end
theorem new_bad {l : List Kn} {c : Int} (h : cycle_index l = some (none, c)) (hc : c ≠ 0) : cycle_New l = some (none, c) := by
  unfold cycle_New
  rw [h, Option.bind_some]
  show (if c = 0 then (none : Option _) else some (none, c)) = _
  rw [if_neg hc]
theorem at_some (c : List Int) (k : Nat) : ∃ v, roadlaw4_at c (k : Int) = some v := by
  unfold roadlaw4_at
  by_cases h : k < c.length
  · rw [if_pos (by omega), gi_at h]; exact ⟨_, rfl⟩
  · rw [if_neg (by omega)]; exact ⟨_, rfl⟩
theorem knows_val {l : List Kn} (hl : l.length ≤ 480) : roadref4_Knows l = some (if (refs l).Nodup then 0 else 5) := by
  unfold roadref4_Knows; rw [if_neg (by omega)]; exact knows_loop hl l.length 0 (by omega) (by simp)
def setRoot (l : List Kn) (i : Nat) (h : i < l.length) : List Kn := l.set i { l[i] with Root := true }
theorem setRoot_same {l : List Kn} {i : Nat} (h : i < l.length) : Same l (setRoot l i h) := by
  have hg : ∀ j, (setRoot l i h)[j]? = if i = j then some { l[i] with Root := true } else l[j]? := fun j => by
    unfold setRoot
    rw [List.getElem?_set]
    by_cases e : i = j
    · rw [if_pos e, if_pos e, if_pos h]
    · rw [if_neg e, if_neg e]
  refine ⟨List.length_set .., fun j => ?_, fun j => ?_⟩
  · unfold rf; rw [hg]
    by_cases e : i = j
    · subst e; rw [if_pos rfl, List.getElem?_eq_getElem h]
    · rw [if_neg e]
  · unfold rs; rw [hg]
    by_cases e : i = j
    · subst e; rw [if_pos rfl, List.getElem?_eq_getElem h]
    · rw [if_neg e]
theorem setRoot_rt {l : List Kn} {i : Nat} (h : i < l.length) {j : Nat} (hj : j < l.length) : rt (setRoot l i h) j = true ↔ rt l j = true ∨ j = i := by
  unfold rt setRoot
  rw [List.getElem?_set]
  by_cases e : i = j
  · subst e; rw [if_pos rfl, if_pos h]; simp
  · rw [if_neg e]
    constructor
    · exact .inl
    · rintro (h | h)
      · exact h
      · exact absurd h.symm e
theorem Same.trans {a b c : List Kn} (h : Same a b) (k : Same b c) : Same a c := ⟨by rw [k.1, h.1], fun j => by rw [k.2.1, h.2.1], fun j => by rw [k.2.2, h.2.2]⟩
theorem setRoot_RB {l : List Kn} {i : Nat} (h : i < l.length) (x : Int) : RB (setRoot l i h) x ↔ RB l x ∨ x = rf l i := by
  have hs := setRoot_same h
  constructor
  · rintro ⟨j, j1, j2, j3⟩
    rw [hs.1] at j1
    rw [hs.2.1] at j3
    rcases (setRoot_rt h j1).1 j2 with q | rfl
    · exact .inl ⟨j, j1, q, j3⟩
    · exact .inr j3.symm
  · rintro (⟨j, j1, j2, j3⟩ | rfl)
    · exact ⟨j, by rw [hs.1]; exact j1, (setRoot_rt h j1).2 (.inl j2), by rw [hs.2.1]; exact j3⟩
    · exact ⟨i, by rw [hs.1]; exact h, (setRoot_rt h h).2 (.inr rfl), by rw [hs.2.1]⟩
theorem Same.RB_refs {l c : List Kn} (h : Same l c) {x : Int} (hx : RB c x) : x ∈ refs l := by
  obtain ⟨j, j1, _, j3⟩ := hx
  rw [h.2.1] at j3
  exact refs_mem.2 ⟨j, by rw [← h.1]; exact j1, j3⟩
structure Due (l : List Kn) (P : Int → Prop) (due : List Int) : Prop where
  nd : due.Nodup
  mem : ∀ x, x ∈ due ↔ P x ∧ x ∉ refs l
theorem Due.len {l : List Kn} {P : Int → Prop} {due : List Int} (h : Due l P due) (hP : ∀ x, P x → x ∈ alls l) : due.length ≤ (alls l).length := h.nd.length_le_of_subset fun x hx => hP x ((h.mem x).1 hx).1
theorem Due.congr {l : List Kn} {P P' : Int → Prop} {due : List Int} (h : Due l P due) (e : ∀ x, x ∉ refs l → (P x ↔ P' x)) : Due l P' due := ⟨h.nd, fun x => by
  rw [h.mem]; exact ⟨fun ⟨a, b⟩ => ⟨(e x b).1 a, b⟩, fun ⟨a, b⟩ => ⟨(e x b).2 a, b⟩⟩⟩
section
variable {l : List Kn} (hl : l.length ≤ 480) (nd : (refs l).Nodup) (hA : (alls l).length ≤ 1048576) (hb : ∀ k ∈ l, k.Refs.length ≤ 1048576)
include hl nd hA hb
theorem row_len (k : Nat) : (rs l k).length ≤ 1048576 := by
  unfold rs
  cases h : l[k]? with
  | none => exact Nat.zero_le _
  | some y => exact hb y (List.mem_of_getElem? h)
theorem law_l3 {c : List Kn} (hs : Same l c) {n : T_cycle_Node} {x10 x76 x77 : Int} {told cc a16 a17 : List Int} {pl : List (List Int)} {k : Nat} (hk : k < l.length) {P : Int → Prop} (hP : ∀ x, P x → x ∈ alls l) : ∀ (d p : Nat) (due : List Int), p + d = (rs l k).length → Due l (fun x => P x ∨ x ∈ (rs l k).take p) due →
    ∃ due', Due l (fun x => P x ∨ x ∈ rs l k) due' ∧ roadlaw4_CyclePlays.l3 c n.l_ n.at_ n.marked_ n.out_ n.sent_ n.took_ x10 told cc a16 a17 due pl x76 x77 (l.length : Int) (k : Int) (rs l k) ((rs l k).length : Int) (p : Int) = roadlaw4_CyclePlays.l1 c n.l_ n.at_ n.marked_ n.out_ n.sent_ n.took_ x10 told cc a16 a17 due' pl x76 x77 (l.length : Int) (IntKind.wrap .i64 ((k : Int) + 1)) := by
  intro d
  induction d with
  | zero =>
    intro p due h1 h2
    refine ⟨due, h2.congr fun x _ => by rw [List.take_of_length_le (by omega)], by rw [roadlaw4_CyclePlays.l3_eq, if_neg (by omega)]⟩
  | succ d ih =>
    intro p due h1 h2
    have hp : p < (rs l k).length := by omega
    have hrl := row_len hl nd hA hb k
    have hdl : due.length ≤ (alls l).length := h2.len fun x hx => hx.elim (hP x) fun h => mem_alls.2 ⟨k, hk, List.mem_of_mem_take h⟩
    have ht : (rs l k).take (p + 1) = (rs l k).take p ++ [(rs l k)[p]] := List.take_succ_eq_append_getElem hp
    have hc := slices_ContainsFunc_25.val (l := c) (p := fun z43 => roadlaw4_CyclePlays_2 z43 (rs l k)[p]) (fun z => z.Ref == (rs l k)[p]) (fun z _ => rfl) (by rw [hs.1]; omega)
    have e : (c.any fun z => z.Ref == (rs l k)[p]) = decide ((rs l k)[p] ∈ refs l) := by
      rw [← hs.refsE, Bool.eq_iff_iff, List.any_eq_true, decide_eq_true_eq]
      unfold refs
      rw [List.mem_map]
      simp only [beq_iff_eq]
    rw [e] at hc
    have skip : (rs l k)[p] ∈ due ∨ (rs l k)[p] ∈ refs l → ∃ due', Due l (fun x => P x ∨ x ∈ rs l k) due' ∧ roadlaw4_CyclePlays.j5 c n.l_ n.at_ n.marked_ n.out_ n.sent_ n.took_ x10 told cc a16 a17 due (rs l k)[p] pl x76 x77 (l.length : Int) (k : Int) (rs l k) ((rs l k).length : Int) (p : Int) false = roadlaw4_CyclePlays.l1 c n.l_ n.at_ n.marked_ n.out_ n.sent_ n.took_ x10 told cc a16 a17 due' pl x76 x77 (l.length : Int) (IntKind.wrap .i64 ((k : Int) + 1)) := by
      intro hn
      rw [roadlaw4_CyclePlays.j5_eq, if_neg (by decide), w_succ (by omega)]
      refine ih (p + 1) due (by omega) (h2.congr fun x hx => ?_)
      rw [ht, List.mem_append, List.mem_singleton]
      constructor
      · rintro (a | a)
        · exact .inl a
        · exact .inr (.inl a)
      · rintro (a | a | rfl)
        · exact .inl a
        · exact .inr a
        · rcases hn with hn | hn
          · exact ((h2.mem _).1 hn).1
          · exact absurd hn hx
    rw [roadlaw4_CyclePlays.l3_eq, if_pos (by omega), gi_at hp, Option.bind_some, slices_Contains_24.val _ (by omega), Option.bind_some]
    by_cases g : (rs l k)[p] ∈ due
    · rw [if_pos (decide_eq_true g)]; exact skip (.inl g)
    · rw [if_neg (by simpa using g), hc, Option.bind_some]
      by_cases q : (rs l k)[p] ∈ refs l
      · rw [show (!decide ((rs l k)[p] ∈ refs l)) = false by simp [q]]; exact skip (.inr q)
      · rw [show (!decide ((rs l k)[p] ∈ refs l)) = true by simp [q], roadlaw4_CyclePlays.j5_eq, if_pos rfl, ap_one (by omega), Option.bind_some, w_succ (by omega)]
        refine ih (p + 1) _ (by omega) ⟨by
          rw [List.nodup_append]
          exact ⟨h2.nd, by simp, fun a ha b hb => by rw [List.mem_singleton.1 hb]; exact fun e => g (e ▸ ha)⟩, fun x => ?_⟩
        rw [List.mem_append, h2.mem, ht, List.mem_append, List.mem_singleton]
        constructor
        · rintro (⟨a | a, b⟩ | rfl)
          · exact ⟨.inl a, b⟩
          · exact ⟨.inr (.inl a), b⟩
          · exact ⟨.inr (.inr rfl), q⟩
        · rintro ⟨a | a | a, b⟩
          · exact .inl ⟨.inl a, b⟩
          · exact .inl ⟨.inr a, b⟩
          · exact .inr a
theorem law_l1 {c : List Kn} (hs : Same l c) {n : T_cycle_Node} {x10 x76 x77 : Int} {told cc a16 : List Int} {f : Nat → Int} (ha : Is l a16 f) {pl : List (List Int)} : ∀ (d i : Nat) (due : List Int), i + d = l.length → Due l (fun x => ∃ j, j < i ∧ j < l.length ∧ ¬ f j < 0 ∧ x ∈ rs l j) due →
    ∃ due', Due l (fun x => ∃ j, j < l.length ∧ ¬ f j < 0 ∧ x ∈ rs l j) due' ∧ roadlaw4_CyclePlays.l1 c n.l_ n.at_ n.marked_ n.out_ n.sent_ n.took_ x10 told cc a16 (dead l f i) due pl x76 x77 (l.length : Int) (i : Int) = roadlaw4_CyclePlays.l1 c n.l_ n.at_ n.marked_ n.out_ n.sent_ n.took_ x10 told cc a16 (dead l f l.length) due' pl x76 x77 (l.length : Int) (l.length : Int) := by
  intro d
  induction d with
  | zero =>
    intro i due h1 h2
    have : i = l.length := by omega
    subst this
    exact ⟨due, h2.congr fun x _ => ⟨fun ⟨j, _, a⟩ => ⟨j, a⟩, fun ⟨j, a⟩ => ⟨j, a.1, a⟩⟩, rfl⟩
  | succ d ih =>
    intro i due h1 h2
    have hi : i < l.length := by omega
    have hic : i < c.length := by rw [hs.1]; exact hi
    rw [roadlaw4_CyclePlays.l1_eq, if_pos (by omega), gi_at hic, Option.bind_some, ha.gi hi, Option.bind_some]
    by_cases g : f i < 0
    · rw [if_pos g, rf_at hic, hs.2.1, ap_one (by have := dead_len (l := l) (f := f) (n := i); omega), Option.bind_some, w_succ (by omega), show dead l f i ++ [rf l i] = dead l f (i + 1) by rw [dead_succ, if_pos g]]
      refine ih (i + 1) due (by omega) (h2.congr fun x _ => ⟨fun ⟨j, a, b⟩ => ⟨j, by omega, b⟩, fun ⟨j, a, b⟩ => ⟨j, ?_, b⟩⟩)
      by_cases e : j = i
      · subst e; exact absurd g b.2.1
      · omega
    · rw [if_neg g, rs_at hic, hs.2.2]
      obtain ⟨due1, k1, k2⟩ := law_l3 hl nd hA hb hs (n := n) (x10 := x10) (x76 := x76) (x77 := x77) (told := told) (cc := cc) (a16 := a16) (a17 := dead l f i) (pl := pl) hi (P := fun x => ∃ j, j < i ∧ j < l.length ∧ ¬ f j < 0 ∧ x ∈ rs l j) (fun x ⟨j, _, a, _, b⟩ => mem_alls.2 ⟨j, a, b⟩) (rs l i).length 0 due (by omega) (h2.congr fun x _ => by simp)
      rw [show ((0 : Nat) : Int) = 0 from rfl] at k2
      rw [k2, w_succ (by omega), show dead l f i = dead l f (i + 1) by rw [dead_succ, if_neg g]]
      refine ih (i + 1) due1 (by omega) (k1.congr fun x _ => ?_)
      constructor
      · rintro (⟨j, a, b⟩ | a)
        · exact ⟨j, by omega, b⟩
        · exact ⟨i, by omega, hi, g, a⟩
      · rintro ⟨j, a, b⟩
        by_cases e : j = i
        · subst e; exact .inr b.2.2
        · exact .inl ⟨j, by omega, b⟩
omit hl nd hA hb in
theorem law_l2 {c : List Kn} {n : T_cycle_Node} {x10 x76 x77 : Int} {told left due : List Int} (hd : due.length ≤ 1048576) (ht : told.length ≤ 1048576) {pl : List (List Int)} : ∀ (d i : Nat), i + d = due.length →
    roadlaw4_CyclePlays.l2 c n.l_ n.at_ n.marked_ n.out_ n.sent_ n.took_ x10 told left due ((due.take i).filter fun x => decide (x ∉ told)) pl x76 x77 (due.length : Int) (i : Int) = roadlaw4_CyclePlays.l2 c n.l_ n.at_ n.marked_ n.out_ n.sent_ n.took_ x10 told left due (due.filter fun x => decide (x ∉ told)) pl x76 x77 (due.length : Int) (due.length : Int) := by
  intro d
  induction d with
  | zero =>
    intro i h1
    have : i = due.length := by omega
    subst this
    rw [List.take_length]
  | succ d ih =>
    intro i h1
    have hi : i < due.length := by omega
    have hf : ((due.take i).filter fun x => decide (x ∉ told)).length ≤ due.length := Nat.le_trans (List.length_filter_le _ _) (by rw [List.length_take]; omega)
    rw [← ih (i + 1) (by omega), roadlaw4_CyclePlays.l2_eq, if_pos (by omega), gi_at hi, Option.bind_some, slices_Contains_24.val _ (by omega), Option.bind_some, List.take_succ_eq_append_getElem hi, List.filter_append]
    by_cases g : due[i] ∈ told
    · rw [if_pos (decide_eq_true g), w_succ (by omega)]; simp [g]
    · rw [if_neg (by simpa using g), ap_one (by omega), Option.bind_some, w_succ (by omega)]; simp [g]
omit hA hb nd in
theorem left_val {n : T_cycle_Node} (hn : n.l_ = l) {f : Nat → Int} (he : ∀ j, j < l.length → (pgd n.marked_ (rf l j) false = true ↔ ¬ f j < 0)) : cycle_Node_Left n = (slices_Sort_14 (dead l f l.length)).bind fun y => some y := by
  have key : ∀ (d i : Nat), i + d = l.length → cycle_Node_Left.l0 n (dead l f i) l (l.length : Int) (i : Int) = (slices_Sort_14 (dead l f l.length)).bind fun y => some y := by
    intro d
    induction d with
    | zero =>
      intro i h1
      have : i = l.length := by omega
      subst this
      rw [cycle_Node_Left.l0_eq, if_neg (by omega)]
    | succ d ih =>
      intro i h1
      have hi : i < l.length := by omega
      rw [cycle_Node_Left.l0_eq, if_pos (by omega), gi_at hi, Option.bind_some, rf_at hi]
      by_cases c : f i < 0
      · rw [if_neg (fun h => (he i hi).1 h c), ap_one (by have := dead_len (l := l) (f := f) (n := i); omega), Option.bind_some, w_succ (by omega), ← ih (i + 1) (by omega), dead_succ, if_pos c]
      · rw [if_pos ((he i hi).2 c), w_succ (by omega), ← ih (i + 1) (by omega), dead_succ, if_neg c]
  unfold cycle_Node_Left
  rw [hn]
  exact key l.length 0 (by omega)
theorem law_j3 {c : List Kn} (hs : Same l c) {n : T_cycle_Node} {told : List Int} (hn : Nd l (RB c) told n) {due y : List Int} (hd : Due l (fun x => ∃ j, j < l.length ∧ ¬ lv c l.length j < 0 ∧ x ∈ rs l j) due) (hy : slices_Sort_14 (dead l (lv c l.length) l.length) = some y) (hyl : y.length ≤ 480) {x76 x77 : Int} {pl : List (List Int)}
    (next : roadlaw4_CyclePlays.l0 c n.l_ n.at_ n.marked_ n.out_ n.sent_ n.took_ n.took_ told pl x76 (IntKind.wrap .i64 (x77 + 1)) = some true) :
    roadlaw4_CyclePlays.j3 c n.l_ n.at_ n.marked_ n.out_ n.sent_ n.took_ n.took_ told y due pl x76 x77 = some true := by
  have hal : ∀ j, j < l.length → (¬ lv c l.length j < 0 ↔ Cl l (RB c) (rf l j)) := fun j hj => by
    have := alive_iff (l := c) (by rw [hs.refsE]; exact nd) (j := j) (by rw [hs.1]; exact hj)
    rw [hs.cl, hs.2.1, hs.1] at this
    rw [← this]; omega
  have hperm : (told ++ n.out_).Perm due := (List.perm_ext_iff_of_nodup hn.fo.nd hd.nd).2 fun x => by
    rw [hn.fo.mem, hd.mem, hn.mkd]
    constructor
    · rintro ⟨a, b⟩
      obtain ⟨k, k1, k2, k3⟩ := a.row (fun y hy => hs.RB_refs hy) b
      exact ⟨⟨k, k1, (hal k k1).2 k2, k3⟩, b⟩
    · rintro ⟨⟨k, k1, k2, k3⟩, b⟩
      exact ⟨.step k1 ((hal k k1).1 k2) k3, b⟩
  have hleft := left_val hl hn.l_ (f := lv c l.length) (fun j hj => by rw [hn.mkd, hal j hj])
  rw [hy, Option.bind_some] at hleft
  obtain ⟨b, b1, b2⟩ := slices_Equal_10.val y y (by omega)
  obtain rfl : b = true := b2.2 rfl
  rw [roadlaw4_CyclePlays.j3_eq]
  show (if n.sent_ = (due.length : Int) then _ else _) = _
  rw [if_pos (by rw [hn.fo.n, hperm.length_eq])]
  show (if n.took_ = n.took_ then (Option.bind (cycle_Node_Left n) _) else _) = _
  rw [if_pos rfl, hleft, Option.bind_some, b1, Option.bind_some, if_pos rfl]
  exact next
theorem law_j2 {c : List Kn} (hs : Same l c) {n : T_cycle_Node} {told : List Int} (hn : Nd l (RB c) told n) (cc : List Int) {x76 x77 : Int} {pl : List (List Int)}
    (next : ∀ told' n', Nd l (RB c) told' n' → roadlaw4_CyclePlays.l0 c n'.l_ n'.at_ n'.marked_ n'.out_ n'.sent_ n'.took_ n'.took_ told' pl x76 (IntKind.wrap .i64 (x77 + 1)) = some true) :
    roadlaw4_CyclePlays.j2 c n.l_ n.at_ n.marked_ n.out_ n.sent_ n.took_ n.took_ told cc pl x76 x77 = some true := by
  have hcl : c.length ≤ 480 := by rw [hs.1]; exact hl
  have hcb : ∀ k ∈ c, k.Refs.length ≤ 1048576 := fun k hk => by
    obtain ⟨j, hj, rfl⟩ := List.mem_iff_getElem.1 hk
    rw [rs_at hj, hs.2.2]; exact row_len hl nd hA hb j
  obtain ⟨a, a1, a2⟩ := alive_val hcl (fun k hk => by have := hcb k hk; omega)
  have a3 : Is l a (lv c l.length) := ⟨by rw [a2.1, hs.1], fun q hq => by rw [a2.2 q (by rw [hs.1]; exact hq), hs.1]⟩
  obtain ⟨due, d1, d2⟩ := law_l1 hl nd hA hb hs (n := n) (x10 := n.took_) (x76 := x76) (x77 := x77) (told := told) (cc := cc) a3 (pl := pl) l.length 0 [] (by omega) ⟨by simp, fun x => ⟨fun h => absurd h (by simp), fun ⟨⟨j, a, _⟩, _⟩ => absurd a (Nat.not_lt_zero _)⟩⟩
  obtain ⟨y, y1, y2, _⟩ := slices_Sort_14.val (dead l (lv c l.length) l.length) (by have := dead_len (l := l) (f := lv c l.length) (n := l.length); omega)
  have hyl : y.length ≤ 480 := by rw [y2.length_eq]; have := dead_len (l := l) (f := lv c l.length) (n := l.length); omega
  have hdl : due.length ≤ (alls l).length := d1.len fun x ⟨j, a, _, b⟩ => mem_alls.2 ⟨j, a, b⟩
  obtain ⟨v, v1⟩ := at_some cc 0
  rw [show ((0 : Nat) : Int) = 0 from rfl] at v1 d2
  rw [roadlaw4_CyclePlays.j2_eq, a1, Option.bind_some, hs.1]
  rw [show dead l (lv c l.length) 0 = [] from rfl] at d2
  rw [d2, roadlaw4_CyclePlays.l1_eq, if_neg (by omega), y1, Option.bind_some, v1, Option.bind_some]
  by_cases e : v = 2
  · rw [if_pos e]
    have htl : told.length ≤ 1048576 := by
      have : (told ++ n.out_).length ≤ (alls l).length := hn.fo.nd.length_le_of_subset fun x hx => by
        obtain ⟨p, q⟩ := (hn.fo.mem x).1 hx
        obtain ⟨k, k1, k2, k3⟩ := ((hn.mkd x).1 p).row (fun y hy => hs.RB_refs hy) q
        exact mem_alls.2 ⟨k, k1, k3⟩
      rw [List.length_append] at this; omega
    have m1 := law_l2 (c := c) (n := n) (x10 := n.took_) (x76 := x76) (x77 := x77) (told := told) (left := y) (due := due) (by omega) htl (pl := pl) due.length 0 (by omega)
    rw [show ((due.take 0).filter fun x => decide (x ∉ told)) = [] from rfl, show ((0 : Nat) : Int) = 0 from rfl] at m1
    have hal : ∀ j, j < l.length → (¬ lv c l.length j < 0 ↔ Cl l (RB c) (rf l j)) := fun j hj => by
      have := alive_iff (l := c) (by rw [hs.refsE]; exact nd) (j := j) (by rw [hs.1]; exact hj)
      rw [hs.cl, hs.2.1, hs.1] at this
      rw [← this]; omega
    have hnd := hn.fo.nd
    rw [List.nodup_append] at hnd
    have hperm : n.out_.Perm (due.filter fun x => decide (x ∉ told)) := (List.perm_ext_iff_of_nodup hnd.2.1 (d1.nd.filter _)).2 fun x => by
      rw [List.mem_filter, decide_eq_true_eq, d1.mem]
      constructor
      · intro hx
        obtain ⟨p, q⟩ := (hn.fo.mem x).1 (List.mem_append_right _ hx)
        obtain ⟨k, k1, k2, k3⟩ := ((hn.mkd x).1 p).row (fun y hy => hs.RB_refs hy) q
        exact ⟨⟨⟨k, k1, (hal k k1).2 k2, k3⟩, q⟩, fun h => hnd.2.2 x h x hx rfl⟩
      · rintro ⟨⟨⟨k, k1, k2, k3⟩, q⟩, h⟩
        have := (hn.fo.mem x).2 ⟨(hn.mkd x).2 (.step k1 ((hal k k1).1 k2) k3), q⟩
        exact (List.mem_append.1 this).elim (fun g => absurd g h) id
    have hml : (due.filter fun x => decide (x ∉ told)).length ≤ due.length := List.length_filter_le _ _
    obtain ⟨z, z1, z2, _⟩ := slices_Sort_14.val (due.filter fun x => decide (x ∉ told)) (by omega)
    have zo : slices_Sort_14 n.out_ = some z := by rw [sort_same hperm (by rw [hperm.length_eq]; omega), z1]
    have zl := z2.length_eq
    obtain ⟨b, b1, b2⟩ := slices_Equal_10.val z z (by omega)
    obtain rfl : b = true := b2.2 rfl
    rw [m1, roadlaw4_CyclePlays.l2_eq, if_neg (by omega), z1, Option.bind_some, ap_of (by omega), Option.bind_some]
    have ho : cycle_Node_Out (T_cycle_Node.mk n.l_ n.at_ n.marked_ n.out_ n.sent_ n.took_) = some (z, (T_cycle_Node.mk n.l_ n.at_ n.marked_ [] n.sent_ n.took_)) := by
      unfold cycle_Node_Out
      show (slices_Sort_14 n.out_).bind _ = _
      rw [zo, Option.bind_some]
    rw [ho, Option.bind_some, b1, Option.bind_some, if_pos rfl]
    have hp2 : (told ++ z ++ []).Perm (told ++ n.out_) := by
      rw [List.append_nil]
      exact List.Perm.append_left _ (z2.trans hperm.symm)
    have hn' : Nd l (RB c) (told ++ z) (T_cycle_Node.mk n.l_ n.at_ n.marked_ [] n.sent_ n.took_) :=
      ⟨hn.l_, hn.ix, hn.mkd, ⟨hp2.nodup_iff.2 hn.fo.nd, fun x => by rw [hp2.mem_iff]; exact hn.fo.mem x, by rw [hp2.length_eq]; exact hn.fo.n⟩⟩
    exact law_j3 hl nd hA hb hs hn' d1 y1 hyl (next _ _ hn')
  · rw [if_neg e]
    exact law_j3 hl nd hA hb hs hn d1 y1 hyl (next _ _ hn)
theorem law_l0 {pl : List (List Int)} (hpl : pl.length ≤ 4611686018427387904) : ∀ (d i : Nat) (c : List Kn) (n : T_cycle_Node) (told : List Int), i + d = pl.length → Same l c → Nd l (RB c) told n →
    roadlaw4_CyclePlays.l0 c n.l_ n.at_ n.marked_ n.out_ n.sent_ n.took_ n.took_ told pl (pl.length : Int) (i : Int) = some true := by
  intro d
  induction d with
  | zero => intro i c n told h1 h2 h3; rw [roadlaw4_CyclePlays.l0_eq, if_neg (by omega)]
  | succ d ih =>
    intro i c n told h1 hs hn
    have hi : i < pl.length := by omega
    obtain ⟨v, v1⟩ := at_some pl[i] 0
    obtain ⟨w, w1⟩ := at_some pl[i] 1
    rw [show ((0 : Nat) : Int) = 0 from rfl] at v1
    rw [show ((1 : Nat) : Int) = 1 from rfl] at w1
    have hcl : c.length ≤ 480 := by rw [hs.1]; exact hl
    have go2 : ∀ (c' : List Kn) (n' : T_cycle_Node), Same l c' → Nd l (RB c') told n' → roadlaw4_CyclePlays.j2 c' n'.l_ n'.at_ n'.marked_ n'.out_ n'.sent_ n'.took_ n'.took_ told pl[i] pl (pl.length : Int) (i : Int) = some true := fun c' n' hs' hn' =>
      law_j2 hl nd hA hb hs' hn' pl[i] fun told' n'' hn'' => by rw [w_succ (by omega)]; exact ih (i + 1) c' n'' told' (by omega) hs' hn''
    rw [roadlaw4_CyclePlays.l0_eq, if_pos (by omega), gi_at hi, Option.bind_some, v1, Option.bind_some]
    by_cases e : v = 1
    · have hx := slices_IndexFunc_21.val (l := c) (p := fun z35 => roadlaw4_CyclePlays_1 z35 pl[i]) (fun z => z.Ref == w) (fun z _ => by unfold roadlaw4_CyclePlays_1; rw [w1, Option.bind_some]) (by omega)
      rw [if_pos e, hx, Option.bind_some]
      have hix : (pget n.at_ w).isSome = decide (w ∈ refs l) := ix_some hl nd hA hn.ix w
      cases hfi : c.findIdx? (fun z => z.Ref == w) with
      | none =>
        have hid : idxOf (fun z : Kn => z.Ref == w) c = -1 := by unfold idxOf; rw [hfi]
        have hno : w ∉ refs l := by
          rw [← hs.refsE]
          unfold refs
          rw [List.mem_map]
          rintro ⟨z, z1, z2⟩
          rw [List.findIdx?_eq_none_iff] at hfi
          have := hfi z z1
          simp [z2] at this
        rw [hid, if_neg (by decide), roadlaw4_CyclePlays.j4_eq, w1, Option.bind_some]
        have hcome : cycle_Node_Come (T_cycle_Node.mk n.l_ n.at_ n.marked_ n.out_ n.sent_ n.took_) w = some (4, n) := by
          unfold cycle_Node_Come
          rw [if_neg (by show ¬ (pget n.at_ w).isSome = true; rw [hix]; simpa using hno)]
        rw [hcome, Option.bind_some, if_pos rfl]
        exact go2 c n hs hn
      | some q =>
        have hid : idxOf (fun z : Kn => z.Ref == w) c = (q : Int) := by unfold idxOf; rw [hfi]
        obtain ⟨q1, q2, _⟩ := List.findIdx?_eq_some_iff_getElem.1 hfi
        have q2 : rf c q = w := by rw [← rf_at q1]; simpa using q2
        have hw : w ∈ refs l := by rw [← hs.refsE]; exact refs_mem.2 ⟨q, q1, q2⟩
        rw [hid, if_pos (by omega), gi_at q1, Option.bind_some, Option.bind_some, show Int.toNat (q : Int) = q from rfl, roadlaw4_CyclePlays.j4_eq, w1, Option.bind_some]
        have hn1 : Nd l (RB c) told (T_cycle_Node.mk n.l_ n.at_ n.marked_ n.out_ n.sent_ (IntKind.wrap .i64 (n.took_ + 1))) := ⟨hn.l_, hn.ix, hn.mkd, hn.fo⟩
        obtain ⟨n', k1, k2, k3⟩ := mark_val hl nd hA hn1 (fun x hx => hs.RB_refs hx) hw
        have hcome : cycle_Node_Come (T_cycle_Node.mk n.l_ n.at_ n.marked_ n.out_ n.sent_ n.took_) w = some (0, n') := by
          unfold cycle_Node_Come
          rw [if_pos (by show (pget n.at_ w).isSome = true; rw [hix]; simpa using hw)]
          show (cycle_Node_mark (T_cycle_Node.mk n.l_ n.at_ n.marked_ n.out_ n.sent_ (IntKind.wrap .i64 (n.took_ + 1))) w).bind _ = _
          rw [k1, Option.bind_some]
        rw [hcome, Option.bind_some, if_pos rfl]
        have k3 : n'.took_ = IntKind.wrap .i64 (n.took_ + 1) := k3
        show roadlaw4_CyclePlays.j2 (setRoot c q q1) n'.l_ n'.at_ n'.marked_ n'.out_ n'.sent_ n'.took_ (IntKind.wrap .i64 (n.took_ + 1)) told pl[i] pl (pl.length : Int) (i : Int) = some true
        rw [← k3]
        exact go2 _ n' (hs.trans (setRoot_same q1)) (k2.congr fun x => by rw [setRoot_RB, q2])
    · rw [if_neg e]; exact go2 c n hs hn
end
theorem law_j0 {l : List Kn} (hA : (alls l).length ≤ 1048576) (hb : ∀ k ∈ l, k.Refs.length ≤ 1048576) (pl : List (List Int)) (hpl : pl.length ≤ 1048576) : roadlaw4_CyclePlays.j0 l pl = some true := by
  have bad : ∀ c : Int, c ≠ 0 → cycle_index l = some (none, c) → roadref4_Knows l = some c → roadlaw4_CyclePlays.j0 l pl = some true := by
    intro c hc h1 h2
    rw [roadlaw4_CyclePlays.j0, new_bad h1 hc, Option.bind_some]
    show (Option.bind (roadref4_Knows l) _) = _
    rw [h2, Option.bind_some, if_neg hc, if_pos rfl]
  by_cases hl : 480 < l.length
  · exact bad 2 (by decide) (by unfold cycle_index; rw [if_pos (by omega)]) (by unfold roadref4_Knows; rw [if_pos (by omega)])
  · have hl : l.length ≤ 480 := by omega
    have hk := knows_val hl
    by_cases nd : (refs l).Nodup
    · rw [if_pos nd] at hk
      obtain ⟨n, n1, n2, n3⟩ := new_good hl nd hA hb
      rw [roadlaw4_CyclePlays.j0, n1, Option.bind_some]
      show (Option.bind (roadref4_Knows l) _) = _
      rw [hk, Option.bind_some, if_pos rfl, if_pos rfl, roadlaw4_CyclePlays.j1, slices_Clone_19.val _ (by omega), Option.bind_some, ap_of (by simp; omega), Option.bind_some]
      have := law_l0 hl nd hA hb (pl := [[2]] ++ pl) (by simp; omega) ([[2]] ++ pl).length 0 l n [] (by omega) ⟨rfl, fun _ => rfl, fun _ => rfl⟩ n2
      rw [n3] at this ⊢
      exact this
    · rw [if_neg nd] at hk
      obtain ⟨r, r1, _, r3⟩ := index_val' hl
      rw [r3 nd] at r1
      exact bad 5 (by decide) r1 hk
abbrev K0 : List Kn := [(T_api_Know.mk 3 true false ([9] : List Int))]
theorem const_val : ∃ n, cycle_New K0 = some (some n, 0) ∧ ∃ z, cycle_Node_Out n = some ([9], z) := by
  have nd : (refs K0).Nodup := by decide
  obtain ⟨n, n1, n2, n3⟩ := new_good (l := K0) (by decide) nd (by decide) (by decide)
  refine ⟨n, n1, ?_⟩
  have hp : n.out_.Perm [9] := (List.perm_ext_iff_of_nodup n2.fo.nd (by decide)).2 fun x => by
    have := n2.fo.mem x
    rw [List.nil_append] at this
    rw [List.nil_append, this, n2.mkd]
    constructor
    · rintro ⟨a, b⟩
      obtain ⟨k, k1, _, k3⟩ := a.row (fun y ⟨j, j1, _, j3⟩ => refs_mem.2 ⟨j, j1, j3⟩) b
      have : k = 0 := by have : k < 1 := k1; omega
      subst this
      exact k3
    · intro hx
      obtain rfl : x = 9 := List.mem_singleton.1 hx
      exact ⟨.step (k := 0) (by decide) (.base ⟨0, by decide, rfl, rfl⟩) (by decide), by decide⟩
  obtain ⟨y, y1, y2, y3⟩ := slices_Sort_14.val [9] (by decide)
  have e : y = [9] := List.perm_singleton.1 y2
  unfold cycle_Node_Out
  rw [sort_same hp (by rw [hp.length_eq]; decide), y1, Option.bind_some, e]
  exact ⟨_, rfl⟩
theorem CyclePlays (l : List Kn) (pl : List (List Int)) (q0 : l.length * 40 ≤ 140737488351232 ∧ ∀ z ∈ l, T_api_Know.Q z) (q1 : pl.length * 24 ≤ 140737488351232 ∧ ∀ x ∈ pl, x.length * 8 ≤ 140737488351232 ∧ ∀ y ∈ x, (-9223372036854775808 ≤ y ∧ y ≤ 9223372036854775807))
    (hbk : ((l.map T_api_Know.bulk).sum + 1) + ((pl.map fun x => (x.map fun _ => 1).sum + 1).sum + 1) ≤ 1048576) : roadlaw4_CyclePlays l pl = some true := by
  have hone : ∀ r : List Int, (r.map fun _ => 1).sum = r.length := fun r => by
    induction r with
    | nil => rfl
    | cons a r ih => rw [List.map_cons, List.sum_cons, ih, List.length_cons]; omega
  have hbulk : ∀ k : Kn, k.Refs.length ≤ k.bulk := fun k => by unfold T_api_Know.bulk; rw [hone]; omega
  have hsum : (alls l).length ≤ (l.map T_api_Know.bulk).sum := by
    rw [alls_len]
    have e : ((List.range l.length).map fun k => (rs l k).length) = l.map fun k => k.Refs.length := by
      refine List.ext_getElem? fun j => ?_
      rcases Nat.lt_or_ge j l.length with g | g
      · rw [List.getElem?_map, List.getElem?_range g, List.getElem?_map, List.getElem?_eq_getElem g]
        show some (rs l j).length = some l[j].Refs.length
        rw [rs_at g]
      · rw [List.getElem?_eq_none (by simpa using g), List.getElem?_eq_none (by simpa using g)]
    rw [e]
    have : ∀ r : List Kn, (r.map fun k => k.Refs.length).sum ≤ (r.map T_api_Know.bulk).sum := by
      intro r
      induction r with
      | nil => exact Nat.le_refl _
      | cons a r ih => rw [List.map_cons, List.map_cons, List.sum_cons, List.sum_cons]; have := hbulk a; omega
    exact this l
  have hb : ∀ k ∈ l, k.Refs.length ≤ 1048576 := fun k hk => by
    have h1 : ∀ r : List Kn, k ∈ r → k.Refs.length ≤ (r.map T_api_Know.bulk).sum := by
      intro r
      induction r with
      | nil => intro h; cases h
      | cons a r ih =>
        intro h
        rw [List.map_cons, List.sum_cons]
        rcases List.mem_cons.1 h with rfl | h
        · have := hbulk k; omega
        · have := ih h; omega
    have := h1 l hk; omega
  have hpl : pl.length ≤ 1048576 := by
    have : ∀ r : List (List Int), r.length ≤ (r.map fun x => (x.map fun _ => 1).sum + 1).sum := by
      intro r
      induction r with
      | nil => exact Nat.le_refl _
      | cons a r ih => rw [List.map_cons, List.sum_cons, List.length_cons]; omega
    have := this pl; omega
  unfold roadlaw4_CyclePlays
  obtain ⟨n, n1, z, n2⟩ := const_val
  obtain ⟨b, b1, b2⟩ := slices_Equal_10.val [9] [9] (by decide)
  obtain rfl : b = true := b2.2 rfl
  show (Option.bind (cycle_New K0) _) = _
  rw [n1, Option.bind_some]
  show (if (0 : Int) = 0 then (Option.bind (cycle_Node_Out n) fun y47 => Option.bind (slices_Equal_10 y47.1 [9]) fun y72 => if y72 = true then roadlaw4_CyclePlays.j0 l pl else some false) else some false) = some true
  rw [if_pos rfl, n2, Option.bind_some, b1, Option.bind_some, if_pos rfl]
  exact law_j0 (by omega) hb pl hpl
end Go.Proofs.Ythnlhffpmlgmfad.Fw

end
section
namespace Go.Proofs.Ythnlhffpmlgmfad.cyclePlays
open Go Go.Hw Go.ChangeShapes Go.WideShapes Go.ChangeAt Go.RowKit Go.Proofs.Ythnlhffpmlgmfad.Fw
open Go.ChangeMaps (open_string shut_string)
set_option linter.unusedVariables false
theorem own : ownKnob Try.prog.godebug = none := by kernel_rfl
theorem laidOut : laidOutB Try.prog = true := by kernel_rfl
theorem bulkAll {H : Type} : ∀ l : List (DataW H), Rows.uptoBulkAll l = (l.map Rows.uptoBulk).sum
  | [] => rfl
  | d :: r => by rw [Rows.uptoBulkAll, List.map_cons, List.sum_cons, bulkAll r]
theorem measure {H : Type} : Measure (Rows.uptoBulk (H := H)) where
  pos d := by
    cases d with
    | lit l => cases l <;> simp [Rows.uptoBulk]
    | _ => simp [Rows.uptoBulk]
  str b := by simp [Rows.uptoBulk]
  slice e s := by rw [Rows.uptoBulk, bulkAll]; omega
  agg ps := by rw [Rows.uptoBulk, bulkAll]; omega
set_option maxRecDepth 100000 in
theorem lifted (os : Os) (started : os.Started) (H : Type) (enc : TypeId × Value → H) :
    ReturnsInHanded {} Try.checked os 4 .any ((Rows.OpenSpec.upto Rows.cyclePlaysSpec).pre6 enc Try.prog Try.f4 Rows.cyclePlaysUptoRow.domain false) (Rows.cyclePlaysSpec.post enc Try.prog Try.f4 false true false false) := by
  refine returnsInHanded_of_cond_sized (s := Rows.OpenSpec.upto Rows.cyclePlaysSpec) (k := Rows.uptoSmall) (F := fun _ _ _ => 0) rfl (C := Try.checked) own started (by kernel_rfl) Try.func4
    (OpenSpec.witness (s := Rows.OpenSpec.upto Rows.cyclePlaysSpec) (k := Rows.uptoSmall) rfl (enc := enc) (C := Try.checked) false ⟨#[], #[(.slice none 0 0), (.slice none 0 0)], []⟩ 8 (by kernel_rfl) (by kernel_rfl) (by kernel_rfl) (x := ([DataW.nil, DataW.nil], [], [])) (by kernel_rfl) (by kernel_rfl) (by kernel_rfl)) ?_
  intro W base args ds gs before hval0 hW hcnd hkk hsz0 _
  have hsz : (DataW.weightsEach Try.prog (Try.f4.params.toList ++ (Rows.OpenSpec.upto Rows.cyclePlaysSpec).bare.plain.varTypes Try.prog) (ds ++ gs)).all (· ≤ reachBytes) = true := hsz0
  have hval : ∀ (j : Nat) t v, Try.f4.params[j]? = some t → args[j]? = some v → Value.okWide Try.prog W .any base t v := hval0
  have hW' := hW
  obtain ⟨p, q, hA0, hV, rfl, hfz, hnd⟩ := hW
  have hA : DataW.TrodAll enc Try.prog W 0 (fun _ => true) true Try.f4.params.toList args.toList ds p := hA0
  rw [Try.params4] at hA hval hsz
  obtain ⟨v0, vs0, d0, ds0, p0, q0_, hargs, rfl, rfl, h0, r0_⟩ := trodAll_cons hA
  obtain ⟨v1, vs1, d1, ds1, p1, q1_, rfl, rfl, rfl, h1, r1_⟩ := trodAll_cons r0_
  obtain ⟨rfl, rfl, rfl⟩ := trodAll_nil r1_
  obtain rfl : args = #[v0, v1] := by cases args; simp_all
  obtain ⟨rfl, rfl⟩ := trodVars_none hV
  have hs : (DataW.weightsEach Try.prog [22, 30] [d0, d1]).all (· ≤ reachBytes) = true := hsz
  simp only [DataW.weightsEach, List.append_nil, List.all_append, Bool.and_eq_true] at hs
  obtain ⟨hw0, hw1⟩ := hs
  have k0 := h0
  have lt0 : ∀ x ∈ p0, x.block < W.heap.size := by obtain ⟨m, hm⟩ := k0; exact DataW.trod_lt m _ _ _ hm
  obtain ⟨A0, n0, c0, rfl⟩ := okWide_slice (show Try.prog.underlying 22 = some (.slice 28) by kernel_rfl) (hval 0 22 v0 rfl rfl)
  obtain ⟨fuel0, hf0⟩ := h0
  obtain ⟨l0, E0, q0⟩ := (tells_sliceL (t := 22) (e := 28) (sz := 4) (B := 40) (by kernel_rfl) (by kernel_rfl) (by kernel_rfl) T_api_Know.tells) fuel0 _ _ hf0 hw0
  have b0 := (let M := measure (H := H); (kt_slice M (t := 22) (e := 28) (sz := 4) (by kernel_rfl) (by kernel_rfl) (T_api_Know.kt M)) : KT (fuel0 + 1) Rows.uptoBulk enc Try.prog W 22 (eRow 4 T_api_Know.E) (fun l : (List T_api_Know) => (List.map T_api_Know.bulk l).sum + 1)) fuel0 (Nat.lt_succ_self _) _ _ hf0 _ E0
  obtain ⟨A0', c0', hcs0, hle0, r0⟩ := E0
  simp only [Value.cells, List.cons.injEq, Value.slice.injEq, and_true] at hcs0
  obtain ⟨rfl, rfl, rfl⟩ := hcs0
  have k1 := h1
  have lt1 : ∀ x ∈ p1, x.block < W.heap.size := by obtain ⟨m, hm⟩ := k1; exact DataW.trod_lt m _ _ _ hm
  obtain ⟨A1, n1, c1, rfl⟩ := okWide_slice (show Try.prog.underlying 30 = some (.slice 23) by kernel_rfl) (hval 1 30 v1 rfl rfl)
  obtain ⟨fuel1, hf1⟩ := h1
  obtain ⟨l1, E1, q1⟩ := (tells_sliceL (t := 30) (e := 23) (sz := 1) (B := 24) (by kernel_rfl) (by kernel_rfl) (by kernel_rfl) (tells_sliceL (t := 23) (e := 3) (sz := 1) (B := 8) (by kernel_rfl) (by kernel_rfl) (by kernel_rfl) (tells_i64 (t := 3) (by kernel_rfl)))) fuel1 _ _ hf1 hw1
  have b1 := (let M := measure (H := H); (kt_slice M (t := 30) (e := 23) (sz := 1) (by kernel_rfl) (by kernel_rfl) (kt_slice M (t := 23) (e := 3) (sz := 1) (by kernel_rfl) (by kernel_rfl) (kt_one M))) : KT (fuel1 + 1) Rows.uptoBulk enc Try.prog W 30 (eRow 1 (eRow 1 (eInt .i64))) (fun l : (List (List Int)) => (List.map (fun l : (List Int) => (List.map (fun _ => 1) l).sum + 1) l).sum + 1)) fuel1 (Nat.lt_succ_self _) _ _ hf1 _ E1
  obtain ⟨A1', c1', hcs1, hle1, r1⟩ := E1
  simp only [Value.cells, List.cons.injEq, Value.slice.injEq, and_true] at hcs1
  obtain ⟨rfl, rfl, rfl⟩ := hcs1
  have hb : ((fun l => (List.map T_api_Know.bulk l).sum + 1) l0) + ((fun l => (List.map (fun l : (List Int) => (List.map (fun _ => 1) l).sum + 1) l).sum + 1) l1) ≤ 1048576 := by
    have hk : Rows.uptoBulkAll ([d0, d1] ++ []) ≤ 1048576 := of_decide_eq_true hkk
    have := b0
    have := b1
    simp only [List.append_nil, Rows.uptoBulkAll] at hk
    simp only at *
    omega
  refine ((Run.mono (R' := fun v h' => v = Value.bool true ∧ Ext W.heap h') (Fw.roadlaw4_CyclePlays.walk (W := No) (Hold.start (Sub.refl _)) rfl hle0 r0 rfl hle1 r1 (Fw.CyclePlays l0 l1 q0 q1 hb)) (fun v h' hp => by obtain ⟨m', st, hv⟩ := hp; exact ⟨hv, st.S.ext⟩)) W rfl).mono fun e W' he => ?_
  obtain ⟨v, rfl, ⟨rfl, ext⟩, same⟩ := he
  have bel := below_of ext same
  exact ⟨_, rfl, _, _, _, [], _, [], hW', trodAll_mk1 (shut_bool (show Try.prog.underlying 4 = some .bool by kernel_rfl) _), (trodAll_cons_mk (Below.trod laidOut (by kernel_rfl) (of_decide_eq_true (by kernel_rfl)) k0 bel lt0) (trodAll_cons_mk (Below.trod laidOut (by kernel_rfl) (of_decide_eq_true (by kernel_rfl)) k1 bel lt1) trodAll_mk0)), rfl, bel.frame _, fun h => by cases h⟩
theorem over : Rows.cyclePlaysUptoRow.holds Try.pinned (Rows.OpenSpec.upto Rows.cyclePlaysSpec) :=
  OpenClaim.holds_of_cond 4 Try.f4 rfl rfl rfl rfl rfl rfl rfl ⟨rfl, rfl, rfl, rfl, rfl⟩ rfl rfl rfl rfl rfl (by kernel_rfl) Try.func4 (by kernel_rfl)
    (of_decide_eq_true (by kernel_rfl)) (by unfold Func.isWrapper; first | (rw [if_pos (by decide +kernel)]; kernel_rfl) | (rw [if_neg (by decide +kernel)]; exact ⟨rfl, rfl⟩))
    (fun os started H enc _ F => lifted os started H enc)
end Go.Proofs.Ythnlhffpmlgmfad.cyclePlays
namespace Go.Proofs.Ythnlhffpmlgmfad
theorem cyclePlays_holds : Rows.CyclePlaysUptoSaid := cyclePlays.over
end Go.Proofs.Ythnlhffpmlgmfad

end
