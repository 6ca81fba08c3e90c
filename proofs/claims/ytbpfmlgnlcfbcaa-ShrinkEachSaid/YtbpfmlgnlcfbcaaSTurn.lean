/- What turn.Check, Next, Round and the library's binary search do, and that the law TurnTells holds, over heaps. -/
import Derived.Test.YtbpfmlgnlcfbcaaFwAll0
import Derived.Test.YtbpfmlgnlcfbcaaFwAll1
import Derived.Test.YtbpfmlgnlcfbcaaFwAll2
import Derived.Test.YtbpfmlgnlcfbcaaHwQ
namespace Go.Proofs.Ytbpfmlgnlcfbcaa.Fw
open Go Go.Hw Go.Proofs
set_option linter.unusedVariables false

/-- The turns up to place k rise. -/
def risesTo (l : List Int) (k : Nat) : Prop := ∀ i, i + 1 < k → l.getD i 0 < l.getD (i + 1) 0
instance (l : List Int) (k : Nat) : Decidable (risesTo l k) :=
  decidable_of_iff (∀ i, i < k - 1 → l.getD i 0 < l.getD (i + 1) 0) ⟨fun h i hi => h i (by omega), fun h i hi => h i (by omega)⟩
def chk (l : List Int) : Int := if l.length > 100 then 2 else if risesTo l l.length then 0 else 21

theorem getD_at {l : List Int} {i : Nat} (h : i < l.length) : l.getD i 0 = l[i] := by
  rw [List.getD_eq_getElem?_getD, List.getElem?_eq_getElem h]; rfl

theorem chk_bad {l : List Int} {k : Nat} (h1 : ¬ l.length > 100) (hk : k + 1 < l.length) (h : ¬ l.getD k 0 < l.getD (k + 1) 0) : chk l = 21 := by
  unfold chk
  rw [if_neg h1, if_neg (fun hr => h (hr k hk))]

theorem fault_loop {h : Heap} {A : Option Addr} {c : Nat} {l : List Int} (hr : Rd 1 (eInt .i64) h A l) (h1 : ¬ l.length > 100) :
    ∀ (d k : Nat), k + d = l.length → risesTo l k → f59.l0 (fun u h' => u = .int .i64 (chk l) ∧ h' = h) A l.length c (l.length : Int) (k : Int) h := by
  intro d
  induction d with
  | zero =>
    intro k hk hn
    refine f59.l0_in ?_
    unfold f59.l0T
    refine split_dec (fun c => by omega) fun _ => ⟨?_, rfl⟩
    have : k = l.length := by omega
    subst this
    unfold chk
    rw [if_neg h1, if_pos hn]
  | succ d ih =>
    intro k hk hn
    refine f59.l0_in ?_
    unfold f59.l0T
    refine split_dec (fun _ => ?_) (fun c => by omega)
    have e1 : IntKind.wrap .i64 ((k : Int) + 1) = ((k + 1 : Nat) : Int) := by rw [wrap_in (by omega) (by omega)]; omega
    refine split_dec (fun c => ?_) (fun c => ?_)
    · obtain ⟨j, rfl⟩ : ∃ j, k = j + 1 := ⟨k - 1, by omega⟩
      have e2 : IntKind.wrap .i64 (((j + 1 : Nat) : Int) - 1) = (j : Int) := by rw [wrap_in (by omega) (by omega)]; omega
      rw [e2]
      obtain ⟨a, cs, ha, hc, hE⟩ := hr (j + 1) (by omega)
      obtain ⟨a', cs', ha', hc', hE'⟩ := hr j (by omega)
      subst ha
      cases ha'
      refine ⟨by omega, by omega, ⟨by omega, by omega, ?_⟩⟩
      rw [hE] at hc; rw [hE'] at hc'
      refine ⟨_, one_cells hc, _, rfl, _, one_cells hc', _, rfl, ?_⟩
      rw [e1]
      refine split_dec (fun c2 => ⟨?_, rfl⟩) (fun c2 => ih _ (by omega) ?_)
      · rw [chk_bad h1 (k := j) (by omega) (by rw [getD_at (by omega), getD_at (by omega)]; omega)]
      · intro i hi
        by_cases h2 : i + 1 < j + 1
        · exact hn i h2
        · have : i = j := by omega
          subst this
          rw [getD_at (by omega), getD_at (by omega)]; omega
    · rw [e1]
      exact ih _ (by omega) fun i hi => by omega

theorem fault_spec {h : Heap} {A : Option Addr} {c : Nat} {l : List Int} (hr : Rd 1 (eInt .i64) h A l) : Run Try.prog 59 #[.slice A l.length c] h fun u h' => u = .int .i64 (chk l) ∧ h' = h := by
  refine f59.run ?_
  unfold f59.runT
  refine split_dec (fun c => ⟨?_, rfl⟩) (fun c => ?_)
  · unfold chk; rw [if_pos (by omega)]
  · exact fault_loop hr (by omega) l.length 0 (by omega) (fun i hi => by omega)

theorem check_loop {h : Heap} {A : Option Addr} {c : Nat} {l : List Int} (hr : Rd 1 (eInt .i64) h A l) (h1 : ¬ l.length > 100) :
    ∀ (d k : Nat), k + d = l.length → risesTo l k → f60.l0 (fun u h' => u = .int .i64 (chk l) ∧ h' = h) A l.length c A l.length c (l.length : Int) (k : Int) h := by
  intro d
  induction d with
  | zero =>
    intro k hk hn
    refine f60.l0_in ?_
    unfold f60.l0T
    refine split_dec (fun c => by omega) fun _ => ⟨?_, rfl⟩
    have : k = l.length := by omega
    subst this
    unfold chk
    rw [if_neg h1, if_pos hn]
  | succ d ih =>
    intro k hk hn
    refine f60.l0_in ?_
    unfold f60.l0T
    refine split_dec (fun _ => ?_) (fun c => by omega)
    have e1 : IntKind.wrap .i64 ((k : Int) + 1) = ((k + 1 : Nat) : Int) := by rw [wrap_in (by omega) (by omega)]; omega
    refine hr.int rfl rfl (by omega) ?_
    refine split_dec (fun c => ?_) (fun c => ?_)
    · obtain ⟨j, rfl⟩ : ∃ j, k = j + 1 := ⟨k - 1, by omega⟩
      have e2 : IntKind.wrap .i64 (((j + 1 : Nat) : Int) - 1) = (j : Int) := by rw [wrap_in (by omega) (by omega)]; omega
      rw [e2]
      refine hr.int rfl rfl (by omega) ?_
      rw [e1]
      refine split_dec (fun c2 => ⟨?_, rfl⟩) (fun c2 => ih _ (by omega) ?_)
      · rw [chk_bad h1 (k := j) (by omega) (by rw [getD_at (by omega), getD_at (by omega)]; omega)]
      · intro i hi
        by_cases h2 : i + 1 < j + 1
        · exact hn i h2
        · have : i = j := by omega
          subst this
          rw [getD_at (by omega), getD_at (by omega)]; omega
    · rw [e1]
      exact ih _ (by omega) fun i hi => by omega

theorem check_spec {h : Heap} {A : Option Addr} {c : Nat} {l : List Int} (hr : Rd 1 (eInt .i64) h A l) : Run Try.prog 60 #[.slice A l.length c] h fun u h' => u = .int .i64 (chk l) ∧ h' = h := by
  refine f60.run ?_
  unfold f60.runT
  refine split_dec (fun c => ⟨?_, rfl⟩) (fun c => ?_)
  · unfold chk; rw [if_pos (by omega)]
  · exact check_loop hr (by omega) l.length 0 (by omega) (fun i hi => by omega)

/-- The first turn behind x, or the first of all. -/
def nextL (l : List Int) (x : Int) : Int := (l.find? fun y => decide (y > x)).getD (l.getD 0 0)

theorem nextOf_loop {h : Heap} {A : Option Addr} {c : Nat} {l : List Int} {x : Int} (hr : Rd 1 (eInt .i64) h A l) (h1 : l.length ≤ 100) (h0 : 0 < l.length) :
    ∀ (d k : Nat), k + d = l.length → nextL l x = ((l.drop k).find? fun y => decide (y > x)).getD (l.getD 0 0) →
      f61.l0 (fun u h' => u = .int .i64 (nextL l x) ∧ h' = h) A l.length c x A l.length c (l.length : Int) (k : Int) h := by
  intro d
  induction d with
  | zero =>
    intro k hk hn
    refine f61.l0_in ?_
    unfold f61.l0T
    refine split_dec (fun c => by omega) fun _ => ?_
    refine hr.int (i := 0) rfl rfl h0 ⟨?_, rfl⟩
    rw [hn, List.drop_eq_nil_of_le (by omega), getD_at h0]; rfl
  | succ d ih =>
    intro k hk hn
    refine f61.l0_in ?_
    unfold f61.l0T
    refine split_dec (fun _ => ?_) (fun c => by omega)
    have e1 : IntKind.wrap .i64 ((k : Int) + 1) = ((k + 1 : Nat) : Int) := by rw [wrap_in (by omega) (by omega)]; omega
    refine hr.int rfl rfl (by omega) ?_
    rw [List.drop_eq_getElem_cons (show k < l.length by omega)] at hn
    refine split_dec (fun c => ⟨?_, rfl⟩) (fun c => ?_)
    · rw [hn, List.find?_cons_of_pos (by simpa using c)]; rfl
    · rw [e1]
      refine ih _ (by omega) ?_
      rw [hn, List.find?_cons_of_neg (by simpa using c)]

theorem nextOf_spec {h : Heap} {A : Option Addr} {c : Nat} {l : List Int} {x : Int} (hr : Rd 1 (eInt .i64) h A l) (h1 : l.length ≤ 100) (h0 : 0 < l.length) :
    Run Try.prog 61 #[.slice A l.length c, .int .i64 x] h fun u h' => u = .int .i64 (nextL l x) ∧ h' = h := by
  refine f61.run ?_
  unfold f61.runT
  exact nextOf_loop hr h1 h0 l.length 0 (by omega) rfl

theorem nan_a {h : Heap} {x : Int} : Run Try.prog 134 #[.int .i64 x] h fun u h' => u = .bool false ∧ h' = h := by
  refine f134.run ?_
  unfold f134.runT
  exact ⟨by simp, rfl⟩
theorem nan_b {h : Heap} {x : Int} : Run Try.prog 131 #[.int .i64 x] h fun u h' => u = .bool false ∧ h' = h := by
  refine f131.run ?_
  unfold f131.runT
  exact ⟨by simp, rfl⟩
theorem cmpLess {h : Heap} {x y : Int} : Run Try.prog 130 #[.int .i64 x, .int .i64 y] h fun u h' => u = .bool (decide (x < y)) ∧ h' = h := by
  refine f130.run ?_
  unfold f130.runT
  exact nan_a.ret ⟨_, rfl, split_f ⟨rfl, rfl⟩⟩

theorem half_at {i j : Nat} (h : i + j < 9223372036854775807) : IntKind.wrap .i64 (shrI .u64 (IntKind.wrap .u64 (IntKind.wrap .i64 ((i : Int) + (j : Int)))) 1) = (((i + j) / 2 : Nat) : Int) := by
  have e1 : IntKind.wrap .i64 ((i : Int) + (j : Int)) = ((i + j : Nat) : Int) := by rw [wrap_in (by omega) (by omega)]; omega
  have e2 : IntKind.wrap .u64 ((i + j : Nat) : Int) = ((i + j : Nat) : Int) := by
    show ((i + j : Nat) : Int) % 18446744073709551616 = _
    omega
  rw [e1, e2]
  have e3 : shrI .u64 ((i + j : Nat) : Int) 1 = (((i + j) / 2 : Nat) : Int) := by
    show Int.fdiv ((i + j : Nat) : Int) (2 ^ 1) = _
    rw [Int.fdiv_eq_ediv_of_nonneg _ (by omega)]
    omega
  rw [e3, wrap_in (by omega) (by omega)]

/-- What a binary search over a rising list finds. -/
theorem binary_loop {h : Heap} {A : Option Addr} {c : Nat} {l : List Int} {x : Int} {R : Value → Heap → Prop} (hr : Rd 1 (eInt .i64) h A l) (h1 : l.length ≤ 100)
    (hm : ∀ i j, i ≤ j → j < l.length → l.getD i 0 ≤ l.getD j 0)
    (hk : ∀ p : Nat, p ≤ l.length → (∀ k, k < p → l.getD k 0 < x) → (∀ k, p ≤ k → k < l.length → x ≤ l.getD k 0) → R (.tuple #[.int .i64 p, .bool (decide (p < l.length) && (l.getD p 0 == x))]) h) :
    ∀ (d i j : Nat), j - i ≤ d → i ≤ j → j ≤ l.length → (∀ k, k < i → l.getD k 0 < x) → (∀ k, j ≤ k → k < l.length → x ≤ l.getD k 0) →
      f114.l0 R A l.length c x (l.length : Int) (i : Int) (j : Int) h := by
  intro d
  induction d with
  | zero =>
    intro i j hd hij hjl hlo hhi
    have : i = j := by omega
    subst this
    refine f114.l0_in ?_
    unfold f114.l0T
    refine split_dec (fun c => by omega) fun _ => ?_
    have hfin := hk i hjl hlo hhi
    refine split_dec (fun c => ?_) (fun c => ?_)
    · rw [decide_eq_true (show i < l.length by omega), Bool.true_and] at hfin
      refine hr.int rfl rfl (by omega) ?_
      refine split_eq (fun c2 => ?_) (fun c2 => ?_)
      · rw [getD_at (by omega), beq_iff_eq.2 c2] at hfin; exact hfin
      · rw [getD_at (by omega), beq_eq_false_iff_ne.2 c2] at hfin
        refine hr.int rfl rfl (by omega) ?_
        exact nan_b.ret ⟨_, rfl, split_f hfin⟩
    · rw [decide_eq_false (show ¬ i < l.length by omega), Bool.false_and] at hfin
      exact hfin
  | succ d ih =>
    intro i j hd hij hjl hlo hhi
    by_cases he : i = j
    · exact ih i j (by omega) hij hjl hlo hhi
    refine f114.l0_in ?_
    unfold f114.l0T
    refine split_dec (fun _ => ⟨by omega, ?_⟩) (fun c => by omega)
    rw [half_at (by omega)]
    have hmid : (i + j) / 2 < l.length := by omega
    refine hr.int rfl rfl hmid ?_
    refine cmpLess.ret ⟨_, rfl, ?_⟩
    refine split_dec (fun c => ?_) (fun c => ?_)
    · have e1 : IntKind.wrap .i64 ((((i + j) / 2 : Nat) : Int) + 1) = (((i + j) / 2 + 1 : Nat) : Int) := by rw [wrap_in (by omega) (by omega)]; omega
      rw [e1]
      refine ih _ j (by omega) (by omega) hjl (fun k hk => ?_) hhi
      rw [← getD_at hmid] at c
      exact Int.lt_of_le_of_lt (hm k _ (by omega) hmid) c
    · refine ih i _ (by omega) (by omega) (by omega) hlo (fun k hk hk2 => ?_)
      rw [← getD_at hmid] at c
      exact Int.le_trans (Int.not_lt.1 c) (hm _ k hk hk2)

theorem rises_le {l : List Int} (hr : risesTo l l.length) : ∀ i j, i ≤ j → j < l.length → l.getD i 0 ≤ l.getD j 0 := by
  intro i j hij
  induction j with
  | zero => intro _; have : i = 0 := by omega
            subst this; exact Int.le_refl _
  | succ j ih =>
    intro hj
    rcases Nat.lt_or_ge i (j + 1) with h1 | h1
    · exact Int.le_trans (ih (by omega) (by omega)) (Int.le_of_lt (hr j hj))
    · have : i = j + 1 := by omega
      subst this; exact Int.le_refl _

theorem next_at {l : List Int} {x : Int} {p : Nat} (hr : risesTo l l.length) (h0 : 0 < l.length) (hp : p ≤ l.length) (hlo : ∀ k, k < p → l.getD k 0 ≤ x) (hhi : ∀ k, p ≤ k → k < l.length → x < l.getD k 0) :
    l.getD (p % l.length) 0 = nextL l x := by
  have hs : ∀ (d : Nat) (k : Nat), k + d = p → (l.drop k).find? (fun y => decide (y > x)) = (l.drop p).find? (fun y => decide (y > x)) := by
    intro d
    induction d with
    | zero => intro k hk; rw [show k = p by omega]
    | succ d ih =>
      intro k hk
      rw [List.drop_eq_getElem_cons (show k < l.length by omega), List.find?_cons_of_neg, ih (k + 1) (by omega)]
      have := hlo k (by omega)
      rw [getD_at (by omega)] at this
      simpa using this
  have h2 := hs p 0 (by omega)
  rw [List.drop_zero] at h2
  unfold nextL
  rw [h2]
  rcases Nat.lt_or_ge p l.length with h3 | h3
  · rw [Nat.mod_eq_of_lt h3, List.drop_eq_getElem_cons h3, List.find?_cons_of_pos, getD_at h3]; rfl
    have := hhi p (Nat.le_refl _) h3
    rw [getD_at h3] at this
    simpa using this
  · rw [List.drop_eq_nil_of_le h3, show p = l.length by omega, Nat.mod_self]; rfl

def nextV (l : List Int) (x : Int) : Value := .tuple (if chk l ≠ 0 then #[.int .i64 0, .int .i64 (chk l)] else if l.length = 0 then #[.int .i64 0, .int .i64 4] else #[.int .i64 (nextL l x), .int .i64 0])

theorem chk_ok {l : List Int} (h : chk l = 0) : l.length ≤ 100 ∧ risesTo l l.length := by
  unfold chk at h
  split at h
  · omega
  · split at h
    · rename_i h1 h2; exact ⟨by omega, h2⟩
    · omega

theorem next_mod {h : Heap} {A : Option Addr} {c : Nat} {l : List Int} {p : Nat} {R : Value → Heap → Prop} (hr : Rd 1 (eInt .i64) h A l) (h0 : 0 < l.length) (hk : R (.tuple #[.int .i64 (l.getD (p % l.length) 0), .int .i64 0]) h) :
    f58.j0 R A l.length c (p : Int) h := by
  refine f58.j0_in ?_
  unfold f58.j0T
  have e : Int.tmod (p : Int) (l.length : Int) = ((p % l.length : Nat) : Int) := by rw [Int.tmod_eq_emod_of_nonneg (by omega)]; rfl
  refine ⟨by omega, ?_⟩
  rw [e]
  have hlt := Nat.mod_lt p h0
  refine hr.int rfl rfl hlt ?_
  rw [getD_at hlt] at hk
  exact hk

theorem next_spec {h : Heap} {A : Option Addr} {c : Nat} {l : List Int} {x : Int} (hr : Rd 1 (eInt .i64) h A l) : Run Try.prog 58 #[.slice A l.length c, .int .i64 x] h fun u h' => u = nextV l x ∧ h' = h := by
  refine f58.run ?_
  unfold f58.runT
  refine (check_spec hr).ret ⟨_, rfl, ?_⟩
  refine split_ne (fun c => ⟨by unfold nextV; rw [if_pos c], rfl⟩) (fun c => ?_)
  obtain ⟨h1, h2⟩ := chk_ok c
  refine split_eq (fun c2 => ⟨by unfold nextV; rw [if_neg (by simpa using c), if_pos (by omega)], rfl⟩) (fun c2 => ?_)
  have h0 : 0 < l.length := by omega
  have e : nextV l x = .tuple #[.int .i64 (nextL l x), .int .i64 0] := by unfold nextV; rw [if_neg (by simpa using c), if_neg (by omega)]
  rw [e]
  refine (f114.run ?_ : Run Try.prog 114 _ _ _)
  unfold f114.runT
  refine binary_loop hr h1 (rises_le h2) (fun p hp hlo hhi => ⟨_, _, rfl, ?_⟩) l.length 0 l.length (by omega) (by omega) (Nat.le_refl _) (fun k hk => by omega) (fun k hk hk2 => by omega)
  refine split_any (fun hf => ?_) (fun hf => ?_)
  · rw [Bool.and_eq_true, decide_eq_true_eq, beq_iff_eq] at hf
    have e1 : IntKind.wrap .i64 ((p : Int) + 1) = ((p + 1 : Nat) : Int) := by rw [wrap_in (by omega) (by omega)]; omega
    rw [e1]
    refine next_mod hr h0 ⟨?_, rfl⟩
    rw [next_at (x := x) h2 h0 (by omega)]
    · intro k hk
      rcases Nat.lt_or_ge k p with h3 | h3
      · exact Int.le_of_lt (hlo k h3)
      · rw [show k = p by omega, hf.2]; exact Int.le_refl _
    · intro k hk hk2
      rw [← hf.2]
      exact Int.lt_of_lt_of_le (h2 p (by omega)) (rises_le h2 (p + 1) k hk hk2)
  · refine next_mod hr h0 ⟨?_, rfl⟩
    rw [next_at (x := x) h2 h0 hp (fun k hk => Int.le_of_lt (hlo k hk))]
    intro k hk hk2
    have h3 := hhi k hk hk2
    rcases Nat.lt_or_ge p k with h4 | h4
    · exact Int.lt_of_le_of_lt (hhi p (Nat.le_refl _) (by omega)) (Int.lt_of_lt_of_le (h2 p (by omega)) (rises_le h2 (p + 1) k h4 hk2))
    · have : k = p := by omega
      subst this
      rw [decide_eq_true hk2, Bool.true_and, beq_eq_false_iff_ne] at hf
      omega

/-- The turns one after the other. -/
def turnsL (l : List Int) : Nat → Int → List Int
  | 0, _ => []
  | d + 1, x => nextL l x :: turnsL l d (nextL l x)

theorem turnsL_len (l : List Int) : ∀ d x, (turnsL l d x).length = d := by
  intro d
  induction d with
  | zero => intro x; rfl
  | succ d ih => intro x; simp [turnsL, ih]

theorem equal_loop {h : Heap} {A B : Option Addr} {c c' : Nat} {l m : List Int} (ha : Rd 1 (eInt .i64) h A l) (hb : Rd 1 (eInt .i64) h B m) (hl : l.length = m.length) (hz : (l.length : Int) ≤ 9223372036854775806) :
    ∀ (d k : Nat), k + d = l.length → (l == m) = (l.drop k == m.drop k) → f48.l0 (fun u h' => u = .bool (l == m) ∧ h' = h) A l.length c B m.length c' (l.length : Int) (k : Int) h := by
  intro d
  induction d with
  | zero =>
    intro k hk e
    refine f48.l0_in ?_
    unfold f48.l0T
    refine split_dec (fun c => by omega) fun _ => ⟨?_, rfl⟩
    rw [e, List.drop_eq_nil_of_le (by omega), List.drop_eq_nil_of_le (by omega)]; rfl
  | succ d ih =>
    intro k hk e
    refine f48.l0_in ?_
    unfold f48.l0T
    refine split_dec (fun _ => ?_) (fun c => by omega)
    obtain ⟨a, cs, h1, h2, h3⟩ := ha k (by omega)
    obtain ⟨b, cs', h4, h5, h6⟩ := hb k (by omega)
    subst h1 h4
    rw [h3] at h2; rw [h6] at h5
    refine ⟨by omega, by omega, by omega, by omega, _, one_cells h2, _, rfl, _, one_cells h5, _, rfl, ?_⟩
    rw [List.drop_eq_getElem_cons (show k < l.length by omega), List.drop_eq_getElem_cons (show k < m.length by omega)] at e
    rw [List.cons_beq_cons] at e
    refine split_ne (fun c => ⟨?_, rfl⟩) (fun c => ?_)
    · rw [e, beq_eq_false_iff_ne.2 c]; rfl
    · rw [wrap_in (by omega) (by omega)]
      rw [beq_iff_eq.2 c, Bool.true_and] at e
      exact ih (k + 1) (by omega) e

theorem equal_spec {h : Heap} {A B : Option Addr} {c c' : Nat} {l m : List Int} (ha : Rd 1 (eInt .i64) h A l) (hb : Rd 1 (eInt .i64) h B m) (hz : (l.length : Int) ≤ 9223372036854775806) :
    Run Try.prog 48 #[.slice A l.length c, .slice B m.length c'] h fun u h' => u = .bool (l == m) ∧ h' = h := by
  refine f48.run ?_
  unfold f48.runT
  refine split_ne (fun c => ⟨?_, rfl⟩) (fun c => ?_)
  · rw [show (l == m) = false from beq_eq_false_iff_ne.2 fun e => c (by rw [e])]
  · exact equal_loop ha hb (by omega) hz l.length 0 (by omega) rfl

/-- One more turn is appended. -/
theorem push_int {lo : Nat} {h : Heap} {A : Option Addr} {n c : Nat} {l : List Int} {x : Int} {K : Value → Heap → Prop} (ho : Own lo 1 h A n c (l.map (Value.int .i64))) (hlo : lo ≤ h.size) (hn : n ≤ 1000000000)
    (hk : ∀ A' c' h', Own lo 1 h' A' (n + 1) c' ((l ++ [x]).map (Value.int .i64)) → ButA A h h' → K (.slice A' (n + 1) c') h') :
    newH h (.cells #[.int .i64 x] 3) fun h1 => AppW 3 1 8 #[.int .i64 0] A n c (.slice (some ⟨h.size, 0, none⟩) 1 1) h1 K := by
  refine ho.app_new (m := 1) hlo rfl rfl (fun v hv => by simp at hv; subst hv; trivial) (by omega) (by omega) fun A' c' h' o b => hk A' c' h' ?_ b
  simpa using o

theorem round_loop {h0 : Heap} {A : Option Addr} {c : Nat} {l : List Int} {R : Value → Heap → Prop} (hr : Rd 1 (eInt .i64) h0 A l) (hok : chk l = 0) (h1 : 0 < l.length) {t : Int} (ht : t ≤ 10000)
    {W : List Int} (hR : ∀ A' n' c' h', Own h0.size 1 h' A' n' c' (W.map (Value.int .i64)) → Ext h0 h' → R (.tuple #[.slice A' n' c', .int .i64 0]) h') :
    ∀ (d k : Nat) (x : Int) (h : Heap) (B : Option Addr) (c' : Nat) (m : List Int), (k : Int) + d = t → m.length = k → W = m ++ turnsL l d x → Own h0.size 1 h B k c' (m.map (Value.int .i64)) → Ext h0 h →
      f62.l0 R A l.length c x B k c' t (k : Int) h := by
  intro d
  induction d with
  | zero =>
    intro k x h B c' m hk hm hW ho e
    refine f62.l0_in ?_
    unfold f62.l0T
    refine split_dec (fun c => by omega) fun _ => hR _ _ _ _ ?_ e
    rw [hW]; simpa [turnsL] using ho
  | succ d ih =>
    intro k x h B c' m hk hm hW ho e
    refine f62.l0_in ?_
    unfold f62.l0T
    refine split_dec (fun _ => ?_) (fun c => by omega)
    refine (next_spec (hr.ext (mono_int _) e)).ret ⟨nextL l x, 0, ?_, ?_⟩
    · unfold nextV; rw [if_neg (by simpa using hok), if_neg (by omega)]
    refine push_int ho e.1 (by omega) fun A' c2 h' o b => ⟨_, _, _, rfl, ?_⟩
    have e1 : IntKind.wrap .i64 ((k : Int) + 1) = ((k + 1 : Nat) : Int) := by rw [wrap_in (by omega) (by omega)]; omega
    rw [e1]
    exact ih (k + 1) _ h' A' c2 (m ++ [nextL l x]) (by omega) (by simp [hm]) (by rw [hW]; simp [turnsL]) o (ho.keep b e (Nat.le_refl _))

def inR (t : Int) : Bool := decide (0 ≤ t) && decide (t ≤ 10000)
theorem in_spec {h : Heap} {t : Int} : Run Try.prog 30 #[.int .i64 t, .int .i64 0, .int .i64 10000] h fun u h' => u = .bool (inR t) ∧ h' = h := by
  refine f30.run ?_
  unfold f30.runT
  unfold inR
  refine split_dec (fun c => ⟨?_, rfl⟩) (fun c => ⟨?_, rfl⟩)
  · rw [decide_eq_true (show 0 ≤ t by omega), Bool.true_and]
  · rw [decide_eq_false (show ¬ 0 ≤ t by omega), Bool.false_and]

def badOf (l : List Int) (t : Int) : Int := if chk l = 0 then (if inR t then 0 else 1) else chk l

theorem round_spec {h : Heap} {A : Option Addr} {cA : Nat} {l : List Int} {x t : Int} {R : Value → Heap → Prop} (hr : Rd 1 (eInt .i64) h A l)
    (hR : ∀ A' n' c' h' m, Own h.size 1 h' A' n' c' (m.map (Value.int .i64)) → Ext h h' → (badOf l t ≠ 0 → m = []) → (badOf l t = 0 → m = if l.length = 0 then [] else turnsL l t.toNat x) → R (.tuple #[.slice A' n' c', .int .i64 (badOf l t)]) h') :
    Run Try.prog 62 #[.slice A l.length cA, .int .i64 x, .int .i64 t] h R := by
  refine f62.run ?_
  unfold f62.runT
  refine (check_spec hr).ret ⟨_, rfl, ?_⟩
  have bad : badOf l t ≠ 0 → f62.j0 R A l.length cA x t (badOf l t) h := by
    intro hb
    refine f62.j0_in ?_
    unfold f62.j0T
    refine split_ne (fun c => ?_) (fun c => absurd c hb)
    refine f62.j2_in ?_
    unfold f62.j2T
    exact split_t (hR none 0 0 h [] Own.nil ⟨Nat.le_refl _, fun _ _ => rfl⟩ (fun _ => rfl) (fun h => absurd h hb))
  refine split_eq (fun c => ?_) (fun c => ?_)
  · have one : inR t = false → f62.j0 R A l.length cA x t 1 h := by
      intro hi
      have : badOf l t = 1 := by unfold badOf; rw [if_pos c, hi]; rfl
      rw [this] at bad
      exact bad (by omega)
    refine split_dec (fun c2 => one ?_) (fun c2 => split_dec (fun c3 => one ?_) (fun c3 => ?_))
    · unfold inR; rw [decide_eq_false (show ¬ 0 ≤ t by omega), Bool.false_and]
    · unfold inR; rw [decide_eq_false (show ¬ t ≤ 10000 by omega), Bool.and_false]
    · have hi : inR t = true := by unfold inR; rw [decide_eq_true (show 0 ≤ t by omega), decide_eq_true (show t ≤ 10000 by omega)]; rfl
      have hb : badOf l t = 0 := by unfold badOf; rw [if_pos c, if_pos hi]
      rw [hb] at hR bad
      refine f62.j0_in ?_
      unfold f62.j0T
      refine split_ne (fun c4 => absurd c c4) (fun _ => ?_)
      refine f62.j2_in ?_
      unfold f62.j2T
      rw [c]
      refine split_eq (fun c5 => ?_) (fun c5 => ?_)
      · exact hR none 0 0 h [] Own.nil ⟨Nat.le_refl _, fun _ _ => rfl⟩ (fun h => absurd rfl h) (fun _ => by rw [if_pos (by omega)])
      · refine f62.j1_in ?_
        unfold f62.j1T
        refine round_loop (W := turnsL l t.toNat x) hr c (by omega) (t := t) (by omega) (fun A' n' c' h' o e => hR _ _ _ _ _ o e (fun h => absurd rfl h) (fun _ => by rw [if_neg (by omega)])) t.toNat 0 x h none 0 [] (by omega) rfl rfl Own.nil ⟨Nat.le_refl _, fun _ _ => rfl⟩
  · have : badOf l t = chk l := by unfold badOf; rw [if_neg c]
    rw [this] at bad
    exact bad c

theorem want_loop {h0 : Heap} {A : Option Addr} {cA : Nat} {l : List Int} {B : Option Addr} {cB : Nat} {g : List Int} (hr : Rd 1 (eInt .i64) h0 A l) (hg : Rd 1 (eInt .i64) h0 B g) (hok : chk l = 0) {t : Int} (ht : t ≤ 300) (hgl : g.length ≤ 300) {s : Heap} (es : Ext s h0) :
    ∀ (d k : Nat) (x : Int) (h : Heap) (D : Option Addr) (n c' : Nat) (m : List Int), (k : Int) + d = t → m.length = n → n ≤ k → (g = m ++ if l.length = 0 then [] else turnsL l d x) → Own h0.size 1 h D n c' (m.map (Value.int .i64)) → Ext h0 h →
      f10.l0 (fun u h' => u = .bool true ∧ Ext s h') A l.length cA x B g.length cB 0 D n c' t (k : Int) h := by
  intro d
  induction d with
  | zero =>
    intro k x h D n c' m hk hm hnk hW ho e
    refine f10.l0_in ?_
    unfold f10.l0T
    refine split_dec (fun c => by omega) fun _ => ?_
    have hgm : g = m := by rw [hW]; split <;> simp [turnsL]
    subst hgm
    subst hm
    refine (equal_spec (hg.ext (mono_int _) e) ho.ints (by omega)).ret ⟨_, rfl, ?_⟩
    rw [show (g == g) = true by simp]
    exact split_t ⟨rfl, es.trans e⟩
  | succ d ih =>
    intro k x h D n c' m hk hm hnk hW ho e
    refine f10.l0_in ?_
    unfold f10.l0T
    have e1 : IntKind.wrap .i64 ((k : Int) + 1) = ((k + 1 : Nat) : Int) := by rw [wrap_in (by omega) (by omega)]; omega
    refine split_dec (fun _ => ?_) (fun c => by omega)
    refine split_dec (fun c2 => ?_) (fun c2 => ?_)
    · refine (nextOf_spec (hr.ext (mono_int _) e) (chk_ok hok).1 (by omega)).ret ⟨_, rfl, ?_⟩
      refine push_int ho e.1 (by omega) fun A' c3 h' o b => ⟨_, _, _, rfl, ?_⟩
      rw [e1]
      rw [if_neg (by omega)] at hW
      exact ih (k + 1) _ h' A' _ c3 (m ++ [nextL l x]) (by omega) (by simp [hm]) (by omega) (by rw [hW, if_neg (by omega)]; simp [turnsL]) o (ho.keep b e (Nat.le_refl _))
    · rw [e1]
      rw [if_pos (by omega)] at hW
      exact ih (k + 1) _ h D n c' m (by omega) hm (by omega) (by rw [hW, if_pos (by omega)]) ho e

theorem TurnTells_run {h : Heap} {A : Option Addr} {c : Nat} {l : List Int} {x t : Int} (hr : Rd 1 (eInt .i64) h A l) :
    Run Try.prog 10 #[.slice A l.length c, .int .i64 x, .int .i64 t] h fun v h' => v = .bool true ∧ Ext h h' := by
  refine f10.run ?_
  unfold f10.runT
  refine (next_spec hr).ret ?_
  have part2 : f10.j0 (fun v h' => v = .bool true ∧ Ext h h') A l.length c x t (chk l) h := by
    refine f10.j0_in ?_
    unfold f10.j0T
    have main : ¬ (t > 300 ∧ t ≤ 10000) → f10.j1 (fun v h' => v = .bool true ∧ Ext h h') A l.length c x t (chk l) h := by
      intro hn
      refine f10.j1_in ?_
      unfold f10.j1T
      refine round_spec hr fun A' n' c' h' m o e hm1 hm2 => ⟨_, _, _, _, rfl, ?_⟩
      have fin : f10.j2 (fun v h' => v = .bool true ∧ Ext h h') A l.length c x t (badOf l t) A' n' c' (badOf l t) h' := by
        refine f10.j2_in ?_
        unfold f10.j2T
        have hnm : n' = m.length := by have := o.len; simpa using this
        refine split_ne (fun c => ?_) (fun c => ?_)
        · rw [hm1 c] at hnm
          refine split_eq (fun _ => ?_) (fun c2 => absurd (by rw [hnm]; rfl) c2)
          exact ⟨by rw [beq_self_eq_true], e⟩
        · have hok : chk l = 0 ∧ inR t = true := by
            unfold badOf at c
            by_cases h1 : chk l = 0
            · rw [if_pos h1] at c
              by_cases h2 : inR t = true
              · exact ⟨h1, h2⟩
              · rw [if_neg h2] at c; omega
            · rw [if_neg h1] at c; exact absurd c h1
          have hR := hok.2
          unfold inR at hR
          rw [Bool.and_eq_true, decide_eq_true_eq, decide_eq_true_eq] at hR
          rw [c]
          have hml := hm2 c
          have hlen : m.length ≤ 300 := by rw [hml]; split <;> simp [turnsL_len]; omega
          subst hnm
          exact want_loop (hr.ext (mono_int _) e) o.ints hok.1 (by omega) hlen e t.toNat 0 x h' none 0 0 [] (by omega) rfl (Nat.le_refl _) (by simpa using hml) Own.nil ⟨Nat.le_refl _, fun _ _ => rfl⟩
      refine split_eq (fun c => ?_) (fun c => ?_)
      · refine in_spec.ret ⟨_, rfl, ?_⟩
        refine split_not (split_any (fun hi => ?_) (fun hi => ?_))
        · have : badOf l t = chk l := by unfold badOf; rw [if_pos c, if_pos hi, c]
          rw [this] at fin; exact this ▸ fin
        · have : badOf l t = 1 := by unfold badOf; rw [if_pos c, hi]; rfl
          rw [this] at fin; exact this ▸ fin
      · have : badOf l t = chk l := by unfold badOf; rw [if_neg c]
        rw [this] at fin; exact this ▸ fin
    refine split_dec (fun c => split_dec (fun c2 => ⟨rfl, ⟨Nat.le_refl _, fun _ _ => rfl⟩⟩) (fun c2 => main (by omega))) (fun c => main (by omega))
  have tup : ∀ K : Int → Int → Prop, (chk l ≠ 0 → K 0 (chk l)) → (chk l = 0 → l.length = 0 → K 0 4) → (chk l = 0 → l.length ≠ 0 → K (nextL l x) 0) → ∃ a b, nextV l x = .tuple #[.int .i64 a, .int .i64 b] ∧ K a b := by
    intro K k1 k2 k3
    unfold nextV
    by_cases c1 : chk l = 0
    · rw [if_neg (by simpa using c1)]
      by_cases c2 : l.length = 0
      · rw [if_pos c2]; exact ⟨_, _, rfl, k2 c1 c2⟩
      · rw [if_neg c2]; exact ⟨_, _, rfl, k3 c1 c2⟩
    · rw [if_pos c1]; exact ⟨_, _, rfl, k1 c1⟩
  refine tup _ (fun c1 => ?_) (fun c1 c2 => ?_) (fun c1 c2 => ?_)
  · refine (fault_spec hr).ret ⟨_, rfl, (check_spec hr).ret ⟨_, rfl, ?_⟩⟩
    refine split_ne (fun c => absurd rfl c) fun _ => split_ne (fun _ => ?_) (fun c => absurd c c1)
    exact split_ne (fun c => absurd rfl c) fun _ => split_ne (fun c => absurd rfl c) fun _ => part2
  · refine (fault_spec hr).ret ⟨_, rfl, (check_spec hr).ret ⟨_, rfl, ?_⟩⟩
    refine split_ne (fun c => absurd rfl c) fun _ => split_ne (fun c => absurd c1 c) (fun _ => ?_)
    refine split_eq (fun _ => ?_) (fun c => absurd (by rw [c2]; rfl) c)
    exact split_ne (fun c => absurd rfl c) fun _ => split_ne (fun c => absurd rfl c) fun _ => part2
  · refine (fault_spec hr).ret ⟨_, rfl, (check_spec hr).ret ⟨_, rfl, ?_⟩⟩
    refine split_ne (fun c => absurd rfl c) fun _ => split_ne (fun c => absurd c1 c) (fun _ => ?_)
    refine split_eq (fun c => absurd (by omega) c2) (fun _ => ?_)
    refine (nextOf_spec hr (chk_ok c1).1 (by omega)).ret ⟨_, rfl, ?_⟩
    exact split_ne (fun c => absurd rfl c) fun _ => split_ne (fun c => absurd rfl c) fun _ => part2
end Go.Proofs.Ytbpfmlgnlcfbcaa.Fw
