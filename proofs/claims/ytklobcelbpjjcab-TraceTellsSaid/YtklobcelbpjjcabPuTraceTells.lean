/- What leads to an event: the law TraceTells over numbers and lists alone (no memory, no Go). -/
import Derived.Test.YtklobcelbpjjcabLfTraceTells
namespace Go.Proofs.Ytklobcelbpjjcab.Fw
open Go Go.Hw Go.Proofs
set_option linter.unusedVariables false
abbrev Ev := T_api_Event

/-! ### Histories -/
def has (k : Int) (l : List Ev) (m : Int) : Bool := l.any fun x => x.Kind == k && x.Msg == m
def stepErr (pre : List Ev) (e : Ev) : Int :=
  if e.Kind < 1 ∨ e.Kind > 3 then 3
  else if e.Place < 0 ∨ e.Place > 7 ∨ (e.Kind ≠ 1 ∧ (e.Msg < 0 ∨ e.Msg > 999)) then 1
  else if e.Kind = 2 then (if has 2 pre e.Msg = true then 5 else 0)
  else if e.Kind = 3 then (if has 2 pre e.Msg = true then (if has 3 pre e.Msg = true then 5 else 0) else 4)
  else 0
def hist : List Ev → List Ev → Int
  | _, [] => 0
  | pre, e :: r => if stepErr pre e = 0 then hist (pre ++ [e]) r else stepErr pre e
theorem has_snoc (k : Int) (l : List Ev) (e : Ev) (m : Int) : has k (l ++ [e]) m = (has k l m || (e.Kind == k && e.Msg == m)) := by simp [has]
theorem hist_cons (pre : List Ev) (e : Ev) (r : List Ev) : hist pre (e :: r) = if stepErr pre e = 0 then hist (pre ++ [e]) r else stepErr pre e := rfl

theorem hist_bad {pre : List Ev} {e : Ev} {r : List Ev} {c : Int} (h : stepErr pre e = c) (hc : c ≠ 0) : hist pre (e :: r) = c := by rw [hist_cons, h, if_neg hc]
theorem hist_ok {pre : List Ev} {e : Ev} {r : List Ev} (h : stepErr pre e = 0) : hist pre (e :: r) = hist (pre ++ [e]) r := by rw [hist_cons, if_pos h]
theorem check_loop {l : List Ev} (hl : l.length ≤ 200) : ∀ (r pre : List Ev) (es3 es4 : List (Int × Bool)), (∀ m, pgd es3 m false = has 2 pre m) → (∀ m, pgd es4 m false = has 3 pre m) → l = pre ++ r →
    clock_Check.l0 es3 es4 l (l.length : Int) (pre.length : Int) = some (hist pre r) := by
  intro r
  induction r with
  | nil =>
    intro pre es3 es4 h3 h4 e
    rw [clock_Check.l0_eq, if_neg (by rw [e]; simp)]; rfl
  | cons e r ih =>
    intro pre es3 es4 h3 h4 he
    have hlen : l.length = pre.length + (r.length + 1) := by rw [he]; simp
    have hn : ∀ es3 es4, (∀ m, pgd es3 m false = has 2 (pre ++ [e]) m) → (∀ m, pgd es4 m false = has 3 (pre ++ [e]) m) → clock_Check.l0 es3 es4 l (l.length : Int) (IntKind.wrap .i64 ((pre.length : Int) + 1)) = some (hist (pre ++ [e]) r) := by
      intro a b ha hb
      rw [w_succ (by omega)]
      have := ih (pre ++ [e]) a b ha hb (by simpa using he)
      simpa using this
    rw [clock_Check.l0_eq, if_pos (by omega), gi_some (k := pre.length) rfl (by rw [he]; simp : l[pre.length]? = some e), Option.bind_some]
    by_cases k1 : e.Kind < 1
    · rw [if_pos k1, hist_bad (c := 3) (by rw [stepErr, if_pos (by omega)]) (by decide)]
    rw [if_neg k1]
    by_cases k3 : e.Kind > 3
    · rw [if_pos k3, hist_bad (c := 3) (by rw [stepErr, if_pos (by omega)]) (by decide)]
    rw [if_neg k3, clock_Check.j0_eq]
    by_cases p0 : e.Place < 0
    · rw [if_pos p0, hist_bad (c := 1) (by rw [stepErr, if_neg (by omega), if_pos (by omega)]) (by decide)]
    rw [if_neg p0]
    by_cases p8 : e.Place ≥ 8
    · rw [if_pos p8, hist_bad (c := 1) (by rw [stepErr, if_neg (by omega), if_pos (by omega)]) (by decide)]
    rw [if_neg p8]
    have fin : (e.Kind ≠ 1 → ¬ (e.Msg < 0 ∨ e.Msg > 999)) → clock_Check.j1 es3 es4 e l (l.length : Int) (pre.length : Int) = some (hist pre (e :: r)) := by
      intro hm
      have hm' : ¬ (e.Place < 0 ∨ e.Place > 7 ∨ (e.Kind ≠ 1 ∧ (e.Msg < 0 ∨ e.Msg > 999))) := by omega
      rw [clock_Check.j1_eq, h3, h4]
      by_cases k2 : e.Kind = 2
      · rw [if_pos k2]
        by_cases hs : has 2 pre e.Msg = true
        · rw [if_pos hs, hist_bad (c := 5) (by rw [stepErr, if_neg (by omega), if_neg hm', if_pos k2, if_pos hs]) (by decide)]
        · rw [if_neg hs, hist_ok (by rw [stepErr, if_neg (by omega), if_neg hm', if_pos k2, if_neg hs]), Option.bind_some]
          refine hn _ _ (fun m => ?_) (fun m => ?_)
          · have := h3 m
            unfold pgd at this ⊢
            rw [pget_pset, has_snoc]
            by_cases hme : m = e.Msg
            · rw [if_pos hme]; simp [k2, hme]
            · rw [if_neg hme, this]; simp [Ne.symm hme]
          · rw [h4, has_snoc]; simp [k2]
      · rw [if_neg k2]
        by_cases k3' : e.Kind = 3
        · rw [if_pos k3']
          by_cases hs : has 2 pre e.Msg = true
          · rw [if_pos hs]
            by_cases ht : has 3 pre e.Msg = true
            · rw [if_pos ht, hist_bad (c := 5) (by rw [stepErr, if_neg (by omega), if_neg hm', if_neg k2, if_pos k3', if_pos hs, if_pos ht]) (by decide)]
            · rw [if_neg ht, hist_ok (by rw [stepErr, if_neg (by omega), if_neg hm', if_neg k2, if_pos k3', if_pos hs, if_neg ht]), Option.bind_some]
              refine hn _ _ (fun m => ?_) (fun m => ?_)
              · rw [h3, has_snoc]; simp [k3']
              · have := h4 m
                unfold pgd at this ⊢
                rw [pget_pset, has_snoc]
                by_cases hme : m = e.Msg
                · rw [if_pos hme]; simp [k3', hme]
                · rw [if_neg hme, this]; simp [Ne.symm hme]
          · rw [if_neg hs, hist_bad (c := 4) (by rw [stepErr, if_neg (by omega), if_neg hm', if_neg k2, if_pos k3', if_neg hs]) (by decide)]
        · rw [if_neg k3', hist_ok (by rw [stepErr, if_neg (by omega), if_neg hm', if_neg k2, if_neg k3'])]
          refine hn _ _ (fun m => ?_) (fun m => ?_)
          · rw [h3, has_snoc]; simp [k2]
          · rw [h4, has_snoc]; simp [k3']
    by_cases kk : e.Kind = 1
    · rw [if_pos kk]; exact fin (fun h => absurd kk h)
    rw [if_neg kk]
    by_cases m0 : e.Msg < 0
    · rw [if_pos m0, hist_bad (c := 1) (by rw [stepErr, if_neg (by omega), if_pos (by omega)]) (by decide)]
    rw [if_neg m0]
    by_cases m9 : e.Msg > 999
    · rw [if_pos m9, hist_bad (c := 1) (by rw [stepErr, if_neg (by omega), if_pos (by omega)]) (by decide)]
    rw [if_neg m9]
    exact fin (fun _ => by omega)
def histErr (l : List Ev) : Int := if l.length > 200 then 2 else hist [] l
theorem check_val (l : List Ev) : clock_Check l = some (histErr l) := by
  unfold clock_Check histErr
  by_cases h : l.length > 200
  · rw [if_pos (by omega), if_pos h]
  · rw [if_neg (by omega), if_neg h]
    exact check_loop (by omega) l [] [] [] (fun _ => rfl) (fun _ => rfl) rfl

theorem within_val (x a b : Int) : roadref4_within x a b = some (decide (a ≤ x ∧ x ≤ b)) := by
  unfold roadref4_within
  by_cases h : x ≥ a
  · rw [if_pos h]; congr 1; exact decide_eq_decide.2 ⟨fun k => ⟨h, k⟩, fun k => k.2⟩
  · rw [if_neg h, decide_eq_false (fun k => h k.1)]
theorem hist1_val {l pre r : List Ev} {e : Ev} (hl : l.length ≤ 200) (he : l = pre ++ e :: r) (k : Int) : roadref4_History_1 k l (pre.length : Int) e = some (has k pre e.Msg) := by
  unfold roadref4_History_1
  rw [sls_take (k := pre.length) rfl (by rw [he]; simp), Option.bind_some]
  have ht : l.take pre.length = pre := by rw [he]; simp
  have hpl : pre.length ≤ 200 := by
    have : l.length = pre.length + (r.length + 1) := by rw [he]; simp
    omega
  rw [ht, slices_ContainsFunc_79.val (fun x => x.Kind == k && x.Msg == e.Msg) (fun x _ => ?_) (by omega), Option.bind_some]
  · rfl
  · unfold roadref4_History_1_1
    by_cases h : x.Kind = k
    · rw [if_pos h]; simp [h]
    · rw [if_neg h]; simp [h]
theorem hist_loop {l : List Ev} (hl : l.length ≤ 200) : ∀ (r pre : List Ev), l = pre ++ r → roadref4_History.l0 l l (l.length : Int) (pre.length : Int) = some (hist pre r) := by
  intro r
  induction r with
  | nil =>
    intro pre e
    rw [roadref4_History.l0_eq, if_neg (by rw [e]; simp)]; rfl
  | cons e r ih =>
    intro pre he
    have hlen : l.length = pre.length + (r.length + 1) := by rw [he]; simp
    have hn : roadref4_History.l0 l l (l.length : Int) (IntKind.wrap .i64 ((pre.length : Int) + 1)) = some (hist (pre ++ [e]) r) := by
      rw [w_succ (by omega)]
      have := ih (pre ++ [e]) (by simpa using he)
      simpa using this
    have hv := fun k => hist1_val hl he k
    rw [roadref4_History.l0_eq, if_pos (by omega), gi_some (k := pre.length) rfl (by rw [he]; simp : l[pre.length]? = some e), Option.bind_some, within_val, Option.bind_some]
    by_cases k1 : e.Kind < 1 ∨ e.Kind > 3
    · rw [if_neg (by simp; omega), hist_bad (c := 3) (by rw [stepErr, if_pos (by omega)]) (by decide)]
    rw [if_pos (by simp; omega), within_val, Option.bind_some]
    have hj0 : ∀ b, b = decide (e.Place < 0 ∨ e.Place > 7 ∨ (e.Kind ≠ 1 ∧ (e.Msg < 0 ∨ e.Msg > 999))) → roadref4_History.j0 l e (pre.length : Int) l (l.length : Int) (pre.length : Int) b = some (hist pre (e :: r)) := by
      rintro b rfl
      rw [roadref4_History.j0_eq]
      by_cases hb : e.Place < 0 ∨ e.Place > 7 ∨ (e.Kind ≠ 1 ∧ (e.Msg < 0 ∨ e.Msg > 999))
      · rw [decide_eq_true hb, if_pos rfl, hist_bad (c := 1) (by rw [stepErr, if_neg (by omega), if_pos hb]) (by decide)]
      rw [decide_eq_false hb, if_neg (by decide)]
      by_cases k2 : e.Kind = 2
      · rw [if_pos k2, hv, Option.bind_some, roadref4_History.j1_eq]
        by_cases hs : has 2 pre e.Msg = true
        · rw [if_pos hs, hist_bad (c := 5) (by rw [stepErr, if_neg (by omega), if_neg hb, if_pos k2, if_pos hs]) (by decide)]
        · rw [if_neg hs, if_neg (by omega), roadref4_History.j2_eq, if_neg (by decide), if_neg (by omega), hist_ok (by rw [stepErr, if_neg (by omega), if_neg hb, if_pos k2, if_neg hs])]; exact hn
      · rw [if_neg k2, roadref4_History.j1_eq, if_neg (by decide)]
        by_cases k3 : e.Kind = 3
        · rw [if_pos k3, hv, Option.bind_some, roadref4_History.j2_eq, if_pos k3, hv]
          by_cases hs : has 2 pre e.Msg = true
          · rw [hs, if_neg (by decide), Option.bind_some]
            by_cases ht : has 3 pre e.Msg = true
            · rw [if_pos ht, hist_bad (c := 5) (by rw [stepErr, if_neg (by omega), if_neg hb, if_neg k2, if_pos k3, if_pos hs, if_pos ht]) (by decide)]
            · rw [if_neg ht, hist_ok (by rw [stepErr, if_neg (by omega), if_neg hb, if_neg k2, if_pos k3, if_pos hs, if_neg ht])]; exact hn
          · rw [if_pos (by simpa using hs), hist_bad (c := 4) (by rw [stepErr, if_neg (by omega), if_neg hb, if_neg k2, if_pos k3, if_neg hs]) (by decide)]
        · rw [if_neg k3, roadref4_History.j2_eq, if_neg (by decide), if_neg k3, hist_ok (by rw [stepErr, if_neg (by omega), if_neg hb, if_neg k2, if_neg k3])]; exact hn
    by_cases hp : e.Place < 0 ∨ e.Place > 7
    · rw [decide_eq_false (by omega), if_neg (by decide)]
      exact hj0 _ (by rw [decide_eq_true (by omega)]; rfl)
    · rw [decide_eq_true (by omega), if_pos rfl]
      by_cases hk : e.Kind > 1
      · rw [if_pos hk, within_val, Option.bind_some]
        refine hj0 _ ?_
        rw [← decide_not]
        exact decide_eq_decide.2 ⟨fun h => .inr (.inr ⟨by omega, by omega⟩), fun h => by omega⟩
      · rw [if_neg hk]
        exact hj0 _ (by rw [decide_eq_false (by omega)])
theorem history_val (l : List Ev) : roadref4_History l = some (histErr l) := by
  unfold roadref4_History histErr
  by_cases h : l.length > 200
  · rw [if_pos (by omega), if_pos h]
  · rw [if_neg (by omega), if_neg h]
    exact hist_loop (by omega) l [] rfl
/-- A history that may be: each event is of the right form. -/
theorem hist_right : ∀ (r pre : List Ev), hist pre r = 0 → ∀ e ∈ r, 1 ≤ e.Kind ∧ e.Kind ≤ 3 ∧ 0 ≤ e.Place ∧ e.Place ≤ 7 ∧ (e.Kind ≠ 1 → 0 ≤ e.Msg ∧ e.Msg ≤ 999) := by
  intro r
  induction r with
  | nil => intro pre _ e he; cases he
  | cons x r ih =>
    intro pre h e he
    rw [hist_cons] at h
    by_cases hs : stepErr pre x = 0
    · rw [if_pos hs] at h
      rcases List.mem_cons.1 he with rfl | he
      · unfold stepErr at hs
        by_cases k1 : e.Kind < 1 ∨ e.Kind > 3
        · rw [if_pos k1] at hs; omega
        rw [if_neg k1] at hs
        by_cases k2 : e.Place < 0 ∨ e.Place > 7 ∨ (e.Kind ≠ 1 ∧ (e.Msg < 0 ∨ e.Msg > 999))
        · rw [if_pos k2] at hs; omega
        omega
      · exact ih _ h e he
    · rw [if_neg hs] at h; exact absurd h hs
theorem histErr_right {l : List Ev} (h : histErr l = 0) : l.length ≤ 200 ∧ ∀ e ∈ l, 1 ≤ e.Kind ∧ e.Kind ≤ 3 ∧ 0 ≤ e.Place ∧ e.Place ≤ 7 ∧ (e.Kind ≠ 1 → 0 ≤ e.Msg ∧ e.Msg ≤ 999) := by
  unfold histErr at h
  by_cases hl : l.length > 200
  · rw [if_pos hl] at h; omega
  · rw [if_neg hl] at h; exact ⟨by omega, hist_right _ _ h⟩


/-! ### What an event knows -/
def ev (l : List Ev) (k : Nat) : Ev := (l[k]?).getD ⟨0, 0, 0⟩
abbrev pl (l : List Ev) (k : Nat) : Int := (ev l k).Place
def Dir (a b : Ev) : Prop := b.Place = a.Place ∨ (a.Kind = 3 ∧ b.Kind = 2 ∧ b.Msg = a.Msg)
inductive Pst (l : List Ev) : Nat → Nat → Prop
  | base {i j : Nat} : j < i → Dir (ev l i) (ev l j) → Pst l i j
  | step {i j k : Nat} : j < i → Dir (ev l i) (ev l j) → Pst l j k → Pst l i k
def DS (l : List Ev) (i k : Nat) : Prop := k = i ∨ Pst l i k
theorem pst_iff {l : List Ev} {i k : Nat} : Pst l i k ↔ ∃ j, j < i ∧ Dir (ev l i) (ev l j) ∧ DS l j k := by
  constructor
  · intro h
    cases h with
    | base a b => exact ⟨_, a, b, .inl rfl⟩
    | step a b c => exact ⟨_, a, b, .inr c⟩
  · rintro ⟨j, a, b, rfl | c⟩
    · exact .base a b
    · exact .step a b c
theorem Pst.lt {l : List Ev} {i k : Nat} (h : Pst l i k) : k < i := by
  induction h with
  | base a _ => exact a
  | step a _ _ ih => omega
theorem Pst.trans {l : List Ev} {i j k : Nat} (h : Pst l i j) (g : Pst l j k) : Pst l i k := by
  induction h with
  | base a b => exact .step a b g
  | step a b _ ih => exact .step a b (ih g)
theorem DS.le {l : List Ev} {i k : Nat} (h : DS l i k) : k ≤ i := by
  rcases h with rfl | h
  · exact Nat.le_refl _
  · exact Nat.le_of_lt h.lt
theorem DS.trans {l : List Ev} {i j k : Nat} (h : DS l i j) (g : DS l j k) : DS l i k := by
  rcases h with rfl | h
  · exact g
  · rcases g with rfl | g
    · exact .inr h
    · exact .inr (h.trans g)
/-- Closed to what came before at the same place. -/
def Dc (l : List Ev) (A : Nat → Prop) : Prop := ∀ k k', A k → k' < k → pl l k' = pl l k → A k'
theorem DS.dc {l : List Ev} {i : Nat} : Dc l (DS l i) := fun k k' h hk hp => DS.trans h (.inr (.base hk (.inl hp)))
theorem Dc.or {l : List Ev} {A B : Nat → Prop} (a : Dc l A) (b : Dc l B) : Dc l fun k => A k ∨ B k := by
  rintro k k' (h | h) hk hp
  · exact .inl (a k k' h hk hp)
  · exact .inr (b k k' h hk hp)
open Classical in
noncomputable def cn (l : List Ev) (A : Nat → Prop) (q : Int) : Nat := (List.range l.length).countP fun k => decide (A k ∧ pl l k = q)
theorem cn_le {l : List Ev} {A B : Nat → Prop} {q : Int} (h : ∀ k, A k → pl l k = q → B k) : cn l A q ≤ cn l B q := by
  unfold cn
  refine List.countP_mono_left fun k _ hk => ?_
  simp only [decide_eq_true_eq] at hk ⊢
  exact ⟨h k hk.1 hk.2, hk.2⟩
theorem cn_eq {l : List Ev} {A B : Nat → Prop} {q : Int} (h : ∀ k, pl l k = q → (A k ↔ B k)) : cn l A q = cn l B q :=
  Nat.le_antisymm (cn_le fun k a b => (h k b).1 a) (cn_le fun k a b => (h k b).2 a)
theorem cn_bound {l : List Ev} {A : Nat → Prop} {q : Int} : cn l A q ≤ l.length := by
  unfold cn; exact Nat.le_trans List.countP_le_length (by simp)
theorem countP_add {p q : Nat → Bool} {i : Nat} (hq : q i = true) (hp : p i = false) (h : ∀ k, k ≠ i → q k = p k) : ∀ (n : Nat), i < n → (List.range n).countP q = (List.range n).countP p + 1 := by
  intro n
  induction n with
  | zero => intro h; omega
  | succ n ih =>
    intro hi
    rw [List.range_succ, List.countP_append, List.countP_append]
    simp only [List.countP_cons, List.countP_nil]
    by_cases hn : i < n
    · rw [ih hn, h n (by omega)]; omega
    · have : i = n := by omega
      subst this
      rw [hq, hp]
      have : (List.range i).countP q = (List.range i).countP p := by
        refine List.countP_congr fun k hk => ?_
        rw [h k (by have := List.mem_range.1 hk; omega)]
      rw [this]; simp
theorem cn_add {l : List Ev} {A B : Nat → Prop} {i : Nat} (hi : i < l.length) (hb : B i) (ha : ¬ A i) (h : ∀ k, k ≠ i → pl l k = pl l i → (B k ↔ A k)) : cn l B (pl l i) = cn l A (pl l i) + 1 := by
  unfold cn
  refine countP_add (i := i) (by simp [hb]) (by simp [ha]) (fun k hk => ?_) _ hi
  refine decide_eq_decide.2 ⟨fun g => ⟨(h k hk g.2).1 g.1, g.2⟩, fun g => ⟨(h k hk g.2).2 g.1, g.2⟩⟩
theorem cn_or {l : List Ev} {A B : Nat → Prop} {q : Int} (a : Dc l A) (b : Dc l B) : cn l (fun k => A k ∨ B k) q = max (cn l A q) (cn l B q) := by
  have key : (∀ k, A k → pl l k = q → B k) ∨ (∀ k, B k → pl l k = q → A k) := by
    by_cases h : ∀ k, A k → pl l k = q → B k
    · exact .inl h
    · refine .inr fun k hB hk => ?_
      have ⟨x, hx⟩ := Classical.not_forall.1 h
      have ⟨hA, hx⟩ := Classical.not_imp.1 hx
      have ⟨hq, hnB⟩ := Classical.not_imp.1 hx
      by_cases hl : k < x
      · exact a x k hA hl (by rw [hk, hq])
      · by_cases he : k = x
        · subst he; exact hA
        · exact absurd (b k x hB (by omega) (by rw [hk, hq])) hnB
  rcases key with h | h
  · have h1 := cn_le h
    have : cn l (fun k => A k ∨ B k) q = cn l B q := cn_eq fun k hk => ⟨fun g => g.elim (fun g => h k g hk) id, .inr⟩
    omega
  · have h1 := cn_le h
    have : cn l (fun k => A k ∨ B k) q = cn l A q := cn_eq fun k hk => ⟨fun g => g.elim id (fun g => h k g hk), .inl⟩
    omega
/-- A clock: of each place how many events. -/
noncomputable def Row (l : List Ev) (A : Nat → Prop) : List Int := (List.range 8).map fun (q : Nat) => ((cn l A (q : Int) : Nat) : Int)
theorem row_len {l : List Ev} {A : Nat → Prop} : (Row l A).length = 8 := by simp [Row]
theorem row_at {l : List Ev} {A : Nat → Prop} {q : Nat} (h : q < 8) : (Row l A)[q]? = some (cn l A (q : Int) : Int) := by
  unfold Row; rw [List.getElem?_map, List.getElem?_range h]; rfl
theorem row_ext {l : List Ev} {A B : Nat → Prop} (h : ∀ k, A k ↔ B k) : Row l A = Row l B := by
  have : A = B := funext fun k => propext (h k)
  rw [this]
theorem row_none {l : List Ev} {A : Nat → Prop} (h : ∀ k, ¬ A k) : Row l A = List.replicate 8 0 := by
  have : ∀ q, cn l A q = 0 := fun q => by unfold cn; exact List.countP_eq_zero.2 fun k _ => by simp [h k]
  unfold Row
  simp only [this]
  rfl
theorem row_set {l : List Ev} {A B : Nat → Prop} {i p : Nat} (hi : i < l.length) (hp : pl l i = p) (h8 : p < 8) (ha : ¬ A i) (hb : ∀ k, B k ↔ A k ∨ k = i) :
    (Row l A).set p ((cn l A (p : Int) : Int) + 1) = Row l B := by
  refine List.ext_getElem? fun q => ?_
  by_cases hq : q < 8
  · rw [row_at hq, List.getElem?_set]
    by_cases he : p = q
    · subst he
      rw [if_pos rfl, if_pos (by rw [row_len]; exact hq), ← hp, cn_add (A := A) (B := B) hi ((hb i).2 (.inr rfl)) ha (fun k hk _ => ⟨fun g => ((hb k).1 g).resolve_right hk, fun g => (hb k).2 (.inl g)⟩)]
      rfl
    · rw [if_neg he, row_at hq, cn_eq (A := B) (B := A) fun k hk => ⟨fun g => ((hb k).1 g).resolve_right (fun e => he (by subst e; omega)), fun g => (hb k).2 (.inl g)⟩]
  · rw [List.getElem?_eq_none (by simp [row_len]; omega), List.getElem?_eq_none (by rw [row_len]; omega)]

/-! ### Rows of numbers -/
theorem at_row {l : List Ev} {A : Nat → Prop} {q : Nat} (h : q < 8) : clock_at (Row l A) (q : Int) = some (cn l A (q : Int) : Int) := by
  unfold clock_at
  rw [if_pos (by rw [row_len]; omega), gi_some (k := q) rfl (row_at h), Option.bind_some]
theorem at_nil {q : Nat} : clock_at [] (q : Int) = some 0 := by unfold clock_at; rw [if_neg (by simp)]
theorem join_loop {a0 a1 : List Int} {f g : Nat → Int} (h0 : ∀ q : Nat, q < 8 → clock_at a0 (q : Int) = some (f q)) (h1 : ∀ q : Nat, q < 8 → clock_at a1 (q : Int) = some (g q)) :
    ∀ (d i : Nat) (a : List Int), i + d = 8 → a.length = 8 → (∀ q, q < i → a[q]? = some (if g q > f q then g q else f q)) → clock_Join.l0 a0 a1 a (8 : Int) (i : Int) = some ((List.range 8).map fun q => if g q > f q then g q else f q) := by
  intro d
  induction d with
  | zero =>
    intro i a hi hl ha
    rw [clock_Join.l0_eq, if_neg (by omega)]
    congr 1
    refine List.ext_getElem? fun q => ?_
    by_cases hq : q < 8
    · rw [ha q (by omega), List.getElem?_map, List.getElem?_range hq]; rfl
    · rw [List.getElem?_eq_none (by omega), List.getElem?_eq_none (by simp; omega)]
  | succ d ih =>
    intro i a hi hl ha
    rw [clock_Join.l0_eq, if_pos (by omega), h0 i (by omega), Option.bind_some, h1 i (by omega), Option.bind_some, gi_at (by omega), Option.bind_some, Option.bind_some, w_succ (by omega)]
    refine ih (i + 1) _ (by omega) (by simpa using hl) fun q hq => ?_
    rw [List.getElem?_set]
    by_cases he : i = q
    · subst he; rw [if_pos (by simp), if_pos (by simp; omega)]
    · rw [if_neg (by simpa using he), ha q (by omega)]
theorem join_val {a0 a1 : List Int} {f g : Nat → Int} (h0 : ∀ q : Nat, q < 8 → clock_at a0 (q : Int) = some (f q)) (h1 : ∀ q : Nat, q < 8 → clock_at a1 (q : Int) = some (g q)) (hl : (if (a1.length : Int) > (a0.length : Int) then (a1.length : Int) else (a0.length : Int)) = 8) :
    clock_Join a0 a1 = some ((List.range 8).map fun q => if g q > f q then g q else f q) := by
  unfold clock_Join
  rw [hl, mks_of (k := 8) (x := 8) rfl (by omega) (by omega), Option.bind_some]
  exact join_loop h0 h1 8 0 _ rfl (by simp) (fun q h => absurd h (by omega))
theorem join_rows {l : List Ev} {A B : Nat → Prop} (a : Dc l A) (b : Dc l B) : clock_Join (Row l A) (Row l B) = some (Row l fun k => A k ∨ B k) := by
  rw [join_val (f := fun q => (cn l A (q : Int) : Int)) (g := fun q => (cn l B (q : Int) : Int)) (fun q h => at_row h) (fun q h => at_row h) (by rw [row_len, row_len]; rfl)]
  congr 1
  unfold Row
  refine List.map_congr_left fun q _ => ?_
  rw [cn_or a b]
  split <;> omega
theorem join_nil {l : List Ev} {A : Nat → Prop} : clock_Join (Row l A) [] = some (Row l A) := by
  rw [join_val (f := fun q => (cn l A (q : Int) : Int)) (g := fun _ => 0) (fun q h => at_row h) (fun q h => at_nil) (by rw [row_len]; rfl)]
  refine congrArg some ?_
  unfold Row
  refine List.map_congr_left fun q _ => ?_
  show (if (0 : Int) > _ then _ else _) = _
  rw [if_neg (by omega)]
theorem less_loop {a0 a1 : List Int} {f g : Nat → Int} (h0 : ∀ q : Nat, q < 8 → clock_at a0 (q : Int) = some (f q)) (h1 : ∀ q : Nat, q < 8 → clock_at a1 (q : Int) = some (g q)) :
    ∀ (d i : Nat) (b : Bool), i + d = 8 → (b = true ↔ ∃ q, q < i ∧ f q < g q) → (∀ q, q < i → f q ≤ g q) → ∃ r, clock_Less.l0 a0 a1 b (8 : Int) (i : Int) = some r ∧ (r = true ↔ (∀ q, q < 8 → f q ≤ g q) ∧ ∃ q, q < 8 ∧ f q < g q) := by
  intro d
  induction d with
  | zero =>
    intro i b hi hb ha
    have : i = 8 := by omega
    subst this
    rw [clock_Less.l0_eq, if_neg (by omega)]
    exact ⟨_, rfl, fun h => ⟨ha, hb.1 h⟩, fun h => hb.2 h.2⟩
  | succ d ih =>
    intro i b hi hb ha
    rw [clock_Less.l0_eq, if_pos (by omega), h0 i (by omega), Option.bind_some, h1 i (by omega), Option.bind_some]
    by_cases hg : f i > g i
    · rw [if_pos hg]
      exact ⟨_, rfl, fun h => (by cases h), fun h => absurd (h.1 i (by omega)) (by omega)⟩
    rw [if_neg hg, w_succ (by omega)]
    have ha' : ∀ q, q < i + 1 → f q ≤ g q := fun q hq => by
      by_cases he : q = i
      · subst he; omega
      · exact ha q (by omega)
    cases b with
    | true =>
      rw [if_pos rfl]
      obtain ⟨q, hq, hw⟩ := hb.1 rfl
      exact ih (i + 1) _ (by omega) ⟨fun _ => ⟨q, by omega, hw⟩, fun _ => rfl⟩ ha'
    | false =>
      rw [if_neg (by decide), Option.bind_some, Option.bind_some]
      refine ih (i + 1) _ (by omega) ⟨fun h => ⟨i, by omega, of_decide_eq_true h⟩, fun ⟨q, hq, hw⟩ => ?_⟩ ha'
      by_cases he : q = i
      · subst he; exact decide_eq_true hw
      · exact absurd (hb.2 ⟨q, by omega, hw⟩) (by decide)
/-- What is asked of a history. -/
def Val (l : List Ev) : Prop := l.length ≤ 200 ∧ (∀ i, i < l.length → 0 ≤ pl l i ∧ pl l i ≤ 7) ∧ ∀ i j, i < l.length → j < i → (ev l i).Kind = 2 → (ev l j).Kind = 2 → (ev l j).Msg ≠ (ev l i).Msg
theorem hist_step : ∀ (a pre : List Ev) {e : Ev} {b : List Ev}, hist pre (a ++ e :: b) = 0 → stepErr (pre ++ a) e = 0 := by
  intro a
  induction a with
  | nil =>
    intro pre e b h
    rw [List.nil_append, hist_cons] at h
    rw [List.append_nil]
    by_cases hs : stepErr pre e = 0
    · exact hs
    · rw [if_neg hs] at h; exact absurd h hs
  | cons x a ih =>
    intro pre e b h
    rw [List.cons_append, hist_cons] at h
    by_cases hs : stepErr pre x = 0
    · rw [if_pos hs] at h
      have := ih _ h
      simpa using this
    · rw [if_neg hs] at h; exact absurd h hs
theorem ev_some {l : List Ev} {i : Nat} (h : i < l.length) : l[i]? = some (ev l i) := by unfold ev; rw [List.getElem?_eq_getElem h]; rfl
theorem val_of {l : List Ev} (h : histErr l = 0) : Val l := by
  obtain ⟨hl, hr⟩ := histErr_right h
  refine ⟨hl, fun i hi => ?_, fun i j hi hj k2 k2' hm => ?_⟩
  · have := hr (ev l i) (List.mem_of_getElem? (ev_some hi))
    exact ⟨this.2.2.1, this.2.2.2.1⟩
  · unfold histErr at h
    rw [if_neg (by omega)] at h
    have hs : l = l.take i ++ ev l i :: l.drop (i + 1) := by
      have h2 : l.drop i = ev l i :: l.drop (i + 1) := by
        rw [List.drop_eq_getElem_cons hi]
        have := ev_some hi
        rw [List.getElem?_eq_getElem hi] at this
        rw [Option.some.inj this]
      rw [← h2, List.take_append_drop]
    rw [hs] at h
    have h3 := hist_step _ _ h
    rw [List.nil_append] at h3
    obtain ⟨r1, r2, r3, r4, r5⟩ := hr (ev l i) (List.mem_of_getElem? (ev_some hi))
    have r5' := r5 (by omega)
    unfold stepErr at h3
    rw [if_neg (by omega), if_neg (by omega), if_pos k2] at h3
    have : has 2 (l.take i) (ev l i).Msg = true := by
      unfold has
      refine List.any_eq_true.2 ⟨ev l j, List.mem_of_getElem? (i := j) (by rw [List.getElem?_take_of_lt hj]; exact ev_some (by omega)), ?_⟩
      simp [k2', hm]
    rw [if_pos this] at h3
    exact absurd h3 (by decide)
theorem less_rows {l : List Ev} (v : Val l) {i j : Nat} (hi : i < l.length) (hj : j < l.length) : ∃ r, clock_Less (Row l (DS l j)) (Row l (DS l i)) = some r ∧ (r = true ↔ Pst l i j) := by
  unfold clock_Less
  rw [row_len, row_len, if_neg (by omega)]
  obtain ⟨r, hr, hw⟩ := less_loop (f := fun q => (cn l (DS l j) (q : Int) : Int)) (g := fun q => (cn l (DS l i) (q : Int) : Int)) (fun q h => at_row (l := l) (A := DS l j) h) (fun q h => at_row (l := l) (A := DS l i) h) 8 0 false rfl (Iff.intro (fun h => by cases h) (fun h => absurd h.choose_spec.1 (by omega))) (fun q h => absurd h (by omega))
  refine ⟨r, hr, hw.trans ⟨fun ⟨h1, q, hq, h2⟩ => ?_, fun h => ⟨fun q _ => ?_, (pl l i).toNat, by have := v.2.1 i hi; omega, ?_⟩⟩⟩
  · by_cases hd : DS l i j
    · rcases hd with rfl | hd
      · exact absurd h2 (by omega)
      · exact hd
    · exfalso
      have hp := v.2.1 j hj
      have hle := h1 (pl l j).toNat (by omega)
      have hpl : (((pl l j).toNat : Nat) : Int) = pl l j := by omega
      simp only [hpl] at hle
      have h3 : cn l (fun k => DS l i k ∧ k < j) (pl l j) + 1 ≤ cn l (DS l j) (pl l j) := by
        have h4 : cn l (fun k => (DS l i k ∧ k < j) ∨ k = j) (pl l j) = cn l (fun k => DS l i k ∧ k < j) (pl l j) + 1 := cn_add hj (.inr rfl) (fun h => absurd h.2 (by omega)) (fun k hk _ => ⟨fun g => g.resolve_right hk, .inl⟩)
        rw [← h4]
        refine cn_le fun k hk hpk => ?_
        rcases hk with hk | rfl
        · exact .inr (.base hk.2 (.inl hpk))
        · exact .inl rfl
      have h5 : cn l (DS l i) (pl l j) ≤ cn l (fun k => DS l i k ∧ k < j) (pl l j) := cn_le fun k hk hpk => ⟨hk, by
        by_cases hkj : k < j
        · exact hkj
        · exfalso
          by_cases he : k = j
          · subst he; exact hd hk
          · exact hd (DS.dc k j hk (by omega) hpk.symm)⟩
      omega
  · have : cn l (DS l j) (q : Int) ≤ cn l (DS l i) (q : Int) := cn_le fun k hk _ => DS.trans (.inr h) hk
    omega
  · have hp := v.2.1 i hi
    have hpl : (((pl l i).toNat : Nat) : Int) = pl l i := by omega
    show ((cn l (DS l j) _ : Nat) : Int) < ((cn l (DS l i) _ : Nat) : Int)
    rw [hpl]
    have h4 : cn l (fun k => DS l j k ∨ k = i) (pl l i) = cn l (DS l j) (pl l i) + 1 := cn_add hi (.inr rfl) (fun g => absurd g.le (by have := h.lt; omega)) (fun k hk _ => ⟨fun g => g.resolve_right hk, .inl⟩)
    have h5 : cn l (fun k => DS l j k ∨ k = i) (pl l i) ≤ cn l (DS l i) (pl l i) := cn_le fun k hk _ => by
      rcases hk with hk | rfl
      · exact DS.trans (.inr h) hk
      · exact .inl rfl
    omega

/-! ### The program's clocks -/
def Wt (l : List Ev) (i : Nat) (p : Nat) : Nat → Prop := fun k => ∃ j, j < i ∧ pl l j = (p : Int) ∧ DS l j k
def Sn (l : List Ev) (i : Nat) (m : Int) : Nat → Prop := fun k => ∃ j, j < i ∧ (ev l j).Kind = 2 ∧ (ev l j).Msg = m ∧ DS l j k
theorem Wt.dc {l : List Ev} {i p : Nat} : Dc l (Wt l i p) := by
  rintro k k' ⟨j, a, b, c⟩ hk hp
  exact ⟨j, a, b, DS.dc k k' c hk hp⟩
theorem Sn.dc {l : List Ev} {i : Nat} {m : Int} : Dc l (Sn l i m) := by
  rintro k k' ⟨j, a, b, b2, c⟩ hk hp
  exact ⟨j, a, b, b2, DS.dc k k' c hk hp⟩
theorem pst_ws {l : List Ev} {i p k : Nat} (hp : pl l i = (p : Int)) : Pst l i k ↔ Wt l i p k ∨ ((ev l i).Kind = 3 ∧ Sn l i (ev l i).Msg k) := by
  rw [pst_iff]
  constructor
  · rintro ⟨j, a, b | b, c⟩
    · exact .inl ⟨j, a, by show (ev l j).Place = _; rw [b]; exact hp, c⟩
    · exact .inr ⟨b.1, j, a, b.2.1, b.2.2, c⟩
  · rintro (⟨j, a, b, c⟩ | ⟨k3, j, a, b, b2, c⟩)
    · exact ⟨j, a, .inl (by show pl l j = pl l i; rw [b, hp]), c⟩
    · exact ⟨j, a, .inr ⟨k3, b, b2⟩, c⟩
theorem ds_iff {l : List Ev} {i k : Nat} : DS l i k ↔ Pst l i k ∨ k = i := ⟨fun h => h.elim .inr .inl, fun h => h.elim .inr .inl⟩
theorem wt_self {l : List Ev} {i p k : Nat} (hp : pl l i = (p : Int)) : Wt l (i + 1) p k ↔ DS l i k := by
  constructor
  · rintro ⟨j, a, b, c⟩
    by_cases he : j = i
    · subst he; exact c
    · exact DS.trans (.inr (.base (by omega) (.inl (by show pl l j = pl l i; rw [b, hp])))) c
  · exact fun h => ⟨i, by omega, hp, h⟩
theorem wt_other {l : List Ev} {i p k : Nat} (hp : pl l i ≠ (p : Int)) : Wt l (i + 1) p k ↔ Wt l i p k := by
  constructor
  · rintro ⟨j, a, b, c⟩
    have : j ≠ i := fun h => hp (by rw [← h]; exact b)
    exact ⟨j, by omega, b, c⟩
  · rintro ⟨j, a, b, c⟩; exact ⟨j, by omega, b, c⟩
theorem sn_self {l : List Ev} (v : Val l) {i k : Nat} (hi : i < l.length) (h2 : (ev l i).Kind = 2) : Sn l (i + 1) (ev l i).Msg k ↔ DS l i k := by
  constructor
  · rintro ⟨j, a, b, b2, c⟩
    by_cases he : j = i
    · subst he; exact c
    · exact absurd b2 (v.2.2 i j hi (by omega) h2 b)
  · exact fun h => ⟨i, by omega, h2, rfl, h⟩
theorem sn_other {l : List Ev} {i k : Nat} {m : Int} (h : (ev l i).Kind ≠ 2 ∨ (ev l i).Msg ≠ m) : Sn l (i + 1) m k ↔ Sn l i m k := by
  constructor
  · rintro ⟨j, a, b, b2, c⟩
    refine ⟨j, ?_, b, b2, c⟩
    rcases Nat.lt_or_ge j i with h1 | h1
    · exact h1
    · exfalso
      have : j = i := by omega
      subst this
      exact h.elim (fun h => h b) (fun h => h b2)
  · rintro ⟨j, a, b, c⟩; exact ⟨j, by omega, b, c⟩
noncomputable def Cs (l : List Ev) : List (List Int) := (List.range l.length).map fun j => Row l (DS l j)
theorem cs_at {l : List Ev} {i : Nat} (h : i < l.length) : (Cs l)[i]? = some (Row l (DS l i)) := by
  unfold Cs; rw [List.getElem?_map, List.getElem?_range h]; rfl
theorem cs_len {l : List Ev} : (Cs l).length = l.length := by simp [Cs]
theorem clone_val {a : List Int} (h : a.length ≤ 1000) : slices_Clone_46 a = some a := by
  unfold slices_Clone_46; exact ap_nil (by omega)
theorem pgd_pset {es : List (Int × List Int)} {k q : Int} {x : List Int} : pgd (pset es k x) q [] = if q = k then x else pgd es q [] := by
  unfold pgd; rw [pget_pset]; split <;> rfl
theorem pgd_pset_i {es : List (Int × Int)} {k q : Int} {x : Int} : pgd (pset es k x) q 0 = if q = k then x else pgd es q 0 := by
  unfold pgd; rw [pget_pset]; split <;> rfl
theorem clocks_loop {l : List Ev} (v : Val l) : ∀ (d i : Nat) (y : List (List Int)) (es : List (Int × List Int)) (a : List (List Int)), i + d = l.length →
    y.length = 8 → (∀ p, p < 8 → y[p]? = some (Row l (Wt l i p))) → (∀ m, pgd es m [] = Row l (Sn l i m) ∨ (pgd es m [] = [] ∧ ∀ k, ¬ Sn l i m k)) → a = (List.range i).map (fun j => Row l (DS l j)) →
    clock_Clocks.l1 y es a l (l.length : Int) (i : Int) = some (Cs l, 0) := by
  have hL := v.1
  intro d
  induction d with
  | zero =>
    intro i y es a hi hy hw hs ha
    rw [clock_Clocks.l1_eq, if_neg (by omega), ha]
    unfold Cs
    rw [show i = l.length by omega]
  | succ d ih =>
    intro i y es a hi hy hw hs ha
    have hlt : i < l.length := by omega
    have hp := v.2.1 i hlt
    obtain ⟨p, hpp⟩ : ∃ p : Nat, pl l i = (p : Int) := ⟨(pl l i).toNat, by omega⟩
    have h8 : p < 8 := by omega
    have hpe : (ev l i).Place = (p : Int) := hpp
    have fin : ∀ (y' : List (List Int)) (es' : List (Int × List Int)), y'.length = 8 → (∀ q, q < 8 → y'[q]? = some (Row l (Wt l (i + 1) q))) → (∀ m, pgd es' m [] = Row l (Sn l (i + 1) m) ∨ (pgd es' m [] = [] ∧ ∀ k, ¬ Sn l (i + 1) m k)) →
        clock_Clocks.j1 y' es' a (Row l (DS l i)) l (l.length : Int) (i : Int) = some (Cs l, 0) := by
      intro y' es' h1 h2 h3
      rw [clock_Clocks.j1_eq, clone_val (by rw [row_len]; omega), Option.bind_some, ap_one (by rw [ha]; simp; omega), Option.bind_some, w_succ (by omega)]
      refine ih (i + 1) _ _ _ (by omega) h1 h2 h3 ?_
      rw [ha, List.range_succ, List.map_append]; rfl
    have step : clock_Clocks.j0 y es a (ev l i) (Row l (Pst l i)) l (l.length : Int) (i : Int) = some (Cs l, 0) := by
      rw [clock_Clocks.j0_eq, hpe, gi_some (k := p) rfl (row_at h8), Option.bind_some, Option.bind_some, Option.bind_some, gi_some (k := p) rfl (hw p h8), Option.bind_some, Option.bind_some,
        wrap_in (by omega) (by have := cn_bound (l := l) (A := Pst l i) (q := (p : Int)); omega), Int.toNat_natCast, row_set (B := DS l i) hlt hpp h8 (fun h => absurd h.lt (by omega)) (fun k => ds_iff)]
      have hy' : ∀ q, q < 8 → (y.set p (Row l (DS l i)))[q]? = some (Row l (Wt l (i + 1) q)) := by
        intro q hq
        rw [List.getElem?_set]
        by_cases he : p = q
        · subst he
          rw [if_pos rfl, if_pos (by omega), row_ext fun k => (wt_self hpp).symm]
        · rw [if_neg he, hw q hq, row_ext fun k => (wt_other (by omega)).symm]
      by_cases k2 : (ev l i).Kind = 2
      · rw [if_pos k2, Option.bind_some]
        refine fin _ _ (by simpa using hy) hy' fun m => ?_
        rw [pgd_pset]
        by_cases hm : m = (ev l i).Msg
        · rw [if_pos hm, hm]; exact .inl (row_ext fun k => (sn_self v hlt k2).symm)
        · rw [if_neg hm]
          rcases hs m with h | ⟨h, g⟩
          · exact .inl (h.trans (row_ext fun k => (sn_other (.inr (Ne.symm hm))).symm))
          · exact .inr ⟨h, fun k hk => g k ((sn_other (.inr (Ne.symm hm))).1 hk)⟩
      · rw [if_neg k2]
        refine fin _ _ (by simpa using hy) hy' fun m => ?_
        rcases hs m with h | ⟨h, g⟩
        · exact .inl (h.trans (row_ext fun k => (sn_other (.inl k2)).symm))
        · exact .inr ⟨h, fun k hk => g k ((sn_other (.inl k2)).1 hk)⟩
    rw [clock_Clocks.l1_eq, if_pos (by omega), gi_some (k := i) rfl (ev_some hlt), Option.bind_some, hpe, gi_some (k := p) rfl (hw p h8), Option.bind_some, clone_val (by rw [row_len]; omega), Option.bind_some]
    by_cases k3 : (ev l i).Kind = 3
    · rw [if_pos k3]
      rcases hs (ev l i).Msg with h | ⟨h, g⟩
      · rw [h, join_rows Wt.dc Sn.dc, Option.bind_some, ← row_ext (A := Pst l i) (fun k => (pst_ws hpp).trans ⟨fun g => g.elim .inl (fun g => .inr g.2), fun g => g.elim .inl (fun g => .inr ⟨k3, g⟩)⟩)]
        exact step
      · rw [h, join_nil, Option.bind_some, ← row_ext (A := Pst l i) (fun k => (pst_ws hpp).trans ⟨fun h => h.elim id (fun h => absurd h.2 (g k)), .inl⟩)]
        exact step
    · rw [if_neg k3, ← row_ext (A := Pst l i) (fun k => (pst_ws hpp).trans ⟨fun h => h.elim id (fun h => absurd h.1 k3), .inl⟩)]
      exact step
theorem clocks_rows {l : List Ev} (v : Val l) : ∀ (d i : Nat) (y : List (List Int)), i + d = 8 → y.length = 8 → (∀ q, q < i → y[q]? = some (List.replicate 8 0)) → clock_Clocks.l0 l y (i : Int) = some (Cs l, 0) := by
  intro d
  induction d with
  | zero =>
    intro i y hi hy hz
    rw [clock_Clocks.l0_eq, if_neg (by omega)]
    exact clocks_loop v l.length 0 y [] [] (by omega) hy (fun p hp => by rw [hz p (by omega), row_none]; rintro k ⟨j, h, _⟩; omega) (fun m => .inr ⟨rfl, by rintro k ⟨j, h, _⟩; omega⟩) rfl
  | succ d ih =>
    intro i y hi hy hz
    rw [clock_Clocks.l0_eq, if_pos (by omega), mks_of (k := 8) (x := 8) rfl (by omega) (by omega), Option.bind_some, gi_at (by omega), Option.bind_some, Option.bind_some, w_succ (by omega), Int.toNat_natCast]
    refine ih (i + 1) _ (by omega) (by simpa using hy) fun q hq => ?_
    rw [List.getElem?_set]
    by_cases he : i = q
    · subst he; rw [if_pos rfl, if_pos (by omega)]
    · rw [if_neg he, hz q (by omega)]
theorem clocks_val {l : List Ev} (h : histErr l = 0) : clock_Clocks l = some (Cs l, 0) := by
  unfold clock_Clocks
  rw [check_val, Option.bind_some, h, if_pos rfl]
  exact clocks_rows (val_of h) 8 0 _ rfl (by simp) (fun q h => absurd h (by omega))
theorem clocks_bad {l : List Ev} (h : histErr l ≠ 0) : clock_Clocks l = some ([], histErr l) := by
  unfold clock_Clocks
  rw [check_val, Option.bind_some, if_neg h]

/-! ### The reference's past -/
noncomputable def pd (p : Prop) : Bool := @decide p (Classical.propDecidable p)
theorem pd_iff {p : Prop} : pd p = true ↔ p := @decide_eq_true_iff p (Classical.propDecidable p)
theorem pd_t {p : Prop} (h : p) : pd p = true := pd_iff.2 h
theorem pd_f {p : Prop} (h : ¬ p) : pd p = false := Bool.eq_false_iff.2 fun g => h (pd_iff.1 g)
theorem pd_eq {p q : Prop} (h : p ↔ q) : pd p = pd q := Bool.eq_iff_iff.2 (pd_iff.trans (h.trans pd_iff.symm))
noncomputable def PR (l : List Ev) (i : Nat) : List Bool := (List.range l.length).map fun k => pd (Pst l i k)
noncomputable def Ps (l : List Ev) : List (List Bool) := (List.range l.length).map (PR l)
theorem pr_len {l : List Ev} {i : Nat} : (PR l i).length = l.length := by simp [PR]
theorem pr_at {l : List Ev} {i k : Nat} (h : k < l.length) : (PR l i)[k]? = some (pd (Pst l i k)) := by
  unfold PR; rw [List.getElem?_map, List.getElem?_range h]; rfl
theorem ps_at {l : List Ev} {i : Nat} (h : i < l.length) : (Ps l)[i]? = some (PR l i) := by
  unfold Ps; rw [List.getElem?_map, List.getElem?_range h]; rfl
def IsR (l : List Ev) (row : List Bool) (R : Nat → Prop) : Prop := row.length = l.length ∧ ∀ k, k < l.length → row[k]? = some (pd (R k))
theorem IsR.set {l : List Ev} {row : List Bool} {R R' : Nat → Prop} {k0 : Nat} {b : Bool} (h : IsR l row R) (hb : b = true ↔ R' k0) (hr : ∀ k, k ≠ k0 → (R' k ↔ R k)) : IsR l (row.set k0 b) R' := by
  refine ⟨by rw [List.length_set]; exact h.1, fun k hk => ?_⟩
  rw [List.getElem?_set]
  by_cases he : k0 = k
  · subst he
    rw [if_pos rfl, if_pos (by rw [h.1]; exact hk)]
    congr 1
    exact Bool.eq_iff_iff.2 (hb.trans pd_iff.symm)
  · rw [if_neg he, h.2 k hk, pd_eq (hr k (Ne.symm he))]
theorem IsR.ext {l : List Ev} {row : List Bool} {R R' : Nat → Prop} (h : IsR l row R) (e : ∀ k, R k ↔ R' k) : IsR l row R' := by
  have : R = R' := funext fun k => propext (e k)
  rw [← this]; exact h
theorem IsR.pr {l : List Ev} {row : List Bool} {i : Nat} (h : IsR l row (Pst l i)) : row = PR l i := by
  refine List.ext_getElem? fun k => ?_
  by_cases hk : k < l.length
  · rw [h.2 k hk, pr_at hk]
  · rw [List.getElem?_eq_none (by rw [h.1]; omega), List.getElem?_eq_none (by rw [pr_len]; omega)]
/-- The rows that stand, and the row under way. -/
def Rows (l : List Ev) (i : Nat) (a : List (List Bool)) (R : Nat → Prop) : Prop := a.length = l.length ∧ (∀ j, j < i → a[j]? = some (PR l j)) ∧ ∃ row, a[i]? = some row ∧ IsR l row R
theorem rows_set {l : List Ev} {i : Nat} {a : List (List Bool)} {R R' : Nat → Prop} {row' : List Bool} (h : Rows l i a R) (hi : i < l.length) (hr : IsR l row' R') : Rows l i (a.set i row') R' := by
  refine ⟨by rw [List.length_set]; exact h.1, fun j hj => ?_, row', ?_, hr⟩
  · rw [List.getElem?_set, if_neg (by omega)]; exact h.2.1 j hj
  · rw [List.getElem?_set, if_pos rfl, if_pos (by rw [h.1]; exact hi)]
theorem past_l2 {l : List Ev} (hL : l.length ≤ 200) {i j : Nat} (hj : j < i) (hi : i < l.length) (e : Ev) {R : Nat → Prop} {r : Option (List (List Bool))}
    (K : ∀ a, Rows l i a (fun k => R k ∨ Pst l j k) → roadref4_Past.j0 l a (i : Int) e (j : Int) l (l.length : Int) (i : Int) = r) : ∀ (d q : Nat) (a : List (List Bool)), q + d = l.length →
    Rows l i a (fun k => R k ∨ (k < q ∧ Pst l j k)) → roadref4_Past.l2 l a (i : Int) e (j : Int) l (l.length : Int) (i : Int) (l.length : Int) (q : Int) (j : Int) (PR l j) = r := by
  intro d
  induction d with
  | zero =>
    intro q a hq h
    rw [roadref4_Past.l2_eq, if_neg (by omega)]
    refine K a ⟨h.1, h.2.1, ?_⟩
    obtain ⟨row, h1, h2⟩ := h.2.2
    refine ⟨row, h1, h2.ext fun k => ⟨fun g => g.imp id And.right, fun g => g.imp id fun g => ⟨by have := g.lt; omega, g⟩⟩⟩
  | succ d ih =>
    intro q a hq h
    obtain ⟨row, h1, h2⟩ := h.2.2
    rw [roadref4_Past.l2_eq, if_pos (by omega), gi_some (k := q) rfl (pr_at (by omega)), Option.bind_some, gi_some (k := i) rfl h1, Option.bind_some, Option.bind_some, gi_some (k := q) rfl (h2.2 q (by omega)), Option.bind_some]
    have go : ∀ b : Bool, (b = true ↔ (R q ∨ (q < q + 1 ∧ Pst l j q))) → roadref4_Past.l2 l (a.set i (row.set q b)) (i : Int) e (j : Int) l (l.length : Int) (i : Int) (l.length : Int) ((q + 1 : Nat) : Int) (j : Int) (PR l j) = r := by
      intro b hb
      refine ih (q + 1) _ (by omega) (rows_set h hi (h2.set hb fun k hk => ?_))
      exact ⟨fun g => g.imp id fun g => ⟨by omega, g.2⟩, fun g => g.imp id fun g => ⟨by omega, g.2⟩⟩
    rw [w_succ (by omega)]
    simp only [Int.toNat_natCast]
    by_cases hr : R q ∨ (q < q ∧ Pst l j q)
    · rw [pd_t hr, if_pos rfl, Option.bind_some, Option.bind_some, if_pos (by omega)]
      exact go true ⟨fun _ => hr.imp id fun g => ⟨by omega, g.2⟩, fun _ => rfl⟩
    · rw [pd_f hr, if_neg (by decide), Option.bind_some, Option.bind_some, if_pos (by omega)]
      refine go _ (pd_iff.trans ⟨fun g => .inr ⟨by omega, g⟩, fun g => g.elim (fun g => absurd (.inl g) hr) And.right⟩)
theorem past_l1 {l : List Ev} (hL : l.length ≤ 200) {i : Nat} (hi : i < l.length) {r : Option (List (List Bool))}
    (K : ∀ a, Rows l i a (Pst l i) → roadref4_Past.l0 l a l (l.length : Int) ((i + 1 : Nat) : Int) = r) : ∀ (n : Nat) (a : List (List Bool)), n ≤ i →
    Rows l i a (fun k => ∃ j, n ≤ j ∧ j < i ∧ Dir (ev l i) (ev l j) ∧ DS l j k) → roadref4_Past.l1 l a (i : Int) (ev l i) ((n : Int) - 1) l (l.length : Int) (i : Int) = r := by
  intro n
  induction n with
  | zero =>
    intro a hn h
    rw [roadref4_Past.l1_eq, if_neg (by omega), w_succ (by omega)]
    refine K a ⟨h.1, h.2.1, ?_⟩
    obtain ⟨row, h1, h2⟩ := h.2.2
    exact ⟨row, h1, h2.ext fun k => ⟨fun ⟨j, _, g⟩ => pst_iff.2 ⟨j, g⟩, fun g => by obtain ⟨j, g⟩ := pst_iff.1 g; exact ⟨j, by omega, g⟩⟩⟩
  | succ n ih =>
    intro a hn h
    rw [roadref4_Past.l1_eq, show ((n + 1 : Nat) : Int) - 1 = (n : Int) by omega, if_pos (by omega), gi_some (k := n) rfl (ev_some (by omega)), Option.bind_some]
    have no : ¬ Dir (ev l i) (ev l n) → roadref4_Past.j1 l a (i : Int) (ev l i) (n : Int) l (l.length : Int) (i : Int) false = r := by
      intro hd
      rw [roadref4_Past.j1_eq, if_neg (by decide), roadref4_Past.j0_eq, wrap_in (by omega) (by omega)]
      refine ih a (by omega) ⟨h.1, h.2.1, ?_⟩
      obtain ⟨row, h1, h2⟩ := h.2.2
      refine ⟨row, h1, h2.ext fun k => ⟨fun ⟨j, a, b⟩ => ⟨j, by omega, b⟩, fun ⟨j, a, b, c, d⟩ => ⟨j, ?_, b, c, d⟩⟩⟩
      have : j ≠ n := fun e => hd (by rw [← e]; exact c)
      omega
    have yes : Dir (ev l i) (ev l n) → roadref4_Past.j1 l a (i : Int) (ev l i) (n : Int) l (l.length : Int) (i : Int) true = r := by
      intro hd
      obtain ⟨row, h1, h2⟩ := h.2.2
      have h3 := rows_set h hi (h2.set (k0 := n) (b := true) (R' := fun k => k = n ∨ ∃ j, n + 1 ≤ j ∧ j < i ∧ Dir (ev l i) (ev l j) ∧ DS l j k) ⟨fun _ => .inl rfl, fun _ => rfl⟩ fun k hk => ⟨fun g => g.resolve_left hk, .inr⟩)
      rw [roadref4_Past.j1_eq, if_pos rfl, gi_some (k := i) rfl h1, Option.bind_some, gi_some (k := n) rfl (h2.2 n (by omega)), Option.bind_some, Option.bind_some]
      simp only [Int.toNat_natCast]
      rw [gi_some (k := n) rfl (h3.2.1 n (by omega)), Option.bind_some, pr_len]
      refine past_l2 hL (by omega) hi (ev l i) (fun a' h' => ?_) l.length 0 _ (by omega) (R := fun k => k = n ∨ ∃ j, n + 1 ≤ j ∧ j < i ∧ Dir (ev l i) (ev l j) ∧ DS l j k) ?_
      · rw [roadref4_Past.j0_eq, wrap_in (by omega) (by omega)]
        refine ih a' (by omega) ⟨h'.1, h'.2.1, ?_⟩
        obtain ⟨row', g1, g2⟩ := h'.2.2
        refine ⟨row', g1, g2.ext fun k => ⟨fun g => ?_, fun ⟨j, a, b, c, d⟩ => ?_⟩⟩
        · rcases g with (g | ⟨j, a, b⟩) | g
          · exact ⟨n, by omega, by omega, hd, .inl g⟩
          · exact ⟨j, by omega, b⟩
          · exact ⟨n, by omega, by omega, hd, .inr g⟩
        · by_cases he : j = n
          · subst he
            rcases d with d | d
            · exact .inl (.inl d)
            · exact .inr d
          · exact .inl (.inr ⟨j, by omega, b, c, d⟩)
      · refine ⟨h3.1, h3.2.1, ?_⟩
        obtain ⟨row', g1, g2⟩ := h3.2.2
        exact ⟨row', g1, g2.ext fun k => ⟨.inl, fun g => g.elim id fun g => absurd g.1 (by omega)⟩⟩
    by_cases p1 : (ev l n).Place = (ev l i).Place
    · rw [if_pos p1]; exact yes (.inl p1)
    rw [if_neg p1]
    by_cases p2 : (ev l i).Kind = 3
    · rw [if_pos p2]
      by_cases p3 : (ev l n).Kind = 2
      · rw [if_pos p3]
        by_cases p4 : (ev l n).Msg = (ev l i).Msg
        · rw [beq_iff_eq.2 p4]; exact yes (.inr ⟨p2, p3, p4⟩)
        · rw [beq_eq_false_iff_ne.2 p4]; exact no (fun h => h.elim p1 fun h => p4 h.2.2)
      · rw [if_neg p3]; exact no (fun h => h.elim p1 fun h => p3 h.2.1)
    · rw [if_neg p2]; exact no (fun h => h.elim p1 fun h => p2 h.1)
theorem past_loop {l : List Ev} (hL : l.length ≤ 200) : ∀ (d i : Nat) (a : List (List Bool)), i + d = l.length → a.length = l.length → (∀ j, j < i → a[j]? = some (PR l j)) → roadref4_Past.l0 l a l (l.length : Int) (i : Int) = some (Ps l) := by
  intro d
  induction d with
  | zero =>
    intro i a hi hl ha
    rw [roadref4_Past.l0_eq, if_neg (by omega)]
    congr 1
    refine List.ext_getElem? fun k => ?_
    by_cases hk : k < l.length
    · rw [ha k (by omega), ps_at hk]
    · rw [List.getElem?_eq_none (by omega), List.getElem?_eq_none (by simp [Ps]; omega)]
  | succ d ih =>
    intro i a hi hl ha
    have hlt : i < l.length := by omega
    rw [roadref4_Past.l0_eq, if_pos (by omega), gi_some (k := i) rfl (ev_some hlt), Option.bind_some, mks_of (k := l.length) rfl (by omega) (by omega), Option.bind_some, gi_at (by omega), Option.bind_some, Option.bind_some, wrap_in (by omega) (by omega), Int.toNat_natCast]
    refine past_l1 hL hlt (fun a' h' => ?_) i _ (Nat.le_refl _) ⟨by simpa using hl, fun j hj => ?_, List.replicate l.length false, ?_, by rw [List.length_replicate], fun k hk => ?_⟩
    · refine ih (i + 1) a' (by omega) h'.1 fun j hj => ?_
      by_cases he : j = i
      · subst he
        obtain ⟨row, g1, g2⟩ := h'.2.2
        rw [g1, g2.pr]
      · exact h'.2.1 j (by omega)
    · rw [List.getElem?_set, if_neg (by omega)]; exact ha j hj
    · rw [List.getElem?_set, if_pos rfl, if_pos (by omega)]
    · rw [List.getElem?_replicate, if_pos hk, pd_f]
      rintro ⟨j, a, b, _⟩; omega
theorem past_val {l : List Ev} (hL : l.length ≤ 200) : roadref4_Past l = some (Ps l) := by
  unfold roadref4_Past
  rw [mks_of (k := l.length) rfl (by omega) (by omega), Option.bind_some]
  exact past_loop hL l.length 0 _ (by omega) (by simp) (fun j h => absurd h (by omega))

/-! ### Choosing events -/
noncomputable def sel (l : List Ev) (x : Nat) : Nat → List Ev
  | 0 => []
  | n + 1 => sel l x n ++ (if pd (DS l x n) = true then [ev l n] else [])
theorem sel_len {l : List Ev} {x : Nat} : ∀ n, (sel l x n).length ≤ n := by
  intro n
  induction n with
  | zero => exact Nat.le_refl _
  | succ n ih => show (sel l x n ++ _).length ≤ _; rw [List.length_append]; split <;> simp <;> omega
theorem sel_more {l : List Ev} {x : Nat} : ∀ d, sel l x (x + 1 + d) = sel l x (x + 1) := by
  intro d
  induction d with
  | zero => rfl
  | succ d ih =>
    have hn : pd (DS l x (x + 1 + d)) = false := pd_f (fun h => absurd h.le (by omega))
    show sel l x (x + 1 + d) ++ (if pd (DS l x (x + 1 + d)) = true then _ else _) = _
    rw [ih, hn, if_neg (by decide), List.append_nil]
theorem led_loop {l : List Ev} (v : Val l) {x : Nat} (hx : x < l.length) : ∀ (d n : Nat), n + d = x + 1 → trace_Led.l0 l (x : Int) (Cs l) (sel l x n) ((x + 1 : Nat) : Int) (n : Int) = some (sel l x (x + 1), 0) := by
  have hL := v.1
  intro d
  induction d with
  | zero => intro n hn; rw [trace_Led.l0_eq, if_neg (by omega), show n = x + 1 by omega]
  | succ d ih =>
    intro n hn
    have hs := sel_len (l := l) (x := x) n
    have yes : DS l x n → trace_Led.j2 l (x : Int) (Cs l) (sel l x n) (n : Int) ((x + 1 : Nat) : Int) (n : Int) true = some (sel l x (x + 1), 0) := by
      intro h
      rw [trace_Led.j2_eq, if_pos rfl, gi_some (k := n) rfl (ev_some (by omega)), Option.bind_some, ap_one (by omega), Option.bind_some, w_succ (by omega), ← ih (n + 1) (by omega)]
      show _ = trace_Led.l0 _ _ _ (sel l x n ++ _) _ _
      rw [if_pos (pd_t h)]
    have no : ¬ DS l x n → trace_Led.j2 l (x : Int) (Cs l) (sel l x n) (n : Int) ((x + 1 : Nat) : Int) (n : Int) false = some (sel l x (x + 1), 0) := by
      intro h
      rw [trace_Led.j2_eq, if_neg (by decide), w_succ (by omega), ← ih (n + 1) (by omega)]
      show _ = trace_Led.l0 _ _ _ (sel l x n ++ _) _ _
      rw [if_neg (by rw [pd_f h]; decide), List.append_nil]
    rw [trace_Led.l0_eq, if_pos (by omega)]
    by_cases he : (n : Int) = (x : Int)
    · rw [if_pos he]; exact yes (.inl (by omega))
    · rw [if_neg he, gi_some (k := n) rfl (cs_at (by omega)), Option.bind_some, gi_some (k := x) rfl (cs_at hx), Option.bind_some]
      obtain ⟨r, hr, hw⟩ := less_rows v (i := x) (j := n) hx (by omega)
      rw [hr, Option.bind_some]
      cases r with
      | true => exact yes (.inr (hw.1 rfl))
      | false => exact no (fun h => h.elim (fun h => he (by omega)) fun h => by have := hw.2 h; cases this)
theorem led_in {l : List Ev} (h : histErr l = 0) {x : Nat} (hx : x < l.length) : trace_Led l (x : Int) = some (sel l x (x + 1), 0) := by
  have v := val_of h
  have hL := v.1
  unfold trace_Led
  rw [clocks_val h, Option.bind_some, if_pos rfl, if_neg (by omega), decide_eq_false (by omega)]
  unfold trace_Led.j1 trace_Led.j0
  rw [if_neg (by decide), w_succ (by omega)]
  exact led_loop v hx (x + 1) 0 (by omega)
theorem led_out {l : List Ev} (h : histErr l = 0) {x : Int} (hx : x < 0 ∨ x ≥ (l.length : Int)) : trace_Led l x = some ([], 1) := by
  unfold trace_Led
  rw [clocks_val h, Option.bind_some, if_pos rfl]
  have t : trace_Led.j1 l x (Cs l) true = some ([], 1) := by unfold trace_Led.j1; rw [if_pos rfl]
  by_cases h1 : x < 0
  · rw [if_pos h1]; exact t
  rw [if_neg h1, decide_eq_true (by omega)]; exact t
theorem led_bad {l : List Ev} (h : histErr l ≠ 0) {x : Int} : trace_Led l x = some ([], histErr l) := by
  unfold trace_Led
  rw [clocks_bad h, Option.bind_some, if_neg h]
def fil (l : List Ev) (p : Int) : List Ev := l.filter fun e => decide (e.Place = p)
theorem at_loop {l : List Ev} {p : Int} (hL : l.length ≤ 200) : ∀ (r pre : List Ev), l = pre ++ r → trace_At.l0 p (fil pre p) l (l.length : Int) (pre.length : Int) = some (fil l p, 0) := by
  intro r
  induction r with
  | nil => intro pre he; rw [trace_At.l0_eq, if_neg (by rw [he]; simp), he, List.append_nil]
  | cons e r ih =>
    intro pre he
    have hlen : l.length = pre.length + (r.length + 1) := by rw [he]; simp
    have hf : (fil pre p).length ≤ pre.length := List.length_filter_le ..
    have nx := ih (pre ++ [e]) (by simpa using he)
    have hs : fil (pre ++ [e]) p = fil pre p ++ (if e.Place = p then [e] else []) := by
      unfold fil; rw [List.filter_append]; congr 1
      by_cases h : e.Place = p <;> simp [h]
    rw [hs, show ((pre ++ [e]).length : Int) = ((pre.length + 1 : Nat) : Int) by simp] at nx
    rw [trace_At.l0_eq, if_pos (by omega), gi_some (k := pre.length) rfl (by rw [he]; simp : l[pre.length]? = some e), Option.bind_some]
    by_cases h : e.Place = p
    · rw [if_pos h, ap_one (by omega), Option.bind_some, w_succ (by omega)]; rw [if_pos h] at nx; exact nx
    · rw [if_neg h, w_succ (by omega)]; rw [if_neg h, List.append_nil] at nx; exact nx
theorem at_val {l : List Ev} (h : histErr l = 0) {p : Int} (h0 : 0 ≤ p) (h8 : p < 8) : trace_At l p = some (fil l p, 0) := by
  unfold trace_At
  rw [check_val, Option.bind_some, if_pos h, if_neg (by omega), decide_eq_false (by omega)]
  unfold trace_At.j1 trace_At.j0
  rw [if_neg (by decide)]
  exact at_loop (val_of h).1 l [] rfl
theorem at_out {l : List Ev} (h : histErr l = 0) {p : Int} (h0 : p < 0 ∨ p ≥ 8) : trace_At l p = some ([], 1) := by
  unfold trace_At
  rw [check_val, Option.bind_some, if_pos h]
  have t : trace_At.j1 l p true = some ([], 1) := by unfold trace_At.j1; rw [if_pos rfl]
  by_cases h1 : p < 0
  · rw [if_pos h1]; exact t
  rw [if_neg h1, decide_eq_true (by omega)]; exact t
theorem at_bad {l : List Ev} (h : histErr l ≠ 0) {p : Int} : trace_At l p = some ([], histErr l) := by
  unfold trace_At
  rw [check_val, Option.bind_some, if_neg h]
theorem of_loop {l : List Ev} {p : Int} (hL : l.length ≤ 200) : ∀ (r pre : List Ev), l = pre ++ r → roadlaw4_of.l0 p (fil pre p) l (l.length : Int) (pre.length : Int) = some (fil l p) := by
  intro r
  induction r with
  | nil => intro pre he; rw [roadlaw4_of.l0_eq, if_neg (by rw [he]; simp), he, List.append_nil]
  | cons e r ih =>
    intro pre he
    have hlen : l.length = pre.length + (r.length + 1) := by rw [he]; simp
    have hf : (fil pre p).length ≤ pre.length := List.length_filter_le ..
    have nx := ih (pre ++ [e]) (by simpa using he)
    have hs : fil (pre ++ [e]) p = fil pre p ++ (if e.Place = p then [e] else []) := by
      unfold fil; rw [List.filter_append]; congr 1
      by_cases h : e.Place = p <;> simp [h]
    rw [hs, show ((pre ++ [e]).length : Int) = ((pre.length + 1 : Nat) : Int) by simp] at nx
    rw [roadlaw4_of.l0_eq, if_pos (by omega), gi_some (k := pre.length) rfl (by rw [he]; simp : l[pre.length]? = some e), Option.bind_some]
    by_cases h : e.Place = p
    · rw [if_pos h, ap_one (by omega), Option.bind_some, w_succ (by omega)]; rw [if_pos h] at nx; exact nx
    · rw [if_neg h, w_succ (by omega)]; rw [if_neg h, List.append_nil] at nx; exact nx
theorem of_val {l : List Ev} (hL : l.length ≤ 200) {p : Int} : roadlaw4_of l p = some (fil l p) := of_loop hL l [] rfl
/-- Equal after a function. -/
def eqF (f : Ev → Ev → Bool) (a b : List Ev) : Bool := decide (a.length = b.length) && (a.zip b).all fun p => f p.1 p.2
theorem equalFunc_val {f : Ev → Ev → Bool} {p : Ev → Ev → Option Bool} {a b : List Ev} (hL : a.length ≤ 1000) (hp : ∀ x ∈ a, ∀ y ∈ b, p x y = some (f x y)) : slices_EqualFunc_52 a b p = some (eqF f a b) := by
  unfold slices_EqualFunc_52 eqF
  by_cases hl : a.length = b.length
  · rw [if_pos (by omega), decide_eq_true hl, Bool.true_and]
    have loop : ∀ (d n : Nat), n + d = a.length → slices_EqualFunc_52.l0 b p a (a.length : Int) (n : Int) = some (((a.drop n).zip (b.drop n)).all fun p => f p.1 p.2) := by
      intro d
      induction d with
      | zero => intro n hn; rw [slices_EqualFunc_52.l0_eq, if_neg (by omega), List.drop_eq_nil_of_le (by omega)]; rfl
      | succ d ih =>
        intro n hn
        rw [slices_EqualFunc_52.l0_eq, if_pos (by omega), gi_at (by omega), Option.bind_some, gi_at (by omega), Option.bind_some, hp _ (List.getElem_mem _) _ (List.getElem_mem _), Option.bind_some,
          List.drop_eq_getElem_cons (l := a) (i := n) (by omega), List.drop_eq_getElem_cons (l := b) (i := n) (by omega), List.zip_cons_cons, List.all_cons]
        cases hf : f a[n] b[n] with
        | true => rw [if_pos rfl, w_succ (by omega), ih (n + 1) (by omega)]; rfl
        | false => rw [if_neg (by decide)]; rfl
    exact loop a.length 0 (by omega)
  · rw [if_neg (by omega), decide_eq_false hl]; rfl
def like (x y : Ev) : Bool := decide (x.Kind = y.Kind) && (decide (x.Kind = 1) || x.Msg == y.Msg)
theorem like_val {x y : Ev} : roadlaw4_TraceTells_1 x y = some (like x y) := by
  unfold roadlaw4_TraceTells_1 like
  by_cases h : x.Kind = y.Kind
  · rw [if_pos h, decide_eq_true h]
    by_cases h1 : x.Kind = 1
    · rw [if_pos h1, decide_eq_true h1]; rfl
    · rw [if_neg h1, decide_eq_false h1]; rfl
  · rw [if_neg h, decide_eq_false h]; rfl
theorem alike_val {x y : Ev} (hp : x.Place = y.Place) : trace_alike x y = some (like x y) := by
  rw [← like_val]
  unfold trace_alike roadlaw4_TraceTells_1
  rw [if_pos hp]
theorem fil_place {l : List Ev} {p : Int} {x : Ev} (h : x ∈ fil l p) : x.Place = p := of_decide_eq_true (List.mem_filter.1 h).2
def Eq8 (a b : List Ev) (q : Nat) : Bool := eqF like (fil a (q : Int)) (fil b (q : Int))
theorem fil_len {l : List Ev} {p : Int} : (fil l p).length ≤ l.length := List.length_filter_le ..
theorem same_loop {a b : List Ev} (ha : histErr a = 0) (hb : histErr b = 0) : ∀ (d n : Nat), n + d = 8 → ∃ r, trace_Same.l0 a b (n : Int) = some (r, 0) ∧ (r = true ↔ ∀ q, n ≤ q → q < 8 → Eq8 a b q = true) := by
  have h1 := (val_of ha).1
  intro d
  induction d with
  | zero =>
    intro n hn
    rw [trace_Same.l0_eq, if_neg (by omega)]
    exact ⟨_, rfl, fun _ q h h2 => absurd h2 (by omega), fun _ => rfl⟩
  | succ d ih =>
    intro n hn
    rw [trace_Same.l0_eq, if_pos (by omega), at_val ha (by omega) (by omega), Option.bind_some, at_val hb (by omega) (by omega), Option.bind_some]
    show ∃ r, (Option.bind (slices_EqualFunc_52 (fil a n) (fil b n) _) _) = _ ∧ _
    rw [equalFunc_val (f := like) (by have := fil_len (l := a) (p := n); omega) (fun x hx y hy => alike_val (by rw [fil_place hx, fil_place hy])), Option.bind_some, w_succ (by omega)]
    cases hE : eqF like (fil a n) (fil b n) with
    | true =>
      rw [if_pos rfl]
      obtain ⟨r, hr, hw⟩ := ih (n + 1) (by omega)
      refine ⟨r, hr, hw.trans ⟨fun h q h1 h2 => ?_, fun h q h1 h2 => h q (by omega) h2⟩⟩
      by_cases he : q = n
      · subst he; exact hE
      · exact h q (by omega) h2
    | false =>
      rw [if_neg (by decide)]
      refine ⟨false, rfl, Iff.intro (fun h => by cases h) (fun h => ?_)⟩
      have := h n (Nat.le_refl _) (by omega); unfold Eq8 at this; rw [hE] at this; exact this
theorem equal_loop {a : List Ev} (h : a.length ≤ 1000) : ∀ (d i : Nat), i + d = a.length → slices_Equal_50.l0 a a (a.length : Int) (i : Int) = some true := by
  intro d
  induction d with
  | zero => intro i hi; rw [slices_Equal_50.l0_eq, if_neg (by omega)]
  | succ d ih => intro i hi; rw [slices_Equal_50.l0_eq, if_pos (by omega), gi_at (by omega), Option.bind_some, Option.bind_some, if_pos (by simp), w_succ (by omega)]; exact ih (i + 1) (by omega)
theorem equal_val {a : List Ev} (h : a.length ≤ 1000) : slices_Equal_50 a a = some true := by
  unfold slices_Equal_50
  rw [if_pos rfl]
  exact equal_loop h a.length 0 (by omega)

/-! ### The law -/
theorem law_loop {a b : List Ev} (h1 : a.length ≤ 200) (h2 : b.length ≤ 200) {r : Bool} (hr : r = true ↔ ∀ q, 0 ≤ q → q < 8 → Eq8 a b q = true) : ∀ (d n : Nat) (s : Bool), n + d = 8 → (s = true ↔ ∀ q, q < n → Eq8 a b q = true) → roadlaw4_TraceTells.l0 a b r 0 s (n : Int) = some true := by
  intro d
  induction d with
  | zero =>
    intro n s hn hs
    rw [roadlaw4_TraceTells.l0_eq, if_neg (by omega), if_pos rfl]
    have : r = s := Bool.eq_iff_iff.2 (hr.trans (Iff.trans ⟨fun h q hq => h q (by omega) (by omega), fun h q _ hq => h q (by omega)⟩ hs.symm))
    rw [this]; simp
  | succ d ih =>
    intro n s hn hs
    rw [roadlaw4_TraceTells.l0_eq, if_pos (by omega), w_succ (by omega)]
    cases s with
    | true =>
      rw [if_pos rfl, of_val h1, Option.bind_some, of_val h2, Option.bind_some, equalFunc_val (f := like) (by have := fil_len (l := a) (p := n); omega) (fun x hx y hy => like_val), Option.bind_some]
      refine ih (n + 1) _ (by omega) ⟨fun h q hq => ?_, fun h => h n (by omega)⟩
      by_cases he : q = n
      · subst he; exact h
      · exact hs.1 rfl q (by omega)
    | false =>
      rw [if_neg (by decide)]
      exact ih (n + 1) _ (by omega) ⟨fun h => (by cases h), fun h => hs.2 fun q hq => h q (by omega)⟩
theorem law_j3 {a b : List Ev} (ha : histErr a = 0) : ∃ r e, trace_Same a b = some (r, e) ∧ roadlaw4_TraceTells.j3 a b r e = some true := by
  unfold trace_Same roadlaw4_TraceTells.j3
  rw [check_val, Option.bind_some, if_pos ha, check_val, Option.bind_some, history_val]
  simp only [Option.bind_some]
  by_cases hb : histErr b = 0
  · obtain ⟨r, hr, hw⟩ := same_loop ha hb 8 0 rfl
    rw [if_pos hb]
    refine ⟨r, 0, hr, ?_⟩
    rw [if_pos hb]
    exact law_loop (val_of ha).1 (val_of hb).1 hw 8 0 true rfl ⟨fun _ q h => absurd h (by omega), fun _ => rfl⟩
  · rw [if_neg hb]
    refine ⟨_, _, rfl, ?_⟩
    rw [if_neg hb, if_pos rfl]; rfl
theorem law_l1 {a b : List Ev} (v : Val a) {x : Nat} (hx : x < a.length) {y : Int} {A : List Ev} {ea : Int} {r : Bool} {e : Int} (K : roadlaw4_TraceTells.j1 a b y A ea r e = some true) :
    ∀ (d n : Nat), n + d = a.length → roadlaw4_TraceTells.l1 a b (x : Int) y (sel a x (x + 1)) 0 A ea r e (Ps a) (sel a x n) a (a.length : Int) (n : Int) = some true := by
  have hL := v.1
  intro d
  induction d with
  | zero =>
    intro n hn
    have hs := sel_len (l := a) (x := x) (x + 1)
    have hm := sel_more (l := a) (x := x) (n - (x + 1))
    rw [show x + 1 + (n - (x + 1)) = n by omega] at hm
    rw [roadlaw4_TraceTells.l1_eq, if_neg (by omega), if_pos rfl, hm, equal_val (by omega), Option.bind_some, if_pos rfl]
    exact K
  | succ d ih =>
    intro n hn
    have hlt : n < a.length := by omega
    have hs := sel_len (l := a) (x := x) n
    have yes : DS a x n → roadlaw4_TraceTells.j5 a b (x : Int) y (sel a x (x + 1)) 0 A ea r e (Ps a) (sel a x n) (ev a n) a (a.length : Int) (n : Int) true = some true := by
      intro h
      rw [roadlaw4_TraceTells.j5_eq, if_pos rfl, ap_one (by omega), Option.bind_some, w_succ (by omega), ← ih (n + 1) (by omega)]
      show _ = roadlaw4_TraceTells.l1 _ _ _ _ _ _ _ _ _ _ _ (sel a x n ++ _) _ _ _
      rw [if_pos (pd_t h)]
    have no : ¬ DS a x n → roadlaw4_TraceTells.j5 a b (x : Int) y (sel a x (x + 1)) 0 A ea r e (Ps a) (sel a x n) (ev a n) a (a.length : Int) (n : Int) false = some true := by
      intro h
      rw [roadlaw4_TraceTells.j5_eq, if_neg (by decide), w_succ (by omega), ← ih (n + 1) (by omega)]
      show _ = roadlaw4_TraceTells.l1 _ _ _ _ _ _ _ _ _ _ _ (sel a x n ++ _) _ _ _
      rw [if_neg (by rw [pd_f h]; decide), List.append_nil]
    rw [roadlaw4_TraceTells.l1_eq, if_pos (by omega), gi_some (k := n) rfl (ev_some hlt), Option.bind_some]
    by_cases he : (n : Int) = (x : Int)
    · rw [if_pos he]; exact yes (.inl (by omega))
    · rw [if_neg he, gi_some (k := x) rfl (ps_at hx), Option.bind_some, gi_some (k := n) rfl (pr_at hlt), Option.bind_some]
      by_cases hd : Pst a x n
      · rw [pd_t hd]; exact yes (.inr hd)
      · rw [pd_f hd]; exact no (fun h => h.elim (fun h => he (by omega)) hd)
theorem two_pst : Pst [(⟨0, 2, 5⟩ : Ev), ⟨1, 3, 5⟩] 1 0 := .base (by omega) (.inr ⟨rfl, rfl, rfl⟩)
theorem TraceTells (a b : List Ev) (x y : Int) (q0 : a.length * 24 ≤ 140737488351232 ∧ ∀ z ∈ a, T_api_Event.Q z) (q1 : b.length * 24 ≤ 140737488351232 ∧ ∀ z ∈ b, T_api_Event.Q z) (q2 : -9223372036854775808 ≤ x ∧ x ≤ 9223372036854775807) (q3 : -9223372036854775808 ≤ y ∧ y ≤ 9223372036854775807) : roadlaw4_TraceTells a b x y = some true := by
  unfold roadlaw4_TraceTells roadlaw4_two
  rw [Option.bind_some]
  have h2 : histErr [(⟨0, 2, 5⟩ : Ev), ⟨1, 3, 5⟩] = 0 := by decide
  have h3 := led_in (x := 1) h2 (by decide)
  have h4 : sel [(⟨0, 2, 5⟩ : Ev), ⟨1, 3, 5⟩] 1 2 = [⟨0, 2, 5⟩, ⟨1, 3, 5⟩] := by
    show ([] ++ _) ++ _ = _
    rw [if_pos (pd_t (.inr two_pst)), if_pos (pd_t (.inl rfl))]; rfl
  rw [show trace_Led [(T_api_Event.mk 0 2 5), (T_api_Event.mk 1 3 5)] (1 : Int) = some (sel [(⟨0, 2, 5⟩ : Ev), ⟨1, 3, 5⟩] 1 2, 0) from h3, Option.bind_some, if_pos rfl, if_pos (by show ((sel [(⟨0, 2, 5⟩ : Ev), ⟨1, 3, 5⟩] 1 2).length : Int) = 2; rw [h4]; rfl)]
  unfold roadlaw4_TraceTells.j0
  by_cases h : histErr a = 0
  · have v := val_of h
    obtain ⟨r, e, hs, hj⟩ := law_j3 (b := b) h
    have hj1 : ∃ A ea, trace_At a y = some (A, ea) ∧ roadlaw4_TraceTells.j1 a b y A ea r e = some true := by
      unfold roadlaw4_TraceTells.j1
      by_cases hy : y < 0 ∨ y ≥ 8
      · refine ⟨_, _, at_out h hy, ?_⟩
        have t : roadlaw4_TraceTells.j4 a b y [] 1 r e true = some true := by unfold roadlaw4_TraceTells.j4; rw [if_pos rfl, if_pos rfl, if_pos (by rfl)]; exact hj
        by_cases hy0 : y < 0
        · rw [if_pos hy0]; exact t
        · rw [if_neg hy0, decide_eq_true (by omega)]; exact t
      · refine ⟨_, _, at_val h (by omega) (by omega), ?_⟩
        have hl := fil_len (l := a) (p := y)
        have := v.1
        rw [if_neg (by omega), decide_eq_false (by omega)]
        unfold roadlaw4_TraceTells.j4
        rw [if_neg (by decide), if_pos rfl, of_val v.1, Option.bind_some, equal_val (by omega), Option.bind_some, if_pos rfl]
        exact hj
    obtain ⟨A, ea, hA, hj1⟩ := hj1
    by_cases hx : x < 0 ∨ x ≥ (a.length : Int)
    · rw [led_out h hx, Option.bind_some, hA, Option.bind_some, hs, Option.bind_some, history_val, Option.bind_some, if_pos h]
      have t : roadlaw4_TraceTells.j2 a b x y [] 1 A ea r e true = some true := by unfold roadlaw4_TraceTells.j2; rw [if_pos rfl, if_pos rfl, if_pos (by rfl)]; exact hj1
      by_cases h1 : x < 0
      · rw [if_pos h1]; exact t
      · rw [if_neg h1, decide_eq_true (by omega)]; exact t
    · obtain ⟨i, hi⟩ : ∃ i : Nat, x = i := ⟨x.toNat, by omega⟩
      subst hi
      rw [led_in h (by omega), Option.bind_some, hA, Option.bind_some, hs, Option.bind_some, history_val, Option.bind_some, if_pos h, if_neg (by omega), decide_eq_false (by omega)]
      unfold roadlaw4_TraceTells.j2
      rw [if_neg (by decide), past_val v.1, Option.bind_some]
      exact law_l1 v (by omega) hj1 a.length 0 (by omega)
  · rw [led_bad h, Option.bind_some, at_bad h, Option.bind_some]
    unfold trace_Same
    rw [check_val, Option.bind_some, if_neg h, Option.bind_some, history_val, Option.bind_some, if_neg h, if_pos rfl, if_pos rfl, if_pos rfl]
    rfl
