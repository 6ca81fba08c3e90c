/- Who may have how much: the law LimitTells over numbers, lists and trees alone (no memory, no Go). -/
import Derived.Test.YtklobcelbpjjcacLfLimitTells
namespace Go.Proofs.Ytklobcelbpjjcac.Fw
open Go Go.Hw Go.Proofs
set_option linter.unusedVariables false
abbrev LR := T_limit_Row
abbrev Va := T_api_Value

/-! ### Parts of a value -/
theorem deep_val : ∀ (n : Nat) (v : Va), SizeOf.sizeOf v ≤ n → T_api_Value.Q v → ∃ a b, roadref3_Deep v = some (a, b) ∧ limit_Cells v = some b := by
  intro n
  induction n with
  | zero => intro v hv; cases v; simp at hv
  | succ n ih =>
    intro v hv hQ
    obtain ⟨_, _, _, hQl, hQa⟩ := T_api_Value.Q_iff.1 hQ
    rw [roadref3_Deep_eq, limit_Cells_eq]
    have loop : ∀ (d i : Nat) (x y : Int), i + d = v.Args.length → ∃ a b, roadref3_Deep.l0 x y v.Args (v.Args.length : Int) (i : Int) = some (a, b) ∧ limit_Cells.l0 y v.Args (v.Args.length : Int) (i : Int) = some b := by
      intro d
      induction d with
      | zero => intro i x y hi; rw [roadref3_Deep.l0_eq, if_neg (by omega), limit_Cells.l0_eq, if_neg (by omega)]; exact ⟨_, _, rfl, rfl⟩
      | succ d ih2 =>
        intro i x y hi
        have hlt : i < v.Args.length := by omega
        have hm := List.getElem_mem hlt
        have hsz : SizeOf.sizeOf v.Args[i] ≤ n := by
          have h1 := List.sizeOf_lt_of_mem hm
          have h2 : SizeOf.sizeOf v = 1 + SizeOf.sizeOf v.Kind + SizeOf.sizeOf v.Num + SizeOf.sizeOf v.Text + SizeOf.sizeOf v.Args := by cases v; simp
          omega
        obtain ⟨a, b, h1, h2⟩ := ih _ hsz (hQa _ hm)
        have e1 : roadref3_Deep.l0 x y v.Args (v.Args.length : Int) (i : Int) = roadref3_Deep.l0 (if a > x then a else x) (IntKind.wrap .i64 (y + b)) v.Args (v.Args.length : Int) ((i + 1 : Nat) : Int) := by
          rw [roadref3_Deep.l0_eq, if_pos (by omega), gi_at hlt, Option.bind_some, h1, Option.bind_some, w_succ (by omega)]
        have e2 : limit_Cells.l0 y v.Args (v.Args.length : Int) (i : Int) = limit_Cells.l0 (IntKind.wrap .i64 (y + b)) v.Args (v.Args.length : Int) ((i + 1 : Nat) : Int) := by
          rw [limit_Cells.l0_eq, if_pos (by omega), gi_at hlt, Option.bind_some, h2, Option.bind_some, w_succ (by omega)]
        rw [e1, e2]
        exact ih2 (i + 1) _ _ (by omega)
    exact loop _ 0 _ _ (Nat.zero_add _)

/-! ### Right rows -/
def OkR (r : LR) : Prop := 0 ≤ r.Letters ∧ r.Letters ≤ r.MaxLetters ∧ r.MaxLetters ≤ 1073741824 ∧ 0 ≤ r.Cells ∧ r.Cells ≤ r.MaxCells ∧ r.MaxCells ≤ 1073741824
instance (r : LR) : Decidable (OkR r) := by unfold OkR; infer_instance
def ferr : Option Int → List LR → Int
  | _, [] => 0
  | p, r :: t => if OkR r then (match p with | some q => if q ≥ r.Ref then 21 else ferr (some r.Ref) t | none => ferr (some r.Ref) t) else 1
theorem ferr_cons (p : Option Int) (r : LR) (t : List LR) : ferr p (r :: t) = if OkR r then (match p with | some q => if q ≥ r.Ref then 21 else ferr (some r.Ref) t | none => ferr (some r.Ref) t) else 1 := rfl
def prev (l : List LR) (i : Nat) : Option Int := if i = 0 then none else (l[i - 1]?).map (·.Ref)
theorem prev_succ {l : List LR} {i : Nat} (h : i < l.length) : prev l (i + 1) = some l[i].Ref := by unfold prev; rw [if_neg (by omega), show i + 1 - 1 = i by omega, List.getElem?_eq_getElem h]; rfl
theorem ferr_ok {l : List LR} {i : Nat} (h : i < l.length) (ok : OkR l[i]) : ferr (prev l i) (l.drop i) = if i > 0 then (if (l[i - 1]?.map (·.Ref)).getD 0 ≥ l[i].Ref then 21 else ferr (prev l (i + 1)) (l.drop (i + 1))) else ferr (prev l (i + 1)) (l.drop (i + 1)) := by
  rw [List.drop_eq_getElem_cons h, prev_succ h]
  rw [ferr_cons, if_pos ok]
  unfold prev
  by_cases h0 : i = 0
  · rw [if_pos h0, if_neg (by omega)]
  · rw [if_neg h0, if_pos (by omega), List.getElem?_eq_getElem (by omega)]
    rfl
theorem ferr_bad {l : List LR} {i : Nat} (h : i < l.length) (ok : ¬ OkR l[i]) : ferr (prev l i) (l.drop i) = 1 := by
  rw [List.drop_eq_getElem_cons h]
  rw [ferr_cons, if_neg ok]
theorem min_iff (r : LR) : (if r.MaxCells < (if r.MaxLetters < (if r.Cells < r.Letters then r.Cells else r.Letters) then r.MaxLetters else (if r.Cells < r.Letters then r.Cells else r.Letters)) then r.MaxCells else (if r.MaxLetters < (if r.Cells < r.Letters then r.Cells else r.Letters) then r.MaxLetters else (if r.Cells < r.Letters then r.Cells else r.Letters))) < 0 ↔ r.Letters < 0 ∨ r.Cells < 0 ∨ r.MaxLetters < 0 ∨ r.MaxCells < 0 := by
  by_cases h1 : r.Cells < r.Letters
  · simp only [if_pos h1]
    by_cases h2 : r.MaxLetters < r.Cells
    · simp only [if_pos h2]; split <;> omega
    · simp only [if_neg h2]; split <;> omega
  · simp only [if_neg h1]
    by_cases h2 : r.MaxLetters < r.Letters
    · simp only [if_pos h2]; split <;> omega
    · simp only [if_neg h2]; split <;> omega
theorem max_iff (r : LR) : (if r.MaxCells > r.MaxLetters then r.MaxCells else r.MaxLetters) > 1073741824 ↔ r.MaxCells > 1073741824 ∨ r.MaxLetters > 1073741824 := by split <;> omega
theorem check_loop {l : List LR} (hl : l.length ≤ 100) : ∀ (d i : Nat), i + d = l.length → limit_Check.l0 l l (l.length : Int) (i : Int) = some (ferr (prev l i) (l.drop i)) := by
  intro d
  induction d with
  | zero => intro i hi; rw [limit_Check.l0_eq, if_neg (by omega), List.drop_eq_nil_of_le (by omega)]; unfold ferr; rfl
  | succ d ih =>
    intro i hi
    have hlt : i < l.length := by omega
    rw [limit_Check.l0_eq, if_pos (by omega), gi_at hlt, Option.bind_some]
    have bad : ¬ OkR l[i] → limit_Check.j0 l (i : Int) l[i] l (l.length : Int) (i : Int) true = some (ferr (prev l i) (l.drop i)) := by
      intro h; rw [limit_Check.j0_eq, if_pos rfl, ferr_bad hlt h]
    have good : OkR l[i] → limit_Check.j0 l (i : Int) l[i] l (l.length : Int) (i : Int) false = some (ferr (prev l i) (l.drop i)) := by
      intro h
      rw [limit_Check.j0_eq, if_neg (by decide), ferr_ok hlt h, w_succ (by omega), ih (i + 1) (by omega)]
      by_cases h0 : i > 0
      · rw [if_pos (by omega), if_pos h0, wrap_in (by omega) (by omega), show (i : Int) - 1 = ((i - 1 : Nat) : Int) by omega, gi_at (by omega), Option.bind_some, List.getElem?_eq_getElem (show i - 1 < l.length by omega)]
        simp only [Option.map_some, Option.getD_some]
        split <;> rfl
      · rw [if_neg (by omega), if_neg h0]
    generalize l[i] = r at *
    by_cases h : OkR r
    · have h' := h
      unfold OkR at h'
      rw [if_neg (fun q => by have := (min_iff r).1 q; omega), if_neg (fun q => by have := (max_iff r).1 q; omega), if_neg (by omega), decide_eq_false (by omega)]
      exact good h
    · have b := bad h
      have h' := h
      unfold OkR at h'
      by_cases g1 : r.Letters < 0 ∨ r.Cells < 0 ∨ r.MaxLetters < 0 ∨ r.MaxCells < 0
      · rw [if_pos ((min_iff r).2 g1)]; exact b
      rw [if_neg (fun q => g1 ((min_iff r).1 q))]
      by_cases g2 : r.MaxCells > 1073741824 ∨ r.MaxLetters > 1073741824
      · rw [if_pos ((max_iff r).2 g2)]; exact b
      rw [if_neg (fun q => g2 ((max_iff r).1 q))]
      by_cases g3 : r.Letters > r.MaxLetters
      · rw [if_pos g3]; exact b
      rw [if_neg g3, decide_eq_true (by omega)]; exact b
def F (l : List LR) : Int := if l.length > 100 then 2 else ferr none l
theorem check_val (l : List LR) : limit_Check l = some (F l) := by
  unfold limit_Check F
  by_cases h : l.length > 100
  · rw [if_pos (by omega), if_pos h]
  · rw [if_neg (by omega), if_neg h]; exact check_loop (by omega) l.length 0 (by omega)
theorem in_val (x a b : Int) : roadref3_In x a b = some (decide (a ≤ x ∧ x ≤ b)) := by
  unfold roadref3_In
  by_cases h : x ≥ a
  · rw [if_pos h]; congr 1; exact decide_eq_decide.2 ⟨fun k => ⟨h, k⟩, fun k => k.2⟩
  · rw [if_neg h, decide_eq_false (fun k => h k.1)]
theorem fault_loop {l : List LR} (hl : l.length ≤ 100) : ∀ (d i : Nat), i + d = l.length → roadref3_LimitFault.l0 l l (l.length : Int) (i : Int) = some (ferr (prev l i) (l.drop i)) := by
  intro d
  induction d with
  | zero => intro i hi; rw [roadref3_LimitFault.l0_eq, if_neg (by omega), List.drop_eq_nil_of_le (by omega)]; unfold ferr; rfl
  | succ d ih =>
    intro i hi
    have hlt : i < l.length := by omega
    have good : OkR l[i] → roadref3_LimitFault.j0 l (i : Int) l[i] l (l.length : Int) (i : Int) = some (ferr (prev l i) (l.drop i)) := by
      intro h
      rw [roadref3_LimitFault.j0_eq, ferr_ok hlt h, w_succ (by omega), ih (i + 1) (by omega)]
      by_cases h0 : i > 0
      · rw [if_pos (by omega), if_pos h0, wrap_in (by omega) (by omega), show (i : Int) - 1 = ((i - 1 : Nat) : Int) by omega, gi_at (by omega), Option.bind_some, List.getElem?_eq_getElem (show i - 1 < l.length by omega)]
        simp only [Option.map_some, Option.getD_some]
        split <;> rfl
      · rw [if_neg (by omega), if_neg h0]
    have bad : ¬ OkR l[i] → some (1 : Int) = some (ferr (prev l i) (l.drop i)) := fun h => by rw [ferr_bad hlt h]
    rw [roadref3_LimitFault.l0_eq, if_pos (by omega), gi_at hlt, Option.bind_some]
    generalize l[i] = r at *
    simp only [in_val, Option.bind_some]
    unfold OkR at good bad
    by_cases g1 : 0 ≤ r.MaxLetters ∧ r.MaxLetters ≤ 1073741824
    · rw [decide_eq_true g1, if_pos rfl]
      by_cases g2 : 0 ≤ r.MaxCells ∧ r.MaxCells ≤ 1073741824
      · rw [decide_eq_true g2, if_pos rfl]
        by_cases g3 : 0 ≤ r.Letters ∧ r.Letters ≤ r.MaxLetters
        · rw [decide_eq_true g3, if_pos rfl]
          by_cases g4 : 0 ≤ r.Cells ∧ r.Cells ≤ r.MaxCells
          · rw [decide_eq_true g4, if_pos rfl]; exact good (by omega)
          · rw [decide_eq_false g4, if_neg (by decide)]; exact bad (by omega)
        · rw [decide_eq_false g3, if_neg (by decide)]; exact bad (by omega)
      · rw [decide_eq_false g2, if_neg (by decide)]; exact bad (by omega)
    · rw [decide_eq_false g1, if_neg (by decide)]; exact bad (by omega)
theorem fault_val (l : List LR) : roadref3_LimitFault l = some (F l) := by
  unfold roadref3_LimitFault F
  by_cases h : l.length > 100
  · rw [if_pos (by omega), if_pos h]
  · rw [if_neg (by omega), if_neg h]; exact fault_loop (by omega) l.length 0 (by omega)
theorem ferr_right : ∀ (l : List LR) (p : Option Int), ferr p l = 0 → (∀ r ∈ l, OkR r) ∧ l.Pairwise (fun a b => a.Ref < b.Ref) ∧ ∀ q, p = some q → ∀ r ∈ l, q < r.Ref := by
  intro l
  induction l with
  | nil => intro p _; exact ⟨fun r h => (by cases h), .nil, fun q _ r h => (by cases h)⟩
  | cons x l ih =>
    intro p h
    rw [ferr_cons] at h
    by_cases ok : OkR x
    · rw [if_pos ok] at h
      have key : ferr (some x.Ref) l = 0 ∧ ∀ q, p = some q → q < x.Ref := by
        cases p with
        | none => exact ⟨h, fun q hq => by cases hq⟩
        | some q =>
          simp only at h
          by_cases g : q ≥ x.Ref
          · rw [if_pos g] at h; omega
          · rw [if_neg g] at h; exact ⟨h, fun q' hq => by cases hq; omega⟩
      obtain ⟨i1, i2, i3⟩ := ih _ key.1
      refine ⟨fun r hr => ?_, .cons (fun r hr => i3 _ rfl r hr) i2, fun q hq r hr => ?_⟩
      · rcases List.mem_cons.1 hr with rfl | hr
        · exact ok
        · exact i1 r hr
      · rcases List.mem_cons.1 hr with rfl | hr
        · exact key.2 q hq
        · have := key.2 q hq; have := i3 _ rfl r hr; omega
    · rw [if_neg ok] at h; omega
/-- Rows as they should be. -/
def Rows (l : List LR) : Prop := l.length ≤ 100 ∧ (∀ r ∈ l, OkR r) ∧ ∀ i j (hi : i < l.length) (hj : j < l.length), i < j → l[i].Ref < l[j].Ref
theorem rows_of {l : List LR} (h : F l = 0) : Rows l := by
  unfold F at h
  by_cases hl : l.length > 100
  · rw [if_pos hl] at h; omega
  · rw [if_neg hl] at h
    obtain ⟨h1, h2, _⟩ := ferr_right l none h
    exact ⟨by omega, h1, fun i j hi hj hij => List.pairwise_iff_getElem.1 h2 i j hi hj hij⟩

/-! ### Where an actor's row is -/
def Has (l : List LR) (x : Int) (i : Nat) : Prop := ∃ h : i < l.length, l[i].Ref = x
theorem half_val : ∀ n : Fin 256, IntKind.wrap .i64 (shrI .u64 (IntKind.wrap .u64 ((n.1 : Nat) : Int)) 1) = ((n.1 / 2 : Nat) : Int) := by decide +kernel
theorem cmp_val (x y : Int) : cmp_Compare_139 x y = some (if x < y then -1 else if x > y then 1 else 0) := by
  unfold cmp_Compare_139 cmp_isNaN_162
  simp only [Option.bind_some]
  rw [if_neg (by simp), if_neg (by simp)]
  split
  · rfl
  · split <;> rfl
theorem at1_val (r : LR) (x : Int) : limit_at_1 r x = some (if r.Ref < x then -1 else if r.Ref > x then 1 else 0) := by
  unfold limit_at_1; rw [cmp_val, Option.bind_some]
theorem bs_loop {l : List LR} (R : Rows l) (x : Int) : ∀ (d lo hi : Nat), hi - lo ≤ d → lo ≤ hi → hi ≤ l.length → (∀ j (h : j < l.length), j < lo → l[j].Ref < x) → (∀ j (h : j < l.length), hi ≤ j → x ≤ l[j].Ref) →
    ∃ (p : Nat) (b : Bool), slices_BinarySearchFunc_144.l0 l x (fun z14 z15 => limit_at_1 z14 z15) (l.length : Int) (lo : Int) (hi : Int) = some ((p : Int), b) ∧ (b = true → Has l x p) ∧ (b = false → ∀ j (h : j < l.length), l[j].Ref ≠ x) := by
  have hl := R.1
  intro d
  induction d with
  | zero =>
    intro lo hi hd h1 h2 h3 h4
    have : lo = hi := by omega
    subst this
    rw [slices_BinarySearchFunc_144.l0_eq, if_neg (by omega)]
    by_cases hlt : lo < l.length
    · rw [if_pos (by omega), gi_at hlt, Option.bind_some, at1_val, Option.bind_some]
      have h5 := h4 lo hlt (Nat.le_refl _)
      refine ⟨lo, _, rfl, fun hb => ⟨hlt, ?_⟩, fun hb j hj he => ?_⟩
      · rw [beq_iff_eq] at hb
        by_cases g1 : l[lo].Ref < x
        · rw [if_pos g1] at hb; omega
        · rw [if_neg g1] at hb
          by_cases g2 : l[lo].Ref > x
          · rw [if_pos g2] at hb; omega
          · omega
      · rw [beq_eq_false_iff_ne] at hb
        have h6 : l[lo].Ref ≠ x := by
          intro e; apply hb; rw [if_neg (by omega), if_neg (by omega)]
        by_cases g : j < lo
        · have := h3 j hj g; omega
        · by_cases g2 : j = lo
          · subst g2; exact h6 he
          · have := R.2.2 lo j hlt hj (by omega); omega
    · rw [if_neg (by omega)]
      exact ⟨lo, false, rfl, (fun h => by cases h), (fun _ j hj he => by have := h3 j hj (by omega); omega)⟩
  | succ d ih =>
    intro lo hi hd h1 h2 h3 h4
    by_cases hlt : lo < hi
    · have hv := half_val ⟨lo + hi, by omega⟩
      simp only at hv
      have hw : IntKind.wrap .i64 ((lo : Int) + (hi : Int)) = ((lo + hi : Nat) : Int) := by rw [wrap_in (by omega) (by omega)]; omega
      have hmid : (lo + hi) / 2 < l.length := by omega
      rw [slices_BinarySearchFunc_144.l0_eq, if_pos (by omega), hw, hv, gi_at hmid, Option.bind_some, at1_val, Option.bind_some]
      by_cases g : l[(lo + hi) / 2].Ref < x
      · rw [if_pos g, if_pos (by decide), w_succ (by omega)]
        refine ih _ hi (by omega) (by omega) h2 (fun j hj hlj => ?_) h4
        by_cases e : j = (lo + hi) / 2
        · subst e; exact g
        · have := R.2.2 j _ hj hmid (by omega); omega
      · rw [if_neg g, if_neg (by split <;> omega)]
        refine ih lo _ (by omega) (by omega) (by omega) h3 (fun j hj hlj => ?_)
        by_cases e : j = (lo + hi) / 2
        · subst e; omega
        · have := R.2.2 _ j hmid hj (by omega); omega
    · exact ih lo hi (by omega) h1 h2 h3 h4
theorem at_bad {l : List LR} {x : Int} (h : F l ≠ 0) : limit_at l x = some (0, F l) := by
  unfold limit_at; rw [check_val, Option.bind_some, if_neg h]
theorem has_one {l : List LR} (R : Rows l) {x : Int} {i j : Nat} (a : Has l x i) (b : Has l x j) : i = j := by
  obtain ⟨a1, a2⟩ := a
  obtain ⟨b1, b2⟩ := b
  rcases Nat.lt_trichotomy i j with h | h | h
  · have := R.2.2 i j a1 b1 h; omega
  · exact h
  · have := R.2.2 j i b1 a1 h; omega
theorem at_val {l : List LR} (h : F l = 0) (x : Int) : (∃ i, Has l x i ∧ limit_at l x = some ((i : Int), 0) ∧ roadref3_LimitAt l x = some (i : Int)) ∨ ((∀ j (h : j < l.length), l[j].Ref ≠ x) ∧ limit_at l x = some (0, 4) ∧ roadref3_LimitAt l x = some (-1)) := by
  have R := rows_of h
  have hl := R.1
  obtain ⟨p, b, h1, h2, h3⟩ := bs_loop R x l.length 0 l.length (by omega) (by omega) (Nat.le_refl _) (fun j _ hj => absurd hj (by omega)) (fun j hj hj2 => absurd hj2 (by omega))
  have e : slices_BinarySearchFunc_144 l x (fun z14 z15 => limit_at_1 z14 z15) = some ((p : Int), b) := h1
  unfold limit_at
  rw [check_val, Option.bind_some, if_pos h, e, Option.bind_some]
  unfold roadref3_LimitAt
  cases b with
  | true =>
    obtain ⟨hp, hx⟩ := h2 rfl
    refine .inl ⟨p, ⟨hp, hx⟩, by rw [if_pos rfl], ?_⟩
    have loop : ∀ (d j : Nat), j + d = p → roadref3_LimitAt.l0 x l (l.length : Int) (j : Int) = some (p : Int) := by
      intro d
      induction d with
      | zero => intro j hj; rw [roadref3_LimitAt.l0_eq, if_pos (by omega), gi_at (by omega), Option.bind_some]; simp only [show j = p by omega]; rw [if_pos hx]
      | succ d ih =>
        intro j hj
        have := R.2.2 j p (by omega) hp (by omega)
        rw [roadref3_LimitAt.l0_eq, if_pos (by omega), gi_at (by omega), Option.bind_some, if_neg (by omega), w_succ (by omega)]
        exact ih (j + 1) (by omega)
    exact loop p 0 (by omega)
  | false =>
    refine .inr ⟨h3 rfl, by rw [if_neg (by exact Bool.false_ne_true)], ?_⟩
    have loop : ∀ (d j : Nat), j + d = l.length → roadref3_LimitAt.l0 x l (l.length : Int) (j : Int) = some (-1) := by
      intro d
      induction d with
      | zero => intro j hj; rw [roadref3_LimitAt.l0_eq, if_neg (by omega)]
      | succ d ih =>
        intro j hj
        rw [roadref3_LimitAt.l0_eq, if_pos (by omega), gi_at (by omega), Option.bind_some, if_neg (h3 rfl j (by omega)), w_succ (by omega)]
        exact ih (j + 1) (by omega)
    exact loop l.length 0 (by omega)
theorem same_loop {a : List LR} (h : a.length ≤ 1000) : ∀ (d i : Nat), i + d = a.length → roadref3_SameLimits.l0 a a (a.length : Int) (i : Int) = some true := by
  intro d
  induction d with
  | zero => intro i hi; rw [roadref3_SameLimits.l0_eq, if_neg (by omega)]
  | succ d ih => intro i hi; rw [roadref3_SameLimits.l0_eq, if_pos (by omega), gi_at (by omega), Option.bind_some, Option.bind_some, if_pos (by simp), w_succ (by omega)]; exact ih (i + 1) (by omega)
theorem same_val {a : List LR} (h : a.length ≤ 1000) : roadref3_SameLimits a a = some true := by
  unfold roadref3_SameLimits
  rw [if_pos rfl]
  exact same_loop h a.length 0 (by omega)

/-! ### The four calls -/
def amt (a b : Int) : Prop := (0 ≤ a ∧ a ≤ 1073741824) ∧ 0 ≤ b ∧ b ≤ 1073741824
instance (a b : Int) : Decidable (amt a b) := by unfold amt; infer_instance
theorem amount_val (n : Int) : limit_amount n = some (decide (0 ≤ n ∧ n ≤ 1073741824)) := by
  unfold limit_amount
  by_cases h : n ≥ 0
  · rw [if_pos h]; congr 1; exact decide_eq_decide.2 ⟨fun k => ⟨h, k⟩, fun k => k.2⟩
  · rw [if_neg h, decide_eq_false (fun k => h k.1)]
theorem clone_val {l : List LR} (h : l.length ≤ 1000) : slices_Clone_114 l = some l := slices_Clone_114.val l (by omega)
theorem set2 {l : List LR} {i : Nat} (h : i < l.length) (f g : LR → LR) : (gi l (i : Int)).bind (fun y => (some (l.set i (f y))).bind fun l1 => (gi l1 (i : Int)).bind fun y2 => some (l1.set i (g y2))) = some (l.set i (g (f l[i]))) := by
  rw [gi_at h, Option.bind_some, Option.bind_some, gi_at (by rw [List.length_set]; exact h), Option.bind_some, List.getElem_set_self, List.set_set]
def takeE (r : LR) (a b : Int) : Int := if ¬ amt a b then 1 else if r.Letters + a > r.MaxLetters then 6 else if r.Cells + b > r.MaxCells then 2 else 0
def giveE (r : LR) (a b : Int) : Int := if ¬ amt a b ∨ a > r.Letters ∨ b > r.Cells then 1 else 0
theorem take_val {l : List LR} (R : Rows l) {x a b : Int} {i : Nat} (hi : Has l x i) (e : limit_at l x = some ((i : Int), 0)) : limit_Take l x a b = some (if takeE (l[i]'hi.1) a b = 0 then (l.set i ⟨x, (l[i]'hi.1).Letters + a, (l[i]'hi.1).Cells + b, (l[i]'hi.1).MaxLetters, (l[i]'hi.1).MaxCells⟩, 0) else ([], takeE (l[i]'hi.1) a b)) := by
  obtain ⟨h, hx⟩ := hi
  have hl := R.1
  have ok := R.2.1 _ (List.getElem_mem h)
  unfold OkR at ok
  unfold limit_Take
  rw [e, Option.bind_some, if_pos rfl, amount_val, Option.bind_some, amount_val]
  have j1 : ∀ c : Bool, (c = true ↔ ¬ amt a b) → limit_Take.j1 l a b (i : Int) c = some (if takeE l[i] a b = 0 then (l.set i ⟨x, l[i].Letters + a, l[i].Cells + b, l[i].MaxLetters, l[i].MaxCells⟩, 0) else ([], takeE l[i] a b)) := by
    intro c hc
    unfold limit_Take.j1 takeE
    by_cases g : amt a b
    · have : c = false := Bool.eq_false_iff.2 fun q => hc.1 q g
      rw [this, if_neg (by decide), gi_at h, Option.bind_some, Option.bind_some, if_neg (not_not_intro g), wrap_in (n := l[i].MaxLetters - l[i].Letters) (by omega) (by omega)]
      unfold amt at g
      by_cases g1 : l[i].Letters + a > l[i].MaxLetters
      · rw [if_pos (by omega), if_pos g1, if_neg (by decide)]
      rw [if_neg (by omega), if_neg g1, Option.bind_some, Option.bind_some, wrap_in (n := l[i].MaxCells - l[i].Cells) (by omega) (by omega)]
      by_cases g2 : l[i].Cells + b > l[i].MaxCells
      · rw [if_pos (by omega), if_pos g2, if_neg (by decide)]
      rw [if_neg (by omega), if_neg g2, if_pos rfl]
      unfold limit_Take.j0
      rw [clone_val (by omega), Option.bind_some, gi_at h, Option.bind_some, Option.bind_some, Option.bind_some, Int.toNat_natCast, gi_at (by rw [List.length_set]; exact h), Option.bind_some, Option.bind_some, Option.bind_some, List.getElem_set_self, List.set_set,
        wrap_in (n := l[i].Letters + a) (by omega) (by omega)]
      show some (l.set i ⟨l[i].Ref, l[i].Letters + a, IntKind.wrap .i64 (l[i].Cells + b), l[i].MaxLetters, l[i].MaxCells⟩, (0 : Int)) = _
      rw [wrap_in (n := l[i].Cells + b) (by omega) (by omega), hx]
    · rw [if_pos (hc.2 g), if_pos g, if_neg (by decide)]
  by_cases g1 : 0 ≤ a ∧ a ≤ 1073741824
  · rw [decide_eq_true g1, if_pos rfl, Option.bind_some]
    refine j1 _ ?_
    by_cases g2 : 0 ≤ b ∧ b ≤ 1073741824
    · rw [decide_eq_true g2]; exact ⟨fun q => (by cases q), fun q => absurd (⟨g1, g2⟩ : amt a b) q⟩
    · rw [decide_eq_false g2]; exact ⟨fun _ q => g2 q.2, fun _ => rfl⟩
  · rw [decide_eq_false g1, if_neg (by decide)]
    exact j1 true ⟨fun _ q => g1 q.1, fun _ => rfl⟩
theorem give_val {l : List LR} (R : Rows l) {x a b : Int} {i : Nat} (hi : Has l x i) (e : limit_at l x = some ((i : Int), 0)) : limit_Give l x a b = some (if giveE (l[i]'hi.1) a b = 0 then (l.set i ⟨x, (l[i]'hi.1).Letters - a, (l[i]'hi.1).Cells - b, (l[i]'hi.1).MaxLetters, (l[i]'hi.1).MaxCells⟩, 0) else ([], giveE (l[i]'hi.1) a b)) := by
  obtain ⟨h, hx⟩ := hi
  have hl := R.1
  have ok := R.2.1 _ (List.getElem_mem h)
  unfold OkR at ok
  unfold limit_Give
  rw [e, Option.bind_some, if_pos rfl, amount_val, Option.bind_some, amount_val]
  have bad : (¬ amt a b ∨ a > l[i].Letters ∨ b > l[i].Cells) → limit_Give.j1 l a b (i : Int) true = some (if giveE l[i] a b = 0 then (l.set i ⟨x, l[i].Letters - a, l[i].Cells - b, l[i].MaxLetters, l[i].MaxCells⟩, 0) else ([], giveE l[i] a b)) := by
    intro q
    unfold limit_Give.j1 giveE
    rw [if_pos rfl, if_pos q, if_neg (by decide)]
  by_cases g1 : 0 ≤ a ∧ a ≤ 1073741824
  · rw [decide_eq_true g1, if_pos rfl, Option.bind_some]
    by_cases g2 : 0 ≤ b ∧ b ≤ 1073741824
    · rw [decide_eq_true g2, if_pos rfl, gi_at h, Option.bind_some, Option.bind_some]
      by_cases g3 : a > l[i].Letters
      · rw [if_pos g3]; exact bad (.inr (.inl g3))
      rw [if_neg g3]
      by_cases g4 : b > l[i].Cells
      · rw [decide_eq_true g4]; exact bad (.inr (.inr g4))
      rw [decide_eq_false g4]
      unfold limit_Give.j1 giveE limit_Give.j0
      have hn : ¬ (¬ amt a b ∨ a > l[i].Letters ∨ b > l[i].Cells) := fun q => by
        rcases q with q | q | q
        · exact q ⟨g1, g2⟩
        · exact g3 q
        · exact g4 q
      rw [if_neg (by decide), if_neg hn, if_pos rfl, clone_val (by omega), Option.bind_some, gi_at h, Option.bind_some, Option.bind_some, Option.bind_some, Int.toNat_natCast, gi_at (by rw [List.length_set]; exact h), Option.bind_some, Option.bind_some, Option.bind_some, List.getElem_set_self, List.set_set,
        wrap_in (n := l[i].Letters - a) (by omega) (by omega)]
      show some (l.set i ⟨l[i].Ref, l[i].Letters - a, IntKind.wrap .i64 (l[i].Cells - b), l[i].MaxLetters, l[i].MaxCells⟩, (0 : Int)) = _
      rw [wrap_in (n := l[i].Cells - b) (by omega) (by omega), hx]
    · rw [decide_eq_false g2, if_neg (by decide)]; exact bad (.inl fun q => g2 q.2)
  · rw [decide_eq_false g1, if_neg (by decide)]; exact bad (.inl fun q => g1 q.1)

theorem limited_val {l : List LR} (hl : l.length ≤ 1000) {i : Nat} (h : i < l.length) (y : LR) : roadlaw3_limited l (i : Int) y = some (l.set i y) := by
  unfold roadlaw3_limited
  rw [clone_val hl, Option.bind_some, gi_at h, Option.bind_some, Option.bind_some, Int.toNat_natCast]
/-- One more, at its place. -/
def ins (l : List LR) (p : Nat) (x : LR) : List LR := l.take p ++ [x] ++ l.drop p
theorem ins_len {l : List LR} {p : Nat} {x : LR} (h : p ≤ l.length) : (ins l p x).length = l.length + 1 := by unfold ins; simp; omega
theorem ins_get {l : List LR} {p : Nat} {x : LR} (h : p ≤ l.length) (j : Nat) : (ins l p x)[j]? = if j < p then l[j]? else if j = p then some x else l[j - 1]? := by
  unfold ins
  rw [List.append_assoc]
  by_cases h1 : j < p
  · rw [if_pos h1, List.getElem?_append_left (by rw [List.length_take]; omega), List.getElem?_take_of_lt h1]
  · rw [if_neg h1, List.getElem?_append_right (by rw [List.length_take]; omega), List.length_take, show j - min p l.length = j - p by omega]
    by_cases h2 : j = p
    · rw [if_pos h2, h2, Nat.sub_self]; rfl
    · rw [if_neg h2, List.getElem?_append_right (by simp; omega), List.getElem?_drop]
      congr 1
      simp; omega
theorem pos_ex {l : List LR} (hs : ∀ i j (hi : i < l.length) (hj : j < l.length), i < j → l[i].Ref < l[j].Ref) {x : Int} (hx : ∀ j (h : j < l.length), l[j].Ref ≠ x) : ∀ (d j : Nat), j + d = l.length → (∀ k (h : k < l.length), k < j → l[k].Ref < x) →
    ∃ p, p ≤ l.length ∧ (∀ k (h : k < l.length), k < p → l[k].Ref < x) ∧ ∀ k (h : k < l.length), p ≤ k → x < l[k].Ref := by
  intro d
  induction d with
  | zero => intro j hj hb; exact ⟨j, by omega, hb, fun k hk hp => absurd hp (by omega)⟩
  | succ d ih =>
    intro j hj hb
    have hlt : j < l.length := by omega
    by_cases g : l[j].Ref < x
    · refine ih (j + 1) (by omega) fun k hk hkj => ?_
      by_cases e : k = j
      · subst e; exact g
      · exact hb k hk (by omega)
    · refine ⟨j, by omega, hb, fun k hk hkj => ?_⟩
      have := hx j hlt
      by_cases e : k = j
      · subst e; omega
      · have := hs j k hlt hk (by omega); omega
theorem fork_ins {l : List LR} (hl : l.length ≤ 100) {x a b : Int} {p : Nat} (hp : p ≤ l.length) (h1 : ∀ k (h : k < l.length), k < p → l[k].Ref < x) (h2 : ∀ k (h : k < l.length), p ≤ k → x < l[k].Ref) :
    ∀ (d j : Nat), j + d = p → limit_Fork.l0 x a b l (j : Int) = some (ins l p ⟨x, 0, 0, a, b⟩, 0) := by
  have j2 : limit_Fork.j2 x a b l (p : Int) = some (ins l p ⟨x, 0, 0, a, b⟩, 0) := by
    unfold limit_Fork.j2 slices_Insert_115
    rw [if_pos ⟨⟨by omega, by omega⟩, by simp; omega⟩, Option.bind_some, Int.toNat_natCast]; rfl
  intro d
  induction d with
  | zero =>
    intro j hj
    have : j = p := by omega
    subst this
    rw [limit_Fork.l0_eq]
    by_cases g : j < l.length
    · rw [if_pos (by omega), gi_at g, Option.bind_some, if_neg (by have := h2 j g (Nat.le_refl _); omega)]; exact j2
    · rw [if_neg (by omega)]; exact j2
  | succ d ih =>
    intro j hj
    rw [limit_Fork.l0_eq, if_pos (by omega), gi_at (by omega), Option.bind_some, if_pos (h1 j (by omega) (by omega)), limit_Fork.j3_eq, w_succ (by omega)]
    exact ih (j + 1) (by omega)
theorem swap_ins {l : List LR} {k : Nat} (h0 : 0 < k) (hk : k ≤ l.length) {x : LR} : ((ins l k x).set (k - 1) x).set k (l[k - 1]'(by omega)) = ins l (k - 1) x := by
  refine List.ext_getElem? fun j => ?_
  rw [List.getElem?_set, List.getElem?_set, ins_get hk, ins_get (p := k - 1) (by omega)]
  have hL : ((ins l k x).set (k - 1) x).length = l.length + 1 := by rw [List.length_set, ins_len hk]
  have hL2 := ins_len (x := x) hk
  by_cases e1 : k = j
  · subst e1; rw [if_pos rfl, if_pos (by omega), if_neg (by omega), if_neg (by omega), List.getElem?_eq_getElem]
  · rw [if_neg e1]
    by_cases e2 : k - 1 = j
    · rw [if_pos e2, if_pos (by omega), if_neg (by omega), if_pos (by omega)]
    · rw [if_neg e2]
      by_cases e3 : j < k
      · rw [if_pos e3, if_pos (by omega)]
      · rw [if_neg e3, if_neg (by omega), if_neg (by omega), if_neg (by omega)]
theorem bubble {l : List LR} (hl : l.length ≤ 100) {x : LR} {p : Nat} (hp : p ≤ l.length) (h1 : ∀ k (h : k < l.length), k < p → l[k].Ref < x.Ref) (h2 : ∀ k (h : k < l.length), p ≤ k → x.Ref < l[k].Ref) :
    ∀ (d : Nat), p + d ≤ l.length → roadlaw3_forked.l0 (ins l (p + d) x) ((p + d : Nat) : Int) = some (ins l p x) := by
  intro d
  induction d with
  | zero =>
    intro hd
    rw [roadlaw3_forked.l0_eq, Nat.add_zero]
    by_cases g : p = 0
    · rw [if_neg (by omega)]
    · rw [if_pos (by omega), wrap_in (by omega) (by omega), show (p : Int) - 1 = ((p - 1 : Nat) : Int) by omega, gi_some (k := p - 1) rfl (by rw [ins_get hp, if_pos (by omega), List.getElem?_eq_getElem (show p - 1 < l.length by omega)]), Option.bind_some,
        gi_some (k := p) rfl (by rw [ins_get hp, if_neg (by omega), if_pos rfl]), Option.bind_some, if_neg (by have := h1 (p - 1) (by omega) (by omega); omega)]
  | succ d ih =>
    intro hd
    have e1 : (ins l (p + (d + 1)) x)[p + d]? = some (l[p + d]'(by omega)) := by rw [ins_get hd, if_pos (by omega), List.getElem?_eq_getElem]
    have e2 : (ins l (p + (d + 1)) x)[p + (d + 1)]? = some x := by rw [ins_get hd, if_neg (by omega), if_pos rfl]
    have hw : IntKind.wrap .i64 (((p + (d + 1) : Nat) : Int) - 1) = ((p + d : Nat) : Int) := by rw [wrap_in (by omega) (by omega)]; omega
    rw [roadlaw3_forked.l0_eq, if_pos (by omega), hw, gi_some (k := p + d) rfl e1, Option.bind_some, gi_some (k := p + (d + 1)) rfl e2, Option.bind_some, if_pos (h2 (p + d) (by omega) (by omega)), roadlaw3_forked.j0_eq, hw,
      gi_some (k := p + (d + 1)) rfl e2, Option.bind_some, gi_some (k := p + d) rfl e1, Option.bind_some, Option.bind_some, Option.bind_some, Int.toNat_natCast, Int.toNat_natCast, gi_at (by rw [List.length_set, ins_len hd]; omega), Option.bind_some, Option.bind_some]
    have := swap_ins (l := l) (k := p + (d + 1)) (x := x) (by omega) hd
    simp only [show p + (d + 1) - 1 = p + d by omega] at this
    rw [this]
    exact ih (by omega)
theorem set_rows {l : List LR} {i : Nat} (h : i < l.length) {y : LR} (hy : y.Ref = l[i].Ref) (j : Nat) (hj : j < (l.set i y).length) : ((l.set i y)[j]).Ref = (l[j]'(by simpa using hj)).Ref := by
  rw [List.getElem_set]
  by_cases e : i = j
  · subst e; rw [if_pos rfl]; exact hy
  · rw [if_neg e]

def forkE (l : List LR) (r : LR) (a b : Int) (has : Bool) : Int := if has = true then 5 else if takeE r a b ≠ 0 then takeE r a b else if l.length = 100 then 6 else 0
theorem fork_val {l : List LR} (R : Rows l) {x to a b : Int} {i : Nat} (hi : Has l x i) (e : limit_at l x = some ((i : Int), 0)) {has : Bool} {q : Int} (ht : limit_at l to = some (q, if has = true then 0 else 4)) (hn : has = false → ∀ j (h : j < l.length), l[j].Ref ≠ to) :
    ∃ c, limit_Fork l x to a b = some (c, forkE l (l[i]'hi.1) a b has) ∧ (forkE l (l[i]'hi.1) a b has ≠ 0 → c = []) ∧ (forkE l (l[i]'hi.1) a b has = 0 → c.length ≤ 1000 ∧ roadlaw3_forked l (i : Int) to a b = some c) := by
  obtain ⟨h, hx⟩ := hi
  have hl := R.1
  have ok := R.2.1 _ (List.getElem_mem h)
  unfold OkR at ok
  unfold limit_Fork
  rw [e, Option.bind_some, if_pos rfl, ht, Option.bind_some, gi_at h, Option.bind_some]
  show ∃ c, (if (if has = true then (0 : Int) else 4) = 0 then _ else _) = some (c, forkE l l[i] a b has) ∧ (forkE l l[i] a b has ≠ 0 → c = []) ∧ (forkE l l[i] a b has = 0 → c.length ≤ 1000 ∧ roadlaw3_forked l (i : Int) to a b = some c)
  cases has with
  | true =>
    refine ⟨[], ?_, fun _ => rfl, fun q => ?_⟩
    · rw [if_pos (by decide)]; rfl
    · unfold forkE at q; rw [if_pos rfl] at q; omega
  | false =>
    have hne := hn rfl
    have e4 : ¬ (if false = true then (0 : Int) else 4) = 0 := by decide
    have j1 : ∀ c : Bool, (c = true ↔ ¬ amt a b) → ∃ z, limit_Fork.j1 l to a b (i : Int) l[i] c = some (z, forkE l l[i] a b false) ∧ (forkE l l[i] a b false ≠ 0 → z = []) ∧ (forkE l l[i] a b false = 0 → z.length ≤ 1000 ∧ roadlaw3_forked l (i : Int) to a b = some z) := by
      intro c hc
      unfold limit_Fork.j1
      by_cases g : amt a b
      · have : c = false := Bool.eq_false_iff.2 fun q => hc.1 q g
        rw [this, if_neg (by decide), wrap_in (n := l[i].MaxLetters - l[i].Letters) (by omega) (by omega), wrap_in (n := l[i].MaxCells - l[i].Cells) (by omega) (by omega)]
        have g' := g
        unfold amt at g'
        by_cases g1 : l[i].Letters + a > l[i].MaxLetters
        · have hf : forkE l l[i] a b false = 6 := by unfold forkE takeE; rw [if_neg (by decide), if_neg (not_not_intro g), if_pos g1, if_pos (by decide)]
          rw [if_pos (by omega), hf]
          exact ⟨_, rfl, fun _ => rfl, fun q => absurd q (by decide)⟩
        rw [if_neg (by omega)]
        by_cases g2 : l[i].Cells + b > l[i].MaxCells
        · have hf : forkE l l[i] a b false = 2 := by unfold forkE takeE; rw [if_neg (by decide), if_neg (not_not_intro g), if_neg g1, if_pos g2, if_pos (by decide)]
          rw [if_pos (by omega), hf]
          exact ⟨_, rfl, fun _ => rfl, fun q => absurd q (by decide)⟩
        rw [if_neg (by omega)]
        have ht0 : takeE l[i] a b = 0 := by unfold takeE; rw [if_neg (not_not_intro g), if_neg g1, if_neg g2]
        by_cases g3 : l.length = 100
        · have hf : forkE l l[i] a b false = 6 := by unfold forkE; rw [if_neg (by decide), if_neg (not_not_intro ht0), if_pos g3]
          rw [if_pos (by omega), hf]
          exact ⟨_, rfl, fun _ => rfl, fun q => absurd q (by decide)⟩
        rw [if_neg (by omega)]
        have hf : forkE l l[i] a b false = 0 := by unfold forkE; rw [if_neg (by decide), if_neg (not_not_intro ht0), if_neg g3]
        rw [hf]
        let y : LR := ⟨l[i].Ref, l[i].Letters, l[i].Cells, l[i].MaxLetters - a, l[i].MaxCells - b⟩
        have hL : (l.set i y).length = l.length := List.length_set
        have hs' : ∀ u v (hu : u < (l.set i y).length) (hv : v < (l.set i y).length), u < v → (l.set i y)[u].Ref < (l.set i y)[v].Ref := by
          intro u v hu hv huv
          rw [set_rows (y := y) h rfl u hu, set_rows (y := y) h rfl v hv]
          exact R.2.2 u v _ _ huv
        have hx' : ∀ j (hj : j < (l.set i y).length), (l.set i y)[j].Ref ≠ to := by
          intro j hj
          rw [set_rows (y := y) h rfl j hj]
          exact hne j _
        obtain ⟨p, hp, p1, p2⟩ := pos_ex hs' hx' (l.set i y).length 0 (by omega) (fun k _ hk => absurd hk (by omega))
        refine ⟨ins (l.set i y) p ⟨to, 0, 0, a, b⟩, ?_, fun q => absurd rfl q, fun _ => ⟨by rw [ins_len hp]; omega, ?_⟩⟩
        · unfold limit_Fork.j0
          rw [clone_val (by omega), Option.bind_some, gi_at h, Option.bind_some, Option.bind_some, Option.bind_some, Int.toNat_natCast, gi_at (by rw [List.length_set]; exact h), Option.bind_some, Option.bind_some, Option.bind_some, List.getElem_set_self, List.set_set,
            wrap_in (n := l[i].MaxLetters - a) (by omega) (by omega)]
          show limit_Fork.l0 to a b (l.set i ⟨l[i].Ref, l[i].Letters, l[i].Cells, l[i].MaxLetters - a, IntKind.wrap .i64 (l[i].MaxCells - b)⟩) 0 = _
          rw [wrap_in (n := l[i].MaxCells - b) (by omega) (by omega)]
          exact fork_ins (by rw [hL]; omega) hp p1 p2 p 0 (by omega)
        · unfold roadlaw3_forked
          rw [gi_at h, Option.bind_some, wrap_in (n := l[i].MaxLetters - a) (by omega) (by omega), wrap_in (n := l[i].MaxCells - b) (by omega) (by omega)]
          show (roadlaw3_limited l (i : Int) y).bind _ = _
          rw [limited_val (by omega) h, Option.bind_some, ap_one (by rw [hL]; omega), Option.bind_some]
          have e5 : l.set i y ++ [(⟨to, 0, 0, a, b⟩ : LR)] = ins (l.set i y) (p + ((l.set i y).length - p)) ⟨to, 0, 0, a, b⟩ := by
            unfold ins
            rw [show p + ((l.set i y).length - p) = (l.set i y).length by omega, List.take_length, List.drop_length, List.append_nil]
          have e6 : IntKind.wrap .i64 (((l.set i y ++ [(⟨to, 0, 0, a, b⟩ : LR)]).length : Int) - 1) = ((p + ((l.set i y).length - p) : Nat) : Int) := by
            rw [List.length_append]
            show IntKind.wrap .i64 ((((l.set i y).length + 1 : Nat) : Int) - 1) = _
            rw [wrap_in (by omega) (by omega)]; omega
          rw [e6, e5]
          exact bubble (by rw [hL]; omega) hp p1 p2 _ (by omega)
      · have hf : forkE l l[i] a b false = 1 := by unfold forkE takeE; rw [if_neg (by decide), if_pos g, if_pos (by decide)]
        rw [if_pos (hc.2 g), hf]
        exact ⟨_, rfl, fun _ => rfl, fun q => absurd q (by decide)⟩
    rw [if_neg e4, amount_val, Option.bind_some]
    by_cases g1 : 0 ≤ a ∧ a ≤ 1073741824
    · rw [decide_eq_true g1, if_pos rfl, amount_val, Option.bind_some]
      refine j1 _ ?_
      by_cases g2 : 0 ≤ b ∧ b ≤ 1073741824
      · rw [decide_eq_true g2]; exact ⟨fun q => (by cases q), fun q => absurd (⟨g1, g2⟩ : amt a b) q⟩
      · rw [decide_eq_false g2]; exact ⟨fun _ q => g2 q.2, fun _ => rfl⟩
    · rw [decide_eq_false g1, if_neg (by decide)]
      exact j1 true ⟨fun _ q => g1 q.1, fun _ => rfl⟩

def joinE (i k : Nat) (r s : LR) : Int := if k = i then 18 else if r.MaxLetters + s.MaxLetters > 1073741824 ∨ r.MaxCells + s.MaxCells > 1073741824 then 2 else 0
theorem join_val {l : List LR} (R : Rows l) {x to : Int} {i k : Nat} (hi : Has l x i) (e : limit_at l x = some ((i : Int), 0)) (hk : Has l to k) (ek : limit_at l to = some ((k : Int), 0)) :
    ∃ c, limit_Join l x to = some (c, joinE i k (l[i]'hi.1) (l[k]'hk.1)) ∧ (joinE i k (l[i]'hi.1) (l[k]'hk.1) ≠ 0 → c = []) ∧ (joinE i k (l[i]'hi.1) (l[k]'hk.1) = 0 → c.length ≤ 1000 ∧ roadlaw3_joined l (i : Int) (k : Int) = some c) := by
  obtain ⟨h, hx⟩ := hi
  obtain ⟨h', hx'⟩ := hk
  have hl := R.1
  have ok := R.2.1 _ (List.getElem_mem h)
  have ok' := R.2.1 _ (List.getElem_mem h')
  unfold OkR at ok ok'
  unfold limit_Join
  rw [e, Option.bind_some, if_pos rfl, ek, Option.bind_some, if_pos rfl]
  by_cases g0 : k = i
  · have hf : joinE i k l[i] l[k] = 18 := by unfold joinE; rw [if_pos g0]
    rw [if_pos (by omega), hf]
    exact ⟨_, rfl, fun _ => rfl, fun q => absurd q (by decide)⟩
  rw [if_neg (by omega), gi_at h, Option.bind_some, gi_at h', Option.bind_some, wrap_in (n := 1073741824 - l[k].MaxLetters) (by omega) (by omega)]
  by_cases g1 : l[i].MaxLetters + l[k].MaxLetters > 1073741824 ∨ l[i].MaxCells + l[k].MaxCells > 1073741824
  · have hf : joinE i k l[i] l[k] = 2 := by unfold joinE; rw [if_neg g0, if_pos g1]
    rw [hf]
    refine ⟨[], ?_, fun _ => rfl, fun q => absurd q (by decide)⟩
    have t : limit_Join.j1 l (i : Int) (k : Int) true = some ([], 2) := by unfold limit_Join.j1; rw [if_pos rfl]
    by_cases g2 : l[i].MaxLetters > 1073741824 - l[k].MaxLetters
    · rw [if_pos g2]; exact t
    · rw [if_neg g2, Option.bind_some, Option.bind_some, wrap_in (n := 1073741824 - l[k].MaxCells) (by omega) (by omega), decide_eq_true (by omega)]; exact t
  · have hf : joinE i k l[i] l[k] = 0 := by unfold joinE; rw [if_neg g0, if_neg g1]
    rw [hf, if_neg (by omega), Option.bind_some, Option.bind_some, wrap_in (n := 1073741824 - l[k].MaxCells) (by omega) (by omega), decide_eq_false (by omega)]
    let z : LR := ⟨l[k].Ref, l[k].Letters, l[k].Cells, l[k].MaxLetters + l[i].MaxLetters, l[k].MaxCells + l[i].MaxCells⟩
    have hL : (l.set k z).length = l.length := List.length_set
    have hd : slices_Delete_116 (l.set k z) (i : Int) (IntKind.wrap .i64 ((i : Int) + 1)) = some ((l.set k z).take i ++ (l.set k z).drop (i + 1)) := by
      unfold slices_Delete_116
      rw [w_succ (by omega), if_pos ⟨by omega, by omega, by rw [hL]; omega⟩, Int.toNat_natCast, Int.toNat_natCast]
    refine ⟨(l.set k z).take i ++ (l.set k z).drop (i + 1), ?_, fun q => absurd rfl q, fun _ => ⟨?_, ?_⟩⟩
    · unfold limit_Join.j1 limit_Join.j0
      have hik : (l.set k (⟨l[k].Ref, l[k].Letters, l[k].Cells, l[k].MaxLetters + l[i].MaxLetters, l[k].MaxCells⟩ : LR))[i]? = some l[i] := by rw [List.getElem?_set, if_neg g0, List.getElem?_eq_getElem h]
      rw [if_neg (by decide), clone_val (by omega), Option.bind_some, gi_at h', Option.bind_some, gi_at h, Option.bind_some, Option.bind_some, Option.bind_some, Int.toNat_natCast, wrap_in (n := l[k].MaxLetters + l[i].MaxLetters) (by omega) (by omega)]
      rw [gi_at (by rw [List.length_set]; exact h'), Option.bind_some, gi_some (k := i) rfl hik, Option.bind_some, Option.bind_some, Option.bind_some, List.getElem_set_self, List.set_set]
      show (slices_Delete_116 (l.set k ⟨l[k].Ref, l[k].Letters, l[k].Cells, l[k].MaxLetters + l[i].MaxLetters, IntKind.wrap .i64 (l[k].MaxCells + l[i].MaxCells)⟩) (i : Int) (IntKind.wrap .i64 ((i : Int) + 1))).bind _ = _
      rw [wrap_in (n := l[k].MaxCells + l[i].MaxCells) (by omega) (by omega), hd, Option.bind_some]
    · rw [List.length_append, List.length_take, List.length_drop]; omega
    · unfold roadlaw3_joined
      rw [gi_at h', Option.bind_some, gi_at h, Option.bind_some, Option.bind_some, wrap_in (n := l[k].MaxLetters + l[i].MaxLetters) (by omega) (by omega), wrap_in (n := l[k].MaxCells + l[i].MaxCells) (by omega) (by omega)]
      show (roadlaw3_limited l (k : Int) z).bind _ = _
      rw [limited_val (by omega) h', Option.bind_some, hd, Option.bind_some]

theorem law_j6 {l A B C D : List LR} {x to a b T G K J i kk : Int} {r : LR} (sA : T ≠ 0 → A = []) (sB : G ≠ 0 → B = []) (sC : K ≠ 0 → C = []) (sD : J ≠ 0 → D = [])
    (tA : T = 0 → ∃ z, roadlaw3_limited l i (T_limit_Row.mk x (IntKind.wrap .i64 (r.Letters + a)) (IntKind.wrap .i64 (r.Cells + b)) r.MaxLetters r.MaxCells) = some z ∧ roadref3_SameLimits A z = some true)
    (tB : G = 0 → ∃ z, roadlaw3_limited l i (T_limit_Row.mk x (IntKind.wrap .i64 (r.Letters - a)) (IntKind.wrap .i64 (r.Cells - b)) r.MaxLetters r.MaxCells) = some z ∧ roadref3_SameLimits B z = some true)
    (tC : K = 0 → ∃ z, roadlaw3_forked l i to a b = some z ∧ roadref3_SameLimits C z = some true) (tD : J = 0 → ∃ z, roadlaw3_joined l i kk = some z ∧ roadref3_SameLimits D z = some true) :
    roadlaw3_LimitTells.j6 l x to a b A T B G C K D J i kk r T G K J = some true := by
  have h7 : roadlaw3_LimitTells.j7 l x to a b A B C D i kk r T G K J = some true := by
    unfold roadlaw3_LimitTells.j7
    have cc : ∀ (T : Int) (P : Prop), (T = 0 → P) → (T = 0 ∧ P) ∨ T ≠ 0 := fun T P h => by
      by_cases g : T = 0
      · exact .inl ⟨g, h g⟩
      · exact .inr g
    rcases cc _ _ tA with ⟨cA, zA, uA, wA⟩ | cA <;> rcases cc _ _ tB with ⟨cB, zB, uB, wB⟩ | cB <;> rcases cc _ _ tC with ⟨cC, zC, uC, wC⟩ | cC <;> rcases cc _ _ tD with ⟨cD, zD, uD, wD⟩ | cD
    all_goals
      clear tA tB tC tD sA sB sC sD cc
      simp only [*, if_true, if_false, Option.bind_some]
  unfold roadlaw3_LimitTells.j6
  rw [if_pos rfl, if_pos rfl, if_pos rfl, if_pos rfl, h7]
  have nA : T ≠ 0 → ¬ (A.length : Int) > 0 := fun h => by rw [sA h]; decide
  have nB : G ≠ 0 → ¬ (B.length : Int) > 0 := fun h => by rw [sB h]; decide
  have nC : K ≠ 0 → ¬ (C.length : Int) > 0 := fun h => by rw [sC h]; decide
  have nD : J ≠ 0 → ¬ (D.length : Int) > 0 := fun h => by rw [sD h]; decide
  clear tA tB tC tD sA sB sC sD h7
  repeat' split
  all_goals first | rfl | (exfalso; rename_i g; revert g; first | exact nA (by assumption) | exact nB (by assumption) | exact nC (by assumption) | exact nD (by assumption))
theorem law_j1 {l A B C D : List LR} (R : Rows l) {x to a b K J kk : Int} {i : Nat} (h : i < l.length) {has : Bool} (sA : takeE l[i] a b ≠ 0 → A = []) (sB : giveE l[i] a b ≠ 0 → B = []) (hK : K = forkE l l[i] a b has) (sC : K ≠ 0 → C = []) (sD : J ≠ 0 → D = [])
    (tA : takeE l[i] a b = 0 → ∃ z, roadlaw3_limited l (i : Int) (T_limit_Row.mk x (IntKind.wrap .i64 (l[i].Letters + a)) (IntKind.wrap .i64 (l[i].Cells + b)) l[i].MaxLetters l[i].MaxCells) = some z ∧ roadref3_SameLimits A z = some true)
    (tB : giveE l[i] a b = 0 → ∃ z, roadlaw3_limited l (i : Int) (T_limit_Row.mk x (IntKind.wrap .i64 (l[i].Letters - a)) (IntKind.wrap .i64 (l[i].Cells - b)) l[i].MaxLetters l[i].MaxCells) = some z ∧ roadref3_SameLimits B z = some true)
    (tC : K = 0 → ∃ z, roadlaw3_forked l (i : Int) to a b = some z ∧ roadref3_SameLimits C z = some true) (tD : J = 0 → ∃ z, roadlaw3_joined l (i : Int) kk = some z ∧ roadref3_SameLimits D z = some true)
    (hneg : has = false → kk = -1 ∧ J = 4) (hpos : has = true → ∃ (k : Nat) (hk : k < l.length), kk = k ∧ J = joinE i k l[i] l[k]) :
    roadlaw3_LimitTells.j1 l x to a b A (takeE l[i] a b) B (giveE l[i] a b) C K D J 0 (i : Int) kk = some true := by
  have ok := R.2.1 _ (List.getElem_mem h)
  have hl := R.1
  have h6 := law_j6 (x := x) (l := l) (to := to) sA sB sC sD tA tB tC tD
  have h5 : roadlaw3_LimitTells.j5 l x to a b A (takeE l[i] a b) B (giveE l[i] a b) C K D J (i : Int) kk l[i] (takeE l[i] a b) (giveE l[i] a b) K 0 = some true := by
    unfold roadlaw3_LimitTells.j5
    cases has with
    | false =>
      obtain ⟨e1, e2⟩ := hneg rfl
      rw [if_pos (by omega), ← e2]; exact h6
    | true =>
      obtain ⟨k, hk, e1, e2⟩ := hpos rfl
      have ok' := R.2.1 _ (List.getElem_mem hk)
      unfold OkR at ok ok'
      unfold joinE at e2
      rw [if_neg (by omega)]
      by_cases g0 : k = i
      · rw [if_pos g0] at e2
        rw [if_pos (by omega), ← e2]; exact h6
      rw [if_neg g0] at e2
      have gk : gi l kk = some l[k] := by rw [e1]; exact gi_at hk
      rw [if_neg (by omega), gk, Option.bind_some, wrap_in (n := l[i].MaxLetters + l[k].MaxLetters) (by omega) (by omega)]
      by_cases g1 : l[i].MaxLetters + l[k].MaxLetters > 1073741824
      · rw [if_pos (.inl g1)] at e2
        rw [if_pos g1, ← e2]; exact h6
      rw [if_neg g1, Option.bind_some, wrap_in (n := l[i].MaxCells + l[k].MaxCells) (by omega) (by omega)]
      by_cases g2 : l[i].MaxCells + l[k].MaxCells > 1073741824
      · rw [if_pos (.inr g2)] at e2
        rw [if_pos g2, ← e2]; exact h6
      · rw [if_neg (fun q => q.elim g1 g2)] at e2
        rw [if_neg g2, ← e2]; exact h6
  have h4 : roadlaw3_LimitTells.j4 l x to a b A (takeE l[i] a b) B (giveE l[i] a b) C K D J (i : Int) kk l[i] (takeE l[i] a b) (giveE l[i] a b) 0 0 = some true := by
    unfold roadlaw3_LimitTells.j4
    unfold forkE at hK
    cases has with
    | true =>
      obtain ⟨k, hk, e1, e2⟩ := hpos rfl
      rw [if_pos rfl] at hK
      rw [if_pos (by omega), ← hK]; exact h5
    | false =>
      obtain ⟨e1, e2⟩ := hneg rfl
      rw [if_neg (by decide)] at hK
      rw [if_neg (by omega)]
      by_cases g : takeE l[i] a b = 0
      · rw [if_neg (not_not_intro g)] at hK
        rw [if_pos g]
        by_cases g2 : l.length = 100
        · rw [if_pos g2] at hK; rw [if_pos (by omega), ← hK]; exact h5
        · rw [if_neg g2] at hK; rw [if_neg (by omega)]; rw [← hK]; rw [hK] at h5; rw [← hK] at h5; exact h5
      · rw [if_pos g] at hK
        rw [if_neg g]
        have e3 : roadlaw3_LimitTells.j5 l x to a b A (takeE l[i] a b) B (giveE l[i] a b) C K D J (i : Int) kk l[i] (takeE l[i] a b) (giveE l[i] a b) (takeE l[i] a b) 0 = roadlaw3_LimitTells.j5 l x to a b A (takeE l[i] a b) B (giveE l[i] a b) C K D J (i : Int) kk l[i] (takeE l[i] a b) (giveE l[i] a b) K 0 := by rw [hK]
        rw [e3]; exact h5
  have h3 : ∀ c : Bool, (c = true ↔ amt a b) → roadlaw3_LimitTells.j3 l x to a b A (takeE l[i] a b) B (giveE l[i] a b) C K D J (i : Int) kk l[i] c (takeE l[i] a b) 0 0 0 = some true := by
    intro c hc
    unfold roadlaw3_LimitTells.j3
    have one : (¬ amt a b ∨ a > l[i].Letters ∨ b > l[i].Cells) → roadlaw3_LimitTells.j4 l x to a b A (takeE l[i] a b) B (giveE l[i] a b) C K D J (i : Int) kk l[i] (takeE l[i] a b) 1 0 0 = some true := by
      intro q
      have : giveE l[i] a b = 1 := by unfold giveE; rw [if_pos q]
      rw [this] at h4; rw [this]; exact h4
    cases c with
    | true =>
      have g := hc.1 rfl
      rw [if_pos rfl]
      by_cases g1 : a > l[i].Letters
      · rw [if_pos g1]; exact one (.inr (.inl g1))
      rw [if_neg g1]
      by_cases g2 : b > l[i].Cells
      · rw [if_pos g2]; exact one (.inr (.inr g2))
      rw [if_neg g2]
      have : giveE l[i] a b = 0 := by
        unfold giveE; rw [if_neg]; rintro (q | q | q)
        · exact q g
        · exact g1 q
        · exact g2 q
      rw [this] at h4; rw [this]; exact h4
    | false =>
      rw [if_neg (by decide)]; exact one (.inl fun q => by have := hc.2 q; cases this)
  have h2 : ∀ c : Bool, (c = true ↔ amt a b) → roadlaw3_LimitTells.j2 l x to a b A (takeE l[i] a b) B (giveE l[i] a b) C K D J (i : Int) kk l[i] c = some true := by
    intro c hc
    have g3 := h3 c hc
    unfold roadlaw3_LimitTells.j2
    unfold OkR at ok
    cases c with
    | true =>
      have g := hc.1 rfl
      have g' := g
      unfold amt at g'
      rw [if_pos rfl, wrap_in (n := l[i].Letters + a) (by omega) (by omega)]
      by_cases g1 : l[i].Letters + a > l[i].MaxLetters
      · have : takeE l[i] a b = 6 := by unfold takeE; rw [if_neg (not_not_intro g), if_pos g1]
        rw [this] at g3; rw [if_pos g1, this]; exact g3
      rw [if_neg g1, wrap_in (n := l[i].Cells + b) (by omega) (by omega)]
      by_cases g2 : l[i].Cells + b > l[i].MaxCells
      · have : takeE l[i] a b = 2 := by unfold takeE; rw [if_neg (not_not_intro g), if_neg g1, if_pos g2]
        rw [this] at g3; rw [if_pos g2, this]; exact g3
      · have : takeE l[i] a b = 0 := by unfold takeE; rw [if_neg (not_not_intro g), if_neg g1, if_neg g2]
        rw [this] at g3; rw [if_neg g2, this]; exact g3
    | false =>
      have g : ¬ amt a b := fun q => by have := hc.2 q; cases this
      have : takeE l[i] a b = 1 := by unfold takeE; rw [if_pos g]
      rw [this] at g3; rw [if_neg (by decide), this]; exact g3
  unfold roadlaw3_LimitTells.j1
  rw [if_pos rfl, gi_at h, Option.bind_some, in_val, Option.bind_some]
  by_cases g1 : 0 ≤ a ∧ a ≤ 1073741824
  · rw [decide_eq_true g1, if_pos rfl, in_val, Option.bind_some]
    exact h2 _ ⟨fun q => ⟨g1, of_decide_eq_true q⟩, fun q => decide_eq_true q.2⟩
  · rw [decide_eq_false g1, if_neg (by decide)]
    exact h2 false ⟨fun q => (by cases q), fun q => absurd q.1 g1⟩
theorem limitAt_some {l : List LR} (hl : l.length * 40 ≤ 140737488351232) (x : Int) : ∃ v, roadref3_LimitAt l x = some v := by
  unfold roadref3_LimitAt
  have loop : ∀ (d j : Nat), j + d = l.length → ∃ v, roadref3_LimitAt.l0 x l (l.length : Int) (j : Int) = some v := by
    intro d
    induction d with
    | zero => intro j hj; rw [roadref3_LimitAt.l0_eq, if_neg (by omega)]; exact ⟨_, rfl⟩
    | succ d ih =>
      intro j hj
      rw [roadref3_LimitAt.l0_eq, if_pos (by omega), gi_at (by omega), Option.bind_some]
      split
      · exact ⟨_, rfl⟩
      · rw [w_succ (by omega)]; exact ih (j + 1) (by omega)
  exact loop l.length 0 (by omega)
theorem pair_if {c : Int} {S : List LR} : (if c = 0 then (S, (0 : Int)) else ([], c)) = ((if c = 0 then S else []), c) := by
  by_cases h : c = 0
  · rw [if_pos h, if_pos h, h]
  · rw [if_neg h, if_neg h]
theorem law_bad {l : List LR} {x to a b e kk ii : Int} (he : e ≠ 0) : roadlaw3_LimitTells.j1 l x to a b [] e [] e [] e [] e e ii kk = some true := by
  unfold roadlaw3_LimitTells.j1
  rw [if_neg he, if_pos (by decide), if_pos rfl, if_pos rfl, if_pos rfl]
  simp

/-! ### The law -/
theorem LimitTells (l : List LR) (x to a b : Int) (v : Va) (q0 : l.length * 40 ≤ 140737488351232 ∧ ∀ z ∈ l, T_limit_Row.Q z) (q1 : -9223372036854775808 ≤ x ∧ x ≤ 9223372036854775807) (q2 : -9223372036854775808 ≤ to ∧ to ≤ 9223372036854775807) (q3 : -9223372036854775808 ≤ a ∧ a ≤ 9223372036854775807) (q4 : -9223372036854775808 ≤ b ∧ b ≤ 9223372036854775807) (q5 : T_api_Value.Q v) : roadlaw3_LimitTells l x to a b v = some true := by
  have main : roadlaw3_LimitTells.j0 l x to a b = some true := by
    unfold roadlaw3_LimitTells.j0
    by_cases hF : F l = 0
    · have R := rows_of hF
      have hl := R.1
      rcases at_val hF x with ⟨i, hi, ex, fx⟩ | ⟨hn, ex, fx⟩
      · have ok := R.2.1 _ (List.getElem_mem hi.1)
        unfold OkR at ok
        have ht := take_val R (a := a) (b := b) hi ex
        have hg := give_val R (a := a) (b := b) hi ex
        obtain ⟨has, q, kk, C, D, JE, et, fk, hfork, c1, c2, hjoin, d1, d2, hneg, hpos⟩ : ∃ (has : Bool) (q kk : Int) (C D : List LR) (JE : Int), limit_at l to = some (q, if has = true then 0 else 4) ∧ roadref3_LimitAt l to = some kk ∧
            limit_Fork l x to a b = some (C, forkE l (l[i]'hi.1) a b has) ∧ (forkE l (l[i]'hi.1) a b has ≠ 0 → C = []) ∧ (forkE l (l[i]'hi.1) a b has = 0 → C.length ≤ 1000 ∧ roadlaw3_forked l (i : Int) to a b = some C) ∧
            limit_Join l x to = some (D, JE) ∧ (JE ≠ 0 → D = []) ∧ (JE = 0 → D.length ≤ 1000 ∧ roadlaw3_joined l (i : Int) kk = some D) ∧ (has = false → kk = -1 ∧ JE = 4) ∧ (has = true → ∃ (k : Nat) (hk : k < l.length), kk = k ∧ JE = joinE i k (l[i]'hi.1) l[k]) := by
          rcases at_val hF to with ⟨k, hk, ek, fk⟩ | ⟨hn, ek, fk⟩
          · obtain ⟨C, c0, c1, c2⟩ := fork_val R (a := a) (b := b) hi ex (has := true) (to := to) (q := k) ek (fun h => by cases h)
            obtain ⟨D, d0, d1, d2⟩ := join_val R hi ex hk ek
            exact ⟨true, k, k, C, D, _, ek, fk, c0, c1, c2, d0, d1, d2, fun h => (by cases h), fun _ => ⟨k, hk.1, rfl, rfl⟩⟩
          · obtain ⟨C, c0, c1, c2⟩ := fork_val R (a := a) (b := b) hi ex (has := false) (to := to) (q := 0) ek (fun _ => hn)
            refine ⟨false, 0, -1, C, [], 4, ek, fk, c0, c1, c2, ?_, fun _ => rfl, fun h => absurd h (by decide), fun _ => ⟨rfl, rfl⟩, fun h => by cases h⟩
            unfold limit_Join
            rw [ex, Option.bind_some, if_pos rfl, ek, Option.bind_some, if_neg (by decide)]
        rw [ht, Option.bind_some, hg, Option.bind_some, hfork, Option.bind_some, hjoin, Option.bind_some, fault_val, Option.bind_some, check_val, Option.bind_some, if_pos rfl, fx, Option.bind_some, fk, Option.bind_some, if_pos hF, if_neg (by omega), pair_if, pair_if, hF]
        refine law_j1 R hi.1 (fun g => if_neg g) (fun g => if_neg g) rfl c1 d1 (fun g => ?_) (fun g => ?_) (fun g => ⟨_, (c2 g).2, same_val (c2 g).1⟩) (fun g => ⟨_, (d2 g).2, same_val (d2 g).1⟩) hneg hpos
        · have hA : amt a b := by
            unfold takeE at g
            by_cases q : amt a b
            · exact q
            · rw [if_pos q] at g; omega
          unfold amt at hA
          rw [if_pos g, wrap_in (by omega) (by omega), wrap_in (by omega) (by omega)]
          exact ⟨_, limited_val (by omega) hi.1 _, same_val (by rw [List.length_set]; omega)⟩
        · have hA : amt a b := by
            unfold giveE at g
            by_cases q : amt a b
            · exact q
            · rw [if_pos (.inl q)] at g; omega
          unfold amt at hA
          rw [if_pos g, wrap_in (by omega) (by omega), wrap_in (by omega) (by omega)]
          exact ⟨_, limited_val (by omega) hi.1 _, same_val (by rw [List.length_set]; omega)⟩
      · obtain ⟨kk, fk⟩ := limitAt_some q0.1 to
        have t : limit_Take l x a b = some ([], 4) := by unfold limit_Take; rw [ex, Option.bind_some, if_neg (by decide)]
        have g : limit_Give l x a b = some ([], 4) := by unfold limit_Give; rw [ex, Option.bind_some, if_neg (by decide)]
        have f : limit_Fork l x to a b = some ([], 4) := by unfold limit_Fork; rw [ex, Option.bind_some, if_neg (by decide)]
        have j : limit_Join l x to = some ([], 4) := by unfold limit_Join; rw [ex, Option.bind_some, if_neg (by decide)]
        rw [t, Option.bind_some, g, Option.bind_some, f, Option.bind_some, j, Option.bind_some, fault_val, Option.bind_some, check_val, Option.bind_some, if_pos rfl, fx, Option.bind_some, fk, Option.bind_some, if_pos hF, if_pos (by decide)]
        exact law_bad (by decide)
    · obtain ⟨ii, fi⟩ := limitAt_some q0.1 x
      obtain ⟨kk, fk⟩ := limitAt_some q0.1 to
      have ex := at_bad (x := x) hF
      have t : limit_Take l x a b = some ([], F l) := by unfold limit_Take; rw [ex, Option.bind_some, if_neg hF]
      have g : limit_Give l x a b = some ([], F l) := by unfold limit_Give; rw [ex, Option.bind_some, if_neg hF]
      have f : limit_Fork l x to a b = some ([], F l) := by unfold limit_Fork; rw [ex, Option.bind_some, if_neg hF]
      have j : limit_Join l x to = some ([], F l) := by unfold limit_Join; rw [ex, Option.bind_some, if_neg hF]
      rw [t, Option.bind_some, g, Option.bind_some, f, Option.bind_some, j, Option.bind_some, fault_val, Option.bind_some, check_val, Option.bind_some, if_pos rfl, fi, Option.bind_some, fk, Option.bind_some, if_neg hF]
      exact law_bad hF
  unfold roadlaw3_LimitTells roadlaw3_flat
  obtain ⟨p, n, h1, h2⟩ := deep_val _ v (Nat.le_refl _) q5
  rw [h1, Option.bind_some]
  have fin : ∀ c : Bool, (if c = true then Option.bind (some (p, n)) fun y12 => Option.bind (limit_Cells v) fun y19 => if y19 = y12.2 then roadlaw3_LimitTells.j0 l x to a b else some false else roadlaw3_LimitTells.j0 l x to a b) = some true := by
    intro c
    cases c with
    | true => rw [if_pos rfl, Option.bind_some, h2, Option.bind_some, if_pos rfl]; exact main
    | false => rw [if_neg (by decide)]; exact main
  split
  · rw [Option.bind_some]; exact fin _
  · rw [Option.bind_some]; exact fin _
end Go.Proofs.Ytklobcelbpjjcac.Fw
