/- Last part: what the law PartSays needs, put together out of texts of this session. -/
import Derived.Test.YthnlhffpmlgmfadRows
import Derived.WalkKit
import Derived.Test.YthnlhffpmlgmfadZPartSayse
section
namespace Go.Proofs.Ythnlhffpmlgmfad.Fw
open Go Go.Hw Go.Proofs
set_option linter.unusedVariables false
set_option linter.unusedSectionVars false
abbrev Ps := T_part_Step
abbrev Qs := T_roadref4_Step
def cv (r : Qs) : Ps := ⟨r.Who, r.Reads, r.Writes⟩
def ok (s : Ps) : Prop := 0 ≤ s.Who ∧ s.Who ≤ 7 ∧ 0 ≤ s.Reads ∧ s.Reads ≤ 255 ∧ 0 ≤ s.Writes ∧ s.Writes ≤ 255
def okB (s : Ps) : Bool := decide (0 ≤ s.Who) && decide (s.Who ≤ 7) && decide (0 ≤ s.Reads) && decide (s.Reads ≤ 255) && decide (0 ≤ s.Writes) && decide (s.Writes ≤ 255)
theorem ok_iff {s : Ps} : okB s = true ↔ ok s := by unfold okB ok; simp only [Bool.and_eq_true, decide_eq_true_eq]; omega
def code (x : List Ps) : Int := if x.length > 40 then 2 else if x.all okB = true then 0 else 1
theorem code_ok {x : List Ps} (h : code x = 0) : x.length ≤ 40 ∧ ∀ s ∈ x, ok s := by
  unfold code at h
  by_cases c : x.length > 40
  · rw [if_pos c] at h; cases h
  · rw [if_neg c] at h
    by_cases g : x.all okB = true
    · exact ⟨by omega, fun s hs => ok_iff.1 (List.all_eq_true.1 g s hs)⟩
    · rw [if_neg g] at h; cases h
theorem ok_code {x : List Ps} (h : x.length ≤ 40) (k : ∀ s ∈ x, ok s) : code x = 0 := by
  unfold code
  rw [if_neg (by omega), if_pos (List.all_eq_true.2 fun s hs => ok_iff.2 (k s hs))]
theorem check_l0 {x : List Ps} (hx : x.length ≤ 40) : ∀ (d i : Nat), i + d = x.length → part_Check.l0 x (x.length : Int) (i : Int) = some (if (x.drop i).all okB = true then 0 else 1) := by
  intro d
  induction d with
  | zero =>
    intro i h1
    rw [part_Check.l0_eq, if_neg (by omega), List.drop_eq_nil_of_le (by omega)]; rfl
  | succ d ih =>
    intro i h1
    have hi : i < x.length := by omega
    rw [part_Check.l0_eq, if_pos (by omega), gi_at hi, Option.bind_some, List.drop_eq_getElem_cons hi, List.all_cons]
    by_cases c : ok x[i]
    · have c' := c
      obtain ⟨c1, c2, c3, c4, c5, c6⟩ := c'
      rw [if_neg (by omega), if_neg (by omega), if_neg (by omega), if_neg (by omega), if_neg (by omega), if_neg (by omega), w_succ (by omega), ih (i + 1) (by omega), ok_iff.2 c, Bool.true_and]
    · rw [show okB x[i] = false from Bool.eq_false_iff.2 fun h => c (ok_iff.1 h), Bool.false_and]
      refine Eq.trans ?_ (show some (1 : Int) = some (if false = true then 0 else 1) from rfl)
      unfold ok at c
      repeat' split
      all_goals first | rfl | (exfalso; omega)
theorem check_val (x : List Ps) : part_Check x = some (code x) := by
  unfold part_Check code
  by_cases c : x.length > 40
  · rw [if_pos (by omega), if_pos c]
  · rw [if_neg (by omega), if_neg c]
    have := check_l0 (x := x) (by omega) x.length 0 (by omega)
    rw [List.drop_zero] at this
    exact this
theorem within_val (x a b : Int) : roadref4_within x a b = some (decide (a ≤ x) && decide (x ≤ b)) := by
  unfold roadref4_within
  by_cases c : x ≥ a
  · rw [if_pos c, show decide (a ≤ x) = true from decide_eq_true c, Bool.true_and]
  · rw [if_neg c, show decide (a ≤ x) = false from decide_eq_false c, Bool.false_and]
theorem rsteps_l0 {a : List Qs} (hx : a.length ≤ 40) : ∀ (d i : Nat), i + d = a.length → roadref4_Steps.l0 a (a.length : Int) (i : Int) = some (if ((a.drop i).map cv).all okB = true then 0 else 1) := by
  intro d
  induction d with
  | zero =>
    intro i h1
    rw [roadref4_Steps.l0_eq, if_neg (by omega), List.drop_eq_nil_of_le (by omega)]; rfl
  | succ d ih =>
    intro i h1
    have hi : i < a.length := by omega
    rw [roadref4_Steps.l0_eq, if_pos (by omega), gi_at hi, Option.bind_some, List.drop_eq_getElem_cons hi, List.map_cons, List.all_cons, within_val, Option.bind_some, within_val, within_val]
    rw [show okB (cv a[i]) = (decide (0 ≤ a[i].Who) && decide (a[i].Who ≤ 7) && decide (0 ≤ a[i].Reads) && decide (a[i].Reads ≤ 255) && decide (0 ≤ a[i].Writes) && decide (a[i].Writes ≤ 255)) from rfl]
    cases h1 : decide (0 ≤ a[i].Who) <;> cases h2 : decide (a[i].Who ≤ 7) <;> cases h3 : decide (0 ≤ a[i].Reads) <;> cases h4 : decide (a[i].Reads ≤ 255) <;> cases h5 : decide (0 ≤ a[i].Writes) <;> cases h6 : decide (a[i].Writes ≤ 255) <;> first | rfl | skip
    rw [w_succ (by omega)]
    exact ih (i + 1) (by omega)
theorem rsteps_val (a : List Qs) : roadref4_Steps a = some (code (a.map cv)) := by
  unfold roadref4_Steps code
  rw [List.length_map]
  by_cases c : a.length > 40
  · rw [if_pos (by omega), if_pos c]
  · rw [if_neg (by omega), if_neg c]
    have := rsteps_l0 (a := a) (by omega) a.length 0 (by omega)
    rw [List.drop_zero] at this
    exact this
theorem steps_l0 {a : List Qs} (hx : a.length * 24 ≤ 140737488351232) : ∀ (d i : Nat), i + d = a.length → roadlaw4_steps.l0 ((a.take i).map cv) a (a.length : Int) (i : Int) = some (a.map cv) := by
  intro d
  induction d with
  | zero => intro i h1; rw [roadlaw4_steps.l0_eq, if_neg (by omega), List.take_of_length_le (by omega)]
  | succ d ih =>
    intro i h1
    have hi : i < a.length := by omega
    rw [roadlaw4_steps.l0_eq, if_pos (by omega), gi_at hi, Option.bind_some, ap_one (by rw [List.length_map, List.length_take]; omega), Option.bind_some, w_succ (by omega), ← ih (i + 1) (by omega), List.take_succ_eq_append_getElem hi, List.map_append]
    rfl
theorem steps_val {a : List Qs} (hx : a.length * 24 ≤ 140737488351232) : roadlaw4_steps a = some (a.map cv) := steps_l0 hx a.length 0 (by omega)
def dp (x y : Ps) : Bool := decide (x.Who = y.Who) || (!decide (bitsI .and .i64 x.Writes (bitsI .or .i64 y.Reads y.Writes) = 0) || (bitsI .and .i64 y.Writes x.Reads != 0))
theorem depend_val (x y : Ps) : part_depend x y = some (dp x y) := by
  unfold part_depend dp
  by_cases c : x.Who = y.Who
  · rw [if_pos c, decide_eq_true c]; rfl
  · rw [if_neg c, decide_eq_false c, Bool.false_or]
    by_cases g : bitsI .and .i64 x.Writes (bitsI .or .i64 y.Reads y.Writes) = 0
    · rw [if_pos g, decide_eq_true g]; rfl
    · rw [if_neg g, decide_eq_false g]; rfl
theorem bit_all : ∀ n : Fin 256, ∀ c : Fin 8, decide (Int.tmod (shrI .i64 (n.1 : Int) (c.1 : Int)) 2 = 1) = n.1.testBit c.1 := by decide +kernel
theorem bit_iff {n c : Nat} (hn : n < 256) (hc : c < 8) : Int.tmod (shrI .i64 (n : Int) (c : Int)) 2 = 1 ↔ n.testBit c = true := by
  have := bit_all ⟨n, hn⟩ ⟨c, hc⟩
  rw [← this, decide_eq_true_eq]
theorem and_nat {x y : Nat} (hx : x < 256) (hy : y < 256) : bitsI .and .i64 (x : Int) (y : Int) = ((x &&& y : Nat) : Int) := by
  show IntKind.wrap .i64 ((BitVec.ofInt 64 (x : Int) &&& BitVec.ofInt 64 (y : Int)).toNat : Nat) = _
  have e : ∀ z : Nat, z < 256 → (BitVec.ofInt 64 (z : Int)).toNat = z := fun z hz => by rw [BitVec.toNat_ofInt]; omega
  rw [BitVec.toNat_and, e x hx, e y hy]
  have : x &&& y ≤ x := Nat.and_le_left
  exact wrap_in (by omega) (by omega)
theorem or_nat {x y : Nat} (hx : x < 256) (hy : y < 256) : bitsI .or .i64 (x : Int) (y : Int) = ((x ||| y : Nat) : Int) := by
  show IntKind.wrap .i64 ((BitVec.ofInt 64 (x : Int) ||| BitVec.ofInt 64 (y : Int)).toNat : Nat) = _
  have e : ∀ z : Nat, z < 256 → (BitVec.ofInt 64 (z : Int)).toNat = z := fun z hz => by rw [BitVec.toNat_ofInt]; omega
  rw [BitVec.toNat_or, e x hx, e y hy]
  have := Nat.or_lt_two_pow (n := 8) hx hy
  exact wrap_in (by omega) (by omega)
theorem and_zero {x y : Nat} (hx : x < 256) : x &&& y ≠ 0 ↔ ∃ c, c < 8 ∧ x.testBit c = true ∧ y.testBit c = true := by
  constructor
  · intro h
    obtain ⟨c, hc⟩ := Nat.exists_testBit_of_ne_zero h
    rw [Nat.testBit_and, Bool.and_eq_true] at hc
    refine ⟨c, ?_, hc⟩
    rcases Nat.lt_or_ge c 8 with g | g
    · exact g
    · have : x < 2 ^ c := Nat.lt_of_lt_of_le (show x < 2 ^ 8 from hx) (Nat.pow_le_pow_right (by decide) g)
      rw [Nat.testBit_lt_two_pow this] at hc; cases hc.1
  · rintro ⟨c, _, h1, h2⟩ h0
    have : (x &&& y).testBit c = true := by rw [Nat.testBit_and, h1, h2]; rfl
    rw [h0, Nat.zero_testBit] at this; cases this
theorem tied_l0 {y z : Qs} {w r p q : Nat} (hw : y.Writes = w) (hr : y.Reads = r) (hp : z.Reads = p) (hq : z.Writes = q) (w8 : w < 256) (r8 : r < 256) (p8 : p < 256) (q8 : q < 256) : ∀ (d c : Nat), c + d = 8 →
    ∃ b, roadref4_Step_Tied.l0 y z (c : Int) = some b ∧ (b = true ↔ ∃ e, c ≤ e ∧ e < 8 ∧ (w.testBit e = true ∧ (p.testBit e = true ∨ q.testBit e = true) ∨ q.testBit e = true ∧ r.testBit e = true)) := by
  intro d
  induction d with
  | zero =>
    intro c h1
    refine ⟨false, by rw [roadref4_Step_Tied.l0_eq, if_neg (by omega)], ⟨fun h => absurd h (by decide), fun ⟨e, h, k, _⟩ => by omega⟩⟩
  | succ d ih =>
    intro c h1
    have hc : c < 8 := by omega
    obtain ⟨b, b1, b2⟩ := ih (c + 1) (by omega)
    have hgo : roadref4_Step_Tied.l0 y z (IntKind.wrap .i64 ((c : Int) + 1)) = some b := by rw [w_succ (by omega)]; exact b1
    have yes : (w.testBit c = true ∧ (p.testBit c = true ∨ q.testBit c = true) ∨ q.testBit c = true ∧ r.testBit c = true) → ∃ b', some true = some b' ∧ (b' = true ↔ ∃ e, c ≤ e ∧ e < 8 ∧ (w.testBit e = true ∧ (p.testBit e = true ∨ q.testBit e = true) ∨ q.testBit e = true ∧ r.testBit e = true)) := fun h => ⟨true, rfl, ⟨fun _ => ⟨c, Nat.le_refl _, hc, h⟩, fun _ => rfl⟩⟩
    have no : ¬ (w.testBit c = true ∧ (p.testBit c = true ∨ q.testBit c = true) ∨ q.testBit c = true ∧ r.testBit c = true) → ∃ b', roadref4_Step_Tied.l0 y z (IntKind.wrap .i64 ((c : Int) + 1)) = some b' ∧ (b' = true ↔ ∃ e, c ≤ e ∧ e < 8 ∧ (w.testBit e = true ∧ (p.testBit e = true ∨ q.testBit e = true) ∨ q.testBit e = true ∧ r.testBit e = true)) := fun h => ⟨b, hgo, b2.trans ⟨fun ⟨e, e1, e2, e3⟩ => ⟨e, by omega, e2, e3⟩, fun ⟨e, e1, e2, e3⟩ => ⟨e, by
      by_cases g : e = c
      · subst g; exact absurd e3 h
      · omega, e2, e3⟩⟩⟩
    rw [roadref4_Step_Tied.l0_eq, if_pos (by omega), if_pos (by omega), if_pos (by omega), if_pos (by omega), if_pos (by omega), hw, hr, hp, hq]
    have bw := bit_iff w8 hc
    have br := bit_iff r8 hc
    have bp := bit_iff p8 hc
    have bq := bit_iff q8 hc
    by_cases cw : w.testBit c = true
    · rw [if_pos (bw.2 cw)]
      by_cases cp : p.testBit c = true
      · rw [if_pos (bp.2 cp)]; exact yes (.inl ⟨cw, .inl cp⟩)
      · rw [if_neg (fun h => cp (bp.1 h))]
        by_cases cq : q.testBit c = true
        · rw [if_pos (bq.2 cq)]; exact yes (.inl ⟨cw, .inr cq⟩)
        · rw [if_neg (fun h => cq (bq.1 h)), if_neg (fun h => cq (bq.1 h))]
          exact no (fun h => h.elim (fun h => h.2.elim cp cq) fun h => cq h.1)
    · rw [if_neg (fun h => cw (bw.1 h))]
      by_cases cq : q.testBit c = true
      · rw [if_pos (bq.2 cq)]
        by_cases cr : r.testBit c = true
        · rw [if_pos (br.2 cr)]; exact yes (.inr ⟨cq, cr⟩)
        · rw [if_neg (fun h => cr (br.1 h))]; exact no (fun h => h.elim (fun h => cw h.1) fun h => cr h.2)
      · rw [if_neg (fun h => cq (bq.1 h))]; exact no (fun h => h.elim (fun h => cw h.1) fun h => cq h.1)
theorem tied_val {y z : Qs} (hy : ok (cv y)) (hz : ok (cv z)) : roadref4_Step_Tied y z = some (dp (cv y) (cv z)) := by
  unfold roadref4_Step_Tied dp
  show (if y.Who = z.Who then _ else _) = some (decide (y.Who = z.Who) || (!decide (bitsI .and .i64 y.Writes (bitsI .or .i64 z.Reads z.Writes) = 0) || (bitsI .and .i64 z.Writes y.Reads != 0)))
  by_cases c : y.Who = z.Who
  · rw [if_pos c, decide_eq_true c]; rfl
  · rw [if_neg c, decide_eq_false c, Bool.false_or]
    obtain ⟨_, _, hr0, hr1, hw0, hw1⟩ := hy
    obtain ⟨_, _, hp0, hp1, hq0, hq1⟩ := hz
    obtain ⟨r, hr⟩ := Int.eq_ofNat_of_zero_le hr0
    obtain ⟨w, hw⟩ := Int.eq_ofNat_of_zero_le hw0
    obtain ⟨p, hp⟩ := Int.eq_ofNat_of_zero_le hp0
    obtain ⟨q, hq⟩ := Int.eq_ofNat_of_zero_le hq0
    have hr' : y.Reads = (r : Int) := hr
    have hw' : y.Writes = (w : Int) := hw
    have hp' : z.Reads = (p : Int) := hp
    have hq' : z.Writes = (q : Int) := hq
    have r8 : r < 256 := by omega
    have w8 : w < 256 := by omega
    have p8 : p < 256 := by omega
    have q8 : q < 256 := by omega
    obtain ⟨b, b1, b2⟩ := tied_l0 hw' hr' hp' hq' w8 r8 p8 q8 8 0 (by omega)
    have hpq := Nat.or_lt_two_pow (n := 8) p8 q8
    rw [show ((0 : Nat) : Int) = 0 from rfl] at b1
    rw [b1, hw', hr', hp', hq', or_nat p8 q8, and_nat w8 hpq, and_nat q8 r8]
    congr 1
    rw [Bool.eq_iff_iff, b2, Bool.or_eq_true, Bool.not_eq_true', decide_eq_false_iff_not, bne_iff_ne]
    have e1 : ¬ ((w &&& (p ||| q) : Nat) : Int) = 0 ↔ w &&& (p ||| q) ≠ 0 := by omega
    have e2 : ((q &&& r : Nat) : Int) ≠ 0 ↔ q &&& r ≠ 0 := by omega
    rw [e1, e2, and_zero w8, and_zero q8]
    constructor
    · rintro ⟨e, _, h8, ⟨h1, h2⟩ | ⟨h1, h2⟩⟩
      · exact .inl ⟨e, h8, h1, by rw [Nat.testBit_or, Bool.or_eq_true]; exact h2⟩
      · exact .inr ⟨e, h8, h1, h2⟩
    · rintro (⟨e, h8, h1, h2⟩ | ⟨e, h8, h1, h2⟩)
      · exact ⟨e, Nat.zero_le _, h8, .inl ⟨h1, by rwa [Nat.testBit_or, Bool.or_eq_true] at h2⟩⟩
      · exact ⟨e, Nat.zero_le _, h8, .inr ⟨h1, h2⟩⟩
def mx (D : Nat → Nat → Bool) (f : Nat → Nat) (i : Nat) : Nat → Nat
  | 0 => 0
  | n + 1 => if D n i = true then max (mx D f i n) (f n + 1) else mx D f i n
def rdf (D : Nat → Nat → Bool) : Nat → Nat → Nat
  | 0, _ => 0
  | n + 1, q => if q = n then mx D (rdf D n) n n else rdf D n q
def rd (D : Nat → Nat → Bool) (q : Nat) : Nat := rdf D (q + 1) q
theorem mx_congr {D : Nat → Nat → Bool} {f g : Nat → Nat} {i : Nat} : ∀ n, (∀ k, k < n → f k = g k) → mx D f i n = mx D g i n := by
  intro n
  induction n with
  | zero => intro _; rfl
  | succ n ih => intro h; unfold mx; rw [ih fun k hk => h k (by omega), h n (by omega)]
theorem rdf_eq {D : Nat → Nat → Bool} {q : Nat} : ∀ n, q < n → rdf D n q = rd D q := by
  intro n
  induction n with
  | zero => intro h; omega
  | succ n ih =>
    intro h
    by_cases c : q = n
    · subst c; rfl
    · have := ih (by omega)
      show (if q = n then _ else rdf D n q) = _
      rw [if_neg c, this]
theorem rd_eq (D : Nat → Nat → Bool) (i : Nat) : rd D i = mx D (rd D) i i := by
  show (if i = i then mx D (rdf D i) i i else _) = _
  rw [if_pos rfl]
  exact mx_congr i fun k hk => rdf_eq i hk
theorem mx_ge {D : Nat → Nat → Bool} {f : Nat → Nat} {i k : Nat} (hD : D k i = true) : ∀ n, k < n → f k + 1 ≤ mx D f i n := by
  intro n
  induction n with
  | zero => intro h; omega
  | succ n ih =>
    intro h
    unfold mx
    by_cases c : k = n
    · subst c; rw [if_pos hD]; exact Nat.le_max_right _ _
    · have := ih (by omega)
      split
      · exact Nat.le_trans this (Nat.le_max_left _ _)
      · exact this
theorem mx_at {D : Nat → Nat → Bool} {f : Nat → Nat} {i : Nat} : ∀ n, mx D f i n = 0 ∨ ∃ k, k < n ∧ D k i = true ∧ f k + 1 = mx D f i n := by
  intro n
  induction n with
  | zero => exact .inl rfl
  | succ n ih =>
    unfold mx
    by_cases c : D n i = true
    · rw [if_pos c]
      rcases Nat.le_total (mx D f i n) (f n + 1) with g | g
      · rw [Nat.max_eq_right g]; exact .inr ⟨n, by omega, c, rfl⟩
      · rw [Nat.max_eq_left g]
        rcases ih with h | ⟨k, h1, h2, h3⟩
        · exact .inl h
        · exact .inr ⟨k, by omega, h2, h3⟩
    · rw [if_neg c]
      rcases ih with h | ⟨k, h1, h2, h3⟩
      · exact .inl h
      · exact .inr ⟨k, by omega, h2, h3⟩
theorem rd_le (D : Nat → Nat → Bool) (i : Nat) : rd D i ≤ i := by
  induction i using Nat.strongRecOn with
  | ind i ih =>
    rw [rd_eq]
    rcases mx_at (D := D) (f := rd D) (i := i) i with h | ⟨k, h1, _, h3⟩
    · omega
    · have := ih k h1; omega
theorem rd_lt {D : Nat → Nat → Bool} {k i : Nat} (h : k < i) (hD : D k i = true) : rd D k < rd D i := by
  rw [rd_eq D i]; exact mx_ge hD i h
theorem rd_down {D : Nat → Nat → Bool} {i j : Nat} (h : j ≤ rd D i) : ∃ k, k ≤ i ∧ rd D k = j := by
  induction i using Nat.strongRecOn with
  | ind i ih =>
    by_cases c : j = rd D i
    · exact ⟨i, Nat.le_refl _, c.symm⟩
    · rcases mx_at (D := D) (f := rd D) (i := i) i with g | ⟨k, h1, _, h3⟩
      · rw [← rd_eq] at g; omega
      · rw [← rd_eq] at h3
        obtain ⟨k', a, b⟩ := ih k h1 (by omega)
        exact ⟨k', by omega, b⟩
def st (x : List Ps) (j : Nat) : Ps := match x[j]? with | some s => s | none => ⟨0, 0, 0⟩
theorem st_at {x : List Ps} {j : Nat} (h : j < x.length) : x[j] = st x j := by unfold st; rw [List.getElem?_eq_getElem h]
def Dp (x : List Ps) (k i : Nat) : Bool := dp (st x k) (st x i)
def row (x : List Ps) (k n : Nat) : List Ps := ((List.range n).filter fun j => decide (rd (Dp x) j = k)).map (st x)
def sub (x : List Ps) (k w n : Nat) : List Ps := ((List.range n).filter fun j => decide (rd (Dp x) j = k ∧ (st x j).Who = w)).map (st x)
def tgm (x : List Ps) (k m : Nat) : List Ps := (List.range m).flatMap fun w => sub x k w x.length
theorem row_succ (x : List Ps) (k n : Nat) : row x k (n + 1) = if rd (Dp x) n = k then row x k n ++ [st x n] else row x k n := by
  unfold row
  rw [List.range_succ, List.filter_append, List.map_append]
  by_cases c : rd (Dp x) n = k
  · rw [if_pos c]; simp [c]
  · rw [if_neg c]; simp [c]
theorem sub_succ (x : List Ps) (k w n : Nat) : sub x k w (n + 1) = if rd (Dp x) n = k ∧ (st x n).Who = w then sub x k w n ++ [st x n] else sub x k w n := by
  unfold sub
  rw [List.range_succ, List.filter_append, List.map_append]
  by_cases c : rd (Dp x) n = k ∧ (st x n).Who = w
  · rw [if_pos c]; simp [c]
  · rw [if_neg c]; simp [c]
theorem row_mem {x : List Ps} {k n : Nat} {s : Ps} : s ∈ row x k n ↔ ∃ j, j < n ∧ rd (Dp x) j = k ∧ st x j = s := by
  unfold row
  simp only [List.mem_map, List.mem_filter, List.mem_range, decide_eq_true_eq]
  constructor
  · rintro ⟨j, ⟨a, b⟩, c⟩; exact ⟨j, a, b, c⟩
  · rintro ⟨j, a, b, c⟩; exact ⟨j, ⟨a, b⟩, c⟩
theorem row_len {x : List Ps} {k n : Nat} : (row x k n).length ≤ n := by
  unfold row
  rw [List.length_map]
  exact Nat.le_trans (List.length_filter_le _ _) (by rw [List.length_range]; exact Nat.le_refl _)
theorem row_one {x : List Ps} {i j : Nat} (h : rd (Dp x) i = rd (Dp x) j) (hw : (st x i).Who = (st x j).Who) : i = j := by
  rcases Nat.lt_trichotomy i j with g | g | g
  · have := rd_lt (D := Dp x) g (by unfold Dp dp; rw [decide_eq_true hw]; rfl); omega
  · exact g
  · have := rd_lt (D := Dp x) g (by unfold Dp dp; rw [decide_eq_true hw.symm]; rfl); omega
theorem tgm_succ (x : List Ps) (k m : Nat) : tgm x k (m + 1) = tgm x k m ++ sub x k m x.length := by
  unfold tgm
  rw [List.range_succ, List.flatMap_append, List.flatMap_singleton]
theorem sub_mem {x : List Ps} {k w n : Nat} {s : Ps} (h : s ∈ sub x k w n) : s.Who = w ∧ ∃ j, j < n ∧ rd (Dp x) j = k ∧ st x j = s := by
  unfold sub at h
  simp only [List.mem_map, List.mem_filter, List.mem_range, decide_eq_true_eq] at h
  obtain ⟨j, ⟨a, b, c⟩, d⟩ := h
  exact ⟨by rw [← d]; exact c, j, a, b, d⟩
theorem tgm_mem {x : List Ps} {k m : Nat} {s : Ps} (h : s ∈ tgm x k m) : s.Who < m ∧ ∃ j, j < x.length ∧ rd (Dp x) j = k ∧ st x j = s := by
  unfold tgm at h
  rw [List.mem_flatMap] at h
  obtain ⟨w, hw, hs⟩ := h
  have hw := List.mem_range.1 hw
  obtain ⟨a, b⟩ := sub_mem hs
  exact ⟨by omega, b⟩
theorem tgm_sorted {x : List Ps} {k : Nat} : ∀ m, (tgm x k m).Pairwise fun a b => a.Who ≤ b.Who := by
  intro m
  induction m with
  | zero => exact List.Pairwise.nil
  | succ m ih =>
    rw [tgm_succ, List.pairwise_append]
    refine ⟨ih, ?_, fun a ha b hb => ?_⟩
    · refine List.pairwise_iff_getElem.2 fun i j hi hj _ => ?_
      have h1 := (sub_mem (List.getElem_mem hi)).1
      have h2 := (sub_mem (List.getElem_mem hj)).1
      omega
    · have := (tgm_mem ha).1
      have := (sub_mem hb).1
      omega
theorem tgm_perm {x : List Ps} {k : Nat} (hx : ∀ j, 0 ≤ (st x j).Who) : ∀ m : Nat, (((List.range x.length).filter fun j => decide (rd (Dp x) j = k ∧ (st x j).Who < m)).map (st x)).Perm (tgm x k m) := by
  intro m
  induction m with
  | zero =>
    rw [List.filter_eq_nil_iff.2 fun j _ => by have := hx j; simp; omega]
    exact List.Perm.refl _
  | succ m ih =>
    rw [tgm_succ]
    have h := (List.filter_append_perm (fun j => decide ((st x j).Who < m)) ((List.range x.length).filter fun j => decide (rd (Dp x) j = k ∧ (st x j).Who < (m + 1 : Nat)))).symm.map (st x)
    rw [List.map_append, List.filter_filter, List.filter_filter] at h
    refine h.trans ?_
    have e1 : ((List.range x.length).filter fun j => decide ((st x j).Who < m) && decide (rd (Dp x) j = k ∧ (st x j).Who < (m + 1 : Nat))) = (List.range x.length).filter fun j => decide (rd (Dp x) j = k ∧ (st x j).Who < m) := by
      refine List.filter_congr fun j _ => ?_
      rw [Bool.eq_iff_iff, Bool.and_eq_true, decide_eq_true_eq, decide_eq_true_eq, decide_eq_true_eq]; omega
    have e2 : ((List.range x.length).filter fun j => !decide ((st x j).Who < m) && decide (rd (Dp x) j = k ∧ (st x j).Who < (m + 1 : Nat))) = (List.range x.length).filter fun j => decide (rd (Dp x) j = k ∧ (st x j).Who = m) := by
      refine List.filter_congr fun j _ => ?_
      rw [Bool.eq_iff_iff, Bool.and_eq_true, Bool.not_eq_true', decide_eq_false_iff_not, decide_eq_true_eq, decide_eq_true_eq]; omega
    rw [e1, e2]
    exact List.Perm.append_right _ ih
theorem st_ok {x : List Ps} (hx : ∀ s ∈ x, ok s) (j : Nat) : ok (st x j) := by
  unfold st
  cases h : x[j]? with
  | none => exact ⟨by decide, by decide, by decide, by decide, by decide, by decide⟩
  | some s => exact hx s (List.mem_of_getElem? h)
theorem row_perm {x : List Ps} (hx : ∀ s ∈ x, ok s) (k : Nat) : (row x k x.length).Perm (tgm x k 8) := by
  have := tgm_perm (x := x) (k := k) (fun j => (st_ok hx j).1) 8
  refine List.Perm.trans ?_ this
  unfold row
  rw [List.filter_congr (q := fun j => decide (rd (Dp x) j = k ∧ (st x j).Who < (8 : Nat))) fun j _ => by
    have := (st_ok hx j).2.1
    rw [Bool.eq_iff_iff, decide_eq_true_eq, decide_eq_true_eq]; omega]
theorem row_8 {x : List Ps} (hx : ∀ s ∈ x, ok s) (k n : Nat) : (row x k n).length ≤ 8 := by
  have h1 : ((row x k n).map (·.Who)).Nodup := by
    unfold row
    rw [List.map_map]
    refine List.Pairwise.map (R := fun i j => i ≠ j ∧ rd (Dp x) i = k ∧ rd (Dp x) j = k) _ (fun i j h e => h.1 (row_one (h.2.1.trans h.2.2.symm) e)) ?_
    have h2 : ((List.range n).filter fun j => decide (rd (Dp x) j = k)).Nodup := List.nodup_range.filter _
    refine List.Pairwise.imp_of_mem (fun {a b} ha hb h => ⟨h, ?_, ?_⟩) h2
    · exact of_decide_eq_true (List.mem_filter.1 ha).2
    · exact of_decide_eq_true (List.mem_filter.1 hb).2
  have h2 := h1.length_le_of_subset (l₂ := [0, 1, 2, 3, 4, 5, 6, 7]) (fun w hw => by
    obtain ⟨s, s1, rfl⟩ := List.mem_map.1 hw
    obtain ⟨j, _, _, rfl⟩ := row_mem.1 s1
    have := st_ok hx j
    obtain ⟨a, b, _⟩ := this
    simp only [List.mem_cons, List.not_mem_nil, or_false]
    omega)
  simpa using h2
def SrtW (a b : Nat) (l : List Ps) : Prop := ∀ i j (hi : i < l.length) (hj : j < l.length), a ≤ i → i < j → j < b → l[i].Who ≤ l[j].Who
theorem cmp_val {x y : Ps} (hx : ok x) (hy : ok y) : part_Rounds_1 x y = some (x.Who - y.Who) := by
  obtain ⟨a, b, _⟩ := hx
  obtain ⟨c, d, _⟩ := hy
  unfold part_Rounds_1
  rw [wrap_in (by omega) (by omega)]
theorem ins_in {b i : Nat} : ∀ (d j : Nat) (l : List Ps), d = j → j ≤ i → i < l.length → l.length ≤ 1000 → (∀ s ∈ l, ok s) →
      (∀ p q (hp : p < l.length) (hq : q < l.length), p < q → q ≤ i → p ≠ j → q ≠ j → l[p].Who ≤ l[q].Who) → (∀ q (hj : j < l.length) (hq : q < l.length), j < q → q ≤ i → l[j].Who ≤ l[q].Who) →
      ∃ r, r.Perm l ∧ SrtW 0 (i + 1) r ∧ slices_insertionSortCmpFunc_165.l1 l 0 (b : Int) (fun z25 z26 => part_Rounds_1 z25 z26) (i : Int) (j : Int) = slices_insertionSortCmpFunc_165.l0 r 0 (b : Int) (fun z25 z26 => part_Rounds_1 z25 z26) ((i + 1 : Nat) : Int) := by
  intro d
  induction d with
  | zero =>
    intro j l hj hji hil hlen hok h1 h2
    refine ⟨l, .refl _, fun p q hp hq hap hpq hqi => ?_, by rw [slices_insertionSortCmpFunc_165.l1_eq, if_neg (by omega), slices_insertionSortCmpFunc_165.j0_eq, w_succ (by omega)]⟩
    by_cases e : p = j
    · subst e; exact h2 q hp hq hpq (by omega)
    · exact h1 p q hp hq hpq (by omega) e (by omega)
  | succ d ih =>
    intro j l hj hji hil hlen hok h1 h2
    have hjl : j < l.length := by omega
    have hw : IntKind.wrap .i64 ((j : Int) - 1) = ((j - 1 : Nat) : Int) := by rw [wrap_in (by omega) (by omega)]; omega
    rw [slices_insertionSortCmpFunc_165.l1_eq, if_pos (by omega), hw, gi_at hjl, Option.bind_some, gi_at (show j - 1 < l.length by omega), Option.bind_some, cmp_val (hok _ (List.getElem_mem _)) (hok _ (List.getElem_mem _)), Option.bind_some]
    by_cases g : l[j].Who - l[j - 1].Who < 0
    · rw [if_pos g, slices_insertionSortCmpFunc_165.j1_eq, hw, swap_txt (i := j) (j := j - 1) hjl (by omega)]
      have hL : ((l.set j l[j - 1]).set (j - 1) l[j]).length = l.length := by rw [List.length_set, List.length_set]
      have hperm : ((l.set j l[j - 1]).set (j - 1) l[j]).Perm l := (Tch.swap (a := 0) (b := l.length) (i := j) (j := j - 1) hjl (by omega) (by omega) (by omega) (by omega) (by omega)).1
      have gt : ∀ q (hq : q < ((l.set j l[j - 1]).set (j - 1) l[j]).length), ((l.set j l[j - 1]).set (j - 1) l[j])[q] = if q = j - 1 then l[j] else if q = j then l[j - 1] else l[q]'(by omega) := by
        intro q hq
        rw [List.getElem_set, List.getElem_set]
        by_cases c1 : q = j - 1
        · rw [if_pos (show j - 1 = q from c1.symm), if_pos (show q = j - 1 from c1)]
        · rw [if_neg (show ¬ j - 1 = q from fun e => c1 e.symm), if_neg (show ¬ q = j - 1 from c1)]
          by_cases c2 : q = j
          · rw [if_pos (show j = q from c2.symm), if_pos (show q = j from c2)]
          · rw [if_neg (show ¬ j = q from fun e => c2 e.symm), if_neg (show ¬ q = j from c2)]
      have n1 : ∀ p q (hp : p < ((l.set j l[j - 1]).set (j - 1) l[j]).length) (hq : q < ((l.set j l[j - 1]).set (j - 1) l[j]).length), p < q → q ≤ i → p ≠ j - 1 → q ≠ j - 1 → ((l.set j l[j - 1]).set (j - 1) l[j])[p].Who ≤ ((l.set j l[j - 1]).set (j - 1) l[j])[q].Who := by
        intro p q hp hq hpq hqi hpj hqj
        rw [gt p hp, gt q hq, if_neg hpj, if_neg hqj]
        by_cases c1 : p = j
        · rw [if_pos c1, if_neg (by omega)]
          exact h1 (j - 1) q (by omega) (by omega) (by omega) hqi (by omega) (by omega)
        · rw [if_neg c1]
          by_cases c2 : q = j
          · rw [if_pos c2]
            exact h1 p (j - 1) (by omega) (by omega) (by omega) (by omega) (by omega) (by omega)
          · rw [if_neg c2]
            exact h1 p q (by omega) (by omega) hpq hqi c1 c2
      have n2 : ∀ q (hj' : j - 1 < ((l.set j l[j - 1]).set (j - 1) l[j]).length) (hq : q < ((l.set j l[j - 1]).set (j - 1) l[j]).length), j - 1 < q → q ≤ i → ((l.set j l[j - 1]).set (j - 1) l[j])[j - 1].Who ≤ ((l.set j l[j - 1]).set (j - 1) l[j])[q].Who := by
        intro q hj' hq hjq hqi
        rw [gt (j - 1) hj', gt q hq, if_pos rfl, if_neg (by omega)]
        by_cases c : q = j
        · rw [if_pos c]; omega
        · rw [if_neg c]
          exact h2 q hjl (by omega) (by omega) hqi
      obtain ⟨r, t1, t2, t3⟩ := ih (j - 1) ((l.set j l[j - 1]).set (j - 1) l[j]) (by omega) (by omega) (by omega) (by omega) (fun s hs => hok s (hperm.mem_iff.1 hs)) n1 n2
      exact ⟨r, t1.trans hperm, t2, t3⟩
    · rw [if_neg g, slices_insertionSortCmpFunc_165.j0_eq, w_succ (by omega)]
      refine ⟨l, .refl _, fun p q hp hq _ hpq hqi => ?_, rfl⟩
      by_cases c1 : p = j
      · subst c1; exact h2 q hp hq hpq (by omega)
      · by_cases c2 : q = j
        · subst c2
          by_cases c3 : p = q - 1
          · subst c3; omega
          · have := h1 p (q - 1) hp (by omega) (by omega) (by omega) (by omega) (by omega); omega
        · exact h1 p q hp hq hpq (by omega) c1 c2
theorem ins_val {b : Nat} : ∀ (d i : Nat) (l : List Ps), i + d = b → b ≤ l.length → l.length ≤ 1000 → (∀ s ∈ l, ok s) → SrtW 0 i l → ∃ r, r.Perm l ∧ SrtW 0 b r ∧ slices_insertionSortCmpFunc_165.l0 l 0 (b : Int) (fun z25 z26 => part_Rounds_1 z25 z26) (i : Int) = some r := by
  intro d
  induction d with
  | zero =>
    intro i l hi hb hlen hok hs
    have : i = b := by omega
    subst this
    exact ⟨l, .refl _, hs, by rw [slices_insertionSortCmpFunc_165.l0_eq, if_neg (by omega)]⟩
  | succ d ih =>
    intro i l hi hb hlen hok hs
    obtain ⟨r, t1, t2, t3⟩ := ins_in (b := b) i i l rfl (Nat.le_refl _) (by omega) hlen hok (fun p q hp hq hpq hqi hpj hqj => hs p q hp hq (Nat.zero_le _) hpq (by omega)) (fun q _ hq hjq hqi => absurd hjq (by omega))
    obtain ⟨s, u1, u2, u3⟩ := ih (i + 1) r (by omega) (by rw [t1.length_eq]; exact hb) (by rw [t1.length_eq]; exact hlen) (fun s hs => hok s (t1.mem_iff.1 hs)) t2
    exact ⟨s, u1.trans t1, u2, by rw [slices_insertionSortCmpFunc_165.l0_eq, if_pos (by omega), t3, u3]⟩
theorem len_some : ∀ k : Fin 13, (math_bits_Len (IntKind.wrap .u64 ((k.1 : Nat) : Int))).isSome = true := by decide +kernel
theorem sortF_val {r : List Ps} (h : r.length ≤ 12) (hok : ∀ s ∈ r, ok s) : ∃ s, slices_SortFunc_92 r (fun z25 z26 => part_Rounds_1 z25 z26) = some s ∧ s.Perm r ∧ s.Pairwise fun a b => a.Who ≤ b.Who := by
  obtain ⟨v, hv⟩ := Option.isSome_iff_exists.1 (len_some ⟨r.length, by omega⟩)
  have hv : math_bits_Len (IntKind.wrap .u64 (r.length : Int)) = some v := hv
  have hn : IntKind.wrap .i64 ((r.length : Int) - 0) = (r.length : Int) := by rw [wrap_in (by omega) (by omega)]; omega
  have h1 : IntKind.wrap .i64 ((0 : Int) + 1) = ((1 : Nat) : Int) := by decide
  unfold slices_SortFunc_92
  rw [hv, Option.bind_some, slices_pdqsortCmpFunc_136_eq, slices_pdqsortCmpFunc_136.l0_eq, hn, if_pos (by omega)]
  unfold slices_insertionSortCmpFunc_165
  rw [h1]
  cases r with
  | nil =>
    refine ⟨[], ?_, .refl _, .nil⟩
    rw [slices_insertionSortCmpFunc_165.l0_eq, if_neg (by decide)]; rfl
  | cons a r =>
    obtain ⟨s, s1, s2, s3⟩ := ins_val (b := (a :: r).length) r.length 1 (a :: r) (by rw [List.length_cons]; omega) (Nat.le_refl _) (by omega) hok (fun i j hi hj _ hij hj1 => by omega)
    rw [s3]
    refine ⟨s, rfl, s1, List.pairwise_iff_getElem.2 fun i j hi hj hij => s2 i j hi hj (Nat.zero_le _) hij (by rw [← s1.length_eq]; exact hj)⟩
theorem sort_row {x : List Ps} (hx : ∀ s ∈ x, ok s) (k : Nat) : slices_SortFunc_92 (row x k x.length) (fun z25 z26 => part_Rounds_1 z25 z26) = some (tgm x k 8) := by
  obtain ⟨s, s1, s2, s3⟩ := sortF_val (r := row x k x.length) (by have := row_8 hx k x.length; omega) (fun s hs => by obtain ⟨j, _, _, rfl⟩ := row_mem.1 hs; exact st_ok hx j)
  rw [s1]
  congr 1
  have hp := row_perm hx k
  refine List.Perm.eq_of_pairwise (fun a b ha hb h1 h2 => ?_) s3 (tgm_sorted 8) (s2.trans hp)
  obtain ⟨i, _, i2, rfl⟩ := row_mem.1 (s2.mem_iff.1 ha)
  obtain ⟨j, _, j2, rfl⟩ := row_mem.1 (hp.mem_iff.2 hb)
  rw [row_one (x := x) (i2.trans j2.symm) (Int.le_antisymm h1 h2)]
def IsN (n : Nat) (a : List Int) (f : Nat → Nat) : Prop := a.length = n ∧ ∀ q, q < n → a[q]? = some (f q : Int)
theorem IsN.gi {n : Nat} {a : List Int} {f : Nat → Nat} (h : IsN n a f) {q : Nat} (hq : q < n) : gi a (q : Int) = some (f q : Int) := by rw [gi_nat]; exact h.2 q hq
theorem IsN.set {n : Nat} {a : List Int} {f : Nat → Nat} (h : IsN n a f) {q : Nat} (hq : q < n) {v : Int} (w : Nat) (hv : v = w) : IsN n (a.set q v) (fun j => if j = q then w else f j) := by
  subst hv
  refine ⟨by rw [List.length_set]; exact h.1, fun j hj => ?_⟩
  rw [List.getElem?_set]
  show _ = some ((if j = q then w else f j : Nat) : Int)
  by_cases c : q = j
  · rw [if_pos c, if_pos (by rw [h.1]; exact hq), if_pos (show j = q from c.symm)]
  · rw [if_neg c, if_neg (show ¬ j = q from fun e => c e.symm)]; exact h.2 j hj
theorem IsN.congr {n : Nat} {a : List Int} {f g : Nat → Nat} (h : IsN n a f) (e : ∀ q, q < n → f q = g q) : IsN n a g := ⟨h.1, fun q hq => by rw [h.2 q hq, e q hq]⟩
def fp (D : Nat → Nat → Bool) (i p q : Nat) : Nat := if q < i then rd D q else if q = i then mx D (rd D) i p else 0
structure RwP (x : List Ps) (n : Nat) (o : List (List Ps)) : Prop where
  get : ∀ k, k < o.length → o[k]? = some (row x k n)
  nil : ∀ k, o.length ≤ k → row x k n = []
  has : ∀ k, k < o.length → ∃ j, j < n ∧ rd (Dp x) j = k
theorem RwP.len {x : List Ps} {n : Nat} {o : List (List Ps)} (h : RwP x n o) : o.length ≤ n := by
  rcases Nat.eq_zero_or_pos o.length with g | g
  · omega
  · obtain ⟨j, h1, h2⟩ := h.has (o.length - 1) (by omega)
    have := rd_le (Dp x) j; omega
section
variable {x : List Ps} (hl : x.length ≤ 40)
include hl
theorem part_l2 {i : Nat} (hi : i < x.length) {o : List (List Ps)} : ∀ (d p : Nat) (a : List Int), p + d = i → IsN x.length a (fp (Dp x) i p) →
    ∃ a', IsN x.length a' (fp (Dp x) i i) ∧ part_Rounds.l2 x a o (i : Int) x[i] x (x.length : Int) (i : Int) (i : Int) (p : Int) = part_Rounds.l3 x a' o (i : Int) x[i] x (x.length : Int) (i : Int) := by
  intro d
  induction d with
  | zero =>
    intro p a h1 h2
    have : p = i := by omega
    subst this
    exact ⟨a, h2, by rw [part_Rounds.l2_eq, if_neg (by omega)]⟩
  | succ d ih =>
    intro p a h1 h2
    have hp : p < i := by omega
    have hpx : p < x.length := by omega
    have e1 : fp (Dp x) i p i = mx (Dp x) (rd (Dp x)) i p := by unfold fp; rw [if_neg (by omega), if_pos rfl]
    have e2 : fp (Dp x) i p p = rd (Dp x) p := by unfold fp; rw [if_pos hp]
    have hb1 := rd_le (Dp x) p
    have hD : dp x[p] x[i] = Dp x p i := by unfold Dp; rw [st_at hpx, st_at hi]
    rw [part_Rounds.l2_eq, if_pos (by omega), gi_at hpx, Option.bind_some, depend_val, Option.bind_some, hD]
    by_cases c : Dp x p i = true
    · rw [if_pos c, h2.gi hi, Option.bind_some, h2.gi hpx, Option.bind_some, Option.bind_some, Option.bind_some, e1, e2, w_succ (by omega), w_succ (by omega), show Int.toNat (i : Int) = i from rfl]
      refine ih (p + 1) _ (by omega) ((h2.set hi (mx (Dp x) (rd (Dp x)) i (p + 1)) ?_).congr fun q hq => ?_)
      · show _ = ((if Dp x p i = true then max (mx (Dp x) (rd (Dp x)) i p) (rd (Dp x) p + 1) else mx (Dp x) (rd (Dp x)) i p : Nat) : Int)
        rw [if_pos c]
        split <;> omega
      · unfold fp
        by_cases e : q = i
        · subst e; rw [if_pos rfl, if_neg (by omega), if_pos rfl]
        · rw [if_neg e, if_neg e, if_neg e]
    · rw [if_neg c, w_succ (by omega)]
      refine ih (p + 1) _ (by omega) (h2.congr fun q hq => ?_)
      unfold fp
      by_cases e : q = i
      · subst e; rw [if_neg (by omega), if_pos rfl, if_neg (by omega), if_pos rfl]
        show _ = if Dp x p q = true then _ else _
        rw [if_neg c]
      · rw [if_neg e, if_neg e]
theorem part_l3 {i : Nat} (hi : i < x.length) {a : List Int} (ha : gi a (i : Int) = some (rd (Dp x) i : Int)) : ∀ (d : Nat) (o : List (List Ps)), rd (Dp x) i + 1 ≤ o.length + d → (o.length ≤ i + 1) → (∀ k, k < o.length → o[k]? = some (row x k i)) → (∀ k, o.length ≤ k → row x k i = []) → (∀ k, k < o.length → k ≤ rd (Dp x) i ∨ ∃ j, j < i ∧ rd (Dp x) j = k) →
    ∃ o', RwP x (i + 1) o' ∧ part_Rounds.l3 x a o (i : Int) x[i] x (x.length : Int) (i : Int) = part_Rounds.l0 x a o' x (x.length : Int) (IntKind.wrap .i64 ((i : Int) + 1)) := by
  intro d
  have fin : ∀ (o : List (List Ps)), rd (Dp x) i < o.length → (o.length ≤ i + 1) → (∀ k, k < o.length → o[k]? = some (row x k i)) → (∀ k, o.length ≤ k → row x k i = []) → (∀ k, k < o.length → k ≤ rd (Dp x) i ∨ ∃ j, j < i ∧ rd (Dp x) j = k) →
    ∃ o', RwP x (i + 1) o' ∧ part_Rounds.l3 x a o (i : Int) x[i] x (x.length : Int) (i : Int) = part_Rounds.l0 x a o' x (x.length : Int) (IntKind.wrap .i64 ((i : Int) + 1)) := by
    intro o h0 hm h1 h2 h3
    have := row_len (x := x) (k := rd (Dp x) i) (n := i)
    rw [part_Rounds.l3_eq, ha, Option.bind_some, if_neg (by omega), Option.bind_some, Option.bind_some, gi_nat, h1 _ h0, Option.bind_some, ap_one (by omega), Option.bind_some, if_pos rfl, Option.bind_some, show Int.toNat (rd (Dp x) i : Int) = rd (Dp x) i from rfl, st_at hi]
    refine ⟨_, ⟨fun k hk => ?_, fun k hk => ?_, fun k hk => ?_⟩, rfl⟩
    · rw [List.length_set] at hk
      rw [List.getElem?_set, row_succ]
      by_cases e : rd (Dp x) i = k
      · rw [if_pos e, if_pos h0, if_pos e, e]
      · rw [if_neg e, if_neg e, h1 k hk]
    · rw [List.length_set] at hk
      rw [row_succ, if_neg (by omega)]; exact h2 k hk
    · rw [List.length_set] at hk
      rcases h3 k hk with g | ⟨j, g1, g2⟩
      · obtain ⟨j, g1, g2⟩ := rd_down (D := Dp x) g
        exact ⟨j, by omega, g2⟩
      · exact ⟨j, by omega, g2⟩
  induction d with
  | zero => intro o h0 hm h1 h2 h3; exact fin o (by omega) hm h1 h2 h3
  | succ d ih =>
    intro o h0 hm h1 h2 h3
    by_cases c : rd (Dp x) i < o.length
    · exact fin o c hm h1 h2 h3
    · have := rd_le (Dp x) i
      rw [part_Rounds.l3_eq, ha, Option.bind_some, if_pos (by omega), ap_one (by omega), Option.bind_some]
      refine ih (o ++ [[]]) (by simp; omega) (by simp; omega) (fun k hk => ?_) (fun k hk => h2 k (by simp at hk; omega)) (fun k hk => .inl (by simp at hk; omega))
      rcases Nat.lt_or_ge k o.length with g | g
      · rw [List.getElem?_append_left g]; exact h1 k g
      · have : k = o.length := by simp at hk; omega
        subst this
        rw [List.getElem?_append_right (Nat.le_refl _), Nat.sub_self, h2 _ (Nat.le_refl _)]; rfl
theorem part_l0 : ∀ (d i : Nat) (a : List Int) (o : List (List Ps)), i + d = x.length → IsN x.length a (fun q => if q < i then rd (Dp x) q else 0) → RwP x i o →
    ∃ o', RwP x x.length o' ∧ part_Rounds.l0 x a o x (x.length : Int) (i : Int) = part_Rounds.l1 o' (o'.length : Int) 0 := by
  intro d
  induction d with
  | zero =>
    intro i a o h1 h2 h3
    have : i = x.length := by omega
    subst this
    exact ⟨o, h3, by rw [part_Rounds.l0_eq, if_neg (by omega)]⟩
  | succ d ih =>
    intro i a o h1 h2 h3
    have hi : i < x.length := by omega
    obtain ⟨a1, k1, k2⟩ := part_l2 hl hi (o := o) i 0 a (by omega) (h2.congr fun q hq => by
      unfold fp
      by_cases e : q < i
      · rw [if_pos e, if_pos e]
      · rw [if_neg e, if_neg e]
        by_cases e2 : q = i
        · rw [if_pos e2]; rfl
        · rw [if_neg e2])
    have hgi : gi a1 (i : Int) = some (rd (Dp x) i : Int) := by
      rw [k1.gi hi]; unfold fp; rw [if_neg (by omega), if_pos rfl, ← rd_eq]
    have hol := h3.len
    obtain ⟨o1, m1, m2⟩ := part_l3 hl hi hgi (rd (Dp x) i + 1) o (by omega) (by omega) h3.get h3.nil (fun k hk => .inr (h3.has k hk))
    rw [show ((0 : Nat) : Int) = 0 from rfl] at k2
    rw [part_Rounds.l0_eq, if_pos (by omega), gi_at hi, Option.bind_some, k2, m2, w_succ (by omega)]
    refine ih (i + 1) a1 o1 (by omega) (k1.congr fun q hq => ?_) m1
    unfold fp
    by_cases e : q < i
    · rw [if_pos e, if_pos (by omega)]
    · rw [if_neg e]
      by_cases e2 : q = i
      · subst e2; rw [if_pos rfl, if_pos (by omega), ← rd_eq]
      · rw [if_neg e2, if_neg (by omega)]
end
structure RO (x : List Ps) (out : List (List Ps)) : Prop where
  get : ∀ k, k < out.length → out[k]? = some (tgm x k 8)
  nil : ∀ k, out.length ≤ k → row x k x.length = []
  has : ∀ k, k < out.length → ∃ j, j < x.length ∧ rd (Dp x) j = k
  len : out.length ≤ x.length
theorem part_l1 {x : List Ps} (hx : ∀ s ∈ x, ok s) {o : List (List Ps)} (ho : RwP x x.length o) (hol : o.length ≤ 40) : ∀ (d p : Nat) (a : List (List Ps)), p + d = o.length → a.length = o.length → (∀ k, k < p → a[k]? = some (tgm x k 8)) → (∀ k, p ≤ k → k < o.length → a[k]? = some (row x k x.length)) →
    ∃ out, RO x out ∧ part_Rounds.l1 a (o.length : Int) (p : Int) = some (out, 0) := by
  intro d
  induction d with
  | zero =>
    intro p a h1 h2 h3 h4
    exact ⟨a, ⟨fun k hk => h3 k (by omega), fun k hk => ho.nil k (by omega), fun k hk => ho.has k (by omega), by have := ho.len; omega⟩, by rw [part_Rounds.l1_eq, if_neg (by omega)]⟩
  | succ d ih =>
    intro p a h1 h2 h3 h4
    have hp : p < o.length := by omega
    rw [part_Rounds.l1_eq, if_pos (by omega), gi_nat, h4 p (Nat.le_refl _) hp, Option.bind_some, sort_row hx, Option.bind_some, w_succ (by omega), show Int.toNat (p : Int) = p from rfl]
    refine ih (p + 1) _ (by omega) (by rw [List.length_set]; exact h2) (fun k hk => ?_) (fun k hk hk2 => ?_)
    · rw [List.getElem?_set]
      by_cases e : p = k
      · subst e; rw [if_pos rfl, if_pos (by omega)]
      · rw [if_neg e]; exact h3 k (by omega)
    · rw [List.getElem?_set, if_neg (by omega)]; exact h4 k (by omega) hk2
theorem rounds_good {x : List Ps} (h : code x = 0) : ∃ out, RO x out ∧ part_Rounds x = some (out, 0) := by
  obtain ⟨hl, hx⟩ := code_ok h
  unfold part_Rounds
  rw [check_val, h, Option.bind_some, if_pos rfl, mks_of rfl (by omega) (by omega), Option.bind_some]
  obtain ⟨o, k1, k2⟩ := part_l0 hl x.length 0 (List.replicate x.length 0) [] (by omega) ⟨by simp, fun q hq => by rw [List.getElem?_replicate, if_pos hq]; show some (0 : Int) = some ((if q < 0 then rd (Dp x) q else 0 : Nat) : Int); rw [if_neg (Nat.not_lt_zero _)]; rfl⟩ ⟨fun k hk => absurd hk (Nat.not_lt_zero _), fun k _ => rfl, fun k hk => absurd hk (Nat.not_lt_zero _)⟩
  have hol := k1.len
  obtain ⟨out, m1, m2⟩ := part_l1 hx k1 (by omega) o.length 0 o (by omega) rfl (fun k hk => absurd hk (Nat.not_lt_zero _)) (fun k _ hk => k1.get k hk)
  rw [show ((0 : Nat) : Int) = 0 from rfl] at k2 m2
  exact ⟨out, m1, by rw [k2, m2]⟩
theorem rounds_bad {x : List Ps} (h : code x ≠ 0) : part_Rounds x = some ([], code x) := by
  unfold part_Rounds
  rw [check_val, Option.bind_some, if_neg h]
section
variable {a : List Qs} (hl : (a.map cv).length ≤ 40) (hx : ∀ s ∈ a.map cv, ok s)
include hl hx
theorem tied_at {k i : Nat} (hk : k < a.length) (hi : i < a.length) : roadref4_Step_Tied a[k] a[i] = some (Dp (a.map cv) k i) := by
  rw [tied_val (hx _ (List.mem_map.2 ⟨_, List.getElem_mem hk, rfl⟩)) (hx _ (List.mem_map.2 ⟨_, List.getElem_mem hi, rfl⟩))]
  unfold Dp
  rw [← st_at (x := a.map cv) (by rw [List.length_map]; exact hk), ← st_at (x := a.map cv) (by rw [List.length_map]; exact hi), List.getElem_map, List.getElem_map]
theorem ref_l2 {i : Nat} (hi : i < a.length) : ∀ (d p : Nat) (c : List Int) (b : Bool), p + d = i → IsN a.length c (fp (Dp (a.map cv)) i p) →
    ∃ c' b', IsN a.length c' (fp (Dp (a.map cv)) i i) ∧ roadref4_Rounds.l2 a c b (i : Int) (a.length : Int) (i : Int) (i : Int) (p : Int) = roadref4_Rounds.l1 a c' b' (a.length : Int) (IntKind.wrap .i64 ((i : Int) + 1)) := by
  intro d
  induction d with
  | zero =>
    intro p c b h1 h2
    have : p = i := by omega
    subst this
    exact ⟨c, b, h2, by rw [roadref4_Rounds.l2_eq, if_neg (by omega)]⟩
  | succ d ih =>
    intro p c b h1 h2
    rw [List.length_map] at hl
    have hp : p < i := by omega
    have hpx : p < a.length := by omega
    have e1 : fp (Dp (a.map cv)) i p i = mx (Dp (a.map cv)) (rd (Dp (a.map cv))) i p := by unfold fp; rw [if_neg (by omega), if_pos rfl]
    have e2 : fp (Dp (a.map cv)) i p p = rd (Dp (a.map cv)) p := by unfold fp; rw [if_pos hp]
    have hb1 := rd_le (Dp (a.map cv)) p
    have keep : ∀ b, mx (Dp (a.map cv)) (rd (Dp (a.map cv))) i (p + 1) = mx (Dp (a.map cv)) (rd (Dp (a.map cv))) i p → ∃ c' b', IsN a.length c' (fp (Dp (a.map cv)) i i) ∧ roadref4_Rounds.l2 a c b (i : Int) (a.length : Int) (i : Int) (i : Int) (IntKind.wrap .i64 ((p : Int) + 1)) = roadref4_Rounds.l1 a c' b' (a.length : Int) (IntKind.wrap .i64 ((i : Int) + 1)) := by
      intro b hm
      rw [w_succ (by omega)]
      refine ih (p + 1) c b (by omega) (h2.congr fun q hq => ?_)
      unfold fp
      by_cases e : q = i
      · subst e; rw [if_neg (by omega), if_pos rfl, if_neg (by omega), if_pos rfl, hm]
      · rw [if_neg e, if_neg e]
    have hm : mx (Dp (a.map cv)) (rd (Dp (a.map cv))) i (p + 1) = if Dp (a.map cv) p i = true then max (mx (Dp (a.map cv)) (rd (Dp (a.map cv))) i p) (rd (Dp (a.map cv)) p + 1) else mx (Dp (a.map cv)) (rd (Dp (a.map cv))) i p := rfl
    rw [roadref4_Rounds.l2_eq, if_pos (by omega), gi_at hpx, Option.bind_some, gi_at hi, Option.bind_some, tied_at (by rw [List.length_map]; exact hl) hx hpx hi, Option.bind_some]
    by_cases g : Dp (a.map cv) p i = true
    · rw [if_pos g, h2.gi hi, Option.bind_some, h2.gi hpx, Option.bind_some, e1, e2, roadref4_Rounds.j0_eq]
      rw [if_pos g] at hm
      by_cases k : mx (Dp (a.map cv)) (rd (Dp (a.map cv))) i p ≤ rd (Dp (a.map cv)) p
      · rw [if_pos (decide_eq_true (by omega)), h2.gi hpx, Option.bind_some, h2.gi hi, Option.bind_some, Option.bind_some, e2, w_succ (by omega), w_succ (by omega), show Int.toNat (i : Int) = i from rfl]
        refine ih (p + 1) _ true (by omega) ((h2.set hi (mx (Dp (a.map cv)) (rd (Dp (a.map cv))) i (p + 1)) (by rw [hm, Nat.max_eq_right (by omega)])).congr fun q hq => ?_)
        unfold fp
        by_cases e : q = i
        · subst e; rw [if_pos rfl, if_neg (by omega), if_pos rfl]
        · rw [if_neg e, if_neg e, if_neg e]
      · rw [if_neg (by simp; omega)]
        exact keep b (by rw [hm, Nat.max_eq_left (by omega)])
    · rw [if_neg g, roadref4_Rounds.j0_eq, if_neg (by decide)]
      rw [if_neg g] at hm
      exact keep b hm
theorem ref_l1 : ∀ (d i : Nat) (c : List Int) (b : Bool), i + d = a.length → IsN a.length c (fun q => if q < i then rd (Dp (a.map cv)) q else 0) →
    ∃ c' b', IsN a.length c' (rd (Dp (a.map cv))) ∧ roadref4_Rounds.l1 a c b (a.length : Int) (i : Int) = roadref4_Rounds.l0 a c' b' := by
  intro d
  induction d with
  | zero =>
    intro i c b h1 h2
    exact ⟨c, b, h2.congr fun q hq => if_pos (by omega), by rw [roadref4_Rounds.l1_eq, if_neg (by omega)]⟩
  | succ d ih =>
    intro i c b h1 h2
    have hi : i < a.length := by omega
    obtain ⟨c1, b1, k1, k2⟩ := ref_l2 hl hx hi i 0 c b (by omega) (h2.congr fun q hq => by
      unfold fp
      by_cases e : q < i
      · rw [if_pos e, if_pos e]
      · rw [if_neg e, if_neg e]
        by_cases e2 : q = i
        · rw [if_pos e2]; rfl
        · rw [if_neg e2])
    rw [show ((0 : Nat) : Int) = 0 from rfl] at k2
    rw [List.length_map] at hl
    rw [roadref4_Rounds.l1_eq, if_pos (by omega), k2, w_succ (by omega)]
    refine ih (i + 1) c1 b1 (by omega) (k1.congr fun q hq => ?_)
    unfold fp
    by_cases e : q < i
    · rw [if_pos e, if_pos (by omega)]
    · rw [if_neg e]
      by_cases e2 : q = i
      · subst e2; rw [if_pos rfl, if_pos (by omega), ← rd_eq]
      · rw [if_neg e2, if_neg (by omega)]
theorem again_l2 {c : List Int} (hc : IsN a.length c (rd (Dp (a.map cv)))) {i : Nat} (hi : i < a.length) : ∀ (d p : Nat), p + d = i → roadref4_Rounds.l2 a c false (i : Int) (a.length : Int) (i : Int) (i : Int) (p : Int) = roadref4_Rounds.l1 a c false (a.length : Int) (IntKind.wrap .i64 ((i : Int) + 1)) := by
  intro d
  induction d with
  | zero => intro p h1; rw [roadref4_Rounds.l2_eq, if_neg (by omega)]
  | succ d ih =>
    intro p h1
    have hl' := hl
    rw [List.length_map] at hl'
    have hpx : p < a.length := by omega
    rw [roadref4_Rounds.l2_eq, if_pos (by omega), gi_at hpx, Option.bind_some, gi_at hi, Option.bind_some, tied_at hl hx hpx hi, Option.bind_some]
    by_cases g : Dp (a.map cv) p i = true
    · have := rd_lt (D := Dp (a.map cv)) (show p < i by omega) g
      rw [if_pos g, hc.gi hi, Option.bind_some, hc.gi hpx, Option.bind_some, roadref4_Rounds.j0_eq, if_neg (by simp; omega), w_succ (by omega)]
      exact ih (p + 1) (by omega)
    · rw [if_neg g, roadref4_Rounds.j0_eq, if_neg (by decide), w_succ (by omega)]
      exact ih (p + 1) (by omega)
theorem again_l1 {c : List Int} (hc : IsN a.length c (rd (Dp (a.map cv)))) : ∀ (d i : Nat), i + d = a.length → roadref4_Rounds.l1 a c false (a.length : Int) (i : Int) = some c := by
  intro d
  induction d with
  | zero => intro i h1; rw [roadref4_Rounds.l1_eq, if_neg (by omega), roadref4_Rounds.l0_eq, if_neg (by decide)]
  | succ d ih =>
    intro i h1
    have := again_l2 hl hx hc (show i < a.length by omega) i 0 (by omega)
    rw [show ((0 : Nat) : Int) = 0 from rfl] at this
    rw [List.length_map] at hl
    rw [roadref4_Rounds.l1_eq, if_pos (by omega), this, w_succ (by omega)]
    exact ih (i + 1) (by omega)
theorem ref_val : ∃ c, IsN a.length c (rd (Dp (a.map cv))) ∧ roadref4_Rounds a = some c := by
  unfold roadref4_Rounds
  obtain ⟨c, b, k1, k2⟩ := ref_l1 hl hx a.length 0 (List.replicate a.length 0) false (by omega) ⟨by simp, fun q hq => by rw [List.getElem?_replicate, if_pos hq]; show some (0 : Int) = some ((if q < 0 then rd (Dp (a.map cv)) q else 0 : Nat) : Int); rw [if_neg (Nat.not_lt_zero _)]; rfl⟩
  rw [show ((0 : Nat) : Int) = 0 from rfl] at k2
  have h2 := again_l1 hl hx k1 a.length 0 (by omega)
  rw [show ((0 : Nat) : Int) = 0 from rfl] at h2
  rw [List.length_map] at hl
  refine ⟨c, k1, ?_⟩
  rw [mks_of rfl (by omega) (by omega), Option.bind_some, roadref4_Rounds.l0_eq, if_pos rfl, k2, roadref4_Rounds.l0_eq]
  cases b
  · rw [if_neg (by decide)]
  · rw [if_pos rfl]; exact h2
theorem law_l2 {c : List Int} (hc : IsN a.length c (rd (Dp (a.map cv)))) {o : List (List Ps)} {n w : Nat} {pre : List Ps} (hp : pre.length ≤ 1000) {x13 x14 x17 : Int} : ∀ (d i : Nat), i + d = a.length →
    roadlaw4_rounds.l2 a c o (n : Int) (pre ++ sub (a.map cv) n w i) (w : Int) x13 x14 x17 a (a.length : Int) (i : Int) = roadlaw4_rounds.l1 a c o (n : Int) (pre ++ sub (a.map cv) n w a.length) x13 x14 (IntKind.wrap .i64 (x17 + 1)) := by
  intro d
  induction d with
  | zero =>
    intro i h1
    have : i = a.length := by omega
    subst this
    rw [roadlaw4_rounds.l2_eq, if_neg (by omega)]
  | succ d ih =>
    intro i h1
    rw [List.length_map] at hl
    have hi : i < a.length := by omega
    have hs : (sub (a.map cv) n w i).length ≤ i := by
      unfold sub
      rw [List.length_map]
      exact Nat.le_trans (List.length_filter_le _ _) (by rw [List.length_range]; exact Nat.le_refl _)
    have hst : cv a[i] = st (a.map cv) i := by rw [← st_at (by rw [List.length_map]; exact hi), List.getElem_map]
    rw [← ih (i + 1) (by omega), roadlaw4_rounds.l2_eq, if_pos (by omega), gi_at hi, Option.bind_some, hc.gi hi, Option.bind_some, sub_succ]
    have hw : a[i].Who = (st (a.map cv) i).Who := by rw [← hst]; rfl
    by_cases e : rd (Dp (a.map cv)) i = n
    · rw [if_pos (by omega), roadlaw4_rounds.j0_eq]
      by_cases g : a[i].Who = w
      · rw [if_pos (by rw [g]; exact beq_self_eq_true _), if_pos ⟨e, by rw [← hw]; exact g⟩, show T_part_Step.mk a[i].Who a[i].Reads a[i].Writes = st (a.map cv) i from hst, ap_one (by rw [List.length_append]; omega), Option.bind_some, w_succ (by omega), List.append_assoc]
      · rw [if_neg (by simpa using g), if_neg (fun h => g (by rw [hw]; exact h.2)), w_succ (by omega)]
    · rw [if_neg (by omega), roadlaw4_rounds.j0_eq, if_neg (by decide), if_neg (fun h => e h.1), w_succ (by omega)]
theorem law_l1 {c : List Int} (hc : IsN a.length c (rd (Dp (a.map cv)))) {o : List (List Ps)} {n : Nat} {x13 x14 : Int} : ∀ (d w : Nat), w + d = 8 →
    roadlaw4_rounds.l1 a c o (n : Int) (tgm (a.map cv) n w) x13 x14 (w : Int) = roadlaw4_rounds.l1 a c o (n : Int) (tgm (a.map cv) n 8) x13 x14 8 := by
  intro d
  induction d with
  | zero =>
    intro w h1
    have : w = 8 := by omega
    subst this; rfl
  | succ d ih =>
    intro w h1
    have htl : ∀ w, w ≤ 8 → (tgm (a.map cv) n w).length ≤ w * 40 := by
      intro w
      induction w with
      | zero => intro _; exact Nat.le_refl _
      | succ w ih2 =>
        intro h
        rw [tgm_succ, List.length_append]
        have := ih2 (by omega)
        have : (sub (a.map cv) n w (a.map cv).length).length ≤ (a.map cv).length := by
          unfold sub
          rw [List.length_map]
          exact Nat.le_trans (List.length_filter_le _ _) (by rw [List.length_range]; exact Nat.le_refl _)
        omega
    have := htl w (by omega)
    have h2 := law_l2 hl hx hc (o := o) (n := n) (w := w) (pre := tgm (a.map cv) n w) (by omega) (x13 := x13) (x14 := x14) (x17 := (w : Int)) a.length 0 (by omega)
    rw [show sub (a.map cv) n w 0 = [] from rfl, List.append_nil, show ((0 : Nat) : Int) = 0 from rfl] at h2
    rw [roadlaw4_rounds.l1_eq, if_pos (by omega), h2, w_succ (by omega), ← ih (w + 1) (by omega), tgm_succ, List.length_map]
theorem law_l0 {c : List Int} (hc : IsN a.length c (rd (Dp (a.map cv)))) {out : List (List Ps)} (ho : RO (a.map cv) out) : ∀ (d n : Nat), n + d = a.length → roadlaw4_rounds.l0 a c (out.take n) (a.length : Int) (n : Int) = some out := by
  intro d
  have hol := ho.len
  induction d with
  | zero =>
    intro n h1
    rw [List.length_map] at hol
    rw [roadlaw4_rounds.l0_eq, if_neg (by omega), List.take_of_length_le (by omega)]
  | succ d ih =>
    intro n h1
    have h2 := law_l1 hl hx hc (o := out.take n) (n := n) (x13 := (a.length : Int)) (x14 := (n : Int)) 8 0 (by omega)
    rw [show tgm (a.map cv) n 0 = [] from rfl, show ((0 : Nat) : Int) = 0 from rfl] at h2
    have hperm := row_perm hx n
    have hlen := hperm.length_eq
    rw [List.length_map] at hl hol
    rw [roadlaw4_rounds.l0_eq, if_pos (by omega), h2, roadlaw4_rounds.l1_eq, if_neg (by omega)]
    rcases Nat.lt_or_ge n out.length with g | g
    · obtain ⟨j, j1, j2⟩ := ho.has n g
      have hpos : 0 < (row (a.map cv) n (a.map cv).length).length := List.length_pos_of_mem (row_mem.2 ⟨j, j1, j2, rfl⟩)
      have hg := ho.get n g
      rw [List.getElem?_eq_getElem g] at hg
      have hg := Option.some.inj hg
      rw [if_pos (by omega), ap_one (by rw [List.length_take]; omega), Option.bind_some, w_succ (by omega), ← hg, ← List.take_succ_eq_append_getElem g]
      exact ih (n + 1) (by omega)
    · have := ho.nil n g
      rw [this] at hlen
      rw [if_neg (by rw [← hlen]; decide), w_succ (by omega), List.take_of_length_le (by omega)]
      have h3 := ih (n + 1) (by omega)
      rw [List.take_of_length_le (by omega)] at h3
      exact h3
theorem rounds_val {out : List (List Ps)} (ho : RO (a.map cv) out) : roadlaw4_rounds a = some out := by
  obtain ⟨c, k1, k2⟩ := ref_val hl hx
  unfold roadlaw4_rounds
  rw [k2, Option.bind_some]
  exact law_l0 hl hx k1 ho a.length 0 (by omega)
end
def free (x : List Ps) (i : Nat) : Bool := (x.take i).all fun z => !dp z (st x i)
def pk (x : List Ps) : Nat → Nat
  | 0 => 0
  | n + 1 => if free x n = true ∧ (st x n).Who < (st x (pk x n)).Who then n else pk x n
theorem pk_lt (x : List Ps) : ∀ n, pk x n < n + 1 ∧ (0 < n → pk x n < n) := by
  intro n
  induction n with
  | zero => exact ⟨by unfold pk; omega, fun h => by omega⟩
  | succ n ih =>
    have h1 : pk x (n + 1) < n + 1 := by
      unfold pk
      split
      · omega
      · exact ih.1
    exact ⟨by omega, fun _ => h1⟩
theorem pk_one (x : List Ps) : pk x 1 = 0 := by
  show (if free x 0 = true ∧ (st x 0).Who < (st x 0).Who then 0 else 0) = 0
  split <;> rfl
section
variable {a : List Qs} (hl : (a.map cv).length ≤ 40) (hx : ∀ s ∈ a.map cv, ok s)
include hl hx
theorem norm_in {best i : Nat} (hb : best < a.length) (hi : i < a.length) : ∀ (d k : Nat) (b : Bool), k + d = i →
    roadref4_Normal.l1 a (best : Int) (i : Int) b (a.length : Int) (i : Int) (i : Int) (k : Int) = roadref4_Normal.l0 a (if (b && (((a.map cv).take i).drop k).all fun z => !dp z (st (a.map cv) i)) = true ∧ (st (a.map cv) i).Who < (st (a.map cv) best).Who then (i : Int) else (best : Int)) (a.length : Int) (IntKind.wrap .i64 ((i : Int) + 1)) := by
  intro d
  have sa : ∀ {k : Nat} (hk : k < a.length), st (a.map cv) k = cv a[k] := fun {k} hk => by rw [← st_at (by rw [List.length_map]; exact hk), List.getElem_map]
  induction d with
  | zero =>
    intro k b h1
    rw [roadref4_Normal.l1_eq, if_neg (by omega), List.drop_eq_nil_of_le (by rw [List.length_take]; omega), List.all_nil, Bool.and_true]
    cases b
    · rw [if_neg (by decide), roadref4_Normal.j0_eq, if_neg (by decide), if_neg (fun h => absurd h.1 (by decide))]
    · rw [if_pos rfl, gi_at hi, Option.bind_some, gi_at hb, Option.bind_some, roadref4_Normal.j0_eq, sa hi, sa hb]
      show (if decide (a[i].Who < a[best].Who) = true then _ else _) = roadref4_Normal.l0 a (if true = true ∧ a[i].Who < a[best].Who then (i : Int) else (best : Int)) _ _
      by_cases g : a[i].Who < a[best].Who
      · rw [if_pos (decide_eq_true g), if_pos ⟨rfl, g⟩]
      · rw [if_neg (by simpa using g), if_neg (fun h => g h.2)]
  | succ d ih =>
    intro k b h1
    have hl' := hl
    rw [List.length_map] at hl'
    have hk : k < a.length := by omega
    have hd : ((a.map cv).take i).drop k = cv a[k] :: ((a.map cv).take i).drop (k + 1) := by
      rw [List.drop_eq_getElem_cons (by rw [List.length_take, List.length_map]; omega), List.getElem_take, List.getElem_map]
    rw [roadref4_Normal.l1_eq, if_pos (by omega), w_succ (k := k) (by omega), hd, List.all_cons]
    cases b
    · rw [if_neg (by decide), ih (k + 1) false (by omega), Bool.false_and, Bool.false_and]
    · rw [if_pos rfl, gi_at hk, Option.bind_some, gi_at hi, Option.bind_some, tied_at hl hx hk hi, Option.bind_some, ih (k + 1) _ (by omega), Bool.true_and]
      unfold Dp
      rw [sa hk]
theorem norm_l0 : ∀ (d i : Nat), i + d = a.length → 0 < a.length → roadref4_Normal.l0 a (pk (a.map cv) i : Int) (a.length : Int) (i : Int) = roadref4_Normal.l0 a (pk (a.map cv) a.length : Int) (a.length : Int) (a.length : Int) := by
  intro d
  induction d with
  | zero =>
    intro i h1 h2
    have : i = a.length := by omega
    subst this; rfl
  | succ d ih =>
    intro i h1 h2
    have hl' := hl
    rw [List.length_map] at hl'
    have hi : i < a.length := by omega
    have hb := (pk_lt (a.map cv) i).1
    have := norm_in hl hx (best := pk (a.map cv) i) (i := i) (by omega) hi i 0 true (by omega)
    rw [show ((0 : Nat) : Int) = 0 from rfl, List.drop_zero, Bool.true_and] at this
    rw [roadref4_Normal.l0_eq, if_pos (by omega), this, w_succ (by omega), ← ih (i + 1) (by omega) h2]
    congr 1
    show (if free (a.map cv) i = true ∧ (st (a.map cv) i).Who < (st (a.map cv) (pk (a.map cv) i)).Who then (i : Int) else (pk (a.map cv) i : Int)) = ((if free (a.map cv) i = true ∧ (st (a.map cv) i).Who < (st (a.map cv) (pk (a.map cv) i)).Who then i else pk (a.map cv) i : Nat) : Int)
    split <;> rfl
end
theorem pnorm_l1 {x : List Ps} (hl : x.length ≤ 40) {out : List Ps} : ∀ (d i : Nat), i + d = x.length → 0 < i → part_Normal.l1 x out (pk x i : Int) (x.length : Int) (i : Int) = part_Normal.l1 x out (pk x x.length : Int) (x.length : Int) (x.length : Int) := by
  intro d
  induction d with
  | zero =>
    intro i h1 h2
    have : i = x.length := by omega
    subst this; rfl
  | succ d ih =>
    intro i h1 h2
    have hi : i < x.length := by omega
    have hb := (pk_lt x i).2 h2
    have hc := slices_ContainsFunc_96.val (l := x.take i) (p := fun z32 => part_Normal_1 z32 x[i]) (fun z => dp z x[i]) (fun z _ => by unfold part_Normal_1; rw [depend_val, Option.bind_some]) (by rw [List.length_take]; omega)
    rw [← ih (i + 1) (by omega) (by omega), part_Normal.l1_eq, if_pos (by omega), gi_at hi, Option.bind_some, sls_take rfl (by omega), Option.bind_some, hc, Option.bind_some]
    have hp : (pk x (i + 1) : Nat) = if free x i = true ∧ (st x i).Who < (st x (pk x i)).Who then i else pk x i := rfl
    have hf : free x i = !((x.take i).any fun z => dp z x[i]) := by
      unfold free
      rw [st_at hi, List.all_eq_not_any_not]
      simp only [Bool.not_not]
    by_cases c : ((x.take i).any fun z => dp z x[i]) = true
    · rw [if_pos c, part_Normal.j0_eq, if_neg (by decide), w_succ (by omega), hp, if_neg (by rw [hf, c]; exact fun h => absurd h.1 (by decide))]
    · rw [if_neg c, if_neg (by omega), gi_at (show pk x i < x.length by omega), Option.bind_some, part_Normal.j0_eq, hp, st_at hi, st_at (show pk x i < x.length by omega)]
      have hft : free x i = true := by rw [hf, Bool.eq_false_iff.2 c]; rfl
      by_cases g : (st x i).Who < (st x (pk x i)).Who
      · rw [if_pos (decide_eq_true g), w_succ (by omega), if_pos ⟨hft, g⟩]
      · rw [if_neg (by simpa using g), w_succ (by omega), if_neg (fun h => g h.2)]
theorem pnorm_step {x : List Ps} (hl : x.length ≤ 40) (hpos : 0 < x.length) {out : List Ps} (ho : out.length ≤ 1000) : part_Normal.l0 x out = part_Normal.l0 (x.take (pk x x.length) ++ x.drop (pk x x.length + 1)) (out ++ [st x (pk x x.length)]) := by
  have hb := (pk_lt x x.length).2 hpos
  have hc := slices_ContainsFunc_96.val (l := x.take 0) (p := fun z32 => part_Normal_1 z32 x[0]) (fun z => dp z x[0]) (fun z _ => by unfold part_Normal_1; rw [depend_val, Option.bind_some]) (by rw [List.length_take]; omega)
  have h1 := pnorm_l1 hl (out := out) (x.length - 1) 1 (by omega) (by omega)
  rw [pk_one, show ((0 : Nat) : Int) = 0 from rfl, show ((1 : Nat) : Int) = 1 from rfl] at h1
  have h0 : (0 : Int) = ((0 : Nat) : Int) := rfl
  rw [part_Normal.l0_eq, if_pos (by omega), part_Normal.l1_eq, if_pos (by omega), h0, gi_at hpos, Option.bind_some]
  rw [show sls x ((0 : Nat) : Int) ((0 : Nat) : Int) = some (x.take 0) from sls_take (k := 0) rfl (Nat.zero_le _), Option.bind_some, hc, Option.bind_some, List.take_zero, List.any_nil, if_neg (by decide), if_pos (by decide), part_Normal.j0_eq, if_pos rfl, ← h0, show IntKind.wrap .i64 ((0 : Int) + 1) = 1 by decide, h1, part_Normal.l1_eq, if_neg (by omega), gi_at hb, Option.bind_some, ap_one (by omega), Option.bind_some, w_succ (by omega)]
  have hdel : slices_Delete_98 x (pk x x.length : Int) ((pk x x.length + 1 : Nat) : Int) = some (x.take (pk x x.length) ++ x.drop (pk x x.length + 1)) := by
    unfold slices_Delete_98
    rw [if_pos ⟨by omega, by omega, by omega⟩]
    rfl
  rw [hdel, Option.bind_some, st_at hb]
theorem norm_val : ∀ (n : Nat) (a : List Qs), a.length = n → n ≤ 40 → (∀ s ∈ a.map cv, ok s) → ∃ r, roadref4_Normal a = some r ∧ r.length = n ∧ ∀ out, out.length + n ≤ 1000 → part_Normal.l0 (a.map cv) out = some (out ++ r.map cv, 0) := by
  intro n
  induction n with
  | zero =>
    intro a h1 h2 h3
    obtain rfl : a = [] := List.length_eq_zero_iff.1 h1
    exact ⟨[], (roadref4_Normal_eq []).trans (if_pos rfl), rfl, fun out _ => by rw [part_Normal.l0_eq, if_neg (by decide)]; simp⟩
  | succ n ih =>
    intro a h1 h2 h3
    have hl : (a.map cv).length ≤ 40 := by rw [List.length_map]; omega
    have hb := (pk_lt (a.map cv) a.length).2 (by omega)
    have h0 := norm_l0 hl h3 a.length 0 (by omega) (by omega)
    rw [show pk (a.map cv) 0 = 0 from rfl, show ((0 : Nat) : Int) = 0 from rfl] at h0
    have hlen : (a.take (pk (a.map cv) a.length) ++ a.drop (pk (a.map cv) a.length + 1)).length = n := by rw [List.length_append, List.length_take, List.length_drop]; omega
    obtain ⟨r, r1, r2, r3⟩ := ih (a.take (pk (a.map cv) a.length) ++ a.drop (pk (a.map cv) a.length + 1)) hlen (by omega) (fun s hs => by
      obtain ⟨z, z1, rfl⟩ := List.mem_map.1 hs
      refine h3 _ (List.mem_map.2 ⟨z, ?_, rfl⟩)
      rcases List.mem_append.1 z1 with z1 | z1
      · exact List.mem_of_mem_take z1
      · exact List.mem_of_mem_drop z1)
    refine ⟨a[pk (a.map cv) a.length] :: r, ?_, by rw [List.length_cons, r2], fun out ho => ?_⟩
    · rw [roadref4_Normal_eq, if_neg (by omega), h0, roadref4_Normal.l0_eq, if_neg (by omega), gi_at hb, Option.bind_some, sls_take rfl (by omega), Option.bind_some, w_succ (by omega), sls_drop rfl (by omega), Option.bind_some, slices_Concat_101.val _ (by simp) (by simp; omega), Option.bind_some]
      rw [show ([a.take (pk (a.map cv) a.length), a.drop (pk (a.map cv) a.length + 1)] : List (List Qs)).flatten = a.take (pk (a.map cv) a.length) ++ a.drop (pk (a.map cv) a.length + 1) by simp, r1, Option.bind_some, ap_of (by rw [List.length_singleton, r2]; omega), Option.bind_some]
      rfl
    · rw [pnorm_step hl (by rw [List.length_map]; omega) (by omega), List.length_map]
      rw [show (a.map cv).take (pk (a.map cv) a.length) ++ (a.map cv).drop (pk (a.map cv) a.length + 1) = (a.take (pk (a.map cv) a.length) ++ a.drop (pk (a.map cv) a.length + 1)).map cv by rw [List.map_append, List.map_take, List.map_drop]]
      rw [r3 _ (by simp; omega), ← st_at (by rw [List.length_map]; exact hb), List.getElem_map]
      simp
def cI (D : Nat → Nat → Bool) (i : Nat) (v : Int) : Nat → Int
  | 0 => v
  | p + 1 => if D p i = true then cI D i v p else IntKind.wrap .i64 (cI D i v p + 1)
def cN (D : Nat → Nat → Bool) : Nat → Int
  | 0 => 0
  | n + 1 => cI D n (cN D n) n
theorem swap_l1 {x : List Ps} (hl : x.length ≤ 40) {i : Nat} (hi : i < x.length) {v : Int} : ∀ (d p : Nat), p + d = i → part_Swaps.l1 x (cI (Dp x) i v p) (i : Int) (x.length : Int) (i : Int) (i : Int) (p : Int) = part_Swaps.l0 x (cI (Dp x) i v i) (x.length : Int) (IntKind.wrap .i64 ((i : Int) + 1)) := by
  intro d
  induction d with
  | zero =>
    intro p h1
    have : p = i := by omega
    subst this
    rw [part_Swaps.l1_eq, if_neg (by omega)]
  | succ d ih =>
    intro p h1
    have hp : p < x.length := by omega
    have hD : dp x[p] x[i] = Dp x p i := by unfold Dp; rw [st_at hp, st_at hi]
    have hc : cI (Dp x) i v (p + 1) = if Dp x p i = true then cI (Dp x) i v p else IntKind.wrap .i64 (cI (Dp x) i v p + 1) := rfl
    rw [part_Swaps.l1_eq, if_pos (by omega), gi_at hp, Option.bind_some, gi_at hi, Option.bind_some, depend_val, Option.bind_some, hD, ← ih (p + 1) (by omega), hc]
    by_cases c : Dp x p i = true
    · rw [if_pos c, if_pos c, w_succ (k := p) (by omega)]
    · rw [if_neg c, if_neg c, w_succ (k := p) (by omega)]
theorem swap_l0 {x : List Ps} (hl : x.length ≤ 40) : ∀ (d i : Nat), i + d = x.length → part_Swaps.l0 x (cN (Dp x) i) (x.length : Int) (i : Int) = some (cN (Dp x) x.length, 0) := by
  intro d
  induction d with
  | zero =>
    intro i h1
    have : i = x.length := by omega
    subst this
    rw [part_Swaps.l0_eq, if_neg (by omega)]
  | succ d ih =>
    intro i h1
    have h2 := swap_l1 hl (i := i) (by omega) (v := cN (Dp x) i) i 0 (by omega)
    rw [show cI (Dp x) i (cN (Dp x) i) 0 = cN (Dp x) i from rfl, show ((0 : Nat) : Int) = 0 from rfl] at h2
    rw [part_Swaps.l0_eq, if_pos (by omega), h2, w_succ (by omega)]
    exact ih (i + 1) (by omega)
theorem Depend_val {y z : Ps} (hy : ok y) (hz : ok z) : part_Depend y z = some (dp y z, 0) := by
  unfold part_Depend
  rw [check_val, ok_code (x := [y, z]) (by simp) (fun s hs => by
    rcases List.mem_cons.1 hs with rfl | hs
    · exact hy
    · rw [List.mem_singleton.1 hs]; exact hz), Option.bind_some, if_pos rfl, depend_val, Option.bind_some]
section
variable {a : List Qs} (hl : (a.map cv).length ≤ 40) (hx : ∀ s ∈ a.map cv, ok s)
include hl hx
theorem pair_l1 {b : List Qs} {is : Bool} {e2 k : Int} {i : Nat} (hi : i < a.length) {v : Int} : ∀ (d p : Nat), p + d = i → roadlaw4_PartSays.l1 a b (a.map cv) is e2 k (cI (Dp (a.map cv)) i v p) (i : Int) (a.length : Int) (i : Int) (i : Int) (p : Int) = roadlaw4_PartSays.l0 a b (a.map cv) is e2 k (cI (Dp (a.map cv)) i v i) (a.length : Int) (IntKind.wrap .i64 ((i : Int) + 1)) := by
  intro d
  induction d with
  | zero =>
    intro p h1
    have : p = i := by omega
    subst this
    rw [roadlaw4_PartSays.l1_eq, if_neg (by omega)]
  | succ d ih =>
    intro p h1
    have hl' := hl
    rw [List.length_map] at hl'
    have hp : p < a.length := by omega
    have hpx : p < (a.map cv).length := by rw [List.length_map]; exact hp
    have hix : i < (a.map cv).length := by rw [List.length_map]; exact hi
    have hD : dp (a.map cv)[p] (a.map cv)[i] = Dp (a.map cv) p i := by unfold Dp; rw [st_at hpx, st_at hix]
    have hc : cI (Dp (a.map cv)) i v (p + 1) = if Dp (a.map cv) p i = true then cI (Dp (a.map cv)) i v p else IntKind.wrap .i64 (cI (Dp (a.map cv)) i v p + 1) := rfl
    rw [roadlaw4_PartSays.l1_eq, if_pos (by omega), gi_at hpx, Option.bind_some, gi_at hix, Option.bind_some, Depend_val (hx _ (List.getElem_mem hpx)) (hx _ (List.getElem_mem hix)), Option.bind_some, if_pos rfl, gi_at hp, Option.bind_some, gi_at hi, Option.bind_some, tied_at hl hx hp hi, Option.bind_some, hD, if_pos (beq_self_eq_true _), roadlaw4_PartSays.j2_eq, ← ih (p + 1) (by omega), hc]
    by_cases c : Dp (a.map cv) p i = true
    · rw [if_pos c, if_pos c, w_succ (k := p) (by omega)]
    · rw [if_neg c, if_neg c, w_succ (k := p) (by omega)]
theorem pair_l0 {b : List Qs} {is : Bool} {e2 k : Int} : ∀ (d i : Nat), i + d = a.length → roadlaw4_PartSays.l0 a b (a.map cv) is e2 k (cN (Dp (a.map cv)) i) (a.length : Int) (i : Int) = roadlaw4_PartSays.l0 a b (a.map cv) is e2 k (cN (Dp (a.map cv)) a.length) (a.length : Int) (a.length : Int) := by
  intro d
  induction d with
  | zero =>
    intro i h1
    have : i = a.length := by omega
    subst this; rfl
  | succ d ih =>
    intro i h1
    have hl' := hl
    rw [List.length_map] at hl'
    have h2 := pair_l1 hl hx (b := b) (is := is) (e2 := e2) (k := k) (i := i) (by omega) (v := cN (Dp (a.map cv)) i) i 0 (by omega)
    rw [show cI (Dp (a.map cv)) i (cN (Dp (a.map cv)) i) 0 = cN (Dp (a.map cv)) i from rfl, show ((0 : Nat) : Int) = 0 from rfl] at h2
    rw [roadlaw4_PartSays.l0_eq, if_pos (by omega), h2, w_succ (by omega)]
    exact ih (i + 1) (by omega)
end
theorem RO.row_le {x : List Ps} (hx : ∀ s ∈ x, ok s) {out : List (List Ps)} (h : RO x out) {r : List Ps} (hr : r ∈ out) : r.length ≤ 8 := by
  obtain ⟨k, hk, rfl⟩ := List.mem_iff_getElem.1 hr
  have h1 := h.get k hk
  rw [List.getElem?_eq_getElem hk] at h1
  rw [Option.some.inj h1, ← (row_perm hx k).length_eq]
  exact row_8 hx k _
open Classical in
theorem eqf_val {l m : List (List Ps)} {p : List Ps → List Ps → Option Bool} (hp : ∀ x y, p x y = (slices_Equal_44 x y).bind fun b => some b) (hl : l.length ≤ 40) (hr : ∀ r ∈ l, r.length ≤ 8) : slices_EqualFunc_41 l m p = some (decide (l = m)) := by
  rw [slices_EqualFunc_41.val (fun z w => decide (z = w)) (fun z hz w hw => by
    obtain ⟨b, b1, b2⟩ := slices_Equal_44.val z w (by have := hr z hz; omega)
    rw [hp, b1, Option.bind_some]
    congr 1
    rw [Bool.eq_iff_iff, b2, decide_eq_true_eq]) (by omega)]
  congr 1
  rw [Bool.eq_iff_iff, Bool.and_eq_true, decide_eq_true_eq, decide_eq_true_eq]
  have : ∀ (l m : List (List Ps)), (l.length = m.length ∧ ((l.zip m).all fun x => decide (x.1 = x.2)) = true) ↔ l = m := by
    intro l
    induction l with
    | nil =>
      intro m
      cases m with
      | nil => simp
      | cons b m => simp
    | cons a l ih =>
      intro m
      cases m with
      | nil => simp
      | cons b m =>
        rw [List.zip_cons_cons, List.all_cons, Bool.and_eq_true, decide_eq_true_eq, List.length_cons, List.length_cons, List.cons.injEq, ← ih m]
        constructor
        · rintro ⟨h, e, k⟩; exact ⟨e, by omega, k⟩
        · rintro ⟨e, h, k⟩; exact ⟨by omega, e, k⟩
  exact this l m
open Classical in
theorem same_good {x y : List Ps} (hx : code x = 0) (hy : code y = 0) {o q : List (List Ps)} (ho : part_Rounds x = some (o, 0)) (hq : part_Rounds y = some (q, 0)) (h1 : o.length ≤ 40) (h2 : ∀ r ∈ o, r.length ≤ 8) : part_Same x y = some (decide (o = q), 0) := by
  unfold part_Same
  rw [ho, Option.bind_some, if_pos rfl, hq, Option.bind_some, if_pos rfl, eqf_val (p := fun z40 z41 => part_Same_1 z40 z41) (fun _ _ => rfl) h1 h2, Option.bind_some]
open Classical in
theorem law_j0 {a b : List Qs} (ha : a.length * 24 ≤ 140737488351232) (hb : b.length * 24 ≤ 140737488351232) : roadlaw4_PartSays.j0 a b = some true := by
  rw [roadlaw4_PartSays.j0, steps_val ha, Option.bind_some, steps_val hb, Option.bind_some]
  by_cases c : code (a.map cv) = 0
  · obtain ⟨hl, hx⟩ := code_ok c
    have hl' := hl
    rw [List.length_map] at hl'
    obtain ⟨o, o1, o2⟩ := rounds_good c
    have hol : o.length ≤ 40 := by have := o1.len; omega
    have hrow : ∀ r ∈ o, r.length ≤ 8 := fun r hr => o1.row_le hx hr
    have hra := rounds_val hl hx o1
    obtain ⟨n, n1, n2, n3⟩ := norm_val a.length a rfl hl' hx
    have hN : part_Normal (a.map cv) = some (n.map cv, 0) := by
      unfold part_Normal
      rw [check_val, c, Option.bind_some, if_pos rfl, slices_Clone_95.val _ (by omega), Option.bind_some, n3 [] (by simp; omega), List.nil_append]
    have hS : part_Swaps (a.map cv) = some (cN (Dp (a.map cv)) a.length, 0) := by
      unfold part_Swaps
      rw [check_val, c, Option.bind_some, if_pos rfl]
      have := swap_l0 hl (a.map cv).length 0 (by omega)
      rw [show cN (Dp (a.map cv)) 0 = 0 from rfl, show ((0 : Nat) : Int) = 0 from rfl, List.length_map] at this
      rw [List.length_map]
      exact this
    have hsame : ∃ is e, part_Same (a.map cv) (b.map cv) = some (is, e) ∧ roadlaw4_PartSays.j1 a b (a.map cv) is e (cN (Dp (a.map cv)) a.length) = some true := by
      have hp := fun is e => pair_l0 hl hx (b := b) (is := is) (e2 := e) (k := cN (Dp (a.map cv)) a.length) a.length 0 (by omega)
      rw [show cN (Dp (a.map cv)) 0 = 0 from rfl, show ((0 : Nat) : Int) = 0 from rfl] at hp
      by_cases g : code (b.map cv) = 0
      · obtain ⟨q, q1, q2⟩ := rounds_good g
        obtain ⟨gl, gx⟩ := code_ok g
        refine ⟨_, _, same_good c g o2 q2 hol hrow, ?_⟩
        rw [roadlaw4_PartSays.j1, hp, roadlaw4_PartSays.l0_eq, if_neg (by omega), if_pos rfl, rsteps_val, Option.bind_some, if_pos g, if_pos rfl, hra, Option.bind_some, rounds_val gl gx q1, Option.bind_some, eqf_val (p := fun z48 z49 => roadlaw4_PartSays_2 z48 z49) (fun _ _ => rfl) hol hrow, Option.bind_some, beq_self_eq_true]
      · refine ⟨false, code (b.map cv), ?_, ?_⟩
        · unfold part_Same
          rw [o2, Option.bind_some, if_pos rfl, rounds_bad g, Option.bind_some, if_neg g]
        · rw [roadlaw4_PartSays.j1, hp, roadlaw4_PartSays.l0_eq, if_neg (by omega), if_pos rfl, rsteps_val, Option.bind_some, if_neg g, if_pos rfl]
          rfl
    obtain ⟨is, e, s1, s2⟩ := hsame
    obtain ⟨t, t1, t2⟩ := slices_Equal_44.val (n.map cv) (n.map cv) (by rw [List.length_map, n2]; omega)
    obtain rfl : t = true := t2.2 rfl
    rw [o2, Option.bind_some, s1, Option.bind_some, hN, Option.bind_some, hS, Option.bind_some, rsteps_val, Option.bind_some, check_val, Option.bind_some, if_pos rfl, if_pos c, if_pos rfl, if_pos rfl, if_pos rfl, hra, Option.bind_some, eqf_val (p := fun z125 z126 => roadlaw4_PartSays_1 z125 z126) (fun _ _ => rfl) hol hrow, Option.bind_some, if_pos (decide_eq_true rfl), n1, Option.bind_some, steps_val (by rw [n2]; omega), Option.bind_some, t1, Option.bind_some, if_pos rfl]
    exact s2
  · have hN : part_Normal (a.map cv) = some ([], code (a.map cv)) := by
      unfold part_Normal
      rw [check_val, Option.bind_some, if_neg c]
    have hS : part_Swaps (a.map cv) = some (0, code (a.map cv)) := by
      unfold part_Swaps
      rw [check_val, Option.bind_some, if_neg c]
    have hM : part_Same (a.map cv) (b.map cv) = some (false, code (a.map cv)) := by
      unfold part_Same
      rw [rounds_bad c, Option.bind_some, if_neg c]
    rw [rounds_bad c, Option.bind_some, hM, Option.bind_some, hN, Option.bind_some, hS, Option.bind_some, rsteps_val, Option.bind_some, check_val, Option.bind_some, if_pos rfl, if_neg c, if_pos rfl, if_pos rfl, if_pos rfl, if_pos rfl]
    rfl
theorem PartSays (a b : List Qs) (q0 : a.length * 24 ≤ 140737488351232 ∧ ∀ z ∈ a, T_roadref4_Step.Q z) (q1 : b.length * 24 ≤ 140737488351232 ∧ ∀ z ∈ b, T_roadref4_Step.Q z) : roadlaw4_PartSays a b = some true := by
  unfold roadlaw4_PartSays
  rw [Depend_val (by unfold ok; decide) (by unfold ok; decide), Option.bind_some, if_pos rfl, if_pos (by decide +kernel)]
  exact law_j0 q0.1 q1.1
end Go.Proofs.Ythnlhffpmlgmfad.Fw

end
section
namespace Go.Proofs.Ythnlhffpmlgmfad.partSays
open Go Go.Hw Go.ChangeShapes Go.WideShapes Go.ChangeAt Go.RowKit Go.Proofs.Ythnlhffpmlgmfad.Fw
open Go.ChangeMaps (open_string shut_string)
set_option linter.unusedVariables false
theorem own : ownKnob Try.prog.godebug = none := by kernel_rfl
theorem laidOut : laidOutB Try.prog = true := by kernel_rfl
set_option maxRecDepth 100000 in
theorem lifted (os : Os) (started : os.Started) (H : Type) (enc : TypeId × Value → H) :
    ReturnsInHanded {} Try.checked os 6 .any (Rows.partSaysSpec.pre6 enc Try.prog Try.f6 Rows.partSaysRow.domain false) (Rows.partSaysSpec.post enc Try.prog Try.f6 false true false false) := by
  refine returnsInHanded_of_change_sized (C := Try.checked) own started (by kernel_rfl) Try.func6
    (ChangeSpec.witness6 (enc := enc) (C := Try.checked) false ⟨#[], #[(.slice none 0 0), (.slice none 0 0)], []⟩ 8 (by kernel_rfl) (by kernel_rfl) (by kernel_rfl) (by kernel_rfl)) ?_
  intro W base args ds gs before hval0 hW hcnd hsz0 _
  have hsz : (DataW.weightsEach Try.prog (Try.f6.params.toList ++ Rows.partSaysSpec.plain.varTypes Try.prog) (ds ++ gs)).all (· ≤ reachBytes) = true := hsz0
  have hval : ∀ (j : Nat) t v, Try.f6.params[j]? = some t → args[j]? = some v → Value.okWide Try.prog W .any base t v := hval0
  have hW' := hW
  obtain ⟨p, q, hA0, hV, rfl, hfz, hnd⟩ := hW
  have hA : DataW.TrodAll enc Try.prog W 0 (fun _ => true) true Try.f6.params.toList args.toList ds p := hA0
  rw [Try.params6] at hA hval hsz
  obtain ⟨v0, vs0, d0, ds0, p0, q0_, hargs, rfl, rfl, h0, r0_⟩ := trodAll_cons hA
  obtain ⟨v1, vs1, d1, ds1, p1, q1_, rfl, rfl, rfl, h1, r1_⟩ := trodAll_cons r0_
  obtain ⟨rfl, rfl, rfl⟩ := trodAll_nil r1_
  obtain rfl : args = #[v0, v1] := by cases args; simp_all
  obtain ⟨rfl, rfl⟩ := trodVars_none hV
  have hs : (DataW.weightsEach Try.prog [67, 67] [d0, d1]).all (· ≤ reachBytes) = true := hsz
  simp only [DataW.weightsEach, List.append_nil, List.all_append, Bool.and_eq_true] at hs
  obtain ⟨hw0, hw1⟩ := hs
  have k0 := h0
  have lt0 : ∀ x ∈ p0, x.block < W.heap.size := by obtain ⟨m, hm⟩ := k0; exact DataW.trod_lt m _ _ _ hm
  obtain ⟨A0, n0, c0, rfl⟩ := okWide_slice (show Try.prog.underlying 67 = some (.slice 88) by kernel_rfl) (hval 0 67 v0 rfl rfl)
  obtain ⟨fuel0, hf0⟩ := h0
  obtain ⟨l0, ⟨A0', c0', hcs0, hle0, r0⟩, q0⟩ := (tells_sliceL (t := 67) (e := 88) (sz := 3) (B := 24) (by kernel_rfl) (by kernel_rfl) (by kernel_rfl) T_roadref4_Step.tells) fuel0 _ _ hf0 hw0
  simp only [Value.cells, List.cons.injEq, Value.slice.injEq, and_true] at hcs0
  obtain ⟨rfl, rfl, rfl⟩ := hcs0
  have k1 := h1
  have lt1 : ∀ x ∈ p1, x.block < W.heap.size := by obtain ⟨m, hm⟩ := k1; exact DataW.trod_lt m _ _ _ hm
  obtain ⟨A1, n1, c1, rfl⟩ := okWide_slice (show Try.prog.underlying 67 = some (.slice 88) by kernel_rfl) (hval 1 67 v1 rfl rfl)
  obtain ⟨fuel1, hf1⟩ := h1
  obtain ⟨l1, ⟨A1', c1', hcs1, hle1, r1⟩, q1⟩ := (tells_sliceL (t := 67) (e := 88) (sz := 3) (B := 24) (by kernel_rfl) (by kernel_rfl) (by kernel_rfl) T_roadref4_Step.tells) fuel1 _ _ hf1 hw1
  simp only [Value.cells, List.cons.injEq, Value.slice.injEq, and_true] at hcs1
  obtain ⟨rfl, rfl, rfl⟩ := hcs1
  refine ((Run.mono (R' := fun v h' => v = Value.bool true ∧ Ext W.heap h') (Fw.roadlaw4_PartSays.walk (W := No) (Hold.start (Sub.refl _)) rfl hle0 r0 rfl hle1 r1 (Fw.PartSays l0 l1 q0 q1)) (fun v h' hp => by obtain ⟨m', st, hv⟩ := hp; exact ⟨hv, st.S.ext⟩)) W rfl).mono fun e W' he => ?_
  obtain ⟨v, rfl, ⟨rfl, ext⟩, same⟩ := he
  have bel := below_of ext same
  exact ⟨_, rfl, _, _, _, [], _, [], hW', trodAll_mk1 (shut_bool (show Try.prog.underlying 4 = some .bool by kernel_rfl) _), (trodAll_cons_mk (Below.trod laidOut (by kernel_rfl) (of_decide_eq_true (by kernel_rfl)) k0 bel lt0) (trodAll_cons_mk (Below.trod laidOut (by kernel_rfl) (of_decide_eq_true (by kernel_rfl)) k1 bel lt1) trodAll_mk0)), rfl, bel.frame _, fun h => by cases h⟩
theorem over : Rows.partSaysRow.holds Try.pinned (OpenSpec.ofChange Rows.partSaysSpec) :=
  OpenClaim.holds_of_wide 6 Try.f6 rfl rfl rfl rfl rfl rfl rfl ⟨rfl, rfl, rfl, rfl, rfl⟩ rfl rfl rfl rfl rfl (by kernel_rfl) Try.func6 (by kernel_rfl)
    (of_decide_eq_true (by kernel_rfl)) (by unfold Func.isWrapper; first | (rw [if_pos (by decide +kernel)]; kernel_rfl) | (rw [if_neg (by decide +kernel)]; exact ⟨rfl, rfl⟩))
    (fun os started H enc _ => lifted os started H enc)
end Go.Proofs.Ythnlhffpmlgmfad.partSays
namespace Go.Proofs.Ythnlhffpmlgmfad
theorem partSays_holds : Rows.PartSaysSaid := partSays.over
end Go.Proofs.Ythnlhffpmlgmfad

end
