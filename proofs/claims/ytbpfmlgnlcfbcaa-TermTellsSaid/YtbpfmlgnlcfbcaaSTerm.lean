/- What package term does, and that the law TermTells holds, over heaps. -/
import Derived.Test.YtbpfmlgnlcfbcaaFwAll0
import Derived.Test.YtbpfmlgnlcfbcaaFwAll1
import Derived.Test.YtbpfmlgnlcfbcaaFwAll2
import Derived.Test.YtbpfmlgnlcfbcaaHwR
namespace Go.Proofs.Ytbpfmlgnlcfbcaa.Fw.TT
open Go Go.Hw Go.Proofs
set_option linter.unusedVariables false

theorem get {h : Heap} {b : Nat} {c : List Value} {t : TypeId} (hb : Blk h b c t) {a : Addr} {v : Value} (h1 : a.block = b) (h2 : a.spot = none) (h3 : c[a.off]? = some v) {K : Value → Prop} (hk : K v) : ∃ u, ldv false 1 h a = some u ∧ K u := ⟨v, hb.ld h1 h2 h3, hk⟩

def fits (t n : Int) : Bool :=
  if t = 0 then decide (n = 0) else if t = 1 then decide (-1152921504606846976 ≤ n ∧ n < 1152921504606846976) else if t = 2 then decide (n = 0 ∨ n = 1) else if t = 3 ∨ t = 4 then decide (0 ≤ n ∧ n < 1152921504606846976) else false
def wordI (t n : Int) : Int := IntKind.wrap .u64 (IntKind.wrap .u64 (8 * IntKind.wrap .u64 n) + IntKind.wrap .u64 t)
def wordB (t n : Int) : Int := bitsI .or .u64 (shlI .u64 (IntKind.wrap .u64 n) 3) (IntKind.wrap .u64 t)

theorem wrapU (x : Int) : IntKind.wrap .u64 x = x % 18446744073709551616 := rfl
theorem word_same {t n : Int} (h0 : 0 ≤ t) (h4 : t ≤ 4) : wordB t n = wordI t n := by
  unfold wordB wordI bitsI shlI
  have e : min (Int.toNat 3) IntKind.u64.bits = 3 := rfl
  rw [e]
  simp only [wrapU]
  generalize hm : n % 18446744073709551616 = m
  have ht : t % 18446744073709551616 = t := by omega
  rw [ht]
  have hx : m * 2 ^ 3 % 18446744073709551616 = 8 * (m % 2305843009213693952) := by omega
  rw [hx]
  have hq0 : 0 ≤ m % 2305843009213693952 := by omega
  generalize hq : m % 2305843009213693952 = q at *
  have hq1 : q < 2305843009213693952 := by omega
  obtain ⟨a, rfl⟩ : ∃ a : Nat, q = a := ⟨q.toNat, by omega⟩
  obtain ⟨b, rfl⟩ : ∃ b : Nat, t = b := ⟨t.toNat, by omega⟩
  have h1 : (BitVec.ofInt 64 (8 * (a : Int)) ||| BitVec.ofInt 64 (b : Int)).toNat = 8 * a + b := by
    rw [BitVec.toNat_or, BitVec.toNat_ofInt, BitVec.toNat_ofInt]
    have e1 : (8 * (a : Int) % ((2 ^ 64 : Nat) : Int)).toNat = 8 * a := by omega
    have e2 : ((b : Int) % ((2 ^ 64 : Nat) : Int)).toNat = b := by omega
    rw [e1, e2]
    have := Nat.shiftLeft_add_eq_or_of_lt (b := b) (i := 3) (by omega) a
    rw [Nat.shiftLeft_eq] at this
    have e3 : a * 2 ^ 3 = 8 * a := by omega
    rw [e3] at this
    exact this.symm
  have h2 : (BitVec.ofInt IntKind.u64.bits (8 * (a : Int)) ||| BitVec.ofInt IntKind.u64.bits (b : Int)).toNat = 8 * a + b := h1
  rw [h2]
  omega

theorem small_spec {h : Heap} {n : Int} : Run Try.prog 34 #[.int .i64 n] h fun u h' => u = .bool (fits 1 n) ∧ h' = h := by
  refine f34.run ?_
  unfold f34.runT
  have e : fits 1 n = decide (-1152921504606846976 ≤ n ∧ n < 1152921504606846976) := rfl
  rw [e]
  refine split_dec (fun c => ⟨?_, rfl⟩) (fun c => ⟨?_, rfl⟩)
  · congr 1; exact decide_eq_decide.2 ⟨fun h => ⟨by omega, by omega⟩, fun h => by omega⟩
  · rw [decide_eq_false (by omega)]

def wordV (t n : Int) : Value := .tuple (if fits t n then #[.int .u64 (wordI t n), .int .i64 0] else if t < 0 ∨ t > 4 then #[.int .u64 0, .int .i64 1] else #[.int .u64 0, .int .i64 2])
theorem fits_range {t n : Int} (h : fits t n = true) : 0 ≤ t ∧ t ≤ 4 := by
  unfold fits at h
  split at h
  · omega
  · split at h
    · omega
    · split at h
      · omega
      · split at h
        · omega
        · cases h
theorem word_end {h : Heap} {t n : Int} {b : Bool} (hb : b = fits t n) : f26.j0 (fun u h' => u = wordV t n ∧ h' = h) t n b h := by
  refine f26.j0_in ?_
  unfold f26.j0T wordV
  subst hb
  refine split_any (fun c => ⟨by omega, ?_, rfl⟩) (fun c => ?_)
  · have := fits_range c
    rw [if_pos c, ← word_same this.1 this.2]; rfl
  · rw [if_neg (by simp [c])]
    have two : ∀ b, b = decide (t < 0 ∨ t > 4) → f26.j2 (fun u h' => u = Value.tuple (if t < 0 ∨ t > 4 then #[Value.int .u64 0, Value.int .i64 1] else #[Value.int .u64 0, Value.int .i64 2]) ∧ h' = h) b h := by
      rintro b rfl
      refine f26.j2_in ?_
      unfold f26.j2T
      refine split_dec (fun c => ⟨by rw [if_pos c], rfl⟩) (fun c => ⟨by rw [if_neg c], rfl⟩)
    refine split_dec (fun c2 => two _ (by rw [decide_eq_true (by omega)])) (fun c2 => two _ ?_)
    exact decide_eq_decide.2 ⟨fun h => .inr h, fun h => by omega⟩
theorem word_spec {h : Heap} {t n : Int} : Run Try.prog 26 #[.int .i64 t, .int .i64 n] h fun u h' => u = wordV t n ∧ h' = h := by
  refine f26.run ?_
  unfold f26.runT
  have j1 : ∀ b, b = (decide (t = 0) && decide (n = 0)) → f26.j1 (fun u h' => u = wordV t n ∧ h' = h) t n b h := by
    intro b hb
    refine f26.j1_in ?_
    unfold f26.j1T
    refine split_any (fun c => word_end ?_) (fun c => ?_)
    · rw [c] at hb
      have : t = 0 ∧ n = 0 := by simpa using hb.symm
      rw [c]; unfold fits; rw [if_pos this.1, decide_eq_true this.2]
    have h0 : ¬ (t = 0 ∧ n = 0) := by rw [c] at hb; intro hh; simp [hh.1, hh.2] at hb
    have j3 : ∀ b, b = (decide (t = 2) && decide (n = 0 ∨ n = 1)) → f26.j3 (fun u h' => u = wordV t n ∧ h' = h) t n b h := by
      intro b hb
      refine f26.j3_in ?_
      unfold f26.j3T
      refine split_any (fun c => word_end ?_) (fun c => ?_)
      · rw [c] at hb
        have : t = 2 ∧ (n = 0 ∨ n = 1) := by simpa using hb.symm
        rw [c]; unfold fits; rw [if_neg (by omega), if_neg (by omega), if_pos this.1, decide_eq_true this.2]
      have h2 : ¬ (t = 2 ∧ (n = 0 ∨ n = 1)) := by rw [c] at hb; intro hh; rw [decide_eq_true hh.1, decide_eq_true hh.2] at hb; cases hb
      have j4 : ∀ b, b = (decide (t = 1) && fits 1 n) → f26.j4 (fun u h' => u = wordV t n ∧ h' = h) t n b h := by
        intro b hb
        refine f26.j4_in ?_
        unfold f26.j4T
        refine split_any (fun c => word_end ?_) (fun c => ?_)
        · rw [c] at hb
          have : t = 1 ∧ fits 1 n = true := by simpa using hb.symm
          rw [c, this.1, this.2]
        have h1 : t = 1 → fits 1 n = false := by
          intro hh
          rw [c, decide_eq_true hh, Bool.true_and] at hb
          exact hb.symm
        have ffalse : ∀ {P : Prop}, ¬ (t = 3 ∨ t = 4) → fits t n = false := by
          intro _ hn
          by_cases t1 : t = 1
          · rw [t1]; exact h1 t1
          · unfold fits
            by_cases t0 : t = 0
            · rw [if_pos t0, decide_eq_false (by omega)]
            · rw [if_neg t0, if_neg t1]
              by_cases t2 : t = 2
              · rw [if_pos t2, decide_eq_false (by omega)]
              · rw [if_neg t2, if_neg hn]
        have f34' : (t = 3 ∨ t = 4) → fits t n = decide (0 ≤ n ∧ n < 1152921504606846976) := by
          intro hh
          unfold fits
          rw [if_neg (by omega), if_neg (by omega), if_neg (by omega), if_pos hh]
        have both : (t = 3 ∨ t = 4) → splitB (decide (n ≥ 0)) (f26.j0 (fun u h' => u = wordV t n ∧ h' = h) t n (decide (n < 1152921504606846976)) h) (f26.j0 (fun u h' => u = wordV t n ∧ h' = h) t n false h) := by
          intro hh
          refine split_dec (fun c => word_end ?_) (fun c => word_end ?_)
          · rw [f34' hh]; exact decide_eq_decide.2 ⟨fun h => ⟨by omega, h⟩, fun h => h.2⟩
          · rw [f34' hh, decide_eq_false (by omega)]
        refine split_eq (fun c => both (.inl c)) (fun c => split_eq (fun c2 => both (.inr c2)) (fun c2 => word_end ?_))
        exact (ffalse (P := True) (by omega)).symm
      refine split_eq (fun c => ?_) (fun c => j4 _ (by rw [decide_eq_false c, Bool.false_and]))
      refine small_spec.ret ⟨_, rfl, j4 _ (by rw [decide_eq_true c, Bool.true_and])⟩
    refine split_eq (fun c => ?_) (fun c => j3 _ (by rw [decide_eq_false c, Bool.false_and]))
    refine split_eq (fun c2 => j3 _ (by rw [decide_eq_true c, decide_eq_true (.inl c2)]; rfl)) (fun c2 => j3 _ ?_)
    rw [decide_eq_true c, Bool.true_and]
    by_cases c3 : n = 1
    · rw [beq_iff_eq.2 c3, decide_eq_true (.inr c3)]
    · rw [beq_eq_false_iff_ne.2 c3, decide_eq_false (by omega)]
  refine split_eq (fun c => j1 _ ?_) (fun c => j1 _ (by rw [decide_eq_false c, Bool.false_and]))
  rw [decide_eq_true c, Bool.true_and]
  by_cases c3 : n = 0
  · rw [beq_iff_eq.2 c3, decide_eq_true c3]
  · rw [beq_eq_false_iff_ne.2 c3, decide_eq_false c3]

theorem in_spec {h : Heap} {n a b : Int} : Run Try.prog 30 #[.int .i64 n, .int .i64 a, .int .i64 b] h fun u h' => u = .bool (decide (a ≤ n ∧ n ≤ b)) ∧ h' = h := by
  refine f30.run ?_
  unfold f30.runT
  refine split_dec (fun c => ⟨?_, rfl⟩) (fun c => ⟨?_, rfl⟩)
  · congr 1; exact decide_eq_decide.2 ⟨fun h => ⟨c, h⟩, fun h => h.2⟩
  · rw [decide_eq_false (by omega)]
theorem tagFits_spec {h : Heap} {t n : Int} : Run Try.prog 31 #[.int .i64 t, .int .i64 n] h fun u h' => u = .bool (fits t n) ∧ h' = h := by
  refine f31.run ?_
  unfold f31.runT
  have j0 : ∀ a b : Int, (decide (0 ≤ t ∧ t ≤ 4) && decide (a ≤ n ∧ n ≤ b)) = fits t n → f31.j0 (fun u h' => u = .bool (fits t n) ∧ h' = h) t n a b h := by
    intro a b he
    refine f31.j0_in ?_
    unfold f31.j0T
    refine in_spec.ret ⟨_, rfl, ?_⟩
    refine split_dec (fun c => ?_) (fun c => ⟨?_, rfl⟩)
    · refine in_spec.ret ⟨_, rfl, ?_, rfl⟩
      rw [← he, decide_eq_true c, Bool.true_and]
    · rw [← he, decide_eq_false c, Bool.false_and]
  unfold fits at j0 ⊢
  refine split_eq (fun c => j0 _ _ ?_) (fun c0 => split_eq (fun c => j0 _ _ ?_) (fun c1 => split_eq (fun c => j0 _ _ ?_) (fun c2 => j0 _ _ ?_)))
  · rw [if_pos c, decide_eq_true (by omega), Bool.true_and]; exact decide_eq_decide.2 ⟨fun h => by omega, fun h => by omega⟩
  · rw [if_neg (by omega), if_pos c, decide_eq_true (by omega), Bool.true_and]; exact decide_eq_decide.2 ⟨fun h => by omega, fun h => by omega⟩
  · rw [if_neg (by omega), if_neg (by omega), if_pos c, decide_eq_true (by omega), Bool.true_and]; exact decide_eq_decide.2 ⟨fun h => by omega, fun h => by omega⟩
  · rw [if_neg c0, if_neg c1, if_neg c2]
    by_cases c3 : t = 3 ∨ t = 4
    · rw [if_pos c3, decide_eq_true (by omega), Bool.true_and]; exact decide_eq_decide.2 ⟨fun h => by omega, fun h => by omega⟩
    · rw [if_neg c3, decide_eq_false (by omega), Bool.false_and]
theorem tagWord_spec {h : Heap} {t n : Int} : Run Try.prog 32 #[.int .i64 t, .int .i64 n] h fun u h' => u = .int .u64 (wordI t n) ∧ h' = h := by
  refine f32.run ?_
  unfold f32.runT
  exact ⟨rfl, rfl⟩

/-- A word's tag and number. -/
def tagW (w : Int) : Int := w % 8
def numW (w : Int) : Int := if w % 8 = 1 ∧ w / 8 ≥ 1152921504606846976 then w / 8 - 2305843009213693952 else w / 8
def okW (w : Int) : Bool := fits (tagW w) (numW w) && (wordI (tagW w) (numW w) == w)
def readV (w : Int) : Value := .tuple (if okW w then #[.int .i64 (tagW w), .int .i64 (numW w), .int .i64 0] else #[.int .i64 0, .int .i64 0, .int .i64 3])

theorem tag_tmod {w : Int} (h0 : 0 ≤ w) : IntKind.wrap .i64 (Int.tmod w 8) = tagW w := by
  rw [Int.tmod_eq_emod_of_nonneg h0, wrap_in (by omega) (by omega)]; rfl

theorem read_spec {h : Heap} {w : Int} (h0 : 0 ≤ w) (h1 : w ≤ 18446744073709551615) : Run Try.prog 27 #[.int .u64 w] h fun u h' => u = readV w ∧ h' = h := by
  refine f27.run ?_
  unfold f27.runT
  rw [tag_tmod h0]
  have j0 : f27.j0 (fun u h' => u = readV w ∧ h' = h) w (tagW w) (numW w) h := by
    refine f27.j0_in ?_
    unfold f27.j0T
    refine word_spec.ret ?_
    have no : okW w = false → f27.j2 (fun u h' => u = readV w ∧ h' = h) (tagW w) (numW w) true h := by
      intro hn
      refine f27.j2_in ?_
      unfold f27.j2T readV
      rw [if_neg (by simp [hn])]
      exact split_t ⟨rfl, rfl⟩
    by_cases hf : fits (tagW w) (numW w) = true
    · unfold wordV; rw [if_pos hf]
      refine ⟨_, _, rfl, split_ne (fun c => absurd rfl c) fun _ => ?_⟩
      by_cases he : wordI (tagW w) (numW w) = w
      · have hok : okW w = true := by unfold okW; rw [hf, he]; simp
        rw [show (wordI (tagW w) (numW w) != w) = false by simp [he]]
        refine f27.j2_in ?_
        unfold f27.j2T
        refine split_f ?_
        refine f27.j1_in ?_
        unfold f27.j1T readV
        rw [if_pos hok]
        exact ⟨rfl, rfl⟩
      · rw [show (wordI (tagW w) (numW w) != w) = true by simp [he]]
        exact no (by unfold okW; rw [hf, Bool.true_and]; simp [he])
    · have hn : okW w = false := by unfold okW; simp at hf; rw [hf, Bool.false_and]
      unfold wordV; rw [if_neg hf]
      split
      · exact ⟨_, _, rfl, split_ne (fun _ => no hn) (fun c => by cases c)⟩
      · exact ⟨_, _, rfl, split_ne (fun _ => no hn) (fun c => by cases c)⟩
  have hs : ∀ x : Int, shrI .i64 x 3 = x / 8 := by
    intro x
    show Int.fdiv x (2 ^ 3) = _
    rw [Int.fdiv_eq_ediv_of_nonneg _ (by omega)]; rfl
  have hs' : ∀ x : Int, shrI .u64 x 3 = x / 8 := by
    intro x
    show Int.fdiv x (2 ^ 3) = _
    rw [Int.fdiv_eq_ediv_of_nonneg _ (by omega)]; rfl
  refine ⟨by omega, by omega, split_eq (fun c => ⟨by omega, ?_⟩) (fun c => ?_)⟩
  · have e : shrI .i64 (IntKind.wrap .i64 w) 3 = numW w := by
      rw [hs]
      unfold tagW at c
      unfold numW
      by_cases hw : w ≤ 9223372036854775807
      · rw [wrap_in (by omega) hw, if_neg (by omega)]
      · have : IntKind.wrap .i64 w = w - 18446744073709551616 := by
          show (if (true && decide (w % 18446744073709551616 ≥ 9223372036854775808)) = true then w % 18446744073709551616 - 18446744073709551616 else w % 18446744073709551616) = _
          have e2 : w % 18446744073709551616 = w := by omega
          rw [e2, if_pos (by simp; omega)]
        rw [this, if_pos (by omega)]; omega
    rw [e]; exact j0
  · have e : IntKind.wrap .i64 (shrI .u64 w 3) = numW w := by
      rw [hs', wrap_in (by omega) (by omega)]
      unfold tagW at c
      unfold numW
      rw [if_neg (by omega)]
    rw [e]; exact j0

def tagReadV (w : Int) : Value := .tuple (if okW w then #[.int .i64 (tagW w), .int .i64 (numW w), .bool true] else #[.int .i64 0, .int .i64 0, .bool false])
theorem tagRead_spec {h : Heap} {w : Int} (h0 : 0 ≤ w) (h1 : w ≤ 18446744073709551615) : Run Try.prog 33 #[.int .u64 w] h fun u h' => u = tagReadV w ∧ h' = h := by
  refine f33.run ?_
  unfold f33.runT
  have e8 : IntKind.wrap .i64 (IntKind.wrap .u64 (Int.tdiv w 8)) = w / 8 := by
    rw [Int.tdiv_eq_ediv_of_nonneg h0, wrapU, show w / 8 % 18446744073709551616 = w / 8 by omega, wrap_in (by omega) (by omega)]
  rw [tag_tmod h0, e8]
  have j0 : f33.j0 (fun u h' => u = tagReadV w ∧ h' = h) w (tagW w) (numW w) h := by
    refine f33.j0_in ?_
    unfold f33.j0T
    refine tagFits_spec.ret ⟨_, rfl, ?_⟩
    have no : okW w = false → f33.j3 (fun u h' => u = tagReadV w ∧ h' = h) (tagW w) (numW w) true h := by
      intro hn
      refine f33.j3_in ?_
      unfold f33.j3T tagReadV
      rw [if_neg (by simp [hn])]
      exact split_t ⟨rfl, rfl⟩
    refine split_not (split_any (fun hf => ?_) (fun hf => no (by unfold okW; rw [hf, Bool.false_and])))
    refine tagWord_spec.ret ⟨_, rfl, ?_⟩
    by_cases he : wordI (tagW w) (numW w) = w
    · have hok : okW w = true := by unfold okW; rw [hf, he]; simp
      rw [show (wordI (tagW w) (numW w) != w) = false by simp [he]]
      refine f33.j3_in ?_
      unfold f33.j3T
      refine split_f ?_
      refine f33.j2_in ?_
      unfold f33.j2T tagReadV
      rw [if_pos hok]
      exact ⟨rfl, rfl⟩
    · rw [show (wordI (tagW w) (numW w) != w) = true by simp [he]]
      exact no (by unfold okW; rw [hf, Bool.true_and]; simp [he])
  refine ⟨by omega, by omega, split_eq (fun c => ?_) (fun c => ?_)⟩
  · refine f33.j1_in ?_
    unfold f33.j1T
    refine split_dec (fun c2 => ?_) (fun c2 => ?_)
    · rw [wrap_in (by omega) (by omega), show w / 8 - 2305843009213693952 = numW w by unfold numW; unfold tagW at c; rw [if_pos ⟨c, c2⟩]]; exact j0
    · rw [show w / 8 = numW w by unfold numW; rw [if_neg (by omega)]]; exact j0
  · refine f33.j1_in ?_
    unfold f33.j1T
    refine split_f ?_
    rw [show w / 8 = numW w by unfold numW; unfold tagW at c; rw [if_neg (by omega)]]; exact j0

/-! ### Values -/
/-- A value's cells: kind, number, text, and the head of its arguments. -/
def valC (k n : Int) (s : ByteArray) (A : Option Addr) (m c : Nat) : List Value := [.int .i64 k, .int .i64 n, .string s, .slice A m c]
def tagOf (k : Int) : Int := if k = 1 then 0 else if k = 2 then 1 else if k = 3 then 2 else if k = 6 then 3 else -1
def plain (s : ByteArray) (m : Nat) : Bool := (s.toList == ByteArray.toList (ByteArray.mk #[])) && decide (m = 0)
def ofV (k n : Int) (s : ByteArray) (m : Nat) : Value := .tuple (if (plain s m && fits (tagOf k) n) = true then #[.int .u64 (wordI (tagOf k) n), .bool true] else #[.int .u64 0, .bool false])

theorem of_spec {h : Heap} {k n : Int} {s : ByteArray} {A : Option Addr} {m c : Nat} : Run Try.prog 28 #[.agg (valC k n s A m c).toArray] h fun u h' => u = ofV k n s m ∧ Ext h h' := by
  refine f28.run ?_
  unfold f28.runT
  refine newH_in fun h1 b1 e1 _ => ?_
  have b1 : Blk h1 h.size (valC k n s A m c) 42 := by simpa [Value.cells] using b1
  refine get b1 rfl rfl rfl ⟨_, rfl, ?_⟩
  have no : (plain s m && fits (tagOf k) n) = false → f28.j2 (fun u h' => u = ofV k n s m ∧ Ext h h') ⟨h.size, 0, none⟩ (tagOf k) true h1 := by
    intro hn
    refine f28.j2_in ?_
    unfold f28.j2T ofV
    rw [if_neg (by simp [hn])]
    exact split_t ⟨rfl, e1⟩
  have j0 : f28.j0 (fun u h' => u = ofV k n s m ∧ Ext h h') ⟨h.size, 0, none⟩ (tagOf k) h1 := by
    refine f28.j0_in ?_
    unfold f28.j0T
    refine split_dec (fun c1 => no ?_) (fun c1 => ?_)
    · have : fits (tagOf k) n = false := by
        cases hv : fits (tagOf k) n with
        | false => rfl
        | true => have := fits_range hv; omega
      rw [this, Bool.and_false]
    refine get b1 rfl rfl rfl ⟨_, rfl, ?_⟩
    refine split_not (split_any (fun c2 => ?_) (fun c2 => no (by unfold plain; rw [c2]; rfl)))
    refine get b1 rfl rfl rfl ⟨_, _, _, rfl, ?_⟩
    by_cases c3 : m = 0
    · have hp : plain s m = true := by unfold plain; rw [c2, decide_eq_true c3]; rfl
      rw [show decide ((m : Int) > 0) = false from decide_eq_false (by omega)]
      refine f28.j2_in ?_
      unfold f28.j2T
      refine split_f ?_
      refine f28.j1_in ?_
      unfold f28.j1T
      refine get b1 rfl rfl rfl ⟨_, rfl, ?_⟩
      refine word_spec.ret ?_
      unfold wordV ofV
      rw [hp, Bool.true_and]
      by_cases hf : fits (tagOf k) n = true
      · rw [if_pos hf, if_pos hf]; exact ⟨_, _, rfl, rfl, e1⟩
      · rw [if_neg hf, if_neg hf]
        split
        · exact ⟨_, _, rfl, rfl, e1⟩
        · exact ⟨_, _, rfl, rfl, e1⟩
    · rw [show decide ((m : Int) > 0) = true from decide_eq_true (by omega)]
      exact no (by unfold plain; rw [decide_eq_false c3, Bool.and_false, Bool.false_and])
  unfold tagOf at j0
  refine split_eq (fun c => ?_) (fun c1 => split_eq (fun c => ?_) (fun c2 => split_eq (fun c => ?_) (fun c3 => split_eq (fun c => ?_) (fun c4 => ?_))))
  · rw [if_pos c] at j0; exact j0
  · rw [if_neg c1, if_pos c] at j0; exact j0
  · rw [if_neg c1, if_neg c2, if_pos c] at j0; exact j0
  · rw [if_neg c1, if_neg c2, if_neg c3, if_pos c] at j0; exact j0
  · rw [if_neg c1, if_neg c2, if_neg c3, if_neg c4] at j0; exact j0

def kindsV : Value := .agg #[.int .i64 1, .int .i64 2, .int .i64 3, .int .i64 6]
theorem kinds_spec {h : Heap} : Run Try.prog 110 #[] h fun u h' => u = kindsV ∧ Ext h h' := by
  refine f110.run ?_
  unfold f110.runT
  refine box_in [.int .i64 1, .int .i64 2, .int .i64 3, .int .i64 6] rfl rfl rfl (fun v hv => by simp at hv; rcases hv with rfl | rfl | rfl | rfl <;> trivial) fun h1 b1 e1 _ => ?_
  exact ⟨_, b1.agg rfl, rfl, e1⟩
def kindOf (t : Int) : Int := if t = 0 then 1 else if t = 1 then 2 else if t = 2 then 3 else 6

theorem wordOf_spec {h : Heap} {k n : Int} {s : ByteArray} {A : Option Addr} {m c : Nat} : Run Try.prog 35 #[.agg (valC k n s A m c).toArray] h fun u h' => u = ofV k n s m ∧ Ext h h' := by
  refine f35.run ?_
  unfold f35.runT
  refine newH_in fun h1 b1 e1 _ => ?_
  have b1 : Blk h1 h.size (valC k n s A m c) 42 := by simpa [Value.cells] using b1
  refine kinds_spec.mono ?_
  rintro _ h3 ⟨rfl, e3⟩
  have b3 := b1.ext e3
  have e := e1.trans e3
  have step : ∀ (i : Int) (kd : Int), 0 ≤ i → i < 4 → kindOf i = kd → tagOf kd = i → fldv false 1 (Int.toNat i * 1) kindsV = some (.int .i64 kd) → (k ≠ kd → f35.l0 (fun u h' => u = ofV k n s m ∧ Ext h h') ⟨h.size, 0, none⟩ kindsV (i + 1) h3) →
      (k = kd → f35.l0 (fun u h' => u = .tuple #[.int .u64 0, .bool false] ∧ Ext h h') ⟨h.size, 0, none⟩ kindsV (i + 1) h3) →
      f35.l0 (fun u h' => u = ofV k n s m ∧ Ext h h') ⟨h.size, 0, none⟩ kindsV i h3 := by
    intro i kd h0 h4 hk ht hf next stop
    have ew : IntKind.wrap .i64 (i + 1) = i + 1 := wrap_in (by omega) (by omega)
    refine f35.l0_in ?_
    unfold f35.l0T
    refine split_dec (fun _ => ⟨h0, by omega, _, hf, _, rfl, ?_⟩) (fun c => absurd h4 c)
    have j0f : (k = kd → (plain s m && fits (tagOf k) n) = false) → f35.j0 (fun u h' => u = ofV k n s m ∧ Ext h h') ⟨h.size, 0, none⟩ i kindsV i false h3 := by
      intro hh
      refine f35.j0_in ?_
      unfold f35.j0T
      refine split_f ?_
      rw [ew]
      by_cases hkk : k = kd
      · have h5 := stop hkk
        unfold ofV
        rw [if_neg (by simp [hh hkk])]
        exact h5
      · exact next hkk
    refine get b3 rfl rfl rfl ⟨_, rfl, split_eq (fun c1 => ?_) (fun c1 => j0f (fun h => absurd h c1))⟩
    refine get b3 rfl rfl rfl ⟨_, rfl, split_any (fun c2 => ?_) (fun c2 => j0f (fun _ => by unfold plain; rw [c2]; rfl))⟩
    refine get b3 rfl rfl rfl ⟨_, _, _, rfl, split_eq (fun c3 => ?_) (fun c3 => j0f (fun _ => by unfold plain; rw [decide_eq_false (show ¬ m = 0 by omega), Bool.and_false, Bool.false_and]))⟩
    refine get b3 rfl rfl rfl ⟨_, rfl, ?_⟩
    refine tagFits_spec.ret ⟨_, rfl, ?_⟩
    have hp : plain s m = true := by unfold plain; rw [c2, decide_eq_true (show m = 0 by omega)]; rfl
    have htk : tagOf k = i := by rw [show k = kd from c1]; exact ht
    cases hv : fits i n with
    | false => exact j0f (fun _ => by rw [htk, hv, Bool.and_false])
    | true =>
      refine f35.j0_in ?_
      unfold f35.j0T
      refine split_t ?_
      refine get b3 rfl rfl rfl ⟨_, rfl, ?_⟩
      refine tagWord_spec.ret ⟨_, rfl, ?_, e⟩
      unfold ofV
      rw [htk, hp, hv]; rfl
  have stop4 : f35.l0 (fun u h' => u = .tuple #[.int .u64 0, .bool false] ∧ Ext h h') ⟨h.size, 0, none⟩ kindsV 4 h3 := by
    refine f35.l0_in ?_
    unfold f35.l0T
    exact split_dec (fun c => by omega) fun _ => ⟨rfl, e⟩
  have pass : ∀ (i kd' kd : Int), 0 ≤ i → i < 4 → k = kd' → kd' ≠ kd → fldv false 1 (Int.toNat i * 1) kindsV = some (.int .i64 kd) → f35.l0 (fun u h' => u = .tuple #[.int .u64 0, .bool false] ∧ Ext h h') ⟨h.size, 0, none⟩ kindsV (i + 1) h3 → f35.l0 (fun u h' => u = .tuple #[.int .u64 0, .bool false] ∧ Ext h h') ⟨h.size, 0, none⟩ kindsV i h3 := by
    intro i kd' kd h0 h4 hk hne hf next
    have ew : IntKind.wrap .i64 (i + 1) = i + 1 := wrap_in (by omega) (by omega)
    refine f35.l0_in ?_
    unfold f35.l0T
    refine split_dec (fun _ => ⟨h0, by omega, _, hf, _, rfl, ?_⟩) (fun c => absurd h4 c)
    refine get b3 rfl rfl rfl ⟨_, rfl, split_eq (fun c1 => absurd (hk.symm.trans c1) hne) (fun c1 => ?_)⟩
    refine f35.j0_in ?_
    unfold f35.j0T
    refine split_f ?_
    rw [ew]; exact next
  have last : f35.l0 (fun u h' => u = ofV k n s m ∧ Ext h h') ⟨h.size, 0, none⟩ kindsV 4 h3 ∨ tagOf k ≠ -1 := by
    by_cases hk : tagOf k = -1
    · left
      refine f35.l0_in ?_
      unfold f35.l0T
      refine split_dec (fun c => by omega) fun _ => ⟨?_, e⟩
      unfold ofV
      rw [hk, show fits (-1) n = false from rfl, Bool.and_false]; rfl
    · right; exact hk
  have p3 : k ≠ 6 → f35.l0 (fun u h' => u = .tuple #[.int .u64 0, .bool false] ∧ Ext h h') ⟨h.size, 0, none⟩ kindsV 3 h3 := fun hk => pass 3 k 6 (by omega) (by omega) rfl hk rfl stop4
  have p2 : k ≠ 6 → k ≠ 3 → f35.l0 (fun u h' => u = .tuple #[.int .u64 0, .bool false] ∧ Ext h h') ⟨h.size, 0, none⟩ kindsV 2 h3 := fun hk hk2 => pass 2 k 3 (by omega) (by omega) rfl hk2 rfl (p3 hk)
  have p1 : k ≠ 6 → k ≠ 3 → k ≠ 2 → f35.l0 (fun u h' => u = .tuple #[.int .u64 0, .bool false] ∧ Ext h h') ⟨h.size, 0, none⟩ kindsV 1 h3 := fun hk hk2 hk3 => pass 1 k 2 (by omega) (by omega) rfl hk3 rfl (p2 hk hk2)
  refine step 0 1 (by omega) (by omega) rfl rfl rfl (fun n0 => ?_) (fun hkd => p1 (by omega) (by omega) (by omega))
  refine step 1 2 (by omega) (by omega) rfl rfl rfl (fun n1 => ?_) (fun hkd => p2 (by omega) (by omega))
  refine step 2 3 (by omega) (by omega) rfl rfl rfl (fun n2 => ?_) (fun hkd => p3 (by omega))
  refine step 3 6 (by omega) (by omega) rfl rfl rfl (fun n3 => ?_) (fun hkd => stop4)
  rcases last with h5 | h5
  · exact h5
  · exfalso; apply h5; unfold tagOf; rw [if_neg n0, if_neg n1, if_neg n2, if_neg n3]

/-! ### Values of words -/
def valW (w : Int) : List Value := if okW w = true ∧ tagW w ≠ 4 then valC (kindOf (tagW w)) (numW w) (ByteArray.mk #[]) none 0 0 else valC 0 0 (ByteArray.mk #[]) none 0 0
def hasW (w : Int) : Bool := okW w && decide (tagW w ≠ 4)
theorem valC_flat (k n : Int) (s : ByteArray) (A : Option Addr) (m c : Nat) : ∀ v ∈ valC k n s A m c, Flat v := by intro v hv; simp [valC] at hv; rcases hv with rfl | rfl | rfl | rfl <;> trivial
theorem kind_at {t : Int} (h0 : 0 ≤ t) (h3 : t < 4) : fldv false 1 (Int.toNat t * 1) kindsV = some (.int .i64 (kindOf t)) := by
  rcases (show t = 0 ∨ t = 1 ∨ t = 2 ∨ t = 3 by omega) with rfl | rfl | rfl | rfl <;> rfl
theorem tagW_range (w : Int) : 0 ≤ tagW w ∧ tagW w < 8 := by unfold tagW; omega
theorem okW_range {w : Int} (h : okW w = true) : tagW w ≤ 4 := by
  unfold okW at h
  rw [Bool.and_eq_true] at h
  exact (fits_range h.1).2

theorem value_spec {h : Heap} {w : Int} (h0 : 0 ≤ w) (h1 : w ≤ 18446744073709551615) : Run Try.prog 29 #[.int .u64 w] h fun u h' => u = .tuple #[.agg (valW w).toArray, .bool (hasW w)] ∧ Ext h h' := by
  refine f29.run ?_
  unfold f29.runT
  refine newH_in fun h2 b2 e2 s2 => ?_
  refine (read_spec h0 h1).ret ?_
  have no : hasW w = false → ∀ x y, f29.j1 (fun u h' => u = .tuple #[.agg (valW w).toArray, .bool (hasW w)] ∧ Ext h h') ⟨h.size, 0, none⟩ x y true h2 := by
    intro hn x y
    refine f29.j1_in ?_
    unfold f29.j1T
    refine split_t ⟨valC 0 0 (ByteArray.mk #[]) none 0 0, rfl, rfl, ?_⟩
    obtain ⟨h3, s3, b3, o3⟩ := b2.stAll (valC 0 0 (ByteArray.mk #[]) none 0 0) rfl (valC_flat _ _ _ _ _ _)
    refine ⟨h3, s3, _, b3.agg rfl, ?_, e2.only o3 (Nat.le_refl _)⟩
    have hv : valW w = valC 0 0 (ByteArray.mk #[]) none 0 0 := by
      unfold valW; unfold hasW at hn
      rw [if_neg (fun hh => by rw [hh.1, decide_eq_true hh.2] at hn; cases hn)]
    rw [hv, hn]
  unfold readV
  by_cases hok : okW w = true
  · rw [if_pos hok]
    refine ⟨_, _, _, rfl, split_ne (fun c => absurd rfl c) fun _ => ?_⟩
    by_cases h4 : tagW w = 4
    · rw [beq_iff_eq.2 h4]
      exact no (by unfold hasW; rw [decide_eq_false (fun h => h h4), Bool.and_false]) _ _
    · rw [beq_eq_false_iff_ne.2 h4]
      have hr := tagW_range w
      have hr2 := okW_range hok
      refine f29.j1_in ?_
      unfold f29.j1T
      refine split_f ?_
      refine f29.j0_in ?_
      unfold f29.j0T
      refine ⟨hr.1, by omega, _, kind_at hr.1 (by omega), _, rfl, valC (kindOf (tagW w)) (numW w) (ByteArray.mk #[]) none 0 0, rfl, rfl, ?_⟩
      obtain ⟨h3, s3, b3, o3⟩ := b2.stAll (valC (kindOf (tagW w)) (numW w) (ByteArray.mk #[]) none 0 0) rfl (valC_flat _ _ _ _ _ _)
      refine ⟨h3, s3, _, b3.agg rfl, ?_, e2.only o3 (Nat.le_refl _)⟩
      have hv : valW w = valC (kindOf (tagW w)) (numW w) (ByteArray.mk #[]) none 0 0 := by unfold valW; rw [if_pos ⟨hok, h4⟩]
      have hh : hasW w = true := by unfold hasW; rw [hok, decide_eq_true h4]; rfl
      rw [hv, hh]
  · rw [if_neg hok]
    refine ⟨_, _, _, rfl, split_ne (fun _ => no ?_ _ _) (fun c => by cases c)⟩
    unfold hasW; simp at hok; rw [hok, Bool.false_and]

theorem valueOf_spec {h : Heap} {w : Int} (h0 : 0 ≤ w) (h1 : w ≤ 18446744073709551615) : Run Try.prog 36 #[.int .u64 w] h fun u h' => u = .tuple #[.agg (valW w).toArray, .bool (hasW w)] ∧ Ext h h' := by
  refine f36.run ?_
  unfold f36.runT
  refine newH_in fun h2 b2 e2 s2 => ?_
  refine (tagRead_spec h0 h1).ret ?_
  have no : hasW w = false → ∀ x y, f36.j1 (fun u h' => u = .tuple #[.agg (valW w).toArray, .bool (hasW w)] ∧ Ext h h') ⟨h.size, 0, none⟩ x y true h2 := by
    intro hn x y
    refine f36.j1_in ?_
    unfold f36.j1T
    refine split_t ⟨valC 0 0 (ByteArray.mk #[]) none 0 0, rfl, rfl, ?_⟩
    obtain ⟨h3, s3, b3, o3⟩ := b2.stAll (valC 0 0 (ByteArray.mk #[]) none 0 0) rfl (valC_flat _ _ _ _ _ _)
    refine ⟨h3, s3, _, b3.agg rfl, ?_, e2.only o3 (Nat.le_refl _)⟩
    have hv : valW w = valC 0 0 (ByteArray.mk #[]) none 0 0 := by
      unfold valW; unfold hasW at hn
      rw [if_neg (fun hh => by rw [hh.1, decide_eq_true hh.2] at hn; cases hn)]
    rw [hv, hn]
  unfold tagReadV
  by_cases hok : okW w = true
  · rw [if_pos hok]
    refine ⟨_, _, _, rfl, split_not (split_t ?_)⟩
    by_cases h4 : tagW w = 4
    · rw [beq_iff_eq.2 h4]
      exact no (by unfold hasW; rw [decide_eq_false (fun h => h h4), Bool.and_false]) _ _
    · rw [beq_eq_false_iff_ne.2 h4]
      have hr := tagW_range w
      have hr2 := okW_range hok
      refine f36.j1_in ?_
      unfold f36.j1T
      refine split_f ?_
      refine f36.j0_in ?_
      unfold f36.j0T
      refine kinds_spec.mono ?_
      rintro _ h3 ⟨rfl, e3⟩
      refine ⟨hr.1, by omega, _, kind_at hr.1 (by omega), _, rfl, valC (kindOf (tagW w)) (numW w) (ByteArray.mk #[]) none 0 0, rfl, rfl, ?_⟩
      obtain ⟨h4', s3, b3, o3⟩ := (b2.ext e3).stAll (valC (kindOf (tagW w)) (numW w) (ByteArray.mk #[]) none 0 0) rfl (valC_flat _ _ _ _ _ _)
      refine ⟨h4', s3, _, b3.agg rfl, ?_, (e2.trans e3).only o3 (Nat.le_refl _)⟩
      have hv : valW w = valC (kindOf (tagW w)) (numW w) (ByteArray.mk #[]) none 0 0 := by unfold valW; rw [if_pos ⟨hok, h4⟩]
      have hh : hasW w = true := by unfold hasW; rw [hok, decide_eq_true h4]; rfl
      rw [hv, hh]
  · rw [if_neg hok]
    refine ⟨_, _, _, rfl, split_not (split_f (no ?_ _ _))⟩
    unfold hasW; simp at hok; rw [hok, Bool.false_and]

theorem valW_eq (w : Int) : ∃ k n, valW w = valC k n (ByteArray.mk #[]) none 0 0 := by
  unfold valW; split <;> exact ⟨_, _, rfl⟩
theorem same_spec {h : Heap} {k n : Int} {s : ByteArray} : Run Try.prog 37 #[.agg (valC k n s none 0 0).toArray, .agg (valC k n s none 0 0).toArray] h fun u h' => u = .bool true ∧ Ext h h' := by
  refine f37.run ?_
  unfold f37.runT
  refine newH_in fun h1 b1 e1 _ => newH_in fun h2 b2 e2 _ => ?_
  have b1 : Blk h2 h.size (valC k n s none 0 0) 42 := by
    have := b1.ext e2
    simpa [Value.cells] using this
  have b2 : Blk h2 h1.size (valC k n s none 0 0) 42 := by simpa [Value.cells] using b2
  refine get b1 rfl rfl rfl ⟨_, rfl, get b2 rfl rfl rfl ⟨_, rfl, split_ne (fun c => absurd rfl c) fun _ => ?_⟩⟩
  refine get b1 rfl rfl rfl ⟨_, rfl, get b2 rfl rfl rfl ⟨_, rfl, split_ne (fun c => absurd rfl c) fun _ => ?_⟩⟩
  refine get b1 rfl rfl rfl ⟨_, rfl, get b2 rfl rfl rfl ⟨_, rfl, split_not ?_⟩⟩
  rw [show (s.toList == s.toList) = true from beq_self_eq_true _]
  refine split_t ?_
  refine get b1 rfl rfl rfl ⟨_, _, _, rfl, get b2 rfl rfl rfl ⟨_, _, _, rfl, split_ne (fun c => absurd rfl c) fun _ => ?_⟩⟩
  refine f37.j0_in ?_
  unfold f37.j0T
  refine get b1 rfl rfl rfl ⟨_, _, _, rfl, ?_⟩
  refine f37.l0_in ?_
  unfold f37.l0T
  exact split_dec (fun c => by omega) fun _ => ⟨rfl, e1.trans e2⟩

def eVal : Heap → Int × Int × ByteArray × Nat × Unit → List Value → Prop := eCons (eInt .i64) (eCons (eInt .i64) (eCons eStr (eCons eHead eNil)))
theorem eVal_of {h : Heap} {x : Int × Int × ByteArray × Nat × Unit} {cs : List Value} (e : eVal h x cs) : ∃ A c, cs = valC x.1 x.2.1 x.2.2.1 A x.2.2.2.1 c := by
  obtain ⟨a, b, rfl, h1, c, d, rfl, h2, e, f, rfl, h3, g, i, rfl, ⟨A, c', h4⟩, h5⟩ := e
  rw [show a = _ from h1, show c = _ from h2, show e = _ from h3, h4, show i = _ from h5]
  exact ⟨A, c', rfl⟩

theorem TermTells_run {h : Heap} {t n w : Int} {x : Int × Int × ByteArray × Nat × Unit} {cs : List Value} (h0 : 0 ≤ w) (h1 : w ≤ 18446744073709551615) (he : eVal h x cs) :
    Run Try.prog 6 #[.int .i64 t, .int .i64 n, .int .u64 w, .agg cs.toArray] h fun v h' => v = .bool true ∧ Ext h h' := by
  obtain ⟨A, c, rfl⟩ := eVal_of he
  generalize x.1 = vk at *
  generalize x.2.1 = vn at *
  generalize x.2.2.1 = vs at *
  generalize x.2.2.2.1 = vm at *
  refine f6.run ?_
  unfold f6.runT
  refine newH_in fun h2 b2 e2 s2 => ?_
  have b2 : Blk h2 h.size (valC vk vn vs A vm c) 42 := by simpa [Value.cells] using b2
  refine word_spec.ret ?_
  -- the word's answer, whatever it is
  have tup : ∀ K : Int → Int → Prop, (∀ a e, wordV t n = .tuple #[.int .u64 a, .int .i64 e] → K a e) → ∃ a e, wordV t n = .tuple #[.int .u64 a, .int .i64 e] ∧ K a e := by
    intro K hK
    unfold wordV at hK ⊢
    split
    · rename_i hh; rw [if_pos hh] at hK; exact ⟨_, _, rfl, hK _ _ rfl⟩
    · rename_i hh; rw [if_neg hh] at hK
      split
      · rename_i hh2; rw [if_pos hh2] at hK; exact ⟨_, _, rfl, hK _ _ rfl⟩
      · rename_i hh2; rw [if_neg hh2] at hK; exact ⟨_, _, rfl, hK _ _ rfl⟩
  refine tup _ fun wa we hw => ?_
  refine (read_spec h0 h1).ret ?_
  have rd : ∀ K : Int → Int → Int → Prop, (okW w = true → K (tagW w) (numW w) 0) → (okW w = false → K 0 0 3) → ∃ a b e, readV w = .tuple #[.int .i64 a, .int .i64 b, .int .i64 e] ∧ K a b e := by
    intro K k1 k2
    unfold readV
    cases hok : okW w with
    | true => exact ⟨_, _, _, rfl, k1 hok⟩
    | false => exact ⟨_, _, _, rfl, k2 hok⟩
  have trd : ∀ K : Int → Int → Bool → Prop, (okW w = true → K (tagW w) (numW w) true) → (okW w = false → K 0 0 false) → ∃ a b e, tagReadV w = .tuple #[.int .i64 a, .int .i64 b, .bool e] ∧ K a b e := by
    intro K k1 k2
    unfold tagReadV
    cases hok : okW w with
    | true => exact ⟨_, _, _, rfl, k1 hok⟩
    | false => exact ⟨_, _, _, rfl, k2 hok⟩
  have of : ∀ K : Int → Bool → Prop, (∀ a b, ofV vk vn vs vm = .tuple #[.int .u64 a, .bool b] → K a b) → ∃ a b, ofV vk vn vs vm = .tuple #[.int .u64 a, .bool b] ∧ K a b := by
    intro K hK
    unfold ofV at hK ⊢
    split
    · rename_i hh; rw [if_pos hh] at hK; exact ⟨_, _, rfl, hK _ _ rfl⟩
    · rename_i hh; rw [if_neg hh] at hK; exact ⟨_, _, rfl, hK _ _ rfl⟩
  have main : ∀ (ra rb rc : Int), (okW w = true → ra = tagW w ∧ rb = numW w ∧ rc = 0) → (okW w = false → ra = 0 ∧ rb = 0 ∧ rc = 3) →
      ∃ v11, ldv true 4 h2 ⟨h.size, 0, none⟩ = some v11 ∧ Run Try.prog 28 #[v11] h2 fun v12 h13 => ∃ x14 b15, v12 = .tuple #[.int .u64 x14, .bool b15] ∧
        Run Try.prog 29 #[.int .u64 w] h13 fun v16 h17 => ∃ v18 b19, v16 = .tuple #[v18, .bool b19] ∧
          newH h17 (.cells #[.int .i64 0, .int .i64 0, .string (ByteArray.mk #[]), .slice none 0 0] 42) fun h20 => ∃ l22 : List Value, v18 = .agg l22.toArray ∧ l22.length = 4 ∧ ∃ h21, stH h20 ⟨h17.size, 0, none⟩ l22 0 = some h21 ∧
            Run Try.prog 30 #[.int .i64 t, .int .i64 0, .int .i64 4] h21 fun v23 h24 => ∃ b25, v23 = .bool b25 ∧
              splitB (!b25) (splitB (wa != 0) ((fun v h' => v = Value.bool true ∧ Ext h h') (.bool false) h24) (splitB (we != 1) ((fun v h' => v = Value.bool true ∧ Ext h h') (.bool false) h24) (f6.j0 (fun v h' => v = .bool true ∧ Ext h h') n w ⟨h.size, 0, none⟩ ra rb rc x14 b15 ⟨h17.size, 0, none⟩ b19 h24)))
                (Run Try.prog 31 #[.int .i64 t, .int .i64 n] h24 fun v26 h27 => ∃ b28, v26 = .bool b28 ∧
                  splitB (!b28) (splitB (wa != 0) ((fun v h' => v = Value.bool true ∧ Ext h h') (.bool false) h27) (splitB (we != 2) ((fun v h' => v = Value.bool true ∧ Ext h h') (.bool false) h27) (f6.j0 (fun v h' => v = .bool true ∧ Ext h h') n w ⟨h.size, 0, none⟩ ra rb rc x14 b15 ⟨h17.size, 0, none⟩ b19 h27)))
                    (Run Try.prog 32 #[.int .i64 t, .int .i64 n] h27 fun v29 h30 => ∃ x31, v29 = .int .u64 x31 ∧
                      splitB (wa != x31) ((fun v h' => v = Value.bool true ∧ Ext h h') (.bool false) h30) (splitB (we != 0) ((fun v h' => v = Value.bool true ∧ Ext h h') (.bool false) h30) (f6.j0 (fun v h' => v = .bool true ∧ Ext h h') n w ⟨h.size, 0, none⟩ ra rb rc x14 b15 ⟨h17.size, 0, none⟩ b19 h30)))) := by
    intro ra rb rc hra hrb
    refine ⟨_, b2.agg rfl, of_spec.mono ?_⟩
    rintro _ h13 ⟨rfl, e13⟩
    refine of _ fun oa ob ho => ?_
    refine (value_spec h0 h1).mono ?_
    rintro _ h17 ⟨rfl, e17⟩
    obtain ⟨yk, yn, hy⟩ := valW_eq w
    refine ⟨_, _, rfl, ?_⟩
    refine box_in (valW w) rfl (by rw [hy]; rfl) rfl (by rw [hy]; exact valC_flat _ _ _ _ _ _) fun h21 b21 e21 _ => ?_
    have e : Ext h h21 := e2.trans (e13.trans (e17.trans e21))
    have c2 : Blk h21 h.size (valC vk vn vs A vm c) 42 := b2.ext (e13.trans (e17.trans e21))
    have fin : ∀ h', h' = h21 → f6.j0 (fun v h' => v = .bool true ∧ Ext h h') n w ⟨h.size, 0, none⟩ ra rb rc oa ob ⟨h17.size, 0, none⟩ (hasW w) h' := by
      rintro h' rfl
      have j1 : f6.j1 (fun v h' => v = .bool true ∧ Ext h h') w ⟨h.size, 0, none⟩ oa ob ⟨h17.size, 0, none⟩ (hasW w) h' := by
        refine f6.j1_in ?_
        unfold f6.j1T
        refine ⟨_, c2.agg rfl, wordOf_spec.mono ?_⟩
        rintro _ h3 ⟨rfl, e3⟩
        refine ⟨oa, ob, ho, ?_⟩
        refine (valueOf_spec h0 h1).mono ?_
        rintro _ h4 ⟨rfl, e4⟩
        refine ⟨_, _, rfl, ?_⟩
        refine box_in (valW w) rfl (by rw [hy]; rfl) rfl (by rw [hy]; exact valC_flat _ _ _ _ _ _) fun h5 b5 e5 _ => ?_
        refine split_eq (fun _ => ?_) (fun c => absurd rfl c)
        rw [show (ob == ob) = true by cases ob <;> rfl]
        refine split_t ?_
        have b21' := ((b21.ext e3).ext e4).ext e5
        rw [hy] at b21' b5
        refine ⟨_, b21'.agg rfl, _, b5.agg rfl, same_spec.mono ?_⟩
        rintro _ h6 ⟨rfl, e6⟩
        refine ⟨_, rfl, split_t ⟨?_, e.trans (e3.trans (e4.trans (e5.trans e6)))⟩⟩
        cases hasW w <;> rfl
      have small : splitB (!(fits 1 n == fits 1 n)) ((fun v h' => v = Value.bool true ∧ Ext h h') (.bool false) h') (f6.j1 (fun v h' => v = .bool true ∧ Ext h h') w ⟨h.size, 0, none⟩ oa ob ⟨h17.size, 0, none⟩ (hasW w) h') := by
        rw [show (!(fits 1 n == fits 1 n)) = false by cases fits 1 n <;> rfl]
        exact split_f j1
      refine f6.j0_in ?_
      unfold f6.j0T
      refine (tagRead_spec h0 h1).ret ?_
      refine trd _ (fun hok => ?_) (fun hok => ?_)
      · obtain ⟨rfl, rfl, rfl⟩ := hra hok
        refine split_ne (fun c => absurd rfl c) fun _ => split_ne (fun c => absurd rfl c) fun _ => split_t ?_
        refine split_ne (fun c => absurd rfl c) fun _ => split_not (split_t ?_)
        exact small_spec.ret ⟨_, rfl, tagFits_spec.ret ⟨_, rfl, small⟩⟩
      · obtain ⟨rfl, rfl, rfl⟩ := hrb hok
        refine split_ne (fun c => absurd rfl c) fun _ => split_ne (fun c => absurd rfl c) fun _ => split_f ?_
        refine split_not (split_f ?_)
        refine split_ne (fun c => absurd rfl c) fun _ => ?_
        exact small_spec.ret ⟨_, rfl, tagFits_spec.ret ⟨_, rfl, small⟩⟩
    refine in_spec.ret ⟨_, rfl, ?_⟩
    unfold wordV at hw
    refine split_not (split_dec (fun c1 => ?_) (fun c1 => ?_))
    · refine tagFits_spec.ret ⟨_, rfl, ?_⟩
      refine split_not (split_any (fun c2 => ?_) (fun c2 => ?_))
      · rw [if_pos c2] at hw
        cases hw
        refine tagWord_spec.ret ⟨_, rfl, ?_⟩
        exact split_ne (fun c => absurd rfl c) fun _ => split_ne (fun c => absurd rfl c) fun _ => fin _ rfl
      · rw [if_neg (by simp [c2]), if_neg (by omega)] at hw
        cases hw
        exact split_ne (fun c => absurd rfl c) fun _ => split_ne (fun c => absurd rfl c) fun _ => fin _ rfl
    · have hf : fits t n = false := by
        cases hv : fits t n with
        | false => rfl
        | true => exact absurd (fits_range hv) c1
      rw [if_neg (by simp [hf]), if_pos (by omega)] at hw
      cases hw
      exact split_ne (fun c => absurd rfl c) fun _ => split_ne (fun c => absurd rfl c) fun _ => fin _ rfl
  refine rd _ (fun hok => main _ _ _ (fun _ => ⟨rfl, rfl, rfl⟩) (fun h => by rw [hok] at h; cases h)) (fun hok => main _ _ _ (fun h => by rw [hok] at h; cases h) (fun _ => ⟨rfl, rfl, rfl⟩))
end Go.Proofs.Ytbpfmlgnlcfbcaa.Fw.TT
