/- Part 4: what the law CutSays needs, put together out of texts of this session. -/
import Derived.Test.YtnlocljmalhddacZCutSaysc
section
set_option linter.unusedVariables false
namespace Go.Hw
open Go
section
variable {α : Type} {l : List α} {a b i j : Nat}
def swp (l : List α) (i j : Nat) (hi : i < l.length) (hj : j < l.length) : List α := (l.set i l[j]).set j l[i]
theorem swp_len {hi : i < l.length} {hj : j < l.length} : (swp l i j hi hj).length = l.length := by unfold swp; rw [List.length_set, List.length_set]
theorem swp_get {hi : i < l.length} {hj : j < l.length} (q : Nat) (hq : q < (swp l i j hi hj).length) : (swp l i j hi hj)[q] = if q = j then l[i] else if q = i then l[j] else l[q]'(by rw [← swp_len (hi := hi) (hj := hj)]; exact hq) := by
  have hq' : q < ((l.set i l[j]).set j l[i]).length := hq
  show ((l.set i l[j]).set j l[i])[q]'hq' = _
  rw [List.getElem_set, List.getElem_set]
  by_cases c1 : q = j
  · rw [if_pos c1.symm, if_pos c1]
  · rw [if_neg (fun e => c1 e.symm), if_neg c1]
    by_cases c2 : q = i
    · rw [if_pos c2.symm, if_pos c2]
    · rw [if_neg (fun e => c2 e.symm), if_neg c2]
theorem swp_tch {hi : i < l.length} {hj : j < l.length} (i1 : a ≤ i) (i2 : i < b) (j1 : a ≤ j) (j2 : j < b) : Tch a b l (swp l i j hi hj) := Tch.swap hi hj i1 i2 j1 j2
theorem swp_txt {β : Type} {K : List α → Option β} (hi : i < l.length) (hj : j < l.length) {x y : Int} (hx : x = (i : Int)) (hy : y = (j : Int)) :
    ((gi l y).bind fun y1 => (gi l x).bind fun y8 => (gi l x).bind fun _ => (some (l.set (Int.toNat x) y1)).bind fun l24 => (gi l24 y).bind fun _ => (some (l24.set (Int.toNat y) y8)).bind K) = K (swp l i j hi hj) := by subst hx; subst hy; exact swap_txt hi hj
end
section
variable {α : Type} {a b : Nat}
theorem rev_val {f : List α → Int → Int → Option (List α)}
    (e : ∀ l x y, f l x y = if x < y then ((gi l y).bind fun y1 => (gi l x).bind fun y8 => (gi l x).bind fun _ => (some (l.set (Int.toNat x) y1)).bind fun l24 => (gi l24 y).bind fun _ => (some (l24.set (Int.toNat y) y8)).bind fun l35 => f l35 (IntKind.wrap .i64 (x + 1)) (IntKind.wrap .i64 (y - 1))) else some l) :
    ∀ (d i j : Nat) (l : List α), j ≤ i + d → a ≤ i → j < b → b ≤ l.length → l.length ≤ 1000000000000000000 → ∃ r, Tch a b l r ∧ f l (i : Int) (j : Int) = some r := by
  intro d
  induction d with
  | zero => intro i j l h1 h2 h3 h4 h5; exact ⟨l, .refl, by rw [e, if_neg (by omega)]⟩
  | succ d ih =>
    intro i j l h1 h2 h3 h4 h5
    rw [e]
    by_cases c : i < j
    · rw [if_pos (by omega), swp_txt (i := i) (j := j) (by omega) (by omega) rfl rfl, w_succ (by omega), wrap_in (by omega) (by omega), show (j : Int) - 1 = ((j - 1 : Nat) : Int) by omega]
      obtain ⟨r, t1, t2⟩ := ih (i + 1) (j - 1) (swp l i j (by omega) (by omega)) (by omega) (by omega) (by omega) (by rw [swp_len]; exact h4) (by rw [swp_len]; exact h5)
      exact ⟨r, (swp_tch (by omega) (by omega) (by omega) (by omega)).trans t1, t2⟩
    · rw [if_neg (by omega)]; exact ⟨l, .refl, rfl⟩
end
theorem u64_in' {n : Int} (h0 : 0 ≤ n) (h1 : n ≤ 18446744073709551615) : IntKind.wrap .u64 n = n := by
  have : n % 18446744073709551616 = n := Int.emod_eq_of_lt h0 (by omega)
  simp [IntKind.wrap, IntKind.bits, IntKind.signed, this]
theorem u8_small {n : Nat} (h : n < 256) : IntKind.wrap .u8 (n : Int) = n := by simp [IntKind.wrap, IntKind.bits, IntKind.signed]; omega
theorem and_bd (y : Int) {z : Nat} (hz : z < 9223372036854775808) : ∃ k : Nat, k ≤ z ∧ bitsI .and .u64 y (z : Int) = (k : Int) := by
  refine ⟨(BitVec.ofInt 64 y &&& BitVec.ofInt 64 (z : Int)).toNat, ?_, ?_⟩
  · rw [BitVec.toNat_and]
    have : (BitVec.ofInt 64 (z : Int)).toNat = z := by rw [BitVec.toNat_ofInt]; omega
    rw [this]; exact Nat.and_le_right
  · show IntKind.wrap .u64 (((BitVec.ofInt 64 y &&& BitVec.ofInt 64 (z : Int)).toNat : Nat) : Int) = _
    exact u64_in' (by omega) (by have := (BitVec.ofInt 64 y &&& BitVec.ofInt 64 (z : Int)).isLt; omega)
theorem shr_nat {x s : Nat} (hs : s ≤ 64) : shrI .u64 (x : Int) (s : Int) = ((x / 2 ^ s : Nat) : Int) := by
  unfold shrI
  rw [show Int.toNat (s : Int) = s from rfl, show min s (IntKind.bits .u64) = s from Nat.min_eq_left hs]
  have : ((2 : Int) ^ s) = ((2 ^ s : Nat) : Int) := by push_cast; rfl
  rw [this, Int.fdiv_eq_ediv_of_nonneg _ (Int.natCast_nonneg _)]
  exact (Int.natCast_ediv x (2 ^ s)).symm
def len8 : ByteArray := ByteArray.mk #[0, 1, 2, 2, 3, 3, 3, 3, 4, 4, 4, 4, 4, 4, 4, 4, 5, 5, 5, 5, 5, 5, 5, 5, 5, 5, 5, 5, 5, 5, 5, 5, 6, 6, 6, 6, 6, 6, 6, 6, 6, 6, 6, 6, 6, 6, 6, 6, 6, 6, 6, 6, 6, 6, 6, 6, 6, 6, 6, 6, 6, 6, 6, 6, 7, 7, 7, 7, 7, 7, 7, 7, 7, 7, 7, 7, 7, 7, 7, 7, 7, 7, 7, 7, 7, 7, 7, 7, 7, 7, 7, 7, 7, 7, 7, 7, 7, 7, 7, 7, 7, 7, 7, 7, 7, 7, 7, 7, 7, 7, 7, 7, 7, 7, 7, 7, 7, 7, 7, 7, 7, 7, 7, 7, 7, 7, 7, 7, 8, 8, 8, 8, 8, 8, 8, 8, 8, 8, 8, 8, 8, 8, 8, 8, 8, 8, 8, 8, 8, 8, 8, 8, 8, 8, 8, 8, 8, 8, 8, 8, 8, 8, 8, 8, 8, 8, 8, 8, 8, 8, 8, 8, 8, 8, 8, 8, 8, 8, 8, 8, 8, 8, 8, 8, 8, 8, 8, 8, 8, 8, 8, 8, 8, 8, 8, 8, 8, 8, 8, 8, 8, 8, 8, 8, 8, 8, 8, 8, 8, 8, 8, 8, 8, 8, 8, 8, 8, 8, 8, 8, 8, 8, 8, 8, 8, 8, 8, 8, 8, 8, 8, 8, 8, 8, 8, 8, 8, 8, 8, 8, 8, 8, 8, 8, 8, 8, 8, 8, 8, 8, 8, 8, 8, 8, 8, 8]
def len8ok (x : Nat) : Bool := match gb len8 (x : Int) with | some t => decide (0 ≤ t ∧ t ≤ 8 ∧ 2 ^ t.toNat ≤ 2 * x + (if x = 0 then 1 else 0)) | none => false
theorem len8_all : (List.range 256).all len8ok = true := by decide +kernel
theorem len8_at {x : Nat} (h : x < 256) : ∃ t : Nat, gb len8 (x : Int) = some (t : Int) ∧ t ≤ 8 ∧ (1 ≤ x → 2 ^ t ≤ 2 * x) := by
  have h1 := List.all_eq_true.1 len8_all x (List.mem_range.2 h)
  unfold len8ok at h1
  cases hg : gb len8 (x : Int) with
  | none => rw [hg] at h1; cases h1
  | some t =>
    rw [hg] at h1
    have h2 := of_decide_eq_true h1
    refine ⟨t.toNat, ?_, by omega, fun hx => ?_⟩
    · rw [Int.toNat_of_nonneg h2.1]
    · have := h2.2.2; rw [if_neg (by omega)] at this; exact this
theorem len_val {j0 j1 j2 : Int → Int → Option Int} {F : Int → Option Int}
    (e : ∀ x, F x = if x ≥ (4294967296 : Int) then j0 (shrI .u64 x (32 : Int)) (32 : Int) else j0 x (0 : Int))
    (e0 : ∀ x n, j0 x n = if x ≥ (65536 : Int) then j1 (shrI .u64 x (16 : Int)) (IntKind.wrap .i64 (n + (16 : Int))) else j1 x n)
    (e1 : ∀ x n, j1 x n = if x ≥ (256 : Int) then j2 (shrI .u64 x (8 : Int)) (IntKind.wrap .i64 (n + (8 : Int))) else j2 x n)
    (e2 : ∀ x n, j2 x n = Option.bind (gb len8 (IntKind.wrap .u8 x)) fun y1 => some (IntKind.wrap .i64 (n + IntKind.wrap .i64 y1)))
    (x : Nat) (hx : x < 18446744073709551616) : ∃ k : Nat, F (x : Int) = some (k : Int) ∧ k ≤ 64 ∧ (1 ≤ x → 2 ^ k ≤ 2 * x) := by
  have s2 : ∀ (y n : Nat), y < 256 → n ≤ 56 → ∃ k : Nat, j2 (y : Int) (n : Int) = some (k : Int) ∧ k ≤ n + 8 ∧ (1 ≤ y → 2 ^ k ≤ 2 ^ n * (2 * y)) := by
    intro y n hy hn
    obtain ⟨t, t1, t2, t3⟩ := len8_at hy
    refine ⟨n + t, ?_, by omega, fun h => ?_⟩
    · rw [e2, u8_small hy, t1, Option.bind_some, wrap_in (n := (t : Int)) (by omega) (by omega), wrap_in (by omega) (by omega)]; rfl
    · rw [Nat.pow_add]; exact Nat.mul_le_mul_left _ (t3 h)
  have s1 : ∀ (y n : Nat), y < 65536 → n ≤ 48 → ∃ k : Nat, j1 (y : Int) (n : Int) = some (k : Int) ∧ k ≤ n + 16 ∧ (1 ≤ y → 2 ^ k ≤ 2 ^ n * (2 * y)) := by
    intro y n hy hn
    rw [e1]
    by_cases c : 256 ≤ y
    · rw [if_pos (by omega), show (8 : Int) = ((8 : Nat) : Int) from rfl, shr_nat (by omega), wrap_in (by omega) (by omega), show (n : Int) + ((8 : Nat) : Int) = ((n + 8 : Nat) : Int) from rfl]
      obtain ⟨k, k1, k2, k3⟩ := s2 (y / 2 ^ 8) (n + 8) (by omega) (by omega)
      refine ⟨k, k1, by omega, fun h => Nat.le_trans (k3 (by omega)) ?_⟩
      rw [Nat.pow_add, Nat.mul_assoc]
      exact Nat.mul_le_mul_left _ (by omega)
    · rw [if_neg (by omega)]
      obtain ⟨k, k1, k2, k3⟩ := s2 y n (by omega) (by omega)
      exact ⟨k, k1, by omega, k3⟩
  have s0 : ∀ (y n : Nat), y < 4294967296 → n ≤ 32 → ∃ k : Nat, j0 (y : Int) (n : Int) = some (k : Int) ∧ k ≤ n + 32 ∧ (1 ≤ y → 2 ^ k ≤ 2 ^ n * (2 * y)) := by
    intro y n hy hn
    rw [e0]
    by_cases c : 65536 ≤ y
    · rw [if_pos (by omega), show (16 : Int) = ((16 : Nat) : Int) from rfl, shr_nat (by omega), wrap_in (by omega) (by omega), show (n : Int) + ((16 : Nat) : Int) = ((n + 16 : Nat) : Int) from rfl]
      obtain ⟨k, k1, k2, k3⟩ := s1 (y / 2 ^ 16) (n + 16) (by omega) (by omega)
      refine ⟨k, k1, by omega, fun h => Nat.le_trans (k3 (by omega)) ?_⟩
      rw [Nat.pow_add, Nat.mul_assoc]
      exact Nat.mul_le_mul_left _ (by omega)
    · rw [if_neg (by omega)]
      obtain ⟨k, k1, k2, k3⟩ := s1 y n (by omega) (by omega)
      exact ⟨k, k1, by omega, k3⟩
  rw [e]
  by_cases c : 4294967296 ≤ x
  · rw [if_pos (by omega), show (32 : Int) = ((32 : Nat) : Int) from rfl, shr_nat (by omega)]
    obtain ⟨k, k1, k2, k3⟩ := s0 (x / 2 ^ 32) 32 (by omega) (by omega)
    exact ⟨k, k1, by omega, fun h => Nat.le_trans (k3 (by omega)) (by omega)⟩
  · rw [if_neg (by omega)]
    obtain ⟨k, k1, k2, k3⟩ := s0 x 0 (by omega) (by omega)
    exact ⟨k, k1, by omega, fun h => Nat.le_trans (k3 h) (by omega)⟩
theorem shl_one {k : Nat} (h : 2 ^ k ≤ 9223372036854775808) : shlI .u64 (1 : Int) (k : Int) = ((2 ^ k : Nat) : Int) := by
  have hk : k ≤ 63 := by
    rcases Nat.lt_or_ge 63 k with h' | h'
    · have := Nat.pow_le_pow_right (n := 2) (by omega) (show 64 ≤ k from h'); omega
    · exact h'
  unfold shlI
  rw [show Int.toNat (k : Int) = k from rfl, show min k (IntKind.bits .u64) = k from Nat.min_eq_left (by show k ≤ 64; omega)]
  have : ((1 : Int) * 2 ^ k) = ((2 ^ k : Nat) : Int) := by push_cast; omega
  rw [this]
  exact u64_in' (Int.natCast_nonneg _) (by omega)
section
variable {α : Type}
theorem brk_val {F : List α → Int → Int → Int → Int → Int → Option (List α)} {J : List α → Int → Int → Int → Int → Int → Int → Option (List α)} {nx : Int → Option (Int × Int)} (hn : ∀ y, ∃ p, nx y = some p)
    (e0 : ∀ l a n y m i, F l a n y m i = if i ≤ IntKind.wrap .i64 (IntKind.wrap .i64 (a + IntKind.wrap .i64 (IntKind.wrap .i64 (Int.tdiv n 4) * 2)) + 1) then (nx y).bind fun y1 => if IntKind.wrap .i64 (bitsI .and .u64 y1.1 (IntKind.wrap .u64 (m - 1))) ≥ n then J l a n y1.2 m i (IntKind.wrap .i64 (IntKind.wrap .i64 (bitsI .and .u64 y1.1 (IntKind.wrap .u64 (m - 1))) - n)) else J l a n y1.2 m i (IntKind.wrap .i64 (bitsI .and .u64 y1.1 (IntKind.wrap .u64 (m - 1)))) else some l)
    (e1 : ∀ l a n y m i o, J l a n y m i o = (gi l (IntKind.wrap .i64 (a + o))).bind fun y1 => (gi l i).bind fun y8 => (gi l i).bind fun _ => (some (l.set (Int.toNat i) y1)).bind fun l24 => (gi l24 (IntKind.wrap .i64 (a + o))).bind fun _ => (some (l24.set (Int.toNat (IntKind.wrap .i64 (a + o))) y8)).bind fun l35 => F l35 a n y m (IntKind.wrap .i64 (i + 1)))
    {a n m : Nat} (hm1 : 1 ≤ m) (hm2 : m ≤ 2 * n) (hn8 : 8 ≤ n) : ∀ (d i : Nat) (l : List α) (y : Int), i + d = a + n / 4 * 2 + 2 → a ≤ i → a + n ≤ l.length → l.length ≤ 1000000000000000000 → ∃ r, Tch a (a + n) l r ∧ F l (a : Int) (n : Int) y (m : Int) (i : Int) = some r := by
  intro d
  have w4 : Int.tdiv (n : Int) 4 = ((n / 4 : Nat) : Int) := by rw [Int.tdiv_eq_ediv_of_nonneg (by omega)]; omega
  induction d with
  | zero =>
    intro i l y h1 h2 h3 h4
    refine ⟨l, .refl, ?_⟩
    rw [e0, w4, wrap_in (n := ((n / 4 : Nat) : Int)) (by omega) (by omega), wrap_in (n := ((n / 4 : Nat) : Int) * 2) (by omega) (by omega), wrap_in (n := (a : Int) + ((n / 4 : Nat) : Int) * 2) (by omega) (by omega), wrap_in (by omega) (by omega), if_neg (by omega)]
  | succ d ih =>
    intro i l y h1 h2 h3 h4
    rw [e0, w4, wrap_in (n := ((n / 4 : Nat) : Int)) (by omega) (by omega), wrap_in (n := ((n / 4 : Nat) : Int) * 2) (by omega) (by omega), wrap_in (n := (a : Int) + ((n / 4 : Nat) : Int) * 2) (by omega) (by omega), wrap_in (n := (a : Int) + ((n / 4 : Nat) : Int) * 2 + 1) (by omega) (by omega), if_pos (by omega)]
    obtain ⟨p, hp⟩ := hn y
    rw [hp, Option.bind_some, u64_in' (n := (m : Int) - 1) (by omega) (by omega), show (m : Int) - 1 = ((m - 1 : Nat) : Int) by omega]
    obtain ⟨k, k1, k2⟩ := and_bd p.1 (z := m - 1) (by omega)
    rw [k2, wrap_in (n := (k : Int)) (by omega) (by omega)]
    have step : ∀ (o : Nat), o < n → ∃ r, Tch a (a + n) l r ∧ J l (a : Int) (n : Int) p.2 (m : Int) (i : Int) (o : Int) = some r := by
      intro o ho
      rw [e1, wrap_in (n := (a : Int) + (o : Int)) (by omega) (by omega), swp_txt (i := i) (j := a + o) (by omega) (by omega) rfl (by omega), w_succ (by omega)]
      obtain ⟨r, t1, t2⟩ := ih (i + 1) (swp l i (a + o) (by omega) (by omega)) p.2 (by omega) (by omega) (by rw [swp_len]; exact h3) (by rw [swp_len]; exact h4)
      exact ⟨r, (swp_tch (by omega) (by omega) (by omega) (by omega)).trans t1, t2⟩
    by_cases c : n ≤ k
    · rw [if_pos (by omega), wrap_in (by omega) (by omega), show (k : Int) - (n : Int) = ((k - n : Nat) : Int) by omega]
      exact step _ (by omega)
    · rw [if_neg (by omega)]
      exact step _ (by omega)
end
end Go.Hw

end
section
set_option linter.unusedVariables false
namespace Go.Hw
open Go
section
variable {α : Type} [LE α] {lt : α → α → Bool} {less : α → α → Option Bool}
theorem heapSort_val (od : Ord3 lt) (hl : ∀ x y, less x y = some (lt x y)) {f : List α → Int → Int → Int → Option (List α)} {J1 : List α → Int → Int → Int → Int → Bool → Option (List α)} {J0 : List α → Int → Int → Int → Int → Option (List α)}
    (e : ∀ l hi a x, f l hi a x = if IntKind.wrap .i64 (IntKind.wrap .i64 (2 * x) + 1) ≥ hi then some l else if IntKind.wrap .i64 (IntKind.wrap .i64 (IntKind.wrap .i64 (2 * x) + 1) + 1) < hi then (gi l (IntKind.wrap .i64 (a + IntKind.wrap .i64 (IntKind.wrap .i64 (2 * x) + 1)))).bind fun y1 => (gi l (IntKind.wrap .i64 (IntKind.wrap .i64 (a + IntKind.wrap .i64 (IntKind.wrap .i64 (2 * x) + 1)) + 1))).bind fun y8 => (less y1 y8).bind fun c => J1 l hi a x (IntKind.wrap .i64 (IntKind.wrap .i64 (2 * x) + 1)) c else J1 l hi a x (IntKind.wrap .i64 (IntKind.wrap .i64 (2 * x) + 1)) false)
    (e1 : ∀ l hi a x c b, J1 l hi a x c b = if b = true then J0 l hi a x (IntKind.wrap .i64 (c + 1)) else J0 l hi a x c)
    (e0 : ∀ l hi a x c, J0 l hi a x c = (gi l (IntKind.wrap .i64 (a + x))).bind fun y1 => (gi l (IntKind.wrap .i64 (a + c))).bind fun y8 => (less y1 y8).bind fun q => if q = true then ((gi l (IntKind.wrap .i64 (a + c))).bind fun y1 => (gi l (IntKind.wrap .i64 (a + x))).bind fun y8 => (gi l (IntKind.wrap .i64 (a + x))).bind fun _ => (some (l.set (Int.toNat (IntKind.wrap .i64 (a + x))) y1)).bind fun l24 => (gi l24 (IntKind.wrap .i64 (a + c))).bind fun _ => (some (l24.set (Int.toNat (IntKind.wrap .i64 (a + c))) y8)).bind fun l35 => f l35 hi a c) else some l)
    {G : List α → Int → Int → Int → Option (List α)} {f0 : List α → Int → Int → Int → Int → Option (List α)} {f1 : List α → Int → Int → Int → Option (List α)} {H : List α → Int → Int → Option (List α)}
    (eG : ∀ l lo hi a, G l lo hi a = f l hi a lo)
    (h0 : ∀ l a lo hi i, f0 l a lo hi i = if i ≥ 0 then (G l i hi a).bind fun y1 => f0 y1 a lo hi (IntKind.wrap .i64 (i - 1)) else f1 l a lo (IntKind.wrap .i64 (hi - 1)))
    (h1 : ∀ l a lo i, f1 l a lo i = if i ≥ 0 then ((gi l (IntKind.wrap .i64 (a + i))).bind fun y1 => (gi l a).bind fun y8 => (gi l a).bind fun _ => (some (l.set (Int.toNat a) y1)).bind fun l24 => (gi l24 (IntKind.wrap .i64 (a + i))).bind fun _ => (some (l24.set (Int.toNat (IntKind.wrap .i64 (a + i))) y8)).bind fun l35 => (G l35 lo i a).bind fun y => f1 y a lo (IntKind.wrap .i64 (i - 1))) else some l)
    (hH : ∀ l a b, H l a b = f0 l a 0 (IntKind.wrap .i64 (b - a)) (IntKind.wrap .i64 (Int.tdiv (IntKind.wrap .i64 (IntKind.wrap .i64 (b - a) - 1)) 2)))
    {a b : Nat} {l : List α} (hab : a < b) (hb : b ≤ l.length) (hlen : l.length ≤ 1000000000000000000) : ∃ r, Tch a b l r ∧ Srt a b r ∧ H l (a : Int) (b : Int) = some r := by
  obtain ⟨m, rfl⟩ : ∃ m, b = a + m := ⟨b - a, by omega⟩
  have sv : ∀ (l : List α) (lo hi x : Nat), hi ≤ m → a + hi ≤ l.length → l.length ≤ 1000000000000000000 → lo ≤ x → x < hi → Heap2 a lo hi x l → (∀ p c (hp : a + p < l.length) (hc : a + c < l.length), lo ≤ p → (x = 2 * p + 1 ∨ x = 2 * p + 2) → (c = 2 * x + 1 ∨ c = 2 * x + 2) → c < hi → l[a + c] ≤ l[a + p]) → ∃ r, Tch (a + lo) (a + hi) l r ∧ Heap2 a lo hi hi r ∧ f l (hi : Int) (a : Int) (x : Int) = some r :=
    fun l lo hi x g1 g2 g3 g4 g5 g6 g7 => sift_val od hl e e1 e0 (a := a) (lo := lo) (hi := hi) hi x l (by omega) g4 g5 g2 g3 g6 g7
  have e2 : ∀ x : List α, f1 x (a : Int) 0 (IntKind.wrap .i64 ((m : Int) - 1)) = f1 x (a : Int) 0 ((m : Int) - 1) := fun x => by rw [wrap_in (by omega) (by omega)]
  obtain ⟨r, t1, t2, t3⟩ := heap_build (a := a) (hi := m) (f0 := f0) (sift := G) (E := fun l => f1 l (a : Int) 0 ((m : Int) - 1)) (fun l lo x g1 g2 g3 g4 g5 g6 => by
    rw [eG]
    exact sv l lo m x (Nat.le_refl _) g1 g2 g3 g4 g5 (fun p c hp hc hlp hpx => absurd hpx (g6 p hlp))) (fun l i => by rw [h0, e2]) ((m - 1) / 2 + 1) l (by omega) hb hlen (fun k c hk hc hlk hkc hch _ => by omega)
  have w2 : Int.tdiv ((m : Int) - 1) 2 = (((m - 1) / 2 + 1 : Nat) : Int) - 1 := by rw [Int.tdiv_eq_ediv_of_nonneg (by omega)]; omega
  obtain ⟨s, u1, u2, u3⟩ := heap_down od (a := a) (hi := m) (f1 := f1) (sift := G) (fun l k g1 g2 g3 g4 => by
    rw [eG]
    by_cases hk : k = 0
    · subst hk
      refine ⟨l, .refl, g4, ?_⟩
      rw [e, if_pos (by decide)]
    · have hr := sv l 0 k 0 g1 (by omega) g3 (Nat.le_refl _) (by omega) g4 (fun p c hp hc _ hpx => by omega)
      simpa using hr) (fun l i => h1 l (a : Int) 0 i) m r (Nat.le_refl _) (by rw [t1.len]; exact hb) (by rw [t1.len]; exact hlen) t2 (fun i j hi hj g1 g2 g3 => by omega) (fun u v hu hv g1 g2 g3 => by omega)
  refine ⟨s, t1.trans u1, u2, ?_⟩
  rw [hH, wrap_in (n := ((a + m : Nat) : Int) - (a : Int)) (by omega) (by omega), show ((a + m : Nat) : Int) - (a : Int) = (m : Int) by omega, wrap_in (n := (m : Int) - 1) (by omega) (by omega), w2, wrap_in (by omega) (by omega), t3, u3]
def InR (a b : Nat) (x : Int) : Prop := ∃ k : Nat, x = (k : Int) ∧ a ≤ k ∧ k < b
theorem InR.of {a b k : Nat} (h1 : a ≤ k) (h2 : k < b) : InR a b (k : Int) := ⟨k, rfl, h1, h2⟩
omit [LE α] in
theorem order2_val (hl : ∀ x y, less x y = some (lt x y)) {o : List α → Int → Int → Int → Option (Int × Int × Int)}
    (e : ∀ l x1 x2 y3, o l x1 x2 y3 = (gi l x2).bind fun y1 => (gi l x1).bind fun y8 => (less y1 y8).bind fun y15 => if y15 = true then some (x2, x1, IntKind.wrap .i64 (y3 + 1)) else some (x1, x2, y3))
    {a b : Nat} {l : List α} (hb : b ≤ l.length) {x1 x2 y : Int} (h1 : InR a b x1) (h2 : InR a b x2) : ∃ u v w, o l x1 x2 y = some (u, v, w) ∧ InR a b u ∧ InR a b v := by
  obtain ⟨i, rfl, i1, i2⟩ := h1
  obtain ⟨j, rfl, j1, j2⟩ := h2
  rw [e, gi_at (show j < l.length by omega), Option.bind_some, gi_at (show i < l.length by omega), Option.bind_some, hl, Option.bind_some]
  split
  · exact ⟨_, _, _, rfl, .of j1 j2, .of i1 i2⟩
  · exact ⟨_, _, _, rfl, .of i1 i2, .of j1 j2⟩
omit [LE α] in
theorem median_val (hl : ∀ x y, less x y = some (lt x y)) {o : List α → Int → Int → Int → Option (Int × Int × Int)}
    (e : ∀ l x1 x2 y3, o l x1 x2 y3 = (gi l x2).bind fun y1 => (gi l x1).bind fun y8 => (less y1 y8).bind fun y15 => if y15 = true then some (x2, x1, IntKind.wrap .i64 (y3 + 1)) else some (x1, x2, y3))
    {md : List α → Int → Int → Int → Int → Option (Int × Int)} (em : ∀ l x1 x2 x3 y4, md l x1 x2 x3 y4 = (o l x1 x2 y4).bind fun y1 => (o l y1.2.1 x3 y1.2.2).bind fun y15 => (o l y1.1 y15.1 y15.2.2).bind fun y29 => some (y29.2.1, y29.2.2))
    {a b : Nat} {l : List α} (hb : b ≤ l.length) {x1 x2 x3 y : Int} (h1 : InR a b x1) (h2 : InR a b x2) (h3 : InR a b x3) : ∃ u w, md l x1 x2 x3 y = some (u, w) ∧ InR a b u := by
  obtain ⟨u, v, w, q1, q2, q3⟩ := order2_val hl e hb (y := y) h1 h2
  obtain ⟨u', v', w', q4, q5, q6⟩ := order2_val hl e hb (y := w) q3 h3
  obtain ⟨u'', v'', w'', q7, q8, q9⟩ := order2_val hl e hb (y := w') q2 q5
  exact ⟨v'', w'', by rw [em, q1, Option.bind_some, q4, Option.bind_some, q7, Option.bind_some], q9⟩
omit [LE α] in
theorem choose_val (hl : ∀ x y, less x y = some (lt x y)) {o : List α → Int → Int → Int → Option (Int × Int × Int)}
    (e : ∀ l x1 x2 y3, o l x1 x2 y3 = (gi l x2).bind fun y1 => (gi l x1).bind fun y8 => (less y1 y8).bind fun y15 => if y15 = true then some (x2, x1, IntKind.wrap .i64 (y3 + 1)) else some (x1, x2, y3))
    {md : List α → Int → Int → Int → Int → Option (Int × Int)} (em : ∀ l x1 x2 x3 y4, md l x1 x2 x3 y4 = (o l x1 x2 y4).bind fun y1 => (o l y1.2.1 x3 y1.2.2).bind fun y15 => (o l y1.1 y15.1 y15.2.2).bind fun y29 => some (y29.2.1, y29.2.2))
    {ma : List α → Int → Int → Option (Int × Int)} (ea : ∀ l x y, ma l x y = (md l (IntKind.wrap .i64 (x - 1)) x (IntKind.wrap .i64 (x + 1)) y).bind fun y1 => some (y1.1, y1.2))
    {j0 : Int → Int → Option (Int × Int)} (e0 : ∀ y x, j0 y x = if y = 0 then some (x, 1) else if y = 12 then some (x, 2) else some (x, 0))
    {j1 : List α → Int → Int → Int → Int → Option (Int × Int)} (e1 : ∀ l y x1 x2 x3, j1 l y x1 x2 x3 = (md l x1 x2 x3 y).bind fun y1 => j0 y1.2 y1.1)
    {ch : List α → Int → Int → Option (Int × Int)} (ec : ∀ l a b, ch l a b = if IntKind.wrap .i64 (b - a) ≥ 8 then (if IntKind.wrap .i64 (b - a) ≥ 50 then (ma l (IntKind.wrap .i64 (a + IntKind.wrap .i64 (IntKind.wrap .i64 (Int.tdiv (IntKind.wrap .i64 (b - a)) 4) * 1))) 0).bind fun y5 => (ma l (IntKind.wrap .i64 (a + IntKind.wrap .i64 (IntKind.wrap .i64 (Int.tdiv (IntKind.wrap .i64 (b - a)) 4) * 2))) y5.2).bind fun y20 => (ma l (IntKind.wrap .i64 (a + IntKind.wrap .i64 (IntKind.wrap .i64 (Int.tdiv (IntKind.wrap .i64 (b - a)) 4) * 3))) y20.2).bind fun y34 => j1 l y34.2 y5.1 y20.1 y34.1 else j1 l 0 (IntKind.wrap .i64 (a + IntKind.wrap .i64 (IntKind.wrap .i64 (Int.tdiv (IntKind.wrap .i64 (b - a)) 4) * 1))) (IntKind.wrap .i64 (a + IntKind.wrap .i64 (IntKind.wrap .i64 (Int.tdiv (IntKind.wrap .i64 (b - a)) 4) * 2))) (IntKind.wrap .i64 (a + IntKind.wrap .i64 (IntKind.wrap .i64 (Int.tdiv (IntKind.wrap .i64 (b - a)) 4) * 3)))) else j0 0 (IntKind.wrap .i64 (a + IntKind.wrap .i64 (IntKind.wrap .i64 (Int.tdiv (IntKind.wrap .i64 (b - a)) 4) * 2))))
    {a b : Nat} {l : List α} (hab : a + 12 < b) (hb : b ≤ l.length) (hlen : l.length ≤ 1000000000000000000) : ∃ u w, ch l (a : Int) (b : Int) = some (u, w) ∧ InR a b u := by
  have hj0 : ∀ y x, InR a b x → ∃ u w, j0 y x = some (u, w) ∧ InR a b u := by
    intro y x hx
    rw [e0]
    split
    · exact ⟨_, _, rfl, hx⟩
    · split
      · exact ⟨_, _, rfl, hx⟩
      · exact ⟨_, _, rfl, hx⟩
  have hj1 : ∀ y x1 x2 x3, InR a b x1 → InR a b x2 → InR a b x3 → ∃ u w, j1 l y x1 x2 x3 = some (u, w) ∧ InR a b u := by
    intro y x1 x2 x3 g1 g2 g3
    obtain ⟨u, w, q1, q2⟩ := median_val hl e em hb (y := y) g1 g2 g3
    rw [e1, q1, Option.bind_some]
    exact hj0 _ _ q2
  have hma : ∀ (k : Nat) y, a + 1 ≤ k → k + 1 < b → ∃ u w, ma l (k : Int) y = some (u, w) ∧ InR a b u := by
    intro k y g1 g2
    obtain ⟨u, w, q1, q2⟩ := median_val hl e em hb (y := y) (InR.of (k := k - 1) (show a ≤ k - 1 by omega) (by omega)) (InR.of (k := k) (show a ≤ k by omega) (by omega)) (InR.of (k := k + 1) (show a ≤ k + 1 by omega) g2)
    refine ⟨u, w, ?_, q2⟩
    rw [ea, wrap_in (n := (k : Int) - 1) (by omega) (by omega), show (k : Int) - 1 = ((k - 1 : Nat) : Int) by omega, w_succ (by omega), q1, Option.bind_some]
  have w4 : Int.tdiv ((b - a : Nat) : Int) 4 = (((b - a) / 4 : Nat) : Int) := by rw [Int.tdiv_eq_ediv_of_nonneg (by omega)]; omega
  rw [ec, wrap_in (n := (b : Int) - (a : Int)) (by omega) (by omega), show (b : Int) - (a : Int) = ((b - a : Nat) : Int) by omega, w4, if_pos (by omega), wrap_in (n := (((b - a) / 4 : Nat) : Int)) (by omega) (by omega)]
  rw [wrap_in (n := (((b - a) / 4 : Nat) : Int) * 1) (by omega) (by omega), wrap_in (n := (((b - a) / 4 : Nat) : Int) * 2) (by omega) (by omega), wrap_in (n := (((b - a) / 4 : Nat) : Int) * 3) (by omega) (by omega)]
  rw [wrap_in (n := (a : Int) + (((b - a) / 4 : Nat) : Int) * 1) (by omega) (by omega), wrap_in (n := (a : Int) + (((b - a) / 4 : Nat) : Int) * 2) (by omega) (by omega), wrap_in (n := (a : Int) + (((b - a) / 4 : Nat) : Int) * 3) (by omega) (by omega)]
  rw [show (a : Int) + (((b - a) / 4 : Nat) : Int) * 1 = ((a + (b - a) / 4 : Nat) : Int) by omega, show (a : Int) + (((b - a) / 4 : Nat) : Int) * 2 = ((a + (b - a) / 4 * 2 : Nat) : Int) by omega, show (a : Int) + (((b - a) / 4 : Nat) : Int) * 3 = ((a + (b - a) / 4 * 3 : Nat) : Int) by omega]
  by_cases c : 50 ≤ b - a
  · rw [if_pos (by omega)]
    obtain ⟨u1, w1, q1, q2⟩ := hma (a + (b - a) / 4) 0 (by omega) (by omega)
    rw [q1, Option.bind_some]
    obtain ⟨u2, w2, q3, q4⟩ := hma (a + (b - a) / 4 * 2) w1 (by omega) (by omega)
    rw [q3, Option.bind_some]
    obtain ⟨u3, w3, q5, q6⟩ := hma (a + (b - a) / 4 * 3) w2 (by omega) (by omega)
    rw [q5, Option.bind_some]
    exact hj1 _ _ _ _ q2 q4 q6
  · rw [if_neg (by omega)]
    exact hj1 _ _ _ _ (.of (by omega) (by omega)) (.of (by omega) (by omega)) (.of (by omega) (by omega))
def Pre (a b : Nat) (l : List α) : Prop := ∀ i (h0 : a - 1 < l.length) (hi : i < l.length), 0 < a → a ≤ i → i < b → l[a - 1] ≤ l[i]
theorem Pre.tch {a b : Nat} {l r : List α} (h : Pre a b l) (t : Tch a b l r) (hab : a ≤ b) (hb : b ≤ l.length) : Pre a b r := by
  intro i h0 hi h1 h2 h3
  have hl := t.len
  rw [t.at (i := a - 1) (by omega) (.inl (by omega))]
  exact t.all (P := fun x => l[a - 1]'(by omega) ≤ x) hab hb (fun j hj j1 j2 => h j (by omega) hj h1 j1 j2) i hi h2 h3
theorem Srt.keep {a b c d : Nat} {l r : List α} (h : Srt a b l) (t : Tch c d l r) (hd : b ≤ c ∨ d ≤ a) : Srt a b r := by
  intro i j hi hj h1 h2 h3
  have hl := t.len
  rw [t.at (i := i) (by omega) (by omega), t.at (i := j) (by omega) (by omega)]
  exact h i j _ _ h1 h2 h3
end
end Go.Hw

end
section
set_option linter.unusedVariables false
namespace Go.Hw
open Go
section
variable {α : Type} [LE α] {lt : α → α → Bool} {less : α → α → Option Bool}
theorem pins_down (od : Ord3 lt) (hl : ∀ x y, less x y = some (lt x y)) {β : Type} {F : List α → Int → Option β} {E : List α → Option β}
    (e : ∀ l j, F l j = if j ≥ 1 then (gi l j).bind fun y1 => (gi l (IntKind.wrap .i64 (j - 1))).bind fun y8 => (less y1 y8).bind fun c => if c = true then ((gi l (IntKind.wrap .i64 (j - 1))).bind fun y1 => (gi l j).bind fun y8 => (gi l j).bind fun _ => (some (l.set (Int.toNat j) y1)).bind fun l24 => (gi l24 (IntKind.wrap .i64 (j - 1))).bind fun _ => (some (l24.set (Int.toNat (IntKind.wrap .i64 (j - 1))) y8)).bind fun l35 => F l35 (IntKind.wrap .i64 (j - 1))) else E l else E l)
    {a i : Nat} : ∀ (d j : Nat) (l : List α), a + d = j → j < i → i ≤ l.length → l.length ≤ 1000000000000000000 → Pre a i l →
      (∀ p q (hp : p < l.length) (hq : q < l.length), a ≤ p → p < q → q < i → p ≠ j → q ≠ j → l[p] ≤ l[q]) → (∀ q (hj : j < l.length) (hq : q < l.length), j < q → q < i → l[j] ≤ l[q]) →
      ∃ r, Tch a i l r ∧ Srt a i r ∧ F l (j : Int) = E r := by
  intro d
  induction d with
  | zero =>
    intro j l hj hji hil hlen hpre h1 h2
    have hs : Srt a i l := by
      intro p q hp hq hap hpq hqi
      by_cases c : p = j
      · subst c; exact h2 q hp hq hpq hqi
      · exact h1 p q hp hq hap hpq hqi c (by omega)
    refine ⟨l, .refl, hs, ?_⟩
    rw [e]
    by_cases c : 1 ≤ j
    · have hw : IntKind.wrap .i64 ((j : Int) - 1) = ((j - 1 : Nat) : Int) := by rw [wrap_in (by omega) (by omega)]; omega
      rw [if_pos (by omega), hw, gi_at (show j < l.length by omega), Option.bind_some, gi_at (show j - 1 < l.length by omega), Option.bind_some, hl, Option.bind_some, if_neg]
      have : j = a := by omega
      subst this
      rw [od.nn (hpre j (by omega) (by omega) (by omega) (Nat.le_refl _) hji)]
      decide
    · rw [if_neg (by omega)]
  | succ d ih =>
    intro j l hj hji hil hlen hpre h1 h2
    have hjl : j < l.length := by omega
    have hw : IntKind.wrap .i64 ((j : Int) - 1) = ((j - 1 : Nat) : Int) := by rw [wrap_in (by omega) (by omega)]; omega
    rw [e, if_pos (by omega), hw, swp_txt (i := j) (j := j - 1) hjl (by omega) rfl rfl, gi_at hjl, Option.bind_some, gi_at (show j - 1 < l.length by omega), Option.bind_some, hl, Option.bind_some]
    by_cases g : lt l[j] l[j - 1] = true
    · rw [if_pos g]
      have hT : Tch a i l (swp l j (j - 1) hjl (by omega)) := swp_tch (by omega) (by omega) (by omega) (by omega)
      obtain ⟨r, t1, t2, t3⟩ := ih (j - 1) (swp l j (j - 1) hjl (by omega)) (by omega) (by omega) (by rw [swp_len]; exact hil) (by rw [swp_len]; exact hlen) (hpre.tch hT (by omega) hil) (fun p q hp hq hap hpq hqi hpj hqj => by
        rw [swp_get p hp, swp_get q hq, if_neg hpj, if_neg hqj]
        by_cases c1 : p = j
        · rw [if_pos c1, if_neg (by omega)]
          exact h1 (j - 1) q (by omega) (by rw [swp_len] at hq; exact hq) (by omega) (by omega) hqi (by omega) (by omega)
        · rw [if_neg c1]
          by_cases c2 : q = j
          · rw [if_pos c2]
            exact h1 p (j - 1) (by rw [swp_len] at hp; exact hp) (by omega) hap (by omega) (by omega) (by omega) (by omega)
          · rw [if_neg c2]
            exact h1 p q _ _ hap hpq hqi c1 c2) (fun q hj' hq hjq hqi => by
        rw [swp_get (j - 1) hj', swp_get q hq, if_pos rfl, if_neg (by omega)]
        by_cases c : q = j
        · rw [if_pos c]; exact od.yes g
        · rw [if_neg c]
          exact h2 q hjl (by rw [swp_len] at hq; exact hq) (by omega) hqi)
      exact ⟨r, hT.trans t1, t2, t3⟩
    · rw [if_neg g]
      refine ⟨l, .refl, fun p q hp hq hap hpq hqi => ?_, rfl⟩
      have gg : l[j - 1] ≤ l[j] := od.no (Bool.eq_false_iff.2 g)
      by_cases c1 : p = j
      · subst c1; exact h2 q hp hq hpq hqi
      · by_cases c2 : q = j
        · subst c2
          by_cases c3 : p = q - 1
          · subst c3; exact gg
          · exact od.tr (h1 p (q - 1) hp (by omega) hap (by omega) (by omega) (by omega) (by omega)) gg
        · exact h1 p q hp hq hap hpq hqi c1 c2
omit [LE α] in
theorem pins_up (hl : ∀ x y, less x y = some (lt x y)) {β : Type} {F : List α → Int → Option β} {E : List α → Option β} {b : Nat}
    (e : ∀ l j, F l j = if j < (b : Int) then (gi l j).bind fun y1 => (gi l (IntKind.wrap .i64 (j - 1))).bind fun y8 => (less y1 y8).bind fun c => if c = true then ((gi l (IntKind.wrap .i64 (j - 1))).bind fun y1 => (gi l j).bind fun y8 => (gi l j).bind fun _ => (some (l.set (Int.toNat j) y1)).bind fun l24 => (gi l24 (IntKind.wrap .i64 (j - 1))).bind fun _ => (some (l24.set (Int.toNat (IntKind.wrap .i64 (j - 1))) y8)).bind fun l35 => F l35 (IntKind.wrap .i64 (j + 1))) else E l else E l)
    {i : Nat} : ∀ (d j : Nat) (l : List α), j + d = b → i < j → b ≤ l.length → l.length ≤ 1000000000000000000 → ∃ r, Tch i b l r ∧ F l (j : Int) = E r := by
  intro d
  induction d with
  | zero => intro j l h1 h2 h3 h4; exact ⟨l, .refl, by rw [e, if_neg (by omega)]⟩
  | succ d ih =>
    intro j l h1 h2 h3 h4
    have hjl : j < l.length := by omega
    have hw : IntKind.wrap .i64 ((j : Int) - 1) = ((j - 1 : Nat) : Int) := by rw [wrap_in (by omega) (by omega)]; omega
    rw [e, if_pos (by omega), hw, swp_txt (i := j) (j := j - 1) hjl (by omega) rfl rfl, gi_at hjl, Option.bind_some, gi_at (show j - 1 < l.length by omega), Option.bind_some, hl, Option.bind_some]
    split
    · rw [w_succ (by omega)]
      obtain ⟨r, t1, t2⟩ := ih (j + 1) (swp l j (j - 1) hjl (by omega)) (by omega) (by omega) (by rw [swp_len]; exact h3) (by rw [swp_len]; exact h4)
      exact ⟨r, (swp_tch (by omega) (by omega) (by omega) (by omega)).trans t1, t2⟩
    · exact ⟨l, .refl, rfl⟩
theorem pins_scan (od : Ord3 lt) (hl : ∀ x y, less x y = some (lt x y)) {β : Type} {F : Int → Option β} {E : Int → Option β} {l : List α} {b : Nat}
    (e : ∀ i, F i = if i < (b : Int) then (gi l i).bind fun y1 => (gi l (IntKind.wrap .i64 (i - 1))).bind fun y8 => (less y1 y8).bind fun c => if c = true then E i else F (IntKind.wrap .i64 (i + 1)) else E i)
    {a : Nat} (hb : b ≤ l.length) (hlen : l.length ≤ 1000000000000000000) : ∀ (d i : Nat), i + d = b → a + 1 ≤ i → Srt a i l → ∃ i', i ≤ i' ∧ i' ≤ b ∧ Srt a i' l ∧ F (i : Int) = E (i' : Int) := by
  intro d
  induction d with
  | zero => intro i h1 h2 h3; exact ⟨i, Nat.le_refl _, by omega, h3, by rw [e, if_neg (by omega)]⟩
  | succ d ih =>
    intro i h1 h2 h3
    have hw : IntKind.wrap .i64 ((i : Int) - 1) = ((i - 1 : Nat) : Int) := by rw [wrap_in (by omega) (by omega)]; omega
    rw [e, if_pos (by omega), hw, gi_at (show i < l.length by omega), Option.bind_some, gi_at (show i - 1 < l.length by omega), Option.bind_some, hl, Option.bind_some]
    by_cases g : lt l[i] l[i - 1] = true
    · rw [if_pos g]; exact ⟨i, Nat.le_refl _, by omega, h3, rfl⟩
    · rw [if_neg g, w_succ (by omega)]
      have gg : l[i - 1] ≤ l[i] := od.no (Bool.eq_false_iff.2 g)
      obtain ⟨i', k1, k2, k3, k4⟩ := ih (i + 1) (by omega) (by omega) (fun p q hp hq hap hpq hqi => by
        by_cases c : q = i
        · subst c
          by_cases c2 : p = q - 1
          · subst c2; exact gg
          · exact od.tr (h3 p (q - 1) hp (by omega) hap (by omega) (by omega)) gg
        · exact h3 p q hp hq hap hpq (by omega))
      exact ⟨i', by omega, k2, k3, k4⟩
theorem pins_val (od : Ord3 lt) (hl : ∀ x y, less x y = some (lt x y)) {l0 l1 j0 j1 j2 j3 : List α → Int → Int → Int → Int → Option (Bool × List α)} {l2 l3 : List α → Int → Int → Int → Int → Int → Option (Bool × List α)} {P : List α → Int → Int → Option (Bool × List α)}
    (e0 : ∀ l a b i s, l0 l a b i s = if s < 5 then l1 l a b i s else some (false, l))
    (e1 : ∀ l a b i s, l1 l a b i s = if i < b then (gi l i).bind fun y1 => (gi l (IntKind.wrap .i64 (i - 1))).bind fun y8 => (less y1 y8).bind fun c => if c = true then j1 l a b i s else j2 l a b i s else j1 l a b i s)
    (f2 : ∀ l a b i s, j2 l a b i s = l1 l a b (IntKind.wrap .i64 (i + 1)) s)
    (f1 : ∀ l a b i s, j1 l a b i s = if i = b then some (true, l) else if IntKind.wrap .i64 (b - a) < 50 then some (false, l) else ((gi l (IntKind.wrap .i64 (i - 1))).bind fun y1 => (gi l i).bind fun y8 => (gi l i).bind fun _ => (some (l.set (Int.toNat i) y1)).bind fun l24 => (gi l24 (IntKind.wrap .i64 (i - 1))).bind fun _ => (some (l24.set (Int.toNat (IntKind.wrap .i64 (i - 1))) y8)).bind fun l35 => if IntKind.wrap .i64 (i - a) ≥ 2 then l2 l35 a b i s (IntKind.wrap .i64 (i - 1)) else j3 l35 a b i s))
    (e2 : ∀ l a b i s j, l2 l a b i s j = if j ≥ 1 then (gi l j).bind fun y1 => (gi l (IntKind.wrap .i64 (j - 1))).bind fun y8 => (less y1 y8).bind fun c => if c = true then ((gi l (IntKind.wrap .i64 (j - 1))).bind fun y1 => (gi l j).bind fun y8 => (gi l j).bind fun _ => (some (l.set (Int.toNat j) y1)).bind fun l24 => (gi l24 (IntKind.wrap .i64 (j - 1))).bind fun _ => (some (l24.set (Int.toNat (IntKind.wrap .i64 (j - 1))) y8)).bind fun l35 => l2 l35 a b i s (IntKind.wrap .i64 (j - 1))) else j3 l a b i s else j3 l a b i s)
    (f3 : ∀ l a b i s, j3 l a b i s = if IntKind.wrap .i64 (b - i) ≥ 2 then l3 l a b i s (IntKind.wrap .i64 (i + 1)) else j0 l a b i s)
    (e3 : ∀ l a b i s j, l3 l a b i s j = if j < b then (gi l j).bind fun y1 => (gi l (IntKind.wrap .i64 (j - 1))).bind fun y8 => (less y1 y8).bind fun c => if c = true then ((gi l (IntKind.wrap .i64 (j - 1))).bind fun y1 => (gi l j).bind fun y8 => (gi l j).bind fun _ => (some (l.set (Int.toNat j) y1)).bind fun l24 => (gi l24 (IntKind.wrap .i64 (j - 1))).bind fun _ => (some (l24.set (Int.toNat (IntKind.wrap .i64 (j - 1))) y8)).bind fun l35 => l3 l35 a b i s (IntKind.wrap .i64 (j + 1))) else j0 l a b i s else j0 l a b i s)
    (f0 : ∀ l a b i s, j0 l a b i s = l0 l a b i (IntKind.wrap .i64 (s + 1)))
    (eP : ∀ l a b, P l a b = l0 l a b (IntKind.wrap .i64 (a + 1)) 0)
    {a b : Nat} {l : List α} (hab : a < b) (hb : b ≤ l.length) (hlen : l.length ≤ 1000000000000000000) (hpre : Pre a b l) : ∃ t r, Tch a b l r ∧ (t = true → Srt a b r) ∧ P l (a : Int) (b : Int) = some (t, r) := by
  have main : ∀ (d s i : Nat) (l : List α), s + d = 5 → a + 1 ≤ i → i ≤ b → b ≤ l.length → l.length ≤ 1000000000000000000 → Pre a b l → Srt a i l → ∃ t r, Tch a b l r ∧ (t = true → Srt a b r) ∧ l0 l (a : Int) (b : Int) (i : Int) (s : Int) = some (t, r) := by
    intro d
    induction d with
    | zero => intro s i l h1 h2 h3 h4 h5 h6 h7; exact ⟨false, l, .refl, nofun, by rw [e0, if_neg (by omega)]⟩
    | succ d ih =>
      intro s i l h1 h2 h3 h4 h5 h6 h7
      obtain ⟨k, k1, k2, k3, k4⟩ := pins_scan od hl (F := fun i => l1 l (a : Int) (b : Int) i (s : Int)) (E := fun i => j1 l (a : Int) (b : Int) i (s : Int)) (b := b) (fun i => by rw [e1]; simp only [f2]) h4 h5 (b - i) i (by omega) h2 h7
      rw [e0, if_pos (by omega)]
      rw [k4, f1]
      by_cases c : k = b
      · subst c; exact ⟨true, l, .refl, fun _ => k3, by rw [if_pos rfl]⟩
      rw [if_neg (by omega)]
      by_cases c2 : b - a < 50
      · exact ⟨false, l, .refl, nofun, by rw [if_pos (by rw [wrap_in (by omega) (by omega)]; omega)]⟩
      rw [if_neg (by rw [wrap_in (by omega) (by omega)]; omega)]
      have hk : k < l.length := by omega
      have hw : IntKind.wrap .i64 ((k : Int) - 1) = ((k - 1 : Nat) : Int) := by rw [wrap_in (by omega) (by omega)]; omega
      rw [hw, swp_txt (i := k) (j := k - 1) hk (by omega) rfl rfl]
      have T1 : Tch a b l (swp l k (k - 1) hk (by omega)) := swp_tch (by omega) (by omega) (by omega) (by omega)
      have L1 : (swp l k (k - 1) hk (by omega)).length = l.length := swp_len
      have P1 := h6.tch T1 (by omega) h4
      -- what goes up
      have up : ∀ r : List α, Tch a b l r → Srt a k r → ∃ t r', Tch a b l r' ∧ (t = true → Srt a b r') ∧ j3 r (a : Int) (b : Int) (k : Int) (s : Int) = some (t, r') := by
        intro r T S
        have hr := T.len
        rw [f3]
        have fin : ∀ r' : List α, Tch a b l r' → Srt a k r' → ∃ t r'', Tch a b l r'' ∧ (t = true → Srt a b r'') ∧ j0 r' (a : Int) (b : Int) (k : Int) (s : Int) = some (t, r'') := by
          intro r' T' S'
          have hr' := T'.len
          obtain ⟨t, r'', q1, q2, q3⟩ := ih (s + 1) k r' (by omega) (by omega) (by omega) (by omega) (by omega) (h6.tch T' (by omega) h4) S'
          exact ⟨t, r'', T'.trans q1, q2, by rw [f0, w_succ (by omega), q3]⟩
        by_cases c3 : 2 ≤ b - k
        · rw [if_pos (by rw [wrap_in (by omega) (by omega)]; omega), w_succ (by omega)]
          obtain ⟨r', q1, q2⟩ := pins_up (i := k) hl (F := fun l j => l3 l (a : Int) (b : Int) (k : Int) (s : Int) j) (E := fun l => j0 l (a : Int) (b : Int) (k : Int) (s : Int)) (b := b) (fun l j => e3 l a b k s j) (b - (k + 1)) (k + 1) r (by omega) (by omega) (by omega) (by omega)
          obtain ⟨t, r'', u1, u2, u3⟩ := fin r' (T.trans (q1.mono (by omega) (Nat.le_refl _))) (S.keep q1 (.inl (Nat.le_refl _)))
          exact ⟨t, r'', u1, u2, by rw [q2, u3]⟩
        · rw [if_neg (by rw [wrap_in (by omega) (by omega)]; omega)]
          exact fin r T S
      by_cases c4 : 2 ≤ k - a
      · rw [if_pos (by rw [wrap_in (by omega) (by omega)]; omega)]
        obtain ⟨r, q1, q2, q3⟩ := pins_down od hl (F := fun l j => l2 l (a : Int) (b : Int) (k : Int) (s : Int) j) (E := fun l => j3 l (a : Int) (b : Int) (k : Int) (s : Int)) (fun l j => e2 l a b k s j) (a := a) (i := k) (k - 1 - a) (k - 1) (swp l k (k - 1) hk (by omega)) (by omega) (by omega) (by omega) (by omega) (fun i x0 x1 x2 x3 x4 => P1 i x0 x1 x2 x3 (by omega)) (fun p q hp hq hap hpq hqi hpj hqj => by
          rw [swp_get p hp, swp_get q hq, if_neg hpj, if_neg hqj, if_neg (by omega), if_neg (by omega)]
          exact k3 p q _ _ hap hpq (by omega)) (fun q hj hq hjq hqi => by omega)
        obtain ⟨t, r', u1, u2, u3⟩ := up r (T1.trans (q1.mono (Nat.le_refl _) (by omega))) q2
        exact ⟨t, r', u1, u2, by rw [q3, u3]⟩
      · rw [if_neg (by rw [wrap_in (by omega) (by omega)]; omega)]
        exact up _ T1 (fun p q hp hq hap hpq hqi => by omega)
  rw [eP, w_succ (by omega)]
  exact main 5 0 (a + 1) l (by omega) (Nat.le_refl _) (by omega) hb hlen hpre (fun p q hp hq hap hpq hqi => by omega)
omit [LE α] in
theorem scan_up {β : Type} {g Eg : Nat → β} {C : Nat → Bool} {n : Nat} (e : ∀ i, i < n → g i = if C i = true then g (i + 1) else Eg i) (e' : ∀ i, i = n → g i = Eg i) : ∀ (d i : Nat), i + d = n → ∃ k, i ≤ k ∧ k ≤ n ∧ (∀ q, i ≤ q → q < k → C q = true) ∧ (k < n → C k = false) ∧ g i = Eg k := by
  intro d
  induction d with
  | zero => intro i h; exact ⟨i, Nat.le_refl _, by omega, fun q h1 h2 => by omega, fun h => by omega, e' i (by omega)⟩
  | succ d ih =>
    intro i h
    rw [e i (by omega)]
    by_cases c : C i = true
    · rw [if_pos c]
      obtain ⟨k, k1, k2, k3, k4, k5⟩ := ih (i + 1) (by omega)
      exact ⟨k, by omega, k2, fun q h1 h2 => by
        by_cases hq : q = i
        · subst hq; exact c
        · exact k3 q (by omega) h2, k4, k5⟩
    · rw [if_neg c]; exact ⟨i, Nat.le_refl _, by omega, fun q h1 h2 => by omega, fun _ => Bool.eq_false_iff.2 c, rfl⟩
theorem scan_dn {β : Type} {g Eg : Nat → β} {C : Nat → Bool} {n top : Nat} (e : ∀ j, n < j → j ≤ top → g j = if C (j - 1) = true then g (j - 1) else Eg j) (e' : ∀ j, j = n → g j = Eg j) : ∀ (d j : Nat), n + d = j → j ≤ top → ∃ k, n ≤ k ∧ k ≤ j ∧ (∀ q, k ≤ q → q < j → C q = true) ∧ (n < k → C (k - 1) = false) ∧ g j = Eg k := by
  intro d
  induction d with
  | zero => intro j h ht; exact ⟨j, by omega, Nat.le_refl _, fun q h1 h2 => by omega, fun h => by omega, e' j (by omega)⟩
  | succ d ih =>
    intro j h ht
    rw [e j (by omega) ht]
    by_cases c : C (j - 1) = true
    · rw [if_pos c]
      obtain ⟨k, k1, k2, k3, k4, k5⟩ := ih (j - 1) (by omega) (by omega)
      exact ⟨k, k1, by omega, fun q h1 h2 => by
        by_cases hq : q = j - 1
        · subst hq; exact c
        · exact k3 q h1 (by omega), k4, k5⟩
    · rw [if_neg c]; exact ⟨j, by omega, Nat.le_refl _, fun q h1 h2 => by omega, fun _ => Bool.eq_false_iff.2 c, rfl⟩
def Inv (a b i j : Nat) (l : List α) : Prop := ∀ k (ha : a < l.length) (hk : k < l.length), (a < k → k < i → l[k] ≤ l[a]) ∧ (j ≤ k → k < b → l[a] ≤ l[k])
theorem Inv.swap {a b i j : Nat} {l : List α} (h : Inv a b i (j + 1) l) (hai : a < i) (hij : i ≤ j) (hjb : j < b) (hb : b ≤ l.length) (h1 : l[j] ≤ l[a]) (h2 : l[a] ≤ l[i]) : Inv a b (i + 1) j (swp l i j (by omega) (by omega)) := by
  intro k ha hk
  have hl : (swp l i j (by omega) (by omega)).length = l.length := swp_len
  rw [swp_get k hk, swp_get a ha, if_neg (show ¬ a = j by omega), if_neg (show ¬ a = i by omega)]
  refine ⟨fun g1 g2 => ?_, fun g1 g2 => ?_⟩
  · by_cases c1 : k = j
    · have : i = j := by omega
      subst this; rw [if_pos c1]; exact h1
    · rw [if_neg c1]
      by_cases c2 : k = i
      · rw [if_pos c2]; exact h1
      · rw [if_neg c2]; exact (h k (by omega) (by omega)).1 g1 (by omega)
  · by_cases c1 : k = j
    · rw [if_pos c1]; exact h2
    · rw [if_neg c1, if_neg (by omega)]; exact (h k (by omega) (by omega)).2 (by omega) g2
def Cut (a b m : Nat) (l r : List α) : Prop := Tch a b l r ∧ a ≤ m ∧ m < b ∧ ∀ k (hm : m < r.length) (hk : k < r.length), (a ≤ k → k < m → r[k] ≤ r[m]) ∧ (m < k → k < b → r[m] ≤ r[k])
theorem Inv.cut {a b j : Nat} {l0 l : List α} (h : Inv a b (j + 1) (j + 1) l) (haj : a ≤ j) (hjb : j < b) (hb : b ≤ l.length) (T : Tch a b l0 l) : Cut a b j l0 (swp l j a (by omega) (by omega)) := by
  have hl : (swp l j a (by omega) (by omega)).length = l.length := swp_len
  refine ⟨T.trans (swp_tch (by omega) (by omega) (by omega) (by omega)), haj, hjb, fun k hm hk => ?_⟩
  have hrj : (swp l j a (by omega) (by omega))[j] = l[a] := by
    rw [swp_get j hm]
    by_cases c : j = a
    · subst c; rw [if_pos rfl]
    · rw [if_neg c, if_pos rfl]
  rw [hrj, swp_get k hk]
  refine ⟨fun g1 g2 => ?_, fun g1 g2 => ?_⟩
  · by_cases c1 : k = a
    · rw [if_pos c1]; exact (h j (by omega) (by omega)).1 (by omega) (by omega)
    · rw [if_neg c1, if_neg (by omega)]; exact (h k (by omega) (by omega)).1 (by omega) (by omega)
  · rw [if_neg (by omega), if_neg (by omega)]; exact (h k (by omega) (by omega)).2 (by omega) g2
theorem part_val (od : Ord3 lt) (hl : ∀ x y, less x y = some (lt x y)) {k0 kj2 kj0 k1 kj3 J1 l2 l3 j7 j5 l4 j8 j6 : List α → Int → Int → Int → Option (Int × Bool × List α)} {j4 : List α → Int → Int → Option (Int × Bool × List α)} {P : List α → Int → Int → Int → Option (Int × Bool × List α)}
    (eP : ∀ l a b p, P l a b p = (gi l p).bind fun y1 => (gi l a).bind fun y8 => (gi l a).bind fun _ => (some (l.set (Int.toNat a) y1)).bind fun l24 => (gi l24 p).bind fun _ => (some (l24.set (Int.toNat p) y8)).bind fun l35 => k0 l35 a (IntKind.wrap .i64 (a + 1)) (IntKind.wrap .i64 (b - 1)))
    (e0 : ∀ l a i j, k0 l a i j = if i ≤ j then (gi l i).bind fun y1 => (gi l a).bind fun y8 => (less y1 y8).bind fun c => if c = true then kj2 l a i j else kj0 l a i j else kj0 l a i j)
    (f2 : ∀ l a i j, kj2 l a i j = k0 l a (IntKind.wrap .i64 (i + 1)) j)
    (f0 : ∀ l a i j, kj0 l a i j = k1 l a i j)
    (e1 : ∀ l a i j, k1 l a i j = if i ≤ j then (gi l j).bind fun y1 => (gi l a).bind fun y8 => (less y1 y8).bind fun c => if c = true then J1 l a i j else kj3 l a i j else J1 l a i j)
    (f3 : ∀ l a i j, kj3 l a i j = k1 l a i (IntKind.wrap .i64 (j - 1)))
    (f1 : ∀ l a i j, J1 l a i j = if i > j then ((gi l a).bind fun y1 => (gi l j).bind fun y8 => (gi l j).bind fun _ => (some (l.set (Int.toNat j) y1)).bind fun l24 => (gi l24 a).bind fun _ => (some (l24.set (Int.toNat a) y8)).bind fun l35 => some (j, true, l35)) else ((gi l j).bind fun y1 => (gi l i).bind fun y8 => (gi l i).bind fun _ => (some (l.set (Int.toNat i) y1)).bind fun l24 => (gi l24 j).bind fun _ => (some (l24.set (Int.toNat j) y8)).bind fun l35 => l2 l35 a (IntKind.wrap .i64 (i + 1)) (IntKind.wrap .i64 (j - 1))))
    (e2 : ∀ l a i j, l2 l a i j = l3 l a i j)
    (e3 : ∀ l a i j, l3 l a i j = if i ≤ j then (gi l i).bind fun y1 => (gi l a).bind fun y8 => (less y1 y8).bind fun c => if c = true then j7 l a i j else j5 l a i j else j5 l a i j)
    (f7 : ∀ l a i j, j7 l a i j = l3 l a (IntKind.wrap .i64 (i + 1)) j)
    (f5 : ∀ l a i j, j5 l a i j = l4 l a i j)
    (e4 : ∀ l a i j, l4 l a i j = if i ≤ j then (gi l j).bind fun y1 => (gi l a).bind fun y8 => (less y1 y8).bind fun c => if c = true then j6 l a i j else j8 l a i j else j6 l a i j)
    (f8 : ∀ l a i j, j8 l a i j = l4 l a i (IntKind.wrap .i64 (j - 1)))
    (f6 : ∀ l a i j, j6 l a i j = if i > j then j4 l a j else ((gi l j).bind fun y1 => (gi l i).bind fun y8 => (gi l i).bind fun _ => (some (l.set (Int.toNat i) y1)).bind fun l24 => (gi l24 j).bind fun _ => (some (l24.set (Int.toNat j) y8)).bind fun l35 => l2 l35 a (IntKind.wrap .i64 (i + 1)) (IntKind.wrap .i64 (j - 1))))
    (f4 : ∀ l a j, j4 l a j = (gi l a).bind fun y1 => (gi l j).bind fun y8 => (gi l j).bind fun _ => (some (l.set (Int.toNat j) y1)).bind fun l24 => (gi l24 a).bind fun _ => (some (l24.set (Int.toNat a) y8)).bind fun l35 => some (j, false, l35))
    {a b p : Nat} {l : List α} (hap : a ≤ p) (hpb : p < b) (hb : b ≤ l.length) (hlen : l.length ≤ 1000000000000000000) : ∃ (m : Nat) (t : Bool) (r : List α), Cut a b m l r ∧ P l (a : Int) (b : Int) (p : Int) = some ((m : Int), t, r) := by
  -- both ways, from i up and from j down
  have both : ∀ {U V W : List α → Int → Int → Int → Option (Int × Bool × List α)}
      (eU : ∀ l a i j, U l a i j = if i ≤ j then (gi l i).bind fun y1 => (gi l a).bind fun y8 => (less y1 y8).bind fun c => if c = true then U l a (IntKind.wrap .i64 (i + 1)) j else V l a i j else V l a i j)
      (eV : ∀ l a i j, V l a i j = if i ≤ j then (gi l j).bind fun y1 => (gi l a).bind fun y8 => (less y1 y8).bind fun c => if c = true then W l a i j else V l a i (IntKind.wrap .i64 (j - 1)) else W l a i j)
      (l : List α) (i j : Nat), a < i → i ≤ j → j ≤ b → b ≤ l.length → l.length ≤ 1000000000000000000 → Inv a b i j l →
      ∃ i' j', i ≤ i' ∧ j' ≤ j ∧ i' ≤ j' ∧ Inv a b i' j' l ∧ (i' < j' → i' + 1 < j' ∧ ∃ (h : j' - 1 < l.length) (h' : i' < l.length) (ha : a < l.length), l[j' - 1] ≤ l[a] ∧ l[a] ≤ l[i']) ∧ U l (a : Int) (i : Int) ((j : Int) - 1) = W l (a : Int) (i' : Int) ((j' : Int) - 1) := by
    intro U V W eU eV l i j h1 h2 h3 h4 h5 hI
    obtain ⟨i', k1, k2, k3, k4, k5⟩ := scan_up (g := fun i => U l (a : Int) (i : Int) ((j : Int) - 1)) (Eg := fun i => V l (a : Int) (i : Int) ((j : Int) - 1)) (C := fun i => match l[i]?, l[a]? with | some x, some y => lt x y | _, _ => false) (n := j) (fun i hi => by
      rw [eU, if_pos (by omega), gi_at (show i < l.length by omega), Option.bind_some, gi_at (show a < l.length by omega), Option.bind_some, hl, Option.bind_some, w_succ (by omega), List.getElem?_eq_getElem (show i < l.length by omega), List.getElem?_eq_getElem (show a < l.length by omega)]) (fun i hi => by rw [eU, if_neg (by omega)]) (j - i) i (by omega)
    obtain ⟨j', m1, m2, m3, m4, m5⟩ := scan_dn (g := fun j => V l (a : Int) (i' : Int) ((j : Int) - 1)) (Eg := fun j => W l (a : Int) (i' : Int) ((j : Int) - 1)) (C := fun i => match l[i]?, l[a]? with | some x, some y => !lt x y | _, _ => false) (n := i') (top := j) (fun q hq hqj => by
        rw [eV, if_pos (by omega), show (q : Int) - 1 = ((q - 1 : Nat) : Int) by omega, gi_at (show q - 1 < l.length by omega), Option.bind_some, gi_at (show a < l.length by omega), Option.bind_some, hl, Option.bind_some, wrap_in (by omega) (by omega), List.getElem?_eq_getElem (show q - 1 < l.length by omega), List.getElem?_eq_getElem (show a < l.length by omega)]
        by_cases hc : lt l[q - 1] l[a] = true
        · rw [if_pos hc, if_neg (by simp [hc])]
        · rw [if_neg hc, if_pos (by simp [hc])]) (fun i hi => by rw [eV, if_neg (by omega)]) (j - i') j (by omega) (Nat.le_refl _)
    refine ⟨i', j', k1, m2, m1, fun k ha hk => ⟨fun g1 g2 => ?_, fun g1 g2 => ?_⟩, fun hlt => ⟨?_, by omega, by omega, by omega, ?_, ?_⟩, by rw [k5, m5]⟩
    · by_cases c : k < i
      · exact (hI k ha hk).1 g1 c
      · have := k3 k (by omega) g2
        simp only [List.getElem?_eq_getElem hk, List.getElem?_eq_getElem ha] at this
        exact od.yes this
    · by_cases c : j ≤ k
      · exact (hI k ha hk).2 c g2
      · have := m3 k g1 (by omega)
        simp only [List.getElem?_eq_getElem hk, List.getElem?_eq_getElem ha] at this
        exact od.no (by simpa using this)
    · rcases Nat.lt_or_ge (i' + 1) j' with h | h
      · exact h
      · have e1 := m4 hlt
        rw [show j' - 1 = i' by omega] at e1
        have e2 := k4 (by omega)
        simp only [List.getElem?_eq_getElem (show i' < l.length by omega), List.getElem?_eq_getElem (show a < l.length by omega)] at e1 e2
        rw [e2] at e1; cases e1
    · have := m4 hlt
      simp only [List.getElem?_eq_getElem (show j' - 1 < l.length by omega), List.getElem?_eq_getElem (show a < l.length by omega)] at this
      exact od.yes (by simpa using this)
    · have := k4 (by omega)
      simp only [List.getElem?_eq_getElem (show i' < l.length by omega), List.getElem?_eq_getElem (show a < l.length by omega)] at this
      exact od.no this
  have loop : ∀ (d i j : Nat) (x : List α), j ≤ i + d → a < i → i ≤ j → j ≤ b → Tch a b l x → Inv a b i j x → ∃ (m : Nat) (t : Bool) (r : List α), Cut a b m l r ∧ l2 x (a : Int) (i : Int) ((j : Int) - 1) = some ((m : Int), t, r) := by
    intro d
    induction d with
    | zero =>
      intro i j x h1 h2 h3 h4 T hI
      have hx := T.len
      have : i = j := by omega
      subst this
      refine ⟨i - 1, false, _, Inv.cut (j := i - 1) (by rw [show i - 1 + 1 = i by omega]; exact hI) (by omega) (by omega) (by omega) T, ?_⟩
      rw [e2, e3, if_neg (by omega), f5, e4, if_neg (by omega), f6, if_pos (by omega), f4, show (i : Int) - 1 = ((i - 1 : Nat) : Int) by omega, swp_txt (i := i - 1) (j := a) (by omega) (by omega) rfl rfl]
    | succ d ih =>
      intro i j x h1 h2 h3 h4 T hI
      have hx := T.len
      obtain ⟨i', j', k1, k2, k3, k4, k5, k6⟩ := both (U := l3) (V := l4) (W := j6) (fun l a i j => by rw [e3]; simp only [f7, f5]) (fun l a i j => by rw [e4]; simp only [f8]) x i j h2 h3 h4 (by omega) (by omega) hI
      rw [e2, k6, f6]
      by_cases c : i' = j'
      · subst c
        refine ⟨i' - 1, false, _, Inv.cut (j := i' - 1) (by rw [show i' - 1 + 1 = i' by omega]; exact k4) (by omega) (by omega) (by omega) T, ?_⟩
        rw [if_pos (by omega), f4, show (i' : Int) - 1 = ((i' - 1 : Nat) : Int) by omega, swp_txt (i := i' - 1) (j := a) (by omega) (by omega) rfl rfl]
      · obtain ⟨q0, q1, q2, q3, q4, q5⟩ := k5 (by omega)
        rw [if_neg (by omega), show (j' : Int) - 1 = ((j' - 1 : Nat) : Int) by omega, swp_txt (i := i') (j := j' - 1) (by omega) (by omega) rfl rfl, w_succ (by omega), wrap_in (by omega) (by omega)]
        have hI' := Inv.swap (j := j' - 1) (by rw [show j' - 1 + 1 = j' by omega]; exact k4) (by omega) (by omega) (by omega) (by omega) q4 q5
        exact ih (i' + 1) (j' - 1) _ (by omega) (by omega) (by omega) (by omega) (T.trans (swp_tch (by omega) (by omega) (by omega) (by omega))) hI'
  have T0 : Tch a b l (swp l a p (by omega) (by omega)) := swp_tch (by omega) (by omega) (by omega) (by omega)
  have L0 : (swp l a p (by omega) (by omega)).length = l.length := swp_len
  rw [eP, swp_txt (i := a) (j := p) (by omega) (by omega) rfl rfl, w_succ (by omega), wrap_in (by omega) (by omega)]
  obtain ⟨i', j', k1', k2, k3, k4, k5, k6⟩ := both (U := k0) (V := k1) (W := J1) (fun l a i j => by rw [e0]; simp only [f2, f0]) (fun l a i j => by rw [e1]; simp only [f3]) (swp l a p (by omega) (by omega)) (a + 1) b (by omega) (by omega) (Nat.le_refl _) (by omega) (by omega) (fun k ha hk => ⟨fun g1 g2 => by omega, fun g1 g2 => by omega⟩)
  rw [k6, f1]
  by_cases c : i' = j'
  · subst c
    refine ⟨i' - 1, true, _, Inv.cut (j := i' - 1) (by rw [show i' - 1 + 1 = i' by omega]; exact k4) (by omega) (by omega) (by omega) T0, ?_⟩
    rw [if_pos (by omega), show (i' : Int) - 1 = ((i' - 1 : Nat) : Int) by omega, swp_txt (i := i' - 1) (j := a) (by omega) (by omega) rfl rfl]
  · obtain ⟨q0, q1, q2, q3, q4, q5⟩ := k5 (by omega)
    rw [if_neg (by omega), show (j' : Int) - 1 = ((j' - 1 : Nat) : Int) by omega, swp_txt (i := i') (j := j' - 1) (by omega) (by omega) rfl rfl, w_succ (by omega), wrap_in (by omega) (by omega)]
    have hI' := Inv.swap (j := j' - 1) (by rw [show j' - 1 + 1 = j' by omega]; exact k4) (by omega) (by omega) (by omega) (by omega) q4 q5
    exact loop (j' + b) (i' + 1) (j' - 1) _ (by omega) (by omega) (by omega) (by omega) (T0.trans (swp_tch (by omega) (by omega) (by omega) (by omega))) hI'
theorem parte_val (od : Ord3 lt) (hl : ∀ x y, less x y = some (lt x y)) {l0 l1 j0 j2 l2 j3 j1 : List α → Int → Int → Int → Option (Int × List α)} {P : List α → Int → Int → Int → Option (Int × List α)}
    (eP : ∀ l a b p, P l a b p = (gi l p).bind fun y1 => (gi l a).bind fun y8 => (gi l a).bind fun _ => (some (l.set (Int.toNat a) y1)).bind fun l24 => (gi l24 p).bind fun _ => (some (l24.set (Int.toNat p) y8)).bind fun l35 => l0 l35 a (IntKind.wrap .i64 (a + 1)) (IntKind.wrap .i64 (b - 1)))
    (e0 : ∀ l a i j, l0 l a i j = l1 l a i j)
    (e1 : ∀ l a i j, l1 l a i j = if i ≤ j then (gi l a).bind fun y1 => (gi l i).bind fun y8 => (less y1 y8).bind fun c => if c = true then j0 l a i j else j2 l a i j else j0 l a i j)
    (f2 : ∀ l a i j, j2 l a i j = l1 l a (IntKind.wrap .i64 (i + 1)) j)
    (f0 : ∀ l a i j, j0 l a i j = l2 l a i j)
    (e2 : ∀ l a i j, l2 l a i j = if i ≤ j then (gi l a).bind fun y1 => (gi l j).bind fun y8 => (less y1 y8).bind fun c => if c = true then j3 l a i j else j1 l a i j else j1 l a i j)
    (f3 : ∀ l a i j, j3 l a i j = l2 l a i (IntKind.wrap .i64 (j - 1)))
    (f1 : ∀ l a i j, j1 l a i j = if i > j then some (i, l) else ((gi l j).bind fun y1 => (gi l i).bind fun y8 => (gi l i).bind fun _ => (some (l.set (Int.toNat i) y1)).bind fun l24 => (gi l24 j).bind fun _ => (some (l24.set (Int.toNat j) y8)).bind fun l35 => l0 l35 a (IntKind.wrap .i64 (i + 1)) (IntKind.wrap .i64 (j - 1))))
    {a b p : Nat} {l : List α} (hap : a ≤ p) (hpb : p < b) (hb : b ≤ l.length) (hlen : l.length ≤ 1000000000000000000) : ∃ (m : Nat) (r : List α), Tch a b l r ∧ a < m ∧ m ≤ b ∧ Inv a b m m r ∧ r[a]? = l[p]? ∧ P l (a : Int) (b : Int) (p : Int) = some ((m : Int), r) := by
  have loop : ∀ (d i j : Nat) (x : List α), j ≤ i + d → a < i → i ≤ j → j ≤ b → Tch a b l x → Inv a b i j x → x[a]? = l[p]? → ∃ (m : Nat) (r : List α), Tch a b l r ∧ a < m ∧ m ≤ b ∧ Inv a b m m r ∧ r[a]? = l[p]? ∧ l0 x (a : Int) (i : Int) ((j : Int) - 1) = some ((m : Int), r) := by
    intro d
    induction d with
    | zero =>
      intro i j x h1 h2 h3 h4 T hI hA
      have : i = j := by omega
      subst this
      refine ⟨i, x, T, h2, h4, hI, hA, ?_⟩
      rw [e0, e1, if_neg (by omega), f0, e2, if_neg (by omega), f1, if_pos (by omega)]
    | succ d ih =>
      intro i j x h1 h2 h3 h4 T hI hA
      have hx := T.len
      obtain ⟨i', k1, k2, k3, k4, k5⟩ := scan_up (g := fun i => l1 x (a : Int) (i : Int) ((j : Int) - 1)) (Eg := fun i => l2 x (a : Int) (i : Int) ((j : Int) - 1)) (C := fun i => match x[i]?, x[a]? with | some u, some y => !lt y u | _, _ => false) (n := j) (fun i hi => by
        rw [e1, if_pos (by omega), gi_at (show a < x.length by omega), Option.bind_some, gi_at (show i < x.length by omega), Option.bind_some, hl, Option.bind_some, f2, f0, w_succ (by omega), List.getElem?_eq_getElem (show i < x.length by omega), List.getElem?_eq_getElem (show a < x.length by omega)]
        by_cases hc : lt x[a] x[i] = true
        · rw [if_pos hc, if_neg (by simp [hc])]
        · rw [if_neg hc, if_pos (by simp [hc])]) (fun i hi => by rw [e1, if_neg (by omega), f0]) (j - i) i (by omega)
      obtain ⟨j', m1, m2, m3, m4, m5⟩ := scan_dn (g := fun j => l2 x (a : Int) (i' : Int) ((j : Int) - 1)) (Eg := fun j => j1 x (a : Int) (i' : Int) ((j : Int) - 1)) (C := fun i => match x[i]?, x[a]? with | some u, some y => lt y u | _, _ => false) (n := i') (top := j) (fun q hq hqj => by
        rw [e2, if_pos (by omega), show (q : Int) - 1 = ((q - 1 : Nat) : Int) by omega, gi_at (show a < x.length by omega), Option.bind_some, gi_at (show q - 1 < x.length by omega), Option.bind_some, hl, Option.bind_some, f3, wrap_in (by omega) (by omega), List.getElem?_eq_getElem (show q - 1 < x.length by omega), List.getElem?_eq_getElem (show a < x.length by omega)]) (fun i hi => by rw [e2, if_neg (by omega)]) (j - i') j (by omega) (Nat.le_refl _)
      have ha : a < x.length := by omega
      have hI' : Inv a b i' j' x := fun k ha hk => ⟨fun g1 g2 => by
        by_cases c : k < i
        · exact (hI k ha hk).1 g1 c
        · have := k3 k (by omega) g2
          simp only [List.getElem?_eq_getElem hk, List.getElem?_eq_getElem ha] at this
          exact od.no (by simpa using this), fun g1 g2 => by
        by_cases c : j ≤ k
        · exact (hI k ha hk).2 c g2
        · have := m3 k g1 (by omega)
          simp only [List.getElem?_eq_getElem hk, List.getElem?_eq_getElem ha] at this
          exact od.yes this⟩
      rw [e0, k5, m5, f1]
      by_cases c : i' = j'
      · subst c
        exact ⟨i', x, T, by omega, by omega, hI', hA, by rw [if_pos (by omega)]⟩
      · have q1 := k4 (by omega)
        have q2 := m4 (by omega)
        have hlt : i' + 1 < j' := by
          rcases Nat.lt_or_ge (i' + 1) j' with h | h
          · exact h
          · rw [show j' - 1 = i' by omega] at q2
            simp only [List.getElem?_eq_getElem (show i' < x.length by omega), List.getElem?_eq_getElem ha] at q1 q2
            rw [q2] at q1; cases q1
        simp only [List.getElem?_eq_getElem (show i' < x.length by omega), List.getElem?_eq_getElem ha] at q1
        simp only [List.getElem?_eq_getElem (show j' - 1 < x.length by omega), List.getElem?_eq_getElem ha] at q2
        rw [if_neg (by omega), show (j' : Int) - 1 = ((j' - 1 : Nat) : Int) by omega, swp_txt (i := i') (j := j' - 1) (by omega) (by omega) rfl rfl, w_succ (by omega), wrap_in (by omega) (by omega)]
        have hI2 := Inv.swap (j := j' - 1) (by rw [show j' - 1 + 1 = j' by omega]; exact hI') (by omega) (by omega) (by omega) (by omega) (od.no q2) (od.yes (by simpa using q1))
        exact ih (i' + 1) (j' - 1) _ (by omega) (by omega) (by omega) (by omega) (T.trans (swp_tch (by omega) (by omega) (by omega) (by omega))) hI2 (by rw [(swp_tch (a := i') (b := j') (l := x) (i := i') (j := j' - 1) (by omega) (by omega) (by omega) (by omega)).2 a (.inl (by omega))]; exact hA)
  have T0 : Tch a b l (swp l a p (by omega) (by omega)) := swp_tch (by omega) (by omega) (by omega) (by omega)
  rw [eP, swp_txt (i := a) (j := p) (by omega) (by omega) rfl rfl, w_succ (by omega), wrap_in (by omega) (by omega)]
  exact loop b (a + 1) b _ (by omega) (by omega) (by omega) (Nat.le_refl _) T0 (fun k ha hk => ⟨fun g1 g2 => by omega, fun g1 g2 => by omega⟩) (by
    have ha : a < (swp l a p (by omega) (by omega)).length := by rw [swp_len]; omega
    rw [List.getElem?_eq_getElem ha, List.getElem?_eq_getElem (show p < l.length by omega), swp_get a ha]
    by_cases c : a = p
    · subst c; rw [if_pos rfl]
    · rw [if_neg c, if_pos rfl])
theorem pdq_val (od : Ord3 lt) (hl : ∀ x y, less x y = some (lt x y)) {f : List α → Int → Int → Int → Option (List α)} {l0 : List α → Int → Int → Int → Bool → Bool → Option (List α)} {j0 : List α → Int → Int → Int → Bool → Bool → Int → Option (List α)} {j1 : List α → Int → Int → Int → Bool → Bool → Int → Int → Int → Option (List α)} {j3 j5 : List α → Int → Int → Int → Bool → Bool → Int → Int → Bool → Option (List α)} {j2 : List α → Int → Int → Int → Bool → Bool → Int → Int → Option (List α)} {j4 : List α → Int → Int → Int → Int → Int → Option (List α)}
    {ins heap brk rev : List α → Int → Int → Option (List α)} {cho : List α → Int → Int → Option (Int × Int)} {pi : List α → Int → Int → Option (Bool × List α)} {pe : List α → Int → Int → Int → Option (Int × List α)} {pt : List α → Int → Int → Int → Option (Int × Bool × List α)}
    (hins : ∀ {a b : Nat} {l : List α}, b ≤ l.length → l.length ≤ 1000000000000000000 → a ≤ b → ∃ r, Tch a b l r ∧ Srt a b r ∧ ins l (a : Int) (b : Int) = some r)
    (hheap : ∀ {a b : Nat} {l : List α}, a < b → b ≤ l.length → l.length ≤ 1000000000000000000 → ∃ r, Tch a b l r ∧ Srt a b r ∧ heap l (a : Int) (b : Int) = some r)
    (hbrk : ∀ {a b : Nat} {l : List α}, a + 12 < b → b ≤ l.length → l.length ≤ 1000000000000000000 → ∃ r, Tch a b l r ∧ brk l (a : Int) (b : Int) = some r)
    (hrev : ∀ {a b : Nat} {l : List α}, a + 12 < b → b ≤ l.length → l.length ≤ 1000000000000000000 → ∃ r, Tch a b l r ∧ rev l (a : Int) (b : Int) = some r)
    (hcho : ∀ {a b : Nat} {l : List α}, a + 12 < b → b ≤ l.length → l.length ≤ 1000000000000000000 → ∃ u w, cho l (a : Int) (b : Int) = some (u, w) ∧ InR a b u)
    (hpi : ∀ {a b : Nat} {l : List α}, a < b → b ≤ l.length → l.length ≤ 1000000000000000000 → Pre a b l → ∃ t r, Tch a b l r ∧ (t = true → Srt a b r) ∧ pi l (a : Int) (b : Int) = some (t, r))
    (hpe : ∀ {a b p : Nat} {l : List α}, a ≤ p → p < b → b ≤ l.length → l.length ≤ 1000000000000000000 → ∃ (m : Nat) (r : List α), Tch a b l r ∧ a < m ∧ m ≤ b ∧ Inv a b m m r ∧ r[a]? = l[p]? ∧ pe l (a : Int) (b : Int) (p : Int) = some ((m : Int), r))
    (hpt : ∀ {a b p : Nat} {l : List α}, a ≤ p → p < b → b ≤ l.length → l.length ≤ 1000000000000000000 → ∃ (m : Nat) (t : Bool) (r : List α), Cut a b m l r ∧ pt l (a : Int) (b : Int) (p : Int) = some ((m : Int), t, r))
    (ef : ∀ l a b lim, f l a b lim = l0 l a b lim true true)
    (e0 : ∀ l a b lim b8 b9, l0 l a b lim b8 b9 = if IntKind.wrap .i64 (b - a) ≤ 12 then (ins l a b).bind fun y1 => some y1 else if lim = 0 then (heap l a b).bind fun y => some y else if b8 = true then j0 l a b lim b8 b9 (IntKind.wrap .i64 (b - a)) else (brk l a b).bind fun y => j0 y a b (IntKind.wrap .i64 (lim - 1)) b8 b9 (IntKind.wrap .i64 (b - a)))
    (g0 : ∀ l a b lim b8 b9 n, j0 l a b lim b8 b9 n = (cho l a b).bind fun y1 => if y1.2 = 2 then (rev l a b).bind fun y15 => j1 y15 a b lim b8 b9 n (IntKind.wrap .i64 (IntKind.wrap .i64 (b - 1) - IntKind.wrap .i64 (y1.1 - a))) 1 else j1 l a b lim b8 b9 n y1.1 y1.2)
    (g1 : ∀ l a b lim b8 b9 n p h, j1 l a b lim b8 b9 n p h = if b8 = true then (if b9 = true then j3 l a b lim b8 b9 n p (h == 1) else j3 l a b lim b8 b9 n p false) else j3 l a b lim b8 b9 n p false)
    (g3 : ∀ l a b lim b8 b9 n p c, j3 l a b lim b8 b9 n p c = if c = true then (pi l a b).bind fun y1 => if y1.1 = true then some y1.2 else j2 y1.2 a b lim b8 b9 n p else j2 l a b lim b8 b9 n p)
    (g2 : ∀ l a b lim b8 b9 n p, j2 l a b lim b8 b9 n p = if a > 0 then (gi l (IntKind.wrap .i64 (a - 1))).bind fun y1 => (gi l p).bind fun y8 => (less y1 y8).bind fun c => j5 l a b lim b8 b9 n p (!c) else j5 l a b lim b8 b9 n p false)
    (g5 : ∀ l a b lim b8 b9 n p c, j5 l a b lim b8 b9 n p c = if c = true then (pe l a b p).bind fun y1 => l0 y1.2 y1.1 b lim b8 b9 else j4 l a b lim n p)
    (g4 : ∀ l a b lim n p, j4 l a b lim n p = (pt l a b p).bind fun y1 => if IntKind.wrap .i64 (y1.1 - a) < IntKind.wrap .i64 (b - y1.1) then (f y1.2.2 a y1.1 lim).bind fun y13 => l0 y13 (IntKind.wrap .i64 (y1.1 + 1)) b lim (decide (IntKind.wrap .i64 (y1.1 - a) ≥ IntKind.wrap .i64 (Int.tdiv n 8))) y1.2.1 else (f y1.2.2 (IntKind.wrap .i64 (y1.1 + 1)) b lim).bind fun y25 => l0 y25 a y1.1 lim (decide (IntKind.wrap .i64 (b - y1.1) ≥ IntKind.wrap .i64 (Int.tdiv n 8))) y1.2.1) :
    ∀ (n : Nat) (a b : Nat) (l : List α) (lim : Int) (b8 b9 : Bool), b ≤ a + n → a ≤ b → b ≤ l.length → l.length ≤ 1000000000000000000 → Pre a b l → ∃ r, Tch a b l r ∧ Srt a b r ∧ l0 l (a : Int) (b : Int) lim b8 b9 = some r := by
  intro n
  induction n with
  | zero =>
    intro a b l lim b8 b9 h1 h2 h3 h4 h5
    obtain ⟨r, t1, t2, t3⟩ := hins h3 h4 h2
    exact ⟨r, t1, t2, by rw [e0, if_pos (by rw [wrap_in (by omega) (by omega)]; omega), t3, Option.bind_some]⟩
  | succ n ih =>
    intro a b l lim b8 b9 h1 h2 h3 h4 h5
    rw [e0]
    by_cases c1 : b - a ≤ 12
    · obtain ⟨r, t1, t2, t3⟩ := hins h3 h4 h2
      exact ⟨r, t1, t2, by rw [if_pos (by rw [wrap_in (by omega) (by omega)]; omega), t3, Option.bind_some]⟩
    rw [if_neg (by rw [wrap_in (by omega) (by omega)]; omega)]
    by_cases c2 : lim = 0
    · obtain ⟨r, t1, t2, t3⟩ := hheap (show a < b by omega) h3 h4
      exact ⟨r, t1, t2, by rw [if_pos c2, t3, Option.bind_some]⟩
    rw [if_neg c2]
    -- j4
    have J4 : ∀ (x : List α) (lim : Int) (q : Nat) (y : Int), Tch a b l x → a ≤ q → q < b → ∃ r, Tch a b l r ∧ Srt a b r ∧ j4 x (a : Int) (b : Int) lim y (q : Int) = some r := by
      intro x lim q y T q1 q2
      have hx := T.len
      have hP := h5.tch T h2 h3
      obtain ⟨m, t, r, ⟨C1, C2, C3, C4⟩, p2⟩ := hpt q1 q2 (show b ≤ x.length by omega) (show x.length ≤ _ by omega)
      have hr := C1.len
      have hPr := hP.tch C1 h2 (by omega)
      rw [g4, p2, Option.bind_some]
      dsimp only
      rw [w_succ (k := m) (by omega), wrap_in (n := (m : Int) - (a : Int)) (by omega) (by omega), wrap_in (n := (b : Int) - (m : Int)) (by omega) (by omega)]
      have hml : m < r.length := by omega
      have PL : Pre a m r := fun i w1 w2 w3 w4 w5 => hPr i w1 w2 w3 w4 (by omega)
      have PR : Pre (m + 1) b r := fun i w1 w2 w3 w4 w5 => (C4 i hml w2).2 (by omega) w5
      -- what is put together
      have glue : ∀ u v : List α, Tch a m r u → Srt a m u → Tch (m + 1) b u v → Srt (m + 1) b v → Tch a b l v ∧ Srt a b v := by
        intro u v U1 U2 V1 V2
        have hu := U1.len
        have hv := V1.len
        refine ⟨(T.trans C1).trans ((U1.mono (Nat.le_refl _) (by omega)).trans (V1.mono (by omega) (Nat.le_refl _))), ?_⟩
        have S1 : Srt a m v := U2.keep V1 (.inl (by omega))
        have em : v[m]'(by omega) = r[m] := by
          rw [V1.at (i := m) (by omega) (.inl (by omega)), U1.at (i := m) hml (.inr (Nat.le_refl _))]
        have lo : ∀ i (hi : i < v.length), a ≤ i → i < m → v[i] ≤ r[m] := by
          intro i hi i1 i2
          rw [V1.at (i := i) (by omega) (.inl (by omega))]
          exact U1.all (P := fun z => z ≤ r[m]) C2 (by omega) (fun j hj j1 j2 => (C4 j hml hj).1 j1 j2) i (by omega) i1 i2
        have hi_ : ∀ i (hi : i < v.length), m < i → i < b → r[m] ≤ v[i] := by
          intro i hi i1 i2
          refine V1.all (P := fun z => r[m] ≤ z) (by omega) (by omega) (fun j hj j1 j2 => ?_) i hi (by omega) i2
          rw [U1.at (i := j) (by omega) (.inr (by omega))]
          exact (C4 j hml (by omega)).2 (by omega) j2
        intro i j hi hj k1 k2 k3
        by_cases w1 : j < m
        · exact S1 i j hi hj k1 k2 w1
        by_cases w2 : j = m
        · subst w2; rw [em]; exact lo i hi k1 k2
        by_cases w3 : i < m
        · exact od.tr (lo i hi k1 w3) (hi_ j hj (by omega) k3)
        by_cases w4 : i = m
        · subst w4; rw [em]; exact hi_ j hj k2 k3
        · exact V2 i j hi hj (by omega) k2 k3
      by_cases c : m - a < b - m
      · rw [if_pos (by omega)]
        obtain ⟨u, U1, U2, U3⟩ := ih a m r lim true true (by omega) C2 (by omega) (by omega) PL
        have hu := U1.len
        obtain ⟨v, V1, V2, V3⟩ := ih (m + 1) b u lim (decide ((m : Int) - (a : Int) ≥ IntKind.wrap .i64 (Int.tdiv y 8))) t (by omega) (by omega) (by omega) (by omega) (fun i w1 w2 w3 w4 w5 => by
          rw [U1.at (i := m + 1 - 1) (by omega) (.inr (by omega)), U1.at (i := i) (by omega) (.inr (by omega))]
          exact PR i _ _ w3 w4 w5)
        obtain ⟨R1, R2⟩ := glue u v U1 U2 V1 V2
        exact ⟨v, R1, R2, by rw [ef, U3, Option.bind_some, V3]⟩
      · rw [if_neg (by omega)]
        obtain ⟨v, V1, V2, V3⟩ := ih (m + 1) b r lim true true (by omega) (by omega) (by omega) (by omega) PR
        have hv := V1.len
        obtain ⟨u, U1, U2, U3⟩ := ih a m v lim (decide ((b : Int) - (m : Int) ≥ IntKind.wrap .i64 (Int.tdiv y 8))) t (by omega) C2 (by omega) (by omega) (fun i w1 w2 w3 w4 w5 => by
          rw [V1.at (i := a - 1) (by omega) (.inl (by omega)), V1.at (i := i) (by omega) (.inl (by omega))]
          exact PL i _ _ w3 w4 w5)
        have hu := U1.len
        refine ⟨u, (T.trans C1).trans ((V1.mono (by omega) (Nat.le_refl _)).trans (U1.mono (Nat.le_refl _) (by omega))), ?_, by rw [ef, V3, Option.bind_some, U3]⟩
        have S1 : Srt (m + 1) b u := V2.keep U1 (.inr (by omega))
        have em : u[m]'(by omega) = r[m] := by
          rw [U1.at (i := m) (by omega) (.inr (Nat.le_refl _)), V1.at (i := m) hml (.inl (by omega))]
        have lo : ∀ i (hi : i < u.length), a ≤ i → i < m → u[i] ≤ r[m] := by
          intro i hi i1 i2
          refine U1.all (P := fun z => z ≤ r[m]) C2 (by omega) (fun j hj j1 j2 => ?_) i hi i1 i2
          rw [V1.at (i := j) (by omega) (.inl (by omega))]
          exact (C4 j hml (by omega)).1 j1 j2
        have hi_ : ∀ i (hi : i < u.length), m < i → i < b → r[m] ≤ u[i] := by
          intro i hi i1 i2
          rw [U1.at (i := i) (by omega) (.inr (by omega))]
          exact V1.all (P := fun z => r[m] ≤ z) (by omega) (by omega) (fun j hj j1 j2 => (C4 j hml hj).2 (by omega) j2) i (by omega) (by omega) i2
        intro i j hi hj k1 k2 k3
        by_cases w1 : j < m
        · exact U2 i j hi hj k1 k2 w1
        by_cases w2 : j = m
        · subst w2; rw [em]; exact lo i hi k1 k2
        by_cases w3 : i < m
        · exact od.tr (lo i hi k1 w3) (hi_ j hj (by omega) k3)
        by_cases w4 : i = m
        · subst w4; rw [em]; exact hi_ j hj k2 k3
        · exact S1 i j hi hj (by omega) k2 k3
    have J2 : ∀ (x : List α) (lim : Int) (q : Nat) (y : Int), Tch a b l x → a ≤ q → q < b → ∃ r, Tch a b l r ∧ Srt a b r ∧ j2 x (a : Int) (b : Int) lim b8 b9 y (q : Int) = some r := by
      intro x lim q y T q1 q2
      have hx := T.len
      have hP := h5.tch T h2 h3
      rw [g2]
      by_cases ca : 0 < a
      · rw [if_pos (by omega), wrap_in (by omega) (by omega), show (a : Int) - 1 = ((a - 1 : Nat) : Int) by omega, gi_at (show a - 1 < x.length by omega), Option.bind_some, gi_at (show q < x.length by omega), Option.bind_some, hl, Option.bind_some, g5]
        by_cases cl : lt x[a - 1] x[q] = true
        · rw [if_neg (by simp [cl])]; exact J4 x lim q y T q1 q2
        · rw [if_pos (by simp [cl])]
          have ge := od.no (Bool.eq_false_iff.2 cl)
          obtain ⟨m, r, E1, E2, E3, E4, E6, E5⟩ := hpe q1 q2 (show b ≤ x.length by omega) (show x.length ≤ _ by omega)
          have hr := E1.len
          have har : a < r.length := by omega
          have ra : r[a] = x[q] := by rw [List.getElem?_eq_getElem har, List.getElem?_eq_getElem (show q < x.length by omega)] at E6; exact Option.some.inj E6
          rw [E5, Option.bind_some]
          dsimp only
          -- all of it is not less than the element at a
          have all : ∀ i (hi : i < r.length), a ≤ i → i < b → r[a] ≤ r[i] := fun i hi i1 i2 => by
            rw [ra]
            exact E1.all (P := fun z => x[q] ≤ z) h2 (by omega) (fun j hj j1 j2 => od.tr ge (hP j (by omega) hj ca j1 j2)) i hi i1 i2
          have low : ∀ i (hi : i < r.length), a ≤ i → i < m → r[i] ≤ r[a] := fun i hi i1 i2 => by
            by_cases c : i = a
            · subst c; exact od.rf _
            · exact (E4 i har hi).1 (by omega) i2
          obtain ⟨s, S1, S2, S3⟩ := ih m b r lim b8 b9 (by omega) E3 (by omega) (by omega) (fun i w1 w2 w3 w4 w5 => od.tr (low (m - 1) w1 (by omega) (by omega)) (all i w2 (by omega) w5))
          have hs := S1.len
          refine ⟨s, (T.trans E1).trans (S1.mono (by omega) (Nat.le_refl _)), ?_, S3⟩
          intro i j hi hj k1 k2 k3
          by_cases w1 : m ≤ i
          · exact S2 i j hi hj w1 k2 k3
          · rw [S1.at (i := i) (by omega) (.inl (by omega))]
            refine od.tr (low i (by omega) k1 (by omega)) ?_
            by_cases w2 : m ≤ j
            · exact S1.all (P := fun z => r[a] ≤ z) E3 (by omega) (fun j hj j1 j2 => all j hj (by omega) j2) j hj w2 k3
            · rw [S1.at (i := j) (by omega) (.inl (by omega))]; exact all j (by omega) (by omega) k3
      · rw [if_neg (by omega), g5, if_neg (by decide)]; exact J4 x lim q y T q1 q2
    have J3 : ∀ (x : List α) (lim : Int) (q : Nat) (y : Int) (c : Bool), Tch a b l x → a ≤ q → q < b → ∃ r, Tch a b l r ∧ Srt a b r ∧ j3 x (a : Int) (b : Int) lim b8 b9 y (q : Int) c = some r := by
      intro x lim q y c T q1 q2
      have hx := T.len
      rw [g3]
      by_cases cc : c = true
      · rw [if_pos cc]
        obtain ⟨t, r, R1, R2, R3⟩ := hpi (show a < b by omega) (show b ≤ x.length by omega) (show x.length ≤ _ by omega) (h5.tch T h2 h3)
        rw [R3, Option.bind_some]
        dsimp only
        by_cases ct : t = true
        · rw [if_pos ct]; exact ⟨r, T.trans R1, R2 ct, rfl⟩
        · rw [if_neg ct]; exact J2 r lim q y (T.trans R1) q1 q2
      · rw [if_neg cc]; exact J2 x lim q y T q1 q2
    have J1 : ∀ (x : List α) (lim : Int) (q : Nat) (y h : Int), Tch a b l x → a ≤ q → q < b → ∃ r, Tch a b l r ∧ Srt a b r ∧ j1 x (a : Int) (b : Int) lim b8 b9 y (q : Int) h = some r := by
      intro x lim q y h T q1 q2
      rw [g1]
      split
      · split
        · exact J3 x lim q y _ T q1 q2
        · exact J3 x lim q y _ T q1 q2
      · exact J3 x lim q y _ T q1 q2
    have J0 : ∀ (x : List α) (lim : Int) (y : Int), Tch a b l x → ∃ r, Tch a b l r ∧ Srt a b r ∧ j0 x (a : Int) (b : Int) lim b8 b9 y = some r := by
      intro x lim y T
      have hx := T.len
      obtain ⟨u, w, c5, ⟨q, rfl, q1, q2⟩⟩ := hcho (show a + 12 < b by omega) (show b ≤ x.length by omega) (show x.length ≤ _ by omega)
      rw [g0, c5, Option.bind_some]
      dsimp only
      split
      · obtain ⟨r, R1, R2⟩ := hrev (show a + 12 < b by omega) (show b ≤ x.length by omega) (show x.length ≤ _ by omega)
        rw [R2, Option.bind_some, wrap_in (n := (b : Int) - 1) (by omega) (by omega), wrap_in (n := (q : Int) - (a : Int)) (by omega) (by omega), wrap_in (by omega) (by omega), show (b : Int) - 1 - ((q : Int) - (a : Int)) = ((b - 1 - (q - a) : Nat) : Int) by omega]
        exact J1 r lim _ y 1 (T.trans R1) (by omega) (by omega)
      · exact J1 x lim q y w T q1 q2
    split
    · exact J0 l lim _ .refl
    · obtain ⟨r, R1, R2⟩ := hbrk (show a + 12 < b by omega) h3 h4
      rw [R2, Option.bind_some]
      exact J0 r _ _ R1
end
theorem ord3_int : Ord3 (fun x y : Int => decide (x < y)) where
  no h := by have := of_decide_eq_false h; omega
  yes h := by have := of_decide_eq_true h; omega
  tr h k := Int.le_trans h k
  nn h := decide_eq_false (by omega)
end Go.Hw

end
