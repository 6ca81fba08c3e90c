/- Objects of words: the law HeapBuilds over numbers and lists alone (no memory, no Go). -/
import Derived.Test.YtilmfjdagnbbaabLfHeapBuilds
namespace Go.Proofs.Ytilmfjdagnbbaab.Fw
open Go Go.Hw Go.Proofs
set_option linter.unusedVariables false
abbrev Ob := T_heap_Object

/-! ### Numbers -/
theorem u64_in {n : Int} (h0 : 0 ≤ n) (h1 : n ≤ 18446744073709551615) : IntKind.wrap .u64 n = n := by
  have : n % 18446744073709551616 = n := Int.emod_eq_of_lt h0 (by omega)
  simp [IntKind.wrap, IntKind.bits, IntKind.signed, this]
theorem u64_ge (n : Int) : 0 ≤ IntKind.wrap .u64 n ∧ IntKind.wrap .u64 n ≤ 18446744073709551615 := by
  have : IntKind.wrap .u64 n = n % 18446744073709551616 := by simp [IntKind.wrap, IntKind.bits, IntKind.signed]
  omega
theorem u8_mod (n : Int) : IntKind.wrap .u8 n = n % 256 := by simp [IntKind.wrap, IntKind.bits, IntKind.signed]
theorem bv_nat {x : Nat} (h : x < 18446744073709551616) : (BitVec.ofInt 64 (x : Int)).toNat = x := by
  rw [BitVec.toNat_ofInt]; omega
theorem shl_val {x s : Nat} (hs : s ≤ 64) (h : x * 2 ^ s < 18446744073709551616) : shlI .u64 (x : Int) (s : Int) = ((x * 2 ^ s : Nat) : Int) := by
  unfold shlI
  rw [show Int.toNat (s : Int) = s from rfl, show min s (IntKind.bits .u64) = s from Nat.min_eq_left hs]
  have : ((x : Int) * 2 ^ s) = ((x * 2 ^ s : Nat) : Int) := by push_cast; rfl
  rw [this]
  exact u64_in (Int.natCast_nonneg _) (by omega)
theorem or_val {x y s : Nat} (hx : x < 2 ^ s) (h : y * 2 ^ s + x < 18446744073709551616) : bitsI .or .u64 (x : Int) ((y * 2 ^ s : Nat) : Int) = ((x + y * 2 ^ s : Nat) : Int) := by
  show IntKind.wrap .u64 ((BitVec.ofInt 64 (x : Int) ||| BitVec.ofInt 64 ((y * 2 ^ s : Nat) : Int)).toNat : Nat) = _
  have h0 : x < 18446744073709551616 := by omega
  have h1 : y * 2 ^ s < 18446744073709551616 := by omega
  rw [BitVec.toNat_or, bv_nat h0, bv_nat h1]
  have : x ||| y * 2 ^ s = x + y * 2 ^ s := by
    rw [Nat.or_comm, ← Nat.shiftLeft_eq, ← Nat.shiftLeft_add_eq_or_of_lt hx, Nat.add_comm]
  rw [this]
  exact u64_in (by omega) (by omega)
theorem and_val {x n : Nat} (h : x < 18446744073709551616) (hn : 2 ^ n - 1 < 18446744073709551616) : bitsI .and .u64 (x : Int) ((2 ^ n - 1 : Nat) : Int) = ((x % 2 ^ n : Nat) : Int) := by
  show IntKind.wrap .u64 ((BitVec.ofInt 64 (x : Int) &&& BitVec.ofInt 64 ((2 ^ n - 1 : Nat) : Int)).toNat : Nat) = _
  rw [BitVec.toNat_and, bv_nat h, bv_nat hn, Nat.and_two_pow_sub_one_eq_mod]
  have := Nat.mod_le x (2 ^ n)
  exact u64_in (by omega) (by omega)
theorem shr_val {x s : Nat} (hs : s ≤ 64) : shrI .u64 (x : Int) (s : Int) = ((x / 2 ^ s : Nat) : Int) := by
  unfold shrI
  rw [show Int.toNat (s : Int) = s from rfl, show min s (IntKind.bits .u64) = s from Nat.min_eq_left hs]
  have : ((2 : Int) ^ s) = ((2 ^ s : Nat) : Int) := by push_cast; rfl
  rw [this, Int.fdiv_eq_ediv_of_nonneg _ (Int.natCast_nonneg _)]
  exact (Int.natCast_ediv x (2 ^ s)).symm

/-! ### Bytes -/
def nb (s : ByteArray) : List Int := s.data.toList.map fun b => ((UInt8.toNat b : Nat) : Int)
theorem nb_len (s : ByteArray) : (nb s).length = s.size := by simp [nb]
theorem nb_in {s : ByteArray} {x : Int} (h : x ∈ nb s) : 0 ≤ x ∧ x ≤ 255 := by
  unfold nb at h
  rw [List.mem_map] at h
  obtain ⟨b, _, rfl⟩ := h
  have := UInt8.toNat_lt b
  omega
theorem gb_nb (s : ByteArray) (k : Nat) : gb s (k : Int) = (nb s)[k]? := by
  unfold gb nb
  rw [if_pos (by omega), List.getElem?_map]
  show Option.map _ s[k]? = _
  congr 1
  by_cases h : k < s.size
  · rw [getElem?_pos s k h, List.getElem?_eq_getElem (by simpa using h)]; rfl
  · rw [getElem?_neg s k h, List.getElem?_eq_none (by simpa using h)]
theorem gb_some {s : ByteArray} {k : Nat} {x y : Int} (hx : x = k) (h : (nb s)[k]? = some y) : gb s x = some y := by subst hx; rw [gb_nb]; exact h
theorem bytesOf_nb (s : ByteArray) : bytesOf (nb s) = s := by
  cases s with
  | mk d =>
    unfold bytesOf nb
    congr 1
    apply Array.ext'
    simp only [List.map_map]
    rw [List.map_congr_left (g := id), List.map_id]
    intro x _
    simp
theorem nb_bytesOf {l : List Int} (h : ∀ x ∈ l, 0 ≤ x ∧ x ≤ 255) : nb (bytesOf l) = l := by
  unfold bytesOf nb
  simp only [List.map_map]
  rw [List.map_congr_left (g := id), List.map_id]
  intro x hx
  have := h x hx
  simp [UInt8.toNat_ofNat']
  omega
theorem nb_inj {s t : ByteArray} (h : nb s = nb t) : s = t := by rw [← bytesOf_nb s, h, bytesOf_nb]
theorem nb_append (s t : ByteArray) : nb (s ++ t) = nb s ++ nb t := by simp [nb]
theorem nb_empty : nb (ByteArray.mk #[]) = [] := rfl
theorem nb_extract (s : ByteArray) (i j : Nat) : nb (s.extract i j) = ((nb s).take j).drop i := by
  unfold nb
  rw [ByteArray.data_extract, Array.toList_extract, List.extract_eq_take_drop]
  rw [← List.map_take, ← List.map_drop, List.drop_take]
theorem empty_iff (s : ByteArray) : s = ByteArray.mk #[] ↔ nb s = [] := ⟨fun h => by rw [h]; rfl, fun h => nb_inj (by rw [h]; rfl)⟩

def pk : List Int → Int
  | [] => 0
  | b :: r => b + 256 * pk r
theorem pk_append (xs ys : List Int) : pk (xs ++ ys) = pk xs + 256 ^ xs.length * pk ys := by
  induction xs with
  | nil => simp [pk]
  | cons x xs ih =>
    simp only [List.cons_append, pk, ih, List.length_cons, Int.pow_succ]
    rw [Int.mul_add, ← Int.mul_assoc, Int.mul_comm 256 (256 ^ xs.length), Int.add_assoc]
theorem pk_in {l : List Int} (h : ∀ x ∈ l, 0 ≤ x ∧ x ≤ 255) : 0 ≤ pk l ∧ pk l < 256 ^ l.length := by
  induction l with
  | nil => simp [pk]
  | cons x l ih =>
    have h1 := ih (fun y hy => h y (by simp [hy]))
    have h2 := h x (by simp)
    simp only [pk, List.length_cons, Int.pow_succ]
    omega
theorem pow256 {k : Nat} (h : k ≤ 8) : (256 : Int) ^ k ≤ 18446744073709551616 := by
  have : k = 0 ∨ k = 1 ∨ k = 2 ∨ k = 3 ∨ k = 4 ∨ k = 5 ∨ k = 6 ∨ k = 7 ∨ k = 8 := by omega
  rcases this with rfl | rfl | rfl | rfl | rfl | rfl | rfl | rfl | rfl <;> decide
theorem pk_u64 {l : List Int} (h : ∀ x ∈ l, 0 ≤ x ∧ x ≤ 255) (hl : l.length ≤ 8) : 0 ≤ pk l ∧ pk l ≤ 18446744073709551615 := by
  have := pk_in h
  have := pow256 hl
  omega
def tw : Nat → List Int → List Int
  | 0, _ => []
  | n + 1, l => pk (l.take 8) :: tw n (l.drop 8)
theorem tw_len (n : Nat) (l : List Int) : (tw n l).length = n := by
  induction n generalizing l with
  | zero => rfl
  | succ n ih => simp [tw, ih]
def twd (l : List Int) : List Int := tw ((l.length + 7) / 8) l
theorem twd_nil : twd [] = [] := rfl
theorem twd_cons {l : List Int} (h : l ≠ []) : twd l = pk (l.take 8) :: twd (l.drop 8) := by
  have : 0 < l.length := List.length_pos_iff.2 h
  unfold twd
  rw [List.length_drop, show (l.length + 7) / 8 = (l.length - 8 + 7) / 8 + 1 from by omega]
  rfl
theorem twd_len (l : List Int) : (twd l).length = (l.length + 7) / 8 := tw_len _ _

/-! ### Objects -/
def big (k : Int) : Bool := k == 1 || k == 4
def rm (k : Int) (t p : Nat) : Nat := 1 + (t + 7) / 8 + p + (if big k = true then 1 else 0)
def Okay (o : Ob) : Prop := o.Text.size ≤ 64 ∧ o.Parts.length ≤ 400 ∧ 1 ≤ o.Kind ∧ o.Kind ≤ 5 ∧ ((o.Kind = 1 ∨ o.Kind = 2) → o.Parts = []) ∧ (o.Kind ≠ 2 ∧ o.Kind ≠ 3 → o.Text = ByteArray.mk #[]) ∧ (o.Kind ≠ 1 ∧ o.Kind ≠ 4 → o.Num = 0) ∧ (o.Kind = 5 → o.Parts.length ≤ 1)
def hd (o : Ob) : Int := o.Kind + 256 * (o.Text.size : Int) + 1048576 * (o.Parts.length : Int)
def ow (o : Ob) : List Int := hd o :: ((if big o.Kind = true then [IntKind.wrap .u64 o.Num] else []) ++ (twd (nb o.Text) ++ o.Parts))
theorem ow_len (o : Ob) : (ow o).length = rm o.Kind o.Text.size o.Parts.length := by
  unfold ow rm
  simp only [List.length_cons, List.length_append, twd_len, nb_len]
  split <;> simp <;> omega
theorem room_val {k : Int} {t p : Nat} (ht : t ≤ 1000000) (hp : p ≤ 1000000) : heap_room k (t : Int) (p : Int) = some (rm k t p : Int) := by
  unfold heap_room
  have e : (Int.tdiv ((t : Int) + 7) 8) = (((t + 7) / 8 : Nat) : Int) := by rw [Int.tdiv_eq_ediv_of_nonneg (by omega)]; omega
  rw [wrap_in (n := (t : Int) + 7) (by omega) (by omega), e, wrap_in (n := (((t + 7) / 8 : Nat) : Int)) (by omega) (by omega), wrap_in (n := 1 + (((t + 7) / 8 : Nat) : Int)) (by omega) (by omega), wrap_in (n := _ + (p : Int)) (by omega) (by omega)]
  unfold heap_room.j0
  rw [wrap_in (by omega) (by omega)]
  unfold rm big
  by_cases h1 : k = 1
  · subst h1; rw [if_pos rfl, if_pos rfl, if_pos (by rfl)]; push_cast; rfl
  · rw [if_neg h1]
    by_cases h4 : k = 4
    · subst h4; rw [if_pos (by rfl), if_pos (by rfl)]; push_cast; rfl
    · rw [if_neg (by simp [h4]), if_neg (by simp [h1, h4])]; push_cast; simp
instance (o : Ob) : Decidable (Okay o) := by unfold Okay; infer_instance
theorem right_val (o : Ob) : heap_right o = some (decide (Okay o)) := by
  obtain ⟨a, k, n, s, p⟩ := o
  unfold heap_right heap_right.j1 heap_right.j2 heap_right.j3 heap_right.j0 Okay
  have hp : p = [] ↔ p.length = 0 := List.length_eq_zero_iff.symm
  simp only [hp]
  generalize p.length = p
  generalize s.size = t
  have e1 : ((t : Int) > 64) ↔ ¬ t ≤ 64 := by omega
  have e2 : ((p : Int) > 400) ↔ ¬ p ≤ 400 := by omega
  have e3 : ((p : Int) > 0) ↔ ¬ p = 0 := by omega
  have e4 : ((p : Int) ≤ 1) ↔ p ≤ 1 := by omega
  simp only [e1, e2, e3, e4]
  by_cases h3 : k < 1
  · simp [show ¬ (1 ≤ k) by omega, h3]
  by_cases h4 : k > 5
  · simp [show ¬ (k ≤ 5) by omega, h3, h4]
  have hk : k = 1 ∨ k = 2 ∨ k = 3 ∨ k = 4 ∨ k = 5 := by omega
  by_cases h1 : t ≤ 64
  · by_cases h2 : p ≤ 400
    · by_cases h5 : p = 0 <;> by_cases h8 : p ≤ 1 <;> by_cases h6 : n = 0 <;> by_cases h7 : s = ByteArray.mk #[] <;> rcases hk with rfl | rfl | rfl | rfl | rfl <;> simp [h1, h2, h5, h6, h7, h8] <;> omega
    · rcases hk with rfl | rfl | rfl | rfl | rfl <;> simp [h1, h2]
  · rcases hk with rfl | rfl | rfl | rfl | rfl <;> simp [h1]
theorem is_val (o : Ob) : roadref3_ObjectIs o = some (decide (Okay o)) := by
  obtain ⟨a, k, n, s, p⟩ := o
  unfold roadref3_ObjectIs roadref3_ObjectIs.j0 roadref3_ObjectIs.j1 roadref3_In Okay
  have hp : p = [] ↔ p.length = 0 := List.length_eq_zero_iff.symm
  simp only [hp]
  generalize p.length = p
  generalize s.size = t
  have e1 : ((t : Int) > 64) ↔ ¬ t ≤ 64 := by omega
  have e2 : ((p : Int) > 400) ↔ ¬ p ≤ 400 := by omega
  have e4 : ((p : Int) > 1) ↔ ¬ p ≤ 1 := by omega
  have e5 : ((p : Int) == 0) = decide (p = 0) := by by_cases h : p = 0 <;> simp [h]
  simp only [e1, e2, e4, e5]
  by_cases h3 : k < 1
  · simp [show ¬ (1 ≤ k) by omega, show ¬ k = 1 by omega, show ¬ k = 2 by omega]
  by_cases h4 : k > 5
  · simp [show (1 ≤ k) by omega, show ¬ k = 1 by omega, show ¬ k = 2 by omega, show ¬ k ≤ 5 by omega]
  have hk : k = 1 ∨ k = 2 ∨ k = 3 ∨ k = 4 ∨ k = 5 := by omega
  by_cases h1 : t ≤ 64
  · by_cases h2 : p ≤ 400
    · by_cases h5 : p = 0 <;> by_cases h8 : p ≤ 1 <;> by_cases h6 : n = 0 <;> by_cases h7 : s = ByteArray.mk #[] <;> rcases hk with rfl | rfl | rfl | rfl | rfl <;> simp [h1, h2, h5, h6, h7, h8] <;> omega
    · rcases hk with rfl | rfl | rfl | rfl | rfl <;> simp [h1, h2]
  · rcases hk with rfl | rfl | rfl | rfl | rfl <;> simp [h1]
/-! ### The program's words -/
theorem take_succ_at {l : List Int} {B k : Nat} (h : B + k < l.length) : (l.drop B).take (k + 1) = (l.drop B).take k ++ [l[B + k]] := by
  rw [List.take_succ_eq_append_getElem (by rw [List.length_drop]; omega), List.getElem_drop]
theorem pk_snoc (l : List Int) (b : Int) : pk (l ++ [b]) = pk l + b * 256 ^ l.length := by
  rw [pk_append]; simp [pk, Int.mul_comm]
theorem put_or {x b : Int} {k : Nat} (hk : k < 8) (hx0 : 0 ≤ x) (hx : x < 256 ^ k) (h0 : 0 ≤ b) (h1 : b ≤ 255) :
    bitsI .or .u64 x (shlI .u64 (IntKind.wrap .u64 b) (IntKind.wrap .i64 (8 * (k : Int)))) = x + b * 256 ^ k := by
  rw [u64_in h0 (by omega), wrap_in (by omega) (by omega)]
  obtain ⟨x, rfl⟩ := Int.eq_ofNat_of_zero_le hx0
  obtain ⟨b, rfl⟩ := Int.eq_ofNat_of_zero_le h0
  have e : (2 : Nat) ^ (8 * k) = 256 ^ k := by rw [Nat.pow_mul]
  have hx' : x < 256 ^ k := by
    have : ((256 : Int) ^ k) = ((256 ^ k : Nat) : Int) := (Int.natCast_pow 256 k).symm
    omega
  have hb : b * 256 ^ k + x < 18446744073709551616 := by
    have hb' : b ≤ 255 := by omega
    have := pow256 (k := k + 1) (by omega)
    have e2 : ((256 : Int) ^ (k + 1)) = ((256 ^ (k + 1) : Nat) : Int) := (Int.natCast_pow 256 (k + 1)).symm
    have := Nat.mul_le_mul_right (256 ^ k) hb'
    rw [Nat.pow_succ] at e2
    omega
  have := shl_val (x := b) (s := 8 * k) (by omega) (by rw [e]; omega)
  rw [show (8 * (k : Int)) = ((8 * k : Nat) : Int) from by push_cast; rfl, this, e]
  have := or_val (x := x) (y := b) (s := 8 * k) (by rw [e]; exact hx') (by rw [e]; exact hb)
  rw [e] at this
  rw [this, Int.natCast_add, Int.natCast_mul, Int.natCast_pow]; rfl
theorem put_l1 {a0 a7 : List Int} {o : Ob} {B : Nat} (hB : B ≤ 1000) (hs : o.Text.size ≤ 1000) : ∀ (d k : Nat), k + d = 8 →
    heap_Put.l1 a0 o a7 (B : Int) (pk (((nb o.Text).drop B).take k)) (k : Int) = Option.bind (ap 8 a7 [pk (((nb o.Text).drop B).take 8)]) fun l => heap_Put.l0 a0 o l ((B + 8 : Nat) : Int) := by
  intro d
  induction d with
  | zero =>
    intro k hk
    obtain rfl : k = 8 := by omega
    rw [heap_Put.l1_eq, if_neg (by omega), wrap_in (by omega) (by omega)]; rfl
  | succ d ih =>
    intro k hk
    have hw : IntKind.wrap .i64 ((B : Int) + (k : Int)) = ((B + k : Nat) : Int) := by rw [wrap_in (by omega) (by omega)]; push_cast; rfl
    have hn := nb_len o.Text
    rw [heap_Put.l1_eq, if_pos (by omega), hw]
    by_cases h : B + k < o.Text.size
    · have hin : ((nb o.Text).drop B).take k = ((nb o.Text).drop B).take k := rfl
      have hl : (((nb o.Text).drop B).take k).length = k := by simp; omega
      have h3 : ∀ x ∈ ((nb o.Text).drop B).take k, 0 ≤ x ∧ x ≤ 255 := fun x hx => nb_in (List.mem_of_mem_drop (List.mem_of_mem_take hx))
      have h4 := pk_in h3
      have h5 : 0 ≤ (nb o.Text)[B + k]'(by omega) ∧ (nb o.Text)[B + k]'(by omega) ≤ 255 := nb_in (List.getElem_mem _)
      rw [hl] at h4
      rw [if_pos (by omega), gb_some (k := B + k) rfl (List.getElem?_eq_getElem (by omega)), Option.bind_some, if_pos (by rw [wrap_in (by omega) (by omega)]; omega), put_or (by omega) h4.1 h4.2 h5.1 h5.2, w_succ (by omega)]
      have := ih (k + 1) (by omega)
      rw [take_succ_at (by omega), pk_snoc, hl] at this
      exact this
    · rw [if_neg (by omega), w_succ (by omega)]
      have := ih (k + 1) (by omega)
      rw [show ((nb o.Text).drop B).take (k + 1) = ((nb o.Text).drop B).take k from by rw [List.take_of_length_le (by simp; omega), List.take_of_length_le (by simp; omega)]] at this
      exact this
theorem put_l0 {a0 : List Int} {o : Ob} (hs : o.Text.size ≤ 1000) : ∀ (d B : Nat) (a7 : List Int), o.Text.size ≤ B + d → B ≤ o.Text.size + 8 → a7.length + d + 10 + o.Parts.length ≤ 10000000 →
    heap_Put.l0 a0 o a7 (B : Int) = some (a7 ++ (twd ((nb o.Text).drop B) ++ o.Parts), (a0.length : Int), 0) := by
  intro d
  induction d using Nat.strongRecOn with
  | _ d ih =>
    intro B a7 h1 h2 h3
    have hn := nb_len o.Text
    rw [heap_Put.l0_eq]
    by_cases h : B < o.Text.size
    · have := put_l1 (a0 := a0) (a7 := a7) (o := o) (B := B) (by omega) hs 8 0 (by omega)
      rw [if_pos (by omega)]
      refine Eq.trans this ?_
      rw [ap_one (by omega), Option.bind_some]
      by_cases h8 : 8 ≤ d
      · rw [ih (d - 8) (by omega) (B + 8) _ (by omega) (by omega) (by simp; omega), twd_cons (l := (nb o.Text).drop B) (by intro e; have := congrArg List.length e; simp at this; omega)]
        simp [List.drop_drop]
      · rw [ih 0 (by omega) (B + 8) _ (by omega) (by omega) (by simp; omega), twd_cons (l := (nb o.Text).drop B) (by intro e; have := congrArg List.length e; simp at this; omega)]
        simp [List.drop_drop]
    · rw [if_neg (by omega), ap_of (by omega), Option.bind_some, List.drop_of_length_le (by omega), twd_nil, List.nil_append]
theorem head_val {o : Ob} (h : Okay o) : heap_head o = some (hd o) := by
  obtain ⟨h1, h2, h3, h4, _⟩ := h
  unfold heap_head hd
  obtain ⟨k, hk⟩ := Int.eq_ofNat_of_zero_le (show 0 ≤ o.Kind by omega)
  rw [hk] at h3 h4 ⊢
  rw [u64_in (n := (k : Int)) (by omega) (by omega), u64_in (n := (o.Text.size : Int)) (by omega) (by omega), u64_in (n := (o.Parts.length : Int)) (by omega) (by omega)]
  have e1 := shl_val (x := o.Text.size) (s := 8) (by omega) (by omega)
  have e2 := shl_val (x := o.Parts.length) (s := 20) (by omega) (by omega)
  have e3 := or_val (x := k) (y := o.Text.size) (s := 8) (by omega) (by omega)
  have e4 := or_val (x := k + o.Text.size * 2 ^ 8) (y := o.Parts.length) (s := 20) (by omega) (by omega)
  rw [show (8 : Int) = ((8 : Nat) : Int) from rfl, show (20 : Int) = ((20 : Nat) : Int) from rfl, e1, e2, e3, e4]
  congr 1
  omega
theorem put_val {a0 : List Int} {o : Ob} (ha : a0.length * 8 ≤ 140737488351232) : heap_Put a0 o = some (if Okay o then (if a0.length + rm o.Kind o.Text.size o.Parts.length ≤ 4000 then (a0 ++ ow o, (a0.length : Int), 0) else ([], 0, 6)) else ([], 0, 1)) := by
  unfold heap_Put
  rw [right_val, Option.bind_some]
  by_cases h : Okay o
  · rw [decide_eq_true h, if_pos rfl, if_pos h]
    have h0 := h
    obtain ⟨h1, h2, h3, h4, _⟩ := h0
    have hr : rm o.Kind o.Text.size o.Parts.length ≤ 1000 := by unfold rm; split <;> omega
    rw [room_val (by omega) (by omega), Option.bind_some, wrap_in (by omega) (by omega)]
    by_cases hf : a0.length + rm o.Kind o.Text.size o.Parts.length ≤ 4000
    · rw [if_neg (by omega), if_pos hf, slices_Clone_53.val _ (by omega), Option.bind_some, head_val h, Option.bind_some, ap_one (by omega), Option.bind_some]
      have fin : ∀ a7 : List Int, a7.length ≤ 10000 → heap_Put.j0 a0 o a7 = some (a7 ++ (twd (nb o.Text) ++ o.Parts), (a0.length : Int), 0) := by
        intro a7 ha7
        unfold heap_Put.j0
        exact put_l0 (by omega) 64 0 a7 (by omega) (by omega) (by omega)
      unfold heap_Put.j1
      unfold ow big
      by_cases k1 : o.Kind = 1
      · rw [if_pos k1, if_pos rfl, ap_one (by simp; omega), Option.bind_some, fin _ (by simp; omega)]
        simp [k1]
      · rw [if_neg k1]
        by_cases k4 : o.Kind = 4
        · rw [if_pos (by simp [k4]), ap_one (by simp; omega), Option.bind_some, fin _ (by simp; omega)]
          simp [k4]
        · rw [if_neg (by simp [k4]), fin _ (by simp; omega)]
          simp [k1, k4]
    · rw [if_pos (by omega), if_neg hf]
  · rw [decide_eq_false h, if_neg (by decide), if_neg h]

/-! ### The reference's words -/
theorem words_l1 {o : Ob} {a3 : List Int} {s : ByteArray} {n : Nat} (hn : n ≤ 8) (hns : n ≤ s.size) : ∀ (k : Nat), k ≤ n →
    roadref3_ObjectWords.l1 o a3 s (n : Int) (pk (((nb s).take n).drop k)) ((k : Int) - 1) = Option.bind (ap 8 a3 [pk ((nb s).take n)]) fun l => roadref3_ObjectWords.l0 o l (s.extract n s.size) := by
  intro k
  have hl := nb_len s
  induction k with
  | zero =>
    intro _
    rw [roadref3_ObjectWords.l1_eq, if_neg (by omega), if_pos (by omega)]; rfl
  | succ k ih =>
    intro hk
    have hkl : k < ((nb s).take n).length := by simp; omega
    have hb : 0 ≤ (nb s)[k]'(by omega) ∧ (nb s)[k]'(by omega) ≤ 255 := nb_in (List.getElem_mem _)
    have h4 := pk_u64 (l := ((nb s).take n).drop k) (fun x hx => nb_in (List.mem_of_mem_take (List.mem_of_mem_drop hx))) (by simp; omega)
    have e : pk (((nb s).take n).drop k) = (nb s)[k]'(by omega) + 256 * pk (((nb s).take n).drop (k + 1)) := by
      rw [List.drop_eq_getElem_cons hkl, List.getElem_take]; rfl
    have h5 := pk_in (l := ((nb s).take n).drop (k + 1)) (fun x hx => nb_in (List.mem_of_mem_take (List.mem_of_mem_drop hx)))
    rw [roadref3_ObjectWords.l1_eq, if_pos (by omega), gb_some (k := k) (by omega) (List.getElem?_eq_getElem (by omega)), Option.bind_some, u64_in (n := 256 * _) (by omega) (by omega), u64_in (n := (nb s)[k]'(by omega)) (by omega) (by omega), Int.add_comm, ← e, u64_in h4.1 h4.2, wrap_in (by omega) (by omega), show ((k + 1 : Nat) : Int) - 1 - 1 = (k : Int) - 1 from by omega]
    exact ih (by omega)
theorem words_l0 {o : Ob} : ∀ (d : Nat) (s : ByteArray) (a3 : List Int), s.size ≤ d → s.size ≤ 1000 → a3.length + d + 10 + o.Parts.length ≤ 10000000 →
    roadref3_ObjectWords.l0 o a3 s = some (a3 ++ (twd (nb s) ++ o.Parts)) := by
  intro d
  induction d using Nat.strongRecOn with
  | _ d ih =>
    intro s a3 h1 h2 h3
    have hl := nb_len s
    rw [roadref3_ObjectWords.l0_eq]
    by_cases h : s = ByteArray.mk #[]
    · rw [if_pos h, ap_of (by omega), Option.bind_some, (empty_iff s).1 h]; rfl
    · have h0 : nb s ≠ [] := fun e => h ((empty_iff s).2 e)
      have h0' : 0 < s.size := by rw [← hl]; exact List.length_pos_iff.2 h0
      rw [if_neg h]
      have e : (if (s.size : Int) < 8 then (s.size : Int) else 8) = ((min s.size 8 : Nat) : Int) := by split <;> omega
      have hm : min s.size 8 ≤ s.size := Nat.min_le_left _ _
      have hm8 : min s.size 8 ≤ 8 := Nat.min_le_right _ _
      have := words_l1 (o := o) (a3 := a3) (s := s) hm8 hm (min s.size 8) (Nat.le_refl _)
      rw [List.drop_of_length_le (by simp; omega)] at this
      rw [e, wrap_in (by omega) (by omega)]
      refine Eq.trans this ?_
      have hx : (s.extract (min s.size 8) s.size).size = s.size - min s.size 8 := by simp
      rw [ap_one (by omega), Option.bind_some, ih (d - 1) (by omega) _ _ (by omega) (by omega) (by simp; omega), twd_cons h0, nb_extract]
      have e1 : ((nb s).take s.size).drop (min s.size 8) = (nb s).drop 8 := by
        rw [List.take_of_length_le (by omega)]
        by_cases h8 : s.size ≤ 8
        · rw [Nat.min_eq_left h8, List.drop_of_length_le (by omega), List.drop_of_length_le (by omega)]
        · rw [Nat.min_eq_right (by omega)]
      have e2 : (nb s).take (min s.size 8) = (nb s).take 8 := by
        by_cases h8 : s.size ≤ 8
        · rw [Nat.min_eq_left h8, List.take_of_length_le (by omega), List.take_of_length_le (by omega)]
        · rw [Nat.min_eq_right (by omega)]
      rw [e1, e2]; simp
theorem words_val {o : Ob} (h : Okay o) : roadref3_ObjectWords o = some (ow o) := by
  obtain ⟨h1, h2, h3, h4, _⟩ := h
  unfold roadref3_ObjectWords
  have e : (IntKind.wrap .u64 ((IntKind.wrap .u64 ((IntKind.wrap .u64 o.Kind) + (IntKind.wrap .u64 ((256 : Int) * (IntKind.wrap .u64 ((ByteArray.size o.Text : Nat) : Int)))))) + (IntKind.wrap .u64 ((1048576 : Int) * (IntKind.wrap .u64 (((List.length o.Parts) : Nat) : Int)))))) = hd o := by
    unfold hd
    rw [u64_in (n := o.Kind) (by omega) (by omega), u64_in (n := (o.Text.size : Int)) (by omega) (by omega), u64_in (n := (o.Parts.length : Int)) (by omega) (by omega), u64_in (n := 256 * _) (by omega) (by omega), u64_in (n := 1048576 * _) (by omega) (by omega), u64_in (n := o.Kind + _) (by omega) (by omega), u64_in (by omega) (by omega)]
  rw [e]
  have fin : ∀ a3 : List Int, a3.length ≤ 10000 → roadref3_ObjectWords.j0 o a3 = some (a3 ++ (twd (nb o.Text) ++ o.Parts)) := by
    intro a3 ha
    unfold roadref3_ObjectWords.j0
    exact words_l0 64 o.Text a3 (by omega) (by omega) (by omega)
  unfold roadref3_ObjectWords.j1 ow big
  by_cases k1 : o.Kind = 1
  · rw [if_pos k1, if_pos rfl, ap_one (by simp), Option.bind_some, fin _ (by simp)]
    simp [k1]
  · rw [if_neg k1]
    by_cases k4 : o.Kind = 4
    · rw [if_pos (by simp [k4]), ap_one (by simp), Option.bind_some, fin _ (by simp)]
      simp [k4]
    · rw [if_neg (by simp [k4]), fin _ (by simp)]
      simp [k1, k4]

/-! ### Reading an object -/
abbrev U64 (a : List Int) : Prop := ∀ x ∈ a, 0 ≤ x ∧ x ≤ 18446744073709551615
def zo : Ob := T_heap_Object.mk 0 0 0 (ByteArray.mk #[]) []
def unb (r : List Int) (i : Nat) : Int := (r[i / 8]?.getD 0) / 256 ^ (i % 8) % 256
def txt (r : List Int) (n : Nat) : List Int := (List.range n).map (unb r)
theorem txt_in {r : List Int} {n : Nat} : ∀ x ∈ txt r n, 0 ≤ x ∧ x ≤ 255 := by
  intro x hx
  unfold txt unb at hx
  rw [List.mem_map] at hx
  obtain ⟨i, _, rfl⟩ := hx
  omega
theorem txt_succ (r : List Int) (n : Nat) : txt r (n + 1) = txt r n ++ [unb r n] := by simp [txt, List.range_succ]
theorem txt_len (r : List Int) (n : Nat) : (txt r n).length = n := by simp [txt]
def obj (x : Nat) (k num : Int) (r : List Int) (t p : Nat) : Ob := T_heap_Object.mk x k num (bytesOf (txt r t)) ((r.drop ((t + 7) / 8)).take p)
theorem shr_byte {y : Int} (h0 : 0 ≤ y) (h1 : y ≤ 18446744073709551615) {m : Nat} (hm : m < 8) : IntKind.wrap .u8 (shrI .u64 y (IntKind.wrap .i64 (8 * (m : Int)))) = y / 256 ^ m % 256 := by
  rw [wrap_in (by omega) (by omega), u8_mod]
  obtain ⟨y, rfl⟩ := Int.eq_ofNat_of_zero_le h0
  have := shr_val (x := y) (s := 8 * m) (by omega)
  rw [show (8 * (m : Int)) = ((8 * m : Nat) : Int) from by push_cast; rfl, this, Nat.pow_mul, Int.natCast_ediv, Int.natCast_pow]; rfl
theorem tdiv8 (i : Nat) : Int.tdiv (i : Int) 8 = ((i / 8 : Nat) : Int) := by rw [Int.tdiv_eq_ediv_of_nonneg (by omega)]; omega
theorem tmod8 (i : Nat) : Int.tmod (i : Int) 8 = ((i % 8 : Nat) : Int) := by rw [Int.tmod_eq_emod_of_nonneg (by omega)]; omega
theorem bytesOf_append (l m : List Int) : bytesOf (l ++ m) = bytesOf l ++ bytesOf m := by
  apply ByteArray.ext
  simp [bytesOf]
theorem okay_size {o : Ob} (h : Okay o) : rm o.Kind o.Text.size o.Parts.length ≤ 1000 := by
  obtain ⟨h1, h2, h3, h4, _⟩ := h
  unfold rm; split <;> omega
theorem bytesOf_size (l : List Int) : (bytesOf l).size = l.length := by simp [bytesOf, ByteArray.size]
/-- What is behind the head, and what an object's number is. -/
def rst (a : List Int) (x : Nat) (k : Int) : List Int := a.drop (x + 1 + (if big k = true then 1 else 0))
def nmb (a : List Int) (x : Nat) (k : Int) : Int := if big k = true then IntKind.wrap .i64 (a[x + 1]?.getD 0) else 0
def fin (a : List Int) (x : Nat) (o : Ob) : Option Ob := if Okay o ∧ ow o = (a.drop x).take (ow o).length then some o else none
def fnd (a : List Int) (x : Nat) (w : Int) : Option Ob :=
  if 4294967296 ≤ w then none
  else if (a.length : Int) - x < (rm (w % 256) (w / 256 % 4096).toNat (w / 1048576).toNat : Int) then none
  else fin a x (obj x (w % 256) (nmb a x (w % 256)) (rst a x (w % 256)) (w / 256 % 4096).toNat (w / 1048576).toNat)
def res (r : Option Ob) : Ob × Int := match r with | some o => (o, 0) | none => (zo, 3)
def ref (r : Option Ob) : Ob × Bool := match r with | some o => (o, true) | none => (zo, false)
section
variable {a : List Int} (ha : a.length * 8 ≤ 140737488351232) (hu : U64 a)
include ha hu
theorem at_l0 {x t p b : Nat} {k num : Int} (ht : t ≤ 4095) (hp : p ≤ 4095) (hb : b + (t + 7) / 8 + p ≤ a.length) (hx : x + rm k t p = b + (t + 7) / 8 + p) (hxb : x ≤ b) :
    ∀ (d i : Nat), i + d = t → heap_At.l0 a (b : Int) zo (t : Int) (p : Int) (x : Int) k num (ByteArray.mk #[]) [] (txt (a.drop b) i) (t : Int) (i : Int) = some (res (fin a x (obj x k num (a.drop b) t p))) := by
  intro d
  induction d with
  | zero =>
    intro i hi
    obtain rfl : i = t := by omega
    have e : IntKind.wrap .i64 ((b : Int) + (IntKind.wrap .i64 (Int.tdiv (IntKind.wrap .i64 ((i : Int) + 7)) 8))) = ((b + (i + 7) / 8 : Nat) : Int) := by
      rw [wrap_in (n := (i : Int) + 7) (by omega) (by omega), show (i : Int) + 7 = ((i + 7 : Nat) : Int) from by omega, tdiv8, wrap_in (n := (((i + 7) / 8 : Nat) : Int)) (by omega) (by omega), wrap_in (by omega) (by omega)]
      omega
    have e2 : IntKind.wrap .i64 (((b + (i + 7) / 8 : Nat) : Int) + (p : Int)) = ((b + (i + 7) / 8 + p : Nat) : Int) := by rw [wrap_in (by omega) (by omega)]; omega
    rw [heap_At.l0_eq, if_neg (by omega), e, e2, sls_of (by omega) (by omega) (by omega), Option.bind_some]
    have hsl : sl a ((b + (i + 7) / 8 : Nat) : Int) ((b + (i + 7) / 8 + p : Nat) : Int) = ((a.drop b).drop ((i + 7) / 8)).take p := by
      unfold sl
      rw [Int.toNat_natCast, Int.toNat_natCast, List.drop_take, List.drop_drop]
      congr 1
      omega
    rw [hsl, ap_nil (by simp; omega), Option.bind_some, put_val (by simp), Option.bind_some]
    have hob : T_heap_Object.mk (x : Int) k num (bytesOf (txt (a.drop b) i)) (((a.drop b).drop ((i + 7) / 8)).take p) = obj x k num (a.drop b) i p := rfl
    rw [hob]
    have hlen : (ow (obj x k num (a.drop b) i p)).length = rm k i p := by
      rw [ow_len]
      unfold obj
      simp only [bytesOf_size, txt_len, List.length_take, List.length_drop]
      congr 1
      omega
    unfold fin
    by_cases hO : Okay (obj x k num (a.drop b) i p)
    · have hr := okay_size hO
      rw [if_pos hO, if_pos (show ([] : List Int).length + rm (obj x k num (a.drop b) i p).Kind (obj x k num (a.drop b) i p).Text.size (obj x k num (a.drop b) i p).Parts.length ≤ 4000 by simp only [List.length_nil]; omega), if_pos rfl, sls_of (by omega) (by omega) (by omega), Option.bind_some]
      have hs2 : sl a (x : Int) ((b + (i + 7) / 8 + p : Nat) : Int) = (a.drop x).take (ow (obj x k num (a.drop b) i p)).length := by
        unfold sl
        rw [Int.toNat_natCast, Int.toNat_natCast, List.drop_take, hlen]
        congr 1
        omega
      obtain ⟨e3, he3, hi3⟩ := slices_Equal_161.val ([] ++ ow (obj x k num (a.drop b) i p)) (sl a (x : Int) ((b + (i + 7) / 8 + p : Nat) : Int)) (by rw [List.nil_append, hlen]; unfold rm; split <;> omega)
      rw [he3, Option.bind_some]
      unfold heap_At.j7 heap_At.j6
      rw [List.nil_append, hs2] at hi3
      by_cases hE : ow (obj x k num (a.drop b) i p) = (a.drop x).take (ow (obj x k num (a.drop b) i p)).length
      · rw [hi3.2 hE, if_neg (by decide), if_pos ⟨hO, hE⟩]; rfl
      · have : e3 = false := by cases e3 with | false => rfl | true => exact absurd (hi3.1 rfl) hE
        rw [this, if_pos (by decide), if_neg (fun h => hE h.2)]; rfl
    · rw [if_neg hO, if_neg (by decide), if_neg (fun h => hO h.1)]; rfl
  | succ d ih =>
    intro i hi
    have hq : b + i / 8 < a.length := by omega
    have hy := hu a[b + i / 8] (List.getElem_mem _)
    have hm : i % 8 < 8 := by omega
    rw [heap_At.l0_eq, if_pos (by omega), tdiv8, tmod8, wrap_in (n := ((i / 8 : Nat) : Int)) (by omega) (by omega), wrap_in (n := (b : Int) + _) (by omega) (by omega), gi_some (k := b + i / 8) (by omega) (List.getElem?_eq_getElem hq), Option.bind_some, if_pos (by rw [wrap_in (by omega) (by omega)]; omega), shr_byte hy.1 hy.2 hm, ap_one (by rw [txt_len]; omega), Option.bind_some, w_succ (by omega)]
    have := ih (i + 1) (by omega)
    rw [txt_succ] at this
    have e : unb (a.drop b) i = a[b + i / 8] / 256 ^ (i % 8) % 256 := by
      unfold unb
      rw [List.getElem?_drop, List.getElem?_eq_getElem hq]; rfl
    rw [e] at this
    exact this

theorem at_val (x : Int) : heap_At a x = some (if 0 ≤ x ∧ x < a.length then res (fnd a x.toNat (a[x.toNat]?.getD 0)) else (zo, 4)) := by
  unfold heap_At
  by_cases h0 : x < 0
  · rw [if_pos h0, heap_At.j1, if_pos rfl, if_neg (by omega)]; rfl
  rw [if_neg h0, heap_At.j1]
  by_cases h1 : x ≥ (a.length : Int)
  · rw [decide_eq_true h1, if_pos rfl, if_neg (by omega)]; rfl
  rw [decide_eq_false h1, if_neg (by decide), if_pos (by omega)]
  obtain ⟨x, rfl⟩ := Int.eq_ofNat_of_zero_le (show 0 ≤ x by omega)
  have hx : x < a.length := by omega
  have hw := hu a[x] (List.getElem_mem _)
  rw [Int.toNat_natCast, List.getElem?_eq_getElem hx, Option.getD_some]
  generalize hwe : a[x] = w at hw
  obtain ⟨w, rfl⟩ := Int.eq_ofNat_of_zero_le hw.1
  unfold heap_At.j0
  rw [gi_some (k := x) rfl (by rw [List.getElem?_eq_getElem hx, hwe]), Option.bind_some]
  have s32 := shr_val (x := w) (s := 32) (by omega)
  have s8 := shr_val (x := w) (s := 8) (by omega)
  have s20 := shr_val (x := w) (s := 20) (by omega)
  have a1 := and_val (x := w) (n := 8) (by omega) (by omega)
  have a2 := and_val (x := w / 2 ^ 8) (n := 12) (by omega) (by omega)
  have a3 := and_val (x := w / 2 ^ 20) (n := 12) (by omega) (by omega)
  have e32 : shrI .u64 (w : Int) 32 = ((w / 2 ^ 32 : Nat) : Int) := s32
  have e8 : bitsI .and .u64 (shrI .u64 (w : Int) 8) 4095 = ((w / 2 ^ 8 % 2 ^ 12 : Nat) : Int) := by rw [← a2, ← s8]; rfl
  have e20 : bitsI .and .u64 (shrI .u64 (w : Int) 20) 4095 = ((w / 2 ^ 20 % 2 ^ 12 : Nat) : Int) := by rw [← a3, ← s20]; rfl
  have e255 : bitsI .and .u64 (w : Int) 255 = ((w % 2 ^ 8 : Nat) : Int) := by rw [← a1]; rfl
  rw [e32, e8, e20, e255, wrap_in (n := ((w % 2 ^ 8 : Nat) : Int)) (by omega) (by omega), wrap_in (n := ((w / 2 ^ 8 % 2 ^ 12 : Nat) : Int)) (by omega) (by omega), wrap_in (n := ((w / 2 ^ 20 % 2 ^ 12 : Nat) : Int)) (by omega) (by omega), room_val (by omega) (by omega), Option.bind_some, wrap_in (n := (a.length : Int) - x) (by omega) (by omega)]
  unfold fnd
  by_cases hb : 4294967296 ≤ w
  · rw [if_neg (by omega), heap_At.j3, if_pos rfl, if_pos (by omega)]; rfl
  have hk : ((w : Int) % 256) = ((w % 2 ^ 8 : Nat) : Int) := by omega
  have ht : (((w : Int) / 256) % 4096).toNat = w / 2 ^ 8 % 2 ^ 12 := by omega
  have hp : ((w : Int) / 1048576).toNat = w / 2 ^ 20 % 2 ^ 12 := by omega
  rw [if_pos (by omega), if_neg (show ¬ (4294967296 ≤ (w : Int)) by omega), hk, ht, hp]
  generalize hkk : ((w % 2 ^ 8 : Nat) : Int) = k
  have htt : w / 2 ^ 8 % 2 ^ 12 ≤ 4095 := by omega
  have hpp : w / 2 ^ 20 % 2 ^ 12 ≤ 4095 := by omega
  generalize w / 2 ^ 8 % 2 ^ 12 = t at *
  generalize w / 2 ^ 20 % 2 ^ 12 = p at *
  unfold heap_At.j3
  by_cases hr : (a.length : Int) - x < (rm k t p : Int)
  · rw [decide_eq_true (by omega), if_pos rfl, if_pos hr]; rfl
  rw [decide_eq_false (by omega), if_neg (by decide), if_neg hr]
  unfold heap_At.j2
  have fin1 : big k = false → heap_At.j4 a ((x + 1 : Nat) : Int) zo (t : Int) (p : Int) (x : Int) k 0 (ByteArray.mk #[]) [] = some (res (fin a x (obj x k (nmb a x k) (rst a x k) t p))) := by
    intro hbk
    unfold heap_At.j4
    unfold rm at hr
    rw [hbk] at hr
    have := at_l0 ha hu (x := x) (t := t) (p := p) (b := x + 1) (k := k) (num := 0) htt hpp (by simp at hr; omega) (by unfold rm; rw [hbk]; simp; omega) (by omega) t 0 (by omega)
    unfold nmb rst
    rw [hbk]
    exact this
  have fin2 : big k = true → (Option.bind (gi a ((x + 1 : Nat) : Int)) fun y => heap_At.j4 a (IntKind.wrap .i64 (((x + 1 : Nat) : Int) + 1)) zo (t : Int) (p : Int) (x : Int) k (IntKind.wrap .i64 y) (ByteArray.mk #[]) []) = some (res (fin a x (obj x k (nmb a x k) (rst a x k) t p))) := by
    intro hbk
    unfold rm at hr
    rw [hbk] at hr
    simp at hr
    have hx1 : x + 1 < a.length := by omega
    rw [gi_some (k := x + 1) rfl (List.getElem?_eq_getElem hx1), Option.bind_some, w_succ (by omega)]
    unfold heap_At.j4
    have := at_l0 ha hu (x := x) (t := t) (p := p) (b := x + 2) (k := k) (num := IntKind.wrap .i64 a[x + 1]) htt hpp (by omega) (by unfold rm; rw [hbk]; simp; omega) (by omega) t 0 (by omega)
    unfold nmb rst
    rw [hbk, List.getElem?_eq_getElem hx1]
    exact this
  have hw1 : IntKind.wrap .i64 ((x : Int) + 1) = ((x + 1 : Nat) : Int) := w_succ (by omega)
  rw [hw1]
  unfold heap_At.j5
  by_cases k1 : k = 1
  · rw [if_pos k1, if_pos rfl]; exact fin2 (by simp [big, k1])
  · rw [if_neg k1]
    by_cases k4 : k = 4
    · rw [if_pos (by simp [k4])]; exact fin2 (by simp [big, k4])
    · rw [if_neg (by simp [k4])]; exact fin1 (by simp [big, k1, k4])

omit hu in
theorem ref_l1 {x : Nat} {o : Ob} {ws : List Int} (hx : x + ws.length ≤ a.length) : ∀ (d k : Nat), k + d = ws.length → ws.take k = (a.drop x).take k →
    roadref3_ObjectAt.l1 a (x : Int) zo o ws (ws.length : Int) (k : Int) = some (if ws = (a.drop x).take ws.length then (o, true) else (zo, false)) := by
  intro d
  induction d with
  | zero =>
    intro k hk he
    obtain rfl : k = ws.length := by omega
    rw [List.take_of_length_le (Nat.le_refl _)] at he
    rw [roadref3_ObjectAt.l1_eq, if_neg (by omega), if_pos he]
  | succ d ih =>
    intro k hk he
    have h1 : k < ws.length := by omega
    have h2 : x + k < a.length := by omega
    rw [roadref3_ObjectAt.l1_eq, if_pos (by omega), gi_at h1, Option.bind_some, wrap_in (by omega) (by omega), gi_some (k := x + k) (by omega) (List.getElem?_eq_getElem h2), Option.bind_some]
    by_cases hq : a[x + k] = ws[k]
    · rw [if_pos hq, w_succ (by omega)]
      refine ih (k + 1) (by omega) ?_
      rw [List.take_succ_eq_append_getElem h1, List.take_succ_eq_append_getElem (by rw [List.length_drop]; omega), he, List.getElem_drop, hq]
    · rw [if_neg hq, if_neg]
      · rfl
      · intro e
        apply hq
        have : ws[k]? = ((a.drop x).take ws.length)[k]? := by rw [← e]
        rw [List.getElem?_take, if_pos h1, List.getElem?_drop, List.getElem?_eq_getElem h1, List.getElem?_eq_getElem h2] at this
        exact (Option.some.inj this).symm
omit ha hu in
theorem ref_l2 {x1 x6_0 x6_1 x6_2 x8 x10 x84 x85 : Int} {s : ByteArray} {r : List Int} {y : Int} (h0 : 0 ≤ y) (h1 : y ≤ 18446744073709551615) {m : Nat} (hm : m < 8) (hs : s.size ≤ 10000) : ∀ (d j : Nat), j + d = m →
    roadref3_ObjectAt.l2 a x1 zo x6_0 x6_1 x6_2 s [] x8 r x10 (y / 256 ^ j) x84 x85 (m : Int) (j : Int) = roadref3_ObjectAt.l0 a x1 zo x6_0 x6_1 x6_2 (s ++ bytesOf [y / 256 ^ m % 256]) [] x8 r x10 x84 (IntKind.wrap .i64 (x85 + 1)) := by
  have hq : ∀ j, 0 ≤ y / 256 ^ j ∧ y / 256 ^ j ≤ 18446744073709551615 := by
    intro j
    have h1' : 0 ≤ y / (256 : Int) ^ j := Int.ediv_nonneg h0 (Int.le_of_lt (Int.pow_pos (by decide)))
    have h2' : y / (256 : Int) ^ j ≤ y := Int.ediv_le_self _ h0
    omega
  intro d
  induction d with
  | zero =>
    intro j hj
    obtain rfl : j = m := by omega
    have := hq j
    rw [roadref3_ObjectAt.l2_eq, if_neg (by omega), if_pos (by rw [bytesOf_size]; simp; omega), u8_mod, Int.tmod_eq_emod_of_nonneg (hq j).1, Int.emod_emod_of_dvd _ (by decide)]
  | succ d ih =>
    intro j hj
    have h3 := hq (j + 1)
    have e : (y / 256 ^ j).tdiv 256 = y / 256 ^ (j + 1) := by
      rw [Int.tdiv_eq_ediv_of_nonneg (hq j).1, Int.pow_succ, Int.ediv_ediv, if_neg (fun h => absurd h.1 (Int.not_lt.2 (Int.le_of_lt (Int.pow_pos (by decide))))), Int.sub_zero]
    rw [roadref3_ObjectAt.l2_eq, if_pos (by omega), e, u64_in h3.1 h3.2, w_succ (by omega)]
    exact ih (j + 1) (by omega)
theorem ref_l0 {x t p b : Nat} {k num : Int} (ht : t ≤ 4095) (hp : p ≤ 4095) (hb : b + (t + 7) / 8 + p ≤ a.length) (hx : x + rm k t p = b + (t + 7) / 8 + p) (hxb : x ≤ b) :
    ∀ (d i : Nat), i + d = t → roadref3_ObjectAt.l0 a (x : Int) zo (x : Int) k num (bytesOf (txt (a.drop b) i)) [] (p : Int) (a.drop b) (((t + 7) / 8 : Nat) : Int) (t : Int) (i : Int) = some (ref (fin a x (obj x k num (a.drop b) t p))) := by
  intro d
  induction d with
  | zero =>
    intro i hi
    obtain rfl : i = t := by omega
    rw [roadref3_ObjectAt.l0_eq, if_neg (by omega), wrap_in (by omega) (by omega), sls_of (by omega) (by omega) (by rw [List.length_drop]; omega), Option.bind_some]
    have hsl : sl (a.drop b) (((i + 7) / 8 : Nat) : Int) ((((i + 7) / 8 : Nat) : Int) + (p : Int)) = ((a.drop b).drop ((i + 7) / 8)).take p := by
      unfold sl
      rw [Int.toNat_natCast, show ((((i + 7) / 8 : Nat) : Int) + (p : Int)).toNat = (i + 7) / 8 + p from by omega, List.drop_take]
      congr 1
      omega
    have hob : T_heap_Object.mk (x : Int) k num (bytesOf (txt (a.drop b) i)) (((a.drop b).drop ((i + 7) / 8)).take p) = obj x k num (a.drop b) i p := rfl
    rw [hsl, ap_nil (by simp; omega), Option.bind_some, hob, is_val, Option.bind_some]
    have hlen : (ow (obj x k num (a.drop b) i p)).length = rm k i p := by
      rw [ow_len]
      unfold obj
      simp only [bytesOf_size, txt_len, List.length_take, List.length_drop]
      congr 1
      omega
    unfold fin
    by_cases hO : Okay (obj x k num (a.drop b) i p)
    · rw [decide_eq_true hO, if_pos rfl, words_val hO, Option.bind_some]
      have := ref_l1 ha (x := x) (o := obj x k num (a.drop b) i p) (ws := ow (obj x k num (a.drop b) i p)) (by omega) _ 0 (Nat.zero_add _) rfl
      refine Eq.trans this ?_
      by_cases hE : ow (obj x k num (a.drop b) i p) = (a.drop x).take (ow (obj x k num (a.drop b) i p)).length
      · rw [if_pos hE, if_pos ⟨hO, hE⟩]; rfl
      · rw [if_neg hE, if_neg (fun h => hE h.2)]; rfl
    · rw [decide_eq_false hO, if_neg (by decide), if_neg (fun h => hO h.1)]; rfl
  | succ d ih =>
    intro i hi
    have hq : b + i / 8 < a.length := by omega
    have hy := hu a[b + i / 8] (List.getElem_mem _)
    have hm : i % 8 < 8 := by omega
    have hg : (a.drop b)[i / 8]? = some a[b + i / 8] := by rw [List.getElem?_drop]; exact List.getElem?_eq_getElem hq
    rw [roadref3_ObjectAt.l0_eq, if_pos (by omega), tdiv8, tmod8, wrap_in (n := ((i / 8 : Nat) : Int)) (by omega) (by omega), gi_some (k := i / 8) rfl hg, Option.bind_some]
    have h2 := ref_l2 (a := a) (x1 := x) (x6_0 := x) (x6_1 := k) (x6_2 := num) (x8 := p) (x10 := (((t + 7) / 8 : Nat) : Int)) (x84 := t) (x85 := i) (s := bytesOf (txt (a.drop b) i)) (r := a.drop b) hy.1 hy.2 hm (by rw [bytesOf_size, txt_len]; omega) _ 0 (Nat.zero_add _)
    have e0 : a[b + i / 8] / 256 ^ 0 = a[b + i / 8] := by simp
    rw [e0] at h2
    refine Eq.trans h2 ?_
    have := ih (i + 1) (by omega)
    rw [txt_succ, bytesOf_append] at this
    have e : unb (a.drop b) i = a[b + i / 8] / 256 ^ (i % 8) % 256 := by
      unfold unb
      rw [hg]; rfl
    rw [e] at this
    rw [w_succ (by omega)]
    exact this
theorem ref_val (x : Int) : roadref3_ObjectAt a x = some (if 0 ≤ x ∧ x < a.length then ref (fnd a x.toNat (a[x.toNat]?.getD 0)) else (zo, false)) := by
  unfold roadref3_ObjectAt roadref3_In
  by_cases h0 : x ≥ 0
  · rw [if_pos h0, Option.bind_some, wrap_in (by omega) (by omega)]
    by_cases h1 : x < (a.length : Int)
    · rw [decide_eq_true (by omega), if_pos rfl, if_pos ⟨h0, h1⟩]
      obtain ⟨x, rfl⟩ := Int.eq_ofNat_of_zero_le (show 0 ≤ x by omega)
      have hx : x < a.length := by omega
      have hw := hu a[x] (List.getElem_mem _)
      rw [Int.toNat_natCast, List.getElem?_eq_getElem hx, Option.getD_some]
      generalize hwe : a[x] = w at hw
      have hg : gi a (x : Int) = some w := gi_some (k := x) rfl (by rw [List.getElem?_eq_getElem hx, hwe])
      rw [hg, Option.bind_some, Int.tdiv_eq_ediv_of_nonneg hw.1, u64_in (by omega) (by omega)]
      unfold fnd
      unfold roadref3_ObjectAt.j1
      by_cases hb : 4294967296 ≤ w
      · rw [decide_eq_true (by omega), if_pos rfl, if_pos hb]; rfl
      rw [decide_eq_false (by omega), if_neg (by decide), if_neg hb]
      unfold roadref3_ObjectAt.j0
      rw [hg, Option.bind_some, Option.bind_some, Option.bind_some, w_succ (by omega), sls_drop (k := x + 1) rfl (by omega), Option.bind_some, Int.tmod_eq_emod_of_nonneg hw.1, Int.tdiv_eq_ediv_of_nonneg hw.1, Int.tdiv_eq_ediv_of_nonneg hw.1, u64_in (n := w / 256) (by omega) (by omega), u64_in (n := w / 1048576) (by omega) (by omega), Int.tmod_eq_emod_of_nonneg (by omega), wrap_in (n := w % 256) (by omega) (by omega), wrap_in (n := w / 256 % 4096) (by omega) (by omega), wrap_in (n := w / 1048576) (by omega) (by omega)]
      obtain ⟨t, ht⟩ := Int.eq_ofNat_of_zero_le (show 0 ≤ w / 256 % 4096 by omega)
      obtain ⟨p, hp⟩ := Int.eq_ofNat_of_zero_le (show 0 ≤ w / 1048576 by omega)
      have htt : t ≤ 4095 := by omega
      have hpp : p ≤ 4095 := by omega
      rw [ht, hp, Int.toNat_natCast, Int.toNat_natCast]
      generalize w % 256 = k
      have e7 : IntKind.wrap .i64 (Int.tdiv (IntKind.wrap .i64 ((t : Int) + 7)) 8) = (((t + 7) / 8 : Nat) : Int) := by
        rw [wrap_in (n := (t : Int) + 7) (by omega) (by omega), show (t : Int) + 7 = ((t + 7 : Nat) : Int) from by omega, tdiv8, wrap_in (by omega) (by omega)]
      have j2 : ∀ (b : Nat) (num : Int), x + rm k t p = b + (t + 7) / 8 + p → x ≤ b → b ≤ a.length → roadref3_ObjectAt.j2 a (x : Int) zo (x : Int) k num (ByteArray.mk #[]) [] (t : Int) (p : Int) (a.drop b) = some (ref (if (a.length : Int) - x < (rm k t p : Int) then none else fin a x (obj x k num (a.drop b) t p))) := by
        intro b num hx2 hxb hba
        unfold roadref3_ObjectAt.j2
        rw [e7, wrap_in (n := _ + (p : Int)) (by omega) (by omega), List.length_drop]
        by_cases hr : (a.length : Int) - x < (rm k t p : Int)
        · rw [if_pos (by omega), if_pos hr]; rfl
        · rw [if_neg (by omega), if_neg hr]
          exact ref_l0 ha hu htt hpp (by omega) hx2 hxb t 0 (by omega)
      have fin1 : big k = false → roadref3_ObjectAt.j2 a (x : Int) zo (x : Int) k 0 (ByteArray.mk #[]) [] (t : Int) (p : Int) (a.drop (x + 1)) = some (ref (if (a.length : Int) - x < (rm k t p : Int) then none else fin a x (obj x k (nmb a x k) (rst a x k) t p))) := by
        intro hbk
        have := j2 (x + 1) 0 (by unfold rm; rw [hbk]; simp; omega) (by omega) (by omega)
        unfold nmb rst
        rw [hbk]
        exact this
      have fin2 : big k = true → roadref3_ObjectAt.j3 a (x : Int) zo (x : Int) k 0 (ByteArray.mk #[]) [] (t : Int) (p : Int) (a.drop (x + 1)) true = some (ref (if (a.length : Int) - x < (rm k t p : Int) then none else fin a x (obj x k (nmb a x k) (rst a x k) t p))) := by
        intro hbk
        unfold roadref3_ObjectAt.j3
        rw [if_pos rfl, List.length_drop]
        by_cases hx1 : x + 1 < a.length
        · rw [if_neg (by omega), gi_some (k := 0) (x := 0) rfl (by rw [List.getElem?_drop]; exact List.getElem?_eq_getElem hx1), Option.bind_some, ← List.length_drop, sls_drop (k := 1) (x := 1) rfl (by rw [List.length_drop]; omega), Option.bind_some, List.drop_drop]
          have := j2 (x + 2) (IntKind.wrap .i64 a[x + 1]) (by unfold rm; rw [hbk]; simp; omega) (by omega) (by omega)
          unfold nmb rst
          rw [hbk, List.getElem?_eq_getElem hx1]
          exact this
        · rw [if_pos (by omega), if_pos (by unfold rm; rw [hbk]; simp; omega)]; rfl
      have fin3 : big k = false → roadref3_ObjectAt.j3 a (x : Int) zo (x : Int) k 0 (ByteArray.mk #[]) [] (t : Int) (p : Int) (a.drop (x + 1)) false = some (ref (if (a.length : Int) - x < (rm k t p : Int) then none else fin a x (obj x k (nmb a x k) (rst a x k) t p))) := by
        intro hbk
        unfold roadref3_ObjectAt.j3
        rw [if_neg (by decide)]
        exact fin1 hbk
      by_cases k1 : k = 1
      · rw [if_pos k1]; exact fin2 (by simp [big, k1])
      · rw [if_neg k1]
        by_cases k4 : k = 4
        · rw [show (k == 4) = true from by simp [k4]]; exact fin2 (by simp [big, k4])
        · rw [show (k == 4) = false from by simp [k4]]; exact fin3 (by simp [big, k1, k4])
    · rw [decide_eq_false (by omega), if_neg (by decide), if_neg (by omega)]; rfl
  · rw [if_neg h0, Option.bind_some, if_neg (by decide), if_neg (by omega)]; rfl

omit ha hu in
theorem fnd_okay {x : Nat} {w : Int} {o : Ob} (h : fnd a x w = some o) : Okay o := by
  unfold fnd at h
  split at h
  · cases h
  · split at h
    · cases h
    · unfold fin at h
      split at h
      · rename_i k; cases h; exact k.1
      · cases h
end
theorem sameWords_loop {l m : List Int} (hl : l.length ≤ 4611686018427387904) (hlm : l.length = m.length) : ∀ (d k : Nat), k + d = l.length → l.take k = m.take k → roadref3_SameWords.l0 l m (l.length : Int) (k : Int) = some (decide (l = m)) := by
  intro d
  induction d with
  | zero =>
    intro k hk he
    rw [List.take_of_length_le (by omega), List.take_of_length_le (by omega)] at he
    rw [roadref3_SameWords.l0_eq, if_neg (by omega), decide_eq_true he]
  | succ d ih =>
    intro k hk he
    have h1 : k < l.length := by omega
    have h2 : k < m.length := by omega
    rw [roadref3_SameWords.l0_eq, if_pos (by omega), gi_at h1, Option.bind_some, gi_at h2, Option.bind_some]
    by_cases hr : l[k] = m[k]
    · rw [if_pos hr, w_succ (by omega)]
      exact ih (k + 1) (by omega) (by rw [List.take_succ_eq_append_getElem h1, List.take_succ_eq_append_getElem h2, he, hr])
    · rw [if_neg hr, decide_eq_false (fun e => hr (by simp [e]))]
theorem sameWords_val (l m : List Int) (hl : l.length ≤ 4611686018427387904) : roadref3_SameWords l m = some (decide (l = m)) := by
  unfold roadref3_SameWords
  by_cases h : l.length = m.length
  · rw [if_pos (by omega)]
    exact sameWords_loop hl h _ 0 (Nat.zero_add _) rfl
  · rw [if_neg (by omega), decide_eq_false (fun e => h (by rw [e]))]

/-! ### Tagged words -/
def Fits (k n : Int) : Prop := (k = 0 ∧ n = 0) ∨ (k = 1 ∧ -1152921504606846976 ≤ n ∧ n < 1152921504606846976) ∨ (k = 2 ∧ (n = 0 ∨ n = 1)) ∨ ((k = 3 ∨ k = 4) ∧ 0 ≤ n ∧ n < 1152921504606846976)
instance (k n : Int) : Decidable (Fits k n) := by unfold Fits; infer_instance
def wd (k n : Int) : Int := (8 * n) % 18446744073709551616 + k
theorem u64_mod (n : Int) : IntKind.wrap .u64 n = n % 18446744073709551616 := by simp [IntKind.wrap, IntKind.bits, IntKind.signed]
theorem tagWord_val {k n : Int} (h0 : 0 ≤ k) (h1 : k ≤ 7) : roadref3_TagWord k n = some (wd k n) := by
  unfold roadref3_TagWord wd
  congr 1
  simp only [u64_mod]
  omega
theorem in_val (x a b : Int) : roadref3_In x a b = some (decide (a ≤ x ∧ x ≤ b)) := by
  unfold roadref3_In
  by_cases h : x ≥ a
  · rw [if_pos h]; congr 1; exact decide_eq_decide.2 (by omega)
  · rw [if_neg h, decide_eq_false (by omega)]
theorem tagFits_val (k n : Int) : roadref3_TagFits k n = some (decide (Fits k n)) := by
  unfold roadref3_TagFits roadref3_TagFits.j0
  have key : ∀ a b : Int, (Option.bind (roadref3_In k 0 4) fun y4 => if y4 = true then (Option.bind (roadref3_In n a b) fun y10 => some (y10)) else (some (false))) = some (decide ((0 ≤ k ∧ k ≤ 4) ∧ a ≤ n ∧ n ≤ b)) := by
    intro a b
    rw [in_val, Option.bind_some, in_val]
    by_cases h : 0 ≤ k ∧ k ≤ 4
    · rw [decide_eq_true h, if_pos rfl, Option.bind_some]; congr 1; exact decide_eq_decide.2 ⟨fun x => ⟨h, x⟩, fun x => x.2⟩
    · rw [decide_eq_false h, if_neg (by decide), decide_eq_false (fun x => h x.1)]
  simp only [key]
  unfold Fits
  by_cases k0 : k = 0
  · rw [if_pos k0]; congr 1; exact decide_eq_decide.2 (by omega)
  rw [if_neg k0]
  by_cases k1 : k = 1
  · rw [if_pos k1]; congr 1; exact decide_eq_decide.2 (by omega)
  rw [if_neg k1]
  by_cases k2 : k = 2
  · rw [if_pos k2]; congr 1; exact decide_eq_decide.2 (by omega)
  rw [if_neg k2]; congr 1; exact decide_eq_decide.2 (by omega)
theorem or_word {k n : Int} (h0 : 0 ≤ k) (h1 : k ≤ 7) : bitsI .or .u64 (shlI .u64 (IntKind.wrap .u64 n) 3) (IntKind.wrap .u64 k) = wd k n := by
  rw [u64_in h0 (by omega)]
  have e1 : shlI .u64 (IntKind.wrap .u64 n) 3 = (8 * n) % 18446744073709551616 := by
    unfold shlI
    rw [show min (Int.toNat 3) (IntKind.bits .u64) = 3 from rfl, u64_mod, u64_mod]
    omega
  rw [e1]
  obtain ⟨k, rfl⟩ := Int.eq_ofNat_of_zero_le h0
  obtain ⟨y, hy⟩ := Int.eq_ofNat_of_zero_le (show 0 ≤ (8 * n) % 18446744073709551616 / 8 by omega)
  have e2 : (8 * n) % 18446744073709551616 = ((y * 2 ^ 3 : Nat) : Int) := by omega
  have := or_val (x := k) (y := y) (s := 3) (by omega) (by omega)
  unfold wd
  rw [e2]
  show IntKind.wrap .u64 ((BitVec.ofInt 64 ((y * 2 ^ 3 : Nat) : Int) ||| BitVec.ofInt 64 (k : Int)).toNat : Nat) = _
  rw [BitVec.or_comm]
  refine Eq.trans this ?_
  omega
theorem word_val (k n : Int) : term_Word k n = some (if Fits k n then (wd k n, 0) else (0, if k < 0 ∨ k > 4 then 1 else 2)) := by
  have j0 : ∀ b, b = decide (Fits k n) → term_Word.j0 k n b = some (if Fits k n then (wd k n, 0) else (0, if k < 0 ∨ k > 4 then 1 else 2)) := by
    rintro b rfl
    unfold term_Word.j0
    by_cases h : Fits k n
    · rw [decide_eq_true h, if_pos rfl, if_pos h, or_word (by unfold Fits at h; omega) (by unfold Fits at h; omega)]
    · rw [decide_eq_false h, if_neg (by decide), if_neg h]
      unfold term_Word.j2
      by_cases h1 : k < 0
      · rw [if_pos h1, if_pos rfl, if_pos (.inl h1)]
      · rw [if_neg h1]
        by_cases h2 : k > 4
        · rw [decide_eq_true h2, if_pos rfl, if_pos (.inr h2)]
        · rw [decide_eq_false h2, if_neg (by decide), if_neg (by omega)]
  have small : term_Small n = some (decide (-1152921504606846976 ≤ n ∧ n < 1152921504606846976)) := by
    unfold term_Small
    by_cases h : n ≥ -1152921504606846976
    · rw [if_pos h]; congr 1; exact decide_eq_decide.2 (by omega)
    · rw [if_neg h, decide_eq_false (by omega)]
  have j4 : ∀ b, b = decide ((k = 0 ∨ k = 1 ∨ k = 2) ∧ Fits k n) → term_Word.j4 k n b = some (if Fits k n then (wd k n, 0) else (0, if k < 0 ∨ k > 4 then 1 else 2)) := by
    rintro b rfl
    unfold term_Word.j4
    by_cases h : (k = 0 ∨ k = 1 ∨ k = 2) ∧ Fits k n
    · rw [decide_eq_true h, if_pos rfl]; exact j0 _ (decide_eq_true h.2).symm
    rw [decide_eq_false h, if_neg (by decide)]
    by_cases k3 : k = 3
    · rw [if_pos k3]
      by_cases hn : n ≥ 0
      · rw [if_pos hn]; exact j0 _ (decide_eq_decide.2 (by unfold Fits; omega))
      · rw [if_neg hn]; exact j0 _ (decide_eq_false (by unfold Fits; omega)).symm
    rw [if_neg k3]
    by_cases k4 : k = 4
    · rw [if_pos k4]
      by_cases hn : n ≥ 0
      · rw [if_pos hn]; exact j0 _ (decide_eq_decide.2 (by unfold Fits; omega))
      · rw [if_neg hn]; exact j0 _ (decide_eq_false (by unfold Fits; omega)).symm
    rw [if_neg k4]; exact j0 _ (decide_eq_false (by unfold Fits at h ⊢; omega)).symm
  have j3 : ∀ b, b = decide ((k = 0 ∨ k = 2) ∧ Fits k n) → term_Word.j3 k n b = some (if Fits k n then (wd k n, 0) else (0, if k < 0 ∨ k > 4 then 1 else 2)) := by
    rintro b rfl
    unfold term_Word.j3
    by_cases h : (k = 0 ∨ k = 2) ∧ Fits k n
    · rw [decide_eq_true h, if_pos rfl]; exact j0 _ (decide_eq_true h.2).symm
    rw [decide_eq_false h, if_neg (by decide)]
    by_cases k1 : k = 1
    · rw [if_pos k1, small, Option.bind_some]; exact j4 _ (decide_eq_decide.2 (by unfold Fits; omega))
    · rw [if_neg k1]; exact j4 _ (decide_eq_false (by unfold Fits at h ⊢; omega)).symm
  have j1 : ∀ b, b = decide (k = 0 ∧ Fits k n) → term_Word.j1 k n b = some (if Fits k n then (wd k n, 0) else (0, if k < 0 ∨ k > 4 then 1 else 2)) := by
    rintro b rfl
    unfold term_Word.j1
    by_cases h : k = 0 ∧ Fits k n
    · rw [decide_eq_true h, if_pos rfl]; exact j0 _ (decide_eq_true h.2).symm
    rw [decide_eq_false h, if_neg (by decide)]
    by_cases k2 : k = 2
    · rw [if_pos k2]
      by_cases n0 : n = 0
      · rw [if_pos n0]; exact j3 _ (decide_eq_true (by unfold Fits; omega)).symm
      · rw [if_neg n0]; refine j3 _ ?_
        by_cases n1 : n = 1
        · subst n1; exact (decide_eq_true (by unfold Fits; omega)).symm
        · rw [show (n == 1) = false from by simp [n1]]; exact (decide_eq_false (by unfold Fits; omega)).symm
    · rw [if_neg k2]; exact j3 _ (decide_eq_false (by unfold Fits at h ⊢; omega)).symm
  unfold term_Word
  by_cases k0 : k = 0
  · rw [if_pos k0]; refine j1 _ ?_
    by_cases n0 : n = 0
    · subst n0; exact (decide_eq_true (by unfold Fits; omega)).symm
    · rw [show (n == 0) = false from by simp [n0]]; exact (decide_eq_false (by unfold Fits; omega)).symm
  · rw [if_neg k0]; exact j1 _ (decide_eq_false (by omega)).symm

/-! ### Words read -/
def nn (w : Int) : Int := if w % 8 = 1 ∧ w / 8 ≥ 1152921504606846976 then w / 8 - 2305843009213693952 else w / 8
def rd (w : Int) : Option (Int × Int) := if Fits (w % 8) (nn w) ∧ wd (w % 8) (nn w) = w then some (w % 8, nn w) else none
section
variable {w : Int} (h0 : 0 ≤ w) (h1 : w ≤ 18446744073709551615)
include h0 h1
omit h0 h1 in
theorem rd_fits {k n : Int} (h : rd w = some (k, n)) : Fits k n := by
  unfold rd at h
  split at h
  · rename_i c; cases h; exact c.1
  · cases h
theorem tread_val : term_Read w = some (match rd w with | some (k, n) => (k, n, 0) | none => (0, 0, 3)) := by
  unfold term_Read
  rw [Int.tmod_eq_emod_of_nonneg h0, wrap_in (n := w % 8) (by omega) (by omega)]
  have key : term_Read.j0 w (w % 8) (nn w) = some (match rd w with | some (k, n) => (k, n, 0) | none => (0, 0, 3)) := by
    unfold term_Read.j0 rd
    rw [word_val, Option.bind_some]
    by_cases hf : Fits (w % 8) (nn w)
    · rw [if_pos hf, if_pos rfl]
      unfold term_Read.j2 term_Read.j1
      by_cases he : wd (w % 8) (nn w) = w
      · rw [if_neg (by simp [he]), if_pos ⟨hf, he⟩]
      · rw [if_pos (by simp [he]), if_neg (fun x => he x.2)]
    · rw [if_neg hf, if_neg (by simp only; split <;> decide), if_neg (fun x => hf x.1)]; rfl
  by_cases k1 : w % 8 = 1
  · rw [if_pos k1]
    have e : shrI .i64 (IntKind.wrap .i64 w) 3 = nn w := by
      unfold shrI nn
      rw [show min (Int.toNat 3) (IntKind.bits .i64) = 3 from rfl, Int.fdiv_eq_ediv_of_nonneg _ (by decide)]
      have ew : IntKind.wrap .i64 w = if w ≥ 9223372036854775808 then w - 18446744073709551616 else w := by
        have : w % 18446744073709551616 = w := Int.emod_eq_of_lt h0 (by omega)
        simp [IntKind.wrap, IntKind.bits, IntKind.signed, this]
      rw [ew]
      split <;> split <;> omega
    rw [e]; exact key
  · rw [if_neg k1]
    have e : IntKind.wrap .i64 (shrI .u64 w 3) = nn w := by
      unfold shrI nn
      rw [show min (Int.toNat 3) (IntKind.bits .u64) = 3 from rfl, Int.fdiv_eq_ediv_of_nonneg _ (by decide), wrap_in (by omega) (by omega), if_neg (by omega)]
      omega
    rw [e]; exact key
theorem tagRead_val : roadref3_TagRead w = some (match rd w with | some (k, n) => (k, n, true) | none => (0, 0, false)) := by
  unfold roadref3_TagRead
  rw [Int.tmod_eq_emod_of_nonneg h0, Int.tdiv_eq_ediv_of_nonneg h0, u64_in (n := w / 8) (by omega) (by omega), wrap_in (n := w % 8) (by omega) (by omega), wrap_in (n := w / 8) (by omega) (by omega)]
  have key : roadref3_TagRead.j0 w (w % 8) (nn w) = some (match rd w with | some (k, n) => (k, n, true) | none => (0, 0, false)) := by
    unfold roadref3_TagRead.j0 rd
    rw [tagFits_val, Option.bind_some]
    by_cases hf : Fits (w % 8) (nn w)
    · rw [decide_eq_true hf, if_pos rfl, tagWord_val (by omega) (by omega), Option.bind_some]
      unfold roadref3_TagRead.j3 roadref3_TagRead.j2
      by_cases he : wd (w % 8) (nn w) = w
      · rw [if_neg (by simp [he]), if_pos ⟨hf, he⟩]
      · rw [if_pos (by simp [he]), if_neg (fun x => he x.2)]
    · rw [decide_eq_false hf, if_neg (by decide), if_neg (fun x => hf x.1)]; rfl
  unfold roadref3_TagRead.j1
  by_cases k1 : w % 8 = 1
  · rw [if_pos k1]
    by_cases hb : w / 8 ≥ 1152921504606846976
    · rw [decide_eq_true hb, if_pos rfl, wrap_in (by omega) (by omega), show w / 8 - 2305843009213693952 = nn w from by unfold nn; rw [if_pos ⟨k1, hb⟩]]; exact key
    · rw [decide_eq_false hb, if_neg (by decide)]
      have e : nn w = w / 8 := by unfold nn; rw [if_neg (fun x => hb x.2)]
      rw [e] at key; exact key
  · rw [if_neg k1, if_neg (by decide)]
    have e : nn w = w / 8 := by unfold nn; rw [if_neg (fun x => k1 x.1)]
    rw [e] at key; exact key
end
abbrev Va := T_api_Value
def vz : Va := T_api_Value.mk 0 0 (ByteArray.mk #[]) []
def kd : List Int := [1, 2, 3, 6]
def small (k n : Int) : Va := T_api_Value.mk (kd.getD k.toNat 0) n (ByteArray.mk #[]) []
theorem kd_gi {k : Int} (h0 : 0 ≤ k) (h1 : k ≤ 3) : gi kd k = some (kd.getD k.toNat 0) := by
  have : k = 0 ∨ k = 1 ∨ k = 2 ∨ k = 3 := by omega
  rcases this with rfl | rfl | rfl | rfl <;> rfl
theorem tvalue_val {w : Int} (h0 : 0 ≤ w) (h1 : w ≤ 18446744073709551615) : term_Value w = some (match rd w with | some (k, n) => if k = 4 then (vz, false) else (small k n, true) | none => (vz, false)) := by
  unfold term_Value
  rw [tread_val h0 h1, Option.bind_some]
  cases hr : rd w with
  | none => rfl
  | some p =>
    obtain ⟨k, n⟩ := p
    have hf := rd_fits hr
    show (if (0 : Int) = 0 then _ else _) = some (if k = 4 then _ else _)
    rw [if_pos rfl]
    unfold term_Value.j1
    by_cases k4 : k = 4
    · rw [if_pos (by simp [k4]), if_pos k4]; rfl
    · rw [if_neg (by simp [k4]), if_neg k4]
      unfold term_Value.j0
      have := kd_gi (k := k) (by unfold Fits at hf; omega) (by unfold Fits at hf; omega)
      unfold kd at this
      rw [this]; rfl
theorem valueOf_val {w : Int} (h0 : 0 ≤ w) (h1 : w ≤ 18446744073709551615) : roadref3_ValueOf w = some (match rd w with | some (k, n) => if k = 4 then (vz, false) else (small k n, true) | none => (vz, false)) := by
  unfold roadref3_ValueOf
  rw [tagRead_val h0 h1, Option.bind_some]
  cases hr : rd w with
  | none => rfl
  | some p =>
    obtain ⟨k, n⟩ := p
    have hf := rd_fits hr
    show (if true = true then _ else _) = some (if k = 4 then _ else _)
    rw [if_pos rfl]
    unfold roadref3_ValueOf.j1
    by_cases k4 : k = 4
    · rw [if_pos (by simp [k4]), if_pos k4]; rfl
    · rw [if_neg (by simp [k4]), if_neg k4]
      unfold roadref3_ValueOf.j0 roadref3_valueKinds
      have := kd_gi (k := k) (by unfold Fits at hf; omega) (by unfold Fits at hf; omega)
      unfold kd at this
      rw [Option.bind_some, this]; rfl

/-! ### Values as words -/
def ix (k : Int) : Int := if k = 1 then 0 else if k = 2 then 1 else if k = 3 then 2 else if k = 6 then 3 else -1
def wOf (v : Va) : Option Int := if 0 ≤ ix v.Kind ∧ v.Text = ByteArray.mk #[] ∧ v.Args = [] ∧ Fits (ix v.Kind) v.Num then some (wd (ix v.Kind) v.Num) else none
def wRes (o : Option Int) : Int × Bool := match o with | some w => (w, true) | none => (0, false)
theorem of_val (v : Va) : ∃ r, term_Of v = some r ∧ (r.2 = true → wOf v = some r.1) ∧ (r.2 = false → wOf v = none) := by
  have j0 : ∀ k, k = ix v.Kind → ∃ r, term_Of.j0 v k = some r ∧ (r.2 = true → wOf v = some r.1) ∧ (r.2 = false → wOf v = none) := by
    rintro k rfl
    unfold term_Of.j0
    have hA : v.Args = [] ↔ v.Args.length = 0 := List.length_eq_zero_iff.symm
    by_cases h : ix v.Kind < 0
    · rw [if_pos h, term_Of.j2, if_pos rfl]
      exact ⟨_, rfl, fun h => (by cases h), fun _ => by unfold wOf; rw [if_neg (fun x => by omega)]⟩
    rw [if_neg h]
    by_cases ht : v.Text = ByteArray.mk #[]
    · rw [if_pos ht, term_Of.j2]
      by_cases ha : ((v.Args.length : Nat) : Int) > 0
      · rw [decide_eq_true ha, if_pos rfl]
        exact ⟨_, rfl, fun h => (by cases h), fun _ => by unfold wOf; rw [if_neg (fun x => by have := hA.1 x.2.2.1; omega)]⟩
      · rw [decide_eq_false ha, if_neg (by decide), term_Of.j1, word_val, Option.bind_some]
        by_cases hf : Fits (ix v.Kind) v.Num
        · rw [if_pos hf]
          exact ⟨_, rfl, fun _ => (by unfold wOf; rw [if_pos ⟨by omega, ht, hA.2 (by omega), hf⟩]), fun h => (by cases h)⟩
        · rw [if_neg hf]
          refine ⟨_, rfl, fun h => ?_, fun _ => by unfold wOf; rw [if_neg (fun x => hf x.2.2.2)]⟩
          simp only at h
          split at h <;> cases h
    · rw [if_neg ht, term_Of.j2, if_pos rfl]
      exact ⟨_, rfl, fun h => (by cases h), fun _ => by unfold wOf; rw [if_neg (fun x => ht x.2.1)]⟩
  unfold term_Of
  unfold ix at j0
  by_cases k1 : v.Kind = 1
  · rw [if_pos k1]; exact j0 _ (by rw [if_pos k1])
  rw [if_neg k1]
  by_cases k2 : v.Kind = 2
  · rw [if_pos k2]; exact j0 _ (by rw [if_neg k1, if_pos k2])
  rw [if_neg k2]
  by_cases k3 : v.Kind = 3
  · rw [if_pos k3]; exact j0 _ (by rw [if_neg k1, if_neg k2, if_pos k3])
  rw [if_neg k3]
  by_cases k6 : v.Kind = 6
  · rw [if_pos k6]; exact j0 _ (by rw [if_neg k1, if_neg k2, if_neg k3, if_pos k6])
  · rw [if_neg k6]; exact j0 _ (by rw [if_neg k1, if_neg k2, if_neg k3, if_neg k6])
theorem wordOf_val (v : Va) : roadref3_WordOf v = some (wRes (wOf v)) := by
  unfold roadref3_WordOf roadref3_valueKinds
  rw [Option.bind_some]
  have hA : v.Args = [] ↔ v.Args.length = 0 := List.length_eq_zero_iff.symm
  have key : ∀ (d k : Nat), k + d = 4 → (∀ j : Nat, j < k → ∀ z, [1, 2, 3, 6][j]? = some z → v.Kind = z → wOf v = none) → roadref3_WordOf.l0 v [1, 2, 3, 6] (k : Int) = some (wRes (wOf v)) := by
    intro d
    induction d with
    | zero =>
      intro k hk hn
      obtain rfl : k = 4 := by omega
      rw [roadref3_WordOf.l0_eq, if_neg (by omega)]
      have : wOf v = none := by
        by_cases k1 : v.Kind = 1
        · exact hn 0 (by omega) 1 rfl k1
        by_cases k2 : v.Kind = 2
        · exact hn 1 (by omega) 2 rfl k2
        by_cases k3 : v.Kind = 3
        · exact hn 2 (by omega) 3 rfl k3
        by_cases k6 : v.Kind = 6
        · exact hn 3 (by omega) 6 rfl k6
        unfold wOf ix
        rw [if_neg k1, if_neg k2, if_neg k3, if_neg k6, if_neg (fun x => by omega)]
      rw [this]; rfl
    | succ d ih =>
      intro k hk hn
      have hz : ∃ z : Int, [1, 2, 3, 6][k]? = some z ∧ ∀ y : Int, y = z → ix y = (k : Int) := by
        have : k = 0 ∨ k = 1 ∨ k = 2 ∨ k = 3 := by omega
        rcases this with rfl | rfl | rfl | rfl
        · exact ⟨1, rfl, fun y h => by subst h; rfl⟩
        · exact ⟨2, rfl, fun y h => by subst h; rfl⟩
        · exact ⟨3, rfl, fun y h => by subst h; rfl⟩
        · exact ⟨6, rfl, fun y h => by subst h; rfl⟩
      obtain ⟨z, hz, hix⟩ := hz
      have step : (∀ z, [1, 2, 3, 6][k]? = some z → v.Kind = z → wOf v = none) → roadref3_WordOf.j0 v (k : Int) [1, 2, 3, 6] (k : Int) false = some (wRes (wOf v)) := by
        intro hk2
        rw [roadref3_WordOf.j0_eq, if_neg (by decide), w_succ (by omega)]
        refine ih (k + 1) (by omega) (fun j hj z h1 h2 => ?_)
        by_cases hjk : j = k
        · subst hjk; exact hk2 z h1 h2
        · exact hn j (by omega) z h1 h2
      rw [roadref3_WordOf.l0_eq, if_pos (by omega), gi_some (k := k) rfl hz, Option.bind_some]
      by_cases hk : v.Kind = z
      · rw [if_pos hk]
        have hi := hix _ hk
        by_cases ht : v.Text = ByteArray.mk #[]
        · rw [if_pos ht]
          by_cases ha : v.Args.length = 0
          · rw [if_pos (by omega), tagFits_val, Option.bind_some]
            by_cases hf : Fits (k : Int) v.Num
            · rw [decide_eq_true hf, roadref3_WordOf.j0_eq, if_pos rfl, tagWord_val (by omega) (by omega), Option.bind_some]
              have : wOf v = some (wd k v.Num) := by unfold wOf; rw [if_pos ⟨by omega, ht, hA.2 ha, by rw [hi]; exact hf⟩, hi]
              rw [this]; rfl
            · rw [decide_eq_false hf]
              exact step (fun _ _ _ => by unfold wOf; rw [if_neg (fun x => hf (by have := x.2.2.2; rwa [hi] at this))])
          · rw [if_neg (by omega)]
            exact step (fun _ _ _ => by unfold wOf; rw [if_neg (fun x => ha (hA.1 x.2.2.1))])
        · rw [if_neg ht]
          exact step (fun _ _ _ => by unfold wOf; rw [if_neg (fun x => ht x.2.1)])
      · rw [if_neg hk]
        exact step (fun y h1 h2 => by rw [hz] at h1; cases h1; exact absurd h2 hk)
  exact key 4 0 (by omega) (fun j hj => by omega)

/-! ### Building -/
def kx (k : Int) : Int := if k = 2 then 1 else if k = 4 then 2 else if k = 5 then 3 else if k = 7 then 4 else if k = 8 then 5 else 0
theorem kx_val (k : Int) : pgd (pset (pset (pset (pset (pset ([] : List (Int × Int)) 2 1) 4 2) 5 3) 7 4) 8 5) k 0 = kx k := by
  unfold pgd kx
  simp only [pget_pset]
  by_cases k2 : k = 2
  · subst k2; rfl
  by_cases k4 : k = 4
  · subst k4; rfl
  by_cases k5 : k = 5
  · subst k5; rfl
  by_cases k7 : k = 7
  · subst k7; rfl
  by_cases k8 : k = 8
  · subst k8; rfl
  simp only [if_neg k2, if_neg k4, if_neg k5, if_neg k7, if_neg k8]; rfl
def Good (r : List Int × Int × Int) : Prop := r.1.length ≤ 4000 ∧ (r.2.2 ≠ 0 → r.1 = [] ∧ r.2.1 = 0)
theorem built_end {a : List Int} {o : Ob} (ha : a.length ≤ 4000) : ∃ r, (Option.bind (heap_Put a o) fun y => if y.2.2 = (0 : Int) then (Option.bind (term_Word (4 : Int) y.2.1) fun z => some (y.1, z.1, z.2)) else (some (([] : List Int), (0 : Int), y.2.2))) = some r ∧
    (Option.bind (roadref3_ObjectIs o) fun y => if y = true then (Option.bind (roadref3_ObjectWords o) fun z => if (IntKind.wrap .i64 ((((List.length a) : Nat) : Int) + (((List.length z) : Nat) : Int))) > (4000 : Int) then (some (([] : List Int), (0 : Int), (6 : Int))) else (Option.bind (ap 8 ([] : List Int) a) fun l => Option.bind (ap 8 l z) fun l2 => Option.bind (roadref3_TagWord (4 : Int) (((List.length a) : Nat) : Int)) fun w => some (l2, w, (0 : Int)))) else (some (([] : List Int), (0 : Int), (1 : Int)))) = some r ∧ Good r := by
  rw [put_val (by omega), Option.bind_some, is_val, Option.bind_some]
  by_cases hO : Okay o
  · have hr := okay_size hO
    rw [if_pos hO, decide_eq_true hO, words_val hO, Option.bind_some, ow_len, wrap_in (by omega) (by omega)]
    by_cases h4 : a.length + rm o.Kind o.Text.size o.Parts.length ≤ 4000
    · rw [if_pos h4]
      refine ⟨(a ++ ow o, wd 4 a.length, 0), ?_, ?_, ⟨by simp [ow_len]; omega, fun h => absurd rfl h⟩⟩
      · show (if (0 : Int) = 0 then Option.bind (term_Word 4 (a.length : Int)) _ else _) = _
        rw [if_pos rfl, word_val, Option.bind_some, if_pos (by unfold Fits; omega)]
      · rw [if_pos rfl, if_neg (by omega), ap_nil (by omega), Option.bind_some, ap_of (by rw [ow_len]; omega), Option.bind_some, tagWord_val (by omega) (by omega)]; rfl
    · rw [if_neg h4]
      exact ⟨([], 0, 6), rfl, by rw [if_pos rfl, if_pos (by omega)], ⟨by simp, fun _ => ⟨rfl, rfl⟩⟩⟩
  · rw [if_neg hO, decide_eq_false hO]
    exact ⟨([], 0, 1), rfl, rfl, ⟨by simp, fun _ => ⟨rfl, rfl⟩⟩⟩
theorem build_val : ∀ (n : Nat) (v : Va), SizeOf.sizeOf v ≤ n → T_api_Value.Q v → ∀ a : List Int, a.length ≤ 4000 → ∃ r, heap_Build a v = some r ∧ roadref3_Built a v = some r ∧ Good r := by
  intro n
  induction n with
  | zero => intro v hv; cases v; simp at hv
  | succ n ih =>
    intro v hv hQ a ha
    obtain ⟨_, _, _, hQl, hQa⟩ := T_api_Value.Q_iff.1 hQ
    obtain ⟨r, hr, hr1, hr2⟩ := of_val v
    rw [heap_Build_eq, roadref3_Built_eq, hr, wordOf_val, Option.bind_some, Option.bind_some]
    cases h2 : r.2 with
    | true =>
      rw [hr1 h2]
      refine ⟨(a, r.1, 0), ?_, rfl, ⟨ha, fun h => absurd rfl h⟩⟩
      rw [if_pos rfl, slices_Clone_53.val _ (by omega)]; rfl
    | false =>
      rw [hr2 h2, if_neg (by decide), show wRes none = (0, false) from rfl, if_neg (show ¬ ((0, false) : Int × Bool).2 = true by decide)]
      have loop : ∀ (kk num : Int) (r pre : List Va) (ps : List Int) (a : List Int), v.Args = pre ++ r → ps.length = pre.length → a.length ≤ 4000 → ∃ q, heap_Build.l0 a 0 kk num v.Text ps v.Args (v.Args.length : Int) (pre.length : Int) = some q ∧
          roadref3_Built.l0 a 0 kk num v.Text ps v.Args (v.Args.length : Int) (pre.length : Int) = some q ∧ Good q := by
        intro kk num r
        induction r with
        | nil =>
          intro pre ps a he hp ha
          rw [heap_Build.l0_eq, roadref3_Built.l0_eq, if_neg (by rw [he]; simp), if_neg (by rw [he]; simp)]
          exact built_end ha
        | cons x r ihr =>
          intro pre ps a he hp ha
          have hlen : v.Args.length = pre.length + (r.length + 1) := by rw [he]; simp
          have hx : x ∈ v.Args := by rw [he]; simp
          have hsz : SizeOf.sizeOf x ≤ n := by
            have h1 := List.sizeOf_lt_of_mem hx
            have h2 : SizeOf.sizeOf v = 1 + SizeOf.sizeOf v.Kind + SizeOf.sizeOf v.Num + SizeOf.sizeOf v.Text + SizeOf.sizeOf v.Args := by cases v; simp
            omega
          obtain ⟨q, hq1, hq2, hq3⟩ := ih x hsz (hQa x hx) a ha
          have hg : gi v.Args (pre.length : Int) = some x := gi_some (k := pre.length) rfl (by rw [he]; simp)
          rw [heap_Build.l0_eq, roadref3_Built.l0_eq, if_pos (by omega), if_pos (by omega), hg, Option.bind_some, Option.bind_some, hq1, hq2, Option.bind_some, Option.bind_some]
          by_cases h0 : q.2.2 = 0
          · rw [if_pos h0, if_pos h0, ap_one (by omega), Option.bind_some, Option.bind_some, w_succ (by omega)]
            have := ihr (pre ++ [x]) (ps ++ [q.2.1]) q.1 (by simpa using he) (by simp [hp]) hq3.1
            simpa using this
          · rw [if_neg h0, if_neg h0]
            exact ⟨_, rfl, rfl, ⟨by simp, fun _ => ⟨rfl, rfl⟩⟩⟩
      have fin : ∀ kk num : Int, ∃ q, heap_Build.j1 a v 0 kk num v.Text [] = some q ∧ roadref3_Built.l0 a 0 kk num v.Text [] v.Args (v.Args.length : Int) 0 = some q ∧ Good q := by
        intro kk num
        rw [heap_Build.j1_eq]
        exact loop kk num v.Args [] [] a rfl rfl ha
      have go : ∀ kk num : Int, kk = kx v.Kind → kk ≠ 0 → num = (if kk = 1 ∨ kk = 4 then v.Num else 0) → ∃ q, heap_Build.j0 a v 0 kk num v.Text [] = some q ∧ (if kk = 0 then roadref3_Built.j1 a v kk true else if v.Num = 0 then roadref3_Built.j1 a v kk false else if kk = 1 then roadref3_Built.j1 a v kk false else roadref3_Built.j1 a v kk (kk != 4)) = some q ∧ Good q := by
        intro kk num hkk hk0 hnum
        rw [if_neg hk0, heap_Build.j0_eq]
        by_cases hn : v.Num = 0
        · have : num = v.Num := by rw [hnum, hn]; split <;> rfl
          rw [if_pos hn, if_pos hn, heap_Build.j2_eq, if_neg (by decide), roadref3_Built.j1_eq, if_neg (by decide), roadref3_Built.j0_eq, this]; exact fin kk v.Num
        rw [if_neg hn, if_neg hn, heap_Build.j2_eq]
        by_cases k1 : kk = 1
        · have e : num = v.Num := by rw [hnum, if_pos (.inl k1)]
          rw [e, if_neg (show ¬ (v.Num == 0) = true by simp [hn]), if_pos k1, roadref3_Built.j1_eq, if_neg (by decide), roadref3_Built.j0_eq]; exact fin kk v.Num
        rw [if_neg k1]
        by_cases k4 : kk = 4
        · have e : num = v.Num := by rw [hnum, if_pos (.inr k4)]
          rw [e, if_neg (show ¬ (v.Num == 0) = true by simp [hn]), roadref3_Built.j1_eq, if_neg (by simp [k4]), roadref3_Built.j0_eq]; exact fin kk v.Num
        · have e : num = 0 := by rw [hnum, if_neg (by omega)]
          rw [e, if_pos (by rfl), roadref3_Built.j1_eq, if_pos (by simp [k4])]
          exact ⟨_, rfl, rfl, ⟨by simp, fun _ => ⟨rfl, rfl⟩⟩⟩
      simp only [Option.bind_some, kx_val]
      by_cases k2 : v.Kind = 2
      · have e : kx v.Kind = 1 := by unfold kx; rw [if_pos k2]
        rw [if_pos k2, e]; exact go 1 v.Num e.symm (by decide) (by simp)
      rw [if_neg k2]
      by_cases k4 : v.Kind = 4
      · have e : kx v.Kind = 2 := by unfold kx; rw [if_neg k2, if_pos k4]
        rw [if_pos k4, e]; exact go 2 0 e.symm (by decide) (by simp)
      rw [if_neg k4]
      by_cases k5 : v.Kind = 5
      · have e : kx v.Kind = 3 := by unfold kx; rw [if_neg k2, if_neg k4, if_pos k5]
        rw [if_pos k5, e]; exact go 3 0 e.symm (by decide) (by simp)
      rw [if_neg k5]
      by_cases k7 : v.Kind = 7
      · have e : kx v.Kind = 4 := by unfold kx; rw [if_neg k2, if_neg k4, if_neg k5, if_pos k7]
        rw [if_pos k7, e]; exact go 4 v.Num e.symm (by decide) (by simp)
      rw [if_neg k7]
      by_cases k8 : v.Kind = 8
      · have e : kx v.Kind = 5 := by unfold kx; rw [if_neg k2, if_neg k4, if_neg k5, if_neg k7, if_pos k8]
        rw [if_pos k8, e]; exact go 5 0 e.symm (by decide) (by simp)
      · have e : kx v.Kind = 0 := by unfold kx; rw [if_neg k2, if_neg k4, if_neg k5, if_neg k7, if_neg k8]
        rw [if_neg k8, e, if_pos rfl, roadref3_Built.j1_eq, if_pos rfl]
        exact ⟨_, rfl, rfl, ⟨by simp, fun _ => ⟨rfl, rfl⟩⟩⟩

/-! ### Reading -/
inductive Sm : Va → Prop
  | mk (k n : Int) (t : ByteArray) (l : List Va) : l.length ≤ 100000 → (∀ x ∈ l, Sm x) → Sm ⟨k, n, t, l⟩
theorem sm_vz : Sm vz := Sm.mk _ _ _ _ (by simp) (fun x hx => by cases hx)
theorem sm_small (k n : Int) : Sm (small k n) := Sm.mk _ _ _ _ (by simp) (fun x hx => by cases hx)
theorem sameVal {v : Va} (h : Sm v) : roadref3_SameValue v v = some true := by
  induction h with
  | mk k n t l hl _ ih =>
    rw [roadref3_SameValue_eq, if_pos rfl, if_pos rfl, if_pos rfl, if_pos rfl, roadref3_SameValue.j0_eq]
    have loop : ∀ (d i : Nat), i + d = l.length → roadref3_SameValue.l0 ⟨k, n, t, l⟩ ⟨k, n, t, l⟩ (l.length : Int) (i : Int) = some true := by
      intro d
      induction d with
      | zero => intro i hi; rw [roadref3_SameValue.l0_eq, if_neg (by omega)]
      | succ d ih2 =>
        intro i hi
        have hlt : i < l.length := by omega
        have hg : gi l (i : Int) = some l[i] := gi_at hlt
        rw [roadref3_SameValue.l0_eq, if_pos (by omega)]
        show (Option.bind (gi l (i : Int)) fun x => Option.bind (gi l (i : Int)) fun y => Option.bind (roadref3_SameValue x y) _) = _
        rw [hg, Option.bind_some, Option.bind_some, ih _ (List.getElem_mem hlt), Option.bind_some, if_pos rfl, w_succ (by omega)]
        exact ih2 (i + 1) (by omega)
    exact loop l.length 0 (by omega)
def kn (k : Int) : Int := ([0, 2, 4, 5, 7, 8] : List Int).getD k.toNat 0
theorem kn_val {k : Int} (h1 : 1 ≤ k) (h5 : k ≤ 5) : heap_kinds k = some (kn k) ∧ pgd (pset (pset (pset (pset (pset ([] : List (Int × Int)) 1 2) 2 4) 3 5) 4 7) 5 8) k 0 = kn k := by
  have : k = 1 ∨ k = 2 ∨ k = 3 ∨ k = 4 ∨ k = 5 := by omega
  rcases this with rfl | rfl | rfl | rfl | rfl <;> exact ⟨rfl, rfl⟩
section
variable {a : List Int} (ha : a.length ≤ 4000) (hu : U64 a)
include ha hu
omit ha in
theorem fnd_parts {x : Nat} {w : Int} {o : Ob} (h : fnd a x w = some o) : U64 o.Parts := by
  unfold fnd at h
  split at h
  · cases h
  · split at h
    · cases h
    · unfold fin at h
      split at h
      · cases h
        intro y hy
        unfold obj rst at hy
        exact hu y (List.mem_of_mem_drop (List.mem_of_mem_drop (List.mem_of_mem_take hy)))
      · cases h
theorem read_val : ∀ (nest : Nat), nest ≤ 40 → ∀ (w left : Int), 0 ≤ w → w ≤ 18446744073709551615 → -1000000 ≤ left → left ≤ 1000 →
    ∃ r, heap_read a w (nest : Int) left = some r ∧ roadref3_ReadOf a w (41 - (nest : Int)) left = some r ∧ Sm r.1 ∧ (r.2.2 ≤ 1000) ∧ (r.2.1 = 0 → -1000000 ≤ r.2.2) := by
  intro nest
  induction nest with
  | zero =>
    intro hn w left h0 h1 hl1 hl2
    rw [heap_read_eq, roadref3_ReadOf_eq, heap_read.j1_eq, roadref3_ReadOf.j1_eq, wrap_in (n := left - 1) (by omega) (by omega)]
    refine ⟨(vz, 2, left - 1), ?_, ?_, sm_vz, by simp only; omega, fun h => by cases h⟩
    · by_cases h : left - 1 < 0
      · rw [if_pos h, if_pos rfl]; rfl
      · rw [if_neg h, heap_read.j1_eq, if_pos (by decide)]; rfl
    · by_cases h : left - 1 < 0
      · rw [if_pos h, if_pos rfl]; rfl
      · rw [if_neg h, roadref3_ReadOf.j1_eq, if_pos (by decide)]; rfl
  | succ nest ih =>
    intro hn w left h0 h1 hl1 hl2
    rw [heap_read_eq, roadref3_ReadOf_eq, wrap_in (n := left - 1) (by omega) (by omega)]
    by_cases h : left - 1 < 0
    · rw [if_pos h, if_pos h, heap_read.j1_eq, roadref3_ReadOf.j1_eq, if_pos rfl, if_pos rfl]
      exact ⟨(vz, 2, left - 1), rfl, rfl, sm_vz, by simp only; omega, fun h => by cases h⟩
    rw [if_neg h, if_neg h, heap_read.j1_eq, roadref3_ReadOf.j1_eq, decide_eq_false (by omega), decide_eq_false (by omega), if_neg (by decide), if_neg (by decide), heap_read.j0_eq, roadref3_ReadOf.j0_eq, tvalue_val h0 h1, tread_val h0 h1, tagRead_val h0 h1, valueOf_val h0 h1, Option.bind_some, Option.bind_some, Option.bind_some]
    cases hr : rd w with
    | none => exact ⟨(vz, 3, left - 1), rfl, rfl, sm_vz, by simp only; omega, fun h => by cases h⟩
    | some p =>
      obtain ⟨k, n⟩ := p
      have hf := rd_fits hr
      by_cases k4 : k = 4
      · have hn0 : 0 ≤ n := by unfold Fits at hf; omega
        show ∃ r, (if (if k = 4 then (vz, false) else (small k n, true)).2 = true then _ else if (0 : Int) = 0 then Option.bind (heap_At a n) _ else _) = some r ∧ (if true = true then (if k = 4 then (if n ≥ (a.length : Int) then _ else Option.bind (roadref3_ObjectAt a n) _) else _) else _) = some r ∧ _
        rw [if_neg (by rw [if_pos k4]; decide), if_pos rfl, if_pos rfl, if_pos k4, at_val (by omega) hu, ref_val (by omega) hu, Option.bind_some, Option.bind_some]
        by_cases hx : n ≥ (a.length : Int)
        · rw [if_pos hx, if_neg (show ¬ (0 ≤ n ∧ n < (a.length : Int)) by omega)]
          exact ⟨(vz, 4, left - 1), rfl, rfl, sm_vz, by simp only; omega, fun h => by cases h⟩
        rw [if_neg hx, if_pos (show 0 ≤ n ∧ n < (a.length : Int) by omega), if_pos (show 0 ≤ n ∧ n < (a.length : Int) by omega)]
        cases hfn : fnd a n.toNat (a[n.toNat]?.getD 0) with
        | none => exact ⟨(vz, 3, left - 1), rfl, rfl, sm_vz, by simp only; omega, fun h => by cases h⟩
        | some o =>
          have hO := fnd_okay hfn
          have hP := fnd_parts hu hfn
          obtain ⟨q1, q2, q3, q4, _⟩ := hO
          obtain ⟨e1, e2⟩ := kn_val q3 q4
          have loop : ∀ (r pre : List Int) (vs : List Va) (lf : Int), o.Parts = pre ++ r → vs.length = pre.length → (∀ x ∈ vs, Sm x) → -1000000 ≤ lf → lf ≤ 1000 →
              ∃ q, heap_read.l0 a ((nest + 1 : Nat) : Int) lf vz (kn o.Kind) o.Num o.Text vs o.Parts (o.Parts.length : Int) (pre.length : Int) = some q ∧ roadref3_ReadOf.l0 a (41 - ((nest + 1 : Nat) : Int)) lf vz (kn o.Kind) o.Num o.Text vs o.Parts (o.Parts.length : Int) (pre.length : Int) = some q ∧ Sm q.1 ∧ q.2.2 ≤ 1000 ∧ (q.2.1 = 0 → -1000000 ≤ q.2.2) := by
            intro r
            induction r with
            | nil =>
              intro pre vs lf he hv hs hl hl'
              rw [heap_read.l0_eq, roadref3_ReadOf.l0_eq, if_neg (by rw [he]; simp), if_neg (by rw [he]; simp)]
              have hlen : o.Parts.length = pre.length := by rw [he]; simp
              exact ⟨_, rfl, rfl, Sm.mk _ _ _ _ (by omega) hs, by simp only; omega, fun _ => by simp only; omega⟩
            | cons x r ihr =>
              intro pre vs lf he hv hs hl hl'
              have hlen : o.Parts.length = pre.length + (r.length + 1) := by rw [he]; simp
              have hx := hP x (by rw [he]; simp)
              obtain ⟨q, hq1, hq2, hq3, hq4, hq5⟩ := ih (by omega) x lf hx.1 hx.2 hl hl'
              have hg : gi o.Parts (pre.length : Int) = some x := gi_some (k := pre.length) rfl (by rw [he]; simp)
              rw [heap_read.l0_eq, roadref3_ReadOf.l0_eq, if_pos (by omega), if_pos (by omega), hg, Option.bind_some, Option.bind_some, wrap_in (n := ((nest + 1 : Nat) : Int) - 1) (by omega) (by omega), wrap_in (n := 41 - ((nest + 1 : Nat) : Int) + 1) (by omega) (by omega), show ((nest + 1 : Nat) : Int) - 1 = (nest : Int) by omega, show 41 - ((nest + 1 : Nat) : Int) + 1 = 41 - (nest : Int) by omega, hq1, hq2, Option.bind_some, Option.bind_some]
              by_cases h0 : q.2.1 = 0
              · rw [if_pos h0, if_pos h0, ap_one (by omega), Option.bind_some, Option.bind_some, w_succ (by omega)]
                have := ihr (pre ++ [x]) (vs ++ [q.1]) q.2.2 (by simpa using he) (by simp [hv]) (fun y hy => by
                  rcases List.mem_append.1 hy with hy | hy
                  · exact hs y hy
                  · simp at hy; subst hy; exact hq3) (hq5 h0) hq4
                simpa using this
              · rw [if_neg h0, if_neg h0]
                exact ⟨_, rfl, rfl, sm_vz, hq4, fun h => absurd h h0⟩
          show ∃ r, (if (0 : Int) = 0 then Option.bind (heap_kinds o.Kind) _ else _) = some r ∧ (if true = true then _ else _) = some r ∧ _
          rw [if_pos rfl, if_pos rfl, e1]
          simp only [Option.bind_some]
          show ∃ r, heap_read.l0 a ((nest + 1 : Nat) : Int) (left - 1) vz (kn o.Kind) o.Num o.Text [] o.Parts (o.Parts.length : Int) 0 = some r ∧ roadref3_ReadOf.l0 a (41 - ((nest + 1 : Nat) : Int)) (left - 1) vz (pgd _ o.Kind 0) o.Num o.Text [] o.Parts (o.Parts.length : Int) 0 = some r ∧ _
          rw [e2]
          exact loop o.Parts [] [] (left - 1) rfl rfl (fun x hx => by cases hx) (by omega) (by omega)
      · show ∃ r, (if (if k = 4 then (vz, false) else (small k n, true)).2 = true then some ((if k = 4 then (vz, false) else (small k n, true)).1, (0 : Int), left - 1) else _) = some r ∧ (if true = true then (if k = 4 then _ else Option.bind (some (if k = 4 then (vz, false) else (small k n, true))) fun y => some (y.1, (0 : Int), left - 1)) else _) = some r ∧ _
        rw [if_neg k4, if_pos rfl, if_pos rfl, if_neg k4, Option.bind_some]
        exact ⟨_, rfl, rfl, sm_small k n, by simp only; omega, fun _ => by simp only; omega⟩
end
theorem deep_val : ∀ (n : Nat) (v : Va), SizeOf.sizeOf v ≤ n → T_api_Value.Q v → ∃ r, roadref3_Deep v = some r := by
  intro n
  induction n with
  | zero => intro v hv; cases v; simp at hv
  | succ n ih =>
    intro v hv hQ
    obtain ⟨_, _, _, hQl, hQa⟩ := T_api_Value.Q_iff.1 hQ
    rw [roadref3_Deep_eq]
    have loop : ∀ (d i : Nat) (x y : Int), i + d = v.Args.length → ∃ r, roadref3_Deep.l0 x y v.Args (v.Args.length : Int) (i : Int) = some r := by
      intro d
      induction d with
      | zero => intro i x y hi; rw [roadref3_Deep.l0_eq, if_neg (by omega)]; exact ⟨_, rfl⟩
      | succ d ih2 =>
        intro i x y hi
        have hlt : i < v.Args.length := by omega
        have hm := List.getElem_mem hlt
        have hsz : SizeOf.sizeOf v.Args[i] ≤ n := by
          have h1 := List.sizeOf_lt_of_mem hm
          have h2 : SizeOf.sizeOf v = 1 + SizeOf.sizeOf v.Kind + SizeOf.sizeOf v.Num + SizeOf.sizeOf v.Text + SizeOf.sizeOf v.Args := by cases v; simp
          omega
        obtain ⟨r, hr⟩ := ih _ hsz (hQa _ hm)
        rw [roadref3_Deep.l0_eq, if_pos (by omega), gi_at hlt, Option.bind_some, hr, Option.bind_some, w_succ (by omega)]
        exact ih2 (i + 1) _ _ (by omega)
    exact loop _ 0 _ _ (Nat.zero_add _)
theorem HeapBuilds (a : List Int) (v : Va) (w : Int) (ha : a.length * 8 ≤ 140737488351232 ∧ ∀ y ∈ a, 0 ≤ y ∧ y ≤ 18446744073709551615) (hv : T_api_Value.Q v) (hw : 0 ≤ w ∧ w ≤ 18446744073709551615) : roadlaw3_HeapBuilds a v w = some true := by
  obtain ⟨ha, hu⟩ := ha
  unfold roadlaw3_HeapBuilds roadlaw3_flat
  obtain ⟨r, hr⟩ := deep_val _ v (Nat.le_refl _) hv
  rw [hr, Option.bind_some]
  have key : ∀ b : Bool, (if b = true then (if ((a.length : Nat) : Int) > 4000 then some true else roadlaw3_HeapBuilds.j0 a w v) else some true) = some true := by
    intro b
    cases b with
    | false => rfl
    | true =>
      rw [if_pos rfl]
      by_cases h4 : ((a.length : Nat) : Int) > 4000
      · rw [if_pos h4]
      rw [if_neg h4]
      unfold roadlaw3_HeapBuilds.j0
      obtain ⟨q, hq1, hq2, hq3⟩ := build_val _ v (Nat.le_refl _) hv a (by omega)
      obtain ⟨y, hy1, hy2, hy3, hy4, hy5⟩ := read_val (a := a) (by omega) hu 40 (by omega) w 400 hw.1 hw.2 (by omega) (by omega)
      have hR : heap_Read a w = some (y.1, y.2.1) := by
        unfold heap_Read
        have : heap_read a w 40 400 = some y := hy1
        rw [this]; rfl
      have hO : roadref3_ReadOf a w 1 400 = some y := hy2
      rw [hq1, Option.bind_some, hR, Option.bind_some, hO, Option.bind_some, sameVal hy3, Option.bind_some, if_pos rfl, if_pos rfl]
      unfold roadlaw3_HeapBuilds.j1
      rw [hq2, Option.bind_some]
      by_cases h0 : q.2.2 = 0
      · rw [if_pos h0, sameWords_val _ _ (by have := hq3.1; omega), decide_eq_true rfl, Option.bind_some, if_pos rfl, if_pos rfl, h0]; rfl
      · obtain ⟨e1, e2⟩ := hq3.2 h0
        rw [if_neg h0, e1, e2]; simp
  by_cases h6 : r.1 ≤ 60
  · rw [if_pos h6]; exact key _
  · rw [if_neg h6]; exact key false
end Go.Proofs.Ytilmfjdagnbbaab.Fw
