/- Last part: what the law CarryTells needs, put together out of texts of this session. -/
import Derived.Test.YtnlocljmalhddaaRows
import Derived.WalkKit
import Derived.Test.YtnlocljmalhddaaZCarryTellsc
section
namespace Go.Proofs.Ytnlocljmalhddaa.Fw
open Go Go.Hw Go.Proofs
set_option linter.unusedVariables false
set_option linter.unusedSectionVars false
abbrev Ob := T_heap_Object
theorem u64_in {n : Int} (h0 : 0 ≤ n) (h1 : n ≤ 18446744073709551615) : IntKind.wrap .u64 n = n := by
  have : n % 18446744073709551616 = n := Int.emod_eq_of_lt h0 (by omega)
  simp [IntKind.wrap, IntKind.bits, IntKind.signed, this]
theorem u8_mod (n : Int) : IntKind.wrap .u8 n = n % 256 := by simp [IntKind.wrap, IntKind.bits, IntKind.signed]
theorem bv_nat {x : Nat} (h : x < 18446744073709551616) : (BitVec.ofInt 64 (x : Int)).toNat = x := by
  rw [BitVec.toNat_ofInt]; omega
theorem shl_val {x s : Nat} (hs : s ≤ 64) (h : x * 2 ^ s < 18446744073709551616) : shlI .u64 (x : Int) (s : Int) = ((x * 2 ^ s : Nat) : Int) := by
  unfold shlI
  rw [show Int.toNat (s : Int) = s from rfl, show min s (IntKind.bits .u64) = s from Nat.min_eq_left hs]
  have : ((x : Int) * 2 ^ s) = ((x * 2 ^ s : Nat) : Int) := by push_cast; rfl
  rw [this]
  exact u64_in (Int.natCast_nonneg _) (by omega)
theorem or_val {x y s : Nat} (hx : x < 2 ^ s) (h : y * 2 ^ s + x < 18446744073709551616) : bitsI .or .u64 (x : Int) ((y * 2 ^ s : Nat) : Int) = ((x + y * 2 ^ s : Nat) : Int) := by
  show IntKind.wrap .u64 ((BitVec.ofInt 64 (x : Int) ||| BitVec.ofInt 64 ((y * 2 ^ s : Nat) : Int)).toNat : Nat) = _
  have h0 : x < 18446744073709551616 := by omega
  have h1 : y * 2 ^ s < 18446744073709551616 := by omega
  rw [BitVec.toNat_or, bv_nat h0, bv_nat h1]
  have : x ||| y * 2 ^ s = x + y * 2 ^ s := by
    rw [Nat.or_comm, ← Nat.shiftLeft_eq, ← Nat.shiftLeft_add_eq_or_of_lt hx, Nat.add_comm]
  rw [this]
  exact u64_in (by omega) (by omega)
theorem and_val {x n : Nat} (h : x < 18446744073709551616) (hn : 2 ^ n - 1 < 18446744073709551616) : bitsI .and .u64 (x : Int) ((2 ^ n - 1 : Nat) : Int) = ((x % 2 ^ n : Nat) : Int) := by
  show IntKind.wrap .u64 ((BitVec.ofInt 64 (x : Int) &&& BitVec.ofInt 64 ((2 ^ n - 1 : Nat) : Int)).toNat : Nat) = _
  rw [BitVec.toNat_and, bv_nat h, bv_nat hn, Nat.and_two_pow_sub_one_eq_mod]
  have := Nat.mod_le x (2 ^ n)
  exact u64_in (by omega) (by omega)
theorem shr_val {x s : Nat} (hs : s ≤ 64) : shrI .u64 (x : Int) (s : Int) = ((x / 2 ^ s : Nat) : Int) := by
  unfold shrI
  rw [show Int.toNat (s : Int) = s from rfl, show min s (IntKind.bits .u64) = s from Nat.min_eq_left hs]
  have : ((2 : Int) ^ s) = ((2 ^ s : Nat) : Int) := by push_cast; rfl
  rw [this, Int.fdiv_eq_ediv_of_nonneg _ (Int.natCast_nonneg _)]
  exact (Int.natCast_ediv x (2 ^ s)).symm
def nb (s : ByteArray) : List Int := s.data.toList.map fun b => ((UInt8.toNat b : Nat) : Int)
theorem nb_len (s : ByteArray) : (nb s).length = s.size := by simp [nb]
theorem nb_in {s : ByteArray} {x : Int} (h : x ∈ nb s) : 0 ≤ x ∧ x ≤ 255 := by
  unfold nb at h
  rw [List.mem_map] at h
  obtain ⟨b, _, rfl⟩ := h
  have := UInt8.toNat_lt b
  omega
theorem gb_nb (s : ByteArray) (k : Nat) : gb s (k : Int) = (nb s)[k]? := by
  unfold gb nb
  rw [if_pos (by omega), List.getElem?_map]
  show Option.map _ s[k]? = _
  congr 1
  by_cases h : k < s.size
  · rw [getElem?_pos s k h, List.getElem?_eq_getElem (by simpa using h)]; rfl
  · rw [getElem?_neg s k h, List.getElem?_eq_none (by simpa using h)]
theorem gb_some {s : ByteArray} {k : Nat} {x y : Int} (hx : x = k) (h : (nb s)[k]? = some y) : gb s x = some y := by subst hx; rw [gb_nb]; exact h
theorem bytesOf_nb (s : ByteArray) : bytesOf (nb s) = s := by
  cases s with
  | mk d =>
    unfold bytesOf nb
    congr 1
    apply Array.ext'
    simp only [List.map_map]
    rw [List.map_congr_left (g := id), List.map_id]
    intro x _
    simp
theorem nb_inj {s t : ByteArray} (h : nb s = nb t) : s = t := by rw [← bytesOf_nb s, h, bytesOf_nb]
theorem nb_extract (s : ByteArray) (i j : Nat) : nb (s.extract i j) = ((nb s).take j).drop i := by
  unfold nb
  rw [ByteArray.data_extract, Array.toList_extract, List.extract_eq_take_drop]
  rw [← List.map_take, ← List.map_drop, List.drop_take]
theorem empty_iff (s : ByteArray) : s = ByteArray.mk #[] ↔ nb s = [] := ⟨fun h => by rw [h]; rfl, fun h => nb_inj (by rw [h]; rfl)⟩
def pk : List Int → Int
  | [] => 0
  | b :: r => b + 256 * pk r
theorem pk_append (xs ys : List Int) : pk (xs ++ ys) = pk xs + 256 ^ xs.length * pk ys := by
  induction xs with
  | nil => simp [pk]
  | cons x xs ih =>
    simp only [List.cons_append, pk, ih, List.length_cons, Int.pow_succ]
    rw [Int.mul_add, ← Int.mul_assoc, Int.mul_comm 256 (256 ^ xs.length), Int.add_assoc]
theorem pk_in {l : List Int} (h : ∀ x ∈ l, 0 ≤ x ∧ x ≤ 255) : 0 ≤ pk l ∧ pk l < 256 ^ l.length := by
  induction l with
  | nil => simp [pk]
  | cons x l ih =>
    have h1 := ih (fun y hy => h y (by simp [hy]))
    have h2 := h x (by simp)
    simp only [pk, List.length_cons, Int.pow_succ]
    omega
theorem pow256 {k : Nat} (h : k ≤ 8) : (256 : Int) ^ k ≤ 18446744073709551616 := by
  have : k = 0 ∨ k = 1 ∨ k = 2 ∨ k = 3 ∨ k = 4 ∨ k = 5 ∨ k = 6 ∨ k = 7 ∨ k = 8 := by omega
  rcases this with rfl | rfl | rfl | rfl | rfl | rfl | rfl | rfl | rfl <;> decide
theorem pk_u64 {l : List Int} (h : ∀ x ∈ l, 0 ≤ x ∧ x ≤ 255) (hl : l.length ≤ 8) : 0 ≤ pk l ∧ pk l ≤ 18446744073709551615 := by
  have := pk_in h
  have := pow256 hl
  omega
def tw : Nat → List Int → List Int
  | 0, _ => []
  | n + 1, l => pk (l.take 8) :: tw n (l.drop 8)
theorem tw_len (n : Nat) (l : List Int) : (tw n l).length = n := by
  induction n generalizing l with
  | zero => rfl
  | succ n ih => simp [tw, ih]
def twd (l : List Int) : List Int := tw ((l.length + 7) / 8) l
theorem twd_nil : twd [] = [] := rfl
theorem twd_cons {l : List Int} (h : l ≠ []) : twd l = pk (l.take 8) :: twd (l.drop 8) := by
  have : 0 < l.length := List.length_pos_iff.2 h
  unfold twd
  rw [List.length_drop, show (l.length + 7) / 8 = (l.length - 8 + 7) / 8 + 1 from by omega]
  rfl
theorem twd_len (l : List Int) : (twd l).length = (l.length + 7) / 8 := tw_len _ _
def big (k : Int) : Bool := k == 1 || k == 4
def rm (k : Int) (t p : Nat) : Nat := 1 + (t + 7) / 8 + p + (if big k = true then 1 else 0)
def Okay (o : Ob) : Prop := o.Text.size ≤ 64 ∧ o.Parts.length ≤ 400 ∧ 1 ≤ o.Kind ∧ o.Kind ≤ 5 ∧ ((o.Kind = 1 ∨ o.Kind = 2) → o.Parts = []) ∧ (o.Kind ≠ 2 ∧ o.Kind ≠ 3 → o.Text = ByteArray.mk #[]) ∧ (o.Kind ≠ 1 ∧ o.Kind ≠ 4 → o.Num = 0) ∧ (o.Kind = 5 → o.Parts.length ≤ 1)
def hd (o : Ob) : Int := o.Kind + 256 * (o.Text.size : Int) + 1048576 * (o.Parts.length : Int)
def ow (o : Ob) : List Int := hd o :: ((if big o.Kind = true then [IntKind.wrap .u64 o.Num] else []) ++ (twd (nb o.Text) ++ o.Parts))
theorem ow_len (o : Ob) : (ow o).length = rm o.Kind o.Text.size o.Parts.length := by
  unfold ow rm
  simp only [List.length_cons, List.length_append, twd_len, nb_len]
  split <;> simp <;> omega
theorem room_val {k : Int} {t p : Nat} (ht : t ≤ 1000000) (hp : p ≤ 1000000) : heap_room k (t : Int) (p : Int) = some (rm k t p : Int) := by
  unfold heap_room
  have e : (Int.tdiv ((t : Int) + 7) 8) = (((t + 7) / 8 : Nat) : Int) := by rw [Int.tdiv_eq_ediv_of_nonneg (by omega)]; omega
  rw [wrap_in (n := (t : Int) + 7) (by omega) (by omega), e, wrap_in (n := (((t + 7) / 8 : Nat) : Int)) (by omega) (by omega), wrap_in (n := 1 + (((t + 7) / 8 : Nat) : Int)) (by omega) (by omega), wrap_in (n := _ + (p : Int)) (by omega) (by omega)]
  unfold heap_room.j0
  rw [wrap_in (by omega) (by omega)]
  unfold rm big
  by_cases h1 : k = 1
  · subst h1; rw [if_pos rfl, if_pos rfl, if_pos (by rfl)]; push_cast; rfl
  · rw [if_neg h1]
    by_cases h4 : k = 4
    · subst h4; rw [if_pos (by rfl), if_pos (by rfl)]; push_cast; rfl
    · rw [if_neg (by simp [h4]), if_neg (by simp [h1, h4])]; push_cast; simp
instance (o : Ob) : Decidable (Okay o) := by unfold Okay; infer_instance
theorem right_val (o : Ob) : heap_right o = some (decide (Okay o)) := by
  obtain ⟨a, k, n, s, p⟩ := o
  unfold heap_right heap_right.j1 heap_right.j2 heap_right.j3 heap_right.j0 Okay
  have hp : p = [] ↔ p.length = 0 := List.length_eq_zero_iff.symm
  simp only [hp]
  generalize p.length = p
  generalize s.size = t
  have e1 : ((t : Int) > 64) ↔ ¬ t ≤ 64 := by omega
  have e2 : ((p : Int) > 400) ↔ ¬ p ≤ 400 := by omega
  have e3 : ((p : Int) > 0) ↔ ¬ p = 0 := by omega
  have e4 : ((p : Int) ≤ 1) ↔ p ≤ 1 := by omega
  simp only [e1, e2, e3, e4]
  by_cases h3 : k < 1
  · simp [show ¬ (1 ≤ k) by omega, h3]
  by_cases h4 : k > 5
  · simp [show ¬ (k ≤ 5) by omega, h3, h4]
  have hk : k = 1 ∨ k = 2 ∨ k = 3 ∨ k = 4 ∨ k = 5 := by omega
  by_cases h1 : t ≤ 64
  · by_cases h2 : p ≤ 400
    · by_cases h5 : p = 0 <;> by_cases h8 : p ≤ 1 <;> by_cases h6 : n = 0 <;> by_cases h7 : s = ByteArray.mk #[] <;> rcases hk with rfl | rfl | rfl | rfl | rfl <;> simp [h1, h2, h5, h6, h7, h8] <;> omega
    · rcases hk with rfl | rfl | rfl | rfl | rfl <;> simp [h1, h2]
  · rcases hk with rfl | rfl | rfl | rfl | rfl <;> simp [h1]
theorem is_val (o : Ob) : roadref3_ObjectIs o = some (decide (Okay o)) := by
  obtain ⟨a, k, n, s, p⟩ := o
  unfold roadref3_ObjectIs roadref3_ObjectIs.j0 roadref3_ObjectIs.j1 roadref3_In Okay
  have hp : p = [] ↔ p.length = 0 := List.length_eq_zero_iff.symm
  simp only [hp]
  generalize p.length = p
  generalize s.size = t
  have e1 : ((t : Int) > 64) ↔ ¬ t ≤ 64 := by omega
  have e2 : ((p : Int) > 400) ↔ ¬ p ≤ 400 := by omega
  have e4 : ((p : Int) > 1) ↔ ¬ p ≤ 1 := by omega
  have e5 : ((p : Int) == 0) = decide (p = 0) := by by_cases h : p = 0 <;> simp [h]
  simp only [e1, e2, e4, e5]
  by_cases h3 : k < 1
  · simp [show ¬ (1 ≤ k) by omega, show ¬ k = 1 by omega, show ¬ k = 2 by omega]
  by_cases h4 : k > 5
  · simp [show (1 ≤ k) by omega, show ¬ k = 1 by omega, show ¬ k = 2 by omega, show ¬ k ≤ 5 by omega]
  have hk : k = 1 ∨ k = 2 ∨ k = 3 ∨ k = 4 ∨ k = 5 := by omega
  by_cases h1 : t ≤ 64
  · by_cases h2 : p ≤ 400
    · by_cases h5 : p = 0 <;> by_cases h8 : p ≤ 1 <;> by_cases h6 : n = 0 <;> by_cases h7 : s = ByteArray.mk #[] <;> rcases hk with rfl | rfl | rfl | rfl | rfl <;> simp [h1, h2, h5, h6, h7, h8] <;> omega
    · rcases hk with rfl | rfl | rfl | rfl | rfl <;> simp [h1, h2]
  · rcases hk with rfl | rfl | rfl | rfl | rfl <;> simp [h1]
theorem take_succ_at {l : List Int} {B k : Nat} (h : B + k < l.length) : (l.drop B).take (k + 1) = (l.drop B).take k ++ [l[B + k]] := by
  rw [List.take_succ_eq_append_getElem (by rw [List.length_drop]; omega), List.getElem_drop]
theorem pk_snoc (l : List Int) (b : Int) : pk (l ++ [b]) = pk l + b * 256 ^ l.length := by
  rw [pk_append]; simp [pk, Int.mul_comm]
theorem put_or {x b : Int} {k : Nat} (hk : k < 8) (hx0 : 0 ≤ x) (hx : x < 256 ^ k) (h0 : 0 ≤ b) (h1 : b ≤ 255) :
    bitsI .or .u64 x (shlI .u64 (IntKind.wrap .u64 b) (IntKind.wrap .i64 (8 * (k : Int)))) = x + b * 256 ^ k := by
  rw [u64_in h0 (by omega), wrap_in (by omega) (by omega)]
  obtain ⟨x, rfl⟩ := Int.eq_ofNat_of_zero_le hx0
  obtain ⟨b, rfl⟩ := Int.eq_ofNat_of_zero_le h0
  have e : (2 : Nat) ^ (8 * k) = 256 ^ k := by rw [Nat.pow_mul]
  have hx' : x < 256 ^ k := by
    have : ((256 : Int) ^ k) = ((256 ^ k : Nat) : Int) := (Int.natCast_pow 256 k).symm
    omega
  have hb : b * 256 ^ k + x < 18446744073709551616 := by
    have hb' : b ≤ 255 := by omega
    have := pow256 (k := k + 1) (by omega)
    have e2 : ((256 : Int) ^ (k + 1)) = ((256 ^ (k + 1) : Nat) : Int) := (Int.natCast_pow 256 (k + 1)).symm
    have := Nat.mul_le_mul_right (256 ^ k) hb'
    rw [Nat.pow_succ] at e2
    omega
  have := shl_val (x := b) (s := 8 * k) (by omega) (by rw [e]; omega)
  rw [show (8 * (k : Int)) = ((8 * k : Nat) : Int) from by push_cast; rfl, this, e]
  have := or_val (x := x) (y := b) (s := 8 * k) (by rw [e]; exact hx') (by rw [e]; exact hb)
  rw [e] at this
  rw [this, Int.natCast_add, Int.natCast_mul, Int.natCast_pow]; rfl
theorem put_l1 {a0 a7 : List Int} {o : Ob} {B : Nat} (hB : B ≤ 1000) (hs : o.Text.size ≤ 1000) : ∀ (d k : Nat), k + d = 8 →
    heap_Put.l1 a0 o a7 (B : Int) (pk (((nb o.Text).drop B).take k)) (k : Int) = Option.bind (ap 8 a7 [pk (((nb o.Text).drop B).take 8)]) fun l => heap_Put.l0 a0 o l ((B + 8 : Nat) : Int) := by
  intro d
  induction d with
  | zero =>
    intro k hk
    obtain rfl : k = 8 := by omega
    rw [heap_Put.l1_eq, if_neg (by omega), wrap_in (by omega) (by omega)]; rfl
  | succ d ih =>
    intro k hk
    have hw : IntKind.wrap .i64 ((B : Int) + (k : Int)) = ((B + k : Nat) : Int) := by rw [wrap_in (by omega) (by omega)]; push_cast; rfl
    have hn := nb_len o.Text
    rw [heap_Put.l1_eq, if_pos (by omega), hw]
    by_cases h : B + k < o.Text.size
    · have hin : ((nb o.Text).drop B).take k = ((nb o.Text).drop B).take k := rfl
      have hl : (((nb o.Text).drop B).take k).length = k := by simp; omega
      have h3 : ∀ x ∈ ((nb o.Text).drop B).take k, 0 ≤ x ∧ x ≤ 255 := fun x hx => nb_in (List.mem_of_mem_drop (List.mem_of_mem_take hx))
      have h4 := pk_in h3
      have h5 : 0 ≤ (nb o.Text)[B + k]'(by omega) ∧ (nb o.Text)[B + k]'(by omega) ≤ 255 := nb_in (List.getElem_mem _)
      rw [hl] at h4
      rw [if_pos (by omega), gb_some (k := B + k) rfl (List.getElem?_eq_getElem (by omega)), Option.bind_some, if_pos (by rw [wrap_in (by omega) (by omega)]; omega), put_or (by omega) h4.1 h4.2 h5.1 h5.2, w_succ (by omega)]
      have := ih (k + 1) (by omega)
      rw [take_succ_at (by omega), pk_snoc, hl] at this
      exact this
    · rw [if_neg (by omega), w_succ (by omega)]
      have := ih (k + 1) (by omega)
      rw [show ((nb o.Text).drop B).take (k + 1) = ((nb o.Text).drop B).take k from by rw [List.take_of_length_le (by simp; omega), List.take_of_length_le (by simp; omega)]] at this
      exact this
theorem put_l0 {a0 : List Int} {o : Ob} (hs : o.Text.size ≤ 1000) : ∀ (d B : Nat) (a7 : List Int), o.Text.size ≤ B + d → B ≤ o.Text.size + 8 → a7.length + d + 10 + o.Parts.length ≤ 10000000 →
    heap_Put.l0 a0 o a7 (B : Int) = some (a7 ++ (twd ((nb o.Text).drop B) ++ o.Parts), (a0.length : Int), 0) := by
  intro d
  induction d using Nat.strongRecOn with
  | _ d ih =>
    intro B a7 h1 h2 h3
    have hn := nb_len o.Text
    rw [heap_Put.l0_eq]
    by_cases h : B < o.Text.size
    · have := put_l1 (a0 := a0) (a7 := a7) (o := o) (B := B) (by omega) hs 8 0 (by omega)
      rw [if_pos (by omega)]
      refine Eq.trans this ?_
      rw [ap_one (by omega), Option.bind_some]
      by_cases h8 : 8 ≤ d
      · rw [ih (d - 8) (by omega) (B + 8) _ (by omega) (by omega) (by simp; omega), twd_cons (l := (nb o.Text).drop B) (by intro e; have := congrArg List.length e; simp at this; omega)]
        simp [List.drop_drop]
      · rw [ih 0 (by omega) (B + 8) _ (by omega) (by omega) (by simp; omega), twd_cons (l := (nb o.Text).drop B) (by intro e; have := congrArg List.length e; simp at this; omega)]
        simp [List.drop_drop]
    · rw [if_neg (by omega), ap_of (by omega), Option.bind_some, List.drop_of_length_le (by omega), twd_nil, List.nil_append]
theorem head_val {o : Ob} (h : Okay o) : heap_head o = some (hd o) := by
  obtain ⟨h1, h2, h3, h4, _⟩ := h
  unfold heap_head hd
  obtain ⟨k, hk⟩ := Int.eq_ofNat_of_zero_le (show 0 ≤ o.Kind by omega)
  rw [hk] at h3 h4 ⊢
  rw [u64_in (n := (k : Int)) (by omega) (by omega), u64_in (n := (o.Text.size : Int)) (by omega) (by omega), u64_in (n := (o.Parts.length : Int)) (by omega) (by omega)]
  have e1 := shl_val (x := o.Text.size) (s := 8) (by omega) (by omega)
  have e2 := shl_val (x := o.Parts.length) (s := 20) (by omega) (by omega)
  have e3 := or_val (x := k) (y := o.Text.size) (s := 8) (by omega) (by omega)
  have e4 := or_val (x := k + o.Text.size * 2 ^ 8) (y := o.Parts.length) (s := 20) (by omega) (by omega)
  rw [show (8 : Int) = ((8 : Nat) : Int) from rfl, show (20 : Int) = ((20 : Nat) : Int) from rfl, e1, e2, e3, e4]
  congr 1
  omega
theorem put_val {a0 : List Int} {o : Ob} (ha : a0.length * 8 ≤ 140737488351232) : heap_Put a0 o = some (if Okay o then (if a0.length + rm o.Kind o.Text.size o.Parts.length ≤ 4000 then (a0 ++ ow o, (a0.length : Int), 0) else ([], 0, 6)) else ([], 0, 1)) := by
  unfold heap_Put
  rw [right_val, Option.bind_some]
  by_cases h : Okay o
  · rw [decide_eq_true h, if_pos rfl, if_pos h]
    have h0 := h
    obtain ⟨h1, h2, h3, h4, _⟩ := h0
    have hr : rm o.Kind o.Text.size o.Parts.length ≤ 1000 := by unfold rm; split <;> omega
    rw [room_val (by omega) (by omega), Option.bind_some, wrap_in (by omega) (by omega)]
    by_cases hf : a0.length + rm o.Kind o.Text.size o.Parts.length ≤ 4000
    · rw [if_neg (by omega), if_pos hf, slices_Clone_42.val _ (by omega), Option.bind_some, head_val h, Option.bind_some, ap_one (by omega), Option.bind_some]
      have fin : ∀ a7 : List Int, a7.length ≤ 10000 → heap_Put.j0 a0 o a7 = some (a7 ++ (twd (nb o.Text) ++ o.Parts), (a0.length : Int), 0) := by
        intro a7 ha7
        unfold heap_Put.j0
        exact put_l0 (by omega) 64 0 a7 (by omega) (by omega) (by omega)
      unfold heap_Put.j1
      unfold ow big
      by_cases k1 : o.Kind = 1
      · rw [if_pos k1, if_pos rfl, ap_one (by simp; omega), Option.bind_some, fin _ (by simp; omega)]
        simp [k1]
      · rw [if_neg k1]
        by_cases k4 : o.Kind = 4
        · rw [if_pos (by simp [k4]), ap_one (by simp; omega), Option.bind_some, fin _ (by simp; omega)]
          simp [k4]
        · rw [if_neg (by simp [k4]), fin _ (by simp; omega)]
          simp [k1, k4]
    · rw [if_pos (by omega), if_neg hf]
  · rw [decide_eq_false h, if_neg (by decide), if_neg h]
theorem words_l1 {o : Ob} {a3 : List Int} {s : ByteArray} {n : Nat} (hn : n ≤ 8) (hns : n ≤ s.size) : ∀ (k : Nat), k ≤ n →
    roadref3_ObjectWords.l1 o a3 s (n : Int) (pk (((nb s).take n).drop k)) ((k : Int) - 1) = Option.bind (ap 8 a3 [pk ((nb s).take n)]) fun l => roadref3_ObjectWords.l0 o l (s.extract n s.size) := by
  intro k
  have hl := nb_len s
  induction k with
  | zero =>
    intro _
    rw [roadref3_ObjectWords.l1_eq, if_neg (by omega), if_pos (by omega)]; rfl
  | succ k ih =>
    intro hk
    have hkl : k < ((nb s).take n).length := by simp; omega
    have hb : 0 ≤ (nb s)[k]'(by omega) ∧ (nb s)[k]'(by omega) ≤ 255 := nb_in (List.getElem_mem _)
    have h4 := pk_u64 (l := ((nb s).take n).drop k) (fun x hx => nb_in (List.mem_of_mem_take (List.mem_of_mem_drop hx))) (by simp; omega)
    have e : pk (((nb s).take n).drop k) = (nb s)[k]'(by omega) + 256 * pk (((nb s).take n).drop (k + 1)) := by
      rw [List.drop_eq_getElem_cons hkl, List.getElem_take]; rfl
    have h5 := pk_in (l := ((nb s).take n).drop (k + 1)) (fun x hx => nb_in (List.mem_of_mem_take (List.mem_of_mem_drop hx)))
    rw [roadref3_ObjectWords.l1_eq, if_pos (by omega), gb_some (k := k) (by omega) (List.getElem?_eq_getElem (by omega)), Option.bind_some, u64_in (n := 256 * _) (by omega) (by omega), u64_in (n := (nb s)[k]'(by omega)) (by omega) (by omega), Int.add_comm, ← e, u64_in h4.1 h4.2, wrap_in (by omega) (by omega), show ((k + 1 : Nat) : Int) - 1 - 1 = (k : Int) - 1 from by omega]
    exact ih (by omega)
theorem words_l0 {o : Ob} : ∀ (d : Nat) (s : ByteArray) (a3 : List Int), s.size ≤ d → s.size ≤ 1000 → a3.length + d + 10 + o.Parts.length ≤ 10000000 →
    roadref3_ObjectWords.l0 o a3 s = some (a3 ++ (twd (nb s) ++ o.Parts)) := by
  intro d
  induction d using Nat.strongRecOn with
  | _ d ih =>
    intro s a3 h1 h2 h3
    have hl := nb_len s
    rw [roadref3_ObjectWords.l0_eq]
    by_cases h : s = ByteArray.mk #[]
    · rw [if_pos h, ap_of (by omega), Option.bind_some, (empty_iff s).1 h]; rfl
    · have h0 : nb s ≠ [] := fun e => h ((empty_iff s).2 e)
      have h0' : 0 < s.size := by rw [← hl]; exact List.length_pos_iff.2 h0
      rw [if_neg h]
      have e : (if (s.size : Int) < 8 then (s.size : Int) else 8) = ((min s.size 8 : Nat) : Int) := by split <;> omega
      have hm : min s.size 8 ≤ s.size := Nat.min_le_left _ _
      have hm8 : min s.size 8 ≤ 8 := Nat.min_le_right _ _
      have := words_l1 (o := o) (a3 := a3) (s := s) hm8 hm (min s.size 8) (Nat.le_refl _)
      rw [List.drop_of_length_le (by simp; omega)] at this
      rw [e, wrap_in (by omega) (by omega)]
      refine Eq.trans this ?_
      have hx : (s.extract (min s.size 8) s.size).size = s.size - min s.size 8 := by simp
      rw [ap_one (by omega), Option.bind_some, ih (d - 1) (by omega) _ _ (by omega) (by omega) (by simp; omega), twd_cons h0, nb_extract]
      have e1 : ((nb s).take s.size).drop (min s.size 8) = (nb s).drop 8 := by
        rw [List.take_of_length_le (by omega)]
        by_cases h8 : s.size ≤ 8
        · rw [Nat.min_eq_left h8, List.drop_of_length_le (by omega), List.drop_of_length_le (by omega)]
        · rw [Nat.min_eq_right (by omega)]
      have e2 : (nb s).take (min s.size 8) = (nb s).take 8 := by
        by_cases h8 : s.size ≤ 8
        · rw [Nat.min_eq_left h8, List.take_of_length_le (by omega), List.take_of_length_le (by omega)]
        · rw [Nat.min_eq_right (by omega)]
      rw [e1, e2]; simp
theorem words_val {o : Ob} (h : Okay o) : roadref3_ObjectWords o = some (ow o) := by
  obtain ⟨h1, h2, h3, h4, _⟩ := h
  unfold roadref3_ObjectWords
  have e : (IntKind.wrap .u64 ((IntKind.wrap .u64 ((IntKind.wrap .u64 o.Kind) + (IntKind.wrap .u64 ((256 : Int) * (IntKind.wrap .u64 ((ByteArray.size o.Text : Nat) : Int)))))) + (IntKind.wrap .u64 ((1048576 : Int) * (IntKind.wrap .u64 (((List.length o.Parts) : Nat) : Int)))))) = hd o := by
    unfold hd
    rw [u64_in (n := o.Kind) (by omega) (by omega), u64_in (n := (o.Text.size : Int)) (by omega) (by omega), u64_in (n := (o.Parts.length : Int)) (by omega) (by omega), u64_in (n := 256 * _) (by omega) (by omega), u64_in (n := 1048576 * _) (by omega) (by omega), u64_in (n := o.Kind + _) (by omega) (by omega), u64_in (by omega) (by omega)]
  rw [e]
  have fin : ∀ a3 : List Int, a3.length ≤ 10000 → roadref3_ObjectWords.j0 o a3 = some (a3 ++ (twd (nb o.Text) ++ o.Parts)) := by
    intro a3 ha
    unfold roadref3_ObjectWords.j0
    exact words_l0 64 o.Text a3 (by omega) (by omega) (by omega)
  unfold roadref3_ObjectWords.j1 ow big
  by_cases k1 : o.Kind = 1
  · rw [if_pos k1, if_pos rfl, ap_one (by simp), Option.bind_some, fin _ (by simp)]
    simp [k1]
  · rw [if_neg k1]
    by_cases k4 : o.Kind = 4
    · rw [if_pos (by simp [k4]), ap_one (by simp), Option.bind_some, fin _ (by simp)]
      simp [k4]
    · rw [if_neg (by simp [k4]), fin _ (by simp)]
      simp [k1, k4]
abbrev U64 (a : List Int) : Prop := ∀ x ∈ a, 0 ≤ x ∧ x ≤ 18446744073709551615
def zo : Ob := T_heap_Object.mk 0 0 0 (ByteArray.mk #[]) []
def unb (r : List Int) (i : Nat) : Int := (r[i / 8]?.getD 0) / 256 ^ (i % 8) % 256
def txt (r : List Int) (n : Nat) : List Int := (List.range n).map (unb r)
theorem txt_succ (r : List Int) (n : Nat) : txt r (n + 1) = txt r n ++ [unb r n] := by simp [txt, List.range_succ]
theorem txt_len (r : List Int) (n : Nat) : (txt r n).length = n := by simp [txt]
def obj (x : Nat) (k num : Int) (r : List Int) (t p : Nat) : Ob := T_heap_Object.mk x k num (bytesOf (txt r t)) ((r.drop ((t + 7) / 8)).take p)
theorem shr_byte {y : Int} (h0 : 0 ≤ y) (h1 : y ≤ 18446744073709551615) {m : Nat} (hm : m < 8) : IntKind.wrap .u8 (shrI .u64 y (IntKind.wrap .i64 (8 * (m : Int)))) = y / 256 ^ m % 256 := by
  rw [wrap_in (by omega) (by omega), u8_mod]
  obtain ⟨y, rfl⟩ := Int.eq_ofNat_of_zero_le h0
  have := shr_val (x := y) (s := 8 * m) (by omega)
  rw [show (8 * (m : Int)) = ((8 * m : Nat) : Int) from by push_cast; rfl, this, Nat.pow_mul, Int.natCast_ediv, Int.natCast_pow]; rfl
theorem tdiv8 (i : Nat) : Int.tdiv (i : Int) 8 = ((i / 8 : Nat) : Int) := by rw [Int.tdiv_eq_ediv_of_nonneg (by omega)]; omega
theorem tmod8 (i : Nat) : Int.tmod (i : Int) 8 = ((i % 8 : Nat) : Int) := by rw [Int.tmod_eq_emod_of_nonneg (by omega)]; omega
theorem bytesOf_append (l m : List Int) : bytesOf (l ++ m) = bytesOf l ++ bytesOf m := by
  apply ByteArray.ext
  simp [bytesOf]
theorem okay_size {o : Ob} (h : Okay o) : rm o.Kind o.Text.size o.Parts.length ≤ 1000 := by
  obtain ⟨h1, h2, h3, h4, _⟩ := h
  unfold rm; split <;> omega
theorem bytesOf_size (l : List Int) : (bytesOf l).size = l.length := by simp [bytesOf, ByteArray.size]
def rst (a : List Int) (x : Nat) (k : Int) : List Int := a.drop (x + 1 + (if big k = true then 1 else 0))
def nmb (a : List Int) (x : Nat) (k : Int) : Int := if big k = true then IntKind.wrap .i64 (a[x + 1]?.getD 0) else 0
def fin (a : List Int) (x : Nat) (o : Ob) : Option Ob := if Okay o ∧ ow o = (a.drop x).take (ow o).length then some o else none
def fnd (a : List Int) (x : Nat) (w : Int) : Option Ob :=
  if 4294967296 ≤ w then none
  else if (a.length : Int) - x < (rm (w % 256) (w / 256 % 4096).toNat (w / 1048576).toNat : Int) then none
  else fin a x (obj x (w % 256) (nmb a x (w % 256)) (rst a x (w % 256)) (w / 256 % 4096).toNat (w / 1048576).toNat)
def res (r : Option Ob) : Ob × Int := match r with | some o => (o, 0) | none => (zo, 3)
def ref (r : Option Ob) : Ob × Bool := match r with | some o => (o, true) | none => (zo, false)
section
variable {a : List Int} (ha : a.length * 8 ≤ 140737488351232) (hu : U64 a)
include ha hu
theorem at_l0 {x t p b : Nat} {k num : Int} (ht : t ≤ 4095) (hp : p ≤ 4095) (hb : b + (t + 7) / 8 + p ≤ a.length) (hx : x + rm k t p = b + (t + 7) / 8 + p) (hxb : x ≤ b) :
    ∀ (d i : Nat), i + d = t → heap_At.l0 a (b : Int) zo (t : Int) (p : Int) (x : Int) k num (ByteArray.mk #[]) [] (txt (a.drop b) i) (t : Int) (i : Int) = some (res (fin a x (obj x k num (a.drop b) t p))) := by
  intro d
  induction d with
  | zero =>
    intro i hi
    obtain rfl : i = t := by omega
    have e : IntKind.wrap .i64 ((b : Int) + (IntKind.wrap .i64 (Int.tdiv (IntKind.wrap .i64 ((i : Int) + 7)) 8))) = ((b + (i + 7) / 8 : Nat) : Int) := by
      rw [wrap_in (n := (i : Int) + 7) (by omega) (by omega), show (i : Int) + 7 = ((i + 7 : Nat) : Int) from by omega, tdiv8, wrap_in (n := (((i + 7) / 8 : Nat) : Int)) (by omega) (by omega), wrap_in (by omega) (by omega)]
      omega
    have e2 : IntKind.wrap .i64 (((b + (i + 7) / 8 : Nat) : Int) + (p : Int)) = ((b + (i + 7) / 8 + p : Nat) : Int) := by rw [wrap_in (by omega) (by omega)]; omega
    rw [heap_At.l0_eq, if_neg (by omega), e, e2, sls_of (by omega) (by omega) (by omega), Option.bind_some]
    have hsl : sl a ((b + (i + 7) / 8 : Nat) : Int) ((b + (i + 7) / 8 + p : Nat) : Int) = ((a.drop b).drop ((i + 7) / 8)).take p := by
      unfold sl
      rw [Int.toNat_natCast, Int.toNat_natCast, List.drop_take, List.drop_drop]
      congr 1
      omega
    rw [hsl, ap_nil (by simp; omega), Option.bind_some, put_val (by simp), Option.bind_some]
    have hob : T_heap_Object.mk (x : Int) k num (bytesOf (txt (a.drop b) i)) (((a.drop b).drop ((i + 7) / 8)).take p) = obj x k num (a.drop b) i p := rfl
    rw [hob]
    have hlen : (ow (obj x k num (a.drop b) i p)).length = rm k i p := by
      rw [ow_len]
      unfold obj
      simp only [bytesOf_size, txt_len, List.length_take, List.length_drop]
      congr 1
      omega
    unfold fin
    by_cases hO : Okay (obj x k num (a.drop b) i p)
    · have hr := okay_size hO
      rw [if_pos hO, if_pos (show ([] : List Int).length + rm (obj x k num (a.drop b) i p).Kind (obj x k num (a.drop b) i p).Text.size (obj x k num (a.drop b) i p).Parts.length ≤ 4000 by simp only [List.length_nil]; omega), if_pos rfl, sls_of (by omega) (by omega) (by omega), Option.bind_some]
      have hs2 : sl a (x : Int) ((b + (i + 7) / 8 + p : Nat) : Int) = (a.drop x).take (ow (obj x k num (a.drop b) i p)).length := by
        unfold sl
        rw [Int.toNat_natCast, Int.toNat_natCast, List.drop_take, hlen]
        congr 1
        omega
      obtain ⟨e3, he3, hi3⟩ := slices_Equal_104.val ([] ++ ow (obj x k num (a.drop b) i p)) (sl a (x : Int) ((b + (i + 7) / 8 + p : Nat) : Int)) (by rw [List.nil_append, hlen]; unfold rm; split <;> omega)
      rw [he3, Option.bind_some]
      unfold heap_At.j7 heap_At.j6
      rw [List.nil_append, hs2] at hi3
      by_cases hE : ow (obj x k num (a.drop b) i p) = (a.drop x).take (ow (obj x k num (a.drop b) i p)).length
      · rw [hi3.2 hE, if_neg (by decide), if_pos ⟨hO, hE⟩]; rfl
      · have : e3 = false := by cases e3 with | false => rfl | true => exact absurd (hi3.1 rfl) hE
        rw [this, if_pos (by decide), if_neg (fun h => hE h.2)]; rfl
    · rw [if_neg hO, if_neg (by decide), if_neg (fun h => hO h.1)]; rfl
  | succ d ih =>
    intro i hi
    have hq : b + i / 8 < a.length := by omega
    have hy := hu a[b + i / 8] (List.getElem_mem _)
    have hm : i % 8 < 8 := by omega
    rw [heap_At.l0_eq, if_pos (by omega), tdiv8, tmod8, wrap_in (n := ((i / 8 : Nat) : Int)) (by omega) (by omega), wrap_in (n := (b : Int) + _) (by omega) (by omega), gi_some (k := b + i / 8) (by omega) (List.getElem?_eq_getElem hq), Option.bind_some, if_pos (by rw [wrap_in (by omega) (by omega)]; omega), shr_byte hy.1 hy.2 hm, ap_one (by rw [txt_len]; omega), Option.bind_some, w_succ (by omega)]
    have := ih (i + 1) (by omega)
    rw [txt_succ] at this
    have e : unb (a.drop b) i = a[b + i / 8] / 256 ^ (i % 8) % 256 := by
      unfold unb
      rw [List.getElem?_drop, List.getElem?_eq_getElem hq]; rfl
    rw [e] at this
    exact this
theorem at_val (x : Int) : heap_At a x = some (if 0 ≤ x ∧ x < a.length then res (fnd a x.toNat (a[x.toNat]?.getD 0)) else (zo, 4)) := by
  unfold heap_At
  by_cases h0 : x < 0
  · rw [if_pos h0, heap_At.j1, if_pos rfl, if_neg (by omega)]; rfl
  rw [if_neg h0, heap_At.j1]
  by_cases h1 : x ≥ (a.length : Int)
  · rw [decide_eq_true h1, if_pos rfl, if_neg (by omega)]; rfl
  rw [decide_eq_false h1, if_neg (by decide), if_pos (by omega)]
  obtain ⟨x, rfl⟩ := Int.eq_ofNat_of_zero_le (show 0 ≤ x by omega)
  have hx : x < a.length := by omega
  have hw := hu a[x] (List.getElem_mem _)
  rw [Int.toNat_natCast, List.getElem?_eq_getElem hx, Option.getD_some]
  generalize hwe : a[x] = w at hw
  obtain ⟨w, rfl⟩ := Int.eq_ofNat_of_zero_le hw.1
  unfold heap_At.j0
  rw [gi_some (k := x) rfl (by rw [List.getElem?_eq_getElem hx, hwe]), Option.bind_some]
  have s32 := shr_val (x := w) (s := 32) (by omega)
  have s8 := shr_val (x := w) (s := 8) (by omega)
  have s20 := shr_val (x := w) (s := 20) (by omega)
  have a1 := and_val (x := w) (n := 8) (by omega) (by omega)
  have a2 := and_val (x := w / 2 ^ 8) (n := 12) (by omega) (by omega)
  have a3 := and_val (x := w / 2 ^ 20) (n := 12) (by omega) (by omega)
  have e32 : shrI .u64 (w : Int) 32 = ((w / 2 ^ 32 : Nat) : Int) := s32
  have e8 : bitsI .and .u64 (shrI .u64 (w : Int) 8) 4095 = ((w / 2 ^ 8 % 2 ^ 12 : Nat) : Int) := by rw [← a2, ← s8]; rfl
  have e20 : bitsI .and .u64 (shrI .u64 (w : Int) 20) 4095 = ((w / 2 ^ 20 % 2 ^ 12 : Nat) : Int) := by rw [← a3, ← s20]; rfl
  have e255 : bitsI .and .u64 (w : Int) 255 = ((w % 2 ^ 8 : Nat) : Int) := by rw [← a1]; rfl
  rw [e32, e8, e20, e255, wrap_in (n := ((w % 2 ^ 8 : Nat) : Int)) (by omega) (by omega), wrap_in (n := ((w / 2 ^ 8 % 2 ^ 12 : Nat) : Int)) (by omega) (by omega), wrap_in (n := ((w / 2 ^ 20 % 2 ^ 12 : Nat) : Int)) (by omega) (by omega), room_val (by omega) (by omega), Option.bind_some, wrap_in (n := (a.length : Int) - x) (by omega) (by omega)]
  unfold fnd
  by_cases hb : 4294967296 ≤ w
  · rw [if_neg (by omega), heap_At.j3, if_pos rfl, if_pos (by omega)]; rfl
  have hk : ((w : Int) % 256) = ((w % 2 ^ 8 : Nat) : Int) := by omega
  have ht : (((w : Int) / 256) % 4096).toNat = w / 2 ^ 8 % 2 ^ 12 := by omega
  have hp : ((w : Int) / 1048576).toNat = w / 2 ^ 20 % 2 ^ 12 := by omega
  rw [if_pos (by omega), if_neg (show ¬ (4294967296 ≤ (w : Int)) by omega), hk, ht, hp]
  generalize hkk : ((w % 2 ^ 8 : Nat) : Int) = k
  have htt : w / 2 ^ 8 % 2 ^ 12 ≤ 4095 := by omega
  have hpp : w / 2 ^ 20 % 2 ^ 12 ≤ 4095 := by omega
  generalize w / 2 ^ 8 % 2 ^ 12 = t at *
  generalize w / 2 ^ 20 % 2 ^ 12 = p at *
  unfold heap_At.j3
  by_cases hr : (a.length : Int) - x < (rm k t p : Int)
  · rw [decide_eq_true (by omega), if_pos rfl, if_pos hr]; rfl
  rw [decide_eq_false (by omega), if_neg (by decide), if_neg hr]
  unfold heap_At.j2
  have fin1 : big k = false → heap_At.j4 a ((x + 1 : Nat) : Int) zo (t : Int) (p : Int) (x : Int) k 0 (ByteArray.mk #[]) [] = some (res (fin a x (obj x k (nmb a x k) (rst a x k) t p))) := by
    intro hbk
    unfold heap_At.j4
    unfold rm at hr
    rw [hbk] at hr
    have := at_l0 ha hu (x := x) (t := t) (p := p) (b := x + 1) (k := k) (num := 0) htt hpp (by simp at hr; omega) (by unfold rm; rw [hbk]; simp; omega) (by omega) t 0 (by omega)
    unfold nmb rst
    rw [hbk]
    exact this
  have fin2 : big k = true → (Option.bind (gi a ((x + 1 : Nat) : Int)) fun y => heap_At.j4 a (IntKind.wrap .i64 (((x + 1 : Nat) : Int) + 1)) zo (t : Int) (p : Int) (x : Int) k (IntKind.wrap .i64 y) (ByteArray.mk #[]) []) = some (res (fin a x (obj x k (nmb a x k) (rst a x k) t p))) := by
    intro hbk
    unfold rm at hr
    rw [hbk] at hr
    simp at hr
    have hx1 : x + 1 < a.length := by omega
    rw [gi_some (k := x + 1) rfl (List.getElem?_eq_getElem hx1), Option.bind_some, w_succ (by omega)]
    unfold heap_At.j4
    have := at_l0 ha hu (x := x) (t := t) (p := p) (b := x + 2) (k := k) (num := IntKind.wrap .i64 a[x + 1]) htt hpp (by omega) (by unfold rm; rw [hbk]; simp; omega) (by omega) t 0 (by omega)
    unfold nmb rst
    rw [hbk, List.getElem?_eq_getElem hx1]
    exact this
  have hw1 : IntKind.wrap .i64 ((x : Int) + 1) = ((x + 1 : Nat) : Int) := w_succ (by omega)
  rw [hw1]
  unfold heap_At.j5
  by_cases k1 : k = 1
  · rw [if_pos k1, if_pos rfl]; exact fin2 (by simp [big, k1])
  · rw [if_neg k1]
    by_cases k4 : k = 4
    · rw [if_pos (by simp [k4])]; exact fin2 (by simp [big, k4])
    · rw [if_neg (by simp [k4])]; exact fin1 (by simp [big, k1, k4])
omit hu in
theorem ref_l1 {x : Nat} {o : Ob} {ws : List Int} (hx : x + ws.length ≤ a.length) : ∀ (d k : Nat), k + d = ws.length → ws.take k = (a.drop x).take k →
    roadref3_ObjectAt.l1 a (x : Int) zo o ws (ws.length : Int) (k : Int) = some (if ws = (a.drop x).take ws.length then (o, true) else (zo, false)) := by
  intro d
  induction d with
  | zero =>
    intro k hk he
    obtain rfl : k = ws.length := by omega
    rw [List.take_of_length_le (Nat.le_refl _)] at he
    rw [roadref3_ObjectAt.l1_eq, if_neg (by omega), if_pos he]
  | succ d ih =>
    intro k hk he
    have h1 : k < ws.length := by omega
    have h2 : x + k < a.length := by omega
    rw [roadref3_ObjectAt.l1_eq, if_pos (by omega), gi_at h1, Option.bind_some, wrap_in (by omega) (by omega), gi_some (k := x + k) (by omega) (List.getElem?_eq_getElem h2), Option.bind_some]
    by_cases hq : a[x + k] = ws[k]
    · rw [if_pos hq, w_succ (by omega)]
      refine ih (k + 1) (by omega) ?_
      rw [List.take_succ_eq_append_getElem h1, List.take_succ_eq_append_getElem (by rw [List.length_drop]; omega), he, List.getElem_drop, hq]
    · rw [if_neg hq, if_neg]
      · rfl
      · intro e
        apply hq
        have : ws[k]? = ((a.drop x).take ws.length)[k]? := by rw [← e]
        rw [List.getElem?_take, if_pos h1, List.getElem?_drop, List.getElem?_eq_getElem h1, List.getElem?_eq_getElem h2] at this
        exact (Option.some.inj this).symm
omit ha hu in
theorem ref_l2 {x1 x6_0 x6_1 x6_2 x8 x10 x84 x85 : Int} {s : ByteArray} {r : List Int} {y : Int} (h0 : 0 ≤ y) (h1 : y ≤ 18446744073709551615) {m : Nat} (hm : m < 8) (hs : s.size ≤ 10000) : ∀ (d j : Nat), j + d = m →
    roadref3_ObjectAt.l2 a x1 zo x6_0 x6_1 x6_2 s [] x8 r x10 (y / 256 ^ j) x84 x85 (m : Int) (j : Int) = roadref3_ObjectAt.l0 a x1 zo x6_0 x6_1 x6_2 (s ++ bytesOf [y / 256 ^ m % 256]) [] x8 r x10 x84 (IntKind.wrap .i64 (x85 + 1)) := by
  have hq : ∀ j, 0 ≤ y / 256 ^ j ∧ y / 256 ^ j ≤ 18446744073709551615 := by
    intro j
    have h1' : 0 ≤ y / (256 : Int) ^ j := Int.ediv_nonneg h0 (Int.le_of_lt (Int.pow_pos (by decide)))
    have h2' : y / (256 : Int) ^ j ≤ y := Int.ediv_le_self _ h0
    omega
  intro d
  induction d with
  | zero =>
    intro j hj
    obtain rfl : j = m := by omega
    have := hq j
    rw [roadref3_ObjectAt.l2_eq, if_neg (by omega), if_pos (by rw [bytesOf_size]; simp; omega), u8_mod, Int.tmod_eq_emod_of_nonneg (hq j).1, Int.emod_emod_of_dvd _ (by decide)]
  | succ d ih =>
    intro j hj
    have h3 := hq (j + 1)
    have e : (y / 256 ^ j).tdiv 256 = y / 256 ^ (j + 1) := by
      rw [Int.tdiv_eq_ediv_of_nonneg (hq j).1, Int.pow_succ, Int.ediv_ediv, if_neg (fun h => absurd h.1 (Int.not_lt.2 (Int.le_of_lt (Int.pow_pos (by decide))))), Int.sub_zero]
    rw [roadref3_ObjectAt.l2_eq, if_pos (by omega), e, u64_in h3.1 h3.2, w_succ (by omega)]
    exact ih (j + 1) (by omega)
theorem ref_l0 {x t p b : Nat} {k num : Int} (ht : t ≤ 4095) (hp : p ≤ 4095) (hb : b + (t + 7) / 8 + p ≤ a.length) (hx : x + rm k t p = b + (t + 7) / 8 + p) (hxb : x ≤ b) :
    ∀ (d i : Nat), i + d = t → roadref3_ObjectAt.l0 a (x : Int) zo (x : Int) k num (bytesOf (txt (a.drop b) i)) [] (p : Int) (a.drop b) (((t + 7) / 8 : Nat) : Int) (t : Int) (i : Int) = some (ref (fin a x (obj x k num (a.drop b) t p))) := by
  intro d
  induction d with
  | zero =>
    intro i hi
    obtain rfl : i = t := by omega
    rw [roadref3_ObjectAt.l0_eq, if_neg (by omega), wrap_in (by omega) (by omega), sls_of (by omega) (by omega) (by rw [List.length_drop]; omega), Option.bind_some]
    have hsl : sl (a.drop b) (((i + 7) / 8 : Nat) : Int) ((((i + 7) / 8 : Nat) : Int) + (p : Int)) = ((a.drop b).drop ((i + 7) / 8)).take p := by
      unfold sl
      rw [Int.toNat_natCast, show ((((i + 7) / 8 : Nat) : Int) + (p : Int)).toNat = (i + 7) / 8 + p from by omega, List.drop_take]
      congr 1
      omega
    have hob : T_heap_Object.mk (x : Int) k num (bytesOf (txt (a.drop b) i)) (((a.drop b).drop ((i + 7) / 8)).take p) = obj x k num (a.drop b) i p := rfl
    rw [hsl, ap_nil (by simp; omega), Option.bind_some, hob, is_val, Option.bind_some]
    have hlen : (ow (obj x k num (a.drop b) i p)).length = rm k i p := by
      rw [ow_len]
      unfold obj
      simp only [bytesOf_size, txt_len, List.length_take, List.length_drop]
      congr 1
      omega
    unfold fin
    by_cases hO : Okay (obj x k num (a.drop b) i p)
    · rw [decide_eq_true hO, if_pos rfl, words_val hO, Option.bind_some]
      have := ref_l1 ha (x := x) (o := obj x k num (a.drop b) i p) (ws := ow (obj x k num (a.drop b) i p)) (by omega) _ 0 (Nat.zero_add _) rfl
      refine Eq.trans this ?_
      by_cases hE : ow (obj x k num (a.drop b) i p) = (a.drop x).take (ow (obj x k num (a.drop b) i p)).length
      · rw [if_pos hE, if_pos ⟨hO, hE⟩]; rfl
      · rw [if_neg hE, if_neg (fun h => hE h.2)]; rfl
    · rw [decide_eq_false hO, if_neg (by decide), if_neg (fun h => hO h.1)]; rfl
  | succ d ih =>
    intro i hi
    have hq : b + i / 8 < a.length := by omega
    have hy := hu a[b + i / 8] (List.getElem_mem _)
    have hm : i % 8 < 8 := by omega
    have hg : (a.drop b)[i / 8]? = some a[b + i / 8] := by rw [List.getElem?_drop]; exact List.getElem?_eq_getElem hq
    rw [roadref3_ObjectAt.l0_eq, if_pos (by omega), tdiv8, tmod8, wrap_in (n := ((i / 8 : Nat) : Int)) (by omega) (by omega), gi_some (k := i / 8) rfl hg, Option.bind_some]
    have h2 := ref_l2 (a := a) (x1 := x) (x6_0 := x) (x6_1 := k) (x6_2 := num) (x8 := p) (x10 := (((t + 7) / 8 : Nat) : Int)) (x84 := t) (x85 := i) (s := bytesOf (txt (a.drop b) i)) (r := a.drop b) hy.1 hy.2 hm (by rw [bytesOf_size, txt_len]; omega) _ 0 (Nat.zero_add _)
    have e0 : a[b + i / 8] / 256 ^ 0 = a[b + i / 8] := by simp
    rw [e0] at h2
    refine Eq.trans h2 ?_
    have := ih (i + 1) (by omega)
    rw [txt_succ, bytesOf_append] at this
    have e : unb (a.drop b) i = a[b + i / 8] / 256 ^ (i % 8) % 256 := by
      unfold unb
      rw [hg]; rfl
    rw [e] at this
    rw [w_succ (by omega)]
    exact this
theorem ref_val (x : Int) : roadref3_ObjectAt a x = some (if 0 ≤ x ∧ x < a.length then ref (fnd a x.toNat (a[x.toNat]?.getD 0)) else (zo, false)) := by
  unfold roadref3_ObjectAt roadref3_In
  by_cases h0 : x ≥ 0
  · rw [if_pos h0, Option.bind_some, wrap_in (by omega) (by omega)]
    by_cases h1 : x < (a.length : Int)
    · rw [decide_eq_true (by omega), if_pos rfl, if_pos ⟨h0, h1⟩]
      obtain ⟨x, rfl⟩ := Int.eq_ofNat_of_zero_le (show 0 ≤ x by omega)
      have hx : x < a.length := by omega
      have hw := hu a[x] (List.getElem_mem _)
      rw [Int.toNat_natCast, List.getElem?_eq_getElem hx, Option.getD_some]
      generalize hwe : a[x] = w at hw
      have hg : gi a (x : Int) = some w := gi_some (k := x) rfl (by rw [List.getElem?_eq_getElem hx, hwe])
      rw [hg, Option.bind_some, Int.tdiv_eq_ediv_of_nonneg hw.1, u64_in (by omega) (by omega)]
      unfold fnd
      unfold roadref3_ObjectAt.j1
      by_cases hb : 4294967296 ≤ w
      · rw [decide_eq_true (by omega), if_pos rfl, if_pos hb]; rfl
      rw [decide_eq_false (by omega), if_neg (by decide), if_neg hb]
      unfold roadref3_ObjectAt.j0
      rw [hg, Option.bind_some, Option.bind_some, Option.bind_some, w_succ (by omega), sls_drop (k := x + 1) rfl (by omega), Option.bind_some, Int.tmod_eq_emod_of_nonneg hw.1, Int.tdiv_eq_ediv_of_nonneg hw.1, Int.tdiv_eq_ediv_of_nonneg hw.1, u64_in (n := w / 256) (by omega) (by omega), u64_in (n := w / 1048576) (by omega) (by omega), Int.tmod_eq_emod_of_nonneg (by omega), wrap_in (n := w % 256) (by omega) (by omega), wrap_in (n := w / 256 % 4096) (by omega) (by omega), wrap_in (n := w / 1048576) (by omega) (by omega)]
      obtain ⟨t, ht⟩ := Int.eq_ofNat_of_zero_le (show 0 ≤ w / 256 % 4096 by omega)
      obtain ⟨p, hp⟩ := Int.eq_ofNat_of_zero_le (show 0 ≤ w / 1048576 by omega)
      have htt : t ≤ 4095 := by omega
      have hpp : p ≤ 4095 := by omega
      rw [ht, hp, Int.toNat_natCast, Int.toNat_natCast]
      generalize w % 256 = k
      have e7 : IntKind.wrap .i64 (Int.tdiv (IntKind.wrap .i64 ((t : Int) + 7)) 8) = (((t + 7) / 8 : Nat) : Int) := by
        rw [wrap_in (n := (t : Int) + 7) (by omega) (by omega), show (t : Int) + 7 = ((t + 7 : Nat) : Int) from by omega, tdiv8, wrap_in (by omega) (by omega)]
      have j2 : ∀ (b : Nat) (num : Int), x + rm k t p = b + (t + 7) / 8 + p → x ≤ b → b ≤ a.length → roadref3_ObjectAt.j2 a (x : Int) zo (x : Int) k num (ByteArray.mk #[]) [] (t : Int) (p : Int) (a.drop b) = some (ref (if (a.length : Int) - x < (rm k t p : Int) then none else fin a x (obj x k num (a.drop b) t p))) := by
        intro b num hx2 hxb hba
        unfold roadref3_ObjectAt.j2
        rw [e7, wrap_in (n := _ + (p : Int)) (by omega) (by omega), List.length_drop]
        by_cases hr : (a.length : Int) - x < (rm k t p : Int)
        · rw [if_pos (by omega), if_pos hr]; rfl
        · rw [if_neg (by omega), if_neg hr]
          exact ref_l0 ha hu htt hpp (by omega) hx2 hxb t 0 (by omega)
      have fin1 : big k = false → roadref3_ObjectAt.j2 a (x : Int) zo (x : Int) k 0 (ByteArray.mk #[]) [] (t : Int) (p : Int) (a.drop (x + 1)) = some (ref (if (a.length : Int) - x < (rm k t p : Int) then none else fin a x (obj x k (nmb a x k) (rst a x k) t p))) := by
        intro hbk
        have := j2 (x + 1) 0 (by unfold rm; rw [hbk]; simp; omega) (by omega) (by omega)
        unfold nmb rst
        rw [hbk]
        exact this
      have fin2 : big k = true → roadref3_ObjectAt.j3 a (x : Int) zo (x : Int) k 0 (ByteArray.mk #[]) [] (t : Int) (p : Int) (a.drop (x + 1)) true = some (ref (if (a.length : Int) - x < (rm k t p : Int) then none else fin a x (obj x k (nmb a x k) (rst a x k) t p))) := by
        intro hbk
        unfold roadref3_ObjectAt.j3
        rw [if_pos rfl, List.length_drop]
        by_cases hx1 : x + 1 < a.length
        · rw [if_neg (by omega), gi_some (k := 0) (x := 0) rfl (by rw [List.getElem?_drop]; exact List.getElem?_eq_getElem hx1), Option.bind_some, ← List.length_drop, sls_drop (k := 1) (x := 1) rfl (by rw [List.length_drop]; omega), Option.bind_some, List.drop_drop]
          have := j2 (x + 2) (IntKind.wrap .i64 a[x + 1]) (by unfold rm; rw [hbk]; simp; omega) (by omega) (by omega)
          unfold nmb rst
          rw [hbk, List.getElem?_eq_getElem hx1]
          exact this
        · rw [if_pos (by omega), if_pos (by unfold rm; rw [hbk]; simp; omega)]; rfl
      have fin3 : big k = false → roadref3_ObjectAt.j3 a (x : Int) zo (x : Int) k 0 (ByteArray.mk #[]) [] (t : Int) (p : Int) (a.drop (x + 1)) false = some (ref (if (a.length : Int) - x < (rm k t p : Int) then none else fin a x (obj x k (nmb a x k) (rst a x k) t p))) := by
        intro hbk
        unfold roadref3_ObjectAt.j3
        rw [if_neg (by decide)]
        exact fin1 hbk
      by_cases k1 : k = 1
      · rw [if_pos k1]; exact fin2 (by simp [big, k1])
      · rw [if_neg k1]
        by_cases k4 : k = 4
        · rw [show (k == 4) = true from by simp [k4]]; exact fin2 (by simp [big, k4])
        · rw [show (k == 4) = false from by simp [k4]]; exact fin3 (by simp [big, k1, k4])
    · rw [decide_eq_false (by omega), if_neg (by decide), if_neg (by omega)]; rfl
  · rw [if_neg h0, Option.bind_some, if_neg (by decide), if_neg (by omega)]; rfl
omit ha hu in
theorem fnd_okay {x : Nat} {w : Int} {o : Ob} (h : fnd a x w = some o) : Okay o := by
  unfold fnd at h
  split at h
  · cases h
  · split at h
    · cases h
    · unfold fin at h
      split at h
      · rename_i k; cases h; exact k.1
      · cases h
theorem objs_loop : ∀ (d x : Nat) (acc : List Ob), a.length ≤ x + d → a.length ≤ 4000 → acc.length + d ≤ 100000 →
    ∃ r, heap_Objects.l0 a acc (x : Int) = some r ∧ roadref3_HeapObjects.l0 a acc (x : Int) = some r ∧ r.1.length ≤ 100000 := by
  intro d
  induction d using Nat.strongRecOn with
  | _ d ih =>
    intro x acc h1 h2 h3
    rw [heap_Objects.l0_eq, roadref3_HeapObjects.l0_eq]
    by_cases h : x < a.length
    · rw [if_pos (by omega), if_pos (by omega), at_val ha hu, ref_val ha hu, if_pos (by omega), if_pos (by omega), Option.bind_some, Option.bind_some]
      cases hf : fnd a (x : Int).toNat (a[(x : Int).toNat]?.getD 0) with
      | none => exact ⟨_, rfl, rfl, by simp⟩
      | some o =>
        have hO := fnd_okay hf
        have hr := okay_size hO
        have hlen := ow_len o
        have hpos : 1 ≤ rm o.Kind o.Text.size o.Parts.length := by unfold rm; omega
        obtain ⟨k1, k2, _⟩ := hO
        show ∃ r, (if (0 : Int) = 0 then _ else _) = some r ∧ (if true = true then _ else _) = some r ∧ _
        rw [if_pos rfl, if_pos rfl]
        show ∃ r, (Option.bind (ap 64 acc [o]) fun l40 => Option.bind (heap_room o.Kind ((ByteArray.size o.Text : Nat) : Int) (((List.length o.Parts) : Nat) : Int)) fun y54 => (heap_Objects.l0 a l40 (IntKind.wrap .i64 ((x : Int) + y54)))) = some r ∧ (Option.bind (ap 64 acc [o]) fun l38 => Option.bind (roadref3_ObjectWords o) fun y52 => (roadref3_HeapObjects.l0 a l38 (IntKind.wrap .i64 ((x : Int) + (((List.length y52) : Nat) : Int))))) = some r ∧ _
        rw [ap_one (by omega), Option.bind_some, Option.bind_some, room_val (by omega) (by omega), Option.bind_some, words_val (fnd_okay hf), Option.bind_some, hlen, wrap_in (by omega) (by omega), show (x : Int) + ((rm o.Kind o.Text.size o.Parts.length : Nat) : Int) = ((x + rm o.Kind o.Text.size o.Parts.length : Nat) : Int) from by omega]
        exact ih (d - 1) (by omega) _ _ (by omega) h2 (by simp; omega)
    · rw [if_neg (by omega), if_neg (by omega)]
      exact ⟨_, rfl, rfl, by simp; omega⟩
omit hu in
theorem objs_val (hu : U64 a) : ∃ r, heap_Objects a = some r ∧ roadref3_HeapObjects a = some r ∧ r.1.length ≤ 100000 := by
  unfold heap_Objects roadref3_HeapObjects
  by_cases h : a.length > 4000
  · rw [if_pos (by omega), if_pos (by omega)]; exact ⟨_, rfl, rfl, by simp⟩
  · rw [if_neg (by omega), if_neg (by omega)]
    exact objs_loop ha hu 4000 0 [] (by omega) (by omega) (by simp)
end
def Fits (k n : Int) : Prop := (k = 0 ∧ n = 0) ∨ (k = 1 ∧ -1152921504606846976 ≤ n ∧ n < 1152921504606846976) ∨ (k = 2 ∧ (n = 0 ∨ n = 1)) ∨ ((k = 3 ∨ k = 4) ∧ 0 ≤ n ∧ n < 1152921504606846976)
instance (k n : Int) : Decidable (Fits k n) := by unfold Fits; infer_instance
def wd (k n : Int) : Int := (8 * n) % 18446744073709551616 + k
theorem u64_mod (n : Int) : IntKind.wrap .u64 n = n % 18446744073709551616 := by simp [IntKind.wrap, IntKind.bits, IntKind.signed]
theorem tagWord_val {k n : Int} (h0 : 0 ≤ k) (h1 : k ≤ 7) : roadref3_TagWord k n = some (wd k n) := by
  unfold roadref3_TagWord wd
  congr 1
  simp only [u64_mod]
  omega
theorem in_val (x a b : Int) : roadref3_In x a b = some (decide (a ≤ x ∧ x ≤ b)) := by
  unfold roadref3_In
  by_cases h : x ≥ a
  · rw [if_pos h]; congr 1; exact decide_eq_decide.2 (by omega)
  · rw [if_neg h, decide_eq_false (by omega)]
theorem tagFits_val (k n : Int) : roadref3_TagFits k n = some (decide (Fits k n)) := by
  unfold roadref3_TagFits roadref3_TagFits.j0
  have key : ∀ a b : Int, (Option.bind (roadref3_In k 0 4) fun y4 => if y4 = true then (Option.bind (roadref3_In n a b) fun y10 => some (y10)) else (some (false))) = some (decide ((0 ≤ k ∧ k ≤ 4) ∧ a ≤ n ∧ n ≤ b)) := by
    intro a b
    rw [in_val, Option.bind_some, in_val]
    by_cases h : 0 ≤ k ∧ k ≤ 4
    · rw [decide_eq_true h, if_pos rfl, Option.bind_some]; congr 1; exact decide_eq_decide.2 ⟨fun x => ⟨h, x⟩, fun x => x.2⟩
    · rw [decide_eq_false h, if_neg (by decide), decide_eq_false (fun x => h x.1)]
  simp only [key]
  unfold Fits
  by_cases k0 : k = 0
  · rw [if_pos k0]; congr 1; exact decide_eq_decide.2 (by omega)
  rw [if_neg k0]
  by_cases k1 : k = 1
  · rw [if_pos k1]; congr 1; exact decide_eq_decide.2 (by omega)
  rw [if_neg k1]
  by_cases k2 : k = 2
  · rw [if_pos k2]; congr 1; exact decide_eq_decide.2 (by omega)
  rw [if_neg k2]; congr 1; exact decide_eq_decide.2 (by omega)
theorem or_word {k n : Int} (h0 : 0 ≤ k) (h1 : k ≤ 7) : bitsI .or .u64 (shlI .u64 (IntKind.wrap .u64 n) 3) (IntKind.wrap .u64 k) = wd k n := by
  rw [u64_in h0 (by omega)]
  have e1 : shlI .u64 (IntKind.wrap .u64 n) 3 = (8 * n) % 18446744073709551616 := by
    unfold shlI
    rw [show min (Int.toNat 3) (IntKind.bits .u64) = 3 from rfl, u64_mod, u64_mod]
    omega
  rw [e1]
  obtain ⟨k, rfl⟩ := Int.eq_ofNat_of_zero_le h0
  obtain ⟨y, hy⟩ := Int.eq_ofNat_of_zero_le (show 0 ≤ (8 * n) % 18446744073709551616 / 8 by omega)
  have e2 : (8 * n) % 18446744073709551616 = ((y * 2 ^ 3 : Nat) : Int) := by omega
  have := or_val (x := k) (y := y) (s := 3) (by omega) (by omega)
  unfold wd
  rw [e2]
  show IntKind.wrap .u64 ((BitVec.ofInt 64 ((y * 2 ^ 3 : Nat) : Int) ||| BitVec.ofInt 64 (k : Int)).toNat : Nat) = _
  rw [BitVec.or_comm]
  refine Eq.trans this ?_
  omega
theorem word_val (k n : Int) : term_Word k n = some (if Fits k n then (wd k n, 0) else (0, if k < 0 ∨ k > 4 then 1 else 2)) := by
  have j0 : ∀ b, b = decide (Fits k n) → term_Word.j0 k n b = some (if Fits k n then (wd k n, 0) else (0, if k < 0 ∨ k > 4 then 1 else 2)) := by
    rintro b rfl
    unfold term_Word.j0
    by_cases h : Fits k n
    · rw [decide_eq_true h, if_pos rfl, if_pos h, or_word (by unfold Fits at h; omega) (by unfold Fits at h; omega)]
    · rw [decide_eq_false h, if_neg (by decide), if_neg h]
      unfold term_Word.j2
      by_cases h1 : k < 0
      · rw [if_pos h1, if_pos rfl, if_pos (.inl h1)]
      · rw [if_neg h1]
        by_cases h2 : k > 4
        · rw [decide_eq_true h2, if_pos rfl, if_pos (.inr h2)]
        · rw [decide_eq_false h2, if_neg (by decide), if_neg (by omega)]
  have small : term_Small n = some (decide (-1152921504606846976 ≤ n ∧ n < 1152921504606846976)) := by
    unfold term_Small
    by_cases h : n ≥ -1152921504606846976
    · rw [if_pos h]; congr 1; exact decide_eq_decide.2 (by omega)
    · rw [if_neg h, decide_eq_false (by omega)]
  have j4 : ∀ b, b = decide ((k = 0 ∨ k = 1 ∨ k = 2) ∧ Fits k n) → term_Word.j4 k n b = some (if Fits k n then (wd k n, 0) else (0, if k < 0 ∨ k > 4 then 1 else 2)) := by
    rintro b rfl
    unfold term_Word.j4
    by_cases h : (k = 0 ∨ k = 1 ∨ k = 2) ∧ Fits k n
    · rw [decide_eq_true h, if_pos rfl]; exact j0 _ (decide_eq_true h.2).symm
    rw [decide_eq_false h, if_neg (by decide)]
    by_cases k3 : k = 3
    · rw [if_pos k3]
      by_cases hn : n ≥ 0
      · rw [if_pos hn]; exact j0 _ (decide_eq_decide.2 (by unfold Fits; omega))
      · rw [if_neg hn]; exact j0 _ (decide_eq_false (by unfold Fits; omega)).symm
    rw [if_neg k3]
    by_cases k4 : k = 4
    · rw [if_pos k4]
      by_cases hn : n ≥ 0
      · rw [if_pos hn]; exact j0 _ (decide_eq_decide.2 (by unfold Fits; omega))
      · rw [if_neg hn]; exact j0 _ (decide_eq_false (by unfold Fits; omega)).symm
    rw [if_neg k4]; exact j0 _ (decide_eq_false (by unfold Fits at h ⊢; omega)).symm
  have j3 : ∀ b, b = decide ((k = 0 ∨ k = 2) ∧ Fits k n) → term_Word.j3 k n b = some (if Fits k n then (wd k n, 0) else (0, if k < 0 ∨ k > 4 then 1 else 2)) := by
    rintro b rfl
    unfold term_Word.j3
    by_cases h : (k = 0 ∨ k = 2) ∧ Fits k n
    · rw [decide_eq_true h, if_pos rfl]; exact j0 _ (decide_eq_true h.2).symm
    rw [decide_eq_false h, if_neg (by decide)]
    by_cases k1 : k = 1
    · rw [if_pos k1, small, Option.bind_some]; exact j4 _ (decide_eq_decide.2 (by unfold Fits; omega))
    · rw [if_neg k1]; exact j4 _ (decide_eq_false (by unfold Fits at h ⊢; omega)).symm
  have j1 : ∀ b, b = decide (k = 0 ∧ Fits k n) → term_Word.j1 k n b = some (if Fits k n then (wd k n, 0) else (0, if k < 0 ∨ k > 4 then 1 else 2)) := by
    rintro b rfl
    unfold term_Word.j1
    by_cases h : k = 0 ∧ Fits k n
    · rw [decide_eq_true h, if_pos rfl]; exact j0 _ (decide_eq_true h.2).symm
    rw [decide_eq_false h, if_neg (by decide)]
    by_cases k2 : k = 2
    · rw [if_pos k2]
      by_cases n0 : n = 0
      · rw [if_pos n0]; exact j3 _ (decide_eq_true (by unfold Fits; omega)).symm
      · rw [if_neg n0]; refine j3 _ ?_
        by_cases n1 : n = 1
        · subst n1; exact (decide_eq_true (by unfold Fits; omega)).symm
        · rw [show (n == 1) = false from by simp [n1]]; exact (decide_eq_false (by unfold Fits; omega)).symm
    · rw [if_neg k2]; exact j3 _ (decide_eq_false (by unfold Fits at h ⊢; omega)).symm
  unfold term_Word
  by_cases k0 : k = 0
  · rw [if_pos k0]; refine j1 _ ?_
    by_cases n0 : n = 0
    · subst n0; exact (decide_eq_true (by unfold Fits; omega)).symm
    · rw [show (n == 0) = false from by simp [n0]]; exact (decide_eq_false (by unfold Fits; omega)).symm
  · rw [if_neg k0]; exact j1 _ (decide_eq_false (by omega)).symm
def nn (w : Int) : Int := if w % 8 = 1 ∧ w / 8 ≥ 1152921504606846976 then w / 8 - 2305843009213693952 else w / 8
def rd (w : Int) : Option (Int × Int) := if Fits (w % 8) (nn w) ∧ wd (w % 8) (nn w) = w then some (w % 8, nn w) else none
section
variable {w : Int} (h0 : 0 ≤ w) (h1 : w ≤ 18446744073709551615)
include h0 h1
omit h0 h1 in
theorem rd_fits {k n : Int} (h : rd w = some (k, n)) : Fits k n := by
  unfold rd at h
  split at h
  · rename_i c; cases h; exact c.1
  · cases h
theorem tread_val : term_Read w = some (match rd w with | some (k, n) => (k, n, 0) | none => (0, 0, 3)) := by
  unfold term_Read
  rw [Int.tmod_eq_emod_of_nonneg h0, wrap_in (n := w % 8) (by omega) (by omega)]
  have key : term_Read.j0 w (w % 8) (nn w) = some (match rd w with | some (k, n) => (k, n, 0) | none => (0, 0, 3)) := by
    unfold term_Read.j0 rd
    rw [word_val, Option.bind_some]
    by_cases hf : Fits (w % 8) (nn w)
    · rw [if_pos hf, if_pos rfl]
      unfold term_Read.j2 term_Read.j1
      by_cases he : wd (w % 8) (nn w) = w
      · rw [if_neg (by simp [he]), if_pos ⟨hf, he⟩]
      · rw [if_pos (by simp [he]), if_neg (fun x => he x.2)]
    · rw [if_neg hf, if_neg (by simp only; split <;> decide), if_neg (fun x => hf x.1)]; rfl
  by_cases k1 : w % 8 = 1
  · rw [if_pos k1]
    have e : shrI .i64 (IntKind.wrap .i64 w) 3 = nn w := by
      unfold shrI nn
      rw [show min (Int.toNat 3) (IntKind.bits .i64) = 3 from rfl, Int.fdiv_eq_ediv_of_nonneg _ (by decide)]
      have ew : IntKind.wrap .i64 w = if w ≥ 9223372036854775808 then w - 18446744073709551616 else w := by
        have : w % 18446744073709551616 = w := Int.emod_eq_of_lt h0 (by omega)
        simp [IntKind.wrap, IntKind.bits, IntKind.signed, this]
      rw [ew]
      split <;> split <;> omega
    rw [e]; exact key
  · rw [if_neg k1]
    have e : IntKind.wrap .i64 (shrI .u64 w 3) = nn w := by
      unfold shrI nn
      rw [show min (Int.toNat 3) (IntKind.bits .u64) = 3 from rfl, Int.fdiv_eq_ediv_of_nonneg _ (by decide), wrap_in (by omega) (by omega), if_neg (by omega)]
      omega
    rw [e]; exact key
theorem tagRead_val : roadref3_TagRead w = some (match rd w with | some (k, n) => (k, n, true) | none => (0, 0, false)) := by
  unfold roadref3_TagRead
  rw [Int.tmod_eq_emod_of_nonneg h0, Int.tdiv_eq_ediv_of_nonneg h0, u64_in (n := w / 8) (by omega) (by omega), wrap_in (n := w % 8) (by omega) (by omega), wrap_in (n := w / 8) (by omega) (by omega)]
  have key : roadref3_TagRead.j0 w (w % 8) (nn w) = some (match rd w with | some (k, n) => (k, n, true) | none => (0, 0, false)) := by
    unfold roadref3_TagRead.j0 rd
    rw [tagFits_val, Option.bind_some]
    by_cases hf : Fits (w % 8) (nn w)
    · rw [decide_eq_true hf, if_pos rfl, tagWord_val (by omega) (by omega), Option.bind_some]
      unfold roadref3_TagRead.j3 roadref3_TagRead.j2
      by_cases he : wd (w % 8) (nn w) = w
      · rw [if_neg (by simp [he]), if_pos ⟨hf, he⟩]
      · rw [if_pos (by simp [he]), if_neg (fun x => he x.2)]
    · rw [decide_eq_false hf, if_neg (by decide), if_neg (fun x => hf x.1)]; rfl
  unfold roadref3_TagRead.j1
  by_cases k1 : w % 8 = 1
  · rw [if_pos k1]
    by_cases hb : w / 8 ≥ 1152921504606846976
    · rw [decide_eq_true hb, if_pos rfl, wrap_in (by omega) (by omega), show w / 8 - 2305843009213693952 = nn w from by unfold nn; rw [if_pos ⟨k1, hb⟩]]; exact key
    · rw [decide_eq_false hb, if_neg (by decide)]
      have e : nn w = w / 8 := by unfold nn; rw [if_neg (fun x => hb x.2)]
      rw [e] at key; exact key
  · rw [if_neg k1, if_neg (by decide)]
    have e : nn w = w / 8 := by unfold nn; rw [if_neg (fun x => k1 x.1)]
    rw [e] at key; exact key
end
section
variable {a : List Int} (ha : a.length ≤ 4000) (hu : U64 a)
include ha hu
omit ha in
theorem fnd_parts {x : Nat} {w : Int} {o : Ob} (h : fnd a x w = some o) : U64 o.Parts := by
  unfold fnd at h
  split at h
  · cases h
  · split at h
    · cases h
    · unfold fin at h
      split at h
      · cases h
        intro y hy
        unfold obj rst at hy
        exact hu y (List.mem_of_mem_drop (List.mem_of_mem_drop (List.mem_of_mem_take hy)))
      · cases h
end
def bl (a : List Int) (ks : List Int) : List Int := (List.range a.length).map fun (i : Nat) => if (i : Int) ∈ ks then 1 else if (i : Int) - 1 ∈ ks then 0 else a.getD i 0
theorem bl_len (a ks : List Int) : (bl a ks).length = a.length := by simp [bl]
theorem bl_get {a ks : List Int} {i : Nat} (h : i < (bl a ks).length) : (bl a ks)[i] = if (i : Int) ∈ ks then 1 else if (i : Int) - 1 ∈ ks then 0 else a.getD i 0 := by simp [bl]
theorem bl_nil (a : List Int) : bl a [] = a := by
  apply List.ext_getElem (bl_len a [])
  intro i h1 h2
  rw [bl_get h1]
  simp [h2]
theorem bl_congr {a ks ks' : List Int} (h : ∀ k, k ∈ ks ↔ k ∈ ks') : bl a ks = bl a ks' := by
  unfold bl
  refine List.map_congr_left fun i _ => ?_
  simp only [h]
def Good (a : List Int) (k : Int) : Prop := 0 ≤ k ∧ k + 1 < a.length ∧ a.getD k.toNat 0 = 1048581 ∧ rd (a.getD (k.toNat + 1) 0) ≠ none
theorem rd_cell : rd 1048581 = none := by decide
theorem no_over {a : List Int} {k : Int} (h : Good a k) (h' : Good a (k + 1)) : False := by
  have e : (k + 1).toNat = k.toNat + 1 := by have := h.1; omega
  have := h'.2.2.1
  rw [e] at this
  exact h.2.2.2 (by rw [this]; exact rd_cell)
theorem bl_set {a ks : List Int} {n : Nat} (hn : n + 1 < a.length) (h : ((n : Int) + 1) ∉ ks) : (bl a ks).take n ++ [1, 0] ++ (bl a ks).drop (n + 2) = bl a ((n : Int) :: ks) := by
  have hl := bl_len a ks
  apply List.ext_getElem
  · simp [bl_len]; omega
  intro i h1 h2
  rw [bl_get h2]
  rw [bl_len] at h2
  rcases Nat.lt_trichotomy i n with c | c | c
  · rw [List.getElem_append_left (by simp; omega), List.getElem_append_left (by simp; omega), List.getElem_take, bl_get]
    have e1 : ((i : Int) ∈ (n : Int) :: ks) ↔ (i : Int) ∈ ks := by rw [List.mem_cons]; exact ⟨fun h => h.resolve_left (by omega), .inr⟩
    have e2 : ((i : Int) - 1 ∈ (n : Int) :: ks) ↔ (i : Int) - 1 ∈ ks := by rw [List.mem_cons]; exact ⟨fun h => h.resolve_left (by omega), .inr⟩
    simp only [e1, e2]
  · subst c
    rw [List.getElem_append_left (by simp; omega), List.getElem_append_right (by simp; omega)]
    simp [hl, Nat.min_eq_left (Nat.le_of_lt h2)]
  · by_cases c2 : i = n + 1
    · subst c2
      rw [List.getElem_append_left (by simp; omega), List.getElem_append_right (by simp; omega)]
      have e1 : ¬ (((n + 1 : Nat) : Int) ∈ (n : Int) :: ks) := by
        rw [List.mem_cons]; push_cast
        rintro (h' | h')
        · omega
        · exact h h'
      have e2 : ((n + 1 : Nat) : Int) - 1 ∈ (n : Int) :: ks := by rw [List.mem_cons]; left; omega
      rw [if_neg e1, if_pos e2]
      have : min n a.length = n := Nat.min_eq_left (by omega)
      simp [hl, this]
    · rw [List.getElem_append_right (by simp; omega), List.getElem_drop, bl_get]
      have e0 : n + 2 + (i - ((bl a ks).take n ++ [1, 0]).length) = i := by simp [hl]; omega
      rw [e0]
      have e1 : ((i : Int) ∈ (n : Int) :: ks) ↔ (i : Int) ∈ ks := by rw [List.mem_cons]; exact ⟨fun h => h.resolve_left (by omega), .inr⟩
      have e2 : ((i : Int) - 1 ∈ (n : Int) :: ks) ↔ (i : Int) - 1 ∈ ks := by rw [List.mem_cons]; exact ⟨fun h => h.resolve_left (by omega), .inr⟩
      simp only [e1, e2]
theorem keys_set {es : List (Int × Bool)} {n : Int} {v : Bool} {k : Int} : k ∈ (pset es n v).map Prod.fst ↔ k = n ∨ k ∈ es.map Prod.fst := by
  induction es with
  | nil => simp [pset]
  | cons x es ih =>
    unfold pset
    by_cases c : n = x.1
    · rw [if_pos c, List.map_cons, List.map_cons, List.mem_cons, List.mem_cons, ← c]
      exact ⟨fun h => h.elim .inl (fun h => .inr (.inr h)), fun h => h.elim .inl (fun h => h)⟩
    · rw [if_neg c, List.map_cons, List.map_cons, List.mem_cons, List.mem_cons, ih]
      exact ⟨fun h => h.elim (fun h => .inr (.inl h)) (fun h => h.elim .inl (fun h => .inr (.inr h))), fun h => h.elim (fun h => .inr (.inl h)) (fun h => h.elim .inl (fun h => .inr (.inr h)))⟩
theorem pgd_put (es : List (Int × Int)) (n v z : Int) : pgd (pset es n v) n z = v := by
  unfold pgd
  rw [pget_pset, if_pos rfl]; rfl
abbrev Cop := T_carry_copier
structure Inv (a h left : List Int) (C : List (Int × Bool)) : Prop where
  hl : h.length ≤ 4000
  lf : left = bl a (C.map Prod.fst)
  good : ∀ k ∈ C.map Prod.fst, Good a k
theorem fnd_spec {a : List Int} {x : Nat} {w : Int} {o : Ob} (h : fnd a x w = some o) : Okay o ∧ o.At = x ∧ ow o = (a.drop x).take (ow o).length := by
  unfold fnd at h
  split at h
  · cases h
  · split at h
    · cases h
    · unfold fin at h
      split at h
      · rename_i c; cases h; exact ⟨c.1, rfl, c.2⟩
      · cases h
theorem big_put : heap_Put ([] : List Int) (T_heap_Object.mk 0 1 0 (ByteArray.mk #[]) ([] : List Int)) = some ([1, 0], 0, 0) := by
  have okb : Okay (T_heap_Object.mk 0 1 0 (ByteArray.mk #[]) ([] : List Int)) := by
    refine ⟨by decide, by decide, by decide, by decide, fun _ => rfl, fun _ => rfl, fun c => ?_, fun c => ?_⟩
    · simp at c
    · simp at c
  rw [put_val (by simp), if_pos okb, if_pos (by decide)]
  rfl
theorem cell_ow {o : Ob} {p : Int} (hk : o.Kind = 5) (ht : o.Text = ByteArray.mk #[]) (hpp : o.Parts = [p]) : ow o = [1048581, p] := by
  have e1 : hd o = 1048581 := by unfold hd; rw [hk, ht, hpp]; show (5 : Int) + 256 * ((0 : Nat) : Int) + 1048576 * ((1 : Nat) : Int) = 1048581; decide
  have e2 : twd (nb o.Text) = [] := by rw [ht]; rfl
  have e3 : big o.Kind = false := by rw [hk]; rfl
  unfold ow
  rw [e1, e2, e3, hpp]
  rfl
def Both (a : List Int) (w : Int) (p : Option (Int × Int × Cop)) (q : Option (List Int × Int × Int × List (Int × Int) × List (Int × Bool))) : Prop :=
  ∃ x e c r, p = some (x, e, c) ∧ q = some r ∧ r.2.2.1 = e ∧ (e = 0 → c.from_ = a ∧ r.1 = c.to_ ∧ r.2.1 = x ∧ r.2.2.2.1 = c.moved_ ∧ Inv a c.to_ c.left_ r.2.2.2.2 ∧ rd w ≠ none)
section
variable {a : List Int} (ha : a.length ≤ 4000) (hu : U64 a)
include ha hu
theorem put_both {w : Int} {n : Nat} {o : Ob} {h left : List Int} {M : List (Int × Int)} {C : List (Int × Bool)} {ws : List Int} (hw : rd w ≠ none) (hn : n < a.length) (hf : fnd a n (a[n]?.getD 0) = some o) (hws : ws.length = o.Parts.length) (hr : ∀ p ∈ o.Parts, rd p ≠ none) (I : Inv a h left C) (deep : Int) :
    Both a w ((carry_copier_put (T_carry_copier.mk a left h M) (T_heap_Object.mk o.At o.Kind o.Num o.Text ws)).bind fun y86 => some (y86.1, y86.2.1, (T_carry_copier.mk y86.2.2.from_ y86.2.2.left_ y86.2.2.to_ y86.2.2.moved_)))
      (roadref3_Carried.l0 a h deep M C (n : Int) o ws o.Parts (((List.length o.Parts) : Nat) : Int) (((List.length o.Parts) : Nat) : Int)) := by
  obtain ⟨ok, hat, how⟩ := fnd_spec hf
  have ok' : Okay (T_heap_Object.mk o.At o.Kind o.Num o.Text ws) := by
    obtain ⟨k1, k2, k3, k4, k5, k6, k7, k8⟩ := ok
    exact ⟨k1, by rw [hws]; exact k2, k3, k4, fun c => List.eq_nil_of_length_eq_zero (by rw [hws, k5 c]; rfl), k6, k7, fun c => by rw [hws]; exact k8 c⟩
  have hsz := okay_size ok'
  have hlo := ow_len (T_heap_Object.mk o.At o.Kind o.Num o.Text ws)
  have hhl := I.hl
  have hps : o.Parts.length ≤ 400 := ok.2.1
  rw [roadref3_Carried.l0_eq, if_neg (by omega), words_val ok', Option.bind_some]
  unfold carry_copier_put
  simp only
  simp only at hlo hsz
  rw [put_val (by omega), if_pos ok', hlo]
  simp only
  rw [wrap_in (by omega) (by omega)]
  by_cases hfull : h.length + rm o.Kind o.Text.size ws.length ≤ 4000
  · rw [if_pos hfull, Option.bind_some]
    simp only
    rw [if_pos trivial, if_neg (show ¬ ((h.length : Int) + (rm o.Kind o.Text.size ws.length : Nat) > 4000) by omega)]
    have hfit : Fits 4 (h.length : Int) := .inr (.inr (.inr ⟨.inr rfl, by omega, by omega⟩))
    -- what stands at the end of both
    have fin : ∀ (left' : List Int) (C' : List (Int × Bool)), Inv a (h ++ ow (T_heap_Object.mk o.At o.Kind o.Num o.Text ws)) left' C' →
        Both a w ((carry_copier_put.j0 a left' (h ++ ow (T_heap_Object.mk o.At o.Kind o.Num o.Text ws)) M (T_heap_Object.mk o.At o.Kind o.Num o.Text ws) (h.length : Int)).bind fun y86 => some (y86.1, y86.2.1, (T_carry_copier.mk y86.2.2.from_ y86.2.2.left_ y86.2.2.to_ y86.2.2.moved_)))
          (roadref3_Carried.j0 h M (n : Int) (ow (T_heap_Object.mk o.At o.Kind o.Num o.Text ws)) C') := by
      intro left' C' I'
      unfold carry_copier_put.j0 roadref3_Carried.j0
      rw [word_val, if_pos hfit, Option.bind_some, Option.bind_some, Option.bind_some, tagWord_val (by decide) (by decide), Option.bind_some, Option.bind_some, ap_nil (by omega), Option.bind_some, ap_of (by rw [hlo]; omega), Option.bind_some]
      refine ⟨_, _, _, _, rfl, rfl, rfl, fun _ => ⟨rfl, rfl, ?_, ?_, I', hw⟩⟩
      · show pgd (pset M (n : Int) (wd 4 (h.length : Int))) (n : Int) 0 = _
        rw [pgd_put]
      · show pset M (n : Int) _ = pset M o.At _
        rw [hat]
    have grown : (h ++ ow (T_heap_Object.mk o.At o.Kind o.Num o.Text ws)).length ≤ 4000 := by rw [List.length_append, hlo]; exact hfull
    by_cases hk : o.Kind = 5
    · rw [if_pos hk, if_pos hk]
      have h1 : o.Parts.length ≤ 1 := ok.2.2.2.2.2.2.2 hk
      unfold roadref3_Carried.j1 carry_copier_put.j1
      by_cases hp : ws.length = 1
      · rw [if_pos (by simp only [beq_iff_eq]; omega), if_pos (decide_eq_true (by omega))]
        -- a cell that has something
        have ht : o.Text = ByteArray.mk #[] := ok.2.2.2.2.2.1 ⟨by omega, by omega⟩
        obtain ⟨p, hpp⟩ : ∃ p, o.Parts = [p] := by
          match hh : o.Parts, (show o.Parts.length = 1 by omega) with
          | [p], _ => exact ⟨p, rfl⟩
        have how2 : ow o = [1048581, p] := cell_ow hk ht hpp
        rw [how2] at how
        have hlen2 : n + 1 < a.length := by
          have := congrArg List.length how
          simp only [List.length_cons, List.length_nil, List.length_take, List.length_drop] at this
          omega
        have hd0 : a.drop n = a[n] :: a[n + 1] :: a.drop (n + 2) := by rw [List.drop_eq_getElem_cons (by omega), List.drop_eq_getElem_cons (by omega)]
        rw [hd0] at how
        simp only [List.length_cons, List.length_nil, List.take_succ_cons, List.take_zero, List.cons.injEq, and_true] at how
        have good : Good a (n : Int) := by
          refine ⟨by omega, by omega, ?_, ?_⟩
          · simp only [Int.toNat_natCast]
            rw [List.getD_eq_getElem?_getD, List.getElem?_eq_getElem (by omega)]
            exact how.1.symm
          · simp only [Int.toNat_natCast]
            rw [List.getD_eq_getElem?_getD, List.getElem?_eq_getElem (by omega)]
            show rd a[n + 1] ≠ none
            rw [← how.2]
            exact hr p (by rw [hpp]; exact List.mem_singleton_self p)
        have hbig : heap_Put ([] : List Int) (T_heap_Object.mk 0 1 0 (ByteArray.mk #[]) ([] : List Int)) = some ([1, 0], 0, 0) := big_put
        have hll : left.length = a.length := by rw [I.lf, bl_len]
        rw [hbig, Option.bind_some, Option.bind_some]
        simp only
        rw [hat, sls_drop (k := n) rfl (by omega), Option.bind_some]
        have hcp : cpyL left (Int.toNat (n : Int)) (List.length (left.drop n)) [1, 0] = bl a ((n : Int) :: C.map Prod.fst) := by
          have e1 : List.length (left.drop n) = left.length - n := List.length_drop
          unfold cpyL
          have e3 : List.take (left.length - n) [(1 : Int), 0] = [1, 0] := List.take_of_length_le (by simp only [List.length_cons, List.length_nil]; omega)
          have e4 : min [(1 : Int), 0].length (left.length - n) = 2 := by simp only [List.length_cons, List.length_nil]; omega
          rw [e1, e3, Int.toNat_natCast]
          try rw [e4]
          rw [I.lf]
          exact bl_set hlen2 fun hm => no_over good (I.good _ hm)
        rw [hcp]
        rw [hat] at fin grown
        refine fin _ _ ⟨grown, ?_, fun k hk => ?_⟩
        · exact bl_congr fun k => by rw [List.mem_cons, keys_set]
        · rcases keys_set.1 hk with rfl | hk
          · exact good
          · exact I.good k hk
      · rw [if_neg (by simp only [beq_iff_eq]; omega), if_neg (by rw [decide_eq_true_eq]; omega)]
        exact fin _ _ ⟨grown, I.lf, I.good⟩
    · rw [if_neg hk, if_neg hk]
      unfold roadref3_Carried.j1 carry_copier_put.j1
      rw [if_neg (by decide), if_neg (by decide)]
      exact fin _ _ ⟨grown, I.lf, I.good⟩
  · rw [if_neg hfull, Option.bind_some]
    simp only
    rw [if_neg (by decide : ¬ (6 : Int) = 0), if_pos (show ((h.length : Int) + (rm o.Kind o.Text.size ws.length : Nat) > 4000) by omega)]
    exact ⟨_, _, _, _, rfl, rfl, rfl, fun h => by cases h⟩
end
section
variable {a : List Int} (ha : a.length ≤ 4000) (hu : U64 a)
include ha hu
theorem parts_both {n : Nat} (hn40 : n < 40) (ih : ∀ (w : Int) (h left : List Int) (M : List (Int × Int)) (C : List (Int × Bool)), 0 ≤ w → w ≤ 18446744073709551615 → Inv a h left C → Both a w (carry_copier_word (T_carry_copier.mk a left h M) w (n : Int)) (roadref3_Carried a h w (41 - (n : Int)) M C))
    {w : Int} (hw : rd w ≠ none) {x : Nat} (hx : x < a.length) {o : Ob} (hf : fnd a x (a[x]?.getD 0) = some o) :
    ∀ (d i : Nat) (ws h left : List Int) (M : List (Int × Int)) (C : List (Int × Bool)), o.Parts.length - i = d → i ≤ o.Parts.length → ws.length = i → (∀ p ∈ o.Parts.take i, rd p ≠ none) → Inv a h left C →
    Both a w (carry_copier_word.l0 a left h M (((n + 1 : Nat)) : Int) o.At o.Kind o.Num o.Text (ws ++ o.Parts.drop i) (((List.length o.Parts) : Nat) : Int) (i : Int))
      (roadref3_Carried.l0 a h (40 - (n : Int)) M C (x : Int) o ws o.Parts (((List.length o.Parts) : Nat) : Int) (i : Int)) := by
  have hpl : o.Parts.length ≤ 400 := (fnd_spec hf).1.2.1
  intro d
  induction d with
  | zero =>
    intro i ws h left M C hd hi hws hr I
    have hi' : i = o.Parts.length := by omega
    subst hi'
    rw [carry_copier_word.l0_eq, if_neg (by omega), List.drop_length, List.append_nil]
    rw [List.take_length] at hr
    exact put_both ha hu hw hx hf hws hr I _
  | succ d ihd =>
    intro i ws h left M C hd hi hws hr I
    have hlt : i < o.Parts.length := by omega
    have hp := fnd_parts hu hf o.Parts[i] (List.getElem_mem hlt)
    have hg : gi (ws ++ o.Parts.drop i) (i : Int) = some o.Parts[i] := by
      refine gi_some rfl ?_
      rw [List.getElem?_append_right (by omega), hws, Nat.sub_self, List.getElem?_drop, Nat.add_zero]
      exact List.getElem?_eq_getElem hlt
    obtain ⟨y, e, c, r, h1, h2, h3, h4⟩ := ih o.Parts[i] h left M C hp.1 hp.2 I
    rw [carry_copier_word.l0_eq, if_pos (by omega), hg, Option.bind_some, wrap_in (by omega) (by omega), show (((n + 1 : Nat)) : Int) - 1 = (n : Int) by omega, h1, Option.bind_some]
    rw [roadref3_Carried.l0_eq, if_pos (by omega), gi_at hlt, wrap_in (n := 40 - (n : Int) + 1) (by omega) (by omega), show 40 - (n : Int) + 1 = 41 - (n : Int) by omega]
    simp only [Option.bind_some, h2]
    rw [carry_copier_word.j2_eq, h3]
    by_cases he : e = 0
    · obtain ⟨c1, c2, c3, c4, I', c6⟩ := h4 he
      rw [if_pos he, if_pos he, ap_one (by omega), Option.bind_some, w_succ (by omega), c1, c4]
      have hset : List.set (ws ++ o.Parts.drop i) (Int.toNat (i : Int)) y = (ws ++ [r.2.1]) ++ o.Parts.drop (i + 1) := by
        rw [Int.toNat_natCast, List.set_append_right _ _ (by omega), hws, Nat.sub_self, List.drop_eq_getElem_cons hlt, List.set_cons_zero, List.append_assoc, c3]; rfl
      rw [hset, c2]
      have := ihd (i + 1) (ws ++ [r.2.1]) c.to_ c.left_ c.moved_ r.2.2.2.2 (by omega) hlt (by simp [hws]) (fun p hp => by
        rw [List.take_succ_eq_append_getElem hlt] at hp
        rcases List.mem_append.1 hp with hp | hp
        · exact hr p hp
        · rw [List.mem_singleton] at hp; subst hp; exact c6) I'
      exact this
    · rw [if_neg he, if_neg he]
      exact ⟨_, _, _, _, rfl, rfl, rfl, fun h => absurd h he⟩
theorem sim : ∀ (n : Nat), n ≤ 40 → ∀ (w : Int) (h left : List Int) (M : List (Int × Int)) (C : List (Int × Bool)), 0 ≤ w → w ≤ 18446744073709551615 → Inv a h left C → Both a w (carry_copier_word (T_carry_copier.mk a left h M) w (n : Int)) (roadref3_Carried a h w (41 - (n : Int)) M C) := by
  intro n
  induction n with
  | zero =>
    intro _ w h left M C h0 h1 I
    rw [carry_copier_word_eq, tread_val h0 h1, roadref3_Carried_eq, tagRead_val h0 h1, Option.bind_some, Option.bind_some]
    rcases hr : rd w with _ | ⟨k, x⟩
    · simp only
      rw [if_neg (by decide), carry_copier_word.j1_eq, if_pos rfl, if_neg (by decide)]
      exact ⟨_, _, _, _, rfl, rfl, rfl, fun h => by cases h⟩
    · simp only
      rw [if_pos trivial, carry_copier_word.j1_eq, if_pos trivial]
      by_cases hk : k = 4
      · subst hk
        rw [if_neg (by decide), if_pos rfl, carry_copier_word.j0_eq]
        by_cases hs : (Option.isSome (pget M x)) = true
        · rw [if_pos hs, if_pos hs]
          exact ⟨_, _, _, _, rfl, rfl, rfl, fun _ => ⟨rfl, rfl, rfl, rfl, I, by rw [hr]; simp⟩⟩
        · rw [if_neg hs, if_neg hs, if_pos (by decide), if_pos (by decide)]
          exact ⟨_, _, _, _, rfl, rfl, rfl, fun h => by cases h⟩
      · rw [if_pos (by simp [hk]), if_neg hk]
        exact ⟨_, _, _, _, rfl, rfl, rfl, fun _ => ⟨rfl, rfl, rfl, rfl, I, by rw [hr]; simp⟩⟩
  | succ n ih =>
    intro hn w h left M C h0 h1 I
    rw [carry_copier_word_eq, tread_val h0 h1, roadref3_Carried_eq, tagRead_val h0 h1, Option.bind_some, Option.bind_some]
    rcases hr : rd w with _ | ⟨k, x⟩
    · simp only
      rw [if_neg (by decide), carry_copier_word.j1_eq, if_pos rfl, if_neg (by decide)]
      exact ⟨_, _, _, _, rfl, rfl, rfl, fun h => by cases h⟩
    · simp only
      rw [if_pos trivial, carry_copier_word.j1_eq, if_pos trivial]
      by_cases hk : k = 4
      · subst hk
        rw [if_neg (by decide), if_pos rfl, carry_copier_word.j0_eq]
        by_cases hs : (Option.isSome (pget M x)) = true
        · rw [if_pos hs, if_pos hs]
          exact ⟨_, _, _, _, rfl, rfl, rfl, fun _ => ⟨rfl, rfl, rfl, rfl, I, by rw [hr]; simp⟩⟩
        · rw [if_neg hs, if_neg hs, if_neg (by omega), if_neg (by omega)]
          have hx0 : 0 ≤ x := by
            have := rd_fits hr
            unfold Fits at this
            omega
          obtain ⟨xn, rfl⟩ : ∃ xn : Nat, x = (xn : Int) := ⟨x.toNat, by omega⟩
          by_cases hx : (xn : Int) ≥ (a.length : Int)
          · rw [if_pos hx, at_val (by omega) hu, if_neg (by omega), Option.bind_some, if_neg (by decide)]
            exact ⟨_, _, _, _, rfl, rfl, rfl, fun h => by cases h⟩
          · rw [if_neg hx, at_val (by omega) hu, ref_val (by omega) hu, if_pos (by omega), if_pos (by omega), Option.bind_some, Option.bind_some, Int.toNat_natCast]
            rcases hf : fnd a xn (a[xn]?.getD 0) with _ | o
            · exact ⟨0, 3, T_carry_copier.mk a left h M, ([], 0, 3, M, C), rfl, rfl, rfl, fun h => by cases h⟩
            · simp only [res, ref]
              rw [if_pos trivial, if_pos trivial]
              have := parts_both ha hu (n := n) (by omega) (ih (by omega)) (w := w) (by rw [hr]; simp) (x := xn) (by omega) hf o.Parts.length 0 [] h left M C (by omega) (by omega) rfl (by simp) I
              rw [show 41 - ((n + 1 : Nat) : Int) = 40 - (n : Int) by omega]
              exact this
      · rw [if_pos (by simp [hk]), if_neg hk]
        exact ⟨_, _, _, _, rfl, rfl, rfl, fun _ => ⟨rfl, rfl, rfl, rfl, I, by rw [hr]; simp⟩⟩
end
theorem same_loop (l : List Int) (hl : l.length ≤ 1000000) : ∀ (d i : Nat), l.length - i = d → i ≤ l.length → roadref3_SameWords.l0 l l (l.length : Int) (i : Int) = some true := by
  intro d
  induction d with
  | zero => intro i hd hi; rw [roadref3_SameWords.l0_eq, if_neg (by omega)]
  | succ d ih =>
    intro i hd hi
    rw [roadref3_SameWords.l0_eq, if_pos (by omega), gi_at (by omega), Option.bind_some, Option.bind_some, if_pos rfl, w_succ (by omega)]
    exact ih (i + 1) (by omega) (by omega)
theorem same_val (l : List Int) (hl : l.length ≤ 1000000) : roadref3_SameWords l l = some true := by
  unfold roadref3_SameWords
  rw [if_pos rfl]
  exact same_loop l hl l.length 0 (by omega) (by omega)
theorem set_two {l : List Int} {n : Nat} (hn : n + 1 < l.length) : (l.set n 1).set (n + 1) 0 = l.take n ++ [1, 0] ++ l.drop (n + 2) := by
  apply List.ext_getElem
  · simp; omega
  intro i h1 h2
  rw [List.getElem_set, List.getElem_set]
  rcases Nat.lt_trichotomy i n with c | c | c
  · rw [if_neg (by omega), if_neg (by omega), List.getElem_append_left (by simp; omega), List.getElem_append_left (by simp; omega), List.getElem_take]
  · subst c
    rw [if_neg (by omega), if_pos rfl, List.getElem_append_left (by simp; omega), List.getElem_append_right (by simp; omega)]
    have : min i l.length = i := by omega
    simp [this]
  · by_cases c2 : i = n + 1
    · subst c2
      rw [if_pos rfl, List.getElem_append_left (by simp; omega), List.getElem_append_right (by simp; omega)]
      have : min n l.length = n := by omega
      simp [this]
    · rw [if_neg (by omega), if_neg (by omega), List.getElem_append_right (by simp; omega), List.getElem_drop]
      have e0 : n + 2 + (i - (l.take n ++ [1, 0]).length) = i := by simp; omega
      simp only [e0]
theorem keys_erase {L : List (Int × Bool)} {j : Nat} {c : Int × Bool} (hj : L[j]? = some c) (k : Int) : k ∈ L.map Prod.fst ↔ k = c.1 ∨ k ∈ (L.eraseIdx j).map Prod.fst := by
  induction L generalizing j with
  | nil => simp at hj
  | cons x L ih =>
    cases j with
    | zero =>
      simp only [List.getElem?_cons_zero, Option.some.injEq] at hj
      subst hj
      rw [List.map_cons, List.mem_cons, List.eraseIdx_cons_zero]
    | succ j =>
      rw [List.getElem?_cons_succ] at hj
      rw [List.map_cons, List.mem_cons, ih hj, List.eraseIdx_cons_succ, List.map_cons, List.mem_cons]
      constructor
      · rintro (h | h | h)
        · exact .inr (.inl h)
        · exact .inl h
        · exact .inr (.inr h)
      · rintro (h | h | h)
        · exact .inr (.inl h)
        · exact .inl h
        · exact .inr (.inr h)
section
variable {a : List Int} (ha : a.length ≤ 4000)
include ha
theorem loop_val {lf to : List Int} {w : Int} {C C0 : List (Int × Bool)} (hto : to.length ≤ 4000) (hlf : lf = bl a (C.map Prod.fst)) (hg : ∀ k ∈ C.map Prod.fst, Good a k) :
    ∀ (n : Nat) (L : List (Int × Bool)) (D : List Int), L.length = n → (∀ k, (k ∈ D ∨ k ∈ L.map Prod.fst) ↔ k ∈ C.map Prod.fst) → roadlaw3_CarryTells.l0 lf to w 0 to w (bl a D) C0 L = some true := by
  intro n
  induction n with
  | zero =>
    intro L D hL hD
    have : L = [] := List.eq_nil_of_length_eq_zero hL
    subst this
    rw [roadlaw3_CarryTells.l0_eq, pick_nil]
    have : bl a D = lf := by
      rw [hlf]
      exact bl_congr fun k => by rw [← hD k]; simp
    rw [this, same_val lf (by rw [hlf, bl_len]; omega), Option.bind_some, if_pos rfl, same_val to (by omega), Option.bind_some, if_pos rfl, if_pos rfl]
    rfl
  | succ n ih =>
    intro L D hL hD
    rw [roadlaw3_CarryTells.l0_eq]
    refine pick_all (by intro h; rw [h] at hL; cases hL) fun j c hj => ?_
    have hk := keys_erase hj
    have gd : Good a c.1 := hg _ ((hD _).1 (.inr ((hk c.1).2 (.inl rfl))))
    obtain ⟨m, hm⟩ : ∃ m : Nat, c.1 = (m : Int) := ⟨c.1.toNat, by have := gd.1; omega⟩
    have hlt : m + 1 < a.length := by have := gd.2.1; omega
    have nin : ((m : Int) + 1) ∉ D := fun h => no_over (hm ▸ gd) (hg _ ((hD _).1 (.inl h)))
    rw [hm, gi_at (by rw [bl_len]; omega), Option.bind_some, Option.bind_some, wrap_in (by omega) (by omega), show (m : Int) + 1 = ((m + 1 : Nat) : Int) by omega, gi_at (by rw [List.length_set, bl_len]; omega), Option.bind_some, Option.bind_some, Int.toNat_natCast, Int.toNat_natCast, set_two (by rw [bl_len]; omega), bl_set hlt nin]
    refine ih _ _ (by rw [List.length_eraseIdx, if_pos (List.getElem?_eq_some_iff.1 hj).1, hL]; rfl) fun k => ?_
    rw [← hD k, hk k, List.mem_cons, hm]
    constructor
    · rintro ((h | h) | h)
      · exact .inr (.inl h)
      · exact .inl h
      · exact .inr (.inr h)
    · rintro (h | h | h)
      · exact .inl (.inr h)
      · exact .inl (.inl h)
      · exact .inr h
end
theorem objs_len {a : List Int} {r : List Ob × Int} (h : heap_Objects a = some r) (h0 : r.2 = 0) : a.length ≤ 4000 := by
  unfold heap_Objects at h
  by_cases c : (((List.length a) : Nat) : Int) > 4000
  · rw [if_pos c] at h
    cases h
    exact absurd h0 (by decide)
  · omega
theorem law_err (a : List Int) (e : Int) (he : e ≠ 0) (b : List Int) (w : Int) (C : List (Int × Bool)) : roadlaw3_CarryTells.j1 a [] [] 0 e e b w C = some true := by
  unfold roadlaw3_CarryTells.j1
  rw [if_neg he, if_pos (by decide), if_pos rfl]
  simp
theorem CarryTells (a b : List Int) (x : Int) (ha : a.length * 8 ≤ 140737488351232 ∧ ∀ y ∈ a, 0 ≤ y ∧ y ≤ 18446744073709551615) (hb : b.length * 8 ≤ 140737488351232 ∧ ∀ y ∈ b, 0 ≤ y ∧ y ≤ 18446744073709551615) (hx : 0 ≤ x ∧ x ≤ 18446744073709551615) : roadlaw3_CarryTells a b x = some true := by
  obtain ⟨ra, p1, p2, p3⟩ := objs_val ha.1 ha.2
  obtain ⟨rb, q1, q2, q3⟩ := objs_val hb.1 hb.2
  have g0 : gi [a, b] (0 : Int) = some a := rfl
  have g1 : gi [a, b] (1 : Int) = some b := rfl
  unfold roadlaw3_CarryTells carry_Over
  rw [p2, carry_Over.l0_eq, if_pos (by decide), g0, Option.bind_some, p1, Option.bind_some]
  by_cases c : ra.2 = 0
  · rw [if_pos c, show IntKind.wrap .i64 ((0 : Int) + 1) = 1 from rfl, carry_Over.l0_eq, if_pos (by decide), g1, Option.bind_some, q1, Option.bind_some, q2]
    have ha4 := objs_len p1 c
    by_cases c' : rb.2 = 0
    · have hb4 := objs_len q1 c'
      rw [if_pos c', show IntKind.wrap .i64 ((1 : Int) + 1) = 2 from rfl, carry_Over.l0_eq, if_neg (by decide)]
      have ca : slices_Clone_42 a = some a := by unfold slices_Clone_42; exact ap_nil (by omega)
      have cb : slices_Clone_42 b = some b := by unfold slices_Clone_42; exact ap_nil (by omega)
      obtain ⟨y, e, k, r, h1, h2, h3, h4⟩ := sim ha4 ha.2 40 (by omega) x b a [] [] hx.1 hx.2 ⟨hb4, (bl_nil a).symm, by simp⟩
      rw [ca, Option.bind_some, cb, Option.bind_some]
      rw [show carry_copier_word (T_carry_copier.mk a a b []) x 40 = some (y, e, k) from h1, Option.bind_some]
      simp only
      have jj : ∀ (a7 a8 : List Int) (x9 x10 : Int), roadlaw3_CarryTells.j0 a b x a7 a8 x9 x10 rb.2 = roadlaw3_CarryTells.j1 a a7 a8 x9 x10 r.2.2.1 r.1 r.2.1 r.2.2.2.2 := by
        intro a7 a8 x9 x10
        unfold roadlaw3_CarryTells.j0
        rw [if_pos c', show roadref3_Carried a b x 1 [] [] = some r from h2, Option.bind_some]
      by_cases he : e = 0
      · obtain ⟨c1, c2, c3, c4, I, c6⟩ := h4 he
        rw [if_pos he, Option.bind_some, Option.bind_some, if_pos c, Option.bind_some, jj, h3, he]
        unfold roadlaw3_CarryTells.j1
        rw [if_pos rfl, ca, Option.bind_some, c2, c3]
        have := loop_val ha4 (w := y) (C0 := r.2.2.2.2) I.hl I.lf I.good r.2.2.2.2.length r.2.2.2.2 [] rfl (by simp)
        rw [bl_nil] at this
        exact this
      · rw [if_neg he, Option.bind_some, Option.bind_some, if_pos c, Option.bind_some, jj, h3]
        exact law_err _ _ he _ _ _
    · rw [if_neg c', Option.bind_some, Option.bind_some, if_pos c, Option.bind_some]
      unfold roadlaw3_CarryTells.j0
      rw [if_neg c']
      exact law_err _ _ c' _ _ _
  · rw [if_neg c, Option.bind_some, Option.bind_some, if_neg c]
    unfold roadlaw3_CarryTells.j0
    rw [if_neg c]
    exact law_err _ _ c _ _ _
end Go.Proofs.Ytnlocljmalhddaa.Fw

end
section
namespace Go.Proofs.Ytnlocljmalhddaa.carryTells
open Go Go.Hw Go.ChangeShapes Go.WideShapes Go.ChangeAt Go.RowKit Go.Proofs.Ytnlocljmalhddaa.Fw
open Go.ChangeMaps (open_string shut_string)
set_option linter.unusedVariables false
theorem own : ownKnob Try.prog.godebug = none := by kernel_rfl
theorem laidOut : laidOutB Try.prog = true := by kernel_rfl
set_option maxRecDepth 100000 in
theorem lifted (os : Os) (started : os.Started) (H : Type) (enc : TypeId × Value → H) :
    ReturnsInHanded {} Try.checked os 6 .any (Rows.carryTellsSpec.pre6 enc Try.prog Try.f6 Rows.carryTellsRow.domain false) (Rows.carryTellsSpec.post enc Try.prog Try.f6 false true false false) := by
  refine returnsInHanded_of_change_sized (C := Try.checked) own started (by kernel_rfl) Try.func6
    (ChangeSpec.witness6 (enc := enc) (C := Try.checked) false ⟨#[], #[(.slice none 0 0), (.slice none 0 0), (.int .u64 (0 : Int))], []⟩ 8 (by kernel_rfl) (by kernel_rfl) (by kernel_rfl) (by kernel_rfl)) ?_
  intro W base args ds gs before hval0 hW hcnd hsz0 _
  have hsz : (DataW.weightsEach Try.prog (Try.f6.params.toList ++ Rows.carryTellsSpec.plain.varTypes Try.prog) (ds ++ gs)).all (· ≤ reachBytes) = true := hsz0
  have hval : ∀ (j : Nat) t v, Try.f6.params[j]? = some t → args[j]? = some v → Value.okWide Try.prog W .any base t v := hval0
  have hW' := hW
  obtain ⟨p, q, hA0, hV, rfl, hfz, hnd⟩ := hW
  have hA : DataW.TrodAll enc Try.prog W 0 (fun _ => true) true Try.f6.params.toList args.toList ds p := hA0
  rw [Try.params6] at hA hval hsz
  obtain ⟨v0, vs0, d0, ds0, p0, q0_, hargs, rfl, rfl, h0, r0_⟩ := trodAll_cons hA
  obtain ⟨v1, vs1, d1, ds1, p1, q1_, rfl, rfl, rfl, h1, r1_⟩ := trodAll_cons r0_
  obtain ⟨v2, vs2, d2, ds2, p2, q2_, rfl, rfl, rfl, h2, r2_⟩ := trodAll_cons r1_
  obtain ⟨rfl, rfl, rfl⟩ := trodAll_nil r2_
  obtain rfl : args = #[v0, v1, v2] := by cases args; simp_all
  obtain ⟨rfl, rfl⟩ := trodVars_none hV
  have hs : (DataW.weightsEach Try.prog [76, 76, 77] [d0, d1, d2]).all (· ≤ reachBytes) = true := hsz
  simp only [DataW.weightsEach, List.append_nil, List.all_append, Bool.and_eq_true] at hs
  obtain ⟨hw0, hw1, hw2⟩ := hs
  have k0 := h0
  have lt0 : ∀ x ∈ p0, x.block < W.heap.size := by obtain ⟨m, hm⟩ := k0; exact DataW.trod_lt m _ _ _ hm
  obtain ⟨A0, n0, c0, rfl⟩ := okWide_slice (show Try.prog.underlying 76 = some (.slice 77) by kernel_rfl) (hval 0 76 v0 rfl rfl)
  obtain ⟨fuel0, hf0⟩ := h0
  obtain ⟨l0, ⟨A0', c0', hcs0, hle0, r0⟩, q0⟩ := (tells_sliceL (t := 76) (e := 77) (sz := 1) (B := 8) (by kernel_rfl) (by kernel_rfl) (by kernel_rfl) (tells_u64 (t := 77) (by kernel_rfl))) fuel0 _ _ hf0 hw0
  simp only [Value.cells, List.cons.injEq, Value.slice.injEq, and_true] at hcs0
  obtain ⟨rfl, rfl, rfl⟩ := hcs0
  have k1 := h1
  have lt1 : ∀ x ∈ p1, x.block < W.heap.size := by obtain ⟨m, hm⟩ := k1; exact DataW.trod_lt m _ _ _ hm
  obtain ⟨A1, n1, c1, rfl⟩ := okWide_slice (show Try.prog.underlying 76 = some (.slice 77) by kernel_rfl) (hval 1 76 v1 rfl rfl)
  obtain ⟨fuel1, hf1⟩ := h1
  obtain ⟨l1, ⟨A1', c1', hcs1, hle1, r1⟩, q1⟩ := (tells_sliceL (t := 76) (e := 77) (sz := 1) (B := 8) (by kernel_rfl) (by kernel_rfl) (by kernel_rfl) (tells_u64 (t := 77) (by kernel_rfl))) fuel1 _ _ hf1 hw1
  simp only [Value.cells, List.cons.injEq, Value.slice.injEq, and_true] at hcs1
  obtain ⟨rfl, rfl, rfl⟩ := hcs1
  have k2 := h2
  have lt2 : ∀ x ∈ p2, x.block < W.heap.size := by obtain ⟨m, hm⟩ := k2; exact DataW.trod_lt m _ _ _ hm
  obtain ⟨a2, rfl, rfl, rfl, w2⟩ := open_int (show Try.prog.underlying 77 = some (.int .u64) by kernel_rfl) (hval 2 77 v2 rfl rfl) h2
  refine ((Run.mono (R' := fun v h' => v = Value.bool true ∧ Ext W.heap h') (Fw.roadlaw3_CarryTells.walk (W := No) (Hold.start (Sub.refl _)) rfl hle0 r0 rfl hle1 r1 (Fw.CarryTells l0 l1 a2 q0 q1 (wf_u64 w2))) (fun v h' hp => by obtain ⟨m', st, hv⟩ := hp; exact ⟨hv, st.S.ext⟩)) W rfl).mono fun e W' he => ?_
  obtain ⟨v, rfl, ⟨rfl, ext⟩, same⟩ := he
  have bel := below_of ext same
  exact ⟨_, rfl, _, _, _, [], _, [], hW', trodAll_mk1 (shut_bool (show Try.prog.underlying 4 = some .bool by kernel_rfl) _), (trodAll_cons_mk (Below.trod laidOut (by kernel_rfl) (of_decide_eq_true (by kernel_rfl)) k0 bel lt0) (trodAll_cons_mk (Below.trod laidOut (by kernel_rfl) (of_decide_eq_true (by kernel_rfl)) k1 bel lt1) (trodAll_cons_mk (Below.trod laidOut (by kernel_rfl) (of_decide_eq_true (by kernel_rfl)) k2 bel lt2) trodAll_mk0))), rfl, bel.frame _, fun h => by cases h⟩
theorem over : Rows.carryTellsRow.holds Try.pinned (OpenSpec.ofChange Rows.carryTellsSpec) :=
  OpenClaim.holds_of_wide 6 Try.f6 rfl rfl rfl rfl rfl rfl rfl ⟨rfl, rfl, rfl, rfl, rfl⟩ rfl rfl rfl rfl rfl (by kernel_rfl) Try.func6 (by kernel_rfl)
    (of_decide_eq_true (by kernel_rfl)) (by unfold Func.isWrapper; first | (rw [if_pos (by decide +kernel)]; kernel_rfl) | (rw [if_neg (by decide +kernel)]; exact ⟨rfl, rfl⟩))
    (fun os started H enc _ => lifted os started H enc)
end Go.Proofs.Ytnlocljmalhddaa.carryTells
namespace Go.Proofs.Ytnlocljmalhddaa
theorem carryTells_holds : Rows.CarryTellsSaid := carryTells.over
end Go.Proofs.Ytnlocljmalhddaa

end
