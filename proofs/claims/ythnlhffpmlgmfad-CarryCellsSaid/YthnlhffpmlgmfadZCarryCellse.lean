/- Part 5: what the law CarryCells needs, put together out of texts of this session. -/
import Derived.Test.YthnlhffpmlgmfadZCarryCellsd
section
namespace Go.Proofs.Ythnlhffpmlgmfad.Fw
open Go Go.Hw Go.Proofs
set_option linter.unusedVariables false
set_option synthInstance.maxHeartbeats 400000
set_option synthInstance.maxSize 1000
def slices_Sort_14.post (W : Nat → Prop) (Asl0 : Option Addr) (nsl0 csl0 : Nat) (h0 m0 : Heap) (r : (List Int)) (v : Value) (h : Heap) : Prop := ∃ m , Hold W h0 m0 h m [rR (aE (tell_int .i64)) Asl0 csl0 r] ∧ v = .tuple #[] ∧ nsl0 = List.length r
noncomputable def slices_Sort_14 (a_0 : List Int) : Option ((List Int)) :=
  Option.bind (math_bits_Len (IntKind.wrap .u64 (((List.length a_0) : Nat) : Int))) fun y1 => Option.bind (slices_pdqsortOrdered_78 a_0 (0 : Int) (((List.length a_0) : Nat) : Int) y1) fun y8 => some (y8)
set_option maxRecDepth 100000 in
theorem slices_Sort_14.walk {W : Nat → Prop} {h m : Heap} {A_0 : Option Addr} {n_0 c_0 : Nat} {a_0 : List Int} (O : Hold W h m h m [rR (aE (tell_int .i64)) A_0 c_0 a_0]) (ne_0 : n_0 = List.length a_0) {r : (List Int)} (e : slices_Sort_14 a_0 = some r) : Run Try.prog 14 #[Value.slice A_0 n_0 c_0] h (slices_Sort_14.post W A_0 n_0 c_0 h m r) := by
  unfold slices_Sort_14 at e
  subst ne_0
  refine f14.run ?_
  unfold f14.runT
  obtain ⟨y1, g2, e⟩ := bind_e e
  refine (math_bits_Len.walk (Hold.start (W := No) O.s)  g2).mono ?_
  rintro _ h3 ⟨m4, Q5, rfl⟩
  have O7 := Hold.nm (O.retC Q5 vfs_nil)
  refine ⟨_, rfl, ?_⟩
  obtain ⟨y8, g9, e⟩ := bind_e e
  obtain ⟨W14, P15, B16, C17⟩ := O7.callC [0]
  refine (slices_pdqsortOrdered_78.walk P15 rfl g9).mono ?_
  rintro _ h10 ⟨m11, Q12, rfl, hl18⟩
  have O19 := Hold.nm (C17 Q12 (vfs_cons (rR_vf (aE_vf (fun _ _ _ _ h => h))) vfs_nil))
  refine ⟨rfl, ?_⟩
  cases e
  exact ⟨_, O19.pick [1], rfl, hl18⟩
theorem slices_Sort_14.val (l : List Int) (hn : l.length ≤ 1000000000000000000) : ∃ r, slices_Sort_14 l = some r ∧ r.Perm l ∧ r.Pairwise (· ≤ ·) := by
  have hl : ∀ x y : Int, cmp_Less_127 x y = some (decide (x < y)) := fun x y => by unfold cmp_Less_127 cmp_isNaN_160; rw [Option.bind_some, if_neg (by simp)]
  have hlen : ∀ x : Nat, x < 18446744073709551616 → ∃ k : Nat, math_bits_Len (x : Int) = some (k : Int) ∧ k ≤ 64 ∧ (1 ≤ x → 2 ^ k ≤ 2 * x) := by
    intro x hx
    obtain ⟨k, k1, k2⟩ := len_val (F := math_bits_Len64) (j0 := math_bits_Len64.j0) (j1 := math_bits_Len64.j1) (j2 := math_bits_Len64.j2) (fun x => rfl) (fun x n => rfl) (fun x n => rfl) (fun x n => rfl) x hx
    exact ⟨k, by unfold math_bits_Len; rw [k1, Option.bind_some], k2⟩
  have hu : ∀ x : Nat, x ≤ 1000000000000000000 → IntKind.wrap .u64 (x : Int) = x := fun x h => u64_in' (by omega) (by omega)
  have P := pdq_val (lt := fun x y : Int => decide (x < y)) ord3_int hl (f := slices_pdqsortOrdered_78) (l0 := slices_pdqsortOrdered_78.l0) (j0 := slices_pdqsortOrdered_78.j0) (j1 := slices_pdqsortOrdered_78.j1) (j2 := slices_pdqsortOrdered_78.j2) (j3 := slices_pdqsortOrdered_78.j3) (j4 := slices_pdqsortOrdered_78.j4) (j5 := slices_pdqsortOrdered_78.j5)
    (ins := slices_insertionSortOrdered_121) (heap := slices_heapSortOrdered_122) (brk := slices_breakPatternsOrdered_123) (rev := slices_reverseRangeOrdered_125) (cho := slices_choosePivotOrdered_124) (pi := slices_partialInsertionSortOrdered_126) (pe := slices_partitionEqualOrdered_128) (pt := slices_partitionOrdered_129)
    (fun {a b l} h1 h2 h3 => by
      unfold slices_insertionSortOrdered_121
      by_cases c : a = b
      · subst c
        exact ⟨l, .refl, fun i j _ _ k1 k2 k3 => by omega, by rw [w_succ (by omega), slices_insertionSortOrdered_121.l0_eq, if_neg (by omega)]⟩
      · rw [w_succ (by omega)]
        exact insertion_val ord3_int hl (f0 := slices_insertionSortOrdered_121.l0) (f1 := slices_insertionSortOrdered_121.l1) (fun l a b i => slices_insertionSortOrdered_121.l0_eq l a b i) (fun l a b i j => by rw [slices_insertionSortOrdered_121.l1_eq]; simp only [slices_insertionSortOrdered_121.j1_eq, slices_insertionSortOrdered_121.j0_eq]) (b - (a + 1)) (a + 1) l (by omega) (by omega) h1 (by omega) (fun i j _ _ k1 k2 k3 => by omega))
    (fun {a b l} h1 h2 h3 => heapSort_val ord3_int hl (f := slices_siftDownOrdered_155.l0) (J1 := slices_siftDownOrdered_155.j1) (J0 := slices_siftDownOrdered_155.j0) (fun l hi a x => slices_siftDownOrdered_155.l0_eq l hi a x) (fun l hi a x c b => slices_siftDownOrdered_155.j1_eq l hi a x c b) (fun l hi a x c => slices_siftDownOrdered_155.j0_eq l hi a x c) (G := slices_siftDownOrdered_155) (H := slices_heapSortOrdered_122) (f0 := slices_heapSortOrdered_122.l0) (f1 := slices_heapSortOrdered_122.l1) (fun l lo hi a => rfl) (fun l a lo hi i => slices_heapSortOrdered_122.l0_eq l a lo hi i) (fun l a lo i => slices_heapSortOrdered_122.l1_eq l a lo i) (fun l a b => rfl) h1 h2 h3)
    (fun {a b l} h1 h2 h3 => by
      obtain ⟨n, rfl⟩ : ∃ n, b = a + n := ⟨b - a, by omega⟩
      unfold slices_breakPatternsOrdered_123
      have w1 : IntKind.wrap .i64 (((a + n : Nat) : Int) - (a : Int)) = (n : Int) := by rw [wrap_in (by omega) (by omega)]; omega
      have w2 : Int.tdiv (n : Int) 4 = ((n / 4 : Nat) : Int) := by rw [Int.tdiv_eq_ediv_of_nonneg (by omega)]; omega
      rw [w1, if_pos (by omega)]
      unfold slices_nextPowerOfTwo
      obtain ⟨k, k1, k2, k3⟩ := hlen n (by omega)
      have k4 := k3 (by omega)
      rw [hu n (by omega), k1, Option.bind_some, if_pos (by omega), Option.bind_some, shl_one (by omega), w2, wrap_in (n := ((n / 4 : Nat) : Int)) (by omega) (by omega), wrap_in (n := ((n / 4 : Nat) : Int) * 2) (by omega) (by omega), wrap_in (n := (a : Int) + ((n / 4 : Nat) : Int) * 2) (by omega) (by omega), wrap_in (by omega) (by omega), show (a : Int) + ((n / 4 : Nat) : Int) * 2 - 1 = ((a + n / 4 * 2 - 1 : Nat) : Int) by omega]
      exact brk_val (F := slices_breakPatternsOrdered_123.l0) (J := slices_breakPatternsOrdered_123.j1) (nx := slices_xorshift_Next) (fun y => ⟨_, rfl⟩) (fun l a n y m i => slices_breakPatternsOrdered_123.l0_eq l a n y m i) (fun l a n y m i o => by rw [slices_breakPatternsOrdered_123.j1_eq]; simp only [slices_breakPatternsOrdered_123.j0_eq]) (Nat.one_le_two_pow) k4 (by omega) 3 (a + n / 4 * 2 - 1) l _ (by omega) (by omega) (by omega) (by omega))
    (fun {a b l} h1 h2 h3 => by
      unfold slices_reverseRangeOrdered_125
      rw [wrap_in (by omega) (by omega), show (b : Int) - 1 = ((b - 1 : Nat) : Int) by omega]
      exact rev_val (f := slices_reverseRangeOrdered_125.l0) (fun l x y => slices_reverseRangeOrdered_125.l0_eq l x y) b a (b - 1) l (by omega) (Nat.le_refl _) (by omega) h2 h3)
    (fun {a b l} h1 h2 h3 => choose_val hl (o := slices_order2Ordered_184) (fun l x1 x2 y3 => rfl) (md := slices_medianOrdered_159) (fun l x1 x2 x3 y4 => rfl) (ma := slices_medianAdjacentOrdered_158) (fun l x y => rfl) (j0 := slices_choosePivotOrdered_124.j0) (fun y x => rfl) (j1 := slices_choosePivotOrdered_124.j1) (fun l y x1 x2 x3 => rfl) (ch := slices_choosePivotOrdered_124) (fun l a b => rfl) h1 h2 h3)
    (fun {a b l} h1 h2 h3 h4 => pins_val ord3_int hl (l0 := slices_partialInsertionSortOrdered_126.l0) (l1 := slices_partialInsertionSortOrdered_126.l1) (l2 := slices_partialInsertionSortOrdered_126.l2) (l3 := slices_partialInsertionSortOrdered_126.l3) (j0 := slices_partialInsertionSortOrdered_126.j0) (j1 := slices_partialInsertionSortOrdered_126.j1) (j2 := slices_partialInsertionSortOrdered_126.j2) (j3 := slices_partialInsertionSortOrdered_126.j3) (P := slices_partialInsertionSortOrdered_126)
      (fun l a b i s => slices_partialInsertionSortOrdered_126.l0_eq l a b i s) (fun l a b i s => slices_partialInsertionSortOrdered_126.l1_eq l a b i s) (fun l a b i s => slices_partialInsertionSortOrdered_126.j2_eq l a b i s) (fun l a b i s => slices_partialInsertionSortOrdered_126.j1_eq l a b i s) (fun l a b i s j => slices_partialInsertionSortOrdered_126.l2_eq l a b i s j) (fun l a b i s => slices_partialInsertionSortOrdered_126.j3_eq l a b i s) (fun l a b i s j => slices_partialInsertionSortOrdered_126.l3_eq l a b i s j) (fun l a b i s => slices_partialInsertionSortOrdered_126.j0_eq l a b i s) (fun l a b => rfl) h1 h2 h3 h4)
    (fun {a b p l} h1 h2 h3 h4 => parte_val ord3_int hl (l0 := slices_partitionEqualOrdered_128.l0) (l1 := slices_partitionEqualOrdered_128.l1) (l2 := slices_partitionEqualOrdered_128.l2) (j0 := slices_partitionEqualOrdered_128.j0) (j1 := slices_partitionEqualOrdered_128.j1) (j2 := slices_partitionEqualOrdered_128.j2) (j3 := slices_partitionEqualOrdered_128.j3) (P := slices_partitionEqualOrdered_128)
      (fun l a b p => rfl) (fun l a i j => slices_partitionEqualOrdered_128.l0_eq l a i j) (fun l a i j => slices_partitionEqualOrdered_128.l1_eq l a i j) (fun l a i j => slices_partitionEqualOrdered_128.j2_eq l a i j) (fun l a i j => slices_partitionEqualOrdered_128.j0_eq l a i j) (fun l a i j => slices_partitionEqualOrdered_128.l2_eq l a i j) (fun l a i j => slices_partitionEqualOrdered_128.j3_eq l a i j) (fun l a i j => slices_partitionEqualOrdered_128.j1_eq l a i j) h1 h2 h3 h4)
    (fun {a b p l} h1 h2 h3 h4 => part_val ord3_int hl (k0 := slices_partitionOrdered_129.l0) (kj2 := slices_partitionOrdered_129.j2) (kj0 := slices_partitionOrdered_129.j0) (k1 := slices_partitionOrdered_129.l1) (kj3 := slices_partitionOrdered_129.j3) (J1 := slices_partitionOrdered_129.j1) (l2 := slices_partitionOrdered_129.l2) (l3 := slices_partitionOrdered_129.l3) (j7 := slices_partitionOrdered_129.j7) (j5 := slices_partitionOrdered_129.j5) (l4 := slices_partitionOrdered_129.l4) (j8 := slices_partitionOrdered_129.j8) (j6 := slices_partitionOrdered_129.j6) (j4 := slices_partitionOrdered_129.j4) (P := slices_partitionOrdered_129)
      (fun l a b p => rfl) (fun l a i j => slices_partitionOrdered_129.l0_eq l a i j) (fun l a i j => slices_partitionOrdered_129.j2_eq l a i j) (fun l a i j => rfl) (fun l a i j => slices_partitionOrdered_129.l1_eq l a i j) (fun l a i j => slices_partitionOrdered_129.j3_eq l a i j) (fun l a i j => rfl) (fun l a i j => slices_partitionOrdered_129.l2_eq l a i j) (fun l a i j => slices_partitionOrdered_129.l3_eq l a i j) (fun l a i j => slices_partitionOrdered_129.j7_eq l a i j) (fun l a i j => slices_partitionOrdered_129.j5_eq l a i j) (fun l a i j => slices_partitionOrdered_129.l4_eq l a i j) (fun l a i j => slices_partitionOrdered_129.j8_eq l a i j) (fun l a i j => slices_partitionOrdered_129.j6_eq l a i j) (fun l a j => rfl) h1 h2 h3 h4)
    (fun l a b lim => slices_pdqsortOrdered_78_eq l a b lim) (fun l a b lim b8 b9 => slices_pdqsortOrdered_78.l0_eq l a b lim b8 b9) (fun l a b lim b8 b9 n => slices_pdqsortOrdered_78.j0_eq l a b lim b8 b9 n) (fun l a b lim b8 b9 n p h => slices_pdqsortOrdered_78.j1_eq l a b lim b8 b9 n p h) (fun l a b lim b8 b9 n p c => slices_pdqsortOrdered_78.j3_eq l a b lim b8 b9 n p c) (fun l a b lim b8 b9 n p => slices_pdqsortOrdered_78.j2_eq l a b lim b8 b9 n p) (fun l a b lim b8 b9 n p c => slices_pdqsortOrdered_78.j5_eq l a b lim b8 b9 n p c) (fun l a b lim n p => slices_pdqsortOrdered_78.j4_eq l a b lim n p)
  obtain ⟨k, k1, _⟩ := hlen l.length (by omega)
  obtain ⟨r, t1, t2, t3⟩ := P l.length 0 l.length l (k : Int) true true (by omega) (by omega) (Nat.le_refl _) hn (fun i h0 hi h => by omega)
  refine ⟨r, ?_, t1.1, Srt.all (by rw [t1.len]; exact t2)⟩
  unfold slices_Sort_14
  rw [hu _ hn, k1, Option.bind_some, slices_pdqsortOrdered_78_eq]
  rw [show (0 : Int) = ((0 : Nat) : Int) from rfl, t3, Option.bind_some]
def heap_room.post (W : Nat → Prop) (h0 m0 : Heap) (r : Int) (v : Value) (h : Heap) : Prop := ∃ m , Hold W h0 m0 h m [] ∧ v = .int .i64 r
noncomputable def heap_room.j0 (x_7 : Int) (b_19 : Bool) : Option (Int) :=
  if b_19 = true then (some ((IntKind.wrap .i64 (x_7 + (1 : Int))))) else (some (x_7))
set_option maxRecDepth 100000 in
theorem heap_room.j0.walk {W : Nat → Prop} {h0 m0 h m : Heap} {x_7 : Int} {b_19 : Bool} (O : Hold W h0 m0 h m []) {r : Int} (e : heap_room.j0 x_7 b_19 = some r) : f132.j0 (heap_room.post W h0 m0 r) x_7 b_19 h := by
  unfold heap_room.j0 at e
  refine f132.j0_in ?_
  unfold f132.j0T
  refine split_any_e e (fun c1 e => ?_) (fun c1 e => ?_)
  · cases e
    exact ⟨_, O.pick [], rfl⟩
  · cases e
    exact ⟨_, O.pick [], rfl⟩
noncomputable def heap_room (x_0 : Int) (x_1 : Int) (x_2 : Int) : Option (Int) :=
  if x_0 = (1 : Int) then ((heap_room.j0 (IntKind.wrap .i64 ((IntKind.wrap .i64 ((1 : Int) + (IntKind.wrap .i64 (Int.tdiv (IntKind.wrap .i64 (x_1 + (7 : Int))) (8 : Int))))) + x_2)) true)) else ((heap_room.j0 (IntKind.wrap .i64 ((IntKind.wrap .i64 ((1 : Int) + (IntKind.wrap .i64 (Int.tdiv (IntKind.wrap .i64 (x_1 + (7 : Int))) (8 : Int))))) + x_2)) (x_0 == (4 : Int))))
set_option maxRecDepth 100000 in
theorem heap_room.walk {W : Nat → Prop} {h m : Heap} {x_0 : Int} {x_1 : Int} {x_2 : Int} (O : Hold W h m h m []) {r : Int} (e : heap_room x_0 x_1 x_2 = some r) : Run Try.prog 132 #[Value.int .i64 x_0, Value.int .i64 x_1, Value.int .i64 x_2] h (heap_room.post W h m r) := by
  unfold heap_room at e
  refine f132.run ?_
  unfold f132.runT
  refine ⟨by decide, ?_⟩
  refine split_eq_e e (fun c1 e => ?_) (fun c1 e => ?_)
  · exact heap_room.j0.walk (O.pick []).nm  e
  · exact heap_room.j0.walk (O.pick []).nm  e
def heap_right.post (W : Nat → Prop) (h0 m0 : Heap) (r : Bool) (v : Value) (h : Heap) : Prop := ∃ m , Hold W h0 m0 h m [] ∧ v = .bool r
noncomputable def heap_right.j0 (y_1 : T_heap_Object) : Option (Bool) :=
  if y_1.Kind = (5 : Int) then (some ((decide ((((List.length y_1.Parts) : Nat) : Int) ≤ (1 : Int))))) else (some (true))
set_option maxRecDepth 100000 in
theorem heap_right.j0.walk {W : Nat → Prop} {h0 m0 h m : Heap} {bk_1 : Nat} {cs_1 : List Value} {y_1 : T_heap_Object} (O : Hold W h0 m0 h m [rV bk_1 63 cs_1]) (e_1 : T_heap_Object.E m y_1 cs_1) {r : Bool} (e : heap_right.j0 y_1 = some r) : f162.j0 (heap_right.post W h0 m0 r) (⟨bk_1, 0, none⟩ : Addr) h := by
  unfold heap_right.j0 at e
  refine f162.j0_in ?_
  unfold f162.j0T
  refine ⟨_, ldk (k := 1) (Sub.refl _) (O.all 0 rfl) (T_heap_Object.g1 e_1), _, rfl, ?_⟩
  refine split_ne_e e (fun c6 e => ?_) (fun c6 e => ?_)
  · cases e
    exact ⟨_, O.pick [], rfl⟩
  · obtain ⟨A1, c2, q3, k4, r5⟩ := T_heap_Object.g4 e_1
    refine ⟨_, ldk (k := 4) (Sub.refl _) (O.all 0 rfl) q3, _, _, _, rfl, ?_⟩
    cases e
    exact ⟨_, O.pick [], rfl⟩
noncomputable def heap_right.j3 (y_1 : T_heap_Object) (b_24 : Bool) : Option (Bool) :=
  if b_24 = true then (if b_24 = true then (some (false)) else ((heap_right.j0 y_1))) else (if y_1.Kind = (1 : Int) then ((heap_right.j0 y_1)) else (if y_1.Kind = (4 : Int) then ((heap_right.j0 y_1)) else (if y_1.Num = (0 : Int) then ((heap_right.j0 y_1)) else (some (false)))))
set_option maxRecDepth 100000 in
theorem heap_right.j3.walk {W : Nat → Prop} {h0 m0 h m : Heap} {bk_1 : Nat} {cs_1 : List Value} {y_1 : T_heap_Object} {b_24 : Bool} (O : Hold W h0 m0 h m [rV bk_1 63 cs_1]) (e_1 : T_heap_Object.E m y_1 cs_1) {r : Bool} (e : heap_right.j3 y_1 b_24 = some r) : f162.j3 (heap_right.post W h0 m0 r) (⟨bk_1, 0, none⟩ : Addr) b_24 h := by
  unfold heap_right.j3 at e
  refine f162.j3_in ?_
  unfold f162.j3T
  refine split_any_e e (fun c5 e => ?_) (fun c5 e => ?_)
  · refine split_any_e e (fun c1 e => ?_) (fun c1 e => ?_)
    · cases e
      exact ⟨_, O.pick [], rfl⟩
    · exact heap_right.j0.walk (O.pick [0]).nm e_1 e
  · refine ⟨_, ldk (k := 1) (Sub.refl _) (O.all 0 rfl) (T_heap_Object.g1 e_1), _, rfl, ?_⟩
    refine split_ne_e e (fun c4 e => ?_) (fun c4 e => ?_)
    · refine ⟨_, ldk (k := 1) (Sub.refl _) (O.all 0 rfl) (T_heap_Object.g1 e_1), _, rfl, ?_⟩
      refine split_ne_e e (fun c3 e => ?_) (fun c3 e => ?_)
      · refine ⟨_, ldk (k := 2) (Sub.refl _) (O.all 0 rfl) (T_heap_Object.g2 e_1), _, rfl, ?_⟩
        refine split_ne_e e (fun c2 e => ?_) (fun c2 e => ?_)
        · cases e
          exact ⟨_, O.pick [], rfl⟩
        · exact heap_right.j0.walk (O.pick [0]).nm e_1 e
      · exact heap_right.j0.walk (O.pick [0]).nm e_1 e
    · exact heap_right.j0.walk (O.pick [0]).nm e_1 e
noncomputable def heap_right.j2 (y_1 : T_heap_Object) (b_24 : Bool) : Option (Bool) :=
  if b_24 = true then (if b_24 = true then (some (false)) else ((heap_right.j0 y_1))) else (if y_1.Kind = (2 : Int) then ((heap_right.j3 y_1 false)) else (if y_1.Kind = (3 : Int) then ((heap_right.j3 y_1 false)) else ((heap_right.j3 y_1 (!(decide (y_1.Text = (ByteArray.mk #[]))))))))
set_option maxRecDepth 100000 in
theorem heap_right.j2.walk {W : Nat → Prop} {h0 m0 h m : Heap} {bk_1 : Nat} {cs_1 : List Value} {y_1 : T_heap_Object} {b_24 : Bool} (O : Hold W h0 m0 h m [rV bk_1 63 cs_1]) (e_1 : T_heap_Object.E m y_1 cs_1) {r : Bool} (e : heap_right.j2 y_1 b_24 = some r) : f162.j2 (heap_right.post W h0 m0 r) (⟨bk_1, 0, none⟩ : Addr) b_24 h := by
  unfold heap_right.j2 at e
  refine f162.j2_in ?_
  unfold f162.j2T
  refine split_any_e e (fun c4 e => ?_) (fun c4 e => ?_)
  · refine split_any_e e (fun c1 e => ?_) (fun c1 e => ?_)
    · cases e
      exact ⟨_, O.pick [], rfl⟩
    · exact heap_right.j0.walk (O.pick [0]).nm e_1 e
  · refine ⟨_, ldk (k := 1) (Sub.refl _) (O.all 0 rfl) (T_heap_Object.g1 e_1), _, rfl, ?_⟩
    refine split_ne_e e (fun c3 e => ?_) (fun c3 e => ?_)
    · refine ⟨_, ldk (k := 1) (Sub.refl _) (O.all 0 rfl) (T_heap_Object.g1 e_1), _, rfl, ?_⟩
      refine split_ne_e e (fun c2 e => ?_) (fun c2 e => ?_)
      · refine ⟨_, ldk (k := 3) (Sub.refl _) (O.all 0 rfl) (T_heap_Object.g3 e_1), _, rfl, ?_⟩
        try rw [ba_list y_1.Text (ByteArray.mk #[])]
        exact heap_right.j3.walk (O.pick [0]).nm e_1 e
      · exact heap_right.j3.walk (O.pick [0]).nm e_1 e
    · exact heap_right.j3.walk (O.pick [0]).nm e_1 e
noncomputable def heap_right.j1 (y_1 : T_heap_Object) (b_3 : Bool) : Option (Bool) :=
  if b_3 = true then (some (false)) else (if y_1.Kind = (1 : Int) then ((heap_right.j2 y_1 (decide ((((List.length y_1.Parts) : Nat) : Int) > (0 : Int))))) else (if y_1.Kind = (2 : Int) then ((heap_right.j2 y_1 (decide ((((List.length y_1.Parts) : Nat) : Int) > (0 : Int))))) else ((heap_right.j2 y_1 false))))
set_option maxRecDepth 100000 in
theorem heap_right.j1.walk {W : Nat → Prop} {h0 m0 h m : Heap} {bk_1 : Nat} {cs_1 : List Value} {y_1 : T_heap_Object} {b_3 : Bool} (O : Hold W h0 m0 h m [rV bk_1 63 cs_1]) (e_1 : T_heap_Object.E m y_1 cs_1) {r : Bool} (e : heap_right.j1 y_1 b_3 = some r) : f162.j1 (heap_right.post W h0 m0 r) (⟨bk_1, 0, none⟩ : Addr) b_3 h := by
  unfold heap_right.j1 at e
  refine f162.j1_in ?_
  unfold f162.j1T
  refine split_any_e e (fun c13 e => ?_) (fun c13 e => ?_)
  · cases e
    exact ⟨_, O.pick [], rfl⟩
  · refine ⟨_, ldk (k := 1) (Sub.refl _) (O.all 0 rfl) (T_heap_Object.g1 e_1), _, rfl, ?_⟩
    refine split_eq_e e (fun c12 e => ?_) (fun c12 e => ?_)
    · obtain ⟨A1, c2, q3, k4, r5⟩ := T_heap_Object.g4 e_1
      refine ⟨_, ldk (k := 4) (Sub.refl _) (O.all 0 rfl) q3, _, _, _, rfl, ?_⟩
      exact heap_right.j2.walk (O.pick [0]).nm e_1 e
    · refine ⟨_, ldk (k := 1) (Sub.refl _) (O.all 0 rfl) (T_heap_Object.g1 e_1), _, rfl, ?_⟩
      refine split_eq_e e (fun c11 e => ?_) (fun c11 e => ?_)
      · obtain ⟨A6, c7, q8, k9, r10⟩ := T_heap_Object.g4 e_1
        refine ⟨_, ldk (k := 4) (Sub.refl _) (O.all 0 rfl) q8, _, _, _, rfl, ?_⟩
        exact heap_right.j2.walk (O.pick [0]).nm e_1 e
      · exact heap_right.j2.walk (O.pick [0]).nm e_1 e
noncomputable def heap_right (y_0 : T_heap_Object) : Option (Bool) :=
  if ((ByteArray.size y_0.Text : Nat) : Int) > (64 : Int) then ((heap_right.j1 y_0 true)) else (if (((List.length y_0.Parts) : Nat) : Int) > (400 : Int) then ((heap_right.j1 y_0 true)) else (if y_0.Kind < (1 : Int) then ((heap_right.j1 y_0 true)) else ((heap_right.j1 y_0 (decide (y_0.Kind > (5 : Int)))))))
set_option maxRecDepth 100000 in
theorem heap_right.walk {W : Nat → Prop} {h m : Heap} {cs_0 : List Value} {y_0 : T_heap_Object} (O : Hold W h m h m []) (e_0 : T_heap_Object.E m y_0 cs_0) {r : Bool} (e : heap_right y_0 = some r) : Run Try.prog 162 #[Value.agg cs_0.toArray] h (heap_right.post W h m r) := by
  unfold heap_right at e
  refine f162.run ?_
  unfold f162.runT
  refine O.new fun h1 x2 O3 => ?_
  refine ⟨_, ldk (k := 3) (Sub.refl _) (O3.all 0 rfl) (T_heap_Object.g3 e_0), _, rfl, ?_⟩
  refine split_dec_e e (fun c16 e => ?_) (fun c16 e => ?_)
  · have O5 := O3.nm
    exact heap_right.j1.walk (O5.pick [0]).nm e_0 e
  · obtain ⟨A6, c7, q8, k9, r10⟩ := T_heap_Object.g4 e_0
    refine ⟨_, ldk (k := 4) (Sub.refl _) (O3.all 0 rfl) q8, _, _, _, rfl, ?_⟩
    refine split_dec_e e (fun c15 e => ?_) (fun c15 e => ?_)
    · have O11 := O3.nm
      exact heap_right.j1.walk (O11.pick [0]).nm e_0 e
    · refine ⟨_, ldk (k := 1) (Sub.refl _) (O3.all 0 rfl) (T_heap_Object.g1 e_0), _, rfl, ?_⟩
      refine split_dec_e e (fun c14 e => ?_) (fun c14 e => ?_)
      · have O12 := O3.nm
        exact heap_right.j1.walk (O12.pick [0]).nm e_0 e
      · refine ⟨_, ldk (k := 1) (Sub.refl _) (O3.all 0 rfl) (T_heap_Object.g1 e_0), _, rfl, ?_⟩
        have O13 := O3.nm
        exact heap_right.j1.walk (O13.pick [0]).nm e_0 e
def slices_Clone_163.post (W : Nat → Prop) (h0 m0 : Heap) (r : (List Int)) (v : Value) (h : Heap) : Prop := ∃ m A0 n0 c0, Hold W h0 m0 h m [rR (aE (tell_int .u64)) A0 c0 r] ∧ v = .slice A0 n0 c0 ∧ n0 = List.length r
noncomputable def slices_Clone_163 (a0 : List Int) : Option (List Int) := ap 8 ([] : List Int) a0
set_option maxRecDepth 100000 in
theorem slices_Clone_163.walk {W : Nat → Prop} {h m : Heap} {A0 : Option Addr} {n0 c0 : Nat} {a0 : List Int} (O : Hold W h m h m []) (ne0 : n0 = List.length a0) (k0 : List.length a0 ≤ c0) (r0 : Rd 1 (eInt .u64) m A0 a0) {r : List Int} (e : slices_Clone_163 a0 = some r) : Run Try.prog 163 #[Value.slice A0 n0 c0] h (slices_Clone_163.post W h m r) := by
  unfold slices_Clone_163 at e
  subst ne0
  refine f163.run ?_
  unfold f163.runT
  cases A0 with
  | none =>
    refine split_t ?_
    obtain rfl := Rd.void r0
    obtain rfl : [] = r := by have := (ap_e e).2; simpa using this
    exact ⟨m, none, 0, 0, O.nil (aE (tell_int .u64)) none, rfl, rfl⟩
  | some a =>
    refine split_f ?_
    refine O.new fun h1 x1 O1 => ?_
    refine O1.appE0 (tell_int .u64) rfl rfl (r0.srcE (tell_int .u64) O1.s rfl) (by decide) e fun A4 c4 h4 x4 O4 => ?_
    refine ⟨_, _, _, rfl, ?_⟩
    exact ⟨m, _, _, _, O4.pick [1], rfl, rfl⟩
theorem slices_Clone_163.val (l : List Int) (h : l.length * 8 ≤ 140737488355328) : slices_Clone_163 l = some l := ap_nil h
def heap_head.post (W : Nat → Prop) (h0 m0 : Heap) (r : Int) (v : Value) (h : Heap) : Prop := ∃ m , Hold W h0 m0 h m [] ∧ v = .int .u64 r
noncomputable def heap_head (y_0 : T_heap_Object) : Option (Int) :=
  some ((bitsI .or .u64 (bitsI .or .u64 (IntKind.wrap .u64 y_0.Kind) (shlI .u64 (IntKind.wrap .u64 ((ByteArray.size y_0.Text : Nat) : Int)) (8 : Int))) (shlI .u64 (IntKind.wrap .u64 (((List.length y_0.Parts) : Nat) : Int)) (20 : Int))))
set_option maxRecDepth 100000 in
theorem heap_head.walk {W : Nat → Prop} {h m : Heap} {cs_0 : List Value} {y_0 : T_heap_Object} (O : Hold W h m h m []) (e_0 : T_heap_Object.E m y_0 cs_0) {r : Int} (e : heap_head y_0 = some r) : Run Try.prog 164 #[Value.agg cs_0.toArray] h (heap_head.post W h m r) := by
  unfold heap_head at e
  refine f164.run ?_
  unfold f164.runT
  refine O.new fun h1 x2 O3 => ?_
  refine ⟨_, ldk (k := 1) (Sub.refl _) (O3.all 0 rfl) (T_heap_Object.g1 e_0), _, rfl, ?_⟩
  refine ⟨_, ldk (k := 3) (Sub.refl _) (O3.all 0 rfl) (T_heap_Object.g3 e_0), _, rfl, ?_⟩
  refine ⟨by decide, ?_⟩
  obtain ⟨A5, c6, q7, k8, r9⟩ := T_heap_Object.g4 e_0
  refine ⟨_, ldk (k := 4) (Sub.refl _) (O3.all 0 rfl) q7, _, _, _, rfl, ?_⟩
  refine ⟨by decide, ?_⟩
  have O10 := O3.nm
  cases e
  exact ⟨_, O10.pick [], rfl⟩
def heap_Put.post (W : Nat → Prop) (h0 m0 : Heap) (r : (List Int) × Int × Int) (v : Value) (h : Heap) : Prop := ∃ m A0 n0 c0, Hold W h0 m0 h m [rR (aE (tell_int .u64)) A0 c0 r.1] ∧ v = .tuple #[.slice A0 n0 c0, .int .i64 r.2.1, .int .i64 r.2.2] ∧ n0 = List.length r.1
inductive heap_Put.l0_k.Pt where
  | l0 (a_0 : List Int) (y_3 : T_heap_Object) (a_7 : List Int) (x_8 : Int)
  | l1 (a_0 : List Int) (y_3 : T_heap_Object) (a_7 : List Int) (x_8 : Int) (x_9 : Int) (x_56 : Int)
noncomputable def heap_Put.l0_k.body (go : (p : heap_Put.l0_k.Pt) → Option ((List Int) × Int × Int)) : (p : heap_Put.l0_k.Pt) → Option ((List Int) × Int × Int)
  | .l0 a_0 y_3 a_7 x_8 => if x_8 < ((ByteArray.size y_3.Text : Nat) : Int) then ((go (.l1 a_0 y_3 a_7 x_8 (0 : Int) (0 : Int)))) else (Option.bind (ap 8 a_7 y_3.Parts) fun l6 => some (l6, (((List.length a_0) : Nat) : Int), (0 : Int)))
  | .l1 a_0 y_3 a_7 x_8 x_9 x_56 => if x_56 < (8 : Int) then (if (IntKind.wrap .i64 (x_8 + x_56)) < ((ByteArray.size y_3.Text : Nat) : Int) then (Option.bind (gb y_3.Text (IntKind.wrap .i64 (x_8 + x_56))) fun y1 => if 0 ≤ (IntKind.wrap .i64 ((8 : Int) * x_56)) then ((go (.l1 a_0 y_3 a_7 x_8 (bitsI .or .u64 x_9 (shlI .u64 (IntKind.wrap .u64 y1) (IntKind.wrap .i64 ((8 : Int) * x_56)))) (IntKind.wrap .i64 (x_56 + (1 : Int)))))) else none) else ((go (.l1 a_0 y_3 a_7 x_8 x_9 (IntKind.wrap .i64 (x_56 + (1 : Int))))))) else (Option.bind (ap 8 a_7 ([x_9] : List Int)) fun l13 => (go (.l0 a_0 y_3 l13 (IntKind.wrap .i64 (x_8 + (8 : Int))))))
theorem heap_Put.l0_k.mono : MonoF (β := fun _ => ((List Int) × Int × Int)) heap_Put.l0_k.body := fun f g hfg p => match p with
  | .l0 a_0 y_3 a_7 x_8 => LeO.ite ((hfg _)) (LeO.bind (LeO.refl _) fun l6 => LeO.refl _)
  | .l1 a_0 y_3 a_7 x_8 x_9 x_56 => LeO.ite (LeO.ite (LeO.bind (LeO.refl _) fun y1 => LeO.ite ((hfg _)) (LeO.refl _)) ((hfg _))) (LeO.bind (LeO.refl _) fun l13 => (hfg _))
noncomputable def heap_Put.l0_k.go (p : heap_Put.l0_k.Pt) : Option ((List Int) × Int × Int) := fixF (β := fun _ => ((List Int) × Int × Int)) heap_Put.l0_k.body p
noncomputable def heap_Put.l0 (a_0 : List Int) (y_3 : T_heap_Object) (a_7 : List Int) (x_8 : Int) : Option ((List Int) × Int × Int) := heap_Put.l0_k.go (.l0 a_0 y_3 a_7 x_8)
noncomputable def heap_Put.l1 (a_0 : List Int) (y_3 : T_heap_Object) (a_7 : List Int) (x_8 : Int) (x_9 : Int) (x_56 : Int) : Option ((List Int) × Int × Int) := heap_Put.l0_k.go (.l1 a_0 y_3 a_7 x_8 x_9 x_56)
theorem heap_Put.l0_eq (a_0 : List Int) (y_3 : T_heap_Object) (a_7 : List Int) (x_8 : Int) : heap_Put.l0 a_0 y_3 a_7 x_8 = if x_8 < ((ByteArray.size y_3.Text : Nat) : Int) then ((heap_Put.l1 a_0 y_3 a_7 x_8 (0 : Int) (0 : Int))) else (Option.bind (ap 8 a_7 y_3.Parts) fun l6 => some (l6, (((List.length a_0) : Nat) : Int), (0 : Int))) := fixF_eq heap_Put.l0_k.mono _
theorem heap_Put.l1_eq (a_0 : List Int) (y_3 : T_heap_Object) (a_7 : List Int) (x_8 : Int) (x_9 : Int) (x_56 : Int) : heap_Put.l1 a_0 y_3 a_7 x_8 x_9 x_56 = if x_56 < (8 : Int) then (if (IntKind.wrap .i64 (x_8 + x_56)) < ((ByteArray.size y_3.Text : Nat) : Int) then (Option.bind (gb y_3.Text (IntKind.wrap .i64 (x_8 + x_56))) fun y1 => if 0 ≤ (IntKind.wrap .i64 ((8 : Int) * x_56)) then ((heap_Put.l1 a_0 y_3 a_7 x_8 (bitsI .or .u64 x_9 (shlI .u64 (IntKind.wrap .u64 y1) (IntKind.wrap .i64 ((8 : Int) * x_56)))) (IntKind.wrap .i64 (x_56 + (1 : Int))))) else none) else ((heap_Put.l1 a_0 y_3 a_7 x_8 x_9 (IntKind.wrap .i64 (x_56 + (1 : Int)))))) else (Option.bind (ap 8 a_7 ([x_9] : List Int)) fun l13 => (heap_Put.l0 a_0 y_3 l13 (IntKind.wrap .i64 (x_8 + (8 : Int))))) := fixF_eq heap_Put.l0_k.mono _
def heap_Put.l0_k.I : (p : heap_Put.l0_k.Pt) → ((List Int) × Int × Int) → Prop
  | .l0 a_0 y_3 a_7 x_8, r => ∀ (W : Nat → Prop) (h0 m0 h m : Heap) (A_0 : Option Addr) (n_0 c_0 : Nat) (bk_3 : Nat) (cs_3 : List Value) (A_7 : Option Addr) (n_7 c_7 : Nat) (O : Hold W h0 m0 h m [rV bk_3 63 cs_3, rR (aE (tell_int .u64)) A_7 c_7 a_7]) (ne_0 : n_0 = List.length a_0) (k_0 : List.length a_0 ≤ c_0) (r_0 : Rd 1 (eInt .u64) m A_0 a_0) (e_3 : T_heap_Object.E m y_3 cs_3) (ne_7 : n_7 = List.length a_7), f134.l0 (heap_Put.post W h0 m0 r) A_0 n_0 c_0 (⟨bk_3, 0, none⟩ : Addr) A_7 n_7 c_7 x_8 h
  | .l1 a_0 y_3 a_7 x_8 x_9 x_56, r => ∀ (W : Nat → Prop) (h0 m0 h m : Heap) (A_0 : Option Addr) (n_0 c_0 : Nat) (bk_3 : Nat) (cs_3 : List Value) (A_7 : Option Addr) (n_7 c_7 : Nat) (O : Hold W h0 m0 h m [rV bk_3 63 cs_3, rR (aE (tell_int .u64)) A_7 c_7 a_7]) (ne_0 : n_0 = List.length a_0) (k_0 : List.length a_0 ≤ c_0) (r_0 : Rd 1 (eInt .u64) m A_0 a_0) (e_3 : T_heap_Object.E m y_3 cs_3) (ne_7 : n_7 = List.length a_7), f134.l1 (heap_Put.post W h0 m0 r) A_0 n_0 c_0 (⟨bk_3, 0, none⟩ : Addr) A_7 n_7 c_7 x_8 x_9 x_56 h
set_option maxRecDepth 100000 in
theorem heap_Put.l0_k.step_l0 (go : (p : heap_Put.l0_k.Pt) → Option ((List Int) × Int × Int)) (ih : ∀ p r, go p = some r → heap_Put.l0_k.I p r) (a_0 : List Int) (y_3 : T_heap_Object) (a_7 : List Int) (x_8 : Int) (r : (List Int) × Int × Int) (e : heap_Put.l0_k.body go (.l0 a_0 y_3 a_7 x_8) = some r) : heap_Put.l0_k.I (.l0 a_0 y_3 a_7 x_8) r := by
  unfold heap_Put.l0_k.body at e
  intro W h0 m0 h m A_0 n_0 c_0 bk_3 cs_3 A_7 n_7 c_7 O ne_0 k_0 r_0 e_3 ne_7
  subst ne_0
  subst ne_7
  refine f134.l0_in ?_
  unfold f134.l0T
  refine ⟨_, ldk (k := 3) (Sub.refl _) (O.all 0 rfl) (T_heap_Object.g3 e_3), _, rfl, ?_⟩
  refine split_dec_e e (fun c15 e => ?_) (fun c15 e => ?_)
  · exact (ih _ _ e) _ _ _ _ _ _ _ _ _ _ _ _ _ (O.pick [0, 1]).nm rfl k_0 r_0 e_3 rfl
  · obtain ⟨A1, c2, q3, k4, r5⟩ := T_heap_Object.g4 e_3
    refine ⟨_, ldk (k := 4) (Sub.refl _) (O.all 0 rfl) q3, _, _, _, rfl, ?_⟩
    obtain ⟨l6, g7, e⟩ := bind_e e
    refine O.app 1 rfl rfl rfl (Rd.srcE r5 (tell_int .u64) O.s rfl) (by decide) g7 fun A8 c9 h10 O11 => ?_
    refine ⟨_, _, _, rfl, ?_⟩
    have O14 := O11.nm
    cases e
    exact ⟨_, _, _, _, O14.pick [1], rfl, rfl⟩
set_option maxRecDepth 100000 in
theorem heap_Put.l0_k.step_l1 (go : (p : heap_Put.l0_k.Pt) → Option ((List Int) × Int × Int)) (ih : ∀ p r, go p = some r → heap_Put.l0_k.I p r) (a_0 : List Int) (y_3 : T_heap_Object) (a_7 : List Int) (x_8 : Int) (x_9 : Int) (x_56 : Int) (r : (List Int) × Int × Int) (e : heap_Put.l0_k.body go (.l1 a_0 y_3 a_7 x_8 x_9 x_56) = some r) : heap_Put.l0_k.I (.l1 a_0 y_3 a_7 x_8 x_9 x_56) r := by
  unfold heap_Put.l0_k.body at e
  intro W h0 m0 h m A_0 n_0 c_0 bk_3 cs_3 A_7 n_7 c_7 O ne_0 k_0 r_0 e_3 ne_7
  subst ne_0
  subst ne_7
  refine f134.l1_in ?_
  unfold f134.l1T
  refine split_dec_e e (fun c23 e => ?_) (fun c23 e => ?_)
  · refine ⟨_, ldk (k := 3) (Sub.refl _) (O.all 0 rfl) (T_heap_Object.g3 e_3), _, rfl, ?_⟩
    refine split_dec_e e (fun c8 e => ?_) (fun c8 e => ?_)
    · refine ⟨_, ldk (k := 3) (Sub.refl _) (O.all 0 rfl) (T_heap_Object.g3 e_3), _, rfl, ?_⟩
      obtain ⟨y1, g2, e⟩ := bind_e e
      obtain ⟨q3, b4, q5, q6⟩ := gb_e g2
      refine ⟨q3, _, q5, ?_⟩
      try rw [← q6]
      obtain ⟨g7, e⟩ := guard_e e
      refine ⟨g7, ?_⟩
      exact (ih _ _ e) _ _ _ _ _ _ _ _ _ _ _ _ _ (O.pick [0, 1]).nm rfl k_0 r_0 e_3 rfl
    · exact (ih _ _ e) _ _ _ _ _ _ _ _ _ _ _ _ _ (O.pick [0, 1]).nm rfl k_0 r_0 e_3 rfl
  · refine O.new fun h9 x10 O11 => ?_
    obtain ⟨l13, g14, e⟩ := bind_e e
    have O21 := O11.rowE (l := ([x_9] : List Int)) 2 rfl (tell_int .u64) (show CsE _ _ _ _ _ from (CsE.cons (c1 := [(Value.int .u64 x_9)]) rfl rfl CsE.nil)) rfl
    refine O21.app 1 rfl rfl rfl ((O21.os 2 rfl).srcE rfl) (by decide) g14 fun A15 c16 h17 O18 => ?_
    refine ⟨_, _, _, rfl, ?_⟩
    have O22 := O18.nm
    exact (ih _ _ e) _ _ _ _ _ _ _ _ _ _ _ _ _ (O22.pick [0, 1]).nm rfl k_0 r_0 e_3 rfl
theorem heap_Put.l0_k.all {p : heap_Put.l0_k.Pt} {r : ((List Int) × Int × Int)} (e : heap_Put.l0_k.go p = some r) : heap_Put.l0_k.I p r := fixF_ind (β := fun _ => ((List Int) × Int × Int)) heap_Put.l0_k.mono (I := heap_Put.l0_k.I) (fun go ih p r e => match p with
  | .l0 a_0 y_3 a_7 x_8 => heap_Put.l0_k.step_l0 go ih a_0 y_3 a_7 x_8 r e
  | .l1 a_0 y_3 a_7 x_8 x_9 x_56 => heap_Put.l0_k.step_l1 go ih a_0 y_3 a_7 x_8 x_9 x_56 r e
  ) e
theorem heap_Put.l0.walk {W : Nat → Prop} {h0 m0 h m : Heap} {A_0 : Option Addr} {n_0 c_0 : Nat} {bk_3 : Nat} {cs_3 : List Value} {A_7 : Option Addr} {n_7 c_7 : Nat} {a_0 : List Int} {y_3 : T_heap_Object} {a_7 : List Int} {x_8 : Int} (O : Hold W h0 m0 h m [rV bk_3 63 cs_3, rR (aE (tell_int .u64)) A_7 c_7 a_7]) (ne_0 : n_0 = List.length a_0) (k_0 : List.length a_0 ≤ c_0) (r_0 : Rd 1 (eInt .u64) m A_0 a_0) (e_3 : T_heap_Object.E m y_3 cs_3) (ne_7 : n_7 = List.length a_7) {r : (List Int) × Int × Int} (e : heap_Put.l0 a_0 y_3 a_7 x_8 = some r) : f134.l0 (heap_Put.post W h0 m0 r) A_0 n_0 c_0 (⟨bk_3, 0, none⟩ : Addr) A_7 n_7 c_7 x_8 h := heap_Put.l0_k.all (p := .l0 a_0 y_3 a_7 x_8) e W h0 m0 h m A_0 n_0 c_0 bk_3 cs_3 A_7 n_7 c_7 O ne_0 k_0 r_0 e_3 ne_7
noncomputable def heap_Put.j0 (a_0 : List Int) (y_3 : T_heap_Object) (a_7 : List Int) : Option ((List Int) × Int × Int) :=
  (heap_Put.l0 a_0 y_3 a_7 (0 : Int))
set_option maxRecDepth 100000 in
theorem heap_Put.j0.walk {W : Nat → Prop} {h0 m0 h m : Heap} {A_0 : Option Addr} {n_0 c_0 : Nat} {bk_3 : Nat} {cs_3 : List Value} {A_7 : Option Addr} {n_7 c_7 : Nat} {a_0 : List Int} {y_3 : T_heap_Object} {a_7 : List Int} (O : Hold W h0 m0 h m [rV bk_3 63 cs_3, rR (aE (tell_int .u64)) A_7 c_7 a_7]) (ne_0 : n_0 = List.length a_0) (k_0 : List.length a_0 ≤ c_0) (r_0 : Rd 1 (eInt .u64) m A_0 a_0) (e_3 : T_heap_Object.E m y_3 cs_3) (ne_7 : n_7 = List.length a_7) {r : (List Int) × Int × Int} (e : heap_Put.j0 a_0 y_3 a_7 = some r) : f134.j0 (heap_Put.post W h0 m0 r) A_0 n_0 c_0 (⟨bk_3, 0, none⟩ : Addr) A_7 n_7 c_7 h := by
  unfold heap_Put.j0 at e
  subst ne_0
  subst ne_7
  refine f134.j0_in ?_
  unfold f134.j0T
  exact heap_Put.l0.walk (O.pick [0, 1]).nm rfl k_0 r_0 e_3 rfl e
noncomputable def heap_Put.j1 (a_0 : List Int) (y_3 : T_heap_Object) (a_7 : List Int) (b_42 : Bool) : Option ((List Int) × Int × Int) :=
  if b_42 = true then (Option.bind (ap 8 a_7 ([(IntKind.wrap .u64 y_3.Num)] : List Int)) fun l5 => (heap_Put.j0 a_0 y_3 l5)) else ((heap_Put.j0 a_0 y_3 a_7))
set_option maxRecDepth 100000 in
theorem heap_Put.j1.walk {W : Nat → Prop} {h0 m0 h m : Heap} {A_0 : Option Addr} {n_0 c_0 : Nat} {bk_3 : Nat} {cs_3 : List Value} {A_7 : Option Addr} {n_7 c_7 : Nat} {a_0 : List Int} {y_3 : T_heap_Object} {a_7 : List Int} {b_42 : Bool} (O : Hold W h0 m0 h m [rV bk_3 63 cs_3, rR (aE (tell_int .u64)) A_7 c_7 a_7]) (ne_0 : n_0 = List.length a_0) (k_0 : List.length a_0 ≤ c_0) (r_0 : Rd 1 (eInt .u64) m A_0 a_0) (e_3 : T_heap_Object.E m y_3 cs_3) (ne_7 : n_7 = List.length a_7) {r : (List Int) × Int × Int} (e : heap_Put.j1 a_0 y_3 a_7 b_42 = some r) : f134.j1 (heap_Put.post W h0 m0 r) A_0 n_0 c_0 (⟨bk_3, 0, none⟩ : Addr) A_7 n_7 c_7 b_42 h := by
  unfold heap_Put.j1 at e
  subst ne_0
  subst ne_7
  refine f134.j1_in ?_
  unfold f134.j1T
  refine split_any_e e (fun c15 e => ?_) (fun c15 e => ?_)
  · refine ⟨_, ldk (k := 2) (Sub.refl _) (O.all 0 rfl) (T_heap_Object.g2 e_3), _, rfl, ?_⟩
    refine O.new fun h1 x2 O3 => ?_
    obtain ⟨l5, g6, e⟩ := bind_e e
    have O13 := O3.rowE (l := ([(IntKind.wrap .u64 y_3.Num)] : List Int)) 2 rfl (tell_int .u64) (show CsE _ _ _ _ _ from (CsE.cons (c1 := [(Value.int .u64 (IntKind.wrap .u64 y_3.Num))]) rfl rfl CsE.nil)) rfl
    refine O13.app 1 rfl rfl rfl ((O13.os 2 rfl).srcE rfl) (by decide) g6 fun A7 c8 h9 O10 => ?_
    refine ⟨_, _, _, rfl, ?_⟩
    have O14 := O10.nm
    exact heap_Put.j0.walk (O14.pick [0, 1]).nm rfl k_0 r_0 e_3 rfl e
  · exact heap_Put.j0.walk (O.pick [0, 1]).nm rfl k_0 r_0 e_3 rfl e
noncomputable def heap_Put (a_0 : List Int) (y_1 : T_heap_Object) : Option ((List Int) × Int × Int) :=
  Option.bind (heap_right y_1) fun y5 => if y5 = true then (Option.bind (heap_room y_1.Kind ((ByteArray.size y_1.Text : Nat) : Int) (((List.length y_1.Parts) : Nat) : Int)) fun y17 => if (((List.length a_0) : Nat) : Int) > (IntKind.wrap .i64 ((4000 : Int) - y17)) then (some (([] : List Int), (0 : Int), (6 : Int))) else (Option.bind (slices_Clone_163 a_0) fun y27 => Option.bind (heap_head y_1) fun y39 => Option.bind (ap 8 y27 ([y39] : List Int)) fun l50 => if y_1.Kind = (1 : Int) then ((heap_Put.j1 a_0 y_1 l50 true)) else ((heap_Put.j1 a_0 y_1 l50 (y_1.Kind == (4 : Int)))))) else (some (([] : List Int), (0 : Int), (1 : Int)))
set_option maxHeartbeats 4000000 in
set_option maxRecDepth 100000 in
theorem heap_Put.walk {W : Nat → Prop} {h m : Heap} {A_0 : Option Addr} {n_0 c_0 : Nat} {cs_1 : List Value} {a_0 : List Int} {y_1 : T_heap_Object} (O : Hold W h m h m []) (ne_0 : n_0 = List.length a_0) (k_0 : List.length a_0 ≤ c_0) (r_0 : Rd 1 (eInt .u64) m A_0 a_0) (e_1 : T_heap_Object.E m y_1 cs_1) {r : (List Int) × Int × Int} (e : heap_Put a_0 y_1 = some r) : Run Try.prog 134 #[Value.slice A_0 n_0 c_0, Value.agg cs_1.toArray] h (heap_Put.post W h m r) := by
  unfold heap_Put at e
  subst ne_0
  refine f134.run ?_
  unfold f134.runT
  refine O.new fun h1 x2 O3 => ?_
  refine ⟨_, ldAn (Sub.refl _) (O3.all 0 rfl) (T_heap_Object.T.len _ _ _ e_1), ?_⟩
  obtain ⟨y5, g6, e⟩ := bind_e e
  refine (heap_right.walk (Hold.start (W := No) O3.s) e_1 g6).mono ?_
  rintro _ h7 ⟨m8, Q9, rfl⟩
  have O11 := Hold.nm (O3.retC Q9 vfs_nil)
  refine ⟨_, rfl, ?_⟩
  refine split_not ?_
  refine split_any_e e (fun c66 e => ?_) (fun c66 e => ?_)
  · refine ⟨_, ldk (k := 1) (Sub.refl _) (O11.all 0 rfl) (T_heap_Object.g1 e_1), _, rfl, ?_⟩
    refine ⟨_, ldk (k := 3) (Sub.refl _) (O11.all 0 rfl) (T_heap_Object.g3 e_1), _, rfl, ?_⟩
    obtain ⟨A12, c13, q14, k15, r16⟩ := T_heap_Object.g4 e_1
    refine ⟨_, ldk (k := 4) (Sub.refl _) (O11.all 0 rfl) q14, _, _, _, rfl, ?_⟩
    obtain ⟨y17, g18, e⟩ := bind_e e
    refine (heap_room.walk (Hold.start (W := No) O11.s)  g18).mono ?_
    rintro _ h19 ⟨m20, Q21, rfl⟩
    have O23 := Hold.nm (O11.retC Q21 vfs_nil)
    refine ⟨_, rfl, ?_⟩
    refine split_dec_e e (fun c62 e => ?_) (fun c62 e => ?_)
    · have O24 := O23.nil (aE (tell_int .u64)) none
      have O26 := O24.nm
      cases e
      exact ⟨_, _, _, _, O26.pick [1], rfl, rfl⟩
    · refine ⟨_, ldAn (Sub.refl _) (O23.all 0 rfl) (T_heap_Object.T.len _ _ _ e_1), ?_⟩
      obtain ⟨y27, g28, e⟩ := bind_e e
      refine (slices_Clone_163.walk (Hold.start (W := No) O23.s) rfl k_0 r_0 g28).mono ?_
      rintro _ h29 ⟨m30, A33, n34, c35, Q31, rfl, ne36⟩
      have O38 := Hold.nm (O23.retC Q31 (vfs_cons (rR_vf (aE_vf (fun _ _ _ _ h => h))) vfs_nil))
      subst ne36
      refine ⟨_, _, _, rfl, ?_⟩
      refine ⟨Q31.S.ext, ?_⟩
      obtain ⟨y39, g40, e⟩ := bind_e e
      refine (heap_head.walk (Hold.start (W := No) O38.s) e_1 g40).mono ?_
      rintro _ h41 ⟨m42, Q43, rfl⟩
      have O45 := Hold.nm (O38.retC Q43 vfs_nil)
      refine ⟨_, rfl, ?_⟩
      refine O45.new fun h46 x47 O48 => ?_
      obtain ⟨l50, g51, e⟩ := bind_e e
      have O58 := O48.rowE (l := ([y39] : List Int)) 2 rfl (tell_int .u64) (show CsE _ _ _ _ _ from (CsE.cons (c1 := [(Value.int .u64 y39)]) rfl rfl CsE.nil)) rfl
      refine O58.app 1 rfl rfl rfl ((O58.os 2 rfl).srcE rfl) (by decide) g51 fun A52 c53 h54 O55 => ?_
      refine ⟨_, _, _, rfl, ?_⟩
      refine ⟨_, ldk (k := 1) (Sub.refl _) (O55.all 0 rfl) (T_heap_Object.g1 e_1), _, rfl, ?_⟩
      refine split_eq_e e (fun c61 e => ?_) (fun c61 e => ?_)
      · have O59 := O55.nm
        exact heap_Put.j1.walk (O59.pick [0, 1]).nm rfl k_0 r_0 e_1 rfl e
      · refine ⟨_, ldk (k := 1) (Sub.refl _) (O55.all 0 rfl) (T_heap_Object.g1 e_1), _, rfl, ?_⟩
        have O60 := O55.nm
        exact heap_Put.j1.walk (O60.pick [0, 1]).nm rfl k_0 r_0 e_1 rfl e
  · have O63 := O11.nil (aE (tell_int .u64)) none
    have O65 := O63.nm
    cases e
    exact ⟨_, _, _, _, O65.pick [1], rfl, rfl⟩
def slices_Equal_135.post (W : Nat → Prop) (h0 m0 : Heap) (r : Bool) (v : Value) (h : Heap) : Prop := ∃ m , Hold W h0 m0 h m [] ∧ v = .bool r
inductive slices_Equal_135.l0_k.Pt where
  | l0 (a_0 : List Int) (a_1 : List Int) (x_12 : Int) (x_13 : Int)
noncomputable def slices_Equal_135.l0_k.body (go : (p : slices_Equal_135.l0_k.Pt) → Option (Bool)) : (p : slices_Equal_135.l0_k.Pt) → Option (Bool)
  | .l0 a_0 a_1 x_12 x_13 => if x_13 < x_12 then (Option.bind (gi a_0 x_13) fun y1 => Option.bind (gi a_1 x_13) fun y8 => if y1 = y8 then ((go (.l0 a_0 a_1 x_12 (IntKind.wrap .i64 (x_13 + (1 : Int)))))) else (some (false))) else (some (true))
theorem slices_Equal_135.l0_k.mono : MonoF (β := fun _ => (Bool)) slices_Equal_135.l0_k.body := fun f g hfg p => match p with
  | .l0 a_0 a_1 x_12 x_13 => LeO.ite (LeO.bind (LeO.refl _) fun y1 => LeO.bind (LeO.refl _) fun y8 => LeO.ite ((hfg _)) (LeO.refl _)) (LeO.refl _)
noncomputable def slices_Equal_135.l0_k.go (p : slices_Equal_135.l0_k.Pt) : Option (Bool) := fixF (β := fun _ => (Bool)) slices_Equal_135.l0_k.body p
noncomputable def slices_Equal_135.l0 (a_0 : List Int) (a_1 : List Int) (x_12 : Int) (x_13 : Int) : Option (Bool) := slices_Equal_135.l0_k.go (.l0 a_0 a_1 x_12 x_13)
theorem slices_Equal_135.l0_eq (a_0 : List Int) (a_1 : List Int) (x_12 : Int) (x_13 : Int) : slices_Equal_135.l0 a_0 a_1 x_12 x_13 = if x_13 < x_12 then (Option.bind (gi a_0 x_13) fun y1 => Option.bind (gi a_1 x_13) fun y8 => if y1 = y8 then ((slices_Equal_135.l0 a_0 a_1 x_12 (IntKind.wrap .i64 (x_13 + (1 : Int))))) else (some (false))) else (some (true)) := fixF_eq slices_Equal_135.l0_k.mono _
def slices_Equal_135.l0_k.I : (p : slices_Equal_135.l0_k.Pt) → (Bool) → Prop
  | .l0 a_0 a_1 x_12 x_13, r => ∀ (W : Nat → Prop) (h0 m0 h m : Heap) (A_0 : Option Addr) (n_0 c_0 : Nat) (A_1 : Option Addr) (n_1 c_1 : Nat) (O : Hold W h0 m0 h m []) (ne_0 : n_0 = List.length a_0) (k_0 : List.length a_0 ≤ c_0) (r_0 : Rd 1 (eInt .u64) m A_0 a_0) (ne_1 : n_1 = List.length a_1) (k_1 : List.length a_1 ≤ c_1) (r_1 : Rd 1 (eInt .u64) m A_1 a_1), f135.l0 (slices_Equal_135.post W h0 m0 r) A_0 n_0 c_0 A_1 n_1 c_1 x_12 x_13 h
set_option maxRecDepth 100000 in
theorem slices_Equal_135.l0_k.step_l0 (go : (p : slices_Equal_135.l0_k.Pt) → Option (Bool)) (ih : ∀ p r, go p = some r → slices_Equal_135.l0_k.I p r) (a_0 : List Int) (a_1 : List Int) (x_12 : Int) (x_13 : Int) (r : Bool) (e : slices_Equal_135.l0_k.body go (.l0 a_0 a_1 x_12 x_13) = some r) : slices_Equal_135.l0_k.I (.l0 a_0 a_1 x_12 x_13) r := by
  unfold slices_Equal_135.l0_k.body at e
  intro W h0 m0 h m A_0 n_0 c_0 A_1 n_1 c_1 O ne_0 k_0 r_0 ne_1 k_1 r_1
  subst ne_0
  subst ne_1
  refine f135.l0_in ?_
  unfold f135.l0T
  refine split_dec_e e (fun c16 e => ?_) (fun c16 e => ?_)
  · obtain ⟨y1, g2, e⟩ := bind_e e
    refine r_0.addr rfl g2 fun a3 cs4 ha5 hc6 he7 => ?_
    obtain rfl : cs4 = [(Value.int .u64 y1)] := he7
    obtain ⟨y8, g9, e⟩ := bind_e e
    refine r_1.addr rfl g9 fun a10 cs11 ha12 hc13 he14 => ?_
    obtain rfl : cs11 = [(Value.int .u64 y8)] := he14
    refine ⟨_, ld0 O.s hc6 rfl, _, rfl, ?_⟩
    refine ⟨_, ld0 O.s hc13 rfl, _, rfl, ?_⟩
    refine split_ne_e e (fun c15 e => ?_) (fun c15 e => ?_)
    · cases e
      exact ⟨_, O.pick [], rfl⟩
    · exact (ih _ _ e) _ _ _ _ _ _ _ _ _ _ _ (O.pick []).nm rfl k_0 r_0 rfl k_1 r_1
  · cases e
    exact ⟨_, O.pick [], rfl⟩
theorem slices_Equal_135.l0_k.all {p : slices_Equal_135.l0_k.Pt} {r : (Bool)} (e : slices_Equal_135.l0_k.go p = some r) : slices_Equal_135.l0_k.I p r := fixF_ind (β := fun _ => (Bool)) slices_Equal_135.l0_k.mono (I := slices_Equal_135.l0_k.I) (fun go ih p r e => match p with
  | .l0 a_0 a_1 x_12 x_13 => slices_Equal_135.l0_k.step_l0 go ih a_0 a_1 x_12 x_13 r e
  ) e
theorem slices_Equal_135.l0.walk {W : Nat → Prop} {h0 m0 h m : Heap} {A_0 : Option Addr} {n_0 c_0 : Nat} {A_1 : Option Addr} {n_1 c_1 : Nat} {a_0 : List Int} {a_1 : List Int} {x_12 : Int} {x_13 : Int} (O : Hold W h0 m0 h m []) (ne_0 : n_0 = List.length a_0) (k_0 : List.length a_0 ≤ c_0) (r_0 : Rd 1 (eInt .u64) m A_0 a_0) (ne_1 : n_1 = List.length a_1) (k_1 : List.length a_1 ≤ c_1) (r_1 : Rd 1 (eInt .u64) m A_1 a_1) {r : Bool} (e : slices_Equal_135.l0 a_0 a_1 x_12 x_13 = some r) : f135.l0 (slices_Equal_135.post W h0 m0 r) A_0 n_0 c_0 A_1 n_1 c_1 x_12 x_13 h := slices_Equal_135.l0_k.all (p := .l0 a_0 a_1 x_12 x_13) e W h0 m0 h m A_0 n_0 c_0 A_1 n_1 c_1 O ne_0 k_0 r_0 ne_1 k_1 r_1
noncomputable def slices_Equal_135 (a_0 : List Int) (a_1 : List Int) : Option (Bool) :=
  if (((List.length a_0) : Nat) : Int) = (((List.length a_1) : Nat) : Int) then ((slices_Equal_135.l0 a_0 a_1 (((List.length a_0) : Nat) : Int) (0 : Int))) else (some (false))
set_option maxRecDepth 100000 in
theorem slices_Equal_135.walk {W : Nat → Prop} {h m : Heap} {A_0 : Option Addr} {n_0 c_0 : Nat} {A_1 : Option Addr} {n_1 c_1 : Nat} {a_0 : List Int} {a_1 : List Int} (O : Hold W h m h m []) (ne_0 : n_0 = List.length a_0) (k_0 : List.length a_0 ≤ c_0) (r_0 : Rd 1 (eInt .u64) m A_0 a_0) (ne_1 : n_1 = List.length a_1) (k_1 : List.length a_1 ≤ c_1) (r_1 : Rd 1 (eInt .u64) m A_1 a_1) {r : Bool} (e : slices_Equal_135 a_0 a_1 = some r) : Run Try.prog 135 #[Value.slice A_0 n_0 c_0, Value.slice A_1 n_1 c_1] h (slices_Equal_135.post W h m r) := by
  unfold slices_Equal_135 at e
  subst ne_0
  subst ne_1
  refine f135.run ?_
  unfold f135.runT
  refine split_ne_e e (fun c1 e => ?_) (fun c1 e => ?_)
  · cases e
    exact ⟨_, O.pick [], rfl⟩
  · exact slices_Equal_135.l0.walk (O.pick []).nm rfl k_0 r_0 rfl k_1 r_1 e
theorem slices_Equal_135.val (l m : List Int) (hl : l.length ≤ 4611686018427387904) : ∃ b, slices_Equal_135 l m = some b ∧ (b = true ↔ l = m) := equal_val (R := fun x y => x = y) (fun a b n i => slices_Equal_135.l0_eq a b n i) (fun _ _ => rfl) (fun _ _ => Iff.rfl) l m hl
def heap_At.post (W : Nat → Prop) (h0 m0 : Heap) (r : T_heap_Object × Int) (v : Value) (h : Heap) : Prop := ∃ m cs0, Hold W h0 m0 h m [] ∧ v = .tuple #[.agg cs0.toArray, .int .i64 r.2] ∧ T_heap_Object.E m r.1 cs0
noncomputable def heap_At.j6 (y_4 : T_heap_Object) (y_10 : T_heap_Object) : Option (T_heap_Object × Int) :=
  some (y_10, (0 : Int))
set_option maxRecDepth 100000 in
theorem heap_At.j6.walk {W : Nat → Prop} {h0 m0 h m : Heap} {bk_4 : Nat} {cs_4 : List Value} {bk_10 : Nat} {cs_10 : List Value} {y_4 : T_heap_Object} {y_10 : T_heap_Object} (O : Hold W h0 m0 h m [rV bk_4 63 cs_4, rV bk_10 63 cs_10]) (e_4 : T_heap_Object.E m y_4 cs_4) (e_10 : T_heap_Object.E m y_10 cs_10) {r : T_heap_Object × Int} (e : heap_At.j6 y_4 y_10 = some r) : f85.j6 (heap_At.post W h0 m0 r) (⟨bk_4, 0, none⟩ : Addr) (⟨bk_10, 0, none⟩ : Addr) h := by
  unfold heap_At.j6 at e
  refine f85.j6_in ?_
  unfold f85.j6T
  refine ⟨_, ldAn (Sub.refl _) (O.all 1 rfl) (T_heap_Object.T.len _ _ _ e_10), ?_⟩
  refine ⟨_, rfl, (T_heap_Object.T.len _ _ _ e_10), ?_⟩
  refine O.stA 0 rfl ((T_heap_Object.T.len _ _ _ e_10).trans ((T_heap_Object.T.len _ _ _ e_4)).symm) (T_heap_Object.T.flat _ _ _ e_10) fun h1 O2 => ?_
  refine ⟨_, ldAn (Sub.refl _) (O2.all 0 rfl) (T_heap_Object.T.len _ _ _ e_10), ?_⟩
  have O3 := O2.nm
  cases e
  exact ⟨_, _, O3.pick [], rfl, e_10⟩
noncomputable def heap_At.j7 (y_4 : T_heap_Object) (y_10 : T_heap_Object) (b_131 : Bool) : Option (T_heap_Object × Int) :=
  if b_131 = true then (some ((T_heap_Object.mk (0 : Int) (0 : Int) (0 : Int) (ByteArray.mk #[]) ([] : List Int)), (3 : Int))) else ((heap_At.j6 y_4 y_10))
set_option maxRecDepth 100000 in
theorem heap_At.j7.walk {W : Nat → Prop} {h0 m0 h m : Heap} {bk_4 : Nat} {cs_4 : List Value} {bk_10 : Nat} {cs_10 : List Value} {y_4 : T_heap_Object} {y_10 : T_heap_Object} {b_131 : Bool} (O : Hold W h0 m0 h m [rV bk_4 63 cs_4, rV bk_10 63 cs_10]) (e_4 : T_heap_Object.E m y_4 cs_4) (e_10 : T_heap_Object.E m y_10 cs_10) {r : T_heap_Object × Int} (e : heap_At.j7 y_4 y_10 b_131 = some r) : f85.j7 (heap_At.post W h0 m0 r) (⟨bk_4, 0, none⟩ : Addr) (⟨bk_10, 0, none⟩ : Addr) b_131 h := by
  unfold heap_At.j7 at e
  refine f85.j7_in ?_
  unfold f85.j7T
  refine split_any_e e (fun c4 e => ?_) (fun c4 e => ?_)
  · refine ⟨_, rfl, rfl, ?_⟩
    refine O.stA 0 rfl ((T_heap_Object.T.len _ _ _ e_4)).symm (Flats.cons trivial (Flats.cons trivial (Flats.cons trivial (Flats.cons trivial (Flats.cons trivial Flats.nil))))) fun h1 O2 => ?_
    refine ⟨_, ldAn (Sub.refl _) (O2.all 0 rfl) rfl, ?_⟩
    have O3 := O2.nm
    cases e
    exact ⟨_, _, O3.pick [], rfl, (show T_heap_Object.E _ (T_heap_Object.mk (0 : Int) (0 : Int) (0 : Int) (ByteArray.mk #[]) ([] : List Int)) [(Value.int .i64 (0 : Int)), (Value.int .i64 (0 : Int)), (Value.int .i64 (0 : Int)), (Value.string (ByteArray.mk #[])), (Value.slice none 0 0)] from ⟨_, _, rfl, (Nat.le_refl 0), Rd.nil⟩)⟩
  · exact heap_At.j6.walk (O.pick [0, 1]).nm e_4 e_10 e
inductive heap_At.l0_k.Pt where
  | l0 (a_0 : List Int) (x_1 : Int) (y_4 : T_heap_Object) (x_8 : Int) (x_9 : Int) (x_10_0 : Int) (x_10_1 : Int) (x_10_2 : Int) (s_10_3 : ByteArray) (a_10_4 : (List Int)) (a_11 : List Int) (x_74 : Int) (x_75 : Int)
noncomputable def heap_At.l0_k.body (go : (p : heap_At.l0_k.Pt) → Option (T_heap_Object × Int)) : (p : heap_At.l0_k.Pt) → Option (T_heap_Object × Int)
  | .l0 a_0 x_1 y_4 x_8 x_9 x_10_0 x_10_1 x_10_2 s_10_3 a_10_4 a_11 x_74 x_75 => if x_75 < x_74 then (Option.bind (gi a_0 (IntKind.wrap .i64 (x_1 + (IntKind.wrap .i64 (Int.tdiv x_75 (8 : Int)))))) fun y1 => if 0 ≤ (IntKind.wrap .i64 ((8 : Int) * (Int.tmod x_75 (8 : Int)))) then (Option.bind (ap 1 a_11 ([(IntKind.wrap .u8 (shrI .u64 y1 (IntKind.wrap .i64 ((8 : Int) * (Int.tmod x_75 (8 : Int))))))] : List Int)) fun l13 => (go (.l0 a_0 x_1 y_4 x_8 x_9 x_10_0 x_10_1 x_10_2 s_10_3 a_10_4 l13 x_74 (IntKind.wrap .i64 (x_75 + (1 : Int)))))) else none) else (Option.bind (sls a_0 (IntKind.wrap .i64 (x_1 + (IntKind.wrap .i64 (Int.tdiv (IntKind.wrap .i64 (x_8 + (7 : Int))) (8 : Int))))) (IntKind.wrap .i64 ((IntKind.wrap .i64 (x_1 + (IntKind.wrap .i64 (Int.tdiv (IntKind.wrap .i64 (x_8 + (7 : Int))) (8 : Int))))) + x_9))) fun l25 => Option.bind (ap 8 a_10_4 l25) fun l30 => Option.bind (heap_Put ([] : List Int) (T_heap_Object.mk x_10_0 x_10_1 x_10_2 (bytesOf a_11) l30)) fun y45 => if y45.2.2 = (0 : Int) then (Option.bind (sls a_0 x_10_0 (IntKind.wrap .i64 ((IntKind.wrap .i64 (x_1 + (IntKind.wrap .i64 (Int.tdiv (IntKind.wrap .i64 (x_8 + (7 : Int))) (8 : Int))))) + x_9))) fun l57 => Option.bind (slices_Equal_135 y45.1 l57) fun y62 => (heap_At.j7 y_4 (T_heap_Object.mk x_10_0 x_10_1 x_10_2 (bytesOf a_11) l30) (!y62))) else ((heap_At.j7 y_4 (T_heap_Object.mk x_10_0 x_10_1 x_10_2 (bytesOf a_11) l30) true)))
theorem heap_At.l0_k.mono : MonoF (β := fun _ => (T_heap_Object × Int)) heap_At.l0_k.body := fun f g hfg p => match p with
  | .l0 a_0 x_1 y_4 x_8 x_9 x_10_0 x_10_1 x_10_2 s_10_3 a_10_4 a_11 x_74 x_75 => LeO.ite (LeO.bind (LeO.refl _) fun y1 => LeO.ite (LeO.bind (LeO.refl _) fun l13 => (hfg _)) (LeO.refl _)) (LeO.bind (LeO.refl _) fun l25 => LeO.bind (LeO.refl _) fun l30 => LeO.bind (LeO.refl _) fun y45 => LeO.ite (LeO.bind (LeO.refl _) fun l57 => LeO.bind (LeO.refl _) fun y62 => (LeO.refl _)) ((LeO.refl _)))
noncomputable def heap_At.l0_k.go (p : heap_At.l0_k.Pt) : Option (T_heap_Object × Int) := fixF (β := fun _ => (T_heap_Object × Int)) heap_At.l0_k.body p
noncomputable def heap_At.l0 (a_0 : List Int) (x_1 : Int) (y_4 : T_heap_Object) (x_8 : Int) (x_9 : Int) (x_10_0 : Int) (x_10_1 : Int) (x_10_2 : Int) (s_10_3 : ByteArray) (a_10_4 : (List Int)) (a_11 : List Int) (x_74 : Int) (x_75 : Int) : Option (T_heap_Object × Int) := heap_At.l0_k.go (.l0 a_0 x_1 y_4 x_8 x_9 x_10_0 x_10_1 x_10_2 s_10_3 a_10_4 a_11 x_74 x_75)
theorem heap_At.l0_eq (a_0 : List Int) (x_1 : Int) (y_4 : T_heap_Object) (x_8 : Int) (x_9 : Int) (x_10_0 : Int) (x_10_1 : Int) (x_10_2 : Int) (s_10_3 : ByteArray) (a_10_4 : (List Int)) (a_11 : List Int) (x_74 : Int) (x_75 : Int) : heap_At.l0 a_0 x_1 y_4 x_8 x_9 x_10_0 x_10_1 x_10_2 s_10_3 a_10_4 a_11 x_74 x_75 = if x_75 < x_74 then (Option.bind (gi a_0 (IntKind.wrap .i64 (x_1 + (IntKind.wrap .i64 (Int.tdiv x_75 (8 : Int)))))) fun y1 => if 0 ≤ (IntKind.wrap .i64 ((8 : Int) * (Int.tmod x_75 (8 : Int)))) then (Option.bind (ap 1 a_11 ([(IntKind.wrap .u8 (shrI .u64 y1 (IntKind.wrap .i64 ((8 : Int) * (Int.tmod x_75 (8 : Int))))))] : List Int)) fun l13 => (heap_At.l0 a_0 x_1 y_4 x_8 x_9 x_10_0 x_10_1 x_10_2 s_10_3 a_10_4 l13 x_74 (IntKind.wrap .i64 (x_75 + (1 : Int))))) else none) else (Option.bind (sls a_0 (IntKind.wrap .i64 (x_1 + (IntKind.wrap .i64 (Int.tdiv (IntKind.wrap .i64 (x_8 + (7 : Int))) (8 : Int))))) (IntKind.wrap .i64 ((IntKind.wrap .i64 (x_1 + (IntKind.wrap .i64 (Int.tdiv (IntKind.wrap .i64 (x_8 + (7 : Int))) (8 : Int))))) + x_9))) fun l25 => Option.bind (ap 8 a_10_4 l25) fun l30 => Option.bind (heap_Put ([] : List Int) (T_heap_Object.mk x_10_0 x_10_1 x_10_2 (bytesOf a_11) l30)) fun y45 => if y45.2.2 = (0 : Int) then (Option.bind (sls a_0 x_10_0 (IntKind.wrap .i64 ((IntKind.wrap .i64 (x_1 + (IntKind.wrap .i64 (Int.tdiv (IntKind.wrap .i64 (x_8 + (7 : Int))) (8 : Int))))) + x_9))) fun l57 => Option.bind (slices_Equal_135 y45.1 l57) fun y62 => (heap_At.j7 y_4 (T_heap_Object.mk x_10_0 x_10_1 x_10_2 (bytesOf a_11) l30) (!y62))) else ((heap_At.j7 y_4 (T_heap_Object.mk x_10_0 x_10_1 x_10_2 (bytesOf a_11) l30) true))) := fixF_eq heap_At.l0_k.mono _
def heap_At.l0_k.I : (p : heap_At.l0_k.Pt) → (T_heap_Object × Int) → Prop
  | .l0 a_0 x_1 y_4 x_8 x_9 x_10_0 x_10_1 x_10_2 s_10_3 a_10_4 a_11 x_74 x_75, r => ∀ (W : Nat → Prop) (h0 m0 h m : Heap) (A_0 : Option Addr) (n_0 c_0 : Nat) (bk_4 : Nat) (cs_4 : List Value) (bk_10 : Nat) (A_10_4_0 : Option Addr) (n_10_4_0 : Nat) (c_10_4_0 : Nat) (A_11 : Option Addr) (n_11 c_11 : Nat) (O : Hold W h0 m0 h m [rV bk_4 63 cs_4, rV bk_10 63 [(Value.int .i64 x_10_0), (Value.int .i64 x_10_1), (Value.int .i64 x_10_2), (Value.string s_10_3), (Value.slice A_10_4_0 n_10_4_0 c_10_4_0)], rR (aE (tell_int .u64)) A_10_4_0 c_10_4_0 a_10_4, rR (aE (tell_int .u8)) A_11 c_11 a_11]) (ne_0 : n_0 = List.length a_0) (k_0 : List.length a_0 ≤ c_0) (r_0 : Rd 1 (eInt .u64) m A_0 a_0) (e_4 : T_heap_Object.E m y_4 cs_4) (ne_10_4_0 : n_10_4_0 = List.length a_10_4) (ne_11 : n_11 = List.length a_11), f85.l0 (heap_At.post W h0 m0 r) A_0 n_0 c_0 x_1 (⟨bk_4, 0, none⟩ : Addr) x_8 x_9 (⟨bk_10, 0, none⟩ : Addr) A_11 n_11 c_11 x_74 x_75 h
set_option maxHeartbeats 4000000 in
set_option maxRecDepth 100000 in
theorem heap_At.l0_k.step_l0 (go : (p : heap_At.l0_k.Pt) → Option (T_heap_Object × Int)) (ih : ∀ p r, go p = some r → heap_At.l0_k.I p r) (a_0 : List Int) (x_1 : Int) (y_4 : T_heap_Object) (x_8 : Int) (x_9 : Int) (x_10_0 : Int) (x_10_1 : Int) (x_10_2 : Int) (s_10_3 : ByteArray) (a_10_4 : (List Int)) (a_11 : List Int) (x_74 : Int) (x_75 : Int) (r : T_heap_Object × Int) (e : heap_At.l0_k.body go (.l0 a_0 x_1 y_4 x_8 x_9 x_10_0 x_10_1 x_10_2 s_10_3 a_10_4 a_11 x_74 x_75) = some r) : heap_At.l0_k.I (.l0 a_0 x_1 y_4 x_8 x_9 x_10_0 x_10_1 x_10_2 s_10_3 a_10_4 a_11 x_74 x_75) r := by
  unfold heap_At.l0_k.body at e
  intro W h0 m0 h m A_0 n_0 c_0 bk_4 cs_4 bk_10 A_10_4_0 n_10_4_0 c_10_4_0 A_11 n_11 c_11 O ne_0 k_0 r_0 e_4 ne_10_4_0 ne_11
  subst ne_0
  subst ne_10_4_0
  subst ne_11
  refine f85.l0_in ?_
  unfold f85.l0T
  refine split_dec_e e (fun c77 e => ?_) (fun c77 e => ?_)
  · refine ⟨by decide, ?_⟩
    obtain ⟨y1, g2, e⟩ := bind_e e
    refine r_0.addr rfl g2 fun a3 cs4 ha5 hc6 he7 => ?_
    obtain rfl : cs4 = [(Value.int .u64 y1)] := he7
    refine ⟨_, ld0 O.s hc6 rfl, _, rfl, ?_⟩
    refine ⟨by decide, ?_⟩
    obtain ⟨g8, e⟩ := guard_e e
    refine ⟨g8, ?_⟩
    refine O.new fun h9 x10 O11 => ?_
    obtain ⟨l13, g14, e⟩ := bind_e e
    have O21 := O11.rowE (l := ([(IntKind.wrap .u8 (shrI .u64 y1 (IntKind.wrap .i64 ((8 : Int) * (Int.tmod x_75 (8 : Int))))))] : List Int)) 4 rfl (tell_int .u8) (show CsE _ _ _ _ _ from (CsE.cons (c1 := [(Value.int .u8 (IntKind.wrap .u8 (shrI .u64 y1 (IntKind.wrap .i64 ((8 : Int) * (Int.tmod x_75 (8 : Int)))))))]) rfl rfl CsE.nil)) rfl
    refine O21.app 3 rfl rfl rfl ((O21.os 4 rfl).srcE rfl) (by decide) g14 fun A15 c16 h17 O18 => ?_
    refine ⟨_, _, _, rfl, ?_⟩
    have O22 := O18.nm
    exact (ih _ _ e) _ _ _ _ _ _ _ _ _ _ _ _ _ _ _ _ _ (O22.pick [0, 1, 2, 3]).nm rfl k_0 r_0 e_4 rfl rfl
  · refine gen_b2s' (e := 5) (by kernel_rfl) (by kernel_rfl) (by kernel_rfl) ((O.os 3 rfl).rd (tell_int .u8) O.s) rfl ?_
    refine ⟨_, rfl, ?_⟩
    refine ⟨by decide, ?_⟩
    refine O.st 1 rfl 3 (Nat.le_of_ble_eq_true rfl) trivial fun h23 O24 => ?_
    obtain ⟨l25, g26, e⟩ := bind_e e
    have q27 := sls_e g26
    refine ⟨q27.1, q27.2.1, cap_in q27.2.2.1 k_0, ?_⟩
    try rw [q27.2.2.2.1]
    have k28 : List.length l25 ≤ (c_0 - Int.toNat (IntKind.wrap .i64 (x_1 + (IntKind.wrap .i64 (Int.tdiv (IntKind.wrap .i64 (x_8 + (7 : Int))) (8 : Int)))))) := sls_cap g26 k_0
    have r29 := r_0.sls g26 (le_mx q27.2.2.1 k_0)
    refine ⟨_, ldk (k := 4) (Sub.refl _) (O24.all 1 rfl) rfl, _, _, _, rfl, ?_⟩
    obtain ⟨l30, g31, e⟩ := bind_e e
    refine O24.app 2 rfl rfl rfl (Rd.srcE r29 (tell_int .u64) O24.s rfl) (by decide) g31 fun A32 c33 h34 O35 => ?_
    refine ⟨_, _, _, rfl, ?_⟩
    refine O35.st 1 rfl 4 (Nat.le_of_ble_eq_true rfl) trivial fun h38 O39 => ?_
    refine ⟨_, ldAn (Sub.refl _) (O39.all 1 rfl) rfl, ?_⟩
    obtain ⟨y45, g46, e⟩ := bind_e e
    obtain ⟨m40, u41, ⟨r42, k43⟩, O44⟩ := O39.frz 2 rfl
    replace r42 : Rd 1 (eInt .u64) m40 A32 l30 := r42
    refine (heap_Put.walk (Hold.start (W := No) O44.s) rfl (Nat.le_refl 0) Rd.nil (show T_heap_Object.E _ (T_heap_Object.mk x_10_0 x_10_1 x_10_2 (bytesOf a_11) l30) [(Value.int .i64 x_10_0), (Value.int .i64 x_10_1), (Value.int .i64 x_10_2), (Value.string (bytesOf a_11)), (Value.slice A32 (List.length l30) c33)] from ⟨_, _, rfl, k43, r42⟩) g46).mono ?_
    rintro _ h47 ⟨m48, A51, n52, c53, Q49, rfl, ne54⟩
    have O56 := Hold.nm (O44.retC Q49 (vfs_cons (rR_vf (aE_vf (fun _ _ _ _ h => h))) vfs_nil))
    subst ne54
    refine ⟨_, _, _, _, _, rfl, ?_⟩
    refine split_ne_e e (fun c76 e => ?_) (fun c76 e => ?_)
    · exact heap_At.j7.walk (O56.pick [0, 1]).nm (T_heap_Object.T.mono _ _ _ _ u41 e_4) (show T_heap_Object.E _ (T_heap_Object.mk x_10_0 x_10_1 x_10_2 (bytesOf a_11) l30) [(Value.int .i64 x_10_0), (Value.int .i64 x_10_1), (Value.int .i64 x_10_2), (Value.string (bytesOf a_11)), (Value.slice A32 (List.length l30) c33)] from ⟨_, _, rfl, k43, r42⟩) e
    · refine ⟨_, ld0 (Sub.refl _) (O56.all 1 rfl) rfl, _, rfl, ?_⟩
      obtain ⟨l57, g58, e⟩ := bind_e e
      have q59 := sls_e g58
      refine ⟨q59.1, q59.2.1, cap_in q59.2.2.1 k_0, ?_⟩
      try rw [q59.2.2.2.1]
      have k60 : List.length l57 ≤ (c_0 - Int.toNat x_10_0) := sls_cap g58 k_0
      have r61 := r_0.sls g58 (le_mx q59.2.2.1 k_0)
      obtain ⟨y62, g63, e⟩ := bind_e e
      obtain ⟨m68, u69, s74, ⟨⟨r72, k73⟩, _⟩, B70, C71⟩ := O56.lend0 [4]
      replace r72 : Rd 1 (eInt .u64) m68 A51 y45.1 := r72
      replace k73 : List.length y45.1 ≤ c53 := k73
      refine (slices_Equal_135.walk (Hold.start (W := No) s74) rfl k73 r72 rfl k60 (r61.sub (tell_int .u64) (u41.trans u69)) g63).mono ?_
      rintro _ h64 ⟨m65, Q66, rfl⟩
      have O75 := Hold.nm (C71 Q66 vfs_nil)
      refine ⟨_, rfl, ?_⟩
      exact heap_At.j7.walk (O75.pick [0, 1]).nm (T_heap_Object.T.mono _ _ _ _ u41 e_4) (show T_heap_Object.E _ (T_heap_Object.mk x_10_0 x_10_1 x_10_2 (bytesOf a_11) l30) [(Value.int .i64 x_10_0), (Value.int .i64 x_10_1), (Value.int .i64 x_10_2), (Value.string (bytesOf a_11)), (Value.slice A32 (List.length l30) c33)] from ⟨_, _, rfl, k43, r42⟩) e
theorem heap_At.l0_k.all {p : heap_At.l0_k.Pt} {r : (T_heap_Object × Int)} (e : heap_At.l0_k.go p = some r) : heap_At.l0_k.I p r := fixF_ind (β := fun _ => (T_heap_Object × Int)) heap_At.l0_k.mono (I := heap_At.l0_k.I) (fun go ih p r e => match p with
  | .l0 a_0 x_1 y_4 x_8 x_9 x_10_0 x_10_1 x_10_2 s_10_3 a_10_4 a_11 x_74 x_75 => heap_At.l0_k.step_l0 go ih a_0 x_1 y_4 x_8 x_9 x_10_0 x_10_1 x_10_2 s_10_3 a_10_4 a_11 x_74 x_75 r e
  ) e
theorem heap_At.l0.walk {W : Nat → Prop} {h0 m0 h m : Heap} {A_0 : Option Addr} {n_0 c_0 : Nat} {bk_4 : Nat} {cs_4 : List Value} {bk_10 : Nat} {A_10_4_0 : Option Addr} {n_10_4_0 : Nat} {c_10_4_0 : Nat} {A_11 : Option Addr} {n_11 c_11 : Nat} {a_0 : List Int} {x_1 : Int} {y_4 : T_heap_Object} {x_8 : Int} {x_9 : Int} {x_10_0 : Int} {x_10_1 : Int} {x_10_2 : Int} {s_10_3 : ByteArray} {a_10_4 : (List Int)} {a_11 : List Int} {x_74 : Int} {x_75 : Int} (O : Hold W h0 m0 h m [rV bk_4 63 cs_4, rV bk_10 63 [(Value.int .i64 x_10_0), (Value.int .i64 x_10_1), (Value.int .i64 x_10_2), (Value.string s_10_3), (Value.slice A_10_4_0 n_10_4_0 c_10_4_0)], rR (aE (tell_int .u64)) A_10_4_0 c_10_4_0 a_10_4, rR (aE (tell_int .u8)) A_11 c_11 a_11]) (ne_0 : n_0 = List.length a_0) (k_0 : List.length a_0 ≤ c_0) (r_0 : Rd 1 (eInt .u64) m A_0 a_0) (e_4 : T_heap_Object.E m y_4 cs_4) (ne_10_4_0 : n_10_4_0 = List.length a_10_4) (ne_11 : n_11 = List.length a_11) {r : T_heap_Object × Int} (e : heap_At.l0 a_0 x_1 y_4 x_8 x_9 x_10_0 x_10_1 x_10_2 s_10_3 a_10_4 a_11 x_74 x_75 = some r) : f85.l0 (heap_At.post W h0 m0 r) A_0 n_0 c_0 x_1 (⟨bk_4, 0, none⟩ : Addr) x_8 x_9 (⟨bk_10, 0, none⟩ : Addr) A_11 n_11 c_11 x_74 x_75 h := heap_At.l0_k.all (p := .l0 a_0 x_1 y_4 x_8 x_9 x_10_0 x_10_1 x_10_2 s_10_3 a_10_4 a_11 x_74 x_75) e W h0 m0 h m A_0 n_0 c_0 bk_4 cs_4 bk_10 A_10_4_0 n_10_4_0 c_10_4_0 A_11 n_11 c_11 O ne_0 k_0 r_0 e_4 ne_10_4_0 ne_11
noncomputable def heap_At.j4 (a_0 : List Int) (x_1 : Int) (y_4 : T_heap_Object) (x_8 : Int) (x_9 : Int) (x_10_0 : Int) (x_10_1 : Int) (x_10_2 : Int) (s_10_3 : ByteArray) (a_10_4 : (List Int)) : Option (T_heap_Object × Int) :=
  (heap_At.l0 a_0 x_1 y_4 x_8 x_9 x_10_0 x_10_1 x_10_2 s_10_3 a_10_4 ([] : List Int) x_8 (0 : Int))
set_option maxRecDepth 100000 in
theorem heap_At.j4.walk {W : Nat → Prop} {h0 m0 h m : Heap} {A_0 : Option Addr} {n_0 c_0 : Nat} {bk_4 : Nat} {cs_4 : List Value} {bk_10 : Nat} {A_10_4_0 : Option Addr} {n_10_4_0 : Nat} {c_10_4_0 : Nat} {a_0 : List Int} {x_1 : Int} {y_4 : T_heap_Object} {x_8 : Int} {x_9 : Int} {x_10_0 : Int} {x_10_1 : Int} {x_10_2 : Int} {s_10_3 : ByteArray} {a_10_4 : (List Int)} (O : Hold W h0 m0 h m [rV bk_4 63 cs_4, rV bk_10 63 [(Value.int .i64 x_10_0), (Value.int .i64 x_10_1), (Value.int .i64 x_10_2), (Value.string s_10_3), (Value.slice A_10_4_0 n_10_4_0 c_10_4_0)], rR (aE (tell_int .u64)) A_10_4_0 c_10_4_0 a_10_4]) (ne_0 : n_0 = List.length a_0) (k_0 : List.length a_0 ≤ c_0) (r_0 : Rd 1 (eInt .u64) m A_0 a_0) (e_4 : T_heap_Object.E m y_4 cs_4) (ne_10_4_0 : n_10_4_0 = List.length a_10_4) {r : T_heap_Object × Int} (e : heap_At.j4 a_0 x_1 y_4 x_8 x_9 x_10_0 x_10_1 x_10_2 s_10_3 a_10_4 = some r) : f85.j4 (heap_At.post W h0 m0 r) A_0 n_0 c_0 x_1 (⟨bk_4, 0, none⟩ : Addr) x_8 x_9 (⟨bk_10, 0, none⟩ : Addr) h := by
  unfold heap_At.j4 at e
  subst ne_0
  subst ne_10_4_0
  refine f85.j4_in ?_
  unfold f85.j4T
  have O1 := O.nil (aE (tell_int .u8)) none
  have O3 := O1.nm
  exact heap_At.l0.walk (O3.pick [0, 1, 2, 3]).nm rfl k_0 r_0 e_4 rfl rfl e
noncomputable def heap_At.j5 (a_0 : List Int) (x_1 : Int) (y_4 : T_heap_Object) (x_8 : Int) (x_9 : Int) (x_10_0 : Int) (x_10_1 : Int) (x_10_2 : Int) (s_10_3 : ByteArray) (a_10_4 : (List Int)) (b_65 : Bool) : Option (T_heap_Object × Int) :=
  if b_65 = true then (Option.bind (gi a_0 x_1) fun y1 => (heap_At.j4 a_0 (IntKind.wrap .i64 (x_1 + (1 : Int))) y_4 x_8 x_9 x_10_0 x_10_1 (IntKind.wrap .i64 y1) s_10_3 a_10_4)) else ((heap_At.j4 a_0 x_1 y_4 x_8 x_9 x_10_0 x_10_1 x_10_2 s_10_3 a_10_4))
set_option maxRecDepth 100000 in
theorem heap_At.j5.walk {W : Nat → Prop} {h0 m0 h m : Heap} {A_0 : Option Addr} {n_0 c_0 : Nat} {bk_4 : Nat} {cs_4 : List Value} {bk_10 : Nat} {A_10_4_0 : Option Addr} {n_10_4_0 : Nat} {c_10_4_0 : Nat} {a_0 : List Int} {x_1 : Int} {y_4 : T_heap_Object} {x_8 : Int} {x_9 : Int} {x_10_0 : Int} {x_10_1 : Int} {x_10_2 : Int} {s_10_3 : ByteArray} {a_10_4 : (List Int)} {b_65 : Bool} (O : Hold W h0 m0 h m [rV bk_4 63 cs_4, rV bk_10 63 [(Value.int .i64 x_10_0), (Value.int .i64 x_10_1), (Value.int .i64 x_10_2), (Value.string s_10_3), (Value.slice A_10_4_0 n_10_4_0 c_10_4_0)], rR (aE (tell_int .u64)) A_10_4_0 c_10_4_0 a_10_4]) (ne_0 : n_0 = List.length a_0) (k_0 : List.length a_0 ≤ c_0) (r_0 : Rd 1 (eInt .u64) m A_0 a_0) (e_4 : T_heap_Object.E m y_4 cs_4) (ne_10_4_0 : n_10_4_0 = List.length a_10_4) {r : T_heap_Object × Int} (e : heap_At.j5 a_0 x_1 y_4 x_8 x_9 x_10_0 x_10_1 x_10_2 s_10_3 a_10_4 b_65 = some r) : f85.j5 (heap_At.post W h0 m0 r) A_0 n_0 c_0 x_1 (⟨bk_4, 0, none⟩ : Addr) x_8 x_9 (⟨bk_10, 0, none⟩ : Addr) b_65 h := by
  unfold heap_At.j5 at e
  subst ne_0
  subst ne_10_4_0
  refine f85.j5_in ?_
  unfold f85.j5T
  refine split_any_e e (fun c11 e => ?_) (fun c11 e => ?_)
  · obtain ⟨y1, g2, e⟩ := bind_e e
    refine r_0.addr rfl g2 fun a3 cs4 ha5 hc6 he7 => ?_
    obtain rfl : cs4 = [(Value.int .u64 y1)] := he7
    refine ⟨_, ld0 O.s hc6 rfl, _, rfl, ?_⟩
    refine O.st 1 rfl 2 (Nat.le_of_ble_eq_true rfl) trivial fun h8 O9 => ?_
    have O10 := O9.nm
    exact heap_At.j4.walk (O10.pick [0, 1, 2]).nm rfl k_0 r_0 e_4 rfl e
  · exact heap_At.j4.walk (O.pick [0, 1, 2]).nm rfl k_0 r_0 e_4 rfl e
noncomputable def heap_At.j2 (a_0 : List Int) (x_1 : Int) (y_4 : T_heap_Object) (x_7 : Int) (x_8 : Int) (x_9 : Int) : Option (T_heap_Object × Int) :=
  if x_7 = (1 : Int) then ((heap_At.j5 a_0 (IntKind.wrap .i64 (x_1 + (1 : Int))) y_4 x_8 x_9 x_1 x_7 (0 : Int) (ByteArray.mk #[]) ([] : List Int) true)) else ((heap_At.j5 a_0 (IntKind.wrap .i64 (x_1 + (1 : Int))) y_4 x_8 x_9 x_1 x_7 (0 : Int) (ByteArray.mk #[]) ([] : List Int) (x_7 == (4 : Int))))
set_option maxRecDepth 100000 in
theorem heap_At.j2.walk {W : Nat → Prop} {h0 m0 h m : Heap} {A_0 : Option Addr} {n_0 c_0 : Nat} {bk_4 : Nat} {cs_4 : List Value} {a_0 : List Int} {x_1 : Int} {y_4 : T_heap_Object} {x_7 : Int} {x_8 : Int} {x_9 : Int} (O : Hold W h0 m0 h m [rV bk_4 63 cs_4]) (ne_0 : n_0 = List.length a_0) (k_0 : List.length a_0 ≤ c_0) (r_0 : Rd 1 (eInt .u64) m A_0 a_0) (e_4 : T_heap_Object.E m y_4 cs_4) {r : T_heap_Object × Int} (e : heap_At.j2 a_0 x_1 y_4 x_7 x_8 x_9 = some r) : f85.j2 (heap_At.post W h0 m0 r) A_0 n_0 c_0 x_1 (⟨bk_4, 0, none⟩ : Addr) x_7 x_8 x_9 h := by
  unfold heap_At.j2 at e
  subst ne_0
  refine f85.j2_in ?_
  unfold f85.j2T
  refine O.new fun h1 x2 O3 => ?_
  refine ⟨_, rfl, rfl, ?_⟩
  refine O3.stA 1 rfl rfl (Flats.cons trivial (Flats.cons trivial (Flats.cons trivial (Flats.cons trivial (Flats.cons trivial Flats.nil))))) fun h5 O6 => ?_
  refine split_eq_e e (fun c13 e => ?_) (fun c13 e => ?_)
  · have O7 := O6.nil (aE (tell_int .u64)) none
    have O9 := O7.nm
    exact heap_At.j5.walk (O9.pick [0, 1, 2]).nm rfl k_0 r_0 e_4 rfl e
  · have O10 := O6.nil (aE (tell_int .u64)) none
    have O12 := O10.nm
    exact heap_At.j5.walk (O12.pick [0, 1, 2]).nm rfl k_0 r_0 e_4 rfl e
noncomputable def heap_At.j3 (a_0 : List Int) (x_1 : Int) (y_4 : T_heap_Object) (x_7 : Int) (x_8 : Int) (x_9 : Int) (b_53 : Bool) : Option (T_heap_Object × Int) :=
  if b_53 = true then (some ((T_heap_Object.mk (0 : Int) (0 : Int) (0 : Int) (ByteArray.mk #[]) ([] : List Int)), (3 : Int))) else ((heap_At.j2 a_0 x_1 y_4 x_7 x_8 x_9))
set_option maxRecDepth 100000 in
theorem heap_At.j3.walk {W : Nat → Prop} {h0 m0 h m : Heap} {A_0 : Option Addr} {n_0 c_0 : Nat} {bk_4 : Nat} {cs_4 : List Value} {a_0 : List Int} {x_1 : Int} {y_4 : T_heap_Object} {x_7 : Int} {x_8 : Int} {x_9 : Int} {b_53 : Bool} (O : Hold W h0 m0 h m [rV bk_4 63 cs_4]) (ne_0 : n_0 = List.length a_0) (k_0 : List.length a_0 ≤ c_0) (r_0 : Rd 1 (eInt .u64) m A_0 a_0) (e_4 : T_heap_Object.E m y_4 cs_4) {r : T_heap_Object × Int} (e : heap_At.j3 a_0 x_1 y_4 x_7 x_8 x_9 b_53 = some r) : f85.j3 (heap_At.post W h0 m0 r) A_0 n_0 c_0 x_1 (⟨bk_4, 0, none⟩ : Addr) x_7 x_8 x_9 b_53 h := by
  unfold heap_At.j3 at e
  subst ne_0
  refine f85.j3_in ?_
  unfold f85.j3T
  refine split_any_e e (fun c4 e => ?_) (fun c4 e => ?_)
  · refine ⟨_, rfl, rfl, ?_⟩
    refine O.stA 0 rfl ((T_heap_Object.T.len _ _ _ e_4)).symm (Flats.cons trivial (Flats.cons trivial (Flats.cons trivial (Flats.cons trivial (Flats.cons trivial Flats.nil))))) fun h1 O2 => ?_
    refine ⟨_, ldAn (Sub.refl _) (O2.all 0 rfl) rfl, ?_⟩
    have O3 := O2.nm
    cases e
    exact ⟨_, _, O3.pick [], rfl, (show T_heap_Object.E _ (T_heap_Object.mk (0 : Int) (0 : Int) (0 : Int) (ByteArray.mk #[]) ([] : List Int)) [(Value.int .i64 (0 : Int)), (Value.int .i64 (0 : Int)), (Value.int .i64 (0 : Int)), (Value.string (ByteArray.mk #[])), (Value.slice none 0 0)] from ⟨_, _, rfl, (Nat.le_refl 0), Rd.nil⟩)⟩
  · exact heap_At.j2.walk (O.pick [0]).nm rfl k_0 r_0 e_4 e
noncomputable def heap_At.j0 (a_0 : List Int) (x_1 : Int) (y_4 : T_heap_Object) : Option (T_heap_Object × Int) :=
  Option.bind (gi a_0 x_1) fun y1 => if (shrI .u64 y1 (32 : Int)) = (0 : Int) then (Option.bind (heap_room (IntKind.wrap .i64 (bitsI .and .u64 y1 (255 : Int))) (IntKind.wrap .i64 (bitsI .and .u64 (shrI .u64 y1 (8 : Int)) (4095 : Int))) (IntKind.wrap .i64 (bitsI .and .u64 (shrI .u64 y1 (20 : Int)) (4095 : Int)))) fun y8 => (heap_At.j3 a_0 x_1 y_4 (IntKind.wrap .i64 (bitsI .and .u64 y1 (255 : Int))) (IntKind.wrap .i64 (bitsI .and .u64 (shrI .u64 y1 (8 : Int)) (4095 : Int))) (IntKind.wrap .i64 (bitsI .and .u64 (shrI .u64 y1 (20 : Int)) (4095 : Int))) (decide (y8 > (IntKind.wrap .i64 ((((List.length a_0) : Nat) : Int) - x_1)))))) else ((heap_At.j3 a_0 x_1 y_4 (IntKind.wrap .i64 (bitsI .and .u64 y1 (255 : Int))) (IntKind.wrap .i64 (bitsI .and .u64 (shrI .u64 y1 (8 : Int)) (4095 : Int))) (IntKind.wrap .i64 (bitsI .and .u64 (shrI .u64 y1 (20 : Int)) (4095 : Int))) true))
set_option maxRecDepth 100000 in
theorem heap_At.j0.walk {W : Nat → Prop} {h0 m0 h m : Heap} {A_0 : Option Addr} {n_0 c_0 : Nat} {bk_4 : Nat} {cs_4 : List Value} {a_0 : List Int} {x_1 : Int} {y_4 : T_heap_Object} (O : Hold W h0 m0 h m [rV bk_4 63 cs_4]) (ne_0 : n_0 = List.length a_0) (k_0 : List.length a_0 ≤ c_0) (r_0 : Rd 1 (eInt .u64) m A_0 a_0) (e_4 : T_heap_Object.E m y_4 cs_4) {r : T_heap_Object × Int} (e : heap_At.j0 a_0 x_1 y_4 = some r) : f85.j0 (heap_At.post W h0 m0 r) A_0 n_0 c_0 x_1 (⟨bk_4, 0, none⟩ : Addr) h := by
  unfold heap_At.j0 at e
  subst ne_0
  refine f85.j0_in ?_
  unfold f85.j0T
  obtain ⟨y1, g2, e⟩ := bind_e e
  refine r_0.addr rfl g2 fun a3 cs4 ha5 hc6 he7 => ?_
  obtain rfl : cs4 = [(Value.int .u64 y1)] := he7
  refine ⟨_, ld0 O.s hc6 rfl, _, rfl, ?_⟩
  refine ⟨by decide, ?_⟩
  refine ⟨by decide, ?_⟩
  refine ⟨by decide, ?_⟩
  refine split_ne_e e (fun c15 e => ?_) (fun c15 e => ?_)
  · exact heap_At.j3.walk (O.pick [0]).nm rfl k_0 r_0 e_4 e
  · obtain ⟨y8, g9, e⟩ := bind_e e
    refine (heap_room.walk (Hold.start (W := No) O.s)  g9).mono ?_
    rintro _ h10 ⟨m11, Q12, rfl⟩
    have O14 := Hold.nm (O.retC Q12 vfs_nil)
    refine ⟨_, rfl, ?_⟩
    exact heap_At.j3.walk (O14.pick [0]).nm rfl k_0 r_0 e_4 e
noncomputable def heap_At.j1 (a_0 : List Int) (x_1 : Int) (y_4 : T_heap_Object) (b_23 : Bool) : Option (T_heap_Object × Int) :=
  if b_23 = true then (some ((T_heap_Object.mk (0 : Int) (0 : Int) (0 : Int) (ByteArray.mk #[]) ([] : List Int)), (4 : Int))) else ((heap_At.j0 a_0 x_1 y_4))
set_option maxRecDepth 100000 in
theorem heap_At.j1.walk {W : Nat → Prop} {h0 m0 h m : Heap} {A_0 : Option Addr} {n_0 c_0 : Nat} {bk_4 : Nat} {cs_4 : List Value} {a_0 : List Int} {x_1 : Int} {y_4 : T_heap_Object} {b_23 : Bool} (O : Hold W h0 m0 h m [rV bk_4 63 cs_4]) (ne_0 : n_0 = List.length a_0) (k_0 : List.length a_0 ≤ c_0) (r_0 : Rd 1 (eInt .u64) m A_0 a_0) (e_4 : T_heap_Object.E m y_4 cs_4) {r : T_heap_Object × Int} (e : heap_At.j1 a_0 x_1 y_4 b_23 = some r) : f85.j1 (heap_At.post W h0 m0 r) A_0 n_0 c_0 x_1 (⟨bk_4, 0, none⟩ : Addr) b_23 h := by
  unfold heap_At.j1 at e
  subst ne_0
  refine f85.j1_in ?_
  unfold f85.j1T
  refine split_any_e e (fun c4 e => ?_) (fun c4 e => ?_)
  · refine ⟨_, rfl, rfl, ?_⟩
    refine O.stA 0 rfl ((T_heap_Object.T.len _ _ _ e_4)).symm (Flats.cons trivial (Flats.cons trivial (Flats.cons trivial (Flats.cons trivial (Flats.cons trivial Flats.nil))))) fun h1 O2 => ?_
    refine ⟨_, ldAn (Sub.refl _) (O2.all 0 rfl) rfl, ?_⟩
    have O3 := O2.nm
    cases e
    exact ⟨_, _, O3.pick [], rfl, (show T_heap_Object.E _ (T_heap_Object.mk (0 : Int) (0 : Int) (0 : Int) (ByteArray.mk #[]) ([] : List Int)) [(Value.int .i64 (0 : Int)), (Value.int .i64 (0 : Int)), (Value.int .i64 (0 : Int)), (Value.string (ByteArray.mk #[])), (Value.slice none 0 0)] from ⟨_, _, rfl, (Nat.le_refl 0), Rd.nil⟩)⟩
  · exact heap_At.j0.walk (O.pick [0]).nm rfl k_0 r_0 e_4 e
noncomputable def heap_At (a_0 : List Int) (x_1 : Int) : Option (T_heap_Object × Int) :=
  if x_1 < (0 : Int) then ((heap_At.j1 a_0 x_1 (T_heap_Object.mk (0 : Int) (0 : Int) (0 : Int) (ByteArray.mk #[]) ([] : List Int)) true)) else ((heap_At.j1 a_0 x_1 (T_heap_Object.mk (0 : Int) (0 : Int) (0 : Int) (ByteArray.mk #[]) ([] : List Int)) (decide (x_1 ≥ (((List.length a_0) : Nat) : Int)))))
set_option maxRecDepth 100000 in
theorem heap_At.walk {W : Nat → Prop} {h m : Heap} {A_0 : Option Addr} {n_0 c_0 : Nat} {a_0 : List Int} {x_1 : Int} (O : Hold W h m h m []) (ne_0 : n_0 = List.length a_0) (k_0 : List.length a_0 ≤ c_0) (r_0 : Rd 1 (eInt .u64) m A_0 a_0) {r : T_heap_Object × Int} (e : heap_At a_0 x_1 = some r) : Run Try.prog 85 #[Value.slice A_0 n_0 c_0, Value.int .i64 x_1] h (heap_At.post W h m r) := by
  unfold heap_At at e
  subst ne_0
  refine f85.run ?_
  unfold f85.runT
  refine O.new fun h1 x2 O3 => ?_
  refine split_dec_e e (fun c7 e => ?_) (fun c7 e => ?_)
  · have O5 := O3.nm
    exact heap_At.j1.walk (O5.pick [0]).nm rfl k_0 r_0 (show T_heap_Object.E _ (T_heap_Object.mk (0 : Int) (0 : Int) (0 : Int) (ByteArray.mk #[]) ([] : List Int)) [(Value.int .i64 (0 : Int)), (Value.int .i64 (0 : Int)), (Value.int .i64 (0 : Int)), (Value.string (ByteArray.mk #[])), (Value.slice none 0 0)] from ⟨_, _, rfl, (Nat.le_refl 0), Rd.nil⟩) e
  · have O6 := O3.nm
    exact heap_At.j1.walk (O6.pick [0]).nm rfl k_0 r_0 (show T_heap_Object.E _ (T_heap_Object.mk (0 : Int) (0 : Int) (0 : Int) (ByteArray.mk #[]) ([] : List Int)) [(Value.int .i64 (0 : Int)), (Value.int .i64 (0 : Int)), (Value.int .i64 (0 : Int)), (Value.string (ByteArray.mk #[])), (Value.slice none 0 0)] from ⟨_, _, rfl, (Nat.le_refl 0), Rd.nil⟩) e
def heap_Objects.post (W : Nat → Prop) (h0 m0 : Heap) (r : (List T_heap_Object) × Int) (v : Value) (h : Heap) : Prop := ∃ m A0 n0 c0, Hold W h0 m0 h m [rR (aE T_heap_Object.T) A0 c0 r.1] ∧ v = .tuple #[.slice A0 n0 c0, .int .i64 r.2] ∧ n0 = List.length r.1
inductive heap_Objects.l0_k.Pt where
  | l0 (a_0 : List Int) (a_4 : List T_heap_Object) (x_5 : Int)
noncomputable def heap_Objects.l0_k.body (go : (p : heap_Objects.l0_k.Pt) → Option ((List T_heap_Object) × Int)) : (p : heap_Objects.l0_k.Pt) → Option ((List T_heap_Object) × Int)
  | .l0 a_0 a_4 x_5 => if x_5 < (((List.length a_0) : Nat) : Int) then (Option.bind (heap_At a_0 x_5) fun y1 => if y1.2 = (0 : Int) then (Option.bind (ap 64 a_4 ([y1.1] : List T_heap_Object)) fun l25 => Option.bind (heap_room y1.1.Kind ((ByteArray.size y1.1.Text : Nat) : Int) (((List.length y1.1.Parts) : Nat) : Int)) fun y40 => (go (.l0 a_0 l25 (IntKind.wrap .i64 (x_5 + y40))))) else (some (([] : List T_heap_Object), (3 : Int)))) else (some (a_4, (0 : Int)))
theorem heap_Objects.l0_k.mono : MonoF (β := fun _ => ((List T_heap_Object) × Int)) heap_Objects.l0_k.body := fun f g hfg p => match p with
  | .l0 a_0 a_4 x_5 => LeO.ite (LeO.bind (LeO.refl _) fun y1 => LeO.ite (LeO.bind (LeO.refl _) fun l25 => LeO.bind (LeO.refl _) fun y40 => (hfg _)) (LeO.refl _)) (LeO.refl _)
noncomputable def heap_Objects.l0_k.go (p : heap_Objects.l0_k.Pt) : Option ((List T_heap_Object) × Int) := fixF (β := fun _ => ((List T_heap_Object) × Int)) heap_Objects.l0_k.body p
noncomputable def heap_Objects.l0 (a_0 : List Int) (a_4 : List T_heap_Object) (x_5 : Int) : Option ((List T_heap_Object) × Int) := heap_Objects.l0_k.go (.l0 a_0 a_4 x_5)
theorem heap_Objects.l0_eq (a_0 : List Int) (a_4 : List T_heap_Object) (x_5 : Int) : heap_Objects.l0 a_0 a_4 x_5 = if x_5 < (((List.length a_0) : Nat) : Int) then (Option.bind (heap_At a_0 x_5) fun y1 => if y1.2 = (0 : Int) then (Option.bind (ap 64 a_4 ([y1.1] : List T_heap_Object)) fun l25 => Option.bind (heap_room y1.1.Kind ((ByteArray.size y1.1.Text : Nat) : Int) (((List.length y1.1.Parts) : Nat) : Int)) fun y40 => (heap_Objects.l0 a_0 l25 (IntKind.wrap .i64 (x_5 + y40)))) else (some (([] : List T_heap_Object), (3 : Int)))) else (some (a_4, (0 : Int))) := fixF_eq heap_Objects.l0_k.mono _
def heap_Objects.l0_k.I : (p : heap_Objects.l0_k.Pt) → ((List T_heap_Object) × Int) → Prop
  | .l0 a_0 a_4 x_5, r => ∀ (W : Nat → Prop) (h0 m0 h m : Heap) (A_0 : Option Addr) (n_0 c_0 : Nat) (A_4 : Option Addr) (n_4 c_4 : Nat) (O : Hold W h0 m0 h m [rR (aE T_heap_Object.T) A_4 c_4 a_4]) (ne_0 : n_0 = List.length a_0) (k_0 : List.length a_0 ≤ c_0) (r_0 : Rd 1 (eInt .u64) m A_0 a_0) (ne_4 : n_4 = List.length a_4), f83.l0 (heap_Objects.post W h0 m0 r) A_0 n_0 c_0 A_4 n_4 c_4 x_5 h
set_option maxHeartbeats 4000000 in
set_option maxRecDepth 100000 in
theorem heap_Objects.l0_k.step_l0 (go : (p : heap_Objects.l0_k.Pt) → Option ((List T_heap_Object) × Int)) (ih : ∀ p r, go p = some r → heap_Objects.l0_k.I p r) (a_0 : List Int) (a_4 : List T_heap_Object) (x_5 : Int) (r : (List T_heap_Object) × Int) (e : heap_Objects.l0_k.body go (.l0 a_0 a_4 x_5) = some r) : heap_Objects.l0_k.I (.l0 a_0 a_4 x_5) r := by
  unfold heap_Objects.l0_k.body at e
  intro W h0 m0 h m A_0 n_0 c_0 A_4 n_4 c_4 O ne_0 k_0 r_0 ne_4
  subst ne_0
  subst ne_4
  refine f83.l0_in ?_
  unfold f83.l0T
  refine split_dec_e e (fun c48 e => ?_) (fun c48 e => ?_)
  · obtain ⟨y1, g2, e⟩ := bind_e e
    refine (heap_At.walk (Hold.start (W := No) O.s) rfl k_0 r_0 g2).mono ?_
    rintro _ h3 ⟨m4, cs8, Q5, rfl, he9⟩
    have O10 := Hold.nm (O.ret Q5)
    refine ⟨_, _, rfl, ?_⟩
    refine O10.new fun h11 x12 O13 => ?_
    refine ⟨_, rfl, (T_heap_Object.T.len _ _ _ he9), ?_⟩
    refine O13.stA 1 rfl (T_heap_Object.T.len _ _ _ he9) (T_heap_Object.T.flat _ _ _ he9) fun h15 O16 => ?_
    refine split_ne_e e (fun c47 e => ?_) (fun c47 e => ?_)
    · have O17 := O16.nil (aE T_heap_Object.T) none
      have O19 := O17.nm
      cases e
      exact ⟨_, _, _, _, O19.pick [2], rfl, rfl⟩
    · refine ⟨_, ldAn (Sub.refl _) (O16.all 1 rfl) (T_heap_Object.T.len _ _ _ he9), ?_⟩
      refine ⟨cs8, rfl, (T_heap_Object.T.len _ _ _ he9), ?_⟩
      refine O16.new fun h20 x21 O22 => ?_
      have O24 := O22.recell 2 rfl (cs' := cs8 ++ []) rfl
      obtain ⟨l25, g26, e⟩ := bind_e e
      have O33 := O24.rowE (l := ([y1.1] : List T_heap_Object)) 2 rfl T_heap_Object.T (show CsE _ _ _ _ _ from (CsE.cons he9 (T_heap_Object.T.len _ _ _ he9) CsE.nil)) rfl
      refine O33.app 0 rfl rfl rfl ((O33.os 2 rfl).srcE rfl) (by decide) g26 fun A27 c28 h29 O30 => ?_
      refine ⟨_, _, _, rfl, ?_⟩
      have O34 := O30.nm
      refine ⟨_, ldk (k := 1) (Sub.refl _) (O34.all 1 rfl) (T_heap_Object.g1 he9), _, rfl, ?_⟩
      refine ⟨_, ldk (k := 3) (Sub.refl _) (O34.all 1 rfl) (T_heap_Object.g3 he9), _, rfl, ?_⟩
      obtain ⟨A35, c36, q37, k38, r39⟩ := T_heap_Object.g4 he9
      refine ⟨_, ldk (k := 4) (Sub.refl _) (O34.all 1 rfl) q37, _, _, _, rfl, ?_⟩
      obtain ⟨y40, g41, e⟩ := bind_e e
      refine (heap_room.walk (Hold.start (W := No) O34.s)  g41).mono ?_
      rintro _ h42 ⟨m43, Q44, rfl⟩
      have O46 := Hold.nm (O34.retC Q44 vfs_nil)
      refine ⟨_, rfl, ?_⟩
      exact (ih _ _ e) _ _ _ _ _ _ _ _ _ _ _ (O46.pick [0]).nm rfl k_0 (r_0.sub (tell_int .u64) Q5.S.up) rfl
  · cases e
    exact ⟨_, _, _, _, O.pick [0], rfl, rfl⟩
theorem heap_Objects.l0_k.all {p : heap_Objects.l0_k.Pt} {r : ((List T_heap_Object) × Int)} (e : heap_Objects.l0_k.go p = some r) : heap_Objects.l0_k.I p r := fixF_ind (β := fun _ => ((List T_heap_Object) × Int)) heap_Objects.l0_k.mono (I := heap_Objects.l0_k.I) (fun go ih p r e => match p with
  | .l0 a_0 a_4 x_5 => heap_Objects.l0_k.step_l0 go ih a_0 a_4 x_5 r e
  ) e
theorem heap_Objects.l0.walk {W : Nat → Prop} {h0 m0 h m : Heap} {A_0 : Option Addr} {n_0 c_0 : Nat} {A_4 : Option Addr} {n_4 c_4 : Nat} {a_0 : List Int} {a_4 : List T_heap_Object} {x_5 : Int} (O : Hold W h0 m0 h m [rR (aE T_heap_Object.T) A_4 c_4 a_4]) (ne_0 : n_0 = List.length a_0) (k_0 : List.length a_0 ≤ c_0) (r_0 : Rd 1 (eInt .u64) m A_0 a_0) (ne_4 : n_4 = List.length a_4) {r : (List T_heap_Object) × Int} (e : heap_Objects.l0 a_0 a_4 x_5 = some r) : f83.l0 (heap_Objects.post W h0 m0 r) A_0 n_0 c_0 A_4 n_4 c_4 x_5 h := heap_Objects.l0_k.all (p := .l0 a_0 a_4 x_5) e W h0 m0 h m A_0 n_0 c_0 A_4 n_4 c_4 O ne_0 k_0 r_0 ne_4
noncomputable def heap_Objects (a_0 : List Int) : Option ((List T_heap_Object) × Int) :=
  if (((List.length a_0) : Nat) : Int) > (4000 : Int) then (some (([] : List T_heap_Object), (2 : Int))) else ((heap_Objects.l0 a_0 ([] : List T_heap_Object) (0 : Int)))
set_option maxRecDepth 100000 in
theorem heap_Objects.walk {W : Nat → Prop} {h m : Heap} {A_0 : Option Addr} {n_0 c_0 : Nat} {a_0 : List Int} (O : Hold W h m h m []) (ne_0 : n_0 = List.length a_0) (k_0 : List.length a_0 ≤ c_0) (r_0 : Rd 1 (eInt .u64) m A_0 a_0) {r : (List T_heap_Object) × Int} (e : heap_Objects a_0 = some r) : Run Try.prog 83 #[Value.slice A_0 n_0 c_0] h (heap_Objects.post W h m r) := by
  unfold heap_Objects at e
  subst ne_0
  refine f83.run ?_
  unfold f83.runT
  refine split_dec_e e (fun c7 e => ?_) (fun c7 e => ?_)
  · have O1 := O.nil (aE T_heap_Object.T) none
    have O3 := O1.nm
    cases e
    exact ⟨_, _, _, _, O3.pick [0], rfl, rfl⟩
  · have O4 := O.nil (aE T_heap_Object.T) none
    have O6 := O4.nm
    exact heap_Objects.l0.walk (O6.pick [0]).nm rfl k_0 r_0 rfl e
def term_Small.post (W : Nat → Prop) (h0 m0 : Heap) (r : Bool) (v : Value) (h : Heap) : Prop := ∃ m , Hold W h0 m0 h m [] ∧ v = .bool r
noncomputable def term_Small (x_0 : Int) : Option (Bool) :=
  if x_0 ≥ (-1152921504606846976 : Int) then (some ((decide (x_0 < (1152921504606846976 : Int))))) else (some (false))
set_option maxRecDepth 100000 in
theorem term_Small.walk {W : Nat → Prop} {h m : Heap} {x_0 : Int} (O : Hold W h m h m []) {r : Bool} (e : term_Small x_0 = some r) : Run Try.prog 161 #[Value.int .i64 x_0] h (term_Small.post W h m r) := by
  unfold term_Small at e
  refine f161.run ?_
  unfold f161.runT
  refine split_dec_e e (fun c1 e => ?_) (fun c1 e => ?_)
  · cases e
    exact ⟨_, O.pick [], rfl⟩
  · cases e
    exact ⟨_, O.pick [], rfl⟩
def term_Word.post (W : Nat → Prop) (h0 m0 : Heap) (r : Int × Int) (v : Value) (h : Heap) : Prop := ∃ m , Hold W h0 m0 h m [] ∧ v = .tuple #[.int .u64 r.1, .int .i64 r.2]
noncomputable def term_Word.j2 (b_49 : Bool) : Option (Int × Int) :=
  if b_49 = true then (some ((0 : Int), (1 : Int))) else (some ((0 : Int), (2 : Int)))
set_option maxRecDepth 100000 in
theorem term_Word.j2.walk {W : Nat → Prop} {h0 m0 h m : Heap} {b_49 : Bool} (O : Hold W h0 m0 h m []) {r : Int × Int} (e : term_Word.j2 b_49 = some r) : f133.j2 (term_Word.post W h0 m0 r) b_49 h := by
  unfold term_Word.j2 at e
  refine f133.j2_in ?_
  unfold f133.j2T
  refine split_any_e e (fun c1 e => ?_) (fun c1 e => ?_)
  · cases e
    exact ⟨_, O.pick [], rfl⟩
  · cases e
    exact ⟨_, O.pick [], rfl⟩
noncomputable def term_Word.j0 (x_0 : Int) (x_1 : Int) (b_6 : Bool) : Option (Int × Int) :=
  if b_6 = true then (some ((bitsI .or .u64 (shlI .u64 (IntKind.wrap .u64 x_1) (3 : Int)) (IntKind.wrap .u64 x_0)), (0 : Int))) else (if x_0 < (0 : Int) then ((term_Word.j2 true)) else ((term_Word.j2 (decide (x_0 > (4 : Int))))))
set_option maxRecDepth 100000 in
theorem term_Word.j0.walk {W : Nat → Prop} {h0 m0 h m : Heap} {x_0 : Int} {x_1 : Int} {b_6 : Bool} (O : Hold W h0 m0 h m []) {r : Int × Int} (e : term_Word.j0 x_0 x_1 b_6 = some r) : f133.j0 (term_Word.post W h0 m0 r) x_0 x_1 b_6 h := by
  unfold term_Word.j0 at e
  refine f133.j0_in ?_
  unfold f133.j0T
  refine split_any_e e (fun c2 e => ?_) (fun c2 e => ?_)
  · refine ⟨by decide, ?_⟩
    cases e
    exact ⟨_, O.pick [], rfl⟩
  · refine split_dec_e e (fun c1 e => ?_) (fun c1 e => ?_)
    · exact term_Word.j2.walk (O.pick []).nm  e
    · exact term_Word.j2.walk (O.pick []).nm  e
noncomputable def term_Word.j4 (x_0 : Int) (x_1 : Int) (b_6 : Bool) : Option (Int × Int) :=
  if b_6 = true then ((term_Word.j0 x_0 x_1 b_6)) else (if x_0 = (3 : Int) then (if x_1 ≥ (0 : Int) then ((term_Word.j0 x_0 x_1 (decide (x_1 < (1152921504606846976 : Int))))) else ((term_Word.j0 x_0 x_1 false))) else (if x_0 = (4 : Int) then (if x_1 ≥ (0 : Int) then ((term_Word.j0 x_0 x_1 (decide (x_1 < (1152921504606846976 : Int))))) else ((term_Word.j0 x_0 x_1 false))) else ((term_Word.j0 x_0 x_1 false))))
set_option maxRecDepth 100000 in
theorem term_Word.j4.walk {W : Nat → Prop} {h0 m0 h m : Heap} {x_0 : Int} {x_1 : Int} {b_6 : Bool} (O : Hold W h0 m0 h m []) {r : Int × Int} (e : term_Word.j4 x_0 x_1 b_6 = some r) : f133.j4 (term_Word.post W h0 m0 r) x_0 x_1 b_6 h := by
  unfold term_Word.j4 at e
  refine f133.j4_in ?_
  unfold f133.j4T
  refine split_any_e e (fun c5 e => ?_) (fun c5 e => ?_)
  · exact term_Word.j0.walk (O.pick []).nm  e
  · refine split_eq_e e (fun c4 e => ?_) (fun c4 e => ?_)
    · refine split_dec_e e (fun c1 e => ?_) (fun c1 e => ?_)
      · exact term_Word.j0.walk (O.pick []).nm  e
      · exact term_Word.j0.walk (O.pick []).nm  e
    · refine split_eq_e e (fun c3 e => ?_) (fun c3 e => ?_)
      · refine split_dec_e e (fun c2 e => ?_) (fun c2 e => ?_)
        · exact term_Word.j0.walk (O.pick []).nm  e
        · exact term_Word.j0.walk (O.pick []).nm  e
      · exact term_Word.j0.walk (O.pick []).nm  e
noncomputable def term_Word.j3 (x_0 : Int) (x_1 : Int) (b_6 : Bool) : Option (Int × Int) :=
  if b_6 = true then ((term_Word.j0 x_0 x_1 b_6)) else (if x_0 = (1 : Int) then (Option.bind (term_Small x_1) fun y1 => (term_Word.j4 x_0 x_1 y1)) else ((term_Word.j4 x_0 x_1 false)))
set_option maxRecDepth 100000 in
theorem term_Word.j3.walk {W : Nat → Prop} {h0 m0 h m : Heap} {x_0 : Int} {x_1 : Int} {b_6 : Bool} (O : Hold W h0 m0 h m []) {r : Int × Int} (e : term_Word.j3 x_0 x_1 b_6 = some r) : f133.j3 (term_Word.post W h0 m0 r) x_0 x_1 b_6 h := by
  unfold term_Word.j3 at e
  refine f133.j3_in ?_
  unfold f133.j3T
  refine split_any_e e (fun c9 e => ?_) (fun c9 e => ?_)
  · exact term_Word.j0.walk (O.pick []).nm  e
  · refine split_eq_e e (fun c8 e => ?_) (fun c8 e => ?_)
    · obtain ⟨y1, g2, e⟩ := bind_e e
      refine (term_Small.walk (Hold.start (W := No) O.s)  g2).mono ?_
      rintro _ h3 ⟨m4, Q5, rfl⟩
      have O7 := Hold.nm (O.retC Q5 vfs_nil)
      refine ⟨_, rfl, ?_⟩
      exact term_Word.j4.walk (O7.pick []).nm  e
    · exact term_Word.j4.walk (O.pick []).nm  e
noncomputable def term_Word.j1 (x_0 : Int) (x_1 : Int) (b_6 : Bool) : Option (Int × Int) :=
  if b_6 = true then ((term_Word.j0 x_0 x_1 b_6)) else (if x_0 = (2 : Int) then (if x_1 = (0 : Int) then ((term_Word.j3 x_0 x_1 true)) else ((term_Word.j3 x_0 x_1 (x_1 == (1 : Int))))) else ((term_Word.j3 x_0 x_1 false)))
set_option maxRecDepth 100000 in
theorem term_Word.j1.walk {W : Nat → Prop} {h0 m0 h m : Heap} {x_0 : Int} {x_1 : Int} {b_6 : Bool} (O : Hold W h0 m0 h m []) {r : Int × Int} (e : term_Word.j1 x_0 x_1 b_6 = some r) : f133.j1 (term_Word.post W h0 m0 r) x_0 x_1 b_6 h := by
  unfold term_Word.j1 at e
  refine f133.j1_in ?_
  unfold f133.j1T
  refine split_any_e e (fun c3 e => ?_) (fun c3 e => ?_)
  · exact term_Word.j0.walk (O.pick []).nm  e
  · refine split_eq_e e (fun c2 e => ?_) (fun c2 e => ?_)
    · refine split_eq_e e (fun c1 e => ?_) (fun c1 e => ?_)
      · exact term_Word.j3.walk (O.pick []).nm  e
      · exact term_Word.j3.walk (O.pick []).nm  e
    · exact term_Word.j3.walk (O.pick []).nm  e
noncomputable def term_Word (x_0 : Int) (x_1 : Int) : Option (Int × Int) :=
  if x_0 = (0 : Int) then ((term_Word.j1 x_0 x_1 (x_1 == (0 : Int)))) else ((term_Word.j1 x_0 x_1 false))
set_option maxRecDepth 100000 in
theorem term_Word.walk {W : Nat → Prop} {h m : Heap} {x_0 : Int} {x_1 : Int} (O : Hold W h m h m []) {r : Int × Int} (e : term_Word x_0 x_1 = some r) : Run Try.prog 133 #[Value.int .i64 x_0, Value.int .i64 x_1] h (term_Word.post W h m r) := by
  unfold term_Word at e
  refine f133.run ?_
  unfold f133.runT
  refine split_eq_e e (fun c1 e => ?_) (fun c1 e => ?_)
  · exact term_Word.j1.walk (O.pick []).nm  e
  · exact term_Word.j1.walk (O.pick []).nm  e
def term_Read.post (W : Nat → Prop) (h0 m0 : Heap) (r : Int × Int × Int) (v : Value) (h : Heap) : Prop := ∃ m , Hold W h0 m0 h m [] ∧ v = .tuple #[.int .i64 r.1, .int .i64 r.2.1, .int .i64 r.2.2]
noncomputable def term_Read.j1 (x_5 : Int) (x_6 : Int) : Option (Int × Int × Int) :=
  some (x_5, x_6, (0 : Int))
set_option maxRecDepth 100000 in
theorem term_Read.j1.walk {W : Nat → Prop} {h0 m0 h m : Heap} {x_5 : Int} {x_6 : Int} (O : Hold W h0 m0 h m []) {r : Int × Int × Int} (e : term_Read.j1 x_5 x_6 = some r) : f84.j1 (term_Read.post W h0 m0 r) x_5 x_6 h := by
  unfold term_Read.j1 at e
  refine f84.j1_in ?_
  unfold f84.j1T
  cases e
  exact ⟨_, O.pick [], rfl⟩
noncomputable def term_Read.j2 (x_5 : Int) (x_6 : Int) (b_32 : Bool) : Option (Int × Int × Int) :=
  if b_32 = true then (some ((0 : Int), (0 : Int), (3 : Int))) else ((term_Read.j1 x_5 x_6))
set_option maxRecDepth 100000 in
theorem term_Read.j2.walk {W : Nat → Prop} {h0 m0 h m : Heap} {x_5 : Int} {x_6 : Int} {b_32 : Bool} (O : Hold W h0 m0 h m []) {r : Int × Int × Int} (e : term_Read.j2 x_5 x_6 b_32 = some r) : f84.j2 (term_Read.post W h0 m0 r) x_5 x_6 b_32 h := by
  unfold term_Read.j2 at e
  refine f84.j2_in ?_
  unfold f84.j2T
  refine split_any_e e (fun c1 e => ?_) (fun c1 e => ?_)
  · cases e
    exact ⟨_, O.pick [], rfl⟩
  · exact term_Read.j1.walk (O.pick []).nm  e
noncomputable def term_Read.j0 (x_0 : Int) (x_5 : Int) (x_6 : Int) : Option (Int × Int × Int) :=
  Option.bind (term_Word x_5 x_6) fun y1 => if y1.2 = (0 : Int) then ((term_Read.j2 x_5 x_6 (y1.1 != x_0))) else ((term_Read.j2 x_5 x_6 true))
set_option maxRecDepth 100000 in
theorem term_Read.j0.walk {W : Nat → Prop} {h0 m0 h m : Heap} {x_0 : Int} {x_5 : Int} {x_6 : Int} (O : Hold W h0 m0 h m []) {r : Int × Int × Int} (e : term_Read.j0 x_0 x_5 x_6 = some r) : f84.j0 (term_Read.post W h0 m0 r) x_0 x_5 x_6 h := by
  unfold term_Read.j0 at e
  refine f84.j0_in ?_
  unfold f84.j0T
  obtain ⟨y1, g2, e⟩ := bind_e e
  refine (term_Word.walk (Hold.start (W := No) O.s)  g2).mono ?_
  rintro _ h3 ⟨m4, Q5, rfl⟩
  have O7 := Hold.nm (O.retC Q5 vfs_nil)
  refine ⟨_, _, rfl, ?_⟩
  refine split_ne_e e (fun c8 e => ?_) (fun c8 e => ?_)
  · exact term_Read.j2.walk (O7.pick []).nm  e
  · exact term_Read.j2.walk (O7.pick []).nm  e
noncomputable def term_Read (x_0 : Int) : Option (Int × Int × Int) :=
  if (IntKind.wrap .i64 (Int.tmod x_0 (8 : Int))) = (1 : Int) then ((term_Read.j0 x_0 (IntKind.wrap .i64 (Int.tmod x_0 (8 : Int))) (shrI .i64 (IntKind.wrap .i64 x_0) (3 : Int)))) else ((term_Read.j0 x_0 (IntKind.wrap .i64 (Int.tmod x_0 (8 : Int))) (IntKind.wrap .i64 (shrI .u64 x_0 (3 : Int)))))
set_option maxRecDepth 100000 in
theorem term_Read.walk {W : Nat → Prop} {h m : Heap} {x_0 : Int} (O : Hold W h m h m []) {r : Int × Int × Int} (e : term_Read x_0 = some r) : Run Try.prog 84 #[Value.int .u64 x_0] h (term_Read.post W h m r) := by
  unfold term_Read at e
  refine f84.run ?_
  unfold f84.runT
  refine ⟨by decide, ?_⟩
  refine ⟨by decide, ?_⟩
  refine split_eq_e e (fun c1 e => ?_) (fun c1 e => ?_)
  · refine ⟨by decide, ?_⟩
    exact term_Read.j0.walk (O.pick []).nm  e
  · exact term_Read.j0.walk (O.pick []).nm  e
def carry_Cells.post (W : Nat → Prop) (h0 m0 : Heap) (r : (List Int) × Int) (v : Value) (h : Heap) : Prop := ∃ m A0 n0 c0, Hold W h0 m0 h m [rR (aE (tell_int .i64)) A0 c0 r.1] ∧ v = .tuple #[.slice A0 n0 c0, .int .i64 r.2] ∧ n0 = List.length r.1
inductive carry_Cells.l0_k.Pt where
  | l0 (a_0 : List Int) (es_8 : (List (Int × Bool))) (a_9 : List Int) (a_10 : List Int)
  | j0 (a_0 : List Int) (es_8 : (List (Int × Bool))) (a_9 : List Int) (a_10 : List Int) (x_12 : Int)
  | j1 (a_0 : List Int) (es_8 : (List (Int × Bool))) (a_9 : List Int) (a_10 : List Int) (y_14 : T_heap_Object)
noncomputable def carry_Cells.l0_k.body (go : (p : carry_Cells.l0_k.Pt) → Option ((List Int) × Int)) : (p : carry_Cells.l0_k.Pt) → Option ((List Int) × Int)
  | .l0 a_0 es_8 a_9 a_10 => if (((List.length a_9) : Nat) : Int) > (0 : Int) then (Option.bind (gi a_9 (0 : Int)) fun y1 => Option.bind (term_Read y1) fun y8 => Option.bind (sls a_9 (1 : Int) (((List.length a_9) : Nat) : Int)) fun l15 => if y8.2.2 = (0 : Int) then (if y8.1 = (4 : Int) then (if (pgd es_8 y8.2.1 false) = true then ((go (.l0 a_0 es_8 l15 a_10))) else ((go (.j0 a_0 es_8 l15 a_10 y8.2.1)))) else ((go (.l0 a_0 es_8 l15 a_10)))) else (some (([] : List Int), y8.2.2))) else (Option.bind (slices_Sort_14 a_10) fun y35 => some (y35, (0 : Int)))
  | .j0 a_0 es_8 a_9 a_10 x_12 => Option.bind (heap_At a_0 x_12) fun y1 => if y1.2 = (0 : Int) then (Option.bind (some (pset es_8 x_12 true)) fun l22 => if y1.1.Kind = (5 : Int) then (Option.bind (ap 8 a_10 ([x_12] : List Int)) fun l28 => (go (.j1 a_0 l22 a_9 l28 y1.1))) else ((go (.j1 a_0 l22 a_9 a_10 y1.1)))) else (some (([] : List Int), y1.2))
  | .j1 a_0 es_8 a_9 a_10 y_14 => Option.bind (ap 8 a_9 y_14.Parts) fun l6 => (go (.l0 a_0 es_8 l6 a_10))
theorem carry_Cells.l0_k.mono : MonoF (β := fun _ => ((List Int) × Int)) carry_Cells.l0_k.body := fun f g hfg p => match p with
  | .l0 a_0 es_8 a_9 a_10 => LeO.ite (LeO.bind (LeO.refl _) fun y1 => LeO.bind (LeO.refl _) fun y8 => LeO.bind (LeO.refl _) fun l15 => LeO.ite (LeO.ite (LeO.ite ((hfg _)) ((hfg _))) ((hfg _))) (LeO.refl _)) (LeO.bind (LeO.refl _) fun y35 => LeO.refl _)
  | .j0 a_0 es_8 a_9 a_10 x_12 => LeO.bind (LeO.refl _) fun y1 => LeO.ite (LeO.bind (LeO.refl _) fun l22 => LeO.ite (LeO.bind (LeO.refl _) fun l28 => (hfg _)) ((hfg _))) (LeO.refl _)
  | .j1 a_0 es_8 a_9 a_10 y_14 => LeO.bind (LeO.refl _) fun l6 => (hfg _)
noncomputable def carry_Cells.l0_k.go (p : carry_Cells.l0_k.Pt) : Option ((List Int) × Int) := fixF (β := fun _ => ((List Int) × Int)) carry_Cells.l0_k.body p
noncomputable def carry_Cells.l0 (a_0 : List Int) (es_8 : (List (Int × Bool))) (a_9 : List Int) (a_10 : List Int) : Option ((List Int) × Int) := carry_Cells.l0_k.go (.l0 a_0 es_8 a_9 a_10)
noncomputable def carry_Cells.j0 (a_0 : List Int) (es_8 : (List (Int × Bool))) (a_9 : List Int) (a_10 : List Int) (x_12 : Int) : Option ((List Int) × Int) := carry_Cells.l0_k.go (.j0 a_0 es_8 a_9 a_10 x_12)
noncomputable def carry_Cells.j1 (a_0 : List Int) (es_8 : (List (Int × Bool))) (a_9 : List Int) (a_10 : List Int) (y_14 : T_heap_Object) : Option ((List Int) × Int) := carry_Cells.l0_k.go (.j1 a_0 es_8 a_9 a_10 y_14)
theorem carry_Cells.l0_eq (a_0 : List Int) (es_8 : (List (Int × Bool))) (a_9 : List Int) (a_10 : List Int) : carry_Cells.l0 a_0 es_8 a_9 a_10 = if (((List.length a_9) : Nat) : Int) > (0 : Int) then (Option.bind (gi a_9 (0 : Int)) fun y1 => Option.bind (term_Read y1) fun y8 => Option.bind (sls a_9 (1 : Int) (((List.length a_9) : Nat) : Int)) fun l15 => if y8.2.2 = (0 : Int) then (if y8.1 = (4 : Int) then (if (pgd es_8 y8.2.1 false) = true then ((carry_Cells.l0 a_0 es_8 l15 a_10)) else ((carry_Cells.j0 a_0 es_8 l15 a_10 y8.2.1))) else ((carry_Cells.l0 a_0 es_8 l15 a_10))) else (some (([] : List Int), y8.2.2))) else (Option.bind (slices_Sort_14 a_10) fun y35 => some (y35, (0 : Int))) := fixF_eq carry_Cells.l0_k.mono _
theorem carry_Cells.j0_eq (a_0 : List Int) (es_8 : (List (Int × Bool))) (a_9 : List Int) (a_10 : List Int) (x_12 : Int) : carry_Cells.j0 a_0 es_8 a_9 a_10 x_12 = Option.bind (heap_At a_0 x_12) fun y1 => if y1.2 = (0 : Int) then (Option.bind (some (pset es_8 x_12 true)) fun l22 => if y1.1.Kind = (5 : Int) then (Option.bind (ap 8 a_10 ([x_12] : List Int)) fun l28 => (carry_Cells.j1 a_0 l22 a_9 l28 y1.1)) else ((carry_Cells.j1 a_0 l22 a_9 a_10 y1.1))) else (some (([] : List Int), y1.2)) := fixF_eq carry_Cells.l0_k.mono _
theorem carry_Cells.j1_eq (a_0 : List Int) (es_8 : (List (Int × Bool))) (a_9 : List Int) (a_10 : List Int) (y_14 : T_heap_Object) : carry_Cells.j1 a_0 es_8 a_9 a_10 y_14 = Option.bind (ap 8 a_9 y_14.Parts) fun l6 => (carry_Cells.l0 a_0 es_8 l6 a_10) := fixF_eq carry_Cells.l0_k.mono _
def carry_Cells.l0_k.I : (p : carry_Cells.l0_k.Pt) → ((List Int) × Int) → Prop
  | .l0 a_0 es_8 a_9 a_10, r => ∀ (W : Nat → Prop) (h0 m0 h m : Heap) (A_0 : Option Addr) (n_0 c_0 : Nat) (bk_8 : Nat) (A_9 : Option Addr) (n_9 c_9 : Nat) (A_10 : Option Addr) (n_10 c_10 : Nat) (O : Hold W h0 m0 h m [rM (monoV0 tell_bool) (fun n : Int => Value.int .i64 n) bk_8 es_8, rR (aE (tell_int .u64)) A_9 c_9 a_9, rR (aE (tell_int .i64)) A_10 c_10 a_10]) (ne_0 : n_0 = List.length a_0) (k_0 : List.length a_0 ≤ c_0) (r_0 : Rd 1 (eInt .u64) m A_0 a_0) (ne_9 : n_9 = List.length a_9) (ne_10 : n_10 = List.length a_10), f29.l0 (carry_Cells.post W h0 m0 r) A_0 n_0 c_0 (Value.map (some bk_8)) A_9 n_9 c_9 A_10 n_10 c_10 h
  | .j0 a_0 es_8 a_9 a_10 x_12, r => ∀ (W : Nat → Prop) (h0 m0 h m : Heap) (A_0 : Option Addr) (n_0 c_0 : Nat) (bk_8 : Nat) (A_9 : Option Addr) (n_9 c_9 : Nat) (A_10 : Option Addr) (n_10 c_10 : Nat) (O : Hold W h0 m0 h m [rM (monoV0 tell_bool) (fun n : Int => Value.int .i64 n) bk_8 es_8, rR (aE (tell_int .u64)) A_9 c_9 a_9, rR (aE (tell_int .i64)) A_10 c_10 a_10]) (ne_0 : n_0 = List.length a_0) (k_0 : List.length a_0 ≤ c_0) (r_0 : Rd 1 (eInt .u64) m A_0 a_0) (ne_9 : n_9 = List.length a_9) (ne_10 : n_10 = List.length a_10), f29.j0 (carry_Cells.post W h0 m0 r) A_0 n_0 c_0 (Value.map (some bk_8)) A_9 n_9 c_9 A_10 n_10 c_10 x_12 h
  | .j1 a_0 es_8 a_9 a_10 y_14, r => ∀ (W : Nat → Prop) (h0 m0 h m : Heap) (A_0 : Option Addr) (n_0 c_0 : Nat) (bk_8 : Nat) (A_9 : Option Addr) (n_9 c_9 : Nat) (A_10 : Option Addr) (n_10 c_10 : Nat) (bk_14 : Nat) (cs_14 : List Value) (O : Hold W h0 m0 h m [rM (monoV0 tell_bool) (fun n : Int => Value.int .i64 n) bk_8 es_8, rR (aE (tell_int .u64)) A_9 c_9 a_9, rR (aE (tell_int .i64)) A_10 c_10 a_10, rV bk_14 63 cs_14]) (ne_0 : n_0 = List.length a_0) (k_0 : List.length a_0 ≤ c_0) (r_0 : Rd 1 (eInt .u64) m A_0 a_0) (ne_9 : n_9 = List.length a_9) (ne_10 : n_10 = List.length a_10) (e_14 : T_heap_Object.E m y_14 cs_14), f29.j1 (carry_Cells.post W h0 m0 r) A_0 n_0 c_0 (Value.map (some bk_8)) A_9 n_9 c_9 A_10 n_10 c_10 (⟨bk_14, 0, none⟩ : Addr) h
set_option maxHeartbeats 4000000 in
set_option maxRecDepth 100000 in
theorem carry_Cells.l0_k.step_l0 (go : (p : carry_Cells.l0_k.Pt) → Option ((List Int) × Int)) (ih : ∀ p r, go p = some r → carry_Cells.l0_k.I p r) (a_0 : List Int) (es_8 : (List (Int × Bool))) (a_9 : List Int) (a_10 : List Int) (r : (List Int) × Int) (e : carry_Cells.l0_k.body go (.l0 a_0 es_8 a_9 a_10) = some r) : carry_Cells.l0_k.I (.l0 a_0 es_8 a_9 a_10) r := by
  unfold carry_Cells.l0_k.body at e
  intro W h0 m0 h m A_0 n_0 c_0 bk_8 A_9 n_9 c_9 A_10 n_10 c_10 O ne_0 k_0 r_0 ne_9 ne_10
  subst ne_0
  subst ne_9
  subst ne_10
  refine f29.l0_in ?_
  unfold f29.l0T
  refine split_dec_e e (fun c47 e => ?_) (fun c47 e => ?_)
  · obtain ⟨y1, g2, e⟩ := bind_e e
    refine (O.os 1 rfl).addr rfl g2 fun a3 cs4 ha5 hc6 he7 => ?_
    obtain rfl : cs4 = [(Value.int .u64 y1)] := he7
    refine ⟨_, ld0 (Sub.refl _) hc6 rfl, _, rfl, ?_⟩
    obtain ⟨y8, g9, e⟩ := bind_e e
    refine (term_Read.walk (Hold.start (W := No) O.s)  g9).mono ?_
    rintro _ h10 ⟨m11, Q12, rfl⟩
    have O14 := Hold.nm (O.retC Q12 vfs_nil)
    refine ⟨_, _, _, rfl, ?_⟩
    obtain ⟨l15, g16, e⟩ := bind_e e
    have q17 := sls_e g16
    refine ⟨q17.1, q17.2.1, cap_in q17.2.2.1 (O14.cap 1 rfl), ?_⟩
    try rw [q17.2.2.2.1]
    refine split_ne_e e (fun c34 e => ?_) (fun c34 e => ?_)
    · have O18 := O14.nil (aE (tell_int .i64)) none
      have O20 := O18.nm
      cases e
      exact ⟨_, _, _, _, O20.pick [3], rfl, rfl⟩
    · refine split_ne_e e (fun c33 e => ?_) (fun c33 e => ?_)
      · have O21 := O14.sls 1 rfl g16
        have O23 := O21.nm
        exact (ih _ _ e) _ _ _ _ _ _ _ _ _ _ _ _ _ _ _ (O23.pick [0, 1, 2]).nm rfl k_0 r_0 rfl rfl
      · refine (O14.om 0 rfl).look (zv := false) (z := (Value.bool false)) (keyOk_int (key := 3) (elem := 4) (by kernel_rfl) (by kernel_rfl)) y8.2.1 (by kernel_rfl) rfl (fun v24 hv25 => ?_)
        obtain rfl : v24 = (Value.bool (pgd es_8 y8.2.1 false)) := (List.cons.inj (show [v24] = [(Value.bool (pgd es_8 y8.2.1 false))] from hv25)).1
        refine ⟨_, rfl, ?_⟩
        refine split_any_e e (fun c32 e => ?_) (fun c32 e => ?_)
        · have O26 := O14.sls 1 rfl g16
          have O28 := O26.nm
          exact (ih _ _ e) _ _ _ _ _ _ _ _ _ _ _ _ _ _ _ (O28.pick [0, 1, 2]).nm rfl k_0 r_0 rfl rfl
        · have O29 := O14.sls 1 rfl g16
          have O31 := O29.nm
          exact (ih _ _ e) _ _ _ _ _ _ _ _ _ _ _ _ _ _ _ (O31.pick [0, 1, 2]).nm rfl k_0 r_0 rfl rfl
  · obtain ⟨y35, g36, e⟩ := bind_e e
    obtain ⟨W41, P42, B43, C44⟩ := O.callC [2]
    refine (slices_Sort_14.walk P42 rfl g36).mono ?_
    rintro _ h37 ⟨m38, Q39, rfl, hl45⟩
    have O46 := Hold.nm (C44 Q39 (vfs_cons (rR_vf (aE_vf (fun _ _ _ _ h => h))) vfs_nil))
    refine ⟨rfl, ?_⟩
    cases e
    exact ⟨_, _, _, _, O46.pick [3], rfl, hl45⟩
set_option maxRecDepth 100000 in
theorem carry_Cells.l0_k.step_j0 (go : (p : carry_Cells.l0_k.Pt) → Option ((List Int) × Int)) (ih : ∀ p r, go p = some r → carry_Cells.l0_k.I p r) (a_0 : List Int) (es_8 : (List (Int × Bool))) (a_9 : List Int) (a_10 : List Int) (x_12 : Int) (r : (List Int) × Int) (e : carry_Cells.l0_k.body go (.j0 a_0 es_8 a_9 a_10 x_12) = some r) : carry_Cells.l0_k.I (.j0 a_0 es_8 a_9 a_10 x_12) r := by
  unfold carry_Cells.l0_k.body at e
  intro W h0 m0 h m A_0 n_0 c_0 bk_8 A_9 n_9 c_9 A_10 n_10 c_10 O ne_0 k_0 r_0 ne_9 ne_10
  subst ne_0
  subst ne_9
  subst ne_10
  refine f29.j0_in ?_
  unfold f29.j0T
  obtain ⟨y1, g2, e⟩ := bind_e e
  refine (heap_At.walk (Hold.start (W := No) O.s) rfl k_0 r_0 g2).mono ?_
  rintro _ h3 ⟨m4, cs8, Q5, rfl, he9⟩
  have O10 := Hold.nm (O.ret Q5)
  refine ⟨_, _, rfl, ?_⟩
  refine O10.new fun h11 x12 O13 => ?_
  refine ⟨_, rfl, (T_heap_Object.T.len _ _ _ he9), ?_⟩
  refine O13.stA 3 rfl (T_heap_Object.T.len _ _ _ he9) (T_heap_Object.T.flat _ _ _ he9) fun h15 O16 => ?_
  refine split_ne_e e (fun c40 e => ?_) (fun c40 e => ?_)
  · have O17 := O16.nil (aE (tell_int .i64)) none
    have O19 := O17.nm
    cases e
    exact ⟨_, _, _, _, O19.pick [4], rfl, rfl⟩
  · obtain ⟨l22, g23, e⟩ := bind_e e
    replace g23 := Option.some.inj g23
    refine O16.mapUpd (x := true) (v := (Value.bool true)) 0 rfl (keyOk_int (key := 3) (elem := 4) (by kernel_rfl) (by kernel_rfl)) x_12 (show (eV0 eBool) m4 true (Value.bool true) from rfl) g23 fun h20 O21 => ?_
    refine ⟨_, ldk (k := 1) (Sub.refl _) (O21.all 3 rfl) (T_heap_Object.g1 he9), _, rfl, ?_⟩
    refine split_eq_e e (fun c39 e => ?_) (fun c39 e => ?_)
    · refine O21.new fun h24 x25 O26 => ?_
      obtain ⟨l28, g29, e⟩ := bind_e e
      have O36 := O26.rowE (l := ([x_12] : List Int)) 4 rfl (tell_int .i64) (show CsE _ _ _ _ _ from (CsE.cons (c1 := [(Value.int .i64 x_12)]) rfl rfl CsE.nil)) rfl
      refine O36.app 2 rfl rfl rfl ((O36.os 4 rfl).srcE rfl) (by decide) g29 fun A30 c31 h32 O33 => ?_
      refine ⟨_, _, _, rfl, ?_⟩
      have O37 := O33.nm
      exact (ih _ _ e) _ _ _ _ _ _ _ _ _ _ _ _ _ _ _ _ _ (O37.pick [0, 1, 2, 3]).nm rfl k_0 (r_0.sub (tell_int .u64) Q5.S.up) rfl rfl he9
    · have O38 := O21.nm
      exact (ih _ _ e) _ _ _ _ _ _ _ _ _ _ _ _ _ _ _ _ _ (O38.pick [0, 1, 2, 3]).nm rfl k_0 (r_0.sub (tell_int .u64) Q5.S.up) rfl rfl he9
set_option maxRecDepth 100000 in
theorem carry_Cells.l0_k.step_j1 (go : (p : carry_Cells.l0_k.Pt) → Option ((List Int) × Int)) (ih : ∀ p r, go p = some r → carry_Cells.l0_k.I p r) (a_0 : List Int) (es_8 : (List (Int × Bool))) (a_9 : List Int) (a_10 : List Int) (y_14 : T_heap_Object) (r : (List Int) × Int) (e : carry_Cells.l0_k.body go (.j1 a_0 es_8 a_9 a_10 y_14) = some r) : carry_Cells.l0_k.I (.j1 a_0 es_8 a_9 a_10 y_14) r := by
  unfold carry_Cells.l0_k.body at e
  intro W h0 m0 h m A_0 n_0 c_0 bk_8 A_9 n_9 c_9 A_10 n_10 c_10 bk_14 cs_14 O ne_0 k_0 r_0 ne_9 ne_10 e_14
  subst ne_0
  subst ne_9
  subst ne_10
  refine f29.j1_in ?_
  unfold f29.j1T
  obtain ⟨A1, c2, q3, k4, r5⟩ := T_heap_Object.g4 e_14
  refine ⟨_, ldk (k := 4) (Sub.refl _) (O.all 3 rfl) q3, _, _, _, rfl, ?_⟩
  obtain ⟨l6, g7, e⟩ := bind_e e
  refine O.app 1 rfl rfl rfl (Rd.srcE r5 (tell_int .u64) O.s rfl) (by decide) g7 fun A8 c9 h10 O11 => ?_
  refine ⟨_, _, _, rfl, ?_⟩
  have O14 := O11.nm
  exact (ih _ _ e) _ _ _ _ _ _ _ _ _ _ _ _ _ _ _ (O14.pick [0, 1, 2]).nm rfl k_0 r_0 rfl rfl
theorem carry_Cells.l0_k.all {p : carry_Cells.l0_k.Pt} {r : ((List Int) × Int)} (e : carry_Cells.l0_k.go p = some r) : carry_Cells.l0_k.I p r := fixF_ind (β := fun _ => ((List Int) × Int)) carry_Cells.l0_k.mono (I := carry_Cells.l0_k.I) (fun go ih p r e => match p with
  | .l0 a_0 es_8 a_9 a_10 => carry_Cells.l0_k.step_l0 go ih a_0 es_8 a_9 a_10 r e
  | .j0 a_0 es_8 a_9 a_10 x_12 => carry_Cells.l0_k.step_j0 go ih a_0 es_8 a_9 a_10 x_12 r e
  | .j1 a_0 es_8 a_9 a_10 y_14 => carry_Cells.l0_k.step_j1 go ih a_0 es_8 a_9 a_10 y_14 r e
  ) e
theorem carry_Cells.l0.walk {W : Nat → Prop} {h0 m0 h m : Heap} {A_0 : Option Addr} {n_0 c_0 : Nat} {bk_8 : Nat} {A_9 : Option Addr} {n_9 c_9 : Nat} {A_10 : Option Addr} {n_10 c_10 : Nat} {a_0 : List Int} {es_8 : (List (Int × Bool))} {a_9 : List Int} {a_10 : List Int} (O : Hold W h0 m0 h m [rM (monoV0 tell_bool) (fun n : Int => Value.int .i64 n) bk_8 es_8, rR (aE (tell_int .u64)) A_9 c_9 a_9, rR (aE (tell_int .i64)) A_10 c_10 a_10]) (ne_0 : n_0 = List.length a_0) (k_0 : List.length a_0 ≤ c_0) (r_0 : Rd 1 (eInt .u64) m A_0 a_0) (ne_9 : n_9 = List.length a_9) (ne_10 : n_10 = List.length a_10) {r : (List Int) × Int} (e : carry_Cells.l0 a_0 es_8 a_9 a_10 = some r) : f29.l0 (carry_Cells.post W h0 m0 r) A_0 n_0 c_0 (Value.map (some bk_8)) A_9 n_9 c_9 A_10 n_10 c_10 h := carry_Cells.l0_k.all (p := .l0 a_0 es_8 a_9 a_10) e W h0 m0 h m A_0 n_0 c_0 bk_8 A_9 n_9 c_9 A_10 n_10 c_10 O ne_0 k_0 r_0 ne_9 ne_10
noncomputable def carry_Cells (a_0 : List Int) (x_1 : Int) : Option ((List Int) × Int) :=
  Option.bind (heap_Objects a_0) fun y1 => if y1.2 = (0 : Int) then ((carry_Cells.l0 a_0 ([] : (List (Int × Bool))) ([x_1] : List Int) ([] : List Int))) else (some (([] : List Int), y1.2))
set_option maxRecDepth 100000 in
theorem carry_Cells.walk {W : Nat → Prop} {h m : Heap} {A_0 : Option Addr} {n_0 c_0 : Nat} {a_0 : List Int} {x_1 : Int} (O : Hold W h m h m []) (ne_0 : n_0 = List.length a_0) (k_0 : List.length a_0 ≤ c_0) (r_0 : Rd 1 (eInt .u64) m A_0 a_0) {r : (List Int) × Int} (e : carry_Cells a_0 x_1 = some r) : Run Try.prog 29 #[Value.slice A_0 n_0 c_0, Value.int .u64 x_1] h (carry_Cells.post W h m r) := by
  unfold carry_Cells at e
  subst ne_0
  refine f29.run ?_
  unfold f29.runT
  obtain ⟨y1, g2, e⟩ := bind_e e
  refine (heap_Objects.walk (Hold.start (W := No) O.s) rfl k_0 r_0 g2).mono ?_
  rintro _ h3 ⟨m4, A7, n8, c9, Q5, rfl, ne10⟩
  have O12 := Hold.nm (O.ret Q5)
  subst ne10
  refine ⟨_, _, _, _, rfl, ?_⟩
  refine split_ne_e e (fun c28 e => ?_) (fun c28 e => ?_)
  · have O13 := O12.nil (aE (tell_int .i64)) none
    have O15 := O13.nm
    cases e
    exact ⟨_, _, _, _, O15.pick [1], rfl, rfl⟩
  · refine O12.mkMap (ν := Bool) (monoV0 tell_bool) (fun n : Int => Value.int .i64 n) fun h16 x17 O18 => ?_
    refine O18.new fun h20 x21 O22 => ?_
    have O24 := O22.rowE (l := ([x_1] : List Int)) 2 rfl (tell_int .u64) (show CsE _ _ _ _ _ from (CsE.cons (c1 := [(Value.int .u64 x_1)]) rfl rfl CsE.nil)) rfl
    have O25 := O24.nil (aE (tell_int .i64)) none
    have O27 := O25.nm
    exact carry_Cells.l0.walk (O27.pick [1, 2, 3]).nm rfl k_0 (r_0.sub (tell_int .u64) Q5.S.up) rfl rfl e
def roadref3_ObjectWords.post (W : Nat → Prop) (h0 m0 : Heap) (r : (List Int)) (v : Value) (h : Heap) : Prop := ∃ m A0 n0 c0, Hold W h0 m0 h m [rR (aE (tell_int .u64)) A0 c0 r] ∧ v = .slice A0 n0 c0 ∧ n0 = List.length r
inductive roadref3_ObjectWords.l0_k.Pt where
  | l0 (y_1 : T_heap_Object) (a_3 : List Int) (s_4 : ByteArray)
  | l1 (y_1 : T_heap_Object) (a_3 : List Int) (s_4 : ByteArray) (x_5 : Int) (x_6 : Int) (x_7 : Int)
noncomputable def roadref3_ObjectWords.l0_k.body (go : (p : roadref3_ObjectWords.l0_k.Pt) → Option ((List Int))) : (p : roadref3_ObjectWords.l0_k.Pt) → Option ((List Int))
  | .l0 y_1 a_3 s_4 => if s_4 = (ByteArray.mk #[]) then (Option.bind (ap 8 a_3 y_1.Parts) fun l6 => some (l6)) else ((go (.l1 y_1 a_3 s_4 (if ((ByteArray.size s_4 : Nat) : Int) < (8 : Int) then ((ByteArray.size s_4 : Nat) : Int) else (8 : Int)) (0 : Int) (IntKind.wrap .i64 ((if ((ByteArray.size s_4 : Nat) : Int) < (8 : Int) then ((ByteArray.size s_4 : Nat) : Int) else (8 : Int)) - (1 : Int))))))
  | .l1 y_1 a_3 s_4 x_5 x_6 x_7 => if x_7 ≥ (0 : Int) then (Option.bind (gb s_4 x_7) fun y1 => (go (.l1 y_1 a_3 s_4 x_5 (IntKind.wrap .u64 ((IntKind.wrap .u64 ((256 : Int) * x_6)) + (IntKind.wrap .u64 y1))) (IntKind.wrap .i64 (x_7 - (1 : Int)))))) else (if 0 ≤ x_5 ∧ x_5 ≤ ((ByteArray.size s_4 : Nat) : Int) ∧ ((ByteArray.size s_4 : Nat) : Int) ≤ ((ByteArray.size s_4 : Nat) : Int) then (Option.bind (ap 8 a_3 ([x_6] : List Int)) fun l12 => (go (.l0 y_1 l12 (ByteArray.extract s_4 (Int.toNat x_5) (Int.toNat ((ByteArray.size s_4 : Nat) : Int)))))) else none)
theorem roadref3_ObjectWords.l0_k.mono : MonoF (β := fun _ => ((List Int))) roadref3_ObjectWords.l0_k.body := fun f g hfg p => match p with
  | .l0 y_1 a_3 s_4 => LeO.ite (LeO.bind (LeO.refl _) fun l6 => LeO.refl _) ((hfg _))
  | .l1 y_1 a_3 s_4 x_5 x_6 x_7 => LeO.ite (LeO.bind (LeO.refl _) fun y1 => (hfg _)) (LeO.ite (LeO.bind (LeO.refl _) fun l12 => (hfg _)) (LeO.refl _))
noncomputable def roadref3_ObjectWords.l0_k.go (p : roadref3_ObjectWords.l0_k.Pt) : Option ((List Int)) := fixF (β := fun _ => ((List Int))) roadref3_ObjectWords.l0_k.body p
noncomputable def roadref3_ObjectWords.l0 (y_1 : T_heap_Object) (a_3 : List Int) (s_4 : ByteArray) : Option ((List Int)) := roadref3_ObjectWords.l0_k.go (.l0 y_1 a_3 s_4)
noncomputable def roadref3_ObjectWords.l1 (y_1 : T_heap_Object) (a_3 : List Int) (s_4 : ByteArray) (x_5 : Int) (x_6 : Int) (x_7 : Int) : Option ((List Int)) := roadref3_ObjectWords.l0_k.go (.l1 y_1 a_3 s_4 x_5 x_6 x_7)
theorem roadref3_ObjectWords.l0_eq (y_1 : T_heap_Object) (a_3 : List Int) (s_4 : ByteArray) : roadref3_ObjectWords.l0 y_1 a_3 s_4 = if s_4 = (ByteArray.mk #[]) then (Option.bind (ap 8 a_3 y_1.Parts) fun l6 => some (l6)) else ((roadref3_ObjectWords.l1 y_1 a_3 s_4 (if ((ByteArray.size s_4 : Nat) : Int) < (8 : Int) then ((ByteArray.size s_4 : Nat) : Int) else (8 : Int)) (0 : Int) (IntKind.wrap .i64 ((if ((ByteArray.size s_4 : Nat) : Int) < (8 : Int) then ((ByteArray.size s_4 : Nat) : Int) else (8 : Int)) - (1 : Int))))) := fixF_eq roadref3_ObjectWords.l0_k.mono _
theorem roadref3_ObjectWords.l1_eq (y_1 : T_heap_Object) (a_3 : List Int) (s_4 : ByteArray) (x_5 : Int) (x_6 : Int) (x_7 : Int) : roadref3_ObjectWords.l1 y_1 a_3 s_4 x_5 x_6 x_7 = if x_7 ≥ (0 : Int) then (Option.bind (gb s_4 x_7) fun y1 => (roadref3_ObjectWords.l1 y_1 a_3 s_4 x_5 (IntKind.wrap .u64 ((IntKind.wrap .u64 ((256 : Int) * x_6)) + (IntKind.wrap .u64 y1))) (IntKind.wrap .i64 (x_7 - (1 : Int))))) else (if 0 ≤ x_5 ∧ x_5 ≤ ((ByteArray.size s_4 : Nat) : Int) ∧ ((ByteArray.size s_4 : Nat) : Int) ≤ ((ByteArray.size s_4 : Nat) : Int) then (Option.bind (ap 8 a_3 ([x_6] : List Int)) fun l12 => (roadref3_ObjectWords.l0 y_1 l12 (ByteArray.extract s_4 (Int.toNat x_5) (Int.toNat ((ByteArray.size s_4 : Nat) : Int))))) else none) := fixF_eq roadref3_ObjectWords.l0_k.mono _
def roadref3_ObjectWords.l0_k.I : (p : roadref3_ObjectWords.l0_k.Pt) → ((List Int)) → Prop
  | .l0 y_1 a_3 s_4, r => ∀ (W : Nat → Prop) (h0 m0 h m : Heap) (bk_1 : Nat) (cs_1 : List Value) (A_3 : Option Addr) (n_3 c_3 : Nat) (O : Hold W h0 m0 h m [rV bk_1 63 cs_1, rR (aE (tell_int .u64)) A_3 c_3 a_3]) (e_1 : T_heap_Object.E m y_1 cs_1) (ne_3 : n_3 = List.length a_3), f86.l0 (roadref3_ObjectWords.post W h0 m0 r) (⟨bk_1, 0, none⟩ : Addr) A_3 n_3 c_3 s_4 h
  | .l1 y_1 a_3 s_4 x_5 x_6 x_7, r => ∀ (W : Nat → Prop) (h0 m0 h m : Heap) (bk_1 : Nat) (cs_1 : List Value) (A_3 : Option Addr) (n_3 c_3 : Nat) (O : Hold W h0 m0 h m [rV bk_1 63 cs_1, rR (aE (tell_int .u64)) A_3 c_3 a_3]) (e_1 : T_heap_Object.E m y_1 cs_1) (ne_3 : n_3 = List.length a_3), f86.l1 (roadref3_ObjectWords.post W h0 m0 r) (⟨bk_1, 0, none⟩ : Addr) A_3 n_3 c_3 s_4 x_5 x_6 x_7 h
set_option maxRecDepth 100000 in
theorem roadref3_ObjectWords.l0_k.step_l0 (go : (p : roadref3_ObjectWords.l0_k.Pt) → Option ((List Int))) (ih : ∀ p r, go p = some r → roadref3_ObjectWords.l0_k.I p r) (y_1 : T_heap_Object) (a_3 : List Int) (s_4 : ByteArray) (r : (List Int)) (e : roadref3_ObjectWords.l0_k.body go (.l0 y_1 a_3 s_4) = some r) : roadref3_ObjectWords.l0_k.I (.l0 y_1 a_3 s_4) r := by
  unfold roadref3_ObjectWords.l0_k.body at e
  intro W h0 m0 h m bk_1 cs_1 A_3 n_3 c_3 O e_1 ne_3
  subst ne_3
  refine f86.l0_in ?_
  unfold f86.l0T
  try rw [ba_list s_4 (ByteArray.mk #[])]
  refine split_not ?_
  refine split_dec_e e (fun c15 e => ?_) (fun c15 e => ?_)
  · obtain ⟨A1, c2, q3, k4, r5⟩ := T_heap_Object.g4 e_1
    refine ⟨_, ldk (k := 4) (Sub.refl _) (O.all 0 rfl) q3, _, _, _, rfl, ?_⟩
    obtain ⟨l6, g7, e⟩ := bind_e e
    refine O.app 1 rfl rfl rfl (Rd.srcE r5 (tell_int .u64) O.s rfl) (by decide) g7 fun A8 c9 h10 O11 => ?_
    refine ⟨_, _, _, rfl, ?_⟩
    have O14 := O11.nm
    cases e
    exact ⟨_, _, _, _, O14.pick [1], rfl, rfl⟩
  · exact (ih _ _ e) _ _ _ _ _ _ _ _ _ _ (O.pick [0, 1]).nm e_1 rfl
set_option maxRecDepth 100000 in
theorem roadref3_ObjectWords.l0_k.step_l1 (go : (p : roadref3_ObjectWords.l0_k.Pt) → Option ((List Int))) (ih : ∀ p r, go p = some r → roadref3_ObjectWords.l0_k.I p r) (y_1 : T_heap_Object) (a_3 : List Int) (s_4 : ByteArray) (x_5 : Int) (x_6 : Int) (x_7 : Int) (r : (List Int)) (e : roadref3_ObjectWords.l0_k.body go (.l1 y_1 a_3 s_4 x_5 x_6 x_7) = some r) : roadref3_ObjectWords.l0_k.I (.l1 y_1 a_3 s_4 x_5 x_6 x_7) r := by
  unfold roadref3_ObjectWords.l0_k.body at e
  intro W h0 m0 h m bk_1 cs_1 A_3 n_3 c_3 O e_1 ne_3
  subst ne_3
  refine f86.l1_in ?_
  unfold f86.l1T
  refine split_dec_e e (fun c22 e => ?_) (fun c22 e => ?_)
  · obtain ⟨y1, g2, e⟩ := bind_e e
    obtain ⟨q3, b4, q5, q6⟩ := gb_e g2
    refine ⟨q3, _, q5, ?_⟩
    try rw [← q6]
    exact (ih _ _ e) _ _ _ _ _ _ _ _ _ _ (O.pick [0, 1]).nm e_1 rfl
  · obtain ⟨g7, e⟩ := guard_e e
    refine ⟨g7.1, g7.2.1, g7.2.2, ?_⟩
    refine O.new fun h8 x9 O10 => ?_
    obtain ⟨l12, g13, e⟩ := bind_e e
    have O20 := O10.rowE (l := ([x_6] : List Int)) 2 rfl (tell_int .u64) (show CsE _ _ _ _ _ from (CsE.cons (c1 := [(Value.int .u64 x_6)]) rfl rfl CsE.nil)) rfl
    refine O20.app 1 rfl rfl rfl ((O20.os 2 rfl).srcE rfl) (by decide) g13 fun A14 c15 h16 O17 => ?_
    refine ⟨_, _, _, rfl, ?_⟩
    have O21 := O17.nm
    exact (ih _ _ e) _ _ _ _ _ _ _ _ _ _ (O21.pick [0, 1]).nm e_1 rfl
theorem roadref3_ObjectWords.l0_k.all {p : roadref3_ObjectWords.l0_k.Pt} {r : ((List Int))} (e : roadref3_ObjectWords.l0_k.go p = some r) : roadref3_ObjectWords.l0_k.I p r := fixF_ind (β := fun _ => ((List Int))) roadref3_ObjectWords.l0_k.mono (I := roadref3_ObjectWords.l0_k.I) (fun go ih p r e => match p with
  | .l0 y_1 a_3 s_4 => roadref3_ObjectWords.l0_k.step_l0 go ih y_1 a_3 s_4 r e
  | .l1 y_1 a_3 s_4 x_5 x_6 x_7 => roadref3_ObjectWords.l0_k.step_l1 go ih y_1 a_3 s_4 x_5 x_6 x_7 r e
  ) e
theorem roadref3_ObjectWords.l0.walk {W : Nat → Prop} {h0 m0 h m : Heap} {bk_1 : Nat} {cs_1 : List Value} {A_3 : Option Addr} {n_3 c_3 : Nat} {y_1 : T_heap_Object} {a_3 : List Int} {s_4 : ByteArray} (O : Hold W h0 m0 h m [rV bk_1 63 cs_1, rR (aE (tell_int .u64)) A_3 c_3 a_3]) (e_1 : T_heap_Object.E m y_1 cs_1) (ne_3 : n_3 = List.length a_3) {r : (List Int)} (e : roadref3_ObjectWords.l0 y_1 a_3 s_4 = some r) : f86.l0 (roadref3_ObjectWords.post W h0 m0 r) (⟨bk_1, 0, none⟩ : Addr) A_3 n_3 c_3 s_4 h := roadref3_ObjectWords.l0_k.all (p := .l0 y_1 a_3 s_4) e W h0 m0 h m bk_1 cs_1 A_3 n_3 c_3 O e_1 ne_3
noncomputable def roadref3_ObjectWords.j0 (y_1 : T_heap_Object) (a_3 : List Int) : Option ((List Int)) :=
  (roadref3_ObjectWords.l0 y_1 a_3 y_1.Text)
set_option maxRecDepth 100000 in
theorem roadref3_ObjectWords.j0.walk {W : Nat → Prop} {h0 m0 h m : Heap} {bk_1 : Nat} {cs_1 : List Value} {A_3 : Option Addr} {n_3 c_3 : Nat} {y_1 : T_heap_Object} {a_3 : List Int} (O : Hold W h0 m0 h m [rV bk_1 63 cs_1, rR (aE (tell_int .u64)) A_3 c_3 a_3]) (e_1 : T_heap_Object.E m y_1 cs_1) (ne_3 : n_3 = List.length a_3) {r : (List Int)} (e : roadref3_ObjectWords.j0 y_1 a_3 = some r) : f86.j0 (roadref3_ObjectWords.post W h0 m0 r) (⟨bk_1, 0, none⟩ : Addr) A_3 n_3 c_3 h := by
  unfold roadref3_ObjectWords.j0 at e
  subst ne_3
  refine f86.j0_in ?_
  unfold f86.j0T
  refine ⟨_, ldk (k := 3) (Sub.refl _) (O.all 0 rfl) (T_heap_Object.g3 e_1), _, rfl, ?_⟩
  exact roadref3_ObjectWords.l0.walk (O.pick [0, 1]).nm e_1 rfl e
noncomputable def roadref3_ObjectWords.j1 (y_1 : T_heap_Object) (a_3 : List Int) (b_31 : Bool) : Option ((List Int)) :=
  if b_31 = true then (Option.bind (ap 8 a_3 ([(IntKind.wrap .u64 y_1.Num)] : List Int)) fun l5 => (roadref3_ObjectWords.j0 y_1 l5)) else ((roadref3_ObjectWords.j0 y_1 a_3))
set_option maxRecDepth 100000 in
theorem roadref3_ObjectWords.j1.walk {W : Nat → Prop} {h0 m0 h m : Heap} {bk_1 : Nat} {cs_1 : List Value} {A_3 : Option Addr} {n_3 c_3 : Nat} {y_1 : T_heap_Object} {a_3 : List Int} {b_31 : Bool} (O : Hold W h0 m0 h m [rV bk_1 63 cs_1, rR (aE (tell_int .u64)) A_3 c_3 a_3]) (e_1 : T_heap_Object.E m y_1 cs_1) (ne_3 : n_3 = List.length a_3) {r : (List Int)} (e : roadref3_ObjectWords.j1 y_1 a_3 b_31 = some r) : f86.j1 (roadref3_ObjectWords.post W h0 m0 r) (⟨bk_1, 0, none⟩ : Addr) A_3 n_3 c_3 b_31 h := by
  unfold roadref3_ObjectWords.j1 at e
  subst ne_3
  refine f86.j1_in ?_
  unfold f86.j1T
  refine split_any_e e (fun c15 e => ?_) (fun c15 e => ?_)
  · refine ⟨_, ldk (k := 2) (Sub.refl _) (O.all 0 rfl) (T_heap_Object.g2 e_1), _, rfl, ?_⟩
    refine O.new fun h1 x2 O3 => ?_
    obtain ⟨l5, g6, e⟩ := bind_e e
    have O13 := O3.rowE (l := ([(IntKind.wrap .u64 y_1.Num)] : List Int)) 2 rfl (tell_int .u64) (show CsE _ _ _ _ _ from (CsE.cons (c1 := [(Value.int .u64 (IntKind.wrap .u64 y_1.Num))]) rfl rfl CsE.nil)) rfl
    refine O13.app 1 rfl rfl rfl ((O13.os 2 rfl).srcE rfl) (by decide) g6 fun A7 c8 h9 O10 => ?_
    refine ⟨_, _, _, rfl, ?_⟩
    have O14 := O10.nm
    exact roadref3_ObjectWords.j0.walk (O14.pick [0, 1]).nm e_1 rfl e
  · exact roadref3_ObjectWords.j0.walk (O.pick [0, 1]).nm e_1 rfl e
noncomputable def roadref3_ObjectWords (y_0 : T_heap_Object) : Option ((List Int)) :=
  if y_0.Kind = (1 : Int) then ((roadref3_ObjectWords.j1 y_0 ([(IntKind.wrap .u64 ((IntKind.wrap .u64 ((IntKind.wrap .u64 y_0.Kind) + (IntKind.wrap .u64 ((256 : Int) * (IntKind.wrap .u64 ((ByteArray.size y_0.Text : Nat) : Int)))))) + (IntKind.wrap .u64 ((1048576 : Int) * (IntKind.wrap .u64 (((List.length y_0.Parts) : Nat) : Int))))))] : List Int) true)) else ((roadref3_ObjectWords.j1 y_0 ([(IntKind.wrap .u64 ((IntKind.wrap .u64 ((IntKind.wrap .u64 y_0.Kind) + (IntKind.wrap .u64 ((256 : Int) * (IntKind.wrap .u64 ((ByteArray.size y_0.Text : Nat) : Int)))))) + (IntKind.wrap .u64 ((1048576 : Int) * (IntKind.wrap .u64 (((List.length y_0.Parts) : Nat) : Int))))))] : List Int) (y_0.Kind == (4 : Int))))
set_option maxRecDepth 100000 in
theorem roadref3_ObjectWords.walk {W : Nat → Prop} {h m : Heap} {cs_0 : List Value} {y_0 : T_heap_Object} (O : Hold W h m h m []) (e_0 : T_heap_Object.E m y_0 cs_0) {r : (List Int)} (e : roadref3_ObjectWords y_0 = some r) : Run Try.prog 86 #[Value.agg cs_0.toArray] h (roadref3_ObjectWords.post W h m r) := by
  unfold roadref3_ObjectWords at e
  refine f86.run ?_
  unfold f86.runT
  refine O.new fun h1 x2 O3 => ?_
  refine ⟨_, ldk (k := 1) (Sub.refl _) (O3.all 0 rfl) (T_heap_Object.g1 e_0), _, rfl, ?_⟩
  refine ⟨_, ldk (k := 3) (Sub.refl _) (O3.all 0 rfl) (T_heap_Object.g3 e_0), _, rfl, ?_⟩
  obtain ⟨A5, c6, q7, k8, r9⟩ := T_heap_Object.g4 e_0
  refine ⟨_, ldk (k := 4) (Sub.refl _) (O3.all 0 rfl) q7, _, _, _, rfl, ?_⟩
  refine O3.new fun h10 x11 O12 => ?_
  refine ⟨_, ldk (k := 1) (Sub.refl _) (O12.all 0 rfl) (T_heap_Object.g1 e_0), _, rfl, ?_⟩
  refine split_eq_e e (fun c18 e => ?_) (fun c18 e => ?_)
  · have O14 := O12.rowE (l := ([(IntKind.wrap .u64 ((IntKind.wrap .u64 ((IntKind.wrap .u64 y_0.Kind) + (IntKind.wrap .u64 ((256 : Int) * (IntKind.wrap .u64 ((ByteArray.size y_0.Text : Nat) : Int)))))) + (IntKind.wrap .u64 ((1048576 : Int) * (IntKind.wrap .u64 (((List.length y_0.Parts) : Nat) : Int))))))] : List Int)) 1 rfl (tell_int .u64) (show CsE _ _ _ _ _ from (CsE.cons (c1 := [(Value.int .u64 (IntKind.wrap .u64 ((IntKind.wrap .u64 ((IntKind.wrap .u64 y_0.Kind) + (IntKind.wrap .u64 ((256 : Int) * (IntKind.wrap .u64 ((ByteArray.size y_0.Text : Nat) : Int)))))) + (IntKind.wrap .u64 ((1048576 : Int) * (IntKind.wrap .u64 (((List.length y_0.Parts) : Nat) : Int)))))))]) rfl rfl CsE.nil)) rfl
    have O15 := O14.nm
    exact roadref3_ObjectWords.j1.walk (O15.pick [0, 1]).nm e_0 rfl e
  · refine ⟨_, ldk (k := 1) (Sub.refl _) (O12.all 0 rfl) (T_heap_Object.g1 e_0), _, rfl, ?_⟩
    have O16 := O12.rowE (l := ([(IntKind.wrap .u64 ((IntKind.wrap .u64 ((IntKind.wrap .u64 y_0.Kind) + (IntKind.wrap .u64 ((256 : Int) * (IntKind.wrap .u64 ((ByteArray.size y_0.Text : Nat) : Int)))))) + (IntKind.wrap .u64 ((1048576 : Int) * (IntKind.wrap .u64 (((List.length y_0.Parts) : Nat) : Int))))))] : List Int)) 1 rfl (tell_int .u64) (show CsE _ _ _ _ _ from (CsE.cons (c1 := [(Value.int .u64 (IntKind.wrap .u64 ((IntKind.wrap .u64 ((IntKind.wrap .u64 y_0.Kind) + (IntKind.wrap .u64 ((256 : Int) * (IntKind.wrap .u64 ((ByteArray.size y_0.Text : Nat) : Int)))))) + (IntKind.wrap .u64 ((1048576 : Int) * (IntKind.wrap .u64 (((List.length y_0.Parts) : Nat) : Int)))))))]) rfl rfl CsE.nil)) rfl
    have O17 := O16.nm
    exact roadref3_ObjectWords.j1.walk (O17.pick [0, 1]).nm e_0 rfl e
def roadref3_In.post (W : Nat → Prop) (h0 m0 : Heap) (r : Bool) (v : Value) (h : Heap) : Prop := ∃ m , Hold W h0 m0 h m [] ∧ v = .bool r
noncomputable def roadref3_In (x_0 : Int) (x_1 : Int) (x_2 : Int) : Option (Bool) :=
  if x_0 ≥ x_1 then (some ((decide (x_0 ≤ x_2)))) else (some (false))
set_option maxRecDepth 100000 in
theorem roadref3_In.walk {W : Nat → Prop} {h m : Heap} {x_0 : Int} {x_1 : Int} {x_2 : Int} (O : Hold W h m h m []) {r : Bool} (e : roadref3_In x_0 x_1 x_2 = some r) : Run Try.prog 89 #[Value.int .i64 x_0, Value.int .i64 x_1, Value.int .i64 x_2] h (roadref3_In.post W h m r) := by
  unfold roadref3_In at e
  refine f89.run ?_
  unfold f89.runT
  refine split_dec_e e (fun c1 e => ?_) (fun c1 e => ?_)
  · cases e
    exact ⟨_, O.pick [], rfl⟩
  · cases e
    exact ⟨_, O.pick [], rfl⟩
def roadref3_ObjectIs.post (W : Nat → Prop) (h0 m0 : Heap) (r : Bool) (v : Value) (h : Heap) : Prop := ∃ m , Hold W h0 m0 h m [] ∧ v = .bool r
noncomputable def roadref3_ObjectIs.j1 (y_1 : T_heap_Object) (b_3 : Bool) (b_4 : Bool) (b_5 : Bool) : Option (Bool) :=
  if b_3 = true then (if b_4 = true then (if b_5 = true then (some (true)) else (some (((((List.length y_1.Parts) : Nat) : Int) == (0 : Int))))) else (if y_1.Num = (0 : Int) then (if b_5 = true then (some (true)) else (some (((((List.length y_1.Parts) : Nat) : Int) == (0 : Int))))) else (some (false)))) else (if y_1.Text = (ByteArray.mk #[]) then (if b_4 = true then (if b_5 = true then (some (true)) else (some (((((List.length y_1.Parts) : Nat) : Int) == (0 : Int))))) else (if y_1.Num = (0 : Int) then (if b_5 = true then (some (true)) else (some (((((List.length y_1.Parts) : Nat) : Int) == (0 : Int))))) else (some (false)))) else (some (false)))
set_option maxHeartbeats 4000000 in
set_option maxRecDepth 100000 in
theorem roadref3_ObjectIs.j1.walk {W : Nat → Prop} {h0 m0 h m : Heap} {bk_1 : Nat} {cs_1 : List Value} {y_1 : T_heap_Object} {b_3 : Bool} {b_4 : Bool} {b_5 : Bool} (O : Hold W h0 m0 h m [rV bk_1 63 cs_1]) (e_1 : T_heap_Object.E m y_1 cs_1) {r : Bool} (e : roadref3_ObjectIs.j1 y_1 b_3 b_4 b_5 = some r) : f90.j1 (roadref3_ObjectIs.post W h0 m0 r) (⟨bk_1, 0, none⟩ : Addr) b_3 b_4 b_5 h := by
  unfold roadref3_ObjectIs.j1 at e
  refine f90.j1_in ?_
  unfold f90.j1T
  refine split_any_e e (fun c30 e => ?_) (fun c30 e => ?_)
  · refine split_any_e e (fun c14 e => ?_) (fun c14 e => ?_)
    · refine split_any_e e (fun c6 e => ?_) (fun c6 e => ?_)
      · cases e
        exact ⟨_, O.pick [], rfl⟩
      · obtain ⟨A1, c2, q3, k4, r5⟩ := T_heap_Object.g4 e_1
        refine ⟨_, ldk (k := 4) (Sub.refl _) (O.all 0 rfl) q3, _, _, _, rfl, ?_⟩
        cases e
        exact ⟨_, O.pick [], rfl⟩
    · refine ⟨_, ldk (k := 2) (Sub.refl _) (O.all 0 rfl) (T_heap_Object.g2 e_1), _, rfl, ?_⟩
      refine split_eq_e e (fun c13 e => ?_) (fun c13 e => ?_)
      · refine split_any_e e (fun c12 e => ?_) (fun c12 e => ?_)
        · cases e
          exact ⟨_, O.pick [], rfl⟩
        · obtain ⟨A7, c8, q9, k10, r11⟩ := T_heap_Object.g4 e_1
          refine ⟨_, ldk (k := 4) (Sub.refl _) (O.all 0 rfl) q9, _, _, _, rfl, ?_⟩
          cases e
          exact ⟨_, O.pick [], rfl⟩
      · cases e
        exact ⟨_, O.pick [], rfl⟩
  · refine ⟨_, ldk (k := 3) (Sub.refl _) (O.all 0 rfl) (T_heap_Object.g3 e_1), _, rfl, ?_⟩
    try rw [ba_list y_1.Text (ByteArray.mk #[])]
    refine split_dec_e e (fun c29 e => ?_) (fun c29 e => ?_)
    · refine split_any_e e (fun c28 e => ?_) (fun c28 e => ?_)
      · refine split_any_e e (fun c20 e => ?_) (fun c20 e => ?_)
        · cases e
          exact ⟨_, O.pick [], rfl⟩
        · obtain ⟨A15, c16, q17, k18, r19⟩ := T_heap_Object.g4 e_1
          refine ⟨_, ldk (k := 4) (Sub.refl _) (O.all 0 rfl) q17, _, _, _, rfl, ?_⟩
          cases e
          exact ⟨_, O.pick [], rfl⟩
      · refine ⟨_, ldk (k := 2) (Sub.refl _) (O.all 0 rfl) (T_heap_Object.g2 e_1), _, rfl, ?_⟩
        refine split_eq_e e (fun c27 e => ?_) (fun c27 e => ?_)
        · refine split_any_e e (fun c26 e => ?_) (fun c26 e => ?_)
          · cases e
            exact ⟨_, O.pick [], rfl⟩
          · obtain ⟨A21, c22, q23, k24, r25⟩ := T_heap_Object.g4 e_1
            refine ⟨_, ldk (k := 4) (Sub.refl _) (O.all 0 rfl) q23, _, _, _, rfl, ?_⟩
            cases e
            exact ⟨_, O.pick [], rfl⟩
        · cases e
          exact ⟨_, O.pick [], rfl⟩
    · cases e
      exact ⟨_, O.pick [], rfl⟩
noncomputable def roadref3_ObjectIs.j0 (y_1 : T_heap_Object) (b_3 : Bool) (b_4 : Bool) (b_5 : Bool) : Option (Bool) :=
  Option.bind (roadref3_In y_1.Kind (1 : Int) (5 : Int)) fun y1 => if y1 = true then (if ((ByteArray.size y_1.Text : Nat) : Int) > (64 : Int) then (some (false)) else (if (((List.length y_1.Parts) : Nat) : Int) > (400 : Int) then (some (false)) else (if y_1.Kind = (5 : Int) then (if (((List.length y_1.Parts) : Nat) : Int) > (1 : Int) then (some (false)) else ((roadref3_ObjectIs.j1 y_1 b_3 b_4 b_5))) else ((roadref3_ObjectIs.j1 y_1 b_3 b_4 b_5))))) else (some (false))
set_option maxRecDepth 100000 in
theorem roadref3_ObjectIs.j0.walk {W : Nat → Prop} {h0 m0 h m : Heap} {bk_1 : Nat} {cs_1 : List Value} {y_1 : T_heap_Object} {b_3 : Bool} {b_4 : Bool} {b_5 : Bool} (O : Hold W h0 m0 h m [rV bk_1 63 cs_1]) (e_1 : T_heap_Object.E m y_1 cs_1) {r : Bool} (e : roadref3_ObjectIs.j0 y_1 b_3 b_4 b_5 = some r) : f90.j0 (roadref3_ObjectIs.post W h0 m0 r) (⟨bk_1, 0, none⟩ : Addr) b_3 b_4 b_5 h := by
  unfold roadref3_ObjectIs.j0 at e
  refine f90.j0_in ?_
  unfold f90.j0T
  refine ⟨_, ldk (k := 1) (Sub.refl _) (O.all 0 rfl) (T_heap_Object.g1 e_1), _, rfl, ?_⟩
  obtain ⟨y1, g2, e⟩ := bind_e e
  refine (roadref3_In.walk (Hold.start (W := No) O.s)  g2).mono ?_
  rintro _ h3 ⟨m4, Q5, rfl⟩
  have O7 := Hold.nm (O.retC Q5 vfs_nil)
  refine ⟨_, rfl, ?_⟩
  refine split_not ?_
  refine split_any_e e (fun c22 e => ?_) (fun c22 e => ?_)
  · refine ⟨_, ldk (k := 3) (Sub.refl _) (O7.all 0 rfl) (T_heap_Object.g3 e_1), _, rfl, ?_⟩
    refine split_dec_e e (fun c21 e => ?_) (fun c21 e => ?_)
    · cases e
      exact ⟨_, O7.pick [], rfl⟩
    · obtain ⟨A8, c9, q10, k11, r12⟩ := T_heap_Object.g4 e_1
      refine ⟨_, ldk (k := 4) (Sub.refl _) (O7.all 0 rfl) q10, _, _, _, rfl, ?_⟩
      refine split_dec_e e (fun c20 e => ?_) (fun c20 e => ?_)
      · cases e
        exact ⟨_, O7.pick [], rfl⟩
      · refine ⟨_, ldk (k := 1) (Sub.refl _) (O7.all 0 rfl) (T_heap_Object.g1 e_1), _, rfl, ?_⟩
        refine split_eq_e e (fun c19 e => ?_) (fun c19 e => ?_)
        · obtain ⟨A13, c14, q15, k16, r17⟩ := T_heap_Object.g4 e_1
          refine ⟨_, ldk (k := 4) (Sub.refl _) (O7.all 0 rfl) q15, _, _, _, rfl, ?_⟩
          refine split_dec_e e (fun c18 e => ?_) (fun c18 e => ?_)
          · cases e
            exact ⟨_, O7.pick [], rfl⟩
          · exact roadref3_ObjectIs.j1.walk (O7.pick [0]).nm e_1 e
        · exact roadref3_ObjectIs.j1.walk (O7.pick [0]).nm e_1 e
  · cases e
    exact ⟨_, O7.pick [], rfl⟩
noncomputable def roadref3_ObjectIs (y_0 : T_heap_Object) : Option (Bool) :=
  if y_0.Kind = (2 : Int) then (if y_0.Kind = (1 : Int) then ((roadref3_ObjectIs.j0 y_0 true true (decide (y_0.Kind > (2 : Int))))) else ((roadref3_ObjectIs.j0 y_0 true (y_0.Kind == (4 : Int)) (decide (y_0.Kind > (2 : Int)))))) else (if y_0.Kind = (1 : Int) then ((roadref3_ObjectIs.j0 y_0 (y_0.Kind == (3 : Int)) true (decide (y_0.Kind > (2 : Int))))) else ((roadref3_ObjectIs.j0 y_0 (y_0.Kind == (3 : Int)) (y_0.Kind == (4 : Int)) (decide (y_0.Kind > (2 : Int))))))
set_option maxRecDepth 100000 in
theorem roadref3_ObjectIs.walk {W : Nat → Prop} {h m : Heap} {cs_0 : List Value} {y_0 : T_heap_Object} (O : Hold W h m h m []) (e_0 : T_heap_Object.E m y_0 cs_0) {r : Bool} (e : roadref3_ObjectIs y_0 = some r) : Run Try.prog 90 #[Value.agg cs_0.toArray] h (roadref3_ObjectIs.post W h m r) := by
  unfold roadref3_ObjectIs at e
  refine f90.run ?_
  unfold f90.runT
  refine O.new fun h1 x2 O3 => ?_
  refine ⟨_, ldk (k := 1) (Sub.refl _) (O3.all 0 rfl) (T_heap_Object.g1 e_0), _, rfl, ?_⟩
  refine split_eq_e e (fun c11 e => ?_) (fun c11 e => ?_)
  · refine ⟨_, ldk (k := 1) (Sub.refl _) (O3.all 0 rfl) (T_heap_Object.g1 e_0), _, rfl, ?_⟩
    refine split_eq_e e (fun c7 e => ?_) (fun c7 e => ?_)
    · refine ⟨_, ldk (k := 1) (Sub.refl _) (O3.all 0 rfl) (T_heap_Object.g1 e_0), _, rfl, ?_⟩
      have O5 := O3.nm
      exact roadref3_ObjectIs.j0.walk (O5.pick [0]).nm e_0 e
    · refine ⟨_, ldk (k := 1) (Sub.refl _) (O3.all 0 rfl) (T_heap_Object.g1 e_0), _, rfl, ?_⟩
      refine ⟨_, ldk (k := 1) (Sub.refl _) (O3.all 0 rfl) (T_heap_Object.g1 e_0), _, rfl, ?_⟩
      have O6 := O3.nm
      exact roadref3_ObjectIs.j0.walk (O6.pick [0]).nm e_0 e
  · refine ⟨_, ldk (k := 1) (Sub.refl _) (O3.all 0 rfl) (T_heap_Object.g1 e_0), _, rfl, ?_⟩
    refine ⟨_, ldk (k := 1) (Sub.refl _) (O3.all 0 rfl) (T_heap_Object.g1 e_0), _, rfl, ?_⟩
    refine split_eq_e e (fun c10 e => ?_) (fun c10 e => ?_)
    · refine ⟨_, ldk (k := 1) (Sub.refl _) (O3.all 0 rfl) (T_heap_Object.g1 e_0), _, rfl, ?_⟩
      have O8 := O3.nm
      exact roadref3_ObjectIs.j0.walk (O8.pick [0]).nm e_0 e
    · refine ⟨_, ldk (k := 1) (Sub.refl _) (O3.all 0 rfl) (T_heap_Object.g1 e_0), _, rfl, ?_⟩
      refine ⟨_, ldk (k := 1) (Sub.refl _) (O3.all 0 rfl) (T_heap_Object.g1 e_0), _, rfl, ?_⟩
      have O9 := O3.nm
      exact roadref3_ObjectIs.j0.walk (O9.pick [0]).nm e_0 e
def roadref3_ObjectAt.post (W : Nat → Prop) (h0 m0 : Heap) (r : T_heap_Object × Bool) (v : Value) (h : Heap) : Prop := ∃ m cs0, Hold W h0 m0 h m [] ∧ v = .tuple #[.agg cs0.toArray, .bool r.2] ∧ T_heap_Object.E m r.1 cs0
inductive roadref3_ObjectAt.l1_k.Pt where
  | l1 (a_0 : List Int) (x_1 : Int) (y_4 : T_heap_Object) (y_6 : T_heap_Object) (a_125 : List Int) (x_126 : Int) (x_127 : Int)
noncomputable def roadref3_ObjectAt.l1_k.body (go : (p : roadref3_ObjectAt.l1_k.Pt) → Option (T_heap_Object × Bool)) : (p : roadref3_ObjectAt.l1_k.Pt) → Option (T_heap_Object × Bool)
  | .l1 a_0 x_1 y_4 y_6 a_125 x_126 x_127 => if x_127 < x_126 then (Option.bind (gi a_125 x_127) fun y1 => Option.bind (gi a_0 (IntKind.wrap .i64 (x_1 + x_127))) fun y8 => if y8 = y1 then ((go (.l1 a_0 x_1 y_4 y_6 a_125 x_126 (IntKind.wrap .i64 (x_127 + (1 : Int)))))) else (some ((T_heap_Object.mk (0 : Int) (0 : Int) (0 : Int) (ByteArray.mk #[]) ([] : List Int)), false))) else (some (y_6, true))
theorem roadref3_ObjectAt.l1_k.mono : MonoF (β := fun _ => (T_heap_Object × Bool)) roadref3_ObjectAt.l1_k.body := fun f g hfg p => match p with
  | .l1 a_0 x_1 y_4 y_6 a_125 x_126 x_127 => LeO.ite (LeO.bind (LeO.refl _) fun y1 => LeO.bind (LeO.refl _) fun y8 => LeO.ite ((hfg _)) (LeO.refl _)) (LeO.refl _)
noncomputable def roadref3_ObjectAt.l1_k.go (p : roadref3_ObjectAt.l1_k.Pt) : Option (T_heap_Object × Bool) := fixF (β := fun _ => (T_heap_Object × Bool)) roadref3_ObjectAt.l1_k.body p
noncomputable def roadref3_ObjectAt.l1 (a_0 : List Int) (x_1 : Int) (y_4 : T_heap_Object) (y_6 : T_heap_Object) (a_125 : List Int) (x_126 : Int) (x_127 : Int) : Option (T_heap_Object × Bool) := roadref3_ObjectAt.l1_k.go (.l1 a_0 x_1 y_4 y_6 a_125 x_126 x_127)
theorem roadref3_ObjectAt.l1_eq (a_0 : List Int) (x_1 : Int) (y_4 : T_heap_Object) (y_6 : T_heap_Object) (a_125 : List Int) (x_126 : Int) (x_127 : Int) : roadref3_ObjectAt.l1 a_0 x_1 y_4 y_6 a_125 x_126 x_127 = if x_127 < x_126 then (Option.bind (gi a_125 x_127) fun y1 => Option.bind (gi a_0 (IntKind.wrap .i64 (x_1 + x_127))) fun y8 => if y8 = y1 then ((roadref3_ObjectAt.l1 a_0 x_1 y_4 y_6 a_125 x_126 (IntKind.wrap .i64 (x_127 + (1 : Int))))) else (some ((T_heap_Object.mk (0 : Int) (0 : Int) (0 : Int) (ByteArray.mk #[]) ([] : List Int)), false))) else (some (y_6, true)) := fixF_eq roadref3_ObjectAt.l1_k.mono _
def roadref3_ObjectAt.l1_k.I : (p : roadref3_ObjectAt.l1_k.Pt) → (T_heap_Object × Bool) → Prop
  | .l1 a_0 x_1 y_4 y_6 a_125 x_126 x_127, r => ∀ (W : Nat → Prop) (h0 m0 h m : Heap) (A_0 : Option Addr) (n_0 c_0 : Nat) (bk_4 : Nat) (cs_4 : List Value) (bk_6 : Nat) (cs_6 : List Value) (A_125 : Option Addr) (n_125 c_125 : Nat) (O : Hold W h0 m0 h m [rV bk_4 63 cs_4, rV bk_6 63 cs_6, rR (aE (tell_int .u64)) A_125 c_125 a_125]) (ne_0 : n_0 = List.length a_0) (k_0 : List.length a_0 ≤ c_0) (r_0 : Rd 1 (eInt .u64) m A_0 a_0) (e_4 : T_heap_Object.E m y_4 cs_4) (e_6 : T_heap_Object.E m y_6 cs_6) (ne_125 : n_125 = List.length a_125), f32.l1 (roadref3_ObjectAt.post W h0 m0 r) A_0 n_0 c_0 x_1 (⟨bk_4, 0, none⟩ : Addr) (⟨bk_6, 0, none⟩ : Addr) A_125 n_125 c_125 x_126 x_127 h
set_option maxRecDepth 100000 in
theorem roadref3_ObjectAt.l1_k.step_l1 (go : (p : roadref3_ObjectAt.l1_k.Pt) → Option (T_heap_Object × Bool)) (ih : ∀ p r, go p = some r → roadref3_ObjectAt.l1_k.I p r) (a_0 : List Int) (x_1 : Int) (y_4 : T_heap_Object) (y_6 : T_heap_Object) (a_125 : List Int) (x_126 : Int) (x_127 : Int) (r : T_heap_Object × Bool) (e : roadref3_ObjectAt.l1_k.body go (.l1 a_0 x_1 y_4 y_6 a_125 x_126 x_127) = some r) : roadref3_ObjectAt.l1_k.I (.l1 a_0 x_1 y_4 y_6 a_125 x_126 x_127) r := by
  unfold roadref3_ObjectAt.l1_k.body at e
  intro W h0 m0 h m A_0 n_0 c_0 bk_4 cs_4 bk_6 cs_6 A_125 n_125 c_125 O ne_0 k_0 r_0 e_4 e_6 ne_125
  subst ne_0
  subst ne_125
  refine f32.l1_in ?_
  unfold f32.l1T
  refine split_dec_e e (fun c22 e => ?_) (fun c22 e => ?_)
  · obtain ⟨y1, g2, e⟩ := bind_e e
    refine (O.os 2 rfl).addr rfl g2 fun a3 cs4 ha5 hc6 he7 => ?_
    obtain rfl : cs4 = [(Value.int .u64 y1)] := he7
    refine ⟨_, ld0 (Sub.refl _) hc6 rfl, _, rfl, ?_⟩
    obtain ⟨y8, g9, e⟩ := bind_e e
    refine r_0.addr rfl g9 fun a10 cs11 ha12 hc13 he14 => ?_
    obtain rfl : cs11 = [(Value.int .u64 y8)] := he14
    refine ⟨_, ld0 O.s hc13 rfl, _, rfl, ?_⟩
    refine split_ne_e e (fun c18 e => ?_) (fun c18 e => ?_)
    · refine ⟨_, rfl, rfl, ?_⟩
      refine O.stA 0 rfl ((T_heap_Object.T.len _ _ _ e_4)).symm (Flats.cons trivial (Flats.cons trivial (Flats.cons trivial (Flats.cons trivial (Flats.cons trivial Flats.nil))))) fun h15 O16 => ?_
      refine ⟨_, ldAn (Sub.refl _) (O16.all 0 rfl) rfl, ?_⟩
      have O17 := O16.nm
      cases e
      exact ⟨_, _, O17.pick [], rfl, (show T_heap_Object.E _ (T_heap_Object.mk (0 : Int) (0 : Int) (0 : Int) (ByteArray.mk #[]) ([] : List Int)) [(Value.int .i64 (0 : Int)), (Value.int .i64 (0 : Int)), (Value.int .i64 (0 : Int)), (Value.string (ByteArray.mk #[])), (Value.slice none 0 0)] from ⟨_, _, rfl, (Nat.le_refl 0), Rd.nil⟩)⟩
    · exact (ih _ _ e) _ _ _ _ _ _ _ _ _ _ _ _ _ _ _ (O.pick [0, 1, 2]).nm rfl k_0 r_0 e_4 e_6 rfl
  · refine ⟨_, ldAn (Sub.refl _) (O.all 1 rfl) (T_heap_Object.T.len _ _ _ e_6), ?_⟩
    refine ⟨_, rfl, (T_heap_Object.T.len _ _ _ e_6), ?_⟩
    refine O.stA 0 rfl ((T_heap_Object.T.len _ _ _ e_6).trans ((T_heap_Object.T.len _ _ _ e_4)).symm) (T_heap_Object.T.flat _ _ _ e_6) fun h19 O20 => ?_
    refine ⟨_, ldAn (Sub.refl _) (O20.all 0 rfl) (T_heap_Object.T.len _ _ _ e_6), ?_⟩
    have O21 := O20.nm
    cases e
    exact ⟨_, _, O21.pick [], rfl, e_6⟩
theorem roadref3_ObjectAt.l1_k.all {p : roadref3_ObjectAt.l1_k.Pt} {r : (T_heap_Object × Bool)} (e : roadref3_ObjectAt.l1_k.go p = some r) : roadref3_ObjectAt.l1_k.I p r := fixF_ind (β := fun _ => (T_heap_Object × Bool)) roadref3_ObjectAt.l1_k.mono (I := roadref3_ObjectAt.l1_k.I) (fun go ih p r e => match p with
  | .l1 a_0 x_1 y_4 y_6 a_125 x_126 x_127 => roadref3_ObjectAt.l1_k.step_l1 go ih a_0 x_1 y_4 y_6 a_125 x_126 x_127 r e
  ) e
theorem roadref3_ObjectAt.l1.walk {W : Nat → Prop} {h0 m0 h m : Heap} {A_0 : Option Addr} {n_0 c_0 : Nat} {bk_4 : Nat} {cs_4 : List Value} {bk_6 : Nat} {cs_6 : List Value} {A_125 : Option Addr} {n_125 c_125 : Nat} {a_0 : List Int} {x_1 : Int} {y_4 : T_heap_Object} {y_6 : T_heap_Object} {a_125 : List Int} {x_126 : Int} {x_127 : Int} (O : Hold W h0 m0 h m [rV bk_4 63 cs_4, rV bk_6 63 cs_6, rR (aE (tell_int .u64)) A_125 c_125 a_125]) (ne_0 : n_0 = List.length a_0) (k_0 : List.length a_0 ≤ c_0) (r_0 : Rd 1 (eInt .u64) m A_0 a_0) (e_4 : T_heap_Object.E m y_4 cs_4) (e_6 : T_heap_Object.E m y_6 cs_6) (ne_125 : n_125 = List.length a_125) {r : T_heap_Object × Bool} (e : roadref3_ObjectAt.l1 a_0 x_1 y_4 y_6 a_125 x_126 x_127 = some r) : f32.l1 (roadref3_ObjectAt.post W h0 m0 r) A_0 n_0 c_0 x_1 (⟨bk_4, 0, none⟩ : Addr) (⟨bk_6, 0, none⟩ : Addr) A_125 n_125 c_125 x_126 x_127 h := roadref3_ObjectAt.l1_k.all (p := .l1 a_0 x_1 y_4 y_6 a_125 x_126 x_127) e W h0 m0 h m A_0 n_0 c_0 bk_4 cs_4 bk_6 cs_6 A_125 n_125 c_125 O ne_0 k_0 r_0 e_4 e_6 ne_125
inductive roadref3_ObjectAt.l0_k.Pt where
  | l0 (a_0 : List Int) (x_1 : Int) (y_4 : T_heap_Object) (x_6_0 : Int) (x_6_1 : Int) (x_6_2 : Int) (s_6_3 : ByteArray) (a_6_4 : (List Int)) (x_8 : Int) (a_9 : List Int) (x_10 : Int) (x_84 : Int) (x_85 : Int)
  | l2 (a_0 : List Int) (x_1 : Int) (y_4 : T_heap_Object) (x_6_0 : Int) (x_6_1 : Int) (x_6_2 : Int) (s_6_3 : ByteArray) (a_6_4 : (List Int)) (x_8 : Int) (a_9 : List Int) (x_10 : Int) (x_12 : Int) (x_84 : Int) (x_85 : Int) (x_94 : Int) (x_95 : Int)
noncomputable def roadref3_ObjectAt.l0_k.body (go : (p : roadref3_ObjectAt.l0_k.Pt) → Option (T_heap_Object × Bool)) : (p : roadref3_ObjectAt.l0_k.Pt) → Option (T_heap_Object × Bool)
  | .l0 a_0 x_1 y_4 x_6_0 x_6_1 x_6_2 s_6_3 a_6_4 x_8 a_9 x_10 x_84 x_85 => if x_85 < x_84 then (Option.bind (gi a_9 (IntKind.wrap .i64 (Int.tdiv x_85 (8 : Int)))) fun y1 => (go (.l2 a_0 x_1 y_4 x_6_0 x_6_1 x_6_2 s_6_3 a_6_4 x_8 a_9 x_10 y1 x_84 x_85 (Int.tmod x_85 (8 : Int)) (0 : Int)))) else (Option.bind (sls a_9 x_10 (IntKind.wrap .i64 (x_10 + x_8))) fun l8 => Option.bind (ap 8 a_6_4 l8) fun l13 => Option.bind (roadref3_ObjectIs (T_heap_Object.mk x_6_0 x_6_1 x_6_2 s_6_3 l13)) fun y28 => if y28 = true then (Option.bind (roadref3_ObjectWords (T_heap_Object.mk x_6_0 x_6_1 x_6_2 s_6_3 l13)) fun y35 => (roadref3_ObjectAt.l1 a_0 x_1 y_4 (T_heap_Object.mk x_6_0 x_6_1 x_6_2 s_6_3 l13) y35 (((List.length y35) : Nat) : Int) (0 : Int))) else (some ((T_heap_Object.mk (0 : Int) (0 : Int) (0 : Int) (ByteArray.mk #[]) ([] : List Int)), false)))
  | .l2 a_0 x_1 y_4 x_6_0 x_6_1 x_6_2 s_6_3 a_6_4 x_8 a_9 x_10 x_12 x_84 x_85 x_94 x_95 => if x_95 < x_94 then ((go (.l2 a_0 x_1 y_4 x_6_0 x_6_1 x_6_2 s_6_3 a_6_4 x_8 a_9 x_10 (IntKind.wrap .u64 (Int.tdiv x_12 (256 : Int))) x_84 x_85 x_94 (IntKind.wrap .i64 (x_95 + (1 : Int)))))) else (if ByteArray.size s_6_3 + ByteArray.size (bytesOf ([(IntKind.wrap .u8 (Int.tmod x_12 (256 : Int)))] : List Int)) ≤ 9223372036854775807 then ((go (.l0 a_0 x_1 y_4 x_6_0 x_6_1 x_6_2 (s_6_3 ++ (bytesOf ([(IntKind.wrap .u8 (Int.tmod x_12 (256 : Int)))] : List Int))) a_6_4 x_8 a_9 x_10 x_84 (IntKind.wrap .i64 (x_85 + (1 : Int)))))) else none)
theorem roadref3_ObjectAt.l0_k.mono : MonoF (β := fun _ => (T_heap_Object × Bool)) roadref3_ObjectAt.l0_k.body := fun f g hfg p => match p with
  | .l0 a_0 x_1 y_4 x_6_0 x_6_1 x_6_2 s_6_3 a_6_4 x_8 a_9 x_10 x_84 x_85 => LeO.ite (LeO.bind (LeO.refl _) fun y1 => (hfg _)) (LeO.bind (LeO.refl _) fun l8 => LeO.bind (LeO.refl _) fun l13 => LeO.bind (LeO.refl _) fun y28 => LeO.ite (LeO.bind (LeO.refl _) fun y35 => (LeO.refl _)) (LeO.refl _))
  | .l2 a_0 x_1 y_4 x_6_0 x_6_1 x_6_2 s_6_3 a_6_4 x_8 a_9 x_10 x_12 x_84 x_85 x_94 x_95 => LeO.ite ((hfg _)) (LeO.ite ((hfg _)) (LeO.refl _))
noncomputable def roadref3_ObjectAt.l0_k.go (p : roadref3_ObjectAt.l0_k.Pt) : Option (T_heap_Object × Bool) := fixF (β := fun _ => (T_heap_Object × Bool)) roadref3_ObjectAt.l0_k.body p
noncomputable def roadref3_ObjectAt.l0 (a_0 : List Int) (x_1 : Int) (y_4 : T_heap_Object) (x_6_0 : Int) (x_6_1 : Int) (x_6_2 : Int) (s_6_3 : ByteArray) (a_6_4 : (List Int)) (x_8 : Int) (a_9 : List Int) (x_10 : Int) (x_84 : Int) (x_85 : Int) : Option (T_heap_Object × Bool) := roadref3_ObjectAt.l0_k.go (.l0 a_0 x_1 y_4 x_6_0 x_6_1 x_6_2 s_6_3 a_6_4 x_8 a_9 x_10 x_84 x_85)
noncomputable def roadref3_ObjectAt.l2 (a_0 : List Int) (x_1 : Int) (y_4 : T_heap_Object) (x_6_0 : Int) (x_6_1 : Int) (x_6_2 : Int) (s_6_3 : ByteArray) (a_6_4 : (List Int)) (x_8 : Int) (a_9 : List Int) (x_10 : Int) (x_12 : Int) (x_84 : Int) (x_85 : Int) (x_94 : Int) (x_95 : Int) : Option (T_heap_Object × Bool) := roadref3_ObjectAt.l0_k.go (.l2 a_0 x_1 y_4 x_6_0 x_6_1 x_6_2 s_6_3 a_6_4 x_8 a_9 x_10 x_12 x_84 x_85 x_94 x_95)
theorem roadref3_ObjectAt.l0_eq (a_0 : List Int) (x_1 : Int) (y_4 : T_heap_Object) (x_6_0 : Int) (x_6_1 : Int) (x_6_2 : Int) (s_6_3 : ByteArray) (a_6_4 : (List Int)) (x_8 : Int) (a_9 : List Int) (x_10 : Int) (x_84 : Int) (x_85 : Int) : roadref3_ObjectAt.l0 a_0 x_1 y_4 x_6_0 x_6_1 x_6_2 s_6_3 a_6_4 x_8 a_9 x_10 x_84 x_85 = if x_85 < x_84 then (Option.bind (gi a_9 (IntKind.wrap .i64 (Int.tdiv x_85 (8 : Int)))) fun y1 => (roadref3_ObjectAt.l2 a_0 x_1 y_4 x_6_0 x_6_1 x_6_2 s_6_3 a_6_4 x_8 a_9 x_10 y1 x_84 x_85 (Int.tmod x_85 (8 : Int)) (0 : Int))) else (Option.bind (sls a_9 x_10 (IntKind.wrap .i64 (x_10 + x_8))) fun l8 => Option.bind (ap 8 a_6_4 l8) fun l13 => Option.bind (roadref3_ObjectIs (T_heap_Object.mk x_6_0 x_6_1 x_6_2 s_6_3 l13)) fun y28 => if y28 = true then (Option.bind (roadref3_ObjectWords (T_heap_Object.mk x_6_0 x_6_1 x_6_2 s_6_3 l13)) fun y35 => (roadref3_ObjectAt.l1 a_0 x_1 y_4 (T_heap_Object.mk x_6_0 x_6_1 x_6_2 s_6_3 l13) y35 (((List.length y35) : Nat) : Int) (0 : Int))) else (some ((T_heap_Object.mk (0 : Int) (0 : Int) (0 : Int) (ByteArray.mk #[]) ([] : List Int)), false))) := fixF_eq roadref3_ObjectAt.l0_k.mono _
theorem roadref3_ObjectAt.l2_eq (a_0 : List Int) (x_1 : Int) (y_4 : T_heap_Object) (x_6_0 : Int) (x_6_1 : Int) (x_6_2 : Int) (s_6_3 : ByteArray) (a_6_4 : (List Int)) (x_8 : Int) (a_9 : List Int) (x_10 : Int) (x_12 : Int) (x_84 : Int) (x_85 : Int) (x_94 : Int) (x_95 : Int) : roadref3_ObjectAt.l2 a_0 x_1 y_4 x_6_0 x_6_1 x_6_2 s_6_3 a_6_4 x_8 a_9 x_10 x_12 x_84 x_85 x_94 x_95 = if x_95 < x_94 then ((roadref3_ObjectAt.l2 a_0 x_1 y_4 x_6_0 x_6_1 x_6_2 s_6_3 a_6_4 x_8 a_9 x_10 (IntKind.wrap .u64 (Int.tdiv x_12 (256 : Int))) x_84 x_85 x_94 (IntKind.wrap .i64 (x_95 + (1 : Int))))) else (if ByteArray.size s_6_3 + ByteArray.size (bytesOf ([(IntKind.wrap .u8 (Int.tmod x_12 (256 : Int)))] : List Int)) ≤ 9223372036854775807 then ((roadref3_ObjectAt.l0 a_0 x_1 y_4 x_6_0 x_6_1 x_6_2 (s_6_3 ++ (bytesOf ([(IntKind.wrap .u8 (Int.tmod x_12 (256 : Int)))] : List Int))) a_6_4 x_8 a_9 x_10 x_84 (IntKind.wrap .i64 (x_85 + (1 : Int))))) else none) := fixF_eq roadref3_ObjectAt.l0_k.mono _
def roadref3_ObjectAt.l0_k.I : (p : roadref3_ObjectAt.l0_k.Pt) → (T_heap_Object × Bool) → Prop
  | .l0 a_0 x_1 y_4 x_6_0 x_6_1 x_6_2 s_6_3 a_6_4 x_8 a_9 x_10 x_84 x_85, r => ∀ (W : Nat → Prop) (h0 m0 h m : Heap) (A_0 : Option Addr) (n_0 c_0 : Nat) (bk_4 : Nat) (cs_4 : List Value) (bk_6 : Nat) (A_6_4_0 : Option Addr) (n_6_4_0 : Nat) (c_6_4_0 : Nat) (A_9 : Option Addr) (n_9 c_9 : Nat) (O : Hold W h0 m0 h m [rV bk_4 63 cs_4, rV bk_6 63 [(Value.int .i64 x_6_0), (Value.int .i64 x_6_1), (Value.int .i64 x_6_2), (Value.string s_6_3), (Value.slice A_6_4_0 n_6_4_0 c_6_4_0)], rR (aE (tell_int .u64)) A_6_4_0 c_6_4_0 a_6_4]) (ne_0 : n_0 = List.length a_0) (k_0 : List.length a_0 ≤ c_0) (r_0 : Rd 1 (eInt .u64) m A_0 a_0) (e_4 : T_heap_Object.E m y_4 cs_4) (ne_6_4_0 : n_6_4_0 = List.length a_6_4) (ne_9 : n_9 = List.length a_9) (k_9 : List.length a_9 ≤ c_9) (r_9 : Rd 1 (eInt .u64) m A_9 a_9), f32.l0 (roadref3_ObjectAt.post W h0 m0 r) A_0 n_0 c_0 x_1 (⟨bk_4, 0, none⟩ : Addr) (⟨bk_6, 0, none⟩ : Addr) x_8 A_9 n_9 c_9 x_10 x_84 x_85 h
  | .l2 a_0 x_1 y_4 x_6_0 x_6_1 x_6_2 s_6_3 a_6_4 x_8 a_9 x_10 x_12 x_84 x_85 x_94 x_95, r => ∀ (W : Nat → Prop) (h0 m0 h m : Heap) (A_0 : Option Addr) (n_0 c_0 : Nat) (bk_4 : Nat) (cs_4 : List Value) (bk_6 : Nat) (A_6_4_0 : Option Addr) (n_6_4_0 : Nat) (c_6_4_0 : Nat) (A_9 : Option Addr) (n_9 c_9 : Nat) (O : Hold W h0 m0 h m [rV bk_4 63 cs_4, rV bk_6 63 [(Value.int .i64 x_6_0), (Value.int .i64 x_6_1), (Value.int .i64 x_6_2), (Value.string s_6_3), (Value.slice A_6_4_0 n_6_4_0 c_6_4_0)], rR (aE (tell_int .u64)) A_6_4_0 c_6_4_0 a_6_4]) (ne_0 : n_0 = List.length a_0) (k_0 : List.length a_0 ≤ c_0) (r_0 : Rd 1 (eInt .u64) m A_0 a_0) (e_4 : T_heap_Object.E m y_4 cs_4) (ne_6_4_0 : n_6_4_0 = List.length a_6_4) (ne_9 : n_9 = List.length a_9) (k_9 : List.length a_9 ≤ c_9) (r_9 : Rd 1 (eInt .u64) m A_9 a_9), f32.l2 (roadref3_ObjectAt.post W h0 m0 r) A_0 n_0 c_0 x_1 (⟨bk_4, 0, none⟩ : Addr) (⟨bk_6, 0, none⟩ : Addr) x_8 A_9 n_9 c_9 x_10 x_12 x_84 x_85 x_94 x_95 h
set_option maxHeartbeats 4000000 in
set_option maxRecDepth 100000 in
theorem roadref3_ObjectAt.l0_k.step_l0 (go : (p : roadref3_ObjectAt.l0_k.Pt) → Option (T_heap_Object × Bool)) (ih : ∀ p r, go p = some r → roadref3_ObjectAt.l0_k.I p r) (a_0 : List Int) (x_1 : Int) (y_4 : T_heap_Object) (x_6_0 : Int) (x_6_1 : Int) (x_6_2 : Int) (s_6_3 : ByteArray) (a_6_4 : (List Int)) (x_8 : Int) (a_9 : List Int) (x_10 : Int) (x_84 : Int) (x_85 : Int) (r : T_heap_Object × Bool) (e : roadref3_ObjectAt.l0_k.body go (.l0 a_0 x_1 y_4 x_6_0 x_6_1 x_6_2 s_6_3 a_6_4 x_8 a_9 x_10 x_84 x_85) = some r) : roadref3_ObjectAt.l0_k.I (.l0 a_0 x_1 y_4 x_6_0 x_6_1 x_6_2 s_6_3 a_6_4 x_8 a_9 x_10 x_84 x_85) r := by
  unfold roadref3_ObjectAt.l0_k.body at e
  intro W h0 m0 h m A_0 n_0 c_0 bk_4 cs_4 bk_6 A_6_4_0 n_6_4_0 c_6_4_0 A_9 n_9 c_9 O ne_0 k_0 r_0 e_4 ne_6_4_0 ne_9 k_9 r_9
  subst ne_0
  subst ne_6_4_0
  subst ne_9
  refine f32.l0_in ?_
  unfold f32.l0T
  refine split_dec_e e (fun c51 e => ?_) (fun c51 e => ?_)
  · refine ⟨by decide, ?_⟩
    obtain ⟨y1, g2, e⟩ := bind_e e
    refine r_9.addr rfl g2 fun a3 cs4 ha5 hc6 he7 => ?_
    obtain rfl : cs4 = [(Value.int .u64 y1)] := he7
    refine ⟨_, ld0 O.s hc6 rfl, _, rfl, ?_⟩
    refine ⟨by decide, ?_⟩
    exact (ih _ _ e) _ _ _ _ _ _ _ _ _ _ _ _ _ _ _ _ _ (O.pick [0, 1, 2]).nm rfl k_0 r_0 e_4 rfl rfl k_9 r_9
  · obtain ⟨l8, g9, e⟩ := bind_e e
    have q10 := sls_e g9
    refine ⟨q10.1, q10.2.1, cap_in q10.2.2.1 k_9, ?_⟩
    try rw [q10.2.2.2.1]
    have k11 : List.length l8 ≤ (c_9 - Int.toNat x_10) := sls_cap g9 k_9
    have r12 := r_9.sls g9 (le_mx q10.2.2.1 k_9)
    refine ⟨_, ldk (k := 4) (Sub.refl _) (O.all 1 rfl) rfl, _, _, _, rfl, ?_⟩
    obtain ⟨l13, g14, e⟩ := bind_e e
    refine O.app 2 rfl rfl rfl (Rd.srcE r12 (tell_int .u64) O.s rfl) (by decide) g14 fun A15 c16 h17 O18 => ?_
    refine ⟨_, _, _, rfl, ?_⟩
    refine O18.st 1 rfl 4 (Nat.le_of_ble_eq_true rfl) trivial fun h21 O22 => ?_
    refine ⟨_, ldAn (Sub.refl _) (O22.all 1 rfl) rfl, ?_⟩
    obtain ⟨y28, g29, e⟩ := bind_e e
    obtain ⟨m23, u24, ⟨r25, k26⟩, O27⟩ := O22.frz 2 rfl
    replace r25 : Rd 1 (eInt .u64) m23 A15 l13 := r25
    refine (roadref3_ObjectIs.walk (Hold.start (W := No) O27.s) (show T_heap_Object.E _ (T_heap_Object.mk x_6_0 x_6_1 x_6_2 s_6_3 l13) [(Value.int .i64 x_6_0), (Value.int .i64 x_6_1), (Value.int .i64 x_6_2), (Value.string s_6_3), (Value.slice A15 (List.length l13) c16)] from ⟨_, _, rfl, k26, r25⟩) g29).mono ?_
    rintro _ h30 ⟨m31, Q32, rfl⟩
    have O34 := Hold.nm (O27.retC Q32 vfs_nil)
    refine ⟨_, rfl, ?_⟩
    refine split_not ?_
    refine split_any_e e (fun c50 e => ?_) (fun c50 e => ?_)
    · refine ⟨_, ldAn (Sub.refl _) (O34.all 1 rfl) rfl, ?_⟩
      obtain ⟨y35, g36, e⟩ := bind_e e
      refine (roadref3_ObjectWords.walk (Hold.start (W := No) O34.s) (show T_heap_Object.E _ (T_heap_Object.mk x_6_0 x_6_1 x_6_2 s_6_3 l13) [(Value.int .i64 x_6_0), (Value.int .i64 x_6_1), (Value.int .i64 x_6_2), (Value.string s_6_3), (Value.slice A15 (List.length l13) c16)] from ⟨_, _, rfl, k26, r25⟩) g36).mono ?_
      rintro _ h37 ⟨m38, A41, n42, c43, Q39, rfl, ne44⟩
      have O46 := Hold.nm (O34.retC Q39 (vfs_cons (rR_vf (aE_vf (fun _ _ _ _ h => h))) vfs_nil))
      subst ne44
      refine ⟨_, _, _, rfl, ?_⟩
      exact roadref3_ObjectAt.l1.walk (O46.pick [0, 1, 3]).nm rfl k_0 (r_0.sub (tell_int .u64) u24) (T_heap_Object.T.mono _ _ _ _ u24 e_4) (show T_heap_Object.E _ (T_heap_Object.mk x_6_0 x_6_1 x_6_2 s_6_3 l13) [(Value.int .i64 x_6_0), (Value.int .i64 x_6_1), (Value.int .i64 x_6_2), (Value.string s_6_3), (Value.slice A15 (List.length l13) c16)] from ⟨_, _, rfl, k26, r25⟩) rfl e
    · refine ⟨_, rfl, rfl, ?_⟩
      refine O34.stA 0 rfl ((T_heap_Object.T.len _ _ _ e_4)).symm (Flats.cons trivial (Flats.cons trivial (Flats.cons trivial (Flats.cons trivial (Flats.cons trivial Flats.nil))))) fun h47 O48 => ?_
      refine ⟨_, ldAn (Sub.refl _) (O48.all 0 rfl) rfl, ?_⟩
      have O49 := O48.nm
      cases e
      exact ⟨_, _, O49.pick [], rfl, (show T_heap_Object.E _ (T_heap_Object.mk (0 : Int) (0 : Int) (0 : Int) (ByteArray.mk #[]) ([] : List Int)) [(Value.int .i64 (0 : Int)), (Value.int .i64 (0 : Int)), (Value.int .i64 (0 : Int)), (Value.string (ByteArray.mk #[])), (Value.slice none 0 0)] from ⟨_, _, rfl, (Nat.le_refl 0), Rd.nil⟩)⟩
set_option maxRecDepth 100000 in
theorem roadref3_ObjectAt.l0_k.step_l2 (go : (p : roadref3_ObjectAt.l0_k.Pt) → Option (T_heap_Object × Bool)) (ih : ∀ p r, go p = some r → roadref3_ObjectAt.l0_k.I p r) (a_0 : List Int) (x_1 : Int) (y_4 : T_heap_Object) (x_6_0 : Int) (x_6_1 : Int) (x_6_2 : Int) (s_6_3 : ByteArray) (a_6_4 : (List Int)) (x_8 : Int) (a_9 : List Int) (x_10 : Int) (x_12 : Int) (x_84 : Int) (x_85 : Int) (x_94 : Int) (x_95 : Int) (r : T_heap_Object × Bool) (e : roadref3_ObjectAt.l0_k.body go (.l2 a_0 x_1 y_4 x_6_0 x_6_1 x_6_2 s_6_3 a_6_4 x_8 a_9 x_10 x_12 x_84 x_85 x_94 x_95) = some r) : roadref3_ObjectAt.l0_k.I (.l2 a_0 x_1 y_4 x_6_0 x_6_1 x_6_2 s_6_3 a_6_4 x_8 a_9 x_10 x_12 x_84 x_85 x_94 x_95) r := by
  unfold roadref3_ObjectAt.l0_k.body at e
  intro W h0 m0 h m A_0 n_0 c_0 bk_4 cs_4 bk_6 A_6_4_0 n_6_4_0 c_6_4_0 A_9 n_9 c_9 O ne_0 k_0 r_0 e_4 ne_6_4_0 ne_9 k_9 r_9
  subst ne_0
  subst ne_6_4_0
  subst ne_9
  refine f32.l2_in ?_
  unfold f32.l2T
  refine split_dec_e e (fun c10 e => ?_) (fun c10 e => ?_)
  · refine ⟨by decide, ?_⟩
    exact (ih _ _ e) _ _ _ _ _ _ _ _ _ _ _ _ _ _ _ _ _ (O.pick [0, 1, 2]).nm rfl k_0 r_0 e_4 rfl rfl k_9 r_9
  · refine ⟨_, ldk (k := 3) (Sub.refl _) (O.all 1 rfl) rfl, _, rfl, ?_⟩
    refine ⟨by decide, ?_⟩
    refine O.new fun h1 x2 O3 => ?_
    have O5 := O3.rowE (l := ([(IntKind.wrap .u8 (Int.tmod x_12 (256 : Int)))] : List Int)) 3 rfl (tell_int .u8) (show CsE _ _ _ _ _ from (CsE.cons (c1 := [(Value.int .u8 (IntKind.wrap .u8 (Int.tmod x_12 (256 : Int))))]) rfl rfl CsE.nil)) rfl
    refine gen_b2s' (e := 5) (by kernel_rfl) (by kernel_rfl) (by kernel_rfl) ((O5.os 3 rfl).rd (tell_int .u8) O5.s) rfl ?_
    refine ⟨_, rfl, ?_⟩
    obtain ⟨g6, e⟩ := guard_e e
    refine ⟨g6, ?_⟩
    refine O5.st 1 rfl 3 (Nat.le_of_ble_eq_true rfl) trivial fun h7 O8 => ?_
    have O9 := O8.nm
    exact (ih _ _ e) _ _ _ _ _ _ _ _ _ _ _ _ _ _ _ _ _ (O9.pick [0, 1, 2]).nm rfl k_0 r_0 e_4 rfl rfl k_9 r_9
theorem roadref3_ObjectAt.l0_k.all {p : roadref3_ObjectAt.l0_k.Pt} {r : (T_heap_Object × Bool)} (e : roadref3_ObjectAt.l0_k.go p = some r) : roadref3_ObjectAt.l0_k.I p r := fixF_ind (β := fun _ => (T_heap_Object × Bool)) roadref3_ObjectAt.l0_k.mono (I := roadref3_ObjectAt.l0_k.I) (fun go ih p r e => match p with
  | .l0 a_0 x_1 y_4 x_6_0 x_6_1 x_6_2 s_6_3 a_6_4 x_8 a_9 x_10 x_84 x_85 => roadref3_ObjectAt.l0_k.step_l0 go ih a_0 x_1 y_4 x_6_0 x_6_1 x_6_2 s_6_3 a_6_4 x_8 a_9 x_10 x_84 x_85 r e
  | .l2 a_0 x_1 y_4 x_6_0 x_6_1 x_6_2 s_6_3 a_6_4 x_8 a_9 x_10 x_12 x_84 x_85 x_94 x_95 => roadref3_ObjectAt.l0_k.step_l2 go ih a_0 x_1 y_4 x_6_0 x_6_1 x_6_2 s_6_3 a_6_4 x_8 a_9 x_10 x_12 x_84 x_85 x_94 x_95 r e
  ) e
theorem roadref3_ObjectAt.l0.walk {W : Nat → Prop} {h0 m0 h m : Heap} {A_0 : Option Addr} {n_0 c_0 : Nat} {bk_4 : Nat} {cs_4 : List Value} {bk_6 : Nat} {A_6_4_0 : Option Addr} {n_6_4_0 : Nat} {c_6_4_0 : Nat} {A_9 : Option Addr} {n_9 c_9 : Nat} {a_0 : List Int} {x_1 : Int} {y_4 : T_heap_Object} {x_6_0 : Int} {x_6_1 : Int} {x_6_2 : Int} {s_6_3 : ByteArray} {a_6_4 : (List Int)} {x_8 : Int} {a_9 : List Int} {x_10 : Int} {x_84 : Int} {x_85 : Int} (O : Hold W h0 m0 h m [rV bk_4 63 cs_4, rV bk_6 63 [(Value.int .i64 x_6_0), (Value.int .i64 x_6_1), (Value.int .i64 x_6_2), (Value.string s_6_3), (Value.slice A_6_4_0 n_6_4_0 c_6_4_0)], rR (aE (tell_int .u64)) A_6_4_0 c_6_4_0 a_6_4]) (ne_0 : n_0 = List.length a_0) (k_0 : List.length a_0 ≤ c_0) (r_0 : Rd 1 (eInt .u64) m A_0 a_0) (e_4 : T_heap_Object.E m y_4 cs_4) (ne_6_4_0 : n_6_4_0 = List.length a_6_4) (ne_9 : n_9 = List.length a_9) (k_9 : List.length a_9 ≤ c_9) (r_9 : Rd 1 (eInt .u64) m A_9 a_9) {r : T_heap_Object × Bool} (e : roadref3_ObjectAt.l0 a_0 x_1 y_4 x_6_0 x_6_1 x_6_2 s_6_3 a_6_4 x_8 a_9 x_10 x_84 x_85 = some r) : f32.l0 (roadref3_ObjectAt.post W h0 m0 r) A_0 n_0 c_0 x_1 (⟨bk_4, 0, none⟩ : Addr) (⟨bk_6, 0, none⟩ : Addr) x_8 A_9 n_9 c_9 x_10 x_84 x_85 h := roadref3_ObjectAt.l0_k.all (p := .l0 a_0 x_1 y_4 x_6_0 x_6_1 x_6_2 s_6_3 a_6_4 x_8 a_9 x_10 x_84 x_85) e W h0 m0 h m A_0 n_0 c_0 bk_4 cs_4 bk_6 A_6_4_0 n_6_4_0 c_6_4_0 A_9 n_9 c_9 O ne_0 k_0 r_0 e_4 ne_6_4_0 ne_9 k_9 r_9
noncomputable def roadref3_ObjectAt.j2 (a_0 : List Int) (x_1 : Int) (y_4 : T_heap_Object) (x_6_0 : Int) (x_6_1 : Int) (x_6_2 : Int) (s_6_3 : ByteArray) (a_6_4 : (List Int)) (x_7 : Int) (x_8 : Int) (a_9 : List Int) : Option (T_heap_Object × Bool) :=
  if (((List.length a_9) : Nat) : Int) < (IntKind.wrap .i64 ((IntKind.wrap .i64 (Int.tdiv (IntKind.wrap .i64 (x_7 + (7 : Int))) (8 : Int))) + x_8)) then (some ((T_heap_Object.mk (0 : Int) (0 : Int) (0 : Int) (ByteArray.mk #[]) ([] : List Int)), false)) else ((roadref3_ObjectAt.l0 a_0 x_1 y_4 x_6_0 x_6_1 x_6_2 s_6_3 a_6_4 x_8 a_9 (IntKind.wrap .i64 (Int.tdiv (IntKind.wrap .i64 (x_7 + (7 : Int))) (8 : Int))) x_7 (0 : Int)))
set_option maxRecDepth 100000 in
theorem roadref3_ObjectAt.j2.walk {W : Nat → Prop} {h0 m0 h m : Heap} {A_0 : Option Addr} {n_0 c_0 : Nat} {bk_4 : Nat} {cs_4 : List Value} {bk_6 : Nat} {A_6_4_0 : Option Addr} {n_6_4_0 : Nat} {c_6_4_0 : Nat} {A_9 : Option Addr} {n_9 c_9 : Nat} {a_0 : List Int} {x_1 : Int} {y_4 : T_heap_Object} {x_6_0 : Int} {x_6_1 : Int} {x_6_2 : Int} {s_6_3 : ByteArray} {a_6_4 : (List Int)} {x_7 : Int} {x_8 : Int} {a_9 : List Int} (O : Hold W h0 m0 h m [rV bk_4 63 cs_4, rV bk_6 63 [(Value.int .i64 x_6_0), (Value.int .i64 x_6_1), (Value.int .i64 x_6_2), (Value.string s_6_3), (Value.slice A_6_4_0 n_6_4_0 c_6_4_0)], rR (aE (tell_int .u64)) A_6_4_0 c_6_4_0 a_6_4]) (ne_0 : n_0 = List.length a_0) (k_0 : List.length a_0 ≤ c_0) (r_0 : Rd 1 (eInt .u64) m A_0 a_0) (e_4 : T_heap_Object.E m y_4 cs_4) (ne_6_4_0 : n_6_4_0 = List.length a_6_4) (ne_9 : n_9 = List.length a_9) (k_9 : List.length a_9 ≤ c_9) (r_9 : Rd 1 (eInt .u64) m A_9 a_9) {r : T_heap_Object × Bool} (e : roadref3_ObjectAt.j2 a_0 x_1 y_4 x_6_0 x_6_1 x_6_2 s_6_3 a_6_4 x_7 x_8 a_9 = some r) : f32.j2 (roadref3_ObjectAt.post W h0 m0 r) A_0 n_0 c_0 x_1 (⟨bk_4, 0, none⟩ : Addr) (⟨bk_6, 0, none⟩ : Addr) x_7 x_8 A_9 n_9 c_9 h := by
  unfold roadref3_ObjectAt.j2 at e
  subst ne_0
  subst ne_6_4_0
  subst ne_9
  refine f32.j2_in ?_
  unfold f32.j2T
  refine ⟨by decide, ?_⟩
  refine split_dec_e e (fun c4 e => ?_) (fun c4 e => ?_)
  · refine ⟨_, rfl, rfl, ?_⟩
    refine O.stA 0 rfl ((T_heap_Object.T.len _ _ _ e_4)).symm (Flats.cons trivial (Flats.cons trivial (Flats.cons trivial (Flats.cons trivial (Flats.cons trivial Flats.nil))))) fun h1 O2 => ?_
    refine ⟨_, ldAn (Sub.refl _) (O2.all 0 rfl) rfl, ?_⟩
    have O3 := O2.nm
    cases e
    exact ⟨_, _, O3.pick [], rfl, (show T_heap_Object.E _ (T_heap_Object.mk (0 : Int) (0 : Int) (0 : Int) (ByteArray.mk #[]) ([] : List Int)) [(Value.int .i64 (0 : Int)), (Value.int .i64 (0 : Int)), (Value.int .i64 (0 : Int)), (Value.string (ByteArray.mk #[])), (Value.slice none 0 0)] from ⟨_, _, rfl, (Nat.le_refl 0), Rd.nil⟩)⟩
  · exact roadref3_ObjectAt.l0.walk (O.pick [0, 1, 2]).nm rfl k_0 r_0 e_4 rfl rfl k_9 r_9 e
noncomputable def roadref3_ObjectAt.j3 (a_0 : List Int) (x_1 : Int) (y_4 : T_heap_Object) (x_6_0 : Int) (x_6_1 : Int) (x_6_2 : Int) (s_6_3 : ByteArray) (a_6_4 : (List Int)) (x_7 : Int) (x_8 : Int) (a_9 : List Int) (b_62 : Bool) : Option (T_heap_Object × Bool) :=
  if b_62 = true then (if (((List.length a_9) : Nat) : Int) = (0 : Int) then (some ((T_heap_Object.mk (0 : Int) (0 : Int) (0 : Int) (ByteArray.mk #[]) ([] : List Int)), false)) else (Option.bind (gi a_9 (0 : Int)) fun y4 => Option.bind (sls a_9 (1 : Int) (((List.length a_9) : Nat) : Int)) fun l11 => (roadref3_ObjectAt.j2 a_0 x_1 y_4 x_6_0 x_6_1 (IntKind.wrap .i64 y4) s_6_3 a_6_4 x_7 x_8 l11))) else ((roadref3_ObjectAt.j2 a_0 x_1 y_4 x_6_0 x_6_1 x_6_2 s_6_3 a_6_4 x_7 x_8 a_9))
set_option maxRecDepth 100000 in
theorem roadref3_ObjectAt.j3.walk {W : Nat → Prop} {h0 m0 h m : Heap} {A_0 : Option Addr} {n_0 c_0 : Nat} {bk_4 : Nat} {cs_4 : List Value} {bk_6 : Nat} {A_6_4_0 : Option Addr} {n_6_4_0 : Nat} {c_6_4_0 : Nat} {A_9 : Option Addr} {n_9 c_9 : Nat} {a_0 : List Int} {x_1 : Int} {y_4 : T_heap_Object} {x_6_0 : Int} {x_6_1 : Int} {x_6_2 : Int} {s_6_3 : ByteArray} {a_6_4 : (List Int)} {x_7 : Int} {x_8 : Int} {a_9 : List Int} {b_62 : Bool} (O : Hold W h0 m0 h m [rV bk_4 63 cs_4, rV bk_6 63 [(Value.int .i64 x_6_0), (Value.int .i64 x_6_1), (Value.int .i64 x_6_2), (Value.string s_6_3), (Value.slice A_6_4_0 n_6_4_0 c_6_4_0)], rR (aE (tell_int .u64)) A_6_4_0 c_6_4_0 a_6_4]) (ne_0 : n_0 = List.length a_0) (k_0 : List.length a_0 ≤ c_0) (r_0 : Rd 1 (eInt .u64) m A_0 a_0) (e_4 : T_heap_Object.E m y_4 cs_4) (ne_6_4_0 : n_6_4_0 = List.length a_6_4) (ne_9 : n_9 = List.length a_9) (k_9 : List.length a_9 ≤ c_9) (r_9 : Rd 1 (eInt .u64) m A_9 a_9) {r : T_heap_Object × Bool} (e : roadref3_ObjectAt.j3 a_0 x_1 y_4 x_6_0 x_6_1 x_6_2 s_6_3 a_6_4 x_7 x_8 a_9 b_62 = some r) : f32.j3 (roadref3_ObjectAt.post W h0 m0 r) A_0 n_0 c_0 x_1 (⟨bk_4, 0, none⟩ : Addr) (⟨bk_6, 0, none⟩ : Addr) x_7 x_8 A_9 n_9 c_9 b_62 h := by
  unfold roadref3_ObjectAt.j3 at e
  subst ne_0
  subst ne_6_4_0
  subst ne_9
  refine f32.j3_in ?_
  unfold f32.j3T
  refine split_any_e e (fun c20 e => ?_) (fun c20 e => ?_)
  · refine split_eq_e e (fun c19 e => ?_) (fun c19 e => ?_)
    · refine ⟨_, rfl, rfl, ?_⟩
      refine O.stA 0 rfl ((T_heap_Object.T.len _ _ _ e_4)).symm (Flats.cons trivial (Flats.cons trivial (Flats.cons trivial (Flats.cons trivial (Flats.cons trivial Flats.nil))))) fun h1 O2 => ?_
      refine ⟨_, ldAn (Sub.refl _) (O2.all 0 rfl) rfl, ?_⟩
      have O3 := O2.nm
      cases e
      exact ⟨_, _, O3.pick [], rfl, (show T_heap_Object.E _ (T_heap_Object.mk (0 : Int) (0 : Int) (0 : Int) (ByteArray.mk #[]) ([] : List Int)) [(Value.int .i64 (0 : Int)), (Value.int .i64 (0 : Int)), (Value.int .i64 (0 : Int)), (Value.string (ByteArray.mk #[])), (Value.slice none 0 0)] from ⟨_, _, rfl, (Nat.le_refl 0), Rd.nil⟩)⟩
    · obtain ⟨y4, g5, e⟩ := bind_e e
      refine r_9.addr rfl g5 fun a6 cs7 ha8 hc9 he10 => ?_
      obtain rfl : cs7 = [(Value.int .u64 y4)] := he10
      obtain ⟨l11, g12, e⟩ := bind_e e
      have q13 := sls_e g12
      refine ⟨q13.1, q13.2.1, cap_in q13.2.2.1 k_9, ?_⟩
      try rw [q13.2.2.2.1]
      have k14 : List.length l11 ≤ (c_9 - Int.toNat (1 : Int)) := sls_cap g12 k_9
      have r15 := r_9.sls g12 (le_mx q13.2.2.1 k_9)
      refine ⟨_, ld0 O.s hc9 rfl, _, rfl, ?_⟩
      refine O.st 1 rfl 2 (Nat.le_of_ble_eq_true rfl) trivial fun h16 O17 => ?_
      have O18 := O17.nm
      exact roadref3_ObjectAt.j2.walk (O18.pick [0, 1, 2]).nm rfl k_0 r_0 e_4 rfl rfl k14 r15 e
  · exact roadref3_ObjectAt.j2.walk (O.pick [0, 1, 2]).nm rfl k_0 r_0 e_4 rfl rfl k_9 r_9 e
noncomputable def roadref3_ObjectAt.j0 (a_0 : List Int) (x_1 : Int) (y_4 : T_heap_Object) : Option (T_heap_Object × Bool) :=
  Option.bind (gi a_0 x_1) fun y1 => Option.bind (gi a_0 x_1) fun y14 => Option.bind (gi a_0 x_1) fun y21 => Option.bind (sls a_0 (IntKind.wrap .i64 (x_1 + (1 : Int))) (((List.length a_0) : Nat) : Int)) fun l28 => if (IntKind.wrap .i64 (Int.tmod y1 (256 : Int))) = (1 : Int) then ((roadref3_ObjectAt.j3 a_0 x_1 y_4 x_1 (IntKind.wrap .i64 (Int.tmod y1 (256 : Int))) (0 : Int) (ByteArray.mk #[]) ([] : List Int) (IntKind.wrap .i64 (Int.tmod (IntKind.wrap .u64 (Int.tdiv y14 (256 : Int))) (4096 : Int))) (IntKind.wrap .i64 (IntKind.wrap .u64 (Int.tdiv y21 (1048576 : Int)))) l28 true)) else ((roadref3_ObjectAt.j3 a_0 x_1 y_4 x_1 (IntKind.wrap .i64 (Int.tmod y1 (256 : Int))) (0 : Int) (ByteArray.mk #[]) ([] : List Int) (IntKind.wrap .i64 (Int.tmod (IntKind.wrap .u64 (Int.tdiv y14 (256 : Int))) (4096 : Int))) (IntKind.wrap .i64 (IntKind.wrap .u64 (Int.tdiv y21 (1048576 : Int)))) l28 ((IntKind.wrap .i64 (Int.tmod y1 (256 : Int))) == (4 : Int))))
set_option maxHeartbeats 4000000 in
set_option maxRecDepth 100000 in
theorem roadref3_ObjectAt.j0.walk {W : Nat → Prop} {h0 m0 h m : Heap} {A_0 : Option Addr} {n_0 c_0 : Nat} {bk_4 : Nat} {cs_4 : List Value} {a_0 : List Int} {x_1 : Int} {y_4 : T_heap_Object} (O : Hold W h0 m0 h m [rV bk_4 63 cs_4]) (ne_0 : n_0 = List.length a_0) (k_0 : List.length a_0 ≤ c_0) (r_0 : Rd 1 (eInt .u64) m A_0 a_0) (e_4 : T_heap_Object.E m y_4 cs_4) {r : T_heap_Object × Bool} (e : roadref3_ObjectAt.j0 a_0 x_1 y_4 = some r) : f32.j0 (roadref3_ObjectAt.post W h0 m0 r) A_0 n_0 c_0 x_1 (⟨bk_4, 0, none⟩ : Addr) h := by
  unfold roadref3_ObjectAt.j0 at e
  subst ne_0
  refine f32.j0_in ?_
  unfold f32.j0T
  obtain ⟨y1, g2, e⟩ := bind_e e
  refine r_0.addr rfl g2 fun a3 cs4 ha5 hc6 he7 => ?_
  obtain rfl : cs4 = [(Value.int .u64 y1)] := he7
  refine ⟨_, ld0 O.s hc6 rfl, _, rfl, ?_⟩
  refine ⟨by decide, ?_⟩
  refine O.new fun h8 x9 O10 => ?_
  refine ⟨_, rfl, rfl, ?_⟩
  refine O10.stA 1 rfl rfl (Flats.cons trivial (Flats.cons trivial (Flats.cons trivial (Flats.cons trivial (Flats.cons trivial Flats.nil))))) fun h12 O13 => ?_
  obtain ⟨y14, g15, e⟩ := bind_e e
  refine r_0.addr rfl g15 fun a16 cs17 ha18 hc19 he20 => ?_
  obtain rfl : cs17 = [(Value.int .u64 y14)] := he20
  obtain ⟨y21, g22, e⟩ := bind_e e
  refine r_0.addr rfl g22 fun a23 cs24 ha25 hc26 he27 => ?_
  obtain rfl : cs24 = [(Value.int .u64 y21)] := he27
  refine ⟨_, ld0 O13.s hc19 rfl, _, rfl, ?_⟩
  refine ⟨by decide, ?_⟩
  refine ⟨by decide, ?_⟩
  refine ⟨_, ld0 O13.s hc26 rfl, _, rfl, ?_⟩
  refine ⟨by decide, ?_⟩
  obtain ⟨l28, g29, e⟩ := bind_e e
  have q30 := sls_e g29
  refine ⟨q30.1, q30.2.1, cap_in q30.2.2.1 k_0, ?_⟩
  try rw [q30.2.2.2.1]
  have k31 : List.length l28 ≤ (c_0 - Int.toNat (IntKind.wrap .i64 (x_1 + (1 : Int)))) := sls_cap g29 k_0
  have r32 := r_0.sls g29 (le_mx q30.2.2.1 k_0)
  refine ⟨_, ldk (k := 1) (Sub.refl _) (O13.all 1 rfl) rfl, _, rfl, ?_⟩
  refine split_eq_e e (fun c39 e => ?_) (fun c39 e => ?_)
  · have O33 := O13.nil (aE (tell_int .u64)) none
    have O35 := O33.nm
    exact roadref3_ObjectAt.j3.walk (O35.pick [0, 1, 2]).nm rfl k_0 r_0 e_4 rfl rfl k31 r32 e
  · refine ⟨_, ldk (k := 1) (Sub.refl _) (O13.all 1 rfl) rfl, _, rfl, ?_⟩
    have O36 := O13.nil (aE (tell_int .u64)) none
    have O38 := O36.nm
    exact roadref3_ObjectAt.j3.walk (O38.pick [0, 1, 2]).nm rfl k_0 r_0 e_4 rfl rfl k31 r32 e
noncomputable def roadref3_ObjectAt.j1 (a_0 : List Int) (x_1 : Int) (y_4 : T_heap_Object) (b_28 : Bool) : Option (T_heap_Object × Bool) :=
  if b_28 = true then (some ((T_heap_Object.mk (0 : Int) (0 : Int) (0 : Int) (ByteArray.mk #[]) ([] : List Int)), false)) else ((roadref3_ObjectAt.j0 a_0 x_1 y_4))
set_option maxRecDepth 100000 in
theorem roadref3_ObjectAt.j1.walk {W : Nat → Prop} {h0 m0 h m : Heap} {A_0 : Option Addr} {n_0 c_0 : Nat} {bk_4 : Nat} {cs_4 : List Value} {a_0 : List Int} {x_1 : Int} {y_4 : T_heap_Object} {b_28 : Bool} (O : Hold W h0 m0 h m [rV bk_4 63 cs_4]) (ne_0 : n_0 = List.length a_0) (k_0 : List.length a_0 ≤ c_0) (r_0 : Rd 1 (eInt .u64) m A_0 a_0) (e_4 : T_heap_Object.E m y_4 cs_4) {r : T_heap_Object × Bool} (e : roadref3_ObjectAt.j1 a_0 x_1 y_4 b_28 = some r) : f32.j1 (roadref3_ObjectAt.post W h0 m0 r) A_0 n_0 c_0 x_1 (⟨bk_4, 0, none⟩ : Addr) b_28 h := by
  unfold roadref3_ObjectAt.j1 at e
  subst ne_0
  refine f32.j1_in ?_
  unfold f32.j1T
  refine split_any_e e (fun c4 e => ?_) (fun c4 e => ?_)
  · refine ⟨_, rfl, rfl, ?_⟩
    refine O.stA 0 rfl ((T_heap_Object.T.len _ _ _ e_4)).symm (Flats.cons trivial (Flats.cons trivial (Flats.cons trivial (Flats.cons trivial (Flats.cons trivial Flats.nil))))) fun h1 O2 => ?_
    refine ⟨_, ldAn (Sub.refl _) (O2.all 0 rfl) rfl, ?_⟩
    have O3 := O2.nm
    cases e
    exact ⟨_, _, O3.pick [], rfl, (show T_heap_Object.E _ (T_heap_Object.mk (0 : Int) (0 : Int) (0 : Int) (ByteArray.mk #[]) ([] : List Int)) [(Value.int .i64 (0 : Int)), (Value.int .i64 (0 : Int)), (Value.int .i64 (0 : Int)), (Value.string (ByteArray.mk #[])), (Value.slice none 0 0)] from ⟨_, _, rfl, (Nat.le_refl 0), Rd.nil⟩)⟩
  · exact roadref3_ObjectAt.j0.walk (O.pick [0]).nm rfl k_0 r_0 e_4 e
noncomputable def roadref3_ObjectAt (a_0 : List Int) (x_1 : Int) : Option (T_heap_Object × Bool) :=
  Option.bind (roadref3_In x_1 (0 : Int) (IntKind.wrap .i64 ((((List.length a_0) : Nat) : Int) - (1 : Int)))) fun y5 => if y5 = true then (Option.bind (gi a_0 x_1) fun y12 => (roadref3_ObjectAt.j1 a_0 x_1 (T_heap_Object.mk (0 : Int) (0 : Int) (0 : Int) (ByteArray.mk #[]) ([] : List Int)) (decide ((IntKind.wrap .u64 (Int.tdiv y12 (4294967296 : Int))) > (0 : Int))))) else ((roadref3_ObjectAt.j1 a_0 x_1 (T_heap_Object.mk (0 : Int) (0 : Int) (0 : Int) (ByteArray.mk #[]) ([] : List Int)) true))
set_option maxRecDepth 100000 in
theorem roadref3_ObjectAt.walk {W : Nat → Prop} {h m : Heap} {A_0 : Option Addr} {n_0 c_0 : Nat} {a_0 : List Int} {x_1 : Int} (O : Hold W h m h m []) (ne_0 : n_0 = List.length a_0) (k_0 : List.length a_0 ≤ c_0) (r_0 : Rd 1 (eInt .u64) m A_0 a_0) {r : T_heap_Object × Bool} (e : roadref3_ObjectAt a_0 x_1 = some r) : Run Try.prog 32 #[Value.slice A_0 n_0 c_0, Value.int .i64 x_1] h (roadref3_ObjectAt.post W h m r) := by
  unfold roadref3_ObjectAt at e
  subst ne_0
  refine f32.run ?_
  unfold f32.runT
  refine O.new fun h1 x2 O3 => ?_
  obtain ⟨y5, g6, e⟩ := bind_e e
  refine (roadref3_In.walk (Hold.start (W := No) O3.s)  g6).mono ?_
  rintro _ h7 ⟨m8, Q9, rfl⟩
  have O11 := Hold.nm (O3.retC Q9 vfs_nil)
  refine ⟨_, rfl, ?_⟩
  refine split_not ?_
  refine split_any_e e (fun c19 e => ?_) (fun c19 e => ?_)
  · obtain ⟨y12, g13, e⟩ := bind_e e
    refine r_0.addr rfl g13 fun a14 cs15 ha16 hc17 he18 => ?_
    obtain rfl : cs15 = [(Value.int .u64 y12)] := he18
    refine ⟨_, ld0 O11.s hc17 rfl, _, rfl, ?_⟩
    refine ⟨by decide, ?_⟩
    exact roadref3_ObjectAt.j1.walk (O11.pick [0]).nm rfl k_0 r_0 (show T_heap_Object.E _ (T_heap_Object.mk (0 : Int) (0 : Int) (0 : Int) (ByteArray.mk #[]) ([] : List Int)) [(Value.int .i64 (0 : Int)), (Value.int .i64 (0 : Int)), (Value.int .i64 (0 : Int)), (Value.string (ByteArray.mk #[])), (Value.slice none 0 0)] from ⟨_, _, rfl, (Nat.le_refl 0), Rd.nil⟩) e
  · exact roadref3_ObjectAt.j1.walk (O11.pick [0]).nm rfl k_0 r_0 (show T_heap_Object.E _ (T_heap_Object.mk (0 : Int) (0 : Int) (0 : Int) (ByteArray.mk #[]) ([] : List Int)) [(Value.int .i64 (0 : Int)), (Value.int .i64 (0 : Int)), (Value.int .i64 (0 : Int)), (Value.string (ByteArray.mk #[])), (Value.slice none 0 0)] from ⟨_, _, rfl, (Nat.le_refl 0), Rd.nil⟩) e
def roadref3_HeapObjects.post (W : Nat → Prop) (h0 m0 : Heap) (r : (List T_heap_Object) × Int) (v : Value) (h : Heap) : Prop := ∃ m A0 n0 c0, Hold W h0 m0 h m [rR (aE T_heap_Object.T) A0 c0 r.1] ∧ v = .tuple #[.slice A0 n0 c0, .int .i64 r.2] ∧ n0 = List.length r.1
inductive roadref3_HeapObjects.l0_k.Pt where
  | l0 (a_0 : List Int) (a_4 : List T_heap_Object) (x_5 : Int)
noncomputable def roadref3_HeapObjects.l0_k.body (go : (p : roadref3_HeapObjects.l0_k.Pt) → Option ((List T_heap_Object) × Int)) : (p : roadref3_HeapObjects.l0_k.Pt) → Option ((List T_heap_Object) × Int)
  | .l0 a_0 a_4 x_5 => if x_5 < (((List.length a_0) : Nat) : Int) then (Option.bind (roadref3_ObjectAt a_0 x_5) fun y1 => if y1.2 = true then (Option.bind (ap 64 a_4 ([y1.1] : List T_heap_Object)) fun l22 => Option.bind (roadref3_ObjectWords y1.1) fun y32 => (go (.l0 a_0 l22 (IntKind.wrap .i64 (x_5 + (((List.length y32) : Nat) : Int)))))) else (some (([] : List T_heap_Object), (3 : Int)))) else (some (a_4, (0 : Int)))
theorem roadref3_HeapObjects.l0_k.mono : MonoF (β := fun _ => ((List T_heap_Object) × Int)) roadref3_HeapObjects.l0_k.body := fun f g hfg p => match p with
  | .l0 a_0 a_4 x_5 => LeO.ite (LeO.bind (LeO.refl _) fun y1 => LeO.ite (LeO.bind (LeO.refl _) fun l22 => LeO.bind (LeO.refl _) fun y32 => (hfg _)) (LeO.refl _)) (LeO.refl _)
noncomputable def roadref3_HeapObjects.l0_k.go (p : roadref3_HeapObjects.l0_k.Pt) : Option ((List T_heap_Object) × Int) := fixF (β := fun _ => ((List T_heap_Object) × Int)) roadref3_HeapObjects.l0_k.body p
noncomputable def roadref3_HeapObjects.l0 (a_0 : List Int) (a_4 : List T_heap_Object) (x_5 : Int) : Option ((List T_heap_Object) × Int) := roadref3_HeapObjects.l0_k.go (.l0 a_0 a_4 x_5)
theorem roadref3_HeapObjects.l0_eq (a_0 : List Int) (a_4 : List T_heap_Object) (x_5 : Int) : roadref3_HeapObjects.l0 a_0 a_4 x_5 = if x_5 < (((List.length a_0) : Nat) : Int) then (Option.bind (roadref3_ObjectAt a_0 x_5) fun y1 => if y1.2 = true then (Option.bind (ap 64 a_4 ([y1.1] : List T_heap_Object)) fun l22 => Option.bind (roadref3_ObjectWords y1.1) fun y32 => (roadref3_HeapObjects.l0 a_0 l22 (IntKind.wrap .i64 (x_5 + (((List.length y32) : Nat) : Int))))) else (some (([] : List T_heap_Object), (3 : Int)))) else (some (a_4, (0 : Int))) := fixF_eq roadref3_HeapObjects.l0_k.mono _
def roadref3_HeapObjects.l0_k.I : (p : roadref3_HeapObjects.l0_k.Pt) → ((List T_heap_Object) × Int) → Prop
  | .l0 a_0 a_4 x_5, r => ∀ (W : Nat → Prop) (h0 m0 h m : Heap) (A_0 : Option Addr) (n_0 c_0 : Nat) (A_4 : Option Addr) (n_4 c_4 : Nat) (O : Hold W h0 m0 h m [rR (aE T_heap_Object.T) A_4 c_4 a_4]) (ne_0 : n_0 = List.length a_0) (k_0 : List.length a_0 ≤ c_0) (r_0 : Rd 1 (eInt .u64) m A_0 a_0) (ne_4 : n_4 = List.length a_4), f30.l0 (roadref3_HeapObjects.post W h0 m0 r) A_0 n_0 c_0 A_4 n_4 c_4 x_5 h
set_option maxHeartbeats 4000000 in
set_option maxRecDepth 100000 in
theorem roadref3_HeapObjects.l0_k.step_l0 (go : (p : roadref3_HeapObjects.l0_k.Pt) → Option ((List T_heap_Object) × Int)) (ih : ∀ p r, go p = some r → roadref3_HeapObjects.l0_k.I p r) (a_0 : List Int) (a_4 : List T_heap_Object) (x_5 : Int) (r : (List T_heap_Object) × Int) (e : roadref3_HeapObjects.l0_k.body go (.l0 a_0 a_4 x_5) = some r) : roadref3_HeapObjects.l0_k.I (.l0 a_0 a_4 x_5) r := by
  unfold roadref3_HeapObjects.l0_k.body at e
  intro W h0 m0 h m A_0 n_0 c_0 A_4 n_4 c_4 O ne_0 k_0 r_0 ne_4
  subst ne_0
  subst ne_4
  refine f30.l0_in ?_
  unfold f30.l0T
  refine split_dec_e e (fun c48 e => ?_) (fun c48 e => ?_)
  · obtain ⟨y1, g2, e⟩ := bind_e e
    refine (roadref3_ObjectAt.walk (Hold.start (W := No) O.s) rfl k_0 r_0 g2).mono ?_
    rintro _ h3 ⟨m4, cs8, Q5, rfl, he9⟩
    have O10 := Hold.nm (O.ret Q5)
    refine ⟨_, _, rfl, ?_⟩
    refine O10.new fun h11 x12 O13 => ?_
    refine ⟨_, rfl, (T_heap_Object.T.len _ _ _ he9), ?_⟩
    refine O13.stA 1 rfl (T_heap_Object.T.len _ _ _ he9) (T_heap_Object.T.flat _ _ _ he9) fun h15 O16 => ?_
    refine split_not ?_
    refine split_any_e e (fun c47 e => ?_) (fun c47 e => ?_)
    · refine ⟨_, ldAn (Sub.refl _) (O16.all 1 rfl) (T_heap_Object.T.len _ _ _ he9), ?_⟩
      refine ⟨cs8, rfl, (T_heap_Object.T.len _ _ _ he9), ?_⟩
      refine O16.new fun h17 x18 O19 => ?_
      have O21 := O19.recell 2 rfl (cs' := cs8 ++ []) rfl
      obtain ⟨l22, g23, e⟩ := bind_e e
      have O30 := O21.rowE (l := ([y1.1] : List T_heap_Object)) 2 rfl T_heap_Object.T (show CsE _ _ _ _ _ from (CsE.cons he9 (T_heap_Object.T.len _ _ _ he9) CsE.nil)) rfl
      refine O30.app 0 rfl rfl rfl ((O30.os 2 rfl).srcE rfl) (by decide) g23 fun A24 c25 h26 O27 => ?_
      refine ⟨_, _, _, rfl, ?_⟩
      have O31 := O27.nm
      refine ⟨_, ldAn (Sub.refl _) (O31.all 1 rfl) (T_heap_Object.T.len _ _ _ he9), ?_⟩
      obtain ⟨y32, g33, e⟩ := bind_e e
      refine (roadref3_ObjectWords.walk (Hold.start (W := No) O31.s) he9 g33).mono ?_
      rintro _ h34 ⟨m35, A38, n39, c40, Q36, rfl, ne41⟩
      have O43 := Hold.nm (O31.retC Q36 (vfs_cons (rR_vf (aE_vf (fun _ _ _ _ h => h))) vfs_nil))
      subst ne41
      refine ⟨_, _, _, rfl, ?_⟩
      exact (ih _ _ e) _ _ _ _ _ _ _ _ _ _ _ (O43.pick [0]).nm rfl k_0 (r_0.sub (tell_int .u64) Q5.S.up) rfl
    · have O44 := O16.nil (aE T_heap_Object.T) none
      have O46 := O44.nm
      cases e
      exact ⟨_, _, _, _, O46.pick [2], rfl, rfl⟩
  · cases e
    exact ⟨_, _, _, _, O.pick [0], rfl, rfl⟩
theorem roadref3_HeapObjects.l0_k.all {p : roadref3_HeapObjects.l0_k.Pt} {r : ((List T_heap_Object) × Int)} (e : roadref3_HeapObjects.l0_k.go p = some r) : roadref3_HeapObjects.l0_k.I p r := fixF_ind (β := fun _ => ((List T_heap_Object) × Int)) roadref3_HeapObjects.l0_k.mono (I := roadref3_HeapObjects.l0_k.I) (fun go ih p r e => match p with
  | .l0 a_0 a_4 x_5 => roadref3_HeapObjects.l0_k.step_l0 go ih a_0 a_4 x_5 r e
  ) e
theorem roadref3_HeapObjects.l0.walk {W : Nat → Prop} {h0 m0 h m : Heap} {A_0 : Option Addr} {n_0 c_0 : Nat} {A_4 : Option Addr} {n_4 c_4 : Nat} {a_0 : List Int} {a_4 : List T_heap_Object} {x_5 : Int} (O : Hold W h0 m0 h m [rR (aE T_heap_Object.T) A_4 c_4 a_4]) (ne_0 : n_0 = List.length a_0) (k_0 : List.length a_0 ≤ c_0) (r_0 : Rd 1 (eInt .u64) m A_0 a_0) (ne_4 : n_4 = List.length a_4) {r : (List T_heap_Object) × Int} (e : roadref3_HeapObjects.l0 a_0 a_4 x_5 = some r) : f30.l0 (roadref3_HeapObjects.post W h0 m0 r) A_0 n_0 c_0 A_4 n_4 c_4 x_5 h := roadref3_HeapObjects.l0_k.all (p := .l0 a_0 a_4 x_5) e W h0 m0 h m A_0 n_0 c_0 A_4 n_4 c_4 O ne_0 k_0 r_0 ne_4
noncomputable def roadref3_HeapObjects (a_0 : List Int) : Option ((List T_heap_Object) × Int) :=
  if (((List.length a_0) : Nat) : Int) > (4000 : Int) then (some (([] : List T_heap_Object), (2 : Int))) else ((roadref3_HeapObjects.l0 a_0 ([] : List T_heap_Object) (0 : Int)))
set_option maxRecDepth 100000 in
theorem roadref3_HeapObjects.walk {W : Nat → Prop} {h m : Heap} {A_0 : Option Addr} {n_0 c_0 : Nat} {a_0 : List Int} (O : Hold W h m h m []) (ne_0 : n_0 = List.length a_0) (k_0 : List.length a_0 ≤ c_0) (r_0 : Rd 1 (eInt .u64) m A_0 a_0) {r : (List T_heap_Object) × Int} (e : roadref3_HeapObjects a_0 = some r) : Run Try.prog 30 #[Value.slice A_0 n_0 c_0] h (roadref3_HeapObjects.post W h m r) := by
  unfold roadref3_HeapObjects at e
  subst ne_0
  refine f30.run ?_
  unfold f30.runT
  refine split_dec_e e (fun c7 e => ?_) (fun c7 e => ?_)
  · have O1 := O.nil (aE T_heap_Object.T) none
    have O3 := O1.nm
    cases e
    exact ⟨_, _, _, _, O3.pick [0], rfl, rfl⟩
  · have O4 := O.nil (aE T_heap_Object.T) none
    have O6 := O4.nm
    exact roadref3_HeapObjects.l0.walk (O6.pick [0]).nm rfl k_0 r_0 rfl e
def roadref3_TagFits.post (W : Nat → Prop) (h0 m0 : Heap) (r : Bool) (v : Value) (h : Heap) : Prop := ∃ m , Hold W h0 m0 h m [] ∧ v = .bool r
noncomputable def roadref3_TagFits.j0 (x_0 : Int) (x_1 : Int) (x_5 : Int) (x_6 : Int) : Option (Bool) :=
  Option.bind (roadref3_In x_0 (0 : Int) (4 : Int)) fun y1 => if y1 = true then (Option.bind (roadref3_In x_1 x_5 x_6) fun y8 => some (y8)) else (some (false))
set_option maxRecDepth 100000 in
theorem roadref3_TagFits.j0.walk {W : Nat → Prop} {h0 m0 h m : Heap} {x_0 : Int} {x_1 : Int} {x_5 : Int} {x_6 : Int} (O : Hold W h0 m0 h m []) {r : Bool} (e : roadref3_TagFits.j0 x_0 x_1 x_5 x_6 = some r) : f87.j0 (roadref3_TagFits.post W h0 m0 r) x_0 x_1 x_5 x_6 h := by
  unfold roadref3_TagFits.j0 at e
  refine f87.j0_in ?_
  unfold f87.j0T
  obtain ⟨y1, g2, e⟩ := bind_e e
  refine (roadref3_In.walk (Hold.start (W := No) O.s)  g2).mono ?_
  rintro _ h3 ⟨m4, Q5, rfl⟩
  have O7 := Hold.nm (O.retC Q5 vfs_nil)
  refine ⟨_, rfl, ?_⟩
  refine split_any_e e (fun c15 e => ?_) (fun c15 e => ?_)
  · obtain ⟨y8, g9, e⟩ := bind_e e
    refine (roadref3_In.walk (Hold.start (W := No) O7.s)  g9).mono ?_
    rintro _ h10 ⟨m11, Q12, rfl⟩
    have O14 := Hold.nm (O7.retC Q12 vfs_nil)
    refine ⟨_, rfl, ?_⟩
    cases e
    exact ⟨_, O14.pick [], rfl⟩
  · cases e
    exact ⟨_, O7.pick [], rfl⟩
noncomputable def roadref3_TagFits (x_0 : Int) (x_1 : Int) : Option (Bool) :=
  if x_0 = (0 : Int) then ((roadref3_TagFits.j0 x_0 x_1 (0 : Int) (0 : Int))) else (if x_0 = (1 : Int) then ((roadref3_TagFits.j0 x_0 x_1 (-1152921504606846976 : Int) (1152921504606846975 : Int))) else (if x_0 = (2 : Int) then ((roadref3_TagFits.j0 x_0 x_1 (0 : Int) (1 : Int))) else ((roadref3_TagFits.j0 x_0 x_1 (0 : Int) (1152921504606846975 : Int)))))
set_option maxRecDepth 100000 in
theorem roadref3_TagFits.walk {W : Nat → Prop} {h m : Heap} {x_0 : Int} {x_1 : Int} (O : Hold W h m h m []) {r : Bool} (e : roadref3_TagFits x_0 x_1 = some r) : Run Try.prog 87 #[Value.int .i64 x_0, Value.int .i64 x_1] h (roadref3_TagFits.post W h m r) := by
  unfold roadref3_TagFits at e
  refine f87.run ?_
  unfold f87.runT
  refine split_eq_e e (fun c3 e => ?_) (fun c3 e => ?_)
  · exact roadref3_TagFits.j0.walk (O.pick []).nm  e
  · refine split_eq_e e (fun c2 e => ?_) (fun c2 e => ?_)
    · exact roadref3_TagFits.j0.walk (O.pick []).nm  e
    · refine split_eq_e e (fun c1 e => ?_) (fun c1 e => ?_)
      · exact roadref3_TagFits.j0.walk (O.pick []).nm  e
      · exact roadref3_TagFits.j0.walk (O.pick []).nm  e
def roadref3_TagWord.post (W : Nat → Prop) (h0 m0 : Heap) (r : Int) (v : Value) (h : Heap) : Prop := ∃ m , Hold W h0 m0 h m [] ∧ v = .int .u64 r
noncomputable def roadref3_TagWord (x_0 : Int) (x_1 : Int) : Option (Int) :=
  some ((IntKind.wrap .u64 ((IntKind.wrap .u64 ((8 : Int) * (IntKind.wrap .u64 x_1))) + (IntKind.wrap .u64 x_0))))
set_option maxRecDepth 100000 in
theorem roadref3_TagWord.walk {W : Nat → Prop} {h m : Heap} {x_0 : Int} {x_1 : Int} (O : Hold W h m h m []) {r : Int} (e : roadref3_TagWord x_0 x_1 = some r) : Run Try.prog 88 #[Value.int .i64 x_0, Value.int .i64 x_1] h (roadref3_TagWord.post W h m r) := by
  unfold roadref3_TagWord at e
  refine f88.run ?_
  unfold f88.runT
  cases e
  exact ⟨_, O.pick [], rfl⟩
def roadref3_TagRead.post (W : Nat → Prop) (h0 m0 : Heap) (r : Int × Int × Bool) (v : Value) (h : Heap) : Prop := ∃ m , Hold W h0 m0 h m [] ∧ v = .tuple #[.int .i64 r.1, .int .i64 r.2.1, .bool r.2.2]
noncomputable def roadref3_TagRead.j2 (x_5 : Int) (x_6 : Int) : Option (Int × Int × Bool) :=
  some (x_5, x_6, true)
set_option maxRecDepth 100000 in
theorem roadref3_TagRead.j2.walk {W : Nat → Prop} {h0 m0 h m : Heap} {x_5 : Int} {x_6 : Int} (O : Hold W h0 m0 h m []) {r : Int × Int × Bool} (e : roadref3_TagRead.j2 x_5 x_6 = some r) : f31.j2 (roadref3_TagRead.post W h0 m0 r) x_5 x_6 h := by
  unfold roadref3_TagRead.j2 at e
  refine f31.j2_in ?_
  unfold f31.j2T
  cases e
  exact ⟨_, O.pick [], rfl⟩
noncomputable def roadref3_TagRead.j3 (x_5 : Int) (x_6 : Int) (b_31 : Bool) : Option (Int × Int × Bool) :=
  if b_31 = true then (some ((0 : Int), (0 : Int), false)) else ((roadref3_TagRead.j2 x_5 x_6))
set_option maxRecDepth 100000 in
theorem roadref3_TagRead.j3.walk {W : Nat → Prop} {h0 m0 h m : Heap} {x_5 : Int} {x_6 : Int} {b_31 : Bool} (O : Hold W h0 m0 h m []) {r : Int × Int × Bool} (e : roadref3_TagRead.j3 x_5 x_6 b_31 = some r) : f31.j3 (roadref3_TagRead.post W h0 m0 r) x_5 x_6 b_31 h := by
  unfold roadref3_TagRead.j3 at e
  refine f31.j3_in ?_
  unfold f31.j3T
  refine split_any_e e (fun c1 e => ?_) (fun c1 e => ?_)
  · cases e
    exact ⟨_, O.pick [], rfl⟩
  · exact roadref3_TagRead.j2.walk (O.pick []).nm  e
noncomputable def roadref3_TagRead.j0 (x_0 : Int) (x_5 : Int) (x_6 : Int) : Option (Int × Int × Bool) :=
  Option.bind (roadref3_TagFits x_5 x_6) fun y1 => if y1 = true then (Option.bind (roadref3_TagWord x_5 x_6) fun y8 => (roadref3_TagRead.j3 x_5 x_6 (y8 != x_0))) else ((roadref3_TagRead.j3 x_5 x_6 true))
set_option maxRecDepth 100000 in
theorem roadref3_TagRead.j0.walk {W : Nat → Prop} {h0 m0 h m : Heap} {x_0 : Int} {x_5 : Int} {x_6 : Int} (O : Hold W h0 m0 h m []) {r : Int × Int × Bool} (e : roadref3_TagRead.j0 x_0 x_5 x_6 = some r) : f31.j0 (roadref3_TagRead.post W h0 m0 r) x_0 x_5 x_6 h := by
  unfold roadref3_TagRead.j0 at e
  refine f31.j0_in ?_
  unfold f31.j0T
  obtain ⟨y1, g2, e⟩ := bind_e e
  refine (roadref3_TagFits.walk (Hold.start (W := No) O.s)  g2).mono ?_
  rintro _ h3 ⟨m4, Q5, rfl⟩
  have O7 := Hold.nm (O.retC Q5 vfs_nil)
  refine ⟨_, rfl, ?_⟩
  refine split_not ?_
  refine split_any_e e (fun c15 e => ?_) (fun c15 e => ?_)
  · obtain ⟨y8, g9, e⟩ := bind_e e
    refine (roadref3_TagWord.walk (Hold.start (W := No) O7.s)  g9).mono ?_
    rintro _ h10 ⟨m11, Q12, rfl⟩
    have O14 := Hold.nm (O7.retC Q12 vfs_nil)
    refine ⟨_, rfl, ?_⟩
    exact roadref3_TagRead.j3.walk (O14.pick []).nm  e
  · exact roadref3_TagRead.j3.walk (O7.pick []).nm  e
noncomputable def roadref3_TagRead.j1 (x_0 : Int) (x_5 : Int) (x_6 : Int) (b_18 : Bool) : Option (Int × Int × Bool) :=
  if b_18 = true then ((roadref3_TagRead.j0 x_0 x_5 (IntKind.wrap .i64 (x_6 - (2305843009213693952 : Int))))) else ((roadref3_TagRead.j0 x_0 x_5 x_6))
set_option maxRecDepth 100000 in
theorem roadref3_TagRead.j1.walk {W : Nat → Prop} {h0 m0 h m : Heap} {x_0 : Int} {x_5 : Int} {x_6 : Int} {b_18 : Bool} (O : Hold W h0 m0 h m []) {r : Int × Int × Bool} (e : roadref3_TagRead.j1 x_0 x_5 x_6 b_18 = some r) : f31.j1 (roadref3_TagRead.post W h0 m0 r) x_0 x_5 x_6 b_18 h := by
  unfold roadref3_TagRead.j1 at e
  refine f31.j1_in ?_
  unfold f31.j1T
  refine split_any_e e (fun c1 e => ?_) (fun c1 e => ?_)
  · exact roadref3_TagRead.j0.walk (O.pick []).nm  e
  · exact roadref3_TagRead.j0.walk (O.pick []).nm  e
noncomputable def roadref3_TagRead (x_0 : Int) : Option (Int × Int × Bool) :=
  if (IntKind.wrap .i64 (Int.tmod x_0 (8 : Int))) = (1 : Int) then ((roadref3_TagRead.j1 x_0 (IntKind.wrap .i64 (Int.tmod x_0 (8 : Int))) (IntKind.wrap .i64 (IntKind.wrap .u64 (Int.tdiv x_0 (8 : Int)))) (decide ((IntKind.wrap .i64 (IntKind.wrap .u64 (Int.tdiv x_0 (8 : Int)))) ≥ (1152921504606846976 : Int))))) else ((roadref3_TagRead.j1 x_0 (IntKind.wrap .i64 (Int.tmod x_0 (8 : Int))) (IntKind.wrap .i64 (IntKind.wrap .u64 (Int.tdiv x_0 (8 : Int)))) false))
set_option maxRecDepth 100000 in
theorem roadref3_TagRead.walk {W : Nat → Prop} {h m : Heap} {x_0 : Int} (O : Hold W h m h m []) {r : Int × Int × Bool} (e : roadref3_TagRead x_0 = some r) : Run Try.prog 31 #[Value.int .u64 x_0] h (roadref3_TagRead.post W h m r) := by
  unfold roadref3_TagRead at e
  refine f31.run ?_
  unfold f31.runT
  refine ⟨by decide, ?_⟩
  refine ⟨by decide, ?_⟩
  refine split_eq_e e (fun c1 e => ?_) (fun c1 e => ?_)
  · exact roadref3_TagRead.j1.walk (O.pick []).nm  e
  · exact roadref3_TagRead.j1.walk (O.pick []).nm  e
def roadlaw3_CarryCells.post (W : Nat → Prop) (h0 m0 : Heap) (r : Bool) (v : Value) (h : Heap) : Prop := ∃ m , Hold W h0 m0 h m [] ∧ v = .bool r
inductive roadlaw3_CarryCells.l0_k.Pt where
  | l0 (a_0 : List Int) (a_5 : List Int) (x_6 : Int) (es_9 : (List (Int × Bool))) (a_10 : List Int) (a_11 : List Int)
  | j3 (a_0 : List Int) (a_5 : List Int) (x_6 : Int) (es_9 : (List (Int × Bool))) (a_10 : List Int) (a_11 : List Int) (x_13 : Int) (y_15 : T_heap_Object) (b_16 : Bool) (b_70 : Bool)
  | j1 (a_0 : List Int) (a_5 : List Int) (x_6 : Int) (es_9 : (List (Int × Bool))) (a_10 : List Int) (a_11 : List Int) (x_13 : Int) (y_15 : T_heap_Object)
  | j2 (a_0 : List Int) (a_5 : List Int) (x_6 : Int) (es_9 : (List (Int × Bool))) (a_10 : List Int) (a_11 : List Int) (y_15 : T_heap_Object)
  | j0 (a_0 : List Int) (a_5 : List Int) (x_6 : Int) (es_9 : (List (Int × Bool))) (a_10 : List Int) (a_11 : List Int)
noncomputable def roadlaw3_CarryCells.l0_k.body (go : (p : roadlaw3_CarryCells.l0_k.Pt) → Option (Bool)) : (p : roadlaw3_CarryCells.l0_k.Pt) → Option (Bool)
  | .l0 a_0 a_5 x_6 es_9 a_10 a_11 => if (((List.length a_11) : Nat) : Int) > (0 : Int) then (Option.bind (gi a_11 (0 : Int)) fun y1 => Option.bind (roadref3_TagRead y1) fun y8 => Option.bind (roadref3_ObjectAt a_0 y8.2.1) fun y15 => if y8.2.2 = true then (if y8.1 = (4 : Int) then ((go (.j3 a_0 a_5 x_6 es_9 a_10 a_11 y8.2.1 y15.1 y15.2 (pgd es_9 y8.2.1 false)))) else ((go (.j3 a_0 a_5 x_6 es_9 a_10 a_11 y8.2.1 y15.1 y15.2 true)))) else (if (((List.length a_5) : Nat) : Int) = (0 : Int) then (some ((x_6 == (3 : Int)))) else (some (false)))) else (Option.bind (slices_Sort_14 a_10) fun y40 => Option.bind (slices_Equal_10 a_5 y40) fun y52 => if y52 = true then (some ((x_6 == (0 : Int)))) else (some (false)))
  | .j3 a_0 a_5 x_6 es_9 a_10 a_11 x_13 y_15 b_16 b_70 => if b_70 = true then ((go (.j0 a_0 a_5 x_6 es_9 a_10 a_11))) else (if x_13 ≥ (((List.length a_0) : Nat) : Int) then (if (((List.length a_5) : Nat) : Int) = (0 : Int) then (some ((x_6 == (4 : Int)))) else (some (false))) else (if b_16 = true then ((go (.j1 a_0 a_5 x_6 es_9 a_10 a_11 x_13 y_15))) else (if (((List.length a_5) : Nat) : Int) = (0 : Int) then (some ((x_6 == (3 : Int)))) else (some (false)))))
  | .j1 a_0 a_5 x_6 es_9 a_10 a_11 x_13 y_15 => Option.bind (some (pset es_9 x_13 true)) fun l3 => if y_15.Kind = (5 : Int) then (Option.bind (ap 8 a_10 ([x_13] : List Int)) fun l9 => (go (.j2 a_0 a_5 x_6 l3 l9 a_11 y_15))) else ((go (.j2 a_0 a_5 x_6 l3 a_10 a_11 y_15)))
  | .j2 a_0 a_5 x_6 es_9 a_10 a_11 y_15 => Option.bind (ap 8 a_11 y_15.Parts) fun l6 => (go (.j0 a_0 a_5 x_6 es_9 a_10 l6))
  | .j0 a_0 a_5 x_6 es_9 a_10 a_11 => Option.bind (sls a_11 (1 : Int) (((List.length a_11) : Nat) : Int)) fun l1 => (go (.l0 a_0 a_5 x_6 es_9 a_10 l1))
theorem roadlaw3_CarryCells.l0_k.mono : MonoF (β := fun _ => (Bool)) roadlaw3_CarryCells.l0_k.body := fun f g hfg p => match p with
  | .l0 a_0 a_5 x_6 es_9 a_10 a_11 => LeO.ite (LeO.bind (LeO.refl _) fun y1 => LeO.bind (LeO.refl _) fun y8 => LeO.bind (LeO.refl _) fun y15 => LeO.ite (LeO.ite ((hfg _)) ((hfg _))) (LeO.ite (LeO.refl _) (LeO.refl _))) (LeO.bind (LeO.refl _) fun y40 => LeO.bind (LeO.refl _) fun y52 => LeO.ite (LeO.refl _) (LeO.refl _))
  | .j3 a_0 a_5 x_6 es_9 a_10 a_11 x_13 y_15 b_16 b_70 => LeO.ite ((hfg _)) (LeO.ite (LeO.ite (LeO.refl _) (LeO.refl _)) (LeO.ite ((hfg _)) (LeO.ite (LeO.refl _) (LeO.refl _))))
  | .j1 a_0 a_5 x_6 es_9 a_10 a_11 x_13 y_15 => LeO.ite (LeO.bind (LeO.refl _) fun l9 => (hfg _)) ((hfg _))
  | .j2 a_0 a_5 x_6 es_9 a_10 a_11 y_15 => LeO.bind (LeO.refl _) fun l6 => (hfg _)
  | .j0 a_0 a_5 x_6 es_9 a_10 a_11 => LeO.bind (LeO.refl _) fun l1 => (hfg _)
noncomputable def roadlaw3_CarryCells.l0_k.go (p : roadlaw3_CarryCells.l0_k.Pt) : Option (Bool) := fixF (β := fun _ => (Bool)) roadlaw3_CarryCells.l0_k.body p
noncomputable def roadlaw3_CarryCells.l0 (a_0 : List Int) (a_5 : List Int) (x_6 : Int) (es_9 : (List (Int × Bool))) (a_10 : List Int) (a_11 : List Int) : Option (Bool) := roadlaw3_CarryCells.l0_k.go (.l0 a_0 a_5 x_6 es_9 a_10 a_11)
noncomputable def roadlaw3_CarryCells.j3 (a_0 : List Int) (a_5 : List Int) (x_6 : Int) (es_9 : (List (Int × Bool))) (a_10 : List Int) (a_11 : List Int) (x_13 : Int) (y_15 : T_heap_Object) (b_16 : Bool) (b_70 : Bool) : Option (Bool) := roadlaw3_CarryCells.l0_k.go (.j3 a_0 a_5 x_6 es_9 a_10 a_11 x_13 y_15 b_16 b_70)
noncomputable def roadlaw3_CarryCells.j1 (a_0 : List Int) (a_5 : List Int) (x_6 : Int) (es_9 : (List (Int × Bool))) (a_10 : List Int) (a_11 : List Int) (x_13 : Int) (y_15 : T_heap_Object) : Option (Bool) := roadlaw3_CarryCells.l0_k.go (.j1 a_0 a_5 x_6 es_9 a_10 a_11 x_13 y_15)
noncomputable def roadlaw3_CarryCells.j2 (a_0 : List Int) (a_5 : List Int) (x_6 : Int) (es_9 : (List (Int × Bool))) (a_10 : List Int) (a_11 : List Int) (y_15 : T_heap_Object) : Option (Bool) := roadlaw3_CarryCells.l0_k.go (.j2 a_0 a_5 x_6 es_9 a_10 a_11 y_15)
noncomputable def roadlaw3_CarryCells.j0 (a_0 : List Int) (a_5 : List Int) (x_6 : Int) (es_9 : (List (Int × Bool))) (a_10 : List Int) (a_11 : List Int) : Option (Bool) := roadlaw3_CarryCells.l0_k.go (.j0 a_0 a_5 x_6 es_9 a_10 a_11)
theorem roadlaw3_CarryCells.l0_eq (a_0 : List Int) (a_5 : List Int) (x_6 : Int) (es_9 : (List (Int × Bool))) (a_10 : List Int) (a_11 : List Int) : roadlaw3_CarryCells.l0 a_0 a_5 x_6 es_9 a_10 a_11 = if (((List.length a_11) : Nat) : Int) > (0 : Int) then (Option.bind (gi a_11 (0 : Int)) fun y1 => Option.bind (roadref3_TagRead y1) fun y8 => Option.bind (roadref3_ObjectAt a_0 y8.2.1) fun y15 => if y8.2.2 = true then (if y8.1 = (4 : Int) then ((roadlaw3_CarryCells.j3 a_0 a_5 x_6 es_9 a_10 a_11 y8.2.1 y15.1 y15.2 (pgd es_9 y8.2.1 false))) else ((roadlaw3_CarryCells.j3 a_0 a_5 x_6 es_9 a_10 a_11 y8.2.1 y15.1 y15.2 true))) else (if (((List.length a_5) : Nat) : Int) = (0 : Int) then (some ((x_6 == (3 : Int)))) else (some (false)))) else (Option.bind (slices_Sort_14 a_10) fun y40 => Option.bind (slices_Equal_10 a_5 y40) fun y52 => if y52 = true then (some ((x_6 == (0 : Int)))) else (some (false))) := fixF_eq roadlaw3_CarryCells.l0_k.mono _
theorem roadlaw3_CarryCells.j3_eq (a_0 : List Int) (a_5 : List Int) (x_6 : Int) (es_9 : (List (Int × Bool))) (a_10 : List Int) (a_11 : List Int) (x_13 : Int) (y_15 : T_heap_Object) (b_16 : Bool) (b_70 : Bool) : roadlaw3_CarryCells.j3 a_0 a_5 x_6 es_9 a_10 a_11 x_13 y_15 b_16 b_70 = if b_70 = true then ((roadlaw3_CarryCells.j0 a_0 a_5 x_6 es_9 a_10 a_11)) else (if x_13 ≥ (((List.length a_0) : Nat) : Int) then (if (((List.length a_5) : Nat) : Int) = (0 : Int) then (some ((x_6 == (4 : Int)))) else (some (false))) else (if b_16 = true then ((roadlaw3_CarryCells.j1 a_0 a_5 x_6 es_9 a_10 a_11 x_13 y_15)) else (if (((List.length a_5) : Nat) : Int) = (0 : Int) then (some ((x_6 == (3 : Int)))) else (some (false))))) := fixF_eq roadlaw3_CarryCells.l0_k.mono _
theorem roadlaw3_CarryCells.j1_eq (a_0 : List Int) (a_5 : List Int) (x_6 : Int) (es_9 : (List (Int × Bool))) (a_10 : List Int) (a_11 : List Int) (x_13 : Int) (y_15 : T_heap_Object) : roadlaw3_CarryCells.j1 a_0 a_5 x_6 es_9 a_10 a_11 x_13 y_15 = Option.bind (some (pset es_9 x_13 true)) fun l3 => if y_15.Kind = (5 : Int) then (Option.bind (ap 8 a_10 ([x_13] : List Int)) fun l9 => (roadlaw3_CarryCells.j2 a_0 a_5 x_6 l3 l9 a_11 y_15)) else ((roadlaw3_CarryCells.j2 a_0 a_5 x_6 l3 a_10 a_11 y_15)) := fixF_eq roadlaw3_CarryCells.l0_k.mono _
theorem roadlaw3_CarryCells.j2_eq (a_0 : List Int) (a_5 : List Int) (x_6 : Int) (es_9 : (List (Int × Bool))) (a_10 : List Int) (a_11 : List Int) (y_15 : T_heap_Object) : roadlaw3_CarryCells.j2 a_0 a_5 x_6 es_9 a_10 a_11 y_15 = Option.bind (ap 8 a_11 y_15.Parts) fun l6 => (roadlaw3_CarryCells.j0 a_0 a_5 x_6 es_9 a_10 l6) := fixF_eq roadlaw3_CarryCells.l0_k.mono _
theorem roadlaw3_CarryCells.j0_eq (a_0 : List Int) (a_5 : List Int) (x_6 : Int) (es_9 : (List (Int × Bool))) (a_10 : List Int) (a_11 : List Int) : roadlaw3_CarryCells.j0 a_0 a_5 x_6 es_9 a_10 a_11 = Option.bind (sls a_11 (1 : Int) (((List.length a_11) : Nat) : Int)) fun l1 => (roadlaw3_CarryCells.l0 a_0 a_5 x_6 es_9 a_10 l1) := fixF_eq roadlaw3_CarryCells.l0_k.mono _
def roadlaw3_CarryCells.l0_k.I : (p : roadlaw3_CarryCells.l0_k.Pt) → (Bool) → Prop
  | .l0 a_0 a_5 x_6 es_9 a_10 a_11, r => ∀ (W : Nat → Prop) (h0 m0 h m : Heap) (A_0 : Option Addr) (n_0 c_0 : Nat) (A_5 : Option Addr) (n_5 c_5 : Nat) (bk_9 : Nat) (A_10 : Option Addr) (n_10 c_10 : Nat) (A_11 : Option Addr) (n_11 c_11 : Nat) (O : Hold W h0 m0 h m [rR (aE (tell_int .i64)) A_5 c_5 a_5, rM (monoV0 tell_bool) (fun n : Int => Value.int .i64 n) bk_9 es_9, rR (aE (tell_int .i64)) A_10 c_10 a_10, rR (aE (tell_int .u64)) A_11 c_11 a_11]) (ne_0 : n_0 = List.length a_0) (k_0 : List.length a_0 ≤ c_0) (r_0 : Rd 1 (eInt .u64) m A_0 a_0) (ne_5 : n_5 = List.length a_5) (ne_10 : n_10 = List.length a_10) (ne_11 : n_11 = List.length a_11), f5.l0 (roadlaw3_CarryCells.post W h0 m0 r) A_0 n_0 c_0 A_5 n_5 c_5 x_6 (Value.map (some bk_9)) A_10 n_10 c_10 A_11 n_11 c_11 h
  | .j3 a_0 a_5 x_6 es_9 a_10 a_11 x_13 y_15 b_16 b_70, r => ∀ (W : Nat → Prop) (h0 m0 h m : Heap) (A_0 : Option Addr) (n_0 c_0 : Nat) (A_5 : Option Addr) (n_5 c_5 : Nat) (bk_9 : Nat) (A_10 : Option Addr) (n_10 c_10 : Nat) (A_11 : Option Addr) (n_11 c_11 : Nat) (bk_15 : Nat) (cs_15 : List Value) (O : Hold W h0 m0 h m [rR (aE (tell_int .i64)) A_5 c_5 a_5, rM (monoV0 tell_bool) (fun n : Int => Value.int .i64 n) bk_9 es_9, rR (aE (tell_int .i64)) A_10 c_10 a_10, rR (aE (tell_int .u64)) A_11 c_11 a_11, rV bk_15 63 cs_15]) (ne_0 : n_0 = List.length a_0) (k_0 : List.length a_0 ≤ c_0) (r_0 : Rd 1 (eInt .u64) m A_0 a_0) (ne_5 : n_5 = List.length a_5) (ne_10 : n_10 = List.length a_10) (ne_11 : n_11 = List.length a_11) (e_15 : T_heap_Object.E m y_15 cs_15), f5.j3 (roadlaw3_CarryCells.post W h0 m0 r) A_0 n_0 c_0 A_5 n_5 c_5 x_6 (Value.map (some bk_9)) A_10 n_10 c_10 A_11 n_11 c_11 x_13 (⟨bk_15, 0, none⟩ : Addr) b_16 b_70 h
  | .j1 a_0 a_5 x_6 es_9 a_10 a_11 x_13 y_15, r => ∀ (W : Nat → Prop) (h0 m0 h m : Heap) (A_0 : Option Addr) (n_0 c_0 : Nat) (A_5 : Option Addr) (n_5 c_5 : Nat) (bk_9 : Nat) (A_10 : Option Addr) (n_10 c_10 : Nat) (A_11 : Option Addr) (n_11 c_11 : Nat) (bk_15 : Nat) (cs_15 : List Value) (O : Hold W h0 m0 h m [rR (aE (tell_int .i64)) A_5 c_5 a_5, rM (monoV0 tell_bool) (fun n : Int => Value.int .i64 n) bk_9 es_9, rR (aE (tell_int .i64)) A_10 c_10 a_10, rR (aE (tell_int .u64)) A_11 c_11 a_11, rV bk_15 63 cs_15]) (ne_0 : n_0 = List.length a_0) (k_0 : List.length a_0 ≤ c_0) (r_0 : Rd 1 (eInt .u64) m A_0 a_0) (ne_5 : n_5 = List.length a_5) (ne_10 : n_10 = List.length a_10) (ne_11 : n_11 = List.length a_11) (e_15 : T_heap_Object.E m y_15 cs_15), f5.j1 (roadlaw3_CarryCells.post W h0 m0 r) A_0 n_0 c_0 A_5 n_5 c_5 x_6 (Value.map (some bk_9)) A_10 n_10 c_10 A_11 n_11 c_11 x_13 (⟨bk_15, 0, none⟩ : Addr) h
  | .j2 a_0 a_5 x_6 es_9 a_10 a_11 y_15, r => ∀ (W : Nat → Prop) (h0 m0 h m : Heap) (A_0 : Option Addr) (n_0 c_0 : Nat) (A_5 : Option Addr) (n_5 c_5 : Nat) (bk_9 : Nat) (A_10 : Option Addr) (n_10 c_10 : Nat) (A_11 : Option Addr) (n_11 c_11 : Nat) (bk_15 : Nat) (cs_15 : List Value) (O : Hold W h0 m0 h m [rR (aE (tell_int .i64)) A_5 c_5 a_5, rM (monoV0 tell_bool) (fun n : Int => Value.int .i64 n) bk_9 es_9, rR (aE (tell_int .i64)) A_10 c_10 a_10, rR (aE (tell_int .u64)) A_11 c_11 a_11, rV bk_15 63 cs_15]) (ne_0 : n_0 = List.length a_0) (k_0 : List.length a_0 ≤ c_0) (r_0 : Rd 1 (eInt .u64) m A_0 a_0) (ne_5 : n_5 = List.length a_5) (ne_10 : n_10 = List.length a_10) (ne_11 : n_11 = List.length a_11) (e_15 : T_heap_Object.E m y_15 cs_15), f5.j2 (roadlaw3_CarryCells.post W h0 m0 r) A_0 n_0 c_0 A_5 n_5 c_5 x_6 (Value.map (some bk_9)) A_10 n_10 c_10 A_11 n_11 c_11 (⟨bk_15, 0, none⟩ : Addr) h
  | .j0 a_0 a_5 x_6 es_9 a_10 a_11, r => ∀ (W : Nat → Prop) (h0 m0 h m : Heap) (A_0 : Option Addr) (n_0 c_0 : Nat) (A_5 : Option Addr) (n_5 c_5 : Nat) (bk_9 : Nat) (A_10 : Option Addr) (n_10 c_10 : Nat) (A_11 : Option Addr) (n_11 c_11 : Nat) (O : Hold W h0 m0 h m [rR (aE (tell_int .i64)) A_5 c_5 a_5, rM (monoV0 tell_bool) (fun n : Int => Value.int .i64 n) bk_9 es_9, rR (aE (tell_int .i64)) A_10 c_10 a_10, rR (aE (tell_int .u64)) A_11 c_11 a_11]) (ne_0 : n_0 = List.length a_0) (k_0 : List.length a_0 ≤ c_0) (r_0 : Rd 1 (eInt .u64) m A_0 a_0) (ne_5 : n_5 = List.length a_5) (ne_10 : n_10 = List.length a_10) (ne_11 : n_11 = List.length a_11), f5.j0 (roadlaw3_CarryCells.post W h0 m0 r) A_0 n_0 c_0 A_5 n_5 c_5 x_6 (Value.map (some bk_9)) A_10 n_10 c_10 A_11 n_11 c_11 h
set_option maxHeartbeats 4000000 in
set_option maxRecDepth 100000 in
theorem roadlaw3_CarryCells.l0_k.step_l0 (go : (p : roadlaw3_CarryCells.l0_k.Pt) → Option (Bool)) (ih : ∀ p r, go p = some r → roadlaw3_CarryCells.l0_k.I p r) (a_0 : List Int) (a_5 : List Int) (x_6 : Int) (es_9 : (List (Int × Bool))) (a_10 : List Int) (a_11 : List Int) (r : Bool) (e : roadlaw3_CarryCells.l0_k.body go (.l0 a_0 a_5 x_6 es_9 a_10 a_11) = some r) : roadlaw3_CarryCells.l0_k.I (.l0 a_0 a_5 x_6 es_9 a_10 a_11) r := by
  unfold roadlaw3_CarryCells.l0_k.body at e
  intro W h0 m0 h m A_0 n_0 c_0 A_5 n_5 c_5 bk_9 A_10 n_10 c_10 A_11 n_11 c_11 O ne_0 k_0 r_0 ne_5 ne_10 ne_11
  subst ne_0
  subst ne_5
  subst ne_10
  subst ne_11
  refine f5.l0_in ?_
  unfold f5.l0T
  refine split_dec_e e (fun c69 e => ?_) (fun c69 e => ?_)
  · obtain ⟨y1, g2, e⟩ := bind_e e
    refine (O.os 3 rfl).addr rfl g2 fun a3 cs4 ha5 hc6 he7 => ?_
    obtain rfl : cs4 = [(Value.int .u64 y1)] := he7
    refine ⟨_, ld0 (Sub.refl _) hc6 rfl, _, rfl, ?_⟩
    obtain ⟨y8, g9, e⟩ := bind_e e
    refine (roadref3_TagRead.walk (Hold.start (W := No) O.s)  g9).mono ?_
    rintro _ h10 ⟨m11, Q12, rfl⟩
    have O14 := Hold.nm (O.retC Q12 vfs_nil)
    refine ⟨_, _, _, rfl, ?_⟩
    obtain ⟨y15, g16, e⟩ := bind_e e
    refine (roadref3_ObjectAt.walk (Hold.start (W := No) O14.s) rfl k_0 r_0 g16).mono ?_
    rintro _ h17 ⟨m18, cs22, Q19, rfl, he23⟩
    have O24 := Hold.nm (O14.ret Q19)
    refine ⟨_, _, rfl, ?_⟩
    refine O24.new fun h25 x26 O27 => ?_
    refine ⟨_, rfl, (T_heap_Object.T.len _ _ _ he23), ?_⟩
    refine O27.stA 4 rfl (T_heap_Object.T.len _ _ _ he23) (T_heap_Object.T.flat _ _ _ he23) fun h29 O30 => ?_
    refine split_not ?_
    refine split_any_e e (fun c39 e => ?_) (fun c39 e => ?_)
    · refine split_ne_e e (fun c35 e => ?_) (fun c35 e => ?_)
      · have O31 := O30.nm
        exact (ih _ _ e) _ _ _ _ _ _ _ _ _ _ _ _ _ _ _ _ _ _ _ _ (O31.pick [0, 1, 2, 3, 4]).nm rfl k_0 (r_0.sub (tell_int .u64) Q19.S.up) rfl rfl rfl he23
      · refine (O30.om 1 rfl).look (zv := false) (z := (Value.bool false)) (keyOk_int (key := 3) (elem := 4) (by kernel_rfl) (by kernel_rfl)) y8.2.1 (by kernel_rfl) rfl (fun v32 hv33 => ?_)
        obtain rfl : v32 = (Value.bool (pgd es_9 y8.2.1 false)) := (List.cons.inj (show [v32] = [(Value.bool (pgd es_9 y8.2.1 false))] from hv33)).1
        refine ⟨_, rfl, ?_⟩
        have O34 := O30.nm
        exact (ih _ _ e) _ _ _ _ _ _ _ _ _ _ _ _ _ _ _ _ _ _ _ _ (O34.pick [0, 1, 2, 3, 4]).nm rfl k_0 (r_0.sub (tell_int .u64) Q19.S.up) rfl rfl rfl he23
    · refine split_eq_e e (fun c38 e => ?_) (fun c38 e => ?_)
      · have O36 := O30.nm
        cases e
        exact ⟨_, O36.pick [], rfl⟩
      · have O37 := O30.nm
        cases e
        exact ⟨_, O37.pick [], rfl⟩
  · obtain ⟨y40, g41, e⟩ := bind_e e
    obtain ⟨W46, P47, B48, C49⟩ := O.callC [2]
    refine (slices_Sort_14.walk P47 rfl g41).mono ?_
    rintro _ h42 ⟨m43, Q44, rfl, hl50⟩
    have O51 := Hold.nm (C49 Q44 (vfs_cons (rR_vf (aE_vf (fun _ _ _ _ h => h))) vfs_nil))
    refine ⟨rfl, ?_⟩
    obtain ⟨y52, g53, e⟩ := bind_e e
    obtain ⟨m58, u59, s66, ⟨⟨r62, k63⟩, ⟨r64, k65⟩, _⟩, B60, C61⟩ := O51.lend0 [0, 4]
    replace r62 : Rd 1 (eInt .i64) m58 A_5 a_5 := r62
    replace k63 : List.length a_5 ≤ c_5 := k63
    replace r64 : Rd 1 (eInt .i64) m58 A_10 y40 := r64
    replace k65 : List.length y40 ≤ c_10 := k65
    refine (slices_Equal_10.walk (Hold.start (W := No) s66) rfl k63 r62 hl50 k65 r64 g53).mono ?_
    rintro _ h54 ⟨m55, Q56, rfl⟩
    have O67 := Hold.nm (C61 Q56 vfs_nil)
    refine ⟨_, rfl, ?_⟩
    refine split_any_e e (fun c68 e => ?_) (fun c68 e => ?_)
    · cases e
      exact ⟨_, O67.pick [], rfl⟩
    · cases e
      exact ⟨_, O67.pick [], rfl⟩
set_option maxRecDepth 100000 in
theorem roadlaw3_CarryCells.l0_k.step_j3 (go : (p : roadlaw3_CarryCells.l0_k.Pt) → Option (Bool)) (ih : ∀ p r, go p = some r → roadlaw3_CarryCells.l0_k.I p r) (a_0 : List Int) (a_5 : List Int) (x_6 : Int) (es_9 : (List (Int × Bool))) (a_10 : List Int) (a_11 : List Int) (x_13 : Int) (y_15 : T_heap_Object) (b_16 : Bool) (b_70 : Bool) (r : Bool) (e : roadlaw3_CarryCells.l0_k.body go (.j3 a_0 a_5 x_6 es_9 a_10 a_11 x_13 y_15 b_16 b_70) = some r) : roadlaw3_CarryCells.l0_k.I (.j3 a_0 a_5 x_6 es_9 a_10 a_11 x_13 y_15 b_16 b_70) r := by
  unfold roadlaw3_CarryCells.l0_k.body at e
  intro W h0 m0 h m A_0 n_0 c_0 A_5 n_5 c_5 bk_9 A_10 n_10 c_10 A_11 n_11 c_11 bk_15 cs_15 O ne_0 k_0 r_0 ne_5 ne_10 ne_11 e_15
  subst ne_0
  subst ne_5
  subst ne_10
  subst ne_11
  refine f5.j3_in ?_
  unfold f5.j3T
  refine split_any_e e (fun c5 e => ?_) (fun c5 e => ?_)
  · exact (ih _ _ e) _ _ _ _ _ _ _ _ _ _ _ _ _ _ _ _ _ _ (O.pick [0, 1, 2, 3]).nm rfl k_0 r_0 rfl rfl rfl
  · refine split_dec_e e (fun c4 e => ?_) (fun c4 e => ?_)
    · refine split_eq_e e (fun c1 e => ?_) (fun c1 e => ?_)
      · cases e
        exact ⟨_, O.pick [], rfl⟩
      · cases e
        exact ⟨_, O.pick [], rfl⟩
    · refine split_not ?_
      refine split_any_e e (fun c3 e => ?_) (fun c3 e => ?_)
      · exact (ih _ _ e) _ _ _ _ _ _ _ _ _ _ _ _ _ _ _ _ _ _ _ _ (O.pick [0, 1, 2, 3, 4]).nm rfl k_0 r_0 rfl rfl rfl e_15
      · refine split_eq_e e (fun c2 e => ?_) (fun c2 e => ?_)
        · cases e
          exact ⟨_, O.pick [], rfl⟩
        · cases e
          exact ⟨_, O.pick [], rfl⟩
set_option maxRecDepth 100000 in
theorem roadlaw3_CarryCells.l0_k.step_j1 (go : (p : roadlaw3_CarryCells.l0_k.Pt) → Option (Bool)) (ih : ∀ p r, go p = some r → roadlaw3_CarryCells.l0_k.I p r) (a_0 : List Int) (a_5 : List Int) (x_6 : Int) (es_9 : (List (Int × Bool))) (a_10 : List Int) (a_11 : List Int) (x_13 : Int) (y_15 : T_heap_Object) (r : Bool) (e : roadlaw3_CarryCells.l0_k.body go (.j1 a_0 a_5 x_6 es_9 a_10 a_11 x_13 y_15) = some r) : roadlaw3_CarryCells.l0_k.I (.j1 a_0 a_5 x_6 es_9 a_10 a_11 x_13 y_15) r := by
  unfold roadlaw3_CarryCells.l0_k.body at e
  intro W h0 m0 h m A_0 n_0 c_0 A_5 n_5 c_5 bk_9 A_10 n_10 c_10 A_11 n_11 c_11 bk_15 cs_15 O ne_0 k_0 r_0 ne_5 ne_10 ne_11 e_15
  subst ne_0
  subst ne_5
  subst ne_10
  subst ne_11
  refine f5.j1_in ?_
  unfold f5.j1T
  obtain ⟨l3, g4, e⟩ := bind_e e
  replace g4 := Option.some.inj g4
  refine O.mapUpd (x := true) (v := (Value.bool true)) 1 rfl (keyOk_int (key := 3) (elem := 4) (by kernel_rfl) (by kernel_rfl)) x_13 (show (eV0 eBool) m true (Value.bool true) from rfl) g4 fun h1 O2 => ?_
  refine ⟨_, ldk (k := 1) (Sub.refl _) (O2.all 4 rfl) (T_heap_Object.g1 e_15), _, rfl, ?_⟩
  refine split_eq_e e (fun c20 e => ?_) (fun c20 e => ?_)
  · refine O2.new fun h5 x6 O7 => ?_
    obtain ⟨l9, g10, e⟩ := bind_e e
    have O17 := O7.rowE (l := ([x_13] : List Int)) 5 rfl (tell_int .i64) (show CsE _ _ _ _ _ from (CsE.cons (c1 := [(Value.int .i64 x_13)]) rfl rfl CsE.nil)) rfl
    refine O17.app 2 rfl rfl rfl ((O17.os 5 rfl).srcE rfl) (by decide) g10 fun A11 c12 h13 O14 => ?_
    refine ⟨_, _, _, rfl, ?_⟩
    have O18 := O14.nm
    exact (ih _ _ e) _ _ _ _ _ _ _ _ _ _ _ _ _ _ _ _ _ _ _ _ (O18.pick [0, 1, 2, 3, 4]).nm rfl k_0 r_0 rfl rfl rfl e_15
  · have O19 := O2.nm
    exact (ih _ _ e) _ _ _ _ _ _ _ _ _ _ _ _ _ _ _ _ _ _ _ _ (O19.pick [0, 1, 2, 3, 4]).nm rfl k_0 r_0 rfl rfl rfl e_15
set_option maxRecDepth 100000 in
theorem roadlaw3_CarryCells.l0_k.step_j2 (go : (p : roadlaw3_CarryCells.l0_k.Pt) → Option (Bool)) (ih : ∀ p r, go p = some r → roadlaw3_CarryCells.l0_k.I p r) (a_0 : List Int) (a_5 : List Int) (x_6 : Int) (es_9 : (List (Int × Bool))) (a_10 : List Int) (a_11 : List Int) (y_15 : T_heap_Object) (r : Bool) (e : roadlaw3_CarryCells.l0_k.body go (.j2 a_0 a_5 x_6 es_9 a_10 a_11 y_15) = some r) : roadlaw3_CarryCells.l0_k.I (.j2 a_0 a_5 x_6 es_9 a_10 a_11 y_15) r := by
  unfold roadlaw3_CarryCells.l0_k.body at e
  intro W h0 m0 h m A_0 n_0 c_0 A_5 n_5 c_5 bk_9 A_10 n_10 c_10 A_11 n_11 c_11 bk_15 cs_15 O ne_0 k_0 r_0 ne_5 ne_10 ne_11 e_15
  subst ne_0
  subst ne_5
  subst ne_10
  subst ne_11
  refine f5.j2_in ?_
  unfold f5.j2T
  obtain ⟨A1, c2, q3, k4, r5⟩ := T_heap_Object.g4 e_15
  refine ⟨_, ldk (k := 4) (Sub.refl _) (O.all 4 rfl) q3, _, _, _, rfl, ?_⟩
  obtain ⟨l6, g7, e⟩ := bind_e e
  refine O.app 3 rfl rfl rfl (Rd.srcE r5 (tell_int .u64) O.s rfl) (by decide) g7 fun A8 c9 h10 O11 => ?_
  refine ⟨_, _, _, rfl, ?_⟩
  have O14 := O11.nm
  exact (ih _ _ e) _ _ _ _ _ _ _ _ _ _ _ _ _ _ _ _ _ _ (O14.pick [0, 1, 2, 3]).nm rfl k_0 r_0 rfl rfl rfl
set_option maxRecDepth 100000 in
theorem roadlaw3_CarryCells.l0_k.step_j0 (go : (p : roadlaw3_CarryCells.l0_k.Pt) → Option (Bool)) (ih : ∀ p r, go p = some r → roadlaw3_CarryCells.l0_k.I p r) (a_0 : List Int) (a_5 : List Int) (x_6 : Int) (es_9 : (List (Int × Bool))) (a_10 : List Int) (a_11 : List Int) (r : Bool) (e : roadlaw3_CarryCells.l0_k.body go (.j0 a_0 a_5 x_6 es_9 a_10 a_11) = some r) : roadlaw3_CarryCells.l0_k.I (.j0 a_0 a_5 x_6 es_9 a_10 a_11) r := by
  unfold roadlaw3_CarryCells.l0_k.body at e
  intro W h0 m0 h m A_0 n_0 c_0 A_5 n_5 c_5 bk_9 A_10 n_10 c_10 A_11 n_11 c_11 O ne_0 k_0 r_0 ne_5 ne_10 ne_11
  subst ne_0
  subst ne_5
  subst ne_10
  subst ne_11
  refine f5.j0_in ?_
  unfold f5.j0T
  obtain ⟨l1, g2, e⟩ := bind_e e
  have q3 := sls_e g2
  refine ⟨q3.1, q3.2.1, cap_in q3.2.2.1 (O.cap 3 rfl), ?_⟩
  try rw [q3.2.2.2.1]
  have O4 := O.sls 3 rfl g2
  have O6 := O4.nm
  exact (ih _ _ e) _ _ _ _ _ _ _ _ _ _ _ _ _ _ _ _ _ _ (O6.pick [0, 1, 2, 3]).nm rfl k_0 r_0 rfl rfl rfl
theorem roadlaw3_CarryCells.l0_k.all {p : roadlaw3_CarryCells.l0_k.Pt} {r : (Bool)} (e : roadlaw3_CarryCells.l0_k.go p = some r) : roadlaw3_CarryCells.l0_k.I p r := fixF_ind (β := fun _ => (Bool)) roadlaw3_CarryCells.l0_k.mono (I := roadlaw3_CarryCells.l0_k.I) (fun go ih p r e => match p with
  | .l0 a_0 a_5 x_6 es_9 a_10 a_11 => roadlaw3_CarryCells.l0_k.step_l0 go ih a_0 a_5 x_6 es_9 a_10 a_11 r e
  | .j3 a_0 a_5 x_6 es_9 a_10 a_11 x_13 y_15 b_16 b_70 => roadlaw3_CarryCells.l0_k.step_j3 go ih a_0 a_5 x_6 es_9 a_10 a_11 x_13 y_15 b_16 b_70 r e
  | .j1 a_0 a_5 x_6 es_9 a_10 a_11 x_13 y_15 => roadlaw3_CarryCells.l0_k.step_j1 go ih a_0 a_5 x_6 es_9 a_10 a_11 x_13 y_15 r e
  | .j2 a_0 a_5 x_6 es_9 a_10 a_11 y_15 => roadlaw3_CarryCells.l0_k.step_j2 go ih a_0 a_5 x_6 es_9 a_10 a_11 y_15 r e
  | .j0 a_0 a_5 x_6 es_9 a_10 a_11 => roadlaw3_CarryCells.l0_k.step_j0 go ih a_0 a_5 x_6 es_9 a_10 a_11 r e
  ) e
theorem roadlaw3_CarryCells.l0.walk {W : Nat → Prop} {h0 m0 h m : Heap} {A_0 : Option Addr} {n_0 c_0 : Nat} {A_5 : Option Addr} {n_5 c_5 : Nat} {bk_9 : Nat} {A_10 : Option Addr} {n_10 c_10 : Nat} {A_11 : Option Addr} {n_11 c_11 : Nat} {a_0 : List Int} {a_5 : List Int} {x_6 : Int} {es_9 : (List (Int × Bool))} {a_10 : List Int} {a_11 : List Int} (O : Hold W h0 m0 h m [rR (aE (tell_int .i64)) A_5 c_5 a_5, rM (monoV0 tell_bool) (fun n : Int => Value.int .i64 n) bk_9 es_9, rR (aE (tell_int .i64)) A_10 c_10 a_10, rR (aE (tell_int .u64)) A_11 c_11 a_11]) (ne_0 : n_0 = List.length a_0) (k_0 : List.length a_0 ≤ c_0) (r_0 : Rd 1 (eInt .u64) m A_0 a_0) (ne_5 : n_5 = List.length a_5) (ne_10 : n_10 = List.length a_10) (ne_11 : n_11 = List.length a_11) {r : Bool} (e : roadlaw3_CarryCells.l0 a_0 a_5 x_6 es_9 a_10 a_11 = some r) : f5.l0 (roadlaw3_CarryCells.post W h0 m0 r) A_0 n_0 c_0 A_5 n_5 c_5 x_6 (Value.map (some bk_9)) A_10 n_10 c_10 A_11 n_11 c_11 h := roadlaw3_CarryCells.l0_k.all (p := .l0 a_0 a_5 x_6 es_9 a_10 a_11) e W h0 m0 h m A_0 n_0 c_0 A_5 n_5 c_5 bk_9 A_10 n_10 c_10 A_11 n_11 c_11 O ne_0 k_0 r_0 ne_5 ne_10 ne_11
noncomputable def roadlaw3_CarryCells (a_0 : List Int) (x_1 : Int) : Option (Bool) :=
  Option.bind (carry_Cells a_0 x_1) fun y1 => Option.bind (roadref3_HeapObjects a_0) fun y13 => if y13.2 = (0 : Int) then ((roadlaw3_CarryCells.l0 a_0 y1.1 y1.2 ([] : (List (Int × Bool))) ([] : List Int) ([x_1] : List Int))) else (if (((List.length y1.1) : Nat) : Int) = (0 : Int) then (some ((y1.2 == y13.2))) else (some (false)))
set_option maxRecDepth 100000 in
theorem roadlaw3_CarryCells.walk {W : Nat → Prop} {h m : Heap} {A_0 : Option Addr} {n_0 c_0 : Nat} {a_0 : List Int} {x_1 : Int} (O : Hold W h m h m []) (ne_0 : n_0 = List.length a_0) (k_0 : List.length a_0 ≤ c_0) (r_0 : Rd 1 (eInt .u64) m A_0 a_0) {r : Bool} (e : roadlaw3_CarryCells a_0 x_1 = some r) : Run Try.prog 5 #[Value.slice A_0 n_0 c_0, Value.int .u64 x_1] h (roadlaw3_CarryCells.post W h m r) := by
  unfold roadlaw3_CarryCells at e
  subst ne_0
  refine f5.run ?_
  unfold f5.runT
  obtain ⟨y1, g2, e⟩ := bind_e e
  refine (carry_Cells.walk (Hold.start (W := No) O.s) rfl k_0 r_0 g2).mono ?_
  rintro _ h3 ⟨m4, A7, n8, c9, Q5, rfl, ne10⟩
  have O12 := Hold.nm (O.retC Q5 (vfs_cons (rR_vf (aE_vf (fun _ _ _ _ h => h))) vfs_nil))
  subst ne10
  refine ⟨_, _, _, _, rfl, ?_⟩
  obtain ⟨y13, g14, e⟩ := bind_e e
  refine (roadref3_HeapObjects.walk (Hold.start (W := No) O12.s) rfl k_0 r_0 g14).mono ?_
  rintro _ h15 ⟨m16, A19, n20, c21, Q17, rfl, ne22⟩
  have O24 := Hold.nm (O12.ret Q17)
  subst ne22
  refine ⟨_, _, _, _, rfl, ?_⟩
  refine split_ne_e e (fun c38 e => ?_) (fun c38 e => ?_)
  · refine split_eq_e e (fun c25 e => ?_) (fun c25 e => ?_)
    · cases e
      exact ⟨_, O24.pick [], rfl⟩
    · cases e
      exact ⟨_, O24.pick [], rfl⟩
  · refine O24.mkMap (ν := Bool) (monoV0 tell_bool) (fun n : Int => Value.int .i64 n) fun h26 x27 O28 => ?_
    refine O28.new fun h30 x31 O32 => ?_
    have O34 := O32.nil (aE (tell_int .i64)) none
    have O36 := O34.rowE (l := ([x_1] : List Int)) 3 rfl (tell_int .u64) (show CsE _ _ _ _ _ from (CsE.cons (c1 := [(Value.int .u64 x_1)]) rfl rfl CsE.nil)) rfl
    have O37 := O36.nm
    exact roadlaw3_CarryCells.l0.walk (O37.pick [0, 2, 4, 3]).nm rfl k_0 (r_0.sub (tell_int .u64) Q17.S.up) rfl rfl rfl e
end Go.Proofs.Ythnlhffpmlgmfad.Fw

end
section
namespace Go.Proofs.Ythnlhffpmlgmfad.Fw
open Go Go.Hw Go.Proofs
set_option linter.unusedVariables false
abbrev Ob := T_heap_Object
theorem u64_in {n : Int} (h0 : 0 ≤ n) (h1 : n ≤ 18446744073709551615) : IntKind.wrap .u64 n = n := by
  have : n % 18446744073709551616 = n := Int.emod_eq_of_lt h0 (by omega)
  simp [IntKind.wrap, IntKind.bits, IntKind.signed, this]
theorem u8_mod (n : Int) : IntKind.wrap .u8 n = n % 256 := by simp [IntKind.wrap, IntKind.bits, IntKind.signed]
theorem bv_nat {x : Nat} (h : x < 18446744073709551616) : (BitVec.ofInt 64 (x : Int)).toNat = x := by
  rw [BitVec.toNat_ofInt]; omega
theorem shl_val {x s : Nat} (hs : s ≤ 64) (h : x * 2 ^ s < 18446744073709551616) : shlI .u64 (x : Int) (s : Int) = ((x * 2 ^ s : Nat) : Int) := by
  unfold shlI
  rw [show Int.toNat (s : Int) = s from rfl, show min s (IntKind.bits .u64) = s from Nat.min_eq_left hs]
  have : ((x : Int) * 2 ^ s) = ((x * 2 ^ s : Nat) : Int) := by push_cast; rfl
  rw [this]
  exact u64_in (Int.natCast_nonneg _) (by omega)
theorem or_val {x y s : Nat} (hx : x < 2 ^ s) (h : y * 2 ^ s + x < 18446744073709551616) : bitsI .or .u64 (x : Int) ((y * 2 ^ s : Nat) : Int) = ((x + y * 2 ^ s : Nat) : Int) := by
  show IntKind.wrap .u64 ((BitVec.ofInt 64 (x : Int) ||| BitVec.ofInt 64 ((y * 2 ^ s : Nat) : Int)).toNat : Nat) = _
  have h0 : x < 18446744073709551616 := by omega
  have h1 : y * 2 ^ s < 18446744073709551616 := by omega
  rw [BitVec.toNat_or, bv_nat h0, bv_nat h1]
  have : x ||| y * 2 ^ s = x + y * 2 ^ s := by
    rw [Nat.or_comm, ← Nat.shiftLeft_eq, ← Nat.shiftLeft_add_eq_or_of_lt hx, Nat.add_comm]
  rw [this]
  exact u64_in (by omega) (by omega)
theorem and_val {x n : Nat} (h : x < 18446744073709551616) (hn : 2 ^ n - 1 < 18446744073709551616) : bitsI .and .u64 (x : Int) ((2 ^ n - 1 : Nat) : Int) = ((x % 2 ^ n : Nat) : Int) := by
  show IntKind.wrap .u64 ((BitVec.ofInt 64 (x : Int) &&& BitVec.ofInt 64 ((2 ^ n - 1 : Nat) : Int)).toNat : Nat) = _
  rw [BitVec.toNat_and, bv_nat h, bv_nat hn, Nat.and_two_pow_sub_one_eq_mod]
  have := Nat.mod_le x (2 ^ n)
  exact u64_in (by omega) (by omega)
theorem shr_val {x s : Nat} (hs : s ≤ 64) : shrI .u64 (x : Int) (s : Int) = ((x / 2 ^ s : Nat) : Int) := by
  unfold shrI
  rw [show Int.toNat (s : Int) = s from rfl, show min s (IntKind.bits .u64) = s from Nat.min_eq_left hs]
  have : ((2 : Int) ^ s) = ((2 ^ s : Nat) : Int) := by push_cast; rfl
  rw [this, Int.fdiv_eq_ediv_of_nonneg _ (Int.natCast_nonneg _)]
  exact (Int.natCast_ediv x (2 ^ s)).symm
def nb (s : ByteArray) : List Int := s.data.toList.map fun b => ((UInt8.toNat b : Nat) : Int)
theorem nb_len (s : ByteArray) : (nb s).length = s.size := by simp [nb]
theorem nb_in {s : ByteArray} {x : Int} (h : x ∈ nb s) : 0 ≤ x ∧ x ≤ 255 := by
  unfold nb at h
  rw [List.mem_map] at h
  obtain ⟨b, _, rfl⟩ := h
  have := UInt8.toNat_lt b
  omega
theorem gb_nb (s : ByteArray) (k : Nat) : gb s (k : Int) = (nb s)[k]? := by
  unfold gb nb
  rw [if_pos (by omega), List.getElem?_map]
  show Option.map _ s[k]? = _
  congr 1
  by_cases h : k < s.size
  · rw [getElem?_pos s k h, List.getElem?_eq_getElem (by simpa using h)]; rfl
  · rw [getElem?_neg s k h, List.getElem?_eq_none (by simpa using h)]
theorem gb_some {s : ByteArray} {k : Nat} {x y : Int} (hx : x = k) (h : (nb s)[k]? = some y) : gb s x = some y := by subst hx; rw [gb_nb]; exact h
theorem bytesOf_nb (s : ByteArray) : bytesOf (nb s) = s := by
  cases s with
  | mk d =>
    unfold bytesOf nb
    congr 1
    apply Array.ext'
    simp only [List.map_map]
    rw [List.map_congr_left (g := id), List.map_id]
    intro x _
    simp
theorem nb_inj {s t : ByteArray} (h : nb s = nb t) : s = t := by rw [← bytesOf_nb s, h, bytesOf_nb]
theorem nb_extract (s : ByteArray) (i j : Nat) : nb (s.extract i j) = ((nb s).take j).drop i := by
  unfold nb
  rw [ByteArray.data_extract, Array.toList_extract, List.extract_eq_take_drop]
  rw [← List.map_take, ← List.map_drop, List.drop_take]
theorem empty_iff (s : ByteArray) : s = ByteArray.mk #[] ↔ nb s = [] := ⟨fun h => by rw [h]; rfl, fun h => nb_inj (by rw [h]; rfl)⟩
def pk : List Int → Int
  | [] => 0
  | b :: r => b + 256 * pk r
theorem pk_append (xs ys : List Int) : pk (xs ++ ys) = pk xs + 256 ^ xs.length * pk ys := by
  induction xs with
  | nil => simp [pk]
  | cons x xs ih =>
    simp only [List.cons_append, pk, ih, List.length_cons, Int.pow_succ]
    rw [Int.mul_add, ← Int.mul_assoc, Int.mul_comm 256 (256 ^ xs.length), Int.add_assoc]
theorem pk_in {l : List Int} (h : ∀ x ∈ l, 0 ≤ x ∧ x ≤ 255) : 0 ≤ pk l ∧ pk l < 256 ^ l.length := by
  induction l with
  | nil => simp [pk]
  | cons x l ih =>
    have h1 := ih (fun y hy => h y (by simp [hy]))
    have h2 := h x (by simp)
    simp only [pk, List.length_cons, Int.pow_succ]
    omega
theorem pow256 {k : Nat} (h : k ≤ 8) : (256 : Int) ^ k ≤ 18446744073709551616 := by
  have : k = 0 ∨ k = 1 ∨ k = 2 ∨ k = 3 ∨ k = 4 ∨ k = 5 ∨ k = 6 ∨ k = 7 ∨ k = 8 := by omega
  rcases this with rfl | rfl | rfl | rfl | rfl | rfl | rfl | rfl | rfl <;> decide
theorem pk_u64 {l : List Int} (h : ∀ x ∈ l, 0 ≤ x ∧ x ≤ 255) (hl : l.length ≤ 8) : 0 ≤ pk l ∧ pk l ≤ 18446744073709551615 := by
  have := pk_in h
  have := pow256 hl
  omega
def tw : Nat → List Int → List Int
  | 0, _ => []
  | n + 1, l => pk (l.take 8) :: tw n (l.drop 8)
theorem tw_len (n : Nat) (l : List Int) : (tw n l).length = n := by
  induction n generalizing l with
  | zero => rfl
  | succ n ih => simp [tw, ih]
def twd (l : List Int) : List Int := tw ((l.length + 7) / 8) l
theorem twd_nil : twd [] = [] := rfl
theorem twd_cons {l : List Int} (h : l ≠ []) : twd l = pk (l.take 8) :: twd (l.drop 8) := by
  have : 0 < l.length := List.length_pos_iff.2 h
  unfold twd
  rw [List.length_drop, show (l.length + 7) / 8 = (l.length - 8 + 7) / 8 + 1 from by omega]
  rfl
theorem twd_len (l : List Int) : (twd l).length = (l.length + 7) / 8 := tw_len _ _
def big (k : Int) : Bool := k == 1 || k == 4
def rm (k : Int) (t p : Nat) : Nat := 1 + (t + 7) / 8 + p + (if big k = true then 1 else 0)
def Okay (o : Ob) : Prop := o.Text.size ≤ 64 ∧ o.Parts.length ≤ 400 ∧ 1 ≤ o.Kind ∧ o.Kind ≤ 5 ∧ ((o.Kind = 1 ∨ o.Kind = 2) → o.Parts = []) ∧ (o.Kind ≠ 2 ∧ o.Kind ≠ 3 → o.Text = ByteArray.mk #[]) ∧ (o.Kind ≠ 1 ∧ o.Kind ≠ 4 → o.Num = 0) ∧ (o.Kind = 5 → o.Parts.length ≤ 1)
def hd (o : Ob) : Int := o.Kind + 256 * (o.Text.size : Int) + 1048576 * (o.Parts.length : Int)
def ow (o : Ob) : List Int := hd o :: ((if big o.Kind = true then [IntKind.wrap .u64 o.Num] else []) ++ (twd (nb o.Text) ++ o.Parts))
theorem ow_len (o : Ob) : (ow o).length = rm o.Kind o.Text.size o.Parts.length := by
  unfold ow rm
  simp only [List.length_cons, List.length_append, twd_len, nb_len]
  split <;> simp <;> omega
theorem room_val {k : Int} {t p : Nat} (ht : t ≤ 1000000) (hp : p ≤ 1000000) : heap_room k (t : Int) (p : Int) = some (rm k t p : Int) := by
  unfold heap_room
  have e : (Int.tdiv ((t : Int) + 7) 8) = (((t + 7) / 8 : Nat) : Int) := by rw [Int.tdiv_eq_ediv_of_nonneg (by omega)]; omega
  rw [wrap_in (n := (t : Int) + 7) (by omega) (by omega), e, wrap_in (n := (((t + 7) / 8 : Nat) : Int)) (by omega) (by omega), wrap_in (n := 1 + (((t + 7) / 8 : Nat) : Int)) (by omega) (by omega), wrap_in (n := _ + (p : Int)) (by omega) (by omega)]
  unfold heap_room.j0
  rw [wrap_in (by omega) (by omega)]
  unfold rm big
  by_cases h1 : k = 1
  · subst h1; rw [if_pos rfl, if_pos rfl, if_pos (by rfl)]; push_cast; rfl
  · rw [if_neg h1]
    by_cases h4 : k = 4
    · subst h4; rw [if_pos (by rfl), if_pos (by rfl)]; push_cast; rfl
    · rw [if_neg (by simp [h4]), if_neg (by simp [h1, h4])]; push_cast; simp
instance (o : Ob) : Decidable (Okay o) := by unfold Okay; infer_instance
theorem right_val (o : Ob) : heap_right o = some (decide (Okay o)) := by
  obtain ⟨a, k, n, s, p⟩ := o
  unfold heap_right heap_right.j1 heap_right.j2 heap_right.j3 heap_right.j0 Okay
  have hp : p = [] ↔ p.length = 0 := List.length_eq_zero_iff.symm
  simp only [hp]
  generalize p.length = p
  generalize s.size = t
  have e1 : ((t : Int) > 64) ↔ ¬ t ≤ 64 := by omega
  have e2 : ((p : Int) > 400) ↔ ¬ p ≤ 400 := by omega
  have e3 : ((p : Int) > 0) ↔ ¬ p = 0 := by omega
  have e4 : ((p : Int) ≤ 1) ↔ p ≤ 1 := by omega
  simp only [e1, e2, e3, e4]
  by_cases h3 : k < 1
  · simp [show ¬ (1 ≤ k) by omega, h3]
  by_cases h4 : k > 5
  · simp [show ¬ (k ≤ 5) by omega, h3, h4]
  have hk : k = 1 ∨ k = 2 ∨ k = 3 ∨ k = 4 ∨ k = 5 := by omega
  by_cases h1 : t ≤ 64
  · by_cases h2 : p ≤ 400
    · by_cases h5 : p = 0 <;> by_cases h8 : p ≤ 1 <;> by_cases h6 : n = 0 <;> by_cases h7 : s = ByteArray.mk #[] <;> rcases hk with rfl | rfl | rfl | rfl | rfl <;> simp [h1, h2, h5, h6, h7, h8] <;> omega
    · rcases hk with rfl | rfl | rfl | rfl | rfl <;> simp [h1, h2]
  · rcases hk with rfl | rfl | rfl | rfl | rfl <;> simp [h1]
theorem is_val (o : Ob) : roadref3_ObjectIs o = some (decide (Okay o)) := by
  obtain ⟨a, k, n, s, p⟩ := o
  unfold roadref3_ObjectIs roadref3_ObjectIs.j0 roadref3_ObjectIs.j1 roadref3_In Okay
  have hp : p = [] ↔ p.length = 0 := List.length_eq_zero_iff.symm
  simp only [hp]
  generalize p.length = p
  generalize s.size = t
  have e1 : ((t : Int) > 64) ↔ ¬ t ≤ 64 := by omega
  have e2 : ((p : Int) > 400) ↔ ¬ p ≤ 400 := by omega
  have e4 : ((p : Int) > 1) ↔ ¬ p ≤ 1 := by omega
  have e5 : ((p : Int) == 0) = decide (p = 0) := by by_cases h : p = 0 <;> simp [h]
  simp only [e1, e2, e4, e5]
  by_cases h3 : k < 1
  · simp [show ¬ (1 ≤ k) by omega, show ¬ k = 1 by omega, show ¬ k = 2 by omega]
  by_cases h4 : k > 5
  · simp [show (1 ≤ k) by omega, show ¬ k = 1 by omega, show ¬ k = 2 by omega, show ¬ k ≤ 5 by omega]
  have hk : k = 1 ∨ k = 2 ∨ k = 3 ∨ k = 4 ∨ k = 5 := by omega
  by_cases h1 : t ≤ 64
  · by_cases h2 : p ≤ 400
    · by_cases h5 : p = 0 <;> by_cases h8 : p ≤ 1 <;> by_cases h6 : n = 0 <;> by_cases h7 : s = ByteArray.mk #[] <;> rcases hk with rfl | rfl | rfl | rfl | rfl <;> simp [h1, h2, h5, h6, h7, h8] <;> omega
    · rcases hk with rfl | rfl | rfl | rfl | rfl <;> simp [h1, h2]
  · rcases hk with rfl | rfl | rfl | rfl | rfl <;> simp [h1]
theorem take_succ_at {l : List Int} {B k : Nat} (h : B + k < l.length) : (l.drop B).take (k + 1) = (l.drop B).take k ++ [l[B + k]] := by
  rw [List.take_succ_eq_append_getElem (by rw [List.length_drop]; omega), List.getElem_drop]
theorem pk_snoc (l : List Int) (b : Int) : pk (l ++ [b]) = pk l + b * 256 ^ l.length := by
  rw [pk_append]; simp [pk, Int.mul_comm]
theorem put_or {x b : Int} {k : Nat} (hk : k < 8) (hx0 : 0 ≤ x) (hx : x < 256 ^ k) (h0 : 0 ≤ b) (h1 : b ≤ 255) :
    bitsI .or .u64 x (shlI .u64 (IntKind.wrap .u64 b) (IntKind.wrap .i64 (8 * (k : Int)))) = x + b * 256 ^ k := by
  rw [u64_in h0 (by omega), wrap_in (by omega) (by omega)]
  obtain ⟨x, rfl⟩ := Int.eq_ofNat_of_zero_le hx0
  obtain ⟨b, rfl⟩ := Int.eq_ofNat_of_zero_le h0
  have e : (2 : Nat) ^ (8 * k) = 256 ^ k := by rw [Nat.pow_mul]
  have hx' : x < 256 ^ k := by
    have : ((256 : Int) ^ k) = ((256 ^ k : Nat) : Int) := (Int.natCast_pow 256 k).symm
    omega
  have hb : b * 256 ^ k + x < 18446744073709551616 := by
    have hb' : b ≤ 255 := by omega
    have := pow256 (k := k + 1) (by omega)
    have e2 : ((256 : Int) ^ (k + 1)) = ((256 ^ (k + 1) : Nat) : Int) := (Int.natCast_pow 256 (k + 1)).symm
    have := Nat.mul_le_mul_right (256 ^ k) hb'
    rw [Nat.pow_succ] at e2
    omega
  have := shl_val (x := b) (s := 8 * k) (by omega) (by rw [e]; omega)
  rw [show (8 * (k : Int)) = ((8 * k : Nat) : Int) from by push_cast; rfl, this, e]
  have := or_val (x := x) (y := b) (s := 8 * k) (by rw [e]; exact hx') (by rw [e]; exact hb)
  rw [e] at this
  rw [this, Int.natCast_add, Int.natCast_mul, Int.natCast_pow]; rfl
theorem put_l1 {a0 a7 : List Int} {o : Ob} {B : Nat} (hB : B ≤ 1000) (hs : o.Text.size ≤ 1000) : ∀ (d k : Nat), k + d = 8 →
    heap_Put.l1 a0 o a7 (B : Int) (pk (((nb o.Text).drop B).take k)) (k : Int) = Option.bind (ap 8 a7 [pk (((nb o.Text).drop B).take 8)]) fun l => heap_Put.l0 a0 o l ((B + 8 : Nat) : Int) := by
  intro d
  induction d with
  | zero =>
    intro k hk
    obtain rfl : k = 8 := by omega
    rw [heap_Put.l1_eq, if_neg (by omega), wrap_in (by omega) (by omega)]; rfl
  | succ d ih =>
    intro k hk
    have hw : IntKind.wrap .i64 ((B : Int) + (k : Int)) = ((B + k : Nat) : Int) := by rw [wrap_in (by omega) (by omega)]; push_cast; rfl
    have hn := nb_len o.Text
    rw [heap_Put.l1_eq, if_pos (by omega), hw]
    by_cases h : B + k < o.Text.size
    · have hin : ((nb o.Text).drop B).take k = ((nb o.Text).drop B).take k := rfl
      have hl : (((nb o.Text).drop B).take k).length = k := by simp; omega
      have h3 : ∀ x ∈ ((nb o.Text).drop B).take k, 0 ≤ x ∧ x ≤ 255 := fun x hx => nb_in (List.mem_of_mem_drop (List.mem_of_mem_take hx))
      have h4 := pk_in h3
      have h5 : 0 ≤ (nb o.Text)[B + k]'(by omega) ∧ (nb o.Text)[B + k]'(by omega) ≤ 255 := nb_in (List.getElem_mem _)
      rw [hl] at h4
      rw [if_pos (by omega), gb_some (k := B + k) rfl (List.getElem?_eq_getElem (by omega)), Option.bind_some, if_pos (by rw [wrap_in (by omega) (by omega)]; omega), put_or (by omega) h4.1 h4.2 h5.1 h5.2, w_succ (by omega)]
      have := ih (k + 1) (by omega)
      rw [take_succ_at (by omega), pk_snoc, hl] at this
      exact this
    · rw [if_neg (by omega), w_succ (by omega)]
      have := ih (k + 1) (by omega)
      rw [show ((nb o.Text).drop B).take (k + 1) = ((nb o.Text).drop B).take k from by rw [List.take_of_length_le (by simp; omega), List.take_of_length_le (by simp; omega)]] at this
      exact this
theorem put_l0 {a0 : List Int} {o : Ob} (hs : o.Text.size ≤ 1000) : ∀ (d B : Nat) (a7 : List Int), o.Text.size ≤ B + d → B ≤ o.Text.size + 8 → a7.length + d + 10 + o.Parts.length ≤ 10000000 →
    heap_Put.l0 a0 o a7 (B : Int) = some (a7 ++ (twd ((nb o.Text).drop B) ++ o.Parts), (a0.length : Int), 0) := by
  intro d
  induction d using Nat.strongRecOn with
  | _ d ih =>
    intro B a7 h1 h2 h3
    have hn := nb_len o.Text
    rw [heap_Put.l0_eq]
    by_cases h : B < o.Text.size
    · have := put_l1 (a0 := a0) (a7 := a7) (o := o) (B := B) (by omega) hs 8 0 (by omega)
      rw [if_pos (by omega)]
      refine Eq.trans this ?_
      rw [ap_one (by omega), Option.bind_some]
      by_cases h8 : 8 ≤ d
      · rw [ih (d - 8) (by omega) (B + 8) _ (by omega) (by omega) (by simp; omega), twd_cons (l := (nb o.Text).drop B) (by intro e; have := congrArg List.length e; simp at this; omega)]
        simp [List.drop_drop]
      · rw [ih 0 (by omega) (B + 8) _ (by omega) (by omega) (by simp; omega), twd_cons (l := (nb o.Text).drop B) (by intro e; have := congrArg List.length e; simp at this; omega)]
        simp [List.drop_drop]
    · rw [if_neg (by omega), ap_of (by omega), Option.bind_some, List.drop_of_length_le (by omega), twd_nil, List.nil_append]
theorem head_val {o : Ob} (h : Okay o) : heap_head o = some (hd o) := by
  obtain ⟨h1, h2, h3, h4, _⟩ := h
  unfold heap_head hd
  obtain ⟨k, hk⟩ := Int.eq_ofNat_of_zero_le (show 0 ≤ o.Kind by omega)
  rw [hk] at h3 h4 ⊢
  rw [u64_in (n := (k : Int)) (by omega) (by omega), u64_in (n := (o.Text.size : Int)) (by omega) (by omega), u64_in (n := (o.Parts.length : Int)) (by omega) (by omega)]
  have e1 := shl_val (x := o.Text.size) (s := 8) (by omega) (by omega)
  have e2 := shl_val (x := o.Parts.length) (s := 20) (by omega) (by omega)
  have e3 := or_val (x := k) (y := o.Text.size) (s := 8) (by omega) (by omega)
  have e4 := or_val (x := k + o.Text.size * 2 ^ 8) (y := o.Parts.length) (s := 20) (by omega) (by omega)
  rw [show (8 : Int) = ((8 : Nat) : Int) from rfl, show (20 : Int) = ((20 : Nat) : Int) from rfl, e1, e2, e3, e4]
  congr 1
  omega
theorem put_val {a0 : List Int} {o : Ob} (ha : a0.length * 8 ≤ 140737488351232) : heap_Put a0 o = some (if Okay o then (if a0.length + rm o.Kind o.Text.size o.Parts.length ≤ 4000 then (a0 ++ ow o, (a0.length : Int), 0) else ([], 0, 6)) else ([], 0, 1)) := by
  unfold heap_Put
  rw [right_val, Option.bind_some]
  by_cases h : Okay o
  · rw [decide_eq_true h, if_pos rfl, if_pos h]
    have h0 := h
    obtain ⟨h1, h2, h3, h4, _⟩ := h0
    have hr : rm o.Kind o.Text.size o.Parts.length ≤ 1000 := by unfold rm; split <;> omega
    rw [room_val (by omega) (by omega), Option.bind_some, wrap_in (by omega) (by omega)]
    by_cases hf : a0.length + rm o.Kind o.Text.size o.Parts.length ≤ 4000
    · rw [if_neg (by omega), if_pos hf, slices_Clone_163.val _ (by omega), Option.bind_some, head_val h, Option.bind_some, ap_one (by omega), Option.bind_some]
      have fin : ∀ a7 : List Int, a7.length ≤ 10000 → heap_Put.j0 a0 o a7 = some (a7 ++ (twd (nb o.Text) ++ o.Parts), (a0.length : Int), 0) := by
        intro a7 ha7
        unfold heap_Put.j0
        exact put_l0 (by omega) 64 0 a7 (by omega) (by omega) (by omega)
      unfold heap_Put.j1
      unfold ow big
      by_cases k1 : o.Kind = 1
      · rw [if_pos k1, if_pos rfl, ap_one (by simp; omega), Option.bind_some, fin _ (by simp; omega)]
        simp [k1]
      · rw [if_neg k1]
        by_cases k4 : o.Kind = 4
        · rw [if_pos (by simp [k4]), ap_one (by simp; omega), Option.bind_some, fin _ (by simp; omega)]
          simp [k4]
        · rw [if_neg (by simp [k4]), fin _ (by simp; omega)]
          simp [k1, k4]
    · rw [if_pos (by omega), if_neg hf]
  · rw [decide_eq_false h, if_neg (by decide), if_neg h]
theorem words_l1 {o : Ob} {a3 : List Int} {s : ByteArray} {n : Nat} (hn : n ≤ 8) (hns : n ≤ s.size) : ∀ (k : Nat), k ≤ n →
    roadref3_ObjectWords.l1 o a3 s (n : Int) (pk (((nb s).take n).drop k)) ((k : Int) - 1) = Option.bind (ap 8 a3 [pk ((nb s).take n)]) fun l => roadref3_ObjectWords.l0 o l (s.extract n s.size) := by
  intro k
  have hl := nb_len s
  induction k with
  | zero =>
    intro _
    rw [roadref3_ObjectWords.l1_eq, if_neg (by omega), if_pos (by omega)]; rfl
  | succ k ih =>
    intro hk
    have hkl : k < ((nb s).take n).length := by simp; omega
    have hb : 0 ≤ (nb s)[k]'(by omega) ∧ (nb s)[k]'(by omega) ≤ 255 := nb_in (List.getElem_mem _)
    have h4 := pk_u64 (l := ((nb s).take n).drop k) (fun x hx => nb_in (List.mem_of_mem_take (List.mem_of_mem_drop hx))) (by simp; omega)
    have e : pk (((nb s).take n).drop k) = (nb s)[k]'(by omega) + 256 * pk (((nb s).take n).drop (k + 1)) := by
      rw [List.drop_eq_getElem_cons hkl, List.getElem_take]; rfl
    have h5 := pk_in (l := ((nb s).take n).drop (k + 1)) (fun x hx => nb_in (List.mem_of_mem_take (List.mem_of_mem_drop hx)))
    rw [roadref3_ObjectWords.l1_eq, if_pos (by omega), gb_some (k := k) (by omega) (List.getElem?_eq_getElem (by omega)), Option.bind_some, u64_in (n := 256 * _) (by omega) (by omega), u64_in (n := (nb s)[k]'(by omega)) (by omega) (by omega), Int.add_comm, ← e, u64_in h4.1 h4.2, wrap_in (by omega) (by omega), show ((k + 1 : Nat) : Int) - 1 - 1 = (k : Int) - 1 from by omega]
    exact ih (by omega)
theorem words_l0 {o : Ob} : ∀ (d : Nat) (s : ByteArray) (a3 : List Int), s.size ≤ d → s.size ≤ 1000 → a3.length + d + 10 + o.Parts.length ≤ 10000000 →
    roadref3_ObjectWords.l0 o a3 s = some (a3 ++ (twd (nb s) ++ o.Parts)) := by
  intro d
  induction d using Nat.strongRecOn with
  | _ d ih =>
    intro s a3 h1 h2 h3
    have hl := nb_len s
    rw [roadref3_ObjectWords.l0_eq]
    by_cases h : s = ByteArray.mk #[]
    · rw [if_pos h, ap_of (by omega), Option.bind_some, (empty_iff s).1 h]; rfl
    · have h0 : nb s ≠ [] := fun e => h ((empty_iff s).2 e)
      have h0' : 0 < s.size := by rw [← hl]; exact List.length_pos_iff.2 h0
      rw [if_neg h]
      have e : (if (s.size : Int) < 8 then (s.size : Int) else 8) = ((min s.size 8 : Nat) : Int) := by split <;> omega
      have hm : min s.size 8 ≤ s.size := Nat.min_le_left _ _
      have hm8 : min s.size 8 ≤ 8 := Nat.min_le_right _ _
      have := words_l1 (o := o) (a3 := a3) (s := s) hm8 hm (min s.size 8) (Nat.le_refl _)
      rw [List.drop_of_length_le (by simp; omega)] at this
      rw [e, wrap_in (by omega) (by omega)]
      refine Eq.trans this ?_
      have hx : (s.extract (min s.size 8) s.size).size = s.size - min s.size 8 := by simp
      rw [ap_one (by omega), Option.bind_some, ih (d - 1) (by omega) _ _ (by omega) (by omega) (by simp; omega), twd_cons h0, nb_extract]
      have e1 : ((nb s).take s.size).drop (min s.size 8) = (nb s).drop 8 := by
        rw [List.take_of_length_le (by omega)]
        by_cases h8 : s.size ≤ 8
        · rw [Nat.min_eq_left h8, List.drop_of_length_le (by omega), List.drop_of_length_le (by omega)]
        · rw [Nat.min_eq_right (by omega)]
      have e2 : (nb s).take (min s.size 8) = (nb s).take 8 := by
        by_cases h8 : s.size ≤ 8
        · rw [Nat.min_eq_left h8, List.take_of_length_le (by omega), List.take_of_length_le (by omega)]
        · rw [Nat.min_eq_right (by omega)]
      rw [e1, e2]; simp
theorem words_val {o : Ob} (h : Okay o) : roadref3_ObjectWords o = some (ow o) := by
  obtain ⟨h1, h2, h3, h4, _⟩ := h
  unfold roadref3_ObjectWords
  have e : (IntKind.wrap .u64 ((IntKind.wrap .u64 ((IntKind.wrap .u64 o.Kind) + (IntKind.wrap .u64 ((256 : Int) * (IntKind.wrap .u64 ((ByteArray.size o.Text : Nat) : Int)))))) + (IntKind.wrap .u64 ((1048576 : Int) * (IntKind.wrap .u64 (((List.length o.Parts) : Nat) : Int)))))) = hd o := by
    unfold hd
    rw [u64_in (n := o.Kind) (by omega) (by omega), u64_in (n := (o.Text.size : Int)) (by omega) (by omega), u64_in (n := (o.Parts.length : Int)) (by omega) (by omega), u64_in (n := 256 * _) (by omega) (by omega), u64_in (n := 1048576 * _) (by omega) (by omega), u64_in (n := o.Kind + _) (by omega) (by omega), u64_in (by omega) (by omega)]
  rw [e]
  have fin : ∀ a3 : List Int, a3.length ≤ 10000 → roadref3_ObjectWords.j0 o a3 = some (a3 ++ (twd (nb o.Text) ++ o.Parts)) := by
    intro a3 ha
    unfold roadref3_ObjectWords.j0
    exact words_l0 64 o.Text a3 (by omega) (by omega) (by omega)
  unfold roadref3_ObjectWords.j1 ow big
  by_cases k1 : o.Kind = 1
  · rw [if_pos k1, if_pos rfl, ap_one (by simp), Option.bind_some, fin _ (by simp)]
    simp [k1]
  · rw [if_neg k1]
    by_cases k4 : o.Kind = 4
    · rw [if_pos (by simp [k4]), ap_one (by simp), Option.bind_some, fin _ (by simp)]
      simp [k4]
    · rw [if_neg (by simp [k4]), fin _ (by simp)]
      simp [k1, k4]
abbrev U64 (a : List Int) : Prop := ∀ x ∈ a, 0 ≤ x ∧ x ≤ 18446744073709551615
def zo : Ob := T_heap_Object.mk 0 0 0 (ByteArray.mk #[]) []
def unb (r : List Int) (i : Nat) : Int := (r[i / 8]?.getD 0) / 256 ^ (i % 8) % 256
def txt (r : List Int) (n : Nat) : List Int := (List.range n).map (unb r)
theorem txt_succ (r : List Int) (n : Nat) : txt r (n + 1) = txt r n ++ [unb r n] := by simp [txt, List.range_succ]
theorem txt_len (r : List Int) (n : Nat) : (txt r n).length = n := by simp [txt]
def obj (x : Nat) (k num : Int) (r : List Int) (t p : Nat) : Ob := T_heap_Object.mk x k num (bytesOf (txt r t)) ((r.drop ((t + 7) / 8)).take p)
theorem shr_byte {y : Int} (h0 : 0 ≤ y) (h1 : y ≤ 18446744073709551615) {m : Nat} (hm : m < 8) : IntKind.wrap .u8 (shrI .u64 y (IntKind.wrap .i64 (8 * (m : Int)))) = y / 256 ^ m % 256 := by
  rw [wrap_in (by omega) (by omega), u8_mod]
  obtain ⟨y, rfl⟩ := Int.eq_ofNat_of_zero_le h0
  have := shr_val (x := y) (s := 8 * m) (by omega)
  rw [show (8 * (m : Int)) = ((8 * m : Nat) : Int) from by push_cast; rfl, this, Nat.pow_mul, Int.natCast_ediv, Int.natCast_pow]; rfl
theorem tdiv8 (i : Nat) : Int.tdiv (i : Int) 8 = ((i / 8 : Nat) : Int) := by rw [Int.tdiv_eq_ediv_of_nonneg (by omega)]; omega
theorem tmod8 (i : Nat) : Int.tmod (i : Int) 8 = ((i % 8 : Nat) : Int) := by rw [Int.tmod_eq_emod_of_nonneg (by omega)]; omega
theorem bytesOf_append (l m : List Int) : bytesOf (l ++ m) = bytesOf l ++ bytesOf m := by
  apply ByteArray.ext
  simp [bytesOf]
theorem okay_size {o : Ob} (h : Okay o) : rm o.Kind o.Text.size o.Parts.length ≤ 1000 := by
  obtain ⟨h1, h2, h3, h4, _⟩ := h
  unfold rm; split <;> omega
theorem bytesOf_size (l : List Int) : (bytesOf l).size = l.length := by simp [bytesOf, ByteArray.size]
def rst (a : List Int) (x : Nat) (k : Int) : List Int := a.drop (x + 1 + (if big k = true then 1 else 0))
def nmb (a : List Int) (x : Nat) (k : Int) : Int := if big k = true then IntKind.wrap .i64 (a[x + 1]?.getD 0) else 0
def fin (a : List Int) (x : Nat) (o : Ob) : Option Ob := if Okay o ∧ ow o = (a.drop x).take (ow o).length then some o else none
def fnd (a : List Int) (x : Nat) (w : Int) : Option Ob :=
  if 4294967296 ≤ w then none
  else if (a.length : Int) - x < (rm (w % 256) (w / 256 % 4096).toNat (w / 1048576).toNat : Int) then none
  else fin a x (obj x (w % 256) (nmb a x (w % 256)) (rst a x (w % 256)) (w / 256 % 4096).toNat (w / 1048576).toNat)
def res (r : Option Ob) : Ob × Int := match r with | some o => (o, 0) | none => (zo, 3)
def ref (r : Option Ob) : Ob × Bool := match r with | some o => (o, true) | none => (zo, false)
section
variable {a : List Int} (ha : a.length * 8 ≤ 140737488351232) (hu : U64 a)
include ha hu
theorem at_l0 {x t p b : Nat} {k num : Int} (ht : t ≤ 4095) (hp : p ≤ 4095) (hb : b + (t + 7) / 8 + p ≤ a.length) (hx : x + rm k t p = b + (t + 7) / 8 + p) (hxb : x ≤ b) :
    ∀ (d i : Nat), i + d = t → heap_At.l0 a (b : Int) zo (t : Int) (p : Int) (x : Int) k num (ByteArray.mk #[]) [] (txt (a.drop b) i) (t : Int) (i : Int) = some (res (fin a x (obj x k num (a.drop b) t p))) := by
  intro d
  induction d with
  | zero =>
    intro i hi
    obtain rfl : i = t := by omega
    have e : IntKind.wrap .i64 ((b : Int) + (IntKind.wrap .i64 (Int.tdiv (IntKind.wrap .i64 ((i : Int) + 7)) 8))) = ((b + (i + 7) / 8 : Nat) : Int) := by
      rw [wrap_in (n := (i : Int) + 7) (by omega) (by omega), show (i : Int) + 7 = ((i + 7 : Nat) : Int) from by omega, tdiv8, wrap_in (n := (((i + 7) / 8 : Nat) : Int)) (by omega) (by omega), wrap_in (by omega) (by omega)]
      omega
    have e2 : IntKind.wrap .i64 (((b + (i + 7) / 8 : Nat) : Int) + (p : Int)) = ((b + (i + 7) / 8 + p : Nat) : Int) := by rw [wrap_in (by omega) (by omega)]; omega
    rw [heap_At.l0_eq, if_neg (by omega), e, e2, sls_of (by omega) (by omega) (by omega), Option.bind_some]
    have hsl : sl a ((b + (i + 7) / 8 : Nat) : Int) ((b + (i + 7) / 8 + p : Nat) : Int) = ((a.drop b).drop ((i + 7) / 8)).take p := by
      unfold sl
      rw [Int.toNat_natCast, Int.toNat_natCast, List.drop_take, List.drop_drop]
      congr 1
      omega
    rw [hsl, ap_nil (by simp; omega), Option.bind_some, put_val (by simp), Option.bind_some]
    have hob : T_heap_Object.mk (x : Int) k num (bytesOf (txt (a.drop b) i)) (((a.drop b).drop ((i + 7) / 8)).take p) = obj x k num (a.drop b) i p := rfl
    rw [hob]
    have hlen : (ow (obj x k num (a.drop b) i p)).length = rm k i p := by
      rw [ow_len]
      unfold obj
      simp only [bytesOf_size, txt_len, List.length_take, List.length_drop]
      congr 1
      omega
    unfold fin
    by_cases hO : Okay (obj x k num (a.drop b) i p)
    · have hr := okay_size hO
      rw [if_pos hO, if_pos (show ([] : List Int).length + rm (obj x k num (a.drop b) i p).Kind (obj x k num (a.drop b) i p).Text.size (obj x k num (a.drop b) i p).Parts.length ≤ 4000 by simp only [List.length_nil]; omega), if_pos rfl, sls_of (by omega) (by omega) (by omega), Option.bind_some]
      have hs2 : sl a (x : Int) ((b + (i + 7) / 8 + p : Nat) : Int) = (a.drop x).take (ow (obj x k num (a.drop b) i p)).length := by
        unfold sl
        rw [Int.toNat_natCast, Int.toNat_natCast, List.drop_take, hlen]
        congr 1
        omega
      obtain ⟨e3, he3, hi3⟩ := slices_Equal_135.val ([] ++ ow (obj x k num (a.drop b) i p)) (sl a (x : Int) ((b + (i + 7) / 8 + p : Nat) : Int)) (by rw [List.nil_append, hlen]; unfold rm; split <;> omega)
      rw [he3, Option.bind_some]
      unfold heap_At.j7 heap_At.j6
      rw [List.nil_append, hs2] at hi3
      by_cases hE : ow (obj x k num (a.drop b) i p) = (a.drop x).take (ow (obj x k num (a.drop b) i p)).length
      · rw [hi3.2 hE, if_neg (by decide), if_pos ⟨hO, hE⟩]; rfl
      · have : e3 = false := by cases e3 with | false => rfl | true => exact absurd (hi3.1 rfl) hE
        rw [this, if_pos (by decide), if_neg (fun h => hE h.2)]; rfl
    · rw [if_neg hO, if_neg (by decide), if_neg (fun h => hO h.1)]; rfl
  | succ d ih =>
    intro i hi
    have hq : b + i / 8 < a.length := by omega
    have hy := hu a[b + i / 8] (List.getElem_mem _)
    have hm : i % 8 < 8 := by omega
    rw [heap_At.l0_eq, if_pos (by omega), tdiv8, tmod8, wrap_in (n := ((i / 8 : Nat) : Int)) (by omega) (by omega), wrap_in (n := (b : Int) + _) (by omega) (by omega), gi_some (k := b + i / 8) (by omega) (List.getElem?_eq_getElem hq), Option.bind_some, if_pos (by rw [wrap_in (by omega) (by omega)]; omega), shr_byte hy.1 hy.2 hm, ap_one (by rw [txt_len]; omega), Option.bind_some, w_succ (by omega)]
    have := ih (i + 1) (by omega)
    rw [txt_succ] at this
    have e : unb (a.drop b) i = a[b + i / 8] / 256 ^ (i % 8) % 256 := by
      unfold unb
      rw [List.getElem?_drop, List.getElem?_eq_getElem hq]; rfl
    rw [e] at this
    exact this
theorem at_val (x : Int) : heap_At a x = some (if 0 ≤ x ∧ x < a.length then res (fnd a x.toNat (a[x.toNat]?.getD 0)) else (zo, 4)) := by
  unfold heap_At
  by_cases h0 : x < 0
  · rw [if_pos h0, heap_At.j1, if_pos rfl, if_neg (by omega)]; rfl
  rw [if_neg h0, heap_At.j1]
  by_cases h1 : x ≥ (a.length : Int)
  · rw [decide_eq_true h1, if_pos rfl, if_neg (by omega)]; rfl
  rw [decide_eq_false h1, if_neg (by decide), if_pos (by omega)]
  obtain ⟨x, rfl⟩ := Int.eq_ofNat_of_zero_le (show 0 ≤ x by omega)
  have hx : x < a.length := by omega
  have hw := hu a[x] (List.getElem_mem _)
  rw [Int.toNat_natCast, List.getElem?_eq_getElem hx, Option.getD_some]
  generalize hwe : a[x] = w at hw
  obtain ⟨w, rfl⟩ := Int.eq_ofNat_of_zero_le hw.1
  unfold heap_At.j0
  rw [gi_some (k := x) rfl (by rw [List.getElem?_eq_getElem hx, hwe]), Option.bind_some]
  have s32 := shr_val (x := w) (s := 32) (by omega)
  have s8 := shr_val (x := w) (s := 8) (by omega)
  have s20 := shr_val (x := w) (s := 20) (by omega)
  have a1 := and_val (x := w) (n := 8) (by omega) (by omega)
  have a2 := and_val (x := w / 2 ^ 8) (n := 12) (by omega) (by omega)
  have a3 := and_val (x := w / 2 ^ 20) (n := 12) (by omega) (by omega)
  have e32 : shrI .u64 (w : Int) 32 = ((w / 2 ^ 32 : Nat) : Int) := s32
  have e8 : bitsI .and .u64 (shrI .u64 (w : Int) 8) 4095 = ((w / 2 ^ 8 % 2 ^ 12 : Nat) : Int) := by rw [← a2, ← s8]; rfl
  have e20 : bitsI .and .u64 (shrI .u64 (w : Int) 20) 4095 = ((w / 2 ^ 20 % 2 ^ 12 : Nat) : Int) := by rw [← a3, ← s20]; rfl
  have e255 : bitsI .and .u64 (w : Int) 255 = ((w % 2 ^ 8 : Nat) : Int) := by rw [← a1]; rfl
  rw [e32, e8, e20, e255, wrap_in (n := ((w % 2 ^ 8 : Nat) : Int)) (by omega) (by omega), wrap_in (n := ((w / 2 ^ 8 % 2 ^ 12 : Nat) : Int)) (by omega) (by omega), wrap_in (n := ((w / 2 ^ 20 % 2 ^ 12 : Nat) : Int)) (by omega) (by omega), room_val (by omega) (by omega), Option.bind_some, wrap_in (n := (a.length : Int) - x) (by omega) (by omega)]
  unfold fnd
  by_cases hb : 4294967296 ≤ w
  · rw [if_neg (by omega), heap_At.j3, if_pos rfl, if_pos (by omega)]; rfl
  have hk : ((w : Int) % 256) = ((w % 2 ^ 8 : Nat) : Int) := by omega
  have ht : (((w : Int) / 256) % 4096).toNat = w / 2 ^ 8 % 2 ^ 12 := by omega
  have hp : ((w : Int) / 1048576).toNat = w / 2 ^ 20 % 2 ^ 12 := by omega
  rw [if_pos (by omega), if_neg (show ¬ (4294967296 ≤ (w : Int)) by omega), hk, ht, hp]
  generalize hkk : ((w % 2 ^ 8 : Nat) : Int) = k
  have htt : w / 2 ^ 8 % 2 ^ 12 ≤ 4095 := by omega
  have hpp : w / 2 ^ 20 % 2 ^ 12 ≤ 4095 := by omega
  generalize w / 2 ^ 8 % 2 ^ 12 = t at *
  generalize w / 2 ^ 20 % 2 ^ 12 = p at *
  unfold heap_At.j3
  by_cases hr : (a.length : Int) - x < (rm k t p : Int)
  · rw [decide_eq_true (by omega), if_pos rfl, if_pos hr]; rfl
  rw [decide_eq_false (by omega), if_neg (by decide), if_neg hr]
  unfold heap_At.j2
  have fin1 : big k = false → heap_At.j4 a ((x + 1 : Nat) : Int) zo (t : Int) (p : Int) (x : Int) k 0 (ByteArray.mk #[]) [] = some (res (fin a x (obj x k (nmb a x k) (rst a x k) t p))) := by
    intro hbk
    unfold heap_At.j4
    unfold rm at hr
    rw [hbk] at hr
    have := at_l0 ha hu (x := x) (t := t) (p := p) (b := x + 1) (k := k) (num := 0) htt hpp (by simp at hr; omega) (by unfold rm; rw [hbk]; simp; omega) (by omega) t 0 (by omega)
    unfold nmb rst
    rw [hbk]
    exact this
  have fin2 : big k = true → (Option.bind (gi a ((x + 1 : Nat) : Int)) fun y => heap_At.j4 a (IntKind.wrap .i64 (((x + 1 : Nat) : Int) + 1)) zo (t : Int) (p : Int) (x : Int) k (IntKind.wrap .i64 y) (ByteArray.mk #[]) []) = some (res (fin a x (obj x k (nmb a x k) (rst a x k) t p))) := by
    intro hbk
    unfold rm at hr
    rw [hbk] at hr
    simp at hr
    have hx1 : x + 1 < a.length := by omega
    rw [gi_some (k := x + 1) rfl (List.getElem?_eq_getElem hx1), Option.bind_some, w_succ (by omega)]
    unfold heap_At.j4
    have := at_l0 ha hu (x := x) (t := t) (p := p) (b := x + 2) (k := k) (num := IntKind.wrap .i64 a[x + 1]) htt hpp (by omega) (by unfold rm; rw [hbk]; simp; omega) (by omega) t 0 (by omega)
    unfold nmb rst
    rw [hbk, List.getElem?_eq_getElem hx1]
    exact this
  have hw1 : IntKind.wrap .i64 ((x : Int) + 1) = ((x + 1 : Nat) : Int) := w_succ (by omega)
  rw [hw1]
  unfold heap_At.j5
  by_cases k1 : k = 1
  · rw [if_pos k1, if_pos rfl]; exact fin2 (by simp [big, k1])
  · rw [if_neg k1]
    by_cases k4 : k = 4
    · rw [if_pos (by simp [k4])]; exact fin2 (by simp [big, k4])
    · rw [if_neg (by simp [k4])]; exact fin1 (by simp [big, k1, k4])
omit hu in
theorem ref_l1 {x : Nat} {o : Ob} {ws : List Int} (hx : x + ws.length ≤ a.length) : ∀ (d k : Nat), k + d = ws.length → ws.take k = (a.drop x).take k →
    roadref3_ObjectAt.l1 a (x : Int) zo o ws (ws.length : Int) (k : Int) = some (if ws = (a.drop x).take ws.length then (o, true) else (zo, false)) := by
  intro d
  induction d with
  | zero =>
    intro k hk he
    obtain rfl : k = ws.length := by omega
    rw [List.take_of_length_le (Nat.le_refl _)] at he
    rw [roadref3_ObjectAt.l1_eq, if_neg (by omega), if_pos he]
  | succ d ih =>
    intro k hk he
    have h1 : k < ws.length := by omega
    have h2 : x + k < a.length := by omega
    rw [roadref3_ObjectAt.l1_eq, if_pos (by omega), gi_at h1, Option.bind_some, wrap_in (by omega) (by omega), gi_some (k := x + k) (by omega) (List.getElem?_eq_getElem h2), Option.bind_some]
    by_cases hq : a[x + k] = ws[k]
    · rw [if_pos hq, w_succ (by omega)]
      refine ih (k + 1) (by omega) ?_
      rw [List.take_succ_eq_append_getElem h1, List.take_succ_eq_append_getElem (by rw [List.length_drop]; omega), he, List.getElem_drop, hq]
    · rw [if_neg hq, if_neg]
      · rfl
      · intro e
        apply hq
        have : ws[k]? = ((a.drop x).take ws.length)[k]? := by rw [← e]
        rw [List.getElem?_take, if_pos h1, List.getElem?_drop, List.getElem?_eq_getElem h1, List.getElem?_eq_getElem h2] at this
        exact (Option.some.inj this).symm
omit ha hu in
theorem ref_l2 {x1 x6_0 x6_1 x6_2 x8 x10 x84 x85 : Int} {s : ByteArray} {r : List Int} {y : Int} (h0 : 0 ≤ y) (h1 : y ≤ 18446744073709551615) {m : Nat} (hm : m < 8) (hs : s.size ≤ 10000) : ∀ (d j : Nat), j + d = m →
    roadref3_ObjectAt.l2 a x1 zo x6_0 x6_1 x6_2 s [] x8 r x10 (y / 256 ^ j) x84 x85 (m : Int) (j : Int) = roadref3_ObjectAt.l0 a x1 zo x6_0 x6_1 x6_2 (s ++ bytesOf [y / 256 ^ m % 256]) [] x8 r x10 x84 (IntKind.wrap .i64 (x85 + 1)) := by
  have hq : ∀ j, 0 ≤ y / 256 ^ j ∧ y / 256 ^ j ≤ 18446744073709551615 := by
    intro j
    have h1' : 0 ≤ y / (256 : Int) ^ j := Int.ediv_nonneg h0 (Int.le_of_lt (Int.pow_pos (by decide)))
    have h2' : y / (256 : Int) ^ j ≤ y := Int.ediv_le_self _ h0
    omega
  intro d
  induction d with
  | zero =>
    intro j hj
    obtain rfl : j = m := by omega
    have := hq j
    rw [roadref3_ObjectAt.l2_eq, if_neg (by omega), if_pos (by rw [bytesOf_size]; simp; omega), u8_mod, Int.tmod_eq_emod_of_nonneg (hq j).1, Int.emod_emod_of_dvd _ (by decide)]
  | succ d ih =>
    intro j hj
    have h3 := hq (j + 1)
    have e : (y / 256 ^ j).tdiv 256 = y / 256 ^ (j + 1) := by
      rw [Int.tdiv_eq_ediv_of_nonneg (hq j).1, Int.pow_succ, Int.ediv_ediv, if_neg (fun h => absurd h.1 (Int.not_lt.2 (Int.le_of_lt (Int.pow_pos (by decide))))), Int.sub_zero]
    rw [roadref3_ObjectAt.l2_eq, if_pos (by omega), e, u64_in h3.1 h3.2, w_succ (by omega)]
    exact ih (j + 1) (by omega)
theorem ref_l0 {x t p b : Nat} {k num : Int} (ht : t ≤ 4095) (hp : p ≤ 4095) (hb : b + (t + 7) / 8 + p ≤ a.length) (hx : x + rm k t p = b + (t + 7) / 8 + p) (hxb : x ≤ b) :
    ∀ (d i : Nat), i + d = t → roadref3_ObjectAt.l0 a (x : Int) zo (x : Int) k num (bytesOf (txt (a.drop b) i)) [] (p : Int) (a.drop b) (((t + 7) / 8 : Nat) : Int) (t : Int) (i : Int) = some (ref (fin a x (obj x k num (a.drop b) t p))) := by
  intro d
  induction d with
  | zero =>
    intro i hi
    obtain rfl : i = t := by omega
    rw [roadref3_ObjectAt.l0_eq, if_neg (by omega), wrap_in (by omega) (by omega), sls_of (by omega) (by omega) (by rw [List.length_drop]; omega), Option.bind_some]
    have hsl : sl (a.drop b) (((i + 7) / 8 : Nat) : Int) ((((i + 7) / 8 : Nat) : Int) + (p : Int)) = ((a.drop b).drop ((i + 7) / 8)).take p := by
      unfold sl
      rw [Int.toNat_natCast, show ((((i + 7) / 8 : Nat) : Int) + (p : Int)).toNat = (i + 7) / 8 + p from by omega, List.drop_take]
      congr 1
      omega
    have hob : T_heap_Object.mk (x : Int) k num (bytesOf (txt (a.drop b) i)) (((a.drop b).drop ((i + 7) / 8)).take p) = obj x k num (a.drop b) i p := rfl
    rw [hsl, ap_nil (by simp; omega), Option.bind_some, hob, is_val, Option.bind_some]
    have hlen : (ow (obj x k num (a.drop b) i p)).length = rm k i p := by
      rw [ow_len]
      unfold obj
      simp only [bytesOf_size, txt_len, List.length_take, List.length_drop]
      congr 1
      omega
    unfold fin
    by_cases hO : Okay (obj x k num (a.drop b) i p)
    · rw [decide_eq_true hO, if_pos rfl, words_val hO, Option.bind_some]
      have := ref_l1 ha (x := x) (o := obj x k num (a.drop b) i p) (ws := ow (obj x k num (a.drop b) i p)) (by omega) _ 0 (Nat.zero_add _) rfl
      refine Eq.trans this ?_
      by_cases hE : ow (obj x k num (a.drop b) i p) = (a.drop x).take (ow (obj x k num (a.drop b) i p)).length
      · rw [if_pos hE, if_pos ⟨hO, hE⟩]; rfl
      · rw [if_neg hE, if_neg (fun h => hE h.2)]; rfl
    · rw [decide_eq_false hO, if_neg (by decide), if_neg (fun h => hO h.1)]; rfl
  | succ d ih =>
    intro i hi
    have hq : b + i / 8 < a.length := by omega
    have hy := hu a[b + i / 8] (List.getElem_mem _)
    have hm : i % 8 < 8 := by omega
    have hg : (a.drop b)[i / 8]? = some a[b + i / 8] := by rw [List.getElem?_drop]; exact List.getElem?_eq_getElem hq
    rw [roadref3_ObjectAt.l0_eq, if_pos (by omega), tdiv8, tmod8, wrap_in (n := ((i / 8 : Nat) : Int)) (by omega) (by omega), gi_some (k := i / 8) rfl hg, Option.bind_some]
    have h2 := ref_l2 (a := a) (x1 := x) (x6_0 := x) (x6_1 := k) (x6_2 := num) (x8 := p) (x10 := (((t + 7) / 8 : Nat) : Int)) (x84 := t) (x85 := i) (s := bytesOf (txt (a.drop b) i)) (r := a.drop b) hy.1 hy.2 hm (by rw [bytesOf_size, txt_len]; omega) _ 0 (Nat.zero_add _)
    have e0 : a[b + i / 8] / 256 ^ 0 = a[b + i / 8] := by simp
    rw [e0] at h2
    refine Eq.trans h2 ?_
    have := ih (i + 1) (by omega)
    rw [txt_succ, bytesOf_append] at this
    have e : unb (a.drop b) i = a[b + i / 8] / 256 ^ (i % 8) % 256 := by
      unfold unb
      rw [hg]; rfl
    rw [e] at this
    rw [w_succ (by omega)]
    exact this
theorem ref_val (x : Int) : roadref3_ObjectAt a x = some (if 0 ≤ x ∧ x < a.length then ref (fnd a x.toNat (a[x.toNat]?.getD 0)) else (zo, false)) := by
  unfold roadref3_ObjectAt roadref3_In
  by_cases h0 : x ≥ 0
  · rw [if_pos h0, Option.bind_some, wrap_in (by omega) (by omega)]
    by_cases h1 : x < (a.length : Int)
    · rw [decide_eq_true (by omega), if_pos rfl, if_pos ⟨h0, h1⟩]
      obtain ⟨x, rfl⟩ := Int.eq_ofNat_of_zero_le (show 0 ≤ x by omega)
      have hx : x < a.length := by omega
      have hw := hu a[x] (List.getElem_mem _)
      rw [Int.toNat_natCast, List.getElem?_eq_getElem hx, Option.getD_some]
      generalize hwe : a[x] = w at hw
      have hg : gi a (x : Int) = some w := gi_some (k := x) rfl (by rw [List.getElem?_eq_getElem hx, hwe])
      rw [hg, Option.bind_some, Int.tdiv_eq_ediv_of_nonneg hw.1, u64_in (by omega) (by omega)]
      unfold fnd
      unfold roadref3_ObjectAt.j1
      by_cases hb : 4294967296 ≤ w
      · rw [decide_eq_true (by omega), if_pos rfl, if_pos hb]; rfl
      rw [decide_eq_false (by omega), if_neg (by decide), if_neg hb]
      unfold roadref3_ObjectAt.j0
      rw [hg, Option.bind_some, Option.bind_some, Option.bind_some, w_succ (by omega), sls_drop (k := x + 1) rfl (by omega), Option.bind_some, Int.tmod_eq_emod_of_nonneg hw.1, Int.tdiv_eq_ediv_of_nonneg hw.1, Int.tdiv_eq_ediv_of_nonneg hw.1, u64_in (n := w / 256) (by omega) (by omega), u64_in (n := w / 1048576) (by omega) (by omega), Int.tmod_eq_emod_of_nonneg (by omega), wrap_in (n := w % 256) (by omega) (by omega), wrap_in (n := w / 256 % 4096) (by omega) (by omega), wrap_in (n := w / 1048576) (by omega) (by omega)]
      obtain ⟨t, ht⟩ := Int.eq_ofNat_of_zero_le (show 0 ≤ w / 256 % 4096 by omega)
      obtain ⟨p, hp⟩ := Int.eq_ofNat_of_zero_le (show 0 ≤ w / 1048576 by omega)
      have htt : t ≤ 4095 := by omega
      have hpp : p ≤ 4095 := by omega
      rw [ht, hp, Int.toNat_natCast, Int.toNat_natCast]
      generalize w % 256 = k
      have e7 : IntKind.wrap .i64 (Int.tdiv (IntKind.wrap .i64 ((t : Int) + 7)) 8) = (((t + 7) / 8 : Nat) : Int) := by
        rw [wrap_in (n := (t : Int) + 7) (by omega) (by omega), show (t : Int) + 7 = ((t + 7 : Nat) : Int) from by omega, tdiv8, wrap_in (by omega) (by omega)]
      have j2 : ∀ (b : Nat) (num : Int), x + rm k t p = b + (t + 7) / 8 + p → x ≤ b → b ≤ a.length → roadref3_ObjectAt.j2 a (x : Int) zo (x : Int) k num (ByteArray.mk #[]) [] (t : Int) (p : Int) (a.drop b) = some (ref (if (a.length : Int) - x < (rm k t p : Int) then none else fin a x (obj x k num (a.drop b) t p))) := by
        intro b num hx2 hxb hba
        unfold roadref3_ObjectAt.j2
        rw [e7, wrap_in (n := _ + (p : Int)) (by omega) (by omega), List.length_drop]
        by_cases hr : (a.length : Int) - x < (rm k t p : Int)
        · rw [if_pos (by omega), if_pos hr]; rfl
        · rw [if_neg (by omega), if_neg hr]
          exact ref_l0 ha hu htt hpp (by omega) hx2 hxb t 0 (by omega)
      have fin1 : big k = false → roadref3_ObjectAt.j2 a (x : Int) zo (x : Int) k 0 (ByteArray.mk #[]) [] (t : Int) (p : Int) (a.drop (x + 1)) = some (ref (if (a.length : Int) - x < (rm k t p : Int) then none else fin a x (obj x k (nmb a x k) (rst a x k) t p))) := by
        intro hbk
        have := j2 (x + 1) 0 (by unfold rm; rw [hbk]; simp; omega) (by omega) (by omega)
        unfold nmb rst
        rw [hbk]
        exact this
      have fin2 : big k = true → roadref3_ObjectAt.j3 a (x : Int) zo (x : Int) k 0 (ByteArray.mk #[]) [] (t : Int) (p : Int) (a.drop (x + 1)) true = some (ref (if (a.length : Int) - x < (rm k t p : Int) then none else fin a x (obj x k (nmb a x k) (rst a x k) t p))) := by
        intro hbk
        unfold roadref3_ObjectAt.j3
        rw [if_pos rfl, List.length_drop]
        by_cases hx1 : x + 1 < a.length
        · rw [if_neg (by omega), gi_some (k := 0) (x := 0) rfl (by rw [List.getElem?_drop]; exact List.getElem?_eq_getElem hx1), Option.bind_some, ← List.length_drop, sls_drop (k := 1) (x := 1) rfl (by rw [List.length_drop]; omega), Option.bind_some, List.drop_drop]
          have := j2 (x + 2) (IntKind.wrap .i64 a[x + 1]) (by unfold rm; rw [hbk]; simp; omega) (by omega) (by omega)
          unfold nmb rst
          rw [hbk, List.getElem?_eq_getElem hx1]
          exact this
        · rw [if_pos (by omega), if_pos (by unfold rm; rw [hbk]; simp; omega)]; rfl
      have fin3 : big k = false → roadref3_ObjectAt.j3 a (x : Int) zo (x : Int) k 0 (ByteArray.mk #[]) [] (t : Int) (p : Int) (a.drop (x + 1)) false = some (ref (if (a.length : Int) - x < (rm k t p : Int) then none else fin a x (obj x k (nmb a x k) (rst a x k) t p))) := by
        intro hbk
        unfold roadref3_ObjectAt.j3
        rw [if_neg (by decide)]
        exact fin1 hbk
      by_cases k1 : k = 1
      · rw [if_pos k1]; exact fin2 (by simp [big, k1])
      · rw [if_neg k1]
        by_cases k4 : k = 4
        · rw [show (k == 4) = true from by simp [k4]]; exact fin2 (by simp [big, k4])
        · rw [show (k == 4) = false from by simp [k4]]; exact fin3 (by simp [big, k1, k4])
    · rw [decide_eq_false (by omega), if_neg (by decide), if_neg (by omega)]; rfl
  · rw [if_neg h0, Option.bind_some, if_neg (by decide), if_neg (by omega)]; rfl
omit ha hu in
theorem fnd_okay {x : Nat} {w : Int} {o : Ob} (h : fnd a x w = some o) : Okay o := by
  unfold fnd at h
  split at h
  · cases h
  · split at h
    · cases h
    · unfold fin at h
      split at h
      · rename_i k; cases h; exact k.1
      · cases h
theorem objs_loop : ∀ (d x : Nat) (acc : List Ob), a.length ≤ x + d → a.length ≤ 4000 → acc.length + d ≤ 100000 →
    ∃ r, heap_Objects.l0 a acc (x : Int) = some r ∧ roadref3_HeapObjects.l0 a acc (x : Int) = some r ∧ r.1.length ≤ 100000 := by
  intro d
  induction d using Nat.strongRecOn with
  | _ d ih =>
    intro x acc h1 h2 h3
    rw [heap_Objects.l0_eq, roadref3_HeapObjects.l0_eq]
    by_cases h : x < a.length
    · rw [if_pos (by omega), if_pos (by omega), at_val ha hu, ref_val ha hu, if_pos (by omega), if_pos (by omega), Option.bind_some, Option.bind_some]
      cases hf : fnd a (x : Int).toNat (a[(x : Int).toNat]?.getD 0) with
      | none => exact ⟨_, rfl, rfl, by simp⟩
      | some o =>
        have hO := fnd_okay hf
        have hr := okay_size hO
        have hlen := ow_len o
        have hpos : 1 ≤ rm o.Kind o.Text.size o.Parts.length := by unfold rm; omega
        obtain ⟨k1, k2, _⟩ := hO
        show ∃ r, (if (0 : Int) = 0 then _ else _) = some r ∧ (if true = true then _ else _) = some r ∧ _
        rw [if_pos rfl, if_pos rfl]
        show ∃ r, (Option.bind (ap 64 acc [o]) fun l40 => Option.bind (heap_room o.Kind ((ByteArray.size o.Text : Nat) : Int) (((List.length o.Parts) : Nat) : Int)) fun y54 => (heap_Objects.l0 a l40 (IntKind.wrap .i64 ((x : Int) + y54)))) = some r ∧ (Option.bind (ap 64 acc [o]) fun l38 => Option.bind (roadref3_ObjectWords o) fun y52 => (roadref3_HeapObjects.l0 a l38 (IntKind.wrap .i64 ((x : Int) + (((List.length y52) : Nat) : Int))))) = some r ∧ _
        rw [ap_one (by omega), Option.bind_some, Option.bind_some, room_val (by omega) (by omega), Option.bind_some, words_val (fnd_okay hf), Option.bind_some, hlen, wrap_in (by omega) (by omega), show (x : Int) + ((rm o.Kind o.Text.size o.Parts.length : Nat) : Int) = ((x + rm o.Kind o.Text.size o.Parts.length : Nat) : Int) from by omega]
        exact ih (d - 1) (by omega) _ _ (by omega) h2 (by simp; omega)
    · rw [if_neg (by omega), if_neg (by omega)]
      exact ⟨_, rfl, rfl, by simp; omega⟩
omit hu in
theorem objs_val (hu : U64 a) : ∃ r, heap_Objects a = some r ∧ roadref3_HeapObjects a = some r ∧ r.1.length ≤ 100000 := by
  unfold heap_Objects roadref3_HeapObjects
  by_cases h : a.length > 4000
  · rw [if_pos (by omega), if_pos (by omega)]; exact ⟨_, rfl, rfl, by simp⟩
  · rw [if_neg (by omega), if_neg (by omega)]
    exact objs_loop ha hu 4000 0 [] (by omega) (by omega) (by simp)
end
def Fits (k n : Int) : Prop := (k = 0 ∧ n = 0) ∨ (k = 1 ∧ -1152921504606846976 ≤ n ∧ n < 1152921504606846976) ∨ (k = 2 ∧ (n = 0 ∨ n = 1)) ∨ ((k = 3 ∨ k = 4) ∧ 0 ≤ n ∧ n < 1152921504606846976)
instance (k n : Int) : Decidable (Fits k n) := by unfold Fits; infer_instance
def wd (k n : Int) : Int := (8 * n) % 18446744073709551616 + k
theorem u64_mod (n : Int) : IntKind.wrap .u64 n = n % 18446744073709551616 := by simp [IntKind.wrap, IntKind.bits, IntKind.signed]
theorem tagWord_val {k n : Int} (h0 : 0 ≤ k) (h1 : k ≤ 7) : roadref3_TagWord k n = some (wd k n) := by
  unfold roadref3_TagWord wd
  congr 1
  simp only [u64_mod]
  omega
theorem in_val (x a b : Int) : roadref3_In x a b = some (decide (a ≤ x ∧ x ≤ b)) := by
  unfold roadref3_In
  by_cases h : x ≥ a
  · rw [if_pos h]; congr 1; exact decide_eq_decide.2 (by omega)
  · rw [if_neg h, decide_eq_false (by omega)]
theorem tagFits_val (k n : Int) : roadref3_TagFits k n = some (decide (Fits k n)) := by
  unfold roadref3_TagFits roadref3_TagFits.j0
  have key : ∀ a b : Int, (Option.bind (roadref3_In k 0 4) fun y4 => if y4 = true then (Option.bind (roadref3_In n a b) fun y10 => some (y10)) else (some (false))) = some (decide ((0 ≤ k ∧ k ≤ 4) ∧ a ≤ n ∧ n ≤ b)) := by
    intro a b
    rw [in_val, Option.bind_some, in_val]
    by_cases h : 0 ≤ k ∧ k ≤ 4
    · rw [decide_eq_true h, if_pos rfl, Option.bind_some]; congr 1; exact decide_eq_decide.2 ⟨fun x => ⟨h, x⟩, fun x => x.2⟩
    · rw [decide_eq_false h, if_neg (by decide), decide_eq_false (fun x => h x.1)]
  simp only [key]
  unfold Fits
  by_cases k0 : k = 0
  · rw [if_pos k0]; congr 1; exact decide_eq_decide.2 (by omega)
  rw [if_neg k0]
  by_cases k1 : k = 1
  · rw [if_pos k1]; congr 1; exact decide_eq_decide.2 (by omega)
  rw [if_neg k1]
  by_cases k2 : k = 2
  · rw [if_pos k2]; congr 1; exact decide_eq_decide.2 (by omega)
  rw [if_neg k2]; congr 1; exact decide_eq_decide.2 (by omega)
theorem or_word {k n : Int} (h0 : 0 ≤ k) (h1 : k ≤ 7) : bitsI .or .u64 (shlI .u64 (IntKind.wrap .u64 n) 3) (IntKind.wrap .u64 k) = wd k n := by
  rw [u64_in h0 (by omega)]
  have e1 : shlI .u64 (IntKind.wrap .u64 n) 3 = (8 * n) % 18446744073709551616 := by
    unfold shlI
    rw [show min (Int.toNat 3) (IntKind.bits .u64) = 3 from rfl, u64_mod, u64_mod]
    omega
  rw [e1]
  obtain ⟨k, rfl⟩ := Int.eq_ofNat_of_zero_le h0
  obtain ⟨y, hy⟩ := Int.eq_ofNat_of_zero_le (show 0 ≤ (8 * n) % 18446744073709551616 / 8 by omega)
  have e2 : (8 * n) % 18446744073709551616 = ((y * 2 ^ 3 : Nat) : Int) := by omega
  have := or_val (x := k) (y := y) (s := 3) (by omega) (by omega)
  unfold wd
  rw [e2]
  show IntKind.wrap .u64 ((BitVec.ofInt 64 ((y * 2 ^ 3 : Nat) : Int) ||| BitVec.ofInt 64 (k : Int)).toNat : Nat) = _
  rw [BitVec.or_comm]
  refine Eq.trans this ?_
  omega
theorem word_val (k n : Int) : term_Word k n = some (if Fits k n then (wd k n, 0) else (0, if k < 0 ∨ k > 4 then 1 else 2)) := by
  have j0 : ∀ b, b = decide (Fits k n) → term_Word.j0 k n b = some (if Fits k n then (wd k n, 0) else (0, if k < 0 ∨ k > 4 then 1 else 2)) := by
    rintro b rfl
    unfold term_Word.j0
    by_cases h : Fits k n
    · rw [decide_eq_true h, if_pos rfl, if_pos h, or_word (by unfold Fits at h; omega) (by unfold Fits at h; omega)]
    · rw [decide_eq_false h, if_neg (by decide), if_neg h]
      unfold term_Word.j2
      by_cases h1 : k < 0
      · rw [if_pos h1, if_pos rfl, if_pos (.inl h1)]
      · rw [if_neg h1]
        by_cases h2 : k > 4
        · rw [decide_eq_true h2, if_pos rfl, if_pos (.inr h2)]
        · rw [decide_eq_false h2, if_neg (by decide), if_neg (by omega)]
  have small : term_Small n = some (decide (-1152921504606846976 ≤ n ∧ n < 1152921504606846976)) := by
    unfold term_Small
    by_cases h : n ≥ -1152921504606846976
    · rw [if_pos h]; congr 1; exact decide_eq_decide.2 (by omega)
    · rw [if_neg h, decide_eq_false (by omega)]
  have j4 : ∀ b, b = decide ((k = 0 ∨ k = 1 ∨ k = 2) ∧ Fits k n) → term_Word.j4 k n b = some (if Fits k n then (wd k n, 0) else (0, if k < 0 ∨ k > 4 then 1 else 2)) := by
    rintro b rfl
    unfold term_Word.j4
    by_cases h : (k = 0 ∨ k = 1 ∨ k = 2) ∧ Fits k n
    · rw [decide_eq_true h, if_pos rfl]; exact j0 _ (decide_eq_true h.2).symm
    rw [decide_eq_false h, if_neg (by decide)]
    by_cases k3 : k = 3
    · rw [if_pos k3]
      by_cases hn : n ≥ 0
      · rw [if_pos hn]; exact j0 _ (decide_eq_decide.2 (by unfold Fits; omega))
      · rw [if_neg hn]; exact j0 _ (decide_eq_false (by unfold Fits; omega)).symm
    rw [if_neg k3]
    by_cases k4 : k = 4
    · rw [if_pos k4]
      by_cases hn : n ≥ 0
      · rw [if_pos hn]; exact j0 _ (decide_eq_decide.2 (by unfold Fits; omega))
      · rw [if_neg hn]; exact j0 _ (decide_eq_false (by unfold Fits; omega)).symm
    rw [if_neg k4]; exact j0 _ (decide_eq_false (by unfold Fits at h ⊢; omega)).symm
  have j3 : ∀ b, b = decide ((k = 0 ∨ k = 2) ∧ Fits k n) → term_Word.j3 k n b = some (if Fits k n then (wd k n, 0) else (0, if k < 0 ∨ k > 4 then 1 else 2)) := by
    rintro b rfl
    unfold term_Word.j3
    by_cases h : (k = 0 ∨ k = 2) ∧ Fits k n
    · rw [decide_eq_true h, if_pos rfl]; exact j0 _ (decide_eq_true h.2).symm
    rw [decide_eq_false h, if_neg (by decide)]
    by_cases k1 : k = 1
    · rw [if_pos k1, small, Option.bind_some]; exact j4 _ (decide_eq_decide.2 (by unfold Fits; omega))
    · rw [if_neg k1]; exact j4 _ (decide_eq_false (by unfold Fits at h ⊢; omega)).symm
  have j1 : ∀ b, b = decide (k = 0 ∧ Fits k n) → term_Word.j1 k n b = some (if Fits k n then (wd k n, 0) else (0, if k < 0 ∨ k > 4 then 1 else 2)) := by
    rintro b rfl
    unfold term_Word.j1
    by_cases h : k = 0 ∧ Fits k n
    · rw [decide_eq_true h, if_pos rfl]; exact j0 _ (decide_eq_true h.2).symm
    rw [decide_eq_false h, if_neg (by decide)]
    by_cases k2 : k = 2
    · rw [if_pos k2]
      by_cases n0 : n = 0
      · rw [if_pos n0]; exact j3 _ (decide_eq_true (by unfold Fits; omega)).symm
      · rw [if_neg n0]; refine j3 _ ?_
        by_cases n1 : n = 1
        · subst n1; exact (decide_eq_true (by unfold Fits; omega)).symm
        · rw [show (n == 1) = false from by simp [n1]]; exact (decide_eq_false (by unfold Fits; omega)).symm
    · rw [if_neg k2]; exact j3 _ (decide_eq_false (by unfold Fits at h ⊢; omega)).symm
  unfold term_Word
  by_cases k0 : k = 0
  · rw [if_pos k0]; refine j1 _ ?_
    by_cases n0 : n = 0
    · subst n0; exact (decide_eq_true (by unfold Fits; omega)).symm
    · rw [show (n == 0) = false from by simp [n0]]; exact (decide_eq_false (by unfold Fits; omega)).symm
  · rw [if_neg k0]; exact j1 _ (decide_eq_false (by omega)).symm
def nn (w : Int) : Int := if w % 8 = 1 ∧ w / 8 ≥ 1152921504606846976 then w / 8 - 2305843009213693952 else w / 8
def rd (w : Int) : Option (Int × Int) := if Fits (w % 8) (nn w) ∧ wd (w % 8) (nn w) = w then some (w % 8, nn w) else none
section
variable {w : Int} (h0 : 0 ≤ w) (h1 : w ≤ 18446744073709551615)
include h0 h1
omit h0 h1 in
theorem rd_fits {k n : Int} (h : rd w = some (k, n)) : Fits k n := by
  unfold rd at h
  split at h
  · rename_i c; cases h; exact c.1
  · cases h
theorem tread_val : term_Read w = some (match rd w with | some (k, n) => (k, n, 0) | none => (0, 0, 3)) := by
  unfold term_Read
  rw [Int.tmod_eq_emod_of_nonneg h0, wrap_in (n := w % 8) (by omega) (by omega)]
  have key : term_Read.j0 w (w % 8) (nn w) = some (match rd w with | some (k, n) => (k, n, 0) | none => (0, 0, 3)) := by
    unfold term_Read.j0 rd
    rw [word_val, Option.bind_some]
    by_cases hf : Fits (w % 8) (nn w)
    · rw [if_pos hf, if_pos rfl]
      unfold term_Read.j2 term_Read.j1
      by_cases he : wd (w % 8) (nn w) = w
      · rw [if_neg (by simp [he]), if_pos ⟨hf, he⟩]
      · rw [if_pos (by simp [he]), if_neg (fun x => he x.2)]
    · rw [if_neg hf, if_neg (by simp only; split <;> decide), if_neg (fun x => hf x.1)]; rfl
  by_cases k1 : w % 8 = 1
  · rw [if_pos k1]
    have e : shrI .i64 (IntKind.wrap .i64 w) 3 = nn w := by
      unfold shrI nn
      rw [show min (Int.toNat 3) (IntKind.bits .i64) = 3 from rfl, Int.fdiv_eq_ediv_of_nonneg _ (by decide)]
      have ew : IntKind.wrap .i64 w = if w ≥ 9223372036854775808 then w - 18446744073709551616 else w := by
        have : w % 18446744073709551616 = w := Int.emod_eq_of_lt h0 (by omega)
        simp [IntKind.wrap, IntKind.bits, IntKind.signed, this]
      rw [ew]
      split <;> split <;> omega
    rw [e]; exact key
  · rw [if_neg k1]
    have e : IntKind.wrap .i64 (shrI .u64 w 3) = nn w := by
      unfold shrI nn
      rw [show min (Int.toNat 3) (IntKind.bits .u64) = 3 from rfl, Int.fdiv_eq_ediv_of_nonneg _ (by decide), wrap_in (by omega) (by omega), if_neg (by omega)]
      omega
    rw [e]; exact key
theorem tagRead_val : roadref3_TagRead w = some (match rd w with | some (k, n) => (k, n, true) | none => (0, 0, false)) := by
  unfold roadref3_TagRead
  rw [Int.tmod_eq_emod_of_nonneg h0, Int.tdiv_eq_ediv_of_nonneg h0, u64_in (n := w / 8) (by omega) (by omega), wrap_in (n := w % 8) (by omega) (by omega), wrap_in (n := w / 8) (by omega) (by omega)]
  have key : roadref3_TagRead.j0 w (w % 8) (nn w) = some (match rd w with | some (k, n) => (k, n, true) | none => (0, 0, false)) := by
    unfold roadref3_TagRead.j0 rd
    rw [tagFits_val, Option.bind_some]
    by_cases hf : Fits (w % 8) (nn w)
    · rw [decide_eq_true hf, if_pos rfl, tagWord_val (by omega) (by omega), Option.bind_some]
      unfold roadref3_TagRead.j3 roadref3_TagRead.j2
      by_cases he : wd (w % 8) (nn w) = w
      · rw [if_neg (by simp [he]), if_pos ⟨hf, he⟩]
      · rw [if_pos (by simp [he]), if_neg (fun x => he x.2)]
    · rw [decide_eq_false hf, if_neg (by decide), if_neg (fun x => hf x.1)]; rfl
  unfold roadref3_TagRead.j1
  by_cases k1 : w % 8 = 1
  · rw [if_pos k1]
    by_cases hb : w / 8 ≥ 1152921504606846976
    · rw [decide_eq_true hb, if_pos rfl, wrap_in (by omega) (by omega), show w / 8 - 2305843009213693952 = nn w from by unfold nn; rw [if_pos ⟨k1, hb⟩]]; exact key
    · rw [decide_eq_false hb, if_neg (by decide)]
      have e : nn w = w / 8 := by unfold nn; rw [if_neg (fun x => hb x.2)]
      rw [e] at key; exact key
  · rw [if_neg k1, if_neg (by decide)]
    have e : nn w = w / 8 := by unfold nn; rw [if_neg (fun x => k1 x.1)]
    rw [e] at key; exact key
end
section
variable {a : List Int} (ha : a.length ≤ 4000) (hu : U64 a)
include ha hu
omit ha in
theorem fnd_parts {x : Nat} {w : Int} {o : Ob} (h : fnd a x w = some o) : U64 o.Parts := by
  unfold fnd at h
  split at h
  · cases h
  · split at h
    · cases h
    · unfold fin at h
      split at h
      · cases h
        intro y hy
        unfold obj rst at hy
        exact hu y (List.mem_of_mem_drop (List.mem_of_mem_drop (List.mem_of_mem_take hy)))
      · cases h
end
def unseen (a : List Int) (es : List (Int × Bool)) : Nat := ((List.range a.length).filter fun k => !(pgd es ((k : Nat) : Int) false)).length
theorem unseen_le (a : List Int) (es : List (Int × Bool)) : unseen a es ≤ a.length := by
  unfold unseen
  have := List.length_filter_le (fun k : Nat => !(pgd es ((k : Nat) : Int) false)) (List.range a.length)
  rw [List.length_range] at this; exact this
theorem pgd_set (es : List (Int × Bool)) (n q : Int) : pgd (pset es n true) q false = if q = n then true else pgd es q false := by
  unfold pgd
  rw [pget_pset]
  split <;> rfl
theorem unseen_set {a : List Int} {es : List (Int × Bool)} {n : Nat} (hn : n < a.length) (hs : pgd es (n : Int) false = false) : unseen a (pset es (n : Int) true) + 1 ≤ unseen a es := by
  unfold unseen
  have h1 : ((List.range a.length).filter fun k => !(pgd (pset es (n : Int) true) ((k : Nat) : Int) false)) = ((List.range a.length).filter fun k => !(pgd es ((k : Nat) : Int) false)).filter fun k => !(k == n) := by
    rw [List.filter_filter]
    congr 1
    funext k
    rw [pgd_set]
    by_cases c : k = n
    · subst c; simp
    · rw [if_neg (by omega)]; simp [c]
  rw [h1]
  have hm : n ∈ (List.range a.length).filter fun k => !(pgd es ((k : Nat) : Int) false) := List.mem_filter.2 ⟨List.mem_range.2 hn, by simp [hs]⟩
  exact Nat.succ_le_of_lt (by
    rw [List.length_filter_lt_length_iff_exists]
    exact ⟨n, hm, by simp⟩)
theorem at_len {a : List Int} {l : List Int} {t : List Int} (x : Int) : sls (x :: t) 1 ((List.length (x :: t) : Nat) : Int) = some t := by
  have := sls_drop (l := x :: t) (k := 1) (x := 1) rfl (by simp)
  exact this
theorem cells_nil {a : List Int} (es : List (Int × Bool)) (out : List Int) (h4 : out.length ≤ 4000) : ∃ r, carry_Cells.l0 a es [] out = some r ∧ roadlaw3_CarryCells.l0 a r.1 r.2 es out [] = some true := by
  obtain ⟨r, s1, s2, _⟩ := slices_Sort_14.val out (by omega)
  obtain ⟨b, b1, b2⟩ := slices_Equal_10.val r r (by rw [s2.length_eq]; omega)
  refine ⟨(r, 0), by rw [carry_Cells.l0_eq, if_neg (by simp), s1, Option.bind_some], ?_⟩
  rw [roadlaw3_CarryCells.l0_eq, if_neg (by simp), s1, Option.bind_some, b1, Option.bind_some, if_pos (b2.2 rfl)]; rfl
theorem cells_loop {a : List Int} (ha : a.length * 8 ≤ 140737488351232) (hu : U64 a) (ha4 : a.length ≤ 4000) : ∀ (n : Nat) (es : List (Int × Bool)) (todo out : List Int), 401 * unseen a es + todo.length ≤ n → 401 * unseen a es + todo.length ≤ 2000000 → U64 todo → out.length + unseen a es ≤ 4000 →
    ∃ r, carry_Cells.l0 a es todo out = some r ∧ roadlaw3_CarryCells.l0 a r.1 r.2 es out todo = some true := by
  intro n
  induction n with
  | zero =>
    intro es todo out h1 h2 h3 h4
    have : todo = [] := List.length_eq_zero_iff.1 (by omega)
    subst this
    exact cells_nil es out (by omega)
  | succ n ih =>
    intro es todo out h1 h2 h3 h4
    cases todo with
    | nil => exact cells_nil es out (by omega)
    | cons w t =>
      have hw := h3 w (List.mem_cons_self ..)
      have ht : U64 t := fun y hy => h3 y (List.mem_cons_of_mem _ hy)
      have hlen : (w :: t).length = t.length + 1 := rfl
      rw [hlen] at h1 h2
      rw [carry_Cells.l0_eq, if_pos (by rw [hlen]; omega), gi_cons, Option.bind_some, tread_val hw.1 hw.2, Option.bind_some, at_len (a := a) (l := []), Option.bind_some]
      have goon : ∀ (r : List Int × Int), roadlaw3_CarryCells.l0 a r.1 r.2 es out t = some true → roadlaw3_CarryCells.j0 a r.1 r.2 es out (w :: t) = some true := fun r h => by
        rw [roadlaw3_CarryCells.j0_eq, at_len (a := a) (l := []), Option.bind_some]; exact h
      cases hr : rd w with
      | none =>
        refine ⟨([], 3), rfl, ?_⟩
        rw [roadlaw3_CarryCells.l0_eq, if_pos (by rw [hlen]; omega), gi_cons, Option.bind_some, tagRead_val hw.1 hw.2, Option.bind_some, hr, ref_val ha hu, Option.bind_some]
        rfl
      | some p =>
        obtain ⟨k, m⟩ := p
        have hf := rd_fits hr
        dsimp only
        rw [if_pos rfl]
        have L : ∀ (r : List Int × Int), roadlaw3_CarryCells.l0 a r.1 r.2 es out (w :: t) = if k = 4 then roadlaw3_CarryCells.j3 a r.1 r.2 es out (w :: t) m (if 0 ≤ m ∧ m < a.length then ref (fnd a m.toNat (a[m.toNat]?.getD 0)) else (zo, false)).1 (if 0 ≤ m ∧ m < a.length then ref (fnd a m.toNat (a[m.toNat]?.getD 0)) else (zo, false)).2 (pgd es m false) else roadlaw3_CarryCells.j3 a r.1 r.2 es out (w :: t) m (if 0 ≤ m ∧ m < a.length then ref (fnd a m.toNat (a[m.toNat]?.getD 0)) else (zo, false)).1 (if 0 ≤ m ∧ m < a.length then ref (fnd a m.toNat (a[m.toNat]?.getD 0)) else (zo, false)).2 true := fun r => by
          rw [roadlaw3_CarryCells.l0_eq, if_pos (by rw [hlen]; omega), gi_cons, Option.bind_some, tagRead_val hw.1 hw.2, Option.bind_some, hr]
          dsimp only
          rw [ref_val ha hu, Option.bind_some, if_pos rfl]
        by_cases k4 : k = 4
        · rw [if_pos k4]
          simp only [if_pos k4] at L
          have m0 : 0 ≤ m := by unfold Fits at hf; omega
          by_cases hs : pgd es m false = true
          · rw [if_pos hs]
            obtain ⟨r, q1, q2⟩ := ih es t out (by omega) (by omega) ht h4
            refine ⟨r, q1, ?_⟩
            rw [L, hs, roadlaw3_CarryCells.j3_eq, if_pos rfl]
            exact goon r q2
          · rw [if_neg hs, carry_Cells.j0_eq]
            have hA := at_val ha hu m
            have hs' : pgd es m false = false := Bool.eq_false_iff.2 hs
            by_cases hm : m < a.length
            · rw [if_pos ⟨m0, hm⟩] at hA
              rw [hA, Option.bind_some]
              simp only [if_pos (show 0 ≤ m ∧ m < a.length from ⟨m0, hm⟩)] at L
              cases hfd : fnd a m.toNat (a[m.toNat]?.getD 0) with
              | none =>
                refine ⟨([], 3), rfl, ?_⟩
                rw [L, hfd, hs', roadlaw3_CarryCells.j3_eq, if_neg (by decide), if_neg (by omega)]
                rfl
              | some o =>
                have hO := fnd_okay hfd
                have hP : o.Parts.length ≤ 400 := hO.2.1
                have hU := fnd_parts hu hfd
                have hun := unseen_set (a := a) (es := es) (n := m.toNat) (by omega) (by rw [Int.toNat_of_nonneg m0]; exact hs')
                rw [Int.toNat_of_nonneg m0] at hun
                show ∃ r, (if (0 : Int) = 0 then _ else _) = some r ∧ _
                rw [if_pos rfl, Option.bind_some]
                have J : ∀ out', out'.length + unseen a (pset es m true) ≤ 4000 → ∃ r, carry_Cells.j1 a (pset es m true) t out' o = some r ∧ roadlaw3_CarryCells.j2 a r.1 r.2 (pset es m true) out' (w :: t) o = some true := by
                  intro out' ho'
                  obtain ⟨r, q1, q2⟩ := ih (pset es m true) (t ++ o.Parts) out' (by rw [List.length_append]; omega) (by rw [List.length_append]; omega) (fun y hy => (List.mem_append.1 hy).elim (ht y) (hU y)) ho'
                  refine ⟨r, by rw [carry_Cells.j1_eq, ap_of (by omega), Option.bind_some]; exact q1, ?_⟩
                  rw [roadlaw3_CarryCells.j2_eq, ap_of (by rw [hlen]; omega), Option.bind_some, roadlaw3_CarryCells.j0_eq, List.cons_append, at_len (a := a) (l := []), Option.bind_some]
                  exact q2
                have LL : ∀ r : List Int × Int, roadlaw3_CarryCells.l0 a r.1 r.2 es out (w :: t) = if o.Kind = 5 then roadlaw3_CarryCells.j2 a r.1 r.2 (pset es m true) (out ++ [m]) (w :: t) o else roadlaw3_CarryCells.j2 a r.1 r.2 (pset es m true) out (w :: t) o := fun r => by
                  rw [L, hfd, hs', roadlaw3_CarryCells.j3_eq, if_neg (by decide), if_neg (by omega)]
                  show (if true = true then roadlaw3_CarryCells.j1 a r.1 r.2 es out (w :: t) m o else _) = _
                  rw [if_pos rfl, roadlaw3_CarryCells.j1_eq, Option.bind_some, ap_one (by omega), Option.bind_some]
                simp only [LL]
                show ∃ r, (if o.Kind = 5 then Option.bind (ap 8 out [m]) fun l28 => carry_Cells.j1 a (pset es m true) t l28 o else carry_Cells.j1 a (pset es m true) t out o) = some r ∧ _
                rw [ap_one (by omega), Option.bind_some]
                by_cases k5 : o.Kind = 5
                · simp only [if_pos k5]
                  exact J (out ++ [m]) (by rw [List.length_append]; simp only [List.length_cons, List.length_nil]; omega)
                · simp only [if_neg k5]
                  exact J out (by omega)
            · rw [if_neg (fun q => hm q.2)] at hA
              rw [hA, Option.bind_some]
              refine ⟨([], 4), rfl, ?_⟩
              rw [L, hs', roadlaw3_CarryCells.j3_eq, if_neg (by decide), if_pos (by omega)]
              rfl
        · rw [if_neg k4]
          simp only [if_neg k4] at L
          obtain ⟨r, q1, q2⟩ := ih es t out (by omega) (by omega) ht h4
          refine ⟨r, q1, ?_⟩
          rw [L, roadlaw3_CarryCells.j3_eq, if_pos rfl]
          exact goon r q2
theorem CarryCells (a : List Int) (x : Int) (ha : a.length * 8 ≤ 140737488351232 ∧ ∀ y ∈ a, 0 ≤ y ∧ y ≤ 18446744073709551615) (hx : 0 ≤ x ∧ x ≤ 18446744073709551615) : roadlaw3_CarryCells a x = some true := by
  obtain ⟨ro, h1, h2, h3⟩ := objs_val ha.1 ha.2
  unfold roadlaw3_CarryCells carry_Cells
  rw [h1, Option.bind_some, h2]
  by_cases c : ro.2 = 0
  · have ha4 : a.length ≤ 4000 := by
      rcases Nat.lt_or_ge 4000 a.length with h | h
      · unfold heap_Objects at h1
        rw [if_pos (by omega)] at h1
        cases h1
        cases c
      · exact h
    rw [if_pos c]
    simp only [Option.bind_some, if_pos c]
    have hu := unseen_le a []
    obtain ⟨r, q1, q2⟩ := cells_loop ha.1 ha.2 ha4 2000000 [] [x] [] (by simp; omega) (by simp; omega) (fun y hy => by simp at hy; subst hy; exact hx) (by simp; omega)
    rw [q1, Option.bind_some]
    exact q2
  · rw [if_neg c, Option.bind_some, Option.bind_some, if_neg c]
    simp
end Go.Proofs.Ythnlhffpmlgmfad.Fw

end
