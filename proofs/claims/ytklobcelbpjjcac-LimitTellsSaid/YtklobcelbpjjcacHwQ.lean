/- Slices that own their block, and append. -/
import Derived.Test.YtklobcelbpjjcacHwP
namespace Go.Hw
open Go

theorem cellsH_length {h : Heap} {a : Addr} : ∀ {n i : Nat} {cs : List Value}, cellsH h a i n = some cs → cs.length = n := by
  intro n
  induction n with
  | zero => intro i cs hc; simp only [cellsH, Option.some.injEq] at hc; subst hc; rfl
  | succ n ih =>
    intro i cs hc
    simp only [cellsH] at hc
    split at hc
    · split at hc
      · rename_i vs hv; cases hc; simp [ih hv]
      · cases hc
    · cases hc

/-- Flat cells: what one place can hold. -/
def Flat (v : Value) : Prop := oneCell v True

/-- Everything but the block of A is kept. -/
def ButA (A : Option Addr) (h h' : Heap) : Prop := h.size ≤ h'.size ∧ ∀ i, i < h.size → (∀ a, A = some a → a.block ≠ i) → h'[i]? = h[i]?
theorem ButA.ext {A : Option Addr} {h0 h h' : Heap} (e : ButA A h h') (x : Ext h0 h) (ha : ∀ a, A = some a → h0.size ≤ a.block) : Ext h0 h' :=
  ⟨Nat.le_trans x.1 e.1, fun i hi => by rw [e.2 i (by have := x.1; omega) (fun a h1 => by have := ha a h1; omega)]; exact x.2 i hi⟩
theorem ButA.of {A : Option Addr} {h h' : Heap} (e : Ext h h') : ButA A h h' := ⟨e.1, fun i hi _ => e.2 i hi⟩
theorem ButA.refl (A : Option Addr) (h : Heap) : ButA A h h := ⟨Nat.le_refl _, fun _ _ _ => rfl⟩
theorem ButA.blk {A : Option Addr} {h h' : Heap} {b : Nat} {c : List Value} {t : TypeId} (e : ButA A h h') (hb : Blk h b c t) (ha : ∀ a, A = some a → a.block ≠ b) : Blk h' b c t := by
  unfold Blk at *
  rw [e.2 b (Blk.lt hb) ha]; exact hb

/-- A slice that owns its block: its cells, and room behind them; the block lies at lo or behind. -/
def Own (lo sz : Nat) (h : Heap) (A : Option Addr) (n c : Nat) (cs : List Value) : Prop :=
  cs.length = n * sz ∧ n ≤ c ∧ ((A = none ∧ n = 0 ∧ c = 0) ∨ ∃ b t pre rest, A = some ⟨b, pre.length, none⟩ ∧ lo ≤ b ∧ Blk h b (pre ++ cs ++ rest) t ∧ (c - n) * sz ≤ rest.length)

section
variable {lo sz : Nat} {h h' : Heap} {A : Option Addr} {n c : Nat} {cs : List Value}
theorem Own.nil : Own lo sz h none 0 0 [] := ⟨by simp, Nat.le_refl _, .inl ⟨rfl, rfl, rfl⟩⟩
theorem Own.ext (ho : Own lo sz h A n c cs) (e : Ext h h') : Own lo sz h' A n c cs := by
  obtain ⟨h1, h2, h3⟩ := ho
  refine ⟨h1, h2, ?_⟩
  rcases h3 with h3 | ⟨b, t, pre, rest, h4, h5, h6, h7⟩
  · exact .inl h3
  · exact .inr ⟨b, t, pre, rest, h4, h5, h6.ext e, h7⟩
theorem Own.low (ho : Own lo sz h A n c cs) {lo' : Nat} (hl : lo' ≤ lo) : Own lo' sz h A n c cs := by
  obtain ⟨h1, h2, h3⟩ := ho
  refine ⟨h1, h2, ?_⟩
  rcases h3 with h3 | ⟨b, t, pre, rest, h4, h5, h6, h7⟩
  · exact .inl h3
  · exact .inr ⟨b, t, pre, rest, h4, Nat.le_trans hl h5, h6, h7⟩
theorem Own.at (ho : Own lo sz h A n c cs) : ∀ a, A = some a → lo ≤ a.block := by
  obtain ⟨h1, h2, h3⟩ := ho
  rcases h3 with ⟨h3, _⟩ | ⟨b, t, pre, rest, h4, h5, h6, h7⟩
  · intro a h; rw [h3] at h; cases h
  · intro a h; rw [h4] at h; cases h; exact h5
theorem Own.lt (ho : Own lo sz h A n c cs) : ∀ a, A = some a → a.block < h.size := by
  obtain ⟨h1, h2, h3⟩ := ho
  rcases h3 with ⟨h3, _⟩ | ⟨b, t, pre, rest, h4, h5, h6, h7⟩
  · intro a h; rw [h3] at h; cases h
  · intro a h; rw [h4] at h; cases h; exact h6.lt
/-- What came before is kept by what touches the row alone. -/
theorem Own.keep (ho : Own lo sz h A n c cs) (e : ButA A h h') {h0 : Heap} (x : Ext h0 h) (hl : h0.size ≤ lo) : Ext h0 h' :=
  e.ext x fun a ha => Nat.le_trans hl (ho.at a ha)
/-- Another row is kept. -/
theorem Own.but (ho : Own lo sz h A n c cs) {B : Option Addr} (e : ButA B h h') (hne : ∀ a b, A = some a → B = some b → a.block ≠ b.block) : Own lo sz h' A n c cs := by
  obtain ⟨h1, h2, h3⟩ := ho
  refine ⟨h1, h2, ?_⟩
  rcases h3 with h3 | ⟨b, t, pre, rest, h4, h5, h6, h7⟩
  · exact .inl h3
  · exact .inr ⟨b, t, pre, rest, h4, h5, e.blk h6 (fun a ha => fun hh => hne _ a h4 ha hh.symm), h7⟩

theorem Own.cells (ho : Own lo sz h A n c cs) : oldCells sz A n h = some cs := by
  obtain ⟨h1, h2, h3⟩ := ho
  rcases h3 with ⟨rfl, rfl, rfl⟩ | ⟨b, t, pre, rest, rfl, h5, h6, h7⟩
  · simp only [oldCells]
    rw [show cs = [] from List.length_eq_zero_iff.1 (by omega)]
  · simp only [oldCells]
    have := h6.cells (a := ⟨b, pre.length, none⟩) rfl rfl (n * sz) 0 (by simp; omega)
    rw [this]
    simp [← h1]

/-- The row as elements: f tells an element's one cell. -/
theorem Own.rd1 {α : Type} {l : List α} {f : α → Value} {E : Heap → α → List Value → Prop} (ho : Own lo 1 h A n c (l.map f)) (hE : ∀ x ∈ l, E h x [f x]) : Rd 1 E h A l := by
  obtain ⟨h1, h2, h3⟩ := ho
  rw [List.length_map] at h1
  rcases h3 with ⟨rfl, rfl, rfl⟩ | ⟨b, t, pre, rest, rfl, h5, h6, h7⟩
  · intro i hi; omega
  · intro i hi
    refine ⟨⟨b, pre.length, none⟩, [f l[i]], rfl, ?_, hE _ (List.getElem_mem hi)⟩
    refine cells_one (h6.cell (by rw [add_block]) (add_spot _ rfl) ?_)
    rw [add_off]
    simp only [Nat.mul_one]
    rw [List.append_assoc, List.getElem?_append_right (by omega), show pre.length + i - pre.length = i by omega, List.getElem?_append_left (by simpa using hi), List.getElem?_map, List.getElem?_eq_getElem hi]; rfl
theorem Own.ints {l : List Int} {k : IntKind} (ho : Own lo 1 h A n c (l.map (Value.int k))) : Rd 1 (eInt k) h A l := ho.rd1 fun _ _ => rfl
/-- The first k elements are cut off. -/
theorem Own.drop (ho : Own lo sz h A n c cs) {k : Nat} (hk : k ≤ n) : Own lo sz h (sliceA A k c sz) (n - k) (c - k) (cs.drop (k * sz)) := by
  obtain ⟨h1, h2, h3⟩ := ho
  have hm : (n - k) * sz = n * sz - k * sz := Nat.mul_sub_right_distrib _ _ _
  have hle : k * sz ≤ n * sz := Nat.mul_le_mul_right _ hk
  refine ⟨by rw [List.length_drop, h1, hm], by omega, ?_⟩
  rcases h3 with ⟨rfl, rfl, rfl⟩ | ⟨b, t, pre, rest, rfl, h5, h6, h7⟩
  · refine .inl ⟨?_, by omega, by omega⟩
    unfold sliceA; split <;> rfl
  · refine .inr ?_
    unfold sliceA
    split
    · rename_i hck
      have : n - k = 0 := by omega
      have hn : k = n := by omega
      subst hn
      refine ⟨b, t, pre, cs ++ rest, rfl, h5, ?_, by rw [show c - k - (k - k) = 0 by omega]; omega⟩
      rw [List.drop_eq_nil_of_le (by omega)]
      simpa using h6
    · refine ⟨b, t, pre ++ cs.take (k * sz), rest, ?_, h5, ?_, ?_⟩
      · simp only [Option.map_some, Option.some.injEq]
        have h8 : (cs.take (k * sz)).length = k * sz := by rw [List.length_take, h1]; omega
        rw [List.length_append, h8]
        unfold Addr.add
        split
        · rename_i h9; rw [h9]; rfl
        · rfl
      · rw [List.append_assoc pre, List.take_append_drop]; exact h6
      · rw [show c - k - (n - k) = c - n by omega]; exact h7
theorem Own.len (ho : Own lo 1 h A n c cs) : n = cs.length := by have := ho.1; omega

theorem flatMap_part {α : Type} {f : α → List Value} {sz : Nat} (hf : ∀ x, (f x).length = sz) : ∀ (l : List α) (i : Nat) (hi : i < l.length), ((l.flatMap f).drop (i * sz)).take sz = f l[i] := by
  intro l
  induction l with
  | nil => intro i hi; cases hi
  | cons x l ih =>
    intro i hi
    cases i with
    | zero => simp [List.flatMap_cons, ← hf x]
    | succ i =>
      rw [List.flatMap_cons, show (i + 1) * sz = (f x).length + i * sz by rw [hf, Nat.succ_mul, Nat.add_comm], ← List.drop_drop, List.drop_left]
      exact ih i (by simpa using hi)
theorem flatMap_len {α : Type} {f : α → List Value} {sz : Nat} (hf : ∀ x, (f x).length = sz) (l : List α) : (l.flatMap f).length = l.length * sz := by
  induction l with
  | nil => simp
  | cons x l ih => rw [List.flatMap_cons, List.length_append, ih, hf, List.length_cons, Nat.succ_mul, Nat.add_comm]
/-- The row as elements of sz cells. -/
theorem Own.rd {α : Type} {l : List α} {f : α → List Value} {E : Heap → α → List Value → Prop} (hf : ∀ x, (f x).length = sz) (hz : 0 < sz) (ho : Own lo sz h A n c (l.flatMap f)) (hE : ∀ x ∈ l, E h x (f x)) : Rd sz E h A l := by
  obtain ⟨h1, h2, h3⟩ := ho
  rw [flatMap_len hf] at h1
  have h1 : l.length = n := Nat.eq_of_mul_eq_mul_right hz h1
  rcases h3 with ⟨rfl, rfl, rfl⟩ | ⟨b, t, pre, rest, rfl, h5, h6, h7⟩
  · intro i hi; omega
  · intro i hi
    refine ⟨⟨b, pre.length, none⟩, f l[i], rfl, ?_, hE _ (List.getElem_mem hi)⟩
    have hle : i * sz + sz ≤ l.length * sz := by rw [← Nat.succ_mul]; exact Nat.mul_le_mul_right _ hi
    have := h6.cells (a := (⟨b, pre.length, none⟩ : Addr).add (i * sz)) (by rw [add_block]) (add_spot _ rfl) sz 0 (by rw [add_off, List.length_append, List.length_append, flatMap_len hf]; simp only [Nat.add_zero]; omega)
    rw [this, add_off]
    simp only [Nat.add_zero]
    rw [List.append_assoc, ← List.drop_drop, List.drop_left, List.drop_append_of_le_length (by rw [flatMap_len hf]; omega), List.take_append_of_le_length (by rw [List.length_drop, flatMap_len hf]; omega), flatMap_part hf]
end

theorem Blk.stH {b : Nat} {t : TypeId} : ∀ (xs : List Value) {h : Heap} {p q r : List Value} {a : Addr} {i : Nat}, Blk h b (p ++ q ++ r) t → a.block = b → a.spot = none → a.off + i = p.length → q.length = xs.length → (∀ v ∈ xs, Flat v) →
    ∃ h', stH h a xs i = some h' ∧ Blk h' b (p ++ xs ++ r) t ∧ Only h h' b := by
  intro xs
  induction xs with
  | nil =>
    intro h p q r a i hb h1 h2 h3 h4 h5
    rw [List.length_eq_zero_iff.1 h4] at hb
    exact ⟨h, rfl, hb, .refl _ _⟩
  | cons v xs ih =>
    intro h p q r a i hb h1 h2 h3 h4 h5
    obtain ⟨u, q', rfl⟩ : ∃ u q', q = u :: q' := by cases q with | nil => cases h4 | cons u q' => exact ⟨u, q', rfl⟩
    have hoff : (a.add i).off = p.length := by rw [add_off, h3]
    obtain ⟨h', s1, b1, o1⟩ := hb.st (a := a.add i) (v := v) (by rw [add_block, h1]) (add_spot _ h2) (by rw [hoff]; simp) (h5 v (List.mem_cons_self ..))
    rw [hoff] at b1
    have e : (p ++ u :: q' ++ r).set p.length v = (p ++ [v]) ++ q' ++ r := by
      rw [List.append_assoc, List.set_append_right _ _ (Nat.le_refl _)]; simp
    rw [e] at b1
    obtain ⟨h'', s2, b2, o2⟩ := ih (p := p ++ [v]) (q := q') (r := r) (a := a) (i := i + 1) b1 h1 h2 (by simp; omega) (by simpa using h4) (fun x hx => h5 x (List.mem_cons_of_mem _ hx))
    refine ⟨h'', ?_, by simpa using b2, o1.trans o2⟩
    simp only [Go.Hw.stH, s1, s2]

theorem zcells_size (z : Array Value) (n : Nat) : (zcells z n).size = n * z.size := by
  unfold zcells Builtin.zeroCells
  simp

/-- What append does to the memory: everything but the row's block is kept, and the row lies in its block or in a new one. -/
def AppR (A A' : Option Addr) (h h' : Heap) : Prop := ButA A h h' ∧ ∀ a', A' = some a' → (∃ a, A = some a ∧ a.block = a'.block) ∨ h.size ≤ a'.block
/-- Two slices in different blocks. -/
def Apart (A B : Option Addr) : Prop := ∀ a b, A = some a → B = some b → a.block ≠ b.block
theorem Apart.symm {A B : Option Addr} (h : Apart A B) : Apart B A := fun a b ha hb e => h b a hb ha e.symm
theorem Apart.nil {B : Option Addr} : Apart none B := fun a b ha => by cases ha
theorem Apart.nil' {B : Option Addr} : Apart B none := fun a b _ ha => by cases ha
theorem AppR.apart {A A' B : Option Addr} {h h' : Heap} (r : AppR A A' h h') (p : Apart A B) (hb : ∀ b, B = some b → b.block < h.size) : Apart A' B := by
  intro a' b ha' hB
  rcases r.2 a' ha' with ⟨a, ha, e⟩ | hge
  · rw [← e]; exact p a b ha hB
  · have := hb b hB; omega
theorem sliceA_block {A : Option Addr} {k c sz : Nat} {a : Addr} (h : sliceA A k c sz = some a) : ∃ a', A = some a' ∧ a'.block = a.block := by
  unfold sliceA at h
  split at h
  · exact ⟨a, h, rfl⟩
  · cases A with
    | none => cases h
    | some x => cases h; exact ⟨x, rfl, (add_block _ _).symm⟩
theorem Apart.slice {A B : Option Addr} (p : Apart A B) (k c sz : Nat) : Apart (sliceA A k c sz) B := by
  intro a b ha hb
  obtain ⟨a', h1, h2⟩ := sliceA_block ha
  rw [← h2]; exact p a' b h1 hb
theorem ButA.none {h h' : Heap} (e : ButA none h h') : Ext h h' := ⟨e.1, fun i hi => e.2 i hi (fun a ha => by cases ha)⟩
theorem ButA.trans {A : Option Addr} {h h' h'' : Heap} (e : ButA A h h') (f : ButA A h' h'') : ButA A h h'' := ⟨Nat.le_trans e.1 f.1, fun i hi ha => by rw [f.2 i (by have := e.1; omega) ha]; exact e.2 i hi ha⟩

/-- A row that owns its block is written at one cell. -/
theorem Own.st {lo sz : Nat} {h : Heap} {A : Option Addr} {n c : Nat} {cs : List Value} (ho : Own lo sz h A n c cs) {j : Nat} {v : Value} (hj : j < cs.length) (hf : Flat v) :
    ∃ a, A = some a ∧ ∀ b : Addr, b.block = a.block → b.spot = none → b.off = a.off + j → ∃ h', st1 h b v = some h' ∧ Own lo sz h' A n c (cs.set j v) ∧ ButA A h h' := by
  obtain ⟨h1, h2, h3⟩ := ho
  rcases h3 with ⟨rfl, rfl, rfl⟩ | ⟨b, t, pre, rest, rfl, h5, h6, h7⟩
  · omega
  · refine ⟨_, rfl, fun x hx1 hx2 hx3 => ?_⟩
    obtain ⟨h', s1, b1, o1⟩ := h6.st (a := x) (v := v) hx1 hx2 (by rw [hx3]; simp; omega) hf
    refine ⟨h', s1, ⟨by simpa using h1, h2, .inr ⟨b, t, pre, rest, rfl, h5, ?_, h7⟩⟩, ⟨by rw [o1.1]; exact Nat.le_refl _, fun i hi hne => o1.2 i fun hh => hne _ rfl hh.symm⟩⟩
    rw [hx3] at b1
    rw [List.append_assoc, List.set_append_right _ _ (by simp), List.set_append_left _ _ (by simp; omega)] at b1
    simpa using b1
theorem Own.spot {lo sz : Nat} {h : Heap} {A : Option Addr} {n c : Nat} {cs : List Value} (ho : Own lo sz h A n c cs) : ∀ a, A = some a → a.spot = none := by
  obtain ⟨h1, h2, h3⟩ := ho
  rcases h3 with ⟨rfl, rfl, rfl⟩ | ⟨b, t, pre, rest, rfl, h5, h6, h7⟩
  · intro a h; cases h
  · intro a h; cases h; rfl
theorem mul_add_lt {i n k sz : Nat} (hi : i < n) (hk : k < sz) : i * sz + k < n * sz := by
  have : (i + 1) * sz ≤ n * sz := Nat.mul_le_mul_right _ hi
  rw [Nat.succ_mul] at this; omega
/-- Element i is written, at its first cell. -/
theorem Own.store0 {lo sz : Nat} {h : Heap} {A : Option Addr} {n n1 c : Nat} {cs : List Value} (ho : Own lo sz h A n c cs) {i : Nat} {x : Int} {v : Value} {K : Heap → Prop} (hx : x = i) (hn : n1 = n) (hi : i < n) (hz : 0 < sz) (hf : Flat v)
    (hk : ∀ h', Own lo sz h' A n c (cs.set (i * sz) v) → ButA A h h' → K h') : ptrOk A fun a => 0 ≤ x ∧ x < ((n1 : Nat) : Int) ∧ ∃ h', st1 h (a.add (Int.toNat x * sz)) v = some h' ∧ K h' := by
  obtain ⟨a, rfl, H⟩ := ho.st (j := i * sz) (v := v) (by rw [ho.1]; exact mul_add_lt hi hz) hf
  subst hx
  obtain ⟨h', h1, h2, h3⟩ := H (a.add (i * sz)) (add_block _ _) (add_spot _ (ho.spot a rfl)) (add_off _ _)
  exact ⟨by omega, by omega, h', h1, hk h' h2 h3⟩
/-- Element i is written, at its cell k. -/
theorem Own.storeK {lo sz : Nat} {h : Heap} {A : Option Addr} {n n1 c : Nat} {cs : List Value} (ho : Own lo sz h A n c cs) {i k : Nat} {x : Int} {v : Value} {K : Heap → Prop} (hx : x = i) (hn : n1 = n) (hi : i < n) (hz : k < sz) (hf : Flat v)
    (hk : ∀ h', Own lo sz h' A n c (cs.set (i * sz + k) v) → ButA A h h' → K h') : ptrOk A fun a => 0 ≤ x ∧ x < ((n1 : Nat) : Int) ∧ ∃ h', st1 h ((a.add (Int.toNat x * sz)).add k) v = some h' ∧ K h' := by
  obtain ⟨a, rfl, H⟩ := ho.st (j := i * sz + k) (v := v) (by rw [ho.1]; exact mul_add_lt hi hz) hf
  subst hx
  obtain ⟨h', h1, h2, h3⟩ := H ((a.add (i * sz)).add k) (by rw [add_block, add_block]) (add_spot _ (add_spot _ (ho.spot a rfl))) (by rw [add_off, add_off, Nat.add_assoc])
  exact ⟨by omega, by omega, h', h1, hk h' h2 h3⟩
theorem Own.src {lo sz : Nat} {h : Heap} {A : Option Addr} {n c : Nat} {cs : List Value} (ho : Own lo sz h A n c cs) : srcCells sz (.slice A n c) h = some (n, cs) := by
  have := ho.cells
  cases A with
  | none => simp only [oldCells, Option.some.injEq] at this; subst this; rfl
  | some a => simp only [oldCells] at this; simp only [srcCells, this, Option.map_some]

/-- append to a row that owns its block. -/
theorem Own.app2 {lo sz : Nat} {h : Heap} {A : Option Addr} {n c : Nat} {cs : List Value} {e : TypeId} {bytes : Nat} {z : Array Value} {x : Value} {K : Value → Heap → Prop} {m : Nat} {xs : List Value}
    (ho : Own lo sz h A n c cs) (hlo : lo ≤ h.size) (hz : z.size = sz) (hs : srcCells sz x h = some (m, xs)) (hx : xs.length = m * sz) (hf : ∀ v ∈ xs, Flat v) (hb : (n + m) * bytes ≤ 140737488355328) (hb0 : 0 < bytes)
    (hk : ∀ A' c' h', Own lo sz h' A' (n + m) c' (cs ++ xs) → AppR A A' h h' → K (.slice A' (n + m) c') h') : AppW e sz bytes z A n c x h K := by
  refine ⟨m, xs, hs, ?_⟩
  by_cases hle : n + m ≤ c
  · refine .inl ⟨hle, ?_⟩
    obtain ⟨h1, h2, h3⟩ := ho
    rcases h3 with ⟨rfl, rfl, rfl⟩ | ⟨b, t, pre, rest, rfl, h5, h6, h7⟩
    · refine .inl ⟨rfl, hk _ _ _ ⟨?_, hle, .inl ⟨rfl, by omega, rfl⟩⟩ ⟨.refl _ _, fun a ha => by cases ha⟩⟩
      rw [List.length_append, h1, hx, Nat.add_mul]
    · have hmul : (c - n) * sz = m * sz + (c - n - m) * sz := by rw [← Nat.add_mul]; congr 1; omega
      have hr : rest = rest.take (m * sz) ++ rest.drop (m * sz) := (List.take_append_drop _ _).symm
      rw [hr, ← List.append_assoc] at h6
      obtain ⟨h', s1, b1, o1⟩ := Blk.stH xs (a := (⟨b, pre.length, none⟩ : Addr).add (n * sz)) (i := 0) h6 (by rw [add_block]) (add_spot _ rfl) (by rw [add_off, List.length_append, h1, Nat.add_zero]) (by rw [List.length_take, hx]; omega) hf
      refine .inr ⟨_, h', rfl, s1, hk _ _ _ ⟨?_, hle, .inr ⟨b, t, pre, rest.drop (m * sz), rfl, h5, by rw [← List.append_assoc pre]; exact b1, ?_⟩⟩ ⟨⟨by rw [o1.1]; exact Nat.le_refl _, fun i hi hne => o1.2 i fun hh => hne _ rfl hh.symm⟩, fun a ha => .inl ⟨_, ha, rfl⟩⟩⟩
      · rw [List.length_append, h1, hx, Nat.add_mul]
      · rw [List.length_drop, show c - (n + m) = c - n - m by omega]; omega
  · refine .inr ⟨by omega, hb, hb0, cs, ho.cells, fun c' hc' => hk _ _ _ ⟨?_, hc', .inr ⟨h.size, e, [], (zcells z (c' - (n + m))).toList, rfl, hlo, ?_, ?_⟩⟩ ⟨.of (Ext.push _ _), fun a ha => by cases ha; exact .inr (Nat.le_refl _)⟩⟩
    · rw [List.length_append, ho.1, hx, Nat.add_mul]
    · have := Blk.new h (cs.toArray ++ xs.toArray ++ zcells z (c' - (n + m))) e
      simpa using this
    · rw [Array.length_toList, zcells_size, hz]; exact Nat.le_refl _

theorem Own.app {lo sz : Nat} {h : Heap} {A : Option Addr} {n c : Nat} {cs : List Value} {e : TypeId} {bytes : Nat} {z : Array Value} {x : Value} {K : Value → Heap → Prop} {m : Nat} {xs : List Value}
    (ho : Own lo sz h A n c cs) (hlo : lo ≤ h.size) (hz : z.size = sz) (hs : srcCells sz x h = some (m, xs)) (hx : xs.length = m * sz) (hf : ∀ v ∈ xs, Flat v) (hb : (n + m) * bytes ≤ 140737488355328) (hb0 : 0 < bytes)
    (hk : ∀ A' c' h', Own lo sz h' A' (n + m) c' (cs ++ xs) → ButA A h h' → K (.slice A' (n + m) c') h') : AppW e sz bytes z A n c x h K :=
  ho.app2 hlo hz hs hx hf hb hb0 fun A' c' h' o r => hk A' c' h' o r.1

/-- append of elements that lie in a block of their own, made just before. -/
theorem Own.app_new2 {lo sz : Nat} {h : Heap} {A : Option Addr} {n c : Nat} {cs : List Value} {e t : TypeId} {bytes : Nat} {z xs : Array Value} {K : Value → Heap → Prop} {m : Nat}
    (ho : Own lo sz h A n c cs) (hlo : lo ≤ h.size) (hz : z.size = sz) (hx : xs.size = m * sz) (hf : ∀ v ∈ xs.toList, Flat v) (hb : (n + m) * bytes ≤ 140737488355328) (hb0 : 0 < bytes)
    (hk : ∀ A' c' h', Own lo sz h' A' (n + m) c' (cs ++ xs.toList) → AppR A A' h h' → K (.slice A' (n + m) c') h') :
    newH h (.cells xs t) fun h1 => AppW e sz bytes z A n c (.slice (some ⟨h.size, 0, none⟩) m m) h1 K := by
  refine newH_in fun h1 b1 e1 hs1 => ?_
  refine (ho.ext e1).app2 (m := m) (xs := xs.toList) (by omega) hz ?_ (by simpa using hx) hf hb hb0 fun A' c' h' o' b' => hk A' c' h' o' ⟨⟨Nat.le_trans e1.1 b'.1.1, fun i hi hne => by rw [b'.1.2 i (by have := e1.1; omega) hne]; exact e1.2 i hi⟩, fun a ha => (b'.2 a ha).imp id (fun h2 => by have := e1.1; omega)⟩
  have := b1.cells (a := ⟨h.size, 0, none⟩) rfl rfl (m * sz) 0 (by simp [hx])
  simp only [srcCells, this]
  simp [← hx, List.take_of_length_le]
theorem Own.app_new {lo sz : Nat} {h : Heap} {A : Option Addr} {n c : Nat} {cs : List Value} {e t : TypeId} {bytes : Nat} {z xs : Array Value} {K : Value → Heap → Prop} {m : Nat}
    (ho : Own lo sz h A n c cs) (hlo : lo ≤ h.size) (hz : z.size = sz) (hx : xs.size = m * sz) (hf : ∀ v ∈ xs.toList, Flat v) (hb : (n + m) * bytes ≤ 140737488355328) (hb0 : 0 < bytes)
    (hk : ∀ A' c' h', Own lo sz h' A' (n + m) c' (cs ++ xs.toList) → ButA A h h' → K (.slice A' (n + m) c') h') :
    newH h (.cells xs t) fun h1 => AppW e sz bytes z A n c (.slice (some ⟨h.size, 0, none⟩) m m) h1 K :=
  ho.app_new2 hlo hz hx hf hb hb0 fun A' c' h' o r => hk A' c' h' o r.1
end Go.Hw
