/- Small words for proofs over forward texts: tests, numbers, memory. -/
import Derived.Test.YtklobcelbpjjcacHwM
namespace Go.Hw
open Go

section tests
variable {A B : Prop}
theorem split_dec {p : Prop} [Decidable p] (hA : p → A) (hB : ¬ p → B) : splitB (decide p) A B := by
  by_cases h : p
  · rw [decide_eq_true h]; exact hA h
  · rw [decide_eq_false h]; exact hB h
theorem split_eq {x y : Int} (hA : x = y → A) (hB : x ≠ y → B) : splitB (x == y) A B := by
  by_cases h : x = y
  · rw [show (x == y) = true from beq_iff_eq.2 h]; exact hA h
  · rw [show (x == y) = false from beq_eq_false_iff_ne.2 h]; exact hB h
theorem split_ne {x y : Int} (hA : x ≠ y → A) (hB : x = y → B) : splitB (x != y) A B := by
  by_cases h : x = y
  · rw [show (x != y) = false from bne_eq_false_iff_eq.2 h]; exact hB h
  · rw [show (x != y) = true from bne_iff_ne.2 h]; exact hA h
theorem split_any {b : Bool} (hA : b = true → A) (hB : b = false → B) : splitB b A B := by cases b; exact hB rfl; exact hA rfl
theorem split_not {b : Bool} (h : splitB b B A) : splitB (!b) A B := by cases b <;> exact h
theorem split_t (h : A) : splitB true A B := h
theorem split_f (h : B) : splitB false A B := h
end tests

theorem wrap_in {n : Int} (h0 : -9223372036854775808 ≤ n) (h1 : n ≤ 9223372036854775807) : IntKind.wrap .i64 n = n := by
  rcases Int.le_total 0 n with h | h
  · exact wrap_nat h h1
  · rcases (show n = 0 ∨ n < 0 by omega) with h2 | h2
    · subst h2; rfl
    have e : n % (2 ^ 64 : Int) = n + 2 ^ 64 := by omega
    simp only [IntKind.wrap, IntKind.signed, IntKind.bits, e, Bool.true_and]
    rw [if_pos (by simp only [decide_eq_true_eq]; omega)]
    omega
theorem wrap_range (n : Int) : -9223372036854775808 ≤ IntKind.wrap .i64 n ∧ IntKind.wrap .i64 n ≤ 9223372036854775807 := by
  have h1 := Int.emod_nonneg n (show (18446744073709551616 : Int) ≠ 0 by omega)
  have h2 := Int.emod_lt_of_pos n (show (0 : Int) < 18446744073709551616 by omega)
  show -9223372036854775808 ≤ (if (true && decide (n % 18446744073709551616 ≥ 9223372036854775808)) = true then n % 18446744073709551616 - 18446744073709551616 else n % 18446744073709551616) ∧
    (if (true && decide (n % 18446744073709551616 ≥ 9223372036854775808)) = true then n % 18446744073709551616 - 18446744073709551616 else n % 18446744073709551616) ≤ 9223372036854775807
  by_cases h : n % 18446744073709551616 ≥ 9223372036854775808
  · rw [if_pos (by simp [h])]; omega
  · rw [if_neg (by simp [h])]; omega

/-! ### Addresses, cells -/
theorem add_add (a : Addr) (m n : Nat) : (a.add m).add n = a.add (m + n) := by
  unfold Addr.add
  by_cases h1 : m = 0
  · subst h1; simp
  · by_cases h2 : n = 0
    · subst h2; simp
    · have h3 : m + n ≠ 0 := by omega
      simp only [if_neg h1, if_neg h2, if_neg h3]
      simp [Nat.add_assoc]
theorem add_block (a : Addr) (n : Nat) : (a.add n).block = a.block := by unfold Addr.add; split <;> rfl
theorem add_off (a : Addr) (n : Nat) : (a.add n).off = a.off + n := by
  unfold Addr.add
  split
  · rename_i h; subst h; rfl
  · rfl
theorem add_spot {a : Addr} (n : Nat) (h : a.spot = none) : (a.add n).spot = none := by unfold Addr.add; split; exact h; rfl

theorem cells_one {h : Heap} {a : Addr} {v : Value} (hc : cellH h a = some v) : cellsH h a 0 1 = some [v] := by
  simp only [cellsH]
  have : a.add 0 = a := rfl
  rw [this, hc]
theorem one_cells {h : Heap} {a : Addr} {v : Value} (hc : cellsH h a 0 1 = some [v]) : cellH h a = some v := by
  simp only [cellsH] at hc
  have : a.add 0 = a := rfl
  rw [this] at hc
  split at hc
  · rename_i u hu; cases hc; exact hu
  · cases hc

/-! ### Blocks known whole -/
def Blk (h : Heap) (b : Nat) (c : List Value) (t : TypeId) : Prop := h[b]? = some (.cells c.toArray t (0, 0))
/-- Only block b may have turned. -/
def Only (h h' : Heap) (b : Nat) : Prop := h'.size = h.size ∧ ∀ i, i ≠ b → h'[i]? = h[i]?

section
variable {h h' : Heap} {b : Nat} {c : List Value} {t : TypeId}
theorem Blk.lt (hb : Blk h b c t) : b < h.size := (Array.getElem?_eq_some_iff.1 hb).1
theorem Blk.cell (hb : Blk h b c t) {a : Addr} {v : Value} (h1 : a.block = b) (h2 : a.spot = none) (h3 : c[a.off]? = some v) : cellH h a = some v := by
  unfold cellH Blk at *
  rw [h1, hb, h2]
  simpa using h3
theorem Blk.ld (hb : Blk h b c t) {a : Addr} {v : Value} {n : Nat} (h1 : a.block = b) (h2 : a.spot = none) (h3 : c[a.off]? = some v) : ldv false n h a = some v := hb.cell h1 h2 h3
theorem Blk.cells (hb : Blk h b c t) {a : Addr} (h1 : a.block = b) (h2 : a.spot = none) : ∀ (n i : Nat), a.off + i + n ≤ c.length → cellsH h a i n = some ((c.drop (a.off + i)).take n) := by
  intro n
  induction n with
  | zero => intro i _; simp [cellsH]
  | succ n ih =>
    intro i hle
    have hlt : a.off + i < c.length := by omega
    have h3 : c[(a.add i).off]? = some c[a.off + i] := by rw [add_off]; exact List.getElem?_eq_getElem hlt
    simp only [cellsH, hb.cell (a := a.add i) (by rw [add_block]; exact h1) (add_spot i h2) h3, ih (i + 1) (by omega)]
    rw [List.drop_eq_getElem_cons hlt, List.take_succ_cons]
    rfl
theorem Blk.st (hb : Blk h b c t) {a : Addr} {v : Value} (h1 : a.block = b) (h2 : a.spot = none) (h3 : a.off < c.length) (h4 : oneCell v True) :
    ∃ h', st1 h a v = some h' ∧ Blk h' b (c.set a.off v) t ∧ Only h h' b := by
  have hc : cellH h a = some c[a.off] := hb.cell h1 h2 (List.getElem?_eq_getElem h3)
  have hf : frozenH h a = false := by
    unfold frozenH
    rw [h1, show h[b]? = some (.cells c.toArray t (0, 0)) from hb]
    simp
  refine ⟨setH h a v, ?_, ?_, ?_⟩
  · cases v <;> simp_all [st1, oneCell]
  · unfold Blk setH
    rw [Array.getElem?_modify, if_pos h1.symm.symm, show h[b]? = some (.cells c.toArray t (0, 0)) from hb]
    simp [h2]
  · refine ⟨by simp [setH], fun i hi => ?_⟩
    unfold setH
    rw [Array.getElem?_modify, if_neg (by rw [h1]; exact fun e => hi e.symm)]
theorem Blk.new (h : Heap) (c : Array Value) (t : TypeId) : Blk (h.push (.cells c t)) h.size c.toList t := by
  unfold Blk; simp
theorem Blk.ext (hb : Blk h b c t) (e : Ext h h') : Blk h' b c t := by unfold Blk at *; rw [e.2 b (Blk.lt hb)]; exact hb
theorem Blk.only (hb : Blk h b c t) {b' : Nat} (e : Only h h' b') (hne : b ≠ b') : Blk h' b c t := by unfold Blk at *; rw [e.2 b hne]; exact hb
theorem Ext.push (h : Heap) (o : Obj) : Ext h (h.push o) := ⟨by simp, fun i hi => by rw [Array.getElem?_push, if_neg (by omega)]⟩
theorem Ext.only {h0 : Heap} (e : Ext h0 h) {b : Nat} (o : Only h h' b) (hb : h0.size ≤ b) : Ext h0 h' :=
  ⟨by rw [o.1]; exact e.1, fun i hi => by rw [o.2 i (by omega)]; exact e.2 i hi⟩
theorem Only.refl (h : Heap) (b : Nat) : Only h h b := ⟨rfl, fun _ _ => rfl⟩
theorem Only.trans {h'' : Heap} {b : Nat} (o : Only h h' b) (p : Only h' h'' b) : Only h h'' b := ⟨p.1.trans o.1, fun i hi => (p.2 i hi).trans (o.2 i hi)⟩
end

/-! ### Rows: what a slice reads as. 'E': how an element's cells tell it -/
def Rd {α : Type} (sz : Nat) (E : Heap → α → List Value → Prop) (h : Heap) (A : Option Addr) (l : List α) : Prop :=
  ∀ i (hi : i < l.length), ∃ a cs, A = some a ∧ cellsH h (a.add (i * sz)) 0 sz = some cs ∧ E h l[i] cs

/-- How elements that lie flat are told. -/
def eInt (k : IntKind) (_ : Heap) (x : Int) (cs : List Value) : Prop := cs = [.int k x]
def eStr (_ : Heap) (x : ByteArray) (cs : List Value) : Prop := cs = [.string x]
/-- An element that is itself a slice. -/
def eRow {α : Type} (sz : Nat) (E : Heap → α → List Value → Prop) (h : Heap) (l : List α) (cs : List Value) : Prop := ∃ A c, cs = [.slice A l.length c] ∧ l.length ≤ c ∧ Rd sz E h A l

section
variable {α : Type} {sz : Nat} {E : Heap → α → List Value → Prop} {h h' : Heap} {A : Option Addr} {l : List α}
def Mono (E : Heap → α → List Value → Prop) : Prop := ∀ h h' x cs, Ext h h' → E h x cs → E h' x cs
theorem mono_int (k : IntKind) : Mono (eInt k) := fun _ _ _ _ _ h => h
theorem mono_str : Mono eStr := fun _ _ _ _ _ h => h
theorem Rd.ext (hr : Rd sz E h A l) (hE : Mono E) (e : Ext h h') : Rd sz E h' A l := fun i hi =>
  let ⟨a, cs, h1, h2, h3⟩ := hr i hi
  ⟨a, cs, h1, e.cells _ _ h2, hE _ _ _ _ e h3⟩
theorem mono_row (hE : Mono E) : Mono (eRow sz E) := fun _ _ _ _ e ⟨A, c, h1, h2, h3⟩ => ⟨A, c, h1, h2, h3.ext hE e⟩
theorem Rd.nil : Rd sz E h A ([] : List α) := fun i hi => by cases hi
theorem Rd.drop (hr : Rd sz E h A l) {b c : Nat} (hb : b ≤ l.length) (hc : l.length ≤ c) : Rd sz E h (sliceA A b c sz) (l.drop b) := by
  intro i hi
  rw [List.length_drop] at hi
  obtain ⟨a, cs, h1, h2, h3⟩ := hr (b + i) (by omega)
  refine ⟨a.add (b * sz), cs, ?_, ?_, ?_⟩
  · unfold sliceA; rw [if_neg (by omega), h1]; rfl
  · rw [add_add, ← Nat.add_mul]; exact h2
  · simpa using h3
theorem Rd.take (hr : Rd sz E h A l) (b : Nat) : Rd sz E h A (l.take b) := by
  intro i hi
  rw [List.length_take] at hi
  obtain ⟨a, cs, h1, h2, h3⟩ := hr i (by omega)
  exact ⟨a, cs, h1, h2, by simpa using h3⟩

/-- Reading element i: the whole of what the text asks. -/
theorem Rd.at (hr : Rd sz E h A l) {i : Nat} {x : Int} {n : Nat} {K : Addr → Prop} (hx : x = i) (hn : n = l.length) (hi : i < l.length) (hk : ∀ a cs, cellsH h (a.add (Int.toNat x * sz)) 0 sz = some cs → E h l[i] cs → K a) :
    ptrOk A fun a => 0 ≤ x ∧ x < ((n : Nat) : Int) ∧ K a := by
  obtain ⟨a, cs, h1, h2, h3⟩ := hr i hi
  subst h1
  refine ⟨by omega, by omega, hk a cs ?_ h3⟩
  rw [hx]; exact h2

theorem Rd.int {k : IntKind} {l : List Int} (hr : Rd 1 (eInt k) h A l) {i : Nat} {x : Int} {n : Nat} {K : Int → Prop} (hx : x = i) (hn : n = l.length) (hi : i < l.length) (hk : K l[i]) :
    ptrOk A fun a => 0 ≤ x ∧ x < ((n : Nat) : Int) ∧ (∃ v, ldv false 1 h (a.add (Int.toNat x * 1)) = some v ∧ ∃ y, v = .int k y ∧ K y) :=
  hr.at hx hn hi fun a cs h1 h2 => ⟨_, one_cells (h1.trans (by rw [h2])), _, rfl, hk⟩
theorem Rd.str {l : List ByteArray} (hr : Rd 1 eStr h A l) {i : Nat} {x : Int} {n : Nat} {K : ByteArray → Prop} (hx : x = i) (hn : n = l.length) (hi : i < l.length) (hk : K l[i]) :
    ptrOk A fun a => 0 ≤ x ∧ x < ((n : Nat) : Int) ∧ (∃ v, ldv false 1 h (a.add (Int.toNat x * 1)) = some v ∧ ∃ y, v = .string y ∧ K y) :=
  hr.at hx hn hi fun a cs h1 h2 => ⟨_, one_cells (h1.trans (by rw [h2])), _, rfl, hk⟩
theorem Rd.row {l : List (List α)} (hr : Rd 1 (eRow sz E) h A l) {i : Nat} {x : Int} {n : Nat} {K : Option Addr → Nat → Nat → Prop} (hx : x = i) (hn : n = l.length) (hi : i < l.length)
    (hk : ∀ A c, l[i].length ≤ c → Rd sz E h A l[i] → K A l[i].length c) :
    ptrOk A fun a => 0 ≤ x ∧ x < ((n : Nat) : Int) ∧ (∃ v, ldv false 1 h (a.add (Int.toNat x * 1)) = some v ∧ ∃ B m c, v = .slice B m c ∧ K B m c) :=
  hr.at hx hn hi fun a cs h1 ⟨B, c, h2, h3, h4⟩ => ⟨_, one_cells (h1.trans (by rw [h2])), _, _, _, rfl, hk B c h3 h4⟩
end

/-- A call that answers 'a' and leaves the heap as it was. -/
theorem Run.ret {P : Program} {f : FuncId} {args : Array Value} {h : Heap} {a : Value} {R : Value → Heap → Prop} (hs : Run P f args h fun v h' => v = a ∧ h' = h) (hk : R a h) : Run P f args h R :=
  hs.mono fun v h' ⟨e1, e2⟩ => by subst e1; subst e2; exact hk


/-- A closure that is known is called. -/
theorem CallF.of {P : Program} {f : FuncId} {first captured : Array Value} {args : List Value} {h : Heap} {R : Value → Heap → Prop} (l : List Value) (hc : calleeOk P f = true) (hl : first.toList ++ args ++ captured.toList = l) (hr : Run P f l.toArray h R) :
    CallF P (.func (.func f) first captured) args h R := by
  unfold CallF
  simp only [hc, hl]
  exact hr
theorem newH_in {h : Heap} {c : Array Value} {t : TypeId} {K : Heap → Prop} (H : ∀ h', Blk h' h.size c.toList t → Ext h h' → h'.size = h.size + 1 → K h') : newH h (.cells c t) K :=
  H _ (Blk.new _ _ _) (Ext.push _ _) (by simp)
theorem CallF.mono {P : Program} {v : Value} {args : List Value} {h : Heap} {R R' : Value → Heap → Prop} (hh : CallF P v args h R) (hr : ∀ v h, R v h → R' v h) : CallF P v args h R' := by
  unfold CallF at hh ⊢
  split at hh
  · split at hh
    · exact hh.mono hr
    · exact ExtF.mono hh hr
  · exact hh.elim


/-- A block of flat one-cell elements reads as a row. -/
theorem Blk.rd {α : Type} {E : Heap → α → List Value → Prop} {h : Heap} {b : Nat} {t : TypeId} {l : List α} {f : α → Value} {r : List Value} (hb : Blk h b (l.map f ++ r) t) (hE : ∀ x, E h x [f x]) : Rd 1 E h (some ⟨b, 0, none⟩) l := by
  intro i hi
  refine ⟨⟨b, 0, none⟩, [f l[i]], rfl, ?_, hE _⟩
  have hlt : i < (l.map f ++ r).length := by simp; omega
  have hc : cellH h ((⟨b, 0, none⟩ : Addr).add (i * 1)) = some (f l[i]) := by
    refine hb.cell (by rw [add_block]) (add_spot _ rfl) ?_
    rw [add_off]
    simp only [Nat.zero_add, Nat.mul_one]
    rw [List.getElem?_append_left (by simpa using hi), List.getElem?_map, List.getElem?_eq_getElem hi]; rfl
  exact cells_one hc
theorem Blk.ints {h : Heap} {b : Nat} {t : TypeId} {l : List Int} {k : IntKind} {r : List Value} (hb : Blk h b (l.map (Value.int k) ++ r) t) : Rd 1 (eInt k) h (some ⟨b, 0, none⟩) l := hb.rd (fun _ => rfl)
theorem Blk.ints' {h : Heap} {b : Nat} {t : TypeId} {l : List Int} {k : IntKind} (hb : Blk h b (l.map (Value.int k)) t) : Rd 1 (eInt k) h (some ⟨b, 0, none⟩) l := Blk.ints (r := []) (by rwa [List.append_nil])

theorem mkCells_one (v : Value) (n : Nat) : (mkCells #[v] (n * 1)).toList = List.replicate n v := by
  unfold mkCells
  simp only [Nat.mul_one]
  apply List.ext_getElem
  · simp
  · intro i h1 h2
    simp [Nat.mod_one]

/-- What is found first, as a number; -1 if nothing is. -/
def idxOf {α : Type} (p : α → Bool) (l : List α) : Int := match l.findIdx? p with | some i => i | none => -1
theorem idxOf_nil {α : Type} (p : α → Bool) : idxOf p [] = -1 := rfl
theorem idxOf_ge {α : Type} (p : α → Bool) (l : List α) : decide (idxOf p l ≥ 0) = l.any p := by
  unfold idxOf
  cases h : l.findIdx? p with
  | none =>
    rw [List.findIdx?_eq_none_iff] at h
    have : l.any p = false := by simpa using h
    simp [this]
  | some i =>
    have hs : (l.findIdx? p).isSome = true := by rw [h]; rfl
    rw [List.findIdx?_isSome] at hs
    simp [hs]

end Go.Hw
