/- Small words for printed walks: what a text asks, out of what a pure function says. -/
import Derived.Test.YtklobcelbpjjcacHwY
namespace Go.Hw
open Go

section tests
variable {A B : Prop} {β γ : Type} {a b : Option β} {r : β}
theorem bind_e {a : Option γ} {f : γ → Option β} (e : a.bind f = some r) : ∃ x, a = some x ∧ f x = some r := by
  cases a with
  | none => cases e
  | some x => exact ⟨x, rfl, e⟩
theorem guard_e {p : Prop} [Decidable p] (e : (if p then a else none) = some r) : p ∧ a = some r := by
  by_cases h : p
  · rw [if_pos h] at e; exact ⟨h, e⟩
  · rw [if_neg h] at e; cases e
theorem split_dec_e {p : Prop} [Decidable p] (e : (if p then a else b) = some r) (hA : p → a = some r → A) (hB : ¬ p → b = some r → B) : splitB (decide p) A B := by
  by_cases h : p
  · rw [if_pos h] at e; rw [decide_eq_true h]; exact hA h e
  · rw [if_neg h] at e; rw [decide_eq_false h]; exact hB h e
theorem split_eq_e {x y : Int} (e : (if x = y then a else b) = some r) (hA : x = y → a = some r → A) (hB : x ≠ y → b = some r → B) : splitB (x == y) A B := by
  by_cases h : x = y
  · rw [if_pos h] at e; rw [show (x == y) = true from beq_iff_eq.2 h]; exact hA h e
  · rw [if_neg h] at e; rw [show (x == y) = false from beq_eq_false_iff_ne.2 h]; exact hB h e
theorem split_ne_e {x y : Int} (e : (if x = y then b else a) = some r) (hA : x ≠ y → a = some r → A) (hB : x = y → b = some r → B) : splitB (x != y) A B := by
  by_cases h : x = y
  · rw [if_pos h] at e; rw [show (x != y) = false from bne_eq_false_iff_eq.2 h]; exact hB h e
  · rw [if_neg h] at e; rw [show (x != y) = true from bne_iff_ne.2 h]; exact hA h e
theorem split_any_e {t : Bool} (e : (if t = true then a else b) = some r) (hA : t = true → a = some r → A) (hB : t = false → b = some r → B) : splitB t A B := by
  cases t
  · exact hB rfl e
  · exact hA rfl e
theorem bb_not {b : Bool} (h : b = true → B) (k : b = false → A) : splitB (!b) A B := by cases b; exact k rfl; exact h rfl
theorem ba_list (s t : ByteArray) : (ByteArray.toList s == ByteArray.toList t) = decide (s = t) := by
  by_cases h : s = t
  · subst h; simp
  · rw [decide_eq_false h]
    exact beq_eq_false_iff_ne.2 fun e => h (ba_toList e)
end tests

/-! ### Pure words -/
section
variable {α : Type} {l : List α} {x : Int} {y : α}
def gi (l : List α) (x : Int) : Option α := if 0 ≤ x then l[x.toNat]? else none
theorem gi_nat (l : List α) (k : Nat) : gi l (k : Int) = l[k]? := by unfold gi; rw [if_pos (by omega)]; rfl
theorem gi_zero (l : List α) : gi l 0 = l[0]? := rfl
theorem gi_le (g : gi l x = some y) : 0 ≤ x := by unfold gi at g; split at g; assumption; cases g
theorem gi_get (g : gi l x = some y) : l[x.toNat]? = some y := by unfold gi at g; split at g; exact g; cases g
theorem gi_lt (g : gi l x = some y) : x < (l.length : Int) := by
  have h1 := gi_get g
  have h2 := gi_le g
  have := (List.getElem?_eq_some_iff.1 h1).1
  omega
theorem gi_ltN (g : gi l x = some y) : x.toNat < l.length := (List.getElem?_eq_some_iff.1 (gi_get g)).1
def gb (s : ByteArray) (x : Int) : Option Int := if 0 ≤ x then s[x.toNat]?.map fun b => ((UInt8.toNat b : Nat) : Int) else none
theorem gb_e {s : ByteArray} {x y : Int} (g : gb s x = some y) : 0 ≤ x ∧ ∃ b, s[x.toNat]? = some b ∧ y = ((UInt8.toNat b : Nat) : Int) := by
  unfold gb at g
  split at g
  · rename_i h
    cases hb : s[x.toNat]? with
    | none => rw [hb] at g; cases g
    | some b => rw [hb] at g; cases g; exact ⟨h, b, rfl, rfl⟩
  · cases g
def sl (l : List α) (lo hi : Int) : List α := (l.take hi.toNat).drop lo.toNat
theorem sl_len {lo hi : Int} (h1 : 0 ≤ lo) (h2 : lo ≤ hi) (h3 : hi ≤ (l.length : Int)) : Int.toNat hi - Int.toNat lo = (sl l lo hi).length := by
  unfold sl; rw [List.length_drop, List.length_take]; omega
theorem sl_lo {lo : Int} : sl l lo (l.length : Int) = l.drop lo.toNat := by unfold sl; simp
theorem sl_hi {hi : Int} : sl l 0 hi = l.take hi.toNat := by unfold sl; simp
end

section
variable {α : Type} {sz : Nat} {E : Heap → α → List Value → Prop} {m m' h h' h0 m0 : Heap} {A : Option Addr} {l : List α} {c n k : Nat} {cs : List Value} {x : Int} {y : α} {W : Nat → Prop} {a : Addr} {v : Value} {b : Nat} {t : TypeId}
/-! ### Reading -/
theorem Rd.addr {K : Addr → Prop} (r : Rd sz E m A l) (hn : n = l.length) (g : gi l x = some y) (hk : ∀ a cs, A = some a → cellsH m (a.add (Int.toNat x * sz)) 0 sz = some cs → E m y cs → K a) : ptrOk A fun a => 0 ≤ x ∧ x < ((n : Nat) : Int) ∧ K a := by
  subst hn
  have h1 := gi_get g
  obtain ⟨hi, h2⟩ := List.getElem?_eq_some_iff.1 h1
  obtain ⟨a, cs, rfl, h3, h4⟩ := r _ hi
  rw [h2] at h4
  exact ⟨gi_le g, gi_lt g, hk a cs rfl h3 h4⟩
theorem OS.cellsAt (o : OS W h0 sz E h m A l c) (g : gi l x = some y) : ∃ a cs, A = some a ∧ cellsH h (a.add (Int.toNat x * sz)) 0 sz = some cs ∧ E m y cs := by
  have h1 := gi_get g
  rcases o with ⟨rfl, rfl⟩ | ⟨b, t, pre, cs, rest, rfl, h3, h4, h5, h6, h7⟩
  · cases h1
  have h8 := h4.get h1
  refine ⟨_, _, rfl, ?_, h8.1⟩
  have := h3.cells (a := (⟨b, pre.length, none⟩ : Addr).add (x.toNat * sz)) (by rw [add_block]) (add_spot _ rfl) sz 0 (by rw [add_off, List.length_append, List.length_append]; simp only [Nat.add_zero]; omega)
  rw [this, add_off]
  simp only [Nat.add_zero]
  rw [List.append_assoc, ← List.drop_drop, List.drop_left, List.drop_append_of_le_length (by omega), List.take_append_of_le_length (by rw [List.length_drop]; omega)]
theorem OS.addr {K : Addr → Prop} (o : OS W h0 sz E h m A l c) (hn : n = l.length) (g : gi l x = some y) (hk : ∀ a cs, A = some a → cellsH h (a.add (Int.toNat x * sz)) 0 sz = some cs → E m y cs → K a) : ptrOk A fun a => 0 ≤ x ∧ x < ((n : Nat) : Int) ∧ K a := by
  subst hn
  obtain ⟨a, cs, rfl, h1, h2⟩ := o.cellsAt g
  exact ⟨gi_le g, gi_lt g, hk a cs rfl h1 h2⟩
theorem Rd.addrS {K : Prop} {a : Addr} (r : Rd sz E m (some a) l) (hn : n = l.length) (g : gi l x = some y) (hk : ∀ cs, cellsH m (a.add (Int.toNat x * sz)) 0 sz = some cs → E m y cs → K) : 0 ≤ x ∧ x < ((n : Nat) : Int) ∧ K :=
  r.addr (K := fun _ => K) hn g fun a' cs ha h1 h2 => by cases ha; exact hk cs h1 h2
theorem OS.addrS {K : Prop} {a : Addr} (o : OS W h0 sz E h m (some a) l c) (hn : n = l.length) (g : gi l x = some y) (hk : ∀ cs, cellsH h (a.add (Int.toNat x * sz)) 0 sz = some cs → E m y cs → K) : 0 ≤ x ∧ x < ((n : Nat) : Int) ∧ K :=
  o.addr (K := fun _ => K) hn g fun a' cs ha h1 h2 => by cases ha; exact hk cs h1 h2
theorem ld0 (s : Sub m h) (hc : cellsH m a 0 n = some cs) (hv : cs[0]? = some v) : ldv false 1 h a = some v := by
  have h1 : cellH h (a.add 0) = some v := cellsH_get (s.cells _ _ hc) hv
  exact h1
theorem ldk (s : Sub m h) (hc : cellsH m a 0 n = some cs) (hv : cs[k]? = some v) : ldv false 1 h (Addr.add a k) = some v := by
  have := cellsH_get (s.cells _ _ hc) hv
  simpa [ldv] using this
theorem ldA (s : Sub m h) (hc : cellsH m a 0 n = some cs) : ldv true n h a = some (.agg cs.toArray) := by
  simp only [ldv, s.cells _ _ hc, Option.map_some]
theorem cellsH_part : ∀ {n i : Nat} {cs : List Value} (k j : Nat), cellsH h a i n = some cs → k + j ≤ n → cellsH h a (i + k) j = some ((cs.drop k).take j) := by
  intro n
  induction n with
  | zero =>
    intro i cs k j hc hk
    obtain ⟨rfl, rfl⟩ : k = 0 ∧ j = 0 := by omega
    simp [cellsH]
  | succ n ih =>
    intro i cs k j hc hk
    cases k with
    | succ k =>
      simp only [cellsH] at hc
      split at hc
      · split at hc
        · rename_i vs hvs
          cases hc
          have := ih k j hvs (by omega)
          rw [show i + (k + 1) = i + 1 + k by omega, this]; simp
        · cases hc
      · cases hc
    | zero =>
      cases j with
      | zero => simp [cellsH]
      | succ j =>
        simp only [cellsH] at hc
        split at hc
        · rename_i u hu
          split at hc
          · rename_i vs hvs
            cases hc
            have := ih 0 j hvs (by omega)
            simp only [Nat.add_zero, List.drop_zero] at this
            simp only [Nat.add_zero, cellsH, hu, this, List.drop_zero, List.take_succ_cons]
          · cases hc
        · cases hc
theorem ldAk {j : Nat} (s : Sub m h) (hc : cellsH m a 0 n = some cs) (hk : k + j ≤ n) : ldv true j h (Addr.add a k) = some (.agg ((cs.drop k).take j).toArray) := by
  have := cellsH_part k j (s.cells _ _ hc) hk
  simp only [ldv, cellsH_shift]
  simp only [Nat.zero_add] at this
  simp only [Nat.add_zero, this, Option.map_some]

/-! ### Writing -/
theorem OB.st (o : OB W h0 h m b cs t) (s : Sub m h) (hk : k < cs.length) (hf : Flat v) : ∃ h', st1 h (Addr.add ⟨b, 0, none⟩ k) v = some h' ∧ OB W h0 h' m b (cs.set k v) t ∧ St (fb b) h m h' m := by
  obtain ⟨h', h1, h2, h3⟩ := o.1.st (a := Addr.add ⟨b, 0, none⟩ k) (v := v) (add_block _ _) (add_spot _ rfl) (by rw [add_off]; simpa using hk) hf
  rw [add_off, Nat.zero_add] at h2
  exact ⟨h', h1, ⟨h2, o.2⟩, .only s o.2.2 h3⟩
theorem OB.st0 (o : OB W h0 h m b cs t) (s : Sub m h) (hk : 0 < cs.length) (hf : Flat v) : ∃ h', st1 h ⟨b, 0, none⟩ v = some h' ∧ OB W h0 h' m b (cs.set 0 v) t ∧ St (fb b) h m h' m := o.st (k := 0) s hk hf
theorem OB.stA (o : OB W h0 h m b cs t) (s : Sub m h) (l : List Value) (hn : l.length = cs.length) (hf : ∀ v ∈ l, Flat v) : ∃ h', stH h ⟨b, 0, none⟩ l 0 = some h' ∧ OB W h0 h' m b l t ∧ St (fb b) h m h' m := by
  obtain ⟨h', h1, h2, h3⟩ := o.1.stAll l hn hf
  exact ⟨h', h1, ⟨h2, o.2⟩, .only s o.2.2 h3⟩
theorem OB.stP (o : OB W h0 h m b cs t) (s : Sub m h) (l : List Value) (hn : k + l.length ≤ cs.length) (hf : ∀ v ∈ l, Flat v) : ∃ h', stH h (Addr.add ⟨b, 0, none⟩ k) l 0 = some h' ∧ OB W h0 h' m b (cs.take k ++ l ++ cs.drop (k + l.length)) t ∧ St (fb b) h m h' m := by
  have hb : Blk h b (cs.take k ++ (cs.drop k).take l.length ++ cs.drop (k + l.length)) t := by
    rw [List.append_assoc, ← List.drop_drop, List.take_append_drop, List.take_append_drop]; exact o.1
  obtain ⟨h', h1, h2, h3⟩ := Blk.stH l (a := Addr.add ⟨b, 0, none⟩ k) (i := 0) hb (add_block _ _) (add_spot _ rfl) (by rw [add_off, List.length_take]; simp; omega) (by rw [List.length_take, List.length_drop]; omega) hf
  exact ⟨h', h1, ⟨h2, o.2⟩, .only s o.2.2 h3⟩
theorem new_in {z : Array Value} {K : Heap → Prop} (S : St W h0 m0 h m) (H : ∀ h', OB W h0 h' m h.size z.toList t → Ext h h' → K h') : newH h (.cells z t) K :=
  newH_in fun h' b e _ => H h' ⟨b, .inl S.size, St.notLive S.s⟩ e
/-- A new block as a row. -/
theorem OB.row (o : OB W h0 h m b cs t) (hc : CsE sz E m l cs) (hn : l.length = c) : OS W h0 sz E h m (some ⟨b, 0, none⟩) l c :=
  .inr ⟨b, t, [], cs, [], rfl, by simpa using o.1, hc, by omega, by simp [hn], o.2⟩
theorem fp_fb : ∀ i, fp (some ⟨b, 0, none⟩) c i → fb b i := fun i hi => by obtain ⟨_, a, h, rfl⟩ := hi; cases h; rfl
theorem Dj.row {F : Nat → Prop} (d : Dj F (fb b)) : Dj F (fp (some ⟨b, 0, none⟩) c) := fun i h1 h2 => d i h1 (fp_fb i h2)

theorem OS.stP (o : OS W h0 sz E h m A l c) (T : Tell sz E) (s : Sub m h) (g : gi l x = some y) (ha : A = some a) (hc : cellsH h (Addr.add a (Int.toNat x * sz)) 0 sz = some cs) {ds : List Value} {y' : α} (k : Nat) (hk : k + ds.length ≤ sz) (hy : E m y' (cs.take k ++ ds ++ cs.drop (k + ds.length))) (hf : ∀ v ∈ ds, Flat v) :
    ∃ h', stH h (Addr.add (Addr.add a (Int.toNat x * sz)) k) ds 0 = some h' ∧ OS W h0 sz E h' m A (l.set (Int.toNat x) y') c ∧ St (fp A c) h m h' m := by
  have h1 := gi_get g
  have hlt := gi_ltN g
  rcases o with ⟨rfl, rfl⟩ | ⟨b, t, pre, es, rest, rfl, h3, h4, h5, h6, h7, h8⟩
  · cases h1
  cases ha
  have h9 := h4.get h1
  have hcs : cs = (es.drop (x.toNat * sz)).take sz := by
    have := h3.cells (a := (⟨b, pre.length, none⟩ : Addr).add (x.toNat * sz)) (by rw [add_block]) (add_spot _ rfl) sz 0 (by rw [add_off, List.length_append, List.length_append]; simp only [Nat.add_zero]; omega)
    rw [hc, add_off] at this
    simp only [Nat.add_zero, Option.some.injEq] at this
    rw [this, List.append_assoc, ← List.drop_drop, List.drop_left, List.drop_append_of_le_length (by omega), List.take_append_of_le_length (by rw [List.length_drop]; omega)]
  have hlen : cs.length = sz := cellsH_length hc
  have hes : es = es.take (x.toNat * sz) ++ cs ++ es.drop (x.toNat * sz + sz) := by
    rw [hcs, List.append_assoc, ← List.drop_drop, List.take_append_drop, List.take_append_drop]
  have hcs2 : cs = cs.take k ++ (cs.drop k).take ds.length ++ cs.drop (k + ds.length) := by
    rw [List.append_assoc, ← List.drop_drop, List.take_append_drop, List.take_append_drop]
  have hb : Blk h b ((pre ++ es.take (x.toNat * sz) ++ cs.take k) ++ (cs.drop k).take ds.length ++ (cs.drop (k + ds.length) ++ (es.drop (x.toNat * sz + sz) ++ rest))) t := by
    have : (pre ++ es.take (x.toNat * sz) ++ cs.take k) ++ (cs.drop k).take ds.length ++ (cs.drop (k + ds.length) ++ (es.drop (x.toNat * sz + sz) ++ rest)) = pre ++ es ++ rest := by
      conv => rhs; rw [hes]; rw [hcs2]
      simp only [List.append_assoc]
    rw [this]; exact h3
  obtain ⟨h', s1, b1, o1⟩ := Blk.stH ds (a := Addr.add (Addr.add ⟨b, pre.length, none⟩ (x.toNat * sz)) k) (i := 0) hb (by rw [add_block, add_block]) (add_spot _ (add_spot _ rfl))
    (by rw [add_off, add_off, List.length_append, List.length_append, List.length_take, List.length_take]; simp only [Nat.add_zero]; omega) (by rw [List.length_take, List.length_drop]; omega) hf
  refine ⟨h', s1, .inr ⟨b, t, pre, es.take (x.toNat * sz) ++ (cs.take k ++ ds ++ cs.drop (k + ds.length)) ++ es.drop (x.toNat * sz + sz), rest, rfl, ?_, ?_, ?_, ?_, h7, h8⟩, ?_⟩
  · have : pre ++ (es.take (x.toNat * sz) ++ (cs.take k ++ ds ++ cs.drop (k + ds.length)) ++ es.drop (x.toNat * sz + sz)) ++ rest = (pre ++ es.take (x.toNat * sz) ++ cs.take k) ++ ds ++ (cs.drop (k + ds.length) ++ (es.drop (x.toNat * sz + sz) ++ rest)) := by simp only [List.append_assoc]
    rw [this]; exact b1
  · exact h4.set hy (T.len _ _ _ hy) hlt
  · rwa [List.length_set]
  · rwa [List.length_set]
  · refine ⟨.refl _, fun i o1' k1 k2 => ?_, by rw [o1.1]; exact Nat.le_refl _, fun i hi hw => ?_, fun i _ hl => .inl hl⟩
    · rw [o1.2 i (fun e => h8 (e ▸ ⟨o1', k1, k2⟩))]; exact s i o1' k1 k2
    · refine o1.2 i fun e => hw ⟨?_, _, rfl, e.symm⟩
      omega
theorem OS.st1k (o : OS W h0 sz E h m A l c) (T : Tell sz E) (s : Sub m h) (g : gi l x = some y) (ha : A = some a) (hc : cellsH h (Addr.add a (Int.toNat x * sz)) 0 sz = some cs) {y' : α} (k : Nat) (hk : k < sz) (hy : E m y' (cs.set k v)) (hf : Flat v) :
    ∃ h', st1 h (Addr.add (Addr.add a (Int.toNat x * sz)) k) v = some h' ∧ OS W h0 sz E h' m A (l.set (Int.toNat x) y') c ∧ St (fp A c) h m h' m := by
  have hlen : cs.length = sz := cellsH_length hc
  obtain ⟨h', h1, h2, h3⟩ := o.stP T s g ha hc (ds := [v]) (y' := y') k hk (by rw [List.append_assoc, List.singleton_append]; rw [List.set_eq_take_append_cons_drop, if_pos (by omega)] at hy; exact hy) (Flats.cons hf Flats.nil)
  refine ⟨h', ?_, h2, h3⟩
  simp only [stH] at h1
  split at h1
  · rename_i h4 h5
    cases h1; exact h5
  · cases h1
theorem OS.st10 (o : OS W h0 sz E h m A l c) (T : Tell sz E) (s : Sub m h) (g : gi l x = some y) (ha : A = some a) (hc : cellsH h (Addr.add a (Int.toNat x * sz)) 0 sz = some cs) {y' : α} (hk : 0 < sz) (hy : E m y' (cs.set 0 v)) (hf : Flat v) :
    ∃ h', st1 h (Addr.add a (Int.toNat x * sz)) v = some h' ∧ OS W h0 sz E h' m A (l.set (Int.toNat x) y') c ∧ St (fp A c) h m h' m := o.st1k T s g ha hc 0 hk hy hf
theorem OS.stA (o : OS W h0 sz E h m A l c) (T : Tell sz E) (s : Sub m h) (g : gi l x = some y) (ha : A = some a) (hc : cellsH h (Addr.add a (Int.toNat x * sz)) 0 sz = some cs) {ds : List Value} {y' : α} (hy : E m y' ds) (hf : ∀ v ∈ ds, Flat v) :
    ∃ h', stH h (Addr.add a (Int.toNat x * sz)) ds 0 = some h' ∧ OS W h0 sz E h' m A (l.set (Int.toNat x) y') c ∧ St (fp A c) h m h' m := by
  have hlen : cs.length = sz := cellsH_length hc
  have hd := T.len _ _ _ hy
  refine o.stP T s g ha hc (ds := ds) (y' := y') 0 (by omega) ?_ hf
  rw [List.take_zero, List.nil_append, List.drop_eq_nil_of_le (by omega), List.append_nil]; exact hy

/-! ### Slicing, appending, making -/
theorem cap_in {hi : Int} (h1 : hi ≤ (l.length : Int)) (h2 : l.length ≤ c) : hi ≤ ((c : Nat) : Int) := by omega
theorem Rd.sl {lo hi : Int} {mx : Nat} (r : Rd sz E m A l) (h1 : 0 ≤ lo) (h2 : lo ≤ hi) (h3 : hi ≤ (l.length : Int)) (h4 : hi.toNat ≤ mx) : Rd sz E m (sliceA A (Int.toNat lo) mx sz) (sl l lo hi) := by
  intro i hi'
  rw [← sl_len h1 h2 h3] at hi'
  obtain ⟨a, cs, e1, e2, e3⟩ := r (lo.toNat + i) (by omega)
  refine ⟨a.add (lo.toNat * sz), cs, ?_, ?_, ?_⟩
  · unfold sliceA; rw [if_neg (by omega), e1]; rfl
  · rw [add_add, ← Nat.add_mul]; exact e2
  · simpa [Hw.sl] using e3
theorem sl_cap {lo hi : Int} {mx : Nat} (h1 : 0 ≤ lo) (h2 : lo ≤ hi) (h3 : hi ≤ (l.length : Int)) (h4 : hi.toNat ≤ mx) : (sl l lo hi).length ≤ mx - Int.toNat lo := by rw [← sl_len h1 h2 h3]; omega
theorem OS.sl {lo hi : Int} {mx : Nat} (o : OS W h0 sz E h m A l c) (h1 : 0 ≤ lo) (h2 : lo ≤ hi) (h3 : hi ≤ (l.length : Int)) (h4 : hi.toNat ≤ mx) (h5 : mx ≤ c) : OS W h0 sz E h m (sliceA A (Int.toNat lo) mx sz) (sl l lo hi) (mx - Int.toNat lo) := by
  rcases o with ⟨rfl, rfl⟩ | ⟨b, t, pre, cs, rest, rfl, k1, k2, k3, k4, k5⟩
  · exact .inl ⟨by unfold Hw.sl; simp, by omega⟩
  by_cases hm : mx = lo.toNat
  · refine .inl ⟨List.length_eq_zero_iff.1 (by rw [← sl_len h1 h2 h3]; omega), by omega⟩
  have hl := k2.len
  have e1 : (cs.take (lo.toNat * sz)).length = lo.toNat * sz := by
    rw [List.length_take, hl]; have := Nat.mul_le_mul_right sz (show lo.toNat ≤ l.length by omega); omega
  have e2 : hi.toNat * sz ≤ l.length * sz := Nat.mul_le_mul_right _ (by omega)
  have e3 : lo.toNat * sz ≤ hi.toNat * sz := Nat.mul_le_mul_right _ (by omega)
  refine .inr ⟨b, t, pre ++ cs.take (lo.toNat * sz), (cs.take (hi.toNat * sz)).drop (lo.toNat * sz), cs.drop (hi.toNat * sz) ++ rest, ?_, ?_, ?_, sl_cap h1 h2 h3 h4, ?_, k5⟩
  · unfold sliceA
    rw [if_neg hm, Option.map_some, List.length_append, e1]
    unfold Addr.add
    split
    · rename_i h9; rw [h9]; rfl
    · rfl
  · have : pre ++ cs.take (lo.toNat * sz) ++ (cs.take (hi.toNat * sz)).drop (lo.toNat * sz) ++ (cs.drop (hi.toNat * sz) ++ rest) = pre ++ cs ++ rest := by
      have e4 : cs.take (lo.toNat * sz) = (cs.take (hi.toNat * sz)).take (lo.toNat * sz) := by rw [List.take_take, Nat.min_eq_left e3]
      rw [e4, List.append_assoc pre, List.take_append_drop, ← List.append_assoc, List.append_assoc pre, List.take_append_drop]
    rw [this]; exact k1
  · exact (k2.take hi.toNat).drop lo.toNat
  · rw [List.length_append, List.length_drop, hl, ← sl_len h1 h2 h3]
    have e5 : (mx - lo.toNat - (hi.toNat - lo.toNat)) * sz + hi.toNat * sz ≤ c * sz := by rw [← Nat.add_mul]; exact Nat.mul_le_mul_right _ (by omega)
    have e6 : (c - l.length) * sz + l.length * sz = c * sz := by rw [← Nat.add_mul, Nat.sub_add_cancel k3]
    omega
theorem fp_sl {k mx sz : Nat} : ∀ i, fp (sliceA A k mx sz) (mx - k) i → mx ≤ c → fp A c i := by
  rintro i ⟨h1, a, h2, rfl⟩ h3
  obtain ⟨a', h4, h5⟩ := sliceA_block h2
  exact ⟨by omega, a', h4, h5⟩
theorem Dj.sl {F : Nat → Prop} {k mx sz : Nat} (d : Dj F (fp A c)) (h : mx ≤ c) : Dj F (fp (sliceA A k mx sz) (mx - k)) := fun i h1 h2 => d i h1 (fp_sl i h2 h)

theorem zc_len {z : Array Value} {n : Nat} : (zcells z n).toList.length = n * z.size := by rw [Array.length_toList, zcells_size]
/-- What is appended: told by its elements. -/
def Src (sz : Nat) (E : Heap → α → List Value → Prop) (h m : Heap) (x : Value) (xs : List α) : Prop := ∃ es, srcCells sz x h = some (xs.length, es) ∧ CsE sz E m xs es
theorem Rd.srcE (r : Rd sz E m A l) (T : Tell sz E) (s : Sub m h) (hn : n = l.length) : Src sz E h m (.slice A n c) l := by
  subst hn
  cases A with
  | none =>
    have : l = [] := by
      cases l with
      | nil => rfl
      | cons x l => obtain ⟨a, _, h1, _⟩ := r 0 (by simp); cases h1
    subst this
    exact ⟨[], rfl, rfl⟩
  | some a =>
    obtain ⟨es, h1, h2⟩ := Rd.cse T r
    exact ⟨es, by simp only [srcCells, s.cells _ _ h1, Option.map_some], h2⟩
theorem OS.srcE {c' : Nat} (o : OS W h0 sz E h m A l c) (hn : n = l.length) : Src sz E h m (.slice A n c') l := by
  subst hn
  rcases o with ⟨rfl, rfl⟩ | ⟨b, t, pre, cs, rest, rfl, k1, k2, k3, k4, k5⟩
  · refine ⟨[], ?_, rfl⟩
    cases A with
    | none => rfl
    | some a => simp [srcCells, cellsH]
  · refine ⟨cs, ?_, k2⟩
    have hl := k2.len
    have := k1.cells (a := ⟨b, pre.length, none⟩) rfl rfl (l.length * sz) 0 (by simp [hl])
    simp only [srcCells, this, Nat.add_zero]
    rw [List.append_assoc, List.drop_left, List.take_append_of_le_length (by omega), List.take_of_length_le (by omega)]; rfl
def eByte : Heap → Int → List Value → Prop := eInt .u8
theorem str_src {h m : Heap} (s : ByteArray) : Src 1 (eInt .u8) h m (.string s) (s.data.toList.map fun b => ((UInt8.toNat b : Nat) : Int)) := by
  refine ⟨s.data.toList.map fun b => .int .u8 b.toNat, ?_, ?_⟩
  · simp [srcCells]
  · generalize s.data.toList = l
    induction l with
    | nil => rfl
    | cons b l ih => exact ⟨[_], _, rfl, rfl, rfl, ih⟩
def ap (B : Nat) (l xs : List α) : Option (List α) := if (l.length + xs.length) * B ≤ 140737488355328 then some (l ++ xs) else none
theorem ap_e {B : Nat} {l xs l' : List α} (g : ap B l xs = some l') : (l.length + xs.length) * B ≤ 140737488355328 ∧ l ++ xs = l' := by
  unfold ap at g
  obtain ⟨h, k⟩ := guard_e g
  exact ⟨h, Option.some.inj k⟩
theorem OS.app {e : TypeId} {bytes : Nat} {z : Array Value} {X : Value} {xs l' : List α} {K : Value → Heap → Prop} (o : OS W h0 sz E h m A l c) (T : Tell sz E) (S : St W h0 m0 h m) (hn : n = l.length) (hz : z.size = sz) (hs : Src sz E h m X xs) (hb0 : 0 < bytes) (g : ap bytes l xs = some l')
    (hk : ∀ A' c' h', OS W h0 sz E h' m A' l' c' → St (fp A c) h m h' m → (∀ b, fp A' c' b → fp A c b ∨ h.size ≤ b) → K (.slice A' l'.length c') h') : AppW e sz bytes z A n c X h K := by
  subst hn
  obtain ⟨hb, rfl⟩ := ap_e g
  obtain ⟨es, h1, h2⟩ := hs
  have he := h2.len
  refine ⟨xs.length, es, h1, ?_⟩
  have hpush : ∀ (old : List Value) (hold : oldCells sz A l.length h = some old) (hE : CsE sz E m l old), c < l.length + xs.length →
      ∃ old, oldCells sz A l.length h = some old ∧ ∀ c', l.length + xs.length ≤ c' → K (.slice (some ⟨h.size, 0, none⟩) (l.length + xs.length) c') (h.push (.cells (old.toArray ++ es.toArray ++ zcells z (c' - (l.length + xs.length))) e)) := by
    intro old hold hE hlt
    refine ⟨old, hold, fun c' hc' => ?_⟩
    rw [show (Value.slice (some ⟨h.size, 0, none⟩) (l.length + xs.length) c') = .slice (some ⟨h.size, 0, none⟩) (l ++ xs).length c' by rw [List.length_append]]
    refine hk _ _ _ (.inr ⟨h.size, e, [], old ++ es, (zcells z (c' - (l.length + xs.length))).toList, rfl, ?_, hE.append h2, by rw [List.length_append]; exact hc', ?_, .inl S.size, St.notLive S.s⟩) ?_ ?_
    · have := Blk.new h (old.toArray ++ es.toArray ++ zcells z (c' - (l.length + xs.length))) e
      simpa using this
    · rw [zc_len, hz, List.length_append]; exact Nat.le_refl _
    · have e1 := Ext.push h (Obj.cells (old.toArray ++ es.toArray ++ zcells z (c' - (l.length + xs.length))) e)
      exact St.of_ext S.s e1
    · rintro b ⟨_, a, ha, rfl⟩; cases ha; exact .inr (Nat.le_refl _)
  rcases o with ⟨rfl, rfl⟩ | ⟨b, t, pre, cs, rest, rfl, k1, k2, k3, k4, k5, k6⟩
  · by_cases hx : xs.length = 0
    · have hxs : xs = [] := List.length_eq_zero_iff.1 hx
      subst hxs
      have : es = [] := h2
      subst this
      refine .inl ⟨by simp, ?_⟩
      have fin := hk A 0 h (.inl ⟨rfl, rfl⟩) (St.refl S.s) (fun b hb => .inl hb)
      cases A with
      | none => exact .inl ⟨rfl, fin⟩
      | some a => exact .inr ⟨a, h, rfl, by simp [stH], fin⟩
    · refine .inr ⟨by simp; omega, by simpa using hb, hb0, ?_⟩
      refine hpush [] ?_ rfl (by simp; omega)
      cases A with
      | none => rfl
      | some a => simp [oldCells, cellsH]
  · have hl := k2.len
    by_cases hle : l.length + xs.length ≤ c
    · refine .inl ⟨hle, .inr ?_⟩
      have hmul : (c - l.length) * sz = xs.length * sz + (c - l.length - xs.length) * sz := by rw [← Nat.add_mul]; congr 1; omega
      have k1' : Blk h b ((pre ++ cs) ++ rest.take (xs.length * sz) ++ rest.drop (xs.length * sz)) t := by rw [List.append_assoc, List.take_append_drop]; exact k1
      obtain ⟨h', s1, b1, o1⟩ := Blk.stH es (a := (⟨b, pre.length, none⟩ : Addr).add (l.length * sz)) (i := 0) k1' (by rw [add_block]) (add_spot _ rfl) (by rw [add_off, List.length_append, hl, Nat.add_zero]) (by rw [List.length_take, he]; omega) (h2.flat T)
      refine ⟨_, h', rfl, s1, ?_⟩
      rw [show (Value.slice (some ⟨b, pre.length, none⟩) (l.length + xs.length) c) = .slice (some ⟨b, pre.length, none⟩) (l ++ xs).length c by rw [List.length_append]]
      refine hk _ _ _ (.inr ⟨b, t, pre, cs ++ es, rest.drop (xs.length * sz), rfl, by rw [← List.append_assoc pre]; exact b1, k2.append h2, by rw [List.length_append]; exact hle, ?_, k5, k6⟩) ?_ (fun b hb => .inl hb)
      · rw [List.length_drop, List.length_append, show c - (l.length + xs.length) = c - l.length - xs.length by omega]; omega
      · refine ⟨.refl _, fun i o1' j1 j2 => ?_, by rw [o1.1]; exact Nat.le_refl _, fun i hi hw => ?_, fun i _ hl => .inl hl⟩
        · rw [o1.2 i (fun e => k6 (e ▸ ⟨o1', j1, j2⟩))]; exact S.s i o1' j1 j2
        · by_cases hc : c = 0
          · have hes : es = [] := List.length_eq_zero_iff.1 (by rw [he, show xs.length = 0 by omega, Nat.zero_mul])
            subst hes
            simp only [stH, Option.some.injEq] at s1
            rw [s1]
          · exact o1.2 i fun e => hw ⟨hc, _, rfl, e.symm⟩
    · refine .inr ⟨by omega, hb, hb0, ?_⟩
      refine hpush cs ?_ k2 (by omega)
      have := k1.cells (a := ⟨b, pre.length, none⟩) rfl rfl (l.length * sz) 0 (by simp [hl])
      simp only [oldCells, this, Nat.add_zero]
      rw [List.append_assoc, List.drop_left, List.take_append_of_le_length (by omega), List.take_of_length_le (by omega)]
def sls (l : List α) (lo hi : Int) : Option (List α) := if 0 ≤ lo ∧ lo ≤ hi ∧ hi ≤ (l.length : Int) then some (sl l lo hi) else none
theorem sls_e {lo hi : Int} {l' : List α} (g : sls l lo hi = some l') : 0 ≤ lo ∧ lo ≤ hi ∧ hi ≤ (l.length : Int) ∧ Int.toNat hi - Int.toNat lo = l'.length ∧ l' = Hw.sl l lo hi := by
  unfold sls at g
  obtain ⟨h, k⟩ := guard_e g
  cases k
  exact ⟨h.1, h.2.1, h.2.2, sl_len h.1 h.2.1 h.2.2, rfl⟩
theorem Rd.sls {lo hi : Int} {mx : Nat} {l' : List α} (r : Rd sz E m A l) (g : sls l lo hi = some l') (h4 : hi.toNat ≤ mx) : Rd sz E m (sliceA A (Int.toNat lo) mx sz) l' := by
  obtain ⟨h1, h2, h3, _, rfl⟩ := sls_e g
  exact r.sl h1 h2 h3 h4
theorem OS.sls {lo hi : Int} {mx : Nat} {l' : List α} (o : OS W h0 sz E h m A l c) (g : Hw.sls l lo hi = some l') (h4 : hi.toNat ≤ mx) (h5 : mx ≤ c) : OS W h0 sz E h m (sliceA A (Int.toNat lo) mx sz) l' (mx - Int.toNat lo) := by
  obtain ⟨h1, h2, h3, _, rfl⟩ := sls_e g
  exact o.sl h1 h2 h3 h4 h5
def mks (B : Int) (x : Int) (z : α) : Option (List α) := if 0 ≤ x ∧ x * B ≤ 140737488355328 ∧ x ≤ 9223372036854775807 then some (List.replicate x.toNat z) else none
theorem mks_e {B : Int} {z : α} {l' : List α} (g : mks B x z = some l') : 0 ≤ x ∧ x * B ≤ 140737488355328 ∧ x ≤ 9223372036854775807 ∧ Int.toNat x = l'.length ∧ l' = List.replicate x.toNat z := by
  unfold mks at g
  obtain ⟨h, k⟩ := guard_e g
  cases k
  exact ⟨h.1, h.2.1, h.2.2, by simp, rfl⟩
theorem mkCells_flat {zc : Array Value} (hz : zc.size = sz) : ∀ n : Nat, (mkCells zc (n * sz)).toList = (List.replicate n zc.toList).flatten := by
  intro n
  unfold mkCells
  apply List.ext_getElem
  · simp [hz]
  · intro i h1 h2
    simp only [Array.toList_map, Array.toList_range, List.getElem_map, List.getElem_range]
    have hi : i < n * sz := by simpa using h1
    have : ∀ (n i : Nat) (hi : i < n * sz) (h2 : i < (List.replicate n zc.toList).flatten.length), zc[i % zc.size]! = (List.replicate n zc.toList).flatten[i] := by
      intro n
      induction n with
      | zero => intro i hi; simp at hi
      | succ n ih =>
        intro i hi h2
        simp only [List.replicate_succ, List.flatten_cons]
        by_cases hlt : i < zc.toList.length
        · rw [List.getElem_append_left hlt]
          have hlt' : i < zc.size := by simpa using hlt
          rw [Nat.mod_eq_of_lt hlt', getElem!_pos zc i hlt']; simp
        · have hge : sz ≤ i := by simpa [hz] using hlt
          rw [List.getElem_append_right (by rw [Array.length_toList, hz]; exact hge)]
          have e1 : i % zc.size = (i - zc.toList.length) % zc.size := by
            rw [Array.length_toList, hz]; exact (Nat.mod_eq_sub_mod hge)
          rw [e1]
          exact ih (i - zc.toList.length) (by rw [Array.length_toList, hz]; rw [Nat.succ_mul] at hi; omega) _
    exact this n i hi h2
theorem OB.made {zc : Array Value} {z : α} {B : Int} {l' : List α} (T : Tell sz E) (o : OB W h0 h m b (mkCells zc (Int.toNat x * sz)).toList t) (g : mks B x z = some l') (hz : E m z zc.toList) : OS W h0 sz E h m (some ⟨b, 0, none⟩) l' (Int.toNat x) := by
  obtain ⟨_, _, _, h3, rfl⟩ := mks_e g
  refine OB.row (t := t) (cs := (mkCells zc (Int.toNat x * sz)).toList) o ?_ (by simp)
  rw [mkCells_flat (by have := T.len _ _ _ hz; simpa using this)]
  exact CsE.rep hz (T.len _ _ _ hz) _
theorem le_mx {hi : Int} (h1 : hi ≤ (l.length : Int)) (h2 : l.length ≤ c) : hi.toNat ≤ c := by omega
theorem sls_cap {lo hi : Int} {l' : List α} (g : Hw.sls l lo hi = some l') (h2 : l.length ≤ c) : l'.length ≤ c - Int.toNat lo := by
  obtain ⟨h1, h3, h4, h5, _⟩ := sls_e g
  omega
theorem OS.newNo {h' : Heap} (o : OS No h sz E h' m' A l c) : ∀ b, fp A c b → h.size ≤ b := fun b hb => (o.wr b hb).elim id (fun h => h.elim)
theorem fbr : fb b b := rfl
/-! ### Lending -/
theorem St.lend (s : Sub m h) (F : Nat → Prop) : ∃ m', m' = addV m h F ∧ Sub m m' ∧ Sub m' h ∧ St F h m h m' := ⟨_, rfl, addV_up s, addV_sub, .settle s F⟩
theorem OS.lent {F : Nat → Prop} (o : OS W h0 sz E h m A l c) (T : Tell sz E) (s : Sub m h) (e : m' = addV m h F) (hF : ∀ b, fp A c b → F b) : Rd sz E m' A l := by subst e; exact o.settle T s hF
theorem OB.lent {F : Nat → Prop} (o : OB W h0 h m b cs t) (e : m' = addV m h F) (hF : F b) (hn : cs ≠ []) (he : E m' y cs) : VB E m' b y := by subst e; exact o.settle hn hF he
theorem OS.unlend {h' : Heap} (o : OS No h sz E h' m' A l c) (hE : ∀ x cs, E m' x cs → E m x cs) (s : Sub m h) : OS No h sz E h' m A l c :=
  o.flat hE fun b hb _ hl => by
    have := s.lt hl
    rcases hb with hb | hb
    · omega
    · exact hb
theorem nn {x : Value} {l : List Value} : x :: l ≠ [] := fun h => by cases h
/-- append to a row that has no room: a new row. -/
theorem Rd.app {e : TypeId} {bytes : Nat} {z : Array Value} {X : Value} {xs l' : List α} {K : Value → Heap → Prop} (r : Rd sz E m A l) (T : Tell sz E) (S : St W h0 m0 h m) (hn : n = l.length) (hc : c = l.length) (hx : xs ≠ []) (hz : z.size = sz) (hs : Src sz E h m X xs) (hb0 : 0 < bytes) (g : ap bytes l xs = some l')
    (hk : ∀ A' c' h', OS W h0 sz E h' m A' l' c' → Ext h h' → (∀ b, fp A' c' b → h.size ≤ b) → K (.slice A' l'.length c') h') : AppW e sz bytes z A n c X h K := by
  subst hn; subst hc
  obtain ⟨hb, rfl⟩ := ap_e g
  obtain ⟨es, h1, h2⟩ := hs
  have hpos : 0 < xs.length := List.length_pos_iff.2 hx
  refine ⟨xs.length, es, h1, .inr ⟨by omega, hb, hb0, ?_⟩⟩
  obtain ⟨old, k1, k2⟩ : ∃ old, oldCells sz A l.length h = some old ∧ CsE sz E m l old := by
    cases A with
    | none =>
      have : l = [] := by
        cases l with
        | nil => rfl
        | cons x l => obtain ⟨a, _, h1, _⟩ := r 0 (by simp); cases h1
      subst this
      exact ⟨[], rfl, rfl⟩
    | some a =>
      obtain ⟨es, h1, h2⟩ := Rd.cse T r
      exact ⟨es, S.s.cells _ _ h1, h2⟩
  refine ⟨old, k1, fun c' hc' => ?_⟩
  rw [show (Value.slice (some ⟨h.size, 0, none⟩) (l.length + xs.length) c') = .slice (some ⟨h.size, 0, none⟩) (l ++ xs).length c' by rw [List.length_append]]
  refine hk _ _ _ (.inr ⟨h.size, e, [], old ++ es, (zcells z (c' - (l.length + xs.length))).toList, rfl, ?_, k2.append h2, by rw [List.length_append]; exact hc', ?_, .inl S.size, St.notLive S.s⟩) (Ext.push _ _) ?_
  · have := Blk.new h (old.toArray ++ es.toArray ++ zcells z (c' - (l.length + xs.length))) e
    simpa using this
  · rw [zc_len, hz, List.length_append]; exact Nat.le_refl _
  · rintro b ⟨_, a, ha, rfl⟩; cases ha; exact Nat.le_refl _
end
end Go.Hw
