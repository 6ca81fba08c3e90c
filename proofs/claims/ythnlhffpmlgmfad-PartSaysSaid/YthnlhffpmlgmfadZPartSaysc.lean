/- Part 3: what the law PartSays needs, put together out of texts of this session. -/
import Derived.Test.YthnlhffpmlgmfadZPartSaysb
section
namespace Go.Hw
open Go
def dead : Obj := .cells #[] 0 (0, 0)
def Live (m : Heap) (b : Nat) : Prop := ∃ o, m[b]? = some o ∧ o ≠ dead
def Sub (m h : Heap) : Prop := ∀ (b : Nat) (o : Obj), m[b]? = some o → o ≠ dead → h[b]? = some o
abbrev No : Nat → Prop := fun _ => False
section
variable {m m' h h' k h0 m0 : Heap} {b : Nat} {W W' : Nat → Prop}
theorem Sub.refl (h : Heap) : Sub h h := fun _ _ h _ => h
theorem Sub.trans (s : Sub m h) (t : Sub h k) : Sub m k := fun b o h1 h2 => t b o (s b o h1 h2) h2
theorem Sub.lt (s : Sub m h) (l : Live m b) : b < h.size := by
  obtain ⟨o, h1, h2⟩ := l
  exact (Array.getElem?_eq_some_iff.1 (s b o h1 h2)).1
theorem Sub.ext (s : Sub m h) (e : Ext h h') : Sub m h' := fun b o h1 h2 => by rw [e.2 b (s.lt ⟨o, h1, h2⟩)]; exact s b o h1 h2
theorem Sub.cell (s : Sub m h) {a : Addr} {v : Value} (hc : cellH m a = some v) : cellH h a = some v := by
  unfold cellH at hc
  split at hc
  · rename_i c e f hm
    have hne : (Obj.cells c e f) ≠ dead := by
      intro hd
      unfold dead at hd
      cases hd
      split at hc <;> simp at hc
    unfold cellH
    rw [s _ _ hm hne]; exact hc
  · cases hc
theorem Sub.cells (s : Sub m h) {a : Addr} : ∀ (n i : Nat) {vs : List Value}, cellsH m a i n = some vs → cellsH h a i n = some vs := by
  intro n
  induction n with
  | zero => intro i vs hc; exact hc
  | succ n ih =>
    intro i vs hc
    simp only [cellsH] at hc ⊢
    split at hc
    · rename_i v hv
      rw [s.cell hv]
      split at hc
      · rename_i us hu
        rw [ih _ hu]; exact hc
      · cases hc
    · cases hc
theorem Sub.blk (s : Sub m h) {c : List Value} {t : TypeId} (hb : Blk m b c t) (hc : c ≠ []) : Blk h b c t := by
  unfold Blk at *
  refine s _ _ hb ?_
  intro hd
  unfold dead at hd
  cases c with
  | nil => exact hc rfl
  | cons x c => simp at hd
end
structure Tell {α : Type} (sz : Nat) (E : Heap → α → List Value → Prop) : Prop where
  mono : ∀ m h x cs, Sub m h → E m x cs → E h x cs
  len : ∀ h x cs, E h x cs → cs.length = sz
  flat : ∀ h x cs, E h x cs → ∀ v ∈ cs, Flat v
theorem Flats.nil : ∀ v ∈ ([] : List Value), Flat v := fun v hv => by cases hv
theorem Flats.cons {x : Value} {l : List Value} (h : Flat x) (t : ∀ v ∈ l, Flat v) : ∀ v ∈ x :: l, Flat v := fun v hv => by
  rcases List.mem_cons.1 hv with rfl | hv
  · exact h
  · exact t v hv
theorem tell_int (k : IntKind) : Tell 1 (eInt k) := ⟨fun _ _ _ _ _ h => h, fun _ _ _ h => by rw [h]; rfl, fun _ _ _ h => by rw [h]; exact Flats.cons trivial Flats.nil⟩
section
variable {α : Type} {sz : Nat} {E : Heap → α → List Value → Prop} {m m' h h' : Heap} {A : Option Addr} {l : List α} {c : Nat}
theorem Rd.sub (r : Rd sz E m A l) (T : Tell sz E) (s : Sub m h) : Rd sz E h A l := fun i hi =>
  let ⟨a, cs, h1, h2, h3⟩ := r i hi
  ⟨a, cs, h1, s.cells _ _ h2, T.mono _ _ _ _ s h3⟩
theorem tell_row (T : Tell sz E) : Tell 1 (eRow sz E) := ⟨fun _ _ _ _ s ⟨A, c, h1, h2, h3⟩ => ⟨A, c, h1, h2, h3.sub T s⟩, fun _ _ _ ⟨A, c, h1, _, _⟩ => by rw [h1]; rfl, fun _ _ _ ⟨A, c, h1, _, _⟩ => by rw [h1]; exact Flats.cons trivial Flats.nil⟩
end
structure St (W : Nat → Prop) (h0 m0 h m : Heap) : Prop where
  up : Sub m0 m
  s : Sub m h
  size : h0.size ≤ h.size
  fr : ∀ b, b < h0.size → ¬ W b → h[b]? = h0[b]?
  lv : ∀ b, b < h0.size → Live m b → Live m0 b ∨ W b
def fb (b0 b : Nat) : Prop := b = b0
def fp (A : Option Addr) (c : Nat) (b : Nat) : Prop := c ≠ 0 ∧ ∃ a, A = some a ∧ a.block = b
def Dj (F G : Nat → Prop) : Prop := ∀ b, F b → G b → False
section
variable {m m' h h' h0 m0 : Heap} {b b' : Nat} {W W' F G G' : Nat → Prop}
theorem Dj.symm (d : Dj F G) : Dj G F := fun b h1 h2 => d b h2 h1
theorem Dj.no : Dj No F := fun _ h _ => h
theorem St.refl (s : Sub m h) : St W h m h m := ⟨.refl _, s, Nat.le_refl _, fun _ _ _ => rfl, fun _ _ h => .inl h⟩
theorem St.of_ext (s : Sub m h) (e : Ext h h') : St W h m h' m := ⟨.refl _, s.ext e, e.1, fun b hb _ => e.2 b hb, fun _ _ h => .inl h⟩
theorem St.ext (S : St No h m h' m') : Ext h h' := ⟨S.size, fun b hb => S.fr b hb (fun h => h)⟩
theorem St.then (S : St W h0 m0 h m) (T : St W' h m h' m') (hw : ∀ b, b < h.size → W' b → h0.size ≤ b ∨ W b) : St W h0 m0 h' m' where
  up := S.up.trans T.up
  s := T.s
  size := Nat.le_trans S.size T.size
  fr b hb hn := by
    rw [T.fr b (by have := S.size; omega) (fun hw' => (hw b (by have := S.size; omega) hw').elim (fun h => by omega) hn)]
    exact S.fr b hb hn
  lv b hb hl := by
    rcases T.lv b (by have := S.size; omega) hl with h1 | h1
    · exact S.lv b hb h1
    · exact .inr ((hw b (by have := S.size; omega) h1).elim (fun h => by omega) id)
theorem St.grow (S : St W h0 m0 h m) (T : St No h m h' m') : St W h0 m0 h' m' := S.then T fun _ _ h => h.elim
theorem St.notLive (s : Sub m h) : ¬ Live m h.size := fun l => by have := s.lt l; omega
theorem St.only (s : Sub m h) (hn : ¬ Live m b) (o : Only h h' b) : St (fb b) h m h' m where
  up := .refl _
  s i x h1 h2 := by
    rw [o.2 i (fun e => hn (e ▸ ⟨x, h1, h2⟩))]; exact s i x h1 h2
  size := by rw [o.1]; exact Nat.le_refl _
  fr i _ hw := o.2 i hw
  lv i _ hl := .inl hl
end
open Classical in
noncomputable def addV (m h : Heap) (F : Nat → Prop) : Heap := Array.ofFn (n := h.size) fun i => if Live m i.1 ∨ F i.1 then h[i.1] else dead
section
variable {m h : Heap} {b : Nat} {F : Nat → Prop}
theorem addV_get (hb : b < h.size) (hl : Live m b ∨ F b) : (addV m h F)[b]? = h[b]? := by
  unfold addV
  rw [Array.getElem?_ofFn, dif_pos hb, if_pos hl, Array.getElem?_eq_getElem hb]
theorem addV_live (hl : Live (addV m h F) b) : (Live m b ∨ F b) ∧ b < h.size := by
  obtain ⟨o, h1, h2⟩ := hl
  unfold addV at h1
  rw [Array.getElem?_ofFn] at h1
  split at h1
  · rename_i hb
    refine ⟨?_, hb⟩
    by_cases hc : Live m b ∨ F b
    · exact hc
    · rw [if_neg hc] at h1; cases h1; exact (h2 rfl).elim
  · cases h1
theorem addV_sub : Sub (addV m h F) h := fun b o h1 h2 => by
  have := addV_live ⟨o, h1, h2⟩
  rw [← addV_get this.2 this.1]; exact h1
theorem addV_up (s : Sub m h) : Sub m (addV m h F) := fun b o h1 h2 => by
  rw [addV_get (s.lt ⟨o, h1, h2⟩) (.inl ⟨o, h1, h2⟩)]; exact s b o h1 h2
theorem St.settle (s : Sub m h) (F : Nat → Prop) : St F h m h (addV m h F) := ⟨addV_up s, addV_sub, Nat.le_refl _, fun _ _ _ => rfl, fun _ _ hl => (addV_live hl).1⟩
theorem Blk.settle {c : List Value} {t : TypeId} (hb : Blk h b c t) (hF : F b) : Blk (addV m h F) b c t := by
  unfold Blk at *
  rw [addV_get (Blk.lt hb) (.inr hF)]; exact hb
end
section
variable {α : Type} {sz : Nat} {E : Heap → α → List Value → Prop} {m m' h h' h0 m0 : Heap} {A : Option Addr} {l l' : List α} {c : Nat} {cs ds : List Value} {x y : α} {W W' : Nat → Prop}
def CsE (sz : Nat) (E : Heap → α → List Value → Prop) (m : Heap) : List α → List Value → Prop
  | [], cs => cs = []
  | x :: l, cs => ∃ c1 c2, cs = c1 ++ c2 ∧ c1.length = sz ∧ E m x c1 ∧ CsE sz E m l c2
theorem CsE.nil : CsE sz E m ([] : List α) [] := rfl
theorem CsE.cons {c1 : List Value} (h1 : E m x c1) (h2 : c1.length = sz) (h : CsE sz E m l cs) : CsE sz E m (x :: l) (c1 ++ cs) := ⟨c1, cs, rfl, h2, h1, h⟩
theorem CsE.len : ∀ {l : List α} {cs : List Value}, CsE sz E m l cs → cs.length = l.length * sz := by
  intro l
  induction l with
  | nil => intro cs h; rw [show cs = [] from h]; simp
  | cons x l ih => rintro cs ⟨c1, c2, rfl, h1, h2, h3⟩; rw [List.length_append, ih h3, h1, List.length_cons, Nat.succ_mul, Nat.add_comm]
theorem CsE.append : ∀ {l l' : List α} {cs ds : List Value}, CsE sz E m l cs → CsE sz E m l' ds → CsE sz E m (l ++ l') (cs ++ ds) := by
  intro l
  induction l with
  | nil => intro l' cs ds h h'; rw [show cs = [] from h]; exact h'
  | cons x l ih => rintro l' cs ds ⟨c1, c2, rfl, h1, h2, h3⟩ h'; rw [List.append_assoc]; exact ⟨c1, c2 ++ ds, rfl, h1, h2, ih h3 h'⟩
theorem CsE.flat (T : Tell sz E) : ∀ {l : List α} {cs : List Value}, CsE sz E m l cs → ∀ v ∈ cs, Flat v := by
  intro l
  induction l with
  | nil => intro cs h; rw [show cs = [] from h]; exact Flats.nil
  | cons x l ih =>
    rintro cs ⟨c1, c2, rfl, h1, h2, h3⟩ v hv
    rcases List.mem_append.1 hv with hv | hv
    · exact T.flat _ _ _ h2 v hv
    · exact ih h3 v hv
theorem CsE.get : ∀ {l : List α} {cs : List Value} {i : Nat}, CsE sz E m l cs → l[i]? = some y → E m y ((cs.drop (i * sz)).take sz) ∧ i * sz + sz ≤ cs.length := by
  intro l
  induction l with
  | nil => intro cs i h h'; cases h'
  | cons x l ih =>
    rintro cs i ⟨c1, c2, rfl, h1, h2, h3⟩ hy
    cases i with
    | zero =>
      cases hy
      simp only [Nat.zero_mul, List.drop_zero]
      rw [← h1, List.take_left]
      exact ⟨h2, by simp⟩
    | succ i =>
      have := ih (i := i) h3 (by simpa using hy)
      rw [show (i + 1) * sz = c1.length + i * sz by rw [h1, Nat.succ_mul, Nat.add_comm], ← List.drop_drop, List.drop_left, List.length_append]
      exact ⟨this.1, by omega⟩
theorem CsE.set {c1 : List Value} (hx : E m x c1) (hz : c1.length = sz) : ∀ {l : List α} {cs : List Value} {i : Nat}, CsE sz E m l cs → i < l.length → CsE sz E m (l.set i x) (cs.take (i * sz) ++ c1 ++ cs.drop (i * sz + sz)) := by
  intro l
  induction l with
  | nil => intro cs i h h'; cases h'
  | cons y l ih =>
    rintro cs i ⟨d1, d2, rfl, h1, h2, h3⟩ hi
    cases i with
    | zero =>
      simp only [Nat.zero_mul, List.take_zero, List.nil_append, Nat.zero_add, List.set_cons_zero]
      rw [← h1, List.drop_left]
      exact ⟨c1, d2, rfl, by rw [hz, h1], hx, by rw [h1]; exact h3⟩
    | succ i =>
      have := ih (i := i) h3 (by simpa using hi)
      rw [show (i + 1) * sz = d1.length + i * sz by rw [h1, Nat.succ_mul, Nat.add_comm], List.take_length_add_append, show d1.length + i * sz + sz = d1.length + (i * sz + sz) by omega, List.drop_length_add_append, List.set_cons_succ]
      exact ⟨d1, _, by simp [List.append_assoc], h1, h2, this⟩
theorem CsE.drop : ∀ {l : List α} {cs : List Value} (k : Nat), CsE sz E m l cs → CsE sz E m (l.drop k) (cs.drop (k * sz)) := by
  intro l
  induction l with
  | nil => intro cs k h; rw [show cs = [] from h]; simp [CsE]
  | cons x l ih =>
    rintro cs k ⟨c1, c2, rfl, h1, h2, h3⟩
    cases k with
    | zero => rw [Nat.zero_mul, List.drop_zero, List.drop_zero]; exact ⟨c1, c2, rfl, h1, h2, h3⟩
    | succ k =>
      rw [show (k + 1) * sz = c1.length + k * sz by rw [h1, Nat.succ_mul, Nat.add_comm], ← List.drop_drop (l := c1 ++ c2), List.drop_left, List.drop_succ_cons]
      exact ih k h3
theorem CsE.take : ∀ {l : List α} {cs : List Value} (k : Nat), CsE sz E m l cs → CsE sz E m (l.take k) (cs.take (k * sz)) := by
  intro l
  induction l with
  | nil => intro cs k h; rw [show cs = [] from h]; simp [CsE]
  | cons x l ih =>
    rintro cs k ⟨c1, c2, rfl, h1, h2, h3⟩
    cases k with
    | zero => simp [CsE]
    | succ k =>
      rw [show (k + 1) * sz = c1.length + k * sz by rw [h1, Nat.succ_mul, Nat.add_comm], List.take_length_add_append, List.take_succ_cons]
      exact ⟨c1, _, rfl, h1, h2, ih k h3⟩
theorem Rd.tail (r : Rd sz E m A (x :: l)) : ∀ a, A = some a → Rd sz E m (some (a.add sz)) l := by
  intro a ha i hi
  obtain ⟨a', cs, h1, h2, h3⟩ := r (i + 1) (by simpa using hi)
  rw [ha] at h1; cases h1
  refine ⟨_, cs, rfl, ?_, h3⟩
  rw [add_add, show sz + i * sz = (i + 1) * sz by rw [Nat.succ_mul, Nat.add_comm]]; exact h2
theorem Rd.cse (T : Tell sz E) : ∀ {l : List α} {a : Addr}, Rd sz E m (some a) l → ∃ cs, cellsH m a 0 (l.length * sz) = some cs ∧ CsE sz E m l cs := by
  intro l
  induction l with
  | nil => intro a r; exact ⟨[], by simp [cellsH], rfl⟩
  | cons x l ih =>
    intro a r
    obtain ⟨cs, h1, h2⟩ := ih (r.tail a rfl)
    obtain ⟨a', c1, h3, h4, h5⟩ := r 0 (by simp)
    cases h3
    rw [Nat.zero_mul, show a.add 0 = a from rfl] at h4
    refine ⟨c1 ++ cs, ?_, c1, cs, rfl, T.len _ _ _ h5, h5, h2⟩
    rw [List.length_cons, Nat.succ_mul, Nat.add_comm]
    refine cellsH_append h4 ?_
    rw [cellsH_shift] at h1
    simpa using h1
theorem CsE.rd {b : Nat} {t : TypeId} {pre rest : List Value} (hb : Blk h b (pre ++ cs ++ rest) t) (hc : CsE sz E m l cs) (hm : ∀ x cs, E m x cs → E h x cs) : Rd sz E h (some ⟨b, pre.length, none⟩) l := by
  intro i hi
  have hg := hc.get (List.getElem?_eq_getElem hi)
  refine ⟨_, _, rfl, ?_, hm _ _ hg.1⟩
  have := hb.cells (a := (⟨b, pre.length, none⟩ : Addr).add (i * sz)) (by rw [add_block]) (add_spot _ rfl) sz 0 (by rw [add_off, List.length_append, List.length_append]; simp only [Nat.add_zero]; omega)
  rw [this, add_off]
  simp only [Nat.add_zero]
  rw [List.append_assoc, ← List.drop_drop, List.drop_left, List.drop_append_of_le_length (by omega), List.take_append_of_le_length (by rw [List.length_drop]; omega)]
def OS (W : Nat → Prop) (h0 : Heap) (sz : Nat) (E : Heap → α → List Value → Prop) (h m : Heap) (A : Option Addr) (l : List α) (c : Nat) : Prop :=
  (l = [] ∧ c = 0) ∨ ∃ b t pre cs rest, A = some ⟨b, pre.length, none⟩ ∧ Blk h b (pre ++ cs ++ rest) t ∧ CsE sz E m l cs ∧ l.length ≤ c ∧ (c - l.length) * sz ≤ rest.length ∧ (h0.size ≤ b ∨ W b) ∧ ¬ Live m b
theorem OS.cap (o : OS W h0 sz E h m A l c) : l.length ≤ c := by
  rcases o with ⟨rfl, rfl⟩ | ⟨b, t, pre, cs, rest, h1, h2, h3, h4, h5, h6, h7⟩
  · exact Nat.le_refl _
  · exact h4
theorem OS.wr (o : OS W h0 sz E h m A l c) : ∀ b, fp A c b → h0.size ≤ b ∨ W b := by
  rintro b ⟨hc, a, ha, rfl⟩
  rcases o with ⟨rfl, rfl⟩ | ⟨b, t, pre, cs, rest, h1, h2, h3, h4, h5, h6, h7⟩
  · exact (hc rfl).elim
  · rw [h1] at ha; cases ha; exact h6
def OB (W : Nat → Prop) (h0 h m : Heap) (b : Nat) (cs : List Value) (t : TypeId) : Prop := Blk h b cs t ∧ (h0.size ≤ b ∨ W b) ∧ ¬ Live m b
variable {b : Nat} {t : TypeId}
theorem OB.all (o : OB W h0 h m b cs t) : cellsH h ⟨b, 0, none⟩ 0 cs.length = some cs := by
  have := o.1.cells (a := ⟨b, 0, none⟩) rfl rfl cs.length 0 (by simp)
  simpa using this
theorem Blk.all' (o : Blk m b cs t) : cellsH m ⟨b, 0, none⟩ 0 cs.length = some cs := by
  have := o.cells (a := ⟨b, 0, none⟩) rfl rfl cs.length 0 (by simp)
  simpa using this
def VB (E : Heap → α → List Value → Prop) (m : Heap) (b : Nat) (x : α) : Prop := ∃ cs t, Blk m b cs t ∧ cs ≠ [] ∧ E m x cs
theorem VB.sub (v : VB E m b x) (T : Tell sz E) (s : Sub m h) : VB E h b x := let ⟨cs, t, h1, h2, h3⟩ := v; ⟨cs, t, s.blk h1 h2, h2, T.mono _ _ _ _ s h3⟩
end
end Go.Hw

end
section
namespace Go.Hw
def LeO {β : Type} (a b : Option β) : Prop := ∀ r, a = some r → b = some r
theorem LeO.refl {β : Type} (a : Option β) : LeO a a := fun _ h => h
theorem LeO.bind {β γ : Type} {a b : Option β} {f g : β → Option γ} (h : LeO a b) (k : ∀ x, LeO (f x) (g x)) : LeO (a.bind f) (b.bind g) := by
  intro r hr
  cases a with
  | none => cases hr
  | some x => rw [h x rfl]; exact k x r hr
theorem LeO.ite {β : Type} {p : Prop} [Decidable p] {a b a' b' : Option β} (h : LeO a a') (k : LeO b b') : LeO (if p then a else b) (if p then a' else b') := by
  by_cases c : p
  · rw [if_pos c, if_pos c]; exact h
  · rw [if_neg c, if_neg c]; exact k
section
variable {α : Type} {β : α → Type} {F : ((x : α) → Option (β x)) → (x : α) → Option (β x)}
def MonoF (F : ((x : α) → Option (β x)) → (x : α) → Option (β x)) : Prop := ∀ f g, (∀ x, LeO (f x) (g x)) → ∀ x, LeO (F f x) (F g x)
def FixR (F : ((x : α) → Option (β x)) → (x : α) → Option (β x)) (x : α) (r : β x) : Prop :=
  ∀ I : (x : α) → β x → Prop, (∀ f, (∀ x r, f x = some r → I x r) → ∀ x r, F f x = some r → I x r) → I x r
theorem FixR.close {f : (x : α) → Option (β x)} (hf : ∀ x r, f x = some r → FixR F x r) {x : α} {r : β x} (h : F f x = some r) : FixR F x r :=
  fun I hI => hI f (fun y s hs => hf y s hs I hI) x r h
theorem FixR.uniq (M : MonoF F) {x : α} {r r' : β x} (h : FixR F x r) (h' : FixR F x r') : r = r' := by
  refine (h (fun x r => FixR F x r ∧ ∀ r', FixR F x r' → r = r') ?_).2 r' h'
  intro f hf x r hr
  refine ⟨FixR.close (fun y s hs => (hf y s hs).1) hr, fun s hs => ?_⟩
  have key := hs (fun y s => FixR F y s ∧ ∀ e : x = y, (e ▸ r) = s) ?_
  · exact key.2 rfl
  intro f' hf' y t ht
  refine ⟨FixR.close (fun z s hs => (hf' z s hs).1) ht, ?_⟩
  rintro rfl
  let g : (x : α) → Option (β x) := fun z => match f z with | some u => some u | none => f' z
  have hfg : ∀ z, LeO (f z) (g z) := fun z u hu => by simp only [g, hu]
  have hfg' : ∀ z, LeO (f' z) (g z) := by
    intro z u hu
    simp only [g]
    cases hz : f z with
    | none => exact hu
    | some w => simp only; rw [(hf z w hz).2 u (hf' z u hu).1]
  have e1 := M f g hfg _ _ hr
  have e2 := M f' g hfg' _ _ ht
  rw [e1] at e2
  exact Option.some.inj e2
open Classical in
noncomputable def fixF (F : ((x : α) → Option (β x)) → (x : α) → Option (β x)) (x : α) : Option (β x) := if h : ∃ r, FixR F x r then some (Classical.choose h) else none
theorem fixF_iff (M : MonoF F) {x : α} {r : β x} : fixF F x = some r ↔ FixR F x r := by
  unfold fixF
  constructor
  · intro h
    split at h
    · rename_i hx; cases h; exact Classical.choose_spec hx
    · cases h
  · intro h
    rw [dif_pos ⟨r, h⟩, FixR.uniq M (Classical.choose_spec (⟨r, h⟩ : ∃ r, FixR F x r)) h]
theorem fixF_eq (M : MonoF F) (x : α) : fixF F x = F (fixF F) x := by
  have h1 : ∀ r, fixF F x = some r → F (fixF F) x = some r := by
    intro r hr
    refine ((fixF_iff M).1 hr (fun x r => FixR F x r ∧ F (fixF F) x = some r) ?_).2
    intro f hf y s hs
    refine ⟨FixR.close (fun z s hs => (hf z s hs).1) hs, ?_⟩
    exact M f (fixF F) (fun z u hu => (fixF_iff M).2 (hf z u hu).1) _ _ hs
  have h2 : ∀ r, F (fixF F) x = some r → fixF F x = some r := fun r hr => (fixF_iff M).2 (FixR.close (fun y s hs => (fixF_iff M).1 hs) hr)
  cases h : fixF F x with
  | some r => exact (h1 r h).symm
  | none =>
    cases k : F (fixF F) x with
    | none => rfl
    | some r => rw [h2 r k] at h; cases h
theorem fixF_ind (M : MonoF F) {I : (x : α) → β x → Prop} (hI : ∀ f, (∀ x r, f x = some r → I x r) → ∀ x r, F f x = some r → I x r) {x : α} {r : β x} (h : fixF F x = some r) : I x r := (fixF_iff M).1 h I hI
end
end Go.Hw

end
section
namespace Go.Hw
open Go
section tests
variable {A B : Prop} {β γ : Type} {a b : Option β} {r : β}
theorem bind_e {a : Option γ} {f : γ → Option β} (e : a.bind f = some r) : ∃ x, a = some x ∧ f x = some r := by
  cases a with
  | none => cases e
  | some x => exact ⟨x, rfl, e⟩
theorem guard_e {p : Prop} [Decidable p] (e : (if p then a else none) = some r) : p ∧ a = some r := by
  by_cases h : p
  · rw [if_pos h] at e; exact ⟨h, e⟩
  · rw [if_neg h] at e; cases e
theorem split_dec_e {p : Prop} [Decidable p] (e : (if p then a else b) = some r) (hA : p → a = some r → A) (hB : ¬ p → b = some r → B) : splitB (decide p) A B := by
  by_cases h : p
  · rw [if_pos h] at e; rw [decide_eq_true h]; exact hA h e
  · rw [if_neg h] at e; rw [decide_eq_false h]; exact hB h e
theorem split_eq_e {x y : Int} (e : (if x = y then a else b) = some r) (hA : x = y → a = some r → A) (hB : x ≠ y → b = some r → B) : splitB (x == y) A B := by
  by_cases h : x = y
  · rw [if_pos h] at e; rw [show (x == y) = true from beq_iff_eq.2 h]; exact hA h e
  · rw [if_neg h] at e; rw [show (x == y) = false from beq_eq_false_iff_ne.2 h]; exact hB h e
theorem split_ne_e {x y : Int} (e : (if x = y then b else a) = some r) (hA : x ≠ y → a = some r → A) (hB : x = y → b = some r → B) : splitB (x != y) A B := by
  by_cases h : x = y
  · rw [if_pos h] at e; rw [show (x != y) = false from bne_eq_false_iff_eq.2 h]; exact hB h e
  · rw [if_neg h] at e; rw [show (x != y) = true from bne_iff_ne.2 h]; exact hA h e
theorem split_any_e {t : Bool} (e : (if t = true then a else b) = some r) (hA : t = true → a = some r → A) (hB : t = false → b = some r → B) : splitB t A B := by
  cases t
  · exact hB rfl e
  · exact hA rfl e
end tests
section
variable {α : Type} {l : List α} {x : Int} {y : α}
def gi (l : List α) (x : Int) : Option α := if 0 ≤ x then l[x.toNat]? else none
theorem gi_nat (l : List α) (k : Nat) : gi l (k : Int) = l[k]? := by unfold gi; rw [if_pos (by omega)]; rfl
theorem gi_le (g : gi l x = some y) : 0 ≤ x := by unfold gi at g; split at g; assumption; cases g
theorem gi_get (g : gi l x = some y) : l[x.toNat]? = some y := by unfold gi at g; split at g; exact g; cases g
theorem gi_lt (g : gi l x = some y) : x < (l.length : Int) := by
  have h1 := gi_get g
  have h2 := gi_le g
  have := (List.getElem?_eq_some_iff.1 h1).1
  omega
theorem gi_ltN (g : gi l x = some y) : x.toNat < l.length := (List.getElem?_eq_some_iff.1 (gi_get g)).1
def gb (s : ByteArray) (x : Int) : Option Int := if 0 ≤ x then s[x.toNat]?.map fun b => ((UInt8.toNat b : Nat) : Int) else none
theorem gb_e {s : ByteArray} {x y : Int} (g : gb s x = some y) : 0 ≤ x ∧ ∃ b, s[x.toNat]? = some b ∧ y = ((UInt8.toNat b : Nat) : Int) := by
  unfold gb at g
  split at g
  · rename_i h
    cases hb : s[x.toNat]? with
    | none => rw [hb] at g; cases g
    | some b => rw [hb] at g; cases g; exact ⟨h, b, rfl, rfl⟩
  · cases g
def sl (l : List α) (lo hi : Int) : List α := (l.take hi.toNat).drop lo.toNat
theorem sl_len {lo hi : Int} (h1 : 0 ≤ lo) (h2 : lo ≤ hi) (h3 : hi ≤ (l.length : Int)) : Int.toNat hi - Int.toNat lo = (sl l lo hi).length := by
  unfold sl; rw [List.length_drop, List.length_take]; omega
theorem sl_lo {lo : Int} : sl l lo (l.length : Int) = l.drop lo.toNat := by unfold sl; simp
theorem sl_hi {hi : Int} : sl l 0 hi = l.take hi.toNat := by unfold sl; simp
end
section
variable {α : Type} {sz : Nat} {E : Heap → α → List Value → Prop} {m m' h h' h0 m0 : Heap} {A : Option Addr} {l : List α} {c n k : Nat} {cs : List Value} {x : Int} {y : α} {W : Nat → Prop} {a : Addr} {v : Value} {b : Nat} {t : TypeId}
theorem Rd.addr {K : Addr → Prop} (r : Rd sz E m A l) (hn : n = l.length) (g : gi l x = some y) (hk : ∀ a cs, A = some a → cellsH m (a.add (Int.toNat x * sz)) 0 sz = some cs → E m y cs → K a) : ptrOk A fun a => 0 ≤ x ∧ x < ((n : Nat) : Int) ∧ K a := by
  subst hn
  have h1 := gi_get g
  obtain ⟨hi, h2⟩ := List.getElem?_eq_some_iff.1 h1
  obtain ⟨a, cs, rfl, h3, h4⟩ := r _ hi
  rw [h2] at h4
  exact ⟨gi_le g, gi_lt g, hk a cs rfl h3 h4⟩
theorem OS.cellsAt (o : OS W h0 sz E h m A l c) (g : gi l x = some y) : ∃ a cs, A = some a ∧ cellsH h (a.add (Int.toNat x * sz)) 0 sz = some cs ∧ E m y cs := by
  have h1 := gi_get g
  rcases o with ⟨rfl, rfl⟩ | ⟨b, t, pre, cs, rest, rfl, h3, h4, h5, h6, h7⟩
  · cases h1
  have h8 := h4.get h1
  refine ⟨_, _, rfl, ?_, h8.1⟩
  have := h3.cells (a := (⟨b, pre.length, none⟩ : Addr).add (x.toNat * sz)) (by rw [add_block]) (add_spot _ rfl) sz 0 (by rw [add_off, List.length_append, List.length_append]; simp only [Nat.add_zero]; omega)
  rw [this, add_off]
  simp only [Nat.add_zero]
  rw [List.append_assoc, ← List.drop_drop, List.drop_left, List.drop_append_of_le_length (by omega), List.take_append_of_le_length (by rw [List.length_drop]; omega)]
theorem OS.addr {K : Addr → Prop} (o : OS W h0 sz E h m A l c) (hn : n = l.length) (g : gi l x = some y) (hk : ∀ a cs, A = some a → cellsH h (a.add (Int.toNat x * sz)) 0 sz = some cs → E m y cs → K a) : ptrOk A fun a => 0 ≤ x ∧ x < ((n : Nat) : Int) ∧ K a := by
  subst hn
  obtain ⟨a, cs, rfl, h1, h2⟩ := o.cellsAt g
  exact ⟨gi_le g, gi_lt g, hk a cs rfl h1 h2⟩
theorem ld0 (s : Sub m h) (hc : cellsH m a 0 n = some cs) (hv : cs[0]? = some v) : ldv false 1 h a = some v := by
  have h1 : cellH h (a.add 0) = some v := cellsH_get (s.cells _ _ hc) hv
  exact h1
theorem ldk (s : Sub m h) (hc : cellsH m a 0 n = some cs) (hv : cs[k]? = some v) : ldv false 1 h (Addr.add a k) = some v := by
  have := cellsH_get (s.cells _ _ hc) hv
  simpa [ldv] using this
theorem ldA (s : Sub m h) (hc : cellsH m a 0 n = some cs) : ldv true n h a = some (.agg cs.toArray) := by
  simp only [ldv, s.cells _ _ hc, Option.map_some]
theorem OB.st (o : OB W h0 h m b cs t) (s : Sub m h) (hk : k < cs.length) (hf : Flat v) : ∃ h', st1 h (Addr.add ⟨b, 0, none⟩ k) v = some h' ∧ OB W h0 h' m b (cs.set k v) t ∧ St (fb b) h m h' m := by
  obtain ⟨h', h1, h2, h3⟩ := o.1.st (a := Addr.add ⟨b, 0, none⟩ k) (v := v) (add_block _ _) (add_spot _ rfl) (by rw [add_off]; simpa using hk) hf
  rw [add_off, Nat.zero_add] at h2
  exact ⟨h', h1, ⟨h2, o.2⟩, .only s o.2.2 h3⟩
theorem OB.stA (o : OB W h0 h m b cs t) (s : Sub m h) (l : List Value) (hn : l.length = cs.length) (hf : ∀ v ∈ l, Flat v) : ∃ h', stH h ⟨b, 0, none⟩ l 0 = some h' ∧ OB W h0 h' m b l t ∧ St (fb b) h m h' m := by
  obtain ⟨h', h1, h2, h3⟩ := o.1.stAll l hn hf
  exact ⟨h', h1, ⟨h2, o.2⟩, .only s o.2.2 h3⟩
theorem OS.stP (o : OS W h0 sz E h m A l c) (T : Tell sz E) (s : Sub m h) (g : gi l x = some y) (ha : A = some a) (hc : cellsH h (Addr.add a (Int.toNat x * sz)) 0 sz = some cs) {ds : List Value} {y' : α} (k : Nat) (hk : k + ds.length ≤ sz) (hy : E m y' (cs.take k ++ ds ++ cs.drop (k + ds.length))) (hf : ∀ v ∈ ds, Flat v) :
    ∃ h', stH h (Addr.add (Addr.add a (Int.toNat x * sz)) k) ds 0 = some h' ∧ OS W h0 sz E h' m A (l.set (Int.toNat x) y') c ∧ St (fp A c) h m h' m := by
  have h1 := gi_get g
  have hlt := gi_ltN g
  rcases o with ⟨rfl, rfl⟩ | ⟨b, t, pre, es, rest, rfl, h3, h4, h5, h6, h7, h8⟩
  · cases h1
  cases ha
  have h9 := h4.get h1
  have hcs : cs = (es.drop (x.toNat * sz)).take sz := by
    have := h3.cells (a := (⟨b, pre.length, none⟩ : Addr).add (x.toNat * sz)) (by rw [add_block]) (add_spot _ rfl) sz 0 (by rw [add_off, List.length_append, List.length_append]; simp only [Nat.add_zero]; omega)
    rw [hc, add_off] at this
    simp only [Nat.add_zero, Option.some.injEq] at this
    rw [this, List.append_assoc, ← List.drop_drop, List.drop_left, List.drop_append_of_le_length (by omega), List.take_append_of_le_length (by rw [List.length_drop]; omega)]
  have hlen : cs.length = sz := cellsH_length hc
  have hes : es = es.take (x.toNat * sz) ++ cs ++ es.drop (x.toNat * sz + sz) := by
    rw [hcs, List.append_assoc, ← List.drop_drop, List.take_append_drop, List.take_append_drop]
  have hcs2 : cs = cs.take k ++ (cs.drop k).take ds.length ++ cs.drop (k + ds.length) := by
    rw [List.append_assoc, ← List.drop_drop, List.take_append_drop, List.take_append_drop]
  have hb : Blk h b ((pre ++ es.take (x.toNat * sz) ++ cs.take k) ++ (cs.drop k).take ds.length ++ (cs.drop (k + ds.length) ++ (es.drop (x.toNat * sz + sz) ++ rest))) t := by
    have : (pre ++ es.take (x.toNat * sz) ++ cs.take k) ++ (cs.drop k).take ds.length ++ (cs.drop (k + ds.length) ++ (es.drop (x.toNat * sz + sz) ++ rest)) = pre ++ es ++ rest := by
      conv => rhs; rw [hes]; rw [hcs2]
      simp only [List.append_assoc]
    rw [this]; exact h3
  obtain ⟨h', s1, b1, o1⟩ := Blk.stH ds (a := Addr.add (Addr.add ⟨b, pre.length, none⟩ (x.toNat * sz)) k) (i := 0) hb (by rw [add_block, add_block]) (add_spot _ (add_spot _ rfl))
    (by rw [add_off, add_off, List.length_append, List.length_append, List.length_take, List.length_take]; simp only [Nat.add_zero]; omega) (by rw [List.length_take, List.length_drop]; omega) hf
  refine ⟨h', s1, .inr ⟨b, t, pre, es.take (x.toNat * sz) ++ (cs.take k ++ ds ++ cs.drop (k + ds.length)) ++ es.drop (x.toNat * sz + sz), rest, rfl, ?_, ?_, ?_, ?_, h7, h8⟩, ?_⟩
  · have : pre ++ (es.take (x.toNat * sz) ++ (cs.take k ++ ds ++ cs.drop (k + ds.length)) ++ es.drop (x.toNat * sz + sz)) ++ rest = (pre ++ es.take (x.toNat * sz) ++ cs.take k) ++ ds ++ (cs.drop (k + ds.length) ++ (es.drop (x.toNat * sz + sz) ++ rest)) := by simp only [List.append_assoc]
    rw [this]; exact b1
  · exact h4.set hy (T.len _ _ _ hy) hlt
  · rwa [List.length_set]
  · rwa [List.length_set]
  · refine ⟨.refl _, fun i o1' k1 k2 => ?_, by rw [o1.1]; exact Nat.le_refl _, fun i hi hw => ?_, fun i _ hl => .inl hl⟩
    · rw [o1.2 i (fun e => h8 (e ▸ ⟨o1', k1, k2⟩))]; exact s i o1' k1 k2
    · refine o1.2 i fun e => hw ⟨?_, _, rfl, e.symm⟩
      omega
theorem OS.st1k (o : OS W h0 sz E h m A l c) (T : Tell sz E) (s : Sub m h) (g : gi l x = some y) (ha : A = some a) (hc : cellsH h (Addr.add a (Int.toNat x * sz)) 0 sz = some cs) {y' : α} (k : Nat) (hk : k < sz) (hy : E m y' (cs.set k v)) (hf : Flat v) :
    ∃ h', st1 h (Addr.add (Addr.add a (Int.toNat x * sz)) k) v = some h' ∧ OS W h0 sz E h' m A (l.set (Int.toNat x) y') c ∧ St (fp A c) h m h' m := by
  have hlen : cs.length = sz := cellsH_length hc
  obtain ⟨h', h1, h2, h3⟩ := o.stP T s g ha hc (ds := [v]) (y' := y') k hk (by rw [List.append_assoc, List.singleton_append]; rw [List.set_eq_take_append_cons_drop, if_pos (by omega)] at hy; exact hy) (Flats.cons hf Flats.nil)
  refine ⟨h', ?_, h2, h3⟩
  simp only [stH] at h1
  split at h1
  · rename_i h4 h5
    cases h1; exact h5
  · cases h1
theorem OS.stA (o : OS W h0 sz E h m A l c) (T : Tell sz E) (s : Sub m h) (g : gi l x = some y) (ha : A = some a) (hc : cellsH h (Addr.add a (Int.toNat x * sz)) 0 sz = some cs) {ds : List Value} {y' : α} (hy : E m y' ds) (hf : ∀ v ∈ ds, Flat v) :
    ∃ h', stH h (Addr.add a (Int.toNat x * sz)) ds 0 = some h' ∧ OS W h0 sz E h' m A (l.set (Int.toNat x) y') c ∧ St (fp A c) h m h' m := by
  have hlen : cs.length = sz := cellsH_length hc
  have hd := T.len _ _ _ hy
  refine o.stP T s g ha hc (ds := ds) (y' := y') 0 (by omega) ?_ hf
  rw [List.take_zero, List.nil_append, List.drop_eq_nil_of_le (by omega), List.append_nil]; exact hy
theorem cap_in {hi : Int} (h1 : hi ≤ (l.length : Int)) (h2 : l.length ≤ c) : hi ≤ ((c : Nat) : Int) := by omega
theorem Rd.sl {lo hi : Int} {mx : Nat} (r : Rd sz E m A l) (h1 : 0 ≤ lo) (h2 : lo ≤ hi) (h3 : hi ≤ (l.length : Int)) (h4 : hi.toNat ≤ mx) : Rd sz E m (sliceA A (Int.toNat lo) mx sz) (sl l lo hi) := by
  intro i hi'
  rw [← sl_len h1 h2 h3] at hi'
  obtain ⟨a, cs, e1, e2, e3⟩ := r (lo.toNat + i) (by omega)
  refine ⟨a.add (lo.toNat * sz), cs, ?_, ?_, ?_⟩
  · unfold sliceA; rw [if_neg (by omega), e1]; rfl
  · rw [add_add, ← Nat.add_mul]; exact e2
  · simpa [Hw.sl] using e3
theorem sl_cap {lo hi : Int} {mx : Nat} (h1 : 0 ≤ lo) (h2 : lo ≤ hi) (h3 : hi ≤ (l.length : Int)) (h4 : hi.toNat ≤ mx) : (sl l lo hi).length ≤ mx - Int.toNat lo := by rw [← sl_len h1 h2 h3]; omega
theorem OS.sl {lo hi : Int} {mx : Nat} (o : OS W h0 sz E h m A l c) (h1 : 0 ≤ lo) (h2 : lo ≤ hi) (h3 : hi ≤ (l.length : Int)) (h4 : hi.toNat ≤ mx) (h5 : mx ≤ c) : OS W h0 sz E h m (sliceA A (Int.toNat lo) mx sz) (sl l lo hi) (mx - Int.toNat lo) := by
  rcases o with ⟨rfl, rfl⟩ | ⟨b, t, pre, cs, rest, rfl, k1, k2, k3, k4, k5⟩
  · exact .inl ⟨by unfold Hw.sl; simp, by omega⟩
  by_cases hm : mx = lo.toNat
  · refine .inl ⟨List.length_eq_zero_iff.1 (by rw [← sl_len h1 h2 h3]; omega), by omega⟩
  have hl := k2.len
  have e1 : (cs.take (lo.toNat * sz)).length = lo.toNat * sz := by
    rw [List.length_take, hl]; have := Nat.mul_le_mul_right sz (show lo.toNat ≤ l.length by omega); omega
  have e2 : hi.toNat * sz ≤ l.length * sz := Nat.mul_le_mul_right _ (by omega)
  have e3 : lo.toNat * sz ≤ hi.toNat * sz := Nat.mul_le_mul_right _ (by omega)
  refine .inr ⟨b, t, pre ++ cs.take (lo.toNat * sz), (cs.take (hi.toNat * sz)).drop (lo.toNat * sz), cs.drop (hi.toNat * sz) ++ rest, ?_, ?_, ?_, sl_cap h1 h2 h3 h4, ?_, k5⟩
  · unfold sliceA
    rw [if_neg hm, Option.map_some, List.length_append, e1]
    unfold Addr.add
    split
    · rename_i h9; rw [h9]; rfl
    · rfl
  · have : pre ++ cs.take (lo.toNat * sz) ++ (cs.take (hi.toNat * sz)).drop (lo.toNat * sz) ++ (cs.drop (hi.toNat * sz) ++ rest) = pre ++ cs ++ rest := by
      have e4 : cs.take (lo.toNat * sz) = (cs.take (hi.toNat * sz)).take (lo.toNat * sz) := by rw [List.take_take, Nat.min_eq_left e3]
      rw [e4, List.append_assoc pre, List.take_append_drop, ← List.append_assoc, List.append_assoc pre, List.take_append_drop]
    rw [this]; exact k1
  · exact (k2.take hi.toNat).drop lo.toNat
  · rw [List.length_append, List.length_drop, hl, ← sl_len h1 h2 h3]
    have e5 : (mx - lo.toNat - (hi.toNat - lo.toNat)) * sz + hi.toNat * sz ≤ c * sz := by rw [← Nat.add_mul]; exact Nat.mul_le_mul_right _ (by omega)
    have e6 : (c - l.length) * sz + l.length * sz = c * sz := by rw [← Nat.add_mul, Nat.sub_add_cancel k3]
    omega
theorem zc_len {z : Array Value} {n : Nat} : (zcells z n).toList.length = n * z.size := by rw [Array.length_toList, zcells_size]
def Src (sz : Nat) (E : Heap → α → List Value → Prop) (h m : Heap) (x : Value) (xs : List α) : Prop := ∃ es, srcCells sz x h = some (xs.length, es) ∧ CsE sz E m xs es
theorem Rd.srcE (r : Rd sz E m A l) (T : Tell sz E) (s : Sub m h) (hn : n = l.length) : Src sz E h m (.slice A n c) l := by
  subst hn
  cases A with
  | none =>
    have : l = [] := by
      cases l with
      | nil => rfl
      | cons x l => obtain ⟨a, _, h1, _⟩ := r 0 (by simp); cases h1
    subst this
    exact ⟨[], rfl, rfl⟩
  | some a =>
    obtain ⟨es, h1, h2⟩ := Rd.cse T r
    exact ⟨es, by simp only [srcCells, s.cells _ _ h1, Option.map_some], h2⟩
theorem OS.srcE {c' : Nat} (o : OS W h0 sz E h m A l c) (hn : n = l.length) : Src sz E h m (.slice A n c') l := by
  subst hn
  rcases o with ⟨rfl, rfl⟩ | ⟨b, t, pre, cs, rest, rfl, k1, k2, k3, k4, k5⟩
  · refine ⟨[], ?_, rfl⟩
    cases A with
    | none => rfl
    | some a => simp [srcCells, cellsH]
  · refine ⟨cs, ?_, k2⟩
    have hl := k2.len
    have := k1.cells (a := ⟨b, pre.length, none⟩) rfl rfl (l.length * sz) 0 (by simp [hl])
    simp only [srcCells, this, Nat.add_zero]
    rw [List.append_assoc, List.drop_left, List.take_append_of_le_length (by omega), List.take_of_length_le (by omega)]; rfl
def ap (B : Nat) (l xs : List α) : Option (List α) := if (l.length + xs.length) * B ≤ 140737488355328 then some (l ++ xs) else none
theorem ap_e {B : Nat} {l xs l' : List α} (g : ap B l xs = some l') : (l.length + xs.length) * B ≤ 140737488355328 ∧ l ++ xs = l' := by
  unfold ap at g
  obtain ⟨h, k⟩ := guard_e g
  exact ⟨h, Option.some.inj k⟩
def sls (l : List α) (lo hi : Int) : Option (List α) := if 0 ≤ lo ∧ lo ≤ hi ∧ hi ≤ (l.length : Int) then some (sl l lo hi) else none
theorem sls_e {lo hi : Int} {l' : List α} (g : sls l lo hi = some l') : 0 ≤ lo ∧ lo ≤ hi ∧ hi ≤ (l.length : Int) ∧ Int.toNat hi - Int.toNat lo = l'.length ∧ l' = Hw.sl l lo hi := by
  unfold sls at g
  obtain ⟨h, k⟩ := guard_e g
  cases k
  exact ⟨h.1, h.2.1, h.2.2, sl_len h.1 h.2.1 h.2.2, rfl⟩
theorem Rd.sls {lo hi : Int} {mx : Nat} {l' : List α} (r : Rd sz E m A l) (g : sls l lo hi = some l') (h4 : hi.toNat ≤ mx) : Rd sz E m (sliceA A (Int.toNat lo) mx sz) l' := by
  obtain ⟨h1, h2, h3, _, rfl⟩ := sls_e g
  exact r.sl h1 h2 h3 h4
theorem OS.sls {lo hi : Int} {mx : Nat} {l' : List α} (o : OS W h0 sz E h m A l c) (g : Hw.sls l lo hi = some l') (h4 : hi.toNat ≤ mx) (h5 : mx ≤ c) : OS W h0 sz E h m (sliceA A (Int.toNat lo) mx sz) l' (mx - Int.toNat lo) := by
  obtain ⟨h1, h2, h3, _, rfl⟩ := sls_e g
  exact o.sl h1 h2 h3 h4 h5
def mks (B : Int) (x : Int) (z : α) : Option (List α) := if 0 ≤ x ∧ x * B ≤ 140737488355328 ∧ x ≤ 9223372036854775807 then some (List.replicate x.toNat z) else none
theorem mks_e {B : Int} {z : α} {l' : List α} (g : mks B x z = some l') : 0 ≤ x ∧ x * B ≤ 140737488355328 ∧ x ≤ 9223372036854775807 ∧ Int.toNat x = l'.length ∧ l' = List.replicate x.toNat z := by
  unfold mks at g
  obtain ⟨h, k⟩ := guard_e g
  cases k
  exact ⟨h.1, h.2.1, h.2.2, by simp, rfl⟩
theorem mkCells_flat {zc : Array Value} (hz : zc.size = sz) : ∀ n : Nat, (mkCells zc (n * sz)).toList = (List.replicate n zc.toList).flatten := by
  intro n
  unfold mkCells
  apply List.ext_getElem
  · simp [hz]
  · intro i h1 h2
    simp only [Array.toList_map, Array.toList_range, List.getElem_map, List.getElem_range]
    have hi : i < n * sz := by simpa using h1
    have : ∀ (n i : Nat) (hi : i < n * sz) (h2 : i < (List.replicate n zc.toList).flatten.length), zc[i % zc.size]! = (List.replicate n zc.toList).flatten[i] := by
      intro n
      induction n with
      | zero => intro i hi; simp at hi
      | succ n ih =>
        intro i hi h2
        simp only [List.replicate_succ, List.flatten_cons]
        by_cases hlt : i < zc.toList.length
        · rw [List.getElem_append_left hlt]
          have hlt' : i < zc.size := by simpa using hlt
          rw [Nat.mod_eq_of_lt hlt', getElem!_pos zc i hlt']; simp
        · have hge : sz ≤ i := by simpa [hz] using hlt
          rw [List.getElem_append_right (by rw [Array.length_toList, hz]; exact hge)]
          have e1 : i % zc.size = (i - zc.toList.length) % zc.size := by
            rw [Array.length_toList, hz]; exact (Nat.mod_eq_sub_mod hge)
          rw [e1]
          exact ih (i - zc.toList.length) (by rw [Array.length_toList, hz]; rw [Nat.succ_mul] at hi; omega) _
    exact this n i hi h2
theorem le_mx {hi : Int} (h1 : hi ≤ (l.length : Int)) (h2 : l.length ≤ c) : hi.toNat ≤ c := by omega
theorem sls_cap {lo hi : Int} {l' : List α} (g : Hw.sls l lo hi = some l') (h2 : l.length ≤ c) : l'.length ≤ c - Int.toNat lo := by
  obtain ⟨h1, h3, h4, h5, _⟩ := sls_e g
  omega
theorem OS.newNo {h' : Heap} (o : OS No h sz E h' m' A l c) : ∀ b, fp A c b → h.size ≤ b := fun b hb => (o.wr b hb).elim id (fun h => h.elim)
end
end Go.Hw

end
section
namespace Go.Hw
open Go
section
variable {α : Type} {sz : Nat} {E : Heap → α → List Value → Prop} {m m' h h' h0 m0 : Heap} {A : Option Addr} {l : List α} {c n k : Nat} {x : Int} {W : Nat → Prop}
theorem Rd.void (r : Rd sz E m none l) : l = [] := by
  cases l with
  | nil => rfl
  | cons x l => obtain ⟨a, _, h1, _⟩ := r 0 (by simp); cases h1
def gro (B : Nat) (x : Int) : Bool := decide (0 ≤ x ∧ x * (B : Int) ≤ 140737488355328)
theorem grow_nil {e : TypeId} {bytes : Nat} {z : Array Value} {R : Value → Heap → Prop} (S : St W h0 m0 h m) (hz : z.size = sz) (hb0 : 0 < bytes) (g : gro bytes x = true)
    (hk : ∀ A' c' h', OS W h0 sz E h' m A' ([] : List α) c' → Ext h h' → R (.slice A' 0 c') h') :
    splitB (decide ((IntKind.wrap .i64 (x - (IntKind.wrap .i64 (((0 : Nat) : Int) - ((0 : Nat) : Int))))) > (0 : Int))) (0 ≤ (0 : Int) ∧ (0 : Int) ≤ ((0 : Nat) : Int) ∧ ((0 : Nat) : Int) ≤ ((0 : Nat) : Int) ∧
      (AppZ e sz bytes z (sliceA none (Int.toNat (0 : Int)) 0 sz) (Int.toNat ((0 : Nat) : Int) - Int.toNat (0 : Int)) (0 - Int.toNat (0 : Int)) (Value.int .i64 (IntKind.wrap .i64 (x - (IntKind.wrap .i64 (((0 : Nat) : Int) - ((0 : Nat) : Int)))))) h fun v1 h2 =>
        ∃ A3, ∃ n3, ∃ c3, v1 = (Value.slice A3 n3 c3) ∧ 0 ≤ (0 : Int) ∧ (0 : Int) ≤ ((0 : Nat) : Int) ∧ ((0 : Nat) : Int) ≤ ((c3 : Nat) : Int) ∧ (R (Value.slice (sliceA A3 (Int.toNat (0 : Int)) c3 sz) (Int.toNat ((0 : Nat) : Int) - Int.toNat (0 : Int)) (c3 - Int.toNat (0 : Int))) h2)))
      (R (Value.slice none 0 0) h) := by
  unfold gro at g
  obtain ⟨g1, g2⟩ := of_decide_eq_true g
  obtain ⟨k, rfl⟩ : ∃ k : Nat, x = k := ⟨x.toNat, by omega⟩
  have gN : k * bytes ≤ 140737488355328 := by
    have : ((k * bytes : Nat) : Int) = (k : Int) * (bytes : Int) := by push_cast; rfl
    omega
  have hk1 : k ≤ 140737488355328 := Nat.le_trans (Nat.le_mul_of_pos_right _ hb0) gN
  have hw : (IntKind.wrap .i64 ((k : Int) - (IntKind.wrap .i64 (((0 : Nat) : Int) - ((0 : Nat) : Int))))) = (k : Int) := by
    rw [show (IntKind.wrap .i64 (((0 : Nat) : Int) - ((0 : Nat) : Int))) = 0 from rfl]
    rw [wrap_in (by omega) (by omega)]; omega
  rw [hw]
  have nul : ∀ (A' : Option Addr) (c' : Nat), sliceA A' (Int.toNat (0 : Int)) c' sz = A' := by
    intro A' c'
    unfold sliceA
    split
    · rfl
    · cases A' with
      | none => rfl
      | some a => simp [Addr.add]
  refine split_dec (fun hp => ⟨by decide, by decide, by decide, ?_⟩) (fun _ => hk _ _ _ (.inl ⟨rfl, rfl⟩) (.refl _))
  refine ⟨.i64, k, rfl, gN, by omega, .inr ⟨?_, ?_, hb0, ?_, [], ?_, fun c' hc' => ?_⟩⟩
  · show 0 < 0 + k; omega
  · show (0 + k) * bytes ≤ _; rw [Nat.zero_add]; exact gN
  · show 0 + k ≤ _; omega
  · show oldCells sz (sliceA none (Int.toNat (0 : Int)) 0 sz) 0 h = some []
    rw [nul]; rfl
  · refine ⟨_, _, _, rfl, by decide, by decide, Int.natCast_nonneg _, ?_⟩
    rw [nul]
    have e1 := Ext.push h (Obj.cells (([] : List Value).toArray ++ (if k * sz = 0 then [] else (zcells z k).toList).toArray ++ zcells z (c' - (0 + k))) e)
    refine hk _ c' _ (.inr ⟨h.size, e, [], [], (if k * sz = 0 then [] else (zcells z k).toList) ++ (zcells z (c' - (0 + k))).toList, rfl, ?_, rfl, Nat.zero_le _, ?_, .inl S.size, St.notLive S.s⟩) e1
    · have := Blk.new h (([] : List Value).toArray ++ (if k * sz = 0 then [] else (zcells z k).toList).toArray ++ zcells z (c' - (0 + k))) e
      simpa using this
    · rw [List.length_append, zc_len, hz]
      have hc2 : k ≤ c' := by
        have : (Int.toNat ((0 : Nat) : Int) - Int.toNat (0 : Int)) + k ≤ c' := hc'
        simpa using this
      have e2 : (if k * sz = 0 then ([] : List Value) else (zcells z k).toList).length = k * sz := by
        by_cases hz0 : k * sz = 0
        · rw [if_pos hz0, hz0]; rfl
        · rw [if_neg hz0, zc_len, hz]
      rw [e2, ← Nat.add_mul]
      exact Nat.mul_le_mul_right _ (by simp; omega)
end
section
variable {α : Type} {sz : Nat} {E : Heap → α → List Value → Prop} {m m' mL h h' h0 m0 : Heap} {A : Option Addr} {l : List α} {c b : Nat} {cs : List Value} {t : TypeId} {W W' : Nat → Prop}
theorem St.unlend (T : St W' h mL h' m') (s : Sub m h) (hd : ∀ b, W' b → ¬ Live m b) : St W' h m h' m where
  up := .refl _
  s b o h1 h2 := by
    rw [T.fr b (s.lt ⟨o, h1, h2⟩) (fun hw => hd b hw ⟨o, h1, h2⟩)]; exact s b o h1 h2
  size := T.size
  fr := T.fr
  lv b _ hl := .inl hl
end
section
variable {κ ν : Type} [DecidableEq κ] {h h' m m' h0 m0 : Heap} {b : Nat} {W W' : Nat → Prop} {kv : κ → Value} {es : List (κ × ν)} {vs : List (κ × Value)} {k : κ} {x zv : ν} {v z : Value} {P : Program} {t elem : TypeId} {sz : Nat}
def MonoV (EV : Heap → ν → Value → Prop) : Prop := ∀ m h x v, Sub m h → EV m x v → EV h x v
variable {EV : Heap → ν → Value → Prop}
end
section
variable {H : Type} {enc : TypeId × Value → H} {P : Program} {W : World}
theorem tells_i64 {t : TypeId} (hu : P.underlying t = some (.int .i64)) : Tells enc P W t (eInt .i64) (fun x => -9223372036854775808 ≤ x ∧ x ≤ 9223372036854775807) := tells_map (tells_int hu) fun a _ h q => ⟨a, h, wf_i64 q⟩
theorem tells_sliceL {α : Type} {t e : TypeId} {sz B : Nat} {E : Heap → α → List Value → Prop} {Q : α → Prop} (hu : P.underlying t = some (.slice e)) (hc : P.cellsOf e = sz) (hB : P.bytesOf e = B) (he : Tells enc P W e E Q) :
    Tells enc P W t (eRow sz E) (fun l => l.length * B ≤ 140737488351232 ∧ ∀ a ∈ l, Q a) := tells_map (tells_slice hu hc hB he) fun a _ h q => ⟨a, h, q⟩
end
end Go.Hw

end
section
namespace Go.Hw
open Go
section
variable {α β : Type}
theorem ap_of {B : Nat} {l xs : List α} (h : (l.length + xs.length) * B ≤ 140737488355328) : ap B l xs = some (l ++ xs) := by unfold ap; rw [if_pos h]
theorem ap_nil {B : Nat} {xs : List α} (h : xs.length * B ≤ 140737488355328) : ap B ([] : List α) xs = some xs := by rw [ap_of (by simpa using h)]; rfl
theorem ap_one {B : Nat} {l : List α} {x : α} (h : (l.length + 1) * B ≤ 140737488355328) : ap B l [x] = some (l ++ [x]) := ap_of (by simpa using h)
theorem gi_at {l : List α} {k : Nat} (h : k < l.length) : gi l (k : Int) = some l[k] := by rw [gi_nat]; exact List.getElem?_eq_getElem h
theorem sls_of {l : List α} {lo hi : Int} (h1 : 0 ≤ lo) (h2 : lo ≤ hi) (h3 : hi ≤ (l.length : Int)) : sls l lo hi = some (sl l lo hi) := by unfold sls; rw [if_pos ⟨h1, h2, h3⟩]
theorem sls_take {l : List α} {k : Nat} {x : Int} (hx : x = k) (h : k ≤ l.length) : sls l 0 x = some (l.take k) := by subst hx; rw [sls_of (by omega) (by omega) (by omega), sl_hi]; rfl
theorem sls_drop {l : List α} {k : Nat} {x : Int} (hx : x = k) (h : k ≤ l.length) : sls l x (l.length : Int) = some (l.drop k) := by subst hx; rw [sls_of (by omega) (by omega) (by omega), sl_lo]; rfl
theorem mks_of {B : Int} {z : α} {k : Nat} {x : Int} (hx : x = k) (h : (k : Int) * B ≤ 140737488355328) (h2 : (k : Int) ≤ 9223372036854775807) : mks B x z = some (List.replicate k z) := by subst hx; unfold mks; rw [if_pos ⟨by omega, h, h2⟩]; rfl
theorem w_succ {k : Nat} (h : k < 9223372036854775807) : IntKind.wrap .i64 ((k : Int) + 1) = ((k + 1 : Nat) : Int) := by rw [wrap_in (by omega) (by omega)]; rfl
theorem find_val {f : List α → (α → Option Bool) → Int → Int → Option Int}
    (hf : ∀ a p n i, f a p n i = if i < n then (Option.bind (gi a i) fun y => Option.bind (p y) fun b => if b = true then some i else f a p n (IntKind.wrap .i64 (i + 1))) else some (-1))
    {l : List α} {p : α → Option Bool} (q : α → Bool) (hp : ∀ x ∈ l, p x = some (q x)) (hl : l.length ≤ 4611686018427387904) : f l p (l.length : Int) 0 = some (idxOf q l) := by
  have key : ∀ (d k : Nat), k + d = l.length → (∀ x ∈ l.take k, q x = false) → f l p (l.length : Int) (k : Int) = some (idxOf q l) := by
    intro d
    induction d with
    | zero =>
      intro k hk hn
      rw [hf, if_neg (by omega)]
      have : l.findIdx? q = none := by
        rw [List.findIdx?_eq_none_iff]
        rw [List.take_of_length_le (by omega)] at hn
        exact hn
      simp [idxOf, this]
    | succ d ih =>
      intro k hk hn
      have hlt : k < l.length := by omega
      rw [hf, if_pos (by omega), gi_at hlt, Option.bind_some, hp _ (List.getElem_mem hlt), Option.bind_some]
      by_cases hq : q l[k] = true
      · rw [if_pos hq]
        have : l.findIdx? q = some k := by
          rw [List.findIdx?_eq_some_iff_getElem]
          refine ⟨hlt, hq, fun j hj => ?_⟩
          have := hn l[j] (by rw [List.mem_take_iff_getElem]; exact ⟨j, by omega, rfl⟩)
          simp [this]
        simp [idxOf, this]
      · rw [if_neg hq, w_succ (by omega)]
        refine ih (k + 1) (by omega) (fun x hx => ?_)
        rw [List.take_succ_eq_append_getElem hlt] at hx
        rcases List.mem_append.1 hx with hx | hx
        · exact hn x hx
        · simp at hx; subst hx; simpa using hq
  exact key l.length 0 (by omega) (fun x hx => by simp at hx)
theorem findB_val {f : List α → (α → Option Bool) → Int → Int → Option Int} {g : List α → (α → Option Bool) → Option Int} {c : List α → (α → Option Bool) → Option Bool}
    (hf : ∀ a p n i, f a p n i = if i < n then (Option.bind (gi a i) fun y => Option.bind (p y) fun b => if b = true then some i else f a p n (IntKind.wrap .i64 (i + 1))) else some (-1))
    (hg : ∀ a p, g a p = f a p (a.length : Int) 0) (hc : ∀ a p, c a p = Option.bind (g a p) fun y => some (decide (y ≥ 0)))
    {l : List α} {p : α → Option Bool} (q : α → Bool) (hp : ∀ x ∈ l, p x = some (q x)) (hl : l.length ≤ 4611686018427387904) : c l p = some (l.any q) := by
  rw [hc, hg, find_val hf q hp hl, Option.bind_some, idxOf_ge]
theorem equal_val {R : α → α → Prop} [DecidableRel R] {f : List α → List α → Int → Int → Option Bool} {g : List α → List α → Option Bool}
    (hf : ∀ a b n i, f a b n i = if i < n then (Option.bind (gi a i) fun x => Option.bind (gi b i) fun y => if R x y then f a b n (IntKind.wrap .i64 (i + 1)) else some false) else some true)
    (hg : ∀ a b, g a b = if ((a.length : Nat) : Int) = ((b.length : Nat) : Int) then f a b (a.length : Int) 0 else some false) (hR : ∀ x y, R x y ↔ x = y)
    (l m : List α) (hl : l.length ≤ 4611686018427387904) : ∃ b, g l m = some b ∧ (b = true ↔ l = m) := by
  rw [hg]
  by_cases hlen : l.length = m.length
  · rw [if_pos (by omega)]
    have key : ∀ (d k : Nat), k + d = l.length → l.take k = m.take k → ∃ b, f l m (l.length : Int) (k : Int) = some b ∧ (b = true ↔ l = m) := by
      intro d
      induction d with
      | zero =>
        intro k hk he
        rw [List.take_of_length_le (by omega), List.take_of_length_le (by omega)] at he
        exact ⟨true, by rw [hf, if_neg (by omega)], by simp [he]⟩
      | succ d ih =>
        intro k hk he
        have h1 : k < l.length := by omega
        have h2 : k < m.length := by omega
        rw [hf, if_pos (by omega), gi_at h1, Option.bind_some, gi_at h2, Option.bind_some]
        by_cases hr : R l[k] m[k]
        · rw [if_pos hr, w_succ (by omega)]
          exact ih (k + 1) (by omega) (by rw [List.take_succ_eq_append_getElem h1, List.take_succ_eq_append_getElem h2, he, (hR _ _).1 hr])
        · rw [if_neg hr]
          refine ⟨false, rfl, by simp; intro e; exact hr ((hR _ _).2 (by simp [e]))⟩
    exact key l.length 0 (by omega) (by simp)
  · rw [if_neg (by omega)]
    exact ⟨false, rfl, by simp; intro e; exact hlen (by rw [e])⟩
theorem equalFunc_val {f : List α → List β → (α → β → Option Bool) → Int → Int → Option Bool} {g : List α → List β → (α → β → Option Bool) → Option Bool}
    (hf : ∀ a b p n i, f a b p n i = if i < n then (Option.bind (gi a i) fun x => Option.bind (gi b i) fun y => Option.bind (p x y) fun t => if t = true then f a b p n (IntKind.wrap .i64 (i + 1)) else some false) else some true)
    (hg : ∀ a b p, g a b p = if ((a.length : Nat) : Int) = ((b.length : Nat) : Int) then f a b p (a.length : Int) 0 else some false)
    {l : List α} {m : List β} {p : α → β → Option Bool} (q : α → β → Bool) (hp : ∀ x ∈ l, ∀ y ∈ m, p x y = some (q x y)) (hl : l.length ≤ 4611686018427387904) :
    g l m p = some (decide (l.length = m.length) && (l.zip m).all fun x => q x.1 x.2) := by
  rw [hg]
  by_cases hlen : l.length = m.length
  · rw [if_pos (by omega), decide_eq_true hlen, Bool.true_and]
    have key : ∀ (d k : Nat), k + d = l.length → (∀ x ∈ (l.zip m).take k, q x.1 x.2 = true) → f l m p (l.length : Int) (k : Int) = some ((l.zip m).all fun x => q x.1 x.2) := by
      intro d
      induction d with
      | zero =>
        intro k hk he
        rw [hf, if_neg (by omega)]
        rw [List.take_of_length_le (by simp; omega)] at he
        have : ((l.zip m).all fun x => q x.1 x.2) = true := by rw [List.all_eq_true]; exact he
        rw [this]
      | succ d ih =>
        intro k hk he
        have h1 : k < l.length := by omega
        have h2 : k < m.length := by omega
        have h3 : k < (l.zip m).length := by simp; omega
        rw [hf, if_pos (by omega), gi_at h1, Option.bind_some, gi_at h2, Option.bind_some, hp _ (List.getElem_mem h1) _ (List.getElem_mem h2), Option.bind_some]
        by_cases hq : q l[k] m[k] = true
        · rw [if_pos hq, w_succ (by omega)]
          refine ih (k + 1) (by omega) (fun x hx => ?_)
          rw [List.take_succ_eq_append_getElem h3] at hx
          rcases List.mem_append.1 hx with hx | hx
          · exact he x hx
          · simp at hx; subst hx; exact hq
        · rw [if_neg hq]
          have : ((l.zip m).all fun x => q x.1 x.2) = false := by
            rw [Bool.eq_false_iff]
            intro hh
            rw [List.all_eq_true] at hh
            have := hh _ (List.getElem_mem h3)
            simp at this; exact hq this
          rw [this]
    exact key l.length 0 (by omega) (fun x hx => by simp at hx)
  · rw [if_neg (by omega), decide_eq_false hlen, Bool.false_and]
theorem concat_val {B : Nat} (hB : 0 < B) {f1 : List α → List (List α) → Int → Int → Option (List α)} {f0 : List (List α) → Int → List (List α) → Int → Int → Option (List α)} {gr : Int → Option (List α)} {g : List (List α) → Option (List α)}
    (h1 : ∀ r a n i, f1 r a n i = if i < n then (Option.bind (gi a i) fun y => Option.bind (ap B r y) fun l => f1 l a n (IntKind.wrap .i64 (i + 1))) else some r)
    (h0 : ∀ a s b n i, f0 a s b n i = if i < n then (Option.bind (gi b i) fun y => if IntKind.wrap .i64 (s + ((y.length : Nat) : Int)) < 0 then none else f0 a (IntKind.wrap .i64 (s + ((y.length : Nat) : Int))) b n (IntKind.wrap .i64 (i + 1))) else Option.bind (gr s) fun y => f1 y a (a.length : Int) 0)
    (hgr : ∀ x, gr x = if gro B x = true then some [] else none) (hg : ∀ a, g a = f0 a 0 a (a.length : Int) 0)
    (ls : List (List α)) (hl : ls.length ≤ 4611686018427387904) (hs : ls.flatten.length * B ≤ 140737488355328) : g ls = some ls.flatten := by
  have hs' : ls.flatten.length ≤ 140737488355328 := Nat.le_trans (Nat.le_mul_of_pos_right _ hB) hs
  have pre : ∀ k, (ls.take k).flatten.length ≤ ls.flatten.length := by
    intro k
    conv => rhs; rw [← List.take_append_drop k ls, List.flatten_append, List.length_append]
    omega
  have key1 : ∀ (d k : Nat), k + d = ls.length → f1 (ls.take k).flatten ls (ls.length : Int) (k : Int) = some ls.flatten := by
    intro d
    induction d with
    | zero => intro k hk; rw [h1, if_neg (by omega), List.take_of_length_le (by omega)]
    | succ d ih =>
      intro k hk
      have hlt : k < ls.length := by omega
      have e : (ls.take (k + 1)).flatten = (ls.take k).flatten ++ ls[k] := by rw [List.take_succ_eq_append_getElem hlt, List.flatten_append]; simp
      have hle := pre (k + 1)
      rw [e, List.length_append] at hle
      rw [h1, if_pos (by omega), gi_at hlt, Option.bind_some, ap_of (Nat.le_trans (Nat.mul_le_mul_right _ hle) hs), Option.bind_some, w_succ (by omega), ← e]
      exact ih (k + 1) (by omega)
  have key0 : ∀ (d k : Nat), k + d = ls.length → f0 ls (((ls.take k).flatten.length : Nat) : Int) ls (ls.length : Int) (k : Int) = some ls.flatten := by
    intro d
    induction d with
    | zero =>
      intro k hk
      rw [h0, if_neg (by omega), List.take_of_length_le (by omega), hgr, if_pos, Option.bind_some]
      · exact key1 ls.length 0 (by omega)
      · unfold gro
        rw [decide_eq_true_eq]
        refine ⟨by omega, ?_⟩
        have : ((ls.flatten.length * B : Nat) : Int) = (ls.flatten.length : Int) * (B : Int) := by push_cast; rfl
        omega
    | succ d ih =>
      intro k hk
      have hlt : k < ls.length := by omega
      have e : (ls.take (k + 1)).flatten = (ls.take k).flatten ++ ls[k] := by rw [List.take_succ_eq_append_getElem hlt, List.flatten_append]; simp
      have hle := pre (k + 1)
      have e2 : (ls.take (k + 1)).flatten.length = (ls.take k).flatten.length + ls[k].length := by rw [e, List.length_append]
      have e3 : IntKind.wrap .i64 ((((ls.take k).flatten.length : Nat) : Int) + ((ls[k].length : Nat) : Int)) = (((ls.take (k + 1)).flatten.length : Nat) : Int) := by
        rw [wrap_in (by omega) (by omega), e2]; push_cast; rfl
      rw [h0, if_pos (by omega), gi_at hlt, Option.bind_some, e3, if_neg (by omega), w_succ (by omega)]
      exact ih (k + 1) (by omega)
  rw [hg]
  exact key0 ls.length 0 (by omega)
end
section
open Go.RowKit
variable {H : Type} {enc : TypeId × Value → H} {P : Program} {W : World} {N : Nat}
end
end Go.Hw

end
section
set_option linter.unusedVariables false
namespace Go.Hw
open Go
abbrev Foot := Nat → Prop
def U (F G : Foot) : Foot := fun b => F b ∨ G b
section
variable {F G H F' G' : Foot}
theorem U.no_left : U No F = F := funext fun _ => propext ⟨fun h => h.elim (fun h => h.elim) id, .inr⟩
theorem U.no_right : U F No = F := funext fun _ => propext ⟨fun h => h.elim id (fun h => h.elim), .inl⟩
theorem U.assoc : U (U F G) H = U F (U G H) := funext fun _ => propext or_assoc
theorem U.comm : U F G = U G F := funext fun _ => propext or_comm
theorem U.left_comm : U F (U G H) = U G (U F H) := by rw [← U.assoc, U.comm (F := F), U.assoc]
theorem Dj.u (d : Dj F H) (d' : Dj G H) : Dj (U F G) H := fun b h k => h.elim (fun h => d b h k) (fun h => d' b h k)
theorem Dj.ul (d : Dj (U F G) H) : Dj F H := fun b h k => d b (.inl h) k
theorem Dj.ur (d : Dj (U F G) H) : Dj G H := fun b h k => d b (.inr h) k
theorem Dj.u' (d : Dj H F) (d' : Dj H G) : Dj H (U F G) := fun b k h => h.elim (fun h => d b k h) (fun h => d' b k h)
theorem Dj.ul' (d : Dj H (U F G)) : Dj H F := fun b k h => d b k (.inl h)
theorem Dj.ur' (d : Dj H (U F G)) : Dj H G := fun b k h => d b k (.inr h)
theorem Dj.no' : Dj F No := fun _ _ h => h
theorem Dj.mono (d : Dj F G) (h1 : ∀ b, F' b → F b) (h2 : ∀ b, G' b → G b) : Dj F' G' := fun b k l => d b (h1 b k) (h2 b l)
end
structure Res where
  p : Heap → Heap → Foot → Prop
  z : Heap → Prop
  lt : ∀ {h m F}, p h m F → ∀ b, F b → b < h.size
  nl : ∀ {h m F}, p h m F → ∀ b, F b → ¬ Live m b
  fr : ∀ {h m F h' m'}, p h m F → (∀ b, F b → h'[b]? = h[b]?) → Sub m m' → (∀ b, F b → ¬ Live m' b) → p h' m' F
  fz : ∀ {h m F G}, p h m F → Sub m h → (∀ b, F b → G b) → z (addV m h G)
def Res.vf (R : Res) : Prop := ∀ h m m' F, R.p h m F → Sub m' h → (∀ b, F b → ¬ Live m' b) → R.p h m' F
def rE : Res where
  p _ _ F := F = No
  z _ := True
  lt := by rintro h m F rfl b hb; exact hb.elim
  nl := by rintro h m F rfl b hb; exact hb.elim
  fr := fun h _ _ _ => h
  fz := fun _ _ _ => trivial
def rS (R R' : Res) : Res where
  p h m F := ∃ F1 F2, R.p h m F1 ∧ R'.p h m F2 ∧ Dj F1 F2 ∧ F = U F1 F2
  z m := R.z m ∧ R'.z m
  lt := by rintro h m F ⟨F1, F2, h1, h2, _, rfl⟩ b hb; exact hb.elim (R.lt h1 b) (R'.lt h2 b)
  nl := by rintro h m F ⟨F1, F2, h1, h2, _, rfl⟩ b hb; exact hb.elim (R.nl h1 b) (R'.nl h2 b)
  fr := by
    rintro h m F h' m' ⟨F1, F2, h1, h2, h3, rfl⟩ k1 k2 k3
    exact ⟨F1, F2, R.fr h1 (fun b hb => k1 b (.inl hb)) k2 (fun b hb => k3 b (.inl hb)), R'.fr h2 (fun b hb => k1 b (.inr hb)) k2 (fun b hb => k3 b (.inr hb)), h3, rfl⟩
  fz := by
    rintro h m F G ⟨F1, F2, h1, h2, h3, rfl⟩ k1 k2
    exact ⟨R.fz h1 k1 (fun b hb => k2 b (.inl hb)), R'.fz h2 k1 (fun b hb => k2 b (.inr hb))⟩
def Sep : List Res → Heap → Heap → Foot → Prop
  | [], _, _, F => F = No
  | R :: Rs, h, m, F => ∃ F1 F2, R.p h m F1 ∧ Sep Rs h m F2 ∧ Dj F1 F2 ∧ F = U F1 F2
def ZAll (m : Heap) : List Res → Prop
  | [] => True
  | R :: Rs => R.z m ∧ ZAll m Rs
def takeL : List Res → List Nat → List Res
  | _, [] => []
  | Rs, i :: is => (match Rs[i]? with | some R => R | none => rE) :: takeL (Rs.set i rE) is
def dropL : List Res → List Nat → List Res
  | Rs, [] => Rs
  | Rs, i :: is => dropL (Rs.set i rE) is
section
variable {h h' m m' : Heap} {F F1 F2 G : Foot} {Rs Rs' : List Res} {R R' : Res} {k : Nat}
theorem Sep.lt : ∀ {Rs : List Res} {F : Foot}, Sep Rs h m F → ∀ b, F b → b < h.size
  | [], _, hs, b, hb => by rw [show _ = No from hs] at hb; exact hb.elim
  | _ :: _, _, ⟨_, _, h1, h2, _, rfl⟩, b, hb => hb.elim (Res.lt _ h1 b) (Sep.lt h2 b)
theorem Sep.nl : ∀ {Rs : List Res} {F : Foot}, Sep Rs h m F → ∀ b, F b → ¬ Live m b
  | [], _, hs, b, hb => by rw [show _ = No from hs] at hb; exact hb.elim
  | _ :: _, _, ⟨_, _, h1, h2, _, rfl⟩, b, hb => hb.elim (Res.nl _ h1 b) (Sep.nl h2 b)
theorem Sep.fr : ∀ {Rs : List Res} {F : Foot}, Sep Rs h m F → (∀ b, F b → h'[b]? = h[b]?) → Sub m m' → (∀ b, F b → ¬ Live m' b) → Sep Rs h' m' F
  | [], _, hs, _, _, _ => hs
  | _ :: _, _, ⟨F1, F2, h1, h2, h3, rfl⟩, k1, k2, k3 => ⟨F1, F2, Res.fr _ h1 (fun b hb => k1 b (.inl hb)) k2 (fun b hb => k3 b (.inl hb)), Sep.fr h2 (fun b hb => k1 b (.inr hb)) k2 (fun b hb => k3 b (.inr hb)), h3, rfl⟩
theorem Sep.fz : ∀ {Rs : List Res} {F : Foot}, Sep Rs h m F → Sub m h → (∀ b, F b → G b) → ZAll (addV m h G) Rs
  | [], _, _, _, _ => trivial
  | _ :: _, _, ⟨F1, F2, h1, h2, h3, rfl⟩, k1, k2 => ⟨Res.fz _ h1 k1 (fun b hb => k2 b (.inl hb)), Sep.fz h2 k1 (fun b hb => k2 b (.inr hb))⟩
theorem Sep.vf : ∀ {Rs : List Res} {F : Foot}, Sep Rs h m F → (∀ R ∈ Rs, R.vf) → Sub m' h → (∀ b, F b → ¬ Live m' b) → Sep Rs h m' F
  | [], _, hs, _, _, _ => hs
  | R :: Rs, _, ⟨F1, F2, h1, h2, h3, rfl⟩, v, k1, k2 => ⟨F1, F2, v R (List.mem_cons_self ..) _ _ _ _ h1 k1 (fun b hb => k2 b (.inl hb)), Sep.vf h2 (fun R hR => v R (List.mem_cons_of_mem _ hR)) k1 (fun b hb => k2 b (.inr hb)), h3, rfl⟩
theorem Sep.get : ∀ {Rs : List Res} {F : Foot} {k : Nat}, Sep Rs h m F → Rs[k]? = some R → ∃ F1 F2, R.p h m F1 ∧ Sep (Rs.set k rE) h m F2 ∧ Dj F1 F2 ∧ F = U F1 F2
  | [], _, _, _, hk => by cases hk
  | R' :: Rs, _, 0, ⟨F1, F2, h1, h2, h3, e⟩, hk => by
    cases hk
    exact ⟨F1, F2, h1, ⟨No, F2, rfl, h2, .no, U.no_left.symm⟩, h3, e⟩
  | R' :: Rs, _, k + 1, ⟨F1, F2, h1, h2, h3, e⟩, hk => by
    obtain ⟨G1, G2, k1, k2, k3, rfl⟩ := Sep.get h2 (show Rs[k]? = some R by simpa using hk)
    refine ⟨G1, U F1 G2, k1, ⟨F1, G2, h1, k2, h3.ur', rfl⟩, ?_, ?_⟩
    · exact Dj.u' h3.ul'.symm k3
    · rw [e, U.left_comm]
theorem Sep.put : ∀ {Rs : List Res} {F2 : Foot} {k : Nat}, Sep Rs h m F2 → Rs[k]? = some rE → R'.p h m F1 → Dj F1 F2 → Sep (Rs.set k R') h m (U F1 F2)
  | [], _, _, _, hk, _, _ => by cases hk
  | R :: Rs, _, 0, ⟨G1, G2, h1, h2, h3, e⟩, hk, hp, d => by
    cases hk
    have : G1 = No := h1
    subst this
    rw [U.no_left] at e
    subst e
    exact ⟨F1, _, hp, h2, d, rfl⟩
  | R :: Rs, _, k + 1, ⟨G1, G2, h1, h2, h3, e⟩, hk, hp, d => by
    subst e
    have := Sep.put h2 (show Rs[k]? = some rE by simpa using hk) hp d.ur'
    exact ⟨G1, _, h1, this, Dj.u' d.ul'.symm h3, by rw [U.left_comm]⟩
theorem Sep.app : ∀ {Rs : List Res} {F : Foot}, Sep Rs h m F → Sep Rs' h m G → Dj F G → Sep (Rs ++ Rs') h m (U F G)
  | [], _, hs, hs', _ => by rw [show _ = No from hs, U.no_left]; exact hs'
  | R :: Rs, _, ⟨F1, F2, h1, h2, h3, e⟩, hs', d => by
    subst e
    exact ⟨F1, _, h1, Sep.app h2 hs' d.ur, Dj.u' h3 d.ul, U.assoc⟩
theorem Sep.one (hp : R.p h m F) : Sep [R] h m F := ⟨F, No, hp, rfl, .no', U.no_right.symm⟩
theorem set_rE (hk : Rs[k]? = some R) : (Rs.set k rE)[k]? = some rE := by
  have : k < Rs.length := (List.getElem?_eq_some_iff.1 hk).1
  rw [List.getElem?_set_self this]
theorem Sep.part : ∀ (is : List Nat) {Rs : List Res} {F : Foot}, Sep Rs h m F → ∃ F1 F2, Sep (takeL Rs is) h m F1 ∧ Sep (dropL Rs is) h m F2 ∧ Dj F1 F2 ∧ F = U F1 F2
  | [], Rs, F, hs => ⟨No, F, rfl, hs, .no, U.no_left.symm⟩
  | i :: is, Rs, F, hs => by
    cases hi : Rs[i]? with
    | none =>
      have : Rs.set i rE = Rs := List.set_eq_of_length_le (List.getElem?_eq_none_iff.1 hi)
      obtain ⟨F1, F2, h1, h2, h3, h4⟩ := Sep.part is (Rs := Rs.set i rE) (by rw [this]; exact hs)
      refine ⟨F1, F2, ?_, h2, h3, h4⟩
      simp only [takeL, hi]
      exact ⟨No, F1, rfl, h1, .no, U.no_left.symm⟩
    | some R =>
      obtain ⟨G1, G2, k1, k2, k3, rfl⟩ := Sep.get hs hi
      obtain ⟨F1, F2, h1, h2, h3, rfl⟩ := Sep.part is k2
      refine ⟨U G1 F1, F2, ?_, h2, Dj.u k3.ur' h3, U.assoc.symm⟩
      simp only [takeL, hi]
      exact ⟨G1, F1, k1, h1, k3.ul', rfl⟩
end
structure Hold (W : Foot) (h0 m0 h m : Heap) (Rs : List Res) : Prop where
  S : St W h0 m0 h m
  q : ∃ F, Sep Rs h m F ∧ ∀ b, F b → h0.size ≤ b ∨ W b
section
variable {h0 m0 h h' m m' : Heap} {W F F' G : Foot} {Rs Rs' : List Res} {R R' : Res} {k : Nat}
theorem Hold.s (O : Hold W h0 m0 h m Rs) : Sub m h := O.S.s
theorem Hold.up (O : Hold W h0 m0 h m Rs) : Sub m0 m := O.S.up
theorem Hold.start (s : Sub m h) : Hold W h m h m [] := ⟨.refl s, No, rfl, fun _ h => h.elim⟩
theorem St.frame (T : St F h m h' m') (h2 : Dj F G) (h3 : ∀ b, G b → b < h.size) (h4 : ∀ b, G b → ¬ Live m b) : (∀ b, G b → h'[b]? = h[b]?) ∧ ∀ b, G b → ¬ Live m' b :=
  ⟨fun b hb => T.fr b (h3 b hb) (fun hf => h2 b hf hb), fun b hb hl => (T.lv b (h3 b hb) hl).elim (h4 b hb) (fun hf => h2 b hf hb)⟩
theorem Hold.get (O : Hold W h0 m0 h m Rs) (k : Nat) (hk : Rs[k]? = some R) : ∃ F, R.p h m F ∧ (∀ b, F b → h0.size ≤ b ∨ W b) ∧
    ∀ {h' m' : Heap} {R' : Res} {F' : Foot}, St F h m h' m' → R'.p h' m' F' → (∀ b, F' b → F b ∨ h.size ≤ b) → Hold W h0 m0 h' m' (Rs.set k R') := by
  obtain ⟨S, FF, hs, hw⟩ := O
  obtain ⟨F1, F2, h1, h2, h3, rfl⟩ := hs.get hk
  refine ⟨F1, h1, fun b hb => hw b (.inl hb), fun {h' m' R' F'} T hp hn => ?_⟩
  obtain ⟨f1, f2⟩ := T.frame h3 h2.lt h2.nl
  have s2 := Sep.fr h2 f1 T.up f2
  have d : Dj F' F2 := fun b hb hc => (hn b hb).elim (fun hf => h3 b hf hc) (fun hl => by have := h2.lt b hc; omega)
  have := Sep.put s2 (set_rE hk) hp d
  rw [List.set_set] at this
  refine ⟨S.then T (fun b _ hb => hw b (.inl hb)), _, this, fun b hb => hb.elim (fun hb => (hn b hb).elim (fun hf => hw b (.inl hf)) (fun hl => .inl (Nat.le_trans S.size hl))) (fun hb => hw b (.inr hb))⟩
theorem Hold.add (O : Hold W h0 m0 h m Rs) (T : St No h m h' m') (hp : R.p h' m' F') (hn : ∀ b, F' b → h.size ≤ b) : Hold W h0 m0 h' m' (Rs ++ [R]) := by
  obtain ⟨S, F, hs, hw⟩ := O
  obtain ⟨f1, f2⟩ := T.frame (G := F) .no hs.lt hs.nl
  refine ⟨S.grow T, _, (Sep.fr hs f1 T.up f2).app (.one hp) (fun b hb hc => by have := hs.lt b hb; have := hn b hc; omega), fun b hb => hb.elim (hw b) (fun hb => .inl (Nat.le_trans S.size (hn b hb)))⟩
theorem Hold.grow (O : Hold W h0 m0 h m Rs) (T : St No h m h' m') : Hold W h0 m0 h' m' Rs := by
  obtain ⟨S, F, hs, hw⟩ := O
  obtain ⟨f1, f2⟩ := T.frame (G := F) .no hs.lt hs.nl
  exact ⟨S.grow T, F, Sep.fr hs f1 T.up f2, hw⟩
theorem Hold.ext (O : Hold W h0 m0 h m Rs) (e : Ext h h') : Hold W h0 m0 h' m Rs := O.grow (St.of_ext O.s e)
theorem Hold.adds (O : Hold W h0 m0 h m Rs) (hp : R.p h m No) : Hold W h0 m0 h m (Rs ++ [R]) := O.add (.refl O.s) hp (fun _ h => h.elim)
theorem Hold.conv (O : Hold W h0 m0 h m Rs) (k : Nat) (hk : Rs[k]? = some R) (H : ∀ F, R.p h m F → ∃ F', R'.p h m F' ∧ ∀ b, F' b → F b) : Hold W h0 m0 h m (Rs.set k R') := by
  obtain ⟨F, h1, _, h3⟩ := O.get k hk
  obtain ⟨F', h4, h5⟩ := H F h1
  exact h3 (.refl O.s) h4 (fun b hb => .inl (h5 b hb))
theorem Hold.cut (O : Hold W h0 m0 h m Rs) (k : Nat) (hk : Rs[k]? = some R) {R1 R2 : Res} (H : ∀ F, R.p h m F → ∃ F1 F2, R1.p h m F1 ∧ R2.p h m F2 ∧ Dj F1 F2 ∧ ∀ b, U F1 F2 b → F b) : Hold W h0 m0 h m (Rs.set k R1 ++ [R2]) := by
  obtain ⟨S, FF, hs, hw⟩ := O
  obtain ⟨F1, F2, h1, h2, h3, rfl⟩ := hs.get hk
  obtain ⟨G1, G2, k1, k2, k3, k4⟩ := H F1 h1
  have := Sep.put h2 (set_rE hk) k1 (h3.mono (fun b hb => k4 b (.inl hb)) (fun _ h => h))
  rw [List.set_set] at this
  refine ⟨S, _, this.app (.one k2) (Dj.u k3 (fun b hb hc => h3 b (k4 b (.inr hc)) hb)), fun b hb => ?_⟩
  rcases hb with (hb | hb) | hb
  · exact hw b (.inl (k4 b (.inl hb)))
  · exact hw b (.inr hb)
  · exact hw b (.inl (k4 b (.inr hb)))
theorem Hold.fuse (O : Hold W h0 m0 h m Rs) (k j : Nat) {R1 R2 : Res} (hk : Rs[k]? = some R1) (hj : (Rs.set k rE)[j]? = some R2) (H : ∀ F1 F2, R1.p h m F1 → R2.p h m F2 → Dj F1 F2 → ∃ F', R'.p h m F' ∧ ∀ b, F' b → U F1 F2 b) : Hold W h0 m0 h m (((Rs.set k rE).set j rE).set k R') := by
  obtain ⟨S, FF, hs, hw⟩ := O
  obtain ⟨F1, F2, h1, h2, h3, rfl⟩ := hs.get hk
  obtain ⟨G1, G2, k1, k2, k3, rfl⟩ := h2.get hj
  obtain ⟨F', h4, h5⟩ := H F1 G1 h1 k1 h3.ul'
  have hk2 : ((Rs.set k rE).set j rE)[k]? = some rE := by
    have hlt : k < Rs.length := (List.getElem?_eq_some_iff.1 hk).1
    by_cases e : j = k
    · subst e; rw [List.getElem?_set_self (by simpa using hlt)]
    · rw [List.getElem?_set_ne e]; exact set_rE hk
  have d : Dj F' G2 := fun b hb hc => (h5 b hb).elim (fun hb => h3 b hb (.inr hc)) (fun hb => k3 b hb hc)
  refine ⟨S, _, Sep.put k2 hk2 h4 d, fun b hb => hb.elim (fun hb => (h5 b hb).elim (fun hb => hw b (.inl hb)) (fun hb => hw b (.inr (.inl hb)))) (fun hb => hw b (.inr (.inr hb)))⟩
theorem Hold.pick (O : Hold W h0 m0 h m Rs) (is : List Nat) : Hold W h0 m0 h m (takeL Rs is) := by
  obtain ⟨S, F, hs, hw⟩ := O
  obtain ⟨F1, F2, h1, h2, h3, rfl⟩ := hs.part is
  exact ⟨S, F1, h1, fun b hb => hw b (.inl hb)⟩
theorem Hold.call (O : Hold W h0 m0 h m Rs) (is : List Nat) : ∃ W', Hold W' h m h m (takeL Rs is) ∧ ∀ {h' m' : Heap} {Rs' : List Res}, Hold W' h m h' m' Rs' → Hold W h0 m0 h' m' (dropL Rs is ++ Rs') := by
  obtain ⟨S, F, hs, hw⟩ := O
  obtain ⟨F1, F2, h1, h2, h3, rfl⟩ := hs.part is
  refine ⟨F1, ⟨.refl S.s, F1, h1, fun b hb => .inr hb⟩, fun {h' m' Rs'} O' => ?_⟩
  obtain ⟨T, F', hs', hw'⟩ := O'
  obtain ⟨f1, f2⟩ := T.frame h3 h2.lt h2.nl
  refine ⟨S.then T (fun b _ hb => hw b (.inl hb)), _, (Sep.fr h2 f1 T.up f2).app hs' (fun b hb hc => (hw' b hc).elim (fun hl => by have := h2.lt b hb; omega) (fun hf => h3 b hf hb)), fun b hb => hb.elim (fun hb => hw b (.inr hb)) (fun hb => (hw' b hb).elim (fun hl => .inl (Nat.le_trans S.size hl)) (fun hf => hw b (.inl hf)))⟩
theorem Hold.callC (O : Hold W h0 m0 h m Rs) (is : List Nat) : ∃ W', Hold W' h m h m (takeL Rs is) ∧
    (∀ {h' m' : Heap} {Rs' : List Res}, Hold W' h m h' m' Rs' → Hold W h0 m0 h' m' (dropL Rs is ++ Rs')) ∧
    (∀ {h' m' : Heap} {Rs' : List Res}, Hold W' h m h' m' Rs' → (∀ R ∈ Rs', R.vf) → Hold W h0 m0 h' m (dropL Rs is ++ Rs')) := by
  obtain ⟨S, F, hs, hw⟩ := O
  obtain ⟨F1, F2, h1, h2, h3, rfl⟩ := hs.part is
  have key : ∀ {h' m' : Heap} {Rs' : List Res}, Hold F1 h m h' m' Rs' → Hold W h0 m0 h' m' (dropL Rs is ++ Rs') := fun {h' m' Rs'} O' => by
    obtain ⟨T, F', hs', hw'⟩ := O'
    obtain ⟨f1, f2⟩ := T.frame h3 h2.lt h2.nl
    exact ⟨S.then T (fun b _ hb => hw b (.inl hb)), _, (Sep.fr h2 f1 T.up f2).app hs' (fun b hb hc => (hw' b hc).elim (fun hl => by have := h2.lt b hb; omega) (fun hf => h3 b hf hb)), fun b hb => hb.elim (fun hb => hw b (.inr hb)) (fun hb => (hw' b hb).elim (fun hl => .inl (Nat.le_trans S.size hl)) (fun hf => hw b (.inl hf)))⟩
  refine ⟨F1, ⟨.refl S.s, F1, h1, fun b hb => .inr hb⟩, key, fun {h' m' Rs'} O' v => key ?_⟩
  obtain ⟨T, F', hs', hw'⟩ := O'
  have T' : St F1 h m h' m := T.unlend S.s h1.nl
  exact ⟨T', F', hs'.vf v T'.s (fun b hb hv => (hw' b hb).elim (fun hl => by have := S.s.lt hv; omega) (fun hf => h1.nl b hf hv)), hw'⟩
theorem Hold.lend (O : Hold W h0 m0 h m Rs) (is ls : List Nat) : ∃ m1 W', Sub m m1 ∧ Hold W' h m1 h m1 (takeL Rs is) ∧ ZAll m1 (takeL (dropL Rs is) ls) ∧
    (∀ {h' m' : Heap} {Rs' : List Res}, Hold W' h m1 h' m' Rs' → Hold W h0 m0 h' m' (dropL (dropL Rs is) ls ++ Rs')) ∧
    (∀ {h' m' : Heap} {Rs' : List Res}, Hold W' h m1 h' m' Rs' → (∀ R ∈ Rs', R.vf) → Hold W h0 m0 h' m (dropL Rs is ++ Rs')) := by
  obtain ⟨S, F, hs, hw⟩ := O
  obtain ⟨F1, F2, h1, h2, h3, rfl⟩ := hs.part is
  obtain ⟨F3, F4, k1, k2, k3, rfl⟩ := h2.part ls
  have hl : ∀ b, Live (addV m h F3) b → Live m b ∨ F3 b := fun b h => (addV_live h).1
  have n1 : ∀ b, F1 b → ¬ Live (addV m h F3) b := fun b hb hv => (hl b hv).elim (h1.nl b hb) (fun hf => h3 b hb (.inl hf))
  have n4 : ∀ b, F4 b → ¬ Live (addV m h F3) b := fun b hb hv => (hl b hv).elim (k2.nl b hb) (fun hf => k3 b hf hb)
  refine ⟨addV m h F3, F1, addV_up S.s, ⟨.refl addV_sub, F1, Sep.fr h1 (fun _ _ => rfl) (addV_up S.s) n1, fun b hb => .inr hb⟩, k1.fz S.s (fun _ h => h), fun {h' m' Rs'} O' => ?_, fun {h' m' Rs'} O' v => ?_⟩
  · obtain ⟨T, F', hs', hw'⟩ := O'
    have k4 := Sep.fr k2 (fun _ _ => rfl) (addV_up S.s) n4
    obtain ⟨f1, f2⟩ := T.frame h3.ur' k2.lt n4
    refine ⟨(S.then (St.settle S.s F3) (fun b _ hb => hw b (.inr (.inl hb)))).then T (fun b _ hb => hw b (.inl hb)), _, (Sep.fr k4 f1 T.up f2).app hs' (fun b hb hc => (hw' b hc).elim (fun hl => by have := k2.lt b hb; omega) (fun hf => h3 b hf (.inr hb))), fun b hb => hb.elim (fun hb => hw b (.inr (.inr hb))) (fun hb => (hw' b hb).elim (fun hl => .inl (Nat.le_trans S.size hl)) (fun hf => hw b (.inl hf)))⟩
  · obtain ⟨T, F', hs', hw'⟩ := O'
    have T' : St F1 h m h' m := T.unlend S.s h1.nl
    obtain ⟨f1, f2⟩ := T'.frame h3 h2.lt h2.nl
    have n' : ∀ b, F' b → ¬ Live m b := fun b hb hv => (hw' b hb).elim (fun hl => by have := S.s.lt hv; omega) (fun hf => h1.nl b hf hv)
    refine ⟨S.then T' (fun b _ hb => hw b (.inl hb)), _, (Sep.fr h2 f1 T'.up f2).app (hs'.vf v T'.s n') (fun b hb hc => (hw' b hc).elim (fun hl => by have := h2.lt b hb; omega) (fun hf => h3 b hf hb)), fun b hb => hb.elim (fun hb => hw b (.inr hb)) (fun hb => (hw' b hb).elim (fun hl => .inl (Nat.le_trans S.size hl)) (fun hf => hw b (.inl hf)))⟩
theorem Hold.frz (O : Hold W h0 m0 h m Rs) (k : Nat) (hk : Rs[k]? = some R) : ∃ m', Sub m m' ∧ R.z m' ∧ Hold W h0 m0 h m' (Rs.set k rE) := by
  obtain ⟨m1, W', h1, h2, h3, h4, _⟩ := O.lend [] [k]
  refine ⟨m1, h1, ?_, ?_⟩
  · have : takeL (dropL Rs []) [k] = [R] := by simp only [takeL, dropL, hk]
    rw [this] at h3
    exact h3.1
  · have := h4 h2
    simp only [takeL, dropL, List.append_nil] at this
    exact this
end
end Go.Hw

end
section
set_option linter.unusedVariables false
namespace Go.Hw
open Go
structure Asn (α : Type) (sz : Nat) where
  p : Heap → Heap → α → List Value → Foot → Prop
  E : Heap → α → List Value → Prop
  T : Tell sz E
  len : ∀ {h m x cs F}, p h m x cs F → cs.length = sz
  flat : ∀ {h m x cs F}, p h m x cs F → ∀ v ∈ cs, Flat v
  lt : ∀ {h m x cs F}, p h m x cs F → ∀ b, F b → b < h.size
  nl : ∀ {h m x cs F}, p h m x cs F → ∀ b, F b → ¬ Live m b
  fr : ∀ {h m x cs F h' m'}, p h m x cs F → (∀ b, F b → h'[b]? = h[b]?) → Sub m m' → (∀ b, F b → ¬ Live m' b) → p h' m' x cs F
  fz : ∀ {h m x cs F G}, p h m x cs F → Sub m h → (∀ b, F b → G b) → E (addV m h G) x cs
def aE {α : Type} {sz : Nat} {E : Heap → α → List Value → Prop} (T : Tell sz E) : Asn α sz where
  p _ m x cs F := E m x cs ∧ F = No
  E := E
  T := T
  len h := T.len _ _ _ h.1
  flat h := T.flat _ _ _ h.1
  lt := by rintro h m x cs F ⟨_, rfl⟩ b hb; exact hb.elim
  nl := by rintro h m x cs F ⟨_, rfl⟩ b hb; exact hb.elim
  fr := fun h _ s _ => ⟨T.mono _ _ _ _ s h.1, h.2⟩
  fz := fun h s _ => T.mono _ _ _ _ (addV_up s) h.1
def Asn.vf {α : Type} {sz : Nat} (a : Asn α sz) : Prop := ∀ h m m' x cs F, a.p h m x cs F → Sub m' h → (∀ b, F b → ¬ Live m' b) → a.p h m' x cs F
theorem aE_vf {α : Type} {sz : Nat} {E : Heap → α → List Value → Prop} {T : Tell sz E} (hE : ∀ m m' x cs, E m x cs → E m' x cs) : (aE T).vf := fun _ _ _ _ _ _ h _ _ => ⟨hE _ _ _ _ h.1, h.2⟩
theorem Blk.fr {h h' : Heap} {b : Nat} {c : List Value} {t : TypeId} (hb : Blk h b c t) (e : h'[b]? = h[b]?) : Blk h' b c t := by unfold Blk at *; rw [e]; exact hb
def rV (b : Nat) (t : TypeId) (cs : List Value) : Res where
  p h m F := Blk h b cs t ∧ ¬ Live m b ∧ F = fb b
  z m := Blk m b cs t
  lt := by rintro h m F ⟨h1, _, rfl⟩ i hi; unfold fb at hi; subst hi; exact h1.lt
  nl := by rintro h m F ⟨h1, h2, rfl⟩ i hi; unfold fb at hi; subst hi; exact h2
  fr := by rintro h m F h' m' ⟨h1, h2, rfl⟩ k1 _ k3; exact ⟨h1.fr (k1 b rfl), k3 b rfl, rfl⟩
  fz := by rintro h m F G ⟨h1, h2, rfl⟩ _ k2; exact h1.settle (k2 b rfl)
theorem rV_vf {b : Nat} {t : TypeId} {cs : List Value} : (rV b t cs).vf := by rintro h m m' F ⟨h1, _, rfl⟩ _ k2; exact ⟨h1, k2 b rfl, rfl⟩
section
variable {α : Type} {sz : Nat}
def CsA (a : Asn α sz) (h m : Heap) : List α → List Value → Foot → Prop
  | [], cs, F => cs = [] ∧ F = No
  | x :: l, cs, F => ∃ c1 c2 F1 F2, cs = c1 ++ c2 ∧ a.p h m x c1 F1 ∧ CsA a h m l c2 F2 ∧ Dj F1 F2 ∧ F = U F1 F2
variable {a : Asn α sz} {h h' m m' : Heap} {l l' : List α} {cs ds : List Value} {F F' F1 F2 G : Foot} {x y : α}
theorem CsA.len : ∀ {l : List α} {cs : List Value} {F : Foot}, CsA a h m l cs F → cs.length = l.length * sz
  | [], _, _, ⟨e, _⟩ => by rw [e]; simp
  | x :: l, _, _, ⟨c1, c2, F1, F2, e, h1, h2, _, _⟩ => by rw [e, List.length_append, CsA.len h2, a.len h1, List.length_cons, Nat.succ_mul, Nat.add_comm]
theorem CsA.flat : ∀ {l : List α} {cs : List Value} {F : Foot}, CsA a h m l cs F → ∀ v ∈ cs, Flat v
  | [], _, _, ⟨e, _⟩ => by rw [e]; exact Flats.nil
  | x :: l, _, _, ⟨c1, c2, F1, F2, e, h1, h2, _, _⟩ => by
    rw [e]; intro v hv
    rcases List.mem_append.1 hv with hv | hv
    · exact a.flat h1 v hv
    · exact CsA.flat h2 v hv
theorem CsA.lt : ∀ {l : List α} {cs : List Value} {F : Foot}, CsA a h m l cs F → ∀ b, F b → b < h.size
  | [], _, _, ⟨_, e⟩, b, hb => by rw [e] at hb; exact hb.elim
  | x :: l, _, _, ⟨c1, c2, F1, F2, _, h1, h2, _, rfl⟩, b, hb => hb.elim (a.lt h1 b) (CsA.lt h2 b)
theorem CsA.nl : ∀ {l : List α} {cs : List Value} {F : Foot}, CsA a h m l cs F → ∀ b, F b → ¬ Live m b
  | [], _, _, ⟨_, e⟩, b, hb => by rw [e] at hb; exact hb.elim
  | x :: l, _, _, ⟨c1, c2, F1, F2, _, h1, h2, _, rfl⟩, b, hb => hb.elim (a.nl h1 b) (CsA.nl h2 b)
theorem CsA.fr : ∀ {l : List α} {cs : List Value} {F : Foot}, CsA a h m l cs F → (∀ b, F b → h'[b]? = h[b]?) → Sub m m' → (∀ b, F b → ¬ Live m' b) → CsA a h' m' l cs F
  | [], _, _, hs, _, _, _ => hs
  | x :: l, _, _, ⟨c1, c2, F1, F2, e, h1, h2, d, rfl⟩, k1, k2, k3 => ⟨c1, c2, F1, F2, e, a.fr h1 (fun b hb => k1 b (.inl hb)) k2 (fun b hb => k3 b (.inl hb)), CsA.fr h2 (fun b hb => k1 b (.inr hb)) k2 (fun b hb => k3 b (.inr hb)), d, rfl⟩
theorem CsA.vf (v : a.vf) : ∀ {l : List α} {cs : List Value} {F : Foot}, CsA a h m l cs F → Sub m' h → (∀ b, F b → ¬ Live m' b) → CsA a h m' l cs F
  | [], _, _, hs, _, _ => hs
  | x :: l, _, _, ⟨c1, c2, F1, F2, e, h1, h2, d, rfl⟩, k1, k2 => ⟨c1, c2, F1, F2, e, v _ _ _ _ _ _ h1 k1 (fun b hb => k2 b (.inl hb)), CsA.vf v h2 k1 (fun b hb => k2 b (.inr hb)), d, rfl⟩
theorem CsA.fz : ∀ {l : List α} {cs : List Value} {F : Foot}, CsA a h m l cs F → Sub m h → (∀ b, F b → G b) → CsE sz a.E (addV m h G) l cs
  | [], _, _, ⟨e, _⟩, _, _ => e
  | x :: l, _, _, ⟨c1, c2, F1, F2, e, h1, h2, d, rfl⟩, k1, k2 => ⟨c1, c2, e, a.len h1, a.fz h1 k1 (fun b hb => k2 b (.inl hb)), CsA.fz h2 k1 (fun b hb => k2 b (.inr hb))⟩
theorem CsA.append : ∀ {l : List α} {cs : List Value} {F : Foot}, CsA a h m l cs F → CsA a h m l' ds F' → Dj F F' → CsA a h m (l ++ l') (cs ++ ds) (U F F')
  | [], _, _, ⟨e, e'⟩, h', _ => by subst e; subst e'; rw [U.no_left]; exact h'
  | x :: l, _, _, ⟨c1, c2, F1, F2, e, h1, h2, d, e'⟩, h', dd => by
    subst e; subst e'
    rw [List.append_assoc]
    exact ⟨c1, _, F1, _, rfl, h1, CsA.append h2 h' dd.ur, Dj.u' d dd.ul, U.assoc⟩
theorem CsA.one (h1 : a.p h m x cs F) : CsA a h m [x] cs F := ⟨cs, [], F, No, by simp, h1, ⟨rfl, rfl⟩, .no', U.no_right.symm⟩
theorem CsA.split : ∀ {l : List α} {cs : List Value} {F : Foot} {i : Nat}, CsA a h m l cs F → l[i]? = some y →
    ∃ l1 l2 c1 ce c2 F1 Fe F2, l = l1 ++ y :: l2 ∧ l1.length = i ∧ cs = c1 ++ (ce ++ c2) ∧ c1.length = i * sz ∧ CsA a h m l1 c1 F1 ∧ a.p h m y ce Fe ∧ CsA a h m l2 c2 F2 ∧ Dj F1 Fe ∧ Dj F1 F2 ∧ Dj Fe F2 ∧ F = U Fe (U F1 F2)
  | [], _, _, _, _, hi => by cases hi
  | x :: l, _, _, 0, ⟨c1, c2, F1, F2, e, h1, h2, d, e'⟩, hi => by
    cases hi
    exact ⟨[], l, [], c1, c2, No, F1, F2, rfl, rfl, e, by simp, ⟨rfl, rfl⟩, h1, h2, .no, .no, d, by rw [e', U.no_left]⟩
  | x :: l, _, _, i + 1, ⟨d1, d2, F1, F2, e, h1, h2, d, e'⟩, hi => by
    obtain ⟨l1, l2, c1, ce, c2, G1, Ge, G2, rfl, k1, rfl, k2, k3, k4, k5, k6, k7, k8, rfl⟩ := CsA.split h2 (show l[i]? = some y by simpa using hi)
    refine ⟨x :: l1, l2, d1 ++ c1, ce, c2, U F1 G1, Ge, G2, rfl, by simp [k1], by rw [e, List.append_assoc], ?_, ⟨d1, c1, F1, G1, rfl, h1, k3, d.ur'.ul', rfl⟩, k4, k5, Dj.u d.ul' k6, Dj.u d.ur'.ur' k7, k8, ?_⟩
    · rw [List.length_append, a.len h1, k2, Nat.succ_mul, Nat.add_comm]
    · rw [e', U.left_comm, U.assoc]
theorem CsA.join {l1 l2 : List α} {c1 ce c2 : List Value} {Fe : Foot} (h1 : CsA a h m l1 c1 F1) (h2 : a.p h m y ce Fe) (h3 : CsA a h m l2 c2 F2) (d1 : Dj F1 Fe) (d2 : Dj F1 F2) (d3 : Dj Fe F2) : CsA a h m (l1 ++ y :: l2) (c1 ++ (ce ++ c2)) (U Fe (U F1 F2)) := by
  have := h1.append (show CsA a h m (y :: l2) (ce ++ c2) (U Fe F2) from ⟨ce, c2, Fe, F2, rfl, h2, h3, d3, rfl⟩) (Dj.u' d1 d2)
  rw [U.left_comm] at this
  exact this
theorem CsA.rep {zc : List Value} (hz : a.p h m x zc No) : ∀ n : Nat, CsA a h m (List.replicate n x) ((List.replicate n zc).flatten) No
  | 0 => ⟨rfl, rfl⟩
  | n + 1 => by rw [List.replicate_succ, List.replicate_succ, List.flatten_cons]; exact ⟨zc, _, No, No, rfl, hz, CsA.rep hz n, .no, U.no_left.symm⟩
theorem CsE.csa {E : Heap → α → List Value → Prop} {T : Tell sz E} : ∀ {l : List α} {cs : List Value}, CsE sz E m l cs → CsA (aE T) h m l cs No
  | [], _, e => ⟨e, rfl⟩
  | x :: l, _, ⟨c1, c2, e, h1, h2, h3⟩ => ⟨c1, c2, No, No, e, ⟨h2, rfl⟩, CsE.csa h3, .no, U.no_left.symm⟩
theorem CsA.cse {E : Heap → α → List Value → Prop} {T : Tell sz E} : ∀ {l : List α} {cs : List Value} {F : Foot}, CsA (aE T) h m l cs F → CsE sz E m l cs ∧ F = No
  | [], _, _, ⟨e, e'⟩ => ⟨e, e'⟩
  | x :: l, _, _, ⟨c1, c2, F1, F2, e, ⟨h1, h1'⟩, h2, _, e'⟩ => by
    obtain ⟨h3, h3'⟩ := CsA.cse h2
    subst h1'; subst h3'
    exact ⟨⟨c1, c2, e, T.len _ _ _ h1, h1, h3⟩, by rw [e', U.no_left]⟩
end
section
variable {α : Type} {sz : Nat}
def rowP (a : Asn α sz) (A : Option Addr) (c : Nat) (l : List α) (h m : Heap) (F : Foot) : Prop :=
  (l = [] ∧ c = 0 ∧ F = No) ∨ ∃ b t pre cs rest Fe, c ≠ 0 ∧ A = some ⟨b, pre.length, none⟩ ∧ Blk h b (pre ++ cs ++ rest) t ∧ CsA a h m l cs Fe ∧ l.length ≤ c ∧ (c - l.length) * sz ≤ rest.length ∧ ¬ Live m b ∧ ¬ Fe b ∧ F = U (fb b) Fe
def rR (a : Asn α sz) (A : Option Addr) (c : Nat) (l : List α) : Res where
  p := rowP a A c l
  z m := Rd sz a.E m A l ∧ l.length ≤ c
  lt := by
    rintro h m F (⟨_, _, rfl⟩ | ⟨b, t, pre, cs, rest, Fe, k0, k1, k2, k3, k4, k5, k6, k7, rfl⟩) i hi
    · exact hi.elim
    · rcases hi with hi | hi
      · unfold fb at hi; subst hi; exact k2.lt
      · exact k3.lt i hi
  nl := by
    rintro h m F (⟨_, _, rfl⟩ | ⟨b, t, pre, cs, rest, Fe, k0, k1, k2, k3, k4, k5, k6, k7, rfl⟩) i hi
    · exact hi.elim
    · rcases hi with hi | hi
      · unfold fb at hi; subst hi; exact k6
      · exact k3.nl i hi
  fr := by
    rintro h m F h' m' (⟨e1, e2, rfl⟩ | ⟨b, t, pre, cs, rest, Fe, k0, k1, k2, k3, k4, k5, k6, k7, rfl⟩) f1 f2 f3
    · exact .inl ⟨e1, e2, rfl⟩
    · exact .inr ⟨b, t, pre, cs, rest, Fe, k0, k1, k2.fr (f1 b (.inl rfl)), k3.fr (fun i hi => f1 i (.inr hi)) f2 (fun i hi => f3 i (.inr hi)), k4, k5, f3 b (.inl rfl), k7, rfl⟩
  fz := by
    rintro h m F G (⟨e1, e2, rfl⟩ | ⟨b, t, pre, cs, rest, Fe, k0, k1, k2, k3, k4, k5, k6, k7, rfl⟩) f1 f2
    · subst e1; exact ⟨.nil, Nat.zero_le _⟩
    · subst k1
      exact ⟨CsE.rd (k2.settle (f2 b (.inl rfl))) (k3.fz f1 (fun i hi => f2 i (.inr hi))) (fun _ _ h => h), k4⟩
variable {a : Asn α sz} {h h' h0 m m' m0 : Heap} {A : Option Addr} {c n k : Nat} {l l' : List α} {F F' G W : Foot} {x : Int} {y : α} {v : Value} {cs : List Value} {Rs : List Res} {b : Nat} {t : TypeId} {aa : Addr}
variable {E : Heap → α → List Value → Prop} {T : Tell sz E}
theorem rR_vf (v : a.vf) : (rR a A c l).vf := by
  rintro h m m' F (⟨e1, e2, rfl⟩ | ⟨b, t, pre, cs, rest, Fe, k0, k1, k2, k3, k4, k5, k6, k7, rfl⟩) f1 f2
  · exact .inl ⟨e1, e2, rfl⟩
  · exact .inr ⟨b, t, pre, cs, rest, Fe, k0, k1, k2, k3.vf v f1 (fun i hi => f2 i (.inr hi)), k4, k5, f2 b (.inl rfl), k7, rfl⟩
theorem rowP.cap (o : rowP a A c l h m F) : l.length ≤ c := by
  rcases o with ⟨rfl, rfl, _⟩ | ⟨b, t, pre, cs, rest, Fe, k0, k1, k2, k3, k4, _⟩
  · exact Nat.le_refl _
  · exact k4
theorem rowP.os (o : rowP (aE T) A c l h m F) (hw : ∀ b, F b → h0.size ≤ b ∨ W b) : OS W h0 sz E h m A l c ∧ F = fp A c := by
  rcases o with ⟨rfl, rfl, rfl⟩ | ⟨b, t, pre, cs, rest, Fe, k0, k1, k2, k3, k4, k5, k6, k7, rfl⟩
  · exact ⟨.inl ⟨rfl, rfl⟩, funext fun b => propext ⟨fun h => h.elim, fun h => h.1 rfl⟩⟩
  · obtain ⟨k8, rfl⟩ := k3.cse
    refine ⟨.inr ⟨b, t, pre, cs, rest, k1, k2, k8, k4, k5, hw b (.inl rfl), k6⟩, ?_⟩
    rw [U.no_right]
    subst k1
    exact funext fun i => propext ⟨fun hi => ⟨k0, _, rfl, hi.symm⟩, fun ⟨_, a, e, hi⟩ => by cases e; exact hi.symm⟩
theorem OS.rowP (o : OS W h0 sz E h m A l c) : rowP (aE T) A c l h m (fp A c) := by
  by_cases hc : c = 0
  · subst hc
    have := o.cap
    exact .inl ⟨List.length_eq_zero_iff.1 (by omega), rfl, funext fun b => propext ⟨fun h => h.1 rfl, fun h => h.elim⟩⟩
  rcases o with ⟨rfl, rfl⟩ | ⟨b, t, pre, cs, rest, k1, k2, k3, k4, k5, k6, k7⟩
  · exact (hc rfl).elim
  · refine .inr ⟨b, t, pre, cs, rest, No, hc, k1, k2, k3.csa, k4, k5, k7, fun h => h, ?_⟩
    rw [U.no_right]
    subst k1
    exact funext fun i => propext ⟨fun ⟨_, a, e, hi⟩ => by cases e; exact hi.symm, fun hi => ⟨hc, _, rfl, hi.symm⟩⟩
theorem Hold.os (O : Hold W h0 m0 h m Rs) (k : Nat) (hk : Rs[k]? = some (rR (aE T) A c l)) : OS W h0 sz E h m A l c := by
  obtain ⟨F, h1, h2, _⟩ := O.get k hk
  exact (rowP.os h1 h2).1
theorem Hold.ob (O : Hold W h0 m0 h m Rs) (k : Nat) (hk : Rs[k]? = some (rV b t cs)) : OB W h0 h m b cs t := by
  obtain ⟨F, ⟨h1, h3, rfl⟩, h2, _⟩ := O.get k hk
  exact ⟨h1, h2 b rfl, h3⟩
theorem Hold.cap (O : Hold W h0 m0 h m Rs) (k : Nat) (hk : Rs[k]? = some (rR a A c l)) : l.length ≤ c := by
  obtain ⟨F, h1, _⟩ := O.get k hk
  exact rowP.cap h1
theorem Hold.all (O : Hold W h0 m0 h m Rs) (k : Nat) (hk : Rs[k]? = some (rV b t cs)) : cellsH h ⟨b, 0, none⟩ 0 cs.length = some cs := (O.ob k hk).all
theorem Hold.setV (O : Hold W h0 m0 h m Rs) (k : Nat) (hk : Rs[k]? = some (rV b t cs)) {cs' : List Value} (o : OB W h0 h' m b cs' t) (S : St (fb b) h m h' m) : Hold W h0 m0 h' m (Rs.set k (rV b t cs')) := by
  obtain ⟨F, ⟨h1, h3, rfl⟩, h2, h4⟩ := O.get k hk
  exact h4 S ⟨o.1, o.2.2, rfl⟩ (fun _ h => .inl h)
theorem Hold.setR (O : Hold W h0 m0 h m Rs) (k : Nat) (hk : Rs[k]? = some (rR (aE T) A c l)) (o : OS W h0 sz E h' m A l' c) (S : St (fp A c) h m h' m) : Hold W h0 m0 h' m (Rs.set k (rR (aE T) A c l')) := by
  obtain ⟨F, h1, h2, h4⟩ := O.get k hk
  obtain ⟨_, rfl⟩ := rowP.os h1 h2
  exact h4 S o.rowP (fun _ h => .inl h)
variable {K : Heap → Prop}
theorem Hold.new {z : Array Value} (O : Hold W h0 m0 h m Rs) (H : ∀ h', Ext h h' → Hold W h0 m0 h' m (Rs ++ [rV h.size t z.toList]) → K h') : newH h (.cells z t) K :=
  newH_in fun h' hb e hs => H h' e (O.add (St.of_ext O.s e) ⟨hb, St.notLive O.s, rfl⟩ (fun i hi => by unfold fb at hi; omega))
theorem Hold.st (O : Hold W h0 m0 h m Rs) (k : Nat) (hk : Rs[k]? = some (rV b t cs)) (j : Nat) (hj : j < cs.length) (hf : Flat v) (H : ∀ h', Hold W h0 m0 h' m (Rs.set k (rV b t (cs.set j v))) → K h') : ∃ h', st1 h (Addr.add ⟨b, 0, none⟩ j) v = some h' ∧ K h' := by
  obtain ⟨h', h1, h2, h3⟩ := (O.ob k hk).st O.s hj hf
  exact ⟨h', h1, H h' (O.setV k hk h2 h3)⟩
theorem Hold.st0 (O : Hold W h0 m0 h m Rs) (k : Nat) (hk : Rs[k]? = some (rV b t cs)) (hj : 0 < cs.length) (hf : Flat v) (H : ∀ h', Hold W h0 m0 h' m (Rs.set k (rV b t (cs.set 0 v))) → K h') : ∃ h', st1 h ⟨b, 0, none⟩ v = some h' ∧ K h' := O.st k hk 0 hj hf H
theorem Hold.stA (O : Hold W h0 m0 h m Rs) (k : Nat) (hk : Rs[k]? = some (rV b t cs)) {ds : List Value} (hn : ds.length = cs.length) (hf : ∀ v ∈ ds, Flat v) (H : ∀ h', Hold W h0 m0 h' m (Rs.set k (rV b t ds)) → K h') : ∃ h', stH h ⟨b, 0, none⟩ ds 0 = some h' ∧ K h' := by
  obtain ⟨h', h1, h2, h3⟩ := (O.ob k hk).stA O.s ds hn hf
  exact ⟨h', h1, H h' (O.setV k hk h2 h3)⟩
theorem Hold.elst (O : Hold W h0 m0 h m Rs) (k : Nat) (hk : Rs[k]? = some (rR (aE T) A c l)) (g : gi l x = some y) (ha : A = some aa) (hc : cellsH h (Addr.add aa (Int.toNat x * sz)) 0 sz = some cs) (j : Nat) (hj : j < sz) {y' : α} (hy : E m y' (cs.set j v)) (hf : Flat v) (e : l.set (Int.toNat x) y' = l')
    (H : ∀ h', Hold W h0 m0 h' m (Rs.set k (rR (aE T) A c l')) → K h') : ∃ h', st1 h (Addr.add (Addr.add aa (Int.toNat x * sz)) j) v = some h' ∧ K h' := by
  subst e
  obtain ⟨h', h1, h2, h3⟩ := (O.os k hk).st1k T O.s g ha hc j hj hy hf
  exact ⟨h', h1, H h' (O.setR k hk h2 h3)⟩
theorem Hold.elst0 (O : Hold W h0 m0 h m Rs) (k : Nat) (hk : Rs[k]? = some (rR (aE T) A c l)) (g : gi l x = some y) (ha : A = some aa) (hc : cellsH h (Addr.add aa (Int.toNat x * sz)) 0 sz = some cs) (hj : 0 < sz) {y' : α} (hy : E m y' (cs.set 0 v)) (hf : Flat v) (e : l.set (Int.toNat x) y' = l')
    (H : ∀ h', Hold W h0 m0 h' m (Rs.set k (rR (aE T) A c l')) → K h') : ∃ h', st1 h (Addr.add aa (Int.toNat x * sz)) v = some h' ∧ K h' := O.elst k hk g ha hc 0 hj hy hf e H
theorem Hold.elstA (O : Hold W h0 m0 h m Rs) (k : Nat) (hk : Rs[k]? = some (rR (aE T) A c l)) (g : gi l x = some y) (ha : A = some aa) (hc : cellsH h (Addr.add aa (Int.toNat x * sz)) 0 sz = some cs) {ds : List Value} {y' : α} (hy : E m y' ds) (hf : ∀ v ∈ ds, Flat v) (e : l.set (Int.toNat x) y' = l')
    (H : ∀ h', Hold W h0 m0 h' m (Rs.set k (rR (aE T) A c l')) → K h') : ∃ h', stH h (Addr.add aa (Int.toNat x * sz)) ds 0 = some h' ∧ K h' := by
  subst e
  obtain ⟨h', h1, h2, h3⟩ := (O.os k hk).stA T O.s g ha hc hy hf
  exact ⟨h', h1, H h' (O.setR k hk h2 h3)⟩
theorem Hold.nil (O : Hold W h0 m0 h m Rs) (a : Asn α sz) (A : Option Addr) : Hold W h0 m0 h m (Rs ++ [rR a A 0 []]) := O.adds (R := rR a A 0 []) (.inl ⟨rfl, rfl, rfl⟩)
theorem Hold.row (O : Hold W h0 m0 h m Rs) (k : Nat) (hk : Rs[k]? = some (rV b t cs)) (a : Asn α sz) (hc : ∃ F, CsA a h m l cs F ∧ F = No) (hn : l.length = c) (h0' : c ≠ 0) : Hold W h0 m0 h m (Rs.set k (rR a (some ⟨b, 0, none⟩) c l)) :=
  O.conv k hk (R' := rR a (some ⟨b, 0, none⟩) c l) fun F hF => by
    obtain ⟨h1, h2, rfl⟩ := hF
    obtain ⟨_, hc, rfl⟩ := hc
    exact ⟨_, .inr ⟨b, t, [], cs, [], No, h0', rfl, by simpa using h1, hc, by omega, by simp [hn], h2, fun h => h, rfl⟩, fun i hi => hi.elim id (fun h => h.elim)⟩
theorem Hold.rowE (O : Hold W h0 m0 h m Rs) (k : Nat) (hk : Rs[k]? = some (rV b t cs)) (T : Tell sz E) (hc : CsE sz E m l cs) (hn : l.length = c) : Hold W h0 m0 h m (Rs.set k (rR (aE T) (some ⟨b, 0, none⟩) c l)) := by
  by_cases h0' : c = 0
  · subst h0'
    refine O.conv k hk (R' := rR (aE T) (some ⟨b, 0, none⟩) 0 l) fun F _ => ⟨No, .inl ⟨List.length_eq_zero_iff.1 hn, rfl, rfl⟩, fun _ h => h.elim⟩
  · exact O.row k hk (aE T) ⟨No, hc.csa, rfl⟩ hn h0'
theorem Hold.made {zc : Array Value} {z : α} {B : Int} (O : Hold W h0 m0 h m Rs) (k : Nat) (hk : Rs[k]? = some (rV b t (mkCells zc (Int.toNat x * sz)).toList)) (a : Asn α sz) (g : mks B x z = some l') (hz : a.p h m z zc.toList No) : Hold W h0 m0 h m (Rs.set k (rR a (some ⟨b, 0, none⟩) l'.length l')) := by
  obtain ⟨_, _, _, h3, rfl⟩ := mks_e g
  have hc : CsA a h m (List.replicate x.toNat z) (mkCells zc (x.toNat * sz)).toList No := by
    rw [mkCells_flat (by have := a.len hz; simpa using this)]
    exact CsA.rep hz _
  by_cases h0' : (List.replicate x.toNat z).length = 0
  · rw [h0', List.length_eq_zero_iff.1 h0']
    exact O.conv k hk (R' := rR a (some ⟨b, 0, none⟩) 0 []) fun F _ => ⟨No, .inl ⟨rfl, rfl, rfl⟩, fun _ h => h.elim⟩
  · exact O.row k hk a ⟨No, hc, rfl⟩ rfl h0'
end
def aRow {α : Type} {sz : Nat} (a : Asn α sz) : Asn (List α) 1 where
  p h m l cs F := ∃ A c, cs = [.slice A l.length c] ∧ (rR a A c l).p h m F
  E := eRow sz a.E
  T := tell_row a.T
  len := by rintro h m x cs F ⟨A, c, rfl, _⟩; rfl
  flat := by rintro h m x cs F ⟨A, c, rfl, _⟩; exact Flats.cons trivial Flats.nil
  lt := by rintro h m x cs F ⟨A, c, rfl, o⟩; exact (rR a A c x).lt o
  nl := by rintro h m x cs F ⟨A, c, rfl, o⟩; exact (rR a A c x).nl o
  fr := by rintro h m x cs F h' m' ⟨A, c, rfl, o⟩ k1 k2 k3; exact ⟨A, c, rfl, (rR a A c x).fr o k1 k2 k3⟩
  fz := by
    rintro h m x cs F G ⟨A, c, rfl, o⟩ k1 k2
    have := (rR a A c x).fz o k1 k2
    exact ⟨A, c, rfl, this.2, this.1⟩
section
variable {α : Type} {sz : Nat} {a : Asn α sz} {h h' h0 m m' m0 : Heap} {A : Option Addr} {c n k : Nat} {l l' xs : List α} {F F' G W : Foot} {x : Int} {y : α} {v X : Value} {cs es : List Value} {Rs : List Res} {b : Nat} {t e : TypeId} {aa : Addr}
variable {E : Heap → α → List Value → Prop} {T : Tell sz E}
theorem rowP.app {bytes : Nat} {z : Array Value} {K : Value → Heap → Prop} {F2 : Foot} (o : rowP a A c l h m F) (s : Sub m h) (hn : n = l.length) (hz : z.size = sz) (h1 : srcCells sz X h = some (xs.length, es)) (h2 : CsA a h m xs es F2) (hd : Dj F F2) (hb0 : 0 < bytes) (g : ap bytes l xs = some l')
    (hk : ∀ A' c' h' F', rowP a A' c' l' h' m F' → St F h m h' m → (∀ b, F' b → F b ∨ F2 b ∨ h.size ≤ b) → K (.slice A' l'.length c') h') : AppW e sz bytes z A n c X h K := by
  subst hn
  obtain ⟨hb, rfl⟩ := ap_e g
  have he := h2.len
  refine ⟨xs.length, es, h1, ?_⟩
  have hpush : ∀ (old : List Value) (Fo : Foot) (hold : oldCells sz A l.length h = some old) (hE : CsA a h m l old Fo) (hFo : ∀ b, Fo b → F b), c < l.length + xs.length →
      ∃ old, oldCells sz A l.length h = some old ∧ ∀ c', l.length + xs.length ≤ c' → K (.slice (some ⟨h.size, 0, none⟩) (l.length + xs.length) c') (h.push (.cells (old.toArray ++ es.toArray ++ zcells z (c' - (l.length + xs.length))) e)) := by
    intro old Fo hold hE hFo hlt
    refine ⟨old, hold, fun c' hc' => ?_⟩
    rw [show (Value.slice (some ⟨h.size, 0, none⟩) (l.length + xs.length) c') = .slice (some ⟨h.size, 0, none⟩) (l ++ xs).length c' by rw [List.length_append]]
    have e1 := Ext.push h (Obj.cells (old.toArray ++ es.toArray ++ zcells z (c' - (l.length + xs.length))) e)
    have S1 := St.of_ext (W := F) s e1
    have hA := hE.append h2 (hd.mono hFo (fun _ h => h))
    have hA' := hA.fr (fun i hi => e1.2 i (hA.lt i hi)) (.refl _) (fun i hi => hA.nl i hi)
    refine hk _ _ _ _ (.inr ⟨h.size, e, [], old ++ es, (zcells z (c' - (l.length + xs.length))).toList, _, by omega, rfl, ?_, hA', by rw [List.length_append]; exact hc', ?_, St.notLive s, fun hf => by have := hA.lt _ hf; omega, rfl⟩) S1 ?_
    · have := Blk.new h (old.toArray ++ es.toArray ++ zcells z (c' - (l.length + xs.length))) e
      simpa using this
    · rw [zc_len, hz, List.length_append]; exact Nat.le_refl _
    · rintro i (hi | hi | hi)
      · unfold fb at hi; exact .inr (.inr (by omega))
      · exact .inl (hFo i hi)
      · exact .inr (.inl hi)
  rcases o with ⟨rfl, rfl, rfl⟩ | ⟨b, t, pre, cs, rest, Fe, k0, rfl, k1, k2, k3, k4, k5, k6, rfl⟩
  · by_cases hx : xs.length = 0
    · have hxs : xs = [] := List.length_eq_zero_iff.1 hx
      subst hxs
      obtain ⟨rfl, rfl⟩ : es = [] ∧ F2 = No := h2
      refine .inl ⟨by simp, ?_⟩
      have fin := hk A 0 h No (.inl ⟨rfl, rfl, rfl⟩) (St.refl s) (fun b hb => .inl hb)
      cases A with
      | none => exact .inl ⟨rfl, fin⟩
      | some a => exact .inr ⟨a, h, rfl, by simp [stH], fin⟩
    · refine .inr ⟨by simp; omega, by simpa using hb, hb0, ?_⟩
      refine hpush [] No ?_ ⟨rfl, rfl⟩ (fun _ h => h) (by simp; omega)
      cases A with
      | none => rfl
      | some a => simp [oldCells, cellsH]
  · have hl := k2.len
    by_cases hle : l.length + xs.length ≤ c
    · refine .inl ⟨hle, .inr ?_⟩
      have hmul : (c - l.length) * sz = xs.length * sz + (c - l.length - xs.length) * sz := by rw [← Nat.add_mul]; congr 1; omega
      have k1' : Blk h b ((pre ++ cs) ++ rest.take (xs.length * sz) ++ rest.drop (xs.length * sz)) t := by rw [List.append_assoc, List.take_append_drop]; exact k1
      obtain ⟨h', s1, b1, o1⟩ := Blk.stH es (a := (⟨b, pre.length, none⟩ : Addr).add (l.length * sz)) (i := 0) k1' (by rw [add_block]) (add_spot _ rfl) (by rw [add_off, List.length_append, hl, Nat.add_zero]) (by rw [List.length_take, he]; omega) (h2.flat)
      refine ⟨_, h', rfl, s1, ?_⟩
      rw [show (Value.slice (some ⟨b, pre.length, none⟩) (l.length + xs.length) c) = .slice (some ⟨b, pre.length, none⟩) (l ++ xs).length c by rw [List.length_append]]
      have S : St (fb b) h m h' m := .only s k5 o1
      have S2 : St (U (fb b) Fe) h m h' m := ⟨S.up, S.s, S.size, fun i hi hn => S.fr i hi (fun h => hn (.inl h)), fun i hi hl => .inl hl⟩
      have hA := k2.append h2 hd.ur
      have nb : ∀ i, U Fe F2 i → i ≠ b := fun i hi e' => by subst e'; exact hi.elim k6 (fun hf => hd i (.inl rfl) hf)
      have hA' := hA.fr (fun i hi => S.fr i (hA.lt i hi) (fun e' => nb i hi e')) (.refl _) (fun i hi => hA.nl i hi)
      refine hk _ _ _ _ (.inr ⟨b, t, pre, cs ++ es, rest.drop (xs.length * sz), _, k0, rfl, by rw [← List.append_assoc pre]; exact b1, hA', by rw [List.length_append]; exact hle, ?_, k5, fun hf => nb b hf rfl, rfl⟩) S2 ?_
      · rw [List.length_drop, List.length_append, show c - (l.length + xs.length) = c - l.length - xs.length by omega]; omega
      · rintro i (hi | hi | hi)
        · exact .inl (.inl hi)
        · exact .inl (.inr hi)
        · exact .inr (.inl hi)
    · refine .inr ⟨by omega, hb, hb0, ?_⟩
      refine hpush cs Fe ?_ k2 (fun _ h => .inr h) (by omega)
      have := k1.cells (a := ⟨b, pre.length, none⟩) rfl rfl (l.length * sz) 0 (by simp [hl])
      simp only [oldCells, this, Nat.add_zero]
      rw [List.append_assoc, List.drop_left, List.take_append_of_le_length (by omega), List.take_of_length_le (by omega)]
variable {K : Value → Heap → Prop} {bytes : Nat} {z : Array Value}
theorem Hold.app (O : Hold W h0 m0 h m Rs) (k : Nat) (hk : Rs[k]? = some (rR (aE T) A c l)) (hn : n = l.length) (hz : z.size = sz) (hs : Src sz E h m X xs) (hb0 : 0 < bytes) (g : ap bytes l xs = some l')
    (H : ∀ A' c' h', Hold W h0 m0 h' m (Rs.set k (rR (aE T) A' c' l')) → K (.slice A' l'.length c') h') : AppW e sz bytes z A n c X h K := by
  obtain ⟨F, h1, h2, h3⟩ := O.get k hk
  obtain ⟨es, s1, s2⟩ := hs
  refine rowP.app h1 O.s hn hz s1 (s2.csa (T := T)) .no' hb0 g fun A' c' h' F' q1 q2 q3 => H A' c' h' (h3 (R' := rR (aE T) A' c' l') q2 q1 fun b hb => ?_)
  rcases q3 b hb with hb | hb | hb
  · exact .inl hb
  · exact hb.elim
  · exact .inr hb
theorem Hold.app0 (O : Hold W h0 m0 h m Rs) (a : Asn α sz) (hn : n = 0) (hz : z.size = sz) (h1 : srcCells sz X h = some (xs.length, es)) (h2 : ∃ F, CsA a h m xs es F ∧ F = No) (hb0 : 0 < bytes) (g : ap bytes ([] : List α) xs = some l')
    (H : ∀ A' c' h', Ext h h' → Hold W h0 m0 h' m (Rs ++ [rR a A' c' l']) → K (.slice A' l'.length c') h') : AppW e sz bytes z A n 0 X h K := by
  obtain ⟨_, h2, rfl⟩ := h2
  refine rowP.app (a := a) (l := []) (F := No) (.inl ⟨rfl, rfl, rfl⟩) O.s hn hz h1 h2 .no' hb0 g fun A' c' h' F' q1 q2 q3 => H A' c' h' q2.ext (O.add q2 q1 fun b hb => ?_)
  rcases q3 b hb with hb | hb | hb
  · exact hb.elim
  · exact hb.elim
  · exact hb
theorem Hold.appE0 (O : Hold W h0 m0 h m Rs) (T : Tell sz E) (hn : n = 0) (hz : z.size = sz) (hs : Src sz E h m X xs) (hb0 : 0 < bytes) (g : ap bytes ([] : List α) xs = some l')
    (H : ∀ A' c' h', Ext h h' → Hold W h0 m0 h' m (Rs ++ [rR (aE T) A' c' l']) → K (.slice A' l'.length c') h') : AppW e sz bytes z A n 0 X h K := by
  obtain ⟨es, s1, s2⟩ := hs
  exact O.app0 (aE T) hn hz s1 ⟨No, s2.csa, rfl⟩ hb0 g H
theorem Hold.appA {R2 : Res} (O : Hold W h0 m0 h m Rs) (k j : Nat) (hk : Rs[k]? = some (rR a A c l)) (hj : (Rs.set k rE)[j]? = some R2) (H2 : ∀ F, R2.p h m F → a.p h m y es F) (hn : n = l.length) (hz : z.size = sz) (hs : srcCells sz X h = some (1, es)) (hb0 : 0 < bytes) (g : ap bytes l [y] = some l')
    (H : ∀ A' c' h', Hold W h0 m0 h' m (((Rs.set k rE).set j rE).set k (rR a A' c' l')) → K (.slice A' l'.length c') h') : AppW e sz bytes z A n c X h K := by
  have O2 := O.fuse k j (R' := rS (rR a A c l) R2) hk hj (fun F1 F2 h1 h2 d => ⟨_, ⟨F1, F2, h1, h2, d, rfl⟩, fun _ h => h⟩)
  have hk2 : (((Rs.set k rE).set j rE).set k (rS (rR a A c l) R2))[k]? = some (rS (rR a A c l) R2) := by
    have hlt : k < Rs.length := (List.getElem?_eq_some_iff.1 hk).1
    rw [List.getElem?_set_self (by simpa using hlt)]
  obtain ⟨F, ⟨F1, F2, h1, h2, d, rfl⟩, h3, h4⟩ := O2.get k hk2
  refine rowP.app (xs := [y]) h1 O.s hn hz hs (CsA.one (H2 _ h2)) d hb0 g fun A' c' h' F' q1 q2 q3 => H A' c' h' ?_
  have q4 : St (U F1 F2) h m h' m := ⟨q2.up, q2.s, q2.size, fun i hi hn => q2.fr i hi (fun h => hn (.inl h)), fun i hi hl => (q2.lv i hi hl).elim .inl (fun h => .inr (.inl h))⟩
  have := h4 (R' := rR a A' c' l') q4 q1 fun b hb => by
    rcases q3 b hb with hb | hb | hb
    · exact .inl (.inl hb)
    · exact .inl (.inr hb)
    · exact .inr hb
  rw [List.set_set] at this
  exact this
end
end Go.Hw

end
section
set_option linter.unusedVariables false
namespace Go.Hw
open Go
section
variable {m h : Heap} {a : Addr} {cs ds : List Value} {N n k j : Nat} {v : Value}
theorem ldAn (s : Sub m h) (hc : cellsH m a 0 N = some cs) (hn : N = n) : ldv true n h a = some (.agg cs.toArray) := by subst hn; exact ldA s hc
theorem lset {α : Type} {l : List α} {i : Nat} {y : α} : l.length = (l.set i y).length := (List.length_set ..).symm
theorem lset' {α : Type} {l l' : List α} {i : Nat} {y : α} (g : l.set i y = l') : l.length = l'.length := by rw [← g, List.length_set]
theorem gi_ltl {α : Type} {l : List α} {x : Int} {y : α} (g : gi l x = some y) (hn : n = l.length) : x < ((n : Nat) : Int) := by subst hn; exact gi_lt g
end
section
variable {α : Type} {sz : Nat} {a : Asn α sz} {h h' h0 m m' m0 : Heap} {A Ai : Option Addr} {c ci n k : Nat} {l li : List α} {ll ll' : List (List α)} {W : Foot} {x : Int} {y : α} {v : Value} {cs : List Value} {Rs Rs' : List Res} {b : Nat} {t : TypeId} {aa : Addr} {K : Heap → Prop}
variable {E : Heap → α → List Value → Prop} {T : Tell sz E}
theorem Hold.ret (O : Hold W h0 m0 h m Rs) (Q : Hold No h m h' m' Rs') : Hold W h0 m0 h' m' (Rs ++ Rs') := by
  obtain ⟨W', h1, h2⟩ := O.call []
  simp only [dropL, takeL] at h1 h2
  exact h2 ⟨⟨Q.S.up, Q.S.s, Q.S.size, fun b hb _ => Q.S.fr b hb (fun h => h), fun b hb hl => (Q.S.lv b hb hl).elim .inl (fun h => h.elim)⟩, by
    obtain ⟨F, k1, k2⟩ := Q.q
    exact ⟨F, k1, fun b hb => (k2 b hb).elim .inl (fun h => h.elim)⟩⟩
theorem vfs_nil : ∀ R ∈ ([] : List Res), R.vf := fun _ h => by cases h
theorem vfs_cons {R : Res} (v : R.vf) (w : ∀ R ∈ Rs, R.vf) : ∀ R' ∈ R :: Rs, R'.vf := fun R' h => by
  rcases List.mem_cons.1 h with rfl | h
  · exact v
  · exact w R' h
theorem Hold.retC (O : Hold W h0 m0 h m Rs) (Q : Hold No h m h' m' Rs') (v : ∀ R ∈ Rs', R.vf) : Hold W h0 m0 h' m (Rs ++ Rs') := by
  obtain ⟨m1, W', h1, h2, _, _, h5⟩ := O.lend [] []
  have s1 : Hold No h m h' m Rs' := by
    refine ⟨Q.S.unlend O.s (fun _ h => h.elim), ?_⟩
    obtain ⟨F, k1, k2⟩ := Q.q
    have T := Q.S.unlend O.s (fun _ h => h.elim)
    exact ⟨F, k1.vf v T.s (fun b hb hl => (k2 b hb).elim (fun h => by have := O.s.lt hl; omega) (fun h => h.elim)), k2⟩
  exact O.ret s1
theorem Hold.lend0 (O : Hold W h0 m0 h m Rs) (ls : List Nat) : ∃ m1, Sub m m1 ∧ Sub m1 h ∧ ZAll m1 (takeL Rs ls) ∧
    (∀ {h' m' : Heap} {Rs' : List Res}, Hold No h m1 h' m' Rs' → Hold W h0 m0 h' m' (dropL Rs ls ++ Rs')) ∧
    (∀ {h' m' : Heap} {Rs' : List Res}, Hold No h m1 h' m' Rs' → (∀ R ∈ Rs', R.vf) → Hold W h0 m0 h' m (Rs ++ Rs')) := by
  obtain ⟨m1, W', h1, h2, h3, h4, h5⟩ := O.lend [] ls
  simp only [dropL, takeL] at h2 h3 h4 h5
  have up : ∀ {h' m' : Heap} {Rs' : List Res}, Hold No h m1 h' m' Rs' → Hold W' h m1 h' m' Rs' := fun Q =>
    ⟨⟨Q.S.up, Q.S.s, Q.S.size, fun b hb _ => Q.S.fr b hb (fun h => h), fun b hb hl => (Q.S.lv b hb hl).elim .inl (fun h => h.elim)⟩, by
      obtain ⟨F, k1, k2⟩ := Q.q
      exact ⟨F, k1, fun b hb => (k2 b hb).elim .inl (fun h => h.elim)⟩⟩
  exact ⟨m1, h1, h2.s, h3, fun Q => h4 (up Q), fun Q v => h5 (up Q) v⟩
theorem Hold.recell (O : Hold W h0 m0 h m Rs) (k : Nat) (hk : Rs[k]? = some (rV b t cs)) {cs' : List Value} (e : cs = cs') : Hold W h0 m0 h m (Rs.set k (rV b t cs')) := by
  subst e
  exact O.conv k hk (R' := rV b t cs) fun F hF => ⟨F, hF, fun _ h => h⟩
theorem nn_len {n : Nat} (h : cs.length = n + 1) : cs ≠ [] := fun e => by subst e; cases h
theorem Hold.adr {K : Addr → Prop} (O : Hold W h0 m0 h m Rs) (k : Nat) (hk : Rs[k]? = some (rR a A c l)) (hn : n = l.length) (g : gi l x = some y) (H : ∀ aa, A = some aa → K aa) : ptrOk A fun a => 0 ≤ x ∧ x < ((n : Nat) : Int) ∧ K a := by
  obtain ⟨F, h1, _⟩ := O.get k hk
  have g1 := gi_get g
  rcases h1 with ⟨rfl, _⟩ | ⟨b, t, pre, cs, rest, Fe, k0, rfl, _⟩
  · cases g1
  · exact ⟨gi_le g, gi_ltl g hn, H _ rfl⟩
theorem srcV {e : TypeId} (O : Hold W h0 m0 h m Rs) (k : Nat) (hk : Rs[k]? = some (rV b e cs)) (hn : cs.length = sz) : srcCells sz (.slice (some ⟨b, 0, none⟩) 1 c) h = some (1, cs) := by
  have := O.all k hk
  subst hn
  simp only [srcCells, Nat.one_mul, this, Option.map_some]
theorem Hold.appR {e : TypeId} {bytes : Nat} {z : Array Value} {K : Value → Heap → Prop} (O : Hold W h0 m0 h m Rs) (k j : Nat) (hk : Rs[k]? = some (rR (aRow a) A c ll)) (hj : (Rs.set k rE)[j]? = some (rR a Ai ci li)) {X : Value} (hn : n = ll.length) (hz : z.size = 1) (hs : srcCells 1 X h = some (1, [.slice Ai li.length ci])) (hb0 : 0 < bytes) (g : ap bytes ll [li] = some ll')
    (H : ∀ A' c' h', Hold W h0 m0 h' m (((Rs.set k rE).set j rE).set k (rR (aRow a) A' c' ll')) → K (.slice A' ll'.length c') h') : AppW e 1 bytes z A n c X h K :=
  O.appA k j hk hj (fun F hF => ⟨Ai, ci, rfl, hF⟩) hn hz hs hb0 g H
end
end Go.Hw
namespace Go.Hw
end Go.Hw
namespace Go.Hw
open Go
class SetAt (k : Nat) (L : List Res) (r : Res) (out : outParam (List Res)) : Prop where
  eq : L.set k r = out
instance {a r : Res} {l : List Res} : SetAt 0 (a :: l) r (r :: l) := ⟨rfl⟩
instance {k : Nat} {a r : Res} {l o : List Res} [S : SetAt k l r o] : SetAt (k + 1) (a :: l) r (a :: o) := ⟨by rw [List.set_cons_succ, S.eq]⟩
class GetAt (k : Nat) (L : List Res) (r : outParam Res) : Prop where
  eq : L[k]? = some r
instance {a : Res} {l : List Res} : GetAt 0 (a :: l) a := ⟨rfl⟩
instance {k : Nat} {a r : Res} {l : List Res} [S : GetAt k l r] : GetAt (k + 1) (a :: l) r := ⟨by rw [List.getElem?_cons_succ, S.eq]⟩
class Apd (L M : List Res) (out : outParam (List Res)) : Prop where
  eq : L ++ M = out
instance {M : List Res} : Apd [] M M := ⟨rfl⟩
instance {a : Res} {l M o : List Res} [S : Apd l M o] : Apd (a :: l) M (a :: o) := ⟨by rw [List.cons_append, S.eq]⟩
class PickT (L : List Res) (is : List Nat) (T D : outParam (List Res)) : Prop where
  t : takeL L is = T
  d : dropL L is = D
instance {L : List Res} : PickT L [] [] L := ⟨rfl, rfl⟩
instance {L L2 T D : List Res} {i : Nat} {is : List Nat} {r : Res} [G : GetAt i L r] [S : SetAt i L rE L2] [P : PickT L2 is T D] : PickT L (i :: is) (r :: T) D := ⟨by simp only [takeL, G.eq, S.eq, P.t], by simp only [dropL, S.eq, P.d]⟩
class Nm (L : List Res) (out : outParam (List Res)) : Prop where
  eq : L = out
instance : Nm [] [] := ⟨rfl⟩
instance {a : Res} {l : List Res} : Nm (a :: l) (a :: l) := ⟨rfl⟩
instance {L L' o : List Res} {k : Nat} {r : Res} [N : Nm L L'] [S : SetAt k L' r o] : Nm (L.set k r) o := ⟨by rw [N.eq, S.eq]⟩
instance {L L' M M' o : List Res} [N : Nm L L'] [N' : Nm M M'] [S : Apd L' M' o] : Nm (L ++ M) o := ⟨by rw [N.eq, N'.eq, S.eq]⟩
instance {L L' T D : List Res} {is : List Nat} [N : Nm L L'] [S : PickT L' is T D] : Nm (takeL L is) T := ⟨by rw [N.eq, S.t]⟩
instance {L L' T D : List Res} {is : List Nat} [N : Nm L L'] [S : PickT L' is T D] : Nm (dropL L is) D := ⟨by rw [N.eq, S.d]⟩
theorem Hold.nm {W : Foot} {h0 m0 h m : Heap} {Rs Rs' : List Res} (O : Hold W h0 m0 h m Rs) [N : Nm Rs Rs'] : Hold W h0 m0 h m Rs' := N.eq ▸ O
end Go.Hw

end
section
namespace Go.Hw
open Go Go.RowKit
end Go.Hw

end
section
namespace Go.Hw
open Go
section
variable {α : Type} {sz : Nat} {E : Heap → α → List Value → Prop} {m m' h h' h0 m0 : Heap} {A : Option Addr} {l : List α} {c n : Nat} {W : Nat → Prop}
theorem OS.app_in {e : TypeId} {bytes : Nat} {z : Array Value} {X : Value} {xs : List α} {K : Value → Heap → Prop} (o : OS W h0 sz E h m A l c) (T : Tell sz E) (S : St W h0 m0 h m) (hn : n = l.length) (hs : Src sz E h m X xs) (hin : l.length + xs.length ≤ c)
    (hk : ∀ h', OS W h0 sz E h' m A (l ++ xs) c → St (fp A c) h m h' m → K (.slice A (l ++ xs).length c) h') : AppW e sz bytes z A n c X h K := by
  subst hn
  obtain ⟨es, h1, h2⟩ := hs
  have he := h2.len
  refine ⟨xs.length, es, h1, .inl ⟨hin, ?_⟩⟩
  rcases o with ⟨rfl, rfl⟩ | ⟨b, t, pre, cs, rest, rfl, k1, k2, k3, k4, k5, k6⟩
  · have hxs : xs = [] := List.length_eq_zero_iff.1 (by rw [List.length_nil] at hin; omega)
    subst hxs
    have : es = [] := h2
    subst this
    have fin := hk h (.inl ⟨rfl, rfl⟩) (St.refl S.s)
    cases A with
    | none => exact .inl ⟨rfl, fin⟩
    | some a => exact .inr ⟨a, h, rfl, by simp [stH], fin⟩
  · have hl := k2.len
    have hmul : (c - l.length) * sz = xs.length * sz + (c - l.length - xs.length) * sz := by rw [← Nat.add_mul]; congr 1; omega
    have k1' : Blk h b ((pre ++ cs) ++ rest.take (xs.length * sz) ++ rest.drop (xs.length * sz)) t := by rw [List.append_assoc, List.take_append_drop]; exact k1
    obtain ⟨h', s1, b1, o1⟩ := Blk.stH es (a := (⟨b, pre.length, none⟩ : Addr).add (l.length * sz)) (i := 0) k1' (by rw [add_block]) (add_spot _ rfl) (by rw [add_off, List.length_append, hl, Nat.add_zero]) (by rw [List.length_take, he]; omega) (h2.flat T)
    refine .inr ⟨_, h', rfl, s1, ?_⟩
    rw [show (Value.slice (some ⟨b, pre.length, none⟩) (l.length + xs.length) c) = .slice (some ⟨b, pre.length, none⟩) (l ++ xs).length c by rw [List.length_append]]
    refine hk _ (.inr ⟨b, t, pre, cs ++ es, rest.drop (xs.length * sz), rfl, by rw [← List.append_assoc pre]; exact b1, k2.append h2, by rw [List.length_append]; exact hin, ?_, k5, k6⟩) ?_
    · rw [List.length_drop, List.length_append, show c - (l.length + xs.length) = c - l.length - xs.length by omega]; omega
    · refine ⟨.refl _, fun i o1' j1 j2 => ?_, by rw [o1.1]; exact Nat.le_refl _, fun i hi hw => ?_, fun i _ hl => .inl hl⟩
      · rw [o1.2 i (fun e => k6 (e ▸ ⟨o1', j1, j2⟩))]; exact S.s i o1' j1 j2
      · by_cases hc : c = 0
        · have hes : es = [] := List.length_eq_zero_iff.1 (by rw [he, show xs.length = 0 by omega, Nat.zero_mul])
          subst hes
          simp only [stH, Option.some.injEq] at s1
          rw [s1]
        · exact o1.2 i fun e => hw ⟨hc, _, rfl, e.symm⟩
theorem OS.spare (o : OS W h0 sz E h m A l c) (s : Sub m h) {ds : List Value} (hd : l.length * sz + ds.length ≤ c * sz) (hf : ∀ v ∈ ds, Flat v) {a : Addr} (ha : A = some a) (hc : c ≠ 0) :
    ∃ h', stH h (a.add (l.length * sz)) ds 0 = some h' ∧ OS W h0 sz E h' m A l c ∧ St (fp A c) h m h' m := by
  rcases o with ⟨rfl, rfl⟩ | ⟨b, t, pre, cs, rest, rfl, k1, k2, k3, k4, k5, k6⟩
  · exact absurd rfl hc
  · cases ha
    have hl := k2.len
    have hmul : (c - l.length) * sz + l.length * sz = c * sz := by rw [← Nat.add_mul, Nat.sub_add_cancel k3]
    have k1' : Blk h b ((pre ++ cs) ++ rest.take ds.length ++ rest.drop ds.length) t := by rw [List.append_assoc, List.take_append_drop]; exact k1
    obtain ⟨h', s1, b1, o1⟩ := Blk.stH ds (a := (⟨b, pre.length, none⟩ : Addr).add (l.length * sz)) (i := 0) k1' (by rw [add_block]) (add_spot _ rfl) (by rw [add_off, List.length_append, hl, Nat.add_zero]) (by rw [List.length_take]; omega) hf
    refine ⟨h', s1, .inr ⟨b, t, pre, cs, ds ++ rest.drop ds.length, rfl, by rw [← List.append_assoc]; exact b1, k2, k3, ?_, k5, k6⟩, ?_⟩
    · rw [List.length_append, List.length_drop]; omega
    · refine ⟨.refl _, fun i o1' j1 j2 => ?_, by rw [o1.1]; exact Nat.le_refl _, fun i hi hw => o1.2 i fun e => hw ⟨hc, _, rfl, e.symm⟩, fun i _ hl => .inl hl⟩
      rw [o1.2 i (fun e => k6 (e ▸ ⟨o1', j1, j2⟩))]; exact s i o1' j1 j2
theorem gen_clear0 {P : Program} {t e : TypeId} {cap : Nat} {K : Value → Heap → Prop} (hu : P.underlying t = some (.slice e)) (hk : K (.tuple #[]) h) : Gen P (Builtin.clear_ #[t] 0 #[.slice A 0 cap]) h K := by
  unfold Gen Builtin.clear_
  refine hwp_bind (hwp_underlying hu ?_)
  cases A <;> exact hwp_bind (hwp_pure (hwp_pure hk))
theorem gen_clear {P : Program} {t e : TypeId} {a : Addr} {k cap : Nat} {z : Value} {h' : Heap} {K : Value → Heap → Prop} (hu : P.underlying t = some (.slice e)) (hz : zeroOf P e = some z) (hs : stH h a (Builtin.zeroCells z.cells (k + 1)).toList 0 = some h') (hk : K (.tuple #[]) h') : Gen P (Builtin.clear_ #[t] 0 #[.slice (some a) (k + 1) cap]) h K := by
  unfold Gen Builtin.clear_
  refine hwp_bind (hwp_underlying hu ?_)
  refine hwp_bind (s := zeroValue e) (hwp_zero hz ?_)
  refine hwp_bind (hwp_storeCells a _ 0 hs ?_)
  exact hwp_pure hk
end
end Go.Hw

end
section
set_option linter.unusedVariables false
namespace Go.Hw
open Go
theorem zcells_mk (z : Array Value) (n : Nat) : zcells z n = mkCells z (n * z.size) := rfl
theorem sliceA_zero {A : Option Addr} {c sz : Nat} : sliceA A (Int.toNat (0 : Int)) c sz = A := by
  unfold sliceA
  split
  · rfl
  · cases A with
    | none => rfl
    | some a => simp [Addr.add]
section
variable {α : Type} {sz : Nat} {E : Heap → α → List Value → Prop} {T : Tell sz E} {m m' h h' h0 m0 : Heap} {A : Option Addr} {l l8 : List α} {c c2 n k : Nat} {W : Foot} {P : Program} {t e : TypeId} {zv : Value} {zp : α} {lo hi : Int} {Rs : List Res}
theorem zc_flat {z : Array Value} (hf : ∀ v ∈ z.toList, Flat v) (n : Nat) : ∀ v ∈ (zcells z n).toList, Flat v := by
  rw [zcells_mk, mkCells_flat rfl]
  intro v hv
  obtain ⟨l, h1, h2⟩ := List.mem_flatten.1 hv
  rw [(List.mem_replicate.1 h1).2] at h2
  exact hf v h2
theorem delete_ok {R : Value → Heap → Prop} {x1 x2 : Int} {bytes : Nat} {z : Array Value} (O : Hold W h0 m0 h m Rs) (k : Nat) (hk : Rs[k]? = some (rR (aE T) A c l)) (hu : P.underlying t = some (.slice e)) (hz : zeroOf P e = some zv) (hE : E m zp zv.cells.toList) (g : 0 ≤ x1 ∧ x1 ≤ x2 ∧ x2 ≤ (l.length : Int))
    (H : ∀ h', Hold W h0 m0 h' m (Rs.set k (rR (aE T) A c (l.take x1.toNat ++ l.drop x2.toNat))) → R (.slice A (l.take x1.toNat ++ l.drop x2.toNat).length c) h') :
    0 ≤ x1 ∧ x1 ≤ x2 ∧ x2 ≤ ((l.length : Nat) : Int) ∧ ((l.length : Nat) : Int) ≤ ((c : Nat) : Int) ∧ (splitB (x1 == x2) (R (Value.slice A l.length c) h) (0 ≤ (0 : Int) ∧ (0 : Int) ≤ x1 ∧ x1 ≤ ((c : Nat) : Int) ∧ (0 ≤ x2 ∧ x2 ≤ ((l.length : Nat) : Int) ∧ ((l.length : Nat) : Int) ≤ ((c : Nat) : Int) ∧ (AppW e sz bytes z (sliceA A (Int.toNat (0 : Int)) c sz) (Int.toNat x1 - Int.toNat (0 : Int)) (c - Int.toNat (0 : Int)) (Value.slice (sliceA A (Int.toNat x2) c sz) (Int.toNat ((l.length : Nat) : Int) - Int.toNat x2) (c - Int.toNat x2)) h fun v1_ h2_ => ∃ A3_, ∃ n3_, ∃ c3_, v1_ = (Value.slice A3_ n3_ c3_) ∧ 0 ≤ ((n3_ : Nat) : Int) ∧ ((n3_ : Nat) : Int) ≤ ((l.length : Nat) : Int) ∧ ((l.length : Nat) : Int) ≤ ((c3_ : Nat) : Int) ∧ (Gen P (Builtin.clear_ #[t] 0 #[(Value.slice (sliceA A3_ (Int.toNat ((n3_ : Nat) : Int)) c3_ sz) (Int.toNat ((l.length : Nat) : Int) - Int.toNat ((n3_ : Nat) : Int)) (c3_ - Int.toNat ((n3_ : Nat) : Int)))]) h2_ fun v4_ h5_ => v4_ = (Value.tuple #[]) ∧ R (Value.slice A3_ n3_ c3_) h5_))))) := by
  obtain ⟨g1, g2, g3⟩ := g
  have hc := O.cap k hk
  have o := O.os k hk
  refine ⟨g1, g2, g3, by omega, ?_⟩
  refine split_eq (fun q => ?_) (fun q => ?_)
  · subst q
    have e1 : l.take x1.toNat ++ l.drop x1.toNat = l := List.take_append_drop _ _
    have := H h (by rw [e1]; exact O.conv k hk (R' := rR (aE T) A c l) fun F hF => ⟨F, hF, fun _ h => h⟩)
    rw [e1] at this
    exact this
  · refine ⟨by decide, g1, by omega, by omega, g3, by omega, ?_⟩
    have w1 : sls l 0 x1 = some (l.take x1.toNat) := by rw [sls_of (by omega) g1 (by omega), sl_hi]
    have w2 : sls l x2 (l.length : Int) = some (l.drop x2.toNat) := by rw [sls_of (by omega) g3 (by omega), sl_lo]
    have o1 := o.sls w1 (mx := c) (by omega) (Nat.le_refl _)
    rw [sliceA_zero] at o1 ⊢
    have o2 := o.sls w2 (mx := c) (by omega) (Nat.le_refl _)
    have e1 : Int.toNat x1 - Int.toNat (0 : Int) = (l.take x1.toNat).length := by rw [List.length_take]; omega
    have e2 : Int.toNat ((l.length : Nat) : Int) - Int.toNat x2 = (l.drop x2.toNat).length := by rw [List.length_drop]; omega
    have hlen : (l.take x1.toNat).length + (l.drop x2.toNat).length ≤ l.length := by rw [List.length_take, List.length_drop]; omega
    refine OS.app_in o1 T O.S e1 (o2.srcE e2) (by rw [show c - Int.toNat (0 : Int) = c by simp]; omega) fun h2 o3 S3 => ?_
    rw [show c - Int.toNat (0 : Int) = c by simp] at o3 S3 ⊢
    refine ⟨_, _, _, rfl, Int.natCast_nonneg _, by rw [List.length_append]; omega, by omega, ?_⟩
    rw [show Int.toNat (((l.take x1.toNat ++ l.drop x2.toNat).length : Nat) : Int) = (l.take x1.toNat ++ l.drop x2.toNat).length from rfl, show Int.toNat ((l.length : Nat) : Int) = l.length from rfl]
    by_cases hd : l.length - (l.take x1.toNat ++ l.drop x2.toNat).length = 0
    · rw [hd]
      exact gen_clear0 hu ⟨rfl, H h2 (O.setR k hk o3 S3)⟩
    · obtain ⟨j, hj⟩ : ∃ j, l.length - (l.take x1.toNat ++ l.drop x2.toNat).length = j + 1 := ⟨l.length - (l.take x1.toNat ++ l.drop x2.toNat).length - 1, by omega⟩
      rw [hj]
      have hzs : zv.cells.size = sz := by have := T.len _ _ _ hE; simpa using this
      have hcne : c ≠ 0 := by omega
      obtain ⟨a, ha⟩ : ∃ a, A = some a := by
        rcases o with ⟨rfl, hc0⟩ | ⟨b, t, pre, cs, rest, rfl, _⟩
        · exact absurd hc0 hcne
        · exact ⟨_, rfl⟩
      obtain ⟨h5, s5, o5, S5⟩ := o3.spare (O.setR k hk o3 S3).s (ds := (zcells zv.cells (j + 1)).toList) (by
        rw [zc_len, hzs, ← Nat.add_mul]; exact Nat.mul_le_mul_right _ (by omega)) (zc_flat (T.flat _ _ _ hE) _) ha hcne
      have e5 : sliceA A (l.take x1.toNat ++ l.drop x2.toNat).length c sz = some (a.add ((l.take x1.toNat ++ l.drop x2.toNat).length * sz)) := by
        unfold sliceA; rw [if_neg (by omega), ha]; rfl
      rw [e5]
      refine gen_clear hu hz (h' := h5) s5 ⟨rfl, H h5 (O.setR k hk o5 (S3.then S5 fun b _ hb => .inr hb))⟩
end
end Go.Hw
namespace Go.Hw
open Go
end Go.Hw
namespace Go.Hw
open Go
end Go.Hw

end
section
set_option linter.unusedVariables false
namespace Go.Hw
open Go
section
variable {α : Type} {sz : Nat}
def CsS (a : Asn α sz) (h m : Heap) (l : List α) (hs : List Value) (S : Option Nat) (F : Foot) : Prop :=
  match S with
  | none => CsA a h m l hs F
  | some i => ∃ l1 y l2 c1 ce c2 F1 F2, l = l1 ++ y :: l2 ∧ l1.length = i ∧ hs = c1 ++ (ce ++ c2) ∧ c1.length = i * sz ∧ ce.length = sz ∧ CsA a h m l1 c1 F1 ∧ CsA a h m l2 c2 F2 ∧ Dj F1 F2 ∧ F = U F1 F2
variable {a : Asn α sz} {h h' h0 m m' m0 : Heap} {A Ai : Option Addr} {c ci n k i : Nat} {l l' li : List α} {hs : List Value} {S : Option Nat} {F F' G W : Foot} {x : Int} {y y' : α} {v : Value} {cs : List Value} {Rs : List Res} {b : Nat} {t : TypeId} {aa : Addr} {K : Heap → Prop}
theorem CsS.lt (hc : CsS a h m l hs S F) : ∀ b, F b → b < h.size := by
  cases S with
  | none => exact CsA.lt hc
  | some i => obtain ⟨l1, y, l2, c1, ce, c2, F1, F2, _, _, _, _, _, h1, h2, _, rfl⟩ := hc; exact fun b hb => hb.elim (h1.lt b) (h2.lt b)
theorem CsS.nl (hc : CsS a h m l hs S F) : ∀ b, F b → ¬ Live m b := by
  cases S with
  | none => exact CsA.nl hc
  | some i => obtain ⟨l1, y, l2, c1, ce, c2, F1, F2, _, _, _, _, _, h1, h2, _, rfl⟩ := hc; exact fun b hb => hb.elim (h1.nl b) (h2.nl b)
theorem CsS.fr (hc : CsS a h m l hs S F) (k1 : ∀ b, F b → h'[b]? = h[b]?) (k2 : Sub m m') (k3 : ∀ b, F b → ¬ Live m' b) : CsS a h' m' l hs S F := by
  cases S with
  | none => exact CsA.fr hc k1 k2 k3
  | some i =>
    obtain ⟨l1, y, l2, c1, ce, c2, F1, F2, e1, e2, e3, e4, e5, h1, h2, d, rfl⟩ := hc
    exact ⟨l1, y, l2, c1, ce, c2, F1, F2, e1, e2, e3, e4, e5, h1.fr (fun b hb => k1 b (.inl hb)) k2 (fun b hb => k3 b (.inl hb)), h2.fr (fun b hb => k1 b (.inr hb)) k2 (fun b hb => k3 b (.inr hb)), d, rfl⟩
def rX (a : Asn α sz) (A : Option Addr) (c : Nat) (l : List α) (hs : List Value) (S : Option Nat) : Res where
  p h m F := ∃ b t pre rest Fe, c ≠ 0 ∧ A = some ⟨b, pre.length, none⟩ ∧ Blk h b (pre ++ hs ++ rest) t ∧ CsS a h m l hs S Fe ∧ l.length ≤ c ∧ (c - l.length) * sz ≤ rest.length ∧ ¬ Live m b ∧ ¬ Fe b ∧ F = U (fb b) Fe
  z _ := True
  lt := by
    rintro h m F ⟨b, t, pre, rest, Fe, k0, k1, k2, k3, k4, k5, k6, k7, rfl⟩ i hi
    rcases hi with hi | hi
    · unfold fb at hi; subst hi; exact k2.lt
    · exact k3.lt i hi
  nl := by
    rintro h m F ⟨b, t, pre, rest, Fe, k0, k1, k2, k3, k4, k5, k6, k7, rfl⟩ i hi
    rcases hi with hi | hi
    · unfold fb at hi; subst hi; exact k6
    · exact k3.nl i hi
  fr := by
    rintro h m F h' m' ⟨b, t, pre, rest, Fe, k0, k1, k2, k3, k4, k5, k6, k7, rfl⟩ f1 f2 f3
    exact ⟨b, t, pre, rest, Fe, k0, k1, k2.fr (f1 b (.inl rfl)), k3.fr (fun i hi => f1 i (.inr hi)) f2 (fun i hi => f3 i (.inr hi)), k4, k5, f3 b (.inl rfl), k7, rfl⟩
  fz := fun _ _ _ => trivial
theorem Hold.openX (O : Hold W h0 m0 h m Rs) (k : Nat) (hk : Rs[k]? = some (rR a A c l)) (g : gi l x = some y) : ∃ hs, Hold W h0 m0 h m (Rs.set k (rX a A c l hs none)) := by
  obtain ⟨F, h1, _, h3⟩ := O.get k hk
  have g1 := gi_get g
  rcases h1 with ⟨rfl, _⟩ | ⟨b, t, pre, cs, rest, Fe, k0, k1, k2, k3, k4, k5, k6, k7, rfl⟩
  · cases g1
  · exact ⟨cs, h3 (R' := rX a A c l cs none) (.refl O.s) ⟨b, t, pre, rest, Fe, k0, k1, k2, k3, k4, k5, k6, k7, rfl⟩ (fun _ h => .inl h)⟩
theorem Hold.closeX (O : Hold W h0 m0 h m Rs) (k : Nat) (hk : Rs[k]? = some (rX a A c l hs none)) : Hold W h0 m0 h m (Rs.set k (rR a A c l)) :=
  O.conv k hk (R' := rR a A c l) fun F ⟨b, t, pre, rest, Fe, k0, k1, k2, k3, k4, k5, k6, k7, e⟩ => ⟨F, .inr ⟨b, t, pre, hs, rest, Fe, k0, k1, k2, k3, k4, k5, k6, k7, e⟩, fun _ h => h⟩
theorem Hold.adrX {K : Addr → Prop} (O : Hold W h0 m0 h m Rs) (k : Nat) (hk : Rs[k]? = some (rX a A c l hs S)) (hn : n = l.length) (g : gi l x = some y) (H : ∀ aa, A = some aa → K aa) : ptrOk A fun a => 0 ≤ x ∧ x < ((n : Nat) : Int) ∧ K a := by
  obtain ⟨F, ⟨b, t, pre, rest, Fe, k0, k1, k2, k3, k4, _⟩, _⟩ := O.get k hk
  subst k1
  exact ⟨gi_le g, gi_ltl g hn, H _ rfl⟩
end
section
variable {α : Type} {sz : Nat} {a : Asn α sz} {h h' h0 m m' m0 : Heap} {A Ai : Option Addr} {c ci n k i : Nat} {ll ll' : List (List α)} {li l' : List α} {hs : List Value} {S : Option Nat} {F F' G W : Foot} {x : Int} {v : Value} {Rs : List Res} {b : Nat} {t : TypeId} {aa : Addr} {K : Heap → Prop}
variable {E : Heap → α → List Value → Prop} {T : Tell sz E}
theorem Hold.hdX (O : Hold W h0 m0 h m Rs) (k : Nat) (hk : Rs[k]? = some (rX (aRow a) A c ll hs none)) (ha : A = some aa) (g : gi ll x = some li) : ∃ Ai ci, hs[Int.toNat x]? = some (.slice Ai li.length ci) ∧ cellsH h (Addr.add aa (Int.toNat x * 1)) 0 1 = some [.slice Ai li.length ci] ∧ li.length ≤ ci := by
  obtain ⟨F, ⟨b, t, pre, rest, Fe, k0, k1, k2, k3, k4, _⟩, _⟩ := O.get k hk
  rw [ha] at k1; cases k1
  obtain ⟨l1, l2, c1, ce, c2, F1, F3, F2, e1, e2, rfl, e4, h1, ⟨Ai, ci, rfl, h2⟩, _⟩ := CsA.split k3 (gi_get g)
  have e5 : (c1 ++ ([Value.slice Ai li.length ci] ++ c2))[Int.toNat x]? = some (.slice Ai li.length ci) := by
    rw [List.getElem?_append_right (by omega), show Int.toNat x - c1.length = 0 by omega]; rfl
  refine ⟨Ai, ci, e5, ?_, rowP.cap h2⟩
  have hlt := (List.getElem?_eq_some_iff.1 e5).1
  have := k2.cells (a := (⟨b, pre.length, none⟩ : Addr).add (x.toNat * 1)) (by rw [add_block]) (add_spot _ rfl) 1 0 (by rw [add_off]; simp only [List.length_append] at hlt ⊢; omega)
  rw [this, add_off]
  simp only [Nat.add_zero, Nat.mul_one]
  rw [List.append_assoc pre, ← List.drop_drop, List.drop_left, List.drop_append_of_le_length (by omega), List.drop_eq_getElem_cons hlt, List.cons_append, List.take_succ_cons, List.take_zero]
  congr 2
  rw [List.getElem?_eq_getElem hlt] at e5
  exact Option.some.inj e5
theorem Hold.takeX (O : Hold W h0 m0 h m Rs) (k : Nat) (hk : Rs[k]? = some (rX (aRow a) A c ll hs none)) (hx : hs[Int.toNat x]? = some (.slice Ai n ci)) (g : gi ll x = some li) : Hold W h0 m0 h m (Rs.set k (rX (aRow a) A c ll hs (some (Int.toNat x))) ++ [rR a Ai ci li]) := by
  refine O.cut k hk fun F hF => ?_
  obtain ⟨b, t, pre, rest, Fe, k0, k1, k2, k3, k4, k5, k6, k7, rfl⟩ := hF
  obtain ⟨l1, l2, c1, ce, c2, F1, F3, F2, e1, e2, rfl, e4, h1, ⟨A2, c2', rfl, h2⟩, h3, d1, d2, d3, rfl⟩ := CsA.split k3 (gi_get g)
  have e5 : (c1 ++ ([Value.slice A2 li.length c2'] ++ c2))[Int.toNat x]? = some (.slice A2 li.length c2') := by
    rw [List.getElem?_append_right (by omega), show Int.toNat x - c1.length = 0 by omega]; rfl
  rw [e5] at hx
  cases hx
  refine ⟨U (fb b) (U F1 F2), F3, ⟨b, t, pre, rest, U F1 F2, k0, k1, k2, ⟨l1, li, l2, c1, _, c2, F1, F2, e1, e2, rfl, e4, rfl, h1, h3, d2, rfl⟩, k4, k5, k6, fun hb => k7 (.inr hb), rfl⟩, h2, ?_, ?_⟩
  · exact Dj.u (fun i hi hf => by unfold fb at hi; subst hi; exact k7 (.inl hf)) (Dj.u d1 d3.symm)
  · rintro i ((hi | hi) | hi)
    · exact .inl hi
    · exact .inr (.inr hi)
    · exact .inr (.inl hi)
theorem Hold.putX (O : Hold W h0 m0 h m Rs) (k j : Nat) (hk : Rs[k]? = some (rX (aRow a) A c ll hs (some i))) (hj : (Rs.set k rE)[j]? = some (rR a Ai ci li)) (hx : hs[i]? = some (.slice Ai n ci)) (hn : n = li.length) (e : ll.set i li = ll') : Hold W h0 m0 h m (((Rs.set k rE).set j rE).set k (rX (aRow a) A c ll' hs none)) := by
  subst e; subst hn
  refine O.fuse k j (R' := rX (aRow a) A c (ll.set i li) hs none) hk hj ?_
  rintro F1 F2 ⟨b, t, pre, rest, Fe, k0, k1, k2, ⟨l1, y', l2, c1, ce, c2, G1, G2, rfl, rfl, rfl, q4, q5, q6, q7, q8, rfl⟩, k4, k5, k6, k7, rfl⟩ h2 d
  have hce : ce = [.slice Ai li.length ci] := by
    rw [List.getElem?_append_right (by omega), show l1.length - c1.length = 0 by omega, List.getElem?_append_left (by omega)] at hx
    cases ce with
    | nil => cases q5
    | cons v ce => simp at hx q5; rw [hx, q5]
  subst hce
  have hl : (l1 ++ y' :: l2).set l1.length li = l1 ++ li :: l2 := by rw [List.set_append_right _ _ (Nat.le_refl _), Nat.sub_self, List.set_cons_zero]
  have hlen : (l1 ++ li :: l2).length = (l1 ++ y' :: l2).length := by simp
  rw [hl]
  refine ⟨U (fb b) (U F2 (U G1 G2)), ⟨b, t, pre, rest, _, k0, k1, k2, q6.join ⟨Ai, ci, rfl, h2⟩ q7 d.ur.ul q8 d.ur.ur.symm, by rw [hlen]; exact k4, by rw [hlen]; exact k5, k6, ?_, rfl⟩, ?_⟩
  · rintro (hf | hf)
    · exact d b (.inl rfl) hf
    · exact k7 hf
  · rintro i (hi | hi | hi)
    · exact .inl (.inl hi)
    · exact .inr hi
    · exact .inl (.inr hi)
theorem Hold.hdSt (O : Hold W h0 m0 h m Rs) (k : Nat) (hk : Rs[k]? = some (rX (aRow a) A c ll hs (some i))) (ha : A = some aa) (hf : Flat v) (H : ∀ h', Hold W h0 m0 h' m (Rs.set k (rX (aRow a) A c ll (hs.set i v) (some i))) → K h') : ∃ h', st1 h (Addr.add aa (i * 1)) v = some h' ∧ K h' := by
  obtain ⟨F, h1, h2, h3⟩ := O.get k hk
  obtain ⟨b, t, pre, rest, Fe, k0, k1, k2, ⟨l1, y', l2, c1, ce, c2, G1, G2, e1, rfl, rfl, q4, q5, q6, q7, q8, rfl⟩, k4, k5, k6, k7, rfl⟩ := h1
  subst ha; cases k1
  have hb : Blk h b ((pre ++ c1) ++ ce ++ (c2 ++ rest)) t := by
    have : (pre ++ c1) ++ ce ++ (c2 ++ rest) = pre ++ (c1 ++ (ce ++ c2)) ++ rest := by simp only [List.append_assoc]
    rw [this]; exact k2
  obtain ⟨h', s1, b1, o1⟩ := Blk.stH [v] (a := Addr.add ⟨b, pre.length, none⟩ (l1.length * 1)) (i := 0) hb (by rw [add_block]) (add_spot _ rfl)
    (by rw [add_off]; simp only [List.length_append]; omega) (by rw [q5]; rfl) (Flats.cons hf Flats.nil)
  have s2 : st1 h (Addr.add ⟨b, pre.length, none⟩ (l1.length * 1)) v = some h' := by
    simp only [stH] at s1
    split at s1
    · rename_i h4 h5
      cases s1; exact h5
    · cases s1
  refine ⟨h', s2, H h' ?_⟩
  have S : St (fb b) h m h' m := .only O.s k6 o1
  have S2 : St (U (fb b) (U G1 G2)) h m h' m := ⟨S.up, S.s, S.size, fun i hi hn => S.fr i hi (fun h => hn (.inl h)), fun i hi hl => .inl hl⟩
  have hk0 : ∀ b', G1 b' ∨ G2 b' → h'[b']? = h[b']? := fun b' hb' => S.fr b' (hb'.elim (q6.lt b') (q7.lt b')) (fun e => by unfold fb at e; subst e; exact k7 hb')
  have hset : (c1 ++ (ce ++ c2)).set l1.length v = c1 ++ ([v] ++ c2) := by
    rw [List.set_append_right _ _ (by omega), show l1.length - c1.length = 0 by omega]
    cases ce with
    | nil => cases q5
    | cons w ce => simp at q5; subst q5; rfl
  rw [hset]
  refine h3 (R' := rX (aRow a) (some ⟨b, pre.length, none⟩) c ll (c1 ++ ([v] ++ c2)) (some l1.length)) S2 ⟨b, t, pre, rest, _, k0, rfl, ?_, ⟨l1, y', l2, c1, [v], c2, G1, G2, e1, rfl, rfl, q4, rfl, q6.fr (fun i hi => hk0 i (.inl hi)) (.refl _) (fun i hi => q6.nl i hi), q7.fr (fun i hi => hk0 i (.inr hi)) (.refl _) (fun i hi => q7.nl i hi), q8, rfl⟩, k4, k5, k6, k7, rfl⟩ (fun _ h => .inl h)
  have : pre ++ (c1 ++ ([v] ++ c2)) ++ rest = (pre ++ c1) ++ [v] ++ (c2 ++ rest) := by simp only [List.append_assoc]
  rw [this]; exact b1
theorem hx_len {hs : List Value} {i n k c : Nat} {A : Option Addr} (h : hs[i]? = some (.slice A n c)) (e : n = k) : hs[i]? = some (.slice A k c) := by subst e; exact h
theorem hs_set {hs : List Value} {i : Nat} {v w : Value} (h : hs[i]? = some w) : (hs.set i v)[i]? = some v := List.getElem?_set_self (List.getElem?_eq_some_iff.1 h).1
end
end Go.Hw

end
section
set_option linter.unusedVariables false
namespace Go.Hw
open Go
end Go.Hw

end
section
set_option linter.unusedVariables false
namespace Go.Hw
open Go Go.RowKit
end Go.Hw

end
section
set_option linter.unusedVariables false
namespace Go.Hw
open Go
end Go.Hw
namespace Go.Hw
open Go
end Go.Hw
namespace Go.Hw
open Go
end Go.Hw
namespace Go.Hw
open Go
end Go.Hw
namespace Go.Hw
open Go
end Go.Hw

end
section
set_option linter.unusedVariables false
namespace Go.Hw
open Go
end Go.Hw

end
