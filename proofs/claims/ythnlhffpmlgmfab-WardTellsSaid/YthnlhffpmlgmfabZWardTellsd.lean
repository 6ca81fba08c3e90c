/- Part 4: what the law WardTells needs, put together out of texts of this session. -/
import Derived.Test.YthnlhffpmlgmfabZWardTellsc
section
namespace Go.Hw
open Go
def dead : Obj := .cells #[] 0 (0, 0)
def Live (m : Heap) (b : Nat) : Prop := ∃ o, m[b]? = some o ∧ o ≠ dead
def Sub (m h : Heap) : Prop := ∀ (b : Nat) (o : Obj), m[b]? = some o → o ≠ dead → h[b]? = some o
abbrev No : Nat → Prop := fun _ => False
section
variable {m m' h h' k h0 m0 : Heap} {b : Nat} {W W' : Nat → Prop}
theorem Sub.refl (h : Heap) : Sub h h := fun _ _ h _ => h
theorem Sub.trans (s : Sub m h) (t : Sub h k) : Sub m k := fun b o h1 h2 => t b o (s b o h1 h2) h2
theorem Sub.lt (s : Sub m h) (l : Live m b) : b < h.size := by
  obtain ⟨o, h1, h2⟩ := l
  exact (Array.getElem?_eq_some_iff.1 (s b o h1 h2)).1
theorem Sub.ext (s : Sub m h) (e : Ext h h') : Sub m h' := fun b o h1 h2 => by rw [e.2 b (s.lt ⟨o, h1, h2⟩)]; exact s b o h1 h2
theorem Sub.cell (s : Sub m h) {a : Addr} {v : Value} (hc : cellH m a = some v) : cellH h a = some v := by
  unfold cellH at hc
  split at hc
  · rename_i c e f hm
    have hne : (Obj.cells c e f) ≠ dead := by
      intro hd
      unfold dead at hd
      cases hd
      split at hc <;> simp at hc
    unfold cellH
    rw [s _ _ hm hne]; exact hc
  · cases hc
theorem Sub.cells (s : Sub m h) {a : Addr} : ∀ (n i : Nat) {vs : List Value}, cellsH m a i n = some vs → cellsH h a i n = some vs := by
  intro n
  induction n with
  | zero => intro i vs hc; exact hc
  | succ n ih =>
    intro i vs hc
    simp only [cellsH] at hc ⊢
    split at hc
    · rename_i v hv
      rw [s.cell hv]
      split at hc
      · rename_i us hu
        rw [ih _ hu]; exact hc
      · cases hc
    · cases hc
theorem Sub.blk (s : Sub m h) {c : List Value} {t : TypeId} (hb : Blk m b c t) (hc : c ≠ []) : Blk h b c t := by
  unfold Blk at *
  refine s _ _ hb ?_
  intro hd
  unfold dead at hd
  cases c with
  | nil => exact hc rfl
  | cons x c => simp at hd
end
structure Tell {α : Type} (sz : Nat) (E : Heap → α → List Value → Prop) : Prop where
  mono : ∀ m h x cs, Sub m h → E m x cs → E h x cs
  len : ∀ h x cs, E h x cs → cs.length = sz
  flat : ∀ h x cs, E h x cs → ∀ v ∈ cs, Flat v
theorem Flats.nil : ∀ v ∈ ([] : List Value), Flat v := fun v hv => by cases hv
theorem Flats.cons {x : Value} {l : List Value} (h : Flat x) (t : ∀ v ∈ l, Flat v) : ∀ v ∈ x :: l, Flat v := fun v hv => by
  rcases List.mem_cons.1 hv with rfl | hv
  · exact h
  · exact t v hv
theorem tell_int (k : IntKind) : Tell 1 (eInt k) := ⟨fun _ _ _ _ _ h => h, fun _ _ _ h => by rw [h]; rfl, fun _ _ _ h => by rw [h]; exact Flats.cons trivial Flats.nil⟩
section
variable {α : Type} {sz : Nat} {E : Heap → α → List Value → Prop} {m m' h h' : Heap} {A : Option Addr} {l : List α} {c : Nat}
theorem Rd.sub (r : Rd sz E m A l) (T : Tell sz E) (s : Sub m h) : Rd sz E h A l := fun i hi =>
  let ⟨a, cs, h1, h2, h3⟩ := r i hi
  ⟨a, cs, h1, s.cells _ _ h2, T.mono _ _ _ _ s h3⟩
end
structure St (W : Nat → Prop) (h0 m0 h m : Heap) : Prop where
  up : Sub m0 m
  s : Sub m h
  size : h0.size ≤ h.size
  fr : ∀ b, b < h0.size → ¬ W b → h[b]? = h0[b]?
  lv : ∀ b, b < h0.size → Live m b → Live m0 b ∨ W b
def fb (b0 b : Nat) : Prop := b = b0
def fp (A : Option Addr) (c : Nat) (b : Nat) : Prop := c ≠ 0 ∧ ∃ a, A = some a ∧ a.block = b
def Dj (F G : Nat → Prop) : Prop := ∀ b, F b → G b → False
section
variable {m m' h h' h0 m0 : Heap} {b b' : Nat} {W W' F G G' : Nat → Prop}
theorem Dj.symm (d : Dj F G) : Dj G F := fun b h1 h2 => d b h2 h1
theorem Dj.no : Dj No F := fun _ h _ => h
theorem St.refl (s : Sub m h) : St W h m h m := ⟨.refl _, s, Nat.le_refl _, fun _ _ _ => rfl, fun _ _ h => .inl h⟩
theorem St.of_ext (s : Sub m h) (e : Ext h h') : St W h m h' m := ⟨.refl _, s.ext e, e.1, fun b hb _ => e.2 b hb, fun _ _ h => .inl h⟩
theorem St.ext (S : St No h m h' m') : Ext h h' := ⟨S.size, fun b hb => S.fr b hb (fun h => h)⟩
theorem St.then (S : St W h0 m0 h m) (T : St W' h m h' m') (hw : ∀ b, b < h.size → W' b → h0.size ≤ b ∨ W b) : St W h0 m0 h' m' where
  up := S.up.trans T.up
  s := T.s
  size := Nat.le_trans S.size T.size
  fr b hb hn := by
    rw [T.fr b (by have := S.size; omega) (fun hw' => (hw b (by have := S.size; omega) hw').elim (fun h => by omega) hn)]
    exact S.fr b hb hn
  lv b hb hl := by
    rcases T.lv b (by have := S.size; omega) hl with h1 | h1
    · exact S.lv b hb h1
    · exact .inr ((hw b (by have := S.size; omega) h1).elim (fun h => by omega) id)
theorem St.grow (S : St W h0 m0 h m) (T : St No h m h' m') : St W h0 m0 h' m' := S.then T fun _ _ h => h.elim
theorem St.notLive (s : Sub m h) : ¬ Live m h.size := fun l => by have := s.lt l; omega
theorem St.only (s : Sub m h) (hn : ¬ Live m b) (o : Only h h' b) : St (fb b) h m h' m where
  up := .refl _
  s i x h1 h2 := by
    rw [o.2 i (fun e => hn (e ▸ ⟨x, h1, h2⟩))]; exact s i x h1 h2
  size := by rw [o.1]; exact Nat.le_refl _
  fr i _ hw := o.2 i hw
  lv i _ hl := .inl hl
end
open Classical in
noncomputable def addV (m h : Heap) (F : Nat → Prop) : Heap := Array.ofFn (n := h.size) fun i => if Live m i.1 ∨ F i.1 then h[i.1] else dead
section
variable {m h : Heap} {b : Nat} {F : Nat → Prop}
theorem addV_get (hb : b < h.size) (hl : Live m b ∨ F b) : (addV m h F)[b]? = h[b]? := by
  unfold addV
  rw [Array.getElem?_ofFn, dif_pos hb, if_pos hl, Array.getElem?_eq_getElem hb]
theorem addV_live (hl : Live (addV m h F) b) : (Live m b ∨ F b) ∧ b < h.size := by
  obtain ⟨o, h1, h2⟩ := hl
  unfold addV at h1
  rw [Array.getElem?_ofFn] at h1
  split at h1
  · rename_i hb
    refine ⟨?_, hb⟩
    by_cases hc : Live m b ∨ F b
    · exact hc
    · rw [if_neg hc] at h1; cases h1; exact (h2 rfl).elim
  · cases h1
theorem addV_sub : Sub (addV m h F) h := fun b o h1 h2 => by
  have := addV_live ⟨o, h1, h2⟩
  rw [← addV_get this.2 this.1]; exact h1
theorem addV_up (s : Sub m h) : Sub m (addV m h F) := fun b o h1 h2 => by
  rw [addV_get (s.lt ⟨o, h1, h2⟩) (.inl ⟨o, h1, h2⟩)]; exact s b o h1 h2
theorem St.settle (s : Sub m h) (F : Nat → Prop) : St F h m h (addV m h F) := ⟨addV_up s, addV_sub, Nat.le_refl _, fun _ _ _ => rfl, fun _ _ hl => (addV_live hl).1⟩
theorem Blk.settle {c : List Value} {t : TypeId} (hb : Blk h b c t) (hF : F b) : Blk (addV m h F) b c t := by
  unfold Blk at *
  rw [addV_get (Blk.lt hb) (.inr hF)]; exact hb
end
section
variable {α : Type} {sz : Nat} {E : Heap → α → List Value → Prop} {m m' h h' h0 m0 : Heap} {A : Option Addr} {l l' : List α} {c : Nat} {cs ds : List Value} {x y : α} {W W' : Nat → Prop}
def CsE (sz : Nat) (E : Heap → α → List Value → Prop) (m : Heap) : List α → List Value → Prop
  | [], cs => cs = []
  | x :: l, cs => ∃ c1 c2, cs = c1 ++ c2 ∧ c1.length = sz ∧ E m x c1 ∧ CsE sz E m l c2
theorem CsE.nil : CsE sz E m ([] : List α) [] := rfl
theorem CsE.cons {c1 : List Value} (h1 : E m x c1) (h2 : c1.length = sz) (h : CsE sz E m l cs) : CsE sz E m (x :: l) (c1 ++ cs) := ⟨c1, cs, rfl, h2, h1, h⟩
theorem CsE.len : ∀ {l : List α} {cs : List Value}, CsE sz E m l cs → cs.length = l.length * sz := by
  intro l
  induction l with
  | nil => intro cs h; rw [show cs = [] from h]; simp
  | cons x l ih => rintro cs ⟨c1, c2, rfl, h1, h2, h3⟩; rw [List.length_append, ih h3, h1, List.length_cons, Nat.succ_mul, Nat.add_comm]
theorem CsE.append : ∀ {l l' : List α} {cs ds : List Value}, CsE sz E m l cs → CsE sz E m l' ds → CsE sz E m (l ++ l') (cs ++ ds) := by
  intro l
  induction l with
  | nil => intro l' cs ds h h'; rw [show cs = [] from h]; exact h'
  | cons x l ih => rintro l' cs ds ⟨c1, c2, rfl, h1, h2, h3⟩ h'; rw [List.append_assoc]; exact ⟨c1, c2 ++ ds, rfl, h1, h2, ih h3 h'⟩
theorem CsE.get : ∀ {l : List α} {cs : List Value} {i : Nat}, CsE sz E m l cs → l[i]? = some y → E m y ((cs.drop (i * sz)).take sz) ∧ i * sz + sz ≤ cs.length := by
  intro l
  induction l with
  | nil => intro cs i h h'; cases h'
  | cons x l ih =>
    rintro cs i ⟨c1, c2, rfl, h1, h2, h3⟩ hy
    cases i with
    | zero =>
      cases hy
      simp only [Nat.zero_mul, List.drop_zero]
      rw [← h1, List.take_left]
      exact ⟨h2, by simp⟩
    | succ i =>
      have := ih (i := i) h3 (by simpa using hy)
      rw [show (i + 1) * sz = c1.length + i * sz by rw [h1, Nat.succ_mul, Nat.add_comm], ← List.drop_drop, List.drop_left, List.length_append]
      exact ⟨this.1, by omega⟩
theorem CsE.set {c1 : List Value} (hx : E m x c1) (hz : c1.length = sz) : ∀ {l : List α} {cs : List Value} {i : Nat}, CsE sz E m l cs → i < l.length → CsE sz E m (l.set i x) (cs.take (i * sz) ++ c1 ++ cs.drop (i * sz + sz)) := by
  intro l
  induction l with
  | nil => intro cs i h h'; cases h'
  | cons y l ih =>
    rintro cs i ⟨d1, d2, rfl, h1, h2, h3⟩ hi
    cases i with
    | zero =>
      simp only [Nat.zero_mul, List.take_zero, List.nil_append, Nat.zero_add, List.set_cons_zero]
      rw [← h1, List.drop_left]
      exact ⟨c1, d2, rfl, by rw [hz, h1], hx, by rw [h1]; exact h3⟩
    | succ i =>
      have := ih (i := i) h3 (by simpa using hi)
      rw [show (i + 1) * sz = d1.length + i * sz by rw [h1, Nat.succ_mul, Nat.add_comm], List.take_length_add_append, show d1.length + i * sz + sz = d1.length + (i * sz + sz) by omega, List.drop_length_add_append, List.set_cons_succ]
      exact ⟨d1, _, by simp [List.append_assoc], h1, h2, this⟩
theorem CsE.drop : ∀ {l : List α} {cs : List Value} (k : Nat), CsE sz E m l cs → CsE sz E m (l.drop k) (cs.drop (k * sz)) := by
  intro l
  induction l with
  | nil => intro cs k h; rw [show cs = [] from h]; simp [CsE]
  | cons x l ih =>
    rintro cs k ⟨c1, c2, rfl, h1, h2, h3⟩
    cases k with
    | zero => rw [Nat.zero_mul, List.drop_zero, List.drop_zero]; exact ⟨c1, c2, rfl, h1, h2, h3⟩
    | succ k =>
      rw [show (k + 1) * sz = c1.length + k * sz by rw [h1, Nat.succ_mul, Nat.add_comm], ← List.drop_drop (l := c1 ++ c2), List.drop_left, List.drop_succ_cons]
      exact ih k h3
theorem CsE.take : ∀ {l : List α} {cs : List Value} (k : Nat), CsE sz E m l cs → CsE sz E m (l.take k) (cs.take (k * sz)) := by
  intro l
  induction l with
  | nil => intro cs k h; rw [show cs = [] from h]; simp [CsE]
  | cons x l ih =>
    rintro cs k ⟨c1, c2, rfl, h1, h2, h3⟩
    cases k with
    | zero => simp [CsE]
    | succ k =>
      rw [show (k + 1) * sz = c1.length + k * sz by rw [h1, Nat.succ_mul, Nat.add_comm], List.take_length_add_append, List.take_succ_cons]
      exact ⟨c1, _, rfl, h1, h2, ih k h3⟩
theorem CsE.rep {z : α} {zc : List Value} (hz : E m z zc) (hl : zc.length = sz) : ∀ n : Nat, CsE sz E m (List.replicate n z) ((List.replicate n zc).flatten)
  | 0 => rfl
  | n + 1 => by rw [List.replicate_succ, List.replicate_succ, List.flatten_cons]; exact ⟨zc, _, rfl, hl, hz, CsE.rep hz hl n⟩
theorem Rd.tail (r : Rd sz E m A (x :: l)) : ∀ a, A = some a → Rd sz E m (some (a.add sz)) l := by
  intro a ha i hi
  obtain ⟨a', cs, h1, h2, h3⟩ := r (i + 1) (by simpa using hi)
  rw [ha] at h1; cases h1
  refine ⟨_, cs, rfl, ?_, h3⟩
  rw [add_add, show sz + i * sz = (i + 1) * sz by rw [Nat.succ_mul, Nat.add_comm]]; exact h2
theorem Rd.cse (T : Tell sz E) : ∀ {l : List α} {a : Addr}, Rd sz E m (some a) l → ∃ cs, cellsH m a 0 (l.length * sz) = some cs ∧ CsE sz E m l cs := by
  intro l
  induction l with
  | nil => intro a r; exact ⟨[], by simp [cellsH], rfl⟩
  | cons x l ih =>
    intro a r
    obtain ⟨cs, h1, h2⟩ := ih (r.tail a rfl)
    obtain ⟨a', c1, h3, h4, h5⟩ := r 0 (by simp)
    cases h3
    rw [Nat.zero_mul, show a.add 0 = a from rfl] at h4
    refine ⟨c1 ++ cs, ?_, c1, cs, rfl, T.len _ _ _ h5, h5, h2⟩
    rw [List.length_cons, Nat.succ_mul, Nat.add_comm]
    refine cellsH_append h4 ?_
    rw [cellsH_shift] at h1
    simpa using h1
theorem CsE.rd {b : Nat} {t : TypeId} {pre rest : List Value} (hb : Blk h b (pre ++ cs ++ rest) t) (hc : CsE sz E m l cs) (hm : ∀ x cs, E m x cs → E h x cs) : Rd sz E h (some ⟨b, pre.length, none⟩) l := by
  intro i hi
  have hg := hc.get (List.getElem?_eq_getElem hi)
  refine ⟨_, _, rfl, ?_, hm _ _ hg.1⟩
  have := hb.cells (a := (⟨b, pre.length, none⟩ : Addr).add (i * sz)) (by rw [add_block]) (add_spot _ rfl) sz 0 (by rw [add_off, List.length_append, List.length_append]; simp only [Nat.add_zero]; omega)
  rw [this, add_off]
  simp only [Nat.add_zero]
  rw [List.append_assoc, ← List.drop_drop, List.drop_left, List.drop_append_of_le_length (by omega), List.take_append_of_le_length (by rw [List.length_drop]; omega)]
def OS (W : Nat → Prop) (h0 : Heap) (sz : Nat) (E : Heap → α → List Value → Prop) (h m : Heap) (A : Option Addr) (l : List α) (c : Nat) : Prop :=
  (l = [] ∧ c = 0) ∨ ∃ b t pre cs rest, A = some ⟨b, pre.length, none⟩ ∧ Blk h b (pre ++ cs ++ rest) t ∧ CsE sz E m l cs ∧ l.length ≤ c ∧ (c - l.length) * sz ≤ rest.length ∧ (h0.size ≤ b ∨ W b) ∧ ¬ Live m b
theorem OS.cap (o : OS W h0 sz E h m A l c) : l.length ≤ c := by
  rcases o with ⟨rfl, rfl⟩ | ⟨b, t, pre, cs, rest, h1, h2, h3, h4, h5, h6, h7⟩
  · exact Nat.le_refl _
  · exact h4
def OB (W : Nat → Prop) (h0 h m : Heap) (b : Nat) (cs : List Value) (t : TypeId) : Prop := Blk h b cs t ∧ (h0.size ≤ b ∨ W b) ∧ ¬ Live m b
variable {b : Nat} {t : TypeId}
theorem OB.all (o : OB W h0 h m b cs t) : cellsH h ⟨b, 0, none⟩ 0 cs.length = some cs := by
  have := o.1.cells (a := ⟨b, 0, none⟩) rfl rfl cs.length 0 (by simp)
  simpa using this
theorem Blk.all' (o : Blk m b cs t) : cellsH m ⟨b, 0, none⟩ 0 cs.length = some cs := by
  have := o.cells (a := ⟨b, 0, none⟩) rfl rfl cs.length 0 (by simp)
  simpa using this
def VB (E : Heap → α → List Value → Prop) (m : Heap) (b : Nat) (x : α) : Prop := ∃ cs t, Blk m b cs t ∧ cs ≠ [] ∧ E m x cs
theorem VB.sub (v : VB E m b x) (T : Tell sz E) (s : Sub m h) : VB E h b x := let ⟨cs, t, h1, h2, h3⟩ := v; ⟨cs, t, s.blk h1 h2, h2, T.mono _ _ _ _ s h3⟩
end
end Go.Hw

end
section
namespace Go.Hw
def LeO {β : Type} (a b : Option β) : Prop := ∀ r, a = some r → b = some r
theorem LeO.refl {β : Type} (a : Option β) : LeO a a := fun _ h => h
theorem LeO.bind {β γ : Type} {a b : Option β} {f g : β → Option γ} (h : LeO a b) (k : ∀ x, LeO (f x) (g x)) : LeO (a.bind f) (b.bind g) := by
  intro r hr
  cases a with
  | none => cases hr
  | some x => rw [h x rfl]; exact k x r hr
theorem LeO.ite {β : Type} {p : Prop} [Decidable p] {a b a' b' : Option β} (h : LeO a a') (k : LeO b b') : LeO (if p then a else b) (if p then a' else b') := by
  by_cases c : p
  · rw [if_pos c, if_pos c]; exact h
  · rw [if_neg c, if_neg c]; exact k
section
variable {α : Type} {β : α → Type} {F : ((x : α) → Option (β x)) → (x : α) → Option (β x)}
def MonoF (F : ((x : α) → Option (β x)) → (x : α) → Option (β x)) : Prop := ∀ f g, (∀ x, LeO (f x) (g x)) → ∀ x, LeO (F f x) (F g x)
def FixR (F : ((x : α) → Option (β x)) → (x : α) → Option (β x)) (x : α) (r : β x) : Prop :=
  ∀ I : (x : α) → β x → Prop, (∀ f, (∀ x r, f x = some r → I x r) → ∀ x r, F f x = some r → I x r) → I x r
theorem FixR.close {f : (x : α) → Option (β x)} (hf : ∀ x r, f x = some r → FixR F x r) {x : α} {r : β x} (h : F f x = some r) : FixR F x r :=
  fun I hI => hI f (fun y s hs => hf y s hs I hI) x r h
theorem FixR.uniq (M : MonoF F) {x : α} {r r' : β x} (h : FixR F x r) (h' : FixR F x r') : r = r' := by
  refine (h (fun x r => FixR F x r ∧ ∀ r', FixR F x r' → r = r') ?_).2 r' h'
  intro f hf x r hr
  refine ⟨FixR.close (fun y s hs => (hf y s hs).1) hr, fun s hs => ?_⟩
  have key := hs (fun y s => FixR F y s ∧ ∀ e : x = y, (e ▸ r) = s) ?_
  · exact key.2 rfl
  intro f' hf' y t ht
  refine ⟨FixR.close (fun z s hs => (hf' z s hs).1) ht, ?_⟩
  rintro rfl
  let g : (x : α) → Option (β x) := fun z => match f z with | some u => some u | none => f' z
  have hfg : ∀ z, LeO (f z) (g z) := fun z u hu => by simp only [g, hu]
  have hfg' : ∀ z, LeO (f' z) (g z) := by
    intro z u hu
    simp only [g]
    cases hz : f z with
    | none => exact hu
    | some w => simp only; rw [(hf z w hz).2 u (hf' z u hu).1]
  have e1 := M f g hfg _ _ hr
  have e2 := M f' g hfg' _ _ ht
  rw [e1] at e2
  exact Option.some.inj e2
open Classical in
noncomputable def fixF (F : ((x : α) → Option (β x)) → (x : α) → Option (β x)) (x : α) : Option (β x) := if h : ∃ r, FixR F x r then some (Classical.choose h) else none
theorem fixF_iff (M : MonoF F) {x : α} {r : β x} : fixF F x = some r ↔ FixR F x r := by
  unfold fixF
  constructor
  · intro h
    split at h
    · rename_i hx; cases h; exact Classical.choose_spec hx
    · cases h
  · intro h
    rw [dif_pos ⟨r, h⟩, FixR.uniq M (Classical.choose_spec (⟨r, h⟩ : ∃ r, FixR F x r)) h]
theorem fixF_eq (M : MonoF F) (x : α) : fixF F x = F (fixF F) x := by
  have h1 : ∀ r, fixF F x = some r → F (fixF F) x = some r := by
    intro r hr
    refine ((fixF_iff M).1 hr (fun x r => FixR F x r ∧ F (fixF F) x = some r) ?_).2
    intro f hf y s hs
    refine ⟨FixR.close (fun z s hs => (hf z s hs).1) hs, ?_⟩
    exact M f (fixF F) (fun z u hu => (fixF_iff M).2 (hf z u hu).1) _ _ hs
  have h2 : ∀ r, F (fixF F) x = some r → fixF F x = some r := fun r hr => (fixF_iff M).2 (FixR.close (fun y s hs => (fixF_iff M).1 hs) hr)
  cases h : fixF F x with
  | some r => exact (h1 r h).symm
  | none =>
    cases k : F (fixF F) x with
    | none => rfl
    | some r => rw [h2 r k] at h; cases h
theorem fixF_ind (M : MonoF F) {I : (x : α) → β x → Prop} (hI : ∀ f, (∀ x r, f x = some r → I x r) → ∀ x r, F f x = some r → I x r) {x : α} {r : β x} (h : fixF F x = some r) : I x r := (fixF_iff M).1 h I hI
end
end Go.Hw

end
section
namespace Go.Hw
open Go
section tests
variable {A B : Prop} {β γ : Type} {a b : Option β} {r : β}
theorem bind_e {a : Option γ} {f : γ → Option β} (e : a.bind f = some r) : ∃ x, a = some x ∧ f x = some r := by
  cases a with
  | none => cases e
  | some x => exact ⟨x, rfl, e⟩
theorem guard_e {p : Prop} [Decidable p] (e : (if p then a else none) = some r) : p ∧ a = some r := by
  by_cases h : p
  · rw [if_pos h] at e; exact ⟨h, e⟩
  · rw [if_neg h] at e; cases e
theorem split_dec_e {p : Prop} [Decidable p] (e : (if p then a else b) = some r) (hA : p → a = some r → A) (hB : ¬ p → b = some r → B) : splitB (decide p) A B := by
  by_cases h : p
  · rw [if_pos h] at e; rw [decide_eq_true h]; exact hA h e
  · rw [if_neg h] at e; rw [decide_eq_false h]; exact hB h e
theorem split_eq_e {x y : Int} (e : (if x = y then a else b) = some r) (hA : x = y → a = some r → A) (hB : x ≠ y → b = some r → B) : splitB (x == y) A B := by
  by_cases h : x = y
  · rw [if_pos h] at e; rw [show (x == y) = true from beq_iff_eq.2 h]; exact hA h e
  · rw [if_neg h] at e; rw [show (x == y) = false from beq_eq_false_iff_ne.2 h]; exact hB h e
theorem split_ne_e {x y : Int} (e : (if x = y then b else a) = some r) (hA : x ≠ y → a = some r → A) (hB : x = y → b = some r → B) : splitB (x != y) A B := by
  by_cases h : x = y
  · rw [if_pos h] at e; rw [show (x != y) = false from bne_eq_false_iff_eq.2 h]; exact hB h e
  · rw [if_neg h] at e; rw [show (x != y) = true from bne_iff_ne.2 h]; exact hA h e
theorem split_any_e {t : Bool} (e : (if t = true then a else b) = some r) (hA : t = true → a = some r → A) (hB : t = false → b = some r → B) : splitB t A B := by
  cases t
  · exact hB rfl e
  · exact hA rfl e
end tests
section
variable {α : Type} {l : List α} {x : Int} {y : α}
def gi (l : List α) (x : Int) : Option α := if 0 ≤ x then l[x.toNat]? else none
theorem gi_nat (l : List α) (k : Nat) : gi l (k : Int) = l[k]? := by unfold gi; rw [if_pos (by omega)]; rfl
theorem gi_le (g : gi l x = some y) : 0 ≤ x := by unfold gi at g; split at g; assumption; cases g
theorem gi_get (g : gi l x = some y) : l[x.toNat]? = some y := by unfold gi at g; split at g; exact g; cases g
theorem gi_lt (g : gi l x = some y) : x < (l.length : Int) := by
  have h1 := gi_get g
  have h2 := gi_le g
  have := (List.getElem?_eq_some_iff.1 h1).1
  omega
theorem gi_ltN (g : gi l x = some y) : x.toNat < l.length := (List.getElem?_eq_some_iff.1 (gi_get g)).1
def sl (l : List α) (lo hi : Int) : List α := (l.take hi.toNat).drop lo.toNat
theorem sl_len {lo hi : Int} (h1 : 0 ≤ lo) (h2 : lo ≤ hi) (h3 : hi ≤ (l.length : Int)) : Int.toNat hi - Int.toNat lo = (sl l lo hi).length := by
  unfold sl; rw [List.length_drop, List.length_take]; omega
theorem sl_hi {hi : Int} : sl l 0 hi = l.take hi.toNat := by unfold sl; simp
end
section
variable {α : Type} {sz : Nat} {E : Heap → α → List Value → Prop} {m m' h h' h0 m0 : Heap} {A : Option Addr} {l : List α} {c n k : Nat} {cs : List Value} {x : Int} {y : α} {W : Nat → Prop} {a : Addr} {v : Value} {b : Nat} {t : TypeId}
theorem Rd.addr {K : Addr → Prop} (r : Rd sz E m A l) (hn : n = l.length) (g : gi l x = some y) (hk : ∀ a cs, A = some a → cellsH m (a.add (Int.toNat x * sz)) 0 sz = some cs → E m y cs → K a) : ptrOk A fun a => 0 ≤ x ∧ x < ((n : Nat) : Int) ∧ K a := by
  subst hn
  have h1 := gi_get g
  obtain ⟨hi, h2⟩ := List.getElem?_eq_some_iff.1 h1
  obtain ⟨a, cs, rfl, h3, h4⟩ := r _ hi
  rw [h2] at h4
  exact ⟨gi_le g, gi_lt g, hk a cs rfl h3 h4⟩
theorem OS.cellsAt (o : OS W h0 sz E h m A l c) (g : gi l x = some y) : ∃ a cs, A = some a ∧ cellsH h (a.add (Int.toNat x * sz)) 0 sz = some cs ∧ E m y cs := by
  have h1 := gi_get g
  rcases o with ⟨rfl, rfl⟩ | ⟨b, t, pre, cs, rest, rfl, h3, h4, h5, h6, h7⟩
  · cases h1
  have h8 := h4.get h1
  refine ⟨_, _, rfl, ?_, h8.1⟩
  have := h3.cells (a := (⟨b, pre.length, none⟩ : Addr).add (x.toNat * sz)) (by rw [add_block]) (add_spot _ rfl) sz 0 (by rw [add_off, List.length_append, List.length_append]; simp only [Nat.add_zero]; omega)
  rw [this, add_off]
  simp only [Nat.add_zero]
  rw [List.append_assoc, ← List.drop_drop, List.drop_left, List.drop_append_of_le_length (by omega), List.take_append_of_le_length (by rw [List.length_drop]; omega)]
theorem OS.addr {K : Addr → Prop} (o : OS W h0 sz E h m A l c) (hn : n = l.length) (g : gi l x = some y) (hk : ∀ a cs, A = some a → cellsH h (a.add (Int.toNat x * sz)) 0 sz = some cs → E m y cs → K a) : ptrOk A fun a => 0 ≤ x ∧ x < ((n : Nat) : Int) ∧ K a := by
  subst hn
  obtain ⟨a, cs, rfl, h1, h2⟩ := o.cellsAt g
  exact ⟨gi_le g, gi_lt g, hk a cs rfl h1 h2⟩
theorem ld0 (s : Sub m h) (hc : cellsH m a 0 n = some cs) (hv : cs[0]? = some v) : ldv false 1 h a = some v := by
  have h1 : cellH h (a.add 0) = some v := cellsH_get (s.cells _ _ hc) hv
  exact h1
theorem ldk (s : Sub m h) (hc : cellsH m a 0 n = some cs) (hv : cs[k]? = some v) : ldv false 1 h (Addr.add a k) = some v := by
  have := cellsH_get (s.cells _ _ hc) hv
  simpa [ldv] using this
theorem ldA (s : Sub m h) (hc : cellsH m a 0 n = some cs) : ldv true n h a = some (.agg cs.toArray) := by
  simp only [ldv, s.cells _ _ hc, Option.map_some]
theorem OB.st (o : OB W h0 h m b cs t) (s : Sub m h) (hk : k < cs.length) (hf : Flat v) : ∃ h', st1 h (Addr.add ⟨b, 0, none⟩ k) v = some h' ∧ OB W h0 h' m b (cs.set k v) t ∧ St (fb b) h m h' m := by
  obtain ⟨h', h1, h2, h3⟩ := o.1.st (a := Addr.add ⟨b, 0, none⟩ k) (v := v) (add_block _ _) (add_spot _ rfl) (by rw [add_off]; simpa using hk) hf
  rw [add_off, Nat.zero_add] at h2
  exact ⟨h', h1, ⟨h2, o.2⟩, .only s o.2.2 h3⟩
theorem OB.stA (o : OB W h0 h m b cs t) (s : Sub m h) (l : List Value) (hn : l.length = cs.length) (hf : ∀ v ∈ l, Flat v) : ∃ h', stH h ⟨b, 0, none⟩ l 0 = some h' ∧ OB W h0 h' m b l t ∧ St (fb b) h m h' m := by
  obtain ⟨h', h1, h2, h3⟩ := o.1.stAll l hn hf
  exact ⟨h', h1, ⟨h2, o.2⟩, .only s o.2.2 h3⟩
theorem OS.stP (o : OS W h0 sz E h m A l c) (T : Tell sz E) (s : Sub m h) (g : gi l x = some y) (ha : A = some a) (hc : cellsH h (Addr.add a (Int.toNat x * sz)) 0 sz = some cs) {ds : List Value} {y' : α} (k : Nat) (hk : k + ds.length ≤ sz) (hy : E m y' (cs.take k ++ ds ++ cs.drop (k + ds.length))) (hf : ∀ v ∈ ds, Flat v) :
    ∃ h', stH h (Addr.add (Addr.add a (Int.toNat x * sz)) k) ds 0 = some h' ∧ OS W h0 sz E h' m A (l.set (Int.toNat x) y') c ∧ St (fp A c) h m h' m := by
  have h1 := gi_get g
  have hlt := gi_ltN g
  rcases o with ⟨rfl, rfl⟩ | ⟨b, t, pre, es, rest, rfl, h3, h4, h5, h6, h7, h8⟩
  · cases h1
  cases ha
  have h9 := h4.get h1
  have hcs : cs = (es.drop (x.toNat * sz)).take sz := by
    have := h3.cells (a := (⟨b, pre.length, none⟩ : Addr).add (x.toNat * sz)) (by rw [add_block]) (add_spot _ rfl) sz 0 (by rw [add_off, List.length_append, List.length_append]; simp only [Nat.add_zero]; omega)
    rw [hc, add_off] at this
    simp only [Nat.add_zero, Option.some.injEq] at this
    rw [this, List.append_assoc, ← List.drop_drop, List.drop_left, List.drop_append_of_le_length (by omega), List.take_append_of_le_length (by rw [List.length_drop]; omega)]
  have hlen : cs.length = sz := cellsH_length hc
  have hes : es = es.take (x.toNat * sz) ++ cs ++ es.drop (x.toNat * sz + sz) := by
    rw [hcs, List.append_assoc, ← List.drop_drop, List.take_append_drop, List.take_append_drop]
  have hcs2 : cs = cs.take k ++ (cs.drop k).take ds.length ++ cs.drop (k + ds.length) := by
    rw [List.append_assoc, ← List.drop_drop, List.take_append_drop, List.take_append_drop]
  have hb : Blk h b ((pre ++ es.take (x.toNat * sz) ++ cs.take k) ++ (cs.drop k).take ds.length ++ (cs.drop (k + ds.length) ++ (es.drop (x.toNat * sz + sz) ++ rest))) t := by
    have : (pre ++ es.take (x.toNat * sz) ++ cs.take k) ++ (cs.drop k).take ds.length ++ (cs.drop (k + ds.length) ++ (es.drop (x.toNat * sz + sz) ++ rest)) = pre ++ es ++ rest := by
      conv => rhs; rw [hes]; rw [hcs2]
      simp only [List.append_assoc]
    rw [this]; exact h3
  obtain ⟨h', s1, b1, o1⟩ := Blk.stH ds (a := Addr.add (Addr.add ⟨b, pre.length, none⟩ (x.toNat * sz)) k) (i := 0) hb (by rw [add_block, add_block]) (add_spot _ (add_spot _ rfl))
    (by rw [add_off, add_off, List.length_append, List.length_append, List.length_take, List.length_take]; simp only [Nat.add_zero]; omega) (by rw [List.length_take, List.length_drop]; omega) hf
  refine ⟨h', s1, .inr ⟨b, t, pre, es.take (x.toNat * sz) ++ (cs.take k ++ ds ++ cs.drop (k + ds.length)) ++ es.drop (x.toNat * sz + sz), rest, rfl, ?_, ?_, ?_, ?_, h7, h8⟩, ?_⟩
  · have : pre ++ (es.take (x.toNat * sz) ++ (cs.take k ++ ds ++ cs.drop (k + ds.length)) ++ es.drop (x.toNat * sz + sz)) ++ rest = (pre ++ es.take (x.toNat * sz) ++ cs.take k) ++ ds ++ (cs.drop (k + ds.length) ++ (es.drop (x.toNat * sz + sz) ++ rest)) := by simp only [List.append_assoc]
    rw [this]; exact b1
  · exact h4.set hy (T.len _ _ _ hy) hlt
  · rwa [List.length_set]
  · rwa [List.length_set]
  · refine ⟨.refl _, fun i o1' k1 k2 => ?_, by rw [o1.1]; exact Nat.le_refl _, fun i hi hw => ?_, fun i _ hl => .inl hl⟩
    · rw [o1.2 i (fun e => h8 (e ▸ ⟨o1', k1, k2⟩))]; exact s i o1' k1 k2
    · refine o1.2 i fun e => hw ⟨?_, _, rfl, e.symm⟩
      omega
theorem OS.st1k (o : OS W h0 sz E h m A l c) (T : Tell sz E) (s : Sub m h) (g : gi l x = some y) (ha : A = some a) (hc : cellsH h (Addr.add a (Int.toNat x * sz)) 0 sz = some cs) {y' : α} (k : Nat) (hk : k < sz) (hy : E m y' (cs.set k v)) (hf : Flat v) :
    ∃ h', st1 h (Addr.add (Addr.add a (Int.toNat x * sz)) k) v = some h' ∧ OS W h0 sz E h' m A (l.set (Int.toNat x) y') c ∧ St (fp A c) h m h' m := by
  have hlen : cs.length = sz := cellsH_length hc
  obtain ⟨h', h1, h2, h3⟩ := o.stP T s g ha hc (ds := [v]) (y' := y') k hk (by rw [List.append_assoc, List.singleton_append]; rw [List.set_eq_take_append_cons_drop, if_pos (by omega)] at hy; exact hy) (Flats.cons hf Flats.nil)
  refine ⟨h', ?_, h2, h3⟩
  simp only [stH] at h1
  split at h1
  · rename_i h4 h5
    cases h1; exact h5
  · cases h1
theorem cap_in {hi : Int} (h1 : hi ≤ (l.length : Int)) (h2 : l.length ≤ c) : hi ≤ ((c : Nat) : Int) := by omega
theorem Rd.sl {lo hi : Int} {mx : Nat} (r : Rd sz E m A l) (h1 : 0 ≤ lo) (h2 : lo ≤ hi) (h3 : hi ≤ (l.length : Int)) (h4 : hi.toNat ≤ mx) : Rd sz E m (sliceA A (Int.toNat lo) mx sz) (sl l lo hi) := by
  intro i hi'
  rw [← sl_len h1 h2 h3] at hi'
  obtain ⟨a, cs, e1, e2, e3⟩ := r (lo.toNat + i) (by omega)
  refine ⟨a.add (lo.toNat * sz), cs, ?_, ?_, ?_⟩
  · unfold sliceA; rw [if_neg (by omega), e1]; rfl
  · rw [add_add, ← Nat.add_mul]; exact e2
  · simpa [Hw.sl] using e3
theorem sl_cap {lo hi : Int} {mx : Nat} (h1 : 0 ≤ lo) (h2 : lo ≤ hi) (h3 : hi ≤ (l.length : Int)) (h4 : hi.toNat ≤ mx) : (sl l lo hi).length ≤ mx - Int.toNat lo := by rw [← sl_len h1 h2 h3]; omega
theorem zc_len {z : Array Value} {n : Nat} : (zcells z n).toList.length = n * z.size := by rw [Array.length_toList, zcells_size]
def Src (sz : Nat) (E : Heap → α → List Value → Prop) (h m : Heap) (x : Value) (xs : List α) : Prop := ∃ es, srcCells sz x h = some (xs.length, es) ∧ CsE sz E m xs es
theorem Rd.srcE (r : Rd sz E m A l) (T : Tell sz E) (s : Sub m h) (hn : n = l.length) : Src sz E h m (.slice A n c) l := by
  subst hn
  cases A with
  | none =>
    have : l = [] := by
      cases l with
      | nil => rfl
      | cons x l => obtain ⟨a, _, h1, _⟩ := r 0 (by simp); cases h1
    subst this
    exact ⟨[], rfl, rfl⟩
  | some a =>
    obtain ⟨es, h1, h2⟩ := Rd.cse T r
    exact ⟨es, by simp only [srcCells, s.cells _ _ h1, Option.map_some], h2⟩
theorem OS.srcE {c' : Nat} (o : OS W h0 sz E h m A l c) (hn : n = l.length) : Src sz E h m (.slice A n c') l := by
  subst hn
  rcases o with ⟨rfl, rfl⟩ | ⟨b, t, pre, cs, rest, rfl, k1, k2, k3, k4, k5⟩
  · refine ⟨[], ?_, rfl⟩
    cases A with
    | none => rfl
    | some a => simp [srcCells, cellsH]
  · refine ⟨cs, ?_, k2⟩
    have hl := k2.len
    have := k1.cells (a := ⟨b, pre.length, none⟩) rfl rfl (l.length * sz) 0 (by simp [hl])
    simp only [srcCells, this, Nat.add_zero]
    rw [List.append_assoc, List.drop_left, List.take_append_of_le_length (by omega), List.take_of_length_le (by omega)]; rfl
def ap (B : Nat) (l xs : List α) : Option (List α) := if (l.length + xs.length) * B ≤ 140737488355328 then some (l ++ xs) else none
theorem ap_e {B : Nat} {l xs l' : List α} (g : ap B l xs = some l') : (l.length + xs.length) * B ≤ 140737488355328 ∧ l ++ xs = l' := by
  unfold ap at g
  obtain ⟨h, k⟩ := guard_e g
  exact ⟨h, Option.some.inj k⟩
def sls (l : List α) (lo hi : Int) : Option (List α) := if 0 ≤ lo ∧ lo ≤ hi ∧ hi ≤ (l.length : Int) then some (sl l lo hi) else none
theorem sls_e {lo hi : Int} {l' : List α} (g : sls l lo hi = some l') : 0 ≤ lo ∧ lo ≤ hi ∧ hi ≤ (l.length : Int) ∧ Int.toNat hi - Int.toNat lo = l'.length ∧ l' = Hw.sl l lo hi := by
  unfold sls at g
  obtain ⟨h, k⟩ := guard_e g
  cases k
  exact ⟨h.1, h.2.1, h.2.2, sl_len h.1 h.2.1 h.2.2, rfl⟩
theorem Rd.sls {lo hi : Int} {mx : Nat} {l' : List α} (r : Rd sz E m A l) (g : sls l lo hi = some l') (h4 : hi.toNat ≤ mx) : Rd sz E m (sliceA A (Int.toNat lo) mx sz) l' := by
  obtain ⟨h1, h2, h3, _, rfl⟩ := sls_e g
  exact r.sl h1 h2 h3 h4
theorem mkCells_flat {zc : Array Value} (hz : zc.size = sz) : ∀ n : Nat, (mkCells zc (n * sz)).toList = (List.replicate n zc.toList).flatten := by
  intro n
  unfold mkCells
  apply List.ext_getElem
  · simp [hz]
  · intro i h1 h2
    simp only [Array.toList_map, Array.toList_range, List.getElem_map, List.getElem_range]
    have hi : i < n * sz := by simpa using h1
    have : ∀ (n i : Nat) (hi : i < n * sz) (h2 : i < (List.replicate n zc.toList).flatten.length), zc[i % zc.size]! = (List.replicate n zc.toList).flatten[i] := by
      intro n
      induction n with
      | zero => intro i hi; simp at hi
      | succ n ih =>
        intro i hi h2
        simp only [List.replicate_succ, List.flatten_cons]
        by_cases hlt : i < zc.toList.length
        · rw [List.getElem_append_left hlt]
          have hlt' : i < zc.size := by simpa using hlt
          rw [Nat.mod_eq_of_lt hlt', getElem!_pos zc i hlt']; simp
        · have hge : sz ≤ i := by simpa [hz] using hlt
          rw [List.getElem_append_right (by rw [Array.length_toList, hz]; exact hge)]
          have e1 : i % zc.size = (i - zc.toList.length) % zc.size := by
            rw [Array.length_toList, hz]; exact (Nat.mod_eq_sub_mod hge)
          rw [e1]
          exact ih (i - zc.toList.length) (by rw [Array.length_toList, hz]; rw [Nat.succ_mul] at hi; omega) _
    exact this n i hi h2
theorem le_mx {hi : Int} (h1 : hi ≤ (l.length : Int)) (h2 : l.length ≤ c) : hi.toNat ≤ c := by omega
theorem sls_cap {lo hi : Int} {l' : List α} (g : Hw.sls l lo hi = some l') (h2 : l.length ≤ c) : l'.length ≤ c - Int.toNat lo := by
  obtain ⟨h1, h3, h4, h5, _⟩ := sls_e g
  omega
theorem nn {x : Value} {l : List Value} : x :: l ≠ [] := fun h => by cases h
end
end Go.Hw

end
section
namespace Go.Hw
open Go
section
variable {α : Type} {sz : Nat} {E : Heap → α → List Value → Prop} {m m' h h' h0 m0 : Heap} {A : Option Addr} {l : List α} {c n k : Nat} {x : Int} {W : Nat → Prop}
theorem Rd.void (r : Rd sz E m none l) : l = [] := by
  cases l with
  | nil => rfl
  | cons x l => obtain ⟨a, _, h1, _⟩ := r 0 (by simp); cases h1
end
section
variable {α : Type} {sz : Nat} {E : Heap → α → List Value → Prop} {m m' mL h h' h0 m0 : Heap} {A : Option Addr} {l : List α} {c b : Nat} {cs : List Value} {t : TypeId} {W W' : Nat → Prop}
theorem St.unlend (T : St W' h mL h' m') (s : Sub m h) (hd : ∀ b, W' b → ¬ Live m b) : St W' h m h' m where
  up := .refl _
  s b o h1 h2 := by
    rw [T.fr b (s.lt ⟨o, h1, h2⟩) (fun hw => hd b hw ⟨o, h1, h2⟩)]; exact s b o h1 h2
  size := T.size
  fr := T.fr
  lv b _ hl := .inl hl
end
section
variable {κ ν : Type} [DecidableEq κ] {h h' m m' h0 m0 : Heap} {b : Nat} {W W' : Nat → Prop} {kv : κ → Value} {es : List (κ × ν)} {vs : List (κ × Value)} {k : κ} {x zv : ν} {v z : Value} {P : Program} {t elem : TypeId} {sz : Nat}
def MonoV (EV : Heap → ν → Value → Prop) : Prop := ∀ m h x v, Sub m h → EV m x v → EV h x v
variable {EV : Heap → ν → Value → Prop}
end
section
variable {H : Type} {enc : TypeId × Value → H} {P : Program} {W : World}
theorem tells_i64 {t : TypeId} (hu : P.underlying t = some (.int .i64)) : Tells enc P W t (eInt .i64) (fun x => -9223372036854775808 ≤ x ∧ x ≤ 9223372036854775807) := tells_map (tells_int hu) fun a _ h q => ⟨a, h, wf_i64 q⟩
theorem tells_sliceL {α : Type} {t e : TypeId} {sz B : Nat} {E : Heap → α → List Value → Prop} {Q : α → Prop} (hu : P.underlying t = some (.slice e)) (hc : P.cellsOf e = sz) (hB : P.bytesOf e = B) (he : Tells enc P W e E Q) :
    Tells enc P W t (eRow sz E) (fun l => l.length * B ≤ 140737488351232 ∧ ∀ a ∈ l, Q a) := tells_map (tells_slice hu hc hB he) fun a _ h q => ⟨a, h, q⟩
end
end Go.Hw

end
section
namespace Go.Hw
open Go
section
variable {α β : Type}
theorem ap_of {B : Nat} {l xs : List α} (h : (l.length + xs.length) * B ≤ 140737488355328) : ap B l xs = some (l ++ xs) := by unfold ap; rw [if_pos h]
theorem ap_nil {B : Nat} {xs : List α} (h : xs.length * B ≤ 140737488355328) : ap B ([] : List α) xs = some xs := by rw [ap_of (by simpa using h)]; rfl
theorem ap_one {B : Nat} {l : List α} {x : α} (h : (l.length + 1) * B ≤ 140737488355328) : ap B l [x] = some (l ++ [x]) := ap_of (by simpa using h)
theorem gi_at {l : List α} {k : Nat} (h : k < l.length) : gi l (k : Int) = some l[k] := by rw [gi_nat]; exact List.getElem?_eq_getElem h
theorem sls_of {l : List α} {lo hi : Int} (h1 : 0 ≤ lo) (h2 : lo ≤ hi) (h3 : hi ≤ (l.length : Int)) : sls l lo hi = some (sl l lo hi) := by unfold sls; rw [if_pos ⟨h1, h2, h3⟩]
theorem sls_take {l : List α} {k : Nat} {x : Int} (hx : x = k) (h : k ≤ l.length) : sls l 0 x = some (l.take k) := by subst hx; rw [sls_of (by omega) (by omega) (by omega), sl_hi]; rfl
theorem w_succ {k : Nat} (h : k < 9223372036854775807) : IntKind.wrap .i64 ((k : Int) + 1) = ((k + 1 : Nat) : Int) := by rw [wrap_in (by omega) (by omega)]; rfl
theorem find_val {f : List α → (α → Option Bool) → Int → Int → Option Int}
    (hf : ∀ a p n i, f a p n i = if i < n then (Option.bind (gi a i) fun y => Option.bind (p y) fun b => if b = true then some i else f a p n (IntKind.wrap .i64 (i + 1))) else some (-1))
    {l : List α} {p : α → Option Bool} (q : α → Bool) (hp : ∀ x ∈ l, p x = some (q x)) (hl : l.length ≤ 4611686018427387904) : f l p (l.length : Int) 0 = some (idxOf q l) := by
  have key : ∀ (d k : Nat), k + d = l.length → (∀ x ∈ l.take k, q x = false) → f l p (l.length : Int) (k : Int) = some (idxOf q l) := by
    intro d
    induction d with
    | zero =>
      intro k hk hn
      rw [hf, if_neg (by omega)]
      have : l.findIdx? q = none := by
        rw [List.findIdx?_eq_none_iff]
        rw [List.take_of_length_le (by omega)] at hn
        exact hn
      simp [idxOf, this]
    | succ d ih =>
      intro k hk hn
      have hlt : k < l.length := by omega
      rw [hf, if_pos (by omega), gi_at hlt, Option.bind_some, hp _ (List.getElem_mem hlt), Option.bind_some]
      by_cases hq : q l[k] = true
      · rw [if_pos hq]
        have : l.findIdx? q = some k := by
          rw [List.findIdx?_eq_some_iff_getElem]
          refine ⟨hlt, hq, fun j hj => ?_⟩
          have := hn l[j] (by rw [List.mem_take_iff_getElem]; exact ⟨j, by omega, rfl⟩)
          simp [this]
        simp [idxOf, this]
      · rw [if_neg hq, w_succ (by omega)]
        refine ih (k + 1) (by omega) (fun x hx => ?_)
        rw [List.take_succ_eq_append_getElem hlt] at hx
        rcases List.mem_append.1 hx with hx | hx
        · exact hn x hx
        · simp at hx; subst hx; simpa using hq
  exact key l.length 0 (by omega) (fun x hx => by simp at hx)
theorem equal_val {R : α → α → Prop} [DecidableRel R] {f : List α → List α → Int → Int → Option Bool} {g : List α → List α → Option Bool}
    (hf : ∀ a b n i, f a b n i = if i < n then (Option.bind (gi a i) fun x => Option.bind (gi b i) fun y => if R x y then f a b n (IntKind.wrap .i64 (i + 1)) else some false) else some true)
    (hg : ∀ a b, g a b = if ((a.length : Nat) : Int) = ((b.length : Nat) : Int) then f a b (a.length : Int) 0 else some false) (hR : ∀ x y, R x y ↔ x = y)
    (l m : List α) (hl : l.length ≤ 4611686018427387904) : ∃ b, g l m = some b ∧ (b = true ↔ l = m) := by
  rw [hg]
  by_cases hlen : l.length = m.length
  · rw [if_pos (by omega)]
    have key : ∀ (d k : Nat), k + d = l.length → l.take k = m.take k → ∃ b, f l m (l.length : Int) (k : Int) = some b ∧ (b = true ↔ l = m) := by
      intro d
      induction d with
      | zero =>
        intro k hk he
        rw [List.take_of_length_le (by omega), List.take_of_length_le (by omega)] at he
        exact ⟨true, by rw [hf, if_neg (by omega)], by simp [he]⟩
      | succ d ih =>
        intro k hk he
        have h1 : k < l.length := by omega
        have h2 : k < m.length := by omega
        rw [hf, if_pos (by omega), gi_at h1, Option.bind_some, gi_at h2, Option.bind_some]
        by_cases hr : R l[k] m[k]
        · rw [if_pos hr, w_succ (by omega)]
          exact ih (k + 1) (by omega) (by rw [List.take_succ_eq_append_getElem h1, List.take_succ_eq_append_getElem h2, he, (hR _ _).1 hr])
        · rw [if_neg hr]
          refine ⟨false, rfl, by simp; intro e; exact hr ((hR _ _).2 (by simp [e]))⟩
    exact key l.length 0 (by omega) (by simp)
  · rw [if_neg (by omega)]
    exact ⟨false, rfl, by simp; intro e; exact hlen (by rw [e])⟩
end
section
open Go.RowKit
variable {H : Type} {enc : TypeId × Value → H} {P : Program} {W : World} {N : Nat}
end
end Go.Hw

end
section
set_option linter.unusedVariables false
namespace Go.Hw
open Go
abbrev Foot := Nat → Prop
def U (F G : Foot) : Foot := fun b => F b ∨ G b
section
variable {F G H F' G' : Foot}
theorem U.no_left : U No F = F := funext fun _ => propext ⟨fun h => h.elim (fun h => h.elim) id, .inr⟩
theorem U.no_right : U F No = F := funext fun _ => propext ⟨fun h => h.elim id (fun h => h.elim), .inl⟩
theorem U.assoc : U (U F G) H = U F (U G H) := funext fun _ => propext or_assoc
theorem U.comm : U F G = U G F := funext fun _ => propext or_comm
theorem U.left_comm : U F (U G H) = U G (U F H) := by rw [← U.assoc, U.comm (F := F), U.assoc]
theorem Dj.u (d : Dj F H) (d' : Dj G H) : Dj (U F G) H := fun b h k => h.elim (fun h => d b h k) (fun h => d' b h k)
theorem Dj.ul (d : Dj (U F G) H) : Dj F H := fun b h k => d b (.inl h) k
theorem Dj.ur (d : Dj (U F G) H) : Dj G H := fun b h k => d b (.inr h) k
theorem Dj.u' (d : Dj H F) (d' : Dj H G) : Dj H (U F G) := fun b k h => h.elim (fun h => d b k h) (fun h => d' b k h)
theorem Dj.ul' (d : Dj H (U F G)) : Dj H F := fun b k h => d b k (.inl h)
theorem Dj.ur' (d : Dj H (U F G)) : Dj H G := fun b k h => d b k (.inr h)
theorem Dj.no' : Dj F No := fun _ _ h => h
theorem Dj.mono (d : Dj F G) (h1 : ∀ b, F' b → F b) (h2 : ∀ b, G' b → G b) : Dj F' G' := fun b k l => d b (h1 b k) (h2 b l)
end
structure Res where
  p : Heap → Heap → Foot → Prop
  z : Heap → Prop
  lt : ∀ {h m F}, p h m F → ∀ b, F b → b < h.size
  nl : ∀ {h m F}, p h m F → ∀ b, F b → ¬ Live m b
  fr : ∀ {h m F h' m'}, p h m F → (∀ b, F b → h'[b]? = h[b]?) → Sub m m' → (∀ b, F b → ¬ Live m' b) → p h' m' F
  fz : ∀ {h m F G}, p h m F → Sub m h → (∀ b, F b → G b) → z (addV m h G)
def Res.vf (R : Res) : Prop := ∀ h m m' F, R.p h m F → Sub m' h → (∀ b, F b → ¬ Live m' b) → R.p h m' F
def rE : Res where
  p _ _ F := F = No
  z _ := True
  lt := by rintro h m F rfl b hb; exact hb.elim
  nl := by rintro h m F rfl b hb; exact hb.elim
  fr := fun h _ _ _ => h
  fz := fun _ _ _ => trivial
def Sep : List Res → Heap → Heap → Foot → Prop
  | [], _, _, F => F = No
  | R :: Rs, h, m, F => ∃ F1 F2, R.p h m F1 ∧ Sep Rs h m F2 ∧ Dj F1 F2 ∧ F = U F1 F2
def ZAll (m : Heap) : List Res → Prop
  | [] => True
  | R :: Rs => R.z m ∧ ZAll m Rs
def takeL : List Res → List Nat → List Res
  | _, [] => []
  | Rs, i :: is => (match Rs[i]? with | some R => R | none => rE) :: takeL (Rs.set i rE) is
def dropL : List Res → List Nat → List Res
  | Rs, [] => Rs
  | Rs, i :: is => dropL (Rs.set i rE) is
section
variable {h h' m m' : Heap} {F F1 F2 G : Foot} {Rs Rs' : List Res} {R R' : Res} {k : Nat}
theorem Sep.lt : ∀ {Rs : List Res} {F : Foot}, Sep Rs h m F → ∀ b, F b → b < h.size
  | [], _, hs, b, hb => by rw [show _ = No from hs] at hb; exact hb.elim
  | _ :: _, _, ⟨_, _, h1, h2, _, rfl⟩, b, hb => hb.elim (Res.lt _ h1 b) (Sep.lt h2 b)
theorem Sep.nl : ∀ {Rs : List Res} {F : Foot}, Sep Rs h m F → ∀ b, F b → ¬ Live m b
  | [], _, hs, b, hb => by rw [show _ = No from hs] at hb; exact hb.elim
  | _ :: _, _, ⟨_, _, h1, h2, _, rfl⟩, b, hb => hb.elim (Res.nl _ h1 b) (Sep.nl h2 b)
theorem Sep.fr : ∀ {Rs : List Res} {F : Foot}, Sep Rs h m F → (∀ b, F b → h'[b]? = h[b]?) → Sub m m' → (∀ b, F b → ¬ Live m' b) → Sep Rs h' m' F
  | [], _, hs, _, _, _ => hs
  | _ :: _, _, ⟨F1, F2, h1, h2, h3, rfl⟩, k1, k2, k3 => ⟨F1, F2, Res.fr _ h1 (fun b hb => k1 b (.inl hb)) k2 (fun b hb => k3 b (.inl hb)), Sep.fr h2 (fun b hb => k1 b (.inr hb)) k2 (fun b hb => k3 b (.inr hb)), h3, rfl⟩
theorem Sep.fz : ∀ {Rs : List Res} {F : Foot}, Sep Rs h m F → Sub m h → (∀ b, F b → G b) → ZAll (addV m h G) Rs
  | [], _, _, _, _ => trivial
  | _ :: _, _, ⟨F1, F2, h1, h2, h3, rfl⟩, k1, k2 => ⟨Res.fz _ h1 k1 (fun b hb => k2 b (.inl hb)), Sep.fz h2 k1 (fun b hb => k2 b (.inr hb))⟩
theorem Sep.vf : ∀ {Rs : List Res} {F : Foot}, Sep Rs h m F → (∀ R ∈ Rs, R.vf) → Sub m' h → (∀ b, F b → ¬ Live m' b) → Sep Rs h m' F
  | [], _, hs, _, _, _ => hs
  | R :: Rs, _, ⟨F1, F2, h1, h2, h3, rfl⟩, v, k1, k2 => ⟨F1, F2, v R (List.mem_cons_self ..) _ _ _ _ h1 k1 (fun b hb => k2 b (.inl hb)), Sep.vf h2 (fun R hR => v R (List.mem_cons_of_mem _ hR)) k1 (fun b hb => k2 b (.inr hb)), h3, rfl⟩
theorem Sep.get : ∀ {Rs : List Res} {F : Foot} {k : Nat}, Sep Rs h m F → Rs[k]? = some R → ∃ F1 F2, R.p h m F1 ∧ Sep (Rs.set k rE) h m F2 ∧ Dj F1 F2 ∧ F = U F1 F2
  | [], _, _, _, hk => by cases hk
  | R' :: Rs, _, 0, ⟨F1, F2, h1, h2, h3, e⟩, hk => by
    cases hk
    exact ⟨F1, F2, h1, ⟨No, F2, rfl, h2, .no, U.no_left.symm⟩, h3, e⟩
  | R' :: Rs, _, k + 1, ⟨F1, F2, h1, h2, h3, e⟩, hk => by
    obtain ⟨G1, G2, k1, k2, k3, rfl⟩ := Sep.get h2 (show Rs[k]? = some R by simpa using hk)
    refine ⟨G1, U F1 G2, k1, ⟨F1, G2, h1, k2, h3.ur', rfl⟩, ?_, ?_⟩
    · exact Dj.u' h3.ul'.symm k3
    · rw [e, U.left_comm]
theorem Sep.put : ∀ {Rs : List Res} {F2 : Foot} {k : Nat}, Sep Rs h m F2 → Rs[k]? = some rE → R'.p h m F1 → Dj F1 F2 → Sep (Rs.set k R') h m (U F1 F2)
  | [], _, _, _, hk, _, _ => by cases hk
  | R :: Rs, _, 0, ⟨G1, G2, h1, h2, h3, e⟩, hk, hp, d => by
    cases hk
    have : G1 = No := h1
    subst this
    rw [U.no_left] at e
    subst e
    exact ⟨F1, _, hp, h2, d, rfl⟩
  | R :: Rs, _, k + 1, ⟨G1, G2, h1, h2, h3, e⟩, hk, hp, d => by
    subst e
    have := Sep.put h2 (show Rs[k]? = some rE by simpa using hk) hp d.ur'
    exact ⟨G1, _, h1, this, Dj.u' d.ul'.symm h3, by rw [U.left_comm]⟩
theorem Sep.app : ∀ {Rs : List Res} {F : Foot}, Sep Rs h m F → Sep Rs' h m G → Dj F G → Sep (Rs ++ Rs') h m (U F G)
  | [], _, hs, hs', _ => by rw [show _ = No from hs, U.no_left]; exact hs'
  | R :: Rs, _, ⟨F1, F2, h1, h2, h3, e⟩, hs', d => by
    subst e
    exact ⟨F1, _, h1, Sep.app h2 hs' d.ur, Dj.u' h3 d.ul, U.assoc⟩
theorem Sep.one (hp : R.p h m F) : Sep [R] h m F := ⟨F, No, hp, rfl, .no', U.no_right.symm⟩
theorem set_rE (hk : Rs[k]? = some R) : (Rs.set k rE)[k]? = some rE := by
  have : k < Rs.length := (List.getElem?_eq_some_iff.1 hk).1
  rw [List.getElem?_set_self this]
theorem Sep.part : ∀ (is : List Nat) {Rs : List Res} {F : Foot}, Sep Rs h m F → ∃ F1 F2, Sep (takeL Rs is) h m F1 ∧ Sep (dropL Rs is) h m F2 ∧ Dj F1 F2 ∧ F = U F1 F2
  | [], Rs, F, hs => ⟨No, F, rfl, hs, .no, U.no_left.symm⟩
  | i :: is, Rs, F, hs => by
    cases hi : Rs[i]? with
    | none =>
      have : Rs.set i rE = Rs := List.set_eq_of_length_le (List.getElem?_eq_none_iff.1 hi)
      obtain ⟨F1, F2, h1, h2, h3, h4⟩ := Sep.part is (Rs := Rs.set i rE) (by rw [this]; exact hs)
      refine ⟨F1, F2, ?_, h2, h3, h4⟩
      simp only [takeL, hi]
      exact ⟨No, F1, rfl, h1, .no, U.no_left.symm⟩
    | some R =>
      obtain ⟨G1, G2, k1, k2, k3, rfl⟩ := Sep.get hs hi
      obtain ⟨F1, F2, h1, h2, h3, rfl⟩ := Sep.part is k2
      refine ⟨U G1 F1, F2, ?_, h2, Dj.u k3.ur' h3, U.assoc.symm⟩
      simp only [takeL, hi]
      exact ⟨G1, F1, k1, h1, k3.ul', rfl⟩
end
structure Hold (W : Foot) (h0 m0 h m : Heap) (Rs : List Res) : Prop where
  S : St W h0 m0 h m
  q : ∃ F, Sep Rs h m F ∧ ∀ b, F b → h0.size ≤ b ∨ W b
section
variable {h0 m0 h h' m m' : Heap} {W F F' G : Foot} {Rs Rs' : List Res} {R R' : Res} {k : Nat}
theorem Hold.s (O : Hold W h0 m0 h m Rs) : Sub m h := O.S.s
theorem Hold.up (O : Hold W h0 m0 h m Rs) : Sub m0 m := O.S.up
theorem Hold.start (s : Sub m h) : Hold W h m h m [] := ⟨.refl s, No, rfl, fun _ h => h.elim⟩
theorem St.frame (T : St F h m h' m') (h2 : Dj F G) (h3 : ∀ b, G b → b < h.size) (h4 : ∀ b, G b → ¬ Live m b) : (∀ b, G b → h'[b]? = h[b]?) ∧ ∀ b, G b → ¬ Live m' b :=
  ⟨fun b hb => T.fr b (h3 b hb) (fun hf => h2 b hf hb), fun b hb hl => (T.lv b (h3 b hb) hl).elim (h4 b hb) (fun hf => h2 b hf hb)⟩
theorem Hold.get (O : Hold W h0 m0 h m Rs) (k : Nat) (hk : Rs[k]? = some R) : ∃ F, R.p h m F ∧ (∀ b, F b → h0.size ≤ b ∨ W b) ∧
    ∀ {h' m' : Heap} {R' : Res} {F' : Foot}, St F h m h' m' → R'.p h' m' F' → (∀ b, F' b → F b ∨ h.size ≤ b) → Hold W h0 m0 h' m' (Rs.set k R') := by
  obtain ⟨S, FF, hs, hw⟩ := O
  obtain ⟨F1, F2, h1, h2, h3, rfl⟩ := hs.get hk
  refine ⟨F1, h1, fun b hb => hw b (.inl hb), fun {h' m' R' F'} T hp hn => ?_⟩
  obtain ⟨f1, f2⟩ := T.frame h3 h2.lt h2.nl
  have s2 := Sep.fr h2 f1 T.up f2
  have d : Dj F' F2 := fun b hb hc => (hn b hb).elim (fun hf => h3 b hf hc) (fun hl => by have := h2.lt b hc; omega)
  have := Sep.put s2 (set_rE hk) hp d
  rw [List.set_set] at this
  refine ⟨S.then T (fun b _ hb => hw b (.inl hb)), _, this, fun b hb => hb.elim (fun hb => (hn b hb).elim (fun hf => hw b (.inl hf)) (fun hl => .inl (Nat.le_trans S.size hl))) (fun hb => hw b (.inr hb))⟩
theorem Hold.add (O : Hold W h0 m0 h m Rs) (T : St No h m h' m') (hp : R.p h' m' F') (hn : ∀ b, F' b → h.size ≤ b) : Hold W h0 m0 h' m' (Rs ++ [R]) := by
  obtain ⟨S, F, hs, hw⟩ := O
  obtain ⟨f1, f2⟩ := T.frame (G := F) .no hs.lt hs.nl
  refine ⟨S.grow T, _, (Sep.fr hs f1 T.up f2).app (.one hp) (fun b hb hc => by have := hs.lt b hb; have := hn b hc; omega), fun b hb => hb.elim (hw b) (fun hb => .inl (Nat.le_trans S.size (hn b hb)))⟩
theorem Hold.grow (O : Hold W h0 m0 h m Rs) (T : St No h m h' m') : Hold W h0 m0 h' m' Rs := by
  obtain ⟨S, F, hs, hw⟩ := O
  obtain ⟨f1, f2⟩ := T.frame (G := F) .no hs.lt hs.nl
  exact ⟨S.grow T, F, Sep.fr hs f1 T.up f2, hw⟩
theorem Hold.ext (O : Hold W h0 m0 h m Rs) (e : Ext h h') : Hold W h0 m0 h' m Rs := O.grow (St.of_ext O.s e)
theorem Hold.adds (O : Hold W h0 m0 h m Rs) (hp : R.p h m No) : Hold W h0 m0 h m (Rs ++ [R]) := O.add (.refl O.s) hp (fun _ h => h.elim)
theorem Hold.conv (O : Hold W h0 m0 h m Rs) (k : Nat) (hk : Rs[k]? = some R) (H : ∀ F, R.p h m F → ∃ F', R'.p h m F' ∧ ∀ b, F' b → F b) : Hold W h0 m0 h m (Rs.set k R') := by
  obtain ⟨F, h1, _, h3⟩ := O.get k hk
  obtain ⟨F', h4, h5⟩ := H F h1
  exact h3 (.refl O.s) h4 (fun b hb => .inl (h5 b hb))
theorem Hold.pick (O : Hold W h0 m0 h m Rs) (is : List Nat) : Hold W h0 m0 h m (takeL Rs is) := by
  obtain ⟨S, F, hs, hw⟩ := O
  obtain ⟨F1, F2, h1, h2, h3, rfl⟩ := hs.part is
  exact ⟨S, F1, h1, fun b hb => hw b (.inl hb)⟩
theorem Hold.call (O : Hold W h0 m0 h m Rs) (is : List Nat) : ∃ W', Hold W' h m h m (takeL Rs is) ∧ ∀ {h' m' : Heap} {Rs' : List Res}, Hold W' h m h' m' Rs' → Hold W h0 m0 h' m' (dropL Rs is ++ Rs') := by
  obtain ⟨S, F, hs, hw⟩ := O
  obtain ⟨F1, F2, h1, h2, h3, rfl⟩ := hs.part is
  refine ⟨F1, ⟨.refl S.s, F1, h1, fun b hb => .inr hb⟩, fun {h' m' Rs'} O' => ?_⟩
  obtain ⟨T, F', hs', hw'⟩ := O'
  obtain ⟨f1, f2⟩ := T.frame h3 h2.lt h2.nl
  refine ⟨S.then T (fun b _ hb => hw b (.inl hb)), _, (Sep.fr h2 f1 T.up f2).app hs' (fun b hb hc => (hw' b hc).elim (fun hl => by have := h2.lt b hb; omega) (fun hf => h3 b hf hb)), fun b hb => hb.elim (fun hb => hw b (.inr hb)) (fun hb => (hw' b hb).elim (fun hl => .inl (Nat.le_trans S.size hl)) (fun hf => hw b (.inl hf)))⟩
theorem Hold.lend (O : Hold W h0 m0 h m Rs) (is ls : List Nat) : ∃ m1 W', Sub m m1 ∧ Hold W' h m1 h m1 (takeL Rs is) ∧ ZAll m1 (takeL (dropL Rs is) ls) ∧
    (∀ {h' m' : Heap} {Rs' : List Res}, Hold W' h m1 h' m' Rs' → Hold W h0 m0 h' m' (dropL (dropL Rs is) ls ++ Rs')) ∧
    (∀ {h' m' : Heap} {Rs' : List Res}, Hold W' h m1 h' m' Rs' → (∀ R ∈ Rs', R.vf) → Hold W h0 m0 h' m (dropL Rs is ++ Rs')) := by
  obtain ⟨S, F, hs, hw⟩ := O
  obtain ⟨F1, F2, h1, h2, h3, rfl⟩ := hs.part is
  obtain ⟨F3, F4, k1, k2, k3, rfl⟩ := h2.part ls
  have hl : ∀ b, Live (addV m h F3) b → Live m b ∨ F3 b := fun b h => (addV_live h).1
  have n1 : ∀ b, F1 b → ¬ Live (addV m h F3) b := fun b hb hv => (hl b hv).elim (h1.nl b hb) (fun hf => h3 b hb (.inl hf))
  have n4 : ∀ b, F4 b → ¬ Live (addV m h F3) b := fun b hb hv => (hl b hv).elim (k2.nl b hb) (fun hf => k3 b hf hb)
  refine ⟨addV m h F3, F1, addV_up S.s, ⟨.refl addV_sub, F1, Sep.fr h1 (fun _ _ => rfl) (addV_up S.s) n1, fun b hb => .inr hb⟩, k1.fz S.s (fun _ h => h), fun {h' m' Rs'} O' => ?_, fun {h' m' Rs'} O' v => ?_⟩
  · obtain ⟨T, F', hs', hw'⟩ := O'
    have k4 := Sep.fr k2 (fun _ _ => rfl) (addV_up S.s) n4
    obtain ⟨f1, f2⟩ := T.frame h3.ur' k2.lt n4
    refine ⟨(S.then (St.settle S.s F3) (fun b _ hb => hw b (.inr (.inl hb)))).then T (fun b _ hb => hw b (.inl hb)), _, (Sep.fr k4 f1 T.up f2).app hs' (fun b hb hc => (hw' b hc).elim (fun hl => by have := k2.lt b hb; omega) (fun hf => h3 b hf (.inr hb))), fun b hb => hb.elim (fun hb => hw b (.inr (.inr hb))) (fun hb => (hw' b hb).elim (fun hl => .inl (Nat.le_trans S.size hl)) (fun hf => hw b (.inl hf)))⟩
  · obtain ⟨T, F', hs', hw'⟩ := O'
    have T' : St F1 h m h' m := T.unlend S.s h1.nl
    obtain ⟨f1, f2⟩ := T'.frame h3 h2.lt h2.nl
    have n' : ∀ b, F' b → ¬ Live m b := fun b hb hv => (hw' b hb).elim (fun hl => by have := S.s.lt hv; omega) (fun hf => h1.nl b hf hv)
    refine ⟨S.then T' (fun b _ hb => hw b (.inl hb)), _, (Sep.fr h2 f1 T'.up f2).app (hs'.vf v T'.s n') (fun b hb hc => (hw' b hc).elim (fun hl => by have := h2.lt b hb; omega) (fun hf => h3 b hf hb)), fun b hb => hb.elim (fun hb => hw b (.inr hb)) (fun hb => (hw' b hb).elim (fun hl => .inl (Nat.le_trans S.size hl)) (fun hf => hw b (.inl hf)))⟩
theorem Hold.frz (O : Hold W h0 m0 h m Rs) (k : Nat) (hk : Rs[k]? = some R) : ∃ m', Sub m m' ∧ R.z m' ∧ Hold W h0 m0 h m' (Rs.set k rE) := by
  obtain ⟨m1, W', h1, h2, h3, h4, _⟩ := O.lend [] [k]
  refine ⟨m1, h1, ?_, ?_⟩
  · have : takeL (dropL Rs []) [k] = [R] := by simp only [takeL, dropL, hk]
    rw [this] at h3
    exact h3.1
  · have := h4 h2
    simp only [takeL, dropL, List.append_nil] at this
    exact this
end
end Go.Hw

end
section
set_option linter.unusedVariables false
namespace Go.Hw
open Go
structure Asn (α : Type) (sz : Nat) where
  p : Heap → Heap → α → List Value → Foot → Prop
  E : Heap → α → List Value → Prop
  T : Tell sz E
  len : ∀ {h m x cs F}, p h m x cs F → cs.length = sz
  flat : ∀ {h m x cs F}, p h m x cs F → ∀ v ∈ cs, Flat v
  lt : ∀ {h m x cs F}, p h m x cs F → ∀ b, F b → b < h.size
  nl : ∀ {h m x cs F}, p h m x cs F → ∀ b, F b → ¬ Live m b
  fr : ∀ {h m x cs F h' m'}, p h m x cs F → (∀ b, F b → h'[b]? = h[b]?) → Sub m m' → (∀ b, F b → ¬ Live m' b) → p h' m' x cs F
  fz : ∀ {h m x cs F G}, p h m x cs F → Sub m h → (∀ b, F b → G b) → E (addV m h G) x cs
def aE {α : Type} {sz : Nat} {E : Heap → α → List Value → Prop} (T : Tell sz E) : Asn α sz where
  p _ m x cs F := E m x cs ∧ F = No
  E := E
  T := T
  len h := T.len _ _ _ h.1
  flat h := T.flat _ _ _ h.1
  lt := by rintro h m x cs F ⟨_, rfl⟩ b hb; exact hb.elim
  nl := by rintro h m x cs F ⟨_, rfl⟩ b hb; exact hb.elim
  fr := fun h _ s _ => ⟨T.mono _ _ _ _ s h.1, h.2⟩
  fz := fun h s _ => T.mono _ _ _ _ (addV_up s) h.1
def Asn.vf {α : Type} {sz : Nat} (a : Asn α sz) : Prop := ∀ h m m' x cs F, a.p h m x cs F → Sub m' h → (∀ b, F b → ¬ Live m' b) → a.p h m' x cs F
theorem aE_vf {α : Type} {sz : Nat} {E : Heap → α → List Value → Prop} {T : Tell sz E} (hE : ∀ m m' x cs, E m x cs → E m' x cs) : (aE T).vf := fun _ _ _ _ _ _ h _ _ => ⟨hE _ _ _ _ h.1, h.2⟩
theorem Blk.fr {h h' : Heap} {b : Nat} {c : List Value} {t : TypeId} (hb : Blk h b c t) (e : h'[b]? = h[b]?) : Blk h' b c t := by unfold Blk at *; rw [e]; exact hb
def rV (b : Nat) (t : TypeId) (cs : List Value) : Res where
  p h m F := Blk h b cs t ∧ ¬ Live m b ∧ F = fb b
  z m := Blk m b cs t
  lt := by rintro h m F ⟨h1, _, rfl⟩ i hi; unfold fb at hi; subst hi; exact h1.lt
  nl := by rintro h m F ⟨h1, h2, rfl⟩ i hi; unfold fb at hi; subst hi; exact h2
  fr := by rintro h m F h' m' ⟨h1, h2, rfl⟩ k1 _ k3; exact ⟨h1.fr (k1 b rfl), k3 b rfl, rfl⟩
  fz := by rintro h m F G ⟨h1, h2, rfl⟩ _ k2; exact h1.settle (k2 b rfl)
section
variable {α : Type} {sz : Nat}
def CsA (a : Asn α sz) (h m : Heap) : List α → List Value → Foot → Prop
  | [], cs, F => cs = [] ∧ F = No
  | x :: l, cs, F => ∃ c1 c2 F1 F2, cs = c1 ++ c2 ∧ a.p h m x c1 F1 ∧ CsA a h m l c2 F2 ∧ Dj F1 F2 ∧ F = U F1 F2
variable {a : Asn α sz} {h h' m m' : Heap} {l l' : List α} {cs ds : List Value} {F F' F1 F2 G : Foot} {x y : α}
theorem CsA.len : ∀ {l : List α} {cs : List Value} {F : Foot}, CsA a h m l cs F → cs.length = l.length * sz
  | [], _, _, ⟨e, _⟩ => by rw [e]; simp
  | x :: l, _, _, ⟨c1, c2, F1, F2, e, h1, h2, _, _⟩ => by rw [e, List.length_append, CsA.len h2, a.len h1, List.length_cons, Nat.succ_mul, Nat.add_comm]
theorem CsA.flat : ∀ {l : List α} {cs : List Value} {F : Foot}, CsA a h m l cs F → ∀ v ∈ cs, Flat v
  | [], _, _, ⟨e, _⟩ => by rw [e]; exact Flats.nil
  | x :: l, _, _, ⟨c1, c2, F1, F2, e, h1, h2, _, _⟩ => by
    rw [e]; intro v hv
    rcases List.mem_append.1 hv with hv | hv
    · exact a.flat h1 v hv
    · exact CsA.flat h2 v hv
theorem CsA.lt : ∀ {l : List α} {cs : List Value} {F : Foot}, CsA a h m l cs F → ∀ b, F b → b < h.size
  | [], _, _, ⟨_, e⟩, b, hb => by rw [e] at hb; exact hb.elim
  | x :: l, _, _, ⟨c1, c2, F1, F2, _, h1, h2, _, rfl⟩, b, hb => hb.elim (a.lt h1 b) (CsA.lt h2 b)
theorem CsA.nl : ∀ {l : List α} {cs : List Value} {F : Foot}, CsA a h m l cs F → ∀ b, F b → ¬ Live m b
  | [], _, _, ⟨_, e⟩, b, hb => by rw [e] at hb; exact hb.elim
  | x :: l, _, _, ⟨c1, c2, F1, F2, _, h1, h2, _, rfl⟩, b, hb => hb.elim (a.nl h1 b) (CsA.nl h2 b)
theorem CsA.fr : ∀ {l : List α} {cs : List Value} {F : Foot}, CsA a h m l cs F → (∀ b, F b → h'[b]? = h[b]?) → Sub m m' → (∀ b, F b → ¬ Live m' b) → CsA a h' m' l cs F
  | [], _, _, hs, _, _, _ => hs
  | x :: l, _, _, ⟨c1, c2, F1, F2, e, h1, h2, d, rfl⟩, k1, k2, k3 => ⟨c1, c2, F1, F2, e, a.fr h1 (fun b hb => k1 b (.inl hb)) k2 (fun b hb => k3 b (.inl hb)), CsA.fr h2 (fun b hb => k1 b (.inr hb)) k2 (fun b hb => k3 b (.inr hb)), d, rfl⟩
theorem CsA.vf (v : a.vf) : ∀ {l : List α} {cs : List Value} {F : Foot}, CsA a h m l cs F → Sub m' h → (∀ b, F b → ¬ Live m' b) → CsA a h m' l cs F
  | [], _, _, hs, _, _ => hs
  | x :: l, _, _, ⟨c1, c2, F1, F2, e, h1, h2, d, rfl⟩, k1, k2 => ⟨c1, c2, F1, F2, e, v _ _ _ _ _ _ h1 k1 (fun b hb => k2 b (.inl hb)), CsA.vf v h2 k1 (fun b hb => k2 b (.inr hb)), d, rfl⟩
theorem CsA.fz : ∀ {l : List α} {cs : List Value} {F : Foot}, CsA a h m l cs F → Sub m h → (∀ b, F b → G b) → CsE sz a.E (addV m h G) l cs
  | [], _, _, ⟨e, _⟩, _, _ => e
  | x :: l, _, _, ⟨c1, c2, F1, F2, e, h1, h2, d, rfl⟩, k1, k2 => ⟨c1, c2, e, a.len h1, a.fz h1 k1 (fun b hb => k2 b (.inl hb)), CsA.fz h2 k1 (fun b hb => k2 b (.inr hb))⟩
theorem CsA.append : ∀ {l : List α} {cs : List Value} {F : Foot}, CsA a h m l cs F → CsA a h m l' ds F' → Dj F F' → CsA a h m (l ++ l') (cs ++ ds) (U F F')
  | [], _, _, ⟨e, e'⟩, h', _ => by subst e; subst e'; rw [U.no_left]; exact h'
  | x :: l, _, _, ⟨c1, c2, F1, F2, e, h1, h2, d, e'⟩, h', dd => by
    subst e; subst e'
    rw [List.append_assoc]
    exact ⟨c1, _, F1, _, rfl, h1, CsA.append h2 h' dd.ur, Dj.u' d dd.ul, U.assoc⟩
theorem CsA.drop : ∀ {l : List α} {cs : List Value} {F : Foot} (k : Nat), CsA a h m l cs F → ∃ F', CsA a h m (l.drop k) (cs.drop (k * sz)) F' ∧ ∀ b, F' b → F b
  | [], _, F, k, ⟨e, e'⟩ => by subst e; subst e'; exact ⟨No, by simp [CsA], fun _ h => h⟩
  | x :: l, _, F, 0, hh => by rw [Nat.zero_mul, List.drop_zero, List.drop_zero]; exact ⟨F, hh, fun _ h => h⟩
  | x :: l, _, F, k + 1, ⟨c1, c2, F1, F2, e, h1, h2, d, e'⟩ => by
    obtain ⟨F', h3, h4⟩ := CsA.drop k h2
    refine ⟨F', ?_, fun b hb => by rw [e']; exact .inr (h4 b hb)⟩
    rw [e, show (k + 1) * sz = c1.length + k * sz by rw [a.len h1, Nat.succ_mul, Nat.add_comm], ← List.drop_drop (l := c1 ++ c2), List.drop_left, List.drop_succ_cons]
    exact h3
theorem CsA.take : ∀ {l : List α} {cs : List Value} {F : Foot} (k : Nat), CsA a h m l cs F → ∃ F', CsA a h m (l.take k) (cs.take (k * sz)) F' ∧ ∀ b, F' b → F b
  | [], _, F, k, ⟨e, e'⟩ => by subst e; subst e'; exact ⟨No, by simp [CsA], fun _ h => h⟩
  | x :: l, _, F, 0, hh => ⟨No, by simp [CsA], fun _ h => h.elim⟩
  | x :: l, _, F, k + 1, ⟨c1, c2, F1, F2, e, h1, h2, d, e'⟩ => by
    obtain ⟨F', h3, h4⟩ := CsA.take k h2
    refine ⟨U F1 F', ?_, fun b hb => by rw [e']; exact hb.elim .inl (fun hb => .inr (h4 b hb))⟩
    rw [e, show (k + 1) * sz = c1.length + k * sz by rw [a.len h1, Nat.succ_mul, Nat.add_comm], List.take_length_add_append, List.take_succ_cons]
    exact ⟨c1, _, F1, F', rfl, h1, h3, d.mono (fun _ h => h) h4, rfl⟩
theorem CsE.csa {E : Heap → α → List Value → Prop} {T : Tell sz E} : ∀ {l : List α} {cs : List Value}, CsE sz E m l cs → CsA (aE T) h m l cs No
  | [], _, e => ⟨e, rfl⟩
  | x :: l, _, ⟨c1, c2, e, h1, h2, h3⟩ => ⟨c1, c2, No, No, e, ⟨h2, rfl⟩, CsE.csa h3, .no, U.no_left.symm⟩
theorem CsA.cse {E : Heap → α → List Value → Prop} {T : Tell sz E} : ∀ {l : List α} {cs : List Value} {F : Foot}, CsA (aE T) h m l cs F → CsE sz E m l cs ∧ F = No
  | [], _, _, ⟨e, e'⟩ => ⟨e, e'⟩
  | x :: l, _, _, ⟨c1, c2, F1, F2, e, ⟨h1, h1'⟩, h2, _, e'⟩ => by
    obtain ⟨h3, h3'⟩ := CsA.cse h2
    subst h1'; subst h3'
    exact ⟨⟨c1, c2, e, T.len _ _ _ h1, h1, h3⟩, by rw [e', U.no_left]⟩
end
section
variable {α : Type} {sz : Nat}
def rowP (a : Asn α sz) (A : Option Addr) (c : Nat) (l : List α) (h m : Heap) (F : Foot) : Prop :=
  (l = [] ∧ c = 0 ∧ F = No) ∨ ∃ b t pre cs rest Fe, c ≠ 0 ∧ A = some ⟨b, pre.length, none⟩ ∧ Blk h b (pre ++ cs ++ rest) t ∧ CsA a h m l cs Fe ∧ l.length ≤ c ∧ (c - l.length) * sz ≤ rest.length ∧ ¬ Live m b ∧ ¬ Fe b ∧ F = U (fb b) Fe
def rR (a : Asn α sz) (A : Option Addr) (c : Nat) (l : List α) : Res where
  p := rowP a A c l
  z m := Rd sz a.E m A l ∧ l.length ≤ c
  lt := by
    rintro h m F (⟨_, _, rfl⟩ | ⟨b, t, pre, cs, rest, Fe, k0, k1, k2, k3, k4, k5, k6, k7, rfl⟩) i hi
    · exact hi.elim
    · rcases hi with hi | hi
      · unfold fb at hi; subst hi; exact k2.lt
      · exact k3.lt i hi
  nl := by
    rintro h m F (⟨_, _, rfl⟩ | ⟨b, t, pre, cs, rest, Fe, k0, k1, k2, k3, k4, k5, k6, k7, rfl⟩) i hi
    · exact hi.elim
    · rcases hi with hi | hi
      · unfold fb at hi; subst hi; exact k6
      · exact k3.nl i hi
  fr := by
    rintro h m F h' m' (⟨e1, e2, rfl⟩ | ⟨b, t, pre, cs, rest, Fe, k0, k1, k2, k3, k4, k5, k6, k7, rfl⟩) f1 f2 f3
    · exact .inl ⟨e1, e2, rfl⟩
    · exact .inr ⟨b, t, pre, cs, rest, Fe, k0, k1, k2.fr (f1 b (.inl rfl)), k3.fr (fun i hi => f1 i (.inr hi)) f2 (fun i hi => f3 i (.inr hi)), k4, k5, f3 b (.inl rfl), k7, rfl⟩
  fz := by
    rintro h m F G (⟨e1, e2, rfl⟩ | ⟨b, t, pre, cs, rest, Fe, k0, k1, k2, k3, k4, k5, k6, k7, rfl⟩) f1 f2
    · subst e1; exact ⟨.nil, Nat.zero_le _⟩
    · subst k1
      exact ⟨CsE.rd (k2.settle (f2 b (.inl rfl))) (k3.fz f1 (fun i hi => f2 i (.inr hi))) (fun _ _ h => h), k4⟩
variable {a : Asn α sz} {h h' h0 m m' m0 : Heap} {A : Option Addr} {c n k : Nat} {l l' : List α} {F F' G W : Foot} {x : Int} {y : α} {v : Value} {cs : List Value} {Rs : List Res} {b : Nat} {t : TypeId} {aa : Addr}
variable {E : Heap → α → List Value → Prop} {T : Tell sz E}
theorem rR_vf (v : a.vf) : (rR a A c l).vf := by
  rintro h m m' F (⟨e1, e2, rfl⟩ | ⟨b, t, pre, cs, rest, Fe, k0, k1, k2, k3, k4, k5, k6, k7, rfl⟩) f1 f2
  · exact .inl ⟨e1, e2, rfl⟩
  · exact .inr ⟨b, t, pre, cs, rest, Fe, k0, k1, k2, k3.vf v f1 (fun i hi => f2 i (.inr hi)), k4, k5, f2 b (.inl rfl), k7, rfl⟩
theorem rowP.cap (o : rowP a A c l h m F) : l.length ≤ c := by
  rcases o with ⟨rfl, rfl, _⟩ | ⟨b, t, pre, cs, rest, Fe, k0, k1, k2, k3, k4, _⟩
  · exact Nat.le_refl _
  · exact k4
theorem rowP.os (o : rowP (aE T) A c l h m F) (hw : ∀ b, F b → h0.size ≤ b ∨ W b) : OS W h0 sz E h m A l c ∧ F = fp A c := by
  rcases o with ⟨rfl, rfl, rfl⟩ | ⟨b, t, pre, cs, rest, Fe, k0, k1, k2, k3, k4, k5, k6, k7, rfl⟩
  · exact ⟨.inl ⟨rfl, rfl⟩, funext fun b => propext ⟨fun h => h.elim, fun h => h.1 rfl⟩⟩
  · obtain ⟨k8, rfl⟩ := k3.cse
    refine ⟨.inr ⟨b, t, pre, cs, rest, k1, k2, k8, k4, k5, hw b (.inl rfl), k6⟩, ?_⟩
    rw [U.no_right]
    subst k1
    exact funext fun i => propext ⟨fun hi => ⟨k0, _, rfl, hi.symm⟩, fun ⟨_, a, e, hi⟩ => by cases e; exact hi.symm⟩
theorem OS.rowP (o : OS W h0 sz E h m A l c) : rowP (aE T) A c l h m (fp A c) := by
  by_cases hc : c = 0
  · subst hc
    have := o.cap
    exact .inl ⟨List.length_eq_zero_iff.1 (by omega), rfl, funext fun b => propext ⟨fun h => h.1 rfl, fun h => h.elim⟩⟩
  rcases o with ⟨rfl, rfl⟩ | ⟨b, t, pre, cs, rest, k1, k2, k3, k4, k5, k6, k7⟩
  · exact (hc rfl).elim
  · refine .inr ⟨b, t, pre, cs, rest, No, hc, k1, k2, k3.csa, k4, k5, k7, fun h => h, ?_⟩
    rw [U.no_right]
    subst k1
    exact funext fun i => propext ⟨fun ⟨_, a, e, hi⟩ => by cases e; exact hi.symm, fun hi => ⟨hc, _, rfl, hi.symm⟩⟩
theorem Hold.os (O : Hold W h0 m0 h m Rs) (k : Nat) (hk : Rs[k]? = some (rR (aE T) A c l)) : OS W h0 sz E h m A l c := by
  obtain ⟨F, h1, h2, _⟩ := O.get k hk
  exact (rowP.os h1 h2).1
theorem Hold.ob (O : Hold W h0 m0 h m Rs) (k : Nat) (hk : Rs[k]? = some (rV b t cs)) : OB W h0 h m b cs t := by
  obtain ⟨F, ⟨h1, h3, rfl⟩, h2, _⟩ := O.get k hk
  exact ⟨h1, h2 b rfl, h3⟩
theorem Hold.cap (O : Hold W h0 m0 h m Rs) (k : Nat) (hk : Rs[k]? = some (rR a A c l)) : l.length ≤ c := by
  obtain ⟨F, h1, _⟩ := O.get k hk
  exact rowP.cap h1
theorem Hold.all (O : Hold W h0 m0 h m Rs) (k : Nat) (hk : Rs[k]? = some (rV b t cs)) : cellsH h ⟨b, 0, none⟩ 0 cs.length = some cs := (O.ob k hk).all
theorem Hold.setV (O : Hold W h0 m0 h m Rs) (k : Nat) (hk : Rs[k]? = some (rV b t cs)) {cs' : List Value} (o : OB W h0 h' m b cs' t) (S : St (fb b) h m h' m) : Hold W h0 m0 h' m (Rs.set k (rV b t cs')) := by
  obtain ⟨F, ⟨h1, h3, rfl⟩, h2, h4⟩ := O.get k hk
  exact h4 S ⟨o.1, o.2.2, rfl⟩ (fun _ h => .inl h)
theorem Hold.setR (O : Hold W h0 m0 h m Rs) (k : Nat) (hk : Rs[k]? = some (rR (aE T) A c l)) (o : OS W h0 sz E h' m A l' c) (S : St (fp A c) h m h' m) : Hold W h0 m0 h' m (Rs.set k (rR (aE T) A c l')) := by
  obtain ⟨F, h1, h2, h4⟩ := O.get k hk
  obtain ⟨_, rfl⟩ := rowP.os h1 h2
  exact h4 S o.rowP (fun _ h => .inl h)
variable {K : Heap → Prop}
theorem Hold.new {z : Array Value} (O : Hold W h0 m0 h m Rs) (H : ∀ h', Ext h h' → Hold W h0 m0 h' m (Rs ++ [rV h.size t z.toList]) → K h') : newH h (.cells z t) K :=
  newH_in fun h' hb e hs => H h' e (O.add (St.of_ext O.s e) ⟨hb, St.notLive O.s, rfl⟩ (fun i hi => by unfold fb at hi; omega))
theorem Hold.st (O : Hold W h0 m0 h m Rs) (k : Nat) (hk : Rs[k]? = some (rV b t cs)) (j : Nat) (hj : j < cs.length) (hf : Flat v) (H : ∀ h', Hold W h0 m0 h' m (Rs.set k (rV b t (cs.set j v))) → K h') : ∃ h', st1 h (Addr.add ⟨b, 0, none⟩ j) v = some h' ∧ K h' := by
  obtain ⟨h', h1, h2, h3⟩ := (O.ob k hk).st O.s hj hf
  exact ⟨h', h1, H h' (O.setV k hk h2 h3)⟩
theorem Hold.st0 (O : Hold W h0 m0 h m Rs) (k : Nat) (hk : Rs[k]? = some (rV b t cs)) (hj : 0 < cs.length) (hf : Flat v) (H : ∀ h', Hold W h0 m0 h' m (Rs.set k (rV b t (cs.set 0 v))) → K h') : ∃ h', st1 h ⟨b, 0, none⟩ v = some h' ∧ K h' := O.st k hk 0 hj hf H
theorem Hold.stA (O : Hold W h0 m0 h m Rs) (k : Nat) (hk : Rs[k]? = some (rV b t cs)) {ds : List Value} (hn : ds.length = cs.length) (hf : ∀ v ∈ ds, Flat v) (H : ∀ h', Hold W h0 m0 h' m (Rs.set k (rV b t ds)) → K h') : ∃ h', stH h ⟨b, 0, none⟩ ds 0 = some h' ∧ K h' := by
  obtain ⟨h', h1, h2, h3⟩ := (O.ob k hk).stA O.s ds hn hf
  exact ⟨h', h1, H h' (O.setV k hk h2 h3)⟩
theorem Hold.elst (O : Hold W h0 m0 h m Rs) (k : Nat) (hk : Rs[k]? = some (rR (aE T) A c l)) (g : gi l x = some y) (ha : A = some aa) (hc : cellsH h (Addr.add aa (Int.toNat x * sz)) 0 sz = some cs) (j : Nat) (hj : j < sz) {y' : α} (hy : E m y' (cs.set j v)) (hf : Flat v) (e : l.set (Int.toNat x) y' = l')
    (H : ∀ h', Hold W h0 m0 h' m (Rs.set k (rR (aE T) A c l')) → K h') : ∃ h', st1 h (Addr.add (Addr.add aa (Int.toNat x * sz)) j) v = some h' ∧ K h' := by
  subst e
  obtain ⟨h', h1, h2, h3⟩ := (O.os k hk).st1k T O.s g ha hc j hj hy hf
  exact ⟨h', h1, H h' (O.setR k hk h2 h3)⟩
theorem Hold.elst0 (O : Hold W h0 m0 h m Rs) (k : Nat) (hk : Rs[k]? = some (rR (aE T) A c l)) (g : gi l x = some y) (ha : A = some aa) (hc : cellsH h (Addr.add aa (Int.toNat x * sz)) 0 sz = some cs) (hj : 0 < sz) {y' : α} (hy : E m y' (cs.set 0 v)) (hf : Flat v) (e : l.set (Int.toNat x) y' = l')
    (H : ∀ h', Hold W h0 m0 h' m (Rs.set k (rR (aE T) A c l')) → K h') : ∃ h', st1 h (Addr.add aa (Int.toNat x * sz)) v = some h' ∧ K h' := O.elst k hk g ha hc 0 hj hy hf e H
theorem Hold.nil (O : Hold W h0 m0 h m Rs) (a : Asn α sz) (A : Option Addr) : Hold W h0 m0 h m (Rs ++ [rR a A 0 []]) := O.adds (R := rR a A 0 []) (.inl ⟨rfl, rfl, rfl⟩)
theorem Hold.row (O : Hold W h0 m0 h m Rs) (k : Nat) (hk : Rs[k]? = some (rV b t cs)) (a : Asn α sz) (hc : ∃ F, CsA a h m l cs F ∧ F = No) (hn : l.length = c) (h0' : c ≠ 0) : Hold W h0 m0 h m (Rs.set k (rR a (some ⟨b, 0, none⟩) c l)) :=
  O.conv k hk (R' := rR a (some ⟨b, 0, none⟩) c l) fun F hF => by
    obtain ⟨h1, h2, rfl⟩ := hF
    obtain ⟨_, hc, rfl⟩ := hc
    exact ⟨_, .inr ⟨b, t, [], cs, [], No, h0', rfl, by simpa using h1, hc, by omega, by simp [hn], h2, fun h => h, rfl⟩, fun i hi => hi.elim id (fun h => h.elim)⟩
theorem Hold.rowE (O : Hold W h0 m0 h m Rs) (k : Nat) (hk : Rs[k]? = some (rV b t cs)) (T : Tell sz E) (hc : CsE sz E m l cs) (hn : l.length = c) : Hold W h0 m0 h m (Rs.set k (rR (aE T) (some ⟨b, 0, none⟩) c l)) := by
  by_cases h0' : c = 0
  · subst h0'
    refine O.conv k hk (R' := rR (aE T) (some ⟨b, 0, none⟩) 0 l) fun F _ => ⟨No, .inl ⟨List.length_eq_zero_iff.1 hn, rfl, rfl⟩, fun _ h => h.elim⟩
  · exact O.row k hk (aE T) ⟨No, hc.csa, rfl⟩ hn h0'
theorem rowP.sl {lo hi : Int} {mx : Nat} (o : rowP a A c l h m F) (h1 : 0 ≤ lo) (h2 : lo ≤ hi) (h3 : hi ≤ (l.length : Int)) (h4 : hi.toNat ≤ mx) (h5 : mx ≤ c) : ∃ F', rowP a (sliceA A (Int.toNat lo) mx sz) (mx - Int.toNat lo) (Hw.sl l lo hi) h m F' ∧ ∀ b, F' b → F b := by
  rcases o with ⟨rfl, rfl, rfl⟩ | ⟨b, t, pre, cs, rest, Fe, k0, rfl, k1, k2, k3, k4, k5, k6, rfl⟩
  · exact ⟨No, .inl ⟨by unfold Hw.sl; simp, by omega, rfl⟩, fun _ h => h⟩
  by_cases hm : mx = lo.toNat
  · exact ⟨No, .inl ⟨List.length_eq_zero_iff.1 (by rw [← sl_len h1 h2 h3]; omega), by omega, rfl⟩, fun _ h => h.elim⟩
  have hl := k2.len
  have e1 : (cs.take (lo.toNat * sz)).length = lo.toNat * sz := by
    rw [List.length_take, hl]; have := Nat.mul_le_mul_right sz (show lo.toNat ≤ l.length by omega); omega
  have e2 : hi.toNat * sz ≤ l.length * sz := Nat.mul_le_mul_right _ (by omega)
  have e3 : lo.toNat * sz ≤ hi.toNat * sz := Nat.mul_le_mul_right _ (by omega)
  obtain ⟨F1, q1, q2⟩ := k2.take hi.toNat
  obtain ⟨F2, q3, q4⟩ := q1.drop lo.toNat
  refine ⟨U (fb b) F2, .inr ⟨b, t, pre ++ cs.take (lo.toNat * sz), (cs.take (hi.toNat * sz)).drop (lo.toNat * sz), cs.drop (hi.toNat * sz) ++ rest, F2, by omega, ?_, ?_, q3, sl_cap h1 h2 h3 h4, ?_, k5, fun hb => k6 (q2 b (q4 b hb)), rfl⟩, fun i hi => hi.elim .inl (fun hi => .inr (q2 i (q4 i hi)))⟩
  · unfold sliceA
    rw [if_neg hm, Option.map_some, List.length_append, e1]
    unfold Addr.add
    split
    · rename_i h9; rw [h9]; rfl
    · rfl
  · have : pre ++ cs.take (lo.toNat * sz) ++ (cs.take (hi.toNat * sz)).drop (lo.toNat * sz) ++ (cs.drop (hi.toNat * sz) ++ rest) = pre ++ cs ++ rest := by
      have e4 : cs.take (lo.toNat * sz) = (cs.take (hi.toNat * sz)).take (lo.toNat * sz) := by rw [List.take_take, Nat.min_eq_left e3]
      rw [e4, List.append_assoc pre, List.take_append_drop, ← List.append_assoc, List.append_assoc pre, List.take_append_drop]
    rw [this]; exact k1
  · rw [List.length_append, List.length_drop, hl, ← sl_len h1 h2 h3]
    have e5 : (mx - lo.toNat - (hi.toNat - lo.toNat)) * sz + hi.toNat * sz ≤ c * sz := by rw [← Nat.add_mul]; exact Nat.mul_le_mul_right _ (by omega)
    have e6 : (c - l.length) * sz + l.length * sz = c * sz := by rw [← Nat.add_mul, Nat.sub_add_cancel k3]
    omega
theorem Hold.sls {lo hi : Int} (O : Hold W h0 m0 h m Rs) (k : Nat) (hk : Rs[k]? = some (rR a A c l)) (g : sls l lo hi = some l') : Hold W h0 m0 h m (Rs.set k (rR a (sliceA A (Int.toNat lo) c sz) (c - Int.toNat lo) l')) := by
  have hc := O.cap k hk
  obtain ⟨h1, h2, h3, _, rfl⟩ := sls_e g
  exact O.conv k hk (R' := rR a (sliceA A (Int.toNat lo) c sz) (c - Int.toNat lo) (Hw.sl l lo hi)) fun F hF => rowP.sl hF h1 h2 h3 (by omega) (Nat.le_refl _)
end
section
variable {α : Type} {sz : Nat} {a : Asn α sz} {h h' h0 m m' m0 : Heap} {A : Option Addr} {c n k : Nat} {l l' xs : List α} {F F' G W : Foot} {x : Int} {y : α} {v X : Value} {cs es : List Value} {Rs : List Res} {b : Nat} {t e : TypeId} {aa : Addr}
variable {E : Heap → α → List Value → Prop} {T : Tell sz E}
theorem rowP.app {bytes : Nat} {z : Array Value} {K : Value → Heap → Prop} {F2 : Foot} (o : rowP a A c l h m F) (s : Sub m h) (hn : n = l.length) (hz : z.size = sz) (h1 : srcCells sz X h = some (xs.length, es)) (h2 : CsA a h m xs es F2) (hd : Dj F F2) (hb0 : 0 < bytes) (g : ap bytes l xs = some l')
    (hk : ∀ A' c' h' F', rowP a A' c' l' h' m F' → St F h m h' m → (∀ b, F' b → F b ∨ F2 b ∨ h.size ≤ b) → K (.slice A' l'.length c') h') : AppW e sz bytes z A n c X h K := by
  subst hn
  obtain ⟨hb, rfl⟩ := ap_e g
  have he := h2.len
  refine ⟨xs.length, es, h1, ?_⟩
  have hpush : ∀ (old : List Value) (Fo : Foot) (hold : oldCells sz A l.length h = some old) (hE : CsA a h m l old Fo) (hFo : ∀ b, Fo b → F b), c < l.length + xs.length →
      ∃ old, oldCells sz A l.length h = some old ∧ ∀ c', l.length + xs.length ≤ c' → K (.slice (some ⟨h.size, 0, none⟩) (l.length + xs.length) c') (h.push (.cells (old.toArray ++ es.toArray ++ zcells z (c' - (l.length + xs.length))) e)) := by
    intro old Fo hold hE hFo hlt
    refine ⟨old, hold, fun c' hc' => ?_⟩
    rw [show (Value.slice (some ⟨h.size, 0, none⟩) (l.length + xs.length) c') = .slice (some ⟨h.size, 0, none⟩) (l ++ xs).length c' by rw [List.length_append]]
    have e1 := Ext.push h (Obj.cells (old.toArray ++ es.toArray ++ zcells z (c' - (l.length + xs.length))) e)
    have S1 := St.of_ext (W := F) s e1
    have hA := hE.append h2 (hd.mono hFo (fun _ h => h))
    have hA' := hA.fr (fun i hi => e1.2 i (hA.lt i hi)) (.refl _) (fun i hi => hA.nl i hi)
    refine hk _ _ _ _ (.inr ⟨h.size, e, [], old ++ es, (zcells z (c' - (l.length + xs.length))).toList, _, by omega, rfl, ?_, hA', by rw [List.length_append]; exact hc', ?_, St.notLive s, fun hf => by have := hA.lt _ hf; omega, rfl⟩) S1 ?_
    · have := Blk.new h (old.toArray ++ es.toArray ++ zcells z (c' - (l.length + xs.length))) e
      simpa using this
    · rw [zc_len, hz, List.length_append]; exact Nat.le_refl _
    · rintro i (hi | hi | hi)
      · unfold fb at hi; exact .inr (.inr (by omega))
      · exact .inl (hFo i hi)
      · exact .inr (.inl hi)
  rcases o with ⟨rfl, rfl, rfl⟩ | ⟨b, t, pre, cs, rest, Fe, k0, rfl, k1, k2, k3, k4, k5, k6, rfl⟩
  · by_cases hx : xs.length = 0
    · have hxs : xs = [] := List.length_eq_zero_iff.1 hx
      subst hxs
      obtain ⟨rfl, rfl⟩ : es = [] ∧ F2 = No := h2
      refine .inl ⟨by simp, ?_⟩
      have fin := hk A 0 h No (.inl ⟨rfl, rfl, rfl⟩) (St.refl s) (fun b hb => .inl hb)
      cases A with
      | none => exact .inl ⟨rfl, fin⟩
      | some a => exact .inr ⟨a, h, rfl, by simp [stH], fin⟩
    · refine .inr ⟨by simp; omega, by simpa using hb, hb0, ?_⟩
      refine hpush [] No ?_ ⟨rfl, rfl⟩ (fun _ h => h) (by simp; omega)
      cases A with
      | none => rfl
      | some a => simp [oldCells, cellsH]
  · have hl := k2.len
    by_cases hle : l.length + xs.length ≤ c
    · refine .inl ⟨hle, .inr ?_⟩
      have hmul : (c - l.length) * sz = xs.length * sz + (c - l.length - xs.length) * sz := by rw [← Nat.add_mul]; congr 1; omega
      have k1' : Blk h b ((pre ++ cs) ++ rest.take (xs.length * sz) ++ rest.drop (xs.length * sz)) t := by rw [List.append_assoc, List.take_append_drop]; exact k1
      obtain ⟨h', s1, b1, o1⟩ := Blk.stH es (a := (⟨b, pre.length, none⟩ : Addr).add (l.length * sz)) (i := 0) k1' (by rw [add_block]) (add_spot _ rfl) (by rw [add_off, List.length_append, hl, Nat.add_zero]) (by rw [List.length_take, he]; omega) (h2.flat)
      refine ⟨_, h', rfl, s1, ?_⟩
      rw [show (Value.slice (some ⟨b, pre.length, none⟩) (l.length + xs.length) c) = .slice (some ⟨b, pre.length, none⟩) (l ++ xs).length c by rw [List.length_append]]
      have S : St (fb b) h m h' m := .only s k5 o1
      have S2 : St (U (fb b) Fe) h m h' m := ⟨S.up, S.s, S.size, fun i hi hn => S.fr i hi (fun h => hn (.inl h)), fun i hi hl => .inl hl⟩
      have hA := k2.append h2 hd.ur
      have nb : ∀ i, U Fe F2 i → i ≠ b := fun i hi e' => by subst e'; exact hi.elim k6 (fun hf => hd i (.inl rfl) hf)
      have hA' := hA.fr (fun i hi => S.fr i (hA.lt i hi) (fun e' => nb i hi e')) (.refl _) (fun i hi => hA.nl i hi)
      refine hk _ _ _ _ (.inr ⟨b, t, pre, cs ++ es, rest.drop (xs.length * sz), _, k0, rfl, by rw [← List.append_assoc pre]; exact b1, hA', by rw [List.length_append]; exact hle, ?_, k5, fun hf => nb b hf rfl, rfl⟩) S2 ?_
      · rw [List.length_drop, List.length_append, show c - (l.length + xs.length) = c - l.length - xs.length by omega]; omega
      · rintro i (hi | hi | hi)
        · exact .inl (.inl hi)
        · exact .inl (.inr hi)
        · exact .inr (.inl hi)
    · refine .inr ⟨by omega, hb, hb0, ?_⟩
      refine hpush cs Fe ?_ k2 (fun _ h => .inr h) (by omega)
      have := k1.cells (a := ⟨b, pre.length, none⟩) rfl rfl (l.length * sz) 0 (by simp [hl])
      simp only [oldCells, this, Nat.add_zero]
      rw [List.append_assoc, List.drop_left, List.take_append_of_le_length (by omega), List.take_of_length_le (by omega)]
variable {K : Value → Heap → Prop} {bytes : Nat} {z : Array Value}
theorem Hold.app (O : Hold W h0 m0 h m Rs) (k : Nat) (hk : Rs[k]? = some (rR (aE T) A c l)) (hn : n = l.length) (hz : z.size = sz) (hs : Src sz E h m X xs) (hb0 : 0 < bytes) (g : ap bytes l xs = some l')
    (H : ∀ A' c' h', Hold W h0 m0 h' m (Rs.set k (rR (aE T) A' c' l')) → K (.slice A' l'.length c') h') : AppW e sz bytes z A n c X h K := by
  obtain ⟨F, h1, h2, h3⟩ := O.get k hk
  obtain ⟨es, s1, s2⟩ := hs
  refine rowP.app h1 O.s hn hz s1 (s2.csa (T := T)) .no' hb0 g fun A' c' h' F' q1 q2 q3 => H A' c' h' (h3 (R' := rR (aE T) A' c' l') q2 q1 fun b hb => ?_)
  rcases q3 b hb with hb | hb | hb
  · exact .inl hb
  · exact hb.elim
  · exact .inr hb
theorem Hold.app0 (O : Hold W h0 m0 h m Rs) (a : Asn α sz) (hn : n = 0) (hz : z.size = sz) (h1 : srcCells sz X h = some (xs.length, es)) (h2 : ∃ F, CsA a h m xs es F ∧ F = No) (hb0 : 0 < bytes) (g : ap bytes ([] : List α) xs = some l')
    (H : ∀ A' c' h', Ext h h' → Hold W h0 m0 h' m (Rs ++ [rR a A' c' l']) → K (.slice A' l'.length c') h') : AppW e sz bytes z A n 0 X h K := by
  obtain ⟨_, h2, rfl⟩ := h2
  refine rowP.app (a := a) (l := []) (F := No) (.inl ⟨rfl, rfl, rfl⟩) O.s hn hz h1 h2 .no' hb0 g fun A' c' h' F' q1 q2 q3 => H A' c' h' q2.ext (O.add q2 q1 fun b hb => ?_)
  rcases q3 b hb with hb | hb | hb
  · exact hb.elim
  · exact hb.elim
  · exact hb
theorem Hold.appE0 (O : Hold W h0 m0 h m Rs) (T : Tell sz E) (hn : n = 0) (hz : z.size = sz) (hs : Src sz E h m X xs) (hb0 : 0 < bytes) (g : ap bytes ([] : List α) xs = some l')
    (H : ∀ A' c' h', Ext h h' → Hold W h0 m0 h' m (Rs ++ [rR (aE T) A' c' l']) → K (.slice A' l'.length c') h') : AppW e sz bytes z A n 0 X h K := by
  obtain ⟨es, s1, s2⟩ := hs
  exact O.app0 (aE T) hn hz s1 ⟨No, s2.csa, rfl⟩ hb0 g H
end
end Go.Hw

end
section
set_option linter.unusedVariables false
namespace Go.Hw
open Go
section
variable {m h : Heap} {a : Addr} {cs ds : List Value} {N n k j : Nat} {v : Value}
theorem ldAn (s : Sub m h) (hc : cellsH m a 0 N = some cs) (hn : N = n) : ldv true n h a = some (.agg cs.toArray) := by subst hn; exact ldA s hc
theorem lset' {α : Type} {l l' : List α} {i : Nat} {y : α} (g : l.set i y = l') : l.length = l'.length := by rw [← g, List.length_set]
end
section
variable {α : Type} {sz : Nat} {a : Asn α sz} {h h' h0 m m' m0 : Heap} {A Ai : Option Addr} {c ci n k : Nat} {l li : List α} {ll ll' : List (List α)} {W : Foot} {x : Int} {y : α} {v : Value} {cs : List Value} {Rs Rs' : List Res} {b : Nat} {t : TypeId} {aa : Addr} {K : Heap → Prop}
variable {E : Heap → α → List Value → Prop} {T : Tell sz E}
theorem Hold.ret (O : Hold W h0 m0 h m Rs) (Q : Hold No h m h' m' Rs') : Hold W h0 m0 h' m' (Rs ++ Rs') := by
  obtain ⟨W', h1, h2⟩ := O.call []
  simp only [dropL, takeL] at h1 h2
  exact h2 ⟨⟨Q.S.up, Q.S.s, Q.S.size, fun b hb _ => Q.S.fr b hb (fun h => h), fun b hb hl => (Q.S.lv b hb hl).elim .inl (fun h => h.elim)⟩, by
    obtain ⟨F, k1, k2⟩ := Q.q
    exact ⟨F, k1, fun b hb => (k2 b hb).elim .inl (fun h => h.elim)⟩⟩
theorem vfs_nil : ∀ R ∈ ([] : List Res), R.vf := fun _ h => by cases h
theorem vfs_cons {R : Res} (v : R.vf) (w : ∀ R ∈ Rs, R.vf) : ∀ R' ∈ R :: Rs, R'.vf := fun R' h => by
  rcases List.mem_cons.1 h with rfl | h
  · exact v
  · exact w R' h
theorem Hold.retC (O : Hold W h0 m0 h m Rs) (Q : Hold No h m h' m' Rs') (v : ∀ R ∈ Rs', R.vf) : Hold W h0 m0 h' m (Rs ++ Rs') := by
  obtain ⟨m1, W', h1, h2, _, _, h5⟩ := O.lend [] []
  have s1 : Hold No h m h' m Rs' := by
    refine ⟨Q.S.unlend O.s (fun _ h => h.elim), ?_⟩
    obtain ⟨F, k1, k2⟩ := Q.q
    have T := Q.S.unlend O.s (fun _ h => h.elim)
    exact ⟨F, k1.vf v T.s (fun b hb hl => (k2 b hb).elim (fun h => by have := O.s.lt hl; omega) (fun h => h.elim)), k2⟩
  exact O.ret s1
theorem Hold.lend0 (O : Hold W h0 m0 h m Rs) (ls : List Nat) : ∃ m1, Sub m m1 ∧ Sub m1 h ∧ ZAll m1 (takeL Rs ls) ∧
    (∀ {h' m' : Heap} {Rs' : List Res}, Hold No h m1 h' m' Rs' → Hold W h0 m0 h' m' (dropL Rs ls ++ Rs')) ∧
    (∀ {h' m' : Heap} {Rs' : List Res}, Hold No h m1 h' m' Rs' → (∀ R ∈ Rs', R.vf) → Hold W h0 m0 h' m (Rs ++ Rs')) := by
  obtain ⟨m1, W', h1, h2, h3, h4, h5⟩ := O.lend [] ls
  simp only [dropL, takeL] at h2 h3 h4 h5
  have up : ∀ {h' m' : Heap} {Rs' : List Res}, Hold No h m1 h' m' Rs' → Hold W' h m1 h' m' Rs' := fun Q =>
    ⟨⟨Q.S.up, Q.S.s, Q.S.size, fun b hb _ => Q.S.fr b hb (fun h => h), fun b hb hl => (Q.S.lv b hb hl).elim .inl (fun h => h.elim)⟩, by
      obtain ⟨F, k1, k2⟩ := Q.q
      exact ⟨F, k1, fun b hb => (k2 b hb).elim .inl (fun h => h.elim)⟩⟩
  exact ⟨m1, h1, h2.s, h3, fun Q => h4 (up Q), fun Q v => h5 (up Q) v⟩
theorem Hold.stE {β : Type} {D : Heap → β → List Value → Prop} {z : β} (O : Hold W h0 m0 h m Rs) (k : Nat) (hk : Rs[k]? = some (rV b t cs)) (j : Nat) (hj : j < cs.length) (hf : Flat v) (e : D m z (cs.set j v)) (H : ∀ h' cs', D m z cs' → Hold W h0 m0 h' m (Rs.set k (rV b t cs')) → K h') : ∃ h', st1 h (Addr.add ⟨b, 0, none⟩ j) v = some h' ∧ K h' :=
  O.st k hk j hj hf fun h' O' => H h' _ e O'
theorem Hold.recell (O : Hold W h0 m0 h m Rs) (k : Nat) (hk : Rs[k]? = some (rV b t cs)) {cs' : List Value} (e : cs = cs') : Hold W h0 m0 h m (Rs.set k (rV b t cs')) := by
  subst e
  exact O.conv k hk (R' := rV b t cs) fun F hF => ⟨F, hF, fun _ h => h⟩
theorem nn_len {n : Nat} (h : cs.length = n + 1) : cs ≠ [] := fun e => by subst e; cases h
end
end Go.Hw
namespace Go.Hw
theorem lt_len {α : Type} {l : List α} {n k : Nat} (h : l.length = n) (hk : k < n) : k < l.length := by omega
end Go.Hw
namespace Go.Hw
open Go
class SetAt (k : Nat) (L : List Res) (r : Res) (out : outParam (List Res)) : Prop where
  eq : L.set k r = out
instance {a r : Res} {l : List Res} : SetAt 0 (a :: l) r (r :: l) := ⟨rfl⟩
instance {k : Nat} {a r : Res} {l o : List Res} [S : SetAt k l r o] : SetAt (k + 1) (a :: l) r (a :: o) := ⟨by rw [List.set_cons_succ, S.eq]⟩
class GetAt (k : Nat) (L : List Res) (r : outParam Res) : Prop where
  eq : L[k]? = some r
instance {a : Res} {l : List Res} : GetAt 0 (a :: l) a := ⟨rfl⟩
instance {k : Nat} {a r : Res} {l : List Res} [S : GetAt k l r] : GetAt (k + 1) (a :: l) r := ⟨by rw [List.getElem?_cons_succ, S.eq]⟩
class Apd (L M : List Res) (out : outParam (List Res)) : Prop where
  eq : L ++ M = out
instance {M : List Res} : Apd [] M M := ⟨rfl⟩
instance {a : Res} {l M o : List Res} [S : Apd l M o] : Apd (a :: l) M (a :: o) := ⟨by rw [List.cons_append, S.eq]⟩
class PickT (L : List Res) (is : List Nat) (T D : outParam (List Res)) : Prop where
  t : takeL L is = T
  d : dropL L is = D
instance {L : List Res} : PickT L [] [] L := ⟨rfl, rfl⟩
instance {L L2 T D : List Res} {i : Nat} {is : List Nat} {r : Res} [G : GetAt i L r] [S : SetAt i L rE L2] [P : PickT L2 is T D] : PickT L (i :: is) (r :: T) D := ⟨by simp only [takeL, G.eq, S.eq, P.t], by simp only [dropL, S.eq, P.d]⟩
class Nm (L : List Res) (out : outParam (List Res)) : Prop where
  eq : L = out
instance : Nm [] [] := ⟨rfl⟩
instance {a : Res} {l : List Res} : Nm (a :: l) (a :: l) := ⟨rfl⟩
instance {L L' o : List Res} {k : Nat} {r : Res} [N : Nm L L'] [S : SetAt k L' r o] : Nm (L.set k r) o := ⟨by rw [N.eq, S.eq]⟩
instance {L L' M M' o : List Res} [N : Nm L L'] [N' : Nm M M'] [S : Apd L' M' o] : Nm (L ++ M) o := ⟨by rw [N.eq, N'.eq, S.eq]⟩
instance {L L' T D : List Res} {is : List Nat} [N : Nm L L'] [S : PickT L' is T D] : Nm (takeL L is) T := ⟨by rw [N.eq, S.t]⟩
instance {L L' T D : List Res} {is : List Nat} [N : Nm L L'] [S : PickT L' is T D] : Nm (dropL L is) D := ⟨by rw [N.eq, S.d]⟩
theorem Hold.nm {W : Foot} {h0 m0 h m : Heap} {Rs Rs' : List Res} (O : Hold W h0 m0 h m Rs) [N : Nm Rs Rs'] : Hold W h0 m0 h m Rs' := N.eq ▸ O
end Go.Hw

end
section
namespace Go.Hw
open Go Go.RowKit
end Go.Hw

end
section
namespace Go.Hw
open Go
section
variable {α : Type} {sz : Nat} {E : Heap → α → List Value → Prop} {m m' h h' h0 m0 : Heap} {A : Option Addr} {l : List α} {c n : Nat} {W : Nat → Prop}
theorem gen_clear0 {P : Program} {t e : TypeId} {cap : Nat} {K : Value → Heap → Prop} (hu : P.underlying t = some (.slice e)) (hk : K (.tuple #[]) h) : Gen P (Builtin.clear_ #[t] 0 #[.slice A 0 cap]) h K := by
  unfold Gen Builtin.clear_
  refine hwp_bind (hwp_underlying hu ?_)
  cases A <;> exact hwp_bind (hwp_pure (hwp_pure hk))
theorem gen_clear {P : Program} {t e : TypeId} {a : Addr} {k cap : Nat} {z : Value} {h' : Heap} {K : Value → Heap → Prop} (hu : P.underlying t = some (.slice e)) (hz : zeroOf P e = some z) (hs : stH h a (Builtin.zeroCells z.cells (k + 1)).toList 0 = some h') (hk : K (.tuple #[]) h') : Gen P (Builtin.clear_ #[t] 0 #[.slice (some a) (k + 1) cap]) h K := by
  unfold Gen Builtin.clear_
  refine hwp_bind (hwp_underlying hu ?_)
  refine hwp_bind (s := zeroValue e) (hwp_zero hz ?_)
  refine hwp_bind (hwp_storeCells a _ 0 hs ?_)
  exact hwp_pure hk
end
end Go.Hw

end
section
set_option linter.unusedVariables false
namespace Go.Hw
open Go
theorem zcells_mk (z : Array Value) (n : Nat) : zcells z n = mkCells z (n * z.size) := rfl
section
variable {α : Type} {sz : Nat} {E : Heap → α → List Value → Prop} {T : Tell sz E} {m m' h h' h0 m0 : Heap} {A : Option Addr} {l l8 : List α} {c c2 n k : Nat} {W : Foot} {P : Program} {t e : TypeId} {zv : Value} {zp : α} {lo hi : Int} {Rs : List Res}
theorem zc_flat {z : Array Value} (hf : ∀ v ∈ z.toList, Flat v) (n : Nat) : ∀ v ∈ (zcells z n).toList, Flat v := by
  rw [zcells_mk, mkCells_flat rfl]
  intro v hv
  obtain ⟨l, h1, h2⟩ := List.mem_flatten.1 hv
  rw [(List.mem_replicate.1 h1).2] at h2
  exact hf v h2
theorem zc_cse {z : Array Value} (hE : E m zp z.toList) (T : Tell sz E) (n : Nat) : CsE sz E m (List.replicate n zp) (zcells z n).toList := by
  rw [zcells_mk, mkCells_flat rfl]
  exact CsE.rep hE (T.len _ _ _ hE) n
def clrL (l : List α) (lo hi : Int) (z : α) : List α := l.take lo.toNat ++ List.replicate (hi.toNat - lo.toNat) z ++ l.drop hi.toNat
theorem OS.clr (o : OS W h0 sz E h m A l c) (T : Tell sz E) (s : Sub m h) (h1 : 0 ≤ lo) (h2 : lo < hi) (h3 : hi ≤ (l.length : Int)) {z : Array Value} (hE : E m zp z.toList) : ∃ a h', sliceA A (Int.toNat lo) c sz = some a ∧ stH h a (zcells z (hi.toNat - lo.toNat)).toList 0 = some h' ∧ OS W h0 sz E h' m A (clrL l lo hi zp) c ∧ St (fp A c) h m h' m := by
  rcases o with ⟨rfl, rfl⟩ | ⟨b, t, pre, cs, rest, rfl, k1, k2, k3, k4, k5, k6⟩
  · simp at h3; omega
  have hl := k2.len
  have hzs : z.size = sz := by have := T.len _ _ _ hE; simpa using this
  have e2 : hi.toNat * sz ≤ l.length * sz := Nat.mul_le_mul_right _ (by omega)
  have e3 : lo.toNat * sz ≤ hi.toNat * sz := Nat.mul_le_mul_right _ (by omega)
  have hm : ¬ c = lo.toNat := by omega
  have hb : Blk h b ((pre ++ cs.take (lo.toNat * sz)) ++ (cs.take (hi.toNat * sz)).drop (lo.toNat * sz) ++ (cs.drop (hi.toNat * sz) ++ rest)) t := by
    have : (pre ++ cs.take (lo.toNat * sz)) ++ (cs.take (hi.toNat * sz)).drop (lo.toNat * sz) ++ (cs.drop (hi.toNat * sz) ++ rest) = pre ++ cs ++ rest := by
      have e4 : cs.take (lo.toNat * sz) = (cs.take (hi.toNat * sz)).take (lo.toNat * sz) := by rw [List.take_take, Nat.min_eq_left e3]
      rw [e4, List.append_assoc pre, List.take_append_drop, ← List.append_assoc, List.append_assoc pre, List.take_append_drop]
    rw [this]; exact k1
  have hzl : (zcells z (hi.toNat - lo.toNat)).toList.length = hi.toNat * sz - lo.toNat * sz := by rw [zc_len, hzs, Nat.sub_mul]
  obtain ⟨h', s1, b1, o1⟩ := Blk.stH (zcells z (hi.toNat - lo.toNat)).toList (a := (⟨b, pre.length, none⟩ : Addr).add (lo.toNat * sz)) (i := 0) hb (by rw [add_block]) (add_spot _ rfl)
    (by rw [add_off, List.length_append, List.length_take]; simp only [Nat.add_zero]; omega) (by rw [hzl, List.length_drop, List.length_take]; omega) (zc_flat (T.flat _ _ _ hE) _)
  refine ⟨_, h', ?_, s1, .inr ⟨b, t, pre, cs.take (lo.toNat * sz) ++ (zcells z (hi.toNat - lo.toNat)).toList ++ cs.drop (hi.toNat * sz), rest, rfl, ?_, ?_, ?_, ?_, k5, k6⟩, ?_⟩
  · unfold sliceA; rw [if_neg hm]; rfl
  · have : pre ++ (cs.take (lo.toNat * sz) ++ (zcells z (hi.toNat - lo.toNat)).toList ++ cs.drop (hi.toNat * sz)) ++ rest = (pre ++ cs.take (lo.toNat * sz)) ++ (zcells z (hi.toNat - lo.toNat)).toList ++ (cs.drop (hi.toNat * sz) ++ rest) := by simp only [List.append_assoc]
    rw [this]; exact b1
  · exact ((k2.take lo.toNat).append (zc_cse hE T _)).append (k2.drop hi.toNat)
  · unfold clrL; simp only [List.length_append, List.length_take, List.length_replicate, List.length_drop]; omega
  · have : (clrL l lo hi zp).length = l.length := by unfold clrL; simp only [List.length_append, List.length_take, List.length_replicate, List.length_drop]; omega
    rw [this]; exact k4
  · refine ⟨.refl _, fun i o1' j1 j2 => ?_, by rw [o1.1]; exact Nat.le_refl _, fun i hi hw => o1.2 i fun e => hw ⟨by omega, _, rfl, e.symm⟩, fun i _ hl => .inl hl⟩
    rw [o1.2 i (fun e => k6 (e ▸ ⟨o1', j1, j2⟩))]; exact s i o1' j1 j2
theorem clrL_len {l : List α} {lo hi : Int} {z : α} (h2 : lo ≤ hi) (h3 : hi ≤ (l.length : Int)) : l.length = (clrL l lo hi z).length := by
  unfold clrL; simp only [List.length_append, List.length_take, List.length_replicate, List.length_drop]; omega
theorem Hold.clr {K : Value → Heap → Prop} (O : Hold W h0 m0 h m Rs) (k : Nat) (hk : Rs[k]? = some (rR (aE T) A c l)) (g : Hw.sls l lo hi = some l8) (hu : P.underlying t = some (.slice e)) (hz : zeroOf P e = some zv) (hE : E m zp zv.cells.toList)
    (H : ∀ h', Hold W h0 m0 h' m (Rs.set k (rR (aE T) A c (clrL l lo hi zp))) → K (.tuple #[]) h') : Gen P (Builtin.clear_ #[t] 0 #[.slice (sliceA A (Int.toNat lo) c sz) l8.length c2]) h K := by
  obtain ⟨h1, h2, h3, h4, _⟩ := sls_e g
  by_cases he : lo = hi
  · subst he
    have : l8.length = 0 := by omega
    rw [this]
    refine gen_clear0 hu (H h ?_)
    have e : clrL l lo lo zp = l := by unfold clrL; simp
    rw [e]
    exact O.conv k hk (R' := rR (aE T) A c l) fun F hF => ⟨F, hF, fun _ h => h⟩
  · obtain ⟨a, h', k1, k2, k3, k4⟩ := (O.os k hk).clr T O.s h1 (by omega) h3 hE
    rw [k1]
    obtain ⟨j, hj⟩ : ∃ j, l8.length = j + 1 := ⟨l8.length - 1, by omega⟩
    rw [hj]
    refine gen_clear hu hz (h' := h') ?_ (H h' (O.setR k hk k3 k4))
    have : j + 1 = hi.toNat - lo.toNat := by omega
    rw [this]; exact k2
end
end Go.Hw
namespace Go.Hw
open Go
section
variable {α : Type} {sz n : Nat} {E : Heap → α → List Value → Prop} {T : Tell sz E} {m m' h h' h0 m0 : Heap} {A : Option Addr} {l l' : List α} {c k : Nat} {W : Foot} {x j : Int} {y y' : α} {v : Value} {Rs : List Res} {aa : Addr} {K : Heap → Prop} {cs : List Value}
theorem gi_put (g : gi l x = some y) (e : l.set (Int.toNat x) y' = l') : gi l' x = some y' := by
  subst e
  have h1 := gi_le g
  have h2 := gi_ltN g
  unfold gi
  rw [if_pos h1, List.getElem?_set_self h2]
end
end Go.Hw
namespace Go.Hw
open Go
end Go.Hw

end
section
set_option linter.unusedVariables false
namespace Go.Hw
open Go
end Go.Hw

end
section
set_option linter.unusedVariables false
namespace Go.Hw
open Go
section
variable {α : Type}
theorem clrL_take {l : List α} {i : Nat} {z : α} (h : i ≤ l.length) : (clrL l (i : Int) (l.length : Int) z).take i = l.take i := by
  unfold clrL
  rw [List.append_assoc, List.take_append_of_le_length (by rw [List.length_take]; simp; omega)]
  rw [show Int.toNat (i : Int) = i from rfl, List.take_take, Nat.min_self]
theorem deleteLoop_val {f g : List α → (α → Option Bool) → Int → Int → Option (List α)} {z : α}
    (hf : ∀ a p i j, f a p i j = if j < ((a.length : Nat) : Int) then (Option.bind (gi a j) fun y => Option.bind (p y) fun b => if b = true then g a p i j else Option.bind (gi a i) fun _ => Option.bind (some (List.set a (Int.toNat i) y)) fun l => g l p (IntKind.wrap .i64 (i + 1)) j) else Option.bind (sls a i ((a.length : Nat) : Int)) fun _ => Option.bind (sls (clrL a i ((a.length : Nat) : Int) z) 0 i) fun l => some l)
    (hg : ∀ a p i j, g a p i j = f a p i (IntKind.wrap .i64 (j + 1)))
    {p : α → Option Bool} (q : α → Bool) : ∀ (d : Nat) (a : List α) (i j : Nat), j + d = a.length → i ≤ j → a.length ≤ 4611686018427387904 → (∀ x ∈ a, p x = some (q x)) → f a p (i : Int) (j : Int) = some (a.take i ++ (a.drop j).filter fun x => !q x) := by
  intro d
  induction d with
  | zero =>
    intro a i j hj hi hl hp
    rw [hf, if_neg (by omega), sls_of (by omega) (by omega) (by omega), Option.bind_some]
    have hc : (clrL a (i : Int) ((a.length : Nat) : Int) z).length = a.length := (clrL_len (by omega) (by omega)).symm
    rw [sls_take rfl (by omega), Option.bind_some, clrL_take (by omega), List.drop_of_length_le (by omega)]
    simp
  | succ d ih =>
    intro a i j hj hi hl hp
    have hlt : j < a.length := by omega
    rw [hf, if_pos (by omega), gi_at hlt, Option.bind_some, hp _ (List.getElem_mem hlt), Option.bind_some]
    have hd : a.drop j = a[j] :: a.drop (j + 1) := List.drop_eq_getElem_cons hlt
    by_cases hq : q a[j] = true
    · rw [if_pos hq, hg, w_succ (by omega), ih a i (j + 1) (by omega) (by omega) hl hp, hd, List.filter_cons_of_neg (by simp [hq])]
    · rw [if_neg hq, gi_at (show i < a.length by omega), Option.bind_some, Option.bind_some, hg, w_succ (by omega), w_succ (by omega)]
      rw [show Int.toNat (i : Int) = i from rfl]
      rw [ih (a.set i a[j]) (i + 1) (j + 1) (by simp; omega) (by omega) (by simpa using hl) (fun x hx => by
        rcases List.mem_or_eq_of_mem_set hx with hx | hx
        · exact hp x hx
        · rw [hx]; exact hp _ (List.getElem_mem hlt))]
      rw [List.take_set, List.set_eq_take_append_cons_drop, if_pos (by rw [List.length_take]; omega), List.drop_set_of_lt (by omega), hd, List.filter_cons_of_pos (by simp [hq])]
      simp [List.take_take]
theorem deleteFunc_val {f g : List α → (α → Option Bool) → Int → Int → Option (List α)} {ix : List α → (α → Option Bool) → Option Int} {h : List α → (α → Option Bool) → Option (List α)} {z : α}
    (hf : ∀ a p i j, f a p i j = if j < ((a.length : Nat) : Int) then (Option.bind (gi a j) fun y => Option.bind (p y) fun b => if b = true then g a p i j else Option.bind (gi a i) fun _ => Option.bind (some (List.set a (Int.toNat i) y)) fun l => g l p (IntKind.wrap .i64 (i + 1)) j) else Option.bind (sls a i ((a.length : Nat) : Int)) fun _ => Option.bind (sls (clrL a i ((a.length : Nat) : Int) z) 0 i) fun l => some l)
    (hg : ∀ a p i j, g a p i j = f a p i (IntKind.wrap .i64 (j + 1)))
    {l : List α} {p : α → Option Bool} (q : α → Bool) (hp : ∀ x ∈ l, p x = some (q x)) (hl : l.length ≤ 4611686018427387904)
    (hi : ix l p = some (idxOf q l)) (hh : ∀ a p, h a p = Option.bind (ix a p) fun y => if y = -1 then some a else f a p y (IntKind.wrap .i64 (y + 1))) : h l p = some (l.filter fun x => !q x) := by
  rw [hh, hi, Option.bind_some]
  cases hx : l.findIdx? q with
  | none =>
    rw [show idxOf q l = -1 by simp [idxOf, hx], if_pos rfl]
    rw [List.findIdx?_eq_none_iff] at hx
    congr 1
    symm
    rw [List.filter_eq_self]
    intro x hx'
    simp [hx x hx']
  | some k =>
    rw [List.findIdx?_eq_some_iff_getElem] at hx
    obtain ⟨hlt, h1, h2⟩ := hx
    have hk : idxOf q l = (k : Int) := by
      have : l.findIdx? q = some k := by rw [List.findIdx?_eq_some_iff_getElem]; exact ⟨hlt, h1, h2⟩
      simp [idxOf, this]
    rw [hk, if_neg (by omega), w_succ (by omega), deleteLoop_val hf hg q (l.length - (k + 1)) l k (k + 1) (by omega) (by omega) hl hp]
    congr 1
    conv => rhs; rw [← List.take_append_drop k l, List.filter_append, List.drop_eq_getElem_cons hlt, List.filter_cons_of_neg (by simp [h1])]
    congr 1
    symm
    rw [List.filter_eq_self]
    intro x hx'
    rw [List.mem_take_iff_getElem] at hx'
    obtain ⟨j, hj, rfl⟩ := hx'
    have := h2 j (by omega)
    simp at this
    simp [this]
end
end Go.Hw

end
section
set_option linter.unusedVariables false
namespace Go.Hw
open Go Go.RowKit
end Go.Hw

end
section
set_option linter.unusedVariables false
namespace Go.Hw
open Go
end Go.Hw
namespace Go.Hw
open Go
end Go.Hw
namespace Go.Hw
open Go
end Go.Hw
namespace Go.Hw
open Go
end Go.Hw
namespace Go.Hw
open Go
end Go.Hw

end
section
set_option linter.unusedVariables false
namespace Go.Hw
open Go
end Go.Hw

end
section
namespace Go.Proofs.Ythnlhffpmlgmfab.Fw
open Go Go.Hw Go.Proofs
set_option linter.unusedVariables false
set_option synthInstance.maxHeartbeats 400000
set_option synthInstance.maxSize 1000
structure T_ward_Child where
  Id : Int
  When : Int
  Lives : Bool
def T_ward_Child.E (h : Heap) (x : T_ward_Child) (cs : List Value) : Prop := cs = [.int .i64 x.Id, .int .i64 x.When, .bool x.Lives]
theorem T_ward_Child.T : Tell 3 T_ward_Child.E := ⟨by rintro m h x _ s rfl; exact rfl, by rintro h x _ rfl; rfl, by rintro h x _ rfl; exact Flats.cons trivial (Flats.cons trivial (Flats.cons trivial Flats.nil))⟩
theorem T_ward_Child.keep {m h : Heap} {x : T_ward_Child} {cs : List Value} (e : T_ward_Child.E m x cs) : T_ward_Child.E h x cs := e
def T_ward_Child.Q (x : T_ward_Child) : Prop := (-9223372036854775808 ≤ x.Id ∧ x.Id ≤ 9223372036854775807) ∧ (-9223372036854775808 ≤ x.When ∧ x.When ≤ 9223372036854775807) ∧ True
theorem T_ward_Child.tells {H : Type} {enc : TypeId × Value → H} {W : World} : Tells enc Try.prog W 41 T_ward_Child.E T_ward_Child.Q := tells_map (tells_struct (t := 41) (fs := [(3, 0), (3, 1), (4, 2)]) (T := 3) (by kernel_rfl) (by kernel_rfl) (tf_cons (s := 1) (f := 3) (by kernel_rfl) (tells_i64 (t := 3) (by kernel_rfl)) (tf_cons (s := 1) (f := 3) (by kernel_rfl) (tells_i64 (t := 3) (by kernel_rfl)) (tf_cons (s := 1) (f := 4) (by kernel_rfl) (tells_bool (t := 4) (by kernel_rfl)) tf_nil)))) (by
  rintro ⟨x0, x1, x2, ⟨⟩⟩ cs e q
  obtain ⟨c0, r0, rfl, e0, c1, r1, rfl, e1, c2, r2, rfl, e2, eN⟩ := e
  obtain rfl : c0 = [.int .i64 x0] := e0
  obtain rfl : c1 = [.int .i64 x1] := e1
  obtain rfl : c2 = [.bool x2] := e2
  obtain rfl : r2 = [] := eN
  exact ⟨⟨x0, x1, x2⟩, rfl, q.1, q.2.1, q.2.2.1⟩)
structure T_ward_Ward where
  How : Int
  Most : Int
  Window : Int
  Children : (List T_ward_Child)
  Times : (List Int)
def T_ward_Ward.E (h : Heap) (x : T_ward_Ward) (cs : List Value) : Prop := ∃ A3 c3 A4 c4, cs = [.int .i64 x.How, .int .i64 x.Most, .int .i64 x.Window, .slice A3 x.Children.length c3, .slice A4 x.Times.length c4] ∧ x.Children.length ≤ c3 ∧ Rd 3 T_ward_Child.E h A3 x.Children ∧ x.Times.length ≤ c4 ∧ Rd 1 (eInt .i64) h A4 x.Times
theorem T_ward_Ward.T : Tell 5 T_ward_Ward.E := ⟨by rintro m h x _ s ⟨A3, c3, A4, c4, rfl, k3, r3, k4, r4⟩; exact ⟨_, _, _, _, rfl, k3, r3.sub T_ward_Child.T s, k4, r4.sub (tell_int .i64) s⟩, by rintro h x _ ⟨A3, c3, A4, c4, rfl, k3, r3, k4, r4⟩; rfl, by rintro h x _ ⟨A3, c3, A4, c4, rfl, k3, r3, k4, r4⟩; exact Flats.cons trivial (Flats.cons trivial (Flats.cons trivial (Flats.cons trivial (Flats.cons trivial Flats.nil))))⟩
def T_ward_Ward.Q (x : T_ward_Ward) : Prop := (-9223372036854775808 ≤ x.How ∧ x.How ≤ 9223372036854775807) ∧ (-9223372036854775808 ≤ x.Most ∧ x.Most ≤ 9223372036854775807) ∧ (-9223372036854775808 ≤ x.Window ∧ x.Window ≤ 9223372036854775807) ∧ (x.Children.length * 24 ≤ 140737488351232 ∧ ∀ a ∈ x.Children, (T_ward_Child.Q a)) ∧ (x.Times.length * 8 ≤ 140737488351232 ∧ ∀ a ∈ x.Times, (-9223372036854775808 ≤ a ∧ a ≤ 9223372036854775807))
theorem T_ward_Ward.tells {H : Type} {enc : TypeId × Value → H} {W : World} : Tells enc Try.prog W 25 T_ward_Ward.E T_ward_Ward.Q := tells_map (tells_struct (t := 25) (fs := [(3, 0), (3, 1), (3, 2), (22, 3), (23, 4)]) (T := 5) (by kernel_rfl) (by kernel_rfl) (tf_cons (s := 1) (f := 3) (by kernel_rfl) (tells_i64 (t := 3) (by kernel_rfl)) (tf_cons (s := 1) (f := 3) (by kernel_rfl) (tells_i64 (t := 3) (by kernel_rfl)) (tf_cons (s := 1) (f := 3) (by kernel_rfl) (tells_i64 (t := 3) (by kernel_rfl)) (tf_cons (s := 1) (f := 22) (by kernel_rfl) (tells_sliceL (t := 22) (e := 41) (sz := 3) (B := 24) (by kernel_rfl) (by kernel_rfl) (by kernel_rfl) T_ward_Child.tells) (tf_cons (s := 1) (f := 23) (by kernel_rfl) (tells_sliceL (t := 23) (e := 3) (sz := 1) (B := 8) (by kernel_rfl) (by kernel_rfl) (by kernel_rfl) (tells_i64 (t := 3) (by kernel_rfl))) tf_nil)))))) (by
  rintro ⟨x0, x1, x2, x3, x4, ⟨⟩⟩ cs e q
  obtain ⟨c0, r0, rfl, e0, c1, r1, rfl, e1, c2, r2, rfl, e2, c3, r3, rfl, e3, c4, r4, rfl, e4, eN⟩ := e
  obtain rfl : c0 = [.int .i64 x0] := e0
  obtain rfl : c1 = [.int .i64 x1] := e1
  obtain rfl : c2 = [.int .i64 x2] := e2
  obtain ⟨A3, k3, rfl, l3, R3⟩ := e3
  obtain ⟨A4, k4, rfl, l4, R4⟩ := e4
  obtain rfl : r4 = [] := eN
  exact ⟨⟨x0, x1, x2, x3, x4⟩, ⟨_, _, _, _, rfl, l3, R3, l4, R4⟩, q.1, q.2.1, q.2.2.1, q.2.2.2.1, q.2.2.2.2.1⟩)
structure T_ward_Plan where
  Stop : (List Int)
  Start : (List Int)
  GaveUp : Bool
def T_ward_Plan.E (h : Heap) (x : T_ward_Plan) (cs : List Value) : Prop := ∃ A0 c0 A1 c1, cs = [.slice A0 x.Stop.length c0, .slice A1 x.Start.length c1, .bool x.GaveUp] ∧ x.Stop.length ≤ c0 ∧ Rd 1 (eInt .i64) h A0 x.Stop ∧ x.Start.length ≤ c1 ∧ Rd 1 (eInt .i64) h A1 x.Start
theorem T_ward_Plan.T : Tell 3 T_ward_Plan.E := ⟨by rintro m h x _ s ⟨A0, c0, A1, c1, rfl, k0, r0, k1, r1⟩; exact ⟨_, _, _, _, rfl, k0, r0.sub (tell_int .i64) s, k1, r1.sub (tell_int .i64) s⟩, by rintro h x _ ⟨A0, c0, A1, c1, rfl, k0, r0, k1, r1⟩; rfl, by rintro h x _ ⟨A0, c0, A1, c1, rfl, k0, r0, k1, r1⟩; exact Flats.cons trivial (Flats.cons trivial (Flats.cons trivial Flats.nil))⟩
structure T_ward_Fall where
  Id : Int
  Failed : Bool
  Now : Int
def T_ward_Fall.E (h : Heap) (x : T_ward_Fall) (cs : List Value) : Prop := cs = [.int .i64 x.Id, .bool x.Failed, .int .i64 x.Now]
theorem T_ward_Fall.T : Tell 3 T_ward_Fall.E := ⟨by rintro m h x _ s rfl; exact rfl, by rintro h x _ rfl; rfl, by rintro h x _ rfl; exact Flats.cons trivial (Flats.cons trivial (Flats.cons trivial Flats.nil))⟩
def T_ward_Fall.Q (x : T_ward_Fall) : Prop := (-9223372036854775808 ≤ x.Id ∧ x.Id ≤ 9223372036854775807) ∧ True ∧ (-9223372036854775808 ≤ x.Now ∧ x.Now ≤ 9223372036854775807)
theorem T_ward_Fall.tells {H : Type} {enc : TypeId × Value → H} {W : World} : Tells enc Try.prog W 45 T_ward_Fall.E T_ward_Fall.Q := tells_map (tells_struct (t := 45) (fs := [(3, 0), (4, 1), (3, 2)]) (T := 3) (by kernel_rfl) (by kernel_rfl) (tf_cons (s := 1) (f := 3) (by kernel_rfl) (tells_i64 (t := 3) (by kernel_rfl)) (tf_cons (s := 1) (f := 4) (by kernel_rfl) (tells_bool (t := 4) (by kernel_rfl)) (tf_cons (s := 1) (f := 3) (by kernel_rfl) (tells_i64 (t := 3) (by kernel_rfl)) tf_nil)))) (by
  rintro ⟨x0, x1, x2, ⟨⟩⟩ cs e q
  obtain ⟨c0, r0, rfl, e0, c1, r1, rfl, e1, c2, r2, rfl, e2, eN⟩ := e
  obtain rfl : c0 = [.int .i64 x0] := e0
  obtain rfl : c1 = [.bool x1] := e1
  obtain rfl : c2 = [.int .i64 x2] := e2
  obtain rfl : r2 = [] := eN
  exact ⟨⟨x0, x1, x2⟩, rfl, q.1, q.2.1, q.2.2.1⟩)
theorem T_ward_Child.g0 {m : Heap} {x : T_ward_Child} {cs : List Value} (e : T_ward_Child.E m x cs) : cs[0]? = some (Value.int .i64 x.Id) := by
  obtain rfl := e
  exact rfl
theorem T_ward_Ward.g0 {m : Heap} {x : T_ward_Ward} {cs : List Value} (e : T_ward_Ward.E m x cs) : cs[0]? = some (Value.int .i64 x.How) := by
  obtain ⟨A3, c3, A4, c4, rfl, k3, r3, k4, r4⟩ := e
  exact rfl
theorem T_ward_Ward.g1 {m : Heap} {x : T_ward_Ward} {cs : List Value} (e : T_ward_Ward.E m x cs) : cs[1]? = some (Value.int .i64 x.Most) := by
  obtain ⟨A3, c3, A4, c4, rfl, k3, r3, k4, r4⟩ := e
  exact rfl
theorem T_ward_Ward.g2 {m : Heap} {x : T_ward_Ward} {cs : List Value} (e : T_ward_Ward.E m x cs) : cs[2]? = some (Value.int .i64 x.Window) := by
  obtain ⟨A3, c3, A4, c4, rfl, k3, r3, k4, r4⟩ := e
  exact rfl
theorem T_ward_Ward.g3 {m : Heap} {x : T_ward_Ward} {cs : List Value} (e : T_ward_Ward.E m x cs) : ∃ A c, cs[3]? = some (.slice A (List.length x.Children) c) ∧ List.length x.Children ≤ c ∧ Rd 3 T_ward_Child.E m A x.Children := by
  obtain ⟨A3, c3, A4, c4, rfl, k3, r3, k4, r4⟩ := e
  exact ⟨_, _, rfl, k3, r3⟩
theorem T_ward_Ward.g4 {m : Heap} {x : T_ward_Ward} {cs : List Value} (e : T_ward_Ward.E m x cs) : ∃ A c, cs[4]? = some (.slice A (List.length x.Times) c) ∧ List.length x.Times ≤ c ∧ Rd 1 (eInt .i64) m A x.Times := by
  obtain ⟨A3, c3, A4, c4, rfl, k3, r3, k4, r4⟩ := e
  exact ⟨_, _, rfl, k4, r4⟩
theorem T_ward_Child.g1 {m : Heap} {x : T_ward_Child} {cs : List Value} (e : T_ward_Child.E m x cs) : cs[1]? = some (Value.int .i64 x.When) := by
  obtain rfl := e
  exact rfl
theorem T_ward_Child.g2 {m : Heap} {x : T_ward_Child} {cs : List Value} (e : T_ward_Child.E m x cs) : cs[2]? = some (Value.bool x.Lives) := by
  obtain rfl := e
  exact rfl
theorem T_ward_Child.s2 {m : Heap} {x : T_ward_Child} {cs : List Value} (e : T_ward_Child.E m x cs) (v : Bool) : T_ward_Child.E m { x with Lives := v } (cs.set 2 (Value.bool v)) := by
  obtain rfl := e
  exact rfl
theorem T_ward_Plan.g0 {m : Heap} {x : T_ward_Plan} {cs : List Value} (e : T_ward_Plan.E m x cs) : ∃ A c, cs[0]? = some (.slice A (List.length x.Stop) c) ∧ List.length x.Stop ≤ c ∧ Rd 1 (eInt .i64) m A x.Stop := by
  obtain ⟨A0, c0, A1, c1, rfl, k0, r0, k1, r1⟩ := e
  exact ⟨_, _, rfl, k0, r0⟩
theorem T_ward_Plan.g1 {m : Heap} {x : T_ward_Plan} {cs : List Value} (e : T_ward_Plan.E m x cs) : ∃ A c, cs[1]? = some (.slice A (List.length x.Start) c) ∧ List.length x.Start ≤ c ∧ Rd 1 (eInt .i64) m A x.Start := by
  obtain ⟨A0, c0, A1, c1, rfl, k0, r0, k1, r1⟩ := e
  exact ⟨_, _, rfl, k1, r1⟩
theorem T_ward_Fall.g0 {m : Heap} {x : T_ward_Fall} {cs : List Value} (e : T_ward_Fall.E m x cs) : cs[0]? = some (Value.int .i64 x.Id) := by
  obtain rfl := e
  exact rfl
theorem T_ward_Fall.g1 {m : Heap} {x : T_ward_Fall} {cs : List Value} (e : T_ward_Fall.E m x cs) : cs[1]? = some (Value.bool x.Failed) := by
  obtain rfl := e
  exact rfl
theorem T_ward_Fall.g2 {m : Heap} {x : T_ward_Fall} {cs : List Value} (e : T_ward_Fall.E m x cs) : cs[2]? = some (Value.int .i64 x.Now) := by
  obtain rfl := e
  exact rfl
theorem T_ward_Plan.g2 {m : Heap} {x : T_ward_Plan} {cs : List Value} (e : T_ward_Plan.E m x cs) : cs[2]? = some (Value.bool x.GaveUp) := by
  obtain ⟨A0, c0, A1, c1, rfl, k0, r0, k1, r1⟩ := e
  exact rfl
def slices_IndexFunc_54.post (W : Nat → Prop) (h0 m0 : Heap) (r : Int) (v : Value) (h : Heap) : Prop := ∃ m , Hold W h0 m0 h m [] ∧ v = .int .i64 r
inductive slices_IndexFunc_54.l0_k.Pt where
  | l0 (a_0 : List T_ward_Child) (p_1 : T_ward_Child → Option Bool) (x_7 : Int) (x_8 : Int)
noncomputable def slices_IndexFunc_54.l0_k.body (go : (p : slices_IndexFunc_54.l0_k.Pt) → Option (Int)) : (p : slices_IndexFunc_54.l0_k.Pt) → Option (Int)
  | .l0 a_0 p_1 x_7 x_8 => if x_8 < x_7 then (Option.bind (gi a_0 x_8) fun y1 => Option.bind (p_1 y1) fun y8 => if y8 = true then (some (x_8)) else ((go (.l0 a_0 p_1 x_7 (IntKind.wrap .i64 (x_8 + (1 : Int))))))) else (some ((-1 : Int)))
theorem slices_IndexFunc_54.l0_k.mono : MonoF (β := fun _ => (Int)) slices_IndexFunc_54.l0_k.body := fun f g hfg p => match p with
  | .l0 a_0 p_1 x_7 x_8 => LeO.ite (LeO.bind (LeO.refl _) fun y1 => LeO.bind (LeO.refl _) fun y8 => LeO.ite (LeO.refl _) ((hfg _))) (LeO.refl _)
noncomputable def slices_IndexFunc_54.l0_k.go (p : slices_IndexFunc_54.l0_k.Pt) : Option (Int) := fixF (β := fun _ => (Int)) slices_IndexFunc_54.l0_k.body p
noncomputable def slices_IndexFunc_54.l0 (a_0 : List T_ward_Child) (p_1 : T_ward_Child → Option Bool) (x_7 : Int) (x_8 : Int) : Option (Int) := slices_IndexFunc_54.l0_k.go (.l0 a_0 p_1 x_7 x_8)
theorem slices_IndexFunc_54.l0_eq (a_0 : List T_ward_Child) (p_1 : T_ward_Child → Option Bool) (x_7 : Int) (x_8 : Int) : slices_IndexFunc_54.l0 a_0 p_1 x_7 x_8 = if x_8 < x_7 then (Option.bind (gi a_0 x_8) fun y1 => Option.bind (p_1 y1) fun y8 => if y8 = true then (some (x_8)) else ((slices_IndexFunc_54.l0 a_0 p_1 x_7 (IntKind.wrap .i64 (x_8 + (1 : Int)))))) else (some ((-1 : Int))) := fixF_eq slices_IndexFunc_54.l0_k.mono _
def slices_IndexFunc_54.l0_k.I : (p : slices_IndexFunc_54.l0_k.Pt) → (Int) → Prop
  | .l0 a_0 p_1 x_7 x_8, r => ∀ (W : Nat → Prop) (h0 m0 h m : Heap) (A_0 : Option Addr) (n_0 c_0 : Nat) (fv_1 : Value) (O : Hold W h0 m0 h m []) (ne_0 : n_0 = List.length a_0) (k_0 : List.length a_0 ≤ c_0) (r_0 : Rd 3 T_ward_Child.E m A_0 a_0) (f_1 : ∀ h' m', Sub m0 m' → Sub m' h' → ∀ (y0 : T_ward_Child) (cs0 : List Value) (_ : T_ward_Child.E m' y0 cs0) (r : Bool), p_1 y0 = some r → CallF Try.prog fv_1 [.agg cs0.toArray] h' (fun v h'' => v = .bool r ∧ Ext h' h'')), f54.l0 (slices_IndexFunc_54.post W h0 m0 r) A_0 n_0 c_0 fv_1 x_7 x_8 h
set_option maxRecDepth 100000 in
theorem slices_IndexFunc_54.l0_k.step_l0 (go : (p : slices_IndexFunc_54.l0_k.Pt) → Option (Int)) (ih : ∀ p r, go p = some r → slices_IndexFunc_54.l0_k.I p r) (a_0 : List T_ward_Child) (p_1 : T_ward_Child → Option Bool) (x_7 : Int) (x_8 : Int) (r : Int) (e : slices_IndexFunc_54.l0_k.body go (.l0 a_0 p_1 x_7 x_8) = some r) : slices_IndexFunc_54.l0_k.I (.l0 a_0 p_1 x_7 x_8) r := by
  unfold slices_IndexFunc_54.l0_k.body at e
  intro W h0 m0 h m A_0 n_0 c_0 fv_1 O ne_0 k_0 r_0 f_1
  subst ne_0
  refine f54.l0_in ?_
  unfold f54.l0T
  refine split_dec_e e (fun c14 e => ?_) (fun c14 e => ?_)
  · obtain ⟨y1, g2, e⟩ := bind_e e
    refine r_0.addr rfl g2 fun a3 cs4 ha5 hc6 he7 => ?_
    refine ⟨_, ldAn O.s hc6 rfl, ?_⟩
    obtain ⟨y8, g9, e⟩ := bind_e e
    refine CallF.mono (f_1 _ _ O.up O.s _ _ he7 _ g9) ?_
    rintro _ h10 ⟨rfl, x11⟩
    have O12 := O.ext x11
    refine ⟨_, rfl, ?_⟩
    refine split_any_e e (fun c13 e => ?_) (fun c13 e => ?_)
    · cases e
      exact ⟨_, O12.pick [], rfl⟩
    · exact (ih _ _ e) _ _ _ _ _ _ _ _ _ (O12.pick []).nm rfl k_0 r_0 f_1
  · cases e
    exact ⟨_, O.pick [], rfl⟩
theorem slices_IndexFunc_54.l0_k.all {p : slices_IndexFunc_54.l0_k.Pt} {r : (Int)} (e : slices_IndexFunc_54.l0_k.go p = some r) : slices_IndexFunc_54.l0_k.I p r := fixF_ind (β := fun _ => (Int)) slices_IndexFunc_54.l0_k.mono (I := slices_IndexFunc_54.l0_k.I) (fun go ih p r e => match p with
  | .l0 a_0 p_1 x_7 x_8 => slices_IndexFunc_54.l0_k.step_l0 go ih a_0 p_1 x_7 x_8 r e
  ) e
theorem slices_IndexFunc_54.l0.walk {W : Nat → Prop} {h0 m0 h m : Heap} {A_0 : Option Addr} {n_0 c_0 : Nat} {fv_1 : Value} {a_0 : List T_ward_Child} {p_1 : T_ward_Child → Option Bool} {x_7 : Int} {x_8 : Int} (O : Hold W h0 m0 h m []) (ne_0 : n_0 = List.length a_0) (k_0 : List.length a_0 ≤ c_0) (r_0 : Rd 3 T_ward_Child.E m A_0 a_0) (f_1 : ∀ h' m', Sub m0 m' → Sub m' h' → ∀ (y0 : T_ward_Child) (cs0 : List Value) (_ : T_ward_Child.E m' y0 cs0) (r : Bool), p_1 y0 = some r → CallF Try.prog fv_1 [.agg cs0.toArray] h' (fun v h'' => v = .bool r ∧ Ext h' h'')) {r : Int} (e : slices_IndexFunc_54.l0 a_0 p_1 x_7 x_8 = some r) : f54.l0 (slices_IndexFunc_54.post W h0 m0 r) A_0 n_0 c_0 fv_1 x_7 x_8 h := slices_IndexFunc_54.l0_k.all (p := .l0 a_0 p_1 x_7 x_8) e W h0 m0 h m A_0 n_0 c_0 fv_1 O ne_0 k_0 r_0 f_1
noncomputable def slices_IndexFunc_54 (a_0 : List T_ward_Child) (p_1 : T_ward_Child → Option Bool) : Option (Int) :=
  (slices_IndexFunc_54.l0 a_0 p_1 (((List.length a_0) : Nat) : Int) (0 : Int))
set_option maxRecDepth 100000 in
theorem slices_IndexFunc_54.walk {W : Nat → Prop} {h m : Heap} {A_0 : Option Addr} {n_0 c_0 : Nat} {fv_1 : Value} {a_0 : List T_ward_Child} {p_1 : T_ward_Child → Option Bool} (O : Hold W h m h m []) (ne_0 : n_0 = List.length a_0) (k_0 : List.length a_0 ≤ c_0) (r_0 : Rd 3 T_ward_Child.E m A_0 a_0) (f_1 : ∀ h' m', Sub m m' → Sub m' h' → ∀ (y0 : T_ward_Child) (cs0 : List Value) (_ : T_ward_Child.E m' y0 cs0) (r : Bool), p_1 y0 = some r → CallF Try.prog fv_1 [.agg cs0.toArray] h' (fun v h'' => v = .bool r ∧ Ext h' h'')) {r : Int} (e : slices_IndexFunc_54 a_0 p_1 = some r) : Run Try.prog 54 #[Value.slice A_0 n_0 c_0, fv_1] h (slices_IndexFunc_54.post W h m r) := by
  unfold slices_IndexFunc_54 at e
  subst ne_0
  refine f54.run ?_
  unfold f54.runT
  exact slices_IndexFunc_54.l0.walk (O.pick []).nm rfl k_0 r_0 f_1 e
theorem slices_IndexFunc_54.val {l : List T_ward_Child} {p : T_ward_Child → Option Bool} (q : T_ward_Child → Bool) (hp : ∀ x ∈ l, p x = some (q x)) (hl : l.length ≤ 4611686018427387904) : slices_IndexFunc_54 l p = some (idxOf q l) := find_val (fun a p n i => slices_IndexFunc_54.l0_eq a p n i) q hp hl
def ward_find_1.post (W : Nat → Prop) (h0 m0 : Heap) (r : Bool) (v : Value) (h : Heap) : Prop := ∃ m , Hold W h0 m0 h m [] ∧ v = .bool r
noncomputable def ward_find_1 (y_0 : T_ward_Child) (y_1 : Int) : Option (Bool) :=
  some ((y_0.Id == y_1))
set_option maxRecDepth 100000 in
theorem ward_find_1.walk {W : Nat → Prop} {h m : Heap} {cs_0 : List Value} {bk_1 : Nat} {y_0 : T_ward_Child} {y_1 : Int} (O : Hold W h m h m []) (e_0 : T_ward_Child.E m y_0 cs_0) (v_1 : VB (eInt .i64) m bk_1 y_1) {r : Bool} (e : ward_find_1 y_0 y_1 = some r) : Run Try.prog 85 #[Value.agg cs_0.toArray, Value.pointer (some ⟨bk_1, 0, none⟩)] h (ward_find_1.post W h m r) := by
  unfold ward_find_1 at e
  obtain ⟨cs_1, t_1, hb_1, nn_1, e_1⟩ := id v_1
  obtain rfl : cs_1 = [(Value.int .i64 y_1)] := e_1
  refine f85.run ?_
  unfold f85.runT
  refine O.new fun h1 x2 O3 => ?_
  refine ⟨_, ld0 (Sub.refl _) (O3.all 0 rfl) (T_ward_Child.g0 e_0), _, rfl, ?_⟩
  refine ⟨_, ld0 O3.s (Blk.all' hb_1) rfl, _, rfl, ?_⟩
  have O5 := O3.nm
  cases e
  exact ⟨_, O5.pick [], rfl⟩
def ward_find.post (W : Nat → Prop) (h0 m0 : Heap) (r : Int) (v : Value) (h : Heap) : Prop := ∃ m , Hold W h0 m0 h m [] ∧ v = .int .i64 r
noncomputable def ward_find (a_0 : List T_ward_Child) (x_1 : Int) : Option (Int) :=
  Option.bind (slices_IndexFunc_54 a_0 (fun z18 => ward_find_1 z18 x_1)) fun y5 => some (y5)
set_option maxRecDepth 100000 in
theorem ward_find.walk {W : Nat → Prop} {h m : Heap} {A_0 : Option Addr} {n_0 c_0 : Nat} {a_0 : List T_ward_Child} {x_1 : Int} (O : Hold W h m h m []) (ne_0 : n_0 = List.length a_0) (k_0 : List.length a_0 ≤ c_0) (r_0 : Rd 3 T_ward_Child.E m A_0 a_0) {r : Int} (e : ward_find a_0 x_1 = some r) : Run Try.prog 49 #[Value.slice A_0 n_0 c_0, Value.int .i64 x_1] h (ward_find.post W h m r) := by
  unfold ward_find at e
  subst ne_0
  refine f49.run ?_
  unfold f49.runT
  refine O.new fun h1 x2 O3 => ?_
  obtain ⟨y5, g6, e⟩ := bind_e e
  have O11 := O3.nm
  obtain ⟨m12, u13, s17, ⟨hb16, _⟩, B14, C15⟩ := O11.lend0 [0]
  refine (slices_IndexFunc_54.walk (Hold.start (W := No) s17) rfl k_0 (r_0.sub T_ward_Child.T u13) (fun h19 m20 u21 s22 y25 cs25 he25 r23 e24 => CallF.of [Value.agg cs25.toArray, Value.pointer (some ⟨(Array.size h), 0, none⟩)] f85.ok rfl ((ward_find_1.walk (Hold.start (W := No) s22) he25 (VB.sub (show VB (eInt .i64) _ _ _ from ⟨_, _, hb16, nn, rfl⟩) (tell_int .i64) u21) e24).mono (fun _ _ h => let ⟨_, t, e⟩ := h; ⟨e, t.S.ext⟩))) g6).mono ?_
  rintro _ h7 ⟨m8, Q9, rfl⟩
  have O26 := Hold.nm (C15 Q9 vfs_nil)
  refine ⟨_, rfl, ?_⟩
  cases e
  exact ⟨_, O26.pick [], rfl⟩
def ward_Check.post (W : Nat → Prop) (h0 m0 : Heap) (r : Int) (v : Value) (h : Heap) : Prop := ∃ m , Hold W h0 m0 h m [] ∧ v = .int .i64 r
inductive ward_Check.l1_k.Pt where
  | l1 (y_1 : T_ward_Ward) (a_75 : List Int) (x_76 : Int) (x_77 : Int)
noncomputable def ward_Check.l1_k.body (go : (p : ward_Check.l1_k.Pt) → Option (Int)) : (p : ward_Check.l1_k.Pt) → Option (Int)
  | .l1 y_1 a_75 x_76 x_77 => if x_77 < x_76 then (Option.bind (gi a_75 x_77) fun y1 => if y1 < (0 : Int) then (some ((21 : Int))) else (if y1 > (1099511627776 : Int) then (some ((21 : Int))) else (if x_77 > (0 : Int) then (Option.bind (gi y_1.Times (IntKind.wrap .i64 (x_77 - (1 : Int)))) fun y13 => if y13 > y1 then (some ((21 : Int))) else ((go (.l1 y_1 a_75 x_76 (IntKind.wrap .i64 (x_77 + (1 : Int))))))) else ((go (.l1 y_1 a_75 x_76 (IntKind.wrap .i64 (x_77 + (1 : Int))))))))) else (some ((0 : Int)))
theorem ward_Check.l1_k.mono : MonoF (β := fun _ => (Int)) ward_Check.l1_k.body := fun f g hfg p => match p with
  | .l1 y_1 a_75 x_76 x_77 => LeO.ite (LeO.bind (LeO.refl _) fun y1 => LeO.ite (LeO.refl _) (LeO.ite (LeO.refl _) (LeO.ite (LeO.bind (LeO.refl _) fun y13 => LeO.ite (LeO.refl _) ((hfg _))) ((hfg _))))) (LeO.refl _)
noncomputable def ward_Check.l1_k.go (p : ward_Check.l1_k.Pt) : Option (Int) := fixF (β := fun _ => (Int)) ward_Check.l1_k.body p
noncomputable def ward_Check.l1 (y_1 : T_ward_Ward) (a_75 : List Int) (x_76 : Int) (x_77 : Int) : Option (Int) := ward_Check.l1_k.go (.l1 y_1 a_75 x_76 x_77)
theorem ward_Check.l1_eq (y_1 : T_ward_Ward) (a_75 : List Int) (x_76 : Int) (x_77 : Int) : ward_Check.l1 y_1 a_75 x_76 x_77 = if x_77 < x_76 then (Option.bind (gi a_75 x_77) fun y1 => if y1 < (0 : Int) then (some ((21 : Int))) else (if y1 > (1099511627776 : Int) then (some ((21 : Int))) else (if x_77 > (0 : Int) then (Option.bind (gi y_1.Times (IntKind.wrap .i64 (x_77 - (1 : Int)))) fun y13 => if y13 > y1 then (some ((21 : Int))) else ((ward_Check.l1 y_1 a_75 x_76 (IntKind.wrap .i64 (x_77 + (1 : Int)))))) else ((ward_Check.l1 y_1 a_75 x_76 (IntKind.wrap .i64 (x_77 + (1 : Int)))))))) else (some ((0 : Int))) := fixF_eq ward_Check.l1_k.mono _
def ward_Check.l1_k.I : (p : ward_Check.l1_k.Pt) → (Int) → Prop
  | .l1 y_1 a_75 x_76 x_77, r => ∀ (W : Nat → Prop) (h0 m0 h m : Heap) (bk_1 : Nat) (cs_1 : List Value) (A_75 : Option Addr) (n_75 c_75 : Nat) (O : Hold W h0 m0 h m [rV bk_1 25 cs_1]) (e_1 : T_ward_Ward.E m y_1 cs_1) (ne_75 : n_75 = List.length a_75) (k_75 : List.length a_75 ≤ c_75) (r_75 : Rd 1 (eInt .i64) m A_75 a_75), f11.l1 (ward_Check.post W h0 m0 r) (⟨bk_1, 0, none⟩ : Addr) A_75 n_75 c_75 x_76 x_77 h
set_option maxRecDepth 100000 in
theorem ward_Check.l1_k.step_l1 (go : (p : ward_Check.l1_k.Pt) → Option (Int)) (ih : ∀ p r, go p = some r → ward_Check.l1_k.I p r) (y_1 : T_ward_Ward) (a_75 : List Int) (x_76 : Int) (x_77 : Int) (r : Int) (e : ward_Check.l1_k.body go (.l1 y_1 a_75 x_76 x_77) = some r) : ward_Check.l1_k.I (.l1 y_1 a_75 x_76 x_77) r := by
  unfold ward_Check.l1_k.body at e
  intro W h0 m0 h m bk_1 cs_1 A_75 n_75 c_75 O e_1 ne_75 k_75 r_75
  subst ne_75
  refine f11.l1_in ?_
  unfold f11.l1T
  refine split_dec_e e (fun c24 e => ?_) (fun c24 e => ?_)
  · obtain ⟨y1, g2, e⟩ := bind_e e
    refine r_75.addr rfl g2 fun a3 cs4 ha5 hc6 he7 => ?_
    obtain rfl : cs4 = [(Value.int .i64 y1)] := he7
    refine ⟨_, ld0 O.s hc6 rfl, _, rfl, ?_⟩
    refine split_dec_e e (fun c23 e => ?_) (fun c23 e => ?_)
    · cases e
      exact ⟨_, O.pick [], rfl⟩
    · refine split_dec_e e (fun c22 e => ?_) (fun c22 e => ?_)
      · cases e
        exact ⟨_, O.pick [], rfl⟩
      · refine split_dec_e e (fun c21 e => ?_) (fun c21 e => ?_)
        · obtain ⟨A8, c9, q10, k11, r12⟩ := T_ward_Ward.g4 e_1
          refine ⟨_, ldk (k := 4) (Sub.refl _) (O.all 0 rfl) q10, _, _, _, rfl, ?_⟩
          obtain ⟨y13, g14, e⟩ := bind_e e
          refine r12.addr rfl g14 fun a15 cs16 ha17 hc18 he19 => ?_
          obtain rfl : cs16 = [(Value.int .i64 y13)] := he19
          refine ⟨_, ld0 O.s hc18 rfl, _, rfl, ?_⟩
          refine split_dec_e e (fun c20 e => ?_) (fun c20 e => ?_)
          · cases e
            exact ⟨_, O.pick [], rfl⟩
          · exact (ih _ _ e) _ _ _ _ _ _ _ _ _ _ (O.pick [0]).nm e_1 rfl k_75 r_75
        · exact (ih _ _ e) _ _ _ _ _ _ _ _ _ _ (O.pick [0]).nm e_1 rfl k_75 r_75
  · cases e
    exact ⟨_, O.pick [], rfl⟩
theorem ward_Check.l1_k.all {p : ward_Check.l1_k.Pt} {r : (Int)} (e : ward_Check.l1_k.go p = some r) : ward_Check.l1_k.I p r := fixF_ind (β := fun _ => (Int)) ward_Check.l1_k.mono (I := ward_Check.l1_k.I) (fun go ih p r e => match p with
  | .l1 y_1 a_75 x_76 x_77 => ward_Check.l1_k.step_l1 go ih y_1 a_75 x_76 x_77 r e
  ) e
theorem ward_Check.l1.walk {W : Nat → Prop} {h0 m0 h m : Heap} {bk_1 : Nat} {cs_1 : List Value} {A_75 : Option Addr} {n_75 c_75 : Nat} {y_1 : T_ward_Ward} {a_75 : List Int} {x_76 : Int} {x_77 : Int} (O : Hold W h0 m0 h m [rV bk_1 25 cs_1]) (e_1 : T_ward_Ward.E m y_1 cs_1) (ne_75 : n_75 = List.length a_75) (k_75 : List.length a_75 ≤ c_75) (r_75 : Rd 1 (eInt .i64) m A_75 a_75) {r : Int} (e : ward_Check.l1 y_1 a_75 x_76 x_77 = some r) : f11.l1 (ward_Check.post W h0 m0 r) (⟨bk_1, 0, none⟩ : Addr) A_75 n_75 c_75 x_76 x_77 h := ward_Check.l1_k.all (p := .l1 y_1 a_75 x_76 x_77) e W h0 m0 h m bk_1 cs_1 A_75 n_75 c_75 O e_1 ne_75 k_75 r_75
inductive ward_Check.l0_k.Pt where
  | l0 (y_1 : T_ward_Ward) (a_48 : List T_ward_Child) (x_49 : Int) (x_50 : Int)
  | j2 (y_1 : T_ward_Ward) (x_3 : Int) (y_4 : T_ward_Child) (a_48 : List T_ward_Child) (x_49 : Int) (x_50 : Int) (b_55 : Bool)
noncomputable def ward_Check.l0_k.body (go : (p : ward_Check.l0_k.Pt) → Option (Int)) : (p : ward_Check.l0_k.Pt) → Option (Int)
  | .l0 y_1 a_48 x_49 x_50 => if x_50 < x_49 then (Option.bind (gi a_48 x_50) fun y1 => if y1.When < (1 : Int) then ((go (.j2 y_1 x_50 y1 a_48 x_49 x_50 true))) else ((go (.j2 y_1 x_50 y1 a_48 x_49 x_50 (decide (y1.When > (3 : Int))))))) else ((ward_Check.l1 y_1 y_1.Times (((List.length y_1.Times) : Nat) : Int) (0 : Int)))
  | .j2 y_1 x_3 y_4 a_48 x_49 x_50 b_55 => if b_55 = true then (some ((1 : Int))) else (Option.bind (sls y_1.Children (0 : Int) x_3) fun l6 => Option.bind (ward_find l6 y_4.Id) fun y11 => if y11 ≥ (0 : Int) then (some ((5 : Int))) else ((go (.l0 y_1 a_48 x_49 (IntKind.wrap .i64 (x_50 + (1 : Int)))))))
theorem ward_Check.l0_k.mono : MonoF (β := fun _ => (Int)) ward_Check.l0_k.body := fun f g hfg p => match p with
  | .l0 y_1 a_48 x_49 x_50 => LeO.ite (LeO.bind (LeO.refl _) fun y1 => LeO.ite ((hfg _)) ((hfg _))) ((LeO.refl _))
  | .j2 y_1 x_3 y_4 a_48 x_49 x_50 b_55 => LeO.ite (LeO.refl _) (LeO.bind (LeO.refl _) fun l6 => LeO.bind (LeO.refl _) fun y11 => LeO.ite (LeO.refl _) ((hfg _)))
noncomputable def ward_Check.l0_k.go (p : ward_Check.l0_k.Pt) : Option (Int) := fixF (β := fun _ => (Int)) ward_Check.l0_k.body p
noncomputable def ward_Check.l0 (y_1 : T_ward_Ward) (a_48 : List T_ward_Child) (x_49 : Int) (x_50 : Int) : Option (Int) := ward_Check.l0_k.go (.l0 y_1 a_48 x_49 x_50)
noncomputable def ward_Check.j2 (y_1 : T_ward_Ward) (x_3 : Int) (y_4 : T_ward_Child) (a_48 : List T_ward_Child) (x_49 : Int) (x_50 : Int) (b_55 : Bool) : Option (Int) := ward_Check.l0_k.go (.j2 y_1 x_3 y_4 a_48 x_49 x_50 b_55)
theorem ward_Check.l0_eq (y_1 : T_ward_Ward) (a_48 : List T_ward_Child) (x_49 : Int) (x_50 : Int) : ward_Check.l0 y_1 a_48 x_49 x_50 = if x_50 < x_49 then (Option.bind (gi a_48 x_50) fun y1 => if y1.When < (1 : Int) then ((ward_Check.j2 y_1 x_50 y1 a_48 x_49 x_50 true)) else ((ward_Check.j2 y_1 x_50 y1 a_48 x_49 x_50 (decide (y1.When > (3 : Int)))))) else ((ward_Check.l1 y_1 y_1.Times (((List.length y_1.Times) : Nat) : Int) (0 : Int))) := fixF_eq ward_Check.l0_k.mono _
theorem ward_Check.j2_eq (y_1 : T_ward_Ward) (x_3 : Int) (y_4 : T_ward_Child) (a_48 : List T_ward_Child) (x_49 : Int) (x_50 : Int) (b_55 : Bool) : ward_Check.j2 y_1 x_3 y_4 a_48 x_49 x_50 b_55 = if b_55 = true then (some ((1 : Int))) else (Option.bind (sls y_1.Children (0 : Int) x_3) fun l6 => Option.bind (ward_find l6 y_4.Id) fun y11 => if y11 ≥ (0 : Int) then (some ((5 : Int))) else ((ward_Check.l0 y_1 a_48 x_49 (IntKind.wrap .i64 (x_50 + (1 : Int)))))) := fixF_eq ward_Check.l0_k.mono _
def ward_Check.l0_k.I : (p : ward_Check.l0_k.Pt) → (Int) → Prop
  | .l0 y_1 a_48 x_49 x_50, r => ∀ (W : Nat → Prop) (h0 m0 h m : Heap) (bk_1 : Nat) (cs_1 : List Value) (A_48 : Option Addr) (n_48 c_48 : Nat) (O : Hold W h0 m0 h m [rV bk_1 25 cs_1]) (e_1 : T_ward_Ward.E m y_1 cs_1) (ne_48 : n_48 = List.length a_48) (k_48 : List.length a_48 ≤ c_48) (r_48 : Rd 3 T_ward_Child.E m A_48 a_48), f11.l0 (ward_Check.post W h0 m0 r) (⟨bk_1, 0, none⟩ : Addr) A_48 n_48 c_48 x_49 x_50 h
  | .j2 y_1 x_3 y_4 a_48 x_49 x_50 b_55, r => ∀ (W : Nat → Prop) (h0 m0 h m : Heap) (bk_1 : Nat) (cs_1 : List Value) (bk_4 : Nat) (cs_4 : List Value) (A_48 : Option Addr) (n_48 c_48 : Nat) (O : Hold W h0 m0 h m [rV bk_1 25 cs_1, rV bk_4 41 cs_4]) (e_1 : T_ward_Ward.E m y_1 cs_1) (e_4 : T_ward_Child.E m y_4 cs_4) (ne_48 : n_48 = List.length a_48) (k_48 : List.length a_48 ≤ c_48) (r_48 : Rd 3 T_ward_Child.E m A_48 a_48), f11.j2 (ward_Check.post W h0 m0 r) (⟨bk_1, 0, none⟩ : Addr) x_3 (⟨bk_4, 0, none⟩ : Addr) A_48 n_48 c_48 x_49 x_50 b_55 h
set_option maxRecDepth 100000 in
theorem ward_Check.l0_k.step_l0 (go : (p : ward_Check.l0_k.Pt) → Option (Int)) (ih : ∀ p r, go p = some r → ward_Check.l0_k.I p r) (y_1 : T_ward_Ward) (a_48 : List T_ward_Child) (x_49 : Int) (x_50 : Int) (r : Int) (e : ward_Check.l0_k.body go (.l0 y_1 a_48 x_49 x_50) = some r) : ward_Check.l0_k.I (.l0 y_1 a_48 x_49 x_50) r := by
  unfold ward_Check.l0_k.body at e
  intro W h0 m0 h m bk_1 cs_1 A_48 n_48 c_48 O e_1 ne_48 k_48 r_48
  subst ne_48
  refine f11.l0_in ?_
  unfold f11.l0T
  refine split_dec_e e (fun c22 e => ?_) (fun c22 e => ?_)
  · obtain ⟨y1, g2, e⟩ := bind_e e
    refine r_48.addr rfl g2 fun a3 cs4 ha5 hc6 he7 => ?_
    refine ⟨_, ldAn O.s hc6 rfl, ?_⟩
    refine O.new fun h8 x9 O10 => ?_
    refine ⟨_, rfl, (T_ward_Child.T.len _ _ _ he7), ?_⟩
    refine O10.stA 1 rfl (T_ward_Child.T.len _ _ _ he7) (T_ward_Child.T.flat _ _ _ he7) fun h12 O13 => ?_
    refine ⟨_, ldk (k := 1) (Sub.refl _) (O13.all 1 rfl) (T_ward_Child.g1 he7), _, rfl, ?_⟩
    refine split_dec_e e (fun c16 e => ?_) (fun c16 e => ?_)
    · have O14 := O13.nm
      exact (ih _ _ e) _ _ _ _ _ _ _ _ _ _ _ _ (O14.pick [0, 1]).nm e_1 he7 rfl k_48 r_48
    · refine ⟨_, ldk (k := 1) (Sub.refl _) (O13.all 1 rfl) (T_ward_Child.g1 he7), _, rfl, ?_⟩
      have O15 := O13.nm
      exact (ih _ _ e) _ _ _ _ _ _ _ _ _ _ _ _ (O15.pick [0, 1]).nm e_1 he7 rfl k_48 r_48
  · obtain ⟨A17, c18, q19, k20, r21⟩ := T_ward_Ward.g4 e_1
    refine ⟨_, ldk (k := 4) (Sub.refl _) (O.all 0 rfl) q19, _, _, _, rfl, ?_⟩
    exact ward_Check.l1.walk (O.pick [0]).nm e_1 rfl k20 r21 e
set_option maxRecDepth 100000 in
theorem ward_Check.l0_k.step_j2 (go : (p : ward_Check.l0_k.Pt) → Option (Int)) (ih : ∀ p r, go p = some r → ward_Check.l0_k.I p r) (y_1 : T_ward_Ward) (x_3 : Int) (y_4 : T_ward_Child) (a_48 : List T_ward_Child) (x_49 : Int) (x_50 : Int) (b_55 : Bool) (r : Int) (e : ward_Check.l0_k.body go (.j2 y_1 x_3 y_4 a_48 x_49 x_50 b_55) = some r) : ward_Check.l0_k.I (.j2 y_1 x_3 y_4 a_48 x_49 x_50 b_55) r := by
  unfold ward_Check.l0_k.body at e
  intro W h0 m0 h m bk_1 cs_1 bk_4 cs_4 A_48 n_48 c_48 O e_1 e_4 ne_48 k_48 r_48
  subst ne_48
  refine f11.j2_in ?_
  unfold f11.j2T
  refine split_any_e e (fun c19 e => ?_) (fun c19 e => ?_)
  · cases e
    exact ⟨_, O.pick [], rfl⟩
  · obtain ⟨A1, c2, q3, k4, r5⟩ := T_ward_Ward.g3 e_1
    refine ⟨_, ldk (k := 3) (Sub.refl _) (O.all 0 rfl) q3, _, _, _, rfl, ?_⟩
    obtain ⟨l6, g7, e⟩ := bind_e e
    have q8 := sls_e g7
    refine ⟨q8.1, q8.2.1, cap_in q8.2.2.1 k4, ?_⟩
    try rw [q8.2.2.2.1]
    have k9 : List.length l6 ≤ (c2 - Int.toNat (0 : Int)) := sls_cap g7 k4
    have r10 := r5.sls g7 (le_mx q8.2.2.1 k4)
    refine ⟨_, ld0 (Sub.refl _) (O.all 1 rfl) (T_ward_Child.g0 e_4), _, rfl, ?_⟩
    obtain ⟨y11, g12, e⟩ := bind_e e
    refine (ward_find.walk (Hold.start (W := No) O.s) rfl k9 r10 g12).mono ?_
    rintro _ h13 ⟨m14, Q15, rfl⟩
    have O17 := Hold.nm (O.retC Q15 vfs_nil)
    refine ⟨_, rfl, ?_⟩
    refine split_dec_e e (fun c18 e => ?_) (fun c18 e => ?_)
    · cases e
      exact ⟨_, O17.pick [], rfl⟩
    · exact (ih _ _ e) _ _ _ _ _ _ _ _ _ _ (O17.pick [0]).nm e_1 rfl k_48 r_48
theorem ward_Check.l0_k.all {p : ward_Check.l0_k.Pt} {r : (Int)} (e : ward_Check.l0_k.go p = some r) : ward_Check.l0_k.I p r := fixF_ind (β := fun _ => (Int)) ward_Check.l0_k.mono (I := ward_Check.l0_k.I) (fun go ih p r e => match p with
  | .l0 y_1 a_48 x_49 x_50 => ward_Check.l0_k.step_l0 go ih y_1 a_48 x_49 x_50 r e
  | .j2 y_1 x_3 y_4 a_48 x_49 x_50 b_55 => ward_Check.l0_k.step_j2 go ih y_1 x_3 y_4 a_48 x_49 x_50 b_55 r e
  ) e
theorem ward_Check.l0.walk {W : Nat → Prop} {h0 m0 h m : Heap} {bk_1 : Nat} {cs_1 : List Value} {A_48 : Option Addr} {n_48 c_48 : Nat} {y_1 : T_ward_Ward} {a_48 : List T_ward_Child} {x_49 : Int} {x_50 : Int} (O : Hold W h0 m0 h m [rV bk_1 25 cs_1]) (e_1 : T_ward_Ward.E m y_1 cs_1) (ne_48 : n_48 = List.length a_48) (k_48 : List.length a_48 ≤ c_48) (r_48 : Rd 3 T_ward_Child.E m A_48 a_48) {r : Int} (e : ward_Check.l0 y_1 a_48 x_49 x_50 = some r) : f11.l0 (ward_Check.post W h0 m0 r) (⟨bk_1, 0, none⟩ : Addr) A_48 n_48 c_48 x_49 x_50 h := ward_Check.l0_k.all (p := .l0 y_1 a_48 x_49 x_50) e W h0 m0 h m bk_1 cs_1 A_48 n_48 c_48 O e_1 ne_48 k_48 r_48
noncomputable def ward_Check.j0 (y_1 : T_ward_Ward) : Option (Int) :=
  (ward_Check.l0 y_1 y_1.Children (((List.length y_1.Children) : Nat) : Int) (0 : Int))
set_option maxRecDepth 100000 in
theorem ward_Check.j0.walk {W : Nat → Prop} {h0 m0 h m : Heap} {bk_1 : Nat} {cs_1 : List Value} {y_1 : T_ward_Ward} (O : Hold W h0 m0 h m [rV bk_1 25 cs_1]) (e_1 : T_ward_Ward.E m y_1 cs_1) {r : Int} (e : ward_Check.j0 y_1 = some r) : f11.j0 (ward_Check.post W h0 m0 r) (⟨bk_1, 0, none⟩ : Addr) h := by
  unfold ward_Check.j0 at e
  refine f11.j0_in ?_
  unfold f11.j0T
  obtain ⟨A1, c2, q3, k4, r5⟩ := T_ward_Ward.g3 e_1
  refine ⟨_, ldk (k := 3) (Sub.refl _) (O.all 0 rfl) q3, _, _, _, rfl, ?_⟩
  exact ward_Check.l0.walk (O.pick [0]).nm e_1 rfl k4 r5 e
noncomputable def ward_Check.j1 (y_1 : T_ward_Ward) (b_7 : Bool) : Option (Int) :=
  if b_7 = true then (some ((1 : Int))) else (if (((List.length y_1.Children) : Nat) : Int) > (20 : Int) then (some ((2 : Int))) else (if (((List.length y_1.Times) : Nat) : Int) > (50 : Int) then (some ((2 : Int))) else ((ward_Check.j0 y_1))))
set_option maxRecDepth 100000 in
theorem ward_Check.j1.walk {W : Nat → Prop} {h0 m0 h m : Heap} {bk_1 : Nat} {cs_1 : List Value} {y_1 : T_ward_Ward} {b_7 : Bool} (O : Hold W h0 m0 h m [rV bk_1 25 cs_1]) (e_1 : T_ward_Ward.E m y_1 cs_1) {r : Int} (e : ward_Check.j1 y_1 b_7 = some r) : f11.j1 (ward_Check.post W h0 m0 r) (⟨bk_1, 0, none⟩ : Addr) b_7 h := by
  unfold ward_Check.j1 at e
  refine f11.j1_in ?_
  unfold f11.j1T
  refine split_any_e e (fun c13 e => ?_) (fun c13 e => ?_)
  · cases e
    exact ⟨_, O.pick [], rfl⟩
  · obtain ⟨A1, c2, q3, k4, r5⟩ := T_ward_Ward.g3 e_1
    refine ⟨_, ldk (k := 3) (Sub.refl _) (O.all 0 rfl) q3, _, _, _, rfl, ?_⟩
    refine split_dec_e e (fun c12 e => ?_) (fun c12 e => ?_)
    · cases e
      exact ⟨_, O.pick [], rfl⟩
    · obtain ⟨A6, c7, q8, k9, r10⟩ := T_ward_Ward.g4 e_1
      refine ⟨_, ldk (k := 4) (Sub.refl _) (O.all 0 rfl) q8, _, _, _, rfl, ?_⟩
      refine split_dec_e e (fun c11 e => ?_) (fun c11 e => ?_)
      · cases e
        exact ⟨_, O.pick [], rfl⟩
      · exact ward_Check.j0.walk (O.pick [0]).nm e_1 e
noncomputable def ward_Check (y_0 : T_ward_Ward) : Option (Int) :=
  if y_0.How < (1 : Int) then ((ward_Check.j1 y_0 true)) else (if y_0.How > (3 : Int) then ((ward_Check.j1 y_0 true)) else (if y_0.Most < (0 : Int) then ((ward_Check.j1 y_0 true)) else (if y_0.Most > (50 : Int) then ((ward_Check.j1 y_0 true)) else (if y_0.Window < (1 : Int) then ((ward_Check.j1 y_0 true)) else ((ward_Check.j1 y_0 (decide (y_0.Window > (1099511627776 : Int)))))))))
set_option maxRecDepth 100000 in
theorem ward_Check.walk {W : Nat → Prop} {h m : Heap} {cs_0 : List Value} {y_0 : T_ward_Ward} (O : Hold W h m h m []) (e_0 : T_ward_Ward.E m y_0 cs_0) {r : Int} (e : ward_Check y_0 = some r) : Run Try.prog 11 #[Value.agg cs_0.toArray] h (ward_Check.post W h m r) := by
  unfold ward_Check at e
  refine f11.run ?_
  unfold f11.runT
  refine O.new fun h1 x2 O3 => ?_
  refine ⟨_, ld0 (Sub.refl _) (O3.all 0 rfl) (T_ward_Ward.g0 e_0), _, rfl, ?_⟩
  refine split_dec_e e (fun c15 e => ?_) (fun c15 e => ?_)
  · have O5 := O3.nm
    exact ward_Check.j1.walk (O5.pick [0]).nm e_0 e
  · refine ⟨_, ld0 (Sub.refl _) (O3.all 0 rfl) (T_ward_Ward.g0 e_0), _, rfl, ?_⟩
    refine split_dec_e e (fun c14 e => ?_) (fun c14 e => ?_)
    · have O6 := O3.nm
      exact ward_Check.j1.walk (O6.pick [0]).nm e_0 e
    · refine ⟨_, ldk (k := 1) (Sub.refl _) (O3.all 0 rfl) (T_ward_Ward.g1 e_0), _, rfl, ?_⟩
      refine split_dec_e e (fun c13 e => ?_) (fun c13 e => ?_)
      · have O7 := O3.nm
        exact ward_Check.j1.walk (O7.pick [0]).nm e_0 e
      · refine ⟨_, ldk (k := 1) (Sub.refl _) (O3.all 0 rfl) (T_ward_Ward.g1 e_0), _, rfl, ?_⟩
        refine split_dec_e e (fun c12 e => ?_) (fun c12 e => ?_)
        · have O8 := O3.nm
          exact ward_Check.j1.walk (O8.pick [0]).nm e_0 e
        · refine ⟨_, ldk (k := 2) (Sub.refl _) (O3.all 0 rfl) (T_ward_Ward.g2 e_0), _, rfl, ?_⟩
          refine split_dec_e e (fun c11 e => ?_) (fun c11 e => ?_)
          · have O9 := O3.nm
            exact ward_Check.j1.walk (O9.pick [0]).nm e_0 e
          · refine ⟨_, ldk (k := 2) (Sub.refl _) (O3.all 0 rfl) (T_ward_Ward.g2 e_0), _, rfl, ?_⟩
            have O10 := O3.nm
            exact ward_Check.j1.walk (O10.pick [0]).nm e_0 e
def slices_Clone_83.post (W : Nat → Prop) (h0 m0 : Heap) (r : (List T_ward_Child)) (v : Value) (h : Heap) : Prop := ∃ m A0 n0 c0, Hold W h0 m0 h m [rR (aE T_ward_Child.T) A0 c0 r] ∧ v = .slice A0 n0 c0 ∧ n0 = List.length r
noncomputable def slices_Clone_83 (a0 : List T_ward_Child) : Option (List T_ward_Child) := ap 24 ([] : List T_ward_Child) a0
set_option maxRecDepth 100000 in
theorem slices_Clone_83.walk {W : Nat → Prop} {h m : Heap} {A0 : Option Addr} {n0 c0 : Nat} {a0 : List T_ward_Child} (O : Hold W h m h m []) (ne0 : n0 = List.length a0) (k0 : List.length a0 ≤ c0) (r0 : Rd 3 T_ward_Child.E m A0 a0) {r : List T_ward_Child} (e : slices_Clone_83 a0 = some r) : Run Try.prog 83 #[Value.slice A0 n0 c0] h (slices_Clone_83.post W h m r) := by
  unfold slices_Clone_83 at e
  subst ne0
  refine f83.run ?_
  unfold f83.runT
  cases A0 with
  | none =>
    refine split_t ?_
    obtain rfl := Rd.void r0
    obtain rfl : [] = r := by have := (ap_e e).2; simpa using this
    exact ⟨m, none, 0, 0, O.nil (aE T_ward_Child.T) none, rfl, rfl⟩
  | some a =>
    refine split_f ?_
    refine O.new fun h1 x1 O1 => ?_
    refine O1.appE0 T_ward_Child.T rfl rfl (r0.srcE T_ward_Child.T O1.s rfl) (by decide) e fun A4 c4 h4 x4 O4 => ?_
    refine ⟨_, _, _, rfl, ?_⟩
    exact ⟨m, _, _, _, O4.pick [1], rfl, rfl⟩
theorem slices_Clone_83.val (l : List T_ward_Child) (h : l.length * 24 ≤ 140737488355328) : slices_Clone_83 l = some l := ap_nil h
def slices_Clone_84.post (W : Nat → Prop) (h0 m0 : Heap) (r : (List Int)) (v : Value) (h : Heap) : Prop := ∃ m A0 n0 c0, Hold W h0 m0 h m [rR (aE (tell_int .i64)) A0 c0 r] ∧ v = .slice A0 n0 c0 ∧ n0 = List.length r
noncomputable def slices_Clone_84 (a0 : List Int) : Option (List Int) := ap 8 ([] : List Int) a0
set_option maxRecDepth 100000 in
theorem slices_Clone_84.walk {W : Nat → Prop} {h m : Heap} {A0 : Option Addr} {n0 c0 : Nat} {a0 : List Int} (O : Hold W h m h m []) (ne0 : n0 = List.length a0) (k0 : List.length a0 ≤ c0) (r0 : Rd 1 (eInt .i64) m A0 a0) {r : List Int} (e : slices_Clone_84 a0 = some r) : Run Try.prog 84 #[Value.slice A0 n0 c0] h (slices_Clone_84.post W h m r) := by
  unfold slices_Clone_84 at e
  subst ne0
  refine f84.run ?_
  unfold f84.runT
  cases A0 with
  | none =>
    refine split_t ?_
    obtain rfl := Rd.void r0
    obtain rfl : [] = r := by have := (ap_e e).2; simpa using this
    exact ⟨m, none, 0, 0, O.nil (aE (tell_int .i64)) none, rfl, rfl⟩
  | some a =>
    refine split_f ?_
    refine O.new fun h1 x1 O1 => ?_
    refine O1.appE0 (tell_int .i64) rfl rfl (r0.srcE (tell_int .i64) O1.s rfl) (by decide) e fun A4 c4 h4 x4 O4 => ?_
    refine ⟨_, _, _, rfl, ?_⟩
    exact ⟨m, _, _, _, O4.pick [1], rfl, rfl⟩
theorem slices_Clone_84.val (l : List Int) (h : l.length * 8 ≤ 140737488355328) : slices_Clone_84 l = some l := ap_nil h
def ward_own.post (W : Nat → Prop) (h0 m0 : Heap) (r : T_ward_Ward) (v : Value) (h : Heap) : Prop := ∃ m A0_3 n0_3 c0_3 A0_4 n0_4 c0_4, Hold W h0 m0 h m [rR (aE T_ward_Child.T) A0_3 c0_3 r.Children, rR (aE (tell_int .i64)) A0_4 c0_4 r.Times] ∧ v = .agg #[(Value.int .i64 r.How), (Value.int .i64 r.Most), (Value.int .i64 r.Window), (Value.slice A0_3 n0_3 c0_3), (Value.slice A0_4 n0_4 c0_4)] ∧ n0_3 = List.length r.Children ∧ n0_4 = List.length r.Times
noncomputable def ward_own (y_0 : T_ward_Ward) : Option (T_ward_Ward) :=
  Option.bind (slices_Clone_83 y_0.Children) fun y19 => Option.bind (slices_Clone_84 y_0.Times) fun y31 => some ((T_ward_Ward.mk y_0.How y_0.Most y_0.Window y19 y31))
set_option maxRecDepth 100000 in
theorem ward_own.walk {W : Nat → Prop} {h m : Heap} {cs_0 : List Value} {y_0 : T_ward_Ward} (O : Hold W h m h m []) (e_0 : T_ward_Ward.E m y_0 cs_0) {r : T_ward_Ward} (e : ward_own y_0 = some r) : Run Try.prog 48 #[Value.agg cs_0.toArray] h (ward_own.post W h m r) := by
  unfold ward_own at e
  refine f48.run ?_
  unfold f48.runT
  refine O.new fun h1 x2 O3 => ?_
  refine O3.new fun h5 x6 O7 => ?_
  obtain ⟨A9, c10, q11, k12, r13⟩ := T_ward_Ward.g3 e_0
  refine ⟨_, ldk (k := 3) (Sub.refl _) (O7.all 0 rfl) q11, _, _, _, rfl, ?_⟩
  obtain ⟨A14, c15, q16, k17, r18⟩ := T_ward_Ward.g4 e_0
  refine ⟨_, ldk (k := 4) (Sub.refl _) (O7.all 0 rfl) q16, _, _, _, rfl, ?_⟩
  obtain ⟨y19, g20, e⟩ := bind_e e
  refine (slices_Clone_83.walk (Hold.start (W := No) O7.s) rfl k12 r13 g20).mono ?_
  rintro _ h21 ⟨m22, A25, n26, c27, Q23, rfl, ne28⟩
  have O30 := Hold.nm (O7.retC Q23 (vfs_cons (rR_vf (aE_vf (fun _ _ _ _ h => T_ward_Child.keep h))) vfs_nil))
  subst ne28
  refine ⟨_, _, _, rfl, ?_⟩
  refine ⟨Q23.S.ext, ?_⟩
  obtain ⟨y31, g32, e⟩ := bind_e e
  refine (slices_Clone_84.walk (Hold.start (W := No) O30.s) rfl k17 r18 g32).mono ?_
  rintro _ h33 ⟨m34, A37, n38, c39, Q35, rfl, ne40⟩
  have O42 := Hold.nm (O30.retC Q35 (vfs_cons (rR_vf (aE_vf (fun _ _ _ _ h => h))) vfs_nil))
  subst ne40
  refine ⟨_, _, _, rfl, ?_⟩
  obtain ⟨Ae45_3, ce45_3, Ae45_4, ce45_4, rfl, ke45_3, re45_3, ke45_4, re45_4⟩ := id e_0
  refine O42.st 0 rfl 3 (Nat.le_of_ble_eq_true rfl) trivial fun h46 O47 => ?_
  refine O47.st 0 rfl 4 (Nat.le_of_ble_eq_true rfl) trivial fun h48 O49 => ?_
  refine ⟨_, ldAn (Sub.refl _) (O49.all 0 rfl) rfl, ?_⟩
  refine ⟨_, rfl, rfl, ?_⟩
  refine O49.stA 1 rfl rfl (Flats.cons trivial (Flats.cons trivial (Flats.cons trivial (Flats.cons trivial (Flats.cons trivial Flats.nil))))) fun h50 O51 => ?_
  refine ⟨_, ldAn (Sub.refl _) (O51.all 1 rfl) rfl, ?_⟩
  have O52 := O51.nm
  cases e
  exact ⟨_, _, _, _, _, _, _, O52.pick [2, 3], rfl, rfl, rfl⟩
def ward_Begin.post (W : Nat → Prop) (h0 m0 : Heap) (r : T_ward_Ward × (List Int) × Int) (v : Value) (h : Heap) : Prop := ∃ m cs0 A1 n1 c1, Hold W h0 m0 h m [rR (aE (tell_int .i64)) A1 c1 r.2.1] ∧ v = .tuple #[.agg cs0.toArray, .slice A1 n1 c1, .int .i64 r.2.2] ∧ T_ward_Ward.E m r.1 cs0 ∧ n1 = List.length r.2.1
inductive ward_Begin.l0_k.Pt where
  | l0 (x_1_0 : Int) (x_1_1 : Int) (x_1_2 : Int) (a_1_3 : (List T_ward_Child)) (a_1_4 : (List Int)) (y_2 : T_ward_Ward) (a_6 : List Int) (x_19 : Int) (x_20 : Int)
noncomputable def ward_Begin.l0_k.body (go : (p : ward_Begin.l0_k.Pt) → Option (T_ward_Ward × (List Int) × Int)) : (p : ward_Begin.l0_k.Pt) → Option (T_ward_Ward × (List Int) × Int)
  | .l0 x_1_0 x_1_1 x_1_2 a_1_3 a_1_4 y_2 a_6 x_19 x_20 => if x_20 < x_19 then (Option.bind (gi a_1_3 x_20) fun y1 => if y1.Lives = true then ((go (.l0 x_1_0 x_1_1 x_1_2 a_1_3 a_1_4 y_2 a_6 x_19 (IntKind.wrap .i64 (x_20 + (1 : Int)))))) else (Option.bind (some (List.set a_1_3 (Int.toNat x_20) ({ y1 with Lives := true }))) fun l10 => Option.bind (ap 8 a_6 ([({ y1 with Lives := true }).Id] : List Int)) fun l21 => (go (.l0 x_1_0 x_1_1 x_1_2 l10 a_1_4 y_2 l21 x_19 (IntKind.wrap .i64 (x_20 + (1 : Int))))))) else (some ((T_ward_Ward.mk x_1_0 x_1_1 x_1_2 a_1_3 a_1_4), a_6, (0 : Int)))
theorem ward_Begin.l0_k.mono : MonoF (β := fun _ => (T_ward_Ward × (List Int) × Int)) ward_Begin.l0_k.body := fun f g hfg p => match p with
  | .l0 x_1_0 x_1_1 x_1_2 a_1_3 a_1_4 y_2 a_6 x_19 x_20 => LeO.ite (LeO.bind (LeO.refl _) fun y1 => LeO.ite ((hfg _)) (LeO.bind (LeO.refl _) fun l10 => LeO.bind (LeO.refl _) fun l21 => (hfg _))) (LeO.refl _)
noncomputable def ward_Begin.l0_k.go (p : ward_Begin.l0_k.Pt) : Option (T_ward_Ward × (List Int) × Int) := fixF (β := fun _ => (T_ward_Ward × (List Int) × Int)) ward_Begin.l0_k.body p
noncomputable def ward_Begin.l0 (x_1_0 : Int) (x_1_1 : Int) (x_1_2 : Int) (a_1_3 : (List T_ward_Child)) (a_1_4 : (List Int)) (y_2 : T_ward_Ward) (a_6 : List Int) (x_19 : Int) (x_20 : Int) : Option (T_ward_Ward × (List Int) × Int) := ward_Begin.l0_k.go (.l0 x_1_0 x_1_1 x_1_2 a_1_3 a_1_4 y_2 a_6 x_19 x_20)
theorem ward_Begin.l0_eq (x_1_0 : Int) (x_1_1 : Int) (x_1_2 : Int) (a_1_3 : (List T_ward_Child)) (a_1_4 : (List Int)) (y_2 : T_ward_Ward) (a_6 : List Int) (x_19 : Int) (x_20 : Int) : ward_Begin.l0 x_1_0 x_1_1 x_1_2 a_1_3 a_1_4 y_2 a_6 x_19 x_20 = if x_20 < x_19 then (Option.bind (gi a_1_3 x_20) fun y1 => if y1.Lives = true then ((ward_Begin.l0 x_1_0 x_1_1 x_1_2 a_1_3 a_1_4 y_2 a_6 x_19 (IntKind.wrap .i64 (x_20 + (1 : Int))))) else (Option.bind (some (List.set a_1_3 (Int.toNat x_20) ({ y1 with Lives := true }))) fun l10 => Option.bind (ap 8 a_6 ([({ y1 with Lives := true }).Id] : List Int)) fun l21 => (ward_Begin.l0 x_1_0 x_1_1 x_1_2 l10 a_1_4 y_2 l21 x_19 (IntKind.wrap .i64 (x_20 + (1 : Int)))))) else (some ((T_ward_Ward.mk x_1_0 x_1_1 x_1_2 a_1_3 a_1_4), a_6, (0 : Int))) := fixF_eq ward_Begin.l0_k.mono _
def ward_Begin.l0_k.I : (p : ward_Begin.l0_k.Pt) → (T_ward_Ward × (List Int) × Int) → Prop
  | .l0 x_1_0 x_1_1 x_1_2 a_1_3 a_1_4 y_2 a_6 x_19 x_20, r => ∀ (W : Nat → Prop) (h0 m0 h m : Heap) (bk_1 : Nat) (A_1_3_0 : Option Addr) (n_1_3_0 : Nat) (c_1_3_0 : Nat) (A_1_4_0 : Option Addr) (n_1_4_0 : Nat) (c_1_4_0 : Nat) (bk_2 : Nat) (cs_2 : List Value) (A_6 : Option Addr) (n_6 c_6 : Nat) (O : Hold W h0 m0 h m [rV bk_1 25 [(Value.int .i64 x_1_0), (Value.int .i64 x_1_1), (Value.int .i64 x_1_2), (Value.slice A_1_3_0 n_1_3_0 c_1_3_0), (Value.slice A_1_4_0 n_1_4_0 c_1_4_0)], rR (aE T_ward_Child.T) A_1_3_0 c_1_3_0 a_1_3, rV bk_2 25 cs_2, rR (aE (tell_int .i64)) A_6 c_6 a_6]) (ne_1_3_0 : n_1_3_0 = List.length a_1_3) (ne_1_4_0 : n_1_4_0 = List.length a_1_4) (k_1_4_0 : List.length a_1_4 ≤ c_1_4_0) (r_1_4_0 : Rd 1 (eInt .i64) m A_1_4_0 a_1_4) (e_2 : T_ward_Ward.E m y_2 cs_2) (ne_6 : n_6 = List.length a_6), f7.l0 (ward_Begin.post W h0 m0 r) (⟨bk_1, 0, none⟩ : Addr) (⟨bk_2, 0, none⟩ : Addr) A_6 n_6 c_6 x_19 x_20 h
set_option maxRecDepth 100000 in
theorem ward_Begin.l0_k.step_l0 (go : (p : ward_Begin.l0_k.Pt) → Option (T_ward_Ward × (List Int) × Int)) (ih : ∀ p r, go p = some r → ward_Begin.l0_k.I p r) (x_1_0 : Int) (x_1_1 : Int) (x_1_2 : Int) (a_1_3 : (List T_ward_Child)) (a_1_4 : (List Int)) (y_2 : T_ward_Ward) (a_6 : List Int) (x_19 : Int) (x_20 : Int) (r : T_ward_Ward × (List Int) × Int) (e : ward_Begin.l0_k.body go (.l0 x_1_0 x_1_1 x_1_2 a_1_3 a_1_4 y_2 a_6 x_19 x_20) = some r) : ward_Begin.l0_k.I (.l0 x_1_0 x_1_1 x_1_2 a_1_3 a_1_4 y_2 a_6 x_19 x_20) r := by
  unfold ward_Begin.l0_k.body at e
  intro W h0 m0 h m bk_1 A_1_3_0 n_1_3_0 c_1_3_0 A_1_4_0 n_1_4_0 c_1_4_0 bk_2 cs_2 A_6 n_6 c_6 O ne_1_3_0 ne_1_4_0 k_1_4_0 r_1_4_0 e_2 ne_6
  subst ne_1_3_0
  subst ne_1_4_0
  subst ne_6
  refine f7.l0_in ?_
  unfold f7.l0T
  refine split_dec_e e (fun c40 e => ?_) (fun c40 e => ?_)
  · refine ⟨_, ldk (k := 3) (Sub.refl _) (O.all 0 rfl) rfl, _, _, _, rfl, ?_⟩
    obtain ⟨y1, g2, e⟩ := bind_e e
    refine (O.os 1 rfl).addr rfl g2 fun a3 cs4 ha5 hc6 he7 => ?_
    refine ⟨_, ldk (k := 2) (Sub.refl _) hc6 (T_ward_Child.g2 he7), _, rfl, ?_⟩
    refine split_not ?_
    refine split_any_e e (fun c31 e => ?_) (fun c31 e => ?_)
    · exact (ih _ _ e) _ _ _ _ _ _ _ _ _ _ _ _ _ _ _ _ _ (O.pick [0, 1, 2, 3]).nm rfl rfl k_1_4_0 r_1_4_0 e_2 rfl
    · obtain ⟨l10, g11, e⟩ := bind_e e
      replace g11 := Option.some.inj g11
      refine O.elst 1 rfl g2 ha5 hc6 2 (by decide) (y' := ({ y1 with Lives := true })) (T_ward_Child.s2 he7 true) trivial g11 fun h8 O9 => ?_
      obtain ⟨a12, cs13, ha16, hc14, he15⟩ := (O9.os 1 rfl).cellsAt (gi_put g2 g11)
      cases ha5.symm.trans ha16
      refine ⟨_, ld0 (Sub.refl _) hc14 (T_ward_Child.g0 he15), _, rfl, ?_⟩
      refine O9.new fun h17 x18 O19 => ?_
      obtain ⟨l21, g22, e⟩ := bind_e e
      have O29 := O19.rowE (l := ([({ y1 with Lives := true }).Id] : List Int)) 4 rfl (tell_int .i64) (show CsE _ _ _ _ _ from (CsE.cons (c1 := [(Value.int .i64 (({ y1 with Lives := true }).Id))]) rfl rfl CsE.nil)) rfl
      refine O29.app 3 rfl rfl rfl ((O29.os 4 rfl).srcE rfl) (by decide) g22 fun A23 c24 h25 O26 => ?_
      refine ⟨_, _, _, rfl, ?_⟩
      have O30 := O26.nm
      exact (ih _ _ e) _ _ _ _ _ _ _ _ _ _ _ _ _ _ _ _ _ (O30.pick [0, 1, 2, 3]).nm (lset' g11) rfl k_1_4_0 r_1_4_0 e_2 rfl
  · refine ⟨_, ldAn (Sub.refl _) (O.all 0 rfl) rfl, ?_⟩
    refine ⟨_, rfl, rfl, ?_⟩
    refine O.stA 2 rfl ((T_ward_Ward.T.len _ _ _ e_2)).symm (Flats.cons trivial (Flats.cons trivial (Flats.cons trivial (Flats.cons trivial (Flats.cons trivial Flats.nil))))) fun h32 O33 => ?_
    refine ⟨_, ldAn (Sub.refl _) (O33.all 2 rfl) rfl, ?_⟩
    obtain ⟨m34, u35, ⟨r36, k37⟩, O38⟩ := O33.frz 1 rfl
    replace r36 : Rd 3 T_ward_Child.E m34 A_1_3_0 a_1_3 := r36
    have O39 := O38.nm
    cases e
    exact ⟨_, _, _, _, _, O39.pick [3], rfl, (show T_ward_Ward.E _ (T_ward_Ward.mk x_1_0 x_1_1 x_1_2 a_1_3 a_1_4) [(Value.int .i64 x_1_0), (Value.int .i64 x_1_1), (Value.int .i64 x_1_2), (Value.slice A_1_3_0 (List.length a_1_3) c_1_3_0), (Value.slice A_1_4_0 (List.length a_1_4) c_1_4_0)] from ⟨_, _, _, _, rfl, k37, r36, k_1_4_0, (r_1_4_0.sub (tell_int .i64) u35)⟩), rfl⟩
theorem ward_Begin.l0_k.all {p : ward_Begin.l0_k.Pt} {r : (T_ward_Ward × (List Int) × Int)} (e : ward_Begin.l0_k.go p = some r) : ward_Begin.l0_k.I p r := fixF_ind (β := fun _ => (T_ward_Ward × (List Int) × Int)) ward_Begin.l0_k.mono (I := ward_Begin.l0_k.I) (fun go ih p r e => match p with
  | .l0 x_1_0 x_1_1 x_1_2 a_1_3 a_1_4 y_2 a_6 x_19 x_20 => ward_Begin.l0_k.step_l0 go ih x_1_0 x_1_1 x_1_2 a_1_3 a_1_4 y_2 a_6 x_19 x_20 r e
  ) e
theorem ward_Begin.l0.walk {W : Nat → Prop} {h0 m0 h m : Heap} {bk_1 : Nat} {A_1_3_0 : Option Addr} {n_1_3_0 : Nat} {c_1_3_0 : Nat} {A_1_4_0 : Option Addr} {n_1_4_0 : Nat} {c_1_4_0 : Nat} {bk_2 : Nat} {cs_2 : List Value} {A_6 : Option Addr} {n_6 c_6 : Nat} {x_1_0 : Int} {x_1_1 : Int} {x_1_2 : Int} {a_1_3 : (List T_ward_Child)} {a_1_4 : (List Int)} {y_2 : T_ward_Ward} {a_6 : List Int} {x_19 : Int} {x_20 : Int} (O : Hold W h0 m0 h m [rV bk_1 25 [(Value.int .i64 x_1_0), (Value.int .i64 x_1_1), (Value.int .i64 x_1_2), (Value.slice A_1_3_0 n_1_3_0 c_1_3_0), (Value.slice A_1_4_0 n_1_4_0 c_1_4_0)], rR (aE T_ward_Child.T) A_1_3_0 c_1_3_0 a_1_3, rV bk_2 25 cs_2, rR (aE (tell_int .i64)) A_6 c_6 a_6]) (ne_1_3_0 : n_1_3_0 = List.length a_1_3) (ne_1_4_0 : n_1_4_0 = List.length a_1_4) (k_1_4_0 : List.length a_1_4 ≤ c_1_4_0) (r_1_4_0 : Rd 1 (eInt .i64) m A_1_4_0 a_1_4) (e_2 : T_ward_Ward.E m y_2 cs_2) (ne_6 : n_6 = List.length a_6) {r : T_ward_Ward × (List Int) × Int} (e : ward_Begin.l0 x_1_0 x_1_1 x_1_2 a_1_3 a_1_4 y_2 a_6 x_19 x_20 = some r) : f7.l0 (ward_Begin.post W h0 m0 r) (⟨bk_1, 0, none⟩ : Addr) (⟨bk_2, 0, none⟩ : Addr) A_6 n_6 c_6 x_19 x_20 h := ward_Begin.l0_k.all (p := .l0 x_1_0 x_1_1 x_1_2 a_1_3 a_1_4 y_2 a_6 x_19 x_20) e W h0 m0 h m bk_1 A_1_3_0 n_1_3_0 c_1_3_0 A_1_4_0 n_1_4_0 c_1_4_0 bk_2 cs_2 A_6 n_6 c_6 O ne_1_3_0 ne_1_4_0 k_1_4_0 r_1_4_0 e_2 ne_6
noncomputable def ward_Begin (y_0 : T_ward_Ward) : Option (T_ward_Ward × (List Int) × Int) :=
  Option.bind (ward_Check y_0) fun y9 => if y9 = (0 : Int) then (Option.bind (ward_own y_0) fun y21 => (ward_Begin.l0 y21.How y21.Most y21.Window y21.Children y21.Times (T_ward_Ward.mk (0 : Int) (0 : Int) (0 : Int) ([] : List T_ward_Child) ([] : List Int)) ([] : List Int) (((List.length y21.Children) : Nat) : Int) (0 : Int))) else (some ((T_ward_Ward.mk (0 : Int) (0 : Int) (0 : Int) ([] : List T_ward_Child) ([] : List Int)), ([] : List Int), y9))
set_option maxHeartbeats 4000000 in
set_option maxRecDepth 100000 in
theorem ward_Begin.walk {W : Nat → Prop} {h m : Heap} {cs_0 : List Value} {y_0 : T_ward_Ward} (O : Hold W h m h m []) (e_0 : T_ward_Ward.E m y_0 cs_0) {r : T_ward_Ward × (List Int) × Int} (e : ward_Begin y_0 = some r) : Run Try.prog 7 #[Value.agg cs_0.toArray] h (ward_Begin.post W h m r) := by
  unfold ward_Begin at e
  refine f7.run ?_
  unfold f7.runT
  refine O.new fun h1 x2 O3 => ?_
  refine O3.new fun h5 x6 O7 => ?_
  refine ⟨_, ldAn (Sub.refl _) (O7.all 0 rfl) (T_ward_Ward.T.len _ _ _ e_0), ?_⟩
  obtain ⟨y9, g10, e⟩ := bind_e e
  refine (ward_Check.walk (Hold.start (W := No) O7.s) e_0 g10).mono ?_
  rintro _ h11 ⟨m12, Q13, rfl⟩
  have O15 := Hold.nm (O7.retC Q13 vfs_nil)
  refine ⟨_, rfl, ?_⟩
  refine split_ne_e e (fun c41 e => ?_) (fun c41 e => ?_)
  · refine ⟨_, rfl, rfl, ?_⟩
    refine O15.stA 1 rfl rfl (Flats.cons trivial (Flats.cons trivial (Flats.cons trivial (Flats.cons trivial (Flats.cons trivial Flats.nil))))) fun h16 O17 => ?_
    refine ⟨_, ldAn (Sub.refl _) (O17.all 1 rfl) rfl, ?_⟩
    have O18 := O17.nil (aE (tell_int .i64)) none
    have O20 := O18.nm
    cases e
    exact ⟨_, _, _, _, _, O20.pick [2], rfl, (show T_ward_Ward.E _ (T_ward_Ward.mk (0 : Int) (0 : Int) (0 : Int) ([] : List T_ward_Child) ([] : List Int)) [(Value.int .i64 (0 : Int)), (Value.int .i64 (0 : Int)), (Value.int .i64 (0 : Int)), (Value.slice none 0 0), (Value.slice none 0 0)] from ⟨_, _, _, _, rfl, (by exact Nat.le_refl 0), Rd.nil, (by exact Nat.le_refl 0), Rd.nil⟩), rfl⟩
  · refine ⟨_, ldAn (Sub.refl _) (O15.all 0 rfl) (T_ward_Ward.T.len _ _ _ e_0), ?_⟩
    obtain ⟨y21, g22, e⟩ := bind_e e
    refine (ward_own.walk (Hold.start (W := No) O15.s) e_0 g22).mono ?_
    rintro _ h23 ⟨m24, A_27_3, n_27_3, c_27_3, A_27_4, n_27_4, c_27_4, Q25, rfl, ne_27_3, ne_27_4⟩
    have O30 := Hold.nm (O15.retC Q25 (vfs_cons (rR_vf (aE_vf (fun _ _ _ _ h => T_ward_Child.keep h))) (vfs_cons (rR_vf (aE_vf (fun _ _ _ _ h => h))) vfs_nil)))
    subst ne_27_3
    subst ne_27_4
    refine ⟨_, rfl, rfl, ?_⟩
    refine O30.stA 0 rfl ((T_ward_Ward.T.len _ _ _ e_0)).symm (Flats.cons trivial (Flats.cons trivial (Flats.cons trivial (Flats.cons trivial (Flats.cons trivial Flats.nil))))) fun h31 O32 => ?_
    refine ⟨_, ldk (k := 3) (Sub.refl _) (O32.all 0 rfl) rfl, _, _, _, rfl, ?_⟩
    obtain ⟨m33, u34, ⟨r35, k36⟩, O37⟩ := O32.frz 3 rfl
    replace r35 : Rd 1 (eInt .i64) m33 A_27_4 y21.Times := r35
    have O38 := O37.nil (aE (tell_int .i64)) none
    have O40 := O38.nm
    exact ward_Begin.l0.walk (O40.pick [0, 2, 1, 4]).nm rfl rfl k36 r35 (show T_ward_Ward.E _ (T_ward_Ward.mk (0 : Int) (0 : Int) (0 : Int) ([] : List T_ward_Child) ([] : List Int)) [(Value.int .i64 (0 : Int)), (Value.int .i64 (0 : Int)), (Value.int .i64 (0 : Int)), (Value.slice none 0 0), (Value.slice none 0 0)] from ⟨_, _, _, _, rfl, (by exact Nat.le_refl 0), Rd.nil, (by exact Nat.le_refl 0), Rd.nil⟩) rfl e
def slices_IndexFunc_63.post (W : Nat → Prop) (h0 m0 : Heap) (r : Int) (v : Value) (h : Heap) : Prop := ∃ m , Hold W h0 m0 h m [] ∧ v = .int .i64 r
inductive slices_IndexFunc_63.l0_k.Pt where
  | l0 (a_0 : List Int) (p_1 : Int → Option Bool) (x_7 : Int) (x_8 : Int)
noncomputable def slices_IndexFunc_63.l0_k.body (go : (p : slices_IndexFunc_63.l0_k.Pt) → Option (Int)) : (p : slices_IndexFunc_63.l0_k.Pt) → Option (Int)
  | .l0 a_0 p_1 x_7 x_8 => if x_8 < x_7 then (Option.bind (gi a_0 x_8) fun y1 => Option.bind (p_1 y1) fun y8 => if y8 = true then (some (x_8)) else ((go (.l0 a_0 p_1 x_7 (IntKind.wrap .i64 (x_8 + (1 : Int))))))) else (some ((-1 : Int)))
theorem slices_IndexFunc_63.l0_k.mono : MonoF (β := fun _ => (Int)) slices_IndexFunc_63.l0_k.body := fun f g hfg p => match p with
  | .l0 a_0 p_1 x_7 x_8 => LeO.ite (LeO.bind (LeO.refl _) fun y1 => LeO.bind (LeO.refl _) fun y8 => LeO.ite (LeO.refl _) ((hfg _))) (LeO.refl _)
noncomputable def slices_IndexFunc_63.l0_k.go (p : slices_IndexFunc_63.l0_k.Pt) : Option (Int) := fixF (β := fun _ => (Int)) slices_IndexFunc_63.l0_k.body p
noncomputable def slices_IndexFunc_63.l0 (a_0 : List Int) (p_1 : Int → Option Bool) (x_7 : Int) (x_8 : Int) : Option (Int) := slices_IndexFunc_63.l0_k.go (.l0 a_0 p_1 x_7 x_8)
theorem slices_IndexFunc_63.l0_eq (a_0 : List Int) (p_1 : Int → Option Bool) (x_7 : Int) (x_8 : Int) : slices_IndexFunc_63.l0 a_0 p_1 x_7 x_8 = if x_8 < x_7 then (Option.bind (gi a_0 x_8) fun y1 => Option.bind (p_1 y1) fun y8 => if y8 = true then (some (x_8)) else ((slices_IndexFunc_63.l0 a_0 p_1 x_7 (IntKind.wrap .i64 (x_8 + (1 : Int)))))) else (some ((-1 : Int))) := fixF_eq slices_IndexFunc_63.l0_k.mono _
def slices_IndexFunc_63.l0_k.I : (p : slices_IndexFunc_63.l0_k.Pt) → (Int) → Prop
  | .l0 a_0 p_1 x_7 x_8, r => ∀ (W : Nat → Prop) (h0 m0 h m : Heap) (A_0 : Option Addr) (n_0 c_0 : Nat) (fv_1 : Value) (O : Hold W h0 m0 h m []) (ne_0 : n_0 = List.length a_0) (k_0 : List.length a_0 ≤ c_0) (r_0 : Rd 1 (eInt .i64) m A_0 a_0) (f_1 : ∀ h' m', Sub m0 m' → Sub m' h' → ∀ (x0 : Int) (r : Bool), p_1 x0 = some r → CallF Try.prog fv_1 [.int .i64 x0] h' (fun v h'' => v = .bool r ∧ Ext h' h'')), f63.l0 (slices_IndexFunc_63.post W h0 m0 r) A_0 n_0 c_0 fv_1 x_7 x_8 h
set_option maxRecDepth 100000 in
theorem slices_IndexFunc_63.l0_k.step_l0 (go : (p : slices_IndexFunc_63.l0_k.Pt) → Option (Int)) (ih : ∀ p r, go p = some r → slices_IndexFunc_63.l0_k.I p r) (a_0 : List Int) (p_1 : Int → Option Bool) (x_7 : Int) (x_8 : Int) (r : Int) (e : slices_IndexFunc_63.l0_k.body go (.l0 a_0 p_1 x_7 x_8) = some r) : slices_IndexFunc_63.l0_k.I (.l0 a_0 p_1 x_7 x_8) r := by
  unfold slices_IndexFunc_63.l0_k.body at e
  intro W h0 m0 h m A_0 n_0 c_0 fv_1 O ne_0 k_0 r_0 f_1
  subst ne_0
  refine f63.l0_in ?_
  unfold f63.l0T
  refine split_dec_e e (fun c14 e => ?_) (fun c14 e => ?_)
  · obtain ⟨y1, g2, e⟩ := bind_e e
    refine r_0.addr rfl g2 fun a3 cs4 ha5 hc6 he7 => ?_
    obtain rfl : cs4 = [(Value.int .i64 y1)] := he7
    refine ⟨_, ld0 O.s hc6 rfl, _, rfl, ?_⟩
    obtain ⟨y8, g9, e⟩ := bind_e e
    refine CallF.mono (f_1 _ _ O.up O.s _ _ g9) ?_
    rintro _ h10 ⟨rfl, x11⟩
    have O12 := O.ext x11
    refine ⟨_, rfl, ?_⟩
    refine split_any_e e (fun c13 e => ?_) (fun c13 e => ?_)
    · cases e
      exact ⟨_, O12.pick [], rfl⟩
    · exact (ih _ _ e) _ _ _ _ _ _ _ _ _ (O12.pick []).nm rfl k_0 r_0 f_1
  · cases e
    exact ⟨_, O.pick [], rfl⟩
theorem slices_IndexFunc_63.l0_k.all {p : slices_IndexFunc_63.l0_k.Pt} {r : (Int)} (e : slices_IndexFunc_63.l0_k.go p = some r) : slices_IndexFunc_63.l0_k.I p r := fixF_ind (β := fun _ => (Int)) slices_IndexFunc_63.l0_k.mono (I := slices_IndexFunc_63.l0_k.I) (fun go ih p r e => match p with
  | .l0 a_0 p_1 x_7 x_8 => slices_IndexFunc_63.l0_k.step_l0 go ih a_0 p_1 x_7 x_8 r e
  ) e
theorem slices_IndexFunc_63.l0.walk {W : Nat → Prop} {h0 m0 h m : Heap} {A_0 : Option Addr} {n_0 c_0 : Nat} {fv_1 : Value} {a_0 : List Int} {p_1 : Int → Option Bool} {x_7 : Int} {x_8 : Int} (O : Hold W h0 m0 h m []) (ne_0 : n_0 = List.length a_0) (k_0 : List.length a_0 ≤ c_0) (r_0 : Rd 1 (eInt .i64) m A_0 a_0) (f_1 : ∀ h' m', Sub m0 m' → Sub m' h' → ∀ (x0 : Int) (r : Bool), p_1 x0 = some r → CallF Try.prog fv_1 [.int .i64 x0] h' (fun v h'' => v = .bool r ∧ Ext h' h'')) {r : Int} (e : slices_IndexFunc_63.l0 a_0 p_1 x_7 x_8 = some r) : f63.l0 (slices_IndexFunc_63.post W h0 m0 r) A_0 n_0 c_0 fv_1 x_7 x_8 h := slices_IndexFunc_63.l0_k.all (p := .l0 a_0 p_1 x_7 x_8) e W h0 m0 h m A_0 n_0 c_0 fv_1 O ne_0 k_0 r_0 f_1
noncomputable def slices_IndexFunc_63 (a_0 : List Int) (p_1 : Int → Option Bool) : Option (Int) :=
  (slices_IndexFunc_63.l0 a_0 p_1 (((List.length a_0) : Nat) : Int) (0 : Int))
set_option maxRecDepth 100000 in
theorem slices_IndexFunc_63.walk {W : Nat → Prop} {h m : Heap} {A_0 : Option Addr} {n_0 c_0 : Nat} {fv_1 : Value} {a_0 : List Int} {p_1 : Int → Option Bool} (O : Hold W h m h m []) (ne_0 : n_0 = List.length a_0) (k_0 : List.length a_0 ≤ c_0) (r_0 : Rd 1 (eInt .i64) m A_0 a_0) (f_1 : ∀ h' m', Sub m m' → Sub m' h' → ∀ (x0 : Int) (r : Bool), p_1 x0 = some r → CallF Try.prog fv_1 [.int .i64 x0] h' (fun v h'' => v = .bool r ∧ Ext h' h'')) {r : Int} (e : slices_IndexFunc_63 a_0 p_1 = some r) : Run Try.prog 63 #[Value.slice A_0 n_0 c_0, fv_1] h (slices_IndexFunc_63.post W h m r) := by
  unfold slices_IndexFunc_63 at e
  subst ne_0
  refine f63.run ?_
  unfold f63.runT
  exact slices_IndexFunc_63.l0.walk (O.pick []).nm rfl k_0 r_0 f_1 e
theorem slices_IndexFunc_63.val {l : List Int} {p : Int → Option Bool} (q : Int → Bool) (hp : ∀ x ∈ l, p x = some (q x)) (hl : l.length ≤ 4611686018427387904) : slices_IndexFunc_63 l p = some (idxOf q l) := find_val (fun a p n i => slices_IndexFunc_63.l0_eq a p n i) q hp hl
def slices_DeleteFunc_86.post (W : Nat → Prop) (h0 m0 : Heap) (r : (List Int)) (v : Value) (h : Heap) : Prop := ∃ m A0 n0 c0, Hold W h0 m0 h m [rR (aE (tell_int .i64)) A0 c0 r] ∧ v = .slice A0 n0 c0 ∧ n0 = List.length r
inductive slices_DeleteFunc_86.l0_k.Pt where
  | l0 (a_0 : List Int) (p_1 : Int → Option Bool) (x_5 : Int) (x_6 : Int)
  | j0 (a_0 : List Int) (p_1 : Int → Option Bool) (x_5 : Int) (x_6 : Int)
noncomputable def slices_DeleteFunc_86.l0_k.body (go : (p : slices_DeleteFunc_86.l0_k.Pt) → Option ((List Int))) : (p : slices_DeleteFunc_86.l0_k.Pt) → Option ((List Int))
  | .l0 a_0 p_1 x_5 x_6 => if x_6 < (((List.length a_0) : Nat) : Int) then (Option.bind (gi a_0 x_6) fun y1 => Option.bind (p_1 y1) fun y8 => if y8 = true then ((go (.j0 a_0 p_1 x_5 x_6))) else (Option.bind (gi a_0 x_5) fun y13 => Option.bind (some (List.set a_0 (Int.toNat x_5) y1)) fun l22 => (go (.j0 l22 p_1 (IntKind.wrap .i64 (x_5 + (1 : Int))) x_6)))) else (Option.bind (sls a_0 x_5 (((List.length a_0) : Nat) : Int)) fun l26 => Option.bind (sls (clrL a_0 x_5 (((List.length a_0) : Nat) : Int) (0 : Int)) (0 : Int) x_5) fun l31 => some (l31))
  | .j0 a_0 p_1 x_5 x_6 => (go (.l0 a_0 p_1 x_5 (IntKind.wrap .i64 (x_6 + (1 : Int)))))
theorem slices_DeleteFunc_86.l0_k.mono : MonoF (β := fun _ => ((List Int))) slices_DeleteFunc_86.l0_k.body := fun f g hfg p => match p with
  | .l0 a_0 p_1 x_5 x_6 => LeO.ite (LeO.bind (LeO.refl _) fun y1 => LeO.bind (LeO.refl _) fun y8 => LeO.ite ((hfg _)) (LeO.bind (LeO.refl _) fun y13 => LeO.bind (LeO.refl _) fun l22 => (hfg _))) (LeO.bind (LeO.refl _) fun l26 => LeO.bind (LeO.refl _) fun l31 => LeO.refl _)
  | .j0 a_0 p_1 x_5 x_6 => (hfg _)
noncomputable def slices_DeleteFunc_86.l0_k.go (p : slices_DeleteFunc_86.l0_k.Pt) : Option ((List Int)) := fixF (β := fun _ => ((List Int))) slices_DeleteFunc_86.l0_k.body p
noncomputable def slices_DeleteFunc_86.l0 (a_0 : List Int) (p_1 : Int → Option Bool) (x_5 : Int) (x_6 : Int) : Option ((List Int)) := slices_DeleteFunc_86.l0_k.go (.l0 a_0 p_1 x_5 x_6)
noncomputable def slices_DeleteFunc_86.j0 (a_0 : List Int) (p_1 : Int → Option Bool) (x_5 : Int) (x_6 : Int) : Option ((List Int)) := slices_DeleteFunc_86.l0_k.go (.j0 a_0 p_1 x_5 x_6)
theorem slices_DeleteFunc_86.l0_eq (a_0 : List Int) (p_1 : Int → Option Bool) (x_5 : Int) (x_6 : Int) : slices_DeleteFunc_86.l0 a_0 p_1 x_5 x_6 = if x_6 < (((List.length a_0) : Nat) : Int) then (Option.bind (gi a_0 x_6) fun y1 => Option.bind (p_1 y1) fun y8 => if y8 = true then ((slices_DeleteFunc_86.j0 a_0 p_1 x_5 x_6)) else (Option.bind (gi a_0 x_5) fun y13 => Option.bind (some (List.set a_0 (Int.toNat x_5) y1)) fun l22 => (slices_DeleteFunc_86.j0 l22 p_1 (IntKind.wrap .i64 (x_5 + (1 : Int))) x_6))) else (Option.bind (sls a_0 x_5 (((List.length a_0) : Nat) : Int)) fun l26 => Option.bind (sls (clrL a_0 x_5 (((List.length a_0) : Nat) : Int) (0 : Int)) (0 : Int) x_5) fun l31 => some (l31)) := fixF_eq slices_DeleteFunc_86.l0_k.mono _
theorem slices_DeleteFunc_86.j0_eq (a_0 : List Int) (p_1 : Int → Option Bool) (x_5 : Int) (x_6 : Int) : slices_DeleteFunc_86.j0 a_0 p_1 x_5 x_6 = (slices_DeleteFunc_86.l0 a_0 p_1 x_5 (IntKind.wrap .i64 (x_6 + (1 : Int)))) := fixF_eq slices_DeleteFunc_86.l0_k.mono _
def slices_DeleteFunc_86.l0_k.I : (p : slices_DeleteFunc_86.l0_k.Pt) → ((List Int)) → Prop
  | .l0 a_0 p_1 x_5 x_6, r => ∀ (W : Nat → Prop) (h0 m0 h m : Heap) (A_0 : Option Addr) (n_0 c_0 : Nat) (fv_1 : Value) (O : Hold W h0 m0 h m [rR (aE (tell_int .i64)) A_0 c_0 a_0]) (ne_0 : n_0 = List.length a_0) (f_1 : ∀ h' m', Sub m0 m' → Sub m' h' → ∀ (x0 : Int) (r : Bool), p_1 x0 = some r → CallF Try.prog fv_1 [.int .i64 x0] h' (fun v h'' => v = .bool r ∧ Ext h' h'')), f86.l0 (slices_DeleteFunc_86.post W h0 m0 r) A_0 n_0 c_0 fv_1 x_5 x_6 h
  | .j0 a_0 p_1 x_5 x_6, r => ∀ (W : Nat → Prop) (h0 m0 h m : Heap) (A_0 : Option Addr) (n_0 c_0 : Nat) (fv_1 : Value) (O : Hold W h0 m0 h m [rR (aE (tell_int .i64)) A_0 c_0 a_0]) (ne_0 : n_0 = List.length a_0) (f_1 : ∀ h' m', Sub m0 m' → Sub m' h' → ∀ (x0 : Int) (r : Bool), p_1 x0 = some r → CallF Try.prog fv_1 [.int .i64 x0] h' (fun v h'' => v = .bool r ∧ Ext h' h'')), f86.j0 (slices_DeleteFunc_86.post W h0 m0 r) A_0 n_0 c_0 fv_1 x_5 x_6 h
set_option maxHeartbeats 4000000 in
set_option maxRecDepth 100000 in
theorem slices_DeleteFunc_86.l0_k.step_l0 (go : (p : slices_DeleteFunc_86.l0_k.Pt) → Option ((List Int))) (ih : ∀ p r, go p = some r → slices_DeleteFunc_86.l0_k.I p r) (a_0 : List Int) (p_1 : Int → Option Bool) (x_5 : Int) (x_6 : Int) (r : (List Int)) (e : slices_DeleteFunc_86.l0_k.body go (.l0 a_0 p_1 x_5 x_6) = some r) : slices_DeleteFunc_86.l0_k.I (.l0 a_0 p_1 x_5 x_6) r := by
  unfold slices_DeleteFunc_86.l0_k.body at e
  intro W h0 m0 h m A_0 n_0 c_0 fv_1 O ne_0 f_1
  subst ne_0
  refine f86.l0_in ?_
  unfold f86.l0T
  refine split_dec_e e (fun c37 e => ?_) (fun c37 e => ?_)
  · obtain ⟨y1, g2, e⟩ := bind_e e
    refine (O.os 0 rfl).addr rfl g2 fun a3 cs4 ha5 hc6 he7 => ?_
    obtain rfl : cs4 = [(Value.int .i64 y1)] := he7
    refine ⟨_, ld0 (Sub.refl _) hc6 rfl, _, rfl, ?_⟩
    obtain ⟨y8, g9, e⟩ := bind_e e
    refine CallF.mono (f_1 _ _ O.up O.s _ _ g9) ?_
    rintro _ h10 ⟨rfl, x11⟩
    have O12 := O.ext x11
    refine ⟨_, rfl, ?_⟩
    refine split_not ?_
    refine split_any_e e (fun c25 e => ?_) (fun c25 e => ?_)
    · exact (ih _ _ e) _ _ _ _ _ _ _ _ _ (O12.pick [0]).nm rfl f_1
    · obtain ⟨y13, g14, e⟩ := bind_e e
      refine (O12.os 0 rfl).addr rfl g14 fun a15 cs16 ha17 hc18 he19 => ?_
      obtain rfl : cs16 = [(Value.int .i64 y13)] := he19
      obtain ⟨l22, g23, e⟩ := bind_e e
      replace g23 := Option.some.inj g23
      refine O12.elst0 0 rfl g14 ha17 hc18 (by decide) (y' := y1) rfl trivial g23 fun h20 O21 => ?_
      have O24 := O21.nm
      exact (ih _ _ e) _ _ _ _ _ _ _ _ _ (O24.pick [0]).nm (lset' g23) f_1
  · obtain ⟨l26, g27, e⟩ := bind_e e
    have q28 := sls_e g27
    refine ⟨q28.1, q28.2.1, cap_in q28.2.2.1 (O.cap 0 rfl), ?_⟩
    try rw [q28.2.2.2.1]
    refine O.clr (e := 3) (zv := (Value.int .i64 (0 : Int))) (zp := (0 : Int)) 0 rfl g27 (by kernel_rfl) (by kernel_rfl) (show (eInt .i64) m (0 : Int) [(Value.int .i64 (0 : Int))] from rfl) fun h29 O30 => ?_
    refine ⟨rfl, ?_⟩
    obtain ⟨l31, g32, e⟩ := bind_e e
    have q33 := sls_e g32
    refine ⟨q33.1, q33.2.1, cap_in q33.2.2.1 (O30.cap 0 rfl), ?_⟩
    try rw [q33.2.2.2.1]
    have O34 := O30.sls 0 rfl g32
    have O36 := O34.nm
    cases e
    exact ⟨_, _, _, _, O36.pick [0], rfl, rfl⟩
set_option maxRecDepth 100000 in
theorem slices_DeleteFunc_86.l0_k.step_j0 (go : (p : slices_DeleteFunc_86.l0_k.Pt) → Option ((List Int))) (ih : ∀ p r, go p = some r → slices_DeleteFunc_86.l0_k.I p r) (a_0 : List Int) (p_1 : Int → Option Bool) (x_5 : Int) (x_6 : Int) (r : (List Int)) (e : slices_DeleteFunc_86.l0_k.body go (.j0 a_0 p_1 x_5 x_6) = some r) : slices_DeleteFunc_86.l0_k.I (.j0 a_0 p_1 x_5 x_6) r := by
  unfold slices_DeleteFunc_86.l0_k.body at e
  intro W h0 m0 h m A_0 n_0 c_0 fv_1 O ne_0 f_1
  subst ne_0
  refine f86.j0_in ?_
  unfold f86.j0T
  exact (ih _ _ e) _ _ _ _ _ _ _ _ _ (O.pick [0]).nm rfl f_1
theorem slices_DeleteFunc_86.l0_k.all {p : slices_DeleteFunc_86.l0_k.Pt} {r : ((List Int))} (e : slices_DeleteFunc_86.l0_k.go p = some r) : slices_DeleteFunc_86.l0_k.I p r := fixF_ind (β := fun _ => ((List Int))) slices_DeleteFunc_86.l0_k.mono (I := slices_DeleteFunc_86.l0_k.I) (fun go ih p r e => match p with
  | .l0 a_0 p_1 x_5 x_6 => slices_DeleteFunc_86.l0_k.step_l0 go ih a_0 p_1 x_5 x_6 r e
  | .j0 a_0 p_1 x_5 x_6 => slices_DeleteFunc_86.l0_k.step_j0 go ih a_0 p_1 x_5 x_6 r e
  ) e
theorem slices_DeleteFunc_86.l0.walk {W : Nat → Prop} {h0 m0 h m : Heap} {A_0 : Option Addr} {n_0 c_0 : Nat} {fv_1 : Value} {a_0 : List Int} {p_1 : Int → Option Bool} {x_5 : Int} {x_6 : Int} (O : Hold W h0 m0 h m [rR (aE (tell_int .i64)) A_0 c_0 a_0]) (ne_0 : n_0 = List.length a_0) (f_1 : ∀ h' m', Sub m0 m' → Sub m' h' → ∀ (x0 : Int) (r : Bool), p_1 x0 = some r → CallF Try.prog fv_1 [.int .i64 x0] h' (fun v h'' => v = .bool r ∧ Ext h' h'')) {r : (List Int)} (e : slices_DeleteFunc_86.l0 a_0 p_1 x_5 x_6 = some r) : f86.l0 (slices_DeleteFunc_86.post W h0 m0 r) A_0 n_0 c_0 fv_1 x_5 x_6 h := slices_DeleteFunc_86.l0_k.all (p := .l0 a_0 p_1 x_5 x_6) e W h0 m0 h m A_0 n_0 c_0 fv_1 O ne_0 f_1
noncomputable def slices_DeleteFunc_86 (a_0 : List Int) (p_1 : Int → Option Bool) : Option ((List Int)) :=
  Option.bind (slices_IndexFunc_63 a_0 p_1) fun y1 => if y1 = (-1 : Int) then (some (a_0)) else ((slices_DeleteFunc_86.l0 a_0 p_1 y1 (IntKind.wrap .i64 (y1 + (1 : Int)))))
set_option maxRecDepth 100000 in
theorem slices_DeleteFunc_86.walk {W : Nat → Prop} {h m : Heap} {A_0 : Option Addr} {n_0 c_0 : Nat} {fv_1 : Value} {a_0 : List Int} {p_1 : Int → Option Bool} (O : Hold W h m h m [rR (aE (tell_int .i64)) A_0 c_0 a_0]) (ne_0 : n_0 = List.length a_0) (f_1 : ∀ h' m', Sub m m' → Sub m' h' → ∀ (x0 : Int) (r : Bool), p_1 x0 = some r → CallF Try.prog fv_1 [.int .i64 x0] h' (fun v h'' => v = .bool r ∧ Ext h' h'')) {r : (List Int)} (e : slices_DeleteFunc_86 a_0 p_1 = some r) : Run Try.prog 86 #[Value.slice A_0 n_0 c_0, fv_1] h (slices_DeleteFunc_86.post W h m r) := by
  unfold slices_DeleteFunc_86 at e
  subst ne_0
  refine f86.run ?_
  unfold f86.runT
  obtain ⟨y1, g2, e⟩ := bind_e e
  obtain ⟨m7, u8, s13, ⟨⟨r11, k12⟩, _⟩, B9, C10⟩ := O.lend0 [0]
  replace r11 : Rd 1 (eInt .i64) m7 A_0 a_0 := r11
  replace k12 : List.length a_0 ≤ c_0 := k12
  refine (slices_IndexFunc_63.walk (Hold.start (W := No) s13) rfl k12 r11 (fun h' m' u s => f_1 h' m' (u8.trans u) s) g2).mono ?_
  rintro _ h3 ⟨m4, Q5, rfl⟩
  have O14 := Hold.nm (C10 Q5 vfs_nil)
  refine ⟨_, rfl, ?_⟩
  refine split_eq_e e (fun c15 e => ?_) (fun c15 e => ?_)
  · cases e
    exact ⟨_, _, _, _, O14.pick [0], rfl, rfl⟩
  · exact slices_DeleteFunc_86.l0.walk (O14.pick [0]).nm rfl f_1 e
theorem slices_DeleteFunc_86.val {l : List Int} {p : Int → Option Bool} (q : Int → Bool) (hp : ∀ x ∈ l, p x = some (q x)) (hl : l.length ≤ 4611686018427387904) : slices_DeleteFunc_86 l p = some (l.filter fun x => !q x) := deleteFunc_val (z := (0 : Int)) (fun a p i j => slices_DeleteFunc_86.l0_eq a p i j) (fun a p i j => slices_DeleteFunc_86.j0_eq a p i j) q hp hl (slices_IndexFunc_63.val q hp hl) (fun _ _ => rfl)
def ward_recent_1.post (W : Nat → Prop) (h0 m0 : Heap) (r : Bool) (v : Value) (h : Heap) : Prop := ∃ m , Hold W h0 m0 h m [] ∧ v = .bool r
noncomputable def ward_recent_1 (x_0 : Int) (y_1 : Int) (x_2_0 : Int) (x_2_1 : Int) (x_2_2 : Int) : Option (Bool) :=
  some ((decide (x_0 ≤ (IntKind.wrap .i64 (y_1 - x_2_2)))))
set_option maxRecDepth 100000 in
theorem ward_recent_1.walk {W : Nat → Prop} {h m : Heap} {bk_1 : Nat} {bk_2 : Nat} {A_2_3 : Option Addr} {n_2_3 c_2_3 : Nat} {A_2_4 : Option Addr} {n_2_4 c_2_4 : Nat} {x_0 : Int} {y_1 : Int} {x_2_0 : Int} {x_2_1 : Int} {x_2_2 : Int} (O : Hold W h m h m []) (v_1 : VB (eInt .i64) m bk_1 y_1) (hb_2 : Blk m bk_2 [(Value.int .i64 x_2_0), (Value.int .i64 x_2_1), (Value.int .i64 x_2_2), (Value.slice A_2_3 n_2_3 c_2_3), (Value.slice A_2_4 n_2_4 c_2_4)] 25) {r : Bool} (e : ward_recent_1 x_0 y_1 x_2_0 x_2_1 x_2_2 = some r) : Run Try.prog 87 #[Value.int .i64 x_0, Value.pointer (some ⟨bk_1, 0, none⟩), Value.pointer (some ⟨bk_2, 0, none⟩)] h (ward_recent_1.post W h m r) := by
  unfold ward_recent_1 at e
  obtain ⟨cs_1, t_1, hb_1, nn_1, e_1⟩ := id v_1
  obtain rfl : cs_1 = [(Value.int .i64 y_1)] := e_1
  refine f87.run ?_
  unfold f87.runT
  refine ⟨_, ld0 O.s (Blk.all' hb_1) rfl, _, rfl, ?_⟩
  refine ⟨_, ldk (k := 2) O.s (Blk.all' hb_2) rfl, _, rfl, ?_⟩
  cases e
  exact ⟨_, O.pick [], rfl⟩
def ward_recent.post (W : Nat → Prop) (h0 m0 : Heap) (r : (List Int)) (v : Value) (h : Heap) : Prop := ∃ m A0 n0 c0, Hold W h0 m0 h m [rR (aE (tell_int .i64)) A0 c0 r] ∧ v = .slice A0 n0 c0 ∧ n0 = List.length r
noncomputable def ward_recent (y_0 : T_ward_Ward) (x_1 : Int) : Option ((List Int)) :=
  Option.bind (slices_DeleteFunc_86 y_0.Times (fun z24 => ward_recent_1 z24 x_1 y_0.How y_0.Most y_0.Window)) fun y9 => some (y9)
set_option maxRecDepth 100000 in
theorem ward_recent.walk {W : Nat → Prop} {h m : Heap} {A_0_3 : Option Addr} {n_0_3 : Nat} {c_0_3 : Nat} {A_0_4 : Option Addr} {n_0_4 : Nat} {c_0_4 : Nat} {y_0 : T_ward_Ward} {x_1 : Int} (O : Hold W h m h m [rR (aE (tell_int .i64)) A_0_4 c_0_4 y_0.Times]) (ne_0_3 : n_0_3 = List.length y_0.Children) (k_0_3 : List.length y_0.Children ≤ c_0_3) (r_0_3 : Rd 3 T_ward_Child.E m A_0_3 y_0.Children) (ne_0_4 : n_0_4 = List.length y_0.Times) {r : (List Int)} (e : ward_recent y_0 x_1 = some r) : Run Try.prog 50 #[Value.agg #[(Value.int .i64 y_0.How), (Value.int .i64 y_0.Most), (Value.int .i64 y_0.Window), (Value.slice A_0_3 n_0_3 c_0_3), (Value.slice A_0_4 n_0_4 c_0_4)], Value.int .i64 x_1] h (ward_recent.post W h m r) := by
  unfold ward_recent at e
  subst ne_0_3
  subst ne_0_4
  refine f50.run ?_
  unfold f50.runT
  refine O.new fun h1 x2 O3 => ?_
  refine O3.new fun h5 x6 O7 => ?_
  refine ⟨_, ldk (k := 4) (Sub.refl _) (O7.all 1 rfl) rfl, _, _, _, rfl, ?_⟩
  obtain ⟨y9, g10, e⟩ := bind_e e
  have O15 := O7.nm
  obtain ⟨m16, W22, u17, P23, ⟨hb20, hb21, _⟩, B18, C19⟩ := O15.lend [0] [2, 1]
  refine (slices_DeleteFunc_86.walk P23 rfl (fun h25 m26 u27 s28 x31 r29 e30 => CallF.of [Value.int .i64 x31, Value.pointer (some ⟨(Array.size h1), 0, none⟩), Value.pointer (some ⟨(Array.size h), 0, none⟩)] f87.ok rfl ((ward_recent_1.walk (Hold.start (W := No) s28) (VB.sub (show VB (eInt .i64) _ _ _ from ⟨_, _, hb20, nn, rfl⟩) (tell_int .i64) u27) (u27.blk hb21 nn) e30).mono (fun _ _ h => let ⟨_, t, e⟩ := h; ⟨e, t.S.ext⟩))) g10).mono ?_
  rintro _ h11 ⟨m12, A32, n33, c34, Q13, rfl, ne35⟩
  have O37 := Hold.nm (C19 Q13 (vfs_cons (rR_vf (aE_vf (fun _ _ _ _ h => h))) vfs_nil))
  subst ne35
  refine ⟨_, _, _, rfl, ?_⟩
  cases e
  exact ⟨_, _, _, _, O37.pick [3], rfl, rfl⟩
def ward_stop.post (W : Nat → Prop) (h0 m0 : Heap) (r : T_ward_Ward × T_ward_Plan × Int) (v : Value) (h : Heap) : Prop := ∃ m cs0 cs1, Hold W h0 m0 h m [] ∧ v = .tuple #[.agg cs0.toArray, .agg cs1.toArray, .int .i64 r.2.2] ∧ T_ward_Ward.E m r.1 cs0 ∧ T_ward_Plan.E m r.2.1 cs1
inductive ward_stop.l0_k.Pt where
  | l0 (x_1_0 : Int) (x_1_1 : Int) (x_1_2 : Int) (a_1_3 : (List T_ward_Child)) (a_1_4 : (List Int)) (y_2 : T_ward_Ward) (y_3 : T_ward_Plan) (a_5_0 : (List Int)) (a_5_1 : (List Int)) (b_5_2 : Bool) (x_6 : Int)
  | j0 (x_1_0 : Int) (x_1_1 : Int) (x_1_2 : Int) (a_1_3 : (List T_ward_Child)) (a_1_4 : (List Int)) (y_2 : T_ward_Ward) (y_3 : T_ward_Plan) (a_5_0 : (List Int)) (a_5_1 : (List Int)) (b_5_2 : Bool) (x_6 : Int)
noncomputable def ward_stop.l0_k.body (go : (p : ward_stop.l0_k.Pt) → Option (T_ward_Ward × T_ward_Plan × Int)) : (p : ward_stop.l0_k.Pt) → Option (T_ward_Ward × T_ward_Plan × Int)
  | .l0 x_1_0 x_1_1 x_1_2 a_1_3 a_1_4 y_2 y_3 a_5_0 a_5_1 b_5_2 x_6 => if x_6 ≥ (0 : Int) then (Option.bind (gi a_1_3 x_6) fun y1 => if y1.Lives = true then (Option.bind (ap 8 a_5_0 ([y1.Id] : List Int)) fun l12 => Option.bind (some (List.set a_1_3 (Int.toNat x_6) ({ y1 with Lives := false }))) fun l30 => (go (.j0 x_1_0 x_1_1 x_1_2 l30 a_1_4 y_2 y_3 l12 a_5_1 b_5_2 x_6))) else ((go (.j0 x_1_0 x_1_1 x_1_2 a_1_3 a_1_4 y_2 y_3 a_5_0 a_5_1 b_5_2 x_6)))) else (some ((T_ward_Ward.mk x_1_0 x_1_1 x_1_2 a_1_3 a_1_4), (T_ward_Plan.mk a_5_0 a_5_1 b_5_2), (0 : Int)))
  | .j0 x_1_0 x_1_1 x_1_2 a_1_3 a_1_4 y_2 y_3 a_5_0 a_5_1 b_5_2 x_6 => (go (.l0 x_1_0 x_1_1 x_1_2 a_1_3 a_1_4 y_2 y_3 a_5_0 a_5_1 b_5_2 (IntKind.wrap .i64 (x_6 - (1 : Int)))))
theorem ward_stop.l0_k.mono : MonoF (β := fun _ => (T_ward_Ward × T_ward_Plan × Int)) ward_stop.l0_k.body := fun f g hfg p => match p with
  | .l0 x_1_0 x_1_1 x_1_2 a_1_3 a_1_4 y_2 y_3 a_5_0 a_5_1 b_5_2 x_6 => LeO.ite (LeO.bind (LeO.refl _) fun y1 => LeO.ite (LeO.bind (LeO.refl _) fun l12 => LeO.bind (LeO.refl _) fun l30 => (hfg _)) ((hfg _))) (LeO.refl _)
  | .j0 x_1_0 x_1_1 x_1_2 a_1_3 a_1_4 y_2 y_3 a_5_0 a_5_1 b_5_2 x_6 => (hfg _)
noncomputable def ward_stop.l0_k.go (p : ward_stop.l0_k.Pt) : Option (T_ward_Ward × T_ward_Plan × Int) := fixF (β := fun _ => (T_ward_Ward × T_ward_Plan × Int)) ward_stop.l0_k.body p
noncomputable def ward_stop.l0 (x_1_0 : Int) (x_1_1 : Int) (x_1_2 : Int) (a_1_3 : (List T_ward_Child)) (a_1_4 : (List Int)) (y_2 : T_ward_Ward) (y_3 : T_ward_Plan) (a_5_0 : (List Int)) (a_5_1 : (List Int)) (b_5_2 : Bool) (x_6 : Int) : Option (T_ward_Ward × T_ward_Plan × Int) := ward_stop.l0_k.go (.l0 x_1_0 x_1_1 x_1_2 a_1_3 a_1_4 y_2 y_3 a_5_0 a_5_1 b_5_2 x_6)
noncomputable def ward_stop.j0 (x_1_0 : Int) (x_1_1 : Int) (x_1_2 : Int) (a_1_3 : (List T_ward_Child)) (a_1_4 : (List Int)) (y_2 : T_ward_Ward) (y_3 : T_ward_Plan) (a_5_0 : (List Int)) (a_5_1 : (List Int)) (b_5_2 : Bool) (x_6 : Int) : Option (T_ward_Ward × T_ward_Plan × Int) := ward_stop.l0_k.go (.j0 x_1_0 x_1_1 x_1_2 a_1_3 a_1_4 y_2 y_3 a_5_0 a_5_1 b_5_2 x_6)
theorem ward_stop.l0_eq (x_1_0 : Int) (x_1_1 : Int) (x_1_2 : Int) (a_1_3 : (List T_ward_Child)) (a_1_4 : (List Int)) (y_2 : T_ward_Ward) (y_3 : T_ward_Plan) (a_5_0 : (List Int)) (a_5_1 : (List Int)) (b_5_2 : Bool) (x_6 : Int) : ward_stop.l0 x_1_0 x_1_1 x_1_2 a_1_3 a_1_4 y_2 y_3 a_5_0 a_5_1 b_5_2 x_6 = if x_6 ≥ (0 : Int) then (Option.bind (gi a_1_3 x_6) fun y1 => if y1.Lives = true then (Option.bind (ap 8 a_5_0 ([y1.Id] : List Int)) fun l12 => Option.bind (some (List.set a_1_3 (Int.toNat x_6) ({ y1 with Lives := false }))) fun l30 => (ward_stop.j0 x_1_0 x_1_1 x_1_2 l30 a_1_4 y_2 y_3 l12 a_5_1 b_5_2 x_6)) else ((ward_stop.j0 x_1_0 x_1_1 x_1_2 a_1_3 a_1_4 y_2 y_3 a_5_0 a_5_1 b_5_2 x_6))) else (some ((T_ward_Ward.mk x_1_0 x_1_1 x_1_2 a_1_3 a_1_4), (T_ward_Plan.mk a_5_0 a_5_1 b_5_2), (0 : Int))) := fixF_eq ward_stop.l0_k.mono _
theorem ward_stop.j0_eq (x_1_0 : Int) (x_1_1 : Int) (x_1_2 : Int) (a_1_3 : (List T_ward_Child)) (a_1_4 : (List Int)) (y_2 : T_ward_Ward) (y_3 : T_ward_Plan) (a_5_0 : (List Int)) (a_5_1 : (List Int)) (b_5_2 : Bool) (x_6 : Int) : ward_stop.j0 x_1_0 x_1_1 x_1_2 a_1_3 a_1_4 y_2 y_3 a_5_0 a_5_1 b_5_2 x_6 = (ward_stop.l0 x_1_0 x_1_1 x_1_2 a_1_3 a_1_4 y_2 y_3 a_5_0 a_5_1 b_5_2 (IntKind.wrap .i64 (x_6 - (1 : Int)))) := fixF_eq ward_stop.l0_k.mono _
def ward_stop.l0_k.I : (p : ward_stop.l0_k.Pt) → (T_ward_Ward × T_ward_Plan × Int) → Prop
  | .l0 x_1_0 x_1_1 x_1_2 a_1_3 a_1_4 y_2 y_3 a_5_0 a_5_1 b_5_2 x_6, r => ∀ (W : Nat → Prop) (h0 m0 h m : Heap) (bk_1 : Nat) (A_1_3_0 : Option Addr) (n_1_3_0 : Nat) (c_1_3_0 : Nat) (A_1_4_0 : Option Addr) (n_1_4_0 : Nat) (c_1_4_0 : Nat) (bk_2 : Nat) (cs_2 : List Value) (bk_3 : Nat) (cs_3 : List Value) (bk_5 : Nat) (A_5_0_0 : Option Addr) (n_5_0_0 : Nat) (c_5_0_0 : Nat) (A_5_1_0 : Option Addr) (n_5_1_0 : Nat) (c_5_1_0 : Nat) (O : Hold W h0 m0 h m [rV bk_1 25 [(Value.int .i64 x_1_0), (Value.int .i64 x_1_1), (Value.int .i64 x_1_2), (Value.slice A_1_3_0 n_1_3_0 c_1_3_0), (Value.slice A_1_4_0 n_1_4_0 c_1_4_0)], rR (aE T_ward_Child.T) A_1_3_0 c_1_3_0 a_1_3, rV bk_2 25 cs_2, rV bk_3 31 cs_3, rV bk_5 31 [(Value.slice A_5_0_0 n_5_0_0 c_5_0_0), (Value.slice A_5_1_0 n_5_1_0 c_5_1_0), (Value.bool b_5_2)], rR (aE (tell_int .i64)) A_5_0_0 c_5_0_0 a_5_0]) (ne_1_3_0 : n_1_3_0 = List.length a_1_3) (ne_1_4_0 : n_1_4_0 = List.length a_1_4) (k_1_4_0 : List.length a_1_4 ≤ c_1_4_0) (r_1_4_0 : Rd 1 (eInt .i64) m A_1_4_0 a_1_4) (e_2 : T_ward_Ward.E m y_2 cs_2) (e_3 : T_ward_Plan.E m y_3 cs_3) (ne_5_0_0 : n_5_0_0 = List.length a_5_0) (ne_5_1_0 : n_5_1_0 = List.length a_5_1) (k_5_1_0 : List.length a_5_1 ≤ c_5_1_0) (r_5_1_0 : Rd 1 (eInt .i64) m A_5_1_0 a_5_1), f51.l0 (ward_stop.post W h0 m0 r) (⟨bk_1, 0, none⟩ : Addr) (⟨bk_2, 0, none⟩ : Addr) (⟨bk_3, 0, none⟩ : Addr) (⟨bk_5, 0, none⟩ : Addr) x_6 h
  | .j0 x_1_0 x_1_1 x_1_2 a_1_3 a_1_4 y_2 y_3 a_5_0 a_5_1 b_5_2 x_6, r => ∀ (W : Nat → Prop) (h0 m0 h m : Heap) (bk_1 : Nat) (A_1_3_0 : Option Addr) (n_1_3_0 : Nat) (c_1_3_0 : Nat) (A_1_4_0 : Option Addr) (n_1_4_0 : Nat) (c_1_4_0 : Nat) (bk_2 : Nat) (cs_2 : List Value) (bk_3 : Nat) (cs_3 : List Value) (bk_5 : Nat) (A_5_0_0 : Option Addr) (n_5_0_0 : Nat) (c_5_0_0 : Nat) (A_5_1_0 : Option Addr) (n_5_1_0 : Nat) (c_5_1_0 : Nat) (O : Hold W h0 m0 h m [rV bk_1 25 [(Value.int .i64 x_1_0), (Value.int .i64 x_1_1), (Value.int .i64 x_1_2), (Value.slice A_1_3_0 n_1_3_0 c_1_3_0), (Value.slice A_1_4_0 n_1_4_0 c_1_4_0)], rR (aE T_ward_Child.T) A_1_3_0 c_1_3_0 a_1_3, rV bk_2 25 cs_2, rV bk_3 31 cs_3, rV bk_5 31 [(Value.slice A_5_0_0 n_5_0_0 c_5_0_0), (Value.slice A_5_1_0 n_5_1_0 c_5_1_0), (Value.bool b_5_2)], rR (aE (tell_int .i64)) A_5_0_0 c_5_0_0 a_5_0]) (ne_1_3_0 : n_1_3_0 = List.length a_1_3) (ne_1_4_0 : n_1_4_0 = List.length a_1_4) (k_1_4_0 : List.length a_1_4 ≤ c_1_4_0) (r_1_4_0 : Rd 1 (eInt .i64) m A_1_4_0 a_1_4) (e_2 : T_ward_Ward.E m y_2 cs_2) (e_3 : T_ward_Plan.E m y_3 cs_3) (ne_5_0_0 : n_5_0_0 = List.length a_5_0) (ne_5_1_0 : n_5_1_0 = List.length a_5_1) (k_5_1_0 : List.length a_5_1 ≤ c_5_1_0) (r_5_1_0 : Rd 1 (eInt .i64) m A_5_1_0 a_5_1), f51.j0 (ward_stop.post W h0 m0 r) (⟨bk_1, 0, none⟩ : Addr) (⟨bk_2, 0, none⟩ : Addr) (⟨bk_3, 0, none⟩ : Addr) (⟨bk_5, 0, none⟩ : Addr) x_6 h
set_option maxHeartbeats 4000000 in
set_option maxRecDepth 100000 in
theorem ward_stop.l0_k.step_l0 (go : (p : ward_stop.l0_k.Pt) → Option (T_ward_Ward × T_ward_Plan × Int)) (ih : ∀ p r, go p = some r → ward_stop.l0_k.I p r) (x_1_0 : Int) (x_1_1 : Int) (x_1_2 : Int) (a_1_3 : (List T_ward_Child)) (a_1_4 : (List Int)) (y_2 : T_ward_Ward) (y_3 : T_ward_Plan) (a_5_0 : (List Int)) (a_5_1 : (List Int)) (b_5_2 : Bool) (x_6 : Int) (r : T_ward_Ward × T_ward_Plan × Int) (e : ward_stop.l0_k.body go (.l0 x_1_0 x_1_1 x_1_2 a_1_3 a_1_4 y_2 y_3 a_5_0 a_5_1 b_5_2 x_6) = some r) : ward_stop.l0_k.I (.l0 x_1_0 x_1_1 x_1_2 a_1_3 a_1_4 y_2 y_3 a_5_0 a_5_1 b_5_2 x_6) r := by
  unfold ward_stop.l0_k.body at e
  intro W h0 m0 h m bk_1 A_1_3_0 n_1_3_0 c_1_3_0 A_1_4_0 n_1_4_0 c_1_4_0 bk_2 cs_2 bk_3 cs_3 bk_5 A_5_0_0 n_5_0_0 c_5_0_0 A_5_1_0 n_5_1_0 c_5_1_0 O ne_1_3_0 ne_1_4_0 k_1_4_0 r_1_4_0 e_2 e_3 ne_5_0_0 ne_5_1_0 k_5_1_0 r_5_1_0
  subst ne_1_3_0
  subst ne_1_4_0
  subst ne_5_0_0
  subst ne_5_1_0
  refine f51.l0_in ?_
  unfold f51.l0T
  refine split_dec_e e (fun c79 e => ?_) (fun c79 e => ?_)
  · refine ⟨_, ldk (k := 3) (Sub.refl _) (O.all 0 rfl) rfl, _, _, _, rfl, ?_⟩
    obtain ⟨y1, g2, e⟩ := bind_e e
    refine (O.os 1 rfl).addr rfl g2 fun a3 cs4 ha5 hc6 he7 => ?_
    refine ⟨_, ldk (k := 2) (Sub.refl _) hc6 (T_ward_Child.g2 he7), _, rfl, ?_⟩
    refine split_any_e e (fun c33 e => ?_) (fun c33 e => ?_)
    · refine ⟨_, ld0 (Sub.refl _) (O.all 4 rfl) rfl, _, _, _, rfl, ?_⟩
      refine ⟨_, ld0 (Sub.refl _) hc6 (T_ward_Child.g0 he7), _, rfl, ?_⟩
      refine O.new fun h8 x9 O10 => ?_
      refine ⟨x9, ?_⟩
      obtain ⟨l12, g13, e⟩ := bind_e e
      have O20 := O10.rowE (l := ([y1.Id] : List Int)) 6 rfl (tell_int .i64) (show CsE _ _ _ _ _ from (CsE.cons (c1 := [(Value.int .i64 y1.Id)]) rfl rfl CsE.nil)) rfl
      refine O20.app 5 rfl rfl rfl ((O20.os 6 rfl).srcE rfl) (by decide) g13 fun A14 c15 h16 O17 => ?_
      refine ⟨_, _, _, rfl, ?_⟩
      refine O17.st0 4 rfl (Nat.le_of_ble_eq_true rfl) trivial fun h21 O22 => ?_
      obtain ⟨l30, g31, e⟩ := bind_e e
      obtain ⟨a23, cs24, ha27, hc25, he26⟩ := (O22.os 1 rfl).cellsAt g2
      cases ha5.symm.trans ha27
      replace g31 := Option.some.inj g31
      refine O22.elst 1 rfl g2 ha5 hc25 2 (by decide) (y' := ({ y1 with Lives := false })) (T_ward_Child.s2 he26 false) trivial g31 fun h28 O29 => ?_
      have O32 := O29.nm
      exact (ih _ _ e) _ _ _ _ _ _ _ _ _ _ _ _ _ _ _ _ _ _ _ _ _ _ _ (O32.pick [0, 1, 2, 3, 4, 5]).nm (lset' g31) rfl k_1_4_0 r_1_4_0 e_2 e_3 rfl rfl k_5_1_0 r_5_1_0
    · exact (ih _ _ e) _ _ _ _ _ _ _ _ _ _ _ _ _ _ _ _ _ _ _ _ _ _ _ (O.pick [0, 1, 2, 3, 4, 5]).nm rfl rfl k_1_4_0 r_1_4_0 e_2 e_3 rfl rfl k_5_1_0 r_5_1_0
  · refine ⟨_, ldAn (Sub.refl _) (O.all 0 rfl) rfl, ?_⟩
    refine ⟨?_, ?_⟩
    · refine ⟨_, ldAn (Sub.refl _) (O.all 4 rfl) rfl, ?_⟩
      refine ⟨Ext.refl _, ?_⟩
      refine ⟨_, rfl, rfl, ?_⟩
      refine O.stA 2 rfl ((T_ward_Ward.T.len _ _ _ e_2)).symm (Flats.cons trivial (Flats.cons trivial (Flats.cons trivial (Flats.cons trivial (Flats.cons trivial Flats.nil))))) fun h49 O50 => ?_
      refine ⟨_, rfl, rfl, ?_⟩
      refine O50.stA 3 rfl ((T_ward_Plan.T.len _ _ _ e_3)).symm (Flats.cons trivial (Flats.cons trivial (Flats.cons trivial Flats.nil))) fun h51 O52 => ?_
      refine ⟨_, ldAn (Sub.refl _) (O52.all 2 rfl) rfl, ?_⟩
      refine ⟨_, ldAn (Sub.refl _) (O52.all 3 rfl) rfl, ?_⟩
      obtain ⟨m53, u54, ⟨r55, k56⟩, O57⟩ := O52.frz 1 rfl
      replace r55 : Rd 3 T_ward_Child.E m53 A_1_3_0 a_1_3 := r55
      obtain ⟨m58, u59, ⟨r60, k61⟩, O62⟩ := O57.frz 5 rfl
      replace r60 : Rd 1 (eInt .i64) m58 A_5_0_0 a_5_0 := r60
      have O63 := O62.nm
      cases e
      exact ⟨_, _, _, O63.pick [], rfl, (show T_ward_Ward.E _ (T_ward_Ward.mk x_1_0 x_1_1 x_1_2 a_1_3 a_1_4) [(Value.int .i64 x_1_0), (Value.int .i64 x_1_1), (Value.int .i64 x_1_2), (Value.slice A_1_3_0 (List.length a_1_3) c_1_3_0), (Value.slice A_1_4_0 (List.length a_1_4) c_1_4_0)] from ⟨_, _, _, _, rfl, k56, (r55.sub T_ward_Child.T u59), k_1_4_0, (r_1_4_0.sub (tell_int .i64) (u54.trans u59))⟩), (show T_ward_Plan.E _ (T_ward_Plan.mk a_5_0 a_5_1 b_5_2) [(Value.slice A_5_0_0 (List.length a_5_0) c_5_0_0), (Value.slice A_5_1_0 (List.length a_5_1) c_5_1_0), (Value.bool b_5_2)] from ⟨_, _, _, _, rfl, k61, r60, k_5_1_0, (r_5_1_0.sub (tell_int .i64) (u54.trans u59))⟩)⟩
    · refine ⟨_, rfl, rfl, ?_⟩
      refine O.stA 2 rfl ((T_ward_Ward.T.len _ _ _ e_2)).symm (Flats.cons trivial (Flats.cons trivial (Flats.cons trivial (Flats.cons trivial (Flats.cons trivial Flats.nil))))) fun h64 O65 => ?_
      refine ⟨_, ldAn (Sub.refl _) (O65.all 4 rfl) rfl, ?_⟩
      refine ⟨Ext.refl _, ?_⟩
      refine ⟨_, rfl, rfl, ?_⟩
      refine O65.stA 3 rfl ((T_ward_Plan.T.len _ _ _ e_3)).symm (Flats.cons trivial (Flats.cons trivial (Flats.cons trivial Flats.nil))) fun h66 O67 => ?_
      refine ⟨_, ldAn (Sub.refl _) (O67.all 2 rfl) rfl, ?_⟩
      refine ⟨_, ldAn (Sub.refl _) (O67.all 3 rfl) rfl, ?_⟩
      obtain ⟨m68, u69, ⟨r70, k71⟩, O72⟩ := O67.frz 1 rfl
      replace r70 : Rd 3 T_ward_Child.E m68 A_1_3_0 a_1_3 := r70
      obtain ⟨m73, u74, ⟨r75, k76⟩, O77⟩ := O72.frz 5 rfl
      replace r75 : Rd 1 (eInt .i64) m73 A_5_0_0 a_5_0 := r75
      have O78 := O77.nm
      cases e
      exact ⟨_, _, _, O78.pick [], rfl, (show T_ward_Ward.E _ (T_ward_Ward.mk x_1_0 x_1_1 x_1_2 a_1_3 a_1_4) [(Value.int .i64 x_1_0), (Value.int .i64 x_1_1), (Value.int .i64 x_1_2), (Value.slice A_1_3_0 (List.length a_1_3) c_1_3_0), (Value.slice A_1_4_0 (List.length a_1_4) c_1_4_0)] from ⟨_, _, _, _, rfl, k71, (r70.sub T_ward_Child.T u74), k_1_4_0, (r_1_4_0.sub (tell_int .i64) (u69.trans u74))⟩), (show T_ward_Plan.E _ (T_ward_Plan.mk a_5_0 a_5_1 b_5_2) [(Value.slice A_5_0_0 (List.length a_5_0) c_5_0_0), (Value.slice A_5_1_0 (List.length a_5_1) c_5_1_0), (Value.bool b_5_2)] from ⟨_, _, _, _, rfl, k76, r75, k_5_1_0, (r_5_1_0.sub (tell_int .i64) (u69.trans u74))⟩)⟩
set_option maxRecDepth 100000 in
theorem ward_stop.l0_k.step_j0 (go : (p : ward_stop.l0_k.Pt) → Option (T_ward_Ward × T_ward_Plan × Int)) (ih : ∀ p r, go p = some r → ward_stop.l0_k.I p r) (x_1_0 : Int) (x_1_1 : Int) (x_1_2 : Int) (a_1_3 : (List T_ward_Child)) (a_1_4 : (List Int)) (y_2 : T_ward_Ward) (y_3 : T_ward_Plan) (a_5_0 : (List Int)) (a_5_1 : (List Int)) (b_5_2 : Bool) (x_6 : Int) (r : T_ward_Ward × T_ward_Plan × Int) (e : ward_stop.l0_k.body go (.j0 x_1_0 x_1_1 x_1_2 a_1_3 a_1_4 y_2 y_3 a_5_0 a_5_1 b_5_2 x_6) = some r) : ward_stop.l0_k.I (.j0 x_1_0 x_1_1 x_1_2 a_1_3 a_1_4 y_2 y_3 a_5_0 a_5_1 b_5_2 x_6) r := by
  unfold ward_stop.l0_k.body at e
  intro W h0 m0 h m bk_1 A_1_3_0 n_1_3_0 c_1_3_0 A_1_4_0 n_1_4_0 c_1_4_0 bk_2 cs_2 bk_3 cs_3 bk_5 A_5_0_0 n_5_0_0 c_5_0_0 A_5_1_0 n_5_1_0 c_5_1_0 O ne_1_3_0 ne_1_4_0 k_1_4_0 r_1_4_0 e_2 e_3 ne_5_0_0 ne_5_1_0 k_5_1_0 r_5_1_0
  subst ne_1_3_0
  subst ne_1_4_0
  subst ne_5_0_0
  subst ne_5_1_0
  refine f51.j0_in ?_
  unfold f51.j0T
  exact (ih _ _ e) _ _ _ _ _ _ _ _ _ _ _ _ _ _ _ _ _ _ _ _ _ _ _ (O.pick [0, 1, 2, 3, 4, 5]).nm rfl rfl k_1_4_0 r_1_4_0 e_2 e_3 rfl rfl k_5_1_0 r_5_1_0
theorem ward_stop.l0_k.all {p : ward_stop.l0_k.Pt} {r : (T_ward_Ward × T_ward_Plan × Int)} (e : ward_stop.l0_k.go p = some r) : ward_stop.l0_k.I p r := fixF_ind (β := fun _ => (T_ward_Ward × T_ward_Plan × Int)) ward_stop.l0_k.mono (I := ward_stop.l0_k.I) (fun go ih p r e => match p with
  | .l0 x_1_0 x_1_1 x_1_2 a_1_3 a_1_4 y_2 y_3 a_5_0 a_5_1 b_5_2 x_6 => ward_stop.l0_k.step_l0 go ih x_1_0 x_1_1 x_1_2 a_1_3 a_1_4 y_2 y_3 a_5_0 a_5_1 b_5_2 x_6 r e
  | .j0 x_1_0 x_1_1 x_1_2 a_1_3 a_1_4 y_2 y_3 a_5_0 a_5_1 b_5_2 x_6 => ward_stop.l0_k.step_j0 go ih x_1_0 x_1_1 x_1_2 a_1_3 a_1_4 y_2 y_3 a_5_0 a_5_1 b_5_2 x_6 r e
  ) e
theorem ward_stop.l0.walk {W : Nat → Prop} {h0 m0 h m : Heap} {bk_1 : Nat} {A_1_3_0 : Option Addr} {n_1_3_0 : Nat} {c_1_3_0 : Nat} {A_1_4_0 : Option Addr} {n_1_4_0 : Nat} {c_1_4_0 : Nat} {bk_2 : Nat} {cs_2 : List Value} {bk_3 : Nat} {cs_3 : List Value} {bk_5 : Nat} {A_5_0_0 : Option Addr} {n_5_0_0 : Nat} {c_5_0_0 : Nat} {A_5_1_0 : Option Addr} {n_5_1_0 : Nat} {c_5_1_0 : Nat} {x_1_0 : Int} {x_1_1 : Int} {x_1_2 : Int} {a_1_3 : (List T_ward_Child)} {a_1_4 : (List Int)} {y_2 : T_ward_Ward} {y_3 : T_ward_Plan} {a_5_0 : (List Int)} {a_5_1 : (List Int)} {b_5_2 : Bool} {x_6 : Int} (O : Hold W h0 m0 h m [rV bk_1 25 [(Value.int .i64 x_1_0), (Value.int .i64 x_1_1), (Value.int .i64 x_1_2), (Value.slice A_1_3_0 n_1_3_0 c_1_3_0), (Value.slice A_1_4_0 n_1_4_0 c_1_4_0)], rR (aE T_ward_Child.T) A_1_3_0 c_1_3_0 a_1_3, rV bk_2 25 cs_2, rV bk_3 31 cs_3, rV bk_5 31 [(Value.slice A_5_0_0 n_5_0_0 c_5_0_0), (Value.slice A_5_1_0 n_5_1_0 c_5_1_0), (Value.bool b_5_2)], rR (aE (tell_int .i64)) A_5_0_0 c_5_0_0 a_5_0]) (ne_1_3_0 : n_1_3_0 = List.length a_1_3) (ne_1_4_0 : n_1_4_0 = List.length a_1_4) (k_1_4_0 : List.length a_1_4 ≤ c_1_4_0) (r_1_4_0 : Rd 1 (eInt .i64) m A_1_4_0 a_1_4) (e_2 : T_ward_Ward.E m y_2 cs_2) (e_3 : T_ward_Plan.E m y_3 cs_3) (ne_5_0_0 : n_5_0_0 = List.length a_5_0) (ne_5_1_0 : n_5_1_0 = List.length a_5_1) (k_5_1_0 : List.length a_5_1 ≤ c_5_1_0) (r_5_1_0 : Rd 1 (eInt .i64) m A_5_1_0 a_5_1) {r : T_ward_Ward × T_ward_Plan × Int} (e : ward_stop.l0 x_1_0 x_1_1 x_1_2 a_1_3 a_1_4 y_2 y_3 a_5_0 a_5_1 b_5_2 x_6 = some r) : f51.l0 (ward_stop.post W h0 m0 r) (⟨bk_1, 0, none⟩ : Addr) (⟨bk_2, 0, none⟩ : Addr) (⟨bk_3, 0, none⟩ : Addr) (⟨bk_5, 0, none⟩ : Addr) x_6 h := ward_stop.l0_k.all (p := .l0 x_1_0 x_1_1 x_1_2 a_1_3 a_1_4 y_2 y_3 a_5_0 a_5_1 b_5_2 x_6) e W h0 m0 h m bk_1 A_1_3_0 n_1_3_0 c_1_3_0 A_1_4_0 n_1_4_0 c_1_4_0 bk_2 cs_2 bk_3 cs_3 bk_5 A_5_0_0 n_5_0_0 c_5_0_0 A_5_1_0 n_5_1_0 c_5_1_0 O ne_1_3_0 ne_1_4_0 k_1_4_0 r_1_4_0 e_2 e_3 ne_5_0_0 ne_5_1_0 k_5_1_0 r_5_1_0
noncomputable def ward_stop (y_0 : T_ward_Ward) : Option (T_ward_Ward × T_ward_Plan × Int) :=
  (ward_stop.l0 y_0.How y_0.Most y_0.Window y_0.Children y_0.Times (T_ward_Ward.mk (0 : Int) (0 : Int) (0 : Int) ([] : List T_ward_Child) ([] : List Int)) (T_ward_Plan.mk ([] : List Int) ([] : List Int) false) ([] : List Int) ([] : List Int) true (IntKind.wrap .i64 ((((List.length y_0.Children) : Nat) : Int) - (1 : Int))))
set_option maxRecDepth 100000 in
theorem ward_stop.walk {W : Nat → Prop} {h m : Heap} {A_0_3 : Option Addr} {n_0_3 : Nat} {c_0_3 : Nat} {A_0_4 : Option Addr} {n_0_4 : Nat} {c_0_4 : Nat} {y_0 : T_ward_Ward} (O : Hold W h m h m [rR (aE T_ward_Child.T) A_0_3 c_0_3 y_0.Children]) (ne_0_3 : n_0_3 = List.length y_0.Children) (ne_0_4 : n_0_4 = List.length y_0.Times) (k_0_4 : List.length y_0.Times ≤ c_0_4) (r_0_4 : Rd 1 (eInt .i64) m A_0_4 y_0.Times) {r : T_ward_Ward × T_ward_Plan × Int} (e : ward_stop y_0 = some r) : Run Try.prog 51 #[Value.agg #[(Value.int .i64 y_0.How), (Value.int .i64 y_0.Most), (Value.int .i64 y_0.Window), (Value.slice A_0_3 n_0_3 c_0_3), (Value.slice A_0_4 n_0_4 c_0_4)]] h (ward_stop.post W h m r) := by
  unfold ward_stop at e
  subst ne_0_3
  subst ne_0_4
  refine f51.run ?_
  unfold f51.runT
  refine O.new fun h1 x2 O3 => ?_
  refine O3.new fun h5 x6 O7 => ?_
  refine O7.new fun h9 x10 O11 => ?_
  refine O11.new fun h13 x14 O15 => ?_
  refine ⟨_, rfl, rfl, ?_⟩
  refine O15.stA 4 rfl rfl (Flats.cons trivial (Flats.cons trivial (Flats.cons trivial Flats.nil))) fun h17 O18 => ?_
  have O19 := O18.nm
  refine ⟨_, ldk (k := 3) (Sub.refl _) (O19.all 1 rfl) rfl, _, _, _, rfl, ?_⟩
  have O20 := O19.nil (aE (tell_int .i64)) none
  have O22 := O20.nm
  exact ward_stop.l0.walk (O22.pick [1, 0, 2, 3, 4, 5]).nm rfl rfl k_0_4 r_0_4 (show T_ward_Ward.E _ (T_ward_Ward.mk (0 : Int) (0 : Int) (0 : Int) ([] : List T_ward_Child) ([] : List Int)) [(Value.int .i64 (0 : Int)), (Value.int .i64 (0 : Int)), (Value.int .i64 (0 : Int)), (Value.slice none 0 0), (Value.slice none 0 0)] from ⟨_, _, _, _, rfl, (by exact Nat.le_refl 0), Rd.nil, (by exact Nat.le_refl 0), Rd.nil⟩) (show T_ward_Plan.E _ (T_ward_Plan.mk ([] : List Int) ([] : List Int) false) [(Value.slice none 0 0), (Value.slice none 0 0), (Value.bool false)] from ⟨_, _, _, _, rfl, (by exact Nat.le_refl 0), Rd.nil, (by exact Nat.le_refl 0), Rd.nil⟩) rfl rfl (by exact Nat.le_refl 0) Rd.nil e
def ward_again.post (W : Nat → Prop) (Asl0_3 : Option Addr) (nsl0_3 csl0_3 : Nat) (h0 m0 : Heap) (r : T_ward_Plan × (List T_ward_Child)) (v : Value) (h : Heap) : Prop := ∃ m cs0, Hold W h0 m0 h m [rR (aE T_ward_Child.T) Asl0_3 csl0_3 r.2] ∧ v = .agg cs0.toArray ∧ T_ward_Plan.E m r.1 cs0 ∧ nsl0_3 = List.length r.2
inductive ward_again.l1_k.Pt where
  | l1 (x_1 : Int) (x_2_0 : Int) (x_2_1 : Int) (x_2_2 : Int) (a_2_3 : (List T_ward_Child)) (a_2_4 : (List Int)) (y_4 : T_ward_Plan) (x_6 : Int) (a_7_0 : (List Int)) (a_7_1 : (List Int)) (b_7_2 : Bool) (x_10 : Int)
  | j3 (x_1 : Int) (x_2_0 : Int) (x_2_1 : Int) (x_2_2 : Int) (a_2_3 : (List T_ward_Child)) (a_2_4 : (List Int)) (y_4 : T_ward_Plan) (x_6 : Int) (a_7_0 : (List Int)) (a_7_1 : (List Int)) (b_7_2 : Bool) (x_10 : Int) (b_66 : Bool) (x_11 : Int) (y_11 : T_ward_Child)
  | j2 (x_1 : Int) (x_2_0 : Int) (x_2_1 : Int) (x_2_2 : Int) (a_2_3 : (List T_ward_Child)) (a_2_4 : (List Int)) (y_4 : T_ward_Plan) (x_6 : Int) (a_7_0 : (List Int)) (a_7_1 : (List Int)) (b_7_2 : Bool) (x_10 : Int)
noncomputable def ward_again.l1_k.body (go : (p : ward_again.l1_k.Pt) → Option (T_ward_Plan × (List T_ward_Child))) : (p : ward_again.l1_k.Pt) → Option (T_ward_Plan × (List T_ward_Child))
  | .l1 x_1 x_2_0 x_2_1 x_2_2 a_2_3 a_2_4 y_4 x_6 a_7_0 a_7_1 b_7_2 x_10 => if x_10 < x_6 then (Option.bind (gi a_2_3 x_10) fun y1 => if y1.Lives = true then ((go (.j3 x_1 x_2_0 x_2_1 x_2_2 a_2_3 a_2_4 y_4 x_6 a_7_0 a_7_1 b_7_2 x_10 true x_10 y1))) else ((go (.j3 x_1 x_2_0 x_2_1 x_2_2 a_2_3 a_2_4 y_4 x_6 a_7_0 a_7_1 b_7_2 x_10 (x_10 == x_1) x_10 y1)))) else (some ((T_ward_Plan.mk a_7_0 a_7_1 b_7_2), a_2_3))
  | .j3 x_1 x_2_0 x_2_1 x_2_2 a_2_3 a_2_4 y_4 x_6 a_7_0 a_7_1 b_7_2 x_10 b_66 x_11 y_11 => if b_66 = true then (Option.bind (ap 8 a_7_1 ([y_11.Id] : List Int)) fun l10 => Option.bind (some (List.set a_2_3 (Int.toNat x_11) ({ y_11 with Lives := true }))) fun l28 => (go (.j2 x_1 x_2_0 x_2_1 x_2_2 l28 a_2_4 y_4 x_6 a_7_0 l10 b_7_2 x_10))) else ((go (.j2 x_1 x_2_0 x_2_1 x_2_2 a_2_3 a_2_4 y_4 x_6 a_7_0 a_7_1 b_7_2 x_10)))
  | .j2 x_1 x_2_0 x_2_1 x_2_2 a_2_3 a_2_4 y_4 x_6 a_7_0 a_7_1 b_7_2 x_10 => (go (.l1 x_1 x_2_0 x_2_1 x_2_2 a_2_3 a_2_4 y_4 x_6 a_7_0 a_7_1 b_7_2 (IntKind.wrap .i64 (x_10 + (1 : Int)))))
theorem ward_again.l1_k.mono : MonoF (β := fun _ => (T_ward_Plan × (List T_ward_Child))) ward_again.l1_k.body := fun f g hfg p => match p with
  | .l1 x_1 x_2_0 x_2_1 x_2_2 a_2_3 a_2_4 y_4 x_6 a_7_0 a_7_1 b_7_2 x_10 => LeO.ite (LeO.bind (LeO.refl _) fun y1 => LeO.ite ((hfg _)) ((hfg _))) (LeO.refl _)
  | .j3 x_1 x_2_0 x_2_1 x_2_2 a_2_3 a_2_4 y_4 x_6 a_7_0 a_7_1 b_7_2 x_10 b_66 x_11 y_11 => LeO.ite (LeO.bind (LeO.refl _) fun l10 => LeO.bind (LeO.refl _) fun l28 => (hfg _)) ((hfg _))
  | .j2 x_1 x_2_0 x_2_1 x_2_2 a_2_3 a_2_4 y_4 x_6 a_7_0 a_7_1 b_7_2 x_10 => (hfg _)
noncomputable def ward_again.l1_k.go (p : ward_again.l1_k.Pt) : Option (T_ward_Plan × (List T_ward_Child)) := fixF (β := fun _ => (T_ward_Plan × (List T_ward_Child))) ward_again.l1_k.body p
noncomputable def ward_again.l1 (x_1 : Int) (x_2_0 : Int) (x_2_1 : Int) (x_2_2 : Int) (a_2_3 : (List T_ward_Child)) (a_2_4 : (List Int)) (y_4 : T_ward_Plan) (x_6 : Int) (a_7_0 : (List Int)) (a_7_1 : (List Int)) (b_7_2 : Bool) (x_10 : Int) : Option (T_ward_Plan × (List T_ward_Child)) := ward_again.l1_k.go (.l1 x_1 x_2_0 x_2_1 x_2_2 a_2_3 a_2_4 y_4 x_6 a_7_0 a_7_1 b_7_2 x_10)
noncomputable def ward_again.j3 (x_1 : Int) (x_2_0 : Int) (x_2_1 : Int) (x_2_2 : Int) (a_2_3 : (List T_ward_Child)) (a_2_4 : (List Int)) (y_4 : T_ward_Plan) (x_6 : Int) (a_7_0 : (List Int)) (a_7_1 : (List Int)) (b_7_2 : Bool) (x_10 : Int) (b_66 : Bool) (x_11 : Int) (y_11 : T_ward_Child) : Option (T_ward_Plan × (List T_ward_Child)) := ward_again.l1_k.go (.j3 x_1 x_2_0 x_2_1 x_2_2 a_2_3 a_2_4 y_4 x_6 a_7_0 a_7_1 b_7_2 x_10 b_66 x_11 y_11)
noncomputable def ward_again.j2 (x_1 : Int) (x_2_0 : Int) (x_2_1 : Int) (x_2_2 : Int) (a_2_3 : (List T_ward_Child)) (a_2_4 : (List Int)) (y_4 : T_ward_Plan) (x_6 : Int) (a_7_0 : (List Int)) (a_7_1 : (List Int)) (b_7_2 : Bool) (x_10 : Int) : Option (T_ward_Plan × (List T_ward_Child)) := ward_again.l1_k.go (.j2 x_1 x_2_0 x_2_1 x_2_2 a_2_3 a_2_4 y_4 x_6 a_7_0 a_7_1 b_7_2 x_10)
theorem ward_again.l1_eq (x_1 : Int) (x_2_0 : Int) (x_2_1 : Int) (x_2_2 : Int) (a_2_3 : (List T_ward_Child)) (a_2_4 : (List Int)) (y_4 : T_ward_Plan) (x_6 : Int) (a_7_0 : (List Int)) (a_7_1 : (List Int)) (b_7_2 : Bool) (x_10 : Int) : ward_again.l1 x_1 x_2_0 x_2_1 x_2_2 a_2_3 a_2_4 y_4 x_6 a_7_0 a_7_1 b_7_2 x_10 = if x_10 < x_6 then (Option.bind (gi a_2_3 x_10) fun y1 => if y1.Lives = true then ((ward_again.j3 x_1 x_2_0 x_2_1 x_2_2 a_2_3 a_2_4 y_4 x_6 a_7_0 a_7_1 b_7_2 x_10 true x_10 y1)) else ((ward_again.j3 x_1 x_2_0 x_2_1 x_2_2 a_2_3 a_2_4 y_4 x_6 a_7_0 a_7_1 b_7_2 x_10 (x_10 == x_1) x_10 y1))) else (some ((T_ward_Plan.mk a_7_0 a_7_1 b_7_2), a_2_3)) := fixF_eq ward_again.l1_k.mono _
theorem ward_again.j3_eq (x_1 : Int) (x_2_0 : Int) (x_2_1 : Int) (x_2_2 : Int) (a_2_3 : (List T_ward_Child)) (a_2_4 : (List Int)) (y_4 : T_ward_Plan) (x_6 : Int) (a_7_0 : (List Int)) (a_7_1 : (List Int)) (b_7_2 : Bool) (x_10 : Int) (b_66 : Bool) (x_11 : Int) (y_11 : T_ward_Child) : ward_again.j3 x_1 x_2_0 x_2_1 x_2_2 a_2_3 a_2_4 y_4 x_6 a_7_0 a_7_1 b_7_2 x_10 b_66 x_11 y_11 = if b_66 = true then (Option.bind (ap 8 a_7_1 ([y_11.Id] : List Int)) fun l10 => Option.bind (some (List.set a_2_3 (Int.toNat x_11) ({ y_11 with Lives := true }))) fun l28 => (ward_again.j2 x_1 x_2_0 x_2_1 x_2_2 l28 a_2_4 y_4 x_6 a_7_0 l10 b_7_2 x_10)) else ((ward_again.j2 x_1 x_2_0 x_2_1 x_2_2 a_2_3 a_2_4 y_4 x_6 a_7_0 a_7_1 b_7_2 x_10)) := fixF_eq ward_again.l1_k.mono _
theorem ward_again.j2_eq (x_1 : Int) (x_2_0 : Int) (x_2_1 : Int) (x_2_2 : Int) (a_2_3 : (List T_ward_Child)) (a_2_4 : (List Int)) (y_4 : T_ward_Plan) (x_6 : Int) (a_7_0 : (List Int)) (a_7_1 : (List Int)) (b_7_2 : Bool) (x_10 : Int) : ward_again.j2 x_1 x_2_0 x_2_1 x_2_2 a_2_3 a_2_4 y_4 x_6 a_7_0 a_7_1 b_7_2 x_10 = (ward_again.l1 x_1 x_2_0 x_2_1 x_2_2 a_2_3 a_2_4 y_4 x_6 a_7_0 a_7_1 b_7_2 (IntKind.wrap .i64 (x_10 + (1 : Int)))) := fixF_eq ward_again.l1_k.mono _
def ward_again.l1_k.I : (p : ward_again.l1_k.Pt) → (T_ward_Plan × (List T_ward_Child)) → Prop
  | .l1 x_1 x_2_0 x_2_1 x_2_2 a_2_3 a_2_4 y_4 x_6 a_7_0 a_7_1 b_7_2 x_10, r => ∀ (W : Nat → Prop) (h0 m0 h m : Heap) (bk_2 : Nat) (A_2_3_0 : Option Addr) (n_2_3_0 : Nat) (c_2_3_0 : Nat) (A_2_4_0 : Option Addr) (n_2_4_0 : Nat) (c_2_4_0 : Nat) (bk_4 : Nat) (cs_4 : List Value) (bk_7 : Nat) (A_7_0_0 : Option Addr) (n_7_0_0 : Nat) (c_7_0_0 : Nat) (A_7_1_0 : Option Addr) (n_7_1_0 : Nat) (c_7_1_0 : Nat) (O : Hold W h0 m0 h m [rV bk_2 25 [(Value.int .i64 x_2_0), (Value.int .i64 x_2_1), (Value.int .i64 x_2_2), (Value.slice A_2_3_0 n_2_3_0 c_2_3_0), (Value.slice A_2_4_0 n_2_4_0 c_2_4_0)], rR (aE T_ward_Child.T) A_2_3_0 c_2_3_0 a_2_3, rV bk_4 31 cs_4, rV bk_7 31 [(Value.slice A_7_0_0 n_7_0_0 c_7_0_0), (Value.slice A_7_1_0 n_7_1_0 c_7_1_0), (Value.bool b_7_2)], rR (aE (tell_int .i64)) A_7_1_0 c_7_1_0 a_7_1]) (ne_2_3_0 : n_2_3_0 = List.length a_2_3) (ne_2_4_0 : n_2_4_0 = List.length a_2_4) (k_2_4_0 : List.length a_2_4 ≤ c_2_4_0) (r_2_4_0 : Rd 1 (eInt .i64) m A_2_4_0 a_2_4) (e_4 : T_ward_Plan.E m y_4 cs_4) (ne_7_0_0 : n_7_0_0 = List.length a_7_0) (k_7_0_0 : List.length a_7_0 ≤ c_7_0_0) (r_7_0_0 : Rd 1 (eInt .i64) m A_7_0_0 a_7_0) (ne_7_1_0 : n_7_1_0 = List.length a_7_1), f52.l1 (ward_again.post W A_2_3_0 n_2_3_0 c_2_3_0 h0 m0 r) x_1 (⟨bk_2, 0, none⟩ : Addr) (⟨bk_4, 0, none⟩ : Addr) x_6 (⟨bk_7, 0, none⟩ : Addr) x_10 h
  | .j3 x_1 x_2_0 x_2_1 x_2_2 a_2_3 a_2_4 y_4 x_6 a_7_0 a_7_1 b_7_2 x_10 b_66 x_11 y_11, r => ∀ (W : Nat → Prop) (h0 m0 h m : Heap) (bk_2 : Nat) (A_2_3_0 : Option Addr) (n_2_3_0 : Nat) (c_2_3_0 : Nat) (A_2_4_0 : Option Addr) (n_2_4_0 : Nat) (c_2_4_0 : Nat) (bk_4 : Nat) (cs_4 : List Value) (bk_7 : Nat) (A_7_0_0 : Option Addr) (n_7_0_0 : Nat) (c_7_0_0 : Nat) (A_7_1_0 : Option Addr) (n_7_1_0 : Nat) (c_7_1_0 : Nat) (aa_11 : Addr) (O : Hold W h0 m0 h m [rV bk_2 25 [(Value.int .i64 x_2_0), (Value.int .i64 x_2_1), (Value.int .i64 x_2_2), (Value.slice A_2_3_0 n_2_3_0 c_2_3_0), (Value.slice A_2_4_0 n_2_4_0 c_2_4_0)], rR (aE T_ward_Child.T) A_2_3_0 c_2_3_0 a_2_3, rV bk_4 31 cs_4, rV bk_7 31 [(Value.slice A_7_0_0 n_7_0_0 c_7_0_0), (Value.slice A_7_1_0 n_7_1_0 c_7_1_0), (Value.bool b_7_2)], rR (aE (tell_int .i64)) A_7_1_0 c_7_1_0 a_7_1]) (ne_2_3_0 : n_2_3_0 = List.length a_2_3) (ne_2_4_0 : n_2_4_0 = List.length a_2_4) (k_2_4_0 : List.length a_2_4 ≤ c_2_4_0) (r_2_4_0 : Rd 1 (eInt .i64) m A_2_4_0 a_2_4) (e_4 : T_ward_Plan.E m y_4 cs_4) (ne_7_0_0 : n_7_0_0 = List.length a_7_0) (k_7_0_0 : List.length a_7_0 ≤ c_7_0_0) (r_7_0_0 : Rd 1 (eInt .i64) m A_7_0_0 a_7_0) (ne_7_1_0 : n_7_1_0 = List.length a_7_1) (ha_11 : A_2_3_0 = some aa_11) (g_11 : gi a_2_3 x_11 = some y_11), f52.j3 (ward_again.post W A_2_3_0 n_2_3_0 c_2_3_0 h0 m0 r) x_1 (⟨bk_2, 0, none⟩ : Addr) (⟨bk_4, 0, none⟩ : Addr) x_6 (⟨bk_7, 0, none⟩ : Addr) x_10 (Addr.add aa_11 (Int.toNat x_11 * 3)) b_66 h
  | .j2 x_1 x_2_0 x_2_1 x_2_2 a_2_3 a_2_4 y_4 x_6 a_7_0 a_7_1 b_7_2 x_10, r => ∀ (W : Nat → Prop) (h0 m0 h m : Heap) (bk_2 : Nat) (A_2_3_0 : Option Addr) (n_2_3_0 : Nat) (c_2_3_0 : Nat) (A_2_4_0 : Option Addr) (n_2_4_0 : Nat) (c_2_4_0 : Nat) (bk_4 : Nat) (cs_4 : List Value) (bk_7 : Nat) (A_7_0_0 : Option Addr) (n_7_0_0 : Nat) (c_7_0_0 : Nat) (A_7_1_0 : Option Addr) (n_7_1_0 : Nat) (c_7_1_0 : Nat) (O : Hold W h0 m0 h m [rV bk_2 25 [(Value.int .i64 x_2_0), (Value.int .i64 x_2_1), (Value.int .i64 x_2_2), (Value.slice A_2_3_0 n_2_3_0 c_2_3_0), (Value.slice A_2_4_0 n_2_4_0 c_2_4_0)], rR (aE T_ward_Child.T) A_2_3_0 c_2_3_0 a_2_3, rV bk_4 31 cs_4, rV bk_7 31 [(Value.slice A_7_0_0 n_7_0_0 c_7_0_0), (Value.slice A_7_1_0 n_7_1_0 c_7_1_0), (Value.bool b_7_2)], rR (aE (tell_int .i64)) A_7_1_0 c_7_1_0 a_7_1]) (ne_2_3_0 : n_2_3_0 = List.length a_2_3) (ne_2_4_0 : n_2_4_0 = List.length a_2_4) (k_2_4_0 : List.length a_2_4 ≤ c_2_4_0) (r_2_4_0 : Rd 1 (eInt .i64) m A_2_4_0 a_2_4) (e_4 : T_ward_Plan.E m y_4 cs_4) (ne_7_0_0 : n_7_0_0 = List.length a_7_0) (k_7_0_0 : List.length a_7_0 ≤ c_7_0_0) (r_7_0_0 : Rd 1 (eInt .i64) m A_7_0_0 a_7_0) (ne_7_1_0 : n_7_1_0 = List.length a_7_1), f52.j2 (ward_again.post W A_2_3_0 n_2_3_0 c_2_3_0 h0 m0 r) x_1 (⟨bk_2, 0, none⟩ : Addr) (⟨bk_4, 0, none⟩ : Addr) x_6 (⟨bk_7, 0, none⟩ : Addr) x_10 h
set_option maxRecDepth 100000 in
theorem ward_again.l1_k.step_l1 (go : (p : ward_again.l1_k.Pt) → Option (T_ward_Plan × (List T_ward_Child))) (ih : ∀ p r, go p = some r → ward_again.l1_k.I p r) (x_1 : Int) (x_2_0 : Int) (x_2_1 : Int) (x_2_2 : Int) (a_2_3 : (List T_ward_Child)) (a_2_4 : (List Int)) (y_4 : T_ward_Plan) (x_6 : Int) (a_7_0 : (List Int)) (a_7_1 : (List Int)) (b_7_2 : Bool) (x_10 : Int) (r : T_ward_Plan × (List T_ward_Child)) (e : ward_again.l1_k.body go (.l1 x_1 x_2_0 x_2_1 x_2_2 a_2_3 a_2_4 y_4 x_6 a_7_0 a_7_1 b_7_2 x_10) = some r) : ward_again.l1_k.I (.l1 x_1 x_2_0 x_2_1 x_2_2 a_2_3 a_2_4 y_4 x_6 a_7_0 a_7_1 b_7_2 x_10) r := by
  unfold ward_again.l1_k.body at e
  intro W h0 m0 h m bk_2 A_2_3_0 n_2_3_0 c_2_3_0 A_2_4_0 n_2_4_0 c_2_4_0 bk_4 cs_4 bk_7 A_7_0_0 n_7_0_0 c_7_0_0 A_7_1_0 n_7_1_0 c_7_1_0 O ne_2_3_0 ne_2_4_0 k_2_4_0 r_2_4_0 e_4 ne_7_0_0 k_7_0_0 r_7_0_0 ne_7_1_0
  subst ne_2_3_0
  subst ne_2_4_0
  subst ne_7_0_0
  subst ne_7_1_0
  refine f52.l1_in ?_
  unfold f52.l1T
  refine split_dec_e e (fun c17 e => ?_) (fun c17 e => ?_)
  · refine ⟨_, ldk (k := 3) (Sub.refl _) (O.all 0 rfl) rfl, _, _, _, rfl, ?_⟩
    obtain ⟨y1, g2, e⟩ := bind_e e
    refine (O.os 1 rfl).addr rfl g2 fun a3 cs4 ha5 hc6 he7 => ?_
    refine ⟨_, ldk (k := 2) (Sub.refl _) hc6 (T_ward_Child.g2 he7), _, rfl, ?_⟩
    refine split_any_e e (fun c8 e => ?_) (fun c8 e => ?_)
    · exact (ih _ _ e) _ _ _ _ _ _ _ _ _ _ _ _ _ _ _ _ _ _ _ _ _ _ (O.pick [0, 1, 2, 3, 4]).nm rfl rfl k_2_4_0 r_2_4_0 e_4 rfl k_7_0_0 r_7_0_0 rfl ha5 g2
    · exact (ih _ _ e) _ _ _ _ _ _ _ _ _ _ _ _ _ _ _ _ _ _ _ _ _ _ (O.pick [0, 1, 2, 3, 4]).nm rfl rfl k_2_4_0 r_2_4_0 e_4 rfl k_7_0_0 r_7_0_0 rfl ha5 g2
  · refine ⟨_, ldAn (Sub.refl _) (O.all 3 rfl) rfl, ?_⟩
    refine ⟨_, rfl, rfl, ?_⟩
    refine O.stA 2 rfl ((T_ward_Plan.T.len _ _ _ e_4)).symm (Flats.cons trivial (Flats.cons trivial (Flats.cons trivial Flats.nil))) fun h9 O10 => ?_
    refine ⟨_, ldAn (Sub.refl _) (O10.all 2 rfl) rfl, ?_⟩
    obtain ⟨m11, u12, ⟨r13, k14⟩, O15⟩ := O10.frz 4 rfl
    replace r13 : Rd 1 (eInt .i64) m11 A_7_1_0 a_7_1 := r13
    have O16 := O15.nm
    cases e
    exact ⟨_, _, O16.pick [1], rfl, (show T_ward_Plan.E _ (T_ward_Plan.mk a_7_0 a_7_1 b_7_2) [(Value.slice A_7_0_0 (List.length a_7_0) c_7_0_0), (Value.slice A_7_1_0 (List.length a_7_1) c_7_1_0), (Value.bool b_7_2)] from ⟨_, _, _, _, rfl, k_7_0_0, (r_7_0_0.sub (tell_int .i64) u12), k14, r13⟩), rfl⟩
set_option maxRecDepth 100000 in
theorem ward_again.l1_k.step_j3 (go : (p : ward_again.l1_k.Pt) → Option (T_ward_Plan × (List T_ward_Child))) (ih : ∀ p r, go p = some r → ward_again.l1_k.I p r) (x_1 : Int) (x_2_0 : Int) (x_2_1 : Int) (x_2_2 : Int) (a_2_3 : (List T_ward_Child)) (a_2_4 : (List Int)) (y_4 : T_ward_Plan) (x_6 : Int) (a_7_0 : (List Int)) (a_7_1 : (List Int)) (b_7_2 : Bool) (x_10 : Int) (b_66 : Bool) (x_11 : Int) (y_11 : T_ward_Child) (r : T_ward_Plan × (List T_ward_Child)) (e : ward_again.l1_k.body go (.j3 x_1 x_2_0 x_2_1 x_2_2 a_2_3 a_2_4 y_4 x_6 a_7_0 a_7_1 b_7_2 x_10 b_66 x_11 y_11) = some r) : ward_again.l1_k.I (.j3 x_1 x_2_0 x_2_1 x_2_2 a_2_3 a_2_4 y_4 x_6 a_7_0 a_7_1 b_7_2 x_10 b_66 x_11 y_11) r := by
  unfold ward_again.l1_k.body at e
  intro W h0 m0 h m bk_2 A_2_3_0 n_2_3_0 c_2_3_0 A_2_4_0 n_2_4_0 c_2_4_0 bk_4 cs_4 bk_7 A_7_0_0 n_7_0_0 c_7_0_0 A_7_1_0 n_7_1_0 c_7_1_0 aa_11 O ne_2_3_0 ne_2_4_0 k_2_4_0 r_2_4_0 e_4 ne_7_0_0 k_7_0_0 r_7_0_0 ne_7_1_0 ha_11 g_11
  subst ne_2_3_0
  subst ne_2_4_0
  subst ne_7_0_0
  subst ne_7_1_0
  refine f52.j3_in ?_
  unfold f52.j3T
  refine split_any_e e (fun c31 e => ?_) (fun c31 e => ?_)
  · refine ⟨_, ldk (k := 1) (Sub.refl _) (O.all 3 rfl) rfl, _, _, _, rfl, ?_⟩
    obtain ⟨a1, cs2, ha5, hc3, he4⟩ := (O.os 1 rfl).cellsAt g_11
    cases ha_11.symm.trans ha5
    refine ⟨_, ld0 (Sub.refl _) hc3 (T_ward_Child.g0 he4), _, rfl, ?_⟩
    refine O.new fun h6 x7 O8 => ?_
    refine ⟨x7, ?_⟩
    obtain ⟨l10, g11, e⟩ := bind_e e
    have O18 := O8.rowE (l := ([y_11.Id] : List Int)) 5 rfl (tell_int .i64) (show CsE _ _ _ _ _ from (CsE.cons (c1 := [(Value.int .i64 y_11.Id)]) rfl rfl CsE.nil)) rfl
    refine O18.app 4 rfl rfl rfl ((O18.os 5 rfl).srcE rfl) (by decide) g11 fun A12 c13 h14 O15 => ?_
    refine ⟨_, _, _, rfl, ?_⟩
    refine O15.st 3 rfl 1 (Nat.le_of_ble_eq_true rfl) trivial fun h19 O20 => ?_
    obtain ⟨l28, g29, e⟩ := bind_e e
    obtain ⟨a21, cs22, ha25, hc23, he24⟩ := (O20.os 1 rfl).cellsAt g_11
    cases ha_11.symm.trans ha25
    replace g29 := Option.some.inj g29
    refine O20.elst 1 rfl g_11 ha_11 hc23 2 (by decide) (y' := ({ y_11 with Lives := true })) (T_ward_Child.s2 he24 true) trivial g29 fun h26 O27 => ?_
    have O30 := O27.nm
    exact (ih _ _ e) _ _ _ _ _ _ _ _ _ _ _ _ _ _ _ _ _ _ _ _ _ (O30.pick [0, 1, 2, 3, 4]).nm (lset' g29) rfl k_2_4_0 r_2_4_0 e_4 rfl k_7_0_0 r_7_0_0 rfl
  · exact (ih _ _ e) _ _ _ _ _ _ _ _ _ _ _ _ _ _ _ _ _ _ _ _ _ (O.pick [0, 1, 2, 3, 4]).nm rfl rfl k_2_4_0 r_2_4_0 e_4 rfl k_7_0_0 r_7_0_0 rfl
set_option maxRecDepth 100000 in
theorem ward_again.l1_k.step_j2 (go : (p : ward_again.l1_k.Pt) → Option (T_ward_Plan × (List T_ward_Child))) (ih : ∀ p r, go p = some r → ward_again.l1_k.I p r) (x_1 : Int) (x_2_0 : Int) (x_2_1 : Int) (x_2_2 : Int) (a_2_3 : (List T_ward_Child)) (a_2_4 : (List Int)) (y_4 : T_ward_Plan) (x_6 : Int) (a_7_0 : (List Int)) (a_7_1 : (List Int)) (b_7_2 : Bool) (x_10 : Int) (r : T_ward_Plan × (List T_ward_Child)) (e : ward_again.l1_k.body go (.j2 x_1 x_2_0 x_2_1 x_2_2 a_2_3 a_2_4 y_4 x_6 a_7_0 a_7_1 b_7_2 x_10) = some r) : ward_again.l1_k.I (.j2 x_1 x_2_0 x_2_1 x_2_2 a_2_3 a_2_4 y_4 x_6 a_7_0 a_7_1 b_7_2 x_10) r := by
  unfold ward_again.l1_k.body at e
  intro W h0 m0 h m bk_2 A_2_3_0 n_2_3_0 c_2_3_0 A_2_4_0 n_2_4_0 c_2_4_0 bk_4 cs_4 bk_7 A_7_0_0 n_7_0_0 c_7_0_0 A_7_1_0 n_7_1_0 c_7_1_0 O ne_2_3_0 ne_2_4_0 k_2_4_0 r_2_4_0 e_4 ne_7_0_0 k_7_0_0 r_7_0_0 ne_7_1_0
  subst ne_2_3_0
  subst ne_2_4_0
  subst ne_7_0_0
  subst ne_7_1_0
  refine f52.j2_in ?_
  unfold f52.j2T
  exact (ih _ _ e) _ _ _ _ _ _ _ _ _ _ _ _ _ _ _ _ _ _ _ _ _ (O.pick [0, 1, 2, 3, 4]).nm rfl rfl k_2_4_0 r_2_4_0 e_4 rfl k_7_0_0 r_7_0_0 rfl
theorem ward_again.l1_k.all {p : ward_again.l1_k.Pt} {r : (T_ward_Plan × (List T_ward_Child))} (e : ward_again.l1_k.go p = some r) : ward_again.l1_k.I p r := fixF_ind (β := fun _ => (T_ward_Plan × (List T_ward_Child))) ward_again.l1_k.mono (I := ward_again.l1_k.I) (fun go ih p r e => match p with
  | .l1 x_1 x_2_0 x_2_1 x_2_2 a_2_3 a_2_4 y_4 x_6 a_7_0 a_7_1 b_7_2 x_10 => ward_again.l1_k.step_l1 go ih x_1 x_2_0 x_2_1 x_2_2 a_2_3 a_2_4 y_4 x_6 a_7_0 a_7_1 b_7_2 x_10 r e
  | .j3 x_1 x_2_0 x_2_1 x_2_2 a_2_3 a_2_4 y_4 x_6 a_7_0 a_7_1 b_7_2 x_10 b_66 x_11 y_11 => ward_again.l1_k.step_j3 go ih x_1 x_2_0 x_2_1 x_2_2 a_2_3 a_2_4 y_4 x_6 a_7_0 a_7_1 b_7_2 x_10 b_66 x_11 y_11 r e
  | .j2 x_1 x_2_0 x_2_1 x_2_2 a_2_3 a_2_4 y_4 x_6 a_7_0 a_7_1 b_7_2 x_10 => ward_again.l1_k.step_j2 go ih x_1 x_2_0 x_2_1 x_2_2 a_2_3 a_2_4 y_4 x_6 a_7_0 a_7_1 b_7_2 x_10 r e
  ) e
theorem ward_again.l1.walk {W : Nat → Prop} {h0 m0 h m : Heap} {bk_2 : Nat} {A_2_3_0 : Option Addr} {n_2_3_0 : Nat} {c_2_3_0 : Nat} {A_2_4_0 : Option Addr} {n_2_4_0 : Nat} {c_2_4_0 : Nat} {bk_4 : Nat} {cs_4 : List Value} {bk_7 : Nat} {A_7_0_0 : Option Addr} {n_7_0_0 : Nat} {c_7_0_0 : Nat} {A_7_1_0 : Option Addr} {n_7_1_0 : Nat} {c_7_1_0 : Nat} {x_1 : Int} {x_2_0 : Int} {x_2_1 : Int} {x_2_2 : Int} {a_2_3 : (List T_ward_Child)} {a_2_4 : (List Int)} {y_4 : T_ward_Plan} {x_6 : Int} {a_7_0 : (List Int)} {a_7_1 : (List Int)} {b_7_2 : Bool} {x_10 : Int} (O : Hold W h0 m0 h m [rV bk_2 25 [(Value.int .i64 x_2_0), (Value.int .i64 x_2_1), (Value.int .i64 x_2_2), (Value.slice A_2_3_0 n_2_3_0 c_2_3_0), (Value.slice A_2_4_0 n_2_4_0 c_2_4_0)], rR (aE T_ward_Child.T) A_2_3_0 c_2_3_0 a_2_3, rV bk_4 31 cs_4, rV bk_7 31 [(Value.slice A_7_0_0 n_7_0_0 c_7_0_0), (Value.slice A_7_1_0 n_7_1_0 c_7_1_0), (Value.bool b_7_2)], rR (aE (tell_int .i64)) A_7_1_0 c_7_1_0 a_7_1]) (ne_2_3_0 : n_2_3_0 = List.length a_2_3) (ne_2_4_0 : n_2_4_0 = List.length a_2_4) (k_2_4_0 : List.length a_2_4 ≤ c_2_4_0) (r_2_4_0 : Rd 1 (eInt .i64) m A_2_4_0 a_2_4) (e_4 : T_ward_Plan.E m y_4 cs_4) (ne_7_0_0 : n_7_0_0 = List.length a_7_0) (k_7_0_0 : List.length a_7_0 ≤ c_7_0_0) (r_7_0_0 : Rd 1 (eInt .i64) m A_7_0_0 a_7_0) (ne_7_1_0 : n_7_1_0 = List.length a_7_1) {r : T_ward_Plan × (List T_ward_Child)} (e : ward_again.l1 x_1 x_2_0 x_2_1 x_2_2 a_2_3 a_2_4 y_4 x_6 a_7_0 a_7_1 b_7_2 x_10 = some r) : f52.l1 (ward_again.post W A_2_3_0 n_2_3_0 c_2_3_0 h0 m0 r) x_1 (⟨bk_2, 0, none⟩ : Addr) (⟨bk_4, 0, none⟩ : Addr) x_6 (⟨bk_7, 0, none⟩ : Addr) x_10 h := ward_again.l1_k.all (p := .l1 x_1 x_2_0 x_2_1 x_2_2 a_2_3 a_2_4 y_4 x_6 a_7_0 a_7_1 b_7_2 x_10) e W h0 m0 h m bk_2 A_2_3_0 n_2_3_0 c_2_3_0 A_2_4_0 n_2_4_0 c_2_4_0 bk_4 cs_4 bk_7 A_7_0_0 n_7_0_0 c_7_0_0 A_7_1_0 n_7_1_0 c_7_1_0 O ne_2_3_0 ne_2_4_0 k_2_4_0 r_2_4_0 e_4 ne_7_0_0 k_7_0_0 r_7_0_0 ne_7_1_0
inductive ward_again.l0_k.Pt where
  | l0 (x_1 : Int) (x_2_0 : Int) (x_2_1 : Int) (x_2_2 : Int) (a_2_3 : (List T_ward_Child)) (a_2_4 : (List Int)) (y_4 : T_ward_Plan) (x_5 : Int) (x_6 : Int) (a_7_0 : (List Int)) (a_7_1 : (List Int)) (b_7_2 : Bool) (x_8 : Int)
  | j1 (x_1 : Int) (x_2_0 : Int) (x_2_1 : Int) (x_2_2 : Int) (a_2_3 : (List T_ward_Child)) (a_2_4 : (List Int)) (y_4 : T_ward_Plan) (x_5 : Int) (x_6 : Int) (a_7_0 : (List Int)) (a_7_1 : (List Int)) (b_7_2 : Bool) (x_8 : Int)
noncomputable def ward_again.l0_k.body (go : (p : ward_again.l0_k.Pt) → Option (T_ward_Plan × (List T_ward_Child))) : (p : ward_again.l0_k.Pt) → Option (T_ward_Plan × (List T_ward_Child))
  | .l0 x_1 x_2_0 x_2_1 x_2_2 a_2_3 a_2_4 y_4 x_5 x_6 a_7_0 a_7_1 b_7_2 x_8 => if x_8 ≥ x_5 then (Option.bind (gi a_2_3 x_8) fun y1 => if y1.Lives = true then (Option.bind (ap 8 a_7_0 ([y1.Id] : List Int)) fun l18 => (go (.j1 x_1 x_2_0 x_2_1 x_2_2 a_2_3 a_2_4 y_4 x_5 x_6 l18 a_7_1 b_7_2 x_8))) else ((go (.j1 x_1 x_2_0 x_2_1 x_2_2 a_2_3 a_2_4 y_4 x_5 x_6 a_7_0 a_7_1 b_7_2 x_8)))) else ((ward_again.l1 x_1 x_2_0 x_2_1 x_2_2 a_2_3 a_2_4 y_4 x_6 a_7_0 a_7_1 b_7_2 x_5))
  | .j1 x_1 x_2_0 x_2_1 x_2_2 a_2_3 a_2_4 y_4 x_5 x_6 a_7_0 a_7_1 b_7_2 x_8 => (go (.l0 x_1 x_2_0 x_2_1 x_2_2 a_2_3 a_2_4 y_4 x_5 x_6 a_7_0 a_7_1 b_7_2 (IntKind.wrap .i64 (x_8 - (1 : Int)))))
theorem ward_again.l0_k.mono : MonoF (β := fun _ => (T_ward_Plan × (List T_ward_Child))) ward_again.l0_k.body := fun f g hfg p => match p with
  | .l0 x_1 x_2_0 x_2_1 x_2_2 a_2_3 a_2_4 y_4 x_5 x_6 a_7_0 a_7_1 b_7_2 x_8 => LeO.ite (LeO.bind (LeO.refl _) fun y1 => LeO.ite (LeO.bind (LeO.refl _) fun l18 => (hfg _)) ((hfg _))) ((LeO.refl _))
  | .j1 x_1 x_2_0 x_2_1 x_2_2 a_2_3 a_2_4 y_4 x_5 x_6 a_7_0 a_7_1 b_7_2 x_8 => (hfg _)
noncomputable def ward_again.l0_k.go (p : ward_again.l0_k.Pt) : Option (T_ward_Plan × (List T_ward_Child)) := fixF (β := fun _ => (T_ward_Plan × (List T_ward_Child))) ward_again.l0_k.body p
noncomputable def ward_again.l0 (x_1 : Int) (x_2_0 : Int) (x_2_1 : Int) (x_2_2 : Int) (a_2_3 : (List T_ward_Child)) (a_2_4 : (List Int)) (y_4 : T_ward_Plan) (x_5 : Int) (x_6 : Int) (a_7_0 : (List Int)) (a_7_1 : (List Int)) (b_7_2 : Bool) (x_8 : Int) : Option (T_ward_Plan × (List T_ward_Child)) := ward_again.l0_k.go (.l0 x_1 x_2_0 x_2_1 x_2_2 a_2_3 a_2_4 y_4 x_5 x_6 a_7_0 a_7_1 b_7_2 x_8)
noncomputable def ward_again.j1 (x_1 : Int) (x_2_0 : Int) (x_2_1 : Int) (x_2_2 : Int) (a_2_3 : (List T_ward_Child)) (a_2_4 : (List Int)) (y_4 : T_ward_Plan) (x_5 : Int) (x_6 : Int) (a_7_0 : (List Int)) (a_7_1 : (List Int)) (b_7_2 : Bool) (x_8 : Int) : Option (T_ward_Plan × (List T_ward_Child)) := ward_again.l0_k.go (.j1 x_1 x_2_0 x_2_1 x_2_2 a_2_3 a_2_4 y_4 x_5 x_6 a_7_0 a_7_1 b_7_2 x_8)
theorem ward_again.l0_eq (x_1 : Int) (x_2_0 : Int) (x_2_1 : Int) (x_2_2 : Int) (a_2_3 : (List T_ward_Child)) (a_2_4 : (List Int)) (y_4 : T_ward_Plan) (x_5 : Int) (x_6 : Int) (a_7_0 : (List Int)) (a_7_1 : (List Int)) (b_7_2 : Bool) (x_8 : Int) : ward_again.l0 x_1 x_2_0 x_2_1 x_2_2 a_2_3 a_2_4 y_4 x_5 x_6 a_7_0 a_7_1 b_7_2 x_8 = if x_8 ≥ x_5 then (Option.bind (gi a_2_3 x_8) fun y1 => if y1.Lives = true then (Option.bind (ap 8 a_7_0 ([y1.Id] : List Int)) fun l18 => (ward_again.j1 x_1 x_2_0 x_2_1 x_2_2 a_2_3 a_2_4 y_4 x_5 x_6 l18 a_7_1 b_7_2 x_8)) else ((ward_again.j1 x_1 x_2_0 x_2_1 x_2_2 a_2_3 a_2_4 y_4 x_5 x_6 a_7_0 a_7_1 b_7_2 x_8))) else ((ward_again.l1 x_1 x_2_0 x_2_1 x_2_2 a_2_3 a_2_4 y_4 x_6 a_7_0 a_7_1 b_7_2 x_5)) := fixF_eq ward_again.l0_k.mono _
theorem ward_again.j1_eq (x_1 : Int) (x_2_0 : Int) (x_2_1 : Int) (x_2_2 : Int) (a_2_3 : (List T_ward_Child)) (a_2_4 : (List Int)) (y_4 : T_ward_Plan) (x_5 : Int) (x_6 : Int) (a_7_0 : (List Int)) (a_7_1 : (List Int)) (b_7_2 : Bool) (x_8 : Int) : ward_again.j1 x_1 x_2_0 x_2_1 x_2_2 a_2_3 a_2_4 y_4 x_5 x_6 a_7_0 a_7_1 b_7_2 x_8 = (ward_again.l0 x_1 x_2_0 x_2_1 x_2_2 a_2_3 a_2_4 y_4 x_5 x_6 a_7_0 a_7_1 b_7_2 (IntKind.wrap .i64 (x_8 - (1 : Int)))) := fixF_eq ward_again.l0_k.mono _
def ward_again.l0_k.I : (p : ward_again.l0_k.Pt) → (T_ward_Plan × (List T_ward_Child)) → Prop
  | .l0 x_1 x_2_0 x_2_1 x_2_2 a_2_3 a_2_4 y_4 x_5 x_6 a_7_0 a_7_1 b_7_2 x_8, r => ∀ (W : Nat → Prop) (h0 m0 h m : Heap) (bk_2 : Nat) (A_2_3_0 : Option Addr) (n_2_3_0 : Nat) (c_2_3_0 : Nat) (A_2_4_0 : Option Addr) (n_2_4_0 : Nat) (c_2_4_0 : Nat) (bk_4 : Nat) (cs_4 : List Value) (bk_7 : Nat) (A_7_0_0 : Option Addr) (n_7_0_0 : Nat) (c_7_0_0 : Nat) (A_7_1_0 : Option Addr) (n_7_1_0 : Nat) (c_7_1_0 : Nat) (O : Hold W h0 m0 h m [rV bk_2 25 [(Value.int .i64 x_2_0), (Value.int .i64 x_2_1), (Value.int .i64 x_2_2), (Value.slice A_2_3_0 n_2_3_0 c_2_3_0), (Value.slice A_2_4_0 n_2_4_0 c_2_4_0)], rR (aE T_ward_Child.T) A_2_3_0 c_2_3_0 a_2_3, rV bk_4 31 cs_4, rV bk_7 31 [(Value.slice A_7_0_0 n_7_0_0 c_7_0_0), (Value.slice A_7_1_0 n_7_1_0 c_7_1_0), (Value.bool b_7_2)], rR (aE (tell_int .i64)) A_7_0_0 c_7_0_0 a_7_0, rR (aE (tell_int .i64)) A_7_1_0 c_7_1_0 a_7_1]) (ne_2_3_0 : n_2_3_0 = List.length a_2_3) (ne_2_4_0 : n_2_4_0 = List.length a_2_4) (k_2_4_0 : List.length a_2_4 ≤ c_2_4_0) (r_2_4_0 : Rd 1 (eInt .i64) m A_2_4_0 a_2_4) (e_4 : T_ward_Plan.E m y_4 cs_4) (ne_7_0_0 : n_7_0_0 = List.length a_7_0) (ne_7_1_0 : n_7_1_0 = List.length a_7_1), f52.l0 (ward_again.post W A_2_3_0 n_2_3_0 c_2_3_0 h0 m0 r) x_1 (⟨bk_2, 0, none⟩ : Addr) (⟨bk_4, 0, none⟩ : Addr) x_5 x_6 (⟨bk_7, 0, none⟩ : Addr) x_8 h
  | .j1 x_1 x_2_0 x_2_1 x_2_2 a_2_3 a_2_4 y_4 x_5 x_6 a_7_0 a_7_1 b_7_2 x_8, r => ∀ (W : Nat → Prop) (h0 m0 h m : Heap) (bk_2 : Nat) (A_2_3_0 : Option Addr) (n_2_3_0 : Nat) (c_2_3_0 : Nat) (A_2_4_0 : Option Addr) (n_2_4_0 : Nat) (c_2_4_0 : Nat) (bk_4 : Nat) (cs_4 : List Value) (bk_7 : Nat) (A_7_0_0 : Option Addr) (n_7_0_0 : Nat) (c_7_0_0 : Nat) (A_7_1_0 : Option Addr) (n_7_1_0 : Nat) (c_7_1_0 : Nat) (O : Hold W h0 m0 h m [rV bk_2 25 [(Value.int .i64 x_2_0), (Value.int .i64 x_2_1), (Value.int .i64 x_2_2), (Value.slice A_2_3_0 n_2_3_0 c_2_3_0), (Value.slice A_2_4_0 n_2_4_0 c_2_4_0)], rR (aE T_ward_Child.T) A_2_3_0 c_2_3_0 a_2_3, rV bk_4 31 cs_4, rV bk_7 31 [(Value.slice A_7_0_0 n_7_0_0 c_7_0_0), (Value.slice A_7_1_0 n_7_1_0 c_7_1_0), (Value.bool b_7_2)], rR (aE (tell_int .i64)) A_7_0_0 c_7_0_0 a_7_0, rR (aE (tell_int .i64)) A_7_1_0 c_7_1_0 a_7_1]) (ne_2_3_0 : n_2_3_0 = List.length a_2_3) (ne_2_4_0 : n_2_4_0 = List.length a_2_4) (k_2_4_0 : List.length a_2_4 ≤ c_2_4_0) (r_2_4_0 : Rd 1 (eInt .i64) m A_2_4_0 a_2_4) (e_4 : T_ward_Plan.E m y_4 cs_4) (ne_7_0_0 : n_7_0_0 = List.length a_7_0) (ne_7_1_0 : n_7_1_0 = List.length a_7_1), f52.j1 (ward_again.post W A_2_3_0 n_2_3_0 c_2_3_0 h0 m0 r) x_1 (⟨bk_2, 0, none⟩ : Addr) (⟨bk_4, 0, none⟩ : Addr) x_5 x_6 (⟨bk_7, 0, none⟩ : Addr) x_8 h
set_option maxRecDepth 100000 in
theorem ward_again.l0_k.step_l0 (go : (p : ward_again.l0_k.Pt) → Option (T_ward_Plan × (List T_ward_Child))) (ih : ∀ p r, go p = some r → ward_again.l0_k.I p r) (x_1 : Int) (x_2_0 : Int) (x_2_1 : Int) (x_2_2 : Int) (a_2_3 : (List T_ward_Child)) (a_2_4 : (List Int)) (y_4 : T_ward_Plan) (x_5 : Int) (x_6 : Int) (a_7_0 : (List Int)) (a_7_1 : (List Int)) (b_7_2 : Bool) (x_8 : Int) (r : T_ward_Plan × (List T_ward_Child)) (e : ward_again.l0_k.body go (.l0 x_1 x_2_0 x_2_1 x_2_2 a_2_3 a_2_4 y_4 x_5 x_6 a_7_0 a_7_1 b_7_2 x_8) = some r) : ward_again.l0_k.I (.l0 x_1 x_2_0 x_2_1 x_2_2 a_2_3 a_2_4 y_4 x_5 x_6 a_7_0 a_7_1 b_7_2 x_8) r := by
  unfold ward_again.l0_k.body at e
  intro W h0 m0 h m bk_2 A_2_3_0 n_2_3_0 c_2_3_0 A_2_4_0 n_2_4_0 c_2_4_0 bk_4 cs_4 bk_7 A_7_0_0 n_7_0_0 c_7_0_0 A_7_1_0 n_7_1_0 c_7_1_0 O ne_2_3_0 ne_2_4_0 k_2_4_0 r_2_4_0 e_4 ne_7_0_0 ne_7_1_0
  subst ne_2_3_0
  subst ne_2_4_0
  subst ne_7_0_0
  subst ne_7_1_0
  refine f52.l0_in ?_
  unfold f52.l0T
  refine split_dec_e e (fun c39 e => ?_) (fun c39 e => ?_)
  · refine ⟨_, ldk (k := 3) (Sub.refl _) (O.all 0 rfl) rfl, _, _, _, rfl, ?_⟩
    obtain ⟨y1, g2, e⟩ := bind_e e
    refine (O.os 1 rfl).addr rfl g2 fun a3 cs4 ha5 hc6 he7 => ?_
    refine ⟨_, ldAn (Sub.refl _) hc6 rfl, ?_⟩
    refine O.new fun h8 x9 O10 => ?_
    refine ⟨_, rfl, (T_ward_Child.T.len _ _ _ he7), ?_⟩
    refine O10.stA 6 rfl (T_ward_Child.T.len _ _ _ he7) (T_ward_Child.T.flat _ _ _ he7) fun h12 O13 => ?_
    refine ⟨_, ldk (k := 2) (Sub.refl _) (O13.all 6 rfl) (T_ward_Child.g2 he7), _, rfl, ?_⟩
    refine split_any_e e (fun c32 e => ?_) (fun c32 e => ?_)
    · refine ⟨_, ld0 (Sub.refl _) (O13.all 3 rfl) rfl, _, _, _, rfl, ?_⟩
      refine ⟨_, ld0 (Sub.refl _) (O13.all 6 rfl) (T_ward_Child.g0 he7), _, rfl, ?_⟩
      refine O13.new fun h14 x15 O16 => ?_
      obtain ⟨l18, g19, e⟩ := bind_e e
      have O26 := O16.rowE (l := ([y1.Id] : List Int)) 7 rfl (tell_int .i64) (show CsE _ _ _ _ _ from (CsE.cons (c1 := [(Value.int .i64 y1.Id)]) rfl rfl CsE.nil)) rfl
      refine O26.app 4 rfl rfl rfl ((O26.os 7 rfl).srcE rfl) (by decide) g19 fun A20 c21 h22 O23 => ?_
      refine ⟨_, _, _, rfl, ?_⟩
      have O27 := O23.nm
      refine O27.st0 3 rfl (Nat.le_of_ble_eq_true rfl) trivial fun h28 O29 => ?_
      have O30 := O29.nm
      exact (ih _ _ e) _ _ _ _ _ _ _ _ _ _ _ _ _ _ _ _ _ _ _ _ _ (O30.pick [0, 1, 2, 3, 4, 5]).nm rfl rfl k_2_4_0 r_2_4_0 e_4 rfl rfl
    · have O31 := O13.nm
      exact (ih _ _ e) _ _ _ _ _ _ _ _ _ _ _ _ _ _ _ _ _ _ _ _ _ (O31.pick [0, 1, 2, 3, 4, 5]).nm rfl rfl k_2_4_0 r_2_4_0 e_4 rfl rfl
  · obtain ⟨m33, u34, ⟨r35, k36⟩, O37⟩ := O.frz 4 rfl
    replace r35 : Rd 1 (eInt .i64) m33 A_7_0_0 a_7_0 := r35
    have O38 := O37.nm
    exact ward_again.l1.walk (O38.pick [0, 1, 2, 3, 5]).nm rfl rfl k_2_4_0 (r_2_4_0.sub (tell_int .i64) u34) (T_ward_Plan.T.mono _ _ _ _ u34 e_4) rfl k36 r35 rfl e
set_option maxRecDepth 100000 in
theorem ward_again.l0_k.step_j1 (go : (p : ward_again.l0_k.Pt) → Option (T_ward_Plan × (List T_ward_Child))) (ih : ∀ p r, go p = some r → ward_again.l0_k.I p r) (x_1 : Int) (x_2_0 : Int) (x_2_1 : Int) (x_2_2 : Int) (a_2_3 : (List T_ward_Child)) (a_2_4 : (List Int)) (y_4 : T_ward_Plan) (x_5 : Int) (x_6 : Int) (a_7_0 : (List Int)) (a_7_1 : (List Int)) (b_7_2 : Bool) (x_8 : Int) (r : T_ward_Plan × (List T_ward_Child)) (e : ward_again.l0_k.body go (.j1 x_1 x_2_0 x_2_1 x_2_2 a_2_3 a_2_4 y_4 x_5 x_6 a_7_0 a_7_1 b_7_2 x_8) = some r) : ward_again.l0_k.I (.j1 x_1 x_2_0 x_2_1 x_2_2 a_2_3 a_2_4 y_4 x_5 x_6 a_7_0 a_7_1 b_7_2 x_8) r := by
  unfold ward_again.l0_k.body at e
  intro W h0 m0 h m bk_2 A_2_3_0 n_2_3_0 c_2_3_0 A_2_4_0 n_2_4_0 c_2_4_0 bk_4 cs_4 bk_7 A_7_0_0 n_7_0_0 c_7_0_0 A_7_1_0 n_7_1_0 c_7_1_0 O ne_2_3_0 ne_2_4_0 k_2_4_0 r_2_4_0 e_4 ne_7_0_0 ne_7_1_0
  subst ne_2_3_0
  subst ne_2_4_0
  subst ne_7_0_0
  subst ne_7_1_0
  refine f52.j1_in ?_
  unfold f52.j1T
  exact (ih _ _ e) _ _ _ _ _ _ _ _ _ _ _ _ _ _ _ _ _ _ _ _ _ (O.pick [0, 1, 2, 3, 4, 5]).nm rfl rfl k_2_4_0 r_2_4_0 e_4 rfl rfl
theorem ward_again.l0_k.all {p : ward_again.l0_k.Pt} {r : (T_ward_Plan × (List T_ward_Child))} (e : ward_again.l0_k.go p = some r) : ward_again.l0_k.I p r := fixF_ind (β := fun _ => (T_ward_Plan × (List T_ward_Child))) ward_again.l0_k.mono (I := ward_again.l0_k.I) (fun go ih p r e => match p with
  | .l0 x_1 x_2_0 x_2_1 x_2_2 a_2_3 a_2_4 y_4 x_5 x_6 a_7_0 a_7_1 b_7_2 x_8 => ward_again.l0_k.step_l0 go ih x_1 x_2_0 x_2_1 x_2_2 a_2_3 a_2_4 y_4 x_5 x_6 a_7_0 a_7_1 b_7_2 x_8 r e
  | .j1 x_1 x_2_0 x_2_1 x_2_2 a_2_3 a_2_4 y_4 x_5 x_6 a_7_0 a_7_1 b_7_2 x_8 => ward_again.l0_k.step_j1 go ih x_1 x_2_0 x_2_1 x_2_2 a_2_3 a_2_4 y_4 x_5 x_6 a_7_0 a_7_1 b_7_2 x_8 r e
  ) e
theorem ward_again.l0.walk {W : Nat → Prop} {h0 m0 h m : Heap} {bk_2 : Nat} {A_2_3_0 : Option Addr} {n_2_3_0 : Nat} {c_2_3_0 : Nat} {A_2_4_0 : Option Addr} {n_2_4_0 : Nat} {c_2_4_0 : Nat} {bk_4 : Nat} {cs_4 : List Value} {bk_7 : Nat} {A_7_0_0 : Option Addr} {n_7_0_0 : Nat} {c_7_0_0 : Nat} {A_7_1_0 : Option Addr} {n_7_1_0 : Nat} {c_7_1_0 : Nat} {x_1 : Int} {x_2_0 : Int} {x_2_1 : Int} {x_2_2 : Int} {a_2_3 : (List T_ward_Child)} {a_2_4 : (List Int)} {y_4 : T_ward_Plan} {x_5 : Int} {x_6 : Int} {a_7_0 : (List Int)} {a_7_1 : (List Int)} {b_7_2 : Bool} {x_8 : Int} (O : Hold W h0 m0 h m [rV bk_2 25 [(Value.int .i64 x_2_0), (Value.int .i64 x_2_1), (Value.int .i64 x_2_2), (Value.slice A_2_3_0 n_2_3_0 c_2_3_0), (Value.slice A_2_4_0 n_2_4_0 c_2_4_0)], rR (aE T_ward_Child.T) A_2_3_0 c_2_3_0 a_2_3, rV bk_4 31 cs_4, rV bk_7 31 [(Value.slice A_7_0_0 n_7_0_0 c_7_0_0), (Value.slice A_7_1_0 n_7_1_0 c_7_1_0), (Value.bool b_7_2)], rR (aE (tell_int .i64)) A_7_0_0 c_7_0_0 a_7_0, rR (aE (tell_int .i64)) A_7_1_0 c_7_1_0 a_7_1]) (ne_2_3_0 : n_2_3_0 = List.length a_2_3) (ne_2_4_0 : n_2_4_0 = List.length a_2_4) (k_2_4_0 : List.length a_2_4 ≤ c_2_4_0) (r_2_4_0 : Rd 1 (eInt .i64) m A_2_4_0 a_2_4) (e_4 : T_ward_Plan.E m y_4 cs_4) (ne_7_0_0 : n_7_0_0 = List.length a_7_0) (ne_7_1_0 : n_7_1_0 = List.length a_7_1) {r : T_ward_Plan × (List T_ward_Child)} (e : ward_again.l0 x_1 x_2_0 x_2_1 x_2_2 a_2_3 a_2_4 y_4 x_5 x_6 a_7_0 a_7_1 b_7_2 x_8 = some r) : f52.l0 (ward_again.post W A_2_3_0 n_2_3_0 c_2_3_0 h0 m0 r) x_1 (⟨bk_2, 0, none⟩ : Addr) (⟨bk_4, 0, none⟩ : Addr) x_5 x_6 (⟨bk_7, 0, none⟩ : Addr) x_8 h := ward_again.l0_k.all (p := .l0 x_1 x_2_0 x_2_1 x_2_2 a_2_3 a_2_4 y_4 x_5 x_6 a_7_0 a_7_1 b_7_2 x_8) e W h0 m0 h m bk_2 A_2_3_0 n_2_3_0 c_2_3_0 A_2_4_0 n_2_4_0 c_2_4_0 bk_4 cs_4 bk_7 A_7_0_0 n_7_0_0 c_7_0_0 A_7_1_0 n_7_1_0 c_7_1_0 O ne_2_3_0 ne_2_4_0 k_2_4_0 r_2_4_0 e_4 ne_7_0_0 ne_7_1_0
noncomputable def ward_again.j0 (x_1 : Int) (x_2_0 : Int) (x_2_1 : Int) (x_2_2 : Int) (a_2_3 : (List T_ward_Child)) (a_2_4 : (List Int)) (y_4 : T_ward_Plan) (x_5 : Int) (x_6 : Int) : Option (T_ward_Plan × (List T_ward_Child)) :=
  (ward_again.l0 x_1 x_2_0 x_2_1 x_2_2 a_2_3 a_2_4 y_4 x_5 x_6 ([] : List Int) ([] : List Int) false (IntKind.wrap .i64 (x_6 - (1 : Int))))
set_option maxRecDepth 100000 in
theorem ward_again.j0.walk {W : Nat → Prop} {h0 m0 h m : Heap} {bk_2 : Nat} {A_2_3_0 : Option Addr} {n_2_3_0 : Nat} {c_2_3_0 : Nat} {A_2_4_0 : Option Addr} {n_2_4_0 : Nat} {c_2_4_0 : Nat} {bk_4 : Nat} {cs_4 : List Value} {x_1 : Int} {x_2_0 : Int} {x_2_1 : Int} {x_2_2 : Int} {a_2_3 : (List T_ward_Child)} {a_2_4 : (List Int)} {y_4 : T_ward_Plan} {x_5 : Int} {x_6 : Int} (O : Hold W h0 m0 h m [rV bk_2 25 [(Value.int .i64 x_2_0), (Value.int .i64 x_2_1), (Value.int .i64 x_2_2), (Value.slice A_2_3_0 n_2_3_0 c_2_3_0), (Value.slice A_2_4_0 n_2_4_0 c_2_4_0)], rR (aE T_ward_Child.T) A_2_3_0 c_2_3_0 a_2_3, rV bk_4 31 cs_4]) (ne_2_3_0 : n_2_3_0 = List.length a_2_3) (ne_2_4_0 : n_2_4_0 = List.length a_2_4) (k_2_4_0 : List.length a_2_4 ≤ c_2_4_0) (r_2_4_0 : Rd 1 (eInt .i64) m A_2_4_0 a_2_4) (e_4 : T_ward_Plan.E m y_4 cs_4) {r : T_ward_Plan × (List T_ward_Child)} (e : ward_again.j0 x_1 x_2_0 x_2_1 x_2_2 a_2_3 a_2_4 y_4 x_5 x_6 = some r) : f52.j0 (ward_again.post W A_2_3_0 n_2_3_0 c_2_3_0 h0 m0 r) x_1 (⟨bk_2, 0, none⟩ : Addr) (⟨bk_4, 0, none⟩ : Addr) x_5 x_6 h := by
  unfold ward_again.j0 at e
  subst ne_2_3_0
  subst ne_2_4_0
  refine f52.j0_in ?_
  unfold f52.j0T
  refine O.new fun h1 x2 O3 => ?_
  have O5 := O3.nil (aE (tell_int .i64)) none
  have O7 := O5.nil (aE (tell_int .i64)) none
  have O9 := O7.nm
  exact ward_again.l0.walk (O9.pick [0, 1, 2, 3, 4, 5]).nm rfl rfl k_2_4_0 r_2_4_0 e_4 rfl rfl e
noncomputable def ward_again (y_0 : T_ward_Ward) (x_1 : Int) : Option (T_ward_Plan × (List T_ward_Child)) :=
  if y_0.How = (2 : Int) then ((ward_again.j0 x_1 y_0.How y_0.Most y_0.Window y_0.Children y_0.Times (T_ward_Plan.mk ([] : List Int) ([] : List Int) false) (0 : Int) (((List.length y_0.Children) : Nat) : Int))) else (if y_0.How = (3 : Int) then ((ward_again.j0 x_1 y_0.How y_0.Most y_0.Window y_0.Children y_0.Times (T_ward_Plan.mk ([] : List Int) ([] : List Int) false) x_1 (((List.length y_0.Children) : Nat) : Int))) else ((ward_again.j0 x_1 y_0.How y_0.Most y_0.Window y_0.Children y_0.Times (T_ward_Plan.mk ([] : List Int) ([] : List Int) false) x_1 (IntKind.wrap .i64 (x_1 + (1 : Int))))))
set_option maxRecDepth 100000 in
theorem ward_again.walk {W : Nat → Prop} {h m : Heap} {A_0_3 : Option Addr} {n_0_3 : Nat} {c_0_3 : Nat} {A_0_4 : Option Addr} {n_0_4 : Nat} {c_0_4 : Nat} {y_0 : T_ward_Ward} {x_1 : Int} (O : Hold W h m h m [rR (aE T_ward_Child.T) A_0_3 c_0_3 y_0.Children]) (ne_0_3 : n_0_3 = List.length y_0.Children) (ne_0_4 : n_0_4 = List.length y_0.Times) (k_0_4 : List.length y_0.Times ≤ c_0_4) (r_0_4 : Rd 1 (eInt .i64) m A_0_4 y_0.Times) {r : T_ward_Plan × (List T_ward_Child)} (e : ward_again y_0 x_1 = some r) : Run Try.prog 52 #[Value.agg #[(Value.int .i64 y_0.How), (Value.int .i64 y_0.Most), (Value.int .i64 y_0.Window), (Value.slice A_0_3 n_0_3 c_0_3), (Value.slice A_0_4 n_0_4 c_0_4)], Value.int .i64 x_1] h (ward_again.post W A_0_3 n_0_3 c_0_3 h m r) := by
  unfold ward_again at e
  subst ne_0_3
  subst ne_0_4
  refine f52.run ?_
  unfold f52.runT
  refine O.new fun h1 x2 O3 => ?_
  refine O3.new fun h5 x6 O7 => ?_
  refine ⟨_, ld0 (Sub.refl _) (O7.all 1 rfl) rfl, _, rfl, ?_⟩
  refine split_eq_e e (fun c13 e => ?_) (fun c13 e => ?_)
  · refine ⟨_, ldk (k := 3) (Sub.refl _) (O7.all 1 rfl) rfl, _, _, _, rfl, ?_⟩
    have O9 := O7.nm
    exact ward_again.j0.walk (O9.pick [1, 0, 2]).nm rfl rfl k_0_4 r_0_4 (show T_ward_Plan.E _ (T_ward_Plan.mk ([] : List Int) ([] : List Int) false) [(Value.slice none 0 0), (Value.slice none 0 0), (Value.bool false)] from ⟨_, _, _, _, rfl, (by exact Nat.le_refl 0), Rd.nil, (by exact Nat.le_refl 0), Rd.nil⟩) e
  · refine split_eq_e e (fun c12 e => ?_) (fun c12 e => ?_)
    · refine ⟨_, ldk (k := 3) (Sub.refl _) (O7.all 1 rfl) rfl, _, _, _, rfl, ?_⟩
      have O10 := O7.nm
      exact ward_again.j0.walk (O10.pick [1, 0, 2]).nm rfl rfl k_0_4 r_0_4 (show T_ward_Plan.E _ (T_ward_Plan.mk ([] : List Int) ([] : List Int) false) [(Value.slice none 0 0), (Value.slice none 0 0), (Value.bool false)] from ⟨_, _, _, _, rfl, (by exact Nat.le_refl 0), Rd.nil, (by exact Nat.le_refl 0), Rd.nil⟩) e
    · have O11 := O7.nm
      exact ward_again.j0.walk (O11.pick [1, 0, 2]).nm rfl rfl k_0_4 r_0_4 (show T_ward_Plan.E _ (T_ward_Plan.mk ([] : List Int) ([] : List Int) false) [(Value.slice none 0 0), (Value.slice none 0 0), (Value.bool false)] from ⟨_, _, _, _, rfl, (by exact Nat.le_refl 0), Rd.nil, (by exact Nat.le_refl 0), Rd.nil⟩) e
def ward_Down.post (W : Nat → Prop) (h0 m0 : Heap) (r : T_ward_Ward × T_ward_Plan × Int) (v : Value) (h : Heap) : Prop := ∃ m cs0 cs1, Hold W h0 m0 h m [] ∧ v = .tuple #[.agg cs0.toArray, .agg cs1.toArray, .int .i64 r.2.2] ∧ T_ward_Ward.E m r.1 cs0 ∧ T_ward_Plan.E m r.2.1 cs1
noncomputable def ward_Down.j1 (x_3 : Int) (x_4_0 : Int) (x_4_1 : Int) (x_4_2 : Int) (a_4_3 : (List T_ward_Child)) (a_4_4 : (List Int)) (y_8 : T_ward_Ward) (y_9 : T_ward_Plan) (x_12 : Int) : Option (T_ward_Ward × T_ward_Plan × Int) :=
  Option.bind (ward_recent (T_ward_Ward.mk x_4_0 x_4_1 x_4_2 a_4_3 a_4_4) x_3) fun y1 => if (((List.length y1) : Nat) : Int) ≥ x_4_1 then (Option.bind (ward_stop (T_ward_Ward.mk x_4_0 x_4_1 x_4_2 a_4_3 y1)) fun y23 => some (y23.1, y23.2.1, y23.2.2)) else (Option.bind (ap 8 y1 ([x_3] : List Int)) fun l54 => Option.bind (ward_again (T_ward_Ward.mk x_4_0 x_4_1 x_4_2 a_4_3 l54) x_12) fun y66 => some ((T_ward_Ward.mk x_4_0 x_4_1 x_4_2 y66.2 l54), y66.1, (0 : Int)))
set_option maxHeartbeats 4000000 in
set_option maxRecDepth 100000 in
theorem ward_Down.j1.walk {W : Nat → Prop} {h0 m0 h m : Heap} {bk_4 : Nat} {A_4_3_0 : Option Addr} {n_4_3_0 : Nat} {c_4_3_0 : Nat} {A_4_4_0 : Option Addr} {n_4_4_0 : Nat} {c_4_4_0 : Nat} {bk_8 : Nat} {cs_8 : List Value} {bk_9 : Nat} {cs_9 : List Value} {x_3 : Int} {x_4_0 : Int} {x_4_1 : Int} {x_4_2 : Int} {a_4_3 : (List T_ward_Child)} {a_4_4 : (List Int)} {y_8 : T_ward_Ward} {y_9 : T_ward_Plan} {x_12 : Int} (O : Hold W h0 m0 h m [rV bk_4 25 [(Value.int .i64 x_4_0), (Value.int .i64 x_4_1), (Value.int .i64 x_4_2), (Value.slice A_4_3_0 n_4_3_0 c_4_3_0), (Value.slice A_4_4_0 n_4_4_0 c_4_4_0)], rR (aE T_ward_Child.T) A_4_3_0 c_4_3_0 a_4_3, rR (aE (tell_int .i64)) A_4_4_0 c_4_4_0 a_4_4, rV bk_8 25 cs_8, rV bk_9 31 cs_9]) (ne_4_3_0 : n_4_3_0 = List.length a_4_3) (ne_4_4_0 : n_4_4_0 = List.length a_4_4) (e_8 : T_ward_Ward.E m y_8 cs_8) (e_9 : T_ward_Plan.E m y_9 cs_9) {r : T_ward_Ward × T_ward_Plan × Int} (e : ward_Down.j1 x_3 x_4_0 x_4_1 x_4_2 a_4_3 a_4_4 y_8 y_9 x_12 = some r) : f8.j1 (ward_Down.post W h0 m0 r) x_3 (⟨bk_4, 0, none⟩ : Addr) (⟨bk_8, 0, none⟩ : Addr) (⟨bk_9, 0, none⟩ : Addr) x_12 h := by
  unfold ward_Down.j1 at e
  subst ne_4_3_0
  subst ne_4_4_0
  refine f8.j1_in ?_
  unfold f8.j1T
  refine ⟨_, ldAn (Sub.refl _) (O.all 0 rfl) rfl, ?_⟩
  obtain ⟨y1, g2, e⟩ := bind_e e
  obtain ⟨m7, W13, u8, P14, ⟨⟨r11, k12⟩, _⟩, B9, C10⟩ := O.lend [2] [1]
  replace r11 : Rd 3 T_ward_Child.E m7 A_4_3_0 a_4_3 := r11
  replace k12 : List.length a_4_3 ≤ c_4_3_0 := k12
  refine (ward_recent.walk (y_0 := (T_ward_Ward.mk x_4_0 x_4_1 x_4_2 a_4_3 a_4_4)) P14 rfl k12 r11 rfl g2).mono ?_
  rintro _ h3 ⟨m4, A15, n16, c17, Q5, rfl, ne18⟩
  have O20 := Hold.nm (C10 Q5 (vfs_cons (rR_vf (aE_vf (fun _ _ _ _ h => h))) vfs_nil))
  subst ne18
  refine ⟨_, _, _, rfl, ?_⟩
  refine O20.st 0 rfl 4 (Nat.le_of_ble_eq_true rfl) trivial fun h21 O22 => ?_
  refine ⟨_, ldk (k := 4) (Sub.refl _) (O22.all 0 rfl) rfl, _, _, _, rfl, ?_⟩
  refine ⟨_, ldk (k := 1) (Sub.refl _) (O22.all 0 rfl) rfl, _, rfl, ?_⟩
  refine split_dec_e e (fun c154 e => ?_) (fun c154 e => ?_)
  · refine ⟨_, ldAn (Sub.refl _) (O22.all 0 rfl) rfl, ?_⟩
    obtain ⟨y23, g24, e⟩ := bind_e e
    have O29 := O22.nm
    obtain ⟨m30, W36, u31, P37, ⟨⟨r34, k35⟩, _⟩, B32, C33⟩ := O29.lend [1] [5]
    replace r34 : Rd 1 (eInt .i64) m30 A15 y1 := r34
    replace k35 : List.length y1 ≤ c17 := k35
    refine (ward_stop.walk (y_0 := (T_ward_Ward.mk x_4_0 x_4_1 x_4_2 a_4_3 y1)) P37 rfl rfl k35 r34 g24).mono ?_
    rintro _ h25 ⟨m26, cs39, cs42, Q27, rfl, he40, he43⟩
    have O44 := Hold.nm (B32 Q27)
    refine ⟨_, _, _, rfl, ?_⟩
    refine ⟨_, rfl, (T_ward_Ward.T.len _ _ _ he40), ?_⟩
    refine O44.stA 3 rfl ((T_ward_Ward.T.len _ _ _ he40).trans ((T_ward_Ward.T.len _ _ _ e_8)).symm) (T_ward_Ward.T.flat _ _ _ he40) fun h45 O46 => ?_
    refine ⟨_, rfl, (T_ward_Plan.T.len _ _ _ he43), ?_⟩
    refine O46.stA 4 rfl ((T_ward_Plan.T.len _ _ _ he43).trans ((T_ward_Plan.T.len _ _ _ e_9)).symm) (T_ward_Plan.T.flat _ _ _ he43) fun h47 O48 => ?_
    refine ⟨_, ldAn (Sub.refl _) (O48.all 3 rfl) (T_ward_Ward.T.len _ _ _ he40), ?_⟩
    refine ⟨_, ldAn (Sub.refl _) (O48.all 4 rfl) (T_ward_Plan.T.len _ _ _ he43), ?_⟩
    have O49 := O48.nm
    cases e
    exact ⟨_, _, _, O49.pick [], rfl, he40, he43⟩
  · refine ⟨_, ldk (k := 4) (Sub.refl _) (O22.all 0 rfl) rfl, _, _, _, rfl, ?_⟩
    refine O22.new fun h50 x51 O52 => ?_
    obtain ⟨l54, g55, e⟩ := bind_e e
    have O62 := O52.rowE (l := ([x_3] : List Int)) 6 rfl (tell_int .i64) (show CsE _ _ _ _ _ from (CsE.cons (c1 := [(Value.int .i64 x_3)]) rfl rfl CsE.nil)) rfl
    refine O62.app 5 rfl rfl rfl ((O62.os 6 rfl).srcE rfl) (by decide) g55 fun A56 c57 h58 O59 => ?_
    refine ⟨_, _, _, rfl, ?_⟩
    refine O59.st 0 rfl 4 (Nat.le_of_ble_eq_true rfl) trivial fun h63 O64 => ?_
    obtain ⟨y66, g67, e⟩ := bind_e e
    have O95 := O64.nm
    refine ⟨_, ldAn (Sub.refl _) (O95.all 0 rfl) rfl, ?_⟩
    refine ⟨?_, ?_⟩
    · refine ⟨_, ldAn (Sub.refl _) (O95.all 0 rfl) rfl, ?_⟩
      refine ⟨Ext.refl _, ?_⟩
      obtain ⟨m102, W108, u103, P109, ⟨⟨r106, k107⟩, _⟩, B104, C105⟩ := O95.lend [1] [5]
      replace r106 : Rd 1 (eInt .i64) m102 A56 l54 := r106
      replace k107 : List.length l54 ≤ c57 := k107
      refine (ward_again.walk (y_0 := (T_ward_Ward.mk x_4_0 x_4_1 x_4_2 a_4_3 l54)) P109 rfl rfl k107 r106 g67).mono ?_
      rintro _ h98 ⟨m99, cs111, Q100, rfl, he112, hl113⟩
      have O114 := Hold.nm (B104 Q100)
      refine ⟨_, rfl, rfl, ?_⟩
      refine O114.stA 3 rfl ((T_ward_Ward.T.len _ _ _ e_8)).symm (Flats.cons trivial (Flats.cons trivial (Flats.cons trivial (Flats.cons trivial (Flats.cons trivial Flats.nil))))) fun h115 O116 => ?_
      refine ⟨_, rfl, (T_ward_Plan.T.len _ _ _ he112), ?_⟩
      refine O116.stA 4 rfl ((T_ward_Plan.T.len _ _ _ he112).trans ((T_ward_Plan.T.len _ _ _ e_9)).symm) (T_ward_Plan.T.flat _ _ _ he112) fun h117 O118 => ?_
      refine ⟨_, ldAn (Sub.refl _) (O118.all 3 rfl) rfl, ?_⟩
      refine ⟨_, ldAn (Sub.refl _) (O118.all 4 rfl) (T_ward_Plan.T.len _ _ _ he112), ?_⟩
      obtain ⟨m119, u120, ⟨r121, k122⟩, O123⟩ := O118.frz 7 rfl
      replace r121 : Rd 3 T_ward_Child.E m119 A_4_3_0 y66.2 := r121
      have O124 := O123.nm
      cases e
      exact ⟨_, _, _, O124.pick [], rfl, (show T_ward_Ward.E _ (T_ward_Ward.mk x_4_0 x_4_1 x_4_2 y66.2 l54) [(Value.int .i64 x_4_0), (Value.int .i64 x_4_1), (Value.int .i64 x_4_2), (Value.slice A_4_3_0 (List.length a_4_3) c_4_3_0), (Value.slice A56 (List.length l54) c57)] from ⟨_, _, _, _, by rw [hl113], k122, r121, k107, (r106.sub (tell_int .i64) (Q100.S.up.trans u120))⟩), (T_ward_Plan.T.mono _ _ _ _ u120 he112)⟩
    · obtain ⟨m131, W137, u132, P138, ⟨⟨r135, k136⟩, _⟩, B133, C134⟩ := O95.lend [1] [5]
      replace r135 : Rd 1 (eInt .i64) m131 A56 l54 := r135
      replace k136 : List.length l54 ≤ c57 := k136
      refine (ward_again.walk (y_0 := (T_ward_Ward.mk x_4_0 x_4_1 x_4_2 a_4_3 l54)) P138 rfl rfl k136 r135 g67).mono ?_
      rintro _ h127 ⟨m128, cs140, Q129, rfl, he141, hl142⟩
      have O143 := Hold.nm (B133 Q129)
      refine ⟨_, ldAn (Sub.refl _) (O143.all 0 rfl) rfl, ?_⟩
      refine ⟨Ext.refl _, ?_⟩
      refine ⟨_, rfl, rfl, ?_⟩
      refine O143.stA 3 rfl ((T_ward_Ward.T.len _ _ _ e_8)).symm (Flats.cons trivial (Flats.cons trivial (Flats.cons trivial (Flats.cons trivial (Flats.cons trivial Flats.nil))))) fun h144 O145 => ?_
      refine ⟨_, rfl, (T_ward_Plan.T.len _ _ _ he141), ?_⟩
      refine O145.stA 4 rfl ((T_ward_Plan.T.len _ _ _ he141).trans ((T_ward_Plan.T.len _ _ _ e_9)).symm) (T_ward_Plan.T.flat _ _ _ he141) fun h146 O147 => ?_
      refine ⟨_, ldAn (Sub.refl _) (O147.all 3 rfl) rfl, ?_⟩
      refine ⟨_, ldAn (Sub.refl _) (O147.all 4 rfl) (T_ward_Plan.T.len _ _ _ he141), ?_⟩
      obtain ⟨m148, u149, ⟨r150, k151⟩, O152⟩ := O147.frz 7 rfl
      replace r150 : Rd 3 T_ward_Child.E m148 A_4_3_0 y66.2 := r150
      have O153 := O152.nm
      cases e
      exact ⟨_, _, _, O153.pick [], rfl, (show T_ward_Ward.E _ (T_ward_Ward.mk x_4_0 x_4_1 x_4_2 y66.2 l54) [(Value.int .i64 x_4_0), (Value.int .i64 x_4_1), (Value.int .i64 x_4_2), (Value.slice A_4_3_0 (List.length a_4_3) c_4_3_0), (Value.slice A56 (List.length l54) c57)] from ⟨_, _, _, _, by rw [hl142], k151, r150, k136, (r135.sub (tell_int .i64) (Q129.S.up.trans u149))⟩), (T_ward_Plan.T.mono _ _ _ _ u149 he141)⟩
noncomputable def ward_Down.j2 (x_3 : Int) (x_4_0 : Int) (x_4_1 : Int) (x_4_2 : Int) (a_4_3 : (List T_ward_Child)) (a_4_4 : (List Int)) (y_8 : T_ward_Ward) (y_9 : T_ward_Plan) (x_12 : Int) (b_90 : Bool) : Option (T_ward_Ward × T_ward_Plan × Int) :=
  if b_90 = true then (some ((T_ward_Ward.mk x_4_0 x_4_1 x_4_2 a_4_3 a_4_4), (T_ward_Plan.mk ([] : List Int) ([] : List Int) false), (0 : Int))) else ((ward_Down.j1 x_3 x_4_0 x_4_1 x_4_2 a_4_3 a_4_4 y_8 y_9 x_12))
set_option maxRecDepth 100000 in
theorem ward_Down.j2.walk {W : Nat → Prop} {h0 m0 h m : Heap} {bk_4 : Nat} {A_4_3_0 : Option Addr} {n_4_3_0 : Nat} {c_4_3_0 : Nat} {A_4_4_0 : Option Addr} {n_4_4_0 : Nat} {c_4_4_0 : Nat} {bk_8 : Nat} {cs_8 : List Value} {bk_9 : Nat} {cs_9 : List Value} {x_3 : Int} {x_4_0 : Int} {x_4_1 : Int} {x_4_2 : Int} {a_4_3 : (List T_ward_Child)} {a_4_4 : (List Int)} {y_8 : T_ward_Ward} {y_9 : T_ward_Plan} {x_12 : Int} {b_90 : Bool} (O : Hold W h0 m0 h m [rV bk_4 25 [(Value.int .i64 x_4_0), (Value.int .i64 x_4_1), (Value.int .i64 x_4_2), (Value.slice A_4_3_0 n_4_3_0 c_4_3_0), (Value.slice A_4_4_0 n_4_4_0 c_4_4_0)], rR (aE T_ward_Child.T) A_4_3_0 c_4_3_0 a_4_3, rR (aE (tell_int .i64)) A_4_4_0 c_4_4_0 a_4_4, rV bk_8 25 cs_8, rV bk_9 31 cs_9]) (ne_4_3_0 : n_4_3_0 = List.length a_4_3) (ne_4_4_0 : n_4_4_0 = List.length a_4_4) (e_8 : T_ward_Ward.E m y_8 cs_8) (e_9 : T_ward_Plan.E m y_9 cs_9) {r : T_ward_Ward × T_ward_Plan × Int} (e : ward_Down.j2 x_3 x_4_0 x_4_1 x_4_2 a_4_3 a_4_4 y_8 y_9 x_12 b_90 = some r) : f8.j2 (ward_Down.post W h0 m0 r) x_3 (⟨bk_4, 0, none⟩ : Addr) (⟨bk_8, 0, none⟩ : Addr) (⟨bk_9, 0, none⟩ : Addr) x_12 b_90 h := by
  unfold ward_Down.j2 at e
  subst ne_4_3_0
  subst ne_4_4_0
  refine f8.j2_in ?_
  unfold f8.j2T
  refine split_any_e e (fun c16 e => ?_) (fun c16 e => ?_)
  · refine ⟨_, ldAn (Sub.refl _) (O.all 0 rfl) rfl, ?_⟩
    refine ⟨_, rfl, rfl, ?_⟩
    refine O.stA 3 rfl ((T_ward_Ward.T.len _ _ _ e_8)).symm (Flats.cons trivial (Flats.cons trivial (Flats.cons trivial (Flats.cons trivial (Flats.cons trivial Flats.nil))))) fun h1 O2 => ?_
    refine ⟨_, rfl, rfl, ?_⟩
    refine O2.stA 4 rfl ((T_ward_Plan.T.len _ _ _ e_9)).symm (Flats.cons trivial (Flats.cons trivial (Flats.cons trivial Flats.nil))) fun h3 O4 => ?_
    refine ⟨_, ldAn (Sub.refl _) (O4.all 3 rfl) rfl, ?_⟩
    refine ⟨_, ldAn (Sub.refl _) (O4.all 4 rfl) rfl, ?_⟩
    obtain ⟨m5, u6, ⟨r7, k8⟩, O9⟩ := O4.frz 1 rfl
    replace r7 : Rd 3 T_ward_Child.E m5 A_4_3_0 a_4_3 := r7
    obtain ⟨m10, u11, ⟨r12, k13⟩, O14⟩ := O9.frz 2 rfl
    replace r12 : Rd 1 (eInt .i64) m10 A_4_4_0 a_4_4 := r12
    have O15 := O14.nm
    cases e
    exact ⟨_, _, _, O15.pick [], rfl, (show T_ward_Ward.E _ (T_ward_Ward.mk x_4_0 x_4_1 x_4_2 a_4_3 a_4_4) [(Value.int .i64 x_4_0), (Value.int .i64 x_4_1), (Value.int .i64 x_4_2), (Value.slice A_4_3_0 (List.length a_4_3) c_4_3_0), (Value.slice A_4_4_0 (List.length a_4_4) c_4_4_0)] from ⟨_, _, _, _, rfl, k8, (r7.sub T_ward_Child.T u11), k13, r12⟩), (show T_ward_Plan.E _ (T_ward_Plan.mk ([] : List Int) ([] : List Int) false) [(Value.slice none 0 0), (Value.slice none 0 0), (Value.bool false)] from ⟨_, _, _, _, rfl, (by exact Nat.le_refl 0), Rd.nil, (by exact Nat.le_refl 0), Rd.nil⟩)⟩
  · exact ward_Down.j1.walk (O.pick [0, 1, 2, 3, 4]).nm rfl rfl e_8 e_9 e
noncomputable def ward_Down.j0 (b_2 : Bool) (x_3 : Int) (y_4 : T_ward_Ward) (y_8 : T_ward_Ward) (y_9 : T_ward_Plan) (x_12 : Int) : Option (T_ward_Ward × T_ward_Plan × Int) :=
  Option.bind (ward_own y_4) fun y1 => Option.bind (gi y1.Children x_12) fun y13 => Option.bind (some (List.set y1.Children (Int.toNat x_12) ({ y13 with Lives := false }))) fun l22 => Option.bind (gi l22 x_12) fun y24 => if y24.When = (3 : Int) then ((ward_Down.j2 x_3 y1.How y1.Most y1.Window l22 y1.Times y_8 y_9 x_12 true)) else (if y24.When = (2 : Int) then ((ward_Down.j2 x_3 y1.How y1.Most y1.Window l22 y1.Times y_8 y_9 x_12 (!b_2))) else ((ward_Down.j2 x_3 y1.How y1.Most y1.Window l22 y1.Times y_8 y_9 x_12 false)))
set_option maxHeartbeats 4000000 in
set_option maxRecDepth 100000 in
theorem ward_Down.j0.walk {W : Nat → Prop} {h0 m0 h m : Heap} {bk_4 : Nat} {cs_4 : List Value} {bk_8 : Nat} {cs_8 : List Value} {bk_9 : Nat} {cs_9 : List Value} {b_2 : Bool} {x_3 : Int} {y_4 : T_ward_Ward} {y_8 : T_ward_Ward} {y_9 : T_ward_Plan} {x_12 : Int} (O : Hold W h0 m0 h m [rV bk_4 25 cs_4, rV bk_8 25 cs_8, rV bk_9 31 cs_9]) (e_4 : T_ward_Ward.E m y_4 cs_4) (e_8 : T_ward_Ward.E m y_8 cs_8) (e_9 : T_ward_Plan.E m y_9 cs_9) {r : T_ward_Ward × T_ward_Plan × Int} (e : ward_Down.j0 b_2 x_3 y_4 y_8 y_9 x_12 = some r) : f8.j0 (ward_Down.post W h0 m0 r) b_2 x_3 (⟨bk_4, 0, none⟩ : Addr) (⟨bk_8, 0, none⟩ : Addr) (⟨bk_9, 0, none⟩ : Addr) x_12 h := by
  unfold ward_Down.j0 at e
  refine f8.j0_in ?_
  unfold f8.j0T
  refine ⟨_, ldAn (Sub.refl _) (O.all 0 rfl) (T_ward_Ward.T.len _ _ _ e_4), ?_⟩
  obtain ⟨y1, g2, e⟩ := bind_e e
  refine (ward_own.walk (Hold.start (W := No) O.s) e_4 g2).mono ?_
  rintro _ h3 ⟨m4, A_7_3, n_7_3, c_7_3, A_7_4, n_7_4, c_7_4, Q5, rfl, ne_7_3, ne_7_4⟩
  have O10 := Hold.nm (O.retC Q5 (vfs_cons (rR_vf (aE_vf (fun _ _ _ _ h => T_ward_Child.keep h))) (vfs_cons (rR_vf (aE_vf (fun _ _ _ _ h => h))) vfs_nil)))
  subst ne_7_3
  subst ne_7_4
  refine ⟨_, rfl, rfl, ?_⟩
  refine O10.stA 0 rfl ((T_ward_Ward.T.len _ _ _ e_4)).symm (Flats.cons trivial (Flats.cons trivial (Flats.cons trivial (Flats.cons trivial (Flats.cons trivial Flats.nil))))) fun h11 O12 => ?_
  refine ⟨_, ldk (k := 3) (Sub.refl _) (O12.all 0 rfl) rfl, _, _, _, rfl, ?_⟩
  obtain ⟨y13, g14, e⟩ := bind_e e
  refine (O12.os 3 rfl).addr rfl g14 fun a15 cs16 ha17 hc18 he19 => ?_
  obtain ⟨l22, g23, e⟩ := bind_e e
  replace g23 := Option.some.inj g23
  refine O12.elst 3 rfl g14 ha17 hc18 2 (by decide) (y' := ({ y13 with Lives := false })) (T_ward_Child.s2 he19 false) trivial g23 fun h20 O21 => ?_
  refine ⟨_, ldk (k := 3) (Sub.refl _) (O21.all 0 rfl) rfl, _, _, _, rfl, ?_⟩
  obtain ⟨y24, g25, e⟩ := bind_e e
  refine (O21.os 3 rfl).addr (lset' g23) g25 fun a26 cs27 ha28 hc29 he30 => ?_
  refine ⟨_, ldAn (Sub.refl _) hc29 rfl, ?_⟩
  refine O21.new fun h31 x32 O33 => ?_
  refine ⟨_, rfl, (T_ward_Child.T.len _ _ _ he30), ?_⟩
  refine O33.stA 5 rfl (T_ward_Child.T.len _ _ _ he30) (T_ward_Child.T.flat _ _ _ he30) fun h35 O36 => ?_
  refine ⟨_, ldk (k := 1) (Sub.refl _) (O36.all 5 rfl) (T_ward_Child.g1 he30), _, rfl, ?_⟩
  refine split_eq_e e (fun c41 e => ?_) (fun c41 e => ?_)
  · have O37 := O36.nm
    exact ward_Down.j2.walk (O37.pick [0, 3, 4, 1, 2]).nm (lset' g23) rfl e_8 e_9 e
  · refine ⟨_, ldk (k := 1) (Sub.refl _) (O36.all 5 rfl) (T_ward_Child.g1 he30), _, rfl, ?_⟩
    refine split_eq_e e (fun c40 e => ?_) (fun c40 e => ?_)
    · have O38 := O36.nm
      exact ward_Down.j2.walk (O38.pick [0, 3, 4, 1, 2]).nm (lset' g23) rfl e_8 e_9 e
    · have O39 := O36.nm
      exact ward_Down.j2.walk (O39.pick [0, 3, 4, 1, 2]).nm (lset' g23) rfl e_8 e_9 e
noncomputable def ward_Down.j3 (b_2 : Bool) (x_3 : Int) (y_4 : T_ward_Ward) (y_8 : T_ward_Ward) (y_9 : T_ward_Plan) (x_12 : Int) (b_40 : Bool) : Option (T_ward_Ward × T_ward_Plan × Int) :=
  if b_40 = true then (some ((T_ward_Ward.mk (0 : Int) (0 : Int) (0 : Int) ([] : List T_ward_Child) ([] : List Int)), (T_ward_Plan.mk ([] : List Int) ([] : List Int) false), (21 : Int))) else ((ward_Down.j0 b_2 x_3 y_4 y_8 y_9 x_12))
set_option maxRecDepth 100000 in
theorem ward_Down.j3.walk {W : Nat → Prop} {h0 m0 h m : Heap} {bk_4 : Nat} {cs_4 : List Value} {bk_8 : Nat} {cs_8 : List Value} {bk_9 : Nat} {cs_9 : List Value} {b_2 : Bool} {x_3 : Int} {y_4 : T_ward_Ward} {y_8 : T_ward_Ward} {y_9 : T_ward_Plan} {x_12 : Int} {b_40 : Bool} (O : Hold W h0 m0 h m [rV bk_4 25 cs_4, rV bk_8 25 cs_8, rV bk_9 31 cs_9]) (e_4 : T_ward_Ward.E m y_4 cs_4) (e_8 : T_ward_Ward.E m y_8 cs_8) (e_9 : T_ward_Plan.E m y_9 cs_9) {r : T_ward_Ward × T_ward_Plan × Int} (e : ward_Down.j3 b_2 x_3 y_4 y_8 y_9 x_12 b_40 = some r) : f8.j3 (ward_Down.post W h0 m0 r) b_2 x_3 (⟨bk_4, 0, none⟩ : Addr) (⟨bk_8, 0, none⟩ : Addr) (⟨bk_9, 0, none⟩ : Addr) x_12 b_40 h := by
  unfold ward_Down.j3 at e
  refine f8.j3_in ?_
  unfold f8.j3T
  refine split_any_e e (fun c6 e => ?_) (fun c6 e => ?_)
  · refine ⟨_, rfl, rfl, ?_⟩
    refine O.stA 1 rfl ((T_ward_Ward.T.len _ _ _ e_8)).symm (Flats.cons trivial (Flats.cons trivial (Flats.cons trivial (Flats.cons trivial (Flats.cons trivial Flats.nil))))) fun h1 O2 => ?_
    refine ⟨_, rfl, rfl, ?_⟩
    refine O2.stA 2 rfl ((T_ward_Plan.T.len _ _ _ e_9)).symm (Flats.cons trivial (Flats.cons trivial (Flats.cons trivial Flats.nil))) fun h3 O4 => ?_
    refine ⟨_, ldAn (Sub.refl _) (O4.all 1 rfl) rfl, ?_⟩
    refine ⟨_, ldAn (Sub.refl _) (O4.all 2 rfl) rfl, ?_⟩
    have O5 := O4.nm
    cases e
    exact ⟨_, _, _, O5.pick [], rfl, (show T_ward_Ward.E _ (T_ward_Ward.mk (0 : Int) (0 : Int) (0 : Int) ([] : List T_ward_Child) ([] : List Int)) [(Value.int .i64 (0 : Int)), (Value.int .i64 (0 : Int)), (Value.int .i64 (0 : Int)), (Value.slice none 0 0), (Value.slice none 0 0)] from ⟨_, _, _, _, rfl, (by exact Nat.le_refl 0), Rd.nil, (by exact Nat.le_refl 0), Rd.nil⟩), (show T_ward_Plan.E _ (T_ward_Plan.mk ([] : List Int) ([] : List Int) false) [(Value.slice none 0 0), (Value.slice none 0 0), (Value.bool false)] from ⟨_, _, _, _, rfl, (by exact Nat.le_refl 0), Rd.nil, (by exact Nat.le_refl 0), Rd.nil⟩)⟩
  · exact ward_Down.j0.walk (O.pick [0, 1, 2]).nm e_4 e_8 e_9 e
noncomputable def ward_Down (y_0 : T_ward_Ward) (x_1 : Int) (b_2 : Bool) (x_3 : Int) : Option (T_ward_Ward × T_ward_Plan × Int) :=
  Option.bind (ward_Check y_0) fun y13 => if y13 = (0 : Int) then (Option.bind (ward_find y_0.Children x_1) fun y30 => if y30 < (0 : Int) then (some ((T_ward_Ward.mk (0 : Int) (0 : Int) (0 : Int) ([] : List T_ward_Child) ([] : List Int)), (T_ward_Plan.mk ([] : List Int) ([] : List Int) false), (4 : Int))) else (Option.bind (gi y_0.Children y30) fun y47 => if y47.Lives = true then (if x_3 < (0 : Int) then ((ward_Down.j3 b_2 x_3 y_0 (T_ward_Ward.mk (0 : Int) (0 : Int) (0 : Int) ([] : List T_ward_Child) ([] : List Int)) (T_ward_Plan.mk ([] : List Int) ([] : List Int) false) y30 true)) else (if x_3 > (1099511627776 : Int) then ((ward_Down.j3 b_2 x_3 y_0 (T_ward_Ward.mk (0 : Int) (0 : Int) (0 : Int) ([] : List T_ward_Child) ([] : List Int)) (T_ward_Plan.mk ([] : List Int) ([] : List Int) false) y30 true)) else (if (((List.length y_0.Times) : Nat) : Int) > (0 : Int) then (Option.bind (gi y_0.Times (IntKind.wrap .i64 ((((List.length y_0.Times) : Nat) : Int) - (1 : Int)))) fun y69 => (ward_Down.j3 b_2 x_3 y_0 (T_ward_Ward.mk (0 : Int) (0 : Int) (0 : Int) ([] : List T_ward_Child) ([] : List Int)) (T_ward_Plan.mk ([] : List Int) ([] : List Int) false) y30 (decide (x_3 < y69)))) else ((ward_Down.j3 b_2 x_3 y_0 (T_ward_Ward.mk (0 : Int) (0 : Int) (0 : Int) ([] : List T_ward_Child) ([] : List Int)) (T_ward_Plan.mk ([] : List Int) ([] : List Int) false) y30 false))))) else (some ((T_ward_Ward.mk (0 : Int) (0 : Int) (0 : Int) ([] : List T_ward_Child) ([] : List Int)), (T_ward_Plan.mk ([] : List Int) ([] : List Int) false), (8 : Int))))) else (some ((T_ward_Ward.mk (0 : Int) (0 : Int) (0 : Int) ([] : List T_ward_Child) ([] : List Int)), (T_ward_Plan.mk ([] : List Int) ([] : List Int) false), y13))
set_option maxHeartbeats 4000000 in
set_option maxRecDepth 100000 in
theorem ward_Down.walk {W : Nat → Prop} {h m : Heap} {cs_0 : List Value} {y_0 : T_ward_Ward} {x_1 : Int} {b_2 : Bool} {x_3 : Int} (O : Hold W h m h m []) (e_0 : T_ward_Ward.E m y_0 cs_0) {r : T_ward_Ward × T_ward_Plan × Int} (e : ward_Down y_0 x_1 b_2 x_3 = some r) : Run Try.prog 8 #[Value.agg cs_0.toArray, Value.int .i64 x_1, Value.bool b_2, Value.int .i64 x_3] h (ward_Down.post W h m r) := by
  unfold ward_Down at e
  refine f8.run ?_
  unfold f8.runT
  refine O.new fun h1 x2 O3 => ?_
  refine O3.new fun h5 x6 O7 => ?_
  refine O7.new fun h9 x10 O11 => ?_
  refine ⟨_, ldAn (Sub.refl _) (O11.all 0 rfl) (T_ward_Ward.T.len _ _ _ e_0), ?_⟩
  obtain ⟨y13, g14, e⟩ := bind_e e
  refine (ward_Check.walk (Hold.start (W := No) O11.s) e_0 g14).mono ?_
  rintro _ h15 ⟨m16, Q17, rfl⟩
  have O19 := Hold.nm (O11.retC Q17 vfs_nil)
  refine ⟨_, rfl, ?_⟩
  refine split_ne_e e (fun c86 e => ?_) (fun c86 e => ?_)
  · refine ⟨_, rfl, rfl, ?_⟩
    refine O19.stA 1 rfl rfl (Flats.cons trivial (Flats.cons trivial (Flats.cons trivial (Flats.cons trivial (Flats.cons trivial Flats.nil))))) fun h20 O21 => ?_
    refine ⟨_, rfl, rfl, ?_⟩
    refine O21.stA 2 rfl rfl (Flats.cons trivial (Flats.cons trivial (Flats.cons trivial Flats.nil))) fun h22 O23 => ?_
    refine ⟨_, ldAn (Sub.refl _) (O23.all 1 rfl) rfl, ?_⟩
    refine ⟨_, ldAn (Sub.refl _) (O23.all 2 rfl) rfl, ?_⟩
    have O24 := O23.nm
    cases e
    exact ⟨_, _, _, O24.pick [], rfl, (show T_ward_Ward.E _ (T_ward_Ward.mk (0 : Int) (0 : Int) (0 : Int) ([] : List T_ward_Child) ([] : List Int)) [(Value.int .i64 (0 : Int)), (Value.int .i64 (0 : Int)), (Value.int .i64 (0 : Int)), (Value.slice none 0 0), (Value.slice none 0 0)] from ⟨_, _, _, _, rfl, (by exact Nat.le_refl 0), Rd.nil, (by exact Nat.le_refl 0), Rd.nil⟩), (show T_ward_Plan.E _ (T_ward_Plan.mk ([] : List Int) ([] : List Int) false) [(Value.slice none 0 0), (Value.slice none 0 0), (Value.bool false)] from ⟨_, _, _, _, rfl, (by exact Nat.le_refl 0), Rd.nil, (by exact Nat.le_refl 0), Rd.nil⟩)⟩
  · obtain ⟨A25, c26, q27, k28, r29⟩ := T_ward_Ward.g3 e_0
    refine ⟨_, ldk (k := 3) (Sub.refl _) (O19.all 0 rfl) q27, _, _, _, rfl, ?_⟩
    obtain ⟨y30, g31, e⟩ := bind_e e
    refine (ward_find.walk (Hold.start (W := No) O19.s) rfl k28 r29 g31).mono ?_
    rintro _ h32 ⟨m33, Q34, rfl⟩
    have O36 := Hold.nm (O19.retC Q34 vfs_nil)
    refine ⟨_, rfl, ?_⟩
    refine split_dec_e e (fun c85 e => ?_) (fun c85 e => ?_)
    · refine ⟨_, rfl, rfl, ?_⟩
      refine O36.stA 1 rfl rfl (Flats.cons trivial (Flats.cons trivial (Flats.cons trivial (Flats.cons trivial (Flats.cons trivial Flats.nil))))) fun h37 O38 => ?_
      refine ⟨_, rfl, rfl, ?_⟩
      refine O38.stA 2 rfl rfl (Flats.cons trivial (Flats.cons trivial (Flats.cons trivial Flats.nil))) fun h39 O40 => ?_
      refine ⟨_, ldAn (Sub.refl _) (O40.all 1 rfl) rfl, ?_⟩
      refine ⟨_, ldAn (Sub.refl _) (O40.all 2 rfl) rfl, ?_⟩
      have O41 := O40.nm
      cases e
      exact ⟨_, _, _, O41.pick [], rfl, (show T_ward_Ward.E _ (T_ward_Ward.mk (0 : Int) (0 : Int) (0 : Int) ([] : List T_ward_Child) ([] : List Int)) [(Value.int .i64 (0 : Int)), (Value.int .i64 (0 : Int)), (Value.int .i64 (0 : Int)), (Value.slice none 0 0), (Value.slice none 0 0)] from ⟨_, _, _, _, rfl, (by exact Nat.le_refl 0), Rd.nil, (by exact Nat.le_refl 0), Rd.nil⟩), (show T_ward_Plan.E _ (T_ward_Plan.mk ([] : List Int) ([] : List Int) false) [(Value.slice none 0 0), (Value.slice none 0 0), (Value.bool false)] from ⟨_, _, _, _, rfl, (by exact Nat.le_refl 0), Rd.nil, (by exact Nat.le_refl 0), Rd.nil⟩)⟩
    · obtain ⟨A42, c43, q44, k45, r46⟩ := T_ward_Ward.g3 e_0
      refine ⟨_, ldk (k := 3) (Sub.refl _) (O36.all 0 rfl) q44, _, _, _, rfl, ?_⟩
      obtain ⟨y47, g48, e⟩ := bind_e e
      refine r46.addr rfl g48 fun a49 cs50 ha51 hc52 he53 => ?_
      refine ⟨_, ldk (k := 2) O36.s hc52 (T_ward_Child.g2 he53), _, rfl, ?_⟩
      refine split_not ?_
      refine split_any_e e (fun c84 e => ?_) (fun c84 e => ?_)
      · refine split_dec_e e (fun c78 e => ?_) (fun c78 e => ?_)
        · exact ward_Down.j3.walk (O36.pick [0, 1, 2]).nm e_0 (show T_ward_Ward.E _ (T_ward_Ward.mk (0 : Int) (0 : Int) (0 : Int) ([] : List T_ward_Child) ([] : List Int)) [(Value.int .i64 (0 : Int)), (Value.int .i64 (0 : Int)), (Value.int .i64 (0 : Int)), (Value.slice none 0 0), (Value.slice none 0 0)] from ⟨_, _, _, _, rfl, (by exact Nat.le_refl 0), Rd.nil, (by exact Nat.le_refl 0), Rd.nil⟩) (show T_ward_Plan.E _ (T_ward_Plan.mk ([] : List Int) ([] : List Int) false) [(Value.slice none 0 0), (Value.slice none 0 0), (Value.bool false)] from ⟨_, _, _, _, rfl, (by exact Nat.le_refl 0), Rd.nil, (by exact Nat.le_refl 0), Rd.nil⟩) e
        · refine split_dec_e e (fun c77 e => ?_) (fun c77 e => ?_)
          · exact ward_Down.j3.walk (O36.pick [0, 1, 2]).nm e_0 (show T_ward_Ward.E _ (T_ward_Ward.mk (0 : Int) (0 : Int) (0 : Int) ([] : List T_ward_Child) ([] : List Int)) [(Value.int .i64 (0 : Int)), (Value.int .i64 (0 : Int)), (Value.int .i64 (0 : Int)), (Value.slice none 0 0), (Value.slice none 0 0)] from ⟨_, _, _, _, rfl, (by exact Nat.le_refl 0), Rd.nil, (by exact Nat.le_refl 0), Rd.nil⟩) (show T_ward_Plan.E _ (T_ward_Plan.mk ([] : List Int) ([] : List Int) false) [(Value.slice none 0 0), (Value.slice none 0 0), (Value.bool false)] from ⟨_, _, _, _, rfl, (by exact Nat.le_refl 0), Rd.nil, (by exact Nat.le_refl 0), Rd.nil⟩) e
          · obtain ⟨A54, c55, q56, k57, r58⟩ := T_ward_Ward.g4 e_0
            refine ⟨_, ldk (k := 4) (Sub.refl _) (O36.all 0 rfl) q56, _, _, _, rfl, ?_⟩
            refine split_dec_e e (fun c76 e => ?_) (fun c76 e => ?_)
            · obtain ⟨A59, c60, q61, k62, r63⟩ := T_ward_Ward.g4 e_0
              refine ⟨_, ldk (k := 4) (Sub.refl _) (O36.all 0 rfl) q61, _, _, _, rfl, ?_⟩
              obtain ⟨A64, c65, q66, k67, r68⟩ := T_ward_Ward.g4 e_0
              refine ⟨_, ldk (k := 4) (Sub.refl _) (O36.all 0 rfl) q66, _, _, _, rfl, ?_⟩
              obtain ⟨y69, g70, e⟩ := bind_e e
              refine r63.addr rfl g70 fun a71 cs72 ha73 hc74 he75 => ?_
              obtain rfl : cs72 = [(Value.int .i64 y69)] := he75
              refine ⟨_, ld0 O36.s hc74 rfl, _, rfl, ?_⟩
              exact ward_Down.j3.walk (O36.pick [0, 1, 2]).nm e_0 (show T_ward_Ward.E _ (T_ward_Ward.mk (0 : Int) (0 : Int) (0 : Int) ([] : List T_ward_Child) ([] : List Int)) [(Value.int .i64 (0 : Int)), (Value.int .i64 (0 : Int)), (Value.int .i64 (0 : Int)), (Value.slice none 0 0), (Value.slice none 0 0)] from ⟨_, _, _, _, rfl, (by exact Nat.le_refl 0), Rd.nil, (by exact Nat.le_refl 0), Rd.nil⟩) (show T_ward_Plan.E _ (T_ward_Plan.mk ([] : List Int) ([] : List Int) false) [(Value.slice none 0 0), (Value.slice none 0 0), (Value.bool false)] from ⟨_, _, _, _, rfl, (by exact Nat.le_refl 0), Rd.nil, (by exact Nat.le_refl 0), Rd.nil⟩) e
            · exact ward_Down.j3.walk (O36.pick [0, 1, 2]).nm e_0 (show T_ward_Ward.E _ (T_ward_Ward.mk (0 : Int) (0 : Int) (0 : Int) ([] : List T_ward_Child) ([] : List Int)) [(Value.int .i64 (0 : Int)), (Value.int .i64 (0 : Int)), (Value.int .i64 (0 : Int)), (Value.slice none 0 0), (Value.slice none 0 0)] from ⟨_, _, _, _, rfl, (by exact Nat.le_refl 0), Rd.nil, (by exact Nat.le_refl 0), Rd.nil⟩) (show T_ward_Plan.E _ (T_ward_Plan.mk ([] : List Int) ([] : List Int) false) [(Value.slice none 0 0), (Value.slice none 0 0), (Value.bool false)] from ⟨_, _, _, _, rfl, (by exact Nat.le_refl 0), Rd.nil, (by exact Nat.le_refl 0), Rd.nil⟩) e
      · refine ⟨_, rfl, rfl, ?_⟩
        refine O36.stA 1 rfl rfl (Flats.cons trivial (Flats.cons trivial (Flats.cons trivial (Flats.cons trivial (Flats.cons trivial Flats.nil))))) fun h79 O80 => ?_
        refine ⟨_, rfl, rfl, ?_⟩
        refine O80.stA 2 rfl rfl (Flats.cons trivial (Flats.cons trivial (Flats.cons trivial Flats.nil))) fun h81 O82 => ?_
        refine ⟨_, ldAn (Sub.refl _) (O82.all 1 rfl) rfl, ?_⟩
        refine ⟨_, ldAn (Sub.refl _) (O82.all 2 rfl) rfl, ?_⟩
        have O83 := O82.nm
        cases e
        exact ⟨_, _, _, O83.pick [], rfl, (show T_ward_Ward.E _ (T_ward_Ward.mk (0 : Int) (0 : Int) (0 : Int) ([] : List T_ward_Child) ([] : List Int)) [(Value.int .i64 (0 : Int)), (Value.int .i64 (0 : Int)), (Value.int .i64 (0 : Int)), (Value.slice none 0 0), (Value.slice none 0 0)] from ⟨_, _, _, _, rfl, (by exact Nat.le_refl 0), Rd.nil, (by exact Nat.le_refl 0), Rd.nil⟩), (show T_ward_Plan.E _ (T_ward_Plan.mk ([] : List Int) ([] : List Int) false) [(Value.slice none 0 0), (Value.slice none 0 0), (Value.bool false)] from ⟨_, _, _, _, rfl, (by exact Nat.le_refl 0), Rd.nil, (by exact Nat.le_refl 0), Rd.nil⟩)⟩
def ward_Play.post (W : Nat → Prop) (h0 m0 : Heap) (r : T_ward_Ward × (List T_ward_Plan) × Int) (v : Value) (h : Heap) : Prop := ∃ m cs0 A1 n1 c1, Hold W h0 m0 h m [rR (aE T_ward_Plan.T) A1 c1 r.2.1] ∧ v = .tuple #[.agg cs0.toArray, .slice A1 n1 c1, .int .i64 r.2.2] ∧ T_ward_Ward.E m r.1 cs0 ∧ n1 = List.length r.2.1
noncomputable def ward_Play.j0 (y_2 : T_ward_Ward) (y_4 : T_ward_Ward) (a_8 : List T_ward_Plan) : Option (T_ward_Ward × (List T_ward_Plan) × Int) :=
  some (y_2, a_8, (0 : Int))
set_option maxRecDepth 100000 in
theorem ward_Play.j0.walk {W : Nat → Prop} {h0 m0 h m : Heap} {bk_2 : Nat} {cs_2 : List Value} {bk_4 : Nat} {cs_4 : List Value} {A_8 : Option Addr} {n_8 c_8 : Nat} {y_2 : T_ward_Ward} {y_4 : T_ward_Ward} {a_8 : List T_ward_Plan} (O : Hold W h0 m0 h m [rV bk_2 25 cs_2, rV bk_4 25 cs_4, rR (aE T_ward_Plan.T) A_8 c_8 a_8]) (e_2 : T_ward_Ward.E m y_2 cs_2) (e_4 : T_ward_Ward.E m y_4 cs_4) (ne_8 : n_8 = List.length a_8) {r : T_ward_Ward × (List T_ward_Plan) × Int} (e : ward_Play.j0 y_2 y_4 a_8 = some r) : f9.j0 (ward_Play.post W h0 m0 r) (⟨bk_2, 0, none⟩ : Addr) (⟨bk_4, 0, none⟩ : Addr) A_8 n_8 c_8 h := by
  unfold ward_Play.j0 at e
  subst ne_8
  refine f9.j0_in ?_
  unfold f9.j0T
  refine ⟨_, ldAn (Sub.refl _) (O.all 0 rfl) (T_ward_Ward.T.len _ _ _ e_2), ?_⟩
  refine ⟨_, rfl, (T_ward_Ward.T.len _ _ _ e_2), ?_⟩
  refine O.stA 1 rfl ((T_ward_Ward.T.len _ _ _ e_2).trans ((T_ward_Ward.T.len _ _ _ e_4)).symm) (T_ward_Ward.T.flat _ _ _ e_2) fun h1 O2 => ?_
  refine ⟨_, ldAn (Sub.refl _) (O2.all 1 rfl) (T_ward_Ward.T.len _ _ _ e_2), ?_⟩
  have O3 := O2.nm
  cases e
  exact ⟨_, _, _, _, _, O3.pick [2], rfl, e_2, rfl⟩
inductive ward_Play.l0_k.Pt where
  | l0 (y_2 : T_ward_Ward) (y_4 : T_ward_Ward) (a_8 : List T_ward_Plan) (a_26 : List T_ward_Fall) (x_27 : Int) (x_28 : Int)
noncomputable def ward_Play.l0_k.body (go : (p : ward_Play.l0_k.Pt) → Option (T_ward_Ward × (List T_ward_Plan) × Int)) : (p : ward_Play.l0_k.Pt) → Option (T_ward_Ward × (List T_ward_Plan) × Int)
  | .l0 y_2 y_4 a_8 a_26 x_27 x_28 => if x_28 < x_27 then (Option.bind (gi a_26 x_28) fun y1 => Option.bind (ward_Down y_2 y1.Id y1.Failed y1.Now) fun y14 => if y14.2.2 = (0 : Int) then (Option.bind (ap 56 a_8 ([y14.2.1] : List T_ward_Plan)) fun l51 => if y14.2.1.GaveUp = true then ((ward_Play.j0 y14.1 y_4 l51)) else ((go (.l0 y14.1 y_4 l51 a_26 x_27 (IntKind.wrap .i64 (x_28 + (1 : Int))))))) else (some ((T_ward_Ward.mk (0 : Int) (0 : Int) (0 : Int) ([] : List T_ward_Child) ([] : List Int)), ([] : List T_ward_Plan), y14.2.2))) else ((ward_Play.j0 y_2 y_4 a_8))
theorem ward_Play.l0_k.mono : MonoF (β := fun _ => (T_ward_Ward × (List T_ward_Plan) × Int)) ward_Play.l0_k.body := fun f g hfg p => match p with
  | .l0 y_2 y_4 a_8 a_26 x_27 x_28 => LeO.ite (LeO.bind (LeO.refl _) fun y1 => LeO.bind (LeO.refl _) fun y14 => LeO.ite (LeO.bind (LeO.refl _) fun l51 => LeO.ite ((LeO.refl _)) ((hfg _))) (LeO.refl _)) ((LeO.refl _))
noncomputable def ward_Play.l0_k.go (p : ward_Play.l0_k.Pt) : Option (T_ward_Ward × (List T_ward_Plan) × Int) := fixF (β := fun _ => (T_ward_Ward × (List T_ward_Plan) × Int)) ward_Play.l0_k.body p
noncomputable def ward_Play.l0 (y_2 : T_ward_Ward) (y_4 : T_ward_Ward) (a_8 : List T_ward_Plan) (a_26 : List T_ward_Fall) (x_27 : Int) (x_28 : Int) : Option (T_ward_Ward × (List T_ward_Plan) × Int) := ward_Play.l0_k.go (.l0 y_2 y_4 a_8 a_26 x_27 x_28)
theorem ward_Play.l0_eq (y_2 : T_ward_Ward) (y_4 : T_ward_Ward) (a_8 : List T_ward_Plan) (a_26 : List T_ward_Fall) (x_27 : Int) (x_28 : Int) : ward_Play.l0 y_2 y_4 a_8 a_26 x_27 x_28 = if x_28 < x_27 then (Option.bind (gi a_26 x_28) fun y1 => Option.bind (ward_Down y_2 y1.Id y1.Failed y1.Now) fun y14 => if y14.2.2 = (0 : Int) then (Option.bind (ap 56 a_8 ([y14.2.1] : List T_ward_Plan)) fun l51 => if y14.2.1.GaveUp = true then ((ward_Play.j0 y14.1 y_4 l51)) else ((ward_Play.l0 y14.1 y_4 l51 a_26 x_27 (IntKind.wrap .i64 (x_28 + (1 : Int)))))) else (some ((T_ward_Ward.mk (0 : Int) (0 : Int) (0 : Int) ([] : List T_ward_Child) ([] : List Int)), ([] : List T_ward_Plan), y14.2.2))) else ((ward_Play.j0 y_2 y_4 a_8)) := fixF_eq ward_Play.l0_k.mono _
def ward_Play.l0_k.I : (p : ward_Play.l0_k.Pt) → (T_ward_Ward × (List T_ward_Plan) × Int) → Prop
  | .l0 y_2 y_4 a_8 a_26 x_27 x_28, r => ∀ (W : Nat → Prop) (h0 m0 h m : Heap) (bk_2 : Nat) (cs_2 : List Value) (bk_4 : Nat) (cs_4 : List Value) (A_8 : Option Addr) (n_8 c_8 : Nat) (A_26 : Option Addr) (n_26 c_26 : Nat) (O : Hold W h0 m0 h m [rV bk_2 25 cs_2, rV bk_4 25 cs_4, rR (aE T_ward_Plan.T) A_8 c_8 a_8]) (e_2 : T_ward_Ward.E m y_2 cs_2) (e_4 : T_ward_Ward.E m y_4 cs_4) (ne_8 : n_8 = List.length a_8) (ne_26 : n_26 = List.length a_26) (k_26 : List.length a_26 ≤ c_26) (r_26 : Rd 3 T_ward_Fall.E m A_26 a_26), f9.l0 (ward_Play.post W h0 m0 r) (⟨bk_2, 0, none⟩ : Addr) (⟨bk_4, 0, none⟩ : Addr) A_8 n_8 c_8 A_26 n_26 c_26 x_27 x_28 h
set_option maxHeartbeats 4000000 in
set_option maxRecDepth 100000 in
theorem ward_Play.l0_k.step_l0 (go : (p : ward_Play.l0_k.Pt) → Option (T_ward_Ward × (List T_ward_Plan) × Int)) (ih : ∀ p r, go p = some r → ward_Play.l0_k.I p r) (y_2 : T_ward_Ward) (y_4 : T_ward_Ward) (a_8 : List T_ward_Plan) (a_26 : List T_ward_Fall) (x_27 : Int) (x_28 : Int) (r : T_ward_Ward × (List T_ward_Plan) × Int) (e : ward_Play.l0_k.body go (.l0 y_2 y_4 a_8 a_26 x_27 x_28) = some r) : ward_Play.l0_k.I (.l0 y_2 y_4 a_8 a_26 x_27 x_28) r := by
  unfold ward_Play.l0_k.body at e
  intro W h0 m0 h m bk_2 cs_2 bk_4 cs_4 A_8 n_8 c_8 A_26 n_26 c_26 O e_2 e_4 ne_8 ne_26 k_26 r_26
  subst ne_8
  subst ne_26
  refine f9.l0_in ?_
  unfold f9.l0T
  refine split_dec_e e (fun c121 e => ?_) (fun c121 e => ?_)
  · obtain ⟨y1, g2, e⟩ := bind_e e
    refine r_26.addr rfl g2 fun a3 cs4 ha5 hc6 he7 => ?_
    refine ⟨_, ldAn O.s hc6 rfl, ?_⟩
    refine O.new fun h8 x9 O10 => ?_
    refine ⟨_, rfl, (T_ward_Fall.T.len _ _ _ he7), ?_⟩
    refine O10.stA 3 rfl (T_ward_Fall.T.len _ _ _ he7) (T_ward_Fall.T.flat _ _ _ he7) fun h12 O13 => ?_
    refine ⟨_, ldAn (Sub.refl _) (O13.all 0 rfl) (T_ward_Ward.T.len _ _ _ e_2), ?_⟩
    refine ⟨_, ld0 (Sub.refl _) (O13.all 3 rfl) (T_ward_Fall.g0 he7), _, rfl, ?_⟩
    refine ⟨_, ldk (k := 1) (Sub.refl _) (O13.all 3 rfl) (T_ward_Fall.g1 he7), _, rfl, ?_⟩
    refine ⟨_, ldk (k := 2) (Sub.refl _) (O13.all 3 rfl) (T_ward_Fall.g2 he7), _, rfl, ?_⟩
    obtain ⟨y14, g15, e⟩ := bind_e e
    refine (ward_Down.walk (Hold.start (W := No) O13.s) e_2 g15).mono ?_
    rintro _ h16 ⟨m17, cs21, cs24, Q18, rfl, he22, he25⟩
    have O26 := Hold.nm (O13.ret Q18)
    refine ⟨_, _, _, rfl, ?_⟩
    refine O26.new fun h27 x28 O29 => ?_
    refine O29.new fun h31 x32 O33 => ?_
    refine ⟨_, rfl, (T_ward_Ward.T.len _ _ _ he22), ?_⟩
    refine O33.stA 4 rfl (T_ward_Ward.T.len _ _ _ he22) (T_ward_Ward.T.flat _ _ _ he22) fun h35 O36 => ?_
    refine ⟨_, rfl, (T_ward_Plan.T.len _ _ _ he25), ?_⟩
    refine O36.stA 5 rfl (T_ward_Plan.T.len _ _ _ he25) (T_ward_Plan.T.flat _ _ _ he25) fun h37 O38 => ?_
    refine split_ne_e e (fun c120 e => ?_) (fun c120 e => ?_)
    · refine ⟨_, rfl, rfl, ?_⟩
      refine O38.stA 1 rfl ((T_ward_Ward.T.len _ _ _ e_4)).symm (Flats.cons trivial (Flats.cons trivial (Flats.cons trivial (Flats.cons trivial (Flats.cons trivial Flats.nil))))) fun h39 O40 => ?_
      have O41 := O40.nm
      refine ⟨_, ldAn (Sub.refl _) (O41.all 1 rfl) rfl, ?_⟩
      have O42 := O41.nil (aE T_ward_Plan.T) none
      have O44 := O42.nm
      cases e
      exact ⟨_, _, _, _, _, O44.pick [6], rfl, (show T_ward_Ward.E _ (T_ward_Ward.mk (0 : Int) (0 : Int) (0 : Int) ([] : List T_ward_Child) ([] : List Int)) [(Value.int .i64 (0 : Int)), (Value.int .i64 (0 : Int)), (Value.int .i64 (0 : Int)), (Value.slice none 0 0), (Value.slice none 0 0)] from ⟨_, _, _, _, rfl, (by exact Nat.le_refl 0), Rd.nil, (by exact Nat.le_refl 0), Rd.nil⟩), rfl⟩
    · obtain ⟨l51, g52, e⟩ := bind_e e
      refine ⟨_, ldAn (Sub.refl _) (O38.all 5 rfl) (T_ward_Plan.T.len _ _ _ he25), ?_⟩
      refine ⟨?_, ?_⟩
      · refine ⟨_, ldAn (Sub.refl _) (O38.all 4 rfl) (T_ward_Ward.T.len _ _ _ he22), ?_⟩
        refine ⟨Ext.refl _, ?_⟩
        refine ⟨cs24, rfl, (T_ward_Plan.T.len _ _ _ he25), ?_⟩
        refine O38.new fun h65 x66 O67 => ?_
        have O69 := O67.recell 6 rfl (cs' := cs24 ++ []) rfl
        have O70 := O69.nm
        have O79 := O70.rowE (l := ([y14.2.1] : List T_ward_Plan)) 6 rfl T_ward_Plan.T (show CsE _ _ _ _ _ from (CsE.cons he25 (T_ward_Plan.T.len _ _ _ he25) CsE.nil)) rfl
        refine O79.app 2 rfl rfl rfl ((O79.os 6 rfl).srcE rfl) (by decide) g52 fun A73 c74 h75 O76 => ?_
        refine ⟨_, _, _, rfl, ?_⟩
        refine ⟨_, rfl, (T_ward_Ward.T.len _ _ _ he22), ?_⟩
        refine O76.stA 0 rfl ((T_ward_Ward.T.len _ _ _ he22).trans ((T_ward_Ward.T.len _ _ _ e_2)).symm) (T_ward_Ward.T.flat _ _ _ he22) fun h80 O81 => ?_
        refine ⟨_, ldk (k := 2) (Sub.refl _) (O81.all 5 rfl) (T_ward_Plan.g2 he25), _, rfl, ?_⟩
        refine split_any_e e (fun c84 e => ?_) (fun c84 e => ?_)
        · have O82 := O81.nm
          exact ward_Play.j0.walk (O82.pick [0, 1, 2]).nm he22 (T_ward_Ward.T.mono _ _ _ _ Q18.S.up e_4) rfl e
        · have O83 := O81.nm
          exact (ih _ _ e) _ _ _ _ _ _ _ _ _ _ _ _ _ _ _ (O83.pick [0, 1, 2]).nm he22 (T_ward_Ward.T.mono _ _ _ _ Q18.S.up e_4) rfl rfl k_26 (r_26.sub T_ward_Fall.T Q18.S.up)
      · refine ⟨cs24, rfl, (T_ward_Plan.T.len _ _ _ he25), ?_⟩
        refine O38.new fun h85 x86 O87 => ?_
        have O89 := O87.recell 6 rfl (cs' := cs24 ++ []) rfl
        refine ⟨?_, ?_⟩
        · have O90 := O89.nm
          refine ⟨_, ldAn (Sub.refl _) (O90.all 4 rfl) (T_ward_Ward.T.len _ _ _ he22), ?_⟩
          refine ⟨Ext.refl _, ?_⟩
          have O99 := O90.rowE (l := ([y14.2.1] : List T_ward_Plan)) 6 rfl T_ward_Plan.T (show CsE _ _ _ _ _ from (CsE.cons he25 (T_ward_Plan.T.len _ _ _ he25) CsE.nil)) rfl
          refine O99.app 2 rfl rfl rfl ((O99.os 6 rfl).srcE rfl) (by decide) g52 fun A93 c94 h95 O96 => ?_
          refine ⟨_, _, _, rfl, ?_⟩
          refine ⟨_, rfl, (T_ward_Ward.T.len _ _ _ he22), ?_⟩
          refine O96.stA 0 rfl ((T_ward_Ward.T.len _ _ _ he22).trans ((T_ward_Ward.T.len _ _ _ e_2)).symm) (T_ward_Ward.T.flat _ _ _ he22) fun h100 O101 => ?_
          refine ⟨_, ldk (k := 2) (Sub.refl _) (O101.all 5 rfl) (T_ward_Plan.g2 he25), _, rfl, ?_⟩
          refine split_any_e e (fun c104 e => ?_) (fun c104 e => ?_)
          · have O102 := O101.nm
            exact ward_Play.j0.walk (O102.pick [0, 1, 2]).nm he22 (T_ward_Ward.T.mono _ _ _ _ Q18.S.up e_4) rfl e
          · have O103 := O101.nm
            exact (ih _ _ e) _ _ _ _ _ _ _ _ _ _ _ _ _ _ _ (O103.pick [0, 1, 2]).nm he22 (T_ward_Ward.T.mono _ _ _ _ Q18.S.up e_4) rfl rfl k_26 (r_26.sub T_ward_Fall.T Q18.S.up)
        · have O105 := O89.nm
          have O114 := O105.rowE (l := ([y14.2.1] : List T_ward_Plan)) 6 rfl T_ward_Plan.T (show CsE _ _ _ _ _ from (CsE.cons he25 (T_ward_Plan.T.len _ _ _ he25) CsE.nil)) rfl
          refine O114.app 2 rfl rfl rfl ((O114.os 6 rfl).srcE rfl) (by decide) g52 fun A108 c109 h110 O111 => ?_
          refine ⟨_, _, _, rfl, ?_⟩
          refine ⟨_, ldAn (Sub.refl _) (O111.all 4 rfl) (T_ward_Ward.T.len _ _ _ he22), ?_⟩
          refine ⟨Ext.refl _, ?_⟩
          refine ⟨_, rfl, (T_ward_Ward.T.len _ _ _ he22), ?_⟩
          refine O111.stA 0 rfl ((T_ward_Ward.T.len _ _ _ he22).trans ((T_ward_Ward.T.len _ _ _ e_2)).symm) (T_ward_Ward.T.flat _ _ _ he22) fun h115 O116 => ?_
          refine ⟨_, ldk (k := 2) (Sub.refl _) (O116.all 5 rfl) (T_ward_Plan.g2 he25), _, rfl, ?_⟩
          refine split_any_e e (fun c119 e => ?_) (fun c119 e => ?_)
          · have O117 := O116.nm
            exact ward_Play.j0.walk (O117.pick [0, 1, 2]).nm he22 (T_ward_Ward.T.mono _ _ _ _ Q18.S.up e_4) rfl e
          · have O118 := O116.nm
            exact (ih _ _ e) _ _ _ _ _ _ _ _ _ _ _ _ _ _ _ (O118.pick [0, 1, 2]).nm he22 (T_ward_Ward.T.mono _ _ _ _ Q18.S.up e_4) rfl rfl k_26 (r_26.sub T_ward_Fall.T Q18.S.up)
  · exact ward_Play.j0.walk (O.pick [0, 1, 2]).nm e_2 e_4 rfl e
theorem ward_Play.l0_k.all {p : ward_Play.l0_k.Pt} {r : (T_ward_Ward × (List T_ward_Plan) × Int)} (e : ward_Play.l0_k.go p = some r) : ward_Play.l0_k.I p r := fixF_ind (β := fun _ => (T_ward_Ward × (List T_ward_Plan) × Int)) ward_Play.l0_k.mono (I := ward_Play.l0_k.I) (fun go ih p r e => match p with
  | .l0 y_2 y_4 a_8 a_26 x_27 x_28 => ward_Play.l0_k.step_l0 go ih y_2 y_4 a_8 a_26 x_27 x_28 r e
  ) e
theorem ward_Play.l0.walk {W : Nat → Prop} {h0 m0 h m : Heap} {bk_2 : Nat} {cs_2 : List Value} {bk_4 : Nat} {cs_4 : List Value} {A_8 : Option Addr} {n_8 c_8 : Nat} {A_26 : Option Addr} {n_26 c_26 : Nat} {y_2 : T_ward_Ward} {y_4 : T_ward_Ward} {a_8 : List T_ward_Plan} {a_26 : List T_ward_Fall} {x_27 : Int} {x_28 : Int} (O : Hold W h0 m0 h m [rV bk_2 25 cs_2, rV bk_4 25 cs_4, rR (aE T_ward_Plan.T) A_8 c_8 a_8]) (e_2 : T_ward_Ward.E m y_2 cs_2) (e_4 : T_ward_Ward.E m y_4 cs_4) (ne_8 : n_8 = List.length a_8) (ne_26 : n_26 = List.length a_26) (k_26 : List.length a_26 ≤ c_26) (r_26 : Rd 3 T_ward_Fall.E m A_26 a_26) {r : T_ward_Ward × (List T_ward_Plan) × Int} (e : ward_Play.l0 y_2 y_4 a_8 a_26 x_27 x_28 = some r) : f9.l0 (ward_Play.post W h0 m0 r) (⟨bk_2, 0, none⟩ : Addr) (⟨bk_4, 0, none⟩ : Addr) A_8 n_8 c_8 A_26 n_26 c_26 x_27 x_28 h := ward_Play.l0_k.all (p := .l0 y_2 y_4 a_8 a_26 x_27 x_28) e W h0 m0 h m bk_2 cs_2 bk_4 cs_4 A_8 n_8 c_8 A_26 n_26 c_26 O e_2 e_4 ne_8 ne_26 k_26 r_26
noncomputable def ward_Play (y_0 : T_ward_Ward) (a_1 : List T_ward_Fall) : Option (T_ward_Ward × (List T_ward_Plan) × Int) :=
  Option.bind (ward_Check y_0) fun y9 => if y9 = (0 : Int) then (if (((List.length a_1) : Nat) : Int) > (50 : Int) then (some ((T_ward_Ward.mk (0 : Int) (0 : Int) (0 : Int) ([] : List T_ward_Child) ([] : List Int)), ([] : List T_ward_Plan), (2 : Int))) else (Option.bind (ward_own y_0) fun y26 => (ward_Play.l0 y26 (T_ward_Ward.mk (0 : Int) (0 : Int) (0 : Int) ([] : List T_ward_Child) ([] : List Int)) ([] : List T_ward_Plan) a_1 (((List.length a_1) : Nat) : Int) (0 : Int)))) else (some ((T_ward_Ward.mk (0 : Int) (0 : Int) (0 : Int) ([] : List T_ward_Child) ([] : List Int)), ([] : List T_ward_Plan), y9))
set_option maxHeartbeats 4000000 in
set_option maxRecDepth 100000 in
theorem ward_Play.walk {W : Nat → Prop} {h m : Heap} {cs_0 : List Value} {A_1 : Option Addr} {n_1 c_1 : Nat} {y_0 : T_ward_Ward} {a_1 : List T_ward_Fall} (O : Hold W h m h m []) (e_0 : T_ward_Ward.E m y_0 cs_0) (ne_1 : n_1 = List.length a_1) (k_1 : List.length a_1 ≤ c_1) (r_1 : Rd 3 T_ward_Fall.E m A_1 a_1) {r : T_ward_Ward × (List T_ward_Plan) × Int} (e : ward_Play y_0 a_1 = some r) : Run Try.prog 9 #[Value.agg cs_0.toArray, Value.slice A_1 n_1 c_1] h (ward_Play.post W h m r) := by
  unfold ward_Play at e
  subst ne_1
  refine f9.run ?_
  unfold f9.runT
  refine O.new fun h1 x2 O3 => ?_
  refine O3.new fun h5 x6 O7 => ?_
  refine ⟨_, ldAn (Sub.refl _) (O7.all 0 rfl) (T_ward_Ward.T.len _ _ _ e_0), ?_⟩
  obtain ⟨y9, g10, e⟩ := bind_e e
  refine (ward_Check.walk (Hold.start (W := No) O7.s) e_0 g10).mono ?_
  rintro _ h11 ⟨m12, Q13, rfl⟩
  have O15 := Hold.nm (O7.retC Q13 vfs_nil)
  refine ⟨_, rfl, ?_⟩
  refine split_ne_e e (fun c52 e => ?_) (fun c52 e => ?_)
  · refine ⟨_, rfl, rfl, ?_⟩
    refine O15.stA 1 rfl rfl (Flats.cons trivial (Flats.cons trivial (Flats.cons trivial (Flats.cons trivial (Flats.cons trivial Flats.nil))))) fun h16 O17 => ?_
    refine ⟨_, ldAn (Sub.refl _) (O17.all 1 rfl) rfl, ?_⟩
    have O18 := O17.nil (aE T_ward_Plan.T) none
    have O20 := O18.nm
    cases e
    exact ⟨_, _, _, _, _, O20.pick [2], rfl, (show T_ward_Ward.E _ (T_ward_Ward.mk (0 : Int) (0 : Int) (0 : Int) ([] : List T_ward_Child) ([] : List Int)) [(Value.int .i64 (0 : Int)), (Value.int .i64 (0 : Int)), (Value.int .i64 (0 : Int)), (Value.slice none 0 0), (Value.slice none 0 0)] from ⟨_, _, _, _, rfl, (by exact Nat.le_refl 0), Rd.nil, (by exact Nat.le_refl 0), Rd.nil⟩), rfl⟩
  · refine split_dec_e e (fun c51 e => ?_) (fun c51 e => ?_)
    · refine ⟨_, rfl, rfl, ?_⟩
      refine O15.stA 1 rfl rfl (Flats.cons trivial (Flats.cons trivial (Flats.cons trivial (Flats.cons trivial (Flats.cons trivial Flats.nil))))) fun h21 O22 => ?_
      refine ⟨_, ldAn (Sub.refl _) (O22.all 1 rfl) rfl, ?_⟩
      have O23 := O22.nil (aE T_ward_Plan.T) none
      have O25 := O23.nm
      cases e
      exact ⟨_, _, _, _, _, O25.pick [2], rfl, (show T_ward_Ward.E _ (T_ward_Ward.mk (0 : Int) (0 : Int) (0 : Int) ([] : List T_ward_Child) ([] : List Int)) [(Value.int .i64 (0 : Int)), (Value.int .i64 (0 : Int)), (Value.int .i64 (0 : Int)), (Value.slice none 0 0), (Value.slice none 0 0)] from ⟨_, _, _, _, rfl, (by exact Nat.le_refl 0), Rd.nil, (by exact Nat.le_refl 0), Rd.nil⟩), rfl⟩
    · refine ⟨_, ldAn (Sub.refl _) (O15.all 0 rfl) (T_ward_Ward.T.len _ _ _ e_0), ?_⟩
      obtain ⟨y26, g27, e⟩ := bind_e e
      refine (ward_own.walk (Hold.start (W := No) O15.s) e_0 g27).mono ?_
      rintro _ h28 ⟨m29, A_32_3, n_32_3, c_32_3, A_32_4, n_32_4, c_32_4, Q30, rfl, ne_32_3, ne_32_4⟩
      have O35 := Hold.nm (O15.retC Q30 (vfs_cons (rR_vf (aE_vf (fun _ _ _ _ h => T_ward_Child.keep h))) (vfs_cons (rR_vf (aE_vf (fun _ _ _ _ h => h))) vfs_nil)))
      subst ne_32_3
      subst ne_32_4
      refine ⟨_, rfl, rfl, ?_⟩
      refine O35.stA 0 rfl ((T_ward_Ward.T.len _ _ _ e_0)).symm (Flats.cons trivial (Flats.cons trivial (Flats.cons trivial (Flats.cons trivial (Flats.cons trivial Flats.nil))))) fun h36 O37 => ?_
      obtain ⟨m38, u39, ⟨r40, k41⟩, O42⟩ := O37.frz 2 rfl
      replace r40 : Rd 3 T_ward_Child.E m38 A_32_3 y26.Children := r40
      obtain ⟨m43, u44, ⟨r45, k46⟩, O47⟩ := O42.frz 3 rfl
      replace r45 : Rd 1 (eInt .i64) m43 A_32_4 y26.Times := r45
      have O48 := O47.nil (aE T_ward_Plan.T) none
      have O50 := O48.nm
      exact ward_Play.l0.walk (O50.pick [0, 1, 4]).nm (show T_ward_Ward.E _ y26 [(Value.int .i64 y26.How), (Value.int .i64 y26.Most), (Value.int .i64 y26.Window), (Value.slice A_32_3 (List.length y26.Children) c_32_3), (Value.slice A_32_4 (List.length y26.Times) c_32_4)] from ⟨_, _, _, _, rfl, k41, (r40.sub T_ward_Child.T u44), k46, r45⟩) (show T_ward_Ward.E _ (T_ward_Ward.mk (0 : Int) (0 : Int) (0 : Int) ([] : List T_ward_Child) ([] : List Int)) [(Value.int .i64 (0 : Int)), (Value.int .i64 (0 : Int)), (Value.int .i64 (0 : Int)), (Value.slice none 0 0), (Value.slice none 0 0)] from ⟨_, _, _, _, rfl, (by exact Nat.le_refl 0), Rd.nil, (by exact Nat.le_refl 0), Rd.nil⟩) rfl rfl k_1 (r_1.sub T_ward_Fall.T (u39.trans u44)) e
def roadref3_In.post (W : Nat → Prop) (h0 m0 : Heap) (r : Bool) (v : Value) (h : Heap) : Prop := ∃ m , Hold W h0 m0 h m [] ∧ v = .bool r
noncomputable def roadref3_In (x_0 : Int) (x_1 : Int) (x_2 : Int) : Option (Bool) :=
  if x_0 ≥ x_1 then (some ((decide (x_0 ≤ x_2)))) else (some (false))
set_option maxRecDepth 100000 in
theorem roadref3_In.walk {W : Nat → Prop} {h m : Heap} {x_0 : Int} {x_1 : Int} {x_2 : Int} (O : Hold W h m h m []) {r : Bool} (e : roadref3_In x_0 x_1 x_2 = some r) : Run Try.prog 44 #[Value.int .i64 x_0, Value.int .i64 x_1, Value.int .i64 x_2] h (roadref3_In.post W h m r) := by
  unfold roadref3_In at e
  refine f44.run ?_
  unfold f44.runT
  refine split_dec_e e (fun c1 e => ?_) (fun c1 e => ?_)
  · cases e
    exact ⟨_, O.pick [], rfl⟩
  · cases e
    exact ⟨_, O.pick [], rfl⟩
end Go.Proofs.Ythnlhffpmlgmfab.Fw

end
