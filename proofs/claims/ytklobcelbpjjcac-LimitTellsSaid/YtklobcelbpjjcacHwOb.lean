/- Pieces of memory: variables, rows (also rows whose elements own rows), and what may be done with them. -/
import Derived.Test.YtklobcelbpjjcacHwOa
set_option linter.unusedVariables false
namespace Go.Hw
open Go

/-- How data of a type lie in memory that is owned. -/
structure Asn (α : Type) (sz : Nat) where
  p : Heap → Heap → α → List Value → Foot → Prop
  E : Heap → α → List Value → Prop
  T : Tell sz E
  len : ∀ {h m x cs F}, p h m x cs F → cs.length = sz
  flat : ∀ {h m x cs F}, p h m x cs F → ∀ v ∈ cs, Flat v
  lt : ∀ {h m x cs F}, p h m x cs F → ∀ b, F b → b < h.size
  nl : ∀ {h m x cs F}, p h m x cs F → ∀ b, F b → ¬ Live m b
  fr : ∀ {h m x cs F h' m'}, p h m x cs F → (∀ b, F b → h'[b]? = h[b]?) → Sub m m' → (∀ b, F b → ¬ Live m' b) → p h' m' x cs F
  fz : ∀ {h m x cs F G}, p h m x cs F → Sub m h → (∀ b, F b → G b) → E (addV m h G) x cs
/-- Settled data. -/
def aE {α : Type} {sz : Nat} {E : Heap → α → List Value → Prop} (T : Tell sz E) : Asn α sz where
  p _ m x cs F := E m x cs ∧ F = No
  E := E
  T := T
  len h := T.len _ _ _ h.1
  flat h := T.flat _ _ _ h.1
  lt := by rintro h m x cs F ⟨_, rfl⟩ b hb; exact hb.elim
  nl := by rintro h m x cs F ⟨_, rfl⟩ b hb; exact hb.elim
  fr := fun h _ s _ => ⟨T.mono _ _ _ _ s h.1, h.2⟩
  fz := fun h s _ => T.mono _ _ _ _ (addV_up s) h.1
def Asn.vf {α : Type} {sz : Nat} (a : Asn α sz) : Prop := ∀ h m m' x cs F, a.p h m x cs F → Sub m' h → (∀ b, F b → ¬ Live m' b) → a.p h m' x cs F
theorem aE_vf {α : Type} {sz : Nat} {E : Heap → α → List Value → Prop} {T : Tell sz E} (hE : ∀ m m' x cs, E m x cs → E m' x cs) : (aE T).vf := fun _ _ _ _ _ _ h _ _ => ⟨hE _ _ _ _ h.1, h.2⟩
/-- Cells told by an assertion. -/
def rC {α : Type} {sz : Nat} (a : Asn α sz) (x : α) (cs : List Value) : Res where
  p h m F := a.p h m x cs F
  z m := a.E m x cs
  lt := a.lt
  nl := a.nl
  fr := a.fr
  fz := a.fz
theorem rC_vf {α : Type} {sz : Nat} {a : Asn α sz} {x : α} {cs : List Value} (v : a.vf) : (rC a x cs).vf := fun _ _ _ _ h k1 k2 => v _ _ _ _ _ _ h k1 k2
theorem Blk.fr {h h' : Heap} {b : Nat} {c : List Value} {t : TypeId} (hb : Blk h b c t) (e : h'[b]? = h[b]?) : Blk h' b c t := by unfold Blk at *; rw [e]; exact hb
/-- A variable. -/
def rV (b : Nat) (t : TypeId) (cs : List Value) : Res where
  p h m F := Blk h b cs t ∧ ¬ Live m b ∧ F = fb b
  z m := Blk m b cs t
  lt := by rintro h m F ⟨h1, _, rfl⟩ i hi; unfold fb at hi; subst hi; exact h1.lt
  nl := by rintro h m F ⟨h1, h2, rfl⟩ i hi; unfold fb at hi; subst hi; exact h2
  fr := by rintro h m F h' m' ⟨h1, h2, rfl⟩ k1 _ k3; exact ⟨h1.fr (k1 b rfl), k3 b rfl, rfl⟩
  fz := by rintro h m F G ⟨h1, h2, rfl⟩ _ k2; exact h1.settle (k2 b rfl)
theorem rV_vf {b : Nat} {t : TypeId} {cs : List Value} : (rV b t cs).vf := by rintro h m m' F ⟨h1, _, rfl⟩ _ k2; exact ⟨h1, k2 b rfl, rfl⟩

/-! ### Cells of rows -/
section
variable {α : Type} {sz : Nat}
def CsA (a : Asn α sz) (h m : Heap) : List α → List Value → Foot → Prop
  | [], cs, F => cs = [] ∧ F = No
  | x :: l, cs, F => ∃ c1 c2 F1 F2, cs = c1 ++ c2 ∧ a.p h m x c1 F1 ∧ CsA a h m l c2 F2 ∧ Dj F1 F2 ∧ F = U F1 F2
variable {a : Asn α sz} {h h' m m' : Heap} {l l' : List α} {cs ds : List Value} {F F' F1 F2 G : Foot} {x y : α}
theorem CsA.len : ∀ {l : List α} {cs : List Value} {F : Foot}, CsA a h m l cs F → cs.length = l.length * sz
  | [], _, _, ⟨e, _⟩ => by rw [e]; simp
  | x :: l, _, _, ⟨c1, c2, F1, F2, e, h1, h2, _, _⟩ => by rw [e, List.length_append, CsA.len h2, a.len h1, List.length_cons, Nat.succ_mul, Nat.add_comm]
theorem CsA.flat : ∀ {l : List α} {cs : List Value} {F : Foot}, CsA a h m l cs F → ∀ v ∈ cs, Flat v
  | [], _, _, ⟨e, _⟩ => by rw [e]; exact Flats.nil
  | x :: l, _, _, ⟨c1, c2, F1, F2, e, h1, h2, _, _⟩ => by
    rw [e]; intro v hv
    rcases List.mem_append.1 hv with hv | hv
    · exact a.flat h1 v hv
    · exact CsA.flat h2 v hv
theorem CsA.lt : ∀ {l : List α} {cs : List Value} {F : Foot}, CsA a h m l cs F → ∀ b, F b → b < h.size
  | [], _, _, ⟨_, e⟩, b, hb => by rw [e] at hb; exact hb.elim
  | x :: l, _, _, ⟨c1, c2, F1, F2, _, h1, h2, _, rfl⟩, b, hb => hb.elim (a.lt h1 b) (CsA.lt h2 b)
theorem CsA.nl : ∀ {l : List α} {cs : List Value} {F : Foot}, CsA a h m l cs F → ∀ b, F b → ¬ Live m b
  | [], _, _, ⟨_, e⟩, b, hb => by rw [e] at hb; exact hb.elim
  | x :: l, _, _, ⟨c1, c2, F1, F2, _, h1, h2, _, rfl⟩, b, hb => hb.elim (a.nl h1 b) (CsA.nl h2 b)
theorem CsA.fr : ∀ {l : List α} {cs : List Value} {F : Foot}, CsA a h m l cs F → (∀ b, F b → h'[b]? = h[b]?) → Sub m m' → (∀ b, F b → ¬ Live m' b) → CsA a h' m' l cs F
  | [], _, _, hs, _, _, _ => hs
  | x :: l, _, _, ⟨c1, c2, F1, F2, e, h1, h2, d, rfl⟩, k1, k2, k3 => ⟨c1, c2, F1, F2, e, a.fr h1 (fun b hb => k1 b (.inl hb)) k2 (fun b hb => k3 b (.inl hb)), CsA.fr h2 (fun b hb => k1 b (.inr hb)) k2 (fun b hb => k3 b (.inr hb)), d, rfl⟩
theorem CsA.vf (v : a.vf) : ∀ {l : List α} {cs : List Value} {F : Foot}, CsA a h m l cs F → Sub m' h → (∀ b, F b → ¬ Live m' b) → CsA a h m' l cs F
  | [], _, _, hs, _, _ => hs
  | x :: l, _, _, ⟨c1, c2, F1, F2, e, h1, h2, d, rfl⟩, k1, k2 => ⟨c1, c2, F1, F2, e, v _ _ _ _ _ _ h1 k1 (fun b hb => k2 b (.inl hb)), CsA.vf v h2 k1 (fun b hb => k2 b (.inr hb)), d, rfl⟩
theorem CsA.fz : ∀ {l : List α} {cs : List Value} {F : Foot}, CsA a h m l cs F → Sub m h → (∀ b, F b → G b) → CsE sz a.E (addV m h G) l cs
  | [], _, _, ⟨e, _⟩, _, _ => e
  | x :: l, _, _, ⟨c1, c2, F1, F2, e, h1, h2, d, rfl⟩, k1, k2 => ⟨c1, c2, e, a.len h1, a.fz h1 k1 (fun b hb => k2 b (.inl hb)), CsA.fz h2 k1 (fun b hb => k2 b (.inr hb))⟩
theorem CsA.append : ∀ {l : List α} {cs : List Value} {F : Foot}, CsA a h m l cs F → CsA a h m l' ds F' → Dj F F' → CsA a h m (l ++ l') (cs ++ ds) (U F F')
  | [], _, _, ⟨e, e'⟩, h', _ => by subst e; subst e'; rw [U.no_left]; exact h'
  | x :: l, _, _, ⟨c1, c2, F1, F2, e, h1, h2, d, e'⟩, h', dd => by
    subst e; subst e'
    rw [List.append_assoc]
    exact ⟨c1, _, F1, _, rfl, h1, CsA.append h2 h' dd.ur, Dj.u' d dd.ul, U.assoc⟩
theorem CsA.one (h1 : a.p h m x cs F) : CsA a h m [x] cs F := ⟨cs, [], F, No, by simp, h1, ⟨rfl, rfl⟩, .no', U.no_right.symm⟩
theorem CsA.split : ∀ {l : List α} {cs : List Value} {F : Foot} {i : Nat}, CsA a h m l cs F → l[i]? = some y →
    ∃ l1 l2 c1 ce c2 F1 Fe F2, l = l1 ++ y :: l2 ∧ l1.length = i ∧ cs = c1 ++ (ce ++ c2) ∧ c1.length = i * sz ∧ CsA a h m l1 c1 F1 ∧ a.p h m y ce Fe ∧ CsA a h m l2 c2 F2 ∧ Dj F1 Fe ∧ Dj F1 F2 ∧ Dj Fe F2 ∧ F = U Fe (U F1 F2)
  | [], _, _, _, _, hi => by cases hi
  | x :: l, _, _, 0, ⟨c1, c2, F1, F2, e, h1, h2, d, e'⟩, hi => by
    cases hi
    exact ⟨[], l, [], c1, c2, No, F1, F2, rfl, rfl, e, by simp, ⟨rfl, rfl⟩, h1, h2, .no, .no, d, by rw [e', U.no_left]⟩
  | x :: l, _, _, i + 1, ⟨d1, d2, F1, F2, e, h1, h2, d, e'⟩, hi => by
    obtain ⟨l1, l2, c1, ce, c2, G1, Ge, G2, rfl, k1, rfl, k2, k3, k4, k5, k6, k7, k8, rfl⟩ := CsA.split h2 (show l[i]? = some y by simpa using hi)
    refine ⟨x :: l1, l2, d1 ++ c1, ce, c2, U F1 G1, Ge, G2, rfl, by simp [k1], by rw [e, List.append_assoc], ?_, ⟨d1, c1, F1, G1, rfl, h1, k3, d.ur'.ul', rfl⟩, k4, k5, Dj.u d.ul' k6, Dj.u d.ur'.ur' k7, k8, ?_⟩
    · rw [List.length_append, a.len h1, k2, Nat.succ_mul, Nat.add_comm]
    · rw [e', U.left_comm, U.assoc]
theorem CsA.join {l1 l2 : List α} {c1 ce c2 : List Value} {Fe : Foot} (h1 : CsA a h m l1 c1 F1) (h2 : a.p h m y ce Fe) (h3 : CsA a h m l2 c2 F2) (d1 : Dj F1 Fe) (d2 : Dj F1 F2) (d3 : Dj Fe F2) : CsA a h m (l1 ++ y :: l2) (c1 ++ (ce ++ c2)) (U Fe (U F1 F2)) := by
  have := h1.append (show CsA a h m (y :: l2) (ce ++ c2) (U Fe F2) from ⟨ce, c2, Fe, F2, rfl, h2, h3, d3, rfl⟩) (Dj.u' d1 d2)
  rw [U.left_comm] at this
  exact this
theorem CsA.rep {zc : List Value} (hz : a.p h m x zc No) : ∀ n : Nat, CsA a h m (List.replicate n x) ((List.replicate n zc).flatten) No
  | 0 => ⟨rfl, rfl⟩
  | n + 1 => by rw [List.replicate_succ, List.replicate_succ, List.flatten_cons]; exact ⟨zc, _, No, No, rfl, hz, CsA.rep hz n, .no, U.no_left.symm⟩
theorem CsA.drop : ∀ {l : List α} {cs : List Value} {F : Foot} (k : Nat), CsA a h m l cs F → ∃ F', CsA a h m (l.drop k) (cs.drop (k * sz)) F' ∧ ∀ b, F' b → F b
  | [], _, F, k, ⟨e, e'⟩ => by subst e; subst e'; exact ⟨No, by simp [CsA], fun _ h => h⟩
  | x :: l, _, F, 0, hh => by rw [Nat.zero_mul, List.drop_zero, List.drop_zero]; exact ⟨F, hh, fun _ h => h⟩
  | x :: l, _, F, k + 1, ⟨c1, c2, F1, F2, e, h1, h2, d, e'⟩ => by
    obtain ⟨F', h3, h4⟩ := CsA.drop k h2
    refine ⟨F', ?_, fun b hb => by rw [e']; exact .inr (h4 b hb)⟩
    rw [e, show (k + 1) * sz = c1.length + k * sz by rw [a.len h1, Nat.succ_mul, Nat.add_comm], ← List.drop_drop (l := c1 ++ c2), List.drop_left, List.drop_succ_cons]
    exact h3
theorem CsA.take : ∀ {l : List α} {cs : List Value} {F : Foot} (k : Nat), CsA a h m l cs F → ∃ F', CsA a h m (l.take k) (cs.take (k * sz)) F' ∧ ∀ b, F' b → F b
  | [], _, F, k, ⟨e, e'⟩ => by subst e; subst e'; exact ⟨No, by simp [CsA], fun _ h => h⟩
  | x :: l, _, F, 0, hh => ⟨No, by simp [CsA], fun _ h => h.elim⟩
  | x :: l, _, F, k + 1, ⟨c1, c2, F1, F2, e, h1, h2, d, e'⟩ => by
    obtain ⟨F', h3, h4⟩ := CsA.take k h2
    refine ⟨U F1 F', ?_, fun b hb => by rw [e']; exact hb.elim .inl (fun hb => .inr (h4 b hb))⟩
    rw [e, show (k + 1) * sz = c1.length + k * sz by rw [a.len h1, Nat.succ_mul, Nat.add_comm], List.take_length_add_append, List.take_succ_cons]
    exact ⟨c1, _, F1, F', rfl, h1, h3, d.mono (fun _ h => h) h4, rfl⟩
theorem CsE.csa {E : Heap → α → List Value → Prop} {T : Tell sz E} : ∀ {l : List α} {cs : List Value}, CsE sz E m l cs → CsA (aE T) h m l cs No
  | [], _, e => ⟨e, rfl⟩
  | x :: l, _, ⟨c1, c2, e, h1, h2, h3⟩ => ⟨c1, c2, No, No, e, ⟨h2, rfl⟩, CsE.csa h3, .no, U.no_left.symm⟩
theorem CsA.cse {E : Heap → α → List Value → Prop} {T : Tell sz E} : ∀ {l : List α} {cs : List Value} {F : Foot}, CsA (aE T) h m l cs F → CsE sz E m l cs ∧ F = No
  | [], _, _, ⟨e, e'⟩ => ⟨e, e'⟩
  | x :: l, _, _, ⟨c1, c2, F1, F2, e, ⟨h1, h1'⟩, h2, _, e'⟩ => by
    obtain ⟨h3, h3'⟩ := CsA.cse h2
    subst h1'; subst h3'
    exact ⟨⟨c1, c2, e, T.len _ _ _ h1, h1, h3⟩, by rw [e', U.no_left]⟩
end

/-! ### Rows -/
section
variable {α : Type} {sz : Nat}
def rowP (a : Asn α sz) (A : Option Addr) (c : Nat) (l : List α) (h m : Heap) (F : Foot) : Prop :=
  (l = [] ∧ c = 0 ∧ F = No) ∨ ∃ b t pre cs rest Fe, c ≠ 0 ∧ A = some ⟨b, pre.length, none⟩ ∧ Blk h b (pre ++ cs ++ rest) t ∧ CsA a h m l cs Fe ∧ l.length ≤ c ∧ (c - l.length) * sz ≤ rest.length ∧ ¬ Live m b ∧ ¬ Fe b ∧ F = U (fb b) Fe
def rR (a : Asn α sz) (A : Option Addr) (c : Nat) (l : List α) : Res where
  p := rowP a A c l
  z m := Rd sz a.E m A l ∧ l.length ≤ c
  lt := by
    rintro h m F (⟨_, _, rfl⟩ | ⟨b, t, pre, cs, rest, Fe, k0, k1, k2, k3, k4, k5, k6, k7, rfl⟩) i hi
    · exact hi.elim
    · rcases hi with hi | hi
      · unfold fb at hi; subst hi; exact k2.lt
      · exact k3.lt i hi
  nl := by
    rintro h m F (⟨_, _, rfl⟩ | ⟨b, t, pre, cs, rest, Fe, k0, k1, k2, k3, k4, k5, k6, k7, rfl⟩) i hi
    · exact hi.elim
    · rcases hi with hi | hi
      · unfold fb at hi; subst hi; exact k6
      · exact k3.nl i hi
  fr := by
    rintro h m F h' m' (⟨e1, e2, rfl⟩ | ⟨b, t, pre, cs, rest, Fe, k0, k1, k2, k3, k4, k5, k6, k7, rfl⟩) f1 f2 f3
    · exact .inl ⟨e1, e2, rfl⟩
    · exact .inr ⟨b, t, pre, cs, rest, Fe, k0, k1, k2.fr (f1 b (.inl rfl)), k3.fr (fun i hi => f1 i (.inr hi)) f2 (fun i hi => f3 i (.inr hi)), k4, k5, f3 b (.inl rfl), k7, rfl⟩
  fz := by
    rintro h m F G (⟨e1, e2, rfl⟩ | ⟨b, t, pre, cs, rest, Fe, k0, k1, k2, k3, k4, k5, k6, k7, rfl⟩) f1 f2
    · subst e1; exact ⟨.nil, Nat.zero_le _⟩
    · subst k1
      exact ⟨CsE.rd (k2.settle (f2 b (.inl rfl))) (k3.fz f1 (fun i hi => f2 i (.inr hi))) (fun _ _ h => h), k4⟩
variable {a : Asn α sz} {h h' h0 m m' m0 : Heap} {A : Option Addr} {c n k : Nat} {l l' : List α} {F F' G W : Foot} {x : Int} {y : α} {v : Value} {cs : List Value} {Rs : List Res} {b : Nat} {t : TypeId} {aa : Addr}
variable {E : Heap → α → List Value → Prop} {T : Tell sz E}
theorem rR_vf (v : a.vf) : (rR a A c l).vf := by
  rintro h m m' F (⟨e1, e2, rfl⟩ | ⟨b, t, pre, cs, rest, Fe, k0, k1, k2, k3, k4, k5, k6, k7, rfl⟩) f1 f2
  · exact .inl ⟨e1, e2, rfl⟩
  · exact .inr ⟨b, t, pre, cs, rest, Fe, k0, k1, k2, k3.vf v f1 (fun i hi => f2 i (.inr hi)), k4, k5, f2 b (.inl rfl), k7, rfl⟩
theorem rowP.cap (o : rowP a A c l h m F) : l.length ≤ c := by
  rcases o with ⟨rfl, rfl, _⟩ | ⟨b, t, pre, cs, rest, Fe, k0, k1, k2, k3, k4, _⟩
  · exact Nat.le_refl _
  · exact k4
/-- A row whose elements are settled, as it was told before. -/
theorem rowP.os (o : rowP (aE T) A c l h m F) (hw : ∀ b, F b → h0.size ≤ b ∨ W b) : OS W h0 sz E h m A l c ∧ F = fp A c := by
  rcases o with ⟨rfl, rfl, rfl⟩ | ⟨b, t, pre, cs, rest, Fe, k0, k1, k2, k3, k4, k5, k6, k7, rfl⟩
  · exact ⟨.inl ⟨rfl, rfl⟩, funext fun b => propext ⟨fun h => h.elim, fun h => h.1 rfl⟩⟩
  · obtain ⟨k8, rfl⟩ := k3.cse
    refine ⟨.inr ⟨b, t, pre, cs, rest, k1, k2, k8, k4, k5, hw b (.inl rfl), k6⟩, ?_⟩
    rw [U.no_right]
    subst k1
    exact funext fun i => propext ⟨fun hi => ⟨k0, _, rfl, hi.symm⟩, fun ⟨_, a, e, hi⟩ => by cases e; exact hi.symm⟩
theorem OS.rowP (o : OS W h0 sz E h m A l c) : rowP (aE T) A c l h m (fp A c) := by
  by_cases hc : c = 0
  · subst hc
    have := o.cap
    exact .inl ⟨List.length_eq_zero_iff.1 (by omega), rfl, funext fun b => propext ⟨fun h => h.1 rfl, fun h => h.elim⟩⟩
  rcases o with ⟨rfl, rfl⟩ | ⟨b, t, pre, cs, rest, k1, k2, k3, k4, k5, k6, k7⟩
  · exact (hc rfl).elim
  · refine .inr ⟨b, t, pre, cs, rest, No, hc, k1, k2, k3.csa, k4, k5, k7, fun h => h, ?_⟩
    rw [U.no_right]
    subst k1
    exact funext fun i => propext ⟨fun ⟨_, a, e, hi⟩ => by cases e; exact hi.symm, fun hi => ⟨hc, _, rfl, hi.symm⟩⟩
theorem Hold.os (O : Hold W h0 m0 h m Rs) (k : Nat) (hk : Rs[k]? = some (rR (aE T) A c l)) : OS W h0 sz E h m A l c := by
  obtain ⟨F, h1, h2, _⟩ := O.get k hk
  exact (rowP.os h1 h2).1
theorem Hold.ob (O : Hold W h0 m0 h m Rs) (k : Nat) (hk : Rs[k]? = some (rV b t cs)) : OB W h0 h m b cs t := by
  obtain ⟨F, ⟨h1, h3, rfl⟩, h2, _⟩ := O.get k hk
  exact ⟨h1, h2 b rfl, h3⟩
theorem Hold.cap (O : Hold W h0 m0 h m Rs) (k : Nat) (hk : Rs[k]? = some (rR a A c l)) : l.length ≤ c := by
  obtain ⟨F, h1, _⟩ := O.get k hk
  exact rowP.cap h1
theorem Hold.all (O : Hold W h0 m0 h m Rs) (k : Nat) (hk : Rs[k]? = some (rV b t cs)) : cellsH h ⟨b, 0, none⟩ 0 cs.length = some cs := (O.ob k hk).all
/-! ### Written -/
theorem Hold.setV (O : Hold W h0 m0 h m Rs) (k : Nat) (hk : Rs[k]? = some (rV b t cs)) {cs' : List Value} (o : OB W h0 h' m b cs' t) (S : St (fb b) h m h' m) : Hold W h0 m0 h' m (Rs.set k (rV b t cs')) := by
  obtain ⟨F, ⟨h1, h3, rfl⟩, h2, h4⟩ := O.get k hk
  exact h4 S ⟨o.1, o.2.2, rfl⟩ (fun _ h => .inl h)
theorem Hold.setR (O : Hold W h0 m0 h m Rs) (k : Nat) (hk : Rs[k]? = some (rR (aE T) A c l)) (o : OS W h0 sz E h' m A l' c) (S : St (fp A c) h m h' m) : Hold W h0 m0 h' m (Rs.set k (rR (aE T) A c l')) := by
  obtain ⟨F, h1, h2, h4⟩ := O.get k hk
  obtain ⟨_, rfl⟩ := rowP.os h1 h2
  exact h4 S o.rowP (fun _ h => .inl h)
variable {K : Heap → Prop}
theorem Hold.new {z : Array Value} (O : Hold W h0 m0 h m Rs) (H : ∀ h', Ext h h' → Hold W h0 m0 h' m (Rs ++ [rV h.size t z.toList]) → K h') : newH h (.cells z t) K :=
  newH_in fun h' hb e hs => H h' e (O.add (St.of_ext O.s e) ⟨hb, St.notLive O.s, rfl⟩ (fun i hi => by unfold fb at hi; omega))
theorem Hold.st (O : Hold W h0 m0 h m Rs) (k : Nat) (hk : Rs[k]? = some (rV b t cs)) (j : Nat) (hj : j < cs.length) (hf : Flat v) (H : ∀ h', Hold W h0 m0 h' m (Rs.set k (rV b t (cs.set j v))) → K h') : ∃ h', st1 h (Addr.add ⟨b, 0, none⟩ j) v = some h' ∧ K h' := by
  obtain ⟨h', h1, h2, h3⟩ := (O.ob k hk).st O.s hj hf
  exact ⟨h', h1, H h' (O.setV k hk h2 h3)⟩
theorem Hold.st0 (O : Hold W h0 m0 h m Rs) (k : Nat) (hk : Rs[k]? = some (rV b t cs)) (hj : 0 < cs.length) (hf : Flat v) (H : ∀ h', Hold W h0 m0 h' m (Rs.set k (rV b t (cs.set 0 v))) → K h') : ∃ h', st1 h ⟨b, 0, none⟩ v = some h' ∧ K h' := O.st k hk 0 hj hf H
theorem Hold.stA (O : Hold W h0 m0 h m Rs) (k : Nat) (hk : Rs[k]? = some (rV b t cs)) {ds : List Value} (hn : ds.length = cs.length) (hf : ∀ v ∈ ds, Flat v) (H : ∀ h', Hold W h0 m0 h' m (Rs.set k (rV b t ds)) → K h') : ∃ h', stH h ⟨b, 0, none⟩ ds 0 = some h' ∧ K h' := by
  obtain ⟨h', h1, h2, h3⟩ := (O.ob k hk).stA O.s ds hn hf
  exact ⟨h', h1, H h' (O.setV k hk h2 h3)⟩
theorem Hold.stP (O : Hold W h0 m0 h m Rs) (k : Nat) (hk : Rs[k]? = some (rV b t cs)) (j : Nat) {ds : List Value} (hn : j + ds.length ≤ cs.length) (hf : ∀ v ∈ ds, Flat v) (H : ∀ h', Hold W h0 m0 h' m (Rs.set k (rV b t (cs.take j ++ ds ++ cs.drop (j + ds.length)))) → K h') : ∃ h', stH h (Addr.add ⟨b, 0, none⟩ j) ds 0 = some h' ∧ K h' := by
  obtain ⟨h', h1, h2, h3⟩ := (O.ob k hk).stP O.s ds hn hf
  exact ⟨h', h1, H h' (O.setV k hk h2 h3)⟩
theorem Hold.stP0 (O : Hold W h0 m0 h m Rs) (k : Nat) (hk : Rs[k]? = some (rV b t cs)) {ds : List Value} (hn : 0 + ds.length ≤ cs.length) (hf : ∀ v ∈ ds, Flat v) (H : ∀ h', Hold W h0 m0 h' m (Rs.set k (rV b t (cs.take 0 ++ ds ++ cs.drop (0 + ds.length)))) → K h') : ∃ h', stH h ⟨b, 0, none⟩ ds 0 = some h' ∧ K h' := O.stP k hk 0 hn hf H
/-- Into an element of a row whose elements are settled: a cell; all of it; a part. -/
theorem Hold.elst (O : Hold W h0 m0 h m Rs) (k : Nat) (hk : Rs[k]? = some (rR (aE T) A c l)) (g : gi l x = some y) (ha : A = some aa) (hc : cellsH h (Addr.add aa (Int.toNat x * sz)) 0 sz = some cs) (j : Nat) (hj : j < sz) {y' : α} (hy : E m y' (cs.set j v)) (hf : Flat v) (e : l.set (Int.toNat x) y' = l')
    (H : ∀ h', Hold W h0 m0 h' m (Rs.set k (rR (aE T) A c l')) → K h') : ∃ h', st1 h (Addr.add (Addr.add aa (Int.toNat x * sz)) j) v = some h' ∧ K h' := by
  subst e
  obtain ⟨h', h1, h2, h3⟩ := (O.os k hk).st1k T O.s g ha hc j hj hy hf
  exact ⟨h', h1, H h' (O.setR k hk h2 h3)⟩
theorem Hold.elst0 (O : Hold W h0 m0 h m Rs) (k : Nat) (hk : Rs[k]? = some (rR (aE T) A c l)) (g : gi l x = some y) (ha : A = some aa) (hc : cellsH h (Addr.add aa (Int.toNat x * sz)) 0 sz = some cs) (hj : 0 < sz) {y' : α} (hy : E m y' (cs.set 0 v)) (hf : Flat v) (e : l.set (Int.toNat x) y' = l')
    (H : ∀ h', Hold W h0 m0 h' m (Rs.set k (rR (aE T) A c l')) → K h') : ∃ h', st1 h (Addr.add aa (Int.toNat x * sz)) v = some h' ∧ K h' := O.elst k hk g ha hc 0 hj hy hf e H
theorem Hold.elstA (O : Hold W h0 m0 h m Rs) (k : Nat) (hk : Rs[k]? = some (rR (aE T) A c l)) (g : gi l x = some y) (ha : A = some aa) (hc : cellsH h (Addr.add aa (Int.toNat x * sz)) 0 sz = some cs) {ds : List Value} {y' : α} (hy : E m y' ds) (hf : ∀ v ∈ ds, Flat v) (e : l.set (Int.toNat x) y' = l')
    (H : ∀ h', Hold W h0 m0 h' m (Rs.set k (rR (aE T) A c l')) → K h') : ∃ h', stH h (Addr.add aa (Int.toNat x * sz)) ds 0 = some h' ∧ K h' := by
  subst e
  obtain ⟨h', h1, h2, h3⟩ := (O.os k hk).stA T O.s g ha hc hy hf
  exact ⟨h', h1, H h' (O.setR k hk h2 h3)⟩
theorem Hold.elstP (O : Hold W h0 m0 h m Rs) (k : Nat) (hk : Rs[k]? = some (rR (aE T) A c l)) (g : gi l x = some y) (ha : A = some aa) (hc : cellsH h (Addr.add aa (Int.toNat x * sz)) 0 sz = some cs) (j : Nat) {ds : List Value} (hj : j + ds.length ≤ sz) {y' : α} (hy : E m y' (cs.take j ++ ds ++ cs.drop (j + ds.length))) (hf : ∀ v ∈ ds, Flat v) (e : l.set (Int.toNat x) y' = l')
    (H : ∀ h', Hold W h0 m0 h' m (Rs.set k (rR (aE T) A c l')) → K h') : ∃ h', stH h (Addr.add (Addr.add aa (Int.toNat x * sz)) j) ds 0 = some h' ∧ K h' := by
  subst e
  obtain ⟨h', h1, h2, h3⟩ := (O.os k hk).stP T O.s g ha hc j hj hy hf
  exact ⟨h', h1, H h' (O.setR k hk h2 h3)⟩
/-! ### Made, cut -/
theorem Hold.nil (O : Hold W h0 m0 h m Rs) (a : Asn α sz) (A : Option Addr) : Hold W h0 m0 h m (Rs ++ [rR a A 0 []]) := O.adds (R := rR a A 0 []) (.inl ⟨rfl, rfl, rfl⟩)
/-- A variable as a row. -/
theorem Hold.row (O : Hold W h0 m0 h m Rs) (k : Nat) (hk : Rs[k]? = some (rV b t cs)) (a : Asn α sz) (hc : ∃ F, CsA a h m l cs F ∧ F = No) (hn : l.length = c) (h0' : c ≠ 0) : Hold W h0 m0 h m (Rs.set k (rR a (some ⟨b, 0, none⟩) c l)) :=
  O.conv k hk (R' := rR a (some ⟨b, 0, none⟩) c l) fun F hF => by
    obtain ⟨h1, h2, rfl⟩ := hF
    obtain ⟨_, hc, rfl⟩ := hc
    exact ⟨_, .inr ⟨b, t, [], cs, [], No, h0', rfl, by simpa using h1, hc, by omega, by simp [hn], h2, fun h => h, rfl⟩, fun i hi => hi.elim id (fun h => h.elim)⟩
theorem Hold.rowE (O : Hold W h0 m0 h m Rs) (k : Nat) (hk : Rs[k]? = some (rV b t cs)) (T : Tell sz E) (hc : CsE sz E m l cs) (hn : l.length = c) : Hold W h0 m0 h m (Rs.set k (rR (aE T) (some ⟨b, 0, none⟩) c l)) := by
  by_cases h0' : c = 0
  · subst h0'
    refine O.conv k hk (R' := rR (aE T) (some ⟨b, 0, none⟩) 0 l) fun F _ => ⟨No, .inl ⟨List.length_eq_zero_iff.1 hn, rfl, rfl⟩, fun _ h => h.elim⟩
  · exact O.row k hk (aE T) ⟨No, hc.csa, rfl⟩ hn h0'
theorem Hold.made {zc : Array Value} {z : α} {B : Int} (O : Hold W h0 m0 h m Rs) (k : Nat) (hk : Rs[k]? = some (rV b t (mkCells zc (Int.toNat x * sz)).toList)) (a : Asn α sz) (g : mks B x z = some l') (hz : a.p h m z zc.toList No) : Hold W h0 m0 h m (Rs.set k (rR a (some ⟨b, 0, none⟩) l'.length l')) := by
  obtain ⟨_, _, _, h3, rfl⟩ := mks_e g
  have hc : CsA a h m (List.replicate x.toNat z) (mkCells zc (x.toNat * sz)).toList No := by
    rw [mkCells_flat (by have := a.len hz; simpa using this)]
    exact CsA.rep hz _
  by_cases h0' : (List.replicate x.toNat z).length = 0
  · rw [h0', List.length_eq_zero_iff.1 h0']
    exact O.conv k hk (R' := rR a (some ⟨b, 0, none⟩) 0 []) fun F _ => ⟨No, .inl ⟨rfl, rfl, rfl⟩, fun _ h => h.elim⟩
  · exact O.row k hk a ⟨No, hc, rfl⟩ rfl h0'
theorem rowP.sl {lo hi : Int} {mx : Nat} (o : rowP a A c l h m F) (h1 : 0 ≤ lo) (h2 : lo ≤ hi) (h3 : hi ≤ (l.length : Int)) (h4 : hi.toNat ≤ mx) (h5 : mx ≤ c) : ∃ F', rowP a (sliceA A (Int.toNat lo) mx sz) (mx - Int.toNat lo) (Hw.sl l lo hi) h m F' ∧ ∀ b, F' b → F b := by
  rcases o with ⟨rfl, rfl, rfl⟩ | ⟨b, t, pre, cs, rest, Fe, k0, rfl, k1, k2, k3, k4, k5, k6, rfl⟩
  · exact ⟨No, .inl ⟨by unfold Hw.sl; simp, by omega, rfl⟩, fun _ h => h⟩
  by_cases hm : mx = lo.toNat
  · exact ⟨No, .inl ⟨List.length_eq_zero_iff.1 (by rw [← sl_len h1 h2 h3]; omega), by omega, rfl⟩, fun _ h => h.elim⟩
  have hl := k2.len
  have e1 : (cs.take (lo.toNat * sz)).length = lo.toNat * sz := by
    rw [List.length_take, hl]; have := Nat.mul_le_mul_right sz (show lo.toNat ≤ l.length by omega); omega
  have e2 : hi.toNat * sz ≤ l.length * sz := Nat.mul_le_mul_right _ (by omega)
  have e3 : lo.toNat * sz ≤ hi.toNat * sz := Nat.mul_le_mul_right _ (by omega)
  obtain ⟨F1, q1, q2⟩ := k2.take hi.toNat
  obtain ⟨F2, q3, q4⟩ := q1.drop lo.toNat
  refine ⟨U (fb b) F2, .inr ⟨b, t, pre ++ cs.take (lo.toNat * sz), (cs.take (hi.toNat * sz)).drop (lo.toNat * sz), cs.drop (hi.toNat * sz) ++ rest, F2, by omega, ?_, ?_, q3, sl_cap h1 h2 h3 h4, ?_, k5, fun hb => k6 (q2 b (q4 b hb)), rfl⟩, fun i hi => hi.elim .inl (fun hi => .inr (q2 i (q4 i hi)))⟩
  · unfold sliceA
    rw [if_neg hm, Option.map_some, List.length_append, e1]
    unfold Addr.add
    split
    · rename_i h9; rw [h9]; rfl
    · rfl
  · have : pre ++ cs.take (lo.toNat * sz) ++ (cs.take (hi.toNat * sz)).drop (lo.toNat * sz) ++ (cs.drop (hi.toNat * sz) ++ rest) = pre ++ cs ++ rest := by
      have e4 : cs.take (lo.toNat * sz) = (cs.take (hi.toNat * sz)).take (lo.toNat * sz) := by rw [List.take_take, Nat.min_eq_left e3]
      rw [e4, List.append_assoc pre, List.take_append_drop, ← List.append_assoc, List.append_assoc pre, List.take_append_drop]
    rw [this]; exact k1
  · rw [List.length_append, List.length_drop, hl, ← sl_len h1 h2 h3]
    have e5 : (mx - lo.toNat - (hi.toNat - lo.toNat)) * sz + hi.toNat * sz ≤ c * sz := by rw [← Nat.add_mul]; exact Nat.mul_le_mul_right _ (by omega)
    have e6 : (c - l.length) * sz + l.length * sz = c * sz := by rw [← Nat.add_mul, Nat.sub_add_cancel k3]
    omega
/-- A part of a row, and nothing else of it from now on. -/
theorem Hold.sls {lo hi : Int} (O : Hold W h0 m0 h m Rs) (k : Nat) (hk : Rs[k]? = some (rR a A c l)) (g : sls l lo hi = some l') : Hold W h0 m0 h m (Rs.set k (rR a (sliceA A (Int.toNat lo) c sz) (c - Int.toNat lo) l')) := by
  have hc := O.cap k hk
  obtain ⟨h1, h2, h3, _, rfl⟩ := sls_e g
  exact O.conv k hk (R' := rR a (sliceA A (Int.toNat lo) c sz) (c - Int.toNat lo) (Hw.sl l lo hi)) fun F hF => rowP.sl hF h1 h2 h3 (by omega) (Nat.le_refl _)
/-! ### Rows whose elements own something: an element taken out -/
/-- A row of which the element at i (with cells ce) is not owned with the others. -/
def rH (a : Asn α sz) (A : Option Addr) (c : Nat) (l : List α) (i : Nat) (ce : List Value) : Res where
  p h m F := ∃ b t pre c1 c2 rest l1 y l2 F1 F2, A = some ⟨b, pre.length, none⟩ ∧ Blk h b (pre ++ (c1 ++ (ce ++ c2)) ++ rest) t ∧ l = l1 ++ y :: l2 ∧ l1.length = i ∧ ce.length = sz ∧ c1.length = i * sz ∧ CsA a h m l1 c1 F1 ∧ CsA a h m l2 c2 F2 ∧ Dj F1 F2 ∧ l.length ≤ c ∧ (c - l.length) * sz ≤ rest.length ∧ ¬ Live m b ∧ ¬ F1 b ∧ ¬ F2 b ∧ F = U (fb b) (U F1 F2)
  z _ := True
  lt := by
    rintro h m F ⟨b, t, pre, c1, c2, rest, l1, y, l2, F1, F2, k1, k2, k3, k4, k5, k5', k6, k7, k8, k9, k10, k11, k12, k13, rfl⟩ i hi
    rcases hi with hi | hi | hi
    · unfold fb at hi; subst hi; exact k2.lt
    · exact k6.lt i hi
    · exact k7.lt i hi
  nl := by
    rintro h m F ⟨b, t, pre, c1, c2, rest, l1, y, l2, F1, F2, k1, k2, k3, k4, k5, k5', k6, k7, k8, k9, k10, k11, k12, k13, rfl⟩ i hi
    rcases hi with hi | hi | hi
    · unfold fb at hi; subst hi; exact k11
    · exact k6.nl i hi
    · exact k7.nl i hi
  fr := by
    rintro h m F h' m' ⟨b, t, pre, c1, c2, rest, l1, y, l2, F1, F2, k1, k2, k3, k4, k5, k5', k6, k7, k8, k9, k10, k11, k12, k13, rfl⟩ f1 f2 f3
    exact ⟨b, t, pre, c1, c2, rest, l1, y, l2, F1, F2, k1, k2.fr (f1 b (.inl rfl)), k3, k4, k5, k5', k6.fr (fun i hi => f1 i (.inr (.inl hi))) f2 (fun i hi => f3 i (.inr (.inl hi))), k7.fr (fun i hi => f1 i (.inr (.inr hi))) f2 (fun i hi => f3 i (.inr (.inr hi))), k8, k9, k10, f3 b (.inl rfl), k12, k13, rfl⟩
  fz := fun _ _ _ => trivial
theorem Hold.hole (O : Hold W h0 m0 h m Rs) (k : Nat) (hk : Rs[k]? = some (rR a A c l)) (g : gi l x = some y) : ∃ a' ce, A = some a' ∧ cellsH h (Addr.add a' (Int.toNat x * sz)) 0 sz = some ce ∧ Hold W h0 m0 h m (Rs.set k (rH a A c l (Int.toNat x) ce) ++ [rC a y ce]) := by
  obtain ⟨F, h1, _, _⟩ := O.get k hk
  have g1 := gi_get g
  have key : ∀ F, rowP a A c l h m F → ∃ b t pre rest c1 ce c2 l1 l2 F1 Fe F2, A = some ⟨b, pre.length, none⟩ ∧ Blk h b (pre ++ (c1 ++ (ce ++ c2)) ++ rest) t ∧ l = l1 ++ y :: l2 ∧ l1.length = x.toNat ∧ c1.length = x.toNat * sz ∧ CsA a h m l1 c1 F1 ∧ a.p h m y ce Fe ∧ CsA a h m l2 c2 F2 ∧ Dj F1 Fe ∧ Dj F1 F2 ∧ Dj Fe F2 ∧ l.length ≤ c ∧ (c - l.length) * sz ≤ rest.length ∧ ¬ Live m b ∧ ¬ F1 b ∧ ¬ Fe b ∧ ¬ F2 b ∧ F = U (fb b) (U Fe (U F1 F2)) := by
    rintro F (⟨rfl, _, _⟩ | ⟨b, t, pre, cs, rest, Fe, k0, k1, k2, k3, k4, k5, k6, k7, rfl⟩)
    · cases g1
    · obtain ⟨l1, l2, c1, ce, c2, F1, Fe, F2, e1, e2, rfl, e3, e4, e5, e6, d1, d2, d3, rfl⟩ := k3.split g1
      exact ⟨b, t, pre, rest, c1, ce, c2, l1, l2, F1, Fe, F2, k1, k2, e1, e2, e3, e4, e5, e6, d1, d2, d3, k4, k5, k6, fun h => k7 (.inr (.inl h)), fun h => k7 (.inl h), fun h => k7 (.inr (.inr h)), rfl⟩
  have cell : ∀ {b t pre rest c1 ce c2}, Blk h b (pre ++ (c1 ++ (ce ++ c2)) ++ rest) t → c1.length = x.toNat * sz → ce.length = sz → cellsH h (Addr.add (⟨b, pre.length, none⟩ : Addr) (Int.toNat x * sz)) 0 sz = some ce := by
    intro b t pre rest c1 ce c2 hb e1 e2
    have := hb.cells (a := (⟨b, pre.length, none⟩ : Addr).add (x.toNat * sz)) (by rw [add_block]) (add_spot _ rfl) sz 0 (by rw [add_off]; simp only [List.length_append]; omega)
    rw [this, add_off]
    simp only [Nat.add_zero]
    rw [show pre ++ (c1 ++ (ce ++ c2)) ++ rest = (pre ++ c1) ++ (ce ++ (c2 ++ rest)) by simp only [List.append_assoc], ← e1, show pre.length + c1.length = (pre ++ c1).length by rw [List.length_append], List.drop_left, ← e2, List.take_left]
  obtain ⟨b, t, pre, rest, c1, ce, c2, l1, l2, F1, Fe, F2, k1, k2, k3, k4, k5, k6, k7, k8, k9⟩ := key F h1
  have hc := cell k2 k5 (a.len k7)
  refine ⟨_, ce, k1, hc, ?_⟩
  refine O.cut k hk fun F' hF' => ?_
  obtain ⟨b', t', pre', rest', c1', ce', c2', l1', l2', F1', Fe', F2', q1, q2, q3, q4, q5, q6, q7, q8, d1, d2, d3, q9, q10, q11, q12, q13, q14, rfl⟩ := key F' hF'
  have hc' := cell q2 q5 (a.len q7)
  rw [k1] at q1
  have e1 : b = b' := by have := (Option.some.inj q1); exact congrArg Addr.block this
  have e2 : pre.length = pre'.length := by have := (Option.some.inj q1); exact congrArg Addr.off this
  subst e1
  rw [← e2, hc] at hc'
  have e3 : ce = ce' := Option.some.inj hc'
  subst e3
  refine ⟨U (fb b) (U F1' F2'), Fe', ⟨b, t', pre', c1', c2', rest', l1', y, l2', F1', F2', by rw [k1, e2], q2, q3, q4, a.len q7, q5, q6, q8, d2, q9, q10, q11, q12, q14, rfl⟩, q7, ?_, ?_⟩
  · exact Dj.u (fun i hi hf => by unfold fb at hi; subst hi; exact q13 hf) (Dj.u d1 d3.symm)
  · rintro i ((hi | hi) | hi)
    · exact .inl hi
    · exact .inr (.inr hi)
    · exact .inr (.inl hi)
theorem Hold.fillG {i : Nat} {R2 : Res} (O : Hold W h0 m0 h m Rs) (k j : Nat) (hk : Rs[k]? = some (rH a A c l i cs)) (hj : (Rs.set k rE)[j]? = some R2) (H2 : ∀ F, R2.p h m F → a.p h m y cs F) (e : l.set i y = l') : Hold W h0 m0 h m (((Rs.set k rE).set j rE).set k (rR a A c l')) := by
  subst e
  refine O.fuse k j (R' := rR a A c (l.set i y)) hk hj ?_
  rintro F1 F2 ⟨b, t, pre, c1, c2, rest, l1, y', l2, G1, G2, k1, k2, rfl, rfl, k5, k5', k6, k7, k8, k9, k10, k11, k12, k13, rfl⟩ h2 d
  replace h2 := H2 _ h2
  have hl : (l1 ++ y' :: l2).set l1.length y = l1 ++ y :: l2 := by rw [List.set_append_right _ _ (Nat.le_refl _), Nat.sub_self, List.set_cons_zero]
  rw [hl]
  have hlen : (l1 ++ y :: l2).length = (l1 ++ y' :: l2).length := by simp
  refine ⟨U (fb b) (U F2 (U G1 G2)), .inr ⟨b, t, pre, _, rest, _, ?_, k1, k2, k6.join h2 k7 d.ur.ul k8 d.ur.ur.symm, ?_, ?_, k11, ?_, rfl⟩, ?_⟩
  · rw [List.length_append, List.length_cons] at k9; omega
  · rw [hlen]; exact k9
  · rw [hlen]; exact k10
  · rintro (hf | hf | hf)
    · exact d b (.inl rfl) hf
    · exact k12 hf
    · exact k13 hf
  · rintro i (hi | hi | hi)
    · exact .inl (.inl hi)
    · exact .inr hi
    · exact .inl (.inr hi)
theorem Hold.fill {i : Nat} (O : Hold W h0 m0 h m Rs) (k j : Nat) (hk : Rs[k]? = some (rH a A c l i cs)) (hj : (Rs.set k rE)[j]? = some (rC a y cs)) (e : l.set i y = l') : Hold W h0 m0 h m (((Rs.set k rE).set j rE).set k (rR a A c l')) := O.fillG k j hk hj (fun _ h => h) e
theorem Hold.fill0 (O : Hold W h0 m0 h m Rs) (k j : Nat) (hk : Rs[k]? = some (rH a A c l (Int.toNat x) cs)) (hj : (Rs.set k rE)[j]? = some (rC a y cs)) (g : gi l x = some y) : Hold W h0 m0 h m (((Rs.set k rE).set j rE).set k (rR a A c l)) := by
  refine O.fill k j hk hj ?_
  have := gi_get g
  obtain ⟨h1, h2⟩ := List.getElem?_eq_some_iff.1 this
  rw [← h2, List.set_getElem_self]
/-- The cells of the element that is taken out are written. -/
theorem Hold.holeSt {i : Nat} (O : Hold W h0 m0 h m Rs) (k : Nat) (hk : Rs[k]? = some (rH a A c l i cs)) (ha : A = some aa) (j : Nat) {ds : List Value} (hn : j + ds.length ≤ sz) (hf : ∀ v ∈ ds, Flat v) (H : ∀ h', Hold W h0 m0 h' m (Rs.set k (rH a A c l i (cs.take j ++ ds ++ cs.drop (j + ds.length)))) → K h') : ∃ h', stH h (Addr.add (Addr.add aa (i * sz)) j) ds 0 = some h' ∧ K h' := by
  obtain ⟨F, h1, h2, h3⟩ := O.get k hk
  obtain ⟨b, t, pre, c1, c2, rest, l1, y, l2, F1, F2, k1, k2, k3, k4, k5, k5', k6, k7, k8, k9, k10, k11, k12, k13, rfl⟩ := h1
  subst ha; cases k1
  have hcs : cs = cs.take j ++ (cs.drop j).take ds.length ++ cs.drop (j + ds.length) := by
    rw [List.append_assoc, ← List.drop_drop, List.take_append_drop, List.take_append_drop]
  have hb : Blk h b ((pre ++ c1 ++ cs.take j) ++ (cs.drop j).take ds.length ++ (cs.drop (j + ds.length) ++ (c2 ++ rest))) t := by
    have : (pre ++ c1 ++ cs.take j) ++ (cs.drop j).take ds.length ++ (cs.drop (j + ds.length) ++ (c2 ++ rest)) = pre ++ (c1 ++ (cs ++ c2)) ++ rest := by
      conv => rhs; rw [hcs]
      simp only [List.append_assoc]
    rw [this]; exact k2
  obtain ⟨h', s1, b1, o1⟩ := Blk.stH ds (a := Addr.add (Addr.add ⟨b, pre.length, none⟩ (i * sz)) j) (i := 0) hb (by rw [add_block, add_block]) (add_spot _ (add_spot _ rfl))
    (by rw [add_off, add_off]; simp only [List.length_append, List.length_take]; omega) (by rw [List.length_take, List.length_drop]; omega) hf
  refine ⟨h', s1, H h' ?_⟩
  have S : St (fb b) h m h' m := .only O.s k11 o1
  have S2 : St (U (fb b) (U F1 F2)) h m h' m := ⟨S.up, S.s, S.size, fun i hi hn => S.fr i hi (fun h => hn (.inl h)), fun i hi hl => .inl hl⟩
  have hk0 : ∀ b', F1 b' ∨ F2 b' → h'[b']? = h[b']? := fun b' hb' => S.fr b' (hb'.elim (k6.lt b') (k7.lt b')) (fun e => by unfold fb at e; subst e; exact hb'.elim k12 k13)
  refine h3 (R' := rH a (some ⟨b, pre.length, none⟩) c l i _) S2 ⟨b, t, pre, c1, c2, rest, l1, y, l2, F1, F2, rfl, ?_, k3, k4, ?_, k5', k6.fr (fun i hi => hk0 i (.inl hi)) (.refl _) (fun i hi => k6.nl i hi), k7.fr (fun i hi => hk0 i (.inr hi)) (.refl _) (fun i hi => k7.nl i hi), k8, k9, k10, k11, k12, k13, rfl⟩ (fun _ h => .inl h)
  · have : pre ++ (c1 ++ ((cs.take j ++ ds ++ cs.drop (j + ds.length)) ++ c2)) ++ rest = (pre ++ c1 ++ cs.take j) ++ ds ++ (cs.drop (j + ds.length) ++ (c2 ++ rest)) := by simp only [List.append_assoc]
    rw [this]; exact b1
  · simp only [List.length_append, List.length_take, List.length_drop]; omega
theorem Hold.holeSt1 {i : Nat} {a : Asn α 1} {ce : Value} (O : Hold W h0 m0 h m Rs) (k : Nat) (hk : Rs[k]? = some (rH a A c l i [ce])) (ha : A = some aa) (hf : Flat v) (H : ∀ h', Hold W h0 m0 h' m (Rs.set k (rH a A c l i [v])) → K h') : ∃ h', st1 h (Addr.add aa (i * 1)) v = some h' ∧ K h' := by
  obtain ⟨h', h1, h2⟩ := O.holeSt k hk ha 0 (ds := [v]) (by simp) (Flats.cons hf Flats.nil) (K := K) (fun h' O' => H h' (by simpa using O'))
  refine ⟨h', ?_, h2⟩
  simp only [stH] at h1
  split at h1
  · rename_i h4 h5
    cases h1; exact h5
  · cases h1
end
/-- A row as a value. -/
def aRow {α : Type} {sz : Nat} (a : Asn α sz) : Asn (List α) 1 where
  p h m l cs F := ∃ A c, cs = [.slice A l.length c] ∧ (rR a A c l).p h m F
  E := eRow sz a.E
  T := tell_row a.T
  len := by rintro h m x cs F ⟨A, c, rfl, _⟩; rfl
  flat := by rintro h m x cs F ⟨A, c, rfl, _⟩; exact Flats.cons trivial Flats.nil
  lt := by rintro h m x cs F ⟨A, c, rfl, o⟩; exact (rR a A c x).lt o
  nl := by rintro h m x cs F ⟨A, c, rfl, o⟩; exact (rR a A c x).nl o
  fr := by rintro h m x cs F h' m' ⟨A, c, rfl, o⟩ k1 k2 k3; exact ⟨A, c, rfl, (rR a A c x).fr o k1 k2 k3⟩
  fz := by
    rintro h m x cs F G ⟨A, c, rfl, o⟩ k1 k2
    have := (rR a A c x).fz o k1 k2
    exact ⟨A, c, rfl, this.2, this.1⟩
section
variable {α : Type} {sz : Nat} {a : Asn α sz} {h h' h0 m m' m0 : Heap} {A : Option Addr} {c n k : Nat} {l l' xs : List α} {F F' G W : Foot} {x : Int} {y : α} {v X : Value} {cs es : List Value} {Rs : List Res} {b : Nat} {t e : TypeId} {aa : Addr}
variable {E : Heap → α → List Value → Prop} {T : Tell sz E}
theorem aRow_vf (v : a.vf) : (aRow a).vf := by rintro h m m' x cs F ⟨A, c, rfl, o⟩ k1 k2; exact ⟨A, c, rfl, rR_vf v _ _ _ _ o k1 k2⟩
theorem aRow_nil : (aRow a).p h m [] [.slice none 0 0] No := ⟨none, 0, rfl, .inl ⟨rfl, rfl, rfl⟩⟩
theorem Hold.openR (O : Hold W h0 m0 h m Rs) (k : Nat) (hk : Rs[k]? = some (rC (aRow a) l cs)) : ∃ A c, cs = [.slice A l.length c] ∧ Hold W h0 m0 h m (Rs.set k (rR a A c l)) := by
  obtain ⟨F, h1, _, h3⟩ := O.get k hk
  obtain ⟨A, c, rfl, o⟩ := h1
  exact ⟨A, c, rfl, h3 (R' := rR a A c l) (.refl O.s) o (fun _ h => .inl h)⟩
theorem Hold.closeR (O : Hold W h0 m0 h m Rs) (k : Nat) (hk : Rs[k]? = some (rR a A c l)) : Hold W h0 m0 h m (Rs.set k (rC (aRow a) l [.slice A l.length c])) := by
  obtain ⟨F, h1, _, h3⟩ := O.get k hk
  exact h3 (R' := rC (aRow a) l [.slice A l.length c]) (.refl O.s) ⟨A, c, rfl, h1⟩ (fun _ h => .inl h)
/-! ### append -/
theorem rowP.app {bytes : Nat} {z : Array Value} {K : Value → Heap → Prop} {F2 : Foot} (o : rowP a A c l h m F) (s : Sub m h) (hn : n = l.length) (hz : z.size = sz) (h1 : srcCells sz X h = some (xs.length, es)) (h2 : CsA a h m xs es F2) (hd : Dj F F2) (hb0 : 0 < bytes) (g : ap bytes l xs = some l')
    (hk : ∀ A' c' h' F', rowP a A' c' l' h' m F' → St F h m h' m → (∀ b, F' b → F b ∨ F2 b ∨ h.size ≤ b) → K (.slice A' l'.length c') h') : AppW e sz bytes z A n c X h K := by
  subst hn
  obtain ⟨hb, rfl⟩ := ap_e g
  have he := h2.len
  refine ⟨xs.length, es, h1, ?_⟩
  have hpush : ∀ (old : List Value) (Fo : Foot) (hold : oldCells sz A l.length h = some old) (hE : CsA a h m l old Fo) (hFo : ∀ b, Fo b → F b), c < l.length + xs.length →
      ∃ old, oldCells sz A l.length h = some old ∧ ∀ c', l.length + xs.length ≤ c' → K (.slice (some ⟨h.size, 0, none⟩) (l.length + xs.length) c') (h.push (.cells (old.toArray ++ es.toArray ++ zcells z (c' - (l.length + xs.length))) e)) := by
    intro old Fo hold hE hFo hlt
    refine ⟨old, hold, fun c' hc' => ?_⟩
    rw [show (Value.slice (some ⟨h.size, 0, none⟩) (l.length + xs.length) c') = .slice (some ⟨h.size, 0, none⟩) (l ++ xs).length c' by rw [List.length_append]]
    have e1 := Ext.push h (Obj.cells (old.toArray ++ es.toArray ++ zcells z (c' - (l.length + xs.length))) e)
    have S1 := St.of_ext (W := F) s e1
    have hA := hE.append h2 (hd.mono hFo (fun _ h => h))
    have hA' := hA.fr (fun i hi => e1.2 i (hA.lt i hi)) (.refl _) (fun i hi => hA.nl i hi)
    refine hk _ _ _ _ (.inr ⟨h.size, e, [], old ++ es, (zcells z (c' - (l.length + xs.length))).toList, _, by omega, rfl, ?_, hA', by rw [List.length_append]; exact hc', ?_, St.notLive s, fun hf => by have := hA.lt _ hf; omega, rfl⟩) S1 ?_
    · have := Blk.new h (old.toArray ++ es.toArray ++ zcells z (c' - (l.length + xs.length))) e
      simpa using this
    · rw [zc_len, hz, List.length_append]; exact Nat.le_refl _
    · rintro i (hi | hi | hi)
      · unfold fb at hi; exact .inr (.inr (by omega))
      · exact .inl (hFo i hi)
      · exact .inr (.inl hi)
  rcases o with ⟨rfl, rfl, rfl⟩ | ⟨b, t, pre, cs, rest, Fe, k0, rfl, k1, k2, k3, k4, k5, k6, rfl⟩
  · by_cases hx : xs.length = 0
    · have hxs : xs = [] := List.length_eq_zero_iff.1 hx
      subst hxs
      obtain ⟨rfl, rfl⟩ : es = [] ∧ F2 = No := h2
      refine .inl ⟨by simp, ?_⟩
      have fin := hk A 0 h No (.inl ⟨rfl, rfl, rfl⟩) (St.refl s) (fun b hb => .inl hb)
      cases A with
      | none => exact .inl ⟨rfl, fin⟩
      | some a => exact .inr ⟨a, h, rfl, by simp [stH], fin⟩
    · refine .inr ⟨by simp; omega, by simpa using hb, hb0, ?_⟩
      refine hpush [] No ?_ ⟨rfl, rfl⟩ (fun _ h => h) (by simp; omega)
      cases A with
      | none => rfl
      | some a => simp [oldCells, cellsH]
  · have hl := k2.len
    by_cases hle : l.length + xs.length ≤ c
    · refine .inl ⟨hle, .inr ?_⟩
      have hmul : (c - l.length) * sz = xs.length * sz + (c - l.length - xs.length) * sz := by rw [← Nat.add_mul]; congr 1; omega
      have k1' : Blk h b ((pre ++ cs) ++ rest.take (xs.length * sz) ++ rest.drop (xs.length * sz)) t := by rw [List.append_assoc, List.take_append_drop]; exact k1
      obtain ⟨h', s1, b1, o1⟩ := Blk.stH es (a := (⟨b, pre.length, none⟩ : Addr).add (l.length * sz)) (i := 0) k1' (by rw [add_block]) (add_spot _ rfl) (by rw [add_off, List.length_append, hl, Nat.add_zero]) (by rw [List.length_take, he]; omega) (h2.flat)
      refine ⟨_, h', rfl, s1, ?_⟩
      rw [show (Value.slice (some ⟨b, pre.length, none⟩) (l.length + xs.length) c) = .slice (some ⟨b, pre.length, none⟩) (l ++ xs).length c by rw [List.length_append]]
      have S : St (fb b) h m h' m := .only s k5 o1
      have S2 : St (U (fb b) Fe) h m h' m := ⟨S.up, S.s, S.size, fun i hi hn => S.fr i hi (fun h => hn (.inl h)), fun i hi hl => .inl hl⟩
      have hA := k2.append h2 hd.ur
      have nb : ∀ i, U Fe F2 i → i ≠ b := fun i hi e' => by subst e'; exact hi.elim k6 (fun hf => hd i (.inl rfl) hf)
      have hA' := hA.fr (fun i hi => S.fr i (hA.lt i hi) (fun e' => nb i hi e')) (.refl _) (fun i hi => hA.nl i hi)
      refine hk _ _ _ _ (.inr ⟨b, t, pre, cs ++ es, rest.drop (xs.length * sz), _, k0, rfl, by rw [← List.append_assoc pre]; exact b1, hA', by rw [List.length_append]; exact hle, ?_, k5, fun hf => nb b hf rfl, rfl⟩) S2 ?_
      · rw [List.length_drop, List.length_append, show c - (l.length + xs.length) = c - l.length - xs.length by omega]; omega
      · rintro i (hi | hi | hi)
        · exact .inl (.inl hi)
        · exact .inl (.inr hi)
        · exact .inr (.inl hi)
    · refine .inr ⟨by omega, hb, hb0, ?_⟩
      refine hpush cs Fe ?_ k2 (fun _ h => .inr h) (by omega)
      have := k1.cells (a := ⟨b, pre.length, none⟩) rfl rfl (l.length * sz) 0 (by simp [hl])
      simp only [oldCells, this, Nat.add_zero]
      rw [List.append_assoc, List.drop_left, List.take_append_of_le_length (by omega), List.take_of_length_le (by omega)]
variable {K : Value → Heap → Prop} {bytes : Nat} {z : Array Value}
/-- append of settled elements. -/
theorem Hold.app (O : Hold W h0 m0 h m Rs) (k : Nat) (hk : Rs[k]? = some (rR (aE T) A c l)) (hn : n = l.length) (hz : z.size = sz) (hs : Src sz E h m X xs) (hb0 : 0 < bytes) (g : ap bytes l xs = some l')
    (H : ∀ A' c' h', Hold W h0 m0 h' m (Rs.set k (rR (aE T) A' c' l')) → K (.slice A' l'.length c') h') : AppW e sz bytes z A n c X h K := by
  obtain ⟨F, h1, h2, h3⟩ := O.get k hk
  obtain ⟨es, s1, s2⟩ := hs
  refine rowP.app h1 O.s hn hz s1 (s2.csa (T := T)) .no' hb0 g fun A' c' h' F' q1 q2 q3 => H A' c' h' (h3 (R' := rR (aE T) A' c' l') q2 q1 fun b hb => ?_)
  rcases q3 b hb with hb | hb | hb
  · exact .inl hb
  · exact hb.elim
  · exact .inr hb
/-- append to nothing: the heap only grows. -/
theorem Hold.app0 (O : Hold W h0 m0 h m Rs) (a : Asn α sz) (hn : n = 0) (hz : z.size = sz) (h1 : srcCells sz X h = some (xs.length, es)) (h2 : ∃ F, CsA a h m xs es F ∧ F = No) (hb0 : 0 < bytes) (g : ap bytes ([] : List α) xs = some l')
    (H : ∀ A' c' h', Ext h h' → Hold W h0 m0 h' m (Rs ++ [rR a A' c' l']) → K (.slice A' l'.length c') h') : AppW e sz bytes z A n 0 X h K := by
  obtain ⟨_, h2, rfl⟩ := h2
  refine rowP.app (a := a) (l := []) (F := No) (.inl ⟨rfl, rfl, rfl⟩) O.s hn hz h1 h2 .no' hb0 g fun A' c' h' F' q1 q2 q3 => H A' c' h' q2.ext (O.add q2 q1 fun b hb => ?_)
  rcases q3 b hb with hb | hb | hb
  · exact hb.elim
  · exact hb.elim
  · exact hb
theorem Hold.appE0 (O : Hold W h0 m0 h m Rs) (T : Tell sz E) (hn : n = 0) (hz : z.size = sz) (hs : Src sz E h m X xs) (hb0 : 0 < bytes) (g : ap bytes ([] : List α) xs = some l')
    (H : ∀ A' c' h', Ext h h' → Hold W h0 m0 h' m (Rs ++ [rR (aE T) A' c' l']) → K (.slice A' l'.length c') h') : AppW e sz bytes z A n 0 X h K := by
  obtain ⟨es, s1, s2⟩ := hs
  exact O.app0 (aE T) hn hz s1 ⟨No, s2.csa, rfl⟩ hb0 g H
/-- append of one element that owns something. -/
theorem Hold.appA {R2 : Res} (O : Hold W h0 m0 h m Rs) (k j : Nat) (hk : Rs[k]? = some (rR a A c l)) (hj : (Rs.set k rE)[j]? = some R2) (H2 : ∀ F, R2.p h m F → a.p h m y es F) (hn : n = l.length) (hz : z.size = sz) (hs : srcCells sz X h = some (1, es)) (hb0 : 0 < bytes) (g : ap bytes l [y] = some l')
    (H : ∀ A' c' h', Hold W h0 m0 h' m (((Rs.set k rE).set j rE).set k (rR a A' c' l')) → K (.slice A' l'.length c') h') : AppW e sz bytes z A n c X h K := by
  have O2 := O.fuse k j (R' := rS (rR a A c l) R2) hk hj (fun F1 F2 h1 h2 d => ⟨_, ⟨F1, F2, h1, h2, d, rfl⟩, fun _ h => h⟩)
  have hk2 : (((Rs.set k rE).set j rE).set k (rS (rR a A c l) R2))[k]? = some (rS (rR a A c l) R2) := by
    have hlt : k < Rs.length := (List.getElem?_eq_some_iff.1 hk).1
    rw [List.getElem?_set_self (by simpa using hlt)]
  obtain ⟨F, ⟨F1, F2, h1, h2, d, rfl⟩, h3, h4⟩ := O2.get k hk2
  refine rowP.app (xs := [y]) h1 O.s hn hz hs (CsA.one (H2 _ h2)) d hb0 g fun A' c' h' F' q1 q2 q3 => H A' c' h' ?_
  have q4 : St (U F1 F2) h m h' m := ⟨q2.up, q2.s, q2.size, fun i hi hn => q2.fr i hi (fun h => hn (.inl h)), fun i hi hl => (q2.lv i hi hl).elim .inl (fun h => .inr (.inl h))⟩
  have := h4 (R' := rR a A' c' l') q4 q1 fun b hb => by
    rcases q3 b hb with hb | hb | hb
    · exact .inl (.inl hb)
    · exact .inl (.inr hb)
    · exact .inr hb
  rw [List.set_set] at this
  exact this
end
end Go.Hw
