/- Rows of rows, their cells told: an element may be read and written where it lies, or taken out. -/
import Derived.Test.YtklobcelbpjjcacHwOd
set_option linter.unusedVariables false
namespace Go.Hw
open Go
section
variable {α : Type} {sz : Nat}
/-- Cells of elements, but for one that is taken out. -/
def CsS (a : Asn α sz) (h m : Heap) (l : List α) (hs : List Value) (S : Option Nat) (F : Foot) : Prop :=
  match S with
  | none => CsA a h m l hs F
  | some i => ∃ l1 y l2 c1 ce c2 F1 F2, l = l1 ++ y :: l2 ∧ l1.length = i ∧ hs = c1 ++ (ce ++ c2) ∧ c1.length = i * sz ∧ ce.length = sz ∧ CsA a h m l1 c1 F1 ∧ CsA a h m l2 c2 F2 ∧ Dj F1 F2 ∧ F = U F1 F2
variable {a : Asn α sz} {h h' h0 m m' m0 : Heap} {A Ai : Option Addr} {c ci n k i : Nat} {l l' li : List α} {hs : List Value} {S : Option Nat} {F F' G W : Foot} {x : Int} {y y' : α} {v : Value} {cs : List Value} {Rs : List Res} {b : Nat} {t : TypeId} {aa : Addr} {K : Heap → Prop}
theorem CsS.lt (hc : CsS a h m l hs S F) : ∀ b, F b → b < h.size := by
  cases S with
  | none => exact CsA.lt hc
  | some i => obtain ⟨l1, y, l2, c1, ce, c2, F1, F2, _, _, _, _, _, h1, h2, _, rfl⟩ := hc; exact fun b hb => hb.elim (h1.lt b) (h2.lt b)
theorem CsS.nl (hc : CsS a h m l hs S F) : ∀ b, F b → ¬ Live m b := by
  cases S with
  | none => exact CsA.nl hc
  | some i => obtain ⟨l1, y, l2, c1, ce, c2, F1, F2, _, _, _, _, _, h1, h2, _, rfl⟩ := hc; exact fun b hb => hb.elim (h1.nl b) (h2.nl b)
theorem CsS.fr (hc : CsS a h m l hs S F) (k1 : ∀ b, F b → h'[b]? = h[b]?) (k2 : Sub m m') (k3 : ∀ b, F b → ¬ Live m' b) : CsS a h' m' l hs S F := by
  cases S with
  | none => exact CsA.fr hc k1 k2 k3
  | some i =>
    obtain ⟨l1, y, l2, c1, ce, c2, F1, F2, e1, e2, e3, e4, e5, h1, h2, d, rfl⟩ := hc
    exact ⟨l1, y, l2, c1, ce, c2, F1, F2, e1, e2, e3, e4, e5, h1.fr (fun b hb => k1 b (.inl hb)) k2 (fun b hb => k3 b (.inl hb)), h2.fr (fun b hb => k1 b (.inr hb)) k2 (fun b hb => k3 b (.inr hb)), d, rfl⟩
theorem CsS.len (hc : CsS a h m l hs S F) : hs.length = l.length * sz := by
  cases S with
  | none => exact CsA.len hc
  | some i =>
    obtain ⟨l1, y, l2, c1, ce, c2, F1, F2, rfl, rfl, rfl, e4, e5, h1, h2, d, _⟩ := hc
    simp only [List.length_append, List.length_cons, e4, e5, h2.len, Nat.add_mul, Nat.succ_mul]; omega
/-- A row of which all cells are told; S: which element is taken out. -/
def rX (a : Asn α sz) (A : Option Addr) (c : Nat) (l : List α) (hs : List Value) (S : Option Nat) : Res where
  p h m F := ∃ b t pre rest Fe, c ≠ 0 ∧ A = some ⟨b, pre.length, none⟩ ∧ Blk h b (pre ++ hs ++ rest) t ∧ CsS a h m l hs S Fe ∧ l.length ≤ c ∧ (c - l.length) * sz ≤ rest.length ∧ ¬ Live m b ∧ ¬ Fe b ∧ F = U (fb b) Fe
  z _ := True
  lt := by
    rintro h m F ⟨b, t, pre, rest, Fe, k0, k1, k2, k3, k4, k5, k6, k7, rfl⟩ i hi
    rcases hi with hi | hi
    · unfold fb at hi; subst hi; exact k2.lt
    · exact k3.lt i hi
  nl := by
    rintro h m F ⟨b, t, pre, rest, Fe, k0, k1, k2, k3, k4, k5, k6, k7, rfl⟩ i hi
    rcases hi with hi | hi
    · unfold fb at hi; subst hi; exact k6
    · exact k3.nl i hi
  fr := by
    rintro h m F h' m' ⟨b, t, pre, rest, Fe, k0, k1, k2, k3, k4, k5, k6, k7, rfl⟩ f1 f2 f3
    exact ⟨b, t, pre, rest, Fe, k0, k1, k2.fr (f1 b (.inl rfl)), k3.fr (fun i hi => f1 i (.inr hi)) f2 (fun i hi => f3 i (.inr hi)), k4, k5, f3 b (.inl rfl), k7, rfl⟩
  fz := fun _ _ _ => trivial
theorem Hold.openX (O : Hold W h0 m0 h m Rs) (k : Nat) (hk : Rs[k]? = some (rR a A c l)) (g : gi l x = some y) : ∃ hs, Hold W h0 m0 h m (Rs.set k (rX a A c l hs none)) := by
  obtain ⟨F, h1, _, h3⟩ := O.get k hk
  have g1 := gi_get g
  rcases h1 with ⟨rfl, _⟩ | ⟨b, t, pre, cs, rest, Fe, k0, k1, k2, k3, k4, k5, k6, k7, rfl⟩
  · cases g1
  · exact ⟨cs, h3 (R' := rX a A c l cs none) (.refl O.s) ⟨b, t, pre, rest, Fe, k0, k1, k2, k3, k4, k5, k6, k7, rfl⟩ (fun _ h => .inl h)⟩
theorem Hold.closeX (O : Hold W h0 m0 h m Rs) (k : Nat) (hk : Rs[k]? = some (rX a A c l hs none)) : Hold W h0 m0 h m (Rs.set k (rR a A c l)) :=
  O.conv k hk (R' := rR a A c l) fun F ⟨b, t, pre, rest, Fe, k0, k1, k2, k3, k4, k5, k6, k7, e⟩ => ⟨F, .inr ⟨b, t, pre, hs, rest, Fe, k0, k1, k2, k3, k4, k5, k6, k7, e⟩, fun _ h => h⟩
theorem Hold.capX (O : Hold W h0 m0 h m Rs) (k : Nat) (hk : Rs[k]? = some (rX a A c l hs S)) : l.length ≤ c := by
  obtain ⟨F, ⟨b, t, pre, rest, Fe, k0, k1, k2, k3, k4, _⟩, _⟩ := O.get k hk
  exact k4
theorem Hold.adrX {K : Addr → Prop} (O : Hold W h0 m0 h m Rs) (k : Nat) (hk : Rs[k]? = some (rX a A c l hs S)) (hn : n = l.length) (g : gi l x = some y) (H : ∀ aa, A = some aa → K aa) : ptrOk A fun a => 0 ≤ x ∧ x < ((n : Nat) : Int) ∧ K a := by
  obtain ⟨F, ⟨b, t, pre, rest, Fe, k0, k1, k2, k3, k4, _⟩, _⟩ := O.get k hk
  subst k1
  exact ⟨gi_le g, gi_ltl g hn, H _ rfl⟩
end
section
variable {α : Type} {sz : Nat} {a : Asn α sz} {h h' h0 m m' m0 : Heap} {A Ai : Option Addr} {c ci n k i : Nat} {ll ll' : List (List α)} {li l' : List α} {hs : List Value} {S : Option Nat} {F F' G W : Foot} {x : Int} {v : Value} {Rs : List Res} {b : Nat} {t : TypeId} {aa : Addr} {K : Heap → Prop}
variable {E : Heap → α → List Value → Prop} {T : Tell sz E}
/-- The cells of an element: its header. -/
theorem Hold.hdX (O : Hold W h0 m0 h m Rs) (k : Nat) (hk : Rs[k]? = some (rX (aRow a) A c ll hs none)) (ha : A = some aa) (g : gi ll x = some li) : ∃ Ai ci, hs[Int.toNat x]? = some (.slice Ai li.length ci) ∧ cellsH h (Addr.add aa (Int.toNat x * 1)) 0 1 = some [.slice Ai li.length ci] ∧ li.length ≤ ci := by
  obtain ⟨F, ⟨b, t, pre, rest, Fe, k0, k1, k2, k3, k4, _⟩, _⟩ := O.get k hk
  rw [ha] at k1; cases k1
  obtain ⟨l1, l2, c1, ce, c2, F1, F3, F2, e1, e2, rfl, e4, h1, ⟨Ai, ci, rfl, h2⟩, _⟩ := CsA.split k3 (gi_get g)
  have e5 : (c1 ++ ([Value.slice Ai li.length ci] ++ c2))[Int.toNat x]? = some (.slice Ai li.length ci) := by
    rw [List.getElem?_append_right (by omega), show Int.toNat x - c1.length = 0 by omega]; rfl
  refine ⟨Ai, ci, e5, ?_, rowP.cap h2⟩
  have hlt := (List.getElem?_eq_some_iff.1 e5).1
  have := k2.cells (a := (⟨b, pre.length, none⟩ : Addr).add (x.toNat * 1)) (by rw [add_block]) (add_spot _ rfl) 1 0 (by rw [add_off]; simp only [List.length_append] at hlt ⊢; omega)
  rw [this, add_off]
  simp only [Nat.add_zero, Nat.mul_one]
  rw [List.append_assoc pre, ← List.drop_drop, List.drop_left, List.drop_append_of_le_length (by omega), List.drop_eq_getElem_cons hlt, List.cons_append, List.take_succ_cons, List.take_zero]
  congr 2
  rw [List.getElem?_eq_getElem hlt] at e5
  exact Option.some.inj e5
/-- A header again: as it was told. -/
theorem Hold.hcX (O : Hold W h0 m0 h m Rs) (k : Nat) (hk : Rs[k]? = some (rX (aRow a) A c ll hs S)) (ha : A = some aa) (hx : hs[i]? = some v) : cellsH h (Addr.add aa (i * 1)) 0 1 = some [v] := by
  obtain ⟨F, ⟨b, t, pre, rest, Fe, k0, k1, k2, k3, k4, _⟩, _⟩ := O.get k hk
  rw [ha] at k1; cases k1
  have hlt := (List.getElem?_eq_some_iff.1 hx).1
  have := k2.cells (a := (⟨b, pre.length, none⟩ : Addr).add (i * 1)) (by rw [add_block]) (add_spot _ rfl) 1 0 (by rw [add_off]; simp only [List.length_append] at hlt ⊢; omega)
  rw [this, add_off]
  simp only [Nat.add_zero, Nat.mul_one]
  rw [List.append_assoc pre, ← List.drop_drop, List.drop_left, List.drop_append_of_le_length (by omega), List.drop_eq_getElem_cons hlt, List.cons_append, List.take_succ_cons, List.take_zero]
  congr 2
  rw [List.getElem?_eq_getElem hlt] at hx
  exact Option.some.inj hx
/-- An element, taken out. -/
theorem Hold.takeX (O : Hold W h0 m0 h m Rs) (k : Nat) (hk : Rs[k]? = some (rX (aRow a) A c ll hs none)) (hx : hs[Int.toNat x]? = some (.slice Ai n ci)) (g : gi ll x = some li) : Hold W h0 m0 h m (Rs.set k (rX (aRow a) A c ll hs (some (Int.toNat x))) ++ [rR a Ai ci li]) := by
  refine O.cut k hk fun F hF => ?_
  obtain ⟨b, t, pre, rest, Fe, k0, k1, k2, k3, k4, k5, k6, k7, rfl⟩ := hF
  obtain ⟨l1, l2, c1, ce, c2, F1, F3, F2, e1, e2, rfl, e4, h1, ⟨A2, c2', rfl, h2⟩, h3, d1, d2, d3, rfl⟩ := CsA.split k3 (gi_get g)
  have e5 : (c1 ++ ([Value.slice A2 li.length c2'] ++ c2))[Int.toNat x]? = some (.slice A2 li.length c2') := by
    rw [List.getElem?_append_right (by omega), show Int.toNat x - c1.length = 0 by omega]; rfl
  rw [e5] at hx
  cases hx
  refine ⟨U (fb b) (U F1 F2), F3, ⟨b, t, pre, rest, U F1 F2, k0, k1, k2, ⟨l1, li, l2, c1, _, c2, F1, F2, e1, e2, rfl, e4, rfl, h1, h3, d2, rfl⟩, k4, k5, k6, fun hb => k7 (.inr hb), rfl⟩, h2, ?_, ?_⟩
  · exact Dj.u (fun i hi hf => by unfold fb at hi; subst hi; exact k7 (.inl hf)) (Dj.u d1 d3.symm)
  · rintro i ((hi | hi) | hi)
    · exact .inl hi
    · exact .inr (.inr hi)
    · exact .inr (.inl hi)
/-- It is put back, where its header lies. -/
theorem Hold.putX (O : Hold W h0 m0 h m Rs) (k j : Nat) (hk : Rs[k]? = some (rX (aRow a) A c ll hs (some i))) (hj : (Rs.set k rE)[j]? = some (rR a Ai ci li)) (hx : hs[i]? = some (.slice Ai n ci)) (hn : n = li.length) (e : ll.set i li = ll') : Hold W h0 m0 h m (((Rs.set k rE).set j rE).set k (rX (aRow a) A c ll' hs none)) := by
  subst e; subst hn
  refine O.fuse k j (R' := rX (aRow a) A c (ll.set i li) hs none) hk hj ?_
  rintro F1 F2 ⟨b, t, pre, rest, Fe, k0, k1, k2, ⟨l1, y', l2, c1, ce, c2, G1, G2, rfl, rfl, rfl, q4, q5, q6, q7, q8, rfl⟩, k4, k5, k6, k7, rfl⟩ h2 d
  have hce : ce = [.slice Ai li.length ci] := by
    rw [List.getElem?_append_right (by omega), show l1.length - c1.length = 0 by omega, List.getElem?_append_left (by omega)] at hx
    cases ce with
    | nil => cases q5
    | cons v ce => simp at hx q5; rw [hx, q5]
  subst hce
  have hl : (l1 ++ y' :: l2).set l1.length li = l1 ++ li :: l2 := by rw [List.set_append_right _ _ (Nat.le_refl _), Nat.sub_self, List.set_cons_zero]
  have hlen : (l1 ++ li :: l2).length = (l1 ++ y' :: l2).length := by simp
  rw [hl]
  refine ⟨U (fb b) (U F2 (U G1 G2)), ⟨b, t, pre, rest, _, k0, k1, k2, q6.join ⟨Ai, ci, rfl, h2⟩ q7 d.ur.ul q8 d.ur.ur.symm, by rw [hlen]; exact k4, by rw [hlen]; exact k5, k6, ?_, rfl⟩, ?_⟩
  · rintro (hf | hf)
    · exact d b (.inl rfl) hf
    · exact k7 hf
  · rintro i (hi | hi | hi)
    · exact .inl (.inl hi)
    · exact .inr hi
    · exact .inl (.inr hi)
/-- The header of the element that is taken out is written. -/
theorem Hold.hdSt (O : Hold W h0 m0 h m Rs) (k : Nat) (hk : Rs[k]? = some (rX (aRow a) A c ll hs (some i))) (ha : A = some aa) (hf : Flat v) (H : ∀ h', Hold W h0 m0 h' m (Rs.set k (rX (aRow a) A c ll (hs.set i v) (some i))) → K h') : ∃ h', st1 h (Addr.add aa (i * 1)) v = some h' ∧ K h' := by
  obtain ⟨F, h1, h2, h3⟩ := O.get k hk
  obtain ⟨b, t, pre, rest, Fe, k0, k1, k2, ⟨l1, y', l2, c1, ce, c2, G1, G2, e1, rfl, rfl, q4, q5, q6, q7, q8, rfl⟩, k4, k5, k6, k7, rfl⟩ := h1
  subst ha; cases k1
  have hb : Blk h b ((pre ++ c1) ++ ce ++ (c2 ++ rest)) t := by
    have : (pre ++ c1) ++ ce ++ (c2 ++ rest) = pre ++ (c1 ++ (ce ++ c2)) ++ rest := by simp only [List.append_assoc]
    rw [this]; exact k2
  obtain ⟨h', s1, b1, o1⟩ := Blk.stH [v] (a := Addr.add ⟨b, pre.length, none⟩ (l1.length * 1)) (i := 0) hb (by rw [add_block]) (add_spot _ rfl)
    (by rw [add_off]; simp only [List.length_append]; omega) (by rw [q5]; rfl) (Flats.cons hf Flats.nil)
  have s2 : st1 h (Addr.add ⟨b, pre.length, none⟩ (l1.length * 1)) v = some h' := by
    simp only [stH] at s1
    split at s1
    · rename_i h4 h5
      cases s1; exact h5
    · cases s1
  refine ⟨h', s2, H h' ?_⟩
  have S : St (fb b) h m h' m := .only O.s k6 o1
  have S2 : St (U (fb b) (U G1 G2)) h m h' m := ⟨S.up, S.s, S.size, fun i hi hn => S.fr i hi (fun h => hn (.inl h)), fun i hi hl => .inl hl⟩
  have hk0 : ∀ b', G1 b' ∨ G2 b' → h'[b']? = h[b']? := fun b' hb' => S.fr b' (hb'.elim (q6.lt b') (q7.lt b')) (fun e => by unfold fb at e; subst e; exact k7 hb')
  have hset : (c1 ++ (ce ++ c2)).set l1.length v = c1 ++ ([v] ++ c2) := by
    rw [List.set_append_right _ _ (by omega), show l1.length - c1.length = 0 by omega]
    cases ce with
    | nil => cases q5
    | cons w ce => simp at q5; subst q5; rfl
  rw [hset]
  refine h3 (R' := rX (aRow a) (some ⟨b, pre.length, none⟩) c ll (c1 ++ ([v] ++ c2)) (some l1.length)) S2 ⟨b, t, pre, rest, _, k0, rfl, ?_, ⟨l1, y', l2, c1, [v], c2, G1, G2, e1, rfl, rfl, q4, rfl, q6.fr (fun i hi => hk0 i (.inl hi)) (.refl _) (fun i hi => q6.nl i hi), q7.fr (fun i hi => hk0 i (.inr hi)) (.refl _) (fun i hi => q7.nl i hi), q8, rfl⟩, k4, k5, k6, k7, rfl⟩ (fun _ h => .inl h)
  have : pre ++ (c1 ++ ([v] ++ c2)) ++ rest = (pre ++ c1) ++ [v] ++ (c2 ++ rest) := by simp only [List.append_assoc]
  rw [this]; exact b1
theorem hx_len {hs : List Value} {i n k c : Nat} {A : Option Addr} (h : hs[i]? = some (.slice A n c)) (e : n = k) : hs[i]? = some (.slice A k c) := by subst e; exact h
theorem hs_set {hs : List Value} {i : Nat} {v w : Value} (h : hs[i]? = some w) : (hs.set i v)[i]? = some v := List.getElem?_set_self (List.getElem?_eq_some_iff.1 h).1
theorem hs_ne {hs : List Value} {i j : Nat} {v w : Value} (h : hs[j]? = some w) (hne : i ≠ j) : (hs.set i v)[j]? = some w := by rw [List.getElem?_set_ne hne]; exact h
theorem gi_ne {l l' : List α} {x j : Int} {y y' : α} (g : gi l j = some y) (e : l.set (Int.toNat x) y' = l') (hne : Int.toNat x ≠ Int.toNat j) : gi l' j = some y := by
  subst e
  unfold gi at g ⊢
  split at g
  · rename_i h; rw [if_pos h, List.getElem?_set_ne hne]; exact g
  · cases g
/-- An element whose own elements are settled, where it lies. -/
theorem Hold.xos (O : Hold W h0 m0 h m Rs) (k : Nat) (hk : Rs[k]? = some (rX (aRow (aE T)) A c ll hs none)) (hx : hs[Int.toNat x]? = some (.slice Ai n ci)) (g : gi ll x = some li) : OS W h0 sz E h m Ai li ci := by
  have O2 := O.takeX k hk hx g
  exact O2.os (T := T) Rs.length (by rw [List.getElem?_append_right (by simp)]; simp)
theorem Hold.setX (O : Hold W h0 m0 h m Rs) (k : Nat) (hk : Rs[k]? = some (rX (aRow (aE T)) A c ll hs none)) (hx : hs[Int.toNat x]? = some (.slice Ai n ci)) (hn : n = l'.length) (g : gi ll x = some li) (o : OS W h0 sz E h' m Ai l' ci) (S : St (fp Ai ci) h m h' m) (e : ll.set (Int.toNat x) l' = ll') : Hold W h0 m0 h' m (Rs.set k (rX (aRow (aE T)) A c ll' hs none)) := by
  have hlt : k < Rs.length := (List.getElem?_eq_some_iff.1 hk).1
  have O2 := O.takeX k hk hx g
  have O3 := O2.setR (T := T) (l := li) Rs.length (by rw [List.getElem?_append_right (by simp)]; simp) o S
  have e1 : (Rs.set k (rX (aRow (aE T)) A c ll hs (some (Int.toNat x))) ++ [rR (aE T) Ai ci li]).set Rs.length (rR (aE T) Ai ci l') = Rs.set k (rX (aRow (aE T)) A c ll hs (some (Int.toNat x))) ++ [rR (aE T) Ai ci l'] := by
    rw [List.set_append_right _ _ (by simp)]; simp
  rw [e1] at O3
  have O4 := O3.putX k Rs.length (by rw [List.getElem?_append_left (by simpa using hlt), List.getElem?_set_self hlt]) (by
    rw [List.set_append_left _ _ (by simpa using hlt), List.getElem?_append_right (by simp)]; simp) hx hn e
  have e2 : (((Rs.set k (rX (aRow (aE T)) A c ll hs (some (Int.toNat x))) ++ [rR (aE T) Ai ci l']).set k rE).set Rs.length rE).set k (rX (aRow (aE T)) A c ll' hs none) = Rs.set k (rX (aRow (aE T)) A c ll' hs none) ++ [rE] := by
    rw [List.set_append_left _ _ (by simpa using hlt), List.set_append_right _ _ (by simp), List.set_append_left _ _ (by simpa using hlt)]; simp
  rw [e2] at O4
  obtain ⟨S', F, k1, k2⟩ := O4
  have key : ∀ {Rs : List Res} {F : Foot}, Sep (Rs ++ [rE]) h' m F → Sep Rs h' m F := by
    intro Rs
    induction Rs with
    | nil => rintro F ⟨F1, F2, q1, q2, _, q4⟩; rw [q4, show F1 = No from q1, show F2 = No from q2, U.no_left]; rfl
    | cons R Rs ih => rintro F ⟨F1, F2, q1, q2, q3, q4⟩; exact ⟨F1, F2, q1, ih q2, q3, q4⟩
  exact ⟨S', F, key k1, k2⟩
/-- Into an element of an element. -/
theorem Hold.xst {y y' : α} {xj : Int} {cs : List Value} (O : Hold W h0 m0 h m Rs) (k : Nat) (hk : Rs[k]? = some (rX (aRow (aE T)) A c ll hs none)) (hx : hs[Int.toNat x]? = some (.slice Ai n ci)) (hn : n = li.length) (g : gi ll x = some li) (gj : gi li xj = some y) (ha : Ai = some aa) (hc : cellsH h (Addr.add aa (Int.toNat xj * sz)) 0 sz = some cs) (hj : 0 < sz) (hy : E m y' (cs.set 0 v)) (hf : Flat v) (e : li.set (Int.toNat xj) y' = l') (e2 : ll.set (Int.toNat x) l' = ll')
    (H : ∀ h', Hold W h0 m0 h' m (Rs.set k (rX (aRow (aE T)) A c ll' hs none)) → K h') : ∃ h', st1 h (Addr.add aa (Int.toNat xj * sz)) v = some h' ∧ K h' := by
  obtain ⟨h', h1, h2, h3⟩ := (O.xos k hk hx g).st10 T O.s gj ha hc hj hy hf
  rw [e] at h2
  exact ⟨h', h1, H h' (O.setX k hk hx (by rw [hn, ← e, List.length_set]) g h2 h3 e2)⟩
end
end Go.Hw
