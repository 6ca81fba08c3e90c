/- Small words for the printed walks over 'Hold'. -/
import Derived.Test.YtklobcelbpjjcacHwOb
set_option linter.unusedVariables false
namespace Go.Hw
open Go
section
variable {m h : Heap} {a : Addr} {cs ds : List Value} {N n k j : Nat} {v : Value}
theorem ldAn (s : Sub m h) (hc : cellsH m a 0 N = some cs) (hn : N = n) : ldv true n h a = some (.agg cs.toArray) := by subst hn; exact ldA s hc
theorem ldAkn (s : Sub m h) (hc : cellsH m a 0 N = some cs) (k j : Nat) (hk : k + j ≤ N) : ldv true j h (Addr.add a k) = some (.agg ((cs.drop k).take j).toArray) := ldAk s hc hk
theorem ldA0n (s : Sub m h) (hc : cellsH m a 0 N = some cs) (j : Nat) (hk : 0 + j ≤ N) : ldv true j h a = some (.agg ((cs.drop 0).take j).toArray) := ldAk (k := 0) s hc hk
theorem fld1 (hq : cs[k]? = some v) : fldv false 1 k (.agg cs.toArray) = some v := by simpa [fldv] using hq
theorem fldA : fldv true n k (.agg cs.toArray) = some (.agg ((cs.drop k).take n).toArray) := by
  simp only [fldv]
  congr 2
  apply Array.ext'
  simp only [Array.toList_extract, List.extract_eq_take_drop]
  congr 1
  omega
theorem lset {α : Type} {l : List α} {i : Nat} {y : α} : l.length = (l.set i y).length := (List.length_set ..).symm
theorem lset' {α : Type} {l l' : List α} {i : Nat} {y : α} (g : l.set i y = l') : l.length = l'.length := by rw [← g, List.length_set]
theorem gi_ltl {α : Type} {l : List α} {x : Int} {y : α} (g : gi l x = some y) (hn : n = l.length) : x < ((n : Nat) : Int) := by subst hn; exact gi_lt g
theorem gi_set_self {α : Type} {l : List α} {x : Int} {y : α} (g : gi l x = some y) : l.set (Int.toNat x) y = l := by
  obtain ⟨h1, h2⟩ := List.getElem?_eq_some_iff.1 (gi_get g)
  rw [← h2, List.set_getElem_self]
end
section
variable {α : Type} {sz : Nat} {a : Asn α sz} {h h' h0 m m' m0 : Heap} {A Ai : Option Addr} {c ci n k : Nat} {l li : List α} {ll ll' : List (List α)} {W : Foot} {x : Int} {y : α} {v : Value} {cs : List Value} {Rs Rs' : List Res} {b : Nat} {t : TypeId} {aa : Addr} {K : Heap → Prop}
variable {E : Heap → α → List Value → Prop} {T : Tell sz E}
theorem Hold.ret (O : Hold W h0 m0 h m Rs) (Q : Hold No h m h' m' Rs') : Hold W h0 m0 h' m' (Rs ++ Rs') := by
  obtain ⟨W', h1, h2⟩ := O.call []
  simp only [dropL, takeL] at h1 h2
  exact h2 ⟨⟨Q.S.up, Q.S.s, Q.S.size, fun b hb _ => Q.S.fr b hb (fun h => h), fun b hb hl => (Q.S.lv b hb hl).elim .inl (fun h => h.elim)⟩, by
    obtain ⟨F, k1, k2⟩ := Q.q
    exact ⟨F, k1, fun b hb => (k2 b hb).elim .inl (fun h => h.elim)⟩⟩
theorem Hold.noW {W' : Foot} (Q : Hold No h m h' m' Rs') : Hold W' h m h' m' Rs' :=
  ⟨⟨Q.S.up, Q.S.s, Q.S.size, fun b hb _ => Q.S.fr b hb (fun h => h), fun b hb hl => (Q.S.lv b hb hl).elim .inl (fun h => h.elim)⟩, by
    obtain ⟨F, k1, k2⟩ := Q.q
    exact ⟨F, k1, fun b hb => (k2 b hb).elim .inl (fun h => h.elim)⟩⟩
theorem vfs_nil : ∀ R ∈ ([] : List Res), R.vf := fun _ h => by cases h
theorem vfs_cons {R : Res} (v : R.vf) (w : ∀ R ∈ Rs, R.vf) : ∀ R' ∈ R :: Rs, R'.vf := fun R' h => by
  rcases List.mem_cons.1 h with rfl | h
  · exact v
  · exact w R' h
/-- What comes back does not look at the view: the view stays. -/
theorem Hold.retC (O : Hold W h0 m0 h m Rs) (Q : Hold No h m h' m' Rs') (v : ∀ R ∈ Rs', R.vf) : Hold W h0 m0 h' m (Rs ++ Rs') := by
  obtain ⟨m1, W', h1, h2, _, _, h5⟩ := O.lend [] []
  have s1 : Hold No h m h' m Rs' := by
    refine ⟨Q.S.unlend O.s (fun _ h => h.elim), ?_⟩
    obtain ⟨F, k1, k2⟩ := Q.q
    have T := Q.S.unlend O.s (fun _ h => h.elim)
    exact ⟨F, k1.vf v T.s (fun b hb hl => (k2 b hb).elim (fun h => by have := O.s.lt hl; omega) (fun h => h.elim)), k2⟩
  exact O.ret s1
/-- Some pieces are lent, none handed on. -/
theorem Hold.lend0 (O : Hold W h0 m0 h m Rs) (ls : List Nat) : ∃ m1, Sub m m1 ∧ Sub m1 h ∧ ZAll m1 (takeL Rs ls) ∧
    (∀ {h' m' : Heap} {Rs' : List Res}, Hold No h m1 h' m' Rs' → Hold W h0 m0 h' m' (dropL Rs ls ++ Rs')) ∧
    (∀ {h' m' : Heap} {Rs' : List Res}, Hold No h m1 h' m' Rs' → (∀ R ∈ Rs', R.vf) → Hold W h0 m0 h' m (Rs ++ Rs')) := by
  obtain ⟨m1, W', h1, h2, h3, h4, h5⟩ := O.lend [] ls
  simp only [dropL, takeL] at h2 h3 h4 h5
  have up : ∀ {h' m' : Heap} {Rs' : List Res}, Hold No h m1 h' m' Rs' → Hold W' h m1 h' m' Rs' := fun Q =>
    ⟨⟨Q.S.up, Q.S.s, Q.S.size, fun b hb _ => Q.S.fr b hb (fun h => h), fun b hb hl => (Q.S.lv b hb hl).elim .inl (fun h => h.elim)⟩, by
      obtain ⟨F, k1, k2⟩ := Q.q
      exact ⟨F, k1, fun b hb => (k2 b hb).elim .inl (fun h => h.elim)⟩⟩
  exact ⟨m1, h1, h2.s, h3, fun Q => h4 (up Q), fun Q v => h5 (up Q) v⟩
/-- Written, and told anew: new cells with a name of their own. -/
theorem Hold.stE {β : Type} {D : Heap → β → List Value → Prop} {z : β} (O : Hold W h0 m0 h m Rs) (k : Nat) (hk : Rs[k]? = some (rV b t cs)) (j : Nat) (hj : j < cs.length) (hf : Flat v) (e : D m z (cs.set j v)) (H : ∀ h' cs', D m z cs' → Hold W h0 m0 h' m (Rs.set k (rV b t cs')) → K h') : ∃ h', st1 h (Addr.add ⟨b, 0, none⟩ j) v = some h' ∧ K h' :=
  O.st k hk j hj hf fun h' O' => H h' _ e O'
theorem Hold.stE0 {β : Type} {D : Heap → β → List Value → Prop} {z : β} (O : Hold W h0 m0 h m Rs) (k : Nat) (hk : Rs[k]? = some (rV b t cs)) (hj : 0 < cs.length) (hf : Flat v) (e : D m z (cs.set 0 v)) (H : ∀ h' cs', D m z cs' → Hold W h0 m0 h' m (Rs.set k (rV b t cs')) → K h') : ∃ h', st1 h ⟨b, 0, none⟩ v = some h' ∧ K h' :=
  O.st0 k hk hj hf fun h' O' => H h' _ e O'
theorem Hold.stPE {β : Type} {D : Heap → β → List Value → Prop} {z : β} (O : Hold W h0 m0 h m Rs) (k : Nat) (hk : Rs[k]? = some (rV b t cs)) (j : Nat) {ds : List Value} (hn : j + ds.length ≤ cs.length) (hf : ∀ v ∈ ds, Flat v) (e : D m z (cs.take j ++ ds ++ cs.drop (j + ds.length))) (H : ∀ h' cs', D m z cs' → Hold W h0 m0 h' m (Rs.set k (rV b t cs')) → K h') : ∃ h', stH h (Addr.add ⟨b, 0, none⟩ j) ds 0 = some h' ∧ K h' :=
  O.stP k hk j hn hf fun h' O' => H h' _ e O'
theorem Hold.stPE0 {β : Type} {D : Heap → β → List Value → Prop} {z : β} (O : Hold W h0 m0 h m Rs) (k : Nat) (hk : Rs[k]? = some (rV b t cs)) {ds : List Value} (hn : 0 + ds.length ≤ cs.length) (hf : ∀ v ∈ ds, Flat v) (e : D m z (cs.take 0 ++ ds ++ cs.drop (0 + ds.length))) (H : ∀ h' cs', D m z cs' → Hold W h0 m0 h' m (Rs.set k (rV b t cs')) → K h') : ∃ h', stH h ⟨b, 0, none⟩ ds 0 = some h' ∧ K h' :=
  O.stP0 k hk hn hf fun h' O' => H h' _ e O'
theorem Hold.stAE {β : Type} {D : Heap → β → List Value → Prop} {z : β} (O : Hold W h0 m0 h m Rs) (k : Nat) (hk : Rs[k]? = some (rV b t cs)) {ds : List Value} (hn : ds.length = cs.length) (hf : ∀ v ∈ ds, Flat v) (e : D m z ds) (H : ∀ h' cs', D m z cs' → Hold W h0 m0 h' m (Rs.set k (rV b t cs')) → K h') : ∃ h', stH h ⟨b, 0, none⟩ ds 0 = some h' ∧ K h' :=
  O.stA k hk hn hf fun h' O' => H h' _ e O'
theorem Hold.recell (O : Hold W h0 m0 h m Rs) (k : Nat) (hk : Rs[k]? = some (rV b t cs)) {cs' : List Value} (e : cs = cs') : Hold W h0 m0 h m (Rs.set k (rV b t cs')) := by
  subst e
  exact O.conv k hk (R' := rV b t cs) fun F hF => ⟨F, hF, fun _ h => h⟩
theorem nn_len {n : Nat} (h : cs.length = n + 1) : cs ≠ [] := fun e => by subst e; cases h
theorem ptr_in {K : Addr → Prop} (ha : A = some aa) (k : K aa) : ptrOk A K := by subst ha; exact k
theorem Hold.appF {e : TypeId} {bytes : Nat} {z : Array Value} {X : Value} {xs l' : List α} {K : Value → Heap → Prop} (O : Hold W h0 m0 h m Rs) (r : Rd sz E m A l) (T : Tell sz E) (hn : n = l.length) (hc : c = l.length) (hx : xs ≠ []) (hz : z.size = sz) (hs : Src sz E h m X xs) (hb0 : 0 < bytes) (g : ap bytes l xs = some l')
    (H : ∀ A' c' h', Ext h h' → Hold W h0 m0 h' m (Rs ++ [rR (aE T) A' c' l']) → K (.slice A' l'.length c') h') : AppW e sz bytes z A n c X h K :=
  r.app T O.S hn hc hx hz hs hb0 g fun A' c' h' o x f => H A' c' h' x (O.add (R := rR (aE T) A' c' l') (St.of_ext O.s x) o.rowP f)
/-! ### Elements that own something -/
theorem Hold.adr {K : Addr → Prop} (O : Hold W h0 m0 h m Rs) (k : Nat) (hk : Rs[k]? = some (rR a A c l)) (hn : n = l.length) (g : gi l x = some y) (H : ∀ aa, A = some aa → K aa) : ptrOk A fun a => 0 ≤ x ∧ x < ((n : Nat) : Int) ∧ K a := by
  obtain ⟨F, h1, _⟩ := O.get k hk
  have g1 := gi_get g
  rcases h1 with ⟨rfl, _⟩ | ⟨b, t, pre, cs, rest, Fe, k0, rfl, _⟩
  · cases g1
  · exact ⟨gi_le g, gi_ltl g hn, H _ rfl⟩
theorem Hold.holeR (O : Hold W h0 m0 h m Rs) (k : Nat) (hk : Rs[k]? = some (rR (aRow a) A c ll)) (ha : A = some aa) (g : gi ll x = some li) : ∃ Ai ci, cellsH h (Addr.add aa (Int.toNat x * 1)) 0 1 = some [.slice Ai li.length ci] ∧ Hold W h0 m0 h m (Rs.set k (rH (aRow a) A c ll (Int.toNat x) [.slice Ai li.length ci]) ++ [rR a Ai ci li]) := by
  subst ha
  obtain ⟨a', ce, e1, e2, O2⟩ := O.hole k hk g
  cases e1
  obtain ⟨Ai, ci, e3, O3⟩ := O2.openR Rs.length (a := a) (l := li) (cs := ce) (by rw [List.getElem?_append_right (by simp)]; simp)
  subst e3
  refine ⟨Ai, ci, e2, ?_⟩
  rw [List.set_append_right _ _ (by simp)] at O3
  simpa using O3
theorem Hold.fillR {i : Nat} (O : Hold W h0 m0 h m Rs) (k j : Nat) (hk : Rs[k]? = some (rH (aRow a) A c ll i [.slice Ai n ci])) (hj : (Rs.set k rE)[j]? = some (rR a Ai ci li)) (hn : n = li.length) (e : ll.set i li = ll') : Hold W h0 m0 h m (((Rs.set k rE).set j rE).set k (rR (aRow a) A c ll')) := by
  subst hn
  exact O.fillG k j hk hj (fun F hF => ⟨Ai, ci, rfl, hF⟩) e
theorem Hold.holeCell {i : Nat} {ce : List Value} (O : Hold W h0 m0 h m Rs) (k : Nat) (hk : Rs[k]? = some (rH a A c l i ce)) (ha : A = some aa) : cellsH h (Addr.add aa (i * sz)) 0 sz = some ce := by
  obtain ⟨F, h1, _⟩ := O.get k hk
  obtain ⟨b, t, pre, c1, c2, rest, l1, y, l2, F1, F2, k1, k2, k3, k4, k5, k5', _⟩ := h1
  rw [ha] at k1; cases k1
  have := k2.cells (a := (⟨b, pre.length, none⟩ : Addr).add (i * sz)) (by rw [add_block]) (add_spot _ rfl) sz 0 (by rw [add_off]; simp only [List.length_append]; omega)
  rw [this, add_off]
  simp only [Nat.add_zero]
  rw [show pre ++ (c1 ++ (ce ++ c2)) ++ rest = (pre ++ c1) ++ (ce ++ (c2 ++ rest)) by simp only [List.append_assoc], ← k5', show pre.length + c1.length = (pre ++ c1).length by rw [List.length_append], List.drop_left, ← k5, List.take_left]
/-- What is appended is one variable's cells. -/
theorem srcV {e : TypeId} (O : Hold W h0 m0 h m Rs) (k : Nat) (hk : Rs[k]? = some (rV b e cs)) (hn : cs.length = sz) : srcCells sz (.slice (some ⟨b, 0, none⟩) 1 c) h = some (1, cs) := by
  have := O.all k hk
  subst hn
  simp only [srcCells, Nat.one_mul, this, Option.map_some]
theorem Hold.appR {e : TypeId} {bytes : Nat} {z : Array Value} {K : Value → Heap → Prop} (O : Hold W h0 m0 h m Rs) (k j : Nat) (hk : Rs[k]? = some (rR (aRow a) A c ll)) (hj : (Rs.set k rE)[j]? = some (rR a Ai ci li)) {X : Value} (hn : n = ll.length) (hz : z.size = 1) (hs : srcCells 1 X h = some (1, [.slice Ai li.length ci])) (hb0 : 0 < bytes) (g : ap bytes ll [li] = some ll')
    (H : ∀ A' c' h', Hold W h0 m0 h' m (((Rs.set k rE).set j rE).set k (rR (aRow a) A' c' ll')) → K (.slice A' ll'.length c') h') : AppW e 1 bytes z A n c X h K :=
  O.appA k j hk hj (fun F hF => ⟨Ai, ci, rfl, hF⟩) hn hz hs hb0 g H
end

/-! ### Maps -/
section
variable {κ ν : Type} [DecidableEq κ] {h h' m m' h0 m0 : Heap} {b k : Nat} {W : Foot} {kv : κ → Value} {es : List (κ × ν)} {q : κ} {x zv : ν} {v z : Value} {P : Program} {t elem : TypeId} {EV : Heap → ν → Value → Prop} {M : MonoV EV} {Rs : List Res}
/-- A map that is settled. -/
def FM (EV : Heap → ν → Value → Prop) (kv : κ → Value) (m : Heap) (b : Nat) (es : List (κ × ν)) : Prop := ∃ vs, MapB kv m b vs ∧ MR (EV m) es vs
omit [DecidableEq κ] in
theorem MapB.sub {vs : List (κ × Value)} (hb : MapB kv m b vs) (s : Sub m h) : MapB kv h b vs := by
  obtain ⟨e, c, h1, h2⟩ := hb
  exact ⟨e, c, s _ _ h1 (fun hd => by unfold dead at hd; cases hd), h2⟩
omit [DecidableEq κ] in
theorem FM.sub (M : MonoV EV) (f : FM EV kv m b es) (s : Sub m h) : FM EV kv h b es := let ⟨vs, h1, h2⟩ := f; ⟨vs, h1.sub s, h2.sub M s⟩
def rM (M : MonoV EV) (kv : κ → Value) (b : Nat) (es : List (κ × ν)) : Res where
  p h m F := (∃ vs, MapB kv h b vs ∧ MR (EV m) es vs) ∧ ¬ Live m b ∧ F = fb b
  z m := FM EV kv m b es
  lt := by rintro h m F ⟨⟨vs, h1, _⟩, _, rfl⟩ i hi; unfold fb at hi; subst hi; exact h1.lt
  nl := by rintro h m F ⟨_, h2, rfl⟩ i hi; unfold fb at hi; subst hi; exact h2
  fr := by
    rintro h m F h' m' ⟨⟨vs, ⟨e, c, h1, h1'⟩, h2⟩, h3, rfl⟩ k1 k2 k3
    exact ⟨⟨vs, ⟨e, c, by rw [k1 b rfl]; exact h1, h1'⟩, h2.sub M k2⟩, k3 b rfl, rfl⟩
  fz := by
    rintro h m F G ⟨⟨vs, h1, h2⟩, h3, rfl⟩ k1 k2
    have hlt := h1.lt
    obtain ⟨e, c, h1, h1'⟩ := h1
    exact ⟨vs, ⟨e, c, by rw [addV_get hlt (.inr (k2 b rfl))]; exact h1, h1'⟩, h2.sub M (addV_up k1)⟩
omit [DecidableEq κ] in
theorem Hold.om (O : Hold W h0 m0 h m Rs) (k : Nat) (hk : Rs[k]? = some (rM M kv b es)) : OM W h0 EV kv h m b es := by
  obtain ⟨F, ⟨⟨vs, h1, h2⟩, h3, rfl⟩, h4, _⟩ := O.get k hk
  exact ⟨vs, h1, h2, h4 b rfl, h3⟩
omit [DecidableEq κ] in
theorem Hold.mkMap {K : Value → Heap → Prop} (O : Hold W h0 m0 h m Rs) (M : MonoV EV) (kv : κ → Value) (H : ∀ h', Ext h h' → Hold W h0 m0 h' m (Rs ++ [rM M kv h.size ([] : List (κ × ν))]) → K (.map (some h.size)) h') : Gen P (Instr.makeMap t none) h K :=
  gen_makeMap (kv := kv) fun h' b e _ => H h' e (O.add (R := rM M kv h.size ([] : List (κ × ν))) (St.of_ext O.s e) ⟨⟨[], b, rfl⟩, St.notLive O.s, rfl⟩ (fun i hi => by unfold fb at hi; omega))
theorem Hold.mapUpd {K : Unit → Heap → Prop} {es' : List (κ × ν)} (O : Hold W h0 m0 h m Rs) (k : Nat) (hk : Rs[k]? = some (rM M kv b es)) (ok : KeyOk P t kv elem) (q : κ) (he : EV m x v) (e : pset es q x = es') (H : ∀ h', Hold W h0 m0 h' m (Rs.set k (rM M kv b es')) → K () h') : Hwp P (Instr.mapUpdate t (.map (some b)) (kv q) v) h K := by
  subst e
  refine (O.om k hk).upd O.s ok q he fun h' o S => H h' ?_
  obtain ⟨F, ⟨_, h3, rfl⟩, h4, h5⟩ := O.get k hk
  obtain ⟨vs, k1, k2, _, k4⟩ := o
  exact h5 (R' := rM M kv b _) S ⟨⟨vs, k1, k2⟩, k4, rfl⟩ (fun _ h => .inl h)
theorem FM.look {K : Value → Heap → Prop} (f : FM EV kv m b es) (s : Sub m h) (ok : KeyOk P t kv elem) (q : κ) (hz : zeroOf P elem = some z) (hE : EV m zv z) (hk : ∀ v, EV m (pgd es q zv) v → K v h) : Gen P (Instr.lookup t (.map (some b)) (kv q) false) h K := by
  obtain ⟨vs, h1, h2⟩ := f
  exact gen_lookup ok (h1.sub s) q hz (hk _ ((h2.get q).2 _ _ hE))
theorem FM.look2 {K : Value → Heap → Prop} (f : FM EV kv m b es) (s : Sub m h) (ok : KeyOk P t kv elem) (q : κ) (hz : zeroOf P elem = some z) (hE : EV m zv z) (hk : ∀ v, EV m (pgd es q zv) v → K (.tuple #[v, .bool (pget es q).isSome]) h) : Gen P (Instr.lookup t (.map (some b)) (kv q) true) h K := by
  obtain ⟨vs, h1, h2⟩ := f
  refine gen_lookup2 ok (h1.sub s) q hz ?_
  rw [(h2.get q).1]
  exact hk _ ((h2.get q).2 _ _ hE)
end
end Go.Hw
namespace Go.Hw
theorem lt_len {α : Type} {l : List α} {n k : Nat} (h : l.length = n) (hk : k < n) : k < l.length := by omega
theorem le_len {α : Type} {l : List α} {n k j : Nat} (h : l.length = n) (hk : k + j ≤ n) : k + j ≤ l.length := by omega
theorem le_len2 {α β : Type} {l : List α} {d : List β} {n k j : Nat} (h : l.length = n) (h2 : d.length = k) (hk : j + k ≤ n) : j + d.length ≤ l.length := by omega
end Go.Hw
namespace Go.Hw
open Go
/-! ### Lists of pieces, as they are -/
class SetAt (k : Nat) (L : List Res) (r : Res) (out : outParam (List Res)) : Prop where
  eq : L.set k r = out
instance {a r : Res} {l : List Res} : SetAt 0 (a :: l) r (r :: l) := ⟨rfl⟩
instance {k : Nat} {a r : Res} {l o : List Res} [S : SetAt k l r o] : SetAt (k + 1) (a :: l) r (a :: o) := ⟨by rw [List.set_cons_succ, S.eq]⟩
class GetAt (k : Nat) (L : List Res) (r : outParam Res) : Prop where
  eq : L[k]? = some r
instance {a : Res} {l : List Res} : GetAt 0 (a :: l) a := ⟨rfl⟩
instance {k : Nat} {a r : Res} {l : List Res} [S : GetAt k l r] : GetAt (k + 1) (a :: l) r := ⟨by rw [List.getElem?_cons_succ, S.eq]⟩
class Apd (L M : List Res) (out : outParam (List Res)) : Prop where
  eq : L ++ M = out
instance {M : List Res} : Apd [] M M := ⟨rfl⟩
instance {a : Res} {l M o : List Res} [S : Apd l M o] : Apd (a :: l) M (a :: o) := ⟨by rw [List.cons_append, S.eq]⟩
class PickT (L : List Res) (is : List Nat) (T D : outParam (List Res)) : Prop where
  t : takeL L is = T
  d : dropL L is = D
instance {L : List Res} : PickT L [] [] L := ⟨rfl, rfl⟩
instance {L L2 T D : List Res} {i : Nat} {is : List Nat} {r : Res} [G : GetAt i L r] [S : SetAt i L rE L2] [P : PickT L2 is T D] : PickT L (i :: is) (r :: T) D := ⟨by simp only [takeL, G.eq, S.eq, P.t], by simp only [dropL, S.eq, P.d]⟩
class Nm (L : List Res) (out : outParam (List Res)) : Prop where
  eq : L = out
instance : Nm [] [] := ⟨rfl⟩
instance {a : Res} {l : List Res} : Nm (a :: l) (a :: l) := ⟨rfl⟩
instance {L L' o : List Res} {k : Nat} {r : Res} [N : Nm L L'] [S : SetAt k L' r o] : Nm (L.set k r) o := ⟨by rw [N.eq, S.eq]⟩
instance {L L' M M' o : List Res} [N : Nm L L'] [N' : Nm M M'] [S : Apd L' M' o] : Nm (L ++ M) o := ⟨by rw [N.eq, N'.eq, S.eq]⟩
instance {L L' T D : List Res} {is : List Nat} [N : Nm L L'] [S : PickT L' is T D] : Nm (takeL L is) T := ⟨by rw [N.eq, S.t]⟩
instance {L L' T D : List Res} {is : List Nat} [N : Nm L L'] [S : PickT L' is T D] : Nm (dropL L is) D := ⟨by rw [N.eq, S.d]⟩
theorem Hold.nm {W : Foot} {h0 m0 h m : Heap} {Rs Rs' : List Res} (O : Hold W h0 m0 h m Rs) [N : Nm Rs Rs'] : Hold W h0 m0 h m Rs' := N.eq ▸ O
end Go.Hw
