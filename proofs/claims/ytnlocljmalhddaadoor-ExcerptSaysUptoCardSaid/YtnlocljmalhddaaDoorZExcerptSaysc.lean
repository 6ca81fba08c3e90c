/- Part 3: what the law ExcerptSays needs, put together out of texts of this session. -/
import Derived.Lib.LaidTab
import Derived.Lib.ItoaNum
import Derived.Sort.Grow
import Derived.Deep.Draws
import Derived.Shelf.Bodies
import Derived.Shelf.LaysM
import Derived.Shelf.Strconv.Itoa3
import Derived.Test.YtnlocljmalhddaaDoorProg
import Derived.Test.YtnlocljmalhddaaDoorZExcerptSaysb
section
set_option linter.unusedVariables false
namespace Go.Hw
open Go
section
variable {m h : Heap} {a : Addr} {cs ds : List Value} {N n k j : Nat} {v : Value}
theorem ldAn (s : Sub m h) (hc : cellsH m a 0 N = some cs) (hn : N = n) : ldv true n h a = some (.agg cs.toArray) := by subst hn; exact ldA s hc
theorem ldAkn (s : Sub m h) (hc : cellsH m a 0 N = some cs) (k j : Nat) (hk : k + j ≤ N) : ldv true j h (Addr.add a k) = some (.agg ((cs.drop k).take j).toArray) := ldAk s hc hk
theorem ldA0n (s : Sub m h) (hc : cellsH m a 0 N = some cs) (j : Nat) (hk : 0 + j ≤ N) : ldv true j h a = some (.agg ((cs.drop 0).take j).toArray) := ldAk (k := 0) s hc hk
end
section
variable {α : Type} {sz : Nat} {a : Asn α sz} {h h' h0 m m' m0 : Heap} {A Ai : Option Addr} {c ci n k : Nat} {l li : List α} {ll ll' : List (List α)} {W : Foot} {x : Int} {y : α} {v : Value} {cs : List Value} {Rs Rs' : List Res} {b : Nat} {t : TypeId} {aa : Addr} {K : Heap → Prop}
variable {E : Heap → α → List Value → Prop} {T : Tell sz E}
theorem Hold.ret (O : Hold W h0 m0 h m Rs) (Q : Hold No h m h' m' Rs') : Hold W h0 m0 h' m' (Rs ++ Rs') := by
  obtain ⟨W', h1, h2⟩ := O.call []
  simp only [dropL, takeL] at h1 h2
  exact h2 ⟨⟨Q.S.up, Q.S.s, Q.S.size, fun b hb _ => Q.S.fr b hb (fun h => h), fun b hb hl => (Q.S.lv b hb hl).elim .inl (fun h => h.elim)⟩, by
    obtain ⟨F, k1, k2⟩ := Q.q
    exact ⟨F, k1, fun b hb => (k2 b hb).elim .inl (fun h => h.elim)⟩⟩
theorem vfs_nil : ∀ R ∈ ([] : List Res), R.vf := fun _ h => by cases h
theorem vfs_cons {R : Res} (v : R.vf) (w : ∀ R ∈ Rs, R.vf) : ∀ R' ∈ R :: Rs, R'.vf := fun R' h => by
  rcases List.mem_cons.1 h with rfl | h
  · exact v
  · exact w R' h
theorem Hold.retC (O : Hold W h0 m0 h m Rs) (Q : Hold No h m h' m' Rs') (v : ∀ R ∈ Rs', R.vf) : Hold W h0 m0 h' m (Rs ++ Rs') := by
  obtain ⟨m1, W', h1, h2, _, _, h5⟩ := O.lend [] []
  have s1 : Hold No h m h' m Rs' := by
    refine ⟨Q.S.unlend O.s (fun _ h => h.elim), ?_⟩
    obtain ⟨F, k1, k2⟩ := Q.q
    have T := Q.S.unlend O.s (fun _ h => h.elim)
    exact ⟨F, k1.vf v T.s (fun b hb hl => (k2 b hb).elim (fun h => by have := O.s.lt hl; omega) (fun h => h.elim)), k2⟩
  exact O.ret s1
theorem Hold.lend0 (O : Hold W h0 m0 h m Rs) (ls : List Nat) : ∃ m1, Sub m m1 ∧ Sub m1 h ∧ ZAll m1 (takeL Rs ls) ∧
    (∀ {h' m' : Heap} {Rs' : List Res}, Hold No h m1 h' m' Rs' → Hold W h0 m0 h' m' (dropL Rs ls ++ Rs')) ∧
    (∀ {h' m' : Heap} {Rs' : List Res}, Hold No h m1 h' m' Rs' → (∀ R ∈ Rs', R.vf) → Hold W h0 m0 h' m (Rs ++ Rs')) := by
  obtain ⟨m1, W', h1, h2, h3, h4, h5⟩ := O.lend [] ls
  simp only [dropL, takeL] at h2 h3 h4 h5
  have up : ∀ {h' m' : Heap} {Rs' : List Res}, Hold No h m1 h' m' Rs' → Hold W' h m1 h' m' Rs' := fun Q =>
    ⟨⟨Q.S.up, Q.S.s, Q.S.size, fun b hb _ => Q.S.fr b hb (fun h => h), fun b hb hl => (Q.S.lv b hb hl).elim .inl (fun h => h.elim)⟩, by
      obtain ⟨F, k1, k2⟩ := Q.q
      exact ⟨F, k1, fun b hb => (k2 b hb).elim .inl (fun h => h.elim)⟩⟩
  exact ⟨m1, h1, h2.s, h3, fun Q => h4 (up Q), fun Q v => h5 (up Q) v⟩
theorem Hold.stE {β : Type} {D : Heap → β → List Value → Prop} {z : β} (O : Hold W h0 m0 h m Rs) (k : Nat) (hk : Rs[k]? = some (rV b t cs)) (j : Nat) (hj : j < cs.length) (hf : Flat v) (e : D m z (cs.set j v)) (H : ∀ h' cs', D m z cs' → Hold W h0 m0 h' m (Rs.set k (rV b t cs')) → K h') : ∃ h', st1 h (Addr.add ⟨b, 0, none⟩ j) v = some h' ∧ K h' :=
  O.st k hk j hj hf fun h' O' => H h' _ e O'
theorem Hold.recell (O : Hold W h0 m0 h m Rs) (k : Nat) (hk : Rs[k]? = some (rV b t cs)) {cs' : List Value} (e : cs = cs') : Hold W h0 m0 h m (Rs.set k (rV b t cs')) := by
  subst e
  exact O.conv k hk (R' := rV b t cs) fun F hF => ⟨F, hF, fun _ h => h⟩
end
section
variable {κ ν : Type} [DecidableEq κ] {h h' m m' h0 m0 : Heap} {b k : Nat} {W : Foot} {kv : κ → Value} {es : List (κ × ν)} {q : κ} {x zv : ν} {v z : Value} {P : Program} {t elem : TypeId} {EV : Heap → ν → Value → Prop} {M : MonoV EV} {Rs : List Res}
def FM (EV : Heap → ν → Value → Prop) (kv : κ → Value) (m : Heap) (b : Nat) (es : List (κ × ν)) : Prop := ∃ vs, MapB kv m b vs ∧ MR (EV m) es vs
end
end Go.Hw
namespace Go.Hw
theorem lt_len {α : Type} {l : List α} {n k : Nat} (h : l.length = n) (hk : k < n) : k < l.length := by omega
theorem le_len {α : Type} {l : List α} {n k j : Nat} (h : l.length = n) (hk : k + j ≤ n) : k + j ≤ l.length := by omega
end Go.Hw
namespace Go.Hw
open Go
class SetAt (k : Nat) (L : List Res) (r : Res) (out : outParam (List Res)) : Prop where
  eq : L.set k r = out
instance {a r : Res} {l : List Res} : SetAt 0 (a :: l) r (r :: l) := ⟨rfl⟩
instance {k : Nat} {a r : Res} {l o : List Res} [S : SetAt k l r o] : SetAt (k + 1) (a :: l) r (a :: o) := ⟨by rw [List.set_cons_succ, S.eq]⟩
class GetAt (k : Nat) (L : List Res) (r : outParam Res) : Prop where
  eq : L[k]? = some r
instance {a : Res} {l : List Res} : GetAt 0 (a :: l) a := ⟨rfl⟩
instance {k : Nat} {a r : Res} {l : List Res} [S : GetAt k l r] : GetAt (k + 1) (a :: l) r := ⟨by rw [List.getElem?_cons_succ, S.eq]⟩
class Apd (L M : List Res) (out : outParam (List Res)) : Prop where
  eq : L ++ M = out
instance {M : List Res} : Apd [] M M := ⟨rfl⟩
instance {a : Res} {l M o : List Res} [S : Apd l M o] : Apd (a :: l) M (a :: o) := ⟨by rw [List.cons_append, S.eq]⟩
class PickT (L : List Res) (is : List Nat) (T D : outParam (List Res)) : Prop where
  t : takeL L is = T
  d : dropL L is = D
instance {L : List Res} : PickT L [] [] L := ⟨rfl, rfl⟩
instance {L L2 T D : List Res} {i : Nat} {is : List Nat} {r : Res} [G : GetAt i L r] [S : SetAt i L rE L2] [P : PickT L2 is T D] : PickT L (i :: is) (r :: T) D := ⟨by simp only [takeL, G.eq, S.eq, P.t], by simp only [dropL, S.eq, P.d]⟩
class Nm (L : List Res) (out : outParam (List Res)) : Prop where
  eq : L = out
instance : Nm [] [] := ⟨rfl⟩
instance {a : Res} {l : List Res} : Nm (a :: l) (a :: l) := ⟨rfl⟩
instance {L L' o : List Res} {k : Nat} {r : Res} [N : Nm L L'] [S : SetAt k L' r o] : Nm (L.set k r) o := ⟨by rw [N.eq, S.eq]⟩
instance {L L' M M' o : List Res} [N : Nm L L'] [N' : Nm M M'] [S : Apd L' M' o] : Nm (L ++ M) o := ⟨by rw [N.eq, N'.eq, S.eq]⟩
instance {L L' T D : List Res} {is : List Nat} [N : Nm L L'] [S : PickT L' is T D] : Nm (takeL L is) T := ⟨by rw [N.eq, S.t]⟩
instance {L L' T D : List Res} {is : List Nat} [N : Nm L L'] [S : PickT L' is T D] : Nm (dropL L is) D := ⟨by rw [N.eq, S.d]⟩
theorem Hold.nm {W : Foot} {h0 m0 h m : Heap} {Rs Rs' : List Res} (O : Hold W h0 m0 h m Rs) [N : Nm Rs Rs'] : Hold W h0 m0 h m Rs' := N.eq ▸ O
end Go.Hw

end
section
namespace Go.Hw
open Go Go.RowKit
structure Measure {H : Type} (bk : DataW H → Nat) : Prop where
  pos : ∀ d, 1 ≤ bk d
  str : ∀ b, b.length + 1 ≤ bk (.lit (.string b))
  slice : ∀ e s, (e.map bk).sum + 1 ≤ bk (.slice e s)
  agg : ∀ ps, (ps.map bk).sum + 1 ≤ bk (.agg ps)
section
variable {H : Type} {bk : DataW H → Nat} {enc : TypeId × Value → H} {P : Program} {W : World} {N : Nat}
def KT (N : Nat) {α : Type} (bk : DataW H → Nat) (enc : TypeId × Value → H) (P : Program) (W : World) (t : TypeId) (E : Heap → α → List Value → Prop) (K : α → Nat) : Prop :=
  ∀ (fuel : Nat), fuel < N → ∀ (cs : List Value) (x : DataW H × List MemPlace), DataW.trod enc P W 0 (fun _ => true) true fuel t cs = some x → ∀ a, E W.heap a cs → K a ≤ bk x.1
theorem kt_one (M : Measure bk) {α : Type} {t : TypeId} {E : Heap → α → List Value → Prop} : KT N bk enc P W t E (fun _ => 1) := fun _ _ _ _ _ _ _ => M.pos _
theorem kt_str (M : Measure bk) {t : TypeId} (hu : P.underlying t = some .string) : KT N bk enc P W t eStr (fun s => s.size + 1) := by
  intro fuel _ cs x h a ha
  obtain ⟨s, h1, h2, _⟩ := DataW.trod_string hu h
  rw [h2]
  have e : cs = [.string a] := ha
  rw [e] at h1
  cases h1
  have := M.str a.data.toList
  simpa using this
theorem kt_map {α β : Type} {t : TypeId} {E : Heap → α → List Value → Prop} {F : Heap → β → List Value → Prop} {K : α → Nat} {L : β → Nat} (he : KT N bk enc P W t E K) (hm : ∀ b cs, F W.heap b cs → ∃ a, E W.heap a cs ∧ L b ≤ K a) : KT N bk enc P W t F L :=
  fun fuel hf cs x h b hb => let ⟨a, ha, hl⟩ := hm b cs hb; Nat.le_trans hl (he fuel hf cs x h a ha)
theorem kt_down {α : Type} {t : TypeId} {E : Heap → α → List Value → Prop} {K : α → Nat} (he : KT (N + 1) bk enc P W t E K) : KT N bk enc P W t E K := fun fuel hf => he fuel (by omega)
theorem kt_rec {α : Type} {t : TypeId} {E : Heap → α → List Value → Prop} {K : α → Nat} (step : ∀ N, KT N bk enc P W t E K → KT (N + 1) bk enc P W t E K) : ∀ N, KT N bk enc P W t E K := by
  intro N
  induction N with
  | zero => intro fuel hf; omega
  | succ N ih => exact step N ih
theorem sum_map_le {α β : Type} {f : α → Nat} {g : β → Nat} : ∀ {l : List α} {m : List β}, l.length ≤ m.length → (∀ i (h1 : i < l.length) (h2 : i < m.length), f l[i] ≤ g m[i]) → (l.map f).sum ≤ (m.map g).sum := by
  intro l
  induction l with
  | nil => intro m _ _; simp
  | cons x l ih =>
    intro m hl h
    cases m with
    | nil => simp at hl
    | cons y m =>
      have h0 := h 0 (by simp) (by simp)
      have h1 := ih (m := m) (by simpa using hl) (fun i h1 h2 => h (i + 1) (Nat.succ_lt_succ h1) (Nat.succ_lt_succ h2))
      simp only [List.map_cons, List.sum_cons]
      simp only [List.getElem_cons_zero] at h0
      omega
theorem kt_slice (M : Measure bk) {α : Type} {t e : TypeId} {sz : Nat} {E : Heap → α → List Value → Prop} {K : α → Nat} (hu : P.underlying t = some (.slice e)) (hc : P.cellsOf e = sz) (he : KT N bk enc P W e E K) :
    KT N bk enc P W t (eRow sz E) (fun l => (l.map K).sum + 1) := by
  intro fuel hf cs x h l hl
  obtain ⟨A, c, hcs, hlc, hr⟩ := hl
  rcases DataW.trod_slice hu h with ⟨h1, h2⟩ | ⟨a, len, cap, elems, rest, n, hfn, h1, h2, _, hl', hm, hlen, hel, _, _⟩
  · rw [hcs] at h1
    simp only [List.cons.injEq, Value.slice.injEq, and_true] at h1
    have hl0 : l = [] := List.length_eq_zero_iff.1 h1.2.1
    subst hl0
    have := M.pos x.1
    simpa using this
  · rw [hcs] at h1
    simp only [List.cons.injEq, Value.slice.injEq, and_true] at h1
    obtain ⟨rfl, rfl, rfl⟩ := h1
    rw [h2]
    have hs := M.slice (elems.map (·.1)) (rest.map (·.1))
    have : (l.map K).sum ≤ ((elems.map (·.1)).map bk).sum := by
      refine sum_map_le (by simp [hlen]) (fun i i1 i2 => ?_)
      have h5 := hel i i1
      have hlt : i < elems.length := by omega
      rw [List.getElem?_eq_getElem hlt] at h5
      obtain ⟨cs', h6, h7⟩ := Option.bind_eq_some_iff.1 h5
      obtain ⟨a', ds, e1, e2, e3⟩ := hr i i1
      cases e1
      rw [hc] at h6
      have := cells_of h6
      rw [this] at e2
      cases e2
      have := he _ (by omega) _ _ h7 _ e3
      simpa using this
    exact Nat.le_trans (Nat.succ_le_succ this) hs
def KTF (N : Nat) {α : Type} (bk : DataW H → Nat) (enc : TypeId × Value → H) (P : Program) (W : World) (T o : Nat) (fs : List (TypeId × Nat)) (F : Heap → α → List Value → Prop) (K : α → Nat) : Prop :=
  ∀ (n : Nat), n < N → ∀ (cs : List Value) (xs : List (DataW H × List MemPlace)), cs.length = T → xs.length = fs.length → (∀ (i : Nat) (f : TypeId × Nat), fs[i]? = some f → DataW.trod enc P W 0 (fun _ => true) true n f.1 ((cs.drop f.2).take (P.cellsOf f.1)) = xs[i]?) →
    ∀ b, F W.heap b (cs.drop o) → K b ≤ ((xs.map (·.1)).map bk).sum
theorem ktf_nil {T : Nat} : KTF N bk enc P W T T [] eNil (fun _ => 0) := fun _ _ _ _ _ _ _ _ _ => Nat.zero_le _
theorem ktf_cons {α β : Type} {E : Heap → α → List Value → Prop} {F : Heap → β → List Value → Prop} {K : α → Nat} {L : β → Nat} {T o s : Nat} {f : TypeId} {fs : List (TypeId × Nat)} (hs : P.cellsOf f = s) (ht : Tell s E)
    (he : KT N bk enc P W f E K) (hf : KTF N bk enc P W T (o + s) fs F L) : KTF N bk enc P W T o ((f, o) :: fs) (eCons E F) (fun x => K x.1 + L x.2) := by
  intro n hn cs xs hl hx hi b hb
  cases xs with
  | nil => cases hx
  | cons x xs =>
    have h0 := hi 0 (f, o) rfl
    simp only [hs] at h0
    obtain ⟨c1, c2, e1, e2, e3⟩ := hb
    have hlen := ht.len _ _ _ e2
    have ec1 : (cs.drop o).take s = c1 := by rw [e1, ← hlen, List.take_left]
    have ec2 : cs.drop (o + s) = c2 := by rw [← List.drop_drop, e1, ← hlen, List.drop_left]
    rw [ec1] at h0
    have k1 := he n hn _ _ h0 _ e2
    have k2 := hf n hn cs xs hl (by simpa using hx) (fun i g hg => by simpa using hi (i + 1) g hg) b.2 (by rw [ec2]; exact e3)
    simp only [List.map_cons, List.sum_cons]
    omega
theorem kt_struct (M : Measure bk) {α : Type} {F : Heap → α → List Value → Prop} {K : α → Nat} {t : TypeId} {fs : List (TypeId × Nat)} {T : Nat} (hs : shapeOf P t = some fs) (hc : P.cellsOf t = T) (hf : KTF N bk enc P W T 0 fs F K) : KT (N + 1) bk enc P W t F (fun x => K x + 1) := by
  intro fuel hfl cs x h b hb
  unfold shapeOf at hs
  split at hs
  · rename_i fa hu
    cases hs
    obtain ⟨xs, n, hn, rfl, hl, hlen, hi⟩ := DataW.trod_struct hu h
    have := hf n (by omega) cs xs (by rw [hl, hc]) (by simpa using hlen) (fun i f hif => by
      rw [List.getElem?_map, Option.map_eq_some_iff] at hif
      obtain ⟨g, hg, rfl⟩ := hif
      exact hi i g (by simpa using hg)) b (by simpa using hb)
    have h2 := M.agg (xs.map (·.1))
    exact Nat.le_trans (Nat.succ_le_succ this) h2
  · cases hs
end
end Go.Hw

end
section
namespace Go.Hw
open Go
section
variable {α : Type} {sz : Nat} {E : Heap → α → List Value → Prop} {m m' h h' h0 m0 : Heap} {A : Option Addr} {l : List α} {c n : Nat} {W : Nat → Prop}
theorem OS.app_in {e : TypeId} {bytes : Nat} {z : Array Value} {X : Value} {xs : List α} {K : Value → Heap → Prop} (o : OS W h0 sz E h m A l c) (T : Tell sz E) (S : St W h0 m0 h m) (hn : n = l.length) (hs : Src sz E h m X xs) (hin : l.length + xs.length ≤ c)
    (hk : ∀ h', OS W h0 sz E h' m A (l ++ xs) c → St (fp A c) h m h' m → K (.slice A (l ++ xs).length c) h') : AppW e sz bytes z A n c X h K := by
  subst hn
  obtain ⟨es, h1, h2⟩ := hs
  have he := h2.len
  refine ⟨xs.length, es, h1, .inl ⟨hin, ?_⟩⟩
  rcases o with ⟨rfl, rfl⟩ | ⟨b, t, pre, cs, rest, rfl, k1, k2, k3, k4, k5, k6⟩
  · have hxs : xs = [] := List.length_eq_zero_iff.1 (by rw [List.length_nil] at hin; omega)
    subst hxs
    have : es = [] := h2
    subst this
    have fin := hk h (.inl ⟨rfl, rfl⟩) (St.refl S.s)
    cases A with
    | none => exact .inl ⟨rfl, fin⟩
    | some a => exact .inr ⟨a, h, rfl, by simp [stH], fin⟩
  · have hl := k2.len
    have hmul : (c - l.length) * sz = xs.length * sz + (c - l.length - xs.length) * sz := by rw [← Nat.add_mul]; congr 1; omega
    have k1' : Blk h b ((pre ++ cs) ++ rest.take (xs.length * sz) ++ rest.drop (xs.length * sz)) t := by rw [List.append_assoc, List.take_append_drop]; exact k1
    obtain ⟨h', s1, b1, o1⟩ := Blk.stH es (a := (⟨b, pre.length, none⟩ : Addr).add (l.length * sz)) (i := 0) k1' (by rw [add_block]) (add_spot _ rfl) (by rw [add_off, List.length_append, hl, Nat.add_zero]) (by rw [List.length_take, he]; omega) (h2.flat T)
    refine .inr ⟨_, h', rfl, s1, ?_⟩
    rw [show (Value.slice (some ⟨b, pre.length, none⟩) (l.length + xs.length) c) = .slice (some ⟨b, pre.length, none⟩) (l ++ xs).length c by rw [List.length_append]]
    refine hk _ (.inr ⟨b, t, pre, cs ++ es, rest.drop (xs.length * sz), rfl, by rw [← List.append_assoc pre]; exact b1, k2.append h2, by rw [List.length_append]; exact hin, ?_, k5, k6⟩) ?_
    · rw [List.length_drop, List.length_append, show c - (l.length + xs.length) = c - l.length - xs.length by omega]; omega
    · refine ⟨.refl _, fun i o1' j1 j2 => ?_, by rw [o1.1]; exact Nat.le_refl _, fun i hi hw => ?_, fun i _ hl => .inl hl⟩
      · rw [o1.2 i (fun e => k6 (e ▸ ⟨o1', j1, j2⟩))]; exact S.s i o1' j1 j2
      · by_cases hc : c = 0
        · have hes : es = [] := List.length_eq_zero_iff.1 (by rw [he, show xs.length = 0 by omega, Nat.zero_mul])
          subst hes
          simp only [stH, Option.some.injEq] at s1
          rw [s1]
        · exact o1.2 i fun e => hw ⟨hc, _, rfl, e.symm⟩
theorem OS.spare (o : OS W h0 sz E h m A l c) (s : Sub m h) {ds : List Value} (hd : l.length * sz + ds.length ≤ c * sz) (hf : ∀ v ∈ ds, Flat v) {a : Addr} (ha : A = some a) (hc : c ≠ 0) :
    ∃ h', stH h (a.add (l.length * sz)) ds 0 = some h' ∧ OS W h0 sz E h' m A l c ∧ St (fp A c) h m h' m := by
  rcases o with ⟨rfl, rfl⟩ | ⟨b, t, pre, cs, rest, rfl, k1, k2, k3, k4, k5, k6⟩
  · exact absurd rfl hc
  · cases ha
    have hl := k2.len
    have hmul : (c - l.length) * sz + l.length * sz = c * sz := by rw [← Nat.add_mul, Nat.sub_add_cancel k3]
    have k1' : Blk h b ((pre ++ cs) ++ rest.take ds.length ++ rest.drop ds.length) t := by rw [List.append_assoc, List.take_append_drop]; exact k1
    obtain ⟨h', s1, b1, o1⟩ := Blk.stH ds (a := (⟨b, pre.length, none⟩ : Addr).add (l.length * sz)) (i := 0) k1' (by rw [add_block]) (add_spot _ rfl) (by rw [add_off, List.length_append, hl, Nat.add_zero]) (by rw [List.length_take]; omega) hf
    refine ⟨h', s1, .inr ⟨b, t, pre, cs, ds ++ rest.drop ds.length, rfl, by rw [← List.append_assoc]; exact b1, k2, k3, ?_, k5, k6⟩, ?_⟩
    · rw [List.length_append, List.length_drop]; omega
    · refine ⟨.refl _, fun i o1' j1 j2 => ?_, by rw [o1.1]; exact Nat.le_refl _, fun i hi hw => o1.2 i fun e => hw ⟨hc, _, rfl, e.symm⟩, fun i _ hl => .inl hl⟩
      rw [o1.2 i (fun e => k6 (e ▸ ⟨o1', j1, j2⟩))]; exact s i o1' j1 j2
theorem gen_clear0 {P : Program} {t e : TypeId} {cap : Nat} {K : Value → Heap → Prop} (hu : P.underlying t = some (.slice e)) (hk : K (.tuple #[]) h) : Gen P (Builtin.clear_ #[t] 0 #[.slice A 0 cap]) h K := by
  unfold Gen Builtin.clear_
  refine hwp_bind (hwp_underlying hu ?_)
  cases A <;> exact hwp_bind (hwp_pure (hwp_pure hk))
theorem gen_clear {P : Program} {t e : TypeId} {a : Addr} {k cap : Nat} {z : Value} {h' : Heap} {K : Value → Heap → Prop} (hu : P.underlying t = some (.slice e)) (hz : zeroOf P e = some z) (hs : stH h a (Builtin.zeroCells z.cells (k + 1)).toList 0 = some h') (hk : K (.tuple #[]) h') : Gen P (Builtin.clear_ #[t] 0 #[.slice (some a) (k + 1) cap]) h K := by
  unfold Gen Builtin.clear_
  refine hwp_bind (hwp_underlying hu ?_)
  refine hwp_bind (s := zeroValue e) (hwp_zero hz ?_)
  refine hwp_bind (hwp_storeCells a _ 0 hs ?_)
  exact hwp_pure hk
end
end Go.Hw

end
section
set_option linter.unusedVariables false
namespace Go.Hw
open Go
theorem zcells_mk (z : Array Value) (n : Nat) : zcells z n = mkCells z (n * z.size) := rfl
theorem sliceA_zero {A : Option Addr} {c sz : Nat} : sliceA A (Int.toNat (0 : Int)) c sz = A := by
  unfold sliceA
  split
  · rfl
  · cases A with
    | none => rfl
    | some a => simp [Addr.add]
section
variable {α : Type} {sz : Nat} {E : Heap → α → List Value → Prop} {T : Tell sz E} {m m' h h' h0 m0 : Heap} {A : Option Addr} {l l8 : List α} {c c2 n k : Nat} {W : Foot} {P : Program} {t e : TypeId} {zv : Value} {zp : α} {lo hi : Int} {Rs : List Res}
theorem zc_flat {z : Array Value} (hf : ∀ v ∈ z.toList, Flat v) (n : Nat) : ∀ v ∈ (zcells z n).toList, Flat v := by
  rw [zcells_mk, mkCells_flat rfl]
  intro v hv
  obtain ⟨l, h1, h2⟩ := List.mem_flatten.1 hv
  rw [(List.mem_replicate.1 h1).2] at h2
  exact hf v h2
theorem delete_ok {R : Value → Heap → Prop} {x1 x2 : Int} {bytes : Nat} {z : Array Value} (O : Hold W h0 m0 h m Rs) (k : Nat) (hk : Rs[k]? = some (rR (aE T) A c l)) (hu : P.underlying t = some (.slice e)) (hz : zeroOf P e = some zv) (hE : E m zp zv.cells.toList) (g : 0 ≤ x1 ∧ x1 ≤ x2 ∧ x2 ≤ (l.length : Int))
    (H : ∀ h', Hold W h0 m0 h' m (Rs.set k (rR (aE T) A c (l.take x1.toNat ++ l.drop x2.toNat))) → R (.slice A (l.take x1.toNat ++ l.drop x2.toNat).length c) h') :
    0 ≤ x1 ∧ x1 ≤ x2 ∧ x2 ≤ ((l.length : Nat) : Int) ∧ ((l.length : Nat) : Int) ≤ ((c : Nat) : Int) ∧ (splitB (x1 == x2) (R (Value.slice A l.length c) h) (0 ≤ (0 : Int) ∧ (0 : Int) ≤ x1 ∧ x1 ≤ ((c : Nat) : Int) ∧ (0 ≤ x2 ∧ x2 ≤ ((l.length : Nat) : Int) ∧ ((l.length : Nat) : Int) ≤ ((c : Nat) : Int) ∧ (AppW e sz bytes z (sliceA A (Int.toNat (0 : Int)) c sz) (Int.toNat x1 - Int.toNat (0 : Int)) (c - Int.toNat (0 : Int)) (Value.slice (sliceA A (Int.toNat x2) c sz) (Int.toNat ((l.length : Nat) : Int) - Int.toNat x2) (c - Int.toNat x2)) h fun v1_ h2_ => ∃ A3_, ∃ n3_, ∃ c3_, v1_ = (Value.slice A3_ n3_ c3_) ∧ 0 ≤ ((n3_ : Nat) : Int) ∧ ((n3_ : Nat) : Int) ≤ ((l.length : Nat) : Int) ∧ ((l.length : Nat) : Int) ≤ ((c3_ : Nat) : Int) ∧ (Gen P (Builtin.clear_ #[t] 0 #[(Value.slice (sliceA A3_ (Int.toNat ((n3_ : Nat) : Int)) c3_ sz) (Int.toNat ((l.length : Nat) : Int) - Int.toNat ((n3_ : Nat) : Int)) (c3_ - Int.toNat ((n3_ : Nat) : Int)))]) h2_ fun v4_ h5_ => v4_ = (Value.tuple #[]) ∧ R (Value.slice A3_ n3_ c3_) h5_))))) := by
  obtain ⟨g1, g2, g3⟩ := g
  have hc := O.cap k hk
  have o := O.os k hk
  refine ⟨g1, g2, g3, by omega, ?_⟩
  refine split_eq (fun q => ?_) (fun q => ?_)
  · subst q
    have e1 : l.take x1.toNat ++ l.drop x1.toNat = l := List.take_append_drop _ _
    have := H h (by rw [e1]; exact O.conv k hk (R' := rR (aE T) A c l) fun F hF => ⟨F, hF, fun _ h => h⟩)
    rw [e1] at this
    exact this
  · refine ⟨by decide, g1, by omega, by omega, g3, by omega, ?_⟩
    have w1 : sls l 0 x1 = some (l.take x1.toNat) := by rw [sls_of (by omega) g1 (by omega), sl_hi]
    have w2 : sls l x2 (l.length : Int) = some (l.drop x2.toNat) := by rw [sls_of (by omega) g3 (by omega), sl_lo]
    have o1 := o.sls w1 (mx := c) (by omega) (Nat.le_refl _)
    rw [sliceA_zero] at o1 ⊢
    have o2 := o.sls w2 (mx := c) (by omega) (Nat.le_refl _)
    have e1 : Int.toNat x1 - Int.toNat (0 : Int) = (l.take x1.toNat).length := by rw [List.length_take]; omega
    have e2 : Int.toNat ((l.length : Nat) : Int) - Int.toNat x2 = (l.drop x2.toNat).length := by rw [List.length_drop]; omega
    have hlen : (l.take x1.toNat).length + (l.drop x2.toNat).length ≤ l.length := by rw [List.length_take, List.length_drop]; omega
    refine OS.app_in o1 T O.S e1 (o2.srcE e2) (by rw [show c - Int.toNat (0 : Int) = c by simp]; omega) fun h2 o3 S3 => ?_
    rw [show c - Int.toNat (0 : Int) = c by simp] at o3 S3 ⊢
    refine ⟨_, _, _, rfl, Int.natCast_nonneg _, by rw [List.length_append]; omega, by omega, ?_⟩
    rw [show Int.toNat (((l.take x1.toNat ++ l.drop x2.toNat).length : Nat) : Int) = (l.take x1.toNat ++ l.drop x2.toNat).length from rfl, show Int.toNat ((l.length : Nat) : Int) = l.length from rfl]
    by_cases hd : l.length - (l.take x1.toNat ++ l.drop x2.toNat).length = 0
    · rw [hd]
      exact gen_clear0 hu ⟨rfl, H h2 (O.setR k hk o3 S3)⟩
    · obtain ⟨j, hj⟩ : ∃ j, l.length - (l.take x1.toNat ++ l.drop x2.toNat).length = j + 1 := ⟨l.length - (l.take x1.toNat ++ l.drop x2.toNat).length - 1, by omega⟩
      rw [hj]
      have hzs : zv.cells.size = sz := by have := T.len _ _ _ hE; simpa using this
      have hcne : c ≠ 0 := by omega
      obtain ⟨a, ha⟩ : ∃ a, A = some a := by
        rcases o with ⟨rfl, hc0⟩ | ⟨b, t, pre, cs, rest, rfl, _⟩
        · exact absurd hc0 hcne
        · exact ⟨_, rfl⟩
      obtain ⟨h5, s5, o5, S5⟩ := o3.spare (O.setR k hk o3 S3).s (ds := (zcells zv.cells (j + 1)).toList) (by
        rw [zc_len, hzs, ← Nat.add_mul]; exact Nat.mul_le_mul_right _ (by omega)) (zc_flat (T.flat _ _ _ hE) _) ha hcne
      have e5 : sliceA A (l.take x1.toNat ++ l.drop x2.toNat).length c sz = some (a.add ((l.take x1.toNat ++ l.drop x2.toNat).length * sz)) := by
        unfold sliceA; rw [if_neg (by omega), ha]; rfl
      rw [e5]
      refine gen_clear hu hz (h' := h5) s5 ⟨rfl, H h5 (O.setR k hk o5 (S3.then S5 fun b _ hb => .inr hb))⟩
end
end Go.Hw
namespace Go.Hw
open Go
end Go.Hw
namespace Go.Hw
open Go
end Go.Hw

end
section
set_option linter.unusedVariables false
namespace Go.Hw
open Go
end Go.Hw

end
section
set_option linter.unusedVariables false
namespace Go.Hw
open Go
end Go.Hw

end
section
set_option linter.unusedVariables false
namespace Go.Hw
open Go Go.RowKit
end Go.Hw

end
section
set_option linter.unusedVariables false
namespace Go.Hw
open Go
end Go.Hw
namespace Go.Hw
open Go
end Go.Hw
namespace Go.Hw
open Go
end Go.Hw
namespace Go.Hw
open Go
end Go.Hw
namespace Go.Hw
open Go
end Go.Hw

end
section
set_option linter.unusedVariables false
namespace Go.Hw
open Go
end Go.Hw

end
section
set_option linter.unusedVariables false
namespace Go.Hw
open Go
end Go.Hw

end
section
set_option linter.unusedVariables false
namespace Go.Hw
open Go
def pow10V : List Value := Lib.pow10Tab.map fun z => Value.int .u64 z
def TBg (g : Nat) (m : Heap) : Prop := ∃ t f, m[g]? = some (.cells pow10V.toArray t f)
theorem TBg.sub {g : Nat} {m h : Heap} (t : TBg g m) (s : Sub m h) : TBg g h := by
  obtain ⟨t, f, h1⟩ := t
  refine ⟨t, f, s _ _ h1 fun e => ?_⟩
  unfold dead at e
  have := congrArg (fun o => match o with | Obj.cells c _ _ => c.size | _ => 0) e
  simp [pow10V, Lib.pow10Tab] at this
def itoaB (n : Int) : ByteArray := ⟨(Lib.itoa n).toArray⟩
theorem TBg.var {P : Program} {g : Nat} {w : World} (hg : P.globalNamed "internal/strconv.uint64pow10" = some g) (t : TBg g w.heap) : Lib.TabIs P w "internal/strconv.uint64pow10" .u64 Lib.pow10Tab := by
  obtain ⟨t, f, h1⟩ := t
  unfold Lib.TabIs World.var?
  rw [hg]
  show (match w.heap[g]? with | some (.cells cs _ _) => some cs | _ => none) = _
  rw [h1]; rfl
theorem TBg.of {P : Program} {g : Nat} {w : World} (hg : P.globalNamed "internal/strconv.uint64pow10" = some g) (t : Lib.TabIs P w "internal/strconv.uint64pow10" .u64 Lib.pow10Tab) : TBg g w.heap := by
  unfold Lib.TabIs World.var? at t
  rw [hg] at t
  have t' : (match w.heap[g]? with | some (.cells cs _ _) => some cs | _ => none) = some pow10V.toArray := t
  cases h : w.heap[g]? with
  | none => rw [h] at t'; cases t'
  | some o =>
    rw [h] at t'
    cases o with
    | cells c e f => cases t'; exact ⟨e, f, h⟩
    | _ => cases t'
theorem itoa_run {P : Program} {k g : Nat} {W : Foot} {h m : Heap} {x : Int} {r : ByteArray} (hg : P.globalNamed "internal/strconv.uint64pow10" = some g)
    (c : ∀ (n : Int) (_ : -9223372036854775808 ≤ n) (_ : n ≤ 9223372036854775807) (w : World) (_ : Lib.TabIs P w "internal/strconv.uint64pow10" .u64 Lib.pow10Tab), Calls P k #[.int .i64 n] w fun e w' => e = .returned (.string ⟨(Lib.itoa n).toArray⟩) ∧ ∃ k os, w' = Go.Sort.grow (w.drewN k) os)
    (O : Hold W h m h m []) (tab : TBg g m) (e : (if -9223372036854775808 ≤ x ∧ x ≤ 9223372036854775807 then some (itoaB x) else none) = some r) : Run P k #[Value.int .i64 x] h fun v h' => ∃ m', Hold W h m h' m' [] ∧ v = .string r := by
  obtain ⟨g1, e⟩ := guard_e e
  cases e
  intro w hw
  subst hw
  refine (c x g1.1 g1.2 w ((tab.sub O.s).var hg)).mono fun e w' he => ?_
  obtain ⟨rfl, k, os, rfl⟩ := he
  refine ⟨_, rfl, ⟨m, O.ext ?_, rfl⟩, ⟨rfl, rfl, rfl⟩⟩
  refine ⟨?_, fun i hi => ?_⟩
  · show w.heap.size ≤ (w.heap ++ os).size
    simp
  · show (w.heap ++ os)[i]? = w.heap[i]?
    rw [Array.getElem?_append_left hi]
end Go.Hw

end
section
namespace Go.Proofs
open Go.Shelf
def Tryd.laysM171_ren : Go.Shelf.Ren := ⟨fun | 171 => 39 | 243 => 41 | 246 => 42 | 283 => 43 | 284 => 44 | 285 => 45 | 286 => 46 | 129 => 48 | 317 => 47 | 318 => 49 | 319 => 50 | 320 => 51 | 337 => 52 | 338 => 53 | n => n, fun | 3 => 3 | 9 => 9 | 2 => 2 | 4 => 4 | 171 => 107 | 0 => 0 | 53 => 108 | 37 => 111 | 5 => 5 | 173 => 112 | 212 => 116 | 51 => 117 | 20 => 20 | 213 => 118 | 46 => 120 | 232 => 123 | 233 => 124 | n => n, fun | 17 => 0 | 18 => 1 | 19 => 2 | n => n⟩
theorem Tryd.laysM171 : Go.Proofs.LaysM.n171 Tryd.prog Tryd.laysM171_ren := {
  mixed := by kernel_rfl
  f129 := Tryd.func48.trans (congrArg some (by kernel_rfl))
  f171 := Tryd.func39.trans (congrArg some (by kernel_rfl))
  f243 := Tryd.func41.trans (congrArg some (by kernel_rfl))
  f246 := Tryd.func42.trans (congrArg some (by kernel_rfl))
  f283 := Tryd.func43.trans (congrArg some (by kernel_rfl))
  f284 := Tryd.func44.trans (congrArg some (by kernel_rfl))
  f285 := Tryd.func45.trans (congrArg some (by kernel_rfl))
  f286 := Tryd.func46.trans (congrArg some (by kernel_rfl))
  f317 := Tryd.func47.trans (congrArg some (by kernel_rfl))
  f318 := Tryd.func49.trans (congrArg some (by kernel_rfl))
  f319 := Tryd.func50.trans (congrArg some (by kernel_rfl))
  f320 := Tryd.func51.trans (congrArg some (by kernel_rfl))
  f337 := Tryd.func52.trans (congrArg some (by kernel_rfl))
  f338 := Tryd.func53.trans (congrArg some (by kernel_rfl))
  t0 := Tryd.underlying0
  a0 := Tryd.isAgg0
  z0 := Tryd.sizeOf0
  v0 := Tryd.zeroValue0
  t2 := Tryd.underlying2
  a2 := Tryd.isAgg2
  z2 := Tryd.sizeOf2
  v2 := Tryd.zeroValue2
  t3 := Tryd.underlying3
  a3 := Tryd.isAgg3
  z3 := Tryd.sizeOf3
  v3 := Tryd.zeroValue3
  t4 := Tryd.underlying4
  a4 := Tryd.isAgg4
  z4 := Tryd.sizeOf4
  v4 := Tryd.zeroValue4
  t5 := Tryd.underlying5
  a5 := Tryd.isAgg5
  z5 := Tryd.sizeOf5
  v5 := Tryd.zeroValue5
  t9 := Tryd.underlying9
  a9 := Tryd.isAgg9
  z9 := Tryd.sizeOf9
  v9 := Tryd.zeroValue9
  t20 := Tryd.underlying20
  a20 := Tryd.isAgg20
  z20 := Tryd.sizeOf20
  v20 := Tryd.zeroValue20
  t37 := Tryd.underlying111
  a37 := Tryd.isAgg111
  z37 := Tryd.sizeOf111
  v37 := Tryd.zeroValue111
  t46 := Tryd.underlying120
  a46 := Tryd.isAgg120
  z46 := Tryd.sizeOf120
  v46 := Tryd.zeroValue120
  t51 := Tryd.underlying117
  a51 := Tryd.isAgg117
  z51 := Tryd.sizeOf117
  v51 := Tryd.zeroValue117
  t53 := Tryd.underlying108
  a53 := Tryd.isAgg108
  z53 := Tryd.sizeOf108
  v53 := Tryd.zeroValue108
  t171 := Tryd.underlying107
  a171 := Tryd.isAgg107
  z171 := Tryd.sizeOf107
  v171 := Tryd.zeroValue107
  t173 := Tryd.underlying112
  a173 := Tryd.isAgg112
  z173 := Tryd.sizeOf112
  v173 := Tryd.zeroValue112
  t212 := Tryd.underlying116
  a212 := Tryd.isAgg116
  z212 := Tryd.sizeOf116
  v212 := Tryd.zeroValue116
  t213 := Tryd.underlying118
  a213 := Tryd.isAgg118
  z213 := Tryd.sizeOf118
  t232 := Tryd.underlying123
  a232 := Tryd.isAgg123
  z232 := Tryd.sizeOf123
  v232 := Tryd.zeroValue123
  t233 := Tryd.underlying124
  a233 := Tryd.isAgg124
  z233 := Tryd.sizeOf124
  v233 := Tryd.zeroValue124
  g17 := by kernel_rfl
  g18 := by kernel_rfl
  g19 := by kernel_rfl
  i0 := by kernel_rfl
  i2 := by kernel_rfl
  i3 := by kernel_rfl
  i4 := by kernel_rfl
  i5 := by kernel_rfl
  i9 := by kernel_rfl
  i20 := by kernel_rfl
  i37 := by kernel_rfl
  i46 := by kernel_rfl
  i51 := by kernel_rfl
  i53 := by kernel_rfl
  i171 := by kernel_rfl
  i173 := by kernel_rfl
  i212 := by kernel_rfl
  i232 := by kernel_rfl
  i233 := by kernel_rfl
  m17 := by kernel_rfl
  m18 := by kernel_rfl
  m19 := by kernel_rfl }
theorem Tryd.strconv_Itoa (n : Int) (h0 : -9223372036854775808 ≤ n) (h1 : n ≤ 9223372036854775807) (w : World)
    (htab : Lib.TabIs Tryd.prog w "internal/strconv.uint64pow10" .u64 Lib.pow10Tab) :
    Calls Tryd.prog 39 #[.int .i64 n] w fun e w' => e = .returned (.string ⟨(Lib.itoa n).toArray⟩) ∧ ∃ k os, w' = Go.Sort.grow (w.drewN k) os := Any.strconv_Itoa Tryd.laysM171 n h0 h1 w htab
end Go.Proofs

end
section
namespace Go.Proofs.YtnlocljmalhddaaDoor.Fw
open Go Go.Hw Go.Proofs
set_option linter.unusedVariables false
set_option synthInstance.maxHeartbeats 400000
set_option synthInstance.maxSize 1000
abbrev TB (m : Heap) : Prop := TBg 0 m
structure T_api_Use where
  Name : ByteArray
  Low : Int
  High : Int
def T_api_Use.E (h : Heap) (x : T_api_Use) (cs : List Value) : Prop := cs = [.string x.Name, .int .i64 x.Low, .int .i64 x.High]
theorem T_api_Use.T : Tell 3 T_api_Use.E := ⟨by rintro m h x _ s rfl; exact rfl, by rintro h x _ rfl; rfl, by rintro h x _ rfl; exact Flats.cons trivial (Flats.cons trivial (Flats.cons trivial Flats.nil))⟩
theorem T_api_Use.keep {m h : Heap} {x : T_api_Use} {cs : List Value} (e : T_api_Use.E m x cs) : T_api_Use.E h x cs := e
def T_api_Use.Q (x : T_api_Use) : Prop := (x.Name.size ≤ 140737488351232) ∧ (-9223372036854775808 ≤ x.Low ∧ x.Low ≤ 9223372036854775807) ∧ (-9223372036854775808 ≤ x.High ∧ x.High ≤ 9223372036854775807)
theorem T_api_Use.tells {H : Type} {enc : TypeId × Value → H} {W : World} : Tells enc Tryd.prog W 36 T_api_Use.E T_api_Use.Q := tells_map (tells_struct (t := 36) (fs := [(9, 0), (3, 1), (3, 2)]) (T := 3) (by kernel_rfl) (by kernel_rfl) (tf_cons (s := 1) (f := 9) (by kernel_rfl) (tells_strL (t := 9) (by kernel_rfl)) (tf_cons (s := 1) (f := 3) (by kernel_rfl) (tells_i64 (t := 3) (by kernel_rfl)) (tf_cons (s := 1) (f := 3) (by kernel_rfl) (tells_i64 (t := 3) (by kernel_rfl)) tf_nil)))) (by
  rintro ⟨x0, x1, x2, ⟨⟩⟩ cs e q
  obtain ⟨c0, r0, rfl, e0, c1, r1, rfl, e1, c2, r2, rfl, e2, eN⟩ := e
  obtain rfl : c0 = [.string x0] := e0
  obtain rfl : c1 = [.int .i64 x1] := e1
  obtain rfl : c2 = [.int .i64 x2] := e2
  obtain rfl : r2 = [] := eN
  exact ⟨⟨x0, x1, x2⟩, rfl, q.1, q.2.1, q.2.2.1⟩)
def T_api_Use.bulk (x : T_api_Use) : Nat := ((x.Name.size + 1) + (1 + (1 + (0)))) + 1
theorem T_api_Use.kt {H : Type} {bk : DataW H → Nat} {enc : TypeId × Value → H} {W : World} {N : Nat} (M : Measure bk) : KT N bk enc Tryd.prog W 36 T_api_Use.E T_api_Use.bulk := kt_down (kt_map (kt_struct M (t := 36) (fs := [(9, 0), (3, 1), (3, 2)]) (T := 3) (by kernel_rfl) (by kernel_rfl) (ktf_cons (s := 1) (f := 9) (by kernel_rfl) tell_str (kt_str (t := 9) M (by kernel_rfl)) (ktf_cons (s := 1) (f := 3) (by kernel_rfl) (tell_int .i64) (kt_one M) (ktf_cons (s := 1) (f := 3) (by kernel_rfl) (tell_int .i64) (kt_one M) ktf_nil)))) (fun x cs e => by
  obtain rfl := e
  exact ⟨(x.Name, x.Low, x.High, ()), ⟨[.string x.Name], _, rfl, rfl, ⟨[.int .i64 x.Low], _, rfl, rfl, ⟨[.int .i64 x.High], _, rfl, rfl, rfl⟩⟩⟩, Nat.le_refl _⟩))
structure T_api_Type where
  Kind : Int
  Name : ByteArray
  Args : (List T_api_Type)
def T_api_Type.E (h : Heap) : T_api_Type → List Value → Prop
  | ⟨f0, f1, f2⟩, cs => ∃ A2 c2, cs = [.int .i64 f0, .string f1, .slice A2 f2.length c2] ∧ f2.length ≤ c2 ∧ (∀ i (hi : i < f2.length), ∃ a ds, A2 = some a ∧ cellsH h (a.add (i * 3)) 0 3 = some ds ∧ T_api_Type.E h f2[i] ds)
  termination_by x => SizeOf.sizeOf x
  decreasing_by
    all_goals
      have h1 := List.sizeOf_lt_of_mem (List.getElem_mem hi)
      first
      | (simp_all; omega)
theorem T_api_Type.iff {h : Heap} {x : T_api_Type} {cs : List Value} : T_api_Type.E h x cs ↔ ∃ A2 c2, cs = [.int .i64 x.Kind, .string x.Name, .slice A2 x.Args.length c2] ∧ x.Args.length ≤ c2 ∧ Rd 3 T_api_Type.E h A2 x.Args := by
  cases x
  rw [T_api_Type.E]
  exact Iff.rfl
theorem T_api_Type.mono {m h : Heap} (s : Sub m h) : ∀ (x : T_api_Type) (cs : List Value), T_api_Type.E m x cs → T_api_Type.E h x cs
  | ⟨f0, f1, f2⟩, cs, e => by
    rw [T_api_Type.E] at e ⊢
    obtain ⟨A2, c2, h1, k2, r2⟩ := e
    exact ⟨A2, c2, h1, k2, fun i hi => let ⟨a, ds, h1, h2, h3⟩ := r2 i hi; ⟨a, ds, h1, s.cells _ _ h2, T_api_Type.mono s _ _ h3⟩⟩
  termination_by x => SizeOf.sizeOf x
  decreasing_by
    all_goals
      have h1 := List.sizeOf_lt_of_mem (List.getElem_mem hi)
      first
      | (simp_all; omega)
theorem T_api_Type.T : Tell 3 T_api_Type.E := ⟨fun _ _ x cs s e => T_api_Type.mono s x cs e, by intro h x cs e; obtain ⟨A2, c2, rfl, k2, r2⟩ := T_api_Type.iff.1 e; rfl, by intro h x cs e; obtain ⟨A2, c2, rfl, k2, r2⟩ := T_api_Type.iff.1 e; exact Flats.cons trivial (Flats.cons trivial (Flats.cons trivial Flats.nil))⟩
def T_api_Type.Q : T_api_Type → Prop
  | ⟨f0, f1, f2⟩ => (-9223372036854775808 ≤ f0 ∧ f0 ≤ 9223372036854775807) ∧ (f1.size ≤ 140737488351232) ∧ (f2.length * 48 ≤ 140737488351232 ∧ ∀ i (hi : i < f2.length), T_api_Type.Q f2[i])
  termination_by x => SizeOf.sizeOf x
  decreasing_by
    all_goals
      have h1 := List.sizeOf_lt_of_mem (List.getElem_mem hi)
      first
      | (simp_all; omega)
theorem T_api_Type.Q_iff {x : T_api_Type} : T_api_Type.Q x ↔ (-9223372036854775808 ≤ x.Kind ∧ x.Kind ≤ 9223372036854775807) ∧ (x.Name.size ≤ 140737488351232) ∧ (x.Args.length * 48 ≤ 140737488351232 ∧ ∀ a ∈ x.Args, T_api_Type.Q a) := by
  obtain ⟨f0, f1, f2⟩ := x
  rw [T_api_Type.Q]
  show _ ↔ (-9223372036854775808 ≤ f0 ∧ f0 ≤ 9223372036854775807) ∧ (f1.size ≤ 140737488351232) ∧ (f2.length * 48 ≤ 140737488351232 ∧ ∀ a ∈ f2, T_api_Type.Q a)
  rw [← forall_get (l := f2) (p := T_api_Type.Q)]
theorem T_api_Type.tells {H : Type} {enc : TypeId × Value → H} {W : World} : Tells enc Tryd.prog W 55 T_api_Type.E T_api_Type.Q := tells_rec fun N ih => tellsU_map (tellsU_struct (t := 55) (fs := [(3, 0), (9, 1), (53, 2)]) (T := 3) (by kernel_rfl) (by kernel_rfl) (tfU_cons (s := 1) (f := 3) (by kernel_rfl) (Tells.up (tells_i64 (t := 3) (by kernel_rfl))) (tfU_cons (s := 1) (f := 9) (by kernel_rfl) (Tells.up (tells_strL (t := 9) (by kernel_rfl))) (tfU_cons (s := 1) (f := 53) (by kernel_rfl) (tellsU_slice (t := 53) (e := 55) (sz := 3) (B := 48) (by kernel_rfl) (by kernel_rfl) (by kernel_rfl) ih) tfU_nil)))) (by
  rintro ⟨x0, x1, x2, ⟨⟩⟩ cs e q
  obtain ⟨c0, r0, rfl, e0, c1, r1, rfl, e1, c2, r2, rfl, e2, eN⟩ := e
  obtain rfl : c0 = [.int .i64 x0] := e0
  obtain rfl : c1 = [.string x1] := e1
  obtain ⟨A2, k2, rfl, l2, R2⟩ := e2
  obtain rfl : r2 = [] := eN
  exact ⟨⟨x0, x1, x2⟩, T_api_Type.iff.2 ⟨_, _, rfl, l2, R2⟩, T_api_Type.Q_iff.2 ⟨q.1, q.2.1, q.2.2.1⟩⟩)
def T_api_Type.bulk : T_api_Type → Nat
  | ⟨f0, f1, f2⟩ => (1 + ((f1.size + 1) + (((f2.attach.map fun y => T_api_Type.bulk y.1).sum + 1) + (0)))) + 1
  termination_by x => SizeOf.sizeOf x
  decreasing_by
    all_goals
      have h1 := List.sizeOf_lt_of_mem y.2
      first
      | (simp_all; omega)
theorem T_api_Type.bulk_eq (x : T_api_Type) : T_api_Type.bulk x = (1 + ((x.Name.size + 1) + (((List.map T_api_Type.bulk x.Args).sum + 1) + (0)))) + 1 := by
  obtain ⟨f0, f1, f2⟩ := x
  rw [T_api_Type.bulk]
  rw [(List.attach_map_val : (f2.attach.map fun i => T_api_Type.bulk i.1) = f2.map T_api_Type.bulk)]
theorem T_api_Type.kt {H : Type} {bk : DataW H → Nat} {enc : TypeId × Value → H} {W : World} {N : Nat} (M : Measure bk) : KT N bk enc Tryd.prog W 55 T_api_Type.E T_api_Type.bulk := kt_rec (fun N ih => kt_map (kt_struct M (t := 55) (fs := [(3, 0), (9, 1), (53, 2)]) (T := 3) (by kernel_rfl) (by kernel_rfl) (ktf_cons (s := 1) (f := 3) (by kernel_rfl) (tell_int .i64) (kt_one M) (ktf_cons (s := 1) (f := 9) (by kernel_rfl) tell_str (kt_str (t := 9) M (by kernel_rfl)) (ktf_cons (s := 1) (f := 53) (by kernel_rfl) (tell_row T_api_Type.T) (kt_slice M (t := 53) (e := 55) (sz := 3) (by kernel_rfl) (by kernel_rfl) ih) ktf_nil)))) (fun x cs e => by
  obtain ⟨A2, c2, rfl, k2, r2⟩ := T_api_Type.iff.1 e
  exact ⟨(x.Kind, x.Name, x.Args, ()), ⟨[.int .i64 x.Kind], _, rfl, rfl, ⟨[.string x.Name], _, rfl, rfl, ⟨[.slice A2 x.Args.length c2], _, rfl, ⟨_, _, rfl, k2, r2⟩, rfl⟩⟩⟩, by rw [T_api_Type.bulk_eq]; exact Nat.le_refl _⟩)) N
structure T_api_Make where
  Name : ByteArray
  Args : (List T_api_Type)
def T_api_Make.E (h : Heap) (x : T_api_Make) (cs : List Value) : Prop := ∃ A1 c1, cs = [.string x.Name, .slice A1 x.Args.length c1] ∧ x.Args.length ≤ c1 ∧ Rd 3 T_api_Type.E h A1 x.Args
theorem T_api_Make.T : Tell 2 T_api_Make.E := ⟨by rintro m h x _ s ⟨A1, c1, rfl, k1, r1⟩; exact ⟨_, _, rfl, k1, r1.sub T_api_Type.T s⟩, by rintro h x _ ⟨A1, c1, rfl, k1, r1⟩; rfl, by rintro h x _ ⟨A1, c1, rfl, k1, r1⟩; exact Flats.cons trivial (Flats.cons trivial Flats.nil)⟩
def T_api_Make.Q (x : T_api_Make) : Prop := (x.Name.size ≤ 140737488351232) ∧ (x.Args.length * 48 ≤ 140737488351232 ∧ ∀ a ∈ x.Args, (T_api_Type.Q a))
theorem T_api_Make.tells {H : Type} {enc : TypeId × Value → H} {W : World} : Tells enc Tryd.prog W 82 T_api_Make.E T_api_Make.Q := tells_map (tells_struct (t := 82) (fs := [(9, 0), (53, 1)]) (T := 2) (by kernel_rfl) (by kernel_rfl) (tf_cons (s := 1) (f := 9) (by kernel_rfl) (tells_strL (t := 9) (by kernel_rfl)) (tf_cons (s := 1) (f := 53) (by kernel_rfl) (tells_sliceL (t := 53) (e := 55) (sz := 3) (B := 48) (by kernel_rfl) (by kernel_rfl) (by kernel_rfl) T_api_Type.tells) tf_nil))) (by
  rintro ⟨x0, x1, ⟨⟩⟩ cs e q
  obtain ⟨c0, r0, rfl, e0, c1, r1, rfl, e1, eN⟩ := e
  obtain rfl : c0 = [.string x0] := e0
  obtain ⟨A1, k1, rfl, l1, R1⟩ := e1
  obtain rfl : r1 = [] := eN
  exact ⟨⟨x0, x1⟩, ⟨_, _, rfl, l1, R1⟩, q.1, q.2.1⟩)
def T_api_Make.bulk (x : T_api_Make) : Nat := ((x.Name.size + 1) + (((List.map T_api_Type.bulk x.Args).sum + 1) + (0))) + 1
theorem T_api_Make.kt {H : Type} {bk : DataW H → Nat} {enc : TypeId × Value → H} {W : World} {N : Nat} (M : Measure bk) : KT N bk enc Tryd.prog W 82 T_api_Make.E T_api_Make.bulk := kt_down (kt_map (kt_struct M (t := 82) (fs := [(9, 0), (53, 1)]) (T := 2) (by kernel_rfl) (by kernel_rfl) (ktf_cons (s := 1) (f := 9) (by kernel_rfl) tell_str (kt_str (t := 9) M (by kernel_rfl)) (ktf_cons (s := 1) (f := 53) (by kernel_rfl) (tell_row T_api_Type.T) (kt_slice M (t := 53) (e := 55) (sz := 3) (by kernel_rfl) (by kernel_rfl) (T_api_Type.kt M)) ktf_nil))) (fun x cs e => by
  obtain ⟨A1, c1, rfl, k1, r1⟩ := e
  exact ⟨(x.Name, x.Args, ()), ⟨[.string x.Name], _, rfl, rfl, ⟨[.slice A1 x.Args.length c1], _, rfl, ⟨_, _, rfl, k1, r1⟩, rfl⟩⟩, Nat.le_refl _⟩))
structure T_api_Data where
  Name : ByteArray
  Params : (List ByteArray)
  Makes : (List T_api_Make)
def T_api_Data.E (h : Heap) (x : T_api_Data) (cs : List Value) : Prop := ∃ A1 c1 A2 c2, cs = [.string x.Name, .slice A1 x.Params.length c1, .slice A2 x.Makes.length c2] ∧ x.Params.length ≤ c1 ∧ Rd 1 eStr h A1 x.Params ∧ x.Makes.length ≤ c2 ∧ Rd 2 T_api_Make.E h A2 x.Makes
theorem T_api_Data.T : Tell 3 T_api_Data.E := ⟨by rintro m h x _ s ⟨A1, c1, A2, c2, rfl, k1, r1, k2, r2⟩; exact ⟨_, _, _, _, rfl, k1, r1.sub tell_str s, k2, r2.sub T_api_Make.T s⟩, by rintro h x _ ⟨A1, c1, A2, c2, rfl, k1, r1, k2, r2⟩; rfl, by rintro h x _ ⟨A1, c1, A2, c2, rfl, k1, r1, k2, r2⟩; exact Flats.cons trivial (Flats.cons trivial (Flats.cons trivial Flats.nil))⟩
def T_api_Data.Q (x : T_api_Data) : Prop := (x.Name.size ≤ 140737488351232) ∧ (x.Params.length * 16 ≤ 140737488351232 ∧ ∀ a ∈ x.Params, (a.size ≤ 140737488351232)) ∧ (x.Makes.length * 40 ≤ 140737488351232 ∧ ∀ a ∈ x.Makes, (T_api_Make.Q a))
theorem T_api_Data.tells {H : Type} {enc : TypeId × Value → H} {W : World} : Tells enc Tryd.prog W 45 T_api_Data.E T_api_Data.Q := tells_map (tells_struct (t := 45) (fs := [(9, 0), (42, 1), (43, 2)]) (T := 3) (by kernel_rfl) (by kernel_rfl) (tf_cons (s := 1) (f := 9) (by kernel_rfl) (tells_strL (t := 9) (by kernel_rfl)) (tf_cons (s := 1) (f := 42) (by kernel_rfl) (tells_sliceL (t := 42) (e := 9) (sz := 1) (B := 16) (by kernel_rfl) (by kernel_rfl) (by kernel_rfl) (tells_strL (t := 9) (by kernel_rfl))) (tf_cons (s := 1) (f := 43) (by kernel_rfl) (tells_sliceL (t := 43) (e := 82) (sz := 2) (B := 40) (by kernel_rfl) (by kernel_rfl) (by kernel_rfl) T_api_Make.tells) tf_nil)))) (by
  rintro ⟨x0, x1, x2, ⟨⟩⟩ cs e q
  obtain ⟨c0, r0, rfl, e0, c1, r1, rfl, e1, c2, r2, rfl, e2, eN⟩ := e
  obtain rfl : c0 = [.string x0] := e0
  obtain ⟨A1, k1, rfl, l1, R1⟩ := e1
  obtain ⟨A2, k2, rfl, l2, R2⟩ := e2
  obtain rfl : r2 = [] := eN
  exact ⟨⟨x0, x1, x2⟩, ⟨_, _, _, _, rfl, l1, R1, l2, R2⟩, q.1, q.2.1, q.2.2.1⟩)
def T_api_Data.bulk (x : T_api_Data) : Nat := ((x.Name.size + 1) + (((List.map (fun s : ByteArray => s.size + 1) x.Params).sum + 1) + (((List.map T_api_Make.bulk x.Makes).sum + 1) + (0)))) + 1
theorem T_api_Data.kt {H : Type} {bk : DataW H → Nat} {enc : TypeId × Value → H} {W : World} {N : Nat} (M : Measure bk) : KT N bk enc Tryd.prog W 45 T_api_Data.E T_api_Data.bulk := kt_down (kt_map (kt_struct M (t := 45) (fs := [(9, 0), (42, 1), (43, 2)]) (T := 3) (by kernel_rfl) (by kernel_rfl) (ktf_cons (s := 1) (f := 9) (by kernel_rfl) tell_str (kt_str (t := 9) M (by kernel_rfl)) (ktf_cons (s := 1) (f := 42) (by kernel_rfl) (tell_row tell_str) (kt_slice M (t := 42) (e := 9) (sz := 1) (by kernel_rfl) (by kernel_rfl) (kt_str (t := 9) M (by kernel_rfl))) (ktf_cons (s := 1) (f := 43) (by kernel_rfl) (tell_row T_api_Make.T) (kt_slice M (t := 43) (e := 82) (sz := 2) (by kernel_rfl) (by kernel_rfl) (T_api_Make.kt M)) ktf_nil)))) (fun x cs e => by
  obtain ⟨A1, c1, A2, c2, rfl, k1, r1, k2, r2⟩ := e
  exact ⟨(x.Name, x.Params, x.Makes, ()), ⟨[.string x.Name], _, rfl, rfl, ⟨[.slice A1 x.Params.length c1], _, rfl, ⟨_, _, rfl, k1, r1⟩, ⟨[.slice A2 x.Makes.length c2], _, rfl, ⟨_, _, rfl, k2, r2⟩, rfl⟩⟩⟩, Nat.le_refl _⟩))
structure T_api_Pat where
  Kind : Int
  Num : Int
  Text : ByteArray
  Args : (List T_api_Pat)
def T_api_Pat.E (h : Heap) : T_api_Pat → List Value → Prop
  | ⟨f0, f1, f2, f3⟩, cs => ∃ A3 c3, cs = [.int .i64 f0, .int .i64 f1, .string f2, .slice A3 f3.length c3] ∧ f3.length ≤ c3 ∧ (∀ i (hi : i < f3.length), ∃ a ds, A3 = some a ∧ cellsH h (a.add (i * 4)) 0 4 = some ds ∧ T_api_Pat.E h f3[i] ds)
  termination_by x => SizeOf.sizeOf x
  decreasing_by
    all_goals
      have h1 := List.sizeOf_lt_of_mem (List.getElem_mem hi)
      first
      | (simp_all; omega)
theorem T_api_Pat.iff {h : Heap} {x : T_api_Pat} {cs : List Value} : T_api_Pat.E h x cs ↔ ∃ A3 c3, cs = [.int .i64 x.Kind, .int .i64 x.Num, .string x.Text, .slice A3 x.Args.length c3] ∧ x.Args.length ≤ c3 ∧ Rd 4 T_api_Pat.E h A3 x.Args := by
  cases x
  rw [T_api_Pat.E]
  exact Iff.rfl
theorem T_api_Pat.mono {m h : Heap} (s : Sub m h) : ∀ (x : T_api_Pat) (cs : List Value), T_api_Pat.E m x cs → T_api_Pat.E h x cs
  | ⟨f0, f1, f2, f3⟩, cs, e => by
    rw [T_api_Pat.E] at e ⊢
    obtain ⟨A3, c3, h1, k3, r3⟩ := e
    exact ⟨A3, c3, h1, k3, fun i hi => let ⟨a, ds, h1, h2, h3⟩ := r3 i hi; ⟨a, ds, h1, s.cells _ _ h2, T_api_Pat.mono s _ _ h3⟩⟩
  termination_by x => SizeOf.sizeOf x
  decreasing_by
    all_goals
      have h1 := List.sizeOf_lt_of_mem (List.getElem_mem hi)
      first
      | (simp_all; omega)
theorem T_api_Pat.T : Tell 4 T_api_Pat.E := ⟨fun _ _ x cs s e => T_api_Pat.mono s x cs e, by intro h x cs e; obtain ⟨A3, c3, rfl, k3, r3⟩ := T_api_Pat.iff.1 e; rfl, by intro h x cs e; obtain ⟨A3, c3, rfl, k3, r3⟩ := T_api_Pat.iff.1 e; exact Flats.cons trivial (Flats.cons trivial (Flats.cons trivial (Flats.cons trivial Flats.nil)))⟩
def T_api_Pat.Q : T_api_Pat → Prop
  | ⟨f0, f1, f2, f3⟩ => (-9223372036854775808 ≤ f0 ∧ f0 ≤ 9223372036854775807) ∧ (-9223372036854775808 ≤ f1 ∧ f1 ≤ 9223372036854775807) ∧ (f2.size ≤ 140737488351232) ∧ (f3.length * 56 ≤ 140737488351232 ∧ ∀ i (hi : i < f3.length), T_api_Pat.Q f3[i])
  termination_by x => SizeOf.sizeOf x
  decreasing_by
    all_goals
      have h1 := List.sizeOf_lt_of_mem (List.getElem_mem hi)
      first
      | (simp_all; omega)
theorem T_api_Pat.Q_iff {x : T_api_Pat} : T_api_Pat.Q x ↔ (-9223372036854775808 ≤ x.Kind ∧ x.Kind ≤ 9223372036854775807) ∧ (-9223372036854775808 ≤ x.Num ∧ x.Num ≤ 9223372036854775807) ∧ (x.Text.size ≤ 140737488351232) ∧ (x.Args.length * 56 ≤ 140737488351232 ∧ ∀ a ∈ x.Args, T_api_Pat.Q a) := by
  obtain ⟨f0, f1, f2, f3⟩ := x
  rw [T_api_Pat.Q]
  show _ ↔ (-9223372036854775808 ≤ f0 ∧ f0 ≤ 9223372036854775807) ∧ (-9223372036854775808 ≤ f1 ∧ f1 ≤ 9223372036854775807) ∧ (f2.size ≤ 140737488351232) ∧ (f3.length * 56 ≤ 140737488351232 ∧ ∀ a ∈ f3, T_api_Pat.Q a)
  rw [← forall_get (l := f3) (p := T_api_Pat.Q)]
theorem T_api_Pat.tells {H : Type} {enc : TypeId × Value → H} {W : World} : Tells enc Tryd.prog W 102 T_api_Pat.E T_api_Pat.Q := tells_rec fun N ih => tellsU_map (tellsU_struct (t := 102) (fs := [(3, 0), (3, 1), (9, 2), (100, 3)]) (T := 4) (by kernel_rfl) (by kernel_rfl) (tfU_cons (s := 1) (f := 3) (by kernel_rfl) (Tells.up (tells_i64 (t := 3) (by kernel_rfl))) (tfU_cons (s := 1) (f := 3) (by kernel_rfl) (Tells.up (tells_i64 (t := 3) (by kernel_rfl))) (tfU_cons (s := 1) (f := 9) (by kernel_rfl) (Tells.up (tells_strL (t := 9) (by kernel_rfl))) (tfU_cons (s := 1) (f := 100) (by kernel_rfl) (tellsU_slice (t := 100) (e := 102) (sz := 4) (B := 56) (by kernel_rfl) (by kernel_rfl) (by kernel_rfl) ih) tfU_nil))))) (by
  rintro ⟨x0, x1, x2, x3, ⟨⟩⟩ cs e q
  obtain ⟨c0, r0, rfl, e0, c1, r1, rfl, e1, c2, r2, rfl, e2, c3, r3, rfl, e3, eN⟩ := e
  obtain rfl : c0 = [.int .i64 x0] := e0
  obtain rfl : c1 = [.int .i64 x1] := e1
  obtain rfl : c2 = [.string x2] := e2
  obtain ⟨A3, k3, rfl, l3, R3⟩ := e3
  obtain rfl : r3 = [] := eN
  exact ⟨⟨x0, x1, x2, x3⟩, T_api_Pat.iff.2 ⟨_, _, rfl, l3, R3⟩, T_api_Pat.Q_iff.2 ⟨q.1, q.2.1, q.2.2.1, q.2.2.2.1⟩⟩)
def T_api_Pat.bulk : T_api_Pat → Nat
  | ⟨f0, f1, f2, f3⟩ => (1 + (1 + ((f2.size + 1) + (((f3.attach.map fun y => T_api_Pat.bulk y.1).sum + 1) + (0))))) + 1
  termination_by x => SizeOf.sizeOf x
  decreasing_by
    all_goals
      have h1 := List.sizeOf_lt_of_mem y.2
      first
      | (simp_all; omega)
theorem T_api_Pat.bulk_eq (x : T_api_Pat) : T_api_Pat.bulk x = (1 + (1 + ((x.Text.size + 1) + (((List.map T_api_Pat.bulk x.Args).sum + 1) + (0))))) + 1 := by
  obtain ⟨f0, f1, f2, f3⟩ := x
  rw [T_api_Pat.bulk]
  rw [(List.attach_map_val : (f3.attach.map fun i => T_api_Pat.bulk i.1) = f3.map T_api_Pat.bulk)]
theorem T_api_Pat.kt {H : Type} {bk : DataW H → Nat} {enc : TypeId × Value → H} {W : World} {N : Nat} (M : Measure bk) : KT N bk enc Tryd.prog W 102 T_api_Pat.E T_api_Pat.bulk := kt_rec (fun N ih => kt_map (kt_struct M (t := 102) (fs := [(3, 0), (3, 1), (9, 2), (100, 3)]) (T := 4) (by kernel_rfl) (by kernel_rfl) (ktf_cons (s := 1) (f := 3) (by kernel_rfl) (tell_int .i64) (kt_one M) (ktf_cons (s := 1) (f := 3) (by kernel_rfl) (tell_int .i64) (kt_one M) (ktf_cons (s := 1) (f := 9) (by kernel_rfl) tell_str (kt_str (t := 9) M (by kernel_rfl)) (ktf_cons (s := 1) (f := 100) (by kernel_rfl) (tell_row T_api_Pat.T) (kt_slice M (t := 100) (e := 102) (sz := 4) (by kernel_rfl) (by kernel_rfl) ih) ktf_nil))))) (fun x cs e => by
  obtain ⟨A3, c3, rfl, k3, r3⟩ := T_api_Pat.iff.1 e
  exact ⟨(x.Kind, x.Num, x.Text, x.Args, ()), ⟨[.int .i64 x.Kind], _, rfl, rfl, ⟨[.int .i64 x.Num], _, rfl, rfl, ⟨[.string x.Text], _, rfl, rfl, ⟨[.slice A3 x.Args.length c3], _, rfl, ⟨_, _, rfl, k3, r3⟩, rfl⟩⟩⟩⟩, by rw [T_api_Pat.bulk_eq]; exact Nat.le_refl _⟩)) N
mutual
structure T_api_Expr where
  Kind : Int
  Num : Int
  Text : ByteArray
  Names : (List ByteArray)
  Types : (List T_api_Type)
  Args : (List T_api_Expr)
  Arms : (List T_api_Arm)
  At : Int
structure T_api_Arm where
  Pat : T_api_Pat
  Body : T_api_Expr
end
theorem T_api_Arm.lt_Body (x : T_api_Arm) : SizeOf.sizeOf x.Body < SizeOf.sizeOf x := by cases x; simp; omega
def T_api_Expr.E (h : Heap) : T_api_Expr → List Value → Prop
  | ⟨f0, f1, f2, f3, f4, f5, f6, f7⟩, cs => ∃ A3 c3 A4 c4 A5 c5 A6 c6, cs = [.int .i64 f0, .int .i64 f1, .string f2, .slice A3 f3.length c3, .slice A4 f4.length c4, .slice A5 f5.length c5, .slice A6 f6.length c6, .int .i64 f7] ∧ f3.length ≤ c3 ∧ Rd 1 eStr h A3 f3 ∧ f4.length ≤ c4 ∧ Rd 3 T_api_Type.E h A4 f4 ∧ f5.length ≤ c5 ∧ (∀ i (hi : i < f5.length), ∃ a ds, A5 = some a ∧ cellsH h (a.add (i * 8)) 0 8 = some ds ∧ T_api_Expr.E h f5[i] ds) ∧ f6.length ≤ c6 ∧ (∀ i (hi : i < f6.length), ∃ a ds, A6 = some a ∧ cellsH h (a.add (i * 12)) 0 12 = some ds ∧ ∃ d0 d1, ds = d0 ++ d1 ∧ T_api_Pat.E h f6[i].Pat d0 ∧ T_api_Expr.E h f6[i].Body d1)
  termination_by x => SizeOf.sizeOf x
  decreasing_by
    all_goals
      have h1 := List.sizeOf_lt_of_mem (List.getElem_mem hi)
      first
      | (simp_all; omega)
      | (have h2 := T_api_Arm.lt_Body (f6[i]'hi); simp_all; omega)
def T_api_Arm.E (h : Heap) (x : T_api_Arm) (cs : List Value) : Prop := ∃ d0 d1, cs = d0 ++ d1 ∧ T_api_Pat.E h x.Pat d0 ∧ T_api_Expr.E h x.Body d1
theorem T_api_Expr.iff {h : Heap} {x : T_api_Expr} {cs : List Value} : T_api_Expr.E h x cs ↔ ∃ A3 c3 A4 c4 A5 c5 A6 c6, cs = [.int .i64 x.Kind, .int .i64 x.Num, .string x.Text, .slice A3 x.Names.length c3, .slice A4 x.Types.length c4, .slice A5 x.Args.length c5, .slice A6 x.Arms.length c6, .int .i64 x.At] ∧ x.Names.length ≤ c3 ∧ Rd 1 eStr h A3 x.Names ∧ x.Types.length ≤ c4 ∧ Rd 3 T_api_Type.E h A4 x.Types ∧ x.Args.length ≤ c5 ∧ Rd 8 T_api_Expr.E h A5 x.Args ∧ x.Arms.length ≤ c6 ∧ Rd 12 T_api_Arm.E h A6 x.Arms := by
  cases x
  rw [T_api_Expr.E]
  exact Iff.rfl
theorem T_api_Expr.mono {m h : Heap} (s : Sub m h) : ∀ (x : T_api_Expr) (cs : List Value), T_api_Expr.E m x cs → T_api_Expr.E h x cs
  | ⟨f0, f1, f2, f3, f4, f5, f6, f7⟩, cs, e => by
    rw [T_api_Expr.E] at e ⊢
    obtain ⟨A3, c3, A4, c4, A5, c5, A6, c6, h1, k3, r3, k4, r4, k5, r5, k6, r6⟩ := e
    exact ⟨A3, c3, A4, c4, A5, c5, A6, c6, h1, k3, r3.sub tell_str s, k4, r4.sub T_api_Type.T s, k5, fun i hi => let ⟨a, ds, h1, h2, h3⟩ := r5 i hi; ⟨a, ds, h1, s.cells _ _ h2, T_api_Expr.mono s _ _ h3⟩, k6, fun i hi => let ⟨a, ds, h1, h2, d0, d1, h4, e0, e1⟩ := r6 i hi; ⟨a, ds, h1, s.cells _ _ h2, d0, d1, h4, T_api_Pat.T.mono _ _ _ _ s e0, T_api_Expr.mono s _ _ e1⟩⟩
  termination_by x => SizeOf.sizeOf x
  decreasing_by
    all_goals
      have h1 := List.sizeOf_lt_of_mem (List.getElem_mem hi)
      first
      | (simp_all; omega)
      | (have h2 := T_api_Arm.lt_Body (f6[i]'hi); simp_all; omega)
theorem T_api_Expr.T : Tell 8 T_api_Expr.E := ⟨fun _ _ x cs s e => T_api_Expr.mono s x cs e, by intro h x cs e; obtain ⟨A3, c3, A4, c4, A5, c5, A6, c6, rfl, k3, r3, k4, r4, k5, r5, k6, r6⟩ := T_api_Expr.iff.1 e; rfl, by intro h x cs e; obtain ⟨A3, c3, A4, c4, A5, c5, A6, c6, rfl, k3, r3, k4, r4, k5, r5, k6, r6⟩ := T_api_Expr.iff.1 e; exact Flats.cons trivial (Flats.cons trivial (Flats.cons trivial (Flats.cons trivial (Flats.cons trivial (Flats.cons trivial (Flats.cons trivial (Flats.cons trivial Flats.nil)))))))⟩
theorem T_api_Arm.iff {h : Heap} {x : T_api_Arm} {cs : List Value} : T_api_Arm.E h x cs ↔ ∃ A3 c3 A7 c7 A8 c8 A9 c9 A10 c10, cs = [.int .i64 x.Pat.Kind, .int .i64 x.Pat.Num, .string x.Pat.Text, .slice A3 x.Pat.Args.length c3, .int .i64 x.Body.Kind, .int .i64 x.Body.Num, .string x.Body.Text, .slice A7 x.Body.Names.length c7, .slice A8 x.Body.Types.length c8, .slice A9 x.Body.Args.length c9, .slice A10 x.Body.Arms.length c10, .int .i64 x.Body.At] ∧ x.Pat.Args.length ≤ c3 ∧ Rd 4 T_api_Pat.E h A3 x.Pat.Args ∧ x.Body.Names.length ≤ c7 ∧ Rd 1 eStr h A7 x.Body.Names ∧ x.Body.Types.length ≤ c8 ∧ Rd 3 T_api_Type.E h A8 x.Body.Types ∧ x.Body.Args.length ≤ c9 ∧ Rd 8 T_api_Expr.E h A9 x.Body.Args ∧ x.Body.Arms.length ≤ c10 ∧ Rd 12 T_api_Arm.E h A10 x.Body.Arms := by
  constructor
  · rintro ⟨d0, d1, rfl, e0, e1⟩
    obtain ⟨A3, c3, rfl, k3, r3⟩ := T_api_Pat.iff.1 e0
    obtain ⟨A7, c7, A8, c8, A9, c9, A10, c10, rfl, k7, r7, k8, r8, k9, r9, k10, r10⟩ := T_api_Expr.iff.1 e1
    exact ⟨A3, c3, A7, c7, A8, c8, A9, c9, A10, c10, rfl, k3, r3, k7, r7, k8, r8, k9, r9, k10, r10⟩
  · rintro ⟨A3, c3, A7, c7, A8, c8, A9, c9, A10, c10, rfl, k3, r3, k7, r7, k8, r8, k9, r9, k10, r10⟩
    exact ⟨[.int .i64 x.Pat.Kind, .int .i64 x.Pat.Num, .string x.Pat.Text, .slice A3 x.Pat.Args.length c3], [.int .i64 x.Body.Kind, .int .i64 x.Body.Num, .string x.Body.Text, .slice A7 x.Body.Names.length c7, .slice A8 x.Body.Types.length c8, .slice A9 x.Body.Args.length c9, .slice A10 x.Body.Arms.length c10, .int .i64 x.Body.At], rfl, T_api_Pat.iff.2 ⟨A3, c3, rfl, k3, r3⟩, T_api_Expr.iff.2 ⟨A7, c7, A8, c8, A9, c9, A10, c10, rfl, k7, r7, k8, r8, k9, r9, k10, r10⟩⟩
theorem T_api_Arm.T : Tell 12 T_api_Arm.E := ⟨by rintro m h x _ s ⟨d0, d1, rfl, e0, e1⟩; exact ⟨d0, d1, rfl, T_api_Pat.T.mono _ _ _ _ s e0, T_api_Expr.T.mono _ _ _ _ s e1⟩, by intro h x cs e; obtain ⟨A3, c3, A7, c7, A8, c8, A9, c9, A10, c10, rfl, k3, r3, k7, r7, k8, r8, k9, r9, k10, r10⟩ := T_api_Arm.iff.1 e; rfl, by intro h x cs e; obtain ⟨A3, c3, A7, c7, A8, c8, A9, c9, A10, c10, rfl, k3, r3, k7, r7, k8, r8, k9, r9, k10, r10⟩ := T_api_Arm.iff.1 e; exact Flats.cons trivial (Flats.cons trivial (Flats.cons trivial (Flats.cons trivial (Flats.cons trivial (Flats.cons trivial (Flats.cons trivial (Flats.cons trivial (Flats.cons trivial (Flats.cons trivial (Flats.cons trivial (Flats.cons trivial Flats.nil)))))))))))⟩
def T_api_Expr.Q : T_api_Expr → Prop
  | ⟨f0, f1, f2, f3, f4, f5, f6, f7⟩ => (-9223372036854775808 ≤ f0 ∧ f0 ≤ 9223372036854775807) ∧ (-9223372036854775808 ≤ f1 ∧ f1 ≤ 9223372036854775807) ∧ (f2.size ≤ 140737488351232) ∧ (f3.length * 16 ≤ 140737488351232 ∧ ∀ a ∈ f3, (a.size ≤ 140737488351232)) ∧ (f4.length * 48 ≤ 140737488351232 ∧ ∀ a ∈ f4, (T_api_Type.Q a)) ∧ (f5.length * 136 ≤ 140737488351232 ∧ ∀ i (hi : i < f5.length), T_api_Expr.Q f5[i]) ∧ (f6.length * 192 ≤ 140737488351232 ∧ ∀ i (hi : i < f6.length), (T_api_Pat.Q f6[i].Pat) ∧ (T_api_Expr.Q f6[i].Body)) ∧ (-9223372036854775808 ≤ f7 ∧ f7 ≤ 9223372036854775807)
  termination_by x => SizeOf.sizeOf x
  decreasing_by
    all_goals
      have h1 := List.sizeOf_lt_of_mem (List.getElem_mem hi)
      first
      | (simp_all; omega)
      | (have h2 := T_api_Arm.lt_Body (f6[i]'hi); simp_all; omega)
def T_api_Arm.Q (x : T_api_Arm) : Prop := (T_api_Pat.Q x.Pat) ∧ (T_api_Expr.Q x.Body)
theorem T_api_Expr.Q_iff {x : T_api_Expr} : T_api_Expr.Q x ↔ (-9223372036854775808 ≤ x.Kind ∧ x.Kind ≤ 9223372036854775807) ∧ (-9223372036854775808 ≤ x.Num ∧ x.Num ≤ 9223372036854775807) ∧ (x.Text.size ≤ 140737488351232) ∧ (x.Names.length * 16 ≤ 140737488351232 ∧ ∀ a ∈ x.Names, (a.size ≤ 140737488351232)) ∧ (x.Types.length * 48 ≤ 140737488351232 ∧ ∀ a ∈ x.Types, (T_api_Type.Q a)) ∧ (x.Args.length * 136 ≤ 140737488351232 ∧ ∀ a ∈ x.Args, T_api_Expr.Q a) ∧ (x.Arms.length * 192 ≤ 140737488351232 ∧ ∀ a ∈ x.Arms, T_api_Arm.Q a) ∧ (-9223372036854775808 ≤ x.At ∧ x.At ≤ 9223372036854775807) := by
  obtain ⟨f0, f1, f2, f3, f4, f5, f6, f7⟩ := x
  rw [T_api_Expr.Q]
  show _ ↔ (-9223372036854775808 ≤ f0 ∧ f0 ≤ 9223372036854775807) ∧ (-9223372036854775808 ≤ f1 ∧ f1 ≤ 9223372036854775807) ∧ (f2.size ≤ 140737488351232) ∧ (f3.length * 16 ≤ 140737488351232 ∧ ∀ a ∈ f3, (a.size ≤ 140737488351232)) ∧ (f4.length * 48 ≤ 140737488351232 ∧ ∀ a ∈ f4, (T_api_Type.Q a)) ∧ (f5.length * 136 ≤ 140737488351232 ∧ ∀ a ∈ f5, T_api_Expr.Q a) ∧ (f6.length * 192 ≤ 140737488351232 ∧ ∀ a ∈ f6, T_api_Arm.Q a) ∧ (-9223372036854775808 ≤ f7 ∧ f7 ≤ 9223372036854775807)
  rw [← forall_get (l := f5) (p := T_api_Expr.Q), ← forall_get (l := f6) (p := T_api_Arm.Q)]
  exact Iff.rfl
theorem T_api_Arm.tellsU {H : Type} {enc : TypeId × Value → H} {W : World} {N : Nat} (ih : TellsU N enc Tryd.prog W 59 T_api_Expr.E T_api_Expr.Q) : TellsU (N + 1) enc Tryd.prog W 104 T_api_Arm.E T_api_Arm.Q := tellsU_map (tellsU_struct (t := 104) (fs := [(102, 0), (59, 4)]) (T := 12) (by kernel_rfl) (by kernel_rfl) (tfU_cons (s := 4) (f := 102) (by kernel_rfl) (Tells.up T_api_Pat.tells) (tfU_cons (s := 8) (f := 59) (by kernel_rfl) ih tfU_nil))) (by
  rintro ⟨x0, x1, ⟨⟩⟩ cs e q
  obtain ⟨c0, r0, rfl, e0, c1, r1, rfl, e1, eN⟩ := e
  obtain rfl : r1 = [] := eN
  exact ⟨⟨x0, x1⟩, ⟨_, _, by simp, e0, e1⟩, q.1, q.2.1⟩)
theorem T_api_Expr.tells {H : Type} {enc : TypeId × Value → H} {W : World} : Tells enc Tryd.prog W 59 T_api_Expr.E T_api_Expr.Q := tells_rec fun N ih => tellsU_map (tellsU_struct (t := 59) (fs := [(3, 0), (3, 1), (9, 2), (42, 3), (53, 4), (56, 5), (57, 6), (3, 7)]) (T := 8) (by kernel_rfl) (by kernel_rfl) (tfU_cons (s := 1) (f := 3) (by kernel_rfl) (Tells.up (tells_i64 (t := 3) (by kernel_rfl))) (tfU_cons (s := 1) (f := 3) (by kernel_rfl) (Tells.up (tells_i64 (t := 3) (by kernel_rfl))) (tfU_cons (s := 1) (f := 9) (by kernel_rfl) (Tells.up (tells_strL (t := 9) (by kernel_rfl))) (tfU_cons (s := 1) (f := 42) (by kernel_rfl) (Tells.up (tells_sliceL (t := 42) (e := 9) (sz := 1) (B := 16) (by kernel_rfl) (by kernel_rfl) (by kernel_rfl) (tells_strL (t := 9) (by kernel_rfl)))) (tfU_cons (s := 1) (f := 53) (by kernel_rfl) (Tells.up (tells_sliceL (t := 53) (e := 55) (sz := 3) (B := 48) (by kernel_rfl) (by kernel_rfl) (by kernel_rfl) T_api_Type.tells)) (tfU_cons (s := 1) (f := 56) (by kernel_rfl) (tellsU_slice (t := 56) (e := 59) (sz := 8) (B := 136) (by kernel_rfl) (by kernel_rfl) (by kernel_rfl) ih) (tfU_cons (s := 1) (f := 57) (by kernel_rfl) (tellsU_slice (t := 57) (e := 104) (sz := 12) (B := 192) (by kernel_rfl) (by kernel_rfl) (by kernel_rfl) (tellsU_down (T_api_Arm.tellsU ih))) (tfU_cons (s := 1) (f := 3) (by kernel_rfl) (Tells.up (tells_i64 (t := 3) (by kernel_rfl))) tfU_nil))))))))) (by
  rintro ⟨x0, x1, x2, x3, x4, x5, x6, x7, ⟨⟩⟩ cs e q
  obtain ⟨c0, r0, rfl, e0, c1, r1, rfl, e1, c2, r2, rfl, e2, c3, r3, rfl, e3, c4, r4, rfl, e4, c5, r5, rfl, e5, c6, r6, rfl, e6, c7, r7, rfl, e7, eN⟩ := e
  obtain rfl : c0 = [.int .i64 x0] := e0
  obtain rfl : c1 = [.int .i64 x1] := e1
  obtain rfl : c2 = [.string x2] := e2
  obtain ⟨A3, k3, rfl, l3, R3⟩ := e3
  obtain ⟨A4, k4, rfl, l4, R4⟩ := e4
  obtain ⟨A5, k5, rfl, l5, R5⟩ := e5
  obtain ⟨A6, k6, rfl, l6, R6⟩ := e6
  obtain rfl : c7 = [.int .i64 x7] := e7
  obtain rfl : r7 = [] := eN
  exact ⟨⟨x0, x1, x2, x3, x4, x5, x6, x7⟩, T_api_Expr.iff.2 ⟨_, _, _, _, _, _, _, _, rfl, l3, R3, l4, R4, l5, R5, l6, R6⟩, T_api_Expr.Q_iff.2 ⟨q.1, q.2.1, q.2.2.1, q.2.2.2.1, q.2.2.2.2.1, q.2.2.2.2.2.1, q.2.2.2.2.2.2.1, q.2.2.2.2.2.2.2.1⟩⟩)
def T_api_Expr.bulk : T_api_Expr → Nat
  | ⟨f0, f1, f2, f3, f4, f5, f6, f7⟩ => (1 + (1 + ((f2.size + 1) + (((List.map (fun s : ByteArray => s.size + 1) f3).sum + 1) + (((List.map T_api_Type.bulk f4).sum + 1) + (((f5.attach.map fun y => T_api_Expr.bulk y.1).sum + 1) + (((f6.attach.map fun y => ((T_api_Pat.bulk y.1.Pat) + ((T_api_Expr.bulk y.1.Body) + (0))) + 1).sum + 1) + (1 + (0))))))))) + 1
  termination_by x => SizeOf.sizeOf x
  decreasing_by
    all_goals
      have h1 := List.sizeOf_lt_of_mem y.2
      first
      | (simp_all; omega)
      | (have h2 := T_api_Arm.lt_Body y.1; simp_all; omega)
def T_api_Arm.bulk (x : T_api_Arm) : Nat := ((T_api_Pat.bulk x.Pat) + ((T_api_Expr.bulk x.Body) + (0))) + 1
theorem T_api_Expr.bulk_eq (x : T_api_Expr) : T_api_Expr.bulk x = (1 + (1 + ((x.Text.size + 1) + (((List.map (fun s : ByteArray => s.size + 1) x.Names).sum + 1) + (((List.map T_api_Type.bulk x.Types).sum + 1) + (((List.map T_api_Expr.bulk x.Args).sum + 1) + (((List.map T_api_Arm.bulk x.Arms).sum + 1) + (1 + (0))))))))) + 1 := by
  obtain ⟨f0, f1, f2, f3, f4, f5, f6, f7⟩ := x
  rw [T_api_Expr.bulk]
  rw [(List.attach_map_val : (f5.attach.map fun i => T_api_Expr.bulk i.1) = f5.map T_api_Expr.bulk)]
  rw [show (f6.attach.map fun y => ((T_api_Pat.bulk y.1.Pat) + ((T_api_Expr.bulk y.1.Body) + (0))) + 1) = (f6.attach.map fun y => T_api_Arm.bulk y.1) from rfl, (List.attach_map_val : (f6.attach.map fun i => T_api_Arm.bulk i.1) = f6.map T_api_Arm.bulk)]
theorem T_api_Arm.ktU {H : Type} {bk : DataW H → Nat} {enc : TypeId × Value → H} {W : World} {N : Nat} (M : Measure bk) (ih : KT N bk enc Tryd.prog W 59 T_api_Expr.E T_api_Expr.bulk) : KT (N + 1) bk enc Tryd.prog W 104 T_api_Arm.E T_api_Arm.bulk := kt_map (kt_struct M (t := 104) (fs := [(102, 0), (59, 4)]) (T := 12) (by kernel_rfl) (by kernel_rfl) (ktf_cons (s := 4) (f := 102) (by kernel_rfl) T_api_Pat.T (T_api_Pat.kt M) (ktf_cons (s := 8) (f := 59) (by kernel_rfl) T_api_Expr.T ih ktf_nil))) (fun x cs e => by
  obtain ⟨d0, d1, rfl, e0, e1⟩ := e
  exact ⟨(x.Pat, x.Body, ()), ⟨d0, _, rfl, e0, ⟨d1, _, (List.append_nil _).symm, e1, rfl⟩⟩, Nat.le_refl _⟩)
theorem T_api_Expr.kt {H : Type} {bk : DataW H → Nat} {enc : TypeId × Value → H} {W : World} {N : Nat} (M : Measure bk) : KT N bk enc Tryd.prog W 59 T_api_Expr.E T_api_Expr.bulk := kt_rec (fun N ih => kt_map (kt_struct M (t := 59) (fs := [(3, 0), (3, 1), (9, 2), (42, 3), (53, 4), (56, 5), (57, 6), (3, 7)]) (T := 8) (by kernel_rfl) (by kernel_rfl) (ktf_cons (s := 1) (f := 3) (by kernel_rfl) (tell_int .i64) (kt_one M) (ktf_cons (s := 1) (f := 3) (by kernel_rfl) (tell_int .i64) (kt_one M) (ktf_cons (s := 1) (f := 9) (by kernel_rfl) tell_str (kt_str (t := 9) M (by kernel_rfl)) (ktf_cons (s := 1) (f := 42) (by kernel_rfl) (tell_row tell_str) (kt_slice M (t := 42) (e := 9) (sz := 1) (by kernel_rfl) (by kernel_rfl) (kt_str (t := 9) M (by kernel_rfl))) (ktf_cons (s := 1) (f := 53) (by kernel_rfl) (tell_row T_api_Type.T) (kt_slice M (t := 53) (e := 55) (sz := 3) (by kernel_rfl) (by kernel_rfl) (T_api_Type.kt M)) (ktf_cons (s := 1) (f := 56) (by kernel_rfl) (tell_row T_api_Expr.T) (kt_slice M (t := 56) (e := 59) (sz := 8) (by kernel_rfl) (by kernel_rfl) ih) (ktf_cons (s := 1) (f := 57) (by kernel_rfl) (tell_row T_api_Arm.T) (kt_slice M (t := 57) (e := 104) (sz := 12) (by kernel_rfl) (by kernel_rfl) (kt_down (T_api_Arm.ktU M ih))) (ktf_cons (s := 1) (f := 3) (by kernel_rfl) (tell_int .i64) (kt_one M) ktf_nil))))))))) (fun x cs e => by
  obtain ⟨A3, c3, A4, c4, A5, c5, A6, c6, rfl, k3, r3, k4, r4, k5, r5, k6, r6⟩ := T_api_Expr.iff.1 e
  exact ⟨(x.Kind, x.Num, x.Text, x.Names, x.Types, x.Args, x.Arms, x.At, ()), ⟨[.int .i64 x.Kind], _, rfl, rfl, ⟨[.int .i64 x.Num], _, rfl, rfl, ⟨[.string x.Text], _, rfl, rfl, ⟨[.slice A3 x.Names.length c3], _, rfl, ⟨_, _, rfl, k3, r3⟩, ⟨[.slice A4 x.Types.length c4], _, rfl, ⟨_, _, rfl, k4, r4⟩, ⟨[.slice A5 x.Args.length c5], _, rfl, ⟨_, _, rfl, k5, r5⟩, ⟨[.slice A6 x.Arms.length c6], _, rfl, ⟨_, _, rfl, k6, r6⟩, ⟨[.int .i64 x.At], _, rfl, rfl, rfl⟩⟩⟩⟩⟩⟩⟩⟩, by rw [T_api_Expr.bulk_eq]; exact Nat.le_refl _⟩)) N
structure T_api_Func where
  Name : ByteArray
  Params : (List ByteArray)
  Names : (List ByteArray)
  Types : (List T_api_Type)
  Out : T_api_Type
  Body : T_api_Expr
def T_api_Func.E (h : Heap) (x : T_api_Func) (cs : List Value) : Prop := ∃ A1 c1 A2 c2 A3 c3 A6 c6 A10 c10 A11 c11 A12 c12 A13 c13, cs = [.string x.Name, .slice A1 x.Params.length c1, .slice A2 x.Names.length c2, .slice A3 x.Types.length c3, .int .i64 x.Out.Kind, .string x.Out.Name, .slice A6 x.Out.Args.length c6, .int .i64 x.Body.Kind, .int .i64 x.Body.Num, .string x.Body.Text, .slice A10 x.Body.Names.length c10, .slice A11 x.Body.Types.length c11, .slice A12 x.Body.Args.length c12, .slice A13 x.Body.Arms.length c13, .int .i64 x.Body.At] ∧ x.Params.length ≤ c1 ∧ Rd 1 eStr h A1 x.Params ∧ x.Names.length ≤ c2 ∧ Rd 1 eStr h A2 x.Names ∧ x.Types.length ≤ c3 ∧ Rd 3 T_api_Type.E h A3 x.Types ∧ x.Out.Args.length ≤ c6 ∧ Rd 3 T_api_Type.E h A6 x.Out.Args ∧ x.Body.Names.length ≤ c10 ∧ Rd 1 eStr h A10 x.Body.Names ∧ x.Body.Types.length ≤ c11 ∧ Rd 3 T_api_Type.E h A11 x.Body.Types ∧ x.Body.Args.length ≤ c12 ∧ Rd 8 T_api_Expr.E h A12 x.Body.Args ∧ x.Body.Arms.length ≤ c13 ∧ Rd 12 T_api_Arm.E h A13 x.Body.Arms
theorem T_api_Func.T : Tell 15 T_api_Func.E := ⟨by rintro m h x _ s ⟨A1, c1, A2, c2, A3, c3, A6, c6, A10, c10, A11, c11, A12, c12, A13, c13, rfl, k1, r1, k2, r2, k3, r3, k6, r6, k10, r10, k11, r11, k12, r12, k13, r13⟩; exact ⟨_, _, _, _, _, _, _, _, _, _, _, _, _, _, _, _, rfl, k1, r1.sub tell_str s, k2, r2.sub tell_str s, k3, r3.sub T_api_Type.T s, k6, r6.sub T_api_Type.T s, k10, r10.sub tell_str s, k11, r11.sub T_api_Type.T s, k12, r12.sub T_api_Expr.T s, k13, r13.sub T_api_Arm.T s⟩, by rintro h x _ ⟨A1, c1, A2, c2, A3, c3, A6, c6, A10, c10, A11, c11, A12, c12, A13, c13, rfl, k1, r1, k2, r2, k3, r3, k6, r6, k10, r10, k11, r11, k12, r12, k13, r13⟩; rfl, by rintro h x _ ⟨A1, c1, A2, c2, A3, c3, A6, c6, A10, c10, A11, c11, A12, c12, A13, c13, rfl, k1, r1, k2, r2, k3, r3, k6, r6, k10, r10, k11, r11, k12, r12, k13, r13⟩; exact Flats.cons trivial (Flats.cons trivial (Flats.cons trivial (Flats.cons trivial (Flats.cons trivial (Flats.cons trivial (Flats.cons trivial (Flats.cons trivial (Flats.cons trivial (Flats.cons trivial (Flats.cons trivial (Flats.cons trivial (Flats.cons trivial (Flats.cons trivial (Flats.cons trivial Flats.nil))))))))))))))⟩
def T_api_Func.Q (x : T_api_Func) : Prop := (x.Name.size ≤ 140737488351232) ∧ (x.Params.length * 16 ≤ 140737488351232 ∧ ∀ a ∈ x.Params, (a.size ≤ 140737488351232)) ∧ (x.Names.length * 16 ≤ 140737488351232 ∧ ∀ a ∈ x.Names, (a.size ≤ 140737488351232)) ∧ (x.Types.length * 48 ≤ 140737488351232 ∧ ∀ a ∈ x.Types, (T_api_Type.Q a)) ∧ (T_api_Type.Q x.Out) ∧ (T_api_Expr.Q x.Body)
theorem T_api_Func.tells {H : Type} {enc : TypeId × Value → H} {W : World} : Tells enc Tryd.prog W 61 T_api_Func.E T_api_Func.Q := tells_map (tells_struct (t := 61) (fs := [(9, 0), (42, 1), (42, 2), (53, 3), (55, 4), (59, 7)]) (T := 15) (by kernel_rfl) (by kernel_rfl) (tf_cons (s := 1) (f := 9) (by kernel_rfl) (tells_strL (t := 9) (by kernel_rfl)) (tf_cons (s := 1) (f := 42) (by kernel_rfl) (tells_sliceL (t := 42) (e := 9) (sz := 1) (B := 16) (by kernel_rfl) (by kernel_rfl) (by kernel_rfl) (tells_strL (t := 9) (by kernel_rfl))) (tf_cons (s := 1) (f := 42) (by kernel_rfl) (tells_sliceL (t := 42) (e := 9) (sz := 1) (B := 16) (by kernel_rfl) (by kernel_rfl) (by kernel_rfl) (tells_strL (t := 9) (by kernel_rfl))) (tf_cons (s := 1) (f := 53) (by kernel_rfl) (tells_sliceL (t := 53) (e := 55) (sz := 3) (B := 48) (by kernel_rfl) (by kernel_rfl) (by kernel_rfl) T_api_Type.tells) (tf_cons (s := 3) (f := 55) (by kernel_rfl) T_api_Type.tells (tf_cons (s := 8) (f := 59) (by kernel_rfl) T_api_Expr.tells tf_nil))))))) (by
  rintro ⟨x0, x1, x2, x3, x4, x5, ⟨⟩⟩ cs e q
  obtain ⟨c0, r0, rfl, e0, c1, r1, rfl, e1, c2, r2, rfl, e2, c3, r3, rfl, e3, c4, r4, rfl, e4, c5, r5, rfl, e5, eN⟩ := e
  obtain rfl : c0 = [.string x0] := e0
  obtain ⟨A1, k1, rfl, l1, R1⟩ := e1
  obtain ⟨A2, k2, rfl, l2, R2⟩ := e2
  obtain ⟨A3, k3, rfl, l3, R3⟩ := e3
  obtain ⟨A4_2, k4_2, rfl, l4_2, R4_2⟩ := T_api_Type.iff.1 e4
  obtain ⟨A5_3, k5_3, A5_4, k5_4, A5_5, k5_5, A5_6, k5_6, rfl, l5_3, R5_3, l5_4, R5_4, l5_5, R5_5, l5_6, R5_6⟩ := T_api_Expr.iff.1 e5
  obtain rfl : r5 = [] := eN
  exact ⟨⟨x0, x1, x2, x3, x4, x5⟩, ⟨_, _, _, _, _, _, _, _, _, _, _, _, _, _, _, _, rfl, l1, R1, l2, R2, l3, R3, l4_2, R4_2, l5_3, R5_3, l5_4, R5_4, l5_5, R5_5, l5_6, R5_6⟩, q.1, q.2.1, q.2.2.1, q.2.2.2.1, q.2.2.2.2.1, q.2.2.2.2.2.1⟩)
def T_api_Func.bulk (x : T_api_Func) : Nat := ((x.Name.size + 1) + (((List.map (fun s : ByteArray => s.size + 1) x.Params).sum + 1) + (((List.map (fun s : ByteArray => s.size + 1) x.Names).sum + 1) + (((List.map T_api_Type.bulk x.Types).sum + 1) + ((T_api_Type.bulk x.Out) + ((T_api_Expr.bulk x.Body) + (0))))))) + 1
theorem T_api_Func.kt {H : Type} {bk : DataW H → Nat} {enc : TypeId × Value → H} {W : World} {N : Nat} (M : Measure bk) : KT N bk enc Tryd.prog W 61 T_api_Func.E T_api_Func.bulk := kt_down (kt_map (kt_struct M (t := 61) (fs := [(9, 0), (42, 1), (42, 2), (53, 3), (55, 4), (59, 7)]) (T := 15) (by kernel_rfl) (by kernel_rfl) (ktf_cons (s := 1) (f := 9) (by kernel_rfl) tell_str (kt_str (t := 9) M (by kernel_rfl)) (ktf_cons (s := 1) (f := 42) (by kernel_rfl) (tell_row tell_str) (kt_slice M (t := 42) (e := 9) (sz := 1) (by kernel_rfl) (by kernel_rfl) (kt_str (t := 9) M (by kernel_rfl))) (ktf_cons (s := 1) (f := 42) (by kernel_rfl) (tell_row tell_str) (kt_slice M (t := 42) (e := 9) (sz := 1) (by kernel_rfl) (by kernel_rfl) (kt_str (t := 9) M (by kernel_rfl))) (ktf_cons (s := 1) (f := 53) (by kernel_rfl) (tell_row T_api_Type.T) (kt_slice M (t := 53) (e := 55) (sz := 3) (by kernel_rfl) (by kernel_rfl) (T_api_Type.kt M)) (ktf_cons (s := 3) (f := 55) (by kernel_rfl) T_api_Type.T (T_api_Type.kt M) (ktf_cons (s := 8) (f := 59) (by kernel_rfl) T_api_Expr.T (T_api_Expr.kt M) ktf_nil))))))) (fun x cs e => by
  obtain ⟨A1, c1, A2, c2, A3, c3, A4_2, c4_2, A5_3, c5_3, A5_4, c5_4, A5_5, c5_5, A5_6, c5_6, rfl, k1, r1, k2, r2, k3, r3, k4_2, r4_2, k5_3, r5_3, k5_4, r5_4, k5_5, r5_5, k5_6, r5_6⟩ := e
  exact ⟨(x.Name, x.Params, x.Names, x.Types, x.Out, x.Body, ()), ⟨[.string x.Name], _, rfl, rfl, ⟨[.slice A1 x.Params.length c1], _, rfl, ⟨_, _, rfl, k1, r1⟩, ⟨[.slice A2 x.Names.length c2], _, rfl, ⟨_, _, rfl, k2, r2⟩, ⟨[.slice A3 x.Types.length c3], _, rfl, ⟨_, _, rfl, k3, r3⟩, ⟨[.int .i64 x.Out.Kind, .string x.Out.Name, .slice A4_2 x.Out.Args.length c4_2], _, rfl, T_api_Type.iff.2 ⟨_, _, rfl, k4_2, r4_2⟩, ⟨[.int .i64 x.Body.Kind, .int .i64 x.Body.Num, .string x.Body.Text, .slice A5_3 x.Body.Names.length c5_3, .slice A5_4 x.Body.Types.length c5_4, .slice A5_5 x.Body.Args.length c5_5, .slice A5_6 x.Body.Arms.length c5_6, .int .i64 x.Body.At], _, rfl, T_api_Expr.iff.2 ⟨_, _, _, _, _, _, _, _, rfl, k5_3, r5_3, k5_4, r5_4, k5_5, r5_5, k5_6, r5_6⟩, rfl⟩⟩⟩⟩⟩⟩, Nat.le_refl _⟩))
structure T_api_Trait where
  Name : ByteArray
  Funcs : (List T_api_Func)
def T_api_Trait.E (h : Heap) (x : T_api_Trait) (cs : List Value) : Prop := ∃ A1 c1, cs = [.string x.Name, .slice A1 x.Funcs.length c1] ∧ x.Funcs.length ≤ c1 ∧ Rd 15 T_api_Func.E h A1 x.Funcs
theorem T_api_Trait.T : Tell 2 T_api_Trait.E := ⟨by rintro m h x _ s ⟨A1, c1, rfl, k1, r1⟩; exact ⟨_, _, rfl, k1, r1.sub T_api_Func.T s⟩, by rintro h x _ ⟨A1, c1, rfl, k1, r1⟩; rfl, by rintro h x _ ⟨A1, c1, rfl, k1, r1⟩; exact Flats.cons trivial (Flats.cons trivial Flats.nil)⟩
def T_api_Trait.Q (x : T_api_Trait) : Prop := (x.Name.size ≤ 140737488351232) ∧ (x.Funcs.length * 272 ≤ 140737488351232 ∧ ∀ a ∈ x.Funcs, (T_api_Func.Q a))
theorem T_api_Trait.tells {H : Type} {enc : TypeId × Value → H} {W : World} : Tells enc Tryd.prog W 48 T_api_Trait.E T_api_Trait.Q := tells_map (tells_struct (t := 48) (fs := [(9, 0), (26, 1)]) (T := 2) (by kernel_rfl) (by kernel_rfl) (tf_cons (s := 1) (f := 9) (by kernel_rfl) (tells_strL (t := 9) (by kernel_rfl)) (tf_cons (s := 1) (f := 26) (by kernel_rfl) (tells_sliceL (t := 26) (e := 61) (sz := 15) (B := 272) (by kernel_rfl) (by kernel_rfl) (by kernel_rfl) T_api_Func.tells) tf_nil))) (by
  rintro ⟨x0, x1, ⟨⟩⟩ cs e q
  obtain ⟨c0, r0, rfl, e0, c1, r1, rfl, e1, eN⟩ := e
  obtain rfl : c0 = [.string x0] := e0
  obtain ⟨A1, k1, rfl, l1, R1⟩ := e1
  obtain rfl : r1 = [] := eN
  exact ⟨⟨x0, x1⟩, ⟨_, _, rfl, l1, R1⟩, q.1, q.2.1⟩)
def T_api_Trait.bulk (x : T_api_Trait) : Nat := ((x.Name.size + 1) + (((List.map T_api_Func.bulk x.Funcs).sum + 1) + (0))) + 1
theorem T_api_Trait.kt {H : Type} {bk : DataW H → Nat} {enc : TypeId × Value → H} {W : World} {N : Nat} (M : Measure bk) : KT N bk enc Tryd.prog W 48 T_api_Trait.E T_api_Trait.bulk := kt_down (kt_map (kt_struct M (t := 48) (fs := [(9, 0), (26, 1)]) (T := 2) (by kernel_rfl) (by kernel_rfl) (ktf_cons (s := 1) (f := 9) (by kernel_rfl) tell_str (kt_str (t := 9) M (by kernel_rfl)) (ktf_cons (s := 1) (f := 26) (by kernel_rfl) (tell_row T_api_Func.T) (kt_slice M (t := 26) (e := 61) (sz := 15) (by kernel_rfl) (by kernel_rfl) (T_api_Func.kt M)) ktf_nil))) (fun x cs e => by
  obtain ⟨A1, c1, rfl, k1, r1⟩ := e
  exact ⟨(x.Name, x.Funcs, ()), ⟨[.string x.Name], _, rfl, rfl, ⟨[.slice A1 x.Funcs.length c1], _, rfl, ⟨_, _, rfl, k1, r1⟩, rfl⟩⟩, Nat.le_refl _⟩))
structure T_api_Impl where
  Trait : ByteArray
  For : ByteArray
  Funcs : (List T_api_Func)
def T_api_Impl.E (h : Heap) (x : T_api_Impl) (cs : List Value) : Prop := ∃ A2 c2, cs = [.string x.Trait, .string x.For, .slice A2 x.Funcs.length c2] ∧ x.Funcs.length ≤ c2 ∧ Rd 15 T_api_Func.E h A2 x.Funcs
theorem T_api_Impl.T : Tell 3 T_api_Impl.E := ⟨by rintro m h x _ s ⟨A2, c2, rfl, k2, r2⟩; exact ⟨_, _, rfl, k2, r2.sub T_api_Func.T s⟩, by rintro h x _ ⟨A2, c2, rfl, k2, r2⟩; rfl, by rintro h x _ ⟨A2, c2, rfl, k2, r2⟩; exact Flats.cons trivial (Flats.cons trivial (Flats.cons trivial Flats.nil))⟩
def T_api_Impl.Q (x : T_api_Impl) : Prop := (x.Trait.size ≤ 140737488351232) ∧ (x.For.size ≤ 140737488351232) ∧ (x.Funcs.length * 272 ≤ 140737488351232 ∧ ∀ a ∈ x.Funcs, (T_api_Func.Q a))
theorem T_api_Impl.tells {H : Type} {enc : TypeId × Value → H} {W : World} : Tells enc Tryd.prog W 51 T_api_Impl.E T_api_Impl.Q := tells_map (tells_struct (t := 51) (fs := [(9, 0), (9, 1), (26, 2)]) (T := 3) (by kernel_rfl) (by kernel_rfl) (tf_cons (s := 1) (f := 9) (by kernel_rfl) (tells_strL (t := 9) (by kernel_rfl)) (tf_cons (s := 1) (f := 9) (by kernel_rfl) (tells_strL (t := 9) (by kernel_rfl)) (tf_cons (s := 1) (f := 26) (by kernel_rfl) (tells_sliceL (t := 26) (e := 61) (sz := 15) (B := 272) (by kernel_rfl) (by kernel_rfl) (by kernel_rfl) T_api_Func.tells) tf_nil)))) (by
  rintro ⟨x0, x1, x2, ⟨⟩⟩ cs e q
  obtain ⟨c0, r0, rfl, e0, c1, r1, rfl, e1, c2, r2, rfl, e2, eN⟩ := e
  obtain rfl : c0 = [.string x0] := e0
  obtain rfl : c1 = [.string x1] := e1
  obtain ⟨A2, k2, rfl, l2, R2⟩ := e2
  obtain rfl : r2 = [] := eN
  exact ⟨⟨x0, x1, x2⟩, ⟨_, _, rfl, l2, R2⟩, q.1, q.2.1, q.2.2.1⟩)
def T_api_Impl.bulk (x : T_api_Impl) : Nat := ((x.Trait.size + 1) + ((x.For.size + 1) + (((List.map T_api_Func.bulk x.Funcs).sum + 1) + (0)))) + 1
theorem T_api_Impl.kt {H : Type} {bk : DataW H → Nat} {enc : TypeId × Value → H} {W : World} {N : Nat} (M : Measure bk) : KT N bk enc Tryd.prog W 51 T_api_Impl.E T_api_Impl.bulk := kt_down (kt_map (kt_struct M (t := 51) (fs := [(9, 0), (9, 1), (26, 2)]) (T := 3) (by kernel_rfl) (by kernel_rfl) (ktf_cons (s := 1) (f := 9) (by kernel_rfl) tell_str (kt_str (t := 9) M (by kernel_rfl)) (ktf_cons (s := 1) (f := 9) (by kernel_rfl) tell_str (kt_str (t := 9) M (by kernel_rfl)) (ktf_cons (s := 1) (f := 26) (by kernel_rfl) (tell_row T_api_Func.T) (kt_slice M (t := 26) (e := 61) (sz := 15) (by kernel_rfl) (by kernel_rfl) (T_api_Func.kt M)) ktf_nil)))) (fun x cs e => by
  obtain ⟨A2, c2, rfl, k2, r2⟩ := e
  exact ⟨(x.Trait, x.For, x.Funcs, ()), ⟨[.string x.Trait], _, rfl, rfl, ⟨[.string x.For], _, rfl, rfl, ⟨[.slice A2 x.Funcs.length c2], _, rfl, ⟨_, _, rfl, k2, r2⟩, rfl⟩⟩⟩, Nat.le_refl _⟩))
structure T_api_Actor where
  Name : ByteArray
  Names : (List ByteArray)
  Types : (List T_api_Type)
  Msg : T_api_Type
  Body : T_api_Expr
def T_api_Actor.E (h : Heap) (x : T_api_Actor) (cs : List Value) : Prop := ∃ A1 c1 A2 c2 A5 c5 A9 c9 A10 c10 A11 c11 A12 c12, cs = [.string x.Name, .slice A1 x.Names.length c1, .slice A2 x.Types.length c2, .int .i64 x.Msg.Kind, .string x.Msg.Name, .slice A5 x.Msg.Args.length c5, .int .i64 x.Body.Kind, .int .i64 x.Body.Num, .string x.Body.Text, .slice A9 x.Body.Names.length c9, .slice A10 x.Body.Types.length c10, .slice A11 x.Body.Args.length c11, .slice A12 x.Body.Arms.length c12, .int .i64 x.Body.At] ∧ x.Names.length ≤ c1 ∧ Rd 1 eStr h A1 x.Names ∧ x.Types.length ≤ c2 ∧ Rd 3 T_api_Type.E h A2 x.Types ∧ x.Msg.Args.length ≤ c5 ∧ Rd 3 T_api_Type.E h A5 x.Msg.Args ∧ x.Body.Names.length ≤ c9 ∧ Rd 1 eStr h A9 x.Body.Names ∧ x.Body.Types.length ≤ c10 ∧ Rd 3 T_api_Type.E h A10 x.Body.Types ∧ x.Body.Args.length ≤ c11 ∧ Rd 8 T_api_Expr.E h A11 x.Body.Args ∧ x.Body.Arms.length ≤ c12 ∧ Rd 12 T_api_Arm.E h A12 x.Body.Arms
theorem T_api_Actor.T : Tell 14 T_api_Actor.E := ⟨by rintro m h x _ s ⟨A1, c1, A2, c2, A5, c5, A9, c9, A10, c10, A11, c11, A12, c12, rfl, k1, r1, k2, r2, k5, r5, k9, r9, k10, r10, k11, r11, k12, r12⟩; exact ⟨_, _, _, _, _, _, _, _, _, _, _, _, _, _, rfl, k1, r1.sub tell_str s, k2, r2.sub T_api_Type.T s, k5, r5.sub T_api_Type.T s, k9, r9.sub tell_str s, k10, r10.sub T_api_Type.T s, k11, r11.sub T_api_Expr.T s, k12, r12.sub T_api_Arm.T s⟩, by rintro h x _ ⟨A1, c1, A2, c2, A5, c5, A9, c9, A10, c10, A11, c11, A12, c12, rfl, k1, r1, k2, r2, k5, r5, k9, r9, k10, r10, k11, r11, k12, r12⟩; rfl, by rintro h x _ ⟨A1, c1, A2, c2, A5, c5, A9, c9, A10, c10, A11, c11, A12, c12, rfl, k1, r1, k2, r2, k5, r5, k9, r9, k10, r10, k11, r11, k12, r12⟩; exact Flats.cons trivial (Flats.cons trivial (Flats.cons trivial (Flats.cons trivial (Flats.cons trivial (Flats.cons trivial (Flats.cons trivial (Flats.cons trivial (Flats.cons trivial (Flats.cons trivial (Flats.cons trivial (Flats.cons trivial (Flats.cons trivial (Flats.cons trivial Flats.nil)))))))))))))⟩
def T_api_Actor.Q (x : T_api_Actor) : Prop := (x.Name.size ≤ 140737488351232) ∧ (x.Names.length * 16 ≤ 140737488351232 ∧ ∀ a ∈ x.Names, (a.size ≤ 140737488351232)) ∧ (x.Types.length * 48 ≤ 140737488351232 ∧ ∀ a ∈ x.Types, (T_api_Type.Q a)) ∧ (T_api_Type.Q x.Msg) ∧ (T_api_Expr.Q x.Body)
theorem T_api_Actor.tells {H : Type} {enc : TypeId × Value → H} {W : World} : Tells enc Tryd.prog W 64 T_api_Actor.E T_api_Actor.Q := tells_map (tells_struct (t := 64) (fs := [(9, 0), (42, 1), (53, 2), (55, 3), (59, 6)]) (T := 14) (by kernel_rfl) (by kernel_rfl) (tf_cons (s := 1) (f := 9) (by kernel_rfl) (tells_strL (t := 9) (by kernel_rfl)) (tf_cons (s := 1) (f := 42) (by kernel_rfl) (tells_sliceL (t := 42) (e := 9) (sz := 1) (B := 16) (by kernel_rfl) (by kernel_rfl) (by kernel_rfl) (tells_strL (t := 9) (by kernel_rfl))) (tf_cons (s := 1) (f := 53) (by kernel_rfl) (tells_sliceL (t := 53) (e := 55) (sz := 3) (B := 48) (by kernel_rfl) (by kernel_rfl) (by kernel_rfl) T_api_Type.tells) (tf_cons (s := 3) (f := 55) (by kernel_rfl) T_api_Type.tells (tf_cons (s := 8) (f := 59) (by kernel_rfl) T_api_Expr.tells tf_nil)))))) (by
  rintro ⟨x0, x1, x2, x3, x4, ⟨⟩⟩ cs e q
  obtain ⟨c0, r0, rfl, e0, c1, r1, rfl, e1, c2, r2, rfl, e2, c3, r3, rfl, e3, c4, r4, rfl, e4, eN⟩ := e
  obtain rfl : c0 = [.string x0] := e0
  obtain ⟨A1, k1, rfl, l1, R1⟩ := e1
  obtain ⟨A2, k2, rfl, l2, R2⟩ := e2
  obtain ⟨A3_2, k3_2, rfl, l3_2, R3_2⟩ := T_api_Type.iff.1 e3
  obtain ⟨A4_3, k4_3, A4_4, k4_4, A4_5, k4_5, A4_6, k4_6, rfl, l4_3, R4_3, l4_4, R4_4, l4_5, R4_5, l4_6, R4_6⟩ := T_api_Expr.iff.1 e4
  obtain rfl : r4 = [] := eN
  exact ⟨⟨x0, x1, x2, x3, x4⟩, ⟨_, _, _, _, _, _, _, _, _, _, _, _, _, _, rfl, l1, R1, l2, R2, l3_2, R3_2, l4_3, R4_3, l4_4, R4_4, l4_5, R4_5, l4_6, R4_6⟩, q.1, q.2.1, q.2.2.1, q.2.2.2.1, q.2.2.2.2.1⟩)
def T_api_Actor.bulk (x : T_api_Actor) : Nat := ((x.Name.size + 1) + (((List.map (fun s : ByteArray => s.size + 1) x.Names).sum + 1) + (((List.map T_api_Type.bulk x.Types).sum + 1) + ((T_api_Type.bulk x.Msg) + ((T_api_Expr.bulk x.Body) + (0)))))) + 1
theorem T_api_Actor.kt {H : Type} {bk : DataW H → Nat} {enc : TypeId × Value → H} {W : World} {N : Nat} (M : Measure bk) : KT N bk enc Tryd.prog W 64 T_api_Actor.E T_api_Actor.bulk := kt_down (kt_map (kt_struct M (t := 64) (fs := [(9, 0), (42, 1), (53, 2), (55, 3), (59, 6)]) (T := 14) (by kernel_rfl) (by kernel_rfl) (ktf_cons (s := 1) (f := 9) (by kernel_rfl) tell_str (kt_str (t := 9) M (by kernel_rfl)) (ktf_cons (s := 1) (f := 42) (by kernel_rfl) (tell_row tell_str) (kt_slice M (t := 42) (e := 9) (sz := 1) (by kernel_rfl) (by kernel_rfl) (kt_str (t := 9) M (by kernel_rfl))) (ktf_cons (s := 1) (f := 53) (by kernel_rfl) (tell_row T_api_Type.T) (kt_slice M (t := 53) (e := 55) (sz := 3) (by kernel_rfl) (by kernel_rfl) (T_api_Type.kt M)) (ktf_cons (s := 3) (f := 55) (by kernel_rfl) T_api_Type.T (T_api_Type.kt M) (ktf_cons (s := 8) (f := 59) (by kernel_rfl) T_api_Expr.T (T_api_Expr.kt M) ktf_nil)))))) (fun x cs e => by
  obtain ⟨A1, c1, A2, c2, A3_2, c3_2, A4_3, c4_3, A4_4, c4_4, A4_5, c4_5, A4_6, c4_6, rfl, k1, r1, k2, r2, k3_2, r3_2, k4_3, r4_3, k4_4, r4_4, k4_5, r4_5, k4_6, r4_6⟩ := e
  exact ⟨(x.Name, x.Names, x.Types, x.Msg, x.Body, ()), ⟨[.string x.Name], _, rfl, rfl, ⟨[.slice A1 x.Names.length c1], _, rfl, ⟨_, _, rfl, k1, r1⟩, ⟨[.slice A2 x.Types.length c2], _, rfl, ⟨_, _, rfl, k2, r2⟩, ⟨[.int .i64 x.Msg.Kind, .string x.Msg.Name, .slice A3_2 x.Msg.Args.length c3_2], _, rfl, T_api_Type.iff.2 ⟨_, _, rfl, k3_2, r3_2⟩, ⟨[.int .i64 x.Body.Kind, .int .i64 x.Body.Num, .string x.Body.Text, .slice A4_3 x.Body.Names.length c4_3, .slice A4_4 x.Body.Types.length c4_4, .slice A4_5 x.Body.Args.length c4_5, .slice A4_6 x.Body.Arms.length c4_6, .int .i64 x.Body.At], _, rfl, T_api_Expr.iff.2 ⟨_, _, _, _, _, _, _, _, rfl, k4_3, r4_3, k4_4, r4_4, k4_5, r4_5, k4_6, r4_6⟩, rfl⟩⟩⟩⟩⟩, Nat.le_refl _⟩))
structure T_api_Program where
  Name : ByteArray
  Version : Int
  Uses : (List T_api_Use)
  Datas : (List T_api_Data)
  Traits : (List T_api_Trait)
  Impls : (List T_api_Impl)
  Funcs : (List T_api_Func)
  Actors : (List T_api_Actor)
def T_api_Program.E (h : Heap) (x : T_api_Program) (cs : List Value) : Prop := ∃ A2 c2 A3 c3 A4 c4 A5 c5 A6 c6 A7 c7, cs = [.string x.Name, .int .i64 x.Version, .slice A2 x.Uses.length c2, .slice A3 x.Datas.length c3, .slice A4 x.Traits.length c4, .slice A5 x.Impls.length c5, .slice A6 x.Funcs.length c6, .slice A7 x.Actors.length c7] ∧ x.Uses.length ≤ c2 ∧ Rd 3 T_api_Use.E h A2 x.Uses ∧ x.Datas.length ≤ c3 ∧ Rd 3 T_api_Data.E h A3 x.Datas ∧ x.Traits.length ≤ c4 ∧ Rd 2 T_api_Trait.E h A4 x.Traits ∧ x.Impls.length ≤ c5 ∧ Rd 3 T_api_Impl.E h A5 x.Impls ∧ x.Funcs.length ≤ c6 ∧ Rd 15 T_api_Func.E h A6 x.Funcs ∧ x.Actors.length ≤ c7 ∧ Rd 14 T_api_Actor.E h A7 x.Actors
theorem T_api_Program.T : Tell 8 T_api_Program.E := ⟨by rintro m h x _ s ⟨A2, c2, A3, c3, A4, c4, A5, c5, A6, c6, A7, c7, rfl, k2, r2, k3, r3, k4, r4, k5, r5, k6, r6, k7, r7⟩; exact ⟨_, _, _, _, _, _, _, _, _, _, _, _, rfl, k2, r2.sub T_api_Use.T s, k3, r3.sub T_api_Data.T s, k4, r4.sub T_api_Trait.T s, k5, r5.sub T_api_Impl.T s, k6, r6.sub T_api_Func.T s, k7, r7.sub T_api_Actor.T s⟩, by rintro h x _ ⟨A2, c2, A3, c3, A4, c4, A5, c5, A6, c6, A7, c7, rfl, k2, r2, k3, r3, k4, r4, k5, r5, k6, r6, k7, r7⟩; rfl, by rintro h x _ ⟨A2, c2, A3, c3, A4, c4, A5, c5, A6, c6, A7, c7, rfl, k2, r2, k3, r3, k4, r4, k5, r5, k6, r6, k7, r7⟩; exact Flats.cons trivial (Flats.cons trivial (Flats.cons trivial (Flats.cons trivial (Flats.cons trivial (Flats.cons trivial (Flats.cons trivial (Flats.cons trivial Flats.nil)))))))⟩
def T_api_Program.Q (x : T_api_Program) : Prop := (x.Name.size ≤ 140737488351232) ∧ (-9223372036854775808 ≤ x.Version ∧ x.Version ≤ 9223372036854775807) ∧ (x.Uses.length * 32 ≤ 140737488351232 ∧ ∀ a ∈ x.Uses, (T_api_Use.Q a)) ∧ (x.Datas.length * 64 ≤ 140737488351232 ∧ ∀ a ∈ x.Datas, (T_api_Data.Q a)) ∧ (x.Traits.length * 40 ≤ 140737488351232 ∧ ∀ a ∈ x.Traits, (T_api_Trait.Q a)) ∧ (x.Impls.length * 56 ≤ 140737488351232 ∧ ∀ a ∈ x.Impls, (T_api_Impl.Q a)) ∧ (x.Funcs.length * 272 ≤ 140737488351232 ∧ ∀ a ∈ x.Funcs, (T_api_Func.Q a)) ∧ (x.Actors.length * 248 ≤ 140737488351232 ∧ ∀ a ∈ x.Actors, (T_api_Actor.Q a))
theorem T_api_Program.tells {H : Type} {enc : TypeId × Value → H} {W : World} : Tells enc Tryd.prog W 29 T_api_Program.E T_api_Program.Q := tells_map (tells_struct (t := 29) (fs := [(9, 0), (3, 1), (22, 2), (23, 3), (24, 4), (25, 5), (26, 6), (27, 7)]) (T := 8) (by kernel_rfl) (by kernel_rfl) (tf_cons (s := 1) (f := 9) (by kernel_rfl) (tells_strL (t := 9) (by kernel_rfl)) (tf_cons (s := 1) (f := 3) (by kernel_rfl) (tells_i64 (t := 3) (by kernel_rfl)) (tf_cons (s := 1) (f := 22) (by kernel_rfl) (tells_sliceL (t := 22) (e := 36) (sz := 3) (B := 32) (by kernel_rfl) (by kernel_rfl) (by kernel_rfl) T_api_Use.tells) (tf_cons (s := 1) (f := 23) (by kernel_rfl) (tells_sliceL (t := 23) (e := 45) (sz := 3) (B := 64) (by kernel_rfl) (by kernel_rfl) (by kernel_rfl) T_api_Data.tells) (tf_cons (s := 1) (f := 24) (by kernel_rfl) (tells_sliceL (t := 24) (e := 48) (sz := 2) (B := 40) (by kernel_rfl) (by kernel_rfl) (by kernel_rfl) T_api_Trait.tells) (tf_cons (s := 1) (f := 25) (by kernel_rfl) (tells_sliceL (t := 25) (e := 51) (sz := 3) (B := 56) (by kernel_rfl) (by kernel_rfl) (by kernel_rfl) T_api_Impl.tells) (tf_cons (s := 1) (f := 26) (by kernel_rfl) (tells_sliceL (t := 26) (e := 61) (sz := 15) (B := 272) (by kernel_rfl) (by kernel_rfl) (by kernel_rfl) T_api_Func.tells) (tf_cons (s := 1) (f := 27) (by kernel_rfl) (tells_sliceL (t := 27) (e := 64) (sz := 14) (B := 248) (by kernel_rfl) (by kernel_rfl) (by kernel_rfl) T_api_Actor.tells) tf_nil))))))))) (by
  rintro ⟨x0, x1, x2, x3, x4, x5, x6, x7, ⟨⟩⟩ cs e q
  obtain ⟨c0, r0, rfl, e0, c1, r1, rfl, e1, c2, r2, rfl, e2, c3, r3, rfl, e3, c4, r4, rfl, e4, c5, r5, rfl, e5, c6, r6, rfl, e6, c7, r7, rfl, e7, eN⟩ := e
  obtain rfl : c0 = [.string x0] := e0
  obtain rfl : c1 = [.int .i64 x1] := e1
  obtain ⟨A2, k2, rfl, l2, R2⟩ := e2
  obtain ⟨A3, k3, rfl, l3, R3⟩ := e3
  obtain ⟨A4, k4, rfl, l4, R4⟩ := e4
  obtain ⟨A5, k5, rfl, l5, R5⟩ := e5
  obtain ⟨A6, k6, rfl, l6, R6⟩ := e6
  obtain ⟨A7, k7, rfl, l7, R7⟩ := e7
  obtain rfl : r7 = [] := eN
  exact ⟨⟨x0, x1, x2, x3, x4, x5, x6, x7⟩, ⟨_, _, _, _, _, _, _, _, _, _, _, _, rfl, l2, R2, l3, R3, l4, R4, l5, R5, l6, R6, l7, R7⟩, q.1, q.2.1, q.2.2.1, q.2.2.2.1, q.2.2.2.2.1, q.2.2.2.2.2.1, q.2.2.2.2.2.2.1, q.2.2.2.2.2.2.2.1⟩)
def T_api_Program.bulk (x : T_api_Program) : Nat := ((x.Name.size + 1) + (1 + (((List.map T_api_Use.bulk x.Uses).sum + 1) + (((List.map T_api_Data.bulk x.Datas).sum + 1) + (((List.map T_api_Trait.bulk x.Traits).sum + 1) + (((List.map T_api_Impl.bulk x.Impls).sum + 1) + (((List.map T_api_Func.bulk x.Funcs).sum + 1) + (((List.map T_api_Actor.bulk x.Actors).sum + 1) + (0))))))))) + 1
theorem T_api_Program.kt {H : Type} {bk : DataW H → Nat} {enc : TypeId × Value → H} {W : World} {N : Nat} (M : Measure bk) : KT N bk enc Tryd.prog W 29 T_api_Program.E T_api_Program.bulk := kt_down (kt_map (kt_struct M (t := 29) (fs := [(9, 0), (3, 1), (22, 2), (23, 3), (24, 4), (25, 5), (26, 6), (27, 7)]) (T := 8) (by kernel_rfl) (by kernel_rfl) (ktf_cons (s := 1) (f := 9) (by kernel_rfl) tell_str (kt_str (t := 9) M (by kernel_rfl)) (ktf_cons (s := 1) (f := 3) (by kernel_rfl) (tell_int .i64) (kt_one M) (ktf_cons (s := 1) (f := 22) (by kernel_rfl) (tell_row T_api_Use.T) (kt_slice M (t := 22) (e := 36) (sz := 3) (by kernel_rfl) (by kernel_rfl) (T_api_Use.kt M)) (ktf_cons (s := 1) (f := 23) (by kernel_rfl) (tell_row T_api_Data.T) (kt_slice M (t := 23) (e := 45) (sz := 3) (by kernel_rfl) (by kernel_rfl) (T_api_Data.kt M)) (ktf_cons (s := 1) (f := 24) (by kernel_rfl) (tell_row T_api_Trait.T) (kt_slice M (t := 24) (e := 48) (sz := 2) (by kernel_rfl) (by kernel_rfl) (T_api_Trait.kt M)) (ktf_cons (s := 1) (f := 25) (by kernel_rfl) (tell_row T_api_Impl.T) (kt_slice M (t := 25) (e := 51) (sz := 3) (by kernel_rfl) (by kernel_rfl) (T_api_Impl.kt M)) (ktf_cons (s := 1) (f := 26) (by kernel_rfl) (tell_row T_api_Func.T) (kt_slice M (t := 26) (e := 61) (sz := 15) (by kernel_rfl) (by kernel_rfl) (T_api_Func.kt M)) (ktf_cons (s := 1) (f := 27) (by kernel_rfl) (tell_row T_api_Actor.T) (kt_slice M (t := 27) (e := 64) (sz := 14) (by kernel_rfl) (by kernel_rfl) (T_api_Actor.kt M)) ktf_nil))))))))) (fun x cs e => by
  obtain ⟨A2, c2, A3, c3, A4, c4, A5, c5, A6, c6, A7, c7, rfl, k2, r2, k3, r3, k4, r4, k5, r5, k6, r6, k7, r7⟩ := e
  exact ⟨(x.Name, x.Version, x.Uses, x.Datas, x.Traits, x.Impls, x.Funcs, x.Actors, ()), ⟨[.string x.Name], _, rfl, rfl, ⟨[.int .i64 x.Version], _, rfl, rfl, ⟨[.slice A2 x.Uses.length c2], _, rfl, ⟨_, _, rfl, k2, r2⟩, ⟨[.slice A3 x.Datas.length c3], _, rfl, ⟨_, _, rfl, k3, r3⟩, ⟨[.slice A4 x.Traits.length c4], _, rfl, ⟨_, _, rfl, k4, r4⟩, ⟨[.slice A5 x.Impls.length c5], _, rfl, ⟨_, _, rfl, k5, r5⟩, ⟨[.slice A6 x.Funcs.length c6], _, rfl, ⟨_, _, rfl, k6, r6⟩, ⟨[.slice A7 x.Actors.length c7], _, rfl, ⟨_, _, rfl, k7, r7⟩, rfl⟩⟩⟩⟩⟩⟩⟩⟩, Nat.le_refl _⟩))
theorem T_api_Program.g2 {m : Heap} {x : T_api_Program} {cs : List Value} (e : T_api_Program.E m x cs) : ∃ A c, cs[2]? = some (.slice A (List.length x.Uses) c) ∧ List.length x.Uses ≤ c ∧ Rd 3 T_api_Use.E m A x.Uses := by
  obtain ⟨A2, c2, A3, c3, A4, c4, A5, c5, A6, c6, A7, c7, rfl, k2, r2, k3, r3, k4, r4, k5, r5, k6, r6, k7, r7⟩ := e
  exact ⟨_, _, rfl, k2, r2⟩
theorem T_api_Program.g3 {m : Heap} {x : T_api_Program} {cs : List Value} (e : T_api_Program.E m x cs) : ∃ A c, cs[3]? = some (.slice A (List.length x.Datas) c) ∧ List.length x.Datas ≤ c ∧ Rd 3 T_api_Data.E m A x.Datas := by
  obtain ⟨A2, c2, A3, c3, A4, c4, A5, c5, A6, c6, A7, c7, rfl, k2, r2, k3, r3, k4, r4, k5, r5, k6, r6, k7, r7⟩ := e
  exact ⟨_, _, rfl, k3, r3⟩
theorem T_api_Program.g4 {m : Heap} {x : T_api_Program} {cs : List Value} (e : T_api_Program.E m x cs) : ∃ A c, cs[4]? = some (.slice A (List.length x.Traits) c) ∧ List.length x.Traits ≤ c ∧ Rd 2 T_api_Trait.E m A x.Traits := by
  obtain ⟨A2, c2, A3, c3, A4, c4, A5, c5, A6, c6, A7, c7, rfl, k2, r2, k3, r3, k4, r4, k5, r5, k6, r6, k7, r7⟩ := e
  exact ⟨_, _, rfl, k4, r4⟩
theorem T_api_Program.g5 {m : Heap} {x : T_api_Program} {cs : List Value} (e : T_api_Program.E m x cs) : ∃ A c, cs[5]? = some (.slice A (List.length x.Impls) c) ∧ List.length x.Impls ≤ c ∧ Rd 3 T_api_Impl.E m A x.Impls := by
  obtain ⟨A2, c2, A3, c3, A4, c4, A5, c5, A6, c6, A7, c7, rfl, k2, r2, k3, r3, k4, r4, k5, r5, k6, r6, k7, r7⟩ := e
  exact ⟨_, _, rfl, k5, r5⟩
theorem T_api_Program.g6 {m : Heap} {x : T_api_Program} {cs : List Value} (e : T_api_Program.E m x cs) : ∃ A c, cs[6]? = some (.slice A (List.length x.Funcs) c) ∧ List.length x.Funcs ≤ c ∧ Rd 15 T_api_Func.E m A x.Funcs := by
  obtain ⟨A2, c2, A3, c3, A4, c4, A5, c5, A6, c6, A7, c7, rfl, k2, r2, k3, r3, k4, r4, k5, r5, k6, r6, k7, r7⟩ := e
  exact ⟨_, _, rfl, k6, r6⟩
theorem T_api_Program.g7 {m : Heap} {x : T_api_Program} {cs : List Value} (e : T_api_Program.E m x cs) : ∃ A c, cs[7]? = some (.slice A (List.length x.Actors) c) ∧ List.length x.Actors ≤ c ∧ Rd 14 T_api_Actor.E m A x.Actors := by
  obtain ⟨A2, c2, A3, c3, A4, c4, A5, c5, A6, c6, A7, c7, rfl, k2, r2, k3, r3, k4, r4, k5, r5, k6, r6, k7, r7⟩ := e
  exact ⟨_, _, rfl, k7, r7⟩
theorem T_api_Program.s2 {m : Heap} {x : T_api_Program} {cs : List Value} (e : T_api_Program.E m x cs) {A : Option Addr} {n c : Nat} {l : (List T_api_Use)} (hn : n = List.length l) (k : List.length l ≤ c) (r : Rd 3 T_api_Use.E m A l) : T_api_Program.E m { x with Uses := l } (cs.set 2 (.slice A n c)) := by
  subst hn
  obtain ⟨A2, c2, A3, c3, A4, c4, A5, c5, A6, c6, A7, c7, rfl, k2, r2, k3, r3, k4, r4, k5, r5, k6, r6, k7, r7⟩ := e
  exact ⟨_, _, _, _, _, _, _, _, _, _, _, _, rfl, k, r, k3, r3, k4, r4, k5, r5, k6, r6, k7, r7⟩
theorem T_api_Program.s3 {m : Heap} {x : T_api_Program} {cs : List Value} (e : T_api_Program.E m x cs) {A : Option Addr} {n c : Nat} {l : (List T_api_Data)} (hn : n = List.length l) (k : List.length l ≤ c) (r : Rd 3 T_api_Data.E m A l) : T_api_Program.E m { x with Datas := l } (cs.set 3 (.slice A n c)) := by
  subst hn
  obtain ⟨A2, c2, A3, c3, A4, c4, A5, c5, A6, c6, A7, c7, rfl, k2, r2, k3, r3, k4, r4, k5, r5, k6, r6, k7, r7⟩ := e
  exact ⟨_, _, _, _, _, _, _, _, _, _, _, _, rfl, k2, r2, k, r, k4, r4, k5, r5, k6, r6, k7, r7⟩
theorem T_api_Program.s4 {m : Heap} {x : T_api_Program} {cs : List Value} (e : T_api_Program.E m x cs) {A : Option Addr} {n c : Nat} {l : (List T_api_Trait)} (hn : n = List.length l) (k : List.length l ≤ c) (r : Rd 2 T_api_Trait.E m A l) : T_api_Program.E m { x with Traits := l } (cs.set 4 (.slice A n c)) := by
  subst hn
  obtain ⟨A2, c2, A3, c3, A4, c4, A5, c5, A6, c6, A7, c7, rfl, k2, r2, k3, r3, k4, r4, k5, r5, k6, r6, k7, r7⟩ := e
  exact ⟨_, _, _, _, _, _, _, _, _, _, _, _, rfl, k2, r2, k3, r3, k, r, k5, r5, k6, r6, k7, r7⟩
theorem T_api_Program.s5 {m : Heap} {x : T_api_Program} {cs : List Value} (e : T_api_Program.E m x cs) {A : Option Addr} {n c : Nat} {l : (List T_api_Impl)} (hn : n = List.length l) (k : List.length l ≤ c) (r : Rd 3 T_api_Impl.E m A l) : T_api_Program.E m { x with Impls := l } (cs.set 5 (.slice A n c)) := by
  subst hn
  obtain ⟨A2, c2, A3, c3, A4, c4, A5, c5, A6, c6, A7, c7, rfl, k2, r2, k3, r3, k4, r4, k5, r5, k6, r6, k7, r7⟩ := e
  exact ⟨_, _, _, _, _, _, _, _, _, _, _, _, rfl, k2, r2, k3, r3, k4, r4, k, r, k6, r6, k7, r7⟩
theorem T_api_Program.s6 {m : Heap} {x : T_api_Program} {cs : List Value} (e : T_api_Program.E m x cs) {A : Option Addr} {n c : Nat} {l : (List T_api_Func)} (hn : n = List.length l) (k : List.length l ≤ c) (r : Rd 15 T_api_Func.E m A l) : T_api_Program.E m { x with Funcs := l } (cs.set 6 (.slice A n c)) := by
  subst hn
  obtain ⟨A2, c2, A3, c3, A4, c4, A5, c5, A6, c6, A7, c7, rfl, k2, r2, k3, r3, k4, r4, k5, r5, k6, r6, k7, r7⟩ := e
  exact ⟨_, _, _, _, _, _, _, _, _, _, _, _, rfl, k2, r2, k3, r3, k4, r4, k5, r5, k, r, k7, r7⟩
theorem T_api_Program.s7 {m : Heap} {x : T_api_Program} {cs : List Value} (e : T_api_Program.E m x cs) {A : Option Addr} {n c : Nat} {l : (List T_api_Actor)} (hn : n = List.length l) (k : List.length l ≤ c) (r : Rd 14 T_api_Actor.E m A l) : T_api_Program.E m { x with Actors := l } (cs.set 7 (.slice A n c)) := by
  subst hn
  obtain ⟨A2, c2, A3, c3, A4, c4, A5, c5, A6, c6, A7, c7, rfl, k2, r2, k3, r3, k4, r4, k5, r5, k6, r6, k7, r7⟩ := e
  exact ⟨_, _, _, _, _, _, _, _, _, _, _, _, rfl, k2, r2, k3, r3, k4, r4, k5, r5, k6, r6, k, r⟩
theorem T_api_Type.g0 {m : Heap} {x : T_api_Type} {cs : List Value} (e : T_api_Type.E m x cs) : cs[0]? = some (Value.int .i64 x.Kind) := by
  obtain ⟨A2, c2, rfl, k2, r2⟩ := T_api_Type.iff.1 e
  exact rfl
theorem T_api_Type.g2 {m : Heap} {x : T_api_Type} {cs : List Value} (e : T_api_Type.E m x cs) : ∃ A c, cs[2]? = some (.slice A (List.length x.Args) c) ∧ List.length x.Args ≤ c ∧ Rd 3 T_api_Type.E m A x.Args := by
  obtain ⟨A2, c2, rfl, k2, r2⟩ := T_api_Type.iff.1 e
  exact ⟨_, _, rfl, k2, r2⟩
theorem T_api_Type.g1 {m : Heap} {x : T_api_Type} {cs : List Value} (e : T_api_Type.E m x cs) : cs[1]? = some (Value.string x.Name) := by
  obtain ⟨A2, c2, rfl, k2, r2⟩ := T_api_Type.iff.1 e
  exact rfl
theorem T_api_Pat.g0 {m : Heap} {x : T_api_Pat} {cs : List Value} (e : T_api_Pat.E m x cs) : cs[0]? = some (Value.int .i64 x.Kind) := by
  obtain ⟨A3, c3, rfl, k3, r3⟩ := T_api_Pat.iff.1 e
  exact rfl
theorem T_api_Pat.g1 {m : Heap} {x : T_api_Pat} {cs : List Value} (e : T_api_Pat.E m x cs) : cs[1]? = some (Value.int .i64 x.Num) := by
  obtain ⟨A3, c3, rfl, k3, r3⟩ := T_api_Pat.iff.1 e
  exact rfl
theorem T_api_Pat.g3 {m : Heap} {x : T_api_Pat} {cs : List Value} (e : T_api_Pat.E m x cs) : ∃ A c, cs[3]? = some (.slice A (List.length x.Args) c) ∧ List.length x.Args ≤ c ∧ Rd 4 T_api_Pat.E m A x.Args := by
  obtain ⟨A3, c3, rfl, k3, r3⟩ := T_api_Pat.iff.1 e
  exact ⟨_, _, rfl, k3, r3⟩
theorem T_api_Pat.g2 {m : Heap} {x : T_api_Pat} {cs : List Value} (e : T_api_Pat.E m x cs) : cs[2]? = some (Value.string x.Text) := by
  obtain ⟨A3, c3, rfl, k3, r3⟩ := T_api_Pat.iff.1 e
  exact rfl
theorem T_api_Expr.g0 {m : Heap} {x : T_api_Expr} {cs : List Value} (e : T_api_Expr.E m x cs) : cs[0]? = some (Value.int .i64 x.Kind) := by
  obtain ⟨A3, c3, A4, c4, A5, c5, A6, c6, rfl, k3, r3, k4, r4, k5, r5, k6, r6⟩ := T_api_Expr.iff.1 e
  exact rfl
theorem T_api_Expr.g1 {m : Heap} {x : T_api_Expr} {cs : List Value} (e : T_api_Expr.E m x cs) : cs[1]? = some (Value.int .i64 x.Num) := by
  obtain ⟨A3, c3, A4, c4, A5, c5, A6, c6, rfl, k3, r3, k4, r4, k5, r5, k6, r6⟩ := T_api_Expr.iff.1 e
  exact rfl
theorem T_api_Expr.g3 {m : Heap} {x : T_api_Expr} {cs : List Value} (e : T_api_Expr.E m x cs) : ∃ A c, cs[3]? = some (.slice A (List.length x.Names) c) ∧ List.length x.Names ≤ c ∧ Rd 1 eStr m A x.Names := by
  obtain ⟨A3, c3, A4, c4, A5, c5, A6, c6, rfl, k3, r3, k4, r4, k5, r5, k6, r6⟩ := T_api_Expr.iff.1 e
  exact ⟨_, _, rfl, k3, r3⟩
theorem T_api_Expr.g4 {m : Heap} {x : T_api_Expr} {cs : List Value} (e : T_api_Expr.E m x cs) : ∃ A c, cs[4]? = some (.slice A (List.length x.Types) c) ∧ List.length x.Types ≤ c ∧ Rd 3 T_api_Type.E m A x.Types := by
  obtain ⟨A3, c3, A4, c4, A5, c5, A6, c6, rfl, k3, r3, k4, r4, k5, r5, k6, r6⟩ := T_api_Expr.iff.1 e
  exact ⟨_, _, rfl, k4, r4⟩
theorem T_api_Expr.g5 {m : Heap} {x : T_api_Expr} {cs : List Value} (e : T_api_Expr.E m x cs) : ∃ A c, cs[5]? = some (.slice A (List.length x.Args) c) ∧ List.length x.Args ≤ c ∧ Rd 8 T_api_Expr.E m A x.Args := by
  obtain ⟨A3, c3, A4, c4, A5, c5, A6, c6, rfl, k3, r3, k4, r4, k5, r5, k6, r6⟩ := T_api_Expr.iff.1 e
  exact ⟨_, _, rfl, k5, r5⟩
theorem T_api_Expr.g6 {m : Heap} {x : T_api_Expr} {cs : List Value} (e : T_api_Expr.E m x cs) : ∃ A c, cs[6]? = some (.slice A (List.length x.Arms) c) ∧ List.length x.Arms ≤ c ∧ Rd 12 T_api_Arm.E m A x.Arms := by
  obtain ⟨A3, c3, A4, c4, A5, c5, A6, c6, rfl, k3, r3, k4, r4, k5, r5, k6, r6⟩ := T_api_Expr.iff.1 e
  exact ⟨_, _, rfl, k6, r6⟩
theorem T_api_Expr.g2 {m : Heap} {x : T_api_Expr} {cs : List Value} (e : T_api_Expr.E m x cs) : cs[2]? = some (Value.string x.Text) := by
  obtain ⟨A3, c3, A4, c4, A5, c5, A6, c6, rfl, k3, r3, k4, r4, k5, r5, k6, r6⟩ := T_api_Expr.iff.1 e
  exact rfl
theorem T_api_Arm.u0_102 {m : Heap} {x : T_api_Arm} {cs : List Value} (e : T_api_Arm.E m x cs) : T_api_Pat.E m x.Pat (List.take 4 (List.drop 0 cs)) := by
  obtain ⟨A3, c3, A7, c7, A8, c8, A9, c9, A10, c10, rfl, k3, r3, k7, r7, k8, r8, k9, r9, k10, r10⟩ := T_api_Arm.iff.1 e
  exact (T_api_Pat.iff.2 ⟨_, _, rfl, k3, r3⟩)
theorem T_api_Arm.u4_59 {m : Heap} {x : T_api_Arm} {cs : List Value} (e : T_api_Arm.E m x cs) : T_api_Expr.E m x.Body (List.take 8 (List.drop 4 cs)) := by
  obtain ⟨A3, c3, A7, c7, A8, c8, A9, c9, A10, c10, rfl, k3, r3, k7, r7, k8, r8, k9, r9, k10, r10⟩ := T_api_Arm.iff.1 e
  exact (T_api_Expr.iff.2 ⟨_, _, _, _, _, _, _, _, rfl, k7, r7, k8, r8, k9, r9, k10, r10⟩)
theorem T_api_Func.g0 {m : Heap} {x : T_api_Func} {cs : List Value} (e : T_api_Func.E m x cs) : cs[0]? = some (Value.string x.Name) := by
  obtain ⟨A1, c1, A2, c2, A3, c3, A6, c6, A10, c10, A11, c11, A12, c12, A13, c13, rfl, k1, r1, k2, r2, k3, r3, k6, r6, k10, r10, k11, r11, k12, r12, k13, r13⟩ := e
  exact rfl
theorem T_api_Func.g1 {m : Heap} {x : T_api_Func} {cs : List Value} (e : T_api_Func.E m x cs) : ∃ A c, cs[1]? = some (.slice A (List.length x.Params) c) ∧ List.length x.Params ≤ c ∧ Rd 1 eStr m A x.Params := by
  obtain ⟨A1, c1, A2, c2, A3, c3, A6, c6, A10, c10, A11, c11, A12, c12, A13, c13, rfl, k1, r1, k2, r2, k3, r3, k6, r6, k10, r10, k11, r11, k12, r12, k13, r13⟩ := e
  exact ⟨_, _, rfl, k1, r1⟩
theorem T_api_Func.g2 {m : Heap} {x : T_api_Func} {cs : List Value} (e : T_api_Func.E m x cs) : ∃ A c, cs[2]? = some (.slice A (List.length x.Names) c) ∧ List.length x.Names ≤ c ∧ Rd 1 eStr m A x.Names := by
  obtain ⟨A1, c1, A2, c2, A3, c3, A6, c6, A10, c10, A11, c11, A12, c12, A13, c13, rfl, k1, r1, k2, r2, k3, r3, k6, r6, k10, r10, k11, r11, k12, r12, k13, r13⟩ := e
  exact ⟨_, _, rfl, k2, r2⟩
theorem T_api_Func.g3 {m : Heap} {x : T_api_Func} {cs : List Value} (e : T_api_Func.E m x cs) : ∃ A c, cs[3]? = some (.slice A (List.length x.Types) c) ∧ List.length x.Types ≤ c ∧ Rd 3 T_api_Type.E m A x.Types := by
  obtain ⟨A1, c1, A2, c2, A3, c3, A6, c6, A10, c10, A11, c11, A12, c12, A13, c13, rfl, k1, r1, k2, r2, k3, r3, k6, r6, k10, r10, k11, r11, k12, r12, k13, r13⟩ := e
  exact ⟨_, _, rfl, k3, r3⟩
theorem T_api_Func.u4_55 {m : Heap} {x : T_api_Func} {cs : List Value} (e : T_api_Func.E m x cs) : T_api_Type.E m x.Out (List.take 3 (List.drop 4 cs)) := by
  obtain ⟨A1, c1, A2, c2, A3, c3, A6, c6, A10, c10, A11, c11, A12, c12, A13, c13, rfl, k1, r1, k2, r2, k3, r3, k6, r6, k10, r10, k11, r11, k12, r12, k13, r13⟩ := e
  exact (T_api_Type.iff.2 ⟨_, _, rfl, k6, r6⟩)
theorem T_api_Func.u7_59 {m : Heap} {x : T_api_Func} {cs : List Value} (e : T_api_Func.E m x cs) : T_api_Expr.E m x.Body (List.take 8 (List.drop 7 cs)) := by
  obtain ⟨A1, c1, A2, c2, A3, c3, A6, c6, A10, c10, A11, c11, A12, c12, A13, c13, rfl, k1, r1, k2, r2, k3, r3, k6, r6, k10, r10, k11, r11, k12, r12, k13, r13⟩ := e
  exact (T_api_Expr.iff.2 ⟨_, _, _, _, _, _, _, _, rfl, k10, r10, k11, r11, k12, r12, k13, r13⟩)
theorem T_api_Program.g0 {m : Heap} {x : T_api_Program} {cs : List Value} (e : T_api_Program.E m x cs) : cs[0]? = some (Value.string x.Name) := by
  obtain ⟨A2, c2, A3, c3, A4, c4, A5, c5, A6, c6, A7, c7, rfl, k2, r2, k3, r3, k4, r4, k5, r5, k6, r6, k7, r7⟩ := e
  exact rfl
theorem T_api_Program.g1 {m : Heap} {x : T_api_Program} {cs : List Value} (e : T_api_Program.E m x cs) : cs[1]? = some (Value.int .i64 x.Version) := by
  obtain ⟨A2, c2, A3, c3, A4, c4, A5, c5, A6, c6, A7, c7, rfl, k2, r2, k3, r3, k4, r4, k5, r5, k6, r6, k7, r7⟩ := e
  exact rfl
theorem T_api_Use.g0 {m : Heap} {x : T_api_Use} {cs : List Value} (e : T_api_Use.E m x cs) : cs[0]? = some (Value.string x.Name) := by
  obtain rfl := e
  exact rfl
theorem T_api_Use.g1 {m : Heap} {x : T_api_Use} {cs : List Value} (e : T_api_Use.E m x cs) : cs[1]? = some (Value.int .i64 x.Low) := by
  obtain rfl := e
  exact rfl
theorem T_api_Use.g2 {m : Heap} {x : T_api_Use} {cs : List Value} (e : T_api_Use.E m x cs) : cs[2]? = some (Value.int .i64 x.High) := by
  obtain rfl := e
  exact rfl
theorem T_api_Data.g0 {m : Heap} {x : T_api_Data} {cs : List Value} (e : T_api_Data.E m x cs) : cs[0]? = some (Value.string x.Name) := by
  obtain ⟨A1, c1, A2, c2, rfl, k1, r1, k2, r2⟩ := e
  exact rfl
theorem T_api_Data.g2 {m : Heap} {x : T_api_Data} {cs : List Value} (e : T_api_Data.E m x cs) : ∃ A c, cs[2]? = some (.slice A (List.length x.Makes) c) ∧ List.length x.Makes ≤ c ∧ Rd 2 T_api_Make.E m A x.Makes := by
  obtain ⟨A1, c1, A2, c2, rfl, k1, r1, k2, r2⟩ := e
  exact ⟨_, _, rfl, k2, r2⟩
theorem T_api_Data.g1 {m : Heap} {x : T_api_Data} {cs : List Value} (e : T_api_Data.E m x cs) : ∃ A c, cs[1]? = some (.slice A (List.length x.Params) c) ∧ List.length x.Params ≤ c ∧ Rd 1 eStr m A x.Params := by
  obtain ⟨A1, c1, A2, c2, rfl, k1, r1, k2, r2⟩ := e
  exact ⟨_, _, rfl, k1, r1⟩
theorem T_api_Trait.g0 {m : Heap} {x : T_api_Trait} {cs : List Value} (e : T_api_Trait.E m x cs) : cs[0]? = some (Value.string x.Name) := by
  obtain ⟨A1, c1, rfl, k1, r1⟩ := e
  exact rfl
theorem T_api_Trait.g1 {m : Heap} {x : T_api_Trait} {cs : List Value} (e : T_api_Trait.E m x cs) : ∃ A c, cs[1]? = some (.slice A (List.length x.Funcs) c) ∧ List.length x.Funcs ≤ c ∧ Rd 15 T_api_Func.E m A x.Funcs := by
  obtain ⟨A1, c1, rfl, k1, r1⟩ := e
  exact ⟨_, _, rfl, k1, r1⟩
theorem T_api_Make.g0 {m : Heap} {x : T_api_Make} {cs : List Value} (e : T_api_Make.E m x cs) : cs[0]? = some (Value.string x.Name) := by
  obtain ⟨A1, c1, rfl, k1, r1⟩ := e
  exact rfl
theorem T_api_Make.g1 {m : Heap} {x : T_api_Make} {cs : List Value} (e : T_api_Make.E m x cs) : ∃ A c, cs[1]? = some (.slice A (List.length x.Args) c) ∧ List.length x.Args ≤ c ∧ Rd 3 T_api_Type.E m A x.Args := by
  obtain ⟨A1, c1, rfl, k1, r1⟩ := e
  exact ⟨_, _, rfl, k1, r1⟩
theorem T_api_Impl.g0 {m : Heap} {x : T_api_Impl} {cs : List Value} (e : T_api_Impl.E m x cs) : cs[0]? = some (Value.string x.Trait) := by
  obtain ⟨A2, c2, rfl, k2, r2⟩ := e
  exact rfl
theorem T_api_Impl.g1 {m : Heap} {x : T_api_Impl} {cs : List Value} (e : T_api_Impl.E m x cs) : cs[1]? = some (Value.string x.For) := by
  obtain ⟨A2, c2, rfl, k2, r2⟩ := e
  exact rfl
theorem T_api_Impl.g2 {m : Heap} {x : T_api_Impl} {cs : List Value} (e : T_api_Impl.E m x cs) : ∃ A c, cs[2]? = some (.slice A (List.length x.Funcs) c) ∧ List.length x.Funcs ≤ c ∧ Rd 15 T_api_Func.E m A x.Funcs := by
  obtain ⟨A2, c2, rfl, k2, r2⟩ := e
  exact ⟨_, _, rfl, k2, r2⟩
theorem T_api_Actor.g0 {m : Heap} {x : T_api_Actor} {cs : List Value} (e : T_api_Actor.E m x cs) : cs[0]? = some (Value.string x.Name) := by
  obtain ⟨A1, c1, A2, c2, A5, c5, A9, c9, A10, c10, A11, c11, A12, c12, rfl, k1, r1, k2, r2, k5, r5, k9, r9, k10, r10, k11, r11, k12, r12⟩ := e
  exact rfl
theorem T_api_Actor.g1 {m : Heap} {x : T_api_Actor} {cs : List Value} (e : T_api_Actor.E m x cs) : ∃ A c, cs[1]? = some (.slice A (List.length x.Names) c) ∧ List.length x.Names ≤ c ∧ Rd 1 eStr m A x.Names := by
  obtain ⟨A1, c1, A2, c2, A5, c5, A9, c9, A10, c10, A11, c11, A12, c12, rfl, k1, r1, k2, r2, k5, r5, k9, r9, k10, r10, k11, r11, k12, r12⟩ := e
  exact ⟨_, _, rfl, k1, r1⟩
theorem T_api_Actor.g2 {m : Heap} {x : T_api_Actor} {cs : List Value} (e : T_api_Actor.E m x cs) : ∃ A c, cs[2]? = some (.slice A (List.length x.Types) c) ∧ List.length x.Types ≤ c ∧ Rd 3 T_api_Type.E m A x.Types := by
  obtain ⟨A1, c1, A2, c2, A5, c5, A9, c9, A10, c10, A11, c11, A12, c12, rfl, k1, r1, k2, r2, k5, r5, k9, r9, k10, r10, k11, r11, k12, r12⟩ := e
  exact ⟨_, _, rfl, k2, r2⟩
theorem T_api_Actor.u3_55 {m : Heap} {x : T_api_Actor} {cs : List Value} (e : T_api_Actor.E m x cs) : T_api_Type.E m x.Msg (List.take 3 (List.drop 3 cs)) := by
  obtain ⟨A1, c1, A2, c2, A5, c5, A9, c9, A10, c10, A11, c11, A12, c12, rfl, k1, r1, k2, r2, k5, r5, k9, r9, k10, r10, k11, r11, k12, r12⟩ := e
  exact (T_api_Type.iff.2 ⟨_, _, rfl, k5, r5⟩)
theorem T_api_Actor.u6_59 {m : Heap} {x : T_api_Actor} {cs : List Value} (e : T_api_Actor.E m x cs) : T_api_Expr.E m x.Body (List.take 8 (List.drop 6 cs)) := by
  obtain ⟨A1, c1, A2, c2, A5, c5, A9, c9, A10, c10, A11, c11, A12, c12, rfl, k1, r1, k2, r2, k5, r5, k9, r9, k10, r10, k11, r11, k12, r12⟩ := e
  exact (T_api_Expr.iff.2 ⟨_, _, _, _, _, _, _, _, rfl, k9, r9, k10, r10, k11, r11, k12, r12⟩)
def excerpt_Parts.post (W : Nat → Prop) (h0 m0 : Heap) (r : Int) (v : Value) (h : Heap) : Prop := ∃ m , Hold W h0 m0 h m [] ∧ v = .int .i64 r
noncomputable def excerpt_Parts (y_0 : T_api_Program) : Option (Int) :=
  some ((IntKind.wrap .i64 ((IntKind.wrap .i64 ((IntKind.wrap .i64 ((IntKind.wrap .i64 ((IntKind.wrap .i64 ((((List.length y_0.Uses) : Nat) : Int) + (((List.length y_0.Datas) : Nat) : Int))) + (((List.length y_0.Traits) : Nat) : Int))) + (((List.length y_0.Impls) : Nat) : Int))) + (((List.length y_0.Funcs) : Nat) : Int))) + (((List.length y_0.Actors) : Nat) : Int))))
set_option maxRecDepth 100000 in
theorem excerpt_Parts.walk {W : Nat → Prop} {h m : Heap} {cs_0 : List Value} {y_0 : T_api_Program} (O : Hold W h m h m []) (e_0 : T_api_Program.E m y_0 cs_0) {r : Int} (e : excerpt_Parts y_0 = some r) : Run Tryd.prog 5 #[Value.agg cs_0.toArray] h (excerpt_Parts.post W h m r) := by
  unfold excerpt_Parts at e
  refine f5.run ?_
  unfold f5.runT
  refine O.new fun h1 x2 O3 => ?_
  obtain ⟨A5, c6, q7, k8, r9⟩ := T_api_Program.g2 e_0
  refine ⟨_, ldk (k := 2) (Sub.refl _) (O3.all 0 rfl) q7, _, _, _, rfl, ?_⟩
  obtain ⟨A10, c11, q12, k13, r14⟩ := T_api_Program.g3 e_0
  refine ⟨_, ldk (k := 3) (Sub.refl _) (O3.all 0 rfl) q12, _, _, _, rfl, ?_⟩
  obtain ⟨A15, c16, q17, k18, r19⟩ := T_api_Program.g4 e_0
  refine ⟨_, ldk (k := 4) (Sub.refl _) (O3.all 0 rfl) q17, _, _, _, rfl, ?_⟩
  obtain ⟨A20, c21, q22, k23, r24⟩ := T_api_Program.g5 e_0
  refine ⟨_, ldk (k := 5) (Sub.refl _) (O3.all 0 rfl) q22, _, _, _, rfl, ?_⟩
  obtain ⟨A25, c26, q27, k28, r29⟩ := T_api_Program.g6 e_0
  refine ⟨_, ldk (k := 6) (Sub.refl _) (O3.all 0 rfl) q27, _, _, _, rfl, ?_⟩
  obtain ⟨A30, c31, q32, k33, r34⟩ := T_api_Program.g7 e_0
  refine ⟨_, ldk (k := 7) (Sub.refl _) (O3.all 0 rfl) q32, _, _, _, rfl, ?_⟩
  have O35 := O3.nm
  cases e
  exact ⟨_, O35.pick [], rfl⟩
def slices_Delete_27.post (W : Nat → Prop) (h0 m0 : Heap) (r : (List T_api_Use)) (v : Value) (h : Heap) : Prop := ∃ m A0 n0 c0, Hold W h0 m0 h m [rR (aE T_api_Use.T) A0 c0 r] ∧ v = .slice A0 n0 c0 ∧ n0 = List.length r
noncomputable def slices_Delete_27 (a0 : List T_api_Use) (x1 x2 : Int) : Option (List T_api_Use) := if 0 ≤ x1 ∧ x1 ≤ x2 ∧ x2 ≤ ((List.length a0 : Nat) : Int) then some (List.take (Int.toNat x1) a0 ++ List.drop (Int.toNat x2) a0) else none
set_option maxRecDepth 100000 in
theorem slices_Delete_27.walk {W : Nat → Prop} {h m : Heap} {A0 : Option Addr} {n0 c0 : Nat} {a0 : List T_api_Use} {x1 x2 : Int} (O : Hold W h m h m [rR (aE T_api_Use.T) A0 c0 a0]) (ne0 : n0 = List.length a0) {r : List T_api_Use} (e : slices_Delete_27 a0 x1 x2 = some r) : Run Tryd.prog 27 #[Value.slice A0 n0 c0, Value.int .i64 x1, Value.int .i64 x2] h (slices_Delete_27.post W h m r) := by
  unfold slices_Delete_27 at e
  subst ne0
  obtain ⟨g, e⟩ := guard_e e
  cases e
  refine f27.run ?_
  unfold f27.runT
  exact delete_ok (e := 36) (zv := (Value.agg #[(Value.string (ByteArray.mk #[])), (Value.int .i64 (0 : Int)), (Value.int .i64 (0 : Int))])) (zp := (T_api_Use.mk (ByteArray.mk #[]) (0 : Int) (0 : Int))) O 0 rfl (by kernel_rfl) (by kernel_rfl) (show T_api_Use.E m (T_api_Use.mk (ByteArray.mk #[]) (0 : Int) (0 : Int)) [(Value.string (ByteArray.mk #[])), (Value.int .i64 (0 : Int)), (Value.int .i64 (0 : Int))] from (show T_api_Use.E _ (T_api_Use.mk (ByteArray.mk #[]) (0 : Int) (0 : Int)) [(Value.string (ByteArray.mk #[])), (Value.int .i64 (0 : Int)), (Value.int .i64 (0 : Int))] from rfl)) g fun h' O' => ⟨m, _, _, _, O'.pick [0], rfl, rfl⟩
def slices_Clone_28.post (W : Nat → Prop) (h0 m0 : Heap) (r : (List T_api_Use)) (v : Value) (h : Heap) : Prop := ∃ m A0 n0 c0, Hold W h0 m0 h m [rR (aE T_api_Use.T) A0 c0 r] ∧ v = .slice A0 n0 c0 ∧ n0 = List.length r
noncomputable def slices_Clone_28 (a0 : List T_api_Use) : Option (List T_api_Use) := ap 32 ([] : List T_api_Use) a0
set_option maxRecDepth 100000 in
theorem slices_Clone_28.walk {W : Nat → Prop} {h m : Heap} {A0 : Option Addr} {n0 c0 : Nat} {a0 : List T_api_Use} (O : Hold W h m h m []) (ne0 : n0 = List.length a0) (k0 : List.length a0 ≤ c0) (r0 : Rd 3 T_api_Use.E m A0 a0) {r : List T_api_Use} (e : slices_Clone_28 a0 = some r) : Run Tryd.prog 28 #[Value.slice A0 n0 c0] h (slices_Clone_28.post W h m r) := by
  unfold slices_Clone_28 at e
  subst ne0
  refine f28.run ?_
  unfold f28.runT
  cases A0 with
  | none =>
    refine split_t ?_
    obtain rfl := Rd.void r0
    obtain rfl : [] = r := by have := (ap_e e).2; simpa using this
    exact ⟨m, none, 0, 0, O.nil (aE T_api_Use.T) none, rfl, rfl⟩
  | some a =>
    refine split_f ?_
    refine O.new fun h1 x1 O1 => ?_
    refine O1.appE0 T_api_Use.T rfl rfl (r0.srcE T_api_Use.T O1.s rfl) (by decide) e fun A4 c4 h4 x4 O4 => ?_
    refine ⟨_, _, _, rfl, ?_⟩
    exact ⟨m, _, _, _, O4.pick [1], rfl, rfl⟩
def excerpt_out_14.post (W : Nat → Prop) (h0 m0 : Heap) (r : (List T_api_Use) × Int) (v : Value) (h : Heap) : Prop := ∃ m A0 n0 c0, Hold W h0 m0 h m [] ∧ v = .tuple #[.slice A0 n0 c0, .int .i64 r.2] ∧ n0 = List.length r.1 ∧ List.length r.1 ≤ c0 ∧ Rd 3 T_api_Use.E m A0 r.1
noncomputable def excerpt_out_14.j0 (a_0 : List T_api_Use) (x_1 : Int) : Option ((List T_api_Use) × Int) :=
  if x_1 < (0 : Int) then (some (a_0, x_1)) else (some (a_0, (IntKind.wrap .i64 (x_1 - (((List.length a_0) : Nat) : Int)))))
set_option maxRecDepth 100000 in
theorem excerpt_out_14.j0.walk {W : Nat → Prop} {h0 m0 h m : Heap} {A_0 : Option Addr} {n_0 c_0 : Nat} {a_0 : List T_api_Use} {x_1 : Int} (O : Hold W h0 m0 h m []) (ne_0 : n_0 = List.length a_0) (k_0 : List.length a_0 ≤ c_0) (r_0 : Rd 3 T_api_Use.E m A_0 a_0) {r : (List T_api_Use) × Int} (e : excerpt_out_14.j0 a_0 x_1 = some r) : f14.j0 (excerpt_out_14.post W h0 m0 r) A_0 n_0 c_0 x_1 h := by
  unfold excerpt_out_14.j0 at e
  subst ne_0
  refine f14.j0_in ?_
  unfold f14.j0T
  refine split_dec_e e (fun c1 e => ?_) (fun c1 e => ?_)
  · cases e
    exact ⟨_, _, _, _, O.pick [], rfl, rfl, k_0, r_0⟩
  · cases e
    exact ⟨_, _, _, _, O.pick [], rfl, rfl, k_0, r_0⟩
noncomputable def excerpt_out_14.j1 (a_0 : List T_api_Use) (x_1 : Int) (b_13 : Bool) : Option ((List T_api_Use) × Int) :=
  if b_13 = true then (Option.bind (slices_Clone_28 a_0) fun y1 => Option.bind (slices_Delete_27 y1 x_1 (IntKind.wrap .i64 (x_1 + (1 : Int)))) fun y13 => some (y13, (-1 : Int))) else ((excerpt_out_14.j0 a_0 x_1))
set_option maxRecDepth 100000 in
theorem excerpt_out_14.j1.walk {W : Nat → Prop} {h0 m0 h m : Heap} {A_0 : Option Addr} {n_0 c_0 : Nat} {a_0 : List T_api_Use} {x_1 : Int} {b_13 : Bool} (O : Hold W h0 m0 h m []) (ne_0 : n_0 = List.length a_0) (k_0 : List.length a_0 ≤ c_0) (r_0 : Rd 3 T_api_Use.E m A_0 a_0) {r : (List T_api_Use) × Int} (e : excerpt_out_14.j1 a_0 x_1 b_13 = some r) : f14.j1 (excerpt_out_14.post W h0 m0 r) A_0 n_0 c_0 x_1 b_13 h := by
  unfold excerpt_out_14.j1 at e
  subst ne_0
  refine f14.j1_in ?_
  unfold f14.j1T
  refine split_any_e e (fun c35 e => ?_) (fun c35 e => ?_)
  · obtain ⟨y1, g2, e⟩ := bind_e e
    refine (slices_Clone_28.walk (Hold.start (W := No) O.s) rfl k_0 r_0 g2).mono ?_
    rintro _ h3 ⟨m4, A7, n8, c9, Q5, rfl, ne10⟩
    have O12 := Hold.nm (O.retC Q5 (vfs_cons (rR_vf (aE_vf (fun _ _ _ _ h => T_api_Use.keep h))) vfs_nil))
    subst ne10
    refine ⟨_, _, _, rfl, ?_⟩
    obtain ⟨y13, g14, e⟩ := bind_e e
    obtain ⟨W19, P20, B21, C22⟩ := O12.callC [0]
    refine (slices_Delete_27.walk P20 rfl g14).mono ?_
    rintro _ h15 ⟨m16, A23, n24, c25, Q17, rfl, ne26⟩
    have O28 := Hold.nm (C22 Q17 (vfs_cons (rR_vf (aE_vf (fun _ _ _ _ h => T_api_Use.keep h))) vfs_nil))
    subst ne26
    refine ⟨_, _, _, rfl, ?_⟩
    obtain ⟨m29, u30, ⟨r31, k32⟩, O33⟩ := O28.frz 1 rfl
    replace r31 : Rd 3 T_api_Use.E m29 A23 y13 := r31
    have O34 := O33.nm
    cases e
    exact ⟨_, _, _, _, O34.pick [], rfl, rfl, k32, r31⟩
  · exact excerpt_out_14.j0.walk (O.pick []).nm rfl k_0 r_0 e
noncomputable def excerpt_out_14 (a_0 : List T_api_Use) (x_1 : Int) : Option ((List T_api_Use) × Int) :=
  if x_1 ≥ (0 : Int) then ((excerpt_out_14.j1 a_0 x_1 (decide (x_1 < (((List.length a_0) : Nat) : Int))))) else ((excerpt_out_14.j1 a_0 x_1 false))
set_option maxRecDepth 100000 in
theorem excerpt_out_14.walk {W : Nat → Prop} {h m : Heap} {A_0 : Option Addr} {n_0 c_0 : Nat} {a_0 : List T_api_Use} {x_1 : Int} (O : Hold W h m h m []) (ne_0 : n_0 = List.length a_0) (k_0 : List.length a_0 ≤ c_0) (r_0 : Rd 3 T_api_Use.E m A_0 a_0) {r : (List T_api_Use) × Int} (e : excerpt_out_14 a_0 x_1 = some r) : Run Tryd.prog 14 #[Value.slice A_0 n_0 c_0, Value.int .i64 x_1] h (excerpt_out_14.post W h m r) := by
  unfold excerpt_out_14 at e
  subst ne_0
  refine f14.run ?_
  unfold f14.runT
  refine split_dec_e e (fun c1 e => ?_) (fun c1 e => ?_)
  · exact excerpt_out_14.j1.walk (O.pick []).nm rfl k_0 r_0 e
  · exact excerpt_out_14.j1.walk (O.pick []).nm rfl k_0 r_0 e
def slices_Delete_29.post (W : Nat → Prop) (h0 m0 : Heap) (r : (List T_api_Data)) (v : Value) (h : Heap) : Prop := ∃ m A0 n0 c0, Hold W h0 m0 h m [rR (aE T_api_Data.T) A0 c0 r] ∧ v = .slice A0 n0 c0 ∧ n0 = List.length r
noncomputable def slices_Delete_29 (a0 : List T_api_Data) (x1 x2 : Int) : Option (List T_api_Data) := if 0 ≤ x1 ∧ x1 ≤ x2 ∧ x2 ≤ ((List.length a0 : Nat) : Int) then some (List.take (Int.toNat x1) a0 ++ List.drop (Int.toNat x2) a0) else none
set_option maxRecDepth 100000 in
theorem slices_Delete_29.walk {W : Nat → Prop} {h m : Heap} {A0 : Option Addr} {n0 c0 : Nat} {a0 : List T_api_Data} {x1 x2 : Int} (O : Hold W h m h m [rR (aE T_api_Data.T) A0 c0 a0]) (ne0 : n0 = List.length a0) {r : List T_api_Data} (e : slices_Delete_29 a0 x1 x2 = some r) : Run Tryd.prog 29 #[Value.slice A0 n0 c0, Value.int .i64 x1, Value.int .i64 x2] h (slices_Delete_29.post W h m r) := by
  unfold slices_Delete_29 at e
  subst ne0
  obtain ⟨g, e⟩ := guard_e e
  cases e
  refine f29.run ?_
  unfold f29.runT
  exact delete_ok (e := 45) (zv := (Value.agg #[(Value.string (ByteArray.mk #[])), (Value.slice none 0 0), (Value.slice none 0 0)])) (zp := (T_api_Data.mk (ByteArray.mk #[]) ([] : (List ByteArray)) ([] : (List T_api_Make)))) O 0 rfl (by kernel_rfl) (by kernel_rfl) (show T_api_Data.E m (T_api_Data.mk (ByteArray.mk #[]) ([] : (List ByteArray)) ([] : (List T_api_Make))) [(Value.string (ByteArray.mk #[])), (Value.slice none 0 0), (Value.slice none 0 0)] from (show T_api_Data.E _ (T_api_Data.mk (ByteArray.mk #[]) ([] : List ByteArray) ([] : List T_api_Make)) [(Value.string (ByteArray.mk #[])), (Value.slice none 0 0), (Value.slice none 0 0)] from ⟨_, _, _, _, rfl, (by exact Nat.le_refl 0), Rd.nil, (by exact Nat.le_refl 0), Rd.nil⟩)) g fun h' O' => ⟨m, _, _, _, O'.pick [0], rfl, rfl⟩
def slices_Clone_30.post (W : Nat → Prop) (h0 m0 : Heap) (r : (List T_api_Data)) (v : Value) (h : Heap) : Prop := ∃ m A0 n0 c0, Hold W h0 m0 h m [rR (aE T_api_Data.T) A0 c0 r] ∧ v = .slice A0 n0 c0 ∧ n0 = List.length r
noncomputable def slices_Clone_30 (a0 : List T_api_Data) : Option (List T_api_Data) := ap 64 ([] : List T_api_Data) a0
set_option maxRecDepth 100000 in
theorem slices_Clone_30.walk {W : Nat → Prop} {h m : Heap} {A0 : Option Addr} {n0 c0 : Nat} {a0 : List T_api_Data} (O : Hold W h m h m []) (ne0 : n0 = List.length a0) (k0 : List.length a0 ≤ c0) (r0 : Rd 3 T_api_Data.E m A0 a0) {r : List T_api_Data} (e : slices_Clone_30 a0 = some r) : Run Tryd.prog 30 #[Value.slice A0 n0 c0] h (slices_Clone_30.post W h m r) := by
  unfold slices_Clone_30 at e
  subst ne0
  refine f30.run ?_
  unfold f30.runT
  cases A0 with
  | none =>
    refine split_t ?_
    obtain rfl := Rd.void r0
    obtain rfl : [] = r := by have := (ap_e e).2; simpa using this
    exact ⟨m, none, 0, 0, O.nil (aE T_api_Data.T) none, rfl, rfl⟩
  | some a =>
    refine split_f ?_
    refine O.new fun h1 x1 O1 => ?_
    refine O1.appE0 T_api_Data.T rfl rfl (r0.srcE T_api_Data.T O1.s rfl) (by decide) e fun A4 c4 h4 x4 O4 => ?_
    refine ⟨_, _, _, rfl, ?_⟩
    exact ⟨m, _, _, _, O4.pick [1], rfl, rfl⟩
def excerpt_out_15.post (W : Nat → Prop) (h0 m0 : Heap) (r : (List T_api_Data) × Int) (v : Value) (h : Heap) : Prop := ∃ m A0 n0 c0, Hold W h0 m0 h m [] ∧ v = .tuple #[.slice A0 n0 c0, .int .i64 r.2] ∧ n0 = List.length r.1 ∧ List.length r.1 ≤ c0 ∧ Rd 3 T_api_Data.E m A0 r.1
noncomputable def excerpt_out_15.j0 (a_0 : List T_api_Data) (x_1 : Int) : Option ((List T_api_Data) × Int) :=
  if x_1 < (0 : Int) then (some (a_0, x_1)) else (some (a_0, (IntKind.wrap .i64 (x_1 - (((List.length a_0) : Nat) : Int)))))
set_option maxRecDepth 100000 in
theorem excerpt_out_15.j0.walk {W : Nat → Prop} {h0 m0 h m : Heap} {A_0 : Option Addr} {n_0 c_0 : Nat} {a_0 : List T_api_Data} {x_1 : Int} (O : Hold W h0 m0 h m []) (ne_0 : n_0 = List.length a_0) (k_0 : List.length a_0 ≤ c_0) (r_0 : Rd 3 T_api_Data.E m A_0 a_0) {r : (List T_api_Data) × Int} (e : excerpt_out_15.j0 a_0 x_1 = some r) : f15.j0 (excerpt_out_15.post W h0 m0 r) A_0 n_0 c_0 x_1 h := by
  unfold excerpt_out_15.j0 at e
  subst ne_0
  refine f15.j0_in ?_
  unfold f15.j0T
  refine split_dec_e e (fun c1 e => ?_) (fun c1 e => ?_)
  · cases e
    exact ⟨_, _, _, _, O.pick [], rfl, rfl, k_0, r_0⟩
  · cases e
    exact ⟨_, _, _, _, O.pick [], rfl, rfl, k_0, r_0⟩
noncomputable def excerpt_out_15.j1 (a_0 : List T_api_Data) (x_1 : Int) (b_13 : Bool) : Option ((List T_api_Data) × Int) :=
  if b_13 = true then (Option.bind (slices_Clone_30 a_0) fun y1 => Option.bind (slices_Delete_29 y1 x_1 (IntKind.wrap .i64 (x_1 + (1 : Int)))) fun y13 => some (y13, (-1 : Int))) else ((excerpt_out_15.j0 a_0 x_1))
set_option maxRecDepth 100000 in
theorem excerpt_out_15.j1.walk {W : Nat → Prop} {h0 m0 h m : Heap} {A_0 : Option Addr} {n_0 c_0 : Nat} {a_0 : List T_api_Data} {x_1 : Int} {b_13 : Bool} (O : Hold W h0 m0 h m []) (ne_0 : n_0 = List.length a_0) (k_0 : List.length a_0 ≤ c_0) (r_0 : Rd 3 T_api_Data.E m A_0 a_0) {r : (List T_api_Data) × Int} (e : excerpt_out_15.j1 a_0 x_1 b_13 = some r) : f15.j1 (excerpt_out_15.post W h0 m0 r) A_0 n_0 c_0 x_1 b_13 h := by
  unfold excerpt_out_15.j1 at e
  subst ne_0
  refine f15.j1_in ?_
  unfold f15.j1T
  refine split_any_e e (fun c35 e => ?_) (fun c35 e => ?_)
  · obtain ⟨y1, g2, e⟩ := bind_e e
    refine (slices_Clone_30.walk (Hold.start (W := No) O.s) rfl k_0 r_0 g2).mono ?_
    rintro _ h3 ⟨m4, A7, n8, c9, Q5, rfl, ne10⟩
    have O12 := Hold.nm (O.ret Q5)
    subst ne10
    refine ⟨_, _, _, rfl, ?_⟩
    obtain ⟨y13, g14, e⟩ := bind_e e
    obtain ⟨W19, P20, B21, C22⟩ := O12.callC [0]
    refine (slices_Delete_29.walk P20 rfl g14).mono ?_
    rintro _ h15 ⟨m16, A23, n24, c25, Q17, rfl, ne26⟩
    have O28 := Hold.nm (B21 Q17)
    subst ne26
    refine ⟨_, _, _, rfl, ?_⟩
    obtain ⟨m29, u30, ⟨r31, k32⟩, O33⟩ := O28.frz 1 rfl
    replace r31 : Rd 3 T_api_Data.E m29 A23 y13 := r31
    have O34 := O33.nm
    cases e
    exact ⟨_, _, _, _, O34.pick [], rfl, rfl, k32, r31⟩
  · exact excerpt_out_15.j0.walk (O.pick []).nm rfl k_0 r_0 e
noncomputable def excerpt_out_15 (a_0 : List T_api_Data) (x_1 : Int) : Option ((List T_api_Data) × Int) :=
  if x_1 ≥ (0 : Int) then ((excerpt_out_15.j1 a_0 x_1 (decide (x_1 < (((List.length a_0) : Nat) : Int))))) else ((excerpt_out_15.j1 a_0 x_1 false))
set_option maxRecDepth 100000 in
theorem excerpt_out_15.walk {W : Nat → Prop} {h m : Heap} {A_0 : Option Addr} {n_0 c_0 : Nat} {a_0 : List T_api_Data} {x_1 : Int} (O : Hold W h m h m []) (ne_0 : n_0 = List.length a_0) (k_0 : List.length a_0 ≤ c_0) (r_0 : Rd 3 T_api_Data.E m A_0 a_0) {r : (List T_api_Data) × Int} (e : excerpt_out_15 a_0 x_1 = some r) : Run Tryd.prog 15 #[Value.slice A_0 n_0 c_0, Value.int .i64 x_1] h (excerpt_out_15.post W h m r) := by
  unfold excerpt_out_15 at e
  subst ne_0
  refine f15.run ?_
  unfold f15.runT
  refine split_dec_e e (fun c1 e => ?_) (fun c1 e => ?_)
  · exact excerpt_out_15.j1.walk (O.pick []).nm rfl k_0 r_0 e
  · exact excerpt_out_15.j1.walk (O.pick []).nm rfl k_0 r_0 e
def slices_Delete_31.post (W : Nat → Prop) (h0 m0 : Heap) (r : (List T_api_Trait)) (v : Value) (h : Heap) : Prop := ∃ m A0 n0 c0, Hold W h0 m0 h m [rR (aE T_api_Trait.T) A0 c0 r] ∧ v = .slice A0 n0 c0 ∧ n0 = List.length r
noncomputable def slices_Delete_31 (a0 : List T_api_Trait) (x1 x2 : Int) : Option (List T_api_Trait) := if 0 ≤ x1 ∧ x1 ≤ x2 ∧ x2 ≤ ((List.length a0 : Nat) : Int) then some (List.take (Int.toNat x1) a0 ++ List.drop (Int.toNat x2) a0) else none
set_option maxRecDepth 100000 in
theorem slices_Delete_31.walk {W : Nat → Prop} {h m : Heap} {A0 : Option Addr} {n0 c0 : Nat} {a0 : List T_api_Trait} {x1 x2 : Int} (O : Hold W h m h m [rR (aE T_api_Trait.T) A0 c0 a0]) (ne0 : n0 = List.length a0) {r : List T_api_Trait} (e : slices_Delete_31 a0 x1 x2 = some r) : Run Tryd.prog 31 #[Value.slice A0 n0 c0, Value.int .i64 x1, Value.int .i64 x2] h (slices_Delete_31.post W h m r) := by
  unfold slices_Delete_31 at e
  subst ne0
  obtain ⟨g, e⟩ := guard_e e
  cases e
  refine f31.run ?_
  unfold f31.runT
  exact delete_ok (e := 48) (zv := (Value.agg #[(Value.string (ByteArray.mk #[])), (Value.slice none 0 0)])) (zp := (T_api_Trait.mk (ByteArray.mk #[]) ([] : (List T_api_Func)))) O 0 rfl (by kernel_rfl) (by kernel_rfl) (show T_api_Trait.E m (T_api_Trait.mk (ByteArray.mk #[]) ([] : (List T_api_Func))) [(Value.string (ByteArray.mk #[])), (Value.slice none 0 0)] from (show T_api_Trait.E _ (T_api_Trait.mk (ByteArray.mk #[]) ([] : List T_api_Func)) [(Value.string (ByteArray.mk #[])), (Value.slice none 0 0)] from ⟨_, _, rfl, (by exact Nat.le_refl 0), Rd.nil⟩)) g fun h' O' => ⟨m, _, _, _, O'.pick [0], rfl, rfl⟩
def slices_Clone_32.post (W : Nat → Prop) (h0 m0 : Heap) (r : (List T_api_Trait)) (v : Value) (h : Heap) : Prop := ∃ m A0 n0 c0, Hold W h0 m0 h m [rR (aE T_api_Trait.T) A0 c0 r] ∧ v = .slice A0 n0 c0 ∧ n0 = List.length r
noncomputable def slices_Clone_32 (a0 : List T_api_Trait) : Option (List T_api_Trait) := ap 40 ([] : List T_api_Trait) a0
set_option maxRecDepth 100000 in
theorem slices_Clone_32.walk {W : Nat → Prop} {h m : Heap} {A0 : Option Addr} {n0 c0 : Nat} {a0 : List T_api_Trait} (O : Hold W h m h m []) (ne0 : n0 = List.length a0) (k0 : List.length a0 ≤ c0) (r0 : Rd 2 T_api_Trait.E m A0 a0) {r : List T_api_Trait} (e : slices_Clone_32 a0 = some r) : Run Tryd.prog 32 #[Value.slice A0 n0 c0] h (slices_Clone_32.post W h m r) := by
  unfold slices_Clone_32 at e
  subst ne0
  refine f32.run ?_
  unfold f32.runT
  cases A0 with
  | none =>
    refine split_t ?_
    obtain rfl := Rd.void r0
    obtain rfl : [] = r := by have := (ap_e e).2; simpa using this
    exact ⟨m, none, 0, 0, O.nil (aE T_api_Trait.T) none, rfl, rfl⟩
  | some a =>
    refine split_f ?_
    refine O.new fun h1 x1 O1 => ?_
    refine O1.appE0 T_api_Trait.T rfl rfl (r0.srcE T_api_Trait.T O1.s rfl) (by decide) e fun A4 c4 h4 x4 O4 => ?_
    refine ⟨_, _, _, rfl, ?_⟩
    exact ⟨m, _, _, _, O4.pick [1], rfl, rfl⟩
def excerpt_out_16.post (W : Nat → Prop) (h0 m0 : Heap) (r : (List T_api_Trait) × Int) (v : Value) (h : Heap) : Prop := ∃ m A0 n0 c0, Hold W h0 m0 h m [] ∧ v = .tuple #[.slice A0 n0 c0, .int .i64 r.2] ∧ n0 = List.length r.1 ∧ List.length r.1 ≤ c0 ∧ Rd 2 T_api_Trait.E m A0 r.1
noncomputable def excerpt_out_16.j0 (a_0 : List T_api_Trait) (x_1 : Int) : Option ((List T_api_Trait) × Int) :=
  if x_1 < (0 : Int) then (some (a_0, x_1)) else (some (a_0, (IntKind.wrap .i64 (x_1 - (((List.length a_0) : Nat) : Int)))))
set_option maxRecDepth 100000 in
theorem excerpt_out_16.j0.walk {W : Nat → Prop} {h0 m0 h m : Heap} {A_0 : Option Addr} {n_0 c_0 : Nat} {a_0 : List T_api_Trait} {x_1 : Int} (O : Hold W h0 m0 h m []) (ne_0 : n_0 = List.length a_0) (k_0 : List.length a_0 ≤ c_0) (r_0 : Rd 2 T_api_Trait.E m A_0 a_0) {r : (List T_api_Trait) × Int} (e : excerpt_out_16.j0 a_0 x_1 = some r) : f16.j0 (excerpt_out_16.post W h0 m0 r) A_0 n_0 c_0 x_1 h := by
  unfold excerpt_out_16.j0 at e
  subst ne_0
  refine f16.j0_in ?_
  unfold f16.j0T
  refine split_dec_e e (fun c1 e => ?_) (fun c1 e => ?_)
  · cases e
    exact ⟨_, _, _, _, O.pick [], rfl, rfl, k_0, r_0⟩
  · cases e
    exact ⟨_, _, _, _, O.pick [], rfl, rfl, k_0, r_0⟩
noncomputable def excerpt_out_16.j1 (a_0 : List T_api_Trait) (x_1 : Int) (b_13 : Bool) : Option ((List T_api_Trait) × Int) :=
  if b_13 = true then (Option.bind (slices_Clone_32 a_0) fun y1 => Option.bind (slices_Delete_31 y1 x_1 (IntKind.wrap .i64 (x_1 + (1 : Int)))) fun y13 => some (y13, (-1 : Int))) else ((excerpt_out_16.j0 a_0 x_1))
set_option maxRecDepth 100000 in
theorem excerpt_out_16.j1.walk {W : Nat → Prop} {h0 m0 h m : Heap} {A_0 : Option Addr} {n_0 c_0 : Nat} {a_0 : List T_api_Trait} {x_1 : Int} {b_13 : Bool} (O : Hold W h0 m0 h m []) (ne_0 : n_0 = List.length a_0) (k_0 : List.length a_0 ≤ c_0) (r_0 : Rd 2 T_api_Trait.E m A_0 a_0) {r : (List T_api_Trait) × Int} (e : excerpt_out_16.j1 a_0 x_1 b_13 = some r) : f16.j1 (excerpt_out_16.post W h0 m0 r) A_0 n_0 c_0 x_1 b_13 h := by
  unfold excerpt_out_16.j1 at e
  subst ne_0
  refine f16.j1_in ?_
  unfold f16.j1T
  refine split_any_e e (fun c35 e => ?_) (fun c35 e => ?_)
  · obtain ⟨y1, g2, e⟩ := bind_e e
    refine (slices_Clone_32.walk (Hold.start (W := No) O.s) rfl k_0 r_0 g2).mono ?_
    rintro _ h3 ⟨m4, A7, n8, c9, Q5, rfl, ne10⟩
    have O12 := Hold.nm (O.ret Q5)
    subst ne10
    refine ⟨_, _, _, rfl, ?_⟩
    obtain ⟨y13, g14, e⟩ := bind_e e
    obtain ⟨W19, P20, B21, C22⟩ := O12.callC [0]
    refine (slices_Delete_31.walk P20 rfl g14).mono ?_
    rintro _ h15 ⟨m16, A23, n24, c25, Q17, rfl, ne26⟩
    have O28 := Hold.nm (B21 Q17)
    subst ne26
    refine ⟨_, _, _, rfl, ?_⟩
    obtain ⟨m29, u30, ⟨r31, k32⟩, O33⟩ := O28.frz 1 rfl
    replace r31 : Rd 2 T_api_Trait.E m29 A23 y13 := r31
    have O34 := O33.nm
    cases e
    exact ⟨_, _, _, _, O34.pick [], rfl, rfl, k32, r31⟩
  · exact excerpt_out_16.j0.walk (O.pick []).nm rfl k_0 r_0 e
noncomputable def excerpt_out_16 (a_0 : List T_api_Trait) (x_1 : Int) : Option ((List T_api_Trait) × Int) :=
  if x_1 ≥ (0 : Int) then ((excerpt_out_16.j1 a_0 x_1 (decide (x_1 < (((List.length a_0) : Nat) : Int))))) else ((excerpt_out_16.j1 a_0 x_1 false))
set_option maxRecDepth 100000 in
theorem excerpt_out_16.walk {W : Nat → Prop} {h m : Heap} {A_0 : Option Addr} {n_0 c_0 : Nat} {a_0 : List T_api_Trait} {x_1 : Int} (O : Hold W h m h m []) (ne_0 : n_0 = List.length a_0) (k_0 : List.length a_0 ≤ c_0) (r_0 : Rd 2 T_api_Trait.E m A_0 a_0) {r : (List T_api_Trait) × Int} (e : excerpt_out_16 a_0 x_1 = some r) : Run Tryd.prog 16 #[Value.slice A_0 n_0 c_0, Value.int .i64 x_1] h (excerpt_out_16.post W h m r) := by
  unfold excerpt_out_16 at e
  subst ne_0
  refine f16.run ?_
  unfold f16.runT
  refine split_dec_e e (fun c1 e => ?_) (fun c1 e => ?_)
  · exact excerpt_out_16.j1.walk (O.pick []).nm rfl k_0 r_0 e
  · exact excerpt_out_16.j1.walk (O.pick []).nm rfl k_0 r_0 e
def slices_Delete_33.post (W : Nat → Prop) (h0 m0 : Heap) (r : (List T_api_Impl)) (v : Value) (h : Heap) : Prop := ∃ m A0 n0 c0, Hold W h0 m0 h m [rR (aE T_api_Impl.T) A0 c0 r] ∧ v = .slice A0 n0 c0 ∧ n0 = List.length r
noncomputable def slices_Delete_33 (a0 : List T_api_Impl) (x1 x2 : Int) : Option (List T_api_Impl) := if 0 ≤ x1 ∧ x1 ≤ x2 ∧ x2 ≤ ((List.length a0 : Nat) : Int) then some (List.take (Int.toNat x1) a0 ++ List.drop (Int.toNat x2) a0) else none
set_option maxRecDepth 100000 in
theorem slices_Delete_33.walk {W : Nat → Prop} {h m : Heap} {A0 : Option Addr} {n0 c0 : Nat} {a0 : List T_api_Impl} {x1 x2 : Int} (O : Hold W h m h m [rR (aE T_api_Impl.T) A0 c0 a0]) (ne0 : n0 = List.length a0) {r : List T_api_Impl} (e : slices_Delete_33 a0 x1 x2 = some r) : Run Tryd.prog 33 #[Value.slice A0 n0 c0, Value.int .i64 x1, Value.int .i64 x2] h (slices_Delete_33.post W h m r) := by
  unfold slices_Delete_33 at e
  subst ne0
  obtain ⟨g, e⟩ := guard_e e
  cases e
  refine f33.run ?_
  unfold f33.runT
  exact delete_ok (e := 51) (zv := (Value.agg #[(Value.string (ByteArray.mk #[])), (Value.string (ByteArray.mk #[])), (Value.slice none 0 0)])) (zp := (T_api_Impl.mk (ByteArray.mk #[]) (ByteArray.mk #[]) ([] : (List T_api_Func)))) O 0 rfl (by kernel_rfl) (by kernel_rfl) (show T_api_Impl.E m (T_api_Impl.mk (ByteArray.mk #[]) (ByteArray.mk #[]) ([] : (List T_api_Func))) [(Value.string (ByteArray.mk #[])), (Value.string (ByteArray.mk #[])), (Value.slice none 0 0)] from (show T_api_Impl.E _ (T_api_Impl.mk (ByteArray.mk #[]) (ByteArray.mk #[]) ([] : List T_api_Func)) [(Value.string (ByteArray.mk #[])), (Value.string (ByteArray.mk #[])), (Value.slice none 0 0)] from ⟨_, _, rfl, (by exact Nat.le_refl 0), Rd.nil⟩)) g fun h' O' => ⟨m, _, _, _, O'.pick [0], rfl, rfl⟩
def slices_Clone_34.post (W : Nat → Prop) (h0 m0 : Heap) (r : (List T_api_Impl)) (v : Value) (h : Heap) : Prop := ∃ m A0 n0 c0, Hold W h0 m0 h m [rR (aE T_api_Impl.T) A0 c0 r] ∧ v = .slice A0 n0 c0 ∧ n0 = List.length r
noncomputable def slices_Clone_34 (a0 : List T_api_Impl) : Option (List T_api_Impl) := ap 56 ([] : List T_api_Impl) a0
set_option maxRecDepth 100000 in
theorem slices_Clone_34.walk {W : Nat → Prop} {h m : Heap} {A0 : Option Addr} {n0 c0 : Nat} {a0 : List T_api_Impl} (O : Hold W h m h m []) (ne0 : n0 = List.length a0) (k0 : List.length a0 ≤ c0) (r0 : Rd 3 T_api_Impl.E m A0 a0) {r : List T_api_Impl} (e : slices_Clone_34 a0 = some r) : Run Tryd.prog 34 #[Value.slice A0 n0 c0] h (slices_Clone_34.post W h m r) := by
  unfold slices_Clone_34 at e
  subst ne0
  refine f34.run ?_
  unfold f34.runT
  cases A0 with
  | none =>
    refine split_t ?_
    obtain rfl := Rd.void r0
    obtain rfl : [] = r := by have := (ap_e e).2; simpa using this
    exact ⟨m, none, 0, 0, O.nil (aE T_api_Impl.T) none, rfl, rfl⟩
  | some a =>
    refine split_f ?_
    refine O.new fun h1 x1 O1 => ?_
    refine O1.appE0 T_api_Impl.T rfl rfl (r0.srcE T_api_Impl.T O1.s rfl) (by decide) e fun A4 c4 h4 x4 O4 => ?_
    refine ⟨_, _, _, rfl, ?_⟩
    exact ⟨m, _, _, _, O4.pick [1], rfl, rfl⟩
def excerpt_out_17.post (W : Nat → Prop) (h0 m0 : Heap) (r : (List T_api_Impl) × Int) (v : Value) (h : Heap) : Prop := ∃ m A0 n0 c0, Hold W h0 m0 h m [] ∧ v = .tuple #[.slice A0 n0 c0, .int .i64 r.2] ∧ n0 = List.length r.1 ∧ List.length r.1 ≤ c0 ∧ Rd 3 T_api_Impl.E m A0 r.1
noncomputable def excerpt_out_17.j0 (a_0 : List T_api_Impl) (x_1 : Int) : Option ((List T_api_Impl) × Int) :=
  if x_1 < (0 : Int) then (some (a_0, x_1)) else (some (a_0, (IntKind.wrap .i64 (x_1 - (((List.length a_0) : Nat) : Int)))))
set_option maxRecDepth 100000 in
theorem excerpt_out_17.j0.walk {W : Nat → Prop} {h0 m0 h m : Heap} {A_0 : Option Addr} {n_0 c_0 : Nat} {a_0 : List T_api_Impl} {x_1 : Int} (O : Hold W h0 m0 h m []) (ne_0 : n_0 = List.length a_0) (k_0 : List.length a_0 ≤ c_0) (r_0 : Rd 3 T_api_Impl.E m A_0 a_0) {r : (List T_api_Impl) × Int} (e : excerpt_out_17.j0 a_0 x_1 = some r) : f17.j0 (excerpt_out_17.post W h0 m0 r) A_0 n_0 c_0 x_1 h := by
  unfold excerpt_out_17.j0 at e
  subst ne_0
  refine f17.j0_in ?_
  unfold f17.j0T
  refine split_dec_e e (fun c1 e => ?_) (fun c1 e => ?_)
  · cases e
    exact ⟨_, _, _, _, O.pick [], rfl, rfl, k_0, r_0⟩
  · cases e
    exact ⟨_, _, _, _, O.pick [], rfl, rfl, k_0, r_0⟩
noncomputable def excerpt_out_17.j1 (a_0 : List T_api_Impl) (x_1 : Int) (b_13 : Bool) : Option ((List T_api_Impl) × Int) :=
  if b_13 = true then (Option.bind (slices_Clone_34 a_0) fun y1 => Option.bind (slices_Delete_33 y1 x_1 (IntKind.wrap .i64 (x_1 + (1 : Int)))) fun y13 => some (y13, (-1 : Int))) else ((excerpt_out_17.j0 a_0 x_1))
set_option maxRecDepth 100000 in
theorem excerpt_out_17.j1.walk {W : Nat → Prop} {h0 m0 h m : Heap} {A_0 : Option Addr} {n_0 c_0 : Nat} {a_0 : List T_api_Impl} {x_1 : Int} {b_13 : Bool} (O : Hold W h0 m0 h m []) (ne_0 : n_0 = List.length a_0) (k_0 : List.length a_0 ≤ c_0) (r_0 : Rd 3 T_api_Impl.E m A_0 a_0) {r : (List T_api_Impl) × Int} (e : excerpt_out_17.j1 a_0 x_1 b_13 = some r) : f17.j1 (excerpt_out_17.post W h0 m0 r) A_0 n_0 c_0 x_1 b_13 h := by
  unfold excerpt_out_17.j1 at e
  subst ne_0
  refine f17.j1_in ?_
  unfold f17.j1T
  refine split_any_e e (fun c35 e => ?_) (fun c35 e => ?_)
  · obtain ⟨y1, g2, e⟩ := bind_e e
    refine (slices_Clone_34.walk (Hold.start (W := No) O.s) rfl k_0 r_0 g2).mono ?_
    rintro _ h3 ⟨m4, A7, n8, c9, Q5, rfl, ne10⟩
    have O12 := Hold.nm (O.ret Q5)
    subst ne10
    refine ⟨_, _, _, rfl, ?_⟩
    obtain ⟨y13, g14, e⟩ := bind_e e
    obtain ⟨W19, P20, B21, C22⟩ := O12.callC [0]
    refine (slices_Delete_33.walk P20 rfl g14).mono ?_
    rintro _ h15 ⟨m16, A23, n24, c25, Q17, rfl, ne26⟩
    have O28 := Hold.nm (B21 Q17)
    subst ne26
    refine ⟨_, _, _, rfl, ?_⟩
    obtain ⟨m29, u30, ⟨r31, k32⟩, O33⟩ := O28.frz 1 rfl
    replace r31 : Rd 3 T_api_Impl.E m29 A23 y13 := r31
    have O34 := O33.nm
    cases e
    exact ⟨_, _, _, _, O34.pick [], rfl, rfl, k32, r31⟩
  · exact excerpt_out_17.j0.walk (O.pick []).nm rfl k_0 r_0 e
noncomputable def excerpt_out_17 (a_0 : List T_api_Impl) (x_1 : Int) : Option ((List T_api_Impl) × Int) :=
  if x_1 ≥ (0 : Int) then ((excerpt_out_17.j1 a_0 x_1 (decide (x_1 < (((List.length a_0) : Nat) : Int))))) else ((excerpt_out_17.j1 a_0 x_1 false))
set_option maxRecDepth 100000 in
theorem excerpt_out_17.walk {W : Nat → Prop} {h m : Heap} {A_0 : Option Addr} {n_0 c_0 : Nat} {a_0 : List T_api_Impl} {x_1 : Int} (O : Hold W h m h m []) (ne_0 : n_0 = List.length a_0) (k_0 : List.length a_0 ≤ c_0) (r_0 : Rd 3 T_api_Impl.E m A_0 a_0) {r : (List T_api_Impl) × Int} (e : excerpt_out_17 a_0 x_1 = some r) : Run Tryd.prog 17 #[Value.slice A_0 n_0 c_0, Value.int .i64 x_1] h (excerpt_out_17.post W h m r) := by
  unfold excerpt_out_17 at e
  subst ne_0
  refine f17.run ?_
  unfold f17.runT
  refine split_dec_e e (fun c1 e => ?_) (fun c1 e => ?_)
  · exact excerpt_out_17.j1.walk (O.pick []).nm rfl k_0 r_0 e
  · exact excerpt_out_17.j1.walk (O.pick []).nm rfl k_0 r_0 e
def slices_Delete_35.post (W : Nat → Prop) (h0 m0 : Heap) (r : (List T_api_Func)) (v : Value) (h : Heap) : Prop := ∃ m A0 n0 c0, Hold W h0 m0 h m [rR (aE T_api_Func.T) A0 c0 r] ∧ v = .slice A0 n0 c0 ∧ n0 = List.length r
noncomputable def slices_Delete_35 (a0 : List T_api_Func) (x1 x2 : Int) : Option (List T_api_Func) := if 0 ≤ x1 ∧ x1 ≤ x2 ∧ x2 ≤ ((List.length a0 : Nat) : Int) then some (List.take (Int.toNat x1) a0 ++ List.drop (Int.toNat x2) a0) else none
set_option maxRecDepth 100000 in
theorem slices_Delete_35.walk {W : Nat → Prop} {h m : Heap} {A0 : Option Addr} {n0 c0 : Nat} {a0 : List T_api_Func} {x1 x2 : Int} (O : Hold W h m h m [rR (aE T_api_Func.T) A0 c0 a0]) (ne0 : n0 = List.length a0) {r : List T_api_Func} (e : slices_Delete_35 a0 x1 x2 = some r) : Run Tryd.prog 35 #[Value.slice A0 n0 c0, Value.int .i64 x1, Value.int .i64 x2] h (slices_Delete_35.post W h m r) := by
  unfold slices_Delete_35 at e
  subst ne0
  obtain ⟨g, e⟩ := guard_e e
  cases e
  refine f35.run ?_
  unfold f35.runT
  exact delete_ok (e := 61) (zv := (Value.agg #[(Value.string (ByteArray.mk #[])), (Value.slice none 0 0), (Value.slice none 0 0), (Value.slice none 0 0), (Value.int .i64 (0 : Int)), (Value.string (ByteArray.mk #[])), (Value.slice none 0 0), (Value.int .i64 (0 : Int)), (Value.int .i64 (0 : Int)), (Value.string (ByteArray.mk #[])), (Value.slice none 0 0), (Value.slice none 0 0), (Value.slice none 0 0), (Value.slice none 0 0), (Value.int .i64 (0 : Int))])) (zp := (T_api_Func.mk (ByteArray.mk #[]) ([] : (List ByteArray)) ([] : (List ByteArray)) ([] : (List T_api_Type)) (T_api_Type.mk (0 : Int) (ByteArray.mk #[]) ([] : (List T_api_Type))) (T_api_Expr.mk (0 : Int) (0 : Int) (ByteArray.mk #[]) ([] : (List ByteArray)) ([] : (List T_api_Type)) ([] : (List T_api_Expr)) ([] : (List T_api_Arm)) (0 : Int)))) O 0 rfl (by kernel_rfl) (by kernel_rfl) (show T_api_Func.E m (T_api_Func.mk (ByteArray.mk #[]) ([] : (List ByteArray)) ([] : (List ByteArray)) ([] : (List T_api_Type)) (T_api_Type.mk (0 : Int) (ByteArray.mk #[]) ([] : (List T_api_Type))) (T_api_Expr.mk (0 : Int) (0 : Int) (ByteArray.mk #[]) ([] : (List ByteArray)) ([] : (List T_api_Type)) ([] : (List T_api_Expr)) ([] : (List T_api_Arm)) (0 : Int))) [(Value.string (ByteArray.mk #[])), (Value.slice none 0 0), (Value.slice none 0 0), (Value.slice none 0 0), (Value.int .i64 (0 : Int)), (Value.string (ByteArray.mk #[])), (Value.slice none 0 0), (Value.int .i64 (0 : Int)), (Value.int .i64 (0 : Int)), (Value.string (ByteArray.mk #[])), (Value.slice none 0 0), (Value.slice none 0 0), (Value.slice none 0 0), (Value.slice none 0 0), (Value.int .i64 (0 : Int))] from (show T_api_Func.E _ (T_api_Func.mk (ByteArray.mk #[]) ([] : List ByteArray) ([] : List ByteArray) ([] : List T_api_Type) (T_api_Type.mk (0 : Int) (ByteArray.mk #[]) ([] : List T_api_Type)) (T_api_Expr.mk (0 : Int) (0 : Int) (ByteArray.mk #[]) ([] : List ByteArray) ([] : List T_api_Type) ([] : List T_api_Expr) ([] : List T_api_Arm) (0 : Int))) [(Value.string (ByteArray.mk #[])), (Value.slice none 0 0), (Value.slice none 0 0), (Value.slice none 0 0), (Value.int .i64 (0 : Int)), (Value.string (ByteArray.mk #[])), (Value.slice none 0 0), (Value.int .i64 (0 : Int)), (Value.int .i64 (0 : Int)), (Value.string (ByteArray.mk #[])), (Value.slice none 0 0), (Value.slice none 0 0), (Value.slice none 0 0), (Value.slice none 0 0), (Value.int .i64 (0 : Int))] from ⟨_, _, _, _, _, _, _, _, _, _, _, _, _, _, _, _, rfl, (by exact Nat.le_refl 0), Rd.nil, (by exact Nat.le_refl 0), Rd.nil, (by exact Nat.le_refl 0), Rd.nil, (by exact Nat.le_refl 0), Rd.nil, (by exact Nat.le_refl 0), Rd.nil, (by exact Nat.le_refl 0), Rd.nil, (by exact Nat.le_refl 0), Rd.nil, (by exact Nat.le_refl 0), Rd.nil⟩)) g fun h' O' => ⟨m, _, _, _, O'.pick [0], rfl, rfl⟩
def slices_Clone_36.post (W : Nat → Prop) (h0 m0 : Heap) (r : (List T_api_Func)) (v : Value) (h : Heap) : Prop := ∃ m A0 n0 c0, Hold W h0 m0 h m [rR (aE T_api_Func.T) A0 c0 r] ∧ v = .slice A0 n0 c0 ∧ n0 = List.length r
noncomputable def slices_Clone_36 (a0 : List T_api_Func) : Option (List T_api_Func) := ap 272 ([] : List T_api_Func) a0
set_option maxRecDepth 100000 in
theorem slices_Clone_36.walk {W : Nat → Prop} {h m : Heap} {A0 : Option Addr} {n0 c0 : Nat} {a0 : List T_api_Func} (O : Hold W h m h m []) (ne0 : n0 = List.length a0) (k0 : List.length a0 ≤ c0) (r0 : Rd 15 T_api_Func.E m A0 a0) {r : List T_api_Func} (e : slices_Clone_36 a0 = some r) : Run Tryd.prog 36 #[Value.slice A0 n0 c0] h (slices_Clone_36.post W h m r) := by
  unfold slices_Clone_36 at e
  subst ne0
  refine f36.run ?_
  unfold f36.runT
  cases A0 with
  | none =>
    refine split_t ?_
    obtain rfl := Rd.void r0
    obtain rfl : [] = r := by have := (ap_e e).2; simpa using this
    exact ⟨m, none, 0, 0, O.nil (aE T_api_Func.T) none, rfl, rfl⟩
  | some a =>
    refine split_f ?_
    refine O.new fun h1 x1 O1 => ?_
    refine O1.appE0 T_api_Func.T rfl rfl (r0.srcE T_api_Func.T O1.s rfl) (by decide) e fun A4 c4 h4 x4 O4 => ?_
    refine ⟨_, _, _, rfl, ?_⟩
    exact ⟨m, _, _, _, O4.pick [1], rfl, rfl⟩
def excerpt_out_18.post (W : Nat → Prop) (h0 m0 : Heap) (r : (List T_api_Func) × Int) (v : Value) (h : Heap) : Prop := ∃ m A0 n0 c0, Hold W h0 m0 h m [] ∧ v = .tuple #[.slice A0 n0 c0, .int .i64 r.2] ∧ n0 = List.length r.1 ∧ List.length r.1 ≤ c0 ∧ Rd 15 T_api_Func.E m A0 r.1
noncomputable def excerpt_out_18.j0 (a_0 : List T_api_Func) (x_1 : Int) : Option ((List T_api_Func) × Int) :=
  if x_1 < (0 : Int) then (some (a_0, x_1)) else (some (a_0, (IntKind.wrap .i64 (x_1 - (((List.length a_0) : Nat) : Int)))))
set_option maxRecDepth 100000 in
theorem excerpt_out_18.j0.walk {W : Nat → Prop} {h0 m0 h m : Heap} {A_0 : Option Addr} {n_0 c_0 : Nat} {a_0 : List T_api_Func} {x_1 : Int} (O : Hold W h0 m0 h m []) (ne_0 : n_0 = List.length a_0) (k_0 : List.length a_0 ≤ c_0) (r_0 : Rd 15 T_api_Func.E m A_0 a_0) {r : (List T_api_Func) × Int} (e : excerpt_out_18.j0 a_0 x_1 = some r) : f18.j0 (excerpt_out_18.post W h0 m0 r) A_0 n_0 c_0 x_1 h := by
  unfold excerpt_out_18.j0 at e
  subst ne_0
  refine f18.j0_in ?_
  unfold f18.j0T
  refine split_dec_e e (fun c1 e => ?_) (fun c1 e => ?_)
  · cases e
    exact ⟨_, _, _, _, O.pick [], rfl, rfl, k_0, r_0⟩
  · cases e
    exact ⟨_, _, _, _, O.pick [], rfl, rfl, k_0, r_0⟩
noncomputable def excerpt_out_18.j1 (a_0 : List T_api_Func) (x_1 : Int) (b_13 : Bool) : Option ((List T_api_Func) × Int) :=
  if b_13 = true then (Option.bind (slices_Clone_36 a_0) fun y1 => Option.bind (slices_Delete_35 y1 x_1 (IntKind.wrap .i64 (x_1 + (1 : Int)))) fun y13 => some (y13, (-1 : Int))) else ((excerpt_out_18.j0 a_0 x_1))
set_option maxRecDepth 100000 in
theorem excerpt_out_18.j1.walk {W : Nat → Prop} {h0 m0 h m : Heap} {A_0 : Option Addr} {n_0 c_0 : Nat} {a_0 : List T_api_Func} {x_1 : Int} {b_13 : Bool} (O : Hold W h0 m0 h m []) (ne_0 : n_0 = List.length a_0) (k_0 : List.length a_0 ≤ c_0) (r_0 : Rd 15 T_api_Func.E m A_0 a_0) {r : (List T_api_Func) × Int} (e : excerpt_out_18.j1 a_0 x_1 b_13 = some r) : f18.j1 (excerpt_out_18.post W h0 m0 r) A_0 n_0 c_0 x_1 b_13 h := by
  unfold excerpt_out_18.j1 at e
  subst ne_0
  refine f18.j1_in ?_
  unfold f18.j1T
  refine split_any_e e (fun c35 e => ?_) (fun c35 e => ?_)
  · obtain ⟨y1, g2, e⟩ := bind_e e
    refine (slices_Clone_36.walk (Hold.start (W := No) O.s) rfl k_0 r_0 g2).mono ?_
    rintro _ h3 ⟨m4, A7, n8, c9, Q5, rfl, ne10⟩
    have O12 := Hold.nm (O.ret Q5)
    subst ne10
    refine ⟨_, _, _, rfl, ?_⟩
    obtain ⟨y13, g14, e⟩ := bind_e e
    obtain ⟨W19, P20, B21, C22⟩ := O12.callC [0]
    refine (slices_Delete_35.walk P20 rfl g14).mono ?_
    rintro _ h15 ⟨m16, A23, n24, c25, Q17, rfl, ne26⟩
    have O28 := Hold.nm (B21 Q17)
    subst ne26
    refine ⟨_, _, _, rfl, ?_⟩
    obtain ⟨m29, u30, ⟨r31, k32⟩, O33⟩ := O28.frz 1 rfl
    replace r31 : Rd 15 T_api_Func.E m29 A23 y13 := r31
    have O34 := O33.nm
    cases e
    exact ⟨_, _, _, _, O34.pick [], rfl, rfl, k32, r31⟩
  · exact excerpt_out_18.j0.walk (O.pick []).nm rfl k_0 r_0 e
noncomputable def excerpt_out_18 (a_0 : List T_api_Func) (x_1 : Int) : Option ((List T_api_Func) × Int) :=
  if x_1 ≥ (0 : Int) then ((excerpt_out_18.j1 a_0 x_1 (decide (x_1 < (((List.length a_0) : Nat) : Int))))) else ((excerpt_out_18.j1 a_0 x_1 false))
set_option maxRecDepth 100000 in
theorem excerpt_out_18.walk {W : Nat → Prop} {h m : Heap} {A_0 : Option Addr} {n_0 c_0 : Nat} {a_0 : List T_api_Func} {x_1 : Int} (O : Hold W h m h m []) (ne_0 : n_0 = List.length a_0) (k_0 : List.length a_0 ≤ c_0) (r_0 : Rd 15 T_api_Func.E m A_0 a_0) {r : (List T_api_Func) × Int} (e : excerpt_out_18 a_0 x_1 = some r) : Run Tryd.prog 18 #[Value.slice A_0 n_0 c_0, Value.int .i64 x_1] h (excerpt_out_18.post W h m r) := by
  unfold excerpt_out_18 at e
  subst ne_0
  refine f18.run ?_
  unfold f18.runT
  refine split_dec_e e (fun c1 e => ?_) (fun c1 e => ?_)
  · exact excerpt_out_18.j1.walk (O.pick []).nm rfl k_0 r_0 e
  · exact excerpt_out_18.j1.walk (O.pick []).nm rfl k_0 r_0 e
def slices_Delete_37.post (W : Nat → Prop) (h0 m0 : Heap) (r : (List T_api_Actor)) (v : Value) (h : Heap) : Prop := ∃ m A0 n0 c0, Hold W h0 m0 h m [rR (aE T_api_Actor.T) A0 c0 r] ∧ v = .slice A0 n0 c0 ∧ n0 = List.length r
noncomputable def slices_Delete_37 (a0 : List T_api_Actor) (x1 x2 : Int) : Option (List T_api_Actor) := if 0 ≤ x1 ∧ x1 ≤ x2 ∧ x2 ≤ ((List.length a0 : Nat) : Int) then some (List.take (Int.toNat x1) a0 ++ List.drop (Int.toNat x2) a0) else none
set_option maxRecDepth 100000 in
theorem slices_Delete_37.walk {W : Nat → Prop} {h m : Heap} {A0 : Option Addr} {n0 c0 : Nat} {a0 : List T_api_Actor} {x1 x2 : Int} (O : Hold W h m h m [rR (aE T_api_Actor.T) A0 c0 a0]) (ne0 : n0 = List.length a0) {r : List T_api_Actor} (e : slices_Delete_37 a0 x1 x2 = some r) : Run Tryd.prog 37 #[Value.slice A0 n0 c0, Value.int .i64 x1, Value.int .i64 x2] h (slices_Delete_37.post W h m r) := by
  unfold slices_Delete_37 at e
  subst ne0
  obtain ⟨g, e⟩ := guard_e e
  cases e
  refine f37.run ?_
  unfold f37.runT
  exact delete_ok (e := 64) (zv := (Value.agg #[(Value.string (ByteArray.mk #[])), (Value.slice none 0 0), (Value.slice none 0 0), (Value.int .i64 (0 : Int)), (Value.string (ByteArray.mk #[])), (Value.slice none 0 0), (Value.int .i64 (0 : Int)), (Value.int .i64 (0 : Int)), (Value.string (ByteArray.mk #[])), (Value.slice none 0 0), (Value.slice none 0 0), (Value.slice none 0 0), (Value.slice none 0 0), (Value.int .i64 (0 : Int))])) (zp := (T_api_Actor.mk (ByteArray.mk #[]) ([] : (List ByteArray)) ([] : (List T_api_Type)) (T_api_Type.mk (0 : Int) (ByteArray.mk #[]) ([] : (List T_api_Type))) (T_api_Expr.mk (0 : Int) (0 : Int) (ByteArray.mk #[]) ([] : (List ByteArray)) ([] : (List T_api_Type)) ([] : (List T_api_Expr)) ([] : (List T_api_Arm)) (0 : Int)))) O 0 rfl (by kernel_rfl) (by kernel_rfl) (show T_api_Actor.E m (T_api_Actor.mk (ByteArray.mk #[]) ([] : (List ByteArray)) ([] : (List T_api_Type)) (T_api_Type.mk (0 : Int) (ByteArray.mk #[]) ([] : (List T_api_Type))) (T_api_Expr.mk (0 : Int) (0 : Int) (ByteArray.mk #[]) ([] : (List ByteArray)) ([] : (List T_api_Type)) ([] : (List T_api_Expr)) ([] : (List T_api_Arm)) (0 : Int))) [(Value.string (ByteArray.mk #[])), (Value.slice none 0 0), (Value.slice none 0 0), (Value.int .i64 (0 : Int)), (Value.string (ByteArray.mk #[])), (Value.slice none 0 0), (Value.int .i64 (0 : Int)), (Value.int .i64 (0 : Int)), (Value.string (ByteArray.mk #[])), (Value.slice none 0 0), (Value.slice none 0 0), (Value.slice none 0 0), (Value.slice none 0 0), (Value.int .i64 (0 : Int))] from (show T_api_Actor.E _ (T_api_Actor.mk (ByteArray.mk #[]) ([] : List ByteArray) ([] : List T_api_Type) (T_api_Type.mk (0 : Int) (ByteArray.mk #[]) ([] : List T_api_Type)) (T_api_Expr.mk (0 : Int) (0 : Int) (ByteArray.mk #[]) ([] : List ByteArray) ([] : List T_api_Type) ([] : List T_api_Expr) ([] : List T_api_Arm) (0 : Int))) [(Value.string (ByteArray.mk #[])), (Value.slice none 0 0), (Value.slice none 0 0), (Value.int .i64 (0 : Int)), (Value.string (ByteArray.mk #[])), (Value.slice none 0 0), (Value.int .i64 (0 : Int)), (Value.int .i64 (0 : Int)), (Value.string (ByteArray.mk #[])), (Value.slice none 0 0), (Value.slice none 0 0), (Value.slice none 0 0), (Value.slice none 0 0), (Value.int .i64 (0 : Int))] from ⟨_, _, _, _, _, _, _, _, _, _, _, _, _, _, rfl, (by exact Nat.le_refl 0), Rd.nil, (by exact Nat.le_refl 0), Rd.nil, (by exact Nat.le_refl 0), Rd.nil, (by exact Nat.le_refl 0), Rd.nil, (by exact Nat.le_refl 0), Rd.nil, (by exact Nat.le_refl 0), Rd.nil, (by exact Nat.le_refl 0), Rd.nil⟩)) g fun h' O' => ⟨m, _, _, _, O'.pick [0], rfl, rfl⟩
def slices_Clone_38.post (W : Nat → Prop) (h0 m0 : Heap) (r : (List T_api_Actor)) (v : Value) (h : Heap) : Prop := ∃ m A0 n0 c0, Hold W h0 m0 h m [rR (aE T_api_Actor.T) A0 c0 r] ∧ v = .slice A0 n0 c0 ∧ n0 = List.length r
noncomputable def slices_Clone_38 (a0 : List T_api_Actor) : Option (List T_api_Actor) := ap 248 ([] : List T_api_Actor) a0
set_option maxRecDepth 100000 in
theorem slices_Clone_38.walk {W : Nat → Prop} {h m : Heap} {A0 : Option Addr} {n0 c0 : Nat} {a0 : List T_api_Actor} (O : Hold W h m h m []) (ne0 : n0 = List.length a0) (k0 : List.length a0 ≤ c0) (r0 : Rd 14 T_api_Actor.E m A0 a0) {r : List T_api_Actor} (e : slices_Clone_38 a0 = some r) : Run Tryd.prog 38 #[Value.slice A0 n0 c0] h (slices_Clone_38.post W h m r) := by
  unfold slices_Clone_38 at e
  subst ne0
  refine f38.run ?_
  unfold f38.runT
  cases A0 with
  | none =>
    refine split_t ?_
    obtain rfl := Rd.void r0
    obtain rfl : [] = r := by have := (ap_e e).2; simpa using this
    exact ⟨m, none, 0, 0, O.nil (aE T_api_Actor.T) none, rfl, rfl⟩
  | some a =>
    refine split_f ?_
    refine O.new fun h1 x1 O1 => ?_
    refine O1.appE0 T_api_Actor.T rfl rfl (r0.srcE T_api_Actor.T O1.s rfl) (by decide) e fun A4 c4 h4 x4 O4 => ?_
    refine ⟨_, _, _, rfl, ?_⟩
    exact ⟨m, _, _, _, O4.pick [1], rfl, rfl⟩
def excerpt_out_19.post (W : Nat → Prop) (h0 m0 : Heap) (r : (List T_api_Actor) × Int) (v : Value) (h : Heap) : Prop := ∃ m A0 n0 c0, Hold W h0 m0 h m [] ∧ v = .tuple #[.slice A0 n0 c0, .int .i64 r.2] ∧ n0 = List.length r.1 ∧ List.length r.1 ≤ c0 ∧ Rd 14 T_api_Actor.E m A0 r.1
noncomputable def excerpt_out_19.j0 (a_0 : List T_api_Actor) (x_1 : Int) : Option ((List T_api_Actor) × Int) :=
  if x_1 < (0 : Int) then (some (a_0, x_1)) else (some (a_0, (IntKind.wrap .i64 (x_1 - (((List.length a_0) : Nat) : Int)))))
set_option maxRecDepth 100000 in
theorem excerpt_out_19.j0.walk {W : Nat → Prop} {h0 m0 h m : Heap} {A_0 : Option Addr} {n_0 c_0 : Nat} {a_0 : List T_api_Actor} {x_1 : Int} (O : Hold W h0 m0 h m []) (ne_0 : n_0 = List.length a_0) (k_0 : List.length a_0 ≤ c_0) (r_0 : Rd 14 T_api_Actor.E m A_0 a_0) {r : (List T_api_Actor) × Int} (e : excerpt_out_19.j0 a_0 x_1 = some r) : f19.j0 (excerpt_out_19.post W h0 m0 r) A_0 n_0 c_0 x_1 h := by
  unfold excerpt_out_19.j0 at e
  subst ne_0
  refine f19.j0_in ?_
  unfold f19.j0T
  refine split_dec_e e (fun c1 e => ?_) (fun c1 e => ?_)
  · cases e
    exact ⟨_, _, _, _, O.pick [], rfl, rfl, k_0, r_0⟩
  · cases e
    exact ⟨_, _, _, _, O.pick [], rfl, rfl, k_0, r_0⟩
noncomputable def excerpt_out_19.j1 (a_0 : List T_api_Actor) (x_1 : Int) (b_13 : Bool) : Option ((List T_api_Actor) × Int) :=
  if b_13 = true then (Option.bind (slices_Clone_38 a_0) fun y1 => Option.bind (slices_Delete_37 y1 x_1 (IntKind.wrap .i64 (x_1 + (1 : Int)))) fun y13 => some (y13, (-1 : Int))) else ((excerpt_out_19.j0 a_0 x_1))
set_option maxRecDepth 100000 in
theorem excerpt_out_19.j1.walk {W : Nat → Prop} {h0 m0 h m : Heap} {A_0 : Option Addr} {n_0 c_0 : Nat} {a_0 : List T_api_Actor} {x_1 : Int} {b_13 : Bool} (O : Hold W h0 m0 h m []) (ne_0 : n_0 = List.length a_0) (k_0 : List.length a_0 ≤ c_0) (r_0 : Rd 14 T_api_Actor.E m A_0 a_0) {r : (List T_api_Actor) × Int} (e : excerpt_out_19.j1 a_0 x_1 b_13 = some r) : f19.j1 (excerpt_out_19.post W h0 m0 r) A_0 n_0 c_0 x_1 b_13 h := by
  unfold excerpt_out_19.j1 at e
  subst ne_0
  refine f19.j1_in ?_
  unfold f19.j1T
  refine split_any_e e (fun c35 e => ?_) (fun c35 e => ?_)
  · obtain ⟨y1, g2, e⟩ := bind_e e
    refine (slices_Clone_38.walk (Hold.start (W := No) O.s) rfl k_0 r_0 g2).mono ?_
    rintro _ h3 ⟨m4, A7, n8, c9, Q5, rfl, ne10⟩
    have O12 := Hold.nm (O.ret Q5)
    subst ne10
    refine ⟨_, _, _, rfl, ?_⟩
    obtain ⟨y13, g14, e⟩ := bind_e e
    obtain ⟨W19, P20, B21, C22⟩ := O12.callC [0]
    refine (slices_Delete_37.walk P20 rfl g14).mono ?_
    rintro _ h15 ⟨m16, A23, n24, c25, Q17, rfl, ne26⟩
    have O28 := Hold.nm (B21 Q17)
    subst ne26
    refine ⟨_, _, _, rfl, ?_⟩
    obtain ⟨m29, u30, ⟨r31, k32⟩, O33⟩ := O28.frz 1 rfl
    replace r31 : Rd 14 T_api_Actor.E m29 A23 y13 := r31
    have O34 := O33.nm
    cases e
    exact ⟨_, _, _, _, O34.pick [], rfl, rfl, k32, r31⟩
  · exact excerpt_out_19.j0.walk (O.pick []).nm rfl k_0 r_0 e
noncomputable def excerpt_out_19 (a_0 : List T_api_Actor) (x_1 : Int) : Option ((List T_api_Actor) × Int) :=
  if x_1 ≥ (0 : Int) then ((excerpt_out_19.j1 a_0 x_1 (decide (x_1 < (((List.length a_0) : Nat) : Int))))) else ((excerpt_out_19.j1 a_0 x_1 false))
set_option maxRecDepth 100000 in
theorem excerpt_out_19.walk {W : Nat → Prop} {h m : Heap} {A_0 : Option Addr} {n_0 c_0 : Nat} {a_0 : List T_api_Actor} {x_1 : Int} (O : Hold W h m h m []) (ne_0 : n_0 = List.length a_0) (k_0 : List.length a_0 ≤ c_0) (r_0 : Rd 14 T_api_Actor.E m A_0 a_0) {r : (List T_api_Actor) × Int} (e : excerpt_out_19 a_0 x_1 = some r) : Run Tryd.prog 19 #[Value.slice A_0 n_0 c_0, Value.int .i64 x_1] h (excerpt_out_19.post W h m r) := by
  unfold excerpt_out_19 at e
  subst ne_0
  refine f19.run ?_
  unfold f19.runT
  refine split_dec_e e (fun c1 e => ?_) (fun c1 e => ?_)
  · exact excerpt_out_19.j1.walk (O.pick []).nm rfl k_0 r_0 e
  · exact excerpt_out_19.j1.walk (O.pick []).nm rfl k_0 r_0 e
def excerpt_Without.post (W : Nat → Prop) (h0 m0 : Heap) (r : T_api_Program × Int) (v : Value) (h : Heap) : Prop := ∃ m cs0, Hold W h0 m0 h m [] ∧ v = .tuple #[.agg cs0.toArray, .int .i64 r.2] ∧ T_api_Program.E m r.1 cs0
noncomputable def excerpt_Without.j0 (x_1 : Int) (y_2 : T_api_Program) (y_4 : T_api_Program) : Option (T_api_Program × Int) :=
  Option.bind (excerpt_out_14 y_2.Uses x_1) fun y6 => Option.bind (excerpt_out_15 (({ y_2 with Uses := y6.1 }).Datas) y6.2) fun y28 => Option.bind (excerpt_out_16 (({ ({ y_2 with Uses := y6.1 }) with Datas := y28.1 }).Traits) y28.2) fun y50 => Option.bind (excerpt_out_17 (({ ({ ({ y_2 with Uses := y6.1 }) with Datas := y28.1 }) with Traits := y50.1 }).Impls) y50.2) fun y72 => Option.bind (excerpt_out_18 (({ ({ ({ ({ y_2 with Uses := y6.1 }) with Datas := y28.1 }) with Traits := y50.1 }) with Impls := y72.1 }).Funcs) y72.2) fun y94 => Option.bind (excerpt_out_19 (({ ({ ({ ({ ({ y_2 with Uses := y6.1 }) with Datas := y28.1 }) with Traits := y50.1 }) with Impls := y72.1 }) with Funcs := y94.1 }).Actors) y94.2) fun y116 => some (({ ({ ({ ({ ({ ({ y_2 with Uses := y6.1 }) with Datas := y28.1 }) with Traits := y50.1 }) with Impls := y72.1 }) with Funcs := y94.1 }) with Actors := y116.1 }), (0 : Int))
set_option maxHeartbeats 4000000 in
set_option maxRecDepth 100000 in
theorem excerpt_Without.j0.walk {W : Nat → Prop} {h0 m0 h m : Heap} {bk_2 : Nat} {cs_2 : List Value} {bk_4 : Nat} {cs_4 : List Value} {x_1 : Int} {y_2 : T_api_Program} {y_4 : T_api_Program} (O : Hold W h0 m0 h m [rV bk_2 29 cs_2, rV bk_4 29 cs_4]) (e_2 : T_api_Program.E m y_2 cs_2) (e_4 : T_api_Program.E m y_4 cs_4) {r : T_api_Program × Int} (e : excerpt_Without.j0 x_1 y_2 y_4 = some r) : f4.j0 (excerpt_Without.post W h0 m0 r) x_1 (⟨bk_2, 0, none⟩ : Addr) (⟨bk_4, 0, none⟩ : Addr) h := by
  unfold excerpt_Without.j0 at e
  refine f4.j0_in ?_
  unfold f4.j0T
  obtain ⟨A1, c2, q3, k4, r5⟩ := T_api_Program.g2 e_2
  refine ⟨_, ldk (k := 2) (Sub.refl _) (O.all 0 rfl) q3, _, _, _, rfl, ?_⟩
  obtain ⟨y6, g7, e⟩ := bind_e e
  refine (excerpt_out_14.walk (Hold.start (W := No) O.s) rfl k4 r5 g7).mono ?_
  rintro _ h8 ⟨m9, A12, n13, c14, Q10, rfl, ne15, k16, r17⟩
  have O18 := Hold.nm (O.ret Q10)
  subst ne15
  refine ⟨_, _, _, _, rfl, ?_⟩
  refine O18.stE 0 rfl 2 (lt_len (T_api_Program.T.len _ _ _ e_2) (by decide)) trivial (T_api_Program.s2 (T_api_Program.T.mono _ _ _ _ Q10.S.up e_2) rfl k16 r17) fun h19 cs21 e22 O20 => ?_
  obtain ⟨A23, c24, q25, k26, r27⟩ := T_api_Program.g3 e22
  refine ⟨_, ldk (k := 3) (Sub.refl _) (O20.all 0 rfl) q25, _, _, _, rfl, ?_⟩
  obtain ⟨y28, g29, e⟩ := bind_e e
  refine (excerpt_out_15.walk (Hold.start (W := No) O20.s) rfl k26 r27 g29).mono ?_
  rintro _ h30 ⟨m31, A34, n35, c36, Q32, rfl, ne37, k38, r39⟩
  have O40 := Hold.nm (O20.ret Q32)
  subst ne37
  refine ⟨_, _, _, _, rfl, ?_⟩
  refine O40.stE 0 rfl 3 (lt_len (T_api_Program.T.len _ _ _ e22) (by decide)) trivial (T_api_Program.s3 (T_api_Program.T.mono _ _ _ _ Q32.S.up e22) rfl k38 r39) fun h41 cs43 e44 O42 => ?_
  obtain ⟨A45, c46, q47, k48, r49⟩ := T_api_Program.g4 e44
  refine ⟨_, ldk (k := 4) (Sub.refl _) (O42.all 0 rfl) q47, _, _, _, rfl, ?_⟩
  obtain ⟨y50, g51, e⟩ := bind_e e
  refine (excerpt_out_16.walk (Hold.start (W := No) O42.s) rfl k48 r49 g51).mono ?_
  rintro _ h52 ⟨m53, A56, n57, c58, Q54, rfl, ne59, k60, r61⟩
  have O62 := Hold.nm (O42.ret Q54)
  subst ne59
  refine ⟨_, _, _, _, rfl, ?_⟩
  refine O62.stE 0 rfl 4 (lt_len (T_api_Program.T.len _ _ _ e44) (by decide)) trivial (T_api_Program.s4 (T_api_Program.T.mono _ _ _ _ Q54.S.up e44) rfl k60 r61) fun h63 cs65 e66 O64 => ?_
  obtain ⟨A67, c68, q69, k70, r71⟩ := T_api_Program.g5 e66
  refine ⟨_, ldk (k := 5) (Sub.refl _) (O64.all 0 rfl) q69, _, _, _, rfl, ?_⟩
  obtain ⟨y72, g73, e⟩ := bind_e e
  refine (excerpt_out_17.walk (Hold.start (W := No) O64.s) rfl k70 r71 g73).mono ?_
  rintro _ h74 ⟨m75, A78, n79, c80, Q76, rfl, ne81, k82, r83⟩
  have O84 := Hold.nm (O64.ret Q76)
  subst ne81
  refine ⟨_, _, _, _, rfl, ?_⟩
  refine O84.stE 0 rfl 5 (lt_len (T_api_Program.T.len _ _ _ e66) (by decide)) trivial (T_api_Program.s5 (T_api_Program.T.mono _ _ _ _ Q76.S.up e66) rfl k82 r83) fun h85 cs87 e88 O86 => ?_
  obtain ⟨A89, c90, q91, k92, r93⟩ := T_api_Program.g6 e88
  refine ⟨_, ldk (k := 6) (Sub.refl _) (O86.all 0 rfl) q91, _, _, _, rfl, ?_⟩
  obtain ⟨y94, g95, e⟩ := bind_e e
  refine (excerpt_out_18.walk (Hold.start (W := No) O86.s) rfl k92 r93 g95).mono ?_
  rintro _ h96 ⟨m97, A100, n101, c102, Q98, rfl, ne103, k104, r105⟩
  have O106 := Hold.nm (O86.ret Q98)
  subst ne103
  refine ⟨_, _, _, _, rfl, ?_⟩
  refine O106.stE 0 rfl 6 (lt_len (T_api_Program.T.len _ _ _ e88) (by decide)) trivial (T_api_Program.s6 (T_api_Program.T.mono _ _ _ _ Q98.S.up e88) rfl k104 r105) fun h107 cs109 e110 O108 => ?_
  obtain ⟨A111, c112, q113, k114, r115⟩ := T_api_Program.g7 e110
  refine ⟨_, ldk (k := 7) (Sub.refl _) (O108.all 0 rfl) q113, _, _, _, rfl, ?_⟩
  obtain ⟨y116, g117, e⟩ := bind_e e
  refine (excerpt_out_19.walk (Hold.start (W := No) O108.s) rfl k114 r115 g117).mono ?_
  rintro _ h118 ⟨m119, A122, n123, c124, Q120, rfl, ne125, k126, r127⟩
  have O128 := Hold.nm (O108.ret Q120)
  subst ne125
  refine ⟨_, _, _, _, rfl, ?_⟩
  refine O128.stE 0 rfl 7 (lt_len (T_api_Program.T.len _ _ _ e110) (by decide)) trivial (T_api_Program.s7 (T_api_Program.T.mono _ _ _ _ Q120.S.up e110) rfl k126 r127) fun h129 cs131 e132 O130 => ?_
  refine ⟨_, ldAn (Sub.refl _) (O130.all 0 rfl) (T_api_Program.T.len _ _ _ e132), ?_⟩
  refine ⟨_, rfl, (T_api_Program.T.len _ _ _ e132), ?_⟩
  refine O130.stA 1 rfl ((T_api_Program.T.len _ _ _ e132).trans ((T_api_Program.T.len _ _ _ e_4)).symm) (T_api_Program.T.flat _ _ _ e132) fun h133 O134 => ?_
  refine ⟨_, ldAn (Sub.refl _) (O134.all 1 rfl) (T_api_Program.T.len _ _ _ e132), ?_⟩
  have O135 := O134.nm
  cases e
  exact ⟨_, _, O135.pick [], rfl, e132⟩
noncomputable def excerpt_Without.j1 (x_1 : Int) (y_2 : T_api_Program) (y_4 : T_api_Program) (b_13 : Bool) : Option (T_api_Program × Int) :=
  if b_13 = true then (some ((T_api_Program.mk (ByteArray.mk #[]) (0 : Int) ([] : List T_api_Use) ([] : List T_api_Data) ([] : List T_api_Trait) ([] : List T_api_Impl) ([] : List T_api_Func) ([] : List T_api_Actor)), (4 : Int))) else ((excerpt_Without.j0 x_1 y_2 y_4))
set_option maxRecDepth 100000 in
theorem excerpt_Without.j1.walk {W : Nat → Prop} {h0 m0 h m : Heap} {bk_2 : Nat} {cs_2 : List Value} {bk_4 : Nat} {cs_4 : List Value} {x_1 : Int} {y_2 : T_api_Program} {y_4 : T_api_Program} {b_13 : Bool} (O : Hold W h0 m0 h m [rV bk_2 29 cs_2, rV bk_4 29 cs_4]) (e_2 : T_api_Program.E m y_2 cs_2) (e_4 : T_api_Program.E m y_4 cs_4) {r : T_api_Program × Int} (e : excerpt_Without.j1 x_1 y_2 y_4 b_13 = some r) : f4.j1 (excerpt_Without.post W h0 m0 r) x_1 (⟨bk_2, 0, none⟩ : Addr) (⟨bk_4, 0, none⟩ : Addr) b_13 h := by
  unfold excerpt_Without.j1 at e
  refine f4.j1_in ?_
  unfold f4.j1T
  refine split_any_e e (fun c4 e => ?_) (fun c4 e => ?_)
  · refine ⟨_, rfl, rfl, ?_⟩
    refine O.stA 1 rfl ((T_api_Program.T.len _ _ _ e_4)).symm (Flats.cons trivial (Flats.cons trivial (Flats.cons trivial (Flats.cons trivial (Flats.cons trivial (Flats.cons trivial (Flats.cons trivial (Flats.cons trivial Flats.nil)))))))) fun h1 O2 => ?_
    refine ⟨_, ldAn (Sub.refl _) (O2.all 1 rfl) rfl, ?_⟩
    have O3 := O2.nm
    cases e
    exact ⟨_, _, O3.pick [], rfl, (show T_api_Program.E _ (T_api_Program.mk (ByteArray.mk #[]) (0 : Int) ([] : List T_api_Use) ([] : List T_api_Data) ([] : List T_api_Trait) ([] : List T_api_Impl) ([] : List T_api_Func) ([] : List T_api_Actor)) [(Value.string (ByteArray.mk #[])), (Value.int .i64 (0 : Int)), (Value.slice none 0 0), (Value.slice none 0 0), (Value.slice none 0 0), (Value.slice none 0 0), (Value.slice none 0 0), (Value.slice none 0 0)] from ⟨_, _, _, _, _, _, _, _, _, _, _, _, rfl, (by exact Nat.le_refl 0), Rd.nil, (by exact Nat.le_refl 0), Rd.nil, (by exact Nat.le_refl 0), Rd.nil, (by exact Nat.le_refl 0), Rd.nil, (by exact Nat.le_refl 0), Rd.nil, (by exact Nat.le_refl 0), Rd.nil⟩)⟩
  · exact excerpt_Without.j0.walk (O.pick [0, 1]).nm e_2 e_4 e
noncomputable def excerpt_Without (y_0 : T_api_Program) (x_1 : Int) : Option (T_api_Program × Int) :=
  if x_1 < (0 : Int) then ((excerpt_Without.j1 x_1 y_0 (T_api_Program.mk (ByteArray.mk #[]) (0 : Int) ([] : List T_api_Use) ([] : List T_api_Data) ([] : List T_api_Trait) ([] : List T_api_Impl) ([] : List T_api_Func) ([] : List T_api_Actor)) true)) else (Option.bind (excerpt_Parts y_0) fun y10 => (excerpt_Without.j1 x_1 y_0 (T_api_Program.mk (ByteArray.mk #[]) (0 : Int) ([] : List T_api_Use) ([] : List T_api_Data) ([] : List T_api_Trait) ([] : List T_api_Impl) ([] : List T_api_Func) ([] : List T_api_Actor)) (decide (x_1 ≥ y10))))
set_option maxRecDepth 100000 in
theorem excerpt_Without.walk {W : Nat → Prop} {h m : Heap} {cs_0 : List Value} {y_0 : T_api_Program} {x_1 : Int} (O : Hold W h m h m []) (e_0 : T_api_Program.E m y_0 cs_0) {r : T_api_Program × Int} (e : excerpt_Without y_0 x_1 = some r) : Run Tryd.prog 4 #[Value.agg cs_0.toArray, Value.int .i64 x_1] h (excerpt_Without.post W h m r) := by
  unfold excerpt_Without at e
  refine f4.run ?_
  unfold f4.runT
  refine O.new fun h1 x2 O3 => ?_
  refine O3.new fun h5 x6 O7 => ?_
  refine split_dec_e e (fun c17 e => ?_) (fun c17 e => ?_)
  · have O9 := O7.nm
    exact excerpt_Without.j1.walk (O9.pick [0, 1]).nm e_0 (show T_api_Program.E _ (T_api_Program.mk (ByteArray.mk #[]) (0 : Int) ([] : List T_api_Use) ([] : List T_api_Data) ([] : List T_api_Trait) ([] : List T_api_Impl) ([] : List T_api_Func) ([] : List T_api_Actor)) [(Value.string (ByteArray.mk #[])), (Value.int .i64 (0 : Int)), (Value.slice none 0 0), (Value.slice none 0 0), (Value.slice none 0 0), (Value.slice none 0 0), (Value.slice none 0 0), (Value.slice none 0 0)] from ⟨_, _, _, _, _, _, _, _, _, _, _, _, rfl, (by exact Nat.le_refl 0), Rd.nil, (by exact Nat.le_refl 0), Rd.nil, (by exact Nat.le_refl 0), Rd.nil, (by exact Nat.le_refl 0), Rd.nil, (by exact Nat.le_refl 0), Rd.nil, (by exact Nat.le_refl 0), Rd.nil⟩) e
  · refine ⟨_, ldAn (Sub.refl _) (O7.all 0 rfl) (T_api_Program.T.len _ _ _ e_0), ?_⟩
    obtain ⟨y10, g11, e⟩ := bind_e e
    refine (excerpt_Parts.walk (Hold.start (W := No) O7.s) e_0 g11).mono ?_
    rintro _ h12 ⟨m13, Q14, rfl⟩
    have O16 := Hold.nm (O7.retC Q14 vfs_nil)
    refine ⟨_, rfl, ?_⟩
    exact excerpt_Without.j1.walk (O16.pick [0, 1]).nm e_0 (show T_api_Program.E _ (T_api_Program.mk (ByteArray.mk #[]) (0 : Int) ([] : List T_api_Use) ([] : List T_api_Data) ([] : List T_api_Trait) ([] : List T_api_Impl) ([] : List T_api_Func) ([] : List T_api_Actor)) [(Value.string (ByteArray.mk #[])), (Value.int .i64 (0 : Int)), (Value.slice none 0 0), (Value.slice none 0 0), (Value.slice none 0 0), (Value.slice none 0 0), (Value.slice none 0 0), (Value.slice none 0 0)] from ⟨_, _, _, _, _, _, _, _, _, _, _, _, rfl, (by exact Nat.le_refl 0), Rd.nil, (by exact Nat.le_refl 0), Rd.nil, (by exact Nat.le_refl 0), Rd.nil, (by exact Nat.le_refl 0), Rd.nil, (by exact Nat.le_refl 0), Rd.nil, (by exact Nat.le_refl 0), Rd.nil⟩) e
def strconv_Itoa.post (W : Nat → Prop) (h0 m0 : Heap) (r : ByteArray) (v : Value) (h : Heap) : Prop := ∃ m , Hold W h0 m0 h m [] ∧ v = .string r
noncomputable def strconv_Itoa (x0 : Int) : Option ByteArray := if -9223372036854775808 ≤ x0 ∧ x0 ≤ 9223372036854775807 then some (itoaB x0) else none
set_option maxRecDepth 100000 in
theorem strconv_Itoa.walk {W : Nat → Prop} {h m : Heap} {x0 : Int} (O : Hold W h m h m []) (tab : TB m) {r : ByteArray} (e : strconv_Itoa x0 = some r) : Run Tryd.prog 39 #[Value.int .i64 x0] h (strconv_Itoa.post W h m r) := by
  unfold strconv_Itoa at e
  exact (itoa_run (by kernel_rfl) Tryd.strconv_Itoa O tab e).mono fun v h' hp => hp
def roadref2_nums.post (W : Nat → Prop) (h0 m0 : Heap) (r : ByteArray) (v : Value) (h : Heap) : Prop := ∃ m , Hold W h0 m0 h m [] ∧ v = .string r
inductive roadref2_nums.l0_k.Pt where
  | l0 (s_3 : ByteArray) (a_6 : List Int) (x_7 : Int) (x_8 : Int)
noncomputable def roadref2_nums.l0_k.body (go : (p : roadref2_nums.l0_k.Pt) → Option (ByteArray)) : (p : roadref2_nums.l0_k.Pt) → Option (ByteArray)
  | .l0 s_3 a_6 x_7 x_8 => if x_8 < x_7 then (Option.bind (gi a_6 x_8) fun y1 => Option.bind (strconv_Itoa y1) fun y8 => if ByteArray.size y8 + ByteArray.size (ByteArray.mk #[44]) ≤ 9223372036854775807 then (if ByteArray.size s_3 + ByteArray.size (y8 ++ (ByteArray.mk #[44])) ≤ 9223372036854775807 then ((go (.l0 (s_3 ++ (y8 ++ (ByteArray.mk #[44]))) a_6 x_7 (IntKind.wrap .i64 (x_8 + (1 : Int)))))) else none) else none) else (some (s_3))
theorem roadref2_nums.l0_k.mono : MonoF (β := fun _ => (ByteArray)) roadref2_nums.l0_k.body := fun f g hfg p => match p with
  | .l0 s_3 a_6 x_7 x_8 => LeO.ite (LeO.bind (LeO.refl _) fun y1 => LeO.bind (LeO.refl _) fun y8 => LeO.ite (LeO.ite ((hfg _)) (LeO.refl _)) (LeO.refl _)) (LeO.refl _)
noncomputable def roadref2_nums.l0_k.go (p : roadref2_nums.l0_k.Pt) : Option (ByteArray) := fixF (β := fun _ => (ByteArray)) roadref2_nums.l0_k.body p
noncomputable def roadref2_nums.l0 (s_3 : ByteArray) (a_6 : List Int) (x_7 : Int) (x_8 : Int) : Option (ByteArray) := roadref2_nums.l0_k.go (.l0 s_3 a_6 x_7 x_8)
theorem roadref2_nums.l0_eq (s_3 : ByteArray) (a_6 : List Int) (x_7 : Int) (x_8 : Int) : roadref2_nums.l0 s_3 a_6 x_7 x_8 = if x_8 < x_7 then (Option.bind (gi a_6 x_8) fun y1 => Option.bind (strconv_Itoa y1) fun y8 => if ByteArray.size y8 + ByteArray.size (ByteArray.mk #[44]) ≤ 9223372036854775807 then (if ByteArray.size s_3 + ByteArray.size (y8 ++ (ByteArray.mk #[44])) ≤ 9223372036854775807 then ((roadref2_nums.l0 (s_3 ++ (y8 ++ (ByteArray.mk #[44]))) a_6 x_7 (IntKind.wrap .i64 (x_8 + (1 : Int))))) else none) else none) else (some (s_3)) := fixF_eq roadref2_nums.l0_k.mono _
def roadref2_nums.l0_k.I : (p : roadref2_nums.l0_k.Pt) → (ByteArray) → Prop
  | .l0 s_3 a_6 x_7 x_8, r => ∀ (W : Nat → Prop) (h0 m0 h m : Heap) (A_6 : Option Addr) (n_6 c_6 : Nat) (O : Hold W h0 m0 h m []) (ne_6 : n_6 = List.length a_6) (k_6 : List.length a_6 ≤ c_6) (r_6 : Rd 1 (eInt .i64) m A_6 a_6) (tab : TB m), f21.l0 (roadref2_nums.post W h0 m0 r) s_3 A_6 n_6 c_6 x_7 x_8 h
set_option maxRecDepth 100000 in
theorem roadref2_nums.l0_k.step_l0 (go : (p : roadref2_nums.l0_k.Pt) → Option (ByteArray)) (ih : ∀ p r, go p = some r → roadref2_nums.l0_k.I p r) (s_3 : ByteArray) (a_6 : List Int) (x_7 : Int) (x_8 : Int) (r : ByteArray) (e : roadref2_nums.l0_k.body go (.l0 s_3 a_6 x_7 x_8) = some r) : roadref2_nums.l0_k.I (.l0 s_3 a_6 x_7 x_8) r := by
  unfold roadref2_nums.l0_k.body at e
  intro W h0 m0 h m A_6 n_6 c_6 O ne_6 k_6 r_6 tab
  subst ne_6
  refine f21.l0_in ?_
  unfold f21.l0T
  refine split_dec_e e (fun c17 e => ?_) (fun c17 e => ?_)
  · obtain ⟨y1, g2, e⟩ := bind_e e
    refine r_6.addr rfl g2 fun a3 cs4 ha5 hc6 he7 => ?_
    obtain rfl : cs4 = [(Value.int .i64 y1)] := he7
    refine ⟨_, ld0 O.s hc6 rfl, _, rfl, ?_⟩
    obtain ⟨y8, g9, e⟩ := bind_e e
    refine (strconv_Itoa.walk (Hold.start (W := No) O.s) tab g9).mono ?_
    rintro _ h10 ⟨m11, Q12, rfl⟩
    have O14 := Hold.nm (O.retC Q12 vfs_nil)
    refine ⟨_, rfl, ?_⟩
    obtain ⟨g15, e⟩ := guard_e e
    refine ⟨g15, ?_⟩
    obtain ⟨g16, e⟩ := guard_e e
    refine ⟨g16, ?_⟩
    exact (ih _ _ e) _ _ _ _ _ _ _ _ (O14.pick []).nm rfl k_6 r_6 tab
  · cases e
    exact ⟨_, O.pick [], rfl⟩
theorem roadref2_nums.l0_k.all {p : roadref2_nums.l0_k.Pt} {r : (ByteArray)} (e : roadref2_nums.l0_k.go p = some r) : roadref2_nums.l0_k.I p r := fixF_ind (β := fun _ => (ByteArray)) roadref2_nums.l0_k.mono (I := roadref2_nums.l0_k.I) (fun go ih p r e => match p with
  | .l0 s_3 a_6 x_7 x_8 => roadref2_nums.l0_k.step_l0 go ih s_3 a_6 x_7 x_8 r e
  ) e
theorem roadref2_nums.l0.walk {W : Nat → Prop} {h0 m0 h m : Heap} {A_6 : Option Addr} {n_6 c_6 : Nat} {s_3 : ByteArray} {a_6 : List Int} {x_7 : Int} {x_8 : Int} (O : Hold W h0 m0 h m []) (ne_6 : n_6 = List.length a_6) (k_6 : List.length a_6 ≤ c_6) (r_6 : Rd 1 (eInt .i64) m A_6 a_6) (tab : TB m) {r : ByteArray} (e : roadref2_nums.l0 s_3 a_6 x_7 x_8 = some r) : f21.l0 (roadref2_nums.post W h0 m0 r) s_3 A_6 n_6 c_6 x_7 x_8 h := roadref2_nums.l0_k.all (p := .l0 s_3 a_6 x_7 x_8) e W h0 m0 h m A_6 n_6 c_6 O ne_6 k_6 r_6 tab
noncomputable def roadref2_nums (a_0 : List Int) : Option (ByteArray) :=
  (roadref2_nums.l0 (ByteArray.mk #[]) a_0 (((List.length a_0) : Nat) : Int) (0 : Int))
set_option maxRecDepth 100000 in
theorem roadref2_nums.walk {W : Nat → Prop} {h m : Heap} {A_0 : Option Addr} {n_0 c_0 : Nat} {a_0 : List Int} (O : Hold W h m h m []) (ne_0 : n_0 = List.length a_0) (k_0 : List.length a_0 ≤ c_0) (r_0 : Rd 1 (eInt .i64) m A_0 a_0) (tab : TB m) {r : ByteArray} (e : roadref2_nums a_0 = some r) : Run Tryd.prog 21 #[Value.slice A_0 n_0 c_0] h (roadref2_nums.post W h m r) := by
  unfold roadref2_nums at e
  subst ne_0
  refine f21.run ?_
  unfold f21.runT
  exact roadref2_nums.l0.walk (O.pick []).nm rfl k_0 r_0 tab e
def roadref2_texts.post (W : Nat → Prop) (h0 m0 : Heap) (r : ByteArray) (v : Value) (h : Heap) : Prop := ∃ m , Hold W h0 m0 h m [] ∧ v = .string r
inductive roadref2_texts.l0_k.Pt where
  | l0 (s_3 : ByteArray) (a_6 : List ByteArray) (x_7 : Int) (x_8 : Int)
noncomputable def roadref2_texts.l0_k.body (go : (p : roadref2_texts.l0_k.Pt) → Option (ByteArray)) : (p : roadref2_texts.l0_k.Pt) → Option (ByteArray)
  | .l0 s_3 a_6 x_7 x_8 => if x_8 < x_7 then (Option.bind (gi a_6 x_8) fun y1 => Option.bind (roadref2_nums ([((ByteArray.size y1 : Nat) : Int)] : List Int)) fun y13 => if ByteArray.size y13 + ByteArray.size y1 ≤ 9223372036854775807 then (if ByteArray.size s_3 + ByteArray.size (y13 ++ y1) ≤ 9223372036854775807 then ((go (.l0 (s_3 ++ (y13 ++ y1)) a_6 x_7 (IntKind.wrap .i64 (x_8 + (1 : Int)))))) else none) else none) else (some (s_3))
theorem roadref2_texts.l0_k.mono : MonoF (β := fun _ => (ByteArray)) roadref2_texts.l0_k.body := fun f g hfg p => match p with
  | .l0 s_3 a_6 x_7 x_8 => LeO.ite (LeO.bind (LeO.refl _) fun y1 => LeO.bind (LeO.refl _) fun y13 => LeO.ite (LeO.ite ((hfg _)) (LeO.refl _)) (LeO.refl _)) (LeO.refl _)
noncomputable def roadref2_texts.l0_k.go (p : roadref2_texts.l0_k.Pt) : Option (ByteArray) := fixF (β := fun _ => (ByteArray)) roadref2_texts.l0_k.body p
noncomputable def roadref2_texts.l0 (s_3 : ByteArray) (a_6 : List ByteArray) (x_7 : Int) (x_8 : Int) : Option (ByteArray) := roadref2_texts.l0_k.go (.l0 s_3 a_6 x_7 x_8)
theorem roadref2_texts.l0_eq (s_3 : ByteArray) (a_6 : List ByteArray) (x_7 : Int) (x_8 : Int) : roadref2_texts.l0 s_3 a_6 x_7 x_8 = if x_8 < x_7 then (Option.bind (gi a_6 x_8) fun y1 => Option.bind (roadref2_nums ([((ByteArray.size y1 : Nat) : Int)] : List Int)) fun y13 => if ByteArray.size y13 + ByteArray.size y1 ≤ 9223372036854775807 then (if ByteArray.size s_3 + ByteArray.size (y13 ++ y1) ≤ 9223372036854775807 then ((roadref2_texts.l0 (s_3 ++ (y13 ++ y1)) a_6 x_7 (IntKind.wrap .i64 (x_8 + (1 : Int))))) else none) else none) else (some (s_3)) := fixF_eq roadref2_texts.l0_k.mono _
def roadref2_texts.l0_k.I : (p : roadref2_texts.l0_k.Pt) → (ByteArray) → Prop
  | .l0 s_3 a_6 x_7 x_8, r => ∀ (W : Nat → Prop) (h0 m0 h m : Heap) (A_6 : Option Addr) (n_6 c_6 : Nat) (O : Hold W h0 m0 h m []) (ne_6 : n_6 = List.length a_6) (k_6 : List.length a_6 ≤ c_6) (r_6 : Rd 1 eStr m A_6 a_6) (tab : TB m), f20.l0 (roadref2_texts.post W h0 m0 r) s_3 A_6 n_6 c_6 x_7 x_8 h
set_option maxRecDepth 100000 in
theorem roadref2_texts.l0_k.step_l0 (go : (p : roadref2_texts.l0_k.Pt) → Option (ByteArray)) (ih : ∀ p r, go p = some r → roadref2_texts.l0_k.I p r) (s_3 : ByteArray) (a_6 : List ByteArray) (x_7 : Int) (x_8 : Int) (r : ByteArray) (e : roadref2_texts.l0_k.body go (.l0 s_3 a_6 x_7 x_8) = some r) : roadref2_texts.l0_k.I (.l0 s_3 a_6 x_7 x_8) r := by
  unfold roadref2_texts.l0_k.body at e
  intro W h0 m0 h m A_6 n_6 c_6 O ne_6 k_6 r_6 tab
  subst ne_6
  refine f20.l0_in ?_
  unfold f20.l0T
  refine split_dec_e e (fun c30 e => ?_) (fun c30 e => ?_)
  · obtain ⟨y1, g2, e⟩ := bind_e e
    refine r_6.addr rfl g2 fun a3 cs4 ha5 hc6 he7 => ?_
    obtain rfl : cs4 = [(Value.string y1)] := he7
    refine ⟨_, ld0 O.s hc6 rfl, _, rfl, ?_⟩
    refine O.new fun h8 x9 O10 => ?_
    obtain ⟨y13, g14, e⟩ := bind_e e
    have O12 := O10.rowE (l := ([((ByteArray.size y1 : Nat) : Int)] : List Int)) 0 rfl (tell_int .i64) (show CsE _ _ _ _ _ from (CsE.cons (c1 := [(Value.int .i64 ((ByteArray.size y1 : Nat) : Int))]) rfl rfl CsE.nil)) rfl
    have O19 := O12.nm
    obtain ⟨m20, u21, s26, ⟨⟨r24, k25⟩, _⟩, B22, C23⟩ := O19.lend0 [0]
    replace r24 : Rd 1 (eInt .i64) m20 (some ⟨(Array.size h), 0, none⟩) ([((ByteArray.size y1 : Nat) : Int)] : List Int) := r24
    replace k25 : List.length ([((ByteArray.size y1 : Nat) : Int)] : List Int) ≤ 1 := k25
    refine (roadref2_nums.walk (Hold.start (W := No) s26) rfl k25 r24 (TBg.sub tab u21) g14).mono ?_
    rintro _ h15 ⟨m16, Q17, rfl⟩
    have O27 := Hold.nm (C23 Q17 vfs_nil)
    refine ⟨_, rfl, ?_⟩
    obtain ⟨g28, e⟩ := guard_e e
    refine ⟨g28, ?_⟩
    obtain ⟨g29, e⟩ := guard_e e
    refine ⟨g29, ?_⟩
    exact (ih _ _ e) _ _ _ _ _ _ _ _ (O27.pick []).nm rfl k_6 r_6 tab
  · cases e
    exact ⟨_, O.pick [], rfl⟩
theorem roadref2_texts.l0_k.all {p : roadref2_texts.l0_k.Pt} {r : (ByteArray)} (e : roadref2_texts.l0_k.go p = some r) : roadref2_texts.l0_k.I p r := fixF_ind (β := fun _ => (ByteArray)) roadref2_texts.l0_k.mono (I := roadref2_texts.l0_k.I) (fun go ih p r e => match p with
  | .l0 s_3 a_6 x_7 x_8 => roadref2_texts.l0_k.step_l0 go ih s_3 a_6 x_7 x_8 r e
  ) e
theorem roadref2_texts.l0.walk {W : Nat → Prop} {h0 m0 h m : Heap} {A_6 : Option Addr} {n_6 c_6 : Nat} {s_3 : ByteArray} {a_6 : List ByteArray} {x_7 : Int} {x_8 : Int} (O : Hold W h0 m0 h m []) (ne_6 : n_6 = List.length a_6) (k_6 : List.length a_6 ≤ c_6) (r_6 : Rd 1 eStr m A_6 a_6) (tab : TB m) {r : ByteArray} (e : roadref2_texts.l0 s_3 a_6 x_7 x_8 = some r) : f20.l0 (roadref2_texts.post W h0 m0 r) s_3 A_6 n_6 c_6 x_7 x_8 h := roadref2_texts.l0_k.all (p := .l0 s_3 a_6 x_7 x_8) e W h0 m0 h m A_6 n_6 c_6 O ne_6 k_6 r_6 tab
noncomputable def roadref2_texts (a_0 : List ByteArray) : Option (ByteArray) :=
  (roadref2_texts.l0 (ByteArray.mk #[]) a_0 (((List.length a_0) : Nat) : Int) (0 : Int))
set_option maxRecDepth 100000 in
theorem roadref2_texts.walk {W : Nat → Prop} {h m : Heap} {A_0 : Option Addr} {n_0 c_0 : Nat} {a_0 : List ByteArray} (O : Hold W h m h m []) (ne_0 : n_0 = List.length a_0) (k_0 : List.length a_0 ≤ c_0) (r_0 : Rd 1 eStr m A_0 a_0) (tab : TB m) {r : ByteArray} (e : roadref2_texts a_0 = some r) : Run Tryd.prog 20 #[Value.slice A_0 n_0 c_0] h (roadref2_texts.post W h m r) := by
  unfold roadref2_texts at e
  subst ne_0
  refine f20.run ?_
  unfold f20.runT
  exact roadref2_texts.l0.walk (O.pick []).nm rfl k_0 r_0 tab e
def roadref2_namesMark.post (W : Nat → Prop) (h0 m0 : Heap) (r : ByteArray) (v : Value) (h : Heap) : Prop := ∃ m , Hold W h0 m0 h m [] ∧ v = .string r
noncomputable def roadref2_namesMark (a_0 : List ByteArray) : Option (ByteArray) :=
  Option.bind (roadref2_nums ([(((List.length a_0) : Nat) : Int)] : List Int)) fun y6 => Option.bind (roadref2_texts a_0) fun y21 => if ByteArray.size y6 + ByteArray.size y21 ≤ 9223372036854775807 then (some ((y6 ++ y21))) else none
set_option maxRecDepth 100000 in
theorem roadref2_namesMark.walk {W : Nat → Prop} {h m : Heap} {A_0 : Option Addr} {n_0 c_0 : Nat} {a_0 : List ByteArray} (O : Hold W h m h m []) (ne_0 : n_0 = List.length a_0) (k_0 : List.length a_0 ≤ c_0) (r_0 : Rd 1 eStr m A_0 a_0) (tab : TB m) {r : ByteArray} (e : roadref2_namesMark a_0 = some r) : Run Tryd.prog 22 #[Value.slice A_0 n_0 c_0] h (roadref2_namesMark.post W h m r) := by
  unfold roadref2_namesMark at e
  subst ne_0
  refine f22.run ?_
  unfold f22.runT
  refine O.new fun h1 x2 O3 => ?_
  obtain ⟨y6, g7, e⟩ := bind_e e
  have O5 := O3.rowE (l := ([(((List.length a_0) : Nat) : Int)] : List Int)) 0 rfl (tell_int .i64) (show CsE _ _ _ _ _ from (CsE.cons (c1 := [(Value.int .i64 (((List.length a_0) : Nat) : Int))]) rfl rfl CsE.nil)) rfl
  have O12 := O5.nm
  obtain ⟨m13, u14, s19, ⟨⟨r17, k18⟩, _⟩, B15, C16⟩ := O12.lend0 [0]
  replace r17 : Rd 1 (eInt .i64) m13 (some ⟨(Array.size h), 0, none⟩) ([(((List.length a_0) : Nat) : Int)] : List Int) := r17
  replace k18 : List.length ([(((List.length a_0) : Nat) : Int)] : List Int) ≤ 1 := k18
  refine (roadref2_nums.walk (Hold.start (W := No) s19) rfl k18 r17 (TBg.sub tab u14) g7).mono ?_
  rintro _ h8 ⟨m9, Q10, rfl⟩
  have O20 := Hold.nm (C16 Q10 vfs_nil)
  refine ⟨_, rfl, ?_⟩
  obtain ⟨y21, g22, e⟩ := bind_e e
  refine (roadref2_texts.walk (Hold.start (W := No) O20.s) rfl k_0 r_0 tab g22).mono ?_
  rintro _ h23 ⟨m24, Q25, rfl⟩
  have O27 := Hold.nm (O20.retC Q25 vfs_nil)
  refine ⟨_, rfl, ?_⟩
  obtain ⟨g28, e⟩ := guard_e e
  refine ⟨g28, ?_⟩
  cases e
  exact ⟨_, O27.pick [], rfl⟩
def roadref2_TypeMark.post (W : Nat → Prop) (h0 m0 : Heap) (r : ByteArray) (v : Value) (h : Heap) : Prop := ∃ m , Hold W h0 m0 h m [] ∧ v = .string r
inductive roadref2_TypeMark_k.Pt where
  | f (y_0 : T_api_Type)
  | j0 (y_1 : T_api_Type) (s_3 : ByteArray)
  | l0 (s_3 : ByteArray) (a_19 : List T_api_Type) (x_20 : Int) (x_21 : Int)
noncomputable def roadref2_TypeMark_k.body (go : (p : roadref2_TypeMark_k.Pt) → Option (ByteArray)) : (p : roadref2_TypeMark_k.Pt) → Option (ByteArray)
  | .f y_0 => Option.bind (roadref2_nums ([y_0.Kind, (((List.length y_0.Args) : Nat) : Int)] : List Int)) fun y15 => Option.bind (roadref2_texts ([y_0.Name] : List ByteArray)) fun y35 => if ByteArray.size y15 + ByteArray.size y35 ≤ 9223372036854775807 then ((go (.j0 y_0 (y15 ++ y35)))) else none
  | .j0 y_1 s_3 => (go (.l0 s_3 y_1.Args (((List.length y_1.Args) : Nat) : Int) (0 : Int)))
  | .l0 s_3 a_19 x_20 x_21 => if x_21 < x_20 then (Option.bind (gi a_19 x_21) fun y1 => Option.bind ((go (.f y1))) fun y14 => if ByteArray.size s_3 + ByteArray.size y14 ≤ 9223372036854775807 then ((go (.l0 (s_3 ++ y14) a_19 x_20 (IntKind.wrap .i64 (x_21 + (1 : Int)))))) else none) else (some (s_3))
theorem roadref2_TypeMark_k.mono : MonoF (β := fun _ => (ByteArray)) roadref2_TypeMark_k.body := fun f g hfg p => match p with
  | .f y_0 => LeO.bind (LeO.refl _) fun y15 => LeO.bind (LeO.refl _) fun y35 => LeO.ite ((hfg _)) (LeO.refl _)
  | .j0 y_1 s_3 => (hfg _)
  | .l0 s_3 a_19 x_20 x_21 => LeO.ite (LeO.bind (LeO.refl _) fun y1 => LeO.bind ((hfg _)) fun y14 => LeO.ite ((hfg _)) (LeO.refl _)) (LeO.refl _)
noncomputable def roadref2_TypeMark_k.go (p : roadref2_TypeMark_k.Pt) : Option (ByteArray) := fixF (β := fun _ => (ByteArray)) roadref2_TypeMark_k.body p
noncomputable def roadref2_TypeMark (y_0 : T_api_Type) : Option (ByteArray) := roadref2_TypeMark_k.go (.f y_0)
noncomputable def roadref2_TypeMark.j0 (y_1 : T_api_Type) (s_3 : ByteArray) : Option (ByteArray) := roadref2_TypeMark_k.go (.j0 y_1 s_3)
noncomputable def roadref2_TypeMark.l0 (s_3 : ByteArray) (a_19 : List T_api_Type) (x_20 : Int) (x_21 : Int) : Option (ByteArray) := roadref2_TypeMark_k.go (.l0 s_3 a_19 x_20 x_21)
theorem roadref2_TypeMark_eq (y_0 : T_api_Type) : roadref2_TypeMark y_0 = Option.bind (roadref2_nums ([y_0.Kind, (((List.length y_0.Args) : Nat) : Int)] : List Int)) fun y15 => Option.bind (roadref2_texts ([y_0.Name] : List ByteArray)) fun y35 => if ByteArray.size y15 + ByteArray.size y35 ≤ 9223372036854775807 then ((roadref2_TypeMark.j0 y_0 (y15 ++ y35))) else none := fixF_eq roadref2_TypeMark_k.mono _
theorem roadref2_TypeMark.j0_eq (y_1 : T_api_Type) (s_3 : ByteArray) : roadref2_TypeMark.j0 y_1 s_3 = (roadref2_TypeMark.l0 s_3 y_1.Args (((List.length y_1.Args) : Nat) : Int) (0 : Int)) := fixF_eq roadref2_TypeMark_k.mono _
theorem roadref2_TypeMark.l0_eq (s_3 : ByteArray) (a_19 : List T_api_Type) (x_20 : Int) (x_21 : Int) : roadref2_TypeMark.l0 s_3 a_19 x_20 x_21 = if x_21 < x_20 then (Option.bind (gi a_19 x_21) fun y1 => Option.bind ((roadref2_TypeMark y1)) fun y14 => if ByteArray.size s_3 + ByteArray.size y14 ≤ 9223372036854775807 then ((roadref2_TypeMark.l0 (s_3 ++ y14) a_19 x_20 (IntKind.wrap .i64 (x_21 + (1 : Int))))) else none) else (some (s_3)) := fixF_eq roadref2_TypeMark_k.mono _
def roadref2_TypeMark_k.I : (p : roadref2_TypeMark_k.Pt) → (ByteArray) → Prop
  | .f y_0, r => ∀ (W : Nat → Prop) (h m : Heap) (cs_0 : List Value) (O : Hold W h m h m []) (e_0 : T_api_Type.E m y_0 cs_0) (tab : TB m), Run Tryd.prog 25 #[Value.agg cs_0.toArray] h (roadref2_TypeMark.post W h m r)
  | .j0 y_1 s_3, r => ∀ (W : Nat → Prop) (h0 m0 h m : Heap) (bk_1 : Nat) (cs_1 : List Value) (O : Hold W h0 m0 h m [rV bk_1 55 cs_1]) (e_1 : T_api_Type.E m y_1 cs_1) (tab : TB m), f25.j0 (roadref2_TypeMark.post W h0 m0 r) (⟨bk_1, 0, none⟩ : Addr) s_3 h
  | .l0 s_3 a_19 x_20 x_21, r => ∀ (W : Nat → Prop) (h0 m0 h m : Heap) (A_19 : Option Addr) (n_19 c_19 : Nat) (O : Hold W h0 m0 h m []) (ne_19 : n_19 = List.length a_19) (k_19 : List.length a_19 ≤ c_19) (r_19 : Rd 3 T_api_Type.E m A_19 a_19) (tab : TB m), f25.l0 (roadref2_TypeMark.post W h0 m0 r) s_3 A_19 n_19 c_19 x_20 x_21 h
set_option maxHeartbeats 4000000 in
set_option maxRecDepth 100000 in
theorem roadref2_TypeMark_k.step_f (go : (p : roadref2_TypeMark_k.Pt) → Option (ByteArray)) (ih : ∀ p r, go p = some r → roadref2_TypeMark_k.I p r) (y_0 : T_api_Type) (r : ByteArray) (e : roadref2_TypeMark_k.body go (.f y_0) = some r) : roadref2_TypeMark_k.I (.f y_0) r := by
  unfold roadref2_TypeMark_k.body at e
  intro W h m cs_0 O e_0 tab
  refine f25.run ?_
  unfold f25.runT
  refine O.new fun h1 x2 O3 => ?_
  refine ⟨_, ld0 (Sub.refl _) (O3.all 0 rfl) (T_api_Type.g0 e_0), _, rfl, ?_⟩
  obtain ⟨A5, c6, q7, k8, r9⟩ := T_api_Type.g2 e_0
  refine ⟨_, ldk (k := 2) (Sub.refl _) (O3.all 0 rfl) q7, _, _, _, rfl, ?_⟩
  obtain ⟨y15, g16, e⟩ := bind_e e
  obtain ⟨y35, g36, e⟩ := bind_e e
  refine ⟨?_, ?_⟩
  · refine O3.new fun h51 x52 O53 => ?_
    refine ⟨?_, ?_⟩
    · have O55 := O53.rowE (l := ([y_0.Kind, (((List.length y_0.Args) : Nat) : Int)] : List Int)) 1 rfl (tell_int .i64) (show CsE _ _ _ _ _ from (CsE.cons (c1 := [(Value.int .i64 y_0.Kind)]) rfl rfl (CsE.cons (c1 := [(Value.int .i64 (((List.length y_0.Args) : Nat) : Int))]) rfl rfl CsE.nil))) rfl
      have O62 := O55.nm
      obtain ⟨m63, u64, s69, ⟨⟨r67, k68⟩, _⟩, B65, C66⟩ := O62.lend0 [1]
      replace r67 : Rd 1 (eInt .i64) m63 (some ⟨(Array.size h1), 0, none⟩) ([y_0.Kind, (((List.length y_0.Args) : Nat) : Int)] : List Int) := r67
      replace k68 : List.length ([y_0.Kind, (((List.length y_0.Args) : Nat) : Int)] : List Int) ≤ 2 := k68
      refine (roadref2_nums.walk (Hold.start (W := No) s69) rfl k68 r67 (TBg.sub tab u64) g16).mono ?_
      rintro _ h58 ⟨m59, Q60, rfl⟩
      have O70 := Hold.nm (C66 Q60 vfs_nil)
      refine ⟨_, rfl, ?_⟩
      refine ⟨_, ldk (k := 1) (Sub.refl _) (O70.all 0 rfl) (T_api_Type.g1 e_0), _, rfl, ?_⟩
      refine ⟨Ext.refl _, ?_⟩
      refine O70.new fun h71 x72 O73 => ?_
      refine ⟨x72, ?_⟩
      have O75 := O73.rowE (l := ([y_0.Name] : List ByteArray)) 2 rfl tell_str (show CsE _ _ _ _ _ from (CsE.cons (c1 := [(Value.string y_0.Name)]) rfl rfl CsE.nil)) rfl
      have O82 := O75.nm
      obtain ⟨m83, u84, s89, ⟨⟨r87, k88⟩, _⟩, B85, C86⟩ := O82.lend0 [2]
      replace r87 : Rd 1 eStr m83 (some ⟨(Array.size h58), 0, none⟩) ([y_0.Name] : List ByteArray) := r87
      replace k88 : List.length ([y_0.Name] : List ByteArray) ≤ 1 := k88
      refine (roadref2_texts.walk (Hold.start (W := No) s89) rfl k88 r87 (TBg.sub tab u84) g36).mono ?_
      rintro _ h78 ⟨m79, Q80, rfl⟩
      have O90 := Hold.nm (C86 Q80 vfs_nil)
      refine ⟨_, rfl, ?_⟩
      obtain ⟨g91, e⟩ := guard_e e
      refine ⟨g91, ?_⟩
      exact (ih _ _ e) _ _ _ _ _ _ _ (O90.pick [0]).nm e_0 tab
    · refine ⟨_, ldk (k := 1) (Sub.refl _) (O53.all 0 rfl) (T_api_Type.g1 e_0), _, rfl, ?_⟩
      refine ⟨Ext.refl _, ?_⟩
      refine ⟨?_, ?_⟩
      · have O92 := O53.rowE (l := ([y_0.Kind, (((List.length y_0.Args) : Nat) : Int)] : List Int)) 1 rfl (tell_int .i64) (show CsE _ _ _ _ _ from (CsE.cons (c1 := [(Value.int .i64 y_0.Kind)]) rfl rfl (CsE.cons (c1 := [(Value.int .i64 (((List.length y_0.Args) : Nat) : Int))]) rfl rfl CsE.nil))) rfl
        have O99 := O92.nm
        obtain ⟨m100, u101, s106, ⟨⟨r104, k105⟩, _⟩, B102, C103⟩ := O99.lend0 [1]
        replace r104 : Rd 1 (eInt .i64) m100 (some ⟨(Array.size h1), 0, none⟩) ([y_0.Kind, (((List.length y_0.Args) : Nat) : Int)] : List Int) := r104
        replace k105 : List.length ([y_0.Kind, (((List.length y_0.Args) : Nat) : Int)] : List Int) ≤ 2 := k105
        refine (roadref2_nums.walk (Hold.start (W := No) s106) rfl k105 r104 (TBg.sub tab u101) g16).mono ?_
        rintro _ h95 ⟨m96, Q97, rfl⟩
        have O107 := Hold.nm (C103 Q97 vfs_nil)
        refine ⟨_, rfl, ?_⟩
        refine O107.new fun h108 x109 O110 => ?_
        refine ⟨x109, ?_⟩
        have O112 := O110.rowE (l := ([y_0.Name] : List ByteArray)) 2 rfl tell_str (show CsE _ _ _ _ _ from (CsE.cons (c1 := [(Value.string y_0.Name)]) rfl rfl CsE.nil)) rfl
        have O119 := O112.nm
        obtain ⟨m120, u121, s126, ⟨⟨r124, k125⟩, _⟩, B122, C123⟩ := O119.lend0 [2]
        replace r124 : Rd 1 eStr m120 (some ⟨(Array.size h95), 0, none⟩) ([y_0.Name] : List ByteArray) := r124
        replace k125 : List.length ([y_0.Name] : List ByteArray) ≤ 1 := k125
        refine (roadref2_texts.walk (Hold.start (W := No) s126) rfl k125 r124 (TBg.sub tab u121) g36).mono ?_
        rintro _ h115 ⟨m116, Q117, rfl⟩
        have O127 := Hold.nm (C123 Q117 vfs_nil)
        refine ⟨_, rfl, ?_⟩
        obtain ⟨g128, e⟩ := guard_e e
        refine ⟨g128, ?_⟩
        exact (ih _ _ e) _ _ _ _ _ _ _ (O127.pick [0]).nm e_0 tab
      · refine O53.new fun h129 x130 O131 => ?_
        refine ⟨x130, ?_⟩
        have O133 := O131.rowE (l := ([y_0.Kind, (((List.length y_0.Args) : Nat) : Int)] : List Int)) 1 rfl (tell_int .i64) (show CsE _ _ _ _ _ from (CsE.cons (c1 := [(Value.int .i64 y_0.Kind)]) rfl rfl (CsE.cons (c1 := [(Value.int .i64 (((List.length y_0.Args) : Nat) : Int))]) rfl rfl CsE.nil))) rfl
        have O140 := O133.nm
        obtain ⟨m141, u142, s147, ⟨⟨r145, k146⟩, _⟩, B143, C144⟩ := O140.lend0 [1]
        replace r145 : Rd 1 (eInt .i64) m141 (some ⟨(Array.size h1), 0, none⟩) ([y_0.Kind, (((List.length y_0.Args) : Nat) : Int)] : List Int) := r145
        replace k146 : List.length ([y_0.Kind, (((List.length y_0.Args) : Nat) : Int)] : List Int) ≤ 2 := k146
        refine (roadref2_nums.walk (Hold.start (W := No) s147) rfl k146 r145 (TBg.sub tab u142) g16).mono ?_
        rintro _ h136 ⟨m137, Q138, rfl⟩
        have O148 := Hold.nm (C144 Q138 vfs_nil)
        refine ⟨_, rfl, ?_⟩
        have O149 := O148.rowE (l := ([y_0.Name] : List ByteArray)) 2 rfl tell_str (show CsE _ _ _ _ _ from (CsE.cons (c1 := [(Value.string y_0.Name)]) rfl rfl CsE.nil)) rfl
        have O156 := O149.nm
        obtain ⟨m157, u158, s163, ⟨⟨r161, k162⟩, _⟩, B159, C160⟩ := O156.lend0 [2]
        replace r161 : Rd 1 eStr m157 (some ⟨(Array.size h51), 0, none⟩) ([y_0.Name] : List ByteArray) := r161
        replace k162 : List.length ([y_0.Name] : List ByteArray) ≤ 1 := k162
        refine (roadref2_texts.walk (Hold.start (W := No) s163) rfl k162 r161 (TBg.sub tab u158) g36).mono ?_
        rintro _ h152 ⟨m153, Q154, rfl⟩
        have O164 := Hold.nm (C160 Q154 vfs_nil)
        refine ⟨_, rfl, ?_⟩
        obtain ⟨g165, e⟩ := guard_e e
        refine ⟨g165, ?_⟩
        exact (ih _ _ e) _ _ _ _ _ _ _ (O164.pick [0]).nm e_0 tab
  · refine ⟨_, ldk (k := 1) (Sub.refl _) (O3.all 0 rfl) (T_api_Type.g1 e_0), _, rfl, ?_⟩
    refine ⟨Ext.refl _, ?_⟩
    refine ⟨?_, ?_⟩
    · refine O3.new fun h166 x167 O168 => ?_
      refine ⟨?_, ?_⟩
      · have O170 := O168.rowE (l := ([y_0.Kind, (((List.length y_0.Args) : Nat) : Int)] : List Int)) 1 rfl (tell_int .i64) (show CsE _ _ _ _ _ from (CsE.cons (c1 := [(Value.int .i64 y_0.Kind)]) rfl rfl (CsE.cons (c1 := [(Value.int .i64 (((List.length y_0.Args) : Nat) : Int))]) rfl rfl CsE.nil))) rfl
        have O177 := O170.nm
        obtain ⟨m178, u179, s184, ⟨⟨r182, k183⟩, _⟩, B180, C181⟩ := O177.lend0 [1]
        replace r182 : Rd 1 (eInt .i64) m178 (some ⟨(Array.size h1), 0, none⟩) ([y_0.Kind, (((List.length y_0.Args) : Nat) : Int)] : List Int) := r182
        replace k183 : List.length ([y_0.Kind, (((List.length y_0.Args) : Nat) : Int)] : List Int) ≤ 2 := k183
        refine (roadref2_nums.walk (Hold.start (W := No) s184) rfl k183 r182 (TBg.sub tab u179) g16).mono ?_
        rintro _ h173 ⟨m174, Q175, rfl⟩
        have O185 := Hold.nm (C181 Q175 vfs_nil)
        refine ⟨_, rfl, ?_⟩
        refine O185.new fun h186 x187 O188 => ?_
        refine ⟨x187, ?_⟩
        have O190 := O188.rowE (l := ([y_0.Name] : List ByteArray)) 2 rfl tell_str (show CsE _ _ _ _ _ from (CsE.cons (c1 := [(Value.string y_0.Name)]) rfl rfl CsE.nil)) rfl
        have O197 := O190.nm
        obtain ⟨m198, u199, s204, ⟨⟨r202, k203⟩, _⟩, B200, C201⟩ := O197.lend0 [2]
        replace r202 : Rd 1 eStr m198 (some ⟨(Array.size h173), 0, none⟩) ([y_0.Name] : List ByteArray) := r202
        replace k203 : List.length ([y_0.Name] : List ByteArray) ≤ 1 := k203
        refine (roadref2_texts.walk (Hold.start (W := No) s204) rfl k203 r202 (TBg.sub tab u199) g36).mono ?_
        rintro _ h193 ⟨m194, Q195, rfl⟩
        have O205 := Hold.nm (C201 Q195 vfs_nil)
        refine ⟨_, rfl, ?_⟩
        obtain ⟨g206, e⟩ := guard_e e
        refine ⟨g206, ?_⟩
        exact (ih _ _ e) _ _ _ _ _ _ _ (O205.pick [0]).nm e_0 tab
      · refine O168.new fun h207 x208 O209 => ?_
        refine ⟨x208, ?_⟩
        have O211 := O209.rowE (l := ([y_0.Kind, (((List.length y_0.Args) : Nat) : Int)] : List Int)) 1 rfl (tell_int .i64) (show CsE _ _ _ _ _ from (CsE.cons (c1 := [(Value.int .i64 y_0.Kind)]) rfl rfl (CsE.cons (c1 := [(Value.int .i64 (((List.length y_0.Args) : Nat) : Int))]) rfl rfl CsE.nil))) rfl
        have O218 := O211.nm
        obtain ⟨m219, u220, s225, ⟨⟨r223, k224⟩, _⟩, B221, C222⟩ := O218.lend0 [1]
        replace r223 : Rd 1 (eInt .i64) m219 (some ⟨(Array.size h1), 0, none⟩) ([y_0.Kind, (((List.length y_0.Args) : Nat) : Int)] : List Int) := r223
        replace k224 : List.length ([y_0.Kind, (((List.length y_0.Args) : Nat) : Int)] : List Int) ≤ 2 := k224
        refine (roadref2_nums.walk (Hold.start (W := No) s225) rfl k224 r223 (TBg.sub tab u220) g16).mono ?_
        rintro _ h214 ⟨m215, Q216, rfl⟩
        have O226 := Hold.nm (C222 Q216 vfs_nil)
        refine ⟨_, rfl, ?_⟩
        have O227 := O226.rowE (l := ([y_0.Name] : List ByteArray)) 2 rfl tell_str (show CsE _ _ _ _ _ from (CsE.cons (c1 := [(Value.string y_0.Name)]) rfl rfl CsE.nil)) rfl
        have O234 := O227.nm
        obtain ⟨m235, u236, s241, ⟨⟨r239, k240⟩, _⟩, B237, C238⟩ := O234.lend0 [2]
        replace r239 : Rd 1 eStr m235 (some ⟨(Array.size h166), 0, none⟩) ([y_0.Name] : List ByteArray) := r239
        replace k240 : List.length ([y_0.Name] : List ByteArray) ≤ 1 := k240
        refine (roadref2_texts.walk (Hold.start (W := No) s241) rfl k240 r239 (TBg.sub tab u236) g36).mono ?_
        rintro _ h230 ⟨m231, Q232, rfl⟩
        have O242 := Hold.nm (C238 Q232 vfs_nil)
        refine ⟨_, rfl, ?_⟩
        obtain ⟨g243, e⟩ := guard_e e
        refine ⟨g243, ?_⟩
        exact (ih _ _ e) _ _ _ _ _ _ _ (O242.pick [0]).nm e_0 tab
    · refine O3.new fun h244 x245 O246 => ?_
      refine ⟨x245, ?_⟩
      refine O246.new fun h248 x249 O250 => ?_
      have O252 := O250.rowE (l := ([y_0.Kind, (((List.length y_0.Args) : Nat) : Int)] : List Int)) 2 rfl (tell_int .i64) (show CsE _ _ _ _ _ from (CsE.cons (c1 := [(Value.int .i64 y_0.Kind)]) rfl rfl (CsE.cons (c1 := [(Value.int .i64 (((List.length y_0.Args) : Nat) : Int))]) rfl rfl CsE.nil))) rfl
      have O259 := O252.nm
      obtain ⟨m260, u261, s266, ⟨⟨r264, k265⟩, _⟩, B262, C263⟩ := O259.lend0 [2]
      replace r264 : Rd 1 (eInt .i64) m260 (some ⟨(Array.size h244), 0, none⟩) ([y_0.Kind, (((List.length y_0.Args) : Nat) : Int)] : List Int) := r264
      replace k265 : List.length ([y_0.Kind, (((List.length y_0.Args) : Nat) : Int)] : List Int) ≤ 2 := k265
      refine (roadref2_nums.walk (Hold.start (W := No) s266) rfl k265 r264 (TBg.sub tab u261) g16).mono ?_
      rintro _ h255 ⟨m256, Q257, rfl⟩
      have O267 := Hold.nm (C263 Q257 vfs_nil)
      refine ⟨_, rfl, ?_⟩
      have O268 := O267.rowE (l := ([y_0.Name] : List ByteArray)) 1 rfl tell_str (show CsE _ _ _ _ _ from (CsE.cons (c1 := [(Value.string y_0.Name)]) rfl rfl CsE.nil)) rfl
      have O275 := O268.nm
      obtain ⟨m276, u277, s282, ⟨⟨r280, k281⟩, _⟩, B278, C279⟩ := O275.lend0 [1]
      replace r280 : Rd 1 eStr m276 (some ⟨(Array.size h1), 0, none⟩) ([y_0.Name] : List ByteArray) := r280
      replace k281 : List.length ([y_0.Name] : List ByteArray) ≤ 1 := k281
      refine (roadref2_texts.walk (Hold.start (W := No) s282) rfl k281 r280 (TBg.sub tab u277) g36).mono ?_
      rintro _ h271 ⟨m272, Q273, rfl⟩
      have O283 := Hold.nm (C279 Q273 vfs_nil)
      refine ⟨_, rfl, ?_⟩
      obtain ⟨g284, e⟩ := guard_e e
      refine ⟨g284, ?_⟩
      exact (ih _ _ e) _ _ _ _ _ _ _ (O283.pick [0]).nm e_0 tab
set_option maxRecDepth 100000 in
theorem roadref2_TypeMark_k.step_j0 (go : (p : roadref2_TypeMark_k.Pt) → Option (ByteArray)) (ih : ∀ p r, go p = some r → roadref2_TypeMark_k.I p r) (y_1 : T_api_Type) (s_3 : ByteArray) (r : ByteArray) (e : roadref2_TypeMark_k.body go (.j0 y_1 s_3) = some r) : roadref2_TypeMark_k.I (.j0 y_1 s_3) r := by
  unfold roadref2_TypeMark_k.body at e
  intro W h0 m0 h m bk_1 cs_1 O e_1 tab
  refine f25.j0_in ?_
  unfold f25.j0T
  obtain ⟨A1, c2, q3, k4, r5⟩ := T_api_Type.g2 e_1
  refine ⟨_, ldk (k := 2) (Sub.refl _) (O.all 0 rfl) q3, _, _, _, rfl, ?_⟩
  exact (ih _ _ e) _ _ _ _ _ _ _ _ (O.pick []).nm rfl k4 r5 tab
set_option maxRecDepth 100000 in
theorem roadref2_TypeMark_k.step_l0 (go : (p : roadref2_TypeMark_k.Pt) → Option (ByteArray)) (ih : ∀ p r, go p = some r → roadref2_TypeMark_k.I p r) (s_3 : ByteArray) (a_19 : List T_api_Type) (x_20 : Int) (x_21 : Int) (r : ByteArray) (e : roadref2_TypeMark_k.body go (.l0 s_3 a_19 x_20 x_21) = some r) : roadref2_TypeMark_k.I (.l0 s_3 a_19 x_20 x_21) r := by
  unfold roadref2_TypeMark_k.body at e
  intro W h0 m0 h m A_19 n_19 c_19 O ne_19 k_19 r_19 tab
  subst ne_19
  refine f25.l0_in ?_
  unfold f25.l0T
  refine split_dec_e e (fun c22 e => ?_) (fun c22 e => ?_)
  · obtain ⟨y1, g2, e⟩ := bind_e e
    refine r_19.addr rfl g2 fun a3 cs4 ha5 hc6 he7 => ?_
    refine ⟨_, ldAn O.s hc6 rfl, ?_⟩
    refine O.new fun h8 x9 O10 => ?_
    refine ⟨_, rfl, (T_api_Type.T.len _ _ _ he7), ?_⟩
    refine O10.stA 0 rfl (T_api_Type.T.len _ _ _ he7) (T_api_Type.T.flat _ _ _ he7) fun h12 O13 => ?_
    refine ⟨_, ldAn (Sub.refl _) (O13.all 0 rfl) (T_api_Type.T.len _ _ _ he7), ?_⟩
    obtain ⟨y14, g15, e⟩ := bind_e e
    refine ((ih _ _ g15) _ _ _ _ (Hold.start (W := No) O13.s) he7 tab).mono ?_
    rintro _ h16 ⟨m17, Q18, rfl⟩
    have O20 := Hold.nm (O13.retC Q18 vfs_nil)
    refine ⟨_, rfl, ?_⟩
    obtain ⟨g21, e⟩ := guard_e e
    refine ⟨g21, ?_⟩
    exact (ih _ _ e) _ _ _ _ _ _ _ _ (O20.pick []).nm rfl k_19 r_19 tab
  · cases e
    exact ⟨_, O.pick [], rfl⟩
theorem roadref2_TypeMark_k.all {p : roadref2_TypeMark_k.Pt} {r : (ByteArray)} (e : roadref2_TypeMark_k.go p = some r) : roadref2_TypeMark_k.I p r := fixF_ind (β := fun _ => (ByteArray)) roadref2_TypeMark_k.mono (I := roadref2_TypeMark_k.I) (fun go ih p r e => match p with
  | .f y_0 => roadref2_TypeMark_k.step_f go ih y_0 r e
  | .j0 y_1 s_3 => roadref2_TypeMark_k.step_j0 go ih y_1 s_3 r e
  | .l0 s_3 a_19 x_20 x_21 => roadref2_TypeMark_k.step_l0 go ih s_3 a_19 x_20 x_21 r e
  ) e
theorem roadref2_TypeMark.walk {W : Nat → Prop} {h m : Heap} {cs_0 : List Value} {y_0 : T_api_Type} (O : Hold W h m h m []) (e_0 : T_api_Type.E m y_0 cs_0) (tab : TB m) {r : ByteArray} (e : roadref2_TypeMark y_0 = some r) : Run Tryd.prog 25 #[Value.agg cs_0.toArray] h (roadref2_TypeMark.post W h m r) := roadref2_TypeMark_k.all (p := .f y_0) e W h m cs_0 O e_0 tab
def roadref2_typesMark.post (W : Nat → Prop) (h0 m0 : Heap) (r : ByteArray) (v : Value) (h : Heap) : Prop := ∃ m , Hold W h0 m0 h m [] ∧ v = .string r
inductive roadref2_typesMark.l0_k.Pt where
  | l0 (s_3 : ByteArray) (a_10 : List T_api_Type) (x_11 : Int) (x_12 : Int)
noncomputable def roadref2_typesMark.l0_k.body (go : (p : roadref2_typesMark.l0_k.Pt) → Option (ByteArray)) : (p : roadref2_typesMark.l0_k.Pt) → Option (ByteArray)
  | .l0 s_3 a_10 x_11 x_12 => if x_12 < x_11 then (Option.bind (gi a_10 x_12) fun y1 => Option.bind (roadref2_TypeMark y1) fun y14 => if ByteArray.size s_3 + ByteArray.size y14 ≤ 9223372036854775807 then ((go (.l0 (s_3 ++ y14) a_10 x_11 (IntKind.wrap .i64 (x_12 + (1 : Int)))))) else none) else (some (s_3))
theorem roadref2_typesMark.l0_k.mono : MonoF (β := fun _ => (ByteArray)) roadref2_typesMark.l0_k.body := fun f g hfg p => match p with
  | .l0 s_3 a_10 x_11 x_12 => LeO.ite (LeO.bind (LeO.refl _) fun y1 => LeO.bind (LeO.refl _) fun y14 => LeO.ite ((hfg _)) (LeO.refl _)) (LeO.refl _)
noncomputable def roadref2_typesMark.l0_k.go (p : roadref2_typesMark.l0_k.Pt) : Option (ByteArray) := fixF (β := fun _ => (ByteArray)) roadref2_typesMark.l0_k.body p
noncomputable def roadref2_typesMark.l0 (s_3 : ByteArray) (a_10 : List T_api_Type) (x_11 : Int) (x_12 : Int) : Option (ByteArray) := roadref2_typesMark.l0_k.go (.l0 s_3 a_10 x_11 x_12)
theorem roadref2_typesMark.l0_eq (s_3 : ByteArray) (a_10 : List T_api_Type) (x_11 : Int) (x_12 : Int) : roadref2_typesMark.l0 s_3 a_10 x_11 x_12 = if x_12 < x_11 then (Option.bind (gi a_10 x_12) fun y1 => Option.bind (roadref2_TypeMark y1) fun y14 => if ByteArray.size s_3 + ByteArray.size y14 ≤ 9223372036854775807 then ((roadref2_typesMark.l0 (s_3 ++ y14) a_10 x_11 (IntKind.wrap .i64 (x_12 + (1 : Int))))) else none) else (some (s_3)) := fixF_eq roadref2_typesMark.l0_k.mono _
def roadref2_typesMark.l0_k.I : (p : roadref2_typesMark.l0_k.Pt) → (ByteArray) → Prop
  | .l0 s_3 a_10 x_11 x_12, r => ∀ (W : Nat → Prop) (h0 m0 h m : Heap) (A_10 : Option Addr) (n_10 c_10 : Nat) (O : Hold W h0 m0 h m []) (ne_10 : n_10 = List.length a_10) (k_10 : List.length a_10 ≤ c_10) (r_10 : Rd 3 T_api_Type.E m A_10 a_10) (tab : TB m), f23.l0 (roadref2_typesMark.post W h0 m0 r) s_3 A_10 n_10 c_10 x_11 x_12 h
set_option maxRecDepth 100000 in
theorem roadref2_typesMark.l0_k.step_l0 (go : (p : roadref2_typesMark.l0_k.Pt) → Option (ByteArray)) (ih : ∀ p r, go p = some r → roadref2_typesMark.l0_k.I p r) (s_3 : ByteArray) (a_10 : List T_api_Type) (x_11 : Int) (x_12 : Int) (r : ByteArray) (e : roadref2_typesMark.l0_k.body go (.l0 s_3 a_10 x_11 x_12) = some r) : roadref2_typesMark.l0_k.I (.l0 s_3 a_10 x_11 x_12) r := by
  unfold roadref2_typesMark.l0_k.body at e
  intro W h0 m0 h m A_10 n_10 c_10 O ne_10 k_10 r_10 tab
  subst ne_10
  refine f23.l0_in ?_
  unfold f23.l0T
  refine split_dec_e e (fun c22 e => ?_) (fun c22 e => ?_)
  · obtain ⟨y1, g2, e⟩ := bind_e e
    refine r_10.addr rfl g2 fun a3 cs4 ha5 hc6 he7 => ?_
    refine ⟨_, ldAn O.s hc6 rfl, ?_⟩
    refine O.new fun h8 x9 O10 => ?_
    refine ⟨_, rfl, (T_api_Type.T.len _ _ _ he7), ?_⟩
    refine O10.stA 0 rfl (T_api_Type.T.len _ _ _ he7) (T_api_Type.T.flat _ _ _ he7) fun h12 O13 => ?_
    refine ⟨_, ldAn (Sub.refl _) (O13.all 0 rfl) (T_api_Type.T.len _ _ _ he7), ?_⟩
    obtain ⟨y14, g15, e⟩ := bind_e e
    refine (roadref2_TypeMark.walk (Hold.start (W := No) O13.s) he7 tab g15).mono ?_
    rintro _ h16 ⟨m17, Q18, rfl⟩
    have O20 := Hold.nm (O13.retC Q18 vfs_nil)
    refine ⟨_, rfl, ?_⟩
    obtain ⟨g21, e⟩ := guard_e e
    refine ⟨g21, ?_⟩
    exact (ih _ _ e) _ _ _ _ _ _ _ _ (O20.pick []).nm rfl k_10 r_10 tab
  · cases e
    exact ⟨_, O.pick [], rfl⟩
theorem roadref2_typesMark.l0_k.all {p : roadref2_typesMark.l0_k.Pt} {r : (ByteArray)} (e : roadref2_typesMark.l0_k.go p = some r) : roadref2_typesMark.l0_k.I p r := fixF_ind (β := fun _ => (ByteArray)) roadref2_typesMark.l0_k.mono (I := roadref2_typesMark.l0_k.I) (fun go ih p r e => match p with
  | .l0 s_3 a_10 x_11 x_12 => roadref2_typesMark.l0_k.step_l0 go ih s_3 a_10 x_11 x_12 r e
  ) e
theorem roadref2_typesMark.l0.walk {W : Nat → Prop} {h0 m0 h m : Heap} {A_10 : Option Addr} {n_10 c_10 : Nat} {s_3 : ByteArray} {a_10 : List T_api_Type} {x_11 : Int} {x_12 : Int} (O : Hold W h0 m0 h m []) (ne_10 : n_10 = List.length a_10) (k_10 : List.length a_10 ≤ c_10) (r_10 : Rd 3 T_api_Type.E m A_10 a_10) (tab : TB m) {r : ByteArray} (e : roadref2_typesMark.l0 s_3 a_10 x_11 x_12 = some r) : f23.l0 (roadref2_typesMark.post W h0 m0 r) s_3 A_10 n_10 c_10 x_11 x_12 h := roadref2_typesMark.l0_k.all (p := .l0 s_3 a_10 x_11 x_12) e W h0 m0 h m A_10 n_10 c_10 O ne_10 k_10 r_10 tab
noncomputable def roadref2_typesMark (a_0 : List T_api_Type) : Option (ByteArray) :=
  Option.bind (roadref2_nums ([(((List.length a_0) : Nat) : Int)] : List Int)) fun y6 => (roadref2_typesMark.l0 y6 a_0 (((List.length a_0) : Nat) : Int) (0 : Int))
set_option maxRecDepth 100000 in
theorem roadref2_typesMark.walk {W : Nat → Prop} {h m : Heap} {A_0 : Option Addr} {n_0 c_0 : Nat} {a_0 : List T_api_Type} (O : Hold W h m h m []) (ne_0 : n_0 = List.length a_0) (k_0 : List.length a_0 ≤ c_0) (r_0 : Rd 3 T_api_Type.E m A_0 a_0) (tab : TB m) {r : ByteArray} (e : roadref2_typesMark a_0 = some r) : Run Tryd.prog 23 #[Value.slice A_0 n_0 c_0] h (roadref2_typesMark.post W h m r) := by
  unfold roadref2_typesMark at e
  subst ne_0
  refine f23.run ?_
  unfold f23.runT
  refine O.new fun h1 x2 O3 => ?_
  obtain ⟨y6, g7, e⟩ := bind_e e
  have O5 := O3.rowE (l := ([(((List.length a_0) : Nat) : Int)] : List Int)) 0 rfl (tell_int .i64) (show CsE _ _ _ _ _ from (CsE.cons (c1 := [(Value.int .i64 (((List.length a_0) : Nat) : Int))]) rfl rfl CsE.nil)) rfl
  have O12 := O5.nm
  obtain ⟨m13, u14, s19, ⟨⟨r17, k18⟩, _⟩, B15, C16⟩ := O12.lend0 [0]
  replace r17 : Rd 1 (eInt .i64) m13 (some ⟨(Array.size h), 0, none⟩) ([(((List.length a_0) : Nat) : Int)] : List Int) := r17
  replace k18 : List.length ([(((List.length a_0) : Nat) : Int)] : List Int) ≤ 1 := k18
  refine (roadref2_nums.walk (Hold.start (W := No) s19) rfl k18 r17 (TBg.sub tab u14) g7).mono ?_
  rintro _ h8 ⟨m9, Q10, rfl⟩
  have O20 := Hold.nm (C16 Q10 vfs_nil)
  refine ⟨_, rfl, ?_⟩
  exact roadref2_typesMark.l0.walk (O20.pick []).nm rfl k_0 r_0 tab e
def roadref2_PatMark.post (W : Nat → Prop) (h0 m0 : Heap) (r : ByteArray) (v : Value) (h : Heap) : Prop := ∃ m , Hold W h0 m0 h m [] ∧ v = .string r
inductive roadref2_PatMark_k.Pt where
  | f (y_0 : T_api_Pat)
  | j0 (y_1 : T_api_Pat) (s_3 : ByteArray)
  | l0 (s_3 : ByteArray) (a_21 : List T_api_Pat) (x_22 : Int) (x_23 : Int)
noncomputable def roadref2_PatMark_k.body (go : (p : roadref2_PatMark_k.Pt) → Option (ByteArray)) : (p : roadref2_PatMark_k.Pt) → Option (ByteArray)
  | .f y_0 => Option.bind (roadref2_nums ([y_0.Kind, y_0.Num, (((List.length y_0.Args) : Nat) : Int)] : List Int)) fun y15 => Option.bind (roadref2_texts ([y_0.Text] : List ByteArray)) fun y35 => if ByteArray.size y15 + ByteArray.size y35 ≤ 9223372036854775807 then ((go (.j0 y_0 (y15 ++ y35)))) else none
  | .j0 y_1 s_3 => (go (.l0 s_3 y_1.Args (((List.length y_1.Args) : Nat) : Int) (0 : Int)))
  | .l0 s_3 a_21 x_22 x_23 => if x_23 < x_22 then (Option.bind (gi a_21 x_23) fun y1 => Option.bind ((go (.f y1))) fun y14 => if ByteArray.size s_3 + ByteArray.size y14 ≤ 9223372036854775807 then ((go (.l0 (s_3 ++ y14) a_21 x_22 (IntKind.wrap .i64 (x_23 + (1 : Int)))))) else none) else (some (s_3))
theorem roadref2_PatMark_k.mono : MonoF (β := fun _ => (ByteArray)) roadref2_PatMark_k.body := fun f g hfg p => match p with
  | .f y_0 => LeO.bind (LeO.refl _) fun y15 => LeO.bind (LeO.refl _) fun y35 => LeO.ite ((hfg _)) (LeO.refl _)
  | .j0 y_1 s_3 => (hfg _)
  | .l0 s_3 a_21 x_22 x_23 => LeO.ite (LeO.bind (LeO.refl _) fun y1 => LeO.bind ((hfg _)) fun y14 => LeO.ite ((hfg _)) (LeO.refl _)) (LeO.refl _)
noncomputable def roadref2_PatMark_k.go (p : roadref2_PatMark_k.Pt) : Option (ByteArray) := fixF (β := fun _ => (ByteArray)) roadref2_PatMark_k.body p
noncomputable def roadref2_PatMark (y_0 : T_api_Pat) : Option (ByteArray) := roadref2_PatMark_k.go (.f y_0)
noncomputable def roadref2_PatMark.j0 (y_1 : T_api_Pat) (s_3 : ByteArray) : Option (ByteArray) := roadref2_PatMark_k.go (.j0 y_1 s_3)
noncomputable def roadref2_PatMark.l0 (s_3 : ByteArray) (a_21 : List T_api_Pat) (x_22 : Int) (x_23 : Int) : Option (ByteArray) := roadref2_PatMark_k.go (.l0 s_3 a_21 x_22 x_23)
theorem roadref2_PatMark_eq (y_0 : T_api_Pat) : roadref2_PatMark y_0 = Option.bind (roadref2_nums ([y_0.Kind, y_0.Num, (((List.length y_0.Args) : Nat) : Int)] : List Int)) fun y15 => Option.bind (roadref2_texts ([y_0.Text] : List ByteArray)) fun y35 => if ByteArray.size y15 + ByteArray.size y35 ≤ 9223372036854775807 then ((roadref2_PatMark.j0 y_0 (y15 ++ y35))) else none := fixF_eq roadref2_PatMark_k.mono _
theorem roadref2_PatMark.j0_eq (y_1 : T_api_Pat) (s_3 : ByteArray) : roadref2_PatMark.j0 y_1 s_3 = (roadref2_PatMark.l0 s_3 y_1.Args (((List.length y_1.Args) : Nat) : Int) (0 : Int)) := fixF_eq roadref2_PatMark_k.mono _
theorem roadref2_PatMark.l0_eq (s_3 : ByteArray) (a_21 : List T_api_Pat) (x_22 : Int) (x_23 : Int) : roadref2_PatMark.l0 s_3 a_21 x_22 x_23 = if x_23 < x_22 then (Option.bind (gi a_21 x_23) fun y1 => Option.bind ((roadref2_PatMark y1)) fun y14 => if ByteArray.size s_3 + ByteArray.size y14 ≤ 9223372036854775807 then ((roadref2_PatMark.l0 (s_3 ++ y14) a_21 x_22 (IntKind.wrap .i64 (x_23 + (1 : Int))))) else none) else (some (s_3)) := fixF_eq roadref2_PatMark_k.mono _
def roadref2_PatMark_k.I : (p : roadref2_PatMark_k.Pt) → (ByteArray) → Prop
  | .f y_0, r => ∀ (W : Nat → Prop) (h m : Heap) (cs_0 : List Value) (O : Hold W h m h m []) (e_0 : T_api_Pat.E m y_0 cs_0) (tab : TB m), Run Tryd.prog 40 #[Value.agg cs_0.toArray] h (roadref2_PatMark.post W h m r)
  | .j0 y_1 s_3, r => ∀ (W : Nat → Prop) (h0 m0 h m : Heap) (bk_1 : Nat) (cs_1 : List Value) (O : Hold W h0 m0 h m [rV bk_1 102 cs_1]) (e_1 : T_api_Pat.E m y_1 cs_1) (tab : TB m), f40.j0 (roadref2_PatMark.post W h0 m0 r) (⟨bk_1, 0, none⟩ : Addr) s_3 h
  | .l0 s_3 a_21 x_22 x_23, r => ∀ (W : Nat → Prop) (h0 m0 h m : Heap) (A_21 : Option Addr) (n_21 c_21 : Nat) (O : Hold W h0 m0 h m []) (ne_21 : n_21 = List.length a_21) (k_21 : List.length a_21 ≤ c_21) (r_21 : Rd 4 T_api_Pat.E m A_21 a_21) (tab : TB m), f40.l0 (roadref2_PatMark.post W h0 m0 r) s_3 A_21 n_21 c_21 x_22 x_23 h
set_option maxHeartbeats 4000000 in
set_option maxRecDepth 100000 in
theorem roadref2_PatMark_k.step_f (go : (p : roadref2_PatMark_k.Pt) → Option (ByteArray)) (ih : ∀ p r, go p = some r → roadref2_PatMark_k.I p r) (y_0 : T_api_Pat) (r : ByteArray) (e : roadref2_PatMark_k.body go (.f y_0) = some r) : roadref2_PatMark_k.I (.f y_0) r := by
  unfold roadref2_PatMark_k.body at e
  intro W h m cs_0 O e_0 tab
  refine f40.run ?_
  unfold f40.runT
  refine O.new fun h1 x2 O3 => ?_
  refine ⟨_, ld0 (Sub.refl _) (O3.all 0 rfl) (T_api_Pat.g0 e_0), _, rfl, ?_⟩
  refine ⟨_, ldk (k := 1) (Sub.refl _) (O3.all 0 rfl) (T_api_Pat.g1 e_0), _, rfl, ?_⟩
  obtain ⟨A5, c6, q7, k8, r9⟩ := T_api_Pat.g3 e_0
  refine ⟨_, ldk (k := 3) (Sub.refl _) (O3.all 0 rfl) q7, _, _, _, rfl, ?_⟩
  obtain ⟨y15, g16, e⟩ := bind_e e
  obtain ⟨y35, g36, e⟩ := bind_e e
  refine ⟨?_, ?_⟩
  · refine O3.new fun h51 x52 O53 => ?_
    refine ⟨?_, ?_⟩
    · have O55 := O53.rowE (l := ([y_0.Kind, y_0.Num, (((List.length y_0.Args) : Nat) : Int)] : List Int)) 1 rfl (tell_int .i64) (show CsE _ _ _ _ _ from (CsE.cons (c1 := [(Value.int .i64 y_0.Kind)]) rfl rfl (CsE.cons (c1 := [(Value.int .i64 y_0.Num)]) rfl rfl (CsE.cons (c1 := [(Value.int .i64 (((List.length y_0.Args) : Nat) : Int))]) rfl rfl CsE.nil)))) rfl
      have O62 := O55.nm
      obtain ⟨m63, u64, s69, ⟨⟨r67, k68⟩, _⟩, B65, C66⟩ := O62.lend0 [1]
      replace r67 : Rd 1 (eInt .i64) m63 (some ⟨(Array.size h1), 0, none⟩) ([y_0.Kind, y_0.Num, (((List.length y_0.Args) : Nat) : Int)] : List Int) := r67
      replace k68 : List.length ([y_0.Kind, y_0.Num, (((List.length y_0.Args) : Nat) : Int)] : List Int) ≤ 3 := k68
      refine (roadref2_nums.walk (Hold.start (W := No) s69) rfl k68 r67 (TBg.sub tab u64) g16).mono ?_
      rintro _ h58 ⟨m59, Q60, rfl⟩
      have O70 := Hold.nm (C66 Q60 vfs_nil)
      refine ⟨_, rfl, ?_⟩
      refine ⟨_, ldk (k := 2) (Sub.refl _) (O70.all 0 rfl) (T_api_Pat.g2 e_0), _, rfl, ?_⟩
      refine ⟨Ext.refl _, ?_⟩
      refine O70.new fun h71 x72 O73 => ?_
      refine ⟨x72, ?_⟩
      have O75 := O73.rowE (l := ([y_0.Text] : List ByteArray)) 2 rfl tell_str (show CsE _ _ _ _ _ from (CsE.cons (c1 := [(Value.string y_0.Text)]) rfl rfl CsE.nil)) rfl
      have O82 := O75.nm
      obtain ⟨m83, u84, s89, ⟨⟨r87, k88⟩, _⟩, B85, C86⟩ := O82.lend0 [2]
      replace r87 : Rd 1 eStr m83 (some ⟨(Array.size h58), 0, none⟩) ([y_0.Text] : List ByteArray) := r87
      replace k88 : List.length ([y_0.Text] : List ByteArray) ≤ 1 := k88
      refine (roadref2_texts.walk (Hold.start (W := No) s89) rfl k88 r87 (TBg.sub tab u84) g36).mono ?_
      rintro _ h78 ⟨m79, Q80, rfl⟩
      have O90 := Hold.nm (C86 Q80 vfs_nil)
      refine ⟨_, rfl, ?_⟩
      obtain ⟨g91, e⟩ := guard_e e
      refine ⟨g91, ?_⟩
      exact (ih _ _ e) _ _ _ _ _ _ _ (O90.pick [0]).nm e_0 tab
    · refine ⟨_, ldk (k := 2) (Sub.refl _) (O53.all 0 rfl) (T_api_Pat.g2 e_0), _, rfl, ?_⟩
      refine ⟨Ext.refl _, ?_⟩
      refine ⟨?_, ?_⟩
      · have O92 := O53.rowE (l := ([y_0.Kind, y_0.Num, (((List.length y_0.Args) : Nat) : Int)] : List Int)) 1 rfl (tell_int .i64) (show CsE _ _ _ _ _ from (CsE.cons (c1 := [(Value.int .i64 y_0.Kind)]) rfl rfl (CsE.cons (c1 := [(Value.int .i64 y_0.Num)]) rfl rfl (CsE.cons (c1 := [(Value.int .i64 (((List.length y_0.Args) : Nat) : Int))]) rfl rfl CsE.nil)))) rfl
        have O99 := O92.nm
        obtain ⟨m100, u101, s106, ⟨⟨r104, k105⟩, _⟩, B102, C103⟩ := O99.lend0 [1]
        replace r104 : Rd 1 (eInt .i64) m100 (some ⟨(Array.size h1), 0, none⟩) ([y_0.Kind, y_0.Num, (((List.length y_0.Args) : Nat) : Int)] : List Int) := r104
        replace k105 : List.length ([y_0.Kind, y_0.Num, (((List.length y_0.Args) : Nat) : Int)] : List Int) ≤ 3 := k105
        refine (roadref2_nums.walk (Hold.start (W := No) s106) rfl k105 r104 (TBg.sub tab u101) g16).mono ?_
        rintro _ h95 ⟨m96, Q97, rfl⟩
        have O107 := Hold.nm (C103 Q97 vfs_nil)
        refine ⟨_, rfl, ?_⟩
        refine O107.new fun h108 x109 O110 => ?_
        refine ⟨x109, ?_⟩
        have O112 := O110.rowE (l := ([y_0.Text] : List ByteArray)) 2 rfl tell_str (show CsE _ _ _ _ _ from (CsE.cons (c1 := [(Value.string y_0.Text)]) rfl rfl CsE.nil)) rfl
        have O119 := O112.nm
        obtain ⟨m120, u121, s126, ⟨⟨r124, k125⟩, _⟩, B122, C123⟩ := O119.lend0 [2]
        replace r124 : Rd 1 eStr m120 (some ⟨(Array.size h95), 0, none⟩) ([y_0.Text] : List ByteArray) := r124
        replace k125 : List.length ([y_0.Text] : List ByteArray) ≤ 1 := k125
        refine (roadref2_texts.walk (Hold.start (W := No) s126) rfl k125 r124 (TBg.sub tab u121) g36).mono ?_
        rintro _ h115 ⟨m116, Q117, rfl⟩
        have O127 := Hold.nm (C123 Q117 vfs_nil)
        refine ⟨_, rfl, ?_⟩
        obtain ⟨g128, e⟩ := guard_e e
        refine ⟨g128, ?_⟩
        exact (ih _ _ e) _ _ _ _ _ _ _ (O127.pick [0]).nm e_0 tab
      · refine O53.new fun h129 x130 O131 => ?_
        refine ⟨x130, ?_⟩
        have O133 := O131.rowE (l := ([y_0.Kind, y_0.Num, (((List.length y_0.Args) : Nat) : Int)] : List Int)) 1 rfl (tell_int .i64) (show CsE _ _ _ _ _ from (CsE.cons (c1 := [(Value.int .i64 y_0.Kind)]) rfl rfl (CsE.cons (c1 := [(Value.int .i64 y_0.Num)]) rfl rfl (CsE.cons (c1 := [(Value.int .i64 (((List.length y_0.Args) : Nat) : Int))]) rfl rfl CsE.nil)))) rfl
        have O140 := O133.nm
        obtain ⟨m141, u142, s147, ⟨⟨r145, k146⟩, _⟩, B143, C144⟩ := O140.lend0 [1]
        replace r145 : Rd 1 (eInt .i64) m141 (some ⟨(Array.size h1), 0, none⟩) ([y_0.Kind, y_0.Num, (((List.length y_0.Args) : Nat) : Int)] : List Int) := r145
        replace k146 : List.length ([y_0.Kind, y_0.Num, (((List.length y_0.Args) : Nat) : Int)] : List Int) ≤ 3 := k146
        refine (roadref2_nums.walk (Hold.start (W := No) s147) rfl k146 r145 (TBg.sub tab u142) g16).mono ?_
        rintro _ h136 ⟨m137, Q138, rfl⟩
        have O148 := Hold.nm (C144 Q138 vfs_nil)
        refine ⟨_, rfl, ?_⟩
        have O149 := O148.rowE (l := ([y_0.Text] : List ByteArray)) 2 rfl tell_str (show CsE _ _ _ _ _ from (CsE.cons (c1 := [(Value.string y_0.Text)]) rfl rfl CsE.nil)) rfl
        have O156 := O149.nm
        obtain ⟨m157, u158, s163, ⟨⟨r161, k162⟩, _⟩, B159, C160⟩ := O156.lend0 [2]
        replace r161 : Rd 1 eStr m157 (some ⟨(Array.size h51), 0, none⟩) ([y_0.Text] : List ByteArray) := r161
        replace k162 : List.length ([y_0.Text] : List ByteArray) ≤ 1 := k162
        refine (roadref2_texts.walk (Hold.start (W := No) s163) rfl k162 r161 (TBg.sub tab u158) g36).mono ?_
        rintro _ h152 ⟨m153, Q154, rfl⟩
        have O164 := Hold.nm (C160 Q154 vfs_nil)
        refine ⟨_, rfl, ?_⟩
        obtain ⟨g165, e⟩ := guard_e e
        refine ⟨g165, ?_⟩
        exact (ih _ _ e) _ _ _ _ _ _ _ (O164.pick [0]).nm e_0 tab
  · refine ⟨_, ldk (k := 2) (Sub.refl _) (O3.all 0 rfl) (T_api_Pat.g2 e_0), _, rfl, ?_⟩
    refine ⟨Ext.refl _, ?_⟩
    refine ⟨?_, ?_⟩
    · refine O3.new fun h166 x167 O168 => ?_
      refine ⟨?_, ?_⟩
      · have O170 := O168.rowE (l := ([y_0.Kind, y_0.Num, (((List.length y_0.Args) : Nat) : Int)] : List Int)) 1 rfl (tell_int .i64) (show CsE _ _ _ _ _ from (CsE.cons (c1 := [(Value.int .i64 y_0.Kind)]) rfl rfl (CsE.cons (c1 := [(Value.int .i64 y_0.Num)]) rfl rfl (CsE.cons (c1 := [(Value.int .i64 (((List.length y_0.Args) : Nat) : Int))]) rfl rfl CsE.nil)))) rfl
        have O177 := O170.nm
        obtain ⟨m178, u179, s184, ⟨⟨r182, k183⟩, _⟩, B180, C181⟩ := O177.lend0 [1]
        replace r182 : Rd 1 (eInt .i64) m178 (some ⟨(Array.size h1), 0, none⟩) ([y_0.Kind, y_0.Num, (((List.length y_0.Args) : Nat) : Int)] : List Int) := r182
        replace k183 : List.length ([y_0.Kind, y_0.Num, (((List.length y_0.Args) : Nat) : Int)] : List Int) ≤ 3 := k183
        refine (roadref2_nums.walk (Hold.start (W := No) s184) rfl k183 r182 (TBg.sub tab u179) g16).mono ?_
        rintro _ h173 ⟨m174, Q175, rfl⟩
        have O185 := Hold.nm (C181 Q175 vfs_nil)
        refine ⟨_, rfl, ?_⟩
        refine O185.new fun h186 x187 O188 => ?_
        refine ⟨x187, ?_⟩
        have O190 := O188.rowE (l := ([y_0.Text] : List ByteArray)) 2 rfl tell_str (show CsE _ _ _ _ _ from (CsE.cons (c1 := [(Value.string y_0.Text)]) rfl rfl CsE.nil)) rfl
        have O197 := O190.nm
        obtain ⟨m198, u199, s204, ⟨⟨r202, k203⟩, _⟩, B200, C201⟩ := O197.lend0 [2]
        replace r202 : Rd 1 eStr m198 (some ⟨(Array.size h173), 0, none⟩) ([y_0.Text] : List ByteArray) := r202
        replace k203 : List.length ([y_0.Text] : List ByteArray) ≤ 1 := k203
        refine (roadref2_texts.walk (Hold.start (W := No) s204) rfl k203 r202 (TBg.sub tab u199) g36).mono ?_
        rintro _ h193 ⟨m194, Q195, rfl⟩
        have O205 := Hold.nm (C201 Q195 vfs_nil)
        refine ⟨_, rfl, ?_⟩
        obtain ⟨g206, e⟩ := guard_e e
        refine ⟨g206, ?_⟩
        exact (ih _ _ e) _ _ _ _ _ _ _ (O205.pick [0]).nm e_0 tab
      · refine O168.new fun h207 x208 O209 => ?_
        refine ⟨x208, ?_⟩
        have O211 := O209.rowE (l := ([y_0.Kind, y_0.Num, (((List.length y_0.Args) : Nat) : Int)] : List Int)) 1 rfl (tell_int .i64) (show CsE _ _ _ _ _ from (CsE.cons (c1 := [(Value.int .i64 y_0.Kind)]) rfl rfl (CsE.cons (c1 := [(Value.int .i64 y_0.Num)]) rfl rfl (CsE.cons (c1 := [(Value.int .i64 (((List.length y_0.Args) : Nat) : Int))]) rfl rfl CsE.nil)))) rfl
        have O218 := O211.nm
        obtain ⟨m219, u220, s225, ⟨⟨r223, k224⟩, _⟩, B221, C222⟩ := O218.lend0 [1]
        replace r223 : Rd 1 (eInt .i64) m219 (some ⟨(Array.size h1), 0, none⟩) ([y_0.Kind, y_0.Num, (((List.length y_0.Args) : Nat) : Int)] : List Int) := r223
        replace k224 : List.length ([y_0.Kind, y_0.Num, (((List.length y_0.Args) : Nat) : Int)] : List Int) ≤ 3 := k224
        refine (roadref2_nums.walk (Hold.start (W := No) s225) rfl k224 r223 (TBg.sub tab u220) g16).mono ?_
        rintro _ h214 ⟨m215, Q216, rfl⟩
        have O226 := Hold.nm (C222 Q216 vfs_nil)
        refine ⟨_, rfl, ?_⟩
        have O227 := O226.rowE (l := ([y_0.Text] : List ByteArray)) 2 rfl tell_str (show CsE _ _ _ _ _ from (CsE.cons (c1 := [(Value.string y_0.Text)]) rfl rfl CsE.nil)) rfl
        have O234 := O227.nm
        obtain ⟨m235, u236, s241, ⟨⟨r239, k240⟩, _⟩, B237, C238⟩ := O234.lend0 [2]
        replace r239 : Rd 1 eStr m235 (some ⟨(Array.size h166), 0, none⟩) ([y_0.Text] : List ByteArray) := r239
        replace k240 : List.length ([y_0.Text] : List ByteArray) ≤ 1 := k240
        refine (roadref2_texts.walk (Hold.start (W := No) s241) rfl k240 r239 (TBg.sub tab u236) g36).mono ?_
        rintro _ h230 ⟨m231, Q232, rfl⟩
        have O242 := Hold.nm (C238 Q232 vfs_nil)
        refine ⟨_, rfl, ?_⟩
        obtain ⟨g243, e⟩ := guard_e e
        refine ⟨g243, ?_⟩
        exact (ih _ _ e) _ _ _ _ _ _ _ (O242.pick [0]).nm e_0 tab
    · refine O3.new fun h244 x245 O246 => ?_
      refine ⟨x245, ?_⟩
      refine O246.new fun h248 x249 O250 => ?_
      have O252 := O250.rowE (l := ([y_0.Kind, y_0.Num, (((List.length y_0.Args) : Nat) : Int)] : List Int)) 2 rfl (tell_int .i64) (show CsE _ _ _ _ _ from (CsE.cons (c1 := [(Value.int .i64 y_0.Kind)]) rfl rfl (CsE.cons (c1 := [(Value.int .i64 y_0.Num)]) rfl rfl (CsE.cons (c1 := [(Value.int .i64 (((List.length y_0.Args) : Nat) : Int))]) rfl rfl CsE.nil)))) rfl
      have O259 := O252.nm
      obtain ⟨m260, u261, s266, ⟨⟨r264, k265⟩, _⟩, B262, C263⟩ := O259.lend0 [2]
      replace r264 : Rd 1 (eInt .i64) m260 (some ⟨(Array.size h244), 0, none⟩) ([y_0.Kind, y_0.Num, (((List.length y_0.Args) : Nat) : Int)] : List Int) := r264
      replace k265 : List.length ([y_0.Kind, y_0.Num, (((List.length y_0.Args) : Nat) : Int)] : List Int) ≤ 3 := k265
      refine (roadref2_nums.walk (Hold.start (W := No) s266) rfl k265 r264 (TBg.sub tab u261) g16).mono ?_
      rintro _ h255 ⟨m256, Q257, rfl⟩
      have O267 := Hold.nm (C263 Q257 vfs_nil)
      refine ⟨_, rfl, ?_⟩
      have O268 := O267.rowE (l := ([y_0.Text] : List ByteArray)) 1 rfl tell_str (show CsE _ _ _ _ _ from (CsE.cons (c1 := [(Value.string y_0.Text)]) rfl rfl CsE.nil)) rfl
      have O275 := O268.nm
      obtain ⟨m276, u277, s282, ⟨⟨r280, k281⟩, _⟩, B278, C279⟩ := O275.lend0 [1]
      replace r280 : Rd 1 eStr m276 (some ⟨(Array.size h1), 0, none⟩) ([y_0.Text] : List ByteArray) := r280
      replace k281 : List.length ([y_0.Text] : List ByteArray) ≤ 1 := k281
      refine (roadref2_texts.walk (Hold.start (W := No) s282) rfl k281 r280 (TBg.sub tab u277) g36).mono ?_
      rintro _ h271 ⟨m272, Q273, rfl⟩
      have O283 := Hold.nm (C279 Q273 vfs_nil)
      refine ⟨_, rfl, ?_⟩
      obtain ⟨g284, e⟩ := guard_e e
      refine ⟨g284, ?_⟩
      exact (ih _ _ e) _ _ _ _ _ _ _ (O283.pick [0]).nm e_0 tab
set_option maxRecDepth 100000 in
theorem roadref2_PatMark_k.step_j0 (go : (p : roadref2_PatMark_k.Pt) → Option (ByteArray)) (ih : ∀ p r, go p = some r → roadref2_PatMark_k.I p r) (y_1 : T_api_Pat) (s_3 : ByteArray) (r : ByteArray) (e : roadref2_PatMark_k.body go (.j0 y_1 s_3) = some r) : roadref2_PatMark_k.I (.j0 y_1 s_3) r := by
  unfold roadref2_PatMark_k.body at e
  intro W h0 m0 h m bk_1 cs_1 O e_1 tab
  refine f40.j0_in ?_
  unfold f40.j0T
  obtain ⟨A1, c2, q3, k4, r5⟩ := T_api_Pat.g3 e_1
  refine ⟨_, ldk (k := 3) (Sub.refl _) (O.all 0 rfl) q3, _, _, _, rfl, ?_⟩
  exact (ih _ _ e) _ _ _ _ _ _ _ _ (O.pick []).nm rfl k4 r5 tab
set_option maxRecDepth 100000 in
theorem roadref2_PatMark_k.step_l0 (go : (p : roadref2_PatMark_k.Pt) → Option (ByteArray)) (ih : ∀ p r, go p = some r → roadref2_PatMark_k.I p r) (s_3 : ByteArray) (a_21 : List T_api_Pat) (x_22 : Int) (x_23 : Int) (r : ByteArray) (e : roadref2_PatMark_k.body go (.l0 s_3 a_21 x_22 x_23) = some r) : roadref2_PatMark_k.I (.l0 s_3 a_21 x_22 x_23) r := by
  unfold roadref2_PatMark_k.body at e
  intro W h0 m0 h m A_21 n_21 c_21 O ne_21 k_21 r_21 tab
  subst ne_21
  refine f40.l0_in ?_
  unfold f40.l0T
  refine split_dec_e e (fun c22 e => ?_) (fun c22 e => ?_)
  · obtain ⟨y1, g2, e⟩ := bind_e e
    refine r_21.addr rfl g2 fun a3 cs4 ha5 hc6 he7 => ?_
    refine ⟨_, ldAn O.s hc6 rfl, ?_⟩
    refine O.new fun h8 x9 O10 => ?_
    refine ⟨_, rfl, (T_api_Pat.T.len _ _ _ he7), ?_⟩
    refine O10.stA 0 rfl (T_api_Pat.T.len _ _ _ he7) (T_api_Pat.T.flat _ _ _ he7) fun h12 O13 => ?_
    refine ⟨_, ldAn (Sub.refl _) (O13.all 0 rfl) (T_api_Pat.T.len _ _ _ he7), ?_⟩
    obtain ⟨y14, g15, e⟩ := bind_e e
    refine ((ih _ _ g15) _ _ _ _ (Hold.start (W := No) O13.s) he7 tab).mono ?_
    rintro _ h16 ⟨m17, Q18, rfl⟩
    have O20 := Hold.nm (O13.retC Q18 vfs_nil)
    refine ⟨_, rfl, ?_⟩
    obtain ⟨g21, e⟩ := guard_e e
    refine ⟨g21, ?_⟩
    exact (ih _ _ e) _ _ _ _ _ _ _ _ (O20.pick []).nm rfl k_21 r_21 tab
  · cases e
    exact ⟨_, O.pick [], rfl⟩
theorem roadref2_PatMark_k.all {p : roadref2_PatMark_k.Pt} {r : (ByteArray)} (e : roadref2_PatMark_k.go p = some r) : roadref2_PatMark_k.I p r := fixF_ind (β := fun _ => (ByteArray)) roadref2_PatMark_k.mono (I := roadref2_PatMark_k.I) (fun go ih p r e => match p with
  | .f y_0 => roadref2_PatMark_k.step_f go ih y_0 r e
  | .j0 y_1 s_3 => roadref2_PatMark_k.step_j0 go ih y_1 s_3 r e
  | .l0 s_3 a_21 x_22 x_23 => roadref2_PatMark_k.step_l0 go ih s_3 a_21 x_22 x_23 r e
  ) e
theorem roadref2_PatMark.walk {W : Nat → Prop} {h m : Heap} {cs_0 : List Value} {y_0 : T_api_Pat} (O : Hold W h m h m []) (e_0 : T_api_Pat.E m y_0 cs_0) (tab : TB m) {r : ByteArray} (e : roadref2_PatMark y_0 = some r) : Run Tryd.prog 40 #[Value.agg cs_0.toArray] h (roadref2_PatMark.post W h m r) := roadref2_PatMark_k.all (p := .f y_0) e W h m cs_0 O e_0 tab
def roadref2_ExprMark.post (W : Nat → Prop) (h0 m0 : Heap) (r : ByteArray) (v : Value) (h : Heap) : Prop := ∃ m , Hold W h0 m0 h m [] ∧ v = .string r
inductive roadref2_ExprMark_k.Pt where
  | f (y_0 : T_api_Expr)
  | j0 (y_1 : T_api_Expr) (s_3 : ByteArray)
  | l0 (y_1 : T_api_Expr) (s_3 : ByteArray) (a_38 : List T_api_Type) (x_39 : Int) (x_40 : Int)
  | l1 (y_1 : T_api_Expr) (s_3 : ByteArray) (a_50 : List T_api_Expr) (x_51 : Int) (x_52 : Int)
  | l2 (s_3 : ByteArray) (a_62 : List T_api_Arm) (x_63 : Int) (x_64 : Int)
noncomputable def roadref2_ExprMark_k.body (go : (p : roadref2_ExprMark_k.Pt) → Option (ByteArray)) : (p : roadref2_ExprMark_k.Pt) → Option (ByteArray)
  | .f y_0 => Option.bind (roadref2_nums ([y_0.Kind, y_0.Num, (((List.length y_0.Names) : Nat) : Int), (((List.length y_0.Types) : Nat) : Int), (((List.length y_0.Args) : Nat) : Int), (((List.length y_0.Arms) : Nat) : Int)] : List Int)) fun y35 => Option.bind (roadref2_texts ([y_0.Text] : List ByteArray)) fun y55 => if ByteArray.size y35 + ByteArray.size y55 ≤ 9223372036854775807 then (Option.bind (roadref2_texts y_0.Names) fun y71 => if ByteArray.size (y35 ++ y55) + ByteArray.size y71 ≤ 9223372036854775807 then ((go (.j0 y_0 ((y35 ++ y55) ++ y71)))) else none) else none
  | .j0 y_1 s_3 => (go (.l0 y_1 s_3 y_1.Types (((List.length y_1.Types) : Nat) : Int) (0 : Int)))
  | .l0 y_1 s_3 a_38 x_39 x_40 => if x_40 < x_39 then (Option.bind (gi a_38 x_40) fun y1 => Option.bind (roadref2_TypeMark y1) fun y14 => if ByteArray.size s_3 + ByteArray.size y14 ≤ 9223372036854775807 then ((go (.l0 y_1 (s_3 ++ y14) a_38 x_39 (IntKind.wrap .i64 (x_40 + (1 : Int)))))) else none) else ((go (.l1 y_1 s_3 y_1.Args (((List.length y_1.Args) : Nat) : Int) (0 : Int))))
  | .l1 y_1 s_3 a_50 x_51 x_52 => if x_52 < x_51 then (Option.bind (gi a_50 x_52) fun y1 => Option.bind ((go (.f y1))) fun y14 => if ByteArray.size s_3 + ByteArray.size y14 ≤ 9223372036854775807 then ((go (.l1 y_1 (s_3 ++ y14) a_50 x_51 (IntKind.wrap .i64 (x_52 + (1 : Int)))))) else none) else ((go (.l2 s_3 y_1.Arms (((List.length y_1.Arms) : Nat) : Int) (0 : Int))))
  | .l2 s_3 a_62 x_63 x_64 => if x_64 < x_63 then (Option.bind (gi a_62 x_64) fun y1 => Option.bind (roadref2_PatMark y1.Pat) fun y14 => Option.bind ((go (.f y1.Body))) fun y21 => if ByteArray.size y14 + ByteArray.size y21 ≤ 9223372036854775807 then (if ByteArray.size s_3 + ByteArray.size (y14 ++ y21) ≤ 9223372036854775807 then ((go (.l2 (s_3 ++ (y14 ++ y21)) a_62 x_63 (IntKind.wrap .i64 (x_64 + (1 : Int)))))) else none) else none) else (some (s_3))
theorem roadref2_ExprMark_k.mono : MonoF (β := fun _ => (ByteArray)) roadref2_ExprMark_k.body := fun f g hfg p => match p with
  | .f y_0 => LeO.bind (LeO.refl _) fun y35 => LeO.bind (LeO.refl _) fun y55 => LeO.ite (LeO.bind (LeO.refl _) fun y71 => LeO.ite ((hfg _)) (LeO.refl _)) (LeO.refl _)
  | .j0 y_1 s_3 => (hfg _)
  | .l0 y_1 s_3 a_38 x_39 x_40 => LeO.ite (LeO.bind (LeO.refl _) fun y1 => LeO.bind (LeO.refl _) fun y14 => LeO.ite ((hfg _)) (LeO.refl _)) ((hfg _))
  | .l1 y_1 s_3 a_50 x_51 x_52 => LeO.ite (LeO.bind (LeO.refl _) fun y1 => LeO.bind ((hfg _)) fun y14 => LeO.ite ((hfg _)) (LeO.refl _)) ((hfg _))
  | .l2 s_3 a_62 x_63 x_64 => LeO.ite (LeO.bind (LeO.refl _) fun y1 => LeO.bind (LeO.refl _) fun y14 => LeO.bind ((hfg _)) fun y21 => LeO.ite (LeO.ite ((hfg _)) (LeO.refl _)) (LeO.refl _)) (LeO.refl _)
noncomputable def roadref2_ExprMark_k.go (p : roadref2_ExprMark_k.Pt) : Option (ByteArray) := fixF (β := fun _ => (ByteArray)) roadref2_ExprMark_k.body p
noncomputable def roadref2_ExprMark (y_0 : T_api_Expr) : Option (ByteArray) := roadref2_ExprMark_k.go (.f y_0)
noncomputable def roadref2_ExprMark.j0 (y_1 : T_api_Expr) (s_3 : ByteArray) : Option (ByteArray) := roadref2_ExprMark_k.go (.j0 y_1 s_3)
noncomputable def roadref2_ExprMark.l0 (y_1 : T_api_Expr) (s_3 : ByteArray) (a_38 : List T_api_Type) (x_39 : Int) (x_40 : Int) : Option (ByteArray) := roadref2_ExprMark_k.go (.l0 y_1 s_3 a_38 x_39 x_40)
noncomputable def roadref2_ExprMark.l1 (y_1 : T_api_Expr) (s_3 : ByteArray) (a_50 : List T_api_Expr) (x_51 : Int) (x_52 : Int) : Option (ByteArray) := roadref2_ExprMark_k.go (.l1 y_1 s_3 a_50 x_51 x_52)
noncomputable def roadref2_ExprMark.l2 (s_3 : ByteArray) (a_62 : List T_api_Arm) (x_63 : Int) (x_64 : Int) : Option (ByteArray) := roadref2_ExprMark_k.go (.l2 s_3 a_62 x_63 x_64)
theorem roadref2_ExprMark_eq (y_0 : T_api_Expr) : roadref2_ExprMark y_0 = Option.bind (roadref2_nums ([y_0.Kind, y_0.Num, (((List.length y_0.Names) : Nat) : Int), (((List.length y_0.Types) : Nat) : Int), (((List.length y_0.Args) : Nat) : Int), (((List.length y_0.Arms) : Nat) : Int)] : List Int)) fun y35 => Option.bind (roadref2_texts ([y_0.Text] : List ByteArray)) fun y55 => if ByteArray.size y35 + ByteArray.size y55 ≤ 9223372036854775807 then (Option.bind (roadref2_texts y_0.Names) fun y71 => if ByteArray.size (y35 ++ y55) + ByteArray.size y71 ≤ 9223372036854775807 then ((roadref2_ExprMark.j0 y_0 ((y35 ++ y55) ++ y71))) else none) else none := fixF_eq roadref2_ExprMark_k.mono _
theorem roadref2_ExprMark.j0_eq (y_1 : T_api_Expr) (s_3 : ByteArray) : roadref2_ExprMark.j0 y_1 s_3 = (roadref2_ExprMark.l0 y_1 s_3 y_1.Types (((List.length y_1.Types) : Nat) : Int) (0 : Int)) := fixF_eq roadref2_ExprMark_k.mono _
theorem roadref2_ExprMark.l0_eq (y_1 : T_api_Expr) (s_3 : ByteArray) (a_38 : List T_api_Type) (x_39 : Int) (x_40 : Int) : roadref2_ExprMark.l0 y_1 s_3 a_38 x_39 x_40 = if x_40 < x_39 then (Option.bind (gi a_38 x_40) fun y1 => Option.bind (roadref2_TypeMark y1) fun y14 => if ByteArray.size s_3 + ByteArray.size y14 ≤ 9223372036854775807 then ((roadref2_ExprMark.l0 y_1 (s_3 ++ y14) a_38 x_39 (IntKind.wrap .i64 (x_40 + (1 : Int))))) else none) else ((roadref2_ExprMark.l1 y_1 s_3 y_1.Args (((List.length y_1.Args) : Nat) : Int) (0 : Int))) := fixF_eq roadref2_ExprMark_k.mono _
theorem roadref2_ExprMark.l1_eq (y_1 : T_api_Expr) (s_3 : ByteArray) (a_50 : List T_api_Expr) (x_51 : Int) (x_52 : Int) : roadref2_ExprMark.l1 y_1 s_3 a_50 x_51 x_52 = if x_52 < x_51 then (Option.bind (gi a_50 x_52) fun y1 => Option.bind ((roadref2_ExprMark y1)) fun y14 => if ByteArray.size s_3 + ByteArray.size y14 ≤ 9223372036854775807 then ((roadref2_ExprMark.l1 y_1 (s_3 ++ y14) a_50 x_51 (IntKind.wrap .i64 (x_52 + (1 : Int))))) else none) else ((roadref2_ExprMark.l2 s_3 y_1.Arms (((List.length y_1.Arms) : Nat) : Int) (0 : Int))) := fixF_eq roadref2_ExprMark_k.mono _
theorem roadref2_ExprMark.l2_eq (s_3 : ByteArray) (a_62 : List T_api_Arm) (x_63 : Int) (x_64 : Int) : roadref2_ExprMark.l2 s_3 a_62 x_63 x_64 = if x_64 < x_63 then (Option.bind (gi a_62 x_64) fun y1 => Option.bind (roadref2_PatMark y1.Pat) fun y14 => Option.bind ((roadref2_ExprMark y1.Body)) fun y21 => if ByteArray.size y14 + ByteArray.size y21 ≤ 9223372036854775807 then (if ByteArray.size s_3 + ByteArray.size (y14 ++ y21) ≤ 9223372036854775807 then ((roadref2_ExprMark.l2 (s_3 ++ (y14 ++ y21)) a_62 x_63 (IntKind.wrap .i64 (x_64 + (1 : Int))))) else none) else none) else (some (s_3)) := fixF_eq roadref2_ExprMark_k.mono _
def roadref2_ExprMark_k.I : (p : roadref2_ExprMark_k.Pt) → (ByteArray) → Prop
  | .f y_0, r => ∀ (W : Nat → Prop) (h m : Heap) (cs_0 : List Value) (O : Hold W h m h m []) (e_0 : T_api_Expr.E m y_0 cs_0) (tab : TB m), Run Tryd.prog 26 #[Value.agg cs_0.toArray] h (roadref2_ExprMark.post W h m r)
  | .j0 y_1 s_3, r => ∀ (W : Nat → Prop) (h0 m0 h m : Heap) (bk_1 : Nat) (cs_1 : List Value) (O : Hold W h0 m0 h m [rV bk_1 59 cs_1]) (e_1 : T_api_Expr.E m y_1 cs_1) (tab : TB m), f26.j0 (roadref2_ExprMark.post W h0 m0 r) (⟨bk_1, 0, none⟩ : Addr) s_3 h
  | .l0 y_1 s_3 a_38 x_39 x_40, r => ∀ (W : Nat → Prop) (h0 m0 h m : Heap) (bk_1 : Nat) (cs_1 : List Value) (A_38 : Option Addr) (n_38 c_38 : Nat) (O : Hold W h0 m0 h m [rV bk_1 59 cs_1]) (e_1 : T_api_Expr.E m y_1 cs_1) (ne_38 : n_38 = List.length a_38) (k_38 : List.length a_38 ≤ c_38) (r_38 : Rd 3 T_api_Type.E m A_38 a_38) (tab : TB m), f26.l0 (roadref2_ExprMark.post W h0 m0 r) (⟨bk_1, 0, none⟩ : Addr) s_3 A_38 n_38 c_38 x_39 x_40 h
  | .l1 y_1 s_3 a_50 x_51 x_52, r => ∀ (W : Nat → Prop) (h0 m0 h m : Heap) (bk_1 : Nat) (cs_1 : List Value) (A_50 : Option Addr) (n_50 c_50 : Nat) (O : Hold W h0 m0 h m [rV bk_1 59 cs_1]) (e_1 : T_api_Expr.E m y_1 cs_1) (ne_50 : n_50 = List.length a_50) (k_50 : List.length a_50 ≤ c_50) (r_50 : Rd 8 T_api_Expr.E m A_50 a_50) (tab : TB m), f26.l1 (roadref2_ExprMark.post W h0 m0 r) (⟨bk_1, 0, none⟩ : Addr) s_3 A_50 n_50 c_50 x_51 x_52 h
  | .l2 s_3 a_62 x_63 x_64, r => ∀ (W : Nat → Prop) (h0 m0 h m : Heap) (A_62 : Option Addr) (n_62 c_62 : Nat) (O : Hold W h0 m0 h m []) (ne_62 : n_62 = List.length a_62) (k_62 : List.length a_62 ≤ c_62) (r_62 : Rd 12 T_api_Arm.E m A_62 a_62) (tab : TB m), f26.l2 (roadref2_ExprMark.post W h0 m0 r) s_3 A_62 n_62 c_62 x_63 x_64 h
set_option maxHeartbeats 4000000 in
set_option maxRecDepth 100000 in
theorem roadref2_ExprMark_k.step_f (go : (p : roadref2_ExprMark_k.Pt) → Option (ByteArray)) (ih : ∀ p r, go p = some r → roadref2_ExprMark_k.I p r) (y_0 : T_api_Expr) (r : ByteArray) (e : roadref2_ExprMark_k.body go (.f y_0) = some r) : roadref2_ExprMark_k.I (.f y_0) r := by
  unfold roadref2_ExprMark_k.body at e
  intro W h m cs_0 O e_0 tab
  refine f26.run ?_
  unfold f26.runT
  refine O.new fun h1 x2 O3 => ?_
  refine ⟨_, ld0 (Sub.refl _) (O3.all 0 rfl) (T_api_Expr.g0 e_0), _, rfl, ?_⟩
  refine ⟨_, ldk (k := 1) (Sub.refl _) (O3.all 0 rfl) (T_api_Expr.g1 e_0), _, rfl, ?_⟩
  obtain ⟨A5, c6, q7, k8, r9⟩ := T_api_Expr.g3 e_0
  refine ⟨_, ldk (k := 3) (Sub.refl _) (O3.all 0 rfl) q7, _, _, _, rfl, ?_⟩
  obtain ⟨A10, c11, q12, k13, r14⟩ := T_api_Expr.g4 e_0
  refine ⟨_, ldk (k := 4) (Sub.refl _) (O3.all 0 rfl) q12, _, _, _, rfl, ?_⟩
  obtain ⟨A15, c16, q17, k18, r19⟩ := T_api_Expr.g5 e_0
  refine ⟨_, ldk (k := 5) (Sub.refl _) (O3.all 0 rfl) q17, _, _, _, rfl, ?_⟩
  obtain ⟨A20, c21, q22, k23, r24⟩ := T_api_Expr.g6 e_0
  refine ⟨_, ldk (k := 6) (Sub.refl _) (O3.all 0 rfl) q22, _, _, _, rfl, ?_⟩
  refine ⟨_, ldk (k := 2) (Sub.refl _) (O3.all 0 rfl) (T_api_Expr.g2 e_0), _, rfl, ?_⟩
  obtain ⟨A25, c26, q27, k28, r29⟩ := T_api_Expr.g3 e_0
  refine ⟨_, ldk (k := 3) (Sub.refl _) (O3.all 0 rfl) q27, _, _, _, rfl, ?_⟩
  obtain ⟨y35, g36, e⟩ := bind_e e
  obtain ⟨y55, g56, e⟩ := bind_e e
  obtain ⟨g70, e⟩ := guard_e e
  obtain ⟨y71, g72, e⟩ := bind_e e
  refine ⟨?_, ?_⟩
  · refine O3.new fun h79 x80 O81 => ?_
    refine ⟨x80, ?_⟩
    refine ⟨?_, ?_⟩
    · have O83 := O81.rowE (l := ([y_0.Kind, y_0.Num, (((List.length y_0.Names) : Nat) : Int), (((List.length y_0.Types) : Nat) : Int), (((List.length y_0.Args) : Nat) : Int), (((List.length y_0.Arms) : Nat) : Int)] : List Int)) 1 rfl (tell_int .i64) (show CsE _ _ _ _ _ from (CsE.cons (c1 := [(Value.int .i64 y_0.Kind)]) rfl rfl (CsE.cons (c1 := [(Value.int .i64 y_0.Num)]) rfl rfl (CsE.cons (c1 := [(Value.int .i64 (((List.length y_0.Names) : Nat) : Int))]) rfl rfl (CsE.cons (c1 := [(Value.int .i64 (((List.length y_0.Types) : Nat) : Int))]) rfl rfl (CsE.cons (c1 := [(Value.int .i64 (((List.length y_0.Args) : Nat) : Int))]) rfl rfl (CsE.cons (c1 := [(Value.int .i64 (((List.length y_0.Arms) : Nat) : Int))]) rfl rfl CsE.nil))))))) rfl
      have O90 := O83.nm
      obtain ⟨m91, u92, s97, ⟨⟨r95, k96⟩, _⟩, B93, C94⟩ := O90.lend0 [1]
      replace r95 : Rd 1 (eInt .i64) m91 (some ⟨(Array.size h1), 0, none⟩) ([y_0.Kind, y_0.Num, (((List.length y_0.Names) : Nat) : Int), (((List.length y_0.Types) : Nat) : Int), (((List.length y_0.Args) : Nat) : Int), (((List.length y_0.Arms) : Nat) : Int)] : List Int) := r95
      replace k96 : List.length ([y_0.Kind, y_0.Num, (((List.length y_0.Names) : Nat) : Int), (((List.length y_0.Types) : Nat) : Int), (((List.length y_0.Args) : Nat) : Int), (((List.length y_0.Arms) : Nat) : Int)] : List Int) ≤ 6 := k96
      refine (roadref2_nums.walk (Hold.start (W := No) s97) rfl k96 r95 (TBg.sub tab u92) g36).mono ?_
      rintro _ h86 ⟨m87, Q88, rfl⟩
      have O98 := Hold.nm (C94 Q88 vfs_nil)
      refine ⟨_, rfl, ?_⟩
      refine ⟨Q88.S.ext, ?_⟩
      refine O98.new fun h99 x100 O101 => ?_
      refine ⟨x100, ?_⟩
      have O103 := O101.rowE (l := ([y_0.Text] : List ByteArray)) 2 rfl tell_str (show CsE _ _ _ _ _ from (CsE.cons (c1 := [(Value.string y_0.Text)]) rfl rfl CsE.nil)) rfl
      have O110 := O103.nm
      obtain ⟨m111, u112, s117, ⟨⟨r115, k116⟩, _⟩, B113, C114⟩ := O110.lend0 [2]
      replace r115 : Rd 1 eStr m111 (some ⟨(Array.size h86), 0, none⟩) ([y_0.Text] : List ByteArray) := r115
      replace k116 : List.length ([y_0.Text] : List ByteArray) ≤ 1 := k116
      refine (roadref2_texts.walk (Hold.start (W := No) s117) rfl k116 r115 (TBg.sub tab u112) g56).mono ?_
      rintro _ h106 ⟨m107, Q108, rfl⟩
      have O118 := Hold.nm (C114 Q108 vfs_nil)
      refine ⟨_, rfl, ?_⟩
      refine ⟨Q108.S.ext, ?_⟩
      refine ⟨g70, ?_⟩
      refine (roadref2_texts.walk (Hold.start (W := No) O118.s) rfl k28 r29 tab g72).mono ?_
      rintro _ h122 ⟨m123, Q124, rfl⟩
      have O126 := Hold.nm (O118.retC Q124 vfs_nil)
      refine ⟨_, rfl, ?_⟩
      obtain ⟨g127, e⟩ := guard_e e
      refine ⟨g127, ?_⟩
      exact (ih _ _ e) _ _ _ _ _ _ _ (O126.pick [0]).nm e_0 tab
    · refine O81.new fun h128 x129 O130 => ?_
      refine ⟨x129, ?_⟩
      have O132 := O130.rowE (l := ([y_0.Kind, y_0.Num, (((List.length y_0.Names) : Nat) : Int), (((List.length y_0.Types) : Nat) : Int), (((List.length y_0.Args) : Nat) : Int), (((List.length y_0.Arms) : Nat) : Int)] : List Int)) 1 rfl (tell_int .i64) (show CsE _ _ _ _ _ from (CsE.cons (c1 := [(Value.int .i64 y_0.Kind)]) rfl rfl (CsE.cons (c1 := [(Value.int .i64 y_0.Num)]) rfl rfl (CsE.cons (c1 := [(Value.int .i64 (((List.length y_0.Names) : Nat) : Int))]) rfl rfl (CsE.cons (c1 := [(Value.int .i64 (((List.length y_0.Types) : Nat) : Int))]) rfl rfl (CsE.cons (c1 := [(Value.int .i64 (((List.length y_0.Args) : Nat) : Int))]) rfl rfl (CsE.cons (c1 := [(Value.int .i64 (((List.length y_0.Arms) : Nat) : Int))]) rfl rfl CsE.nil))))))) rfl
      have O139 := O132.nm
      obtain ⟨m140, u141, s146, ⟨⟨r144, k145⟩, _⟩, B142, C143⟩ := O139.lend0 [1]
      replace r144 : Rd 1 (eInt .i64) m140 (some ⟨(Array.size h1), 0, none⟩) ([y_0.Kind, y_0.Num, (((List.length y_0.Names) : Nat) : Int), (((List.length y_0.Types) : Nat) : Int), (((List.length y_0.Args) : Nat) : Int), (((List.length y_0.Arms) : Nat) : Int)] : List Int) := r144
      replace k145 : List.length ([y_0.Kind, y_0.Num, (((List.length y_0.Names) : Nat) : Int), (((List.length y_0.Types) : Nat) : Int), (((List.length y_0.Args) : Nat) : Int), (((List.length y_0.Arms) : Nat) : Int)] : List Int) ≤ 6 := k145
      refine (roadref2_nums.walk (Hold.start (W := No) s146) rfl k145 r144 (TBg.sub tab u141) g36).mono ?_
      rintro _ h135 ⟨m136, Q137, rfl⟩
      have O147 := Hold.nm (C143 Q137 vfs_nil)
      refine ⟨_, rfl, ?_⟩
      refine ⟨Q137.S.ext, ?_⟩
      have O148 := O147.rowE (l := ([y_0.Text] : List ByteArray)) 2 rfl tell_str (show CsE _ _ _ _ _ from (CsE.cons (c1 := [(Value.string y_0.Text)]) rfl rfl CsE.nil)) rfl
      have O155 := O148.nm
      obtain ⟨m156, u157, s162, ⟨⟨r160, k161⟩, _⟩, B158, C159⟩ := O155.lend0 [2]
      replace r160 : Rd 1 eStr m156 (some ⟨(Array.size h79), 0, none⟩) ([y_0.Text] : List ByteArray) := r160
      replace k161 : List.length ([y_0.Text] : List ByteArray) ≤ 1 := k161
      refine (roadref2_texts.walk (Hold.start (W := No) s162) rfl k161 r160 (TBg.sub tab u157) g56).mono ?_
      rintro _ h151 ⟨m152, Q153, rfl⟩
      have O163 := Hold.nm (C159 Q153 vfs_nil)
      refine ⟨_, rfl, ?_⟩
      refine ⟨Q153.S.ext, ?_⟩
      refine ⟨g70, ?_⟩
      refine (roadref2_texts.walk (Hold.start (W := No) O163.s) rfl k28 r29 tab g72).mono ?_
      rintro _ h167 ⟨m168, Q169, rfl⟩
      have O171 := Hold.nm (O163.retC Q169 vfs_nil)
      refine ⟨_, rfl, ?_⟩
      obtain ⟨g172, e⟩ := guard_e e
      refine ⟨g172, ?_⟩
      exact (ih _ _ e) _ _ _ _ _ _ _ (O171.pick [0]).nm e_0 tab
  · refine O3.new fun h173 x174 O175 => ?_
    refine ⟨x174, ?_⟩
    refine O175.new fun h177 x178 O179 => ?_
    refine ⟨x178, ?_⟩
    have O181 := O179.rowE (l := ([y_0.Kind, y_0.Num, (((List.length y_0.Names) : Nat) : Int), (((List.length y_0.Types) : Nat) : Int), (((List.length y_0.Args) : Nat) : Int), (((List.length y_0.Arms) : Nat) : Int)] : List Int)) 2 rfl (tell_int .i64) (show CsE _ _ _ _ _ from (CsE.cons (c1 := [(Value.int .i64 y_0.Kind)]) rfl rfl (CsE.cons (c1 := [(Value.int .i64 y_0.Num)]) rfl rfl (CsE.cons (c1 := [(Value.int .i64 (((List.length y_0.Names) : Nat) : Int))]) rfl rfl (CsE.cons (c1 := [(Value.int .i64 (((List.length y_0.Types) : Nat) : Int))]) rfl rfl (CsE.cons (c1 := [(Value.int .i64 (((List.length y_0.Args) : Nat) : Int))]) rfl rfl (CsE.cons (c1 := [(Value.int .i64 (((List.length y_0.Arms) : Nat) : Int))]) rfl rfl CsE.nil))))))) rfl
    have O188 := O181.nm
    obtain ⟨m189, u190, s195, ⟨⟨r193, k194⟩, _⟩, B191, C192⟩ := O188.lend0 [2]
    replace r193 : Rd 1 (eInt .i64) m189 (some ⟨(Array.size h173), 0, none⟩) ([y_0.Kind, y_0.Num, (((List.length y_0.Names) : Nat) : Int), (((List.length y_0.Types) : Nat) : Int), (((List.length y_0.Args) : Nat) : Int), (((List.length y_0.Arms) : Nat) : Int)] : List Int) := r193
    replace k194 : List.length ([y_0.Kind, y_0.Num, (((List.length y_0.Names) : Nat) : Int), (((List.length y_0.Types) : Nat) : Int), (((List.length y_0.Args) : Nat) : Int), (((List.length y_0.Arms) : Nat) : Int)] : List Int) ≤ 6 := k194
    refine (roadref2_nums.walk (Hold.start (W := No) s195) rfl k194 r193 (TBg.sub tab u190) g36).mono ?_
    rintro _ h184 ⟨m185, Q186, rfl⟩
    have O196 := Hold.nm (C192 Q186 vfs_nil)
    refine ⟨_, rfl, ?_⟩
    refine ⟨Q186.S.ext, ?_⟩
    have O197 := O196.rowE (l := ([y_0.Text] : List ByteArray)) 1 rfl tell_str (show CsE _ _ _ _ _ from (CsE.cons (c1 := [(Value.string y_0.Text)]) rfl rfl CsE.nil)) rfl
    have O204 := O197.nm
    obtain ⟨m205, u206, s211, ⟨⟨r209, k210⟩, _⟩, B207, C208⟩ := O204.lend0 [1]
    replace r209 : Rd 1 eStr m205 (some ⟨(Array.size h1), 0, none⟩) ([y_0.Text] : List ByteArray) := r209
    replace k210 : List.length ([y_0.Text] : List ByteArray) ≤ 1 := k210
    refine (roadref2_texts.walk (Hold.start (W := No) s211) rfl k210 r209 (TBg.sub tab u206) g56).mono ?_
    rintro _ h200 ⟨m201, Q202, rfl⟩
    have O212 := Hold.nm (C208 Q202 vfs_nil)
    refine ⟨_, rfl, ?_⟩
    refine ⟨Q202.S.ext, ?_⟩
    refine ⟨g70, ?_⟩
    refine (roadref2_texts.walk (Hold.start (W := No) O212.s) rfl k28 r29 tab g72).mono ?_
    rintro _ h216 ⟨m217, Q218, rfl⟩
    have O220 := Hold.nm (O212.retC Q218 vfs_nil)
    refine ⟨_, rfl, ?_⟩
    obtain ⟨g221, e⟩ := guard_e e
    refine ⟨g221, ?_⟩
    exact (ih _ _ e) _ _ _ _ _ _ _ (O220.pick [0]).nm e_0 tab
set_option maxRecDepth 100000 in
theorem roadref2_ExprMark_k.step_j0 (go : (p : roadref2_ExprMark_k.Pt) → Option (ByteArray)) (ih : ∀ p r, go p = some r → roadref2_ExprMark_k.I p r) (y_1 : T_api_Expr) (s_3 : ByteArray) (r : ByteArray) (e : roadref2_ExprMark_k.body go (.j0 y_1 s_3) = some r) : roadref2_ExprMark_k.I (.j0 y_1 s_3) r := by
  unfold roadref2_ExprMark_k.body at e
  intro W h0 m0 h m bk_1 cs_1 O e_1 tab
  refine f26.j0_in ?_
  unfold f26.j0T
  obtain ⟨A1, c2, q3, k4, r5⟩ := T_api_Expr.g4 e_1
  refine ⟨_, ldk (k := 4) (Sub.refl _) (O.all 0 rfl) q3, _, _, _, rfl, ?_⟩
  exact (ih _ _ e) _ _ _ _ _ _ _ _ _ _ (O.pick [0]).nm e_1 rfl k4 r5 tab
set_option maxRecDepth 100000 in
theorem roadref2_ExprMark_k.step_l0 (go : (p : roadref2_ExprMark_k.Pt) → Option (ByteArray)) (ih : ∀ p r, go p = some r → roadref2_ExprMark_k.I p r) (y_1 : T_api_Expr) (s_3 : ByteArray) (a_38 : List T_api_Type) (x_39 : Int) (x_40 : Int) (r : ByteArray) (e : roadref2_ExprMark_k.body go (.l0 y_1 s_3 a_38 x_39 x_40) = some r) : roadref2_ExprMark_k.I (.l0 y_1 s_3 a_38 x_39 x_40) r := by
  unfold roadref2_ExprMark_k.body at e
  intro W h0 m0 h m bk_1 cs_1 A_38 n_38 c_38 O e_1 ne_38 k_38 r_38 tab
  subst ne_38
  refine f26.l0_in ?_
  unfold f26.l0T
  refine split_dec_e e (fun c27 e => ?_) (fun c27 e => ?_)
  · obtain ⟨y1, g2, e⟩ := bind_e e
    refine r_38.addr rfl g2 fun a3 cs4 ha5 hc6 he7 => ?_
    refine ⟨_, ldAn O.s hc6 rfl, ?_⟩
    refine O.new fun h8 x9 O10 => ?_
    refine ⟨_, rfl, (T_api_Type.T.len _ _ _ he7), ?_⟩
    refine O10.stA 1 rfl (T_api_Type.T.len _ _ _ he7) (T_api_Type.T.flat _ _ _ he7) fun h12 O13 => ?_
    refine ⟨_, ldAn (Sub.refl _) (O13.all 1 rfl) (T_api_Type.T.len _ _ _ he7), ?_⟩
    obtain ⟨y14, g15, e⟩ := bind_e e
    refine (roadref2_TypeMark.walk (Hold.start (W := No) O13.s) he7 tab g15).mono ?_
    rintro _ h16 ⟨m17, Q18, rfl⟩
    have O20 := Hold.nm (O13.retC Q18 vfs_nil)
    refine ⟨_, rfl, ?_⟩
    obtain ⟨g21, e⟩ := guard_e e
    refine ⟨g21, ?_⟩
    exact (ih _ _ e) _ _ _ _ _ _ _ _ _ _ (O20.pick [0]).nm e_1 rfl k_38 r_38 tab
  · obtain ⟨A22, c23, q24, k25, r26⟩ := T_api_Expr.g5 e_1
    refine ⟨_, ldk (k := 5) (Sub.refl _) (O.all 0 rfl) q24, _, _, _, rfl, ?_⟩
    exact (ih _ _ e) _ _ _ _ _ _ _ _ _ _ (O.pick [0]).nm e_1 rfl k25 r26 tab
set_option maxRecDepth 100000 in
theorem roadref2_ExprMark_k.step_l1 (go : (p : roadref2_ExprMark_k.Pt) → Option (ByteArray)) (ih : ∀ p r, go p = some r → roadref2_ExprMark_k.I p r) (y_1 : T_api_Expr) (s_3 : ByteArray) (a_50 : List T_api_Expr) (x_51 : Int) (x_52 : Int) (r : ByteArray) (e : roadref2_ExprMark_k.body go (.l1 y_1 s_3 a_50 x_51 x_52) = some r) : roadref2_ExprMark_k.I (.l1 y_1 s_3 a_50 x_51 x_52) r := by
  unfold roadref2_ExprMark_k.body at e
  intro W h0 m0 h m bk_1 cs_1 A_50 n_50 c_50 O e_1 ne_50 k_50 r_50 tab
  subst ne_50
  refine f26.l1_in ?_
  unfold f26.l1T
  refine split_dec_e e (fun c27 e => ?_) (fun c27 e => ?_)
  · obtain ⟨y1, g2, e⟩ := bind_e e
    refine r_50.addr rfl g2 fun a3 cs4 ha5 hc6 he7 => ?_
    refine ⟨_, ldAn O.s hc6 rfl, ?_⟩
    refine O.new fun h8 x9 O10 => ?_
    refine ⟨_, rfl, (T_api_Expr.T.len _ _ _ he7), ?_⟩
    refine O10.stA 1 rfl (T_api_Expr.T.len _ _ _ he7) (T_api_Expr.T.flat _ _ _ he7) fun h12 O13 => ?_
    refine ⟨_, ldAn (Sub.refl _) (O13.all 1 rfl) (T_api_Expr.T.len _ _ _ he7), ?_⟩
    obtain ⟨y14, g15, e⟩ := bind_e e
    refine ((ih _ _ g15) _ _ _ _ (Hold.start (W := No) O13.s) he7 tab).mono ?_
    rintro _ h16 ⟨m17, Q18, rfl⟩
    have O20 := Hold.nm (O13.retC Q18 vfs_nil)
    refine ⟨_, rfl, ?_⟩
    obtain ⟨g21, e⟩ := guard_e e
    refine ⟨g21, ?_⟩
    exact (ih _ _ e) _ _ _ _ _ _ _ _ _ _ (O20.pick [0]).nm e_1 rfl k_50 r_50 tab
  · obtain ⟨A22, c23, q24, k25, r26⟩ := T_api_Expr.g6 e_1
    refine ⟨_, ldk (k := 6) (Sub.refl _) (O.all 0 rfl) q24, _, _, _, rfl, ?_⟩
    exact (ih _ _ e) _ _ _ _ _ _ _ _ (O.pick []).nm rfl k25 r26 tab
set_option maxHeartbeats 4000000 in
set_option maxRecDepth 100000 in
theorem roadref2_ExprMark_k.step_l2 (go : (p : roadref2_ExprMark_k.Pt) → Option (ByteArray)) (ih : ∀ p r, go p = some r → roadref2_ExprMark_k.I p r) (s_3 : ByteArray) (a_62 : List T_api_Arm) (x_63 : Int) (x_64 : Int) (r : ByteArray) (e : roadref2_ExprMark_k.body go (.l2 s_3 a_62 x_63 x_64) = some r) : roadref2_ExprMark_k.I (.l2 s_3 a_62 x_63 x_64) r := by
  unfold roadref2_ExprMark_k.body at e
  intro W h0 m0 h m A_62 n_62 c_62 O ne_62 k_62 r_62 tab
  subst ne_62
  refine f26.l2_in ?_
  unfold f26.l2T
  refine split_dec_e e (fun c62 e => ?_) (fun c62 e => ?_)
  · obtain ⟨y1, g2, e⟩ := bind_e e
    refine r_62.addr rfl g2 fun a3 cs4 ha5 hc6 he7 => ?_
    refine ⟨_, ldAn O.s hc6 rfl, ?_⟩
    refine O.new fun h8 x9 O10 => ?_
    refine ⟨_, rfl, (T_api_Arm.T.len _ _ _ he7), ?_⟩
    refine O10.stA 0 rfl (T_api_Arm.T.len _ _ _ he7) (T_api_Arm.T.flat _ _ _ he7) fun h12 O13 => ?_
    refine ⟨_, ldA0n (Sub.refl _) (O13.all 0 rfl) 4 (le_len (T_api_Arm.T.len _ _ _ he7) (by decide)), ?_⟩
    obtain ⟨y14, g15, e⟩ := bind_e e
    obtain ⟨y21, g22, e⟩ := bind_e e
    refine ⟨?_, ?_⟩
    · refine (roadref2_PatMark.walk (Hold.start (W := No) O13.s) (T_api_Arm.u0_102 he7) tab g15).mono ?_
      rintro _ h32 ⟨m33, Q34, rfl⟩
      have O36 := Hold.nm (O13.retC Q34 vfs_nil)
      refine ⟨_, rfl, ?_⟩
      refine ⟨_, ldAkn (Sub.refl _) (O36.all 0 rfl) 4 8 (le_len (T_api_Arm.T.len _ _ _ he7) (by decide)), ?_⟩
      refine ⟨Ext.refl _, ?_⟩
      refine ((ih _ _ g22) _ _ _ _ (Hold.start (W := No) O36.s) (T_api_Arm.u4_59 he7) tab).mono ?_
      rintro _ h39 ⟨m40, Q41, rfl⟩
      have O43 := Hold.nm (O36.retC Q41 vfs_nil)
      refine ⟨_, rfl, ?_⟩
      obtain ⟨g44, e⟩ := guard_e e
      refine ⟨g44, ?_⟩
      obtain ⟨g45, e⟩ := guard_e e
      refine ⟨g45, ?_⟩
      exact (ih _ _ e) _ _ _ _ _ _ _ _ (O43.pick []).nm rfl k_62 r_62 tab
    · refine ⟨_, ldAkn (Sub.refl _) (O13.all 0 rfl) 4 8 (le_len (T_api_Arm.T.len _ _ _ he7) (by decide)), ?_⟩
      refine ⟨Ext.refl _, ?_⟩
      refine (roadref2_PatMark.walk (Hold.start (W := No) O13.s) (T_api_Arm.u0_102 he7) tab g15).mono ?_
      rintro _ h48 ⟨m49, Q50, rfl⟩
      have O52 := Hold.nm (O13.retC Q50 vfs_nil)
      refine ⟨_, rfl, ?_⟩
      refine ((ih _ _ g22) _ _ _ _ (Hold.start (W := No) O52.s) (T_api_Arm.u4_59 he7) tab).mono ?_
      rintro _ h55 ⟨m56, Q57, rfl⟩
      have O59 := Hold.nm (O52.retC Q57 vfs_nil)
      refine ⟨_, rfl, ?_⟩
      obtain ⟨g60, e⟩ := guard_e e
      refine ⟨g60, ?_⟩
      obtain ⟨g61, e⟩ := guard_e e
      refine ⟨g61, ?_⟩
      exact (ih _ _ e) _ _ _ _ _ _ _ _ (O59.pick []).nm rfl k_62 r_62 tab
  · cases e
    exact ⟨_, O.pick [], rfl⟩
theorem roadref2_ExprMark_k.all {p : roadref2_ExprMark_k.Pt} {r : (ByteArray)} (e : roadref2_ExprMark_k.go p = some r) : roadref2_ExprMark_k.I p r := fixF_ind (β := fun _ => (ByteArray)) roadref2_ExprMark_k.mono (I := roadref2_ExprMark_k.I) (fun go ih p r e => match p with
  | .f y_0 => roadref2_ExprMark_k.step_f go ih y_0 r e
  | .j0 y_1 s_3 => roadref2_ExprMark_k.step_j0 go ih y_1 s_3 r e
  | .l0 y_1 s_3 a_38 x_39 x_40 => roadref2_ExprMark_k.step_l0 go ih y_1 s_3 a_38 x_39 x_40 r e
  | .l1 y_1 s_3 a_50 x_51 x_52 => roadref2_ExprMark_k.step_l1 go ih y_1 s_3 a_50 x_51 x_52 r e
  | .l2 s_3 a_62 x_63 x_64 => roadref2_ExprMark_k.step_l2 go ih s_3 a_62 x_63 x_64 r e
  ) e
theorem roadref2_ExprMark.walk {W : Nat → Prop} {h m : Heap} {cs_0 : List Value} {y_0 : T_api_Expr} (O : Hold W h m h m []) (e_0 : T_api_Expr.E m y_0 cs_0) (tab : TB m) {r : ByteArray} (e : roadref2_ExprMark y_0 = some r) : Run Tryd.prog 26 #[Value.agg cs_0.toArray] h (roadref2_ExprMark.post W h m r) := roadref2_ExprMark_k.all (p := .f y_0) e W h m cs_0 O e_0 tab
def roadref2_funcsMark.post (W : Nat → Prop) (h0 m0 : Heap) (r : ByteArray) (v : Value) (h : Heap) : Prop := ∃ m , Hold W h0 m0 h m [] ∧ v = .string r
inductive roadref2_funcsMark.l0_k.Pt where
  | l0 (s_3 : ByteArray) (a_10 : List T_api_Func) (x_11 : Int) (x_12 : Int)
noncomputable def roadref2_funcsMark.l0_k.body (go : (p : roadref2_funcsMark.l0_k.Pt) → Option (ByteArray)) : (p : roadref2_funcsMark.l0_k.Pt) → Option (ByteArray)
  | .l0 s_3 a_10 x_11 x_12 => if x_12 < x_11 then (Option.bind (gi a_10 x_12) fun y1 => Option.bind (roadref2_texts ([y1.Name] : List ByteArray)) fun y34 => Option.bind (roadref2_namesMark y1.Params) fun y49 => if ByteArray.size y34 + ByteArray.size y49 ≤ 9223372036854775807 then (Option.bind (roadref2_namesMark y1.Names) fun y57 => if ByteArray.size (y34 ++ y49) + ByteArray.size y57 ≤ 9223372036854775807 then (Option.bind (roadref2_typesMark y1.Types) fun y65 => if ByteArray.size ((y34 ++ y49) ++ y57) + ByteArray.size y65 ≤ 9223372036854775807 then (Option.bind (roadref2_TypeMark y1.Out) fun y73 => if ByteArray.size (((y34 ++ y49) ++ y57) ++ y65) + ByteArray.size y73 ≤ 9223372036854775807 then (Option.bind (roadref2_ExprMark y1.Body) fun y81 => if ByteArray.size ((((y34 ++ y49) ++ y57) ++ y65) ++ y73) + ByteArray.size y81 ≤ 9223372036854775807 then (if ByteArray.size s_3 + ByteArray.size (((((y34 ++ y49) ++ y57) ++ y65) ++ y73) ++ y81) ≤ 9223372036854775807 then ((go (.l0 (s_3 ++ (((((y34 ++ y49) ++ y57) ++ y65) ++ y73) ++ y81)) a_10 x_11 (IntKind.wrap .i64 (x_12 + (1 : Int)))))) else none) else none) else none) else none) else none) else none) else (some (s_3))
theorem roadref2_funcsMark.l0_k.mono : MonoF (β := fun _ => (ByteArray)) roadref2_funcsMark.l0_k.body := fun f g hfg p => match p with
  | .l0 s_3 a_10 x_11 x_12 => LeO.ite (LeO.bind (LeO.refl _) fun y1 => LeO.bind (LeO.refl _) fun y34 => LeO.bind (LeO.refl _) fun y49 => LeO.ite (LeO.bind (LeO.refl _) fun y57 => LeO.ite (LeO.bind (LeO.refl _) fun y65 => LeO.ite (LeO.bind (LeO.refl _) fun y73 => LeO.ite (LeO.bind (LeO.refl _) fun y81 => LeO.ite (LeO.ite ((hfg _)) (LeO.refl _)) (LeO.refl _)) (LeO.refl _)) (LeO.refl _)) (LeO.refl _)) (LeO.refl _)) (LeO.refl _)
noncomputable def roadref2_funcsMark.l0_k.go (p : roadref2_funcsMark.l0_k.Pt) : Option (ByteArray) := fixF (β := fun _ => (ByteArray)) roadref2_funcsMark.l0_k.body p
noncomputable def roadref2_funcsMark.l0 (s_3 : ByteArray) (a_10 : List T_api_Func) (x_11 : Int) (x_12 : Int) : Option (ByteArray) := roadref2_funcsMark.l0_k.go (.l0 s_3 a_10 x_11 x_12)
theorem roadref2_funcsMark.l0_eq (s_3 : ByteArray) (a_10 : List T_api_Func) (x_11 : Int) (x_12 : Int) : roadref2_funcsMark.l0 s_3 a_10 x_11 x_12 = if x_12 < x_11 then (Option.bind (gi a_10 x_12) fun y1 => Option.bind (roadref2_texts ([y1.Name] : List ByteArray)) fun y34 => Option.bind (roadref2_namesMark y1.Params) fun y49 => if ByteArray.size y34 + ByteArray.size y49 ≤ 9223372036854775807 then (Option.bind (roadref2_namesMark y1.Names) fun y57 => if ByteArray.size (y34 ++ y49) + ByteArray.size y57 ≤ 9223372036854775807 then (Option.bind (roadref2_typesMark y1.Types) fun y65 => if ByteArray.size ((y34 ++ y49) ++ y57) + ByteArray.size y65 ≤ 9223372036854775807 then (Option.bind (roadref2_TypeMark y1.Out) fun y73 => if ByteArray.size (((y34 ++ y49) ++ y57) ++ y65) + ByteArray.size y73 ≤ 9223372036854775807 then (Option.bind (roadref2_ExprMark y1.Body) fun y81 => if ByteArray.size ((((y34 ++ y49) ++ y57) ++ y65) ++ y73) + ByteArray.size y81 ≤ 9223372036854775807 then (if ByteArray.size s_3 + ByteArray.size (((((y34 ++ y49) ++ y57) ++ y65) ++ y73) ++ y81) ≤ 9223372036854775807 then ((roadref2_funcsMark.l0 (s_3 ++ (((((y34 ++ y49) ++ y57) ++ y65) ++ y73) ++ y81)) a_10 x_11 (IntKind.wrap .i64 (x_12 + (1 : Int))))) else none) else none) else none) else none) else none) else none) else (some (s_3)) := fixF_eq roadref2_funcsMark.l0_k.mono _
def roadref2_funcsMark.l0_k.I : (p : roadref2_funcsMark.l0_k.Pt) → (ByteArray) → Prop
  | .l0 s_3 a_10 x_11 x_12, r => ∀ (W : Nat → Prop) (h0 m0 h m : Heap) (A_10 : Option Addr) (n_10 c_10 : Nat) (O : Hold W h0 m0 h m []) (ne_10 : n_10 = List.length a_10) (k_10 : List.length a_10 ≤ c_10) (r_10 : Rd 15 T_api_Func.E m A_10 a_10) (tab : TB m), f24.l0 (roadref2_funcsMark.post W h0 m0 r) s_3 A_10 n_10 c_10 x_11 x_12 h
set_option maxHeartbeats 4000000 in
set_option maxRecDepth 100000 in
theorem roadref2_funcsMark.l0_k.step_l0 (go : (p : roadref2_funcsMark.l0_k.Pt) → Option (ByteArray)) (ih : ∀ p r, go p = some r → roadref2_funcsMark.l0_k.I p r) (s_3 : ByteArray) (a_10 : List T_api_Func) (x_11 : Int) (x_12 : Int) (r : ByteArray) (e : roadref2_funcsMark.l0_k.body go (.l0 s_3 a_10 x_11 x_12) = some r) : roadref2_funcsMark.l0_k.I (.l0 s_3 a_10 x_11 x_12) r := by
  unfold roadref2_funcsMark.l0_k.body at e
  intro W h0 m0 h m A_10 n_10 c_10 O ne_10 k_10 r_10 tab
  subst ne_10
  refine f24.l0_in ?_
  unfold f24.l0T
  refine split_dec_e e (fun c90 e => ?_) (fun c90 e => ?_)
  · obtain ⟨y1, g2, e⟩ := bind_e e
    refine r_10.addr rfl g2 fun a3 cs4 ha5 hc6 he7 => ?_
    refine ⟨_, ldAn O.s hc6 rfl, ?_⟩
    refine O.new fun h8 x9 O10 => ?_
    refine ⟨_, rfl, (T_api_Func.T.len _ _ _ he7), ?_⟩
    refine O10.stA 0 rfl (T_api_Func.T.len _ _ _ he7) (T_api_Func.T.flat _ _ _ he7) fun h12 O13 => ?_
    refine ⟨_, ld0 (Sub.refl _) (O13.all 0 rfl) (T_api_Func.g0 he7), _, rfl, ?_⟩
    obtain ⟨A14, c15, q16, k17, r18⟩ := T_api_Func.g1 he7
    refine ⟨_, ldk (k := 1) (Sub.refl _) (O13.all 0 rfl) q16, _, _, _, rfl, ?_⟩
    obtain ⟨A19, c20, q21, k22, r23⟩ := T_api_Func.g2 he7
    refine ⟨_, ldk (k := 2) (Sub.refl _) (O13.all 0 rfl) q21, _, _, _, rfl, ?_⟩
    obtain ⟨A24, c25, q26, k27, r28⟩ := T_api_Func.g3 he7
    refine ⟨_, ldk (k := 3) (Sub.refl _) (O13.all 0 rfl) q26, _, _, _, rfl, ?_⟩
    refine ⟨_, ldAkn (Sub.refl _) (O13.all 0 rfl) 4 3 (le_len (T_api_Func.T.len _ _ _ he7) (by decide)), ?_⟩
    refine ⟨_, ldAkn (Sub.refl _) (O13.all 0 rfl) 7 8 (le_len (T_api_Func.T.len _ _ _ he7) (by decide)), ?_⟩
    refine O13.new fun h29 x30 O31 => ?_
    refine ⟨x30, ?_⟩
    obtain ⟨y34, g35, e⟩ := bind_e e
    have O33 := O31.rowE (l := ([y1.Name] : List ByteArray)) 1 rfl tell_str (show CsE _ _ _ _ _ from (CsE.cons (c1 := [(Value.string y1.Name)]) rfl rfl CsE.nil)) rfl
    have O40 := O33.nm
    obtain ⟨m41, u42, s47, ⟨⟨r45, k46⟩, _⟩, B43, C44⟩ := O40.lend0 [1]
    replace r45 : Rd 1 eStr m41 (some ⟨(Array.size h12), 0, none⟩) ([y1.Name] : List ByteArray) := r45
    replace k46 : List.length ([y1.Name] : List ByteArray) ≤ 1 := k46
    refine (roadref2_texts.walk (Hold.start (W := No) s47) rfl k46 r45 (TBg.sub tab u42) g35).mono ?_
    rintro _ h36 ⟨m37, Q38, rfl⟩
    have O48 := Hold.nm (C44 Q38 vfs_nil)
    refine ⟨_, rfl, ?_⟩
    refine ⟨Q38.S.ext, ?_⟩
    obtain ⟨y49, g50, e⟩ := bind_e e
    refine (roadref2_namesMark.walk (Hold.start (W := No) O48.s) rfl k17 r18 tab g50).mono ?_
    rintro _ h51 ⟨m52, Q53, rfl⟩
    have O55 := Hold.nm (O48.retC Q53 vfs_nil)
    refine ⟨_, rfl, ?_⟩
    refine ⟨Q53.S.ext, ?_⟩
    obtain ⟨g56, e⟩ := guard_e e
    refine ⟨g56, ?_⟩
    obtain ⟨y57, g58, e⟩ := bind_e e
    refine (roadref2_namesMark.walk (Hold.start (W := No) O55.s) rfl k22 r23 tab g58).mono ?_
    rintro _ h59 ⟨m60, Q61, rfl⟩
    have O63 := Hold.nm (O55.retC Q61 vfs_nil)
    refine ⟨_, rfl, ?_⟩
    refine ⟨Q61.S.ext, ?_⟩
    obtain ⟨g64, e⟩ := guard_e e
    refine ⟨g64, ?_⟩
    obtain ⟨y65, g66, e⟩ := bind_e e
    refine (roadref2_typesMark.walk (Hold.start (W := No) O63.s) rfl k27 r28 tab g66).mono ?_
    rintro _ h67 ⟨m68, Q69, rfl⟩
    have O71 := Hold.nm (O63.retC Q69 vfs_nil)
    refine ⟨_, rfl, ?_⟩
    refine ⟨Q69.S.ext, ?_⟩
    obtain ⟨g72, e⟩ := guard_e e
    refine ⟨g72, ?_⟩
    obtain ⟨y73, g74, e⟩ := bind_e e
    refine (roadref2_TypeMark.walk (Hold.start (W := No) O71.s) (T_api_Func.u4_55 he7) tab g74).mono ?_
    rintro _ h75 ⟨m76, Q77, rfl⟩
    have O79 := Hold.nm (O71.retC Q77 vfs_nil)
    refine ⟨_, rfl, ?_⟩
    refine ⟨Q77.S.ext, ?_⟩
    obtain ⟨g80, e⟩ := guard_e e
    refine ⟨g80, ?_⟩
    obtain ⟨y81, g82, e⟩ := bind_e e
    refine (roadref2_ExprMark.walk (Hold.start (W := No) O79.s) (T_api_Func.u7_59 he7) tab g82).mono ?_
    rintro _ h83 ⟨m84, Q85, rfl⟩
    have O87 := Hold.nm (O79.retC Q85 vfs_nil)
    refine ⟨_, rfl, ?_⟩
    obtain ⟨g88, e⟩ := guard_e e
    refine ⟨g88, ?_⟩
    obtain ⟨g89, e⟩ := guard_e e
    refine ⟨g89, ?_⟩
    exact (ih _ _ e) _ _ _ _ _ _ _ _ (O87.pick []).nm rfl k_10 r_10 tab
  · cases e
    exact ⟨_, O.pick [], rfl⟩
theorem roadref2_funcsMark.l0_k.all {p : roadref2_funcsMark.l0_k.Pt} {r : (ByteArray)} (e : roadref2_funcsMark.l0_k.go p = some r) : roadref2_funcsMark.l0_k.I p r := fixF_ind (β := fun _ => (ByteArray)) roadref2_funcsMark.l0_k.mono (I := roadref2_funcsMark.l0_k.I) (fun go ih p r e => match p with
  | .l0 s_3 a_10 x_11 x_12 => roadref2_funcsMark.l0_k.step_l0 go ih s_3 a_10 x_11 x_12 r e
  ) e
theorem roadref2_funcsMark.l0.walk {W : Nat → Prop} {h0 m0 h m : Heap} {A_10 : Option Addr} {n_10 c_10 : Nat} {s_3 : ByteArray} {a_10 : List T_api_Func} {x_11 : Int} {x_12 : Int} (O : Hold W h0 m0 h m []) (ne_10 : n_10 = List.length a_10) (k_10 : List.length a_10 ≤ c_10) (r_10 : Rd 15 T_api_Func.E m A_10 a_10) (tab : TB m) {r : ByteArray} (e : roadref2_funcsMark.l0 s_3 a_10 x_11 x_12 = some r) : f24.l0 (roadref2_funcsMark.post W h0 m0 r) s_3 A_10 n_10 c_10 x_11 x_12 h := roadref2_funcsMark.l0_k.all (p := .l0 s_3 a_10 x_11 x_12) e W h0 m0 h m A_10 n_10 c_10 O ne_10 k_10 r_10 tab
noncomputable def roadref2_funcsMark (a_0 : List T_api_Func) : Option (ByteArray) :=
  Option.bind (roadref2_nums ([(((List.length a_0) : Nat) : Int)] : List Int)) fun y6 => (roadref2_funcsMark.l0 y6 a_0 (((List.length a_0) : Nat) : Int) (0 : Int))
set_option maxRecDepth 100000 in
theorem roadref2_funcsMark.walk {W : Nat → Prop} {h m : Heap} {A_0 : Option Addr} {n_0 c_0 : Nat} {a_0 : List T_api_Func} (O : Hold W h m h m []) (ne_0 : n_0 = List.length a_0) (k_0 : List.length a_0 ≤ c_0) (r_0 : Rd 15 T_api_Func.E m A_0 a_0) (tab : TB m) {r : ByteArray} (e : roadref2_funcsMark a_0 = some r) : Run Tryd.prog 24 #[Value.slice A_0 n_0 c_0] h (roadref2_funcsMark.post W h m r) := by
  unfold roadref2_funcsMark at e
  subst ne_0
  refine f24.run ?_
  unfold f24.runT
  refine O.new fun h1 x2 O3 => ?_
  obtain ⟨y6, g7, e⟩ := bind_e e
  have O5 := O3.rowE (l := ([(((List.length a_0) : Nat) : Int)] : List Int)) 0 rfl (tell_int .i64) (show CsE _ _ _ _ _ from (CsE.cons (c1 := [(Value.int .i64 (((List.length a_0) : Nat) : Int))]) rfl rfl CsE.nil)) rfl
  have O12 := O5.nm
  obtain ⟨m13, u14, s19, ⟨⟨r17, k18⟩, _⟩, B15, C16⟩ := O12.lend0 [0]
  replace r17 : Rd 1 (eInt .i64) m13 (some ⟨(Array.size h), 0, none⟩) ([(((List.length a_0) : Nat) : Int)] : List Int) := r17
  replace k18 : List.length ([(((List.length a_0) : Nat) : Int)] : List Int) ≤ 1 := k18
  refine (roadref2_nums.walk (Hold.start (W := No) s19) rfl k18 r17 (TBg.sub tab u14) g7).mono ?_
  rintro _ h8 ⟨m9, Q10, rfl⟩
  have O20 := Hold.nm (C16 Q10 vfs_nil)
  refine ⟨_, rfl, ?_⟩
  exact roadref2_funcsMark.l0.walk (O20.pick []).nm rfl k_0 r_0 tab e
end Go.Proofs.YtnlocljmalhddaaDoor.Fw

end
