/- How big data are: a measure of what was read, carried over to what it tells. -/
import Derived.Test.YtklobcelbpjjcacHwW
namespace Go.Hw
open Go Go.RowKit
/-- A measure of a reading that counts every part. -/
structure Measure {H : Type} (bk : DataW H → Nat) : Prop where
  pos : ∀ d, 1 ≤ bk d
  str : ∀ b, b.length + 1 ≤ bk (.lit (.string b))
  slice : ∀ e s, (e.map bk).sum + 1 ≤ bk (.slice e s)
  agg : ∀ ps, (ps.map bk).sum + 1 ≤ bk (.agg ps)
section
variable {H : Type} {bk : DataW H → Nat} {enc : TypeId × Value → H} {P : Program} {W : World} {N : Nat}
/-- Whatever is told by E of a reading (not deeper than N) is not bigger than the reading. -/
def KT (N : Nat) {α : Type} (bk : DataW H → Nat) (enc : TypeId × Value → H) (P : Program) (W : World) (t : TypeId) (E : Heap → α → List Value → Prop) (K : α → Nat) : Prop :=
  ∀ (fuel : Nat), fuel < N → ∀ (cs : List Value) (x : DataW H × List MemPlace), DataW.trod enc P W 0 (fun _ => true) true fuel t cs = some x → ∀ a, E W.heap a cs → K a ≤ bk x.1
theorem kt_one (M : Measure bk) {α : Type} {t : TypeId} {E : Heap → α → List Value → Prop} : KT N bk enc P W t E (fun _ => 1) := fun _ _ _ _ _ _ _ => M.pos _
theorem kt_str (M : Measure bk) {t : TypeId} (hu : P.underlying t = some .string) : KT N bk enc P W t eStr (fun s => s.size + 1) := by
  intro fuel _ cs x h a ha
  obtain ⟨s, h1, h2, _⟩ := DataW.trod_string hu h
  rw [h2]
  have e : cs = [.string a] := ha
  rw [e] at h1
  cases h1
  have := M.str a.data.toList
  simpa using this
theorem kt_map {α β : Type} {t : TypeId} {E : Heap → α → List Value → Prop} {F : Heap → β → List Value → Prop} {K : α → Nat} {L : β → Nat} (he : KT N bk enc P W t E K) (hm : ∀ b cs, F W.heap b cs → ∃ a, E W.heap a cs ∧ L b ≤ K a) : KT N bk enc P W t F L :=
  fun fuel hf cs x h b hb => let ⟨a, ha, hl⟩ := hm b cs hb; Nat.le_trans hl (he fuel hf cs x h a ha)
theorem kt_down {α : Type} {t : TypeId} {E : Heap → α → List Value → Prop} {K : α → Nat} (he : KT (N + 1) bk enc P W t E K) : KT N bk enc P W t E K := fun fuel hf => he fuel (by omega)
theorem kt_rec {α : Type} {t : TypeId} {E : Heap → α → List Value → Prop} {K : α → Nat} (step : ∀ N, KT N bk enc P W t E K → KT (N + 1) bk enc P W t E K) : ∀ N, KT N bk enc P W t E K := by
  intro N
  induction N with
  | zero => intro fuel hf; omega
  | succ N ih => exact step N ih
theorem sum_map_le {α β : Type} {f : α → Nat} {g : β → Nat} : ∀ {l : List α} {m : List β}, l.length ≤ m.length → (∀ i (h1 : i < l.length) (h2 : i < m.length), f l[i] ≤ g m[i]) → (l.map f).sum ≤ (m.map g).sum := by
  intro l
  induction l with
  | nil => intro m _ _; simp
  | cons x l ih =>
    intro m hl h
    cases m with
    | nil => simp at hl
    | cons y m =>
      have h0 := h 0 (by simp) (by simp)
      have h1 := ih (m := m) (by simpa using hl) (fun i h1 h2 => h (i + 1) (Nat.succ_lt_succ h1) (Nat.succ_lt_succ h2))
      simp only [List.map_cons, List.sum_cons]
      simp only [List.getElem_cons_zero] at h0
      omega
theorem kt_slice (M : Measure bk) {α : Type} {t e : TypeId} {sz : Nat} {E : Heap → α → List Value → Prop} {K : α → Nat} (hu : P.underlying t = some (.slice e)) (hc : P.cellsOf e = sz) (he : KT N bk enc P W e E K) :
    KT N bk enc P W t (eRow sz E) (fun l => (l.map K).sum + 1) := by
  intro fuel hf cs x h l hl
  obtain ⟨A, c, hcs, hlc, hr⟩ := hl
  rcases DataW.trod_slice hu h with ⟨h1, h2⟩ | ⟨a, len, cap, elems, rest, n, hfn, h1, h2, _, hl', hm, hlen, hel, _, _⟩
  · rw [hcs] at h1
    simp only [List.cons.injEq, Value.slice.injEq, and_true] at h1
    have hl0 : l = [] := List.length_eq_zero_iff.1 h1.2.1
    subst hl0
    have := M.pos x.1
    simpa using this
  · rw [hcs] at h1
    simp only [List.cons.injEq, Value.slice.injEq, and_true] at h1
    obtain ⟨rfl, rfl, rfl⟩ := h1
    rw [h2]
    have hs := M.slice (elems.map (·.1)) (rest.map (·.1))
    have : (l.map K).sum ≤ ((elems.map (·.1)).map bk).sum := by
      refine sum_map_le (by simp [hlen]) (fun i i1 i2 => ?_)
      have h5 := hel i i1
      have hlt : i < elems.length := by omega
      rw [List.getElem?_eq_getElem hlt] at h5
      obtain ⟨cs', h6, h7⟩ := Option.bind_eq_some_iff.1 h5
      obtain ⟨a', ds, e1, e2, e3⟩ := hr i i1
      cases e1
      rw [hc] at h6
      have := cells_of h6
      rw [this] at e2
      cases e2
      have := he _ (by omega) _ _ h7 _ e3
      simpa using this
    exact Nat.le_trans (Nat.succ_le_succ this) hs
def KTF (N : Nat) {α : Type} (bk : DataW H → Nat) (enc : TypeId × Value → H) (P : Program) (W : World) (T o : Nat) (fs : List (TypeId × Nat)) (F : Heap → α → List Value → Prop) (K : α → Nat) : Prop :=
  ∀ (n : Nat), n < N → ∀ (cs : List Value) (xs : List (DataW H × List MemPlace)), cs.length = T → xs.length = fs.length → (∀ (i : Nat) (f : TypeId × Nat), fs[i]? = some f → DataW.trod enc P W 0 (fun _ => true) true n f.1 ((cs.drop f.2).take (P.cellsOf f.1)) = xs[i]?) →
    ∀ b, F W.heap b (cs.drop o) → K b ≤ ((xs.map (·.1)).map bk).sum
theorem ktf_nil {T : Nat} : KTF N bk enc P W T T [] eNil (fun _ => 0) := fun _ _ _ _ _ _ _ _ _ => Nat.zero_le _
theorem ktf_cons {α β : Type} {E : Heap → α → List Value → Prop} {F : Heap → β → List Value → Prop} {K : α → Nat} {L : β → Nat} {T o s : Nat} {f : TypeId} {fs : List (TypeId × Nat)} (hs : P.cellsOf f = s) (ht : Tell s E)
    (he : KT N bk enc P W f E K) (hf : KTF N bk enc P W T (o + s) fs F L) : KTF N bk enc P W T o ((f, o) :: fs) (eCons E F) (fun x => K x.1 + L x.2) := by
  intro n hn cs xs hl hx hi b hb
  cases xs with
  | nil => cases hx
  | cons x xs =>
    have h0 := hi 0 (f, o) rfl
    simp only [hs] at h0
    obtain ⟨c1, c2, e1, e2, e3⟩ := hb
    have hlen := ht.len _ _ _ e2
    have ec1 : (cs.drop o).take s = c1 := by rw [e1, ← hlen, List.take_left]
    have ec2 : cs.drop (o + s) = c2 := by rw [← List.drop_drop, e1, ← hlen, List.drop_left]
    rw [ec1] at h0
    have k1 := he n hn _ _ h0 _ e2
    have k2 := hf n hn cs xs hl (by simpa using hx) (fun i g hg => by simpa using hi (i + 1) g hg) b.2 (by rw [ec2]; exact e3)
    simp only [List.map_cons, List.sum_cons]
    omega
theorem kt_struct (M : Measure bk) {α : Type} {F : Heap → α → List Value → Prop} {K : α → Nat} {t : TypeId} {fs : List (TypeId × Nat)} {T : Nat} (hs : shapeOf P t = some fs) (hc : P.cellsOf t = T) (hf : KTF N bk enc P W T 0 fs F K) : KT (N + 1) bk enc P W t F (fun x => K x + 1) := by
  intro fuel hfl cs x h b hb
  unfold shapeOf at hs
  split at hs
  · rename_i fa hu
    cases hs
    obtain ⟨xs, n, hn, rfl, hl, hlen, hi⟩ := DataW.trod_struct hu h
    have := hf n (by omega) cs xs (by rw [hl, hc]) (by simpa using hlen) (fun i f hif => by
      rw [List.getElem?_map, Option.map_eq_some_iff] at hif
      obtain ⟨g, hg, rfl⟩ := hif
      exact hi i g (by simpa using hg)) b (by simpa using hb)
    have h2 := M.agg (xs.map (·.1))
    exact Nat.le_trans (Nat.succ_le_succ this) h2
  · cases hs
end
end Go.Hw
