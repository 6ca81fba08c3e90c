/- The ground of the proofs of this seat: a forward reading of the given program's code over heaps alone (no frames of the machine, no tape, no draws), shown to be sound for the machine. No statement is proved here. -/
import Derived.Calls
import Derived.Orders
import Derived.Tactics
import Derived.KernelRfl
namespace Go.Hw
open Go

abbrev Heap := Array Obj
abbrev Fr := Nat → Option Value

def cellH (h : Heap) (a : Addr) : Option Value :=
  match h[a.block]? with
  | some (.cells c _ _) => if a.spot.isSome then none else c[a.off]?
  | _ => none
def frozenH (h : Heap) (a : Addr) : Bool :=
  match h[a.block]? with
  | some (.cells _ _ (lo, hi)) => lo ≤ a.off && a.off < hi
  | _ => false
def setH (h : Heap) (a : Addr) (v : Value) : Heap :=
  h.modify a.block fun
      | .cells c elem frozen => .cells (if a.spot.isSome then c else c.setIfInBounds a.off v) elem frozen
      | o => o
def shapeH (h : Heap) (r : Nat) : Option (TypeId × Nat) :=
  match h[r]? with
  | some (.cells c elem _) => some (elem, c.size)
  | _ => none
def freezeH (h : Heap) (a : Addr) (n : Nat) : Heap :=
  if n = 0 then h else
  h.modify a.block fun
      | .cells c elem (lo, hi) => .cells c elem (if lo == hi then (a.off, a.off + n) else (min lo a.off, max hi (a.off + n)))
      | o => o

/-- All but the heap and the count of draws is as it was. -/
structure Same (w w' : World) : Prop where
  tape : w'.tape = w.tape
  os : w'.os = w.os
  output : w'.output = w.output
theorem Same.refl (w : World) : Same w w := ⟨rfl, rfl, rfl⟩
theorem Same.trans {a b c : World} (h : Same a b) (k : Same b c) : Same a c := ⟨k.1.trans h.1, k.2.trans h.2, k.3.trans h.3⟩

/-- What one cell takes. -/
def oneCell (v : Value) (K : Prop) : Prop :=
  match v with
  | .agg _ | .tuple _ => False
  | _ => K

def Hwp {α : Type} (P : Program) : Sem α → Heap → (α → Heap → Prop) → Prop
  | .pure a, h, K => K a h
  | .load _ a k, h, K => ∃ v, cellH h a = some v ∧ Hwp P (k v) h K
  | .store _ a v k, h, K => oneCell v ((cellH h a).isSome = true ∧ frozenH h a = false ∧ Hwp P k (setH h a v) K)
  | .new o k, h, K => Hwp P (k h.size) (h.push o) K
  | .shape r k, h, K => Hwp P (k (shapeH h r)) h K
  | .freeze a n k, h, K => Hwp P k (freezeH h a n) K
  | .frozen a k, h, K => Hwp P (k (frozenH h a)) h K
  | .getObj r k, h, K => ∃ o, h[r]? = some o ∧ (∀ c e f, o ≠ .cells c e f) ∧ Hwp P (k o) h K
  | .setObj r o k, h, K => ∃ o', h[r]? = some o' ∧ (∀ c e f, o' ≠ .cells c e f) ∧ Hwp P k (h.setIfInBounds r o) K
  | .choose q k, h, K => if q.forced then Hwp P (k 0) h K else ∀ n, Hwp P (k (q.cut n)) h K
  | .sys _ _, _, _ => False
  | .program k, h, K => Hwp P (k P) h K
  | .mark _ k, h, K => Hwp P k h K
  | .halt _, _, _ => False

theorem Hwp.run {α : Type} {P : Program} (s : Sem α) : ∀ (w : World) (K : α → Heap → Prop), Hwp P s w.heap K → ∃ v w', s.run P w = .ok v w' ∧ K v w'.heap ∧ Same w w' := by
  induction s with
  | pure a => exact fun w K h => ⟨a, w, rfl, h, .refl _⟩
  | load m a k ih =>
    rintro w K ⟨v, hc, h⟩
    obtain ⟨r, w', h1, h2, h3⟩ := ih v w K h
    refine ⟨r, w', ?_, h2, h3⟩
    have : w.cell? a = some v := hc
    simp only [Sem.run, this, h1]
  | store m a v k ih =>
    intro w K h
    have key : ∀ (hs : (cellH w.heap a).isSome = true) (hf : frozenH w.heap a = false) (hk : Hwp P k (setH w.heap a v) K) (hv : ∀ c, v ≠ .agg c) (hv' : ∀ c, v ≠ .tuple c),
        ∃ r w', (Sem.store m a v k).run P w = .ok r w' ∧ K r w'.heap ∧ Same w w' := by
      intro hs hf hk hv hv'
      obtain ⟨r, w', h1, h2, h3⟩ := ih (w.setCell a v) K hk
      refine ⟨r, w', ?_, h2, ⟨h3.1, h3.2, h3.3⟩⟩
      obtain ⟨u, hu⟩ := Option.isSome_iff_exists.1 hs
      have hu' : w.cell? a = some u := hu
      have hf' : w.frozen? a = false := hf
      cases v <;> simp_all [Sem.run]
    unfold Hwp oneCell at h
    split at h
    · exact h.elim
    · exact h.elim
    · rename_i n1 n2
      exact key h.1 h.2.1 h.2.2 (fun c hc => n1 c hc) (fun c hc => n2 c hc)
  | new o k ih =>
    intro w K h
    obtain ⟨r, w', h1, h2, h3⟩ := ih w.heap.size { w with heap := w.heap.push o } K h
    exact ⟨r, w', by simp only [Sem.run, h1], h2, ⟨h3.1, h3.2, h3.3⟩⟩
  | shape r k ih =>
    intro w K h
    obtain ⟨v, w', h1, h2, h3⟩ := ih (shapeH w.heap r) w K h
    exact ⟨v, w', h1, h2, h3⟩
  | freeze a n k ih =>
    intro w K h
    have hw : (w.freeze a n).heap = freezeH w.heap a n := by unfold World.freeze freezeH; split <;> rfl
    obtain ⟨v, w', h1, h2, h3⟩ := ih (w.freeze a n) K (by rw [hw]; exact h)
    refine ⟨v, w', by simp only [Sem.run, h1], h2, Same.trans ?_ h3⟩
    unfold World.freeze
    split <;> exact ⟨rfl, rfl, rfl⟩
  | frozen a k ih =>
    intro w K h
    obtain ⟨v, w', h1, h2, h3⟩ := ih (frozenH w.heap a) w K h
    exact ⟨v, w', h1, h2, h3⟩
  | getObj r k ih =>
    rintro w K ⟨o, ho, hn, h⟩
    obtain ⟨v, w', h1, h2, h3⟩ := ih o w K h
    refine ⟨v, w', ?_, h2, h3⟩
    cases o <;> simp_all [Sem.run]
  | setObj r o k ih =>
    rintro w K ⟨o', ho, hn, h⟩
    obtain ⟨v, w', h1, h2, h3⟩ := ih { w with heap := w.heap.setIfInBounds r o } K h
    refine ⟨v, w', ?_, h2, ⟨h3.1, h3.2, h3.3⟩⟩
    cases o' <;> simp_all [Sem.run]
  | choose q k ih =>
    intro w K h
    unfold Hwp at h
    by_cases hq : q.forced = true
    · rw [if_pos hq] at h
      obtain ⟨v, w', h1, h2, h3⟩ := ih 0 w K h
      exact ⟨v, w', by simp only [Sem.run, hq, if_true, h1], h2, h3⟩
    · rw [if_neg hq] at h
      obtain ⟨v, w', h1, h2, h3⟩ := ih (q.cut (w.tape w.drawn q)) { w with drawn := w.drawn + 1 } K (h _)
      exact ⟨v, w', by simp only [Sem.run, hq, h1]; rfl, h2, ⟨h3.1, h3.2, h3.3⟩⟩
  | sys c k ih => exact fun w K h => h.elim
  | program k ih =>
    intro w K h
    obtain ⟨v, w', h1, h2, h3⟩ := ih P w K h
    exact ⟨v, w', h1, h2, h3⟩
  | mark m k ih =>
    intro w K h
    obtain ⟨v, w', h1, h2, h3⟩ := ih w K h
    exact ⟨v, w', h1, h2, h3⟩
  | halt x => exact fun w K h => h.elim

section laws
variable {α β : Type} {P : Program}
theorem Hwp.mono (s : Sem α) : ∀ {h : Heap} {K K' : α → Heap → Prop}, (∀ v h, K v h → K' v h) → Hwp P s h K → Hwp P s h K' := by
  induction s with
  | pure a => exact fun hk h => hk _ _ h
  | load m a k ih => exact fun hk ⟨v, hc, h⟩ => ⟨v, hc, ih v hk h⟩
  | store m a v k ih =>
    intro h K K' hk hh
    unfold Hwp oneCell at hh ⊢
    split
    · exact hh.elim
    · exact hh.elim
    · rename_i n1 n2
      split at hh
      · exact (n1 _ rfl).elim
      · exact (n2 _ rfl).elim
      · exact ⟨hh.1, hh.2.1, ih hk hh.2.2⟩
  | new o k ih => exact fun hk h => ih _ hk h
  | shape r k ih => exact fun hk h => ih _ hk h
  | freeze a n k ih => exact fun hk h => ih hk h
  | frozen a k ih => exact fun hk h => ih _ hk h
  | getObj r k ih => exact fun hk ⟨o, h1, h2, h⟩ => ⟨o, h1, h2, ih o hk h⟩
  | setObj r o k ih => exact fun hk ⟨o', h1, h2, h⟩ => ⟨o', h1, h2, ih hk h⟩
  | choose q k ih =>
    intro h K K' hk hh
    unfold Hwp at hh ⊢
    split
    · rename_i hq; rw [if_pos hq] at hh; exact ih _ hk hh
    · rename_i hq; rw [if_neg hq] at hh; exact fun n => ih _ hk (hh n)
  | sys c k ih => exact fun _ h => h.elim
  | program k ih => exact fun hk h => ih _ hk h
  | mark m k ih => exact fun hk h => ih hk h
  | halt x => exact fun _ h => h.elim

theorem Hwp.bind_eq (s : Sem α) (f : α → Sem β) : ∀ {h : Heap} {K : β → Heap → Prop}, Hwp P s h (fun v h' => Hwp P (f v) h' K) → Hwp P (s.bind f) h K := by
  induction s with
  | pure a => exact fun h => h
  | load m a k ih => exact fun ⟨v, hc, h⟩ => ⟨v, hc, ih v h⟩
  | store m a v k ih =>
    intro h K hh
    simp only [Sem.bind]
    unfold Hwp oneCell at hh ⊢
    split
    · exact hh.elim
    · exact hh.elim
    · rename_i n1 n2
      split at hh
      · exact (n1 _ rfl).elim
      · exact (n2 _ rfl).elim
      · exact ⟨hh.1, hh.2.1, ih hh.2.2⟩
  | new o k ih => exact fun h => ih _ h
  | shape r k ih => exact fun h => ih _ h
  | freeze a n k ih => exact fun h => ih h
  | frozen a k ih => exact fun h => ih _ h
  | getObj r k ih => exact fun ⟨o, h1, h2, h⟩ => ⟨o, h1, h2, ih o h⟩
  | setObj r o k ih => exact fun ⟨o', h1, h2, h⟩ => ⟨o', h1, h2, ih h⟩
  | choose q k ih =>
    intro h K hh
    simp only [Sem.bind]
    unfold Hwp at hh ⊢
    split
    · rename_i hq; rw [if_pos hq] at hh; exact ih _ hh
    · rename_i hq; rw [if_neg hq] at hh; exact fun n => ih _ (hh n)
  | sys c k ih => exact fun h => h.elim
  | program k ih => exact fun h => ih _ h
  | mark m k ih => exact fun h => ih h
  | halt x => exact fun h => h.elim

theorem Hwp.bind {s : Sem α} {f : α → Sem β} {h : Heap} {K : β → Heap → Prop} (hh : Hwp P s h (fun v h' => Hwp P (f v) h' K)) : Hwp P (s >>= f) h K := Hwp.bind_eq s f hh
theorem Hwp.pure {v : α} {h : Heap} {K : α → Heap → Prop} (hh : K v h) : Hwp P (Pure.pure v : Sem α) h K := hh
end laws
end Go.Hw
