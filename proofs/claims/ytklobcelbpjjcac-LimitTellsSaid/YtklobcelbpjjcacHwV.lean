/- Rows of byte slices whose contents lie in blocks that nobody writes: F says which. -/
import Derived.Test.YtklobcelbpjjcacHwU
namespace Go.Hw
open Go

/-- A row of flat one-cell elements looks at the block of its address alone. -/
theorem Rd.of_block {α : Type} {E : Heap → α → List Value → Prop} {h h' : Heap} {A : Option Addr} {l : List α} {sz : Nat} (hr : Rd sz E h A l) (hE : ∀ x cs, E h x cs → E h' x cs) (hb : ∀ a, A = some a → h'[a.block]? = h[a.block]?) : Rd sz E h' A l := by
  intro i hi
  obtain ⟨a, cs, h1, h2, h3⟩ := hr i hi
  refine ⟨a, cs, h1, ?_, hE _ _ h3⟩
  have key : ∀ (n j : Nat) (cs : List Value), cellsH h (a.add (i * sz)) j n = some cs → cellsH h' (a.add (i * sz)) j n = some cs := by
    intro n
    induction n with
    | zero => intro j cs hc; exact hc
    | succ n ih =>
      intro j cs hc
      simp only [cellsH] at hc ⊢
      have : cellH h' ((a.add (i * sz)).add j) = cellH h ((a.add (i * sz)).add j) := by
        unfold cellH
        rw [add_block, add_block, hb a h1]
      rw [this]
      split at hc
      · rename_i v hv
        split at hc
        · rename_i vs hvs
          cases hc
          rw [ih _ _ hvs]
        · cases hc
      · cases hc
  exact key _ _ _ h2

/-- A byte slice whose block is one of F's. -/
def eB (F : Nat → Prop) (h : Heap) (x : List Int) (cs : List Value) : Prop := ∃ A c, cs = [.slice A x.length c] ∧ x.length ≤ c ∧ Rd 1 (eInt .u8) h A x ∧ ∀ a, A = some a → F a.block
theorem eB.keep {F : Nat → Prop} {h h' : Heap} {x : List Int} {cs : List Value} (e : eB F h x cs) (hk : ∀ b, F b → h'[b]? = h[b]?) : eB F h' x cs :=
  let ⟨A, c, h1, h2, h3, h4⟩ := e
  ⟨A, c, h1, h2, h3.of_block (fun _ _ h => h) (fun a ha => hk _ (h4 a ha)), h4⟩
theorem eB.more {F F' : Nat → Prop} {h : Heap} {x : List Int} {cs : List Value} (e : eB F h x cs) (hf : ∀ b, F b → F' b) : eB F' h x cs :=
  let ⟨A, c, h1, h2, h3, h4⟩ := e
  ⟨A, c, h1, h2, h3, fun a ha => hf _ (h4 a ha)⟩

/-- The cells of a row of byte slices. -/
def RowB (F : Nat → Prop) (h : Heap) (cs : List Value) (l : List (List Int)) : Prop := cs.length = l.length ∧ ∀ i (hi : i < l.length), ∃ v, cs[i]? = some v ∧ eB F h l[i] [v]
section
variable {F : Nat → Prop} {h h' : Heap} {cs : List Value} {l : List (List Int)}
theorem RowB.nil : RowB F h [] [] := ⟨rfl, fun i hi => by cases hi⟩
theorem RowB.keep (r : RowB F h cs l) (hk : ∀ b, F b → h'[b]? = h[b]?) : RowB F h' cs l := ⟨r.1, fun i hi => let ⟨v, h1, h2⟩ := r.2 i hi; ⟨v, h1, h2.keep hk⟩⟩
theorem RowB.more {F' : Nat → Prop} (r : RowB F h cs l) (hf : ∀ b, F b → F' b) : RowB F' h cs l := ⟨r.1, fun i hi => let ⟨v, h1, h2⟩ := r.2 i hi; ⟨v, h1, h2.more hf⟩⟩
theorem RowB.push (r : RowB F h cs l) {x : List Int} {v : Value} (e : eB F h x [v]) : RowB F h (cs ++ [v]) (l ++ [x]) := by
  refine ⟨by simp [r.1], fun i hi => ?_⟩
  rw [List.length_append, List.length_singleton] at hi
  by_cases hlt : i < l.length
  · obtain ⟨u, h1, h2⟩ := r.2 i hlt
    refine ⟨u, by rw [List.getElem?_append_left (by rw [r.1]; exact hlt)]; exact h1, ?_⟩
    rw [List.getElem_append_left hlt]; exact h2
  · have : i = l.length := by omega
    subst this
    refine ⟨v, by rw [List.getElem?_append_right (by rw [r.1]; exact Nat.le_refl _), r.1, Nat.sub_self]; rfl, ?_⟩
    rw [List.getElem_append_right (Nat.le_refl _)]
    simpa using e
theorem RowB.drop (r : RowB F h cs l) (k : Nat) : RowB F h (cs.drop k) (l.drop k) := by
  refine ⟨by simp [r.1], fun i hi => ?_⟩
  rw [List.length_drop] at hi
  obtain ⟨v, h1, h2⟩ := r.2 (k + i) (by omega)
  exact ⟨v, by rw [List.getElem?_drop]; exact h1, by rw [List.getElem_drop]; exact h2⟩
theorem RowB.flat (r : RowB F h cs l) : ∀ v ∈ cs, Flat v := by
  intro v hv
  obtain ⟨i, hi, rfl⟩ := List.getElem_of_mem hv
  obtain ⟨u, h1, A, c, h2, _⟩ := r.2 i (by rw [← r.1]; exact hi)
  rw [List.getElem?_eq_getElem hi] at h1
  cases h1
  simp only [List.cons.injEq, and_true] at h2
  rw [h2]; exact trivial
/-- A row that owns its block, read as byte slices. -/
theorem RowB.rd {lo : Nat} {A : Option Addr} {n c : Nat} (r : RowB F h cs l) (o : Own lo 1 h A n c cs) : Rd 1 (eB F) h A l := by
  obtain ⟨h1, h2, h3⟩ := o
  rw [Nat.mul_one] at h1
  rcases h3 with ⟨rfl, rfl, rfl⟩ | ⟨b, t, pre, rest, rfl, h5, h6, h7⟩
  · intro i hi
    have := r.1; omega
  · intro i hi
    obtain ⟨v, h8, h9⟩ := r.2 i hi
    refine ⟨⟨b, pre.length, none⟩, [v], rfl, ?_, h9⟩
    refine cells_one (h6.cell (by rw [add_block]) (add_spot _ rfl) ?_)
    rw [add_off, List.append_assoc, List.getElem?_append_right (by simp)]
    simp only [Nat.mul_one, Nat.add_sub_cancel_left]
    rw [List.getElem?_append_left (by rw [r.1]; exact hi)]; exact h8
end
end Go.Hw
