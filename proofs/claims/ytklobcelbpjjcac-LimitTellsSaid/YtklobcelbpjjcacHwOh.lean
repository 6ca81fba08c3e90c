/- The built-in copy, and slices.Insert of a row that was taken over. -/
import Derived.Test.YtklobcelbpjjcacHwOg
set_option linter.unusedVariables false
namespace Go.Hw
open Go
section
variable {P : Program} {h h' : Heap}
theorem gen_copy {t t' e ty : TypeId} {i : TypeInfo} {a b : Addr} {dn dc sn sc : Nat} {es : List Value} {K : Value → Heap → Prop} (hu : P.underlying t = some (.slice e)) (hi : P.info? e = some i)
    (hs : cellsH h b 0 (Nat.min sn dn * i.size) = some es) (hd : stH h a es 0 = some h') (hk : K (.int .i64 ((Nat.min sn dn : Nat) : Int)) h') : Gen P (Builtin.copy_ #[t, t'] ty #[.slice (some a) dn dc, .slice (some b) sn sc]) h K := by
  unfold Gen Builtin.copy_
  refine hwp_bind (hwp_underlying hu ?_)
  refine hwp_bind (s := Builtin.lenOf (.slice (some b) sn sc)) (hwp_pure ?_)
  refine hwp_bind (hwp_sizeOf hi ?_)
  refine hwp_bind (s := Builtin.firstCells i.size (Nat.min sn dn) (.slice (some b) sn sc)) (hwp_loadCells hs ?_)
  refine hwp_bind (hwp_storeCells a _ 0 hd ?_)
  exact hwp_pure hk
/-- Nothing is copied. -/
theorem gen_copy0 {t t' e ty : TypeId} {i : TypeInfo} {D S : Option Addr} {dn dc sn sc : Nat} {K : Value → Heap → Prop} (hu : P.underlying t = some (.slice e)) (hi : P.info? e = some i)
    (h0 : Nat.min sn dn = 0) (hk : K (.int .i64 0) h) : Gen P (Builtin.copy_ #[t, t'] ty #[.slice D dn dc, .slice S sn sc]) h K := by
  unfold Gen Builtin.copy_
  refine hwp_bind (hwp_underlying hu ?_)
  refine hwp_bind (s := Builtin.lenOf (.slice S sn sc)) (hwp_pure ?_)
  refine hwp_bind (hwp_sizeOf hi ?_)
  rw [h0]
  have fin : ∀ c : Array Value, c = #[] → Hwp P (do if let some a := D then storeCells a c.toList
                                                    pure (goInt ((0 : Nat) : Int)) : Sem Value) h K := by
    rintro _ rfl
    cases D with
    | none => exact hwp_pure hk
    | some a => exact hwp_bind (hwp_storeCells a [] 0 rfl (hwp_pure hk))
  cases S with
  | none => exact hwp_bind (s := Builtin.firstCells i.size 0 (.slice none sn sc)) (hwp_pure (fin _ rfl))
  | some b =>
    refine hwp_bind (s := Builtin.firstCells i.size 0 (.slice (some b) sn sc)) ?_
    unfold Builtin.firstCells
    refine hwp_loadCells (vs := []) (by rw [Nat.zero_mul]; rfl) (fin _ rfl)
theorem overlaps_apart {tS e : TypeId} {rs : Array TypeId} {i : TypeInfo} {a b : Addr} {la ca lb cb : Nat} {cA : Array Value} {tA : TypeId} {fA : Nat × Nat} {cB : List Value} {tB : TypeId} {K : Value → Heap → Prop} (hu : P.underlying tS = some (.slice e)) (hi : P.info? e = some i)
    (hne : a.block ≠ b.block) (hA : h[a.block]? = some (.cells cA tA fA)) (hA0 : cA.size ≠ 0) (hB : Blk h b.block cB tB) (hk : K (.bool false) h) :
    Hwp P (Extern.SlicesOverlaps.overlaps #[tS, tS] rs #[.slice (some a) la ca, .slice (some b) lb cb]) h K := by
  have hnb : (a.block != b.block) = true := by simpa using hne
  have hnb' : (a.block == b.block) = false := by simpa using hne
  have fB : ∀ o, frozenH h ⟨b.block, o, b.spot⟩ = false := by intro o; unfold frozenH; rw [show h[(⟨b.block, o, b.spot⟩ : Addr).block]? = _ from hB]; simp
  have fB' : ∀ o, frozenH h ⟨b.block, o, none⟩ = false := by intro o; unfold frozenH; rw [show h[(⟨b.block, o, none⟩ : Addr).block]? = _ from hB]; simp
  have sA : shapeH h a.block = some (tA, cA.size) := by unfold shapeH; rw [hA]
  have sB : shapeH h b.block = some (tB, cB.length) := by unfold shapeH; rw [show h[b.block]? = _ from hB]; simp
  unfold Extern.SlicesOverlaps.overlaps
  refine hwp_bind (hwp_underlying hu ?_)
  refine hwp_bind (hwp_sizeOf hi ?_)
  show Hwp P (if la = 0 ∨ lb = 0 ∨ i.size = 0 then _ else _) h K
  by_cases h0 : la = 0 ∨ lb = 0 ∨ i.size = 0
  · rw [if_pos h0]; exact hwp_pure hk
  rw [if_neg h0]
  have fb : frozenH h b = false := fB b.off
  have nv : ∀ (x : Addr) (c : Array Value) (t : TypeId) (K' : Unit → Heap → Prop), shapeH h x.block = some (t, c.size) → K' () h → Hwp P (noView x) h K' := by
    intro x c t K' hs hk'
    unfold noView
    refine hwp_bind (s := viewAt x.block) ?_
    unfold viewAt
    refine hwp_bind (s := shape x.block) ?_
    show Hwp P (if (shapeH h x.block).isSome = true then _ else _) h _
    rw [hs, if_pos (show (some (t, c.size)).isSome = true from rfl)]
    exact hk'
  have st : Hwp P (stringish b) h (fun v h' => v = false ∧ h' = h) := by
    unfold stringish
    refine hwp_bind (s := frozen b) ?_
    show Hwp P (if frozenH h b = true then _ else _) h _
    rw [fb, if_neg (by decide)]
    refine hwp_bind (s := shape b.block) ?_
    show Hwp P (match shapeH h b.block with | some (_, n) => frozen { block := b.block, off := n } | none => pure false) h _
    rw [sB]
    exact ⟨fB' _, rfl⟩
  have sta : ∃ x, Hwp P (stringish a) h (fun v h' => v = x ∧ h' = h) := by
    refine ⟨if frozenH h a = true then true else frozenH h ⟨a.block, cA.size, none⟩, ?_⟩
    unfold stringish
    refine hwp_bind (s := frozen a) ?_
    show Hwp P (if frozenH h a = true then _ else _) h _
    by_cases q : frozenH h a = true
    · rw [if_pos q, if_pos q]; exact ⟨rfl, rfl⟩
    · rw [if_neg q, if_neg q]
      refine hwp_bind (s := shape a.block) ?_
      show Hwp P (match shapeH h a.block with | some (_, n) => frozen { block := a.block, off := n } | none => pure false) h _
      rw [sA]
      exact ⟨rfl, rfl⟩
  obtain ⟨x, sta⟩ := sta
  have my : Hwp P (mayBeOne a b) h (fun v h' => v = false ∧ h' = h) := by
    unfold mayBeOne
    refine hwp_bind (Hwp.mono _ ?_ sta)
    rintro v1 h1 ⟨hv1, hh1⟩
    rw [hv1, hh1]
    clear hv1 hh1
    refine hwp_bind (Hwp.mono _ ?_ st)
    rintro v1 h1 ⟨hv1, hh1⟩
    rw [hv1, hh1]
    clear hv1 hh1
    have nn : ∀ (y : Addr) (K' : Bool → Heap → Prop) (v : Option (TypeId × Nat)), shapeH h y.block = v → K' (v matches some (_, 0)) h → Hwp P (do pure ((← shape y.block) matches some (_, 0)) : Sem Bool) h K' := by
      intro y K' v hv hk'
      refine hwp_bind (s := shape y.block) ?_
      show K' _ h
      rw [hv]; exact hk'
    refine hwp_bind (nn a _ _ sA ?_)
    refine hwp_bind (nn b _ _ sB ?_)
    refine hwp_pure ⟨?_, rfl⟩
    cases hc : cA.size with
    | zero => exact absurd hc hA0
    | succ n => simp
  refine hwp_bind (s := frozen a) ?_
  refine hwp_bind (s := frozen b) ?_
  show Hwp P (if (a.block != b.block && frozenH h a && frozenH h b) = true then _ else _) h _
  rw [fb, Bool.and_false, if_neg (by decide)]
  show Hwp P (if (a.block != b.block) = true then _ else _) h K
  rw [if_pos hnb]
  refine hwp_bind (nv a _ _ _ sA ?_)
  refine hwp_bind (nv b cB.toArray tB _ (by rw [sB]; simp) ?_)
  refine hwp_bind (Hwp.mono _ ?_ my)
  rintro v1 h1 ⟨hv1, hh1⟩
  rw [hv1, hh1]
  show Hwp P (if false = true then _ else _) _ K
  rw [if_neg (by decide)]
  refine hwp_pure ?_
  rw [hnb', Bool.false_and, Bool.false_and]
  exact hk
/-- Nothing there overlaps nothing. -/
theorem overlaps_none {tS e : TypeId} {rs : Array TypeId} {i : TypeInfo} {A B : Option Addr} {la ca lb cb : Nat} {K : Value → Heap → Prop} (hu : P.underlying tS = some (.slice e)) (hi : P.info? e = some i)
    (h0 : la = 0 ∨ lb = 0 ∨ i.size = 0) (hk : K (.bool false) h) : Hwp P (Extern.SlicesOverlaps.overlaps #[tS, tS] rs #[.slice A la ca, .slice B lb cb]) h K := by
  unfold Extern.SlicesOverlaps.overlaps
  refine hwp_bind (hwp_underlying hu ?_)
  refine hwp_bind (hwp_sizeOf hi ?_)
  cases A with
  | none => exact hwp_pure hk
  | some a =>
    cases B with
    | none => exact hwp_pure hk
    | some b =>
      show Hwp P (if la = 0 ∨ lb = 0 ∨ i.size = 0 then _ else _) h K
      rw [if_pos h0]; exact hwp_pure hk
end
end Go.Hw
