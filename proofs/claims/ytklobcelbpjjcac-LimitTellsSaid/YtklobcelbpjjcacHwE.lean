/- The forward reading of one operation is sound for the machine's own operation: slices, builtins, and all together. -/
import Derived.Test.YtklobcelbpjjcacHwD
namespace Go.Hw
open Go
section
variable {P : Program} {T : Tab} {h : Heap}

theorem sliceEv_hwp {t : TypeId} {x : Value} {lo hi mx : Option Value} {K : Value → Heap → Prop} (hh : sliceEv P t x lo hi mx h K) : Hwp P (Instr.sliceAt t x lo hi mx) h K := by
  unfold sliceEv at hh
  unfold Instr.sliceAt
  split at hh
  · rename_i hu
    refine hwp_bind (hwp_underlying hu ?_)
    split at hh
    · rename_i s
      split at hh
      · obtain ⟨e, hh, he⟩ := bndEv_elim hh
        obtain ⟨b, ⟨h1, h2, h3, hk⟩, hb⟩ := bndEv_elim hh
        refine hwp_bind (hwp_underlying hu ?_)
        simp only [Option.isSome_none, Bool.false_eq_true, if_false]
        exact hwp_bind (hwp_sliceBounds hb he (.inl ⟨rfl, rfl⟩) h1 h2 h3 (Int.le_refl _) hk)
      · exact hh.elim
    · exact hh.elim
  · rename_i elem hu
    refine hwp_bind (hwp_underlying hu ?_)
    split at hh
    · rename_i i hi
      split at hh
      · rename_i a n c
        refine hwp_bind (hwp_underlying hu ?_)
        split at hh
        · obtain ⟨e, hh, he⟩ := bndEv_elim hh
          obtain ⟨b, ⟨h1, h2, h3, hk⟩, hb⟩ := bndEv_elim hh
          refine hwp_bind (hwp_sliceBounds hb he (.inl ⟨rfl, rfl⟩) h1 h2 h3 (Int.le_refl _) ?_)
          exact hwp_bind (hwp_sizeOf hi (hwp_pure (P := P) hk))
        · split at hh
          · exact hh.elim
          · rename_i mv _ hv
            obtain ⟨m, hh, hm⟩ := bndEv_elim hh
            obtain ⟨e, hh, he⟩ := bndEv_elim hh
            obtain ⟨b, ⟨h1, h2, h3, h4, hk⟩, hb⟩ := bndEv_elim hh
            refine hwp_bind (hwp_sliceBounds (m := m) hb he (.inr ⟨?_, _, rfl⟩) h1 h2 h3 h4 ?_)
            · rcases hm with ⟨hm, _⟩ | hm
              · cases hm
              · exact hm
            · exact hwp_bind (hwp_sizeOf hi (hwp_pure (P := P) hk))
      · exact hh.elim
    · exact hh.elim
  · rename_i n elem hu
    refine hwp_bind (hwp_underlying hu ?_)
    split at hh
    · rename_i i hi
      split at hh
      · obtain ⟨a, rfl, hh⟩ := ptrOk_elim hh
        split at hh
        · obtain ⟨e, hh, he⟩ := bndEv_elim hh
          obtain ⟨b, ⟨h1, h2, h3, hk⟩, hb⟩ := bndEv_elim hh
          refine hwp_bind (hwp_pure (P := P) (v := a) ?_)
          refine hwp_bind (hwp_sliceBounds hb he (.inl ⟨rfl, rfl⟩) h1 h2 h3 (Int.le_refl _) ?_)
          exact hwp_bind (hwp_sizeOf hi (hwp_pure (P := P) hk))
        · exact hh.elim
      · exact hh.elim
    · exact hh.elim
  · exact hh.elim

theorem srcCells_spec {x : Value} {size m : Nat} {xs : List Value} (hs : srcCells size x h = some (m, xs)) (hnint : ∀ k n, x ≠ .int k n) :
    Hwp P (Builtin.lenOf x) h (fun n h' => n = m ∧ h' = h) ∧ ∀ K : Array Value → Heap → Prop, K xs.toArray h → Hwp P (Builtin.firstCells size m x) h K := by
  unfold srcCells at hs
  split at hs
  · rename_i a n c
    simp only [Option.map_eq_some_iff, Prod.mk.injEq] at hs
    obtain ⟨l, hl, rfl, rfl⟩ := hs
    exact ⟨hwp_pure (P := P) ⟨rfl, rfl⟩, fun K hk => hwp_loadCells hl hk⟩
  · cases hs
    exact ⟨hwp_pure (P := P) ⟨rfl, rfl⟩, fun K hk => hwp_pure (P := P) hk⟩
  · rename_i s
    cases hs
    refine ⟨hwp_pure (P := P) ⟨rfl, rfl⟩, fun K hk => ?_⟩
    refine hwp_pure (P := P) ?_
    have : (s.extract 0 s.size).data.map (fun b => Value.int .u8 b.toNat) = (s.data.toList.map fun b => Value.int .u8 b.toNat).toArray := by
      apply Array.ext'
      have hse : s.extract 0 s.size = s := by
        have := ByteArray.extract_zero_size (b := s)
        exact this
      rw [hse]
      simp
    rw [this]
    exact hk
  · cases hs

theorem growBy_le (newLen : Nat) : ∀ r c, Builtin.growBy newLen r c ≤ max c (newLen + (newLen + 768) / 4) := by
  intro r
  induction r with
  | zero => intro c; simp only [Builtin.growBy]; omega
  | succ r ih =>
    intro c
    simp only [Builtin.growBy]
    split
    · omega
    · have := ih (c + (c + 768) / 4)
      omega

theorem nextslicecap_le {need c : Nat} (hc : c < need) : Builtin.nextslicecap need c ≤ 2 * need := by
  unfold Builtin.nextslicecap
  split
  · omega
  · split
    · omega
    · have := growBy_le need 4 c
      omega

end
end Go.Hw
