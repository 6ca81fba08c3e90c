/- slices.Delete of a row that was taken over. (A draft: not built yet; not in lay_hw.sh.) -/
import Derived.Test.YtklobcelbpjjcacHwWa
namespace Go.Hw
open Go
section
variable {α : Type} {sz : Nat} {E : Heap → α → List Value → Prop} {m m' h h' h0 m0 : Heap} {A : Option Addr} {l : List α} {c n : Nat} {W : Nat → Prop}
/-- append that has room: in place. -/
theorem OS.app_in {e : TypeId} {bytes : Nat} {z : Array Value} {X : Value} {xs : List α} {K : Value → Heap → Prop} (o : OS W h0 sz E h m A l c) (T : Tell sz E) (S : St W h0 m0 h m) (hn : n = l.length) (hs : Src sz E h m X xs) (hin : l.length + xs.length ≤ c)
    (hk : ∀ h', OS W h0 sz E h' m A (l ++ xs) c → St (fp A c) h m h' m → K (.slice A (l ++ xs).length c) h') : AppW e sz bytes z A n c X h K := by
  subst hn
  obtain ⟨es, h1, h2⟩ := hs
  have he := h2.len
  refine ⟨xs.length, es, h1, .inl ⟨hin, ?_⟩⟩
  rcases o with ⟨rfl, rfl⟩ | ⟨b, t, pre, cs, rest, rfl, k1, k2, k3, k4, k5, k6⟩
  · have hxs : xs = [] := List.length_eq_zero_iff.1 (by rw [List.length_nil] at hin; omega)
    subst hxs
    have : es = [] := h2
    subst this
    have fin := hk h (.inl ⟨rfl, rfl⟩) (St.refl S.s)
    cases A with
    | none => exact .inl ⟨rfl, fin⟩
    | some a => exact .inr ⟨a, h, rfl, by simp [stH], fin⟩
  · have hl := k2.len
    have hmul : (c - l.length) * sz = xs.length * sz + (c - l.length - xs.length) * sz := by rw [← Nat.add_mul]; congr 1; omega
    have k1' : Blk h b ((pre ++ cs) ++ rest.take (xs.length * sz) ++ rest.drop (xs.length * sz)) t := by rw [List.append_assoc, List.take_append_drop]; exact k1
    obtain ⟨h', s1, b1, o1⟩ := Blk.stH es (a := (⟨b, pre.length, none⟩ : Addr).add (l.length * sz)) (i := 0) k1' (by rw [add_block]) (add_spot _ rfl) (by rw [add_off, List.length_append, hl, Nat.add_zero]) (by rw [List.length_take, he]; omega) (h2.flat T)
    refine .inr ⟨_, h', rfl, s1, ?_⟩
    rw [show (Value.slice (some ⟨b, pre.length, none⟩) (l.length + xs.length) c) = .slice (some ⟨b, pre.length, none⟩) (l ++ xs).length c by rw [List.length_append]]
    refine hk _ (.inr ⟨b, t, pre, cs ++ es, rest.drop (xs.length * sz), rfl, by rw [← List.append_assoc pre]; exact b1, k2.append h2, by rw [List.length_append]; exact hin, ?_, k5, k6⟩) ?_
    · rw [List.length_drop, List.length_append, show c - (l.length + xs.length) = c - l.length - xs.length by omega]; omega
    · refine ⟨.refl _, fun i o1' j1 j2 => ?_, by rw [o1.1]; exact Nat.le_refl _, fun i hi hw => ?_, fun i _ hl => .inl hl⟩
      · rw [o1.2 i (fun e => k6 (e ▸ ⟨o1', j1, j2⟩))]; exact S.s i o1' j1 j2
      · by_cases hc : c = 0
        · have hes : es = [] := List.length_eq_zero_iff.1 (by rw [he, show xs.length = 0 by omega, Nat.zero_mul])
          subst hes
          simp only [stH, Option.some.injEq] at s1
          rw [s1]
        · exact o1.2 i fun e => hw ⟨hc, _, rfl, e.symm⟩
/-- Cells behind the last element turn. -/
theorem OS.spare (o : OS W h0 sz E h m A l c) (s : Sub m h) {ds : List Value} (hd : l.length * sz + ds.length ≤ c * sz) (hf : ∀ v ∈ ds, Flat v) {a : Addr} (ha : A = some a) (hc : c ≠ 0) :
    ∃ h', stH h (a.add (l.length * sz)) ds 0 = some h' ∧ OS W h0 sz E h' m A l c ∧ St (fp A c) h m h' m := by
  rcases o with ⟨rfl, rfl⟩ | ⟨b, t, pre, cs, rest, rfl, k1, k2, k3, k4, k5, k6⟩
  · exact absurd rfl hc
  · cases ha
    have hl := k2.len
    have hmul : (c - l.length) * sz + l.length * sz = c * sz := by rw [← Nat.add_mul, Nat.sub_add_cancel k3]
    have k1' : Blk h b ((pre ++ cs) ++ rest.take ds.length ++ rest.drop ds.length) t := by rw [List.append_assoc, List.take_append_drop]; exact k1
    obtain ⟨h', s1, b1, o1⟩ := Blk.stH ds (a := (⟨b, pre.length, none⟩ : Addr).add (l.length * sz)) (i := 0) k1' (by rw [add_block]) (add_spot _ rfl) (by rw [add_off, List.length_append, hl, Nat.add_zero]) (by rw [List.length_take]; omega) hf
    refine ⟨h', s1, .inr ⟨b, t, pre, cs, ds ++ rest.drop ds.length, rfl, by rw [← List.append_assoc]; exact b1, k2, k3, ?_, k5, k6⟩, ?_⟩
    · rw [List.length_append, List.length_drop]; omega
    · refine ⟨.refl _, fun i o1' j1 j2 => ?_, by rw [o1.1]; exact Nat.le_refl _, fun i hi hw => o1.2 i fun e => hw ⟨hc, _, rfl, e.symm⟩, fun i _ hl => .inl hl⟩
      rw [o1.2 i (fun e => k6 (e ▸ ⟨o1', j1, j2⟩))]; exact s i o1' j1 j2
/-- The built-in clear of a row. -/
theorem gen_clear0 {P : Program} {t e : TypeId} {cap : Nat} {K : Value → Heap → Prop} (hu : P.underlying t = some (.slice e)) (hk : K (.tuple #[]) h) : Gen P (Builtin.clear_ #[t] 0 #[.slice A 0 cap]) h K := by
  unfold Gen Builtin.clear_
  refine hwp_bind (hwp_underlying hu ?_)
  cases A <;> exact hwp_bind (hwp_pure (hwp_pure hk))
theorem gen_clear {P : Program} {t e : TypeId} {a : Addr} {k cap : Nat} {z : Value} {h' : Heap} {K : Value → Heap → Prop} (hu : P.underlying t = some (.slice e)) (hz : zeroOf P e = some z) (hs : stH h a (Builtin.zeroCells z.cells (k + 1)).toList 0 = some h') (hk : K (.tuple #[]) h') : Gen P (Builtin.clear_ #[t] 0 #[.slice (some a) (k + 1) cap]) h K := by
  unfold Gen Builtin.clear_
  refine hwp_bind (hwp_underlying hu ?_)
  refine hwp_bind (s := zeroValue e) (hwp_zero hz ?_)
  refine hwp_bind (hwp_storeCells a _ 0 hs ?_)
  exact hwp_pure hk
end
end Go.Hw
