/- The forward reading of one operation is sound for the machine's own operation: append, the builtins, all together. -/
import Derived.Test.YtklobcelbpjjcacHwE
namespace Go.Hw
open Go
section
variable {P : Program} {T : Tab} {h : Heap}

theorem append_hwp {t t2 elem : TypeId} {d : TypeDesc} {i : TypeInfo} {z x : Value} {a : Option Addr} {n c : Nat} {ats : Array TypeId} {ty : TypeId} {K : Value → Heap → Prop}
    (h0 : ats[0]? = some t) (h1 : ats[1]? = some t2) (hu : P.underlying t = some (.slice elem)) (hd : P.underlying t2 = some d) (hd' : ∀ k, d ≠ .int k) (hi : P.info? elem = some i) (hz : i.zero = some z)
    (hh : AppW elem i.size i.bytes z.cells a n c x h K) : Hwp P (Builtin.append_ ats ty #[.slice a n c, x]) h K := by
  obtain ⟨m, xs, hs, hh⟩ := hh
  have hnint : ∀ k n, x ≠ .int k n := by rintro k n rfl; cases hs
  obtain ⟨hlen, hfirst⟩ := srcCells_spec (P := P) hs hnint
  have hzero : zeroOf P elem = some z := by unfold zeroOf; rw [hi]; exact hz
  unfold Builtin.append_
  simp only [h0, h1]
  refine hwp_bind (hwp_underlying hu ?_)
  refine hwp_bind (hwp_sizeOf hi ?_)
  refine hwp_bind (hwp_underlying hd (hwp_bind (hwp_pure (P := P) ?_)))
  rw [if_neg (by cases d <;> first | exact absurd rfl (hd' _) | simp)]
  refine hwp_bind (hlen.mono _ ?_)
  intro k h1 ⟨hk, hh1⟩
  rw [hk, hh1]
  rcases hh with ⟨hle, hh⟩ | ⟨hlt, hb, hb0, old, hold, hh⟩
  · rw [if_pos hle, if_pos (by cases d <;> first | exact absurd rfl (hd' _) | simp)]
    refine hwp_bind (hfirst _ ?_)
    rcases hh with ⟨rfl, hk⟩ | ⟨b, h', rfl, hst, hk⟩
    · exact hwp_pure (P := P) hk
    · refine hwp_bind (hwp_storeCells _ _ 0 hst ?_)
      exact hwp_pure (P := P) hk
  · rw [if_neg (show ¬ n + m ≤ c by omega)]
    have hcap : ¬ Builtin.nextslicecap (n + m) c * i.bytes > 2 ^ 48 := by
      have := Nat.mul_le_mul_right i.bytes (nextslicecap_le hlt)
      have e : 2 * (n + m) * i.bytes = 2 * ((n + m) * i.bytes) := Nat.mul_assoc _ _ _
      omega
    refine hwp_bind (hwp_typeInfo hi ?_)
    rw [if_neg (by rintro ⟨_, h | h⟩ <;> first | omega | (cases d <;> first | exact absurd rfl (hd' _) | simp at h))]
    refine hwp_bind (hwp_typeInfo hi ?_)
    rw [if_neg hcap]
    have hch : ∀ (f : Nat → Sem Value), (∀ c', n + m ≤ c' → Hwp P (f c') h K) → Hwp P (choose (Question.appendCap (n + m) c elem) >>= f) h K := fun f hf => by
      refine hwp_bind ?_
      show (if Question.forced (Question.appendCap (n + m) c elem) then _ else _)
      rw [if_neg (by simp [Question.forced])]
      intro t
      exact hf _ (Nat.le_add_right _ _)
    refine hch _ fun c' hc' => ?_
    refine hwp_bind (hwp_typeInfo hi ?_)
    refine hwp_bind ?_
    have hroom : ∀ (K : Unit → Heap → Prop), K () h → Hwp P (askRoom (c' * i.bytes)) h K := fun K hk => by
      unfold askRoom
      split <;> exact hk
    refine hroom _ ?_
    have hfirst2 : ∀ K : Array Value → Heap → Prop, K old.toArray h → Hwp P (Builtin.firstCells i.size n (.slice a n c)) h K := fun K hk => by
      unfold oldCells at hold
      cases a with
      | none => cases hold; exact hwp_pure (P := P) hk
      | some b => exact hwp_loadCells hold hk
    refine hwp_bind (hfirst2 _ ?_)
    rw [if_pos (by cases d <;> first | exact absurd rfl (hd' _) | simp)]
    refine hwp_bind (hfirst _ ?_)
    refine hwp_bind (hwp_zero hzero ?_)
    exact hh c' hc'

theorem appendZ_hwp {t t2 elem : TypeId} {k : IntKind} {i : TypeInfo} {z x : Value} {a : Option Addr} {n c : Nat} {ats : Array TypeId} {ty : TypeId} {K : Value → Heap → Prop}
    (h0 : ats[0]? = some t) (h1 : ats[1]? = some t2) (hu : P.underlying t = some (.slice elem)) (hd : P.underlying t2 = some (.int k)) (hi : P.info? elem = some i) (hz : i.zero = some z)
    (hh : AppZ elem i.size i.bytes z.cells a n c x h K) : Hwp P (Builtin.append_ ats ty #[.slice a n c, x]) h K := by
  obtain ⟨kx, m, rfl, hm1, hm2, hh⟩ := hh
  have hzero : zeroOf P elem = some z := by unfold zeroOf; rw [hi]; exact hz
  unfold Builtin.append_
  simp only [h0, h1]
  refine hwp_bind (hwp_underlying hu ?_)
  refine hwp_bind (hwp_sizeOf hi ?_)
  refine hwp_bind (hwp_underlying hd (hwp_bind (hwp_pure (P := P) ?_)))
  rw [if_pos (by rfl)]
  have hw : IntKind.i64.wrap ((m : Nat) : Int) = m := by
    unfold IntKind.wrap
    simp only [IntKind.signed, IntKind.bits]
    have e : ((m : Nat) : Int) % (2 ^ 64 : Int) = m := by omega
    simp only [e, Bool.true_and]
    rw [if_neg (by simp only [decide_eq_true_eq]; omega)]
  refine hwp_bind (show Hwp P (pure (m : Int)) h _ from hwp_pure (P := P) ?_)
  rw [hw, if_neg (by omega)]
  refine hwp_bind (hwp_typeInfo hi ?_)
  rw [if_neg (by have : ((m : Nat) : Int) * (i.bytes : Int) = ((m * i.bytes : Nat) : Int) := by push_cast; rfl
                 omega)]
  refine hwp_bind (hwp_pure (P := P) ?_)
  simp only [Int.toNat_natCast]
  have happ : ∀ (b : Bool) (X : Sem (Array Value)) (f : Array Value → Sem Value) (h : Heap), b = false → Hwp P (f (if m * i.size = 0 then [] else (zcells z.cells m).toList).toArray) h K → Hwp P ((if b = true then X else if m * i.size = 0 then pure #[] else do pure (Builtin.zeroCells (← zeroValue elem).cells m)) >>= f) h K := fun b X f h hb hf => by
    refine hwp_bind ?_
    rw [if_neg (by simp [hb])]
    by_cases hc : m * i.size = 0
    · rw [if_pos hc] at hf ⊢
      exact hwp_pure (P := P) hf
    · rw [if_neg hc] at hf ⊢
      refine hwp_bind (hwp_zero hzero ?_)
      exact hwp_pure (P := P) (by simpa [zcells] using hf)
  rcases hh with ⟨hle, hh⟩ | ⟨hlt, hb, hb0, hmx, old, hold, hh⟩
  · rw [if_pos hle]
    refine happ _ _ _ _ rfl ?_
    rcases hh with ⟨rfl, hk⟩ | ⟨b, h', rfl, hst, hk⟩
    · exact hwp_pure (P := P) hk
    · refine hwp_bind (hwp_storeCells _ _ 0 (by simpa using hst) ?_)
      exact hwp_pure (P := P) hk
  · rw [if_neg (show ¬ n + m ≤ c by omega)]
    have hcap : ¬ Builtin.nextslicecap (n + m) c * i.bytes > 2 ^ 48 := by
      have := Nat.mul_le_mul_right i.bytes (nextslicecap_le hlt)
      have e : 2 * (n + m) * i.bytes = 2 * ((n + m) * i.bytes) := Nat.mul_assoc _ _ _
      omega
    refine hwp_bind (hwp_typeInfo hi ?_)
    rw [if_neg (by rintro ⟨h, _⟩; have : IntKind.i64.max = 9223372036854775807 := rfl; omega)]
    refine hwp_bind (hwp_typeInfo hi ?_)
    rw [if_neg hcap]
    have hch : ∀ (f : Nat → Sem Value), (∀ c', n + m ≤ c' → Hwp P (f c') h K) → Hwp P (choose (Question.appendCap (n + m) c elem) >>= f) h K := fun f hf => by
      refine hwp_bind ?_
      show (if Question.forced (Question.appendCap (n + m) c elem) then _ else _)
      rw [if_neg (by simp [Question.forced])]
      intro t
      exact hf _ (Nat.le_add_right _ _)
    refine hch _ fun c' hc' => ?_
    refine hwp_bind (hwp_typeInfo hi ?_)
    refine hwp_bind ?_
    have hroom : ∀ (K : Unit → Heap → Prop), K () h → Hwp P (askRoom (c' * i.bytes)) h K := fun K hk => by
      unfold askRoom
      split <;> exact hk
    refine hroom _ ?_
    have hfirst2 : ∀ K : Array Value → Heap → Prop, K old.toArray h → Hwp P (Builtin.firstCells i.size n (.slice a n c)) h K := fun K hk => by
      unfold oldCells at hold
      cases a with
      | none => cases hold; exact hwp_pure (P := P) hk
      | some b => exact hwp_loadCells hold hk
    refine hwp_bind (hfirst2 _ ?_)
    refine happ _ _ _ _ rfl ?_
    refine hwp_bind (hwp_zero hzero ?_)
    exact hh c' hc'

theorem len_hwp {ats : Array TypeId} {ty t : TypeId} {x : Value} {n : Int} {d : TypeDesc} {K : Value → Heap → Prop} (h0 : ats[0]? = some t) (hu : P.underlying t = some d)
    (hx : (∃ e a k c, d = .slice e ∧ x = .slice a k c ∧ n = k) ∨ (∃ s, d = .string ∧ x = .string s ∧ n = s.size) ∨ (∃ k e, d = .array k e ∧ n = k)) (hk : K (.int .i64 n) h) : Hwp P (Builtin.len_ ats ty #[x]) h K := by
  unfold Builtin.len_
  simp only [h0]
  refine hwp_bind (hwp_underlying hu ?_)
  rcases hx with ⟨e, a, k, c, rfl, rfl, rfl⟩ | ⟨s, rfl, rfl, rfl⟩ | ⟨k, e, rfl, rfl⟩ <;> exact hwp_pure (P := P) hk

theorem cap_hwp {ats : Array TypeId} {ty t e : TypeId} {a : Option Addr} {n c : Nat} {K : Value → Heap → Prop} (h0 : ats[0]? = some t) (hu : P.underlying t = some (.slice e))
    (hk : K (.int .i64 c) h) : Hwp P (Builtin.cap_ ats ty #[.slice a n c]) h K := by
  unfold Builtin.cap_
  simp only [h0]
  exact hwp_bind (hwp_underlying hu (hwp_pure (P := P) hk))

theorem minV_hwp {x y : Value} {K : Value → Heap → Prop} (hh : minV x y (K · h)) : Hwp P (Builtin.min2 x y) h K := by
  unfold minV at hh
  split at hh
  · exact hh
  · exact hh.elim
theorem maxV_hwp {x y : Value} {K : Value → Heap → Prop} (hh : maxV x y (K · h)) : Hwp P (Builtin.max2 x y) h K := by
  unfold maxV at hh
  split at hh
  · exact hh
  · exact hh.elim

theorem builtEv_hwp {b : Builtin} {ats : Array TypeId} {ty : TypeId} {consts : Array Bool} {args : List Value} {K : Option Value → Heap → Prop} (hh : builtEv P T b ats ty args h K) : Hwp P (builtin b ats ty consts args.toArray) h (nextK P K) := by
  unfold builtEv at hh
  unfold builtin
  split at hh
  · refine hwp_v ?_
    split at hh
    · rename_i t h0
      split at hh
      · rename_i e hu
        split at hh
        · exact len_hwp h0 hu (.inl ⟨_, _, _, _, rfl, rfl, rfl⟩) hh
        · exact hh.elim
      · rename_i hu
        split at hh
        · exact len_hwp h0 hu (.inr (.inl ⟨_, rfl, rfl, rfl⟩)) hh
        · exact hh.elim
      · rename_i n e hu
        split at hh
        · exact len_hwp h0 hu (.inr (.inr ⟨_, _, rfl, rfl⟩)) hh
        · exact hh.elim
      · exact gen_dec hh
    · exact hh.elim
  · refine hwp_v ?_
    split at hh
    · rename_i t h0
      split at hh
      · rename_i e hu
        split at hh
        · exact cap_hwp h0 hu hh
        · exact hh.elim
      · exact hh.elim
    · exact hh.elim
  · refine hwp_v ?_
    split at hh
    · rename_i t t2 h0 h1
      split at hh
      · rename_i elem d hu hd
        split at hh
        · rename_i k0
          split at hh
          · rename_i i hi
            split at hh
            · rename_i z hz
              split at hh
              · refine appendZ_hwp h0 h1 hu hd hi hz ?_
                obtain ⟨kx, m, e, hm1, hm2, hh⟩ := hh
                refine ⟨kx, m, e, hm1, hm2, ?_⟩
                rcases hh with ⟨h1, h2 | ⟨a, h', h2, h3, h4⟩⟩ | ⟨h1, h2, h3, h6, old, h4, h5⟩
                · exact .inl ⟨h1, .inl ⟨h2.1, Tab.dec_elim h2.2⟩⟩
                · exact .inl ⟨h1, .inr ⟨a, h', h2, h3, Tab.dec_elim h4⟩⟩
                · exact .inr ⟨h1, h2, h3, h6, old, h4, fun c' hc' => Tab.dec_elim (h5 c' hc')⟩
              · exact hh.elim
            · exact hh.elim
          · exact hh.elim
        · rename_i hn
          split at hh
          · rename_i i hi
            split at hh
            · rename_i z hz
              split at hh
              · refine append_hwp h0 h1 hu hd (fun k hk => hn k hk) hi hz ?_
                obtain ⟨m, xs, hs, hh⟩ := hh
                refine ⟨m, xs, hs, ?_⟩
                rcases hh with ⟨h1, h2 | ⟨a, h', h2, h3, h4⟩⟩ | ⟨h1, h2, h3, old, h4, h5⟩
                · exact .inl ⟨h1, .inl ⟨h2.1, Tab.dec_elim h2.2⟩⟩
                · exact .inl ⟨h1, .inr ⟨a, h', h2, h3, Tab.dec_elim h4⟩⟩
                · exact .inr ⟨h1, h2, h3, old, h4, fun c' hc' => Tab.dec_elim (h5 c' hc')⟩
              · exact hh.elim
            · exact hh.elim
          · exact hh.elim
      · exact hh.elim
    · exact hh.elim
  · refine hwp_v ?_
    split at hh
    · exact hwp_bind (minV_hwp (P := P) (K := fun v h' => Hwp P (pure v) h' _) hh)
    · refine hwp_bind (minV_hwp (P := P) ?_)
      unfold minV at hh ⊢
      split at hh
      · refine hwp_bind (minV_hwp (P := P) ?_); exact hh
      · exact hh.elim
    · refine hwp_bind (minV_hwp (P := P) ?_)
      unfold minV at hh ⊢
      split at hh
      · refine hwp_bind (minV_hwp (P := P) ?_)
        unfold minV
        simp only at hh ⊢
        split at hh
        · refine hwp_bind (minV_hwp (P := P) ?_); exact hh
        · exact hh.elim
      · exact hh.elim
    · exact hh.elim
  · refine hwp_v ?_
    split at hh
    · exact hwp_bind (maxV_hwp (P := P) (K := fun v h' => Hwp P (pure v) h' _) hh)
    · refine hwp_bind (maxV_hwp (P := P) ?_)
      unfold maxV at hh ⊢
      split at hh
      · refine hwp_bind (maxV_hwp (P := P) ?_); exact hh
      · exact hh.elim
    · refine hwp_bind (maxV_hwp (P := P) ?_)
      unfold maxV at hh ⊢
      split at hh
      · refine hwp_bind (maxV_hwp (P := P) ?_)
        unfold maxV
        simp only at hh ⊢
        split at hh
        · refine hwp_bind (maxV_hwp (P := P) ?_); exact hh
        · exact hh.elim
      · exact hh.elim
    · exact hh.elim
  · exact hwp_v (gen_dec hh)
  · exact hwp_v (gen_dec hh)
  · exact hwp_v (gen_dec hh)
  · exact hh.elim
end
end Go.Hw
