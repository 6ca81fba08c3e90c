/- The forward reading of one operation is sound for the machine's own operation: operation by operation. -/
import Derived.Test.YtklobcelbpjjcacHwC
namespace Go.Hw
open Go
section
variable {P : Program} {T : Tab} {h : Heap}

theorem hwp_v {s : Sem Value} {K : Option Value → Heap → Prop} (hh : Hwp P s h fun v h' => K (some v) h') : Hwp P (do pure (Next.value (← s))) h (nextK P K) :=
  hwp_bind (hh.mono _ fun _ _ k => k)
theorem hwp_u {s : Sem Unit} {K : Option Value → Heap → Prop} (hh : Hwp P s h fun _ h' => K none h') : Hwp P (do s; pure Next.skip) h (nextK P K) :=
  hwp_bind (hh.mono _ fun _ _ k => k)

theorem gen_dec {s : Sem Value} {t : Nat} {K : Option Value → Heap → Prop} (hh : Gen P s h fun v h' => T.dec t v fun u => K (some u) h') : Hwp P s h fun v h' => K (some v) h' :=
  Hwp.mono s (fun _ _ k => Tab.dec_elim k) hh

theorem eqGuard_no {op : BinOp} {t : TypeId} {x y : Operand} {a b : Value} {K : Unit → Heap → Prop} (hn : ∀ c d, ¬ (a = .nilIface ∧ b = .nilIface) ∧ ¬ (a = .agg c ∧ b = .agg d)) (hk : K () h) : Hwp P (eqGuard op t x y a b) h K := by
  unfold eqGuard
  cases op <;> first | exact hk | skip
  all_goals
    cases a <;> cases b <;> first | exact hk | exact ((hn #[] #[]).1 ⟨rfl, rfl⟩).elim | exact ((hn _ _).2 ⟨rfl, rfl⟩).elim

theorem intEv_hwp {op : BinOp} {t : TypeId} {k : IntKind} {a b : Int} {K : Value → Heap → Prop} (hh : intEv op k a b (K · h)) : Hwp P (binOp op t (.int k a) (.int k b)) h K := by
  cases op <;> simp only [intEv] at hh <;> simp only [binOp, ne_eq, not_true_eq_false, if_false, Op.intArith, Op.intCmp, Op.intBits, Op.intDiv, Op.shift]
  all_goals first
    | exact hh
    | (rw [if_neg hh.1]; exact hh.2)
    | (rw [if_neg (by omega)]; exact hh.2)

theorem shEv_hwp {op : BinOp} {t : TypeId} {k k' : IntKind} {a b : Int} {K : Value → Heap → Prop} (ho : op = .shl ∨ op = .shr) (hh : intEv op k a b (K · h)) : Hwp P (binOp op t (.int k a) (.int k' b)) h K := by
  rcases ho with rfl | rfl <;> simp only [intEv] at hh <;> simp only [binOp, Op.shift] <;> (rw [if_neg (by omega)]; exact hh.2)

theorem strEv_hwp {op : BinOp} {t : TypeId} {a b : ByteArray} {K : Value → Heap → Prop} (hh : strEv op a b (K · h)) : Hwp P (binOp op t (.string a) (.string b)) h K := by
  cases op <;> simp only [strEv] at hh <;> simp only [binOp, Op.stringOp]
  all_goals first
    | exact hh
    | exact hh.elim
    | (rw [if_neg (by have := hh.1; simp only [IntKind.max, IntKind.signed, IntKind.bits, if_true]; omega)]; exact hh.2)

theorem nilB_hwp {op : BinOp} {t : TypeId} {x y : Value} {b : Bool} {K : Value → Heap → Prop} (hb : Hwp P (binOp .eql t x y) h fun v h' => v = .bool b ∧ h' = h)
    (hne : Hwp P (binOp .neq t x y) h fun v h' => v = .bool (!b) ∧ h' = h) (hh : nilB op b (K · h)) : Hwp P (binOp op t x y) h K := by
  cases op <;> simp only [nilB] at hh <;> first | exact hh.elim | skip
  · exact hb.mono _ fun v _ ⟨hv, hp⟩ => by subst hv; subst hp; exact hh
  · exact hne.mono _ fun v _ ⟨hv, hp⟩ => by subst hv; subst hp; exact hh

theorem eq_hwp {t : TypeId} {x y : Value} {b : Bool} (hx : ∀ op, op = BinOp.eql ∨ op = BinOp.neq → binOp op t x y = (if op = .eql then (do pure (.bool (← Op.equal t x y))) else (do pure (.bool (!(← Op.equal t x y))))))
    (he : Hwp P (Op.equal t x y) h fun v h' => v = b ∧ h' = h) :
    Hwp P (binOp .eql t x y) h (fun v h' => v = .bool b ∧ h' = h) ∧ Hwp P (binOp .neq t x y) h (fun v h' => v = .bool (!b) ∧ h' = h) := by
  constructor
  · rw [hx .eql (.inl rfl)]
    exact hwp_bind (he.mono _ fun v h' ⟨h1, h2⟩ => by subst h1; subst h2; exact ⟨rfl, rfl⟩)
  · rw [hx .neq (.inr rfl)]
    exact hwp_bind (he.mono _ fun v h' ⟨h1, h2⟩ => by subst h1; subst h2; exact ⟨rfl, rfl⟩)

theorem genB_elim {op : BinOp} {v : Value} {K : Value → Prop} (hh : genB op v K) : K v := by
  unfold genB at hh
  split at hh
  · obtain ⟨b, rfl, k⟩ := hh; exact k
  · obtain ⟨b, rfl, k⟩ := hh; exact k
  · exact hh

theorem binEv_hwp {op : BinOp} {t : TypeId} {xo yo : Operand} {x y : Value} {K : Value → Heap → Prop} (hh : binEv P T op t xo yo x y h K) :
    Hwp P (do eqGuard op t xo yo x y; binOp op t x y) h K := by
  unfold binEv at hh
  split at hh
  · split at hh
    · rename_i k a k' b
      refine hwp_bind (eqGuard_no (fun _ _ => ⟨by simp, by simp⟩) ?_)
      cases op <;> simp only [] at hh
      all_goals first
        | exact (shEv_hwp (t := t) (P := P) (h := h) (k' := k') (.inl rfl) hh)
        | exact (shEv_hwp (t := t) (P := P) (h := h) (k' := k') (.inr rfl) hh)
        | (split at hh
           · rename_i hk
             have hk := kindB_spec hk
             subst hk
             exact intEv_hwp hh
           · exact hh.elim)
    · exact hh.elim
  · split at hh
    · refine hwp_bind (eqGuard_no (fun _ _ => ⟨by simp, by simp⟩) ?_)
      exact strEv_hwp hh
    · exact hh.elim
  · split at hh
    · rename_i hu
      split at hh
      · rename_i a b
        refine hwp_bind (eqGuard_no (fun _ _ => ⟨by simp, by simp⟩) ?_)
        have he : Hwp P (Op.equal t (.bool a) (.bool b)) h fun v h' => v = (a == b) ∧ h' = h := by
          unfold Op.equal Op.maxDepth Op.equalIn
          exact hwp_bind (hwp_underlying hu (hwp_pure ⟨rfl, rfl⟩))
        have h2 := eq_hwp (t := t) (x := .bool a) (y := .bool b) (fun op ho => by rcases ho with rfl | rfl <;> rfl) he
        exact nilB_hwp h2.1 h2.2 hh
      · exact hh.elim
    · exact hh.elim
  · split at hh
    · rename_i e hu
      split at hh
      · rename_i p
        refine hwp_bind (eqGuard_no (fun _ _ => ⟨by simp, by simp⟩) ?_)
        have he : Hwp P (Op.equal t (.pointer p) (.pointer none)) h fun v h' => v = p.isNone ∧ h' = h := by
          unfold Op.equal Op.maxDepth Op.equalIn
          refine hwp_bind (hwp_underlying hu ?_)
          cases p <;> exact hwp_pure ⟨rfl, rfl⟩
        have h2 := eq_hwp (t := t) (x := .pointer p) (y := .pointer none) (fun op ho => by rcases ho with rfl | rfl <;> cases p <;> rfl) he
        exact nilB_hwp h2.1 h2.2 hh
      · exact Hwp.mono _ (fun _ _ k => genB_elim k) hh
      · exact hh.elim
    · exact hh.elim
  · split at hh
    · rename_i e hu
      split at hh
      · rename_i a n c n' c'
        refine hwp_bind (eqGuard_no (fun _ _ => ⟨by simp, by simp⟩) ?_)
        have he : Hwp P (Op.equal t (.slice a n c) (.slice none n' c')) h fun v h' => v = a.isNone ∧ h' = h := by
          unfold Op.equal Op.maxDepth Op.equalIn
          refine hwp_bind (hwp_underlying hu ?_)
          cases a <;> exact hwp_pure ⟨rfl, rfl⟩
        have h2 := eq_hwp (t := t) (x := .slice a n c) (y := .slice none n' c') (fun op ho => by rcases ho with rfl | rfl <;> rfl) he
        exact nilB_hwp h2.1 h2.2 hh
      · exact hh.elim
    · exact hh.elim
  · exact Hwp.mono _ (fun _ _ k => genB_elim k) hh


theorem hwp_sliceBound {k : IntKind} {i : Int} {y : Nat} {code : BoundsCode} {K : Nat → Heap → Prop} (h1 : 0 ≤ i) (h2 : i ≤ y) (hk : K i.toNat h) : Hwp P (Instr.sliceBound (.int k i) y code) h K := by
  unfold Instr.sliceBound
  refine hwp_bind (hwp_pure (P := P) (v := (k, i)) ?_)
  show Hwp P (if 0 ≤ i ∧ i ≤ (y : Int) then pure i.toNat else boundsPanic k i y code) h _
  rw [if_pos ⟨h1, h2⟩]
  exact hk

theorem bndEv_elim {x : Option Value} {d : Nat} {C : Int → Prop} (hx : bndEv x d C) : ∃ i, C i ∧ ((x = none ∧ i = d) ∨ ∃ k, x = some (.int k i)) := by
  cases x with
  | none => exact ⟨_, hx, .inl ⟨rfl, rfl⟩⟩
  | some v => cases v <;> simp only [bndEv] at hx <;> first | exact hx.elim | exact ⟨_, hx, .inr ⟨_, rfl⟩⟩

theorem hwp_sliceBounds {is : Bool} {len cap : Nat} {lo hi mx : Option Value} {b e m : Int} {K : Nat × Nat × Nat → Heap → Prop}
    (hl : (lo = none ∧ b = 0) ∨ ∃ k, lo = some (.int k b)) (hh : (hi = none ∧ e = len) ∨ ∃ k, hi = some (.int k e)) (hm : (mx = none ∧ m = cap) ∨ ((∃ k, mx = some (.int k m)) ∧ ∃ v, hi = some v))
    (h1 : 0 ≤ b) (h2 : b ≤ e) (h3 : e ≤ m) (h4 : m ≤ cap) (hk : K (b.toNat, e.toNat, m.toNat) h) : Hwp P (Instr.sliceBounds is len cap lo hi mx) h K := by
  unfold Instr.sliceBounds
  rcases hm with ⟨rfl, rfl⟩ | ⟨⟨k, rfl⟩, v, hv⟩
  · refine hwp_bind (hwp_pure (P := P) ?_)
    rcases hh with ⟨rfl, rfl⟩ | ⟨k, rfl⟩
    · refine hwp_bind (hwp_pure (P := P) ?_)
      rcases hl with ⟨rfl, rfl⟩ | ⟨k, rfl⟩
      · exact hwp_bind (hwp_pure (P := P) hk)
      · exact hwp_bind (hwp_sliceBound h1 h2 hk)
    · refine hwp_bind (hwp_sliceBound (by omega) h3 ?_)
      rcases hl with ⟨rfl, rfl⟩ | ⟨k, rfl⟩
      · exact hwp_bind (hwp_pure (P := P) hk)
      · exact hwp_bind (hwp_sliceBound h1 (by omega) hk)
  · refine hwp_bind (hwp_sliceBound (by omega) h4 ?_)
    rcases hh with ⟨rfl, rfl⟩ | ⟨k, rfl⟩
    · cases hv
    · refine hwp_bind (hwp_sliceBound (by omega) (by omega) ?_)
      rcases hl with ⟨rfl, rfl⟩ | ⟨k, rfl⟩
      · exact hwp_bind (hwp_pure (P := P) hk)
      · exact hwp_bind (hwp_sliceBound h1 (by omega) hk)
end
end Go.Hw
