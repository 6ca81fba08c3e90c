/- The forward reading of one operation is sound for the machine's own operation. -/
import Derived.Test.YtklobcelbpjjcacHwF
namespace Go.Hw
open Go
section
variable {P : Program} {T : Tab} {h : Heap}

theorem wrap_nat {n : Int} (h0 : 0 ≤ n) (h1 : n ≤ 9223372036854775807) : IntKind.i64.wrap n = n := by
  have e : n % (2 ^ 64 : Int) = n := Int.emod_eq_of_lt h0 (by omega)
  simp only [IntKind.wrap, IntKind.signed, IntKind.bits, e, Bool.true_and]
  rw [if_neg]
  simp only [decide_eq_true_eq]
  omega

theorem part_hwp {t : TypeId} {s off : Nat} {g : Bool} {cs : Array Value} {u : Value} {K : Value → Heap → Prop} (hl : lay P t = some (s, g)) (hf : fldv g s off (.agg cs) = some u) (hk : K u h) : Hwp P (part t cs off) h K := by
  obtain ⟨i, d, hi, hd, rfl, rfl⟩ := lay_spec hl
  unfold part
  refine hwp_bind (hwp_isAgg hd ?_)
  cases hg : isAggD d with
  | true =>
    rw [hg] at hf
    cases hf
    exact hwp_bind (hwp_sizeOf hi (hwp_pure (P := P) hk))
  | false =>
    rw [hg] at hf
    simp only [Bool.false_eq_true, if_false]
    have hf : cs[off]? = some u := hf
    rw [hf]
    exact hk

theorem fldv_agg {g : Bool} {s off : Nat} {x u : Value} (hf : fldv g s off x = some u) : ∃ cs, x = .agg cs := by
  cases x <;> simp only [fldv, reduceCtorEq] at hf
  exact ⟨_, rfl⟩

theorem storeVar_hwp {t : TypeId} {a : Addr} {v : Value} {i : TypeInfo} {h' : Heap} {K : Unit → Heap → Prop} (hi : P.info? t = some i) (hs : v.cells.size = i.size) (hst : stH h a v.cells.toList 0 = some h') (hk : K () h') : Hwp P (storeVar t a v) h K := by
  unfold storeVar
  refine hwp_bind (hwp_sizeOf hi ?_)
  rw [if_neg (by simp [hs])]
  exact hwp_storeCells _ _ 0 hst hk

theorem optV_spec {ρ : Operand → Option Value} {ρ' : Operand → Value} (hρ : ∀ x v, ρ x = some v → ρ' x = v) {o : Option Operand} {r : Option Value} (ho : optV ρ o = some r) : o.map ρ' = r := by
  cases o with
  | none => cases ho; rfl
  | some x =>
    simp only [optV] at ho
    split at ho
    · rename_i v hv; cases ho; rw [Option.map_some, hρ _ _ hv]
    · cases ho

theorem mapM_places {fs : Array Field} (hall : (fs.toList.all fun f => (P.info? f.type).isSome) = true) {K : Array (Nat × Nat) → Heap → Prop}
    (hk : K (fs.map fun f => (f.offset, ((P.info? f.type).map (·.size)).getD 0)) h) : Hwp P (fs.mapM fun f => do pure (f.offset, ← sizeOf f.type)) h K := by
  rw [Array.mapM_eq_mapM_toList]
  show Hwp P (List.toArray <$> _) h K
  have key : ∀ (l : List Field) (K : List (Nat × Nat) → Heap → Prop), (l.all fun f => (P.info? f.type).isSome) = true → K (l.map fun f => (f.offset, ((P.info? f.type).map (·.size)).getD 0)) h →
      Hwp P (l.mapM (m := Sem) fun f => do pure (f.offset, ← sizeOf f.type)) h K := by
    intro l
    induction l with
    | nil => intro K _ hk; exact hwp_pure (P := P) hk
    | cons f l ih =>
      intro K ha hk
      simp only [List.all_cons, Bool.and_eq_true] at ha
      obtain ⟨i, hi⟩ := Option.isSome_iff_exists.1 ha.1
      rw [List.mapM_cons]
      refine hwp_bind (hwp_bind (hwp_sizeOf hi (hwp_pure (P := P) ?_)))
      refine hwp_bind (ih _ ha.2 (hwp_pure (P := P) ?_))
      simpa [hi] using hk
  refine hwp_bind (key fs.toList _ hall (hwp_pure (P := P) ?_))
  have : (List.map (fun f => (f.offset, ((P.info? f.type).map (·.size)).getD 0)) fs.toList).toArray = fs.map fun f => (f.offset, ((P.info? f.type).map (·.size)).getD 0) := by apply Array.ext'; simp
  rw [this]; exact hk

theorem opEv_sound {ρ : Operand → Option Value} {ρ' : Operand → Value} (hρ : ∀ x v, ρ x = some v → ρ' x = v) {o : Oper} {K : Option Value → Heap → Prop} (hh : opEv P T ρ o h K) :
    Hwp P (execOp ρ' o) h (nextK P K) := by
  unfold opEv at hh
  unfold execOp
  cases ho : o.op with
  | move x => simp only [ho] at hh ⊢; obtain ⟨v, hv, hk⟩ := val_elim hh; rw [hρ x v hv]; exact hk
  | assign x => simp only [ho] at hh ⊢; obtain ⟨v, hv, hk⟩ := val_elim hh; rw [hρ x v hv]; exact hk
  | pick c a b =>
    simp only [ho] at hh ⊢
    split at hh
    · rename_i t hc
      rw [hρ _ _ hc]
      refine hwp_bind (hwp_pure (P := P) (v := t) (hwp_pure (P := P) ?_))
      cases t <;> simp only [splitB] at hh <;> obtain ⟨v, hv, hk⟩ := val_elim hh <;> simp only [nextK, Bool.false_eq_true, if_false, if_true, hρ _ v hv] <;> exact hk
    · exact hh.elim
  | alloc t =>
    simp only [ho] at hh ⊢
    split at hh
    · rename_i z hz
      refine hwp_v ?_
      unfold Instr.alloc
      refine hwp_bind (hwp_zero hz ?_)
      exact hh
    · exact hh.elim
  | box t x =>
    simp only [ho] at hh ⊢
    obtain ⟨v, hv, hk⟩ := val_elim hh
    rw [hρ x v hv]
    exact hwp_v hk
  | build t parts =>
    simp only [ho] at hh ⊢
    refine hwp_v ?_
    unfold Instr.build
    split at hh
    · rename_i z hz
      refine hwp_bind (hwp_zero hz ?_)
      have hmap : ∀ (parts : Array (Nat × Operand)), (parts.map fun x => match x with | (i, x) => (i, ρ' x)).toList = parts.toList.map fun (i, x) => (i, ρ' x) := fun parts => by simp
      split at hh
      · rename_i fs hu
        refine hwp_bind (hwp_underlying hu ?_)
        split at hh
        · rename_i l hl
          split at hh
          · rename_i hall
            refine hwp_bind (mapM_places hall ?_)
            obtain ⟨cs, h1, h2⟩ := fillEv_spec ((fs.map fun f => (f.offset, ((P.info? f.type).map (·.size)).getD 0))[·]?) (placeF P fs) (fun i o s g hp => by
              unfold placeF at hp
              split at hp
              · rename_i f hf
                split at hp
                · rename_i s' g' hl
                  cases hp
                  obtain ⟨inf, d, hi, _, rfl, _⟩ := lay_spec hl
                  simp [hf, hi]
                · cases hp
              · cases hp) hρ _ _ _ _ _ (by simp) hl hh
            rw [hmap]
            have e : z.cells.toList.toArray = z.cells := by simp
            rw [e] at h1
            simp only [h1]
            exact h2
          · exact hh.elim
        · exact hh.elim
      · rename_i n elem hu
        refine hwp_bind (hwp_underlying hu ?_)
        split at hh
        · rename_i s g hlay
          obtain ⟨inf, d, hi, _, rfl, _⟩ := lay_spec hlay
          split at hh
          · rename_i l hl
            refine hwp_bind (hwp_sizeOf hi ?_)
            obtain ⟨cs, h1, h2⟩ := fillEv_spec (fun i => some (i * inf.size, inf.size)) (fun i => some (i * inf.size, inf.size, g)) (fun i o s g hp => by cases hp; rfl) hρ _ _ _ _ _ (by simp) hl hh
            rw [hmap]
            have e : z.cells.toList.toArray = z.cells := by simp
            rw [e] at h1
            simp only [h1]
            exact h2
          · exact hh.elim
        · exact hh.elim
      · exact hh.elim
    · exact hh.elim
  | buildSlice t len parts =>
    simp only [ho] at hh ⊢
    refine hwp_v ?_
    unfold Instr.buildSlice
    have hmap : ∀ (parts : Array (Nat × Operand)), (parts.map fun x => match x with | (i, x) => (i, ρ' x)).toList = parts.toList.map fun (i, x) => (i, ρ' x) := fun parts => by simp
    split at hh
    · rename_i elem hu
      refine hwp_bind (hwp_underlying hu ?_)
      split at hh
      · rename_i s g hlay
        obtain ⟨inf, d, hi, _, rfl, _⟩ := lay_spec hlay
        refine hwp_bind (hwp_sizeOf hi ?_)
        split at hh
        · rename_i hb
          have hb' : len * inf.size ≤ 16777216 := Nat.le_of_ble_eq_true hb
          rw [if_neg (by omega)]
          split at hh
          · rename_i z hz
            split at hh
            · rename_i l hl
              obtain ⟨cs, h1, h2⟩ := fillEv_spec (fun i => some (i * inf.size, inf.size)) (fun i => some (i * inf.size, inf.size, g)) (fun i o s g hp => by cases hp; rfl) hρ _ _ _ _ _ (by simp [mkCells]) hl hh
              have e1 : ∀ zc : Array Value, (0 < len * inf.size → zc = z.cells) → (Array.range (len * inf.size)).map (zc[· % zc.size]!) = mkCells z.cells (len * inf.size) := fun zc hzc => by
                unfold mkCells
                rcases Nat.eq_zero_or_pos (len * inf.size) with h0 | h0
                · rw [h0]; simp
                · rw [hzc h0]
              have e : (mkCells z.cells (len * inf.size)).toList.toArray = mkCells z.cells (len * inf.size) := by simp
              rw [e] at h1
              by_cases h0 : len * inf.size = 0
              · refine Hwp.mono (P := P) (if len * inf.size = 0 then _ else _) (fun _ _ k => k) ?_
                rw [if_pos h0]
                refine hwp_bind (hwp_pure (P := P) ?_)
                simp only []
                rw [hmap, e1 #[] (fun h => by omega), h1]
                exact h2
              · refine Hwp.mono (P := P) (if len * inf.size = 0 then _ else _) (fun _ _ k => k) ?_
                rw [if_neg h0]
                refine hwp_bind (hwp_zero hz (hwp_bind (hwp_pure (P := P) ?_)))
                simp only []
                rw [hmap, e1 z.cells (fun _ => rfl), h1]
                exact h2
            · exact hh.elim
          · exact hh.elim
        · exact hh.elim
      · exact hh.elim
    · exact hh.elim
  | load t x =>
    simp only [ho] at hh ⊢
    refine hwp_v ?_
    split at hh
    · rename_i s g hl
      split at hh
      · rename_i p hp
        obtain ⟨a, rfl, v, hv, hk⟩ := ptrOk_elim hh
        rw [hρ _ _ hp]
        exact hwp_bind (hwp_pure (P := P) (v := a) (hwp_loadVar hl hv (Tab.dec_elim hk)))
      · exact hh.elim
    · exact hh.elim
  | store t x y =>
    simp only [ho] at hh ⊢
    refine hwp_u ?_
    split at hh
    · rename_i s g hl
      obtain ⟨inf, d, hi, _, rfl, _⟩ := lay_spec hl
      split at hh
      · rename_i p hp
        obtain ⟨v, hv, hh⟩ := val_elim hh
        obtain ⟨a, rfl, hh⟩ := ptrOk_elim hh
        rw [hρ _ _ hp, hρ _ _ hv]
        refine hwp_bind (hwp_pure (P := P) (v := a) ?_)
        split at hh
        · obtain ⟨vs, rfl, hvs, h', hst, hk⟩ := hh
          exact storeVar_hwp hi (by simpa [Value.cells] using hvs) (by simpa [Value.cells] using hst) hk
        · split at hh
          · rename_i hs
            have hs' := Nat.eq_of_beq_eq_true hs
            obtain ⟨h', hst, hk⟩ := hh
            have hc := st1_cells hst
            refine storeVar_hwp hi (by rw [hc, hs']; rfl) (h' := h') ?_ hk
            rw [hc]
            show (match st1 h (a.add 0) v with | some h' => some h' | none => none) = some h'
            rw [Addr.add_zero, hst]
          · exact hh.elim
      · exact hh.elim
    · exact hh.elim
  | nilCheck x =>
    simp only [ho] at hh ⊢
    split at hh
    · rename_i p hp
      obtain ⟨a, rfl, hk⟩ := ptrOk_elim hh
      rw [hρ _ _ hp]
      exact hk
    · rename_i f first captured hp
      rw [hρ _ _ hp]
      exact hh
    · exact hh.elim
    · exact hh.elim
    · exact hh.elim
    · exact hh.elim
    · rename_i v n1 n2 n3 n4 n5 hp
      rw [hρ _ _ hp]
      cases v <;> first | exact hh | exact absurd rfl (n1 _) | exact absurd rfl (n3 _ _ _) | exact absurd rfl n4 | exact absurd rfl n5
  | binOp op t x y yt =>
    simp only [ho] at hh ⊢
    obtain ⟨a, ha, hh⟩ := val_elim hh
    obtain ⟨b, hb, hh⟩ := val_elim hh
    rw [hρ _ _ ha, hρ _ _ hb]
    exact hwp_v (binEv_hwp hh)
  | unOp op t x =>
    simp only [ho] at hh ⊢
    refine hwp_v ?_
    split at hh
    · rename_i b hb; rw [hρ _ _ hb]; exact hh
    · rename_i k n hb; rw [hρ _ _ hb]; exact hh
    · rename_i k n hb
      rw [hρ _ _ hb]
      show Hwp P (Op.intBits .xor k (if k.signed then -1 else k.max) n) h _
      cases hs : k.signed with
      | true => rw [hs] at hh; exact hh
      | false => rw [hs] at hh; exact hh
    · exact hh.elim
  | convert src dst x =>
    simp only [ho] at hh ⊢
    refine hwp_v ?_
    split at hh
    · rename_i sd k hu hd
      split at hh
      · split at hh
        · rename_i kk n hn
          rw [hρ _ _ hn]
          unfold convert
          exact hwp_bind (hwp_underlying hu (hwp_bind (hwp_underlying hd hh)))
        · exact hh.elim
      · exact hh.elim
    · rename_i hu hd
      split at hh
      · rename_i s hs
        rw [hρ _ _ hs]
        unfold convert
        exact hwp_bind (hwp_underlying hu (hwp_bind (hwp_underlying hd (hwp_pure (P := P) hh))))
      · exact hh.elim
    · obtain ⟨v, hv, hh⟩ := val_elim hh
      rw [hρ _ _ hv]
      exact gen_dec hh
    · exact hh.elim
  | makeInterface t x =>
    simp only [ho] at hh ⊢
    obtain ⟨v, hv, hh⟩ := val_elim hh
    rw [hρ _ _ hv]
    exact hwp_v hh
  | makeFunc fn first captured =>
    simp only [ho] at hh ⊢
    split at hh
    · rename_i a b ha hb
      rw [valsOf_arr hρ ha, valsOf_arr hρ hb]
      exact hwp_v (hwp_pure (P := P) hh)
    · exact hh.elim
  | makeMap t r =>
    simp only [ho] at hh ⊢
    split at hh
    · rename_i r' hr
      rw [optV_spec hρ hr]
      exact hwp_v hh
    · exact hh.elim
  | makeSlice t l c =>
    simp only [ho] at hh ⊢
    refine hwp_v ?_
    unfold Instr.makeSlice
    split at hh
    · rename_i elem hu
      refine hwp_bind (hwp_underlying hu ?_)
      split at hh
      · rename_i i hi
        split at hh
        · rename_i z hz
          split at hh
          · rename_i k l k' c hl hc
            obtain ⟨h1, h2, h3, h4, hk⟩ := hh
            rw [hρ _ _ hl, hρ _ _ hc]
            refine hwp_bind (hwp_bind (hwp_pure (P := P) (v := (k, l)) (hwp_pure (P := P) ?_)))
            refine hwp_bind (hwp_bind (hwp_pure (P := P) (v := (k', c)) (hwp_pure (P := P) ?_)))
            refine hwp_bind (hwp_typeInfo hi ?_)
            have wl : IntKind.i64.wrap l = l := wrap_nat h1 (by omega)
            have wc : IntKind.i64.wrap c = c := wrap_nat (by omega) h4
            have hb : ¬ ((i.bytes : Int) * c > 2 ^ 48) := by rw [Int.mul_comm]; omega
            simp only [wl, wc]
            rw [if_neg (by simp; omega)]
            refine hwp_bind ?_
            have hroom : ∀ (n : Nat) (K : Unit → Heap → Prop), K () h → Hwp P (askRoom n) h K := fun n K hk => by
              unfold askRoom
              split <;> exact hk
            refine hroom _ _ ?_
            refine hwp_bind (hwp_sizeOf hi ?_)
            have hzero : zeroOf P elem = some z := by unfold zeroOf; rw [hi]; exact hz
            have e1 : ∀ zc : Array Value, (0 < c.toNat * i.size → zc = z.cells) → (Array.range (c.toNat * i.size)).map (zc[· % zc.size]!) = mkCells z.cells (c.toNat * i.size) := fun zc hzc => by
              unfold mkCells
              rcases Nat.eq_zero_or_pos (c.toNat * i.size) with h0 | h0
              · rw [h0]; simp
              · rw [hzc h0]
            by_cases h0 : c.toNat * i.size = 0
            · refine Hwp.mono (P := P) (if c.toNat * i.size = 0 then _ else _) (fun _ _ k => k) ?_
              rw [if_pos h0]
              refine hwp_bind (hwp_pure (P := P) ?_)
              rw [e1 #[] (fun h => by omega)]
              exact hk
            · refine Hwp.mono (P := P) (if c.toNat * i.size = 0 then _ else _) (fun _ _ k => k) ?_
              rw [if_neg h0]
              refine hwp_bind (hwp_zero hzero (hwp_bind (hwp_pure (P := P) ?_)))
              rw [e1 z.cells (fun _ => rfl)]
              exact hk
          · exact hh.elim
        · exact hh.elim
      · exact hh.elim
    · exact hh.elim
  | slice t x lo hi mx =>
    simp only [ho] at hh ⊢
    refine hwp_v ?_
    obtain ⟨v, hv, hh⟩ := val_elim hh
    split at hh
    · rename_i lo' hlo
      split at hh
      · rename_i hi' hhi
        split at hh
        · rename_i mx' hmx
          rw [hρ _ _ hv, optV_spec hρ hlo, optV_spec hρ hhi, optV_spec hρ hmx]
          exact sliceEv_hwp hh
        · exact hh.elim
      · exact hh.elim
    · exact hh.elim
  | fieldAddr t x f =>
    simp only [ho] at hh ⊢
    refine hwp_v ?_
    unfold Instr.fieldAt
    split at hh
    · rename_i fs hu
      refine hwp_bind (hwp_underlying hu ?_)
      split at hh
      · rename_i fd hfd
        simp only [hfd]
        split at hh
        · rename_i i hi
          split at hh
          · rename_i hs
            split at hh
            · rename_i p hp
              obtain ⟨a, rfl, hk⟩ := ptrOk_elim hh
              rw [hρ _ _ hp]
              refine hwp_bind (hwp_pure (P := P) (v := a) ?_)
              unfold fieldPlace
              refine hwp_bind (hwp_bind (hwp_sizeOf hi ?_))
              rw [if_neg (by have := Nat.ne_of_beq_eq_false hs; exact this)]
              exact hk
            · exact hh.elim
          · exact hh.elim
        · exact hh.elim
      · exact hh.elim
    · exact hh.elim
  | field t x f =>
    simp only [ho] at hh ⊢
    refine hwp_v ?_
    unfold Instr.field
    split at hh
    · rename_i fs hu
      refine hwp_bind (hwp_underlying hu ?_)
      split at hh
      · rename_i fd hfd
        simp only [hfd]
        split at hh
        · rename_i s g hl
          obtain ⟨v, hv, u, hf, hk⟩ := val_elim hh
          obtain ⟨cs, rfl⟩ := fldv_agg hf
          rw [hρ _ _ hv]
          exact hwp_bind (hwp_pure (P := P) (v := cs) (part_hwp hl hf (Tab.dec_elim hk)))
        · exact hh.elim
      · exact hh.elim
    · exact hh.elim
  | indexAddr t x i =>
    simp only [ho] at hh ⊢
    refine hwp_v ?_
    unfold Instr.indexAt
    split at hh
    · rename_i elem hu
      split at hh
      · rename_i inf hi
        split at hh
        · rename_i a n c k j hx hj
          obtain ⟨b, rfl, h1, h2, hk⟩ := ptrOk_elim hh
          rw [hρ _ _ hx, hρ _ _ hj]
          refine hwp_bind (hwp_pure (P := P) (v := (k, j)) ?_)
          refine hwp_bind (hwp_underlying hu ?_)
          refine hwp_bind (hwp_pure (P := P) ?_)
          refine hwp_bind (hwp_underlying hu ?_)
          simp only []
          rw [if_pos ⟨h1, h2⟩]
          exact hwp_bind (hwp_sizeOf hi (hwp_pure (P := P) hk))
        · exact hh.elim
      · exact hh.elim
    · rename_i len elem hu
      split at hh
      · rename_i inf hi
        split at hh
        · rename_i p k j hx hj
          obtain ⟨b, rfl, h1, h2, hk⟩ := ptrOk_elim hh
          rw [hρ _ _ hx, hρ _ _ hj]
          refine hwp_bind (hwp_pure (P := P) (v := (k, j)) ?_)
          refine hwp_bind (hwp_underlying hu ?_)
          refine hwp_bind (hwp_pure (P := P) (v := b) ?_)
          refine hwp_bind (hwp_pure (P := P) ?_)
          refine hwp_bind (hwp_underlying hu ?_)
          simp only []
          rw [if_pos ⟨h1, h2⟩]
          exact hwp_bind (hwp_sizeOf hi (hwp_pure (P := P) hk))
        · exact hh.elim
      · exact hh.elim
    · exact hh.elim
  | index t x i =>
    simp only [ho] at hh ⊢
    refine hwp_v ?_
    unfold Instr.index
    split at hh
    · rename_i hu
      split at hh
      · rename_i s k j hx hj
        obtain ⟨h1, b, hb, hk⟩ := hh
        rw [hρ _ _ hx, hρ _ _ hj]
        refine hwp_bind (hwp_pure (P := P) (v := (k, j)) ?_)
        refine hwp_bind (hwp_underlying hu ?_)
        simp only [if_pos h1, hb]
        exact hk
      · exact hh.elim
    · rename_i len elem hu
      split at hh
      · rename_i s g hl
        obtain ⟨inf, d, hi, _, hs, _⟩ := lay_spec hl
        split at hh
        · rename_i k j hj
          obtain ⟨v, hv, h1, h2, u, hf, hk⟩ := val_elim hh
          obtain ⟨cs, rfl⟩ := fldv_agg hf
          rw [hρ _ _ hv, hρ _ _ hj]
          refine hwp_bind (hwp_pure (P := P) (v := (k, j)) ?_)
          refine hwp_bind (hwp_underlying hu ?_)
          simp only [if_pos (show 0 ≤ j ∧ j < (len : Int) from ⟨h1, h2⟩)]
          refine hwp_bind (hwp_sizeOf hi ?_)
          rw [hs]
          exact part_hwp hl hf (Tab.dec_elim hk)
        · exact hh.elim
      · exact hh.elim
    · exact hh.elim
  | lookup t x i ok =>
    simp only [ho] at hh ⊢
    obtain ⟨a, ha, hh⟩ := val_elim hh
    obtain ⟨b, hb, hh⟩ := val_elim hh
    rw [hρ _ _ ha, hρ _ _ hb]
    exact hwp_v (gen_dec hh)
  | mapUpdate t m k x =>
    simp only [ho] at hh ⊢
    obtain ⟨a, ha, hh⟩ := val_elim hh
    obtain ⟨b, hb, hh⟩ := val_elim hh
    obtain ⟨c, hc, hh⟩ := val_elim hh
    rw [hρ _ _ ha, hρ _ _ hb, hρ _ _ hc]
    exact hwp_u hh
  | insert t m k x =>
    simp only [ho] at hh ⊢
    obtain ⟨a, ha, hh⟩ := val_elim hh
    obtain ⟨b, hb, hh⟩ := val_elim hh
    obtain ⟨c, hc, hh⟩ := val_elim hh
    rw [hρ _ _ ha, hρ _ _ hb, hρ _ _ hc]
    exact hwp_u hh
  | range t x =>
    simp only [ho] at hh ⊢
    obtain ⟨a, ha, hh⟩ := val_elim hh
    rw [hρ _ _ ha]
    exact hwp_v hh
  | next x s =>
    simp only [ho] at hh ⊢
    obtain ⟨a, ha, hh⟩ := val_elim hh
    rw [hρ _ _ ha]
    exact hwp_v (gen_dec hh)
  | extract x i =>
    simp only [ho] at hh ⊢
    refine hwp_v ?_
    split at hh
    · rename_i vs hv
      split at hh
      · rename_i v hvi
        rw [hρ _ _ hv]
        unfold Instr.extract
        simp only [hvi]
        exact hh
      · exact hh.elim
    · exact hh.elim
  | call c =>
    simp only [ho] at hh ⊢
    unfold resolve
    split at hh
    · rename_i b hb
      simp only [hb]
      split at hh
      · rename_i vs hvs
        refine hwp_bind (hwp_pure (P := P) ?_)
        rw [valsOf_arr hρ hvs]
        exact builtEv_hwp hh
      · exact hh.elim
    · rename_i f hf
      simp only [hf]
      obtain ⟨fv, hfv, hh⟩ := val_elim hh
      split at hh
      · rename_i vs hvs
        rw [valsOf_arr hρ hvs, hρ _ _ hfv]
        refine hwp_callF ?_
        unfold CallF at hh ⊢
        split at hh
        · split at hh
          · rename_i hc
            skip
            exact hh.mono fun _ _ k => Tab.dec_elim k
          · exact ExtF.mono hh fun _ _ k => Tab.dec_elim k
        · exact hh.elim
      · exact hh.elim
    · exact hh.elim
  | _ => simp only [ho] at hh
end
end Go.Hw
