/- The forward reading of one operation is sound for the machine's own operation. -/
import Derived.Test.YtklobcelbpjjcacHwB
namespace Go.Hw
open Go

def nextK (P : Program) (K : Option Value → Heap → Prop) : Next → Heap → Prop
  | .value v, h => K (some v) h
  | .skip, h => K none h
  | .enter f args, h => Run P f args h fun v h' => K (some v) h'
  | _, _ => False

section
variable {P : Program} {T : Tab} {h : Heap}

theorem Sh.dec_elim {s : Sh} {v : Value} {K : Value → Prop} (hh : s.dec v K) : K v := by
  cases s <;> simp only [Sh.dec] at hh
  · obtain ⟨x, rfl, k⟩ := hh; exact k
  · obtain ⟨x, rfl, k⟩ := hh; exact k
  · obtain ⟨x, rfl, k⟩ := hh; exact k
  · obtain ⟨x, y, z, rfl, k⟩ := hh; exact k
  · obtain ⟨x, rfl, k⟩ := hh; exact k
  · exact hh

theorem decs_elim (ss : List Sh) : ∀ {K : List Value → Prop}, decs ss K → ∃ vs, K vs := by
  induction ss with
  | nil => exact fun h => ⟨_, h⟩
  | cons s ss ih =>
    intro K hh
    cases s <;> simp only [decs] at hh
    · obtain ⟨x, k⟩ := hh; obtain ⟨vs, k⟩ := ih k; exact ⟨_, k⟩
    · obtain ⟨x, k⟩ := hh; obtain ⟨vs, k⟩ := ih k; exact ⟨_, k⟩
    · obtain ⟨x, k⟩ := hh; obtain ⟨vs, k⟩ := ih k; exact ⟨_, k⟩
    · obtain ⟨x, y, z, k⟩ := hh; obtain ⟨vs, k⟩ := ih k; exact ⟨_, k⟩
    · obtain ⟨x, k⟩ := hh; obtain ⟨vs, k⟩ := ih k; exact ⟨_, k⟩
    · obtain ⟨x, k⟩ := hh; obtain ⟨vs, k⟩ := ih k; exact ⟨_, k⟩

theorem Tab.dec_elim {t : Nat} {v : Value} {K : Value → Prop} (hh : T.dec t v K) : K v := by
  unfold Tab.dec at hh
  split at hh
  · exact Sh.dec_elim hh
  · split at hh
    · obtain ⟨vs, rfl, k⟩ := decs_elim _ hh; exact k
    · exact hh

theorem Run.mono {f : FuncId} {args : Array Value} {R R' : Value → Heap → Prop} (hh : Run P f args h R) (hr : ∀ v h, R v h → R' v h) : Run P f args h R' :=
  fun w hw => (hh w hw).mono fun _ _ ⟨v, he, k, s⟩ => ⟨v, he, hr _ _ k, s⟩

/-! ### The model's small words -/
theorem hwp_bind {α β : Type} {s : Sem α} {f : α → Sem β} {K : β → Heap → Prop} (hh : Hwp P s h (fun v h' => Hwp P (f v) h' K)) : Hwp P (s >>= f) h K := Hwp.bind hh
theorem hwp_pure {α : Type} {v : α} {K : α → Heap → Prop} (hh : K v h) : Hwp P (pure v : Sem α) h K := hh
theorem hwp_typeInfo {t : TypeId} {i : TypeInfo} {K : TypeInfo → Heap → Prop} (hi : P.info? t = some i) (hh : K i h) : Hwp P (typeInfo t) h K := by
  show Hwp P (match P.info? t with | some i => pure i | none => stuck "no such type") h K
  rw [hi]; exact hh
theorem hwp_underlying {t : TypeId} {d : TypeDesc} {K : TypeDesc → Heap → Prop} (hi : P.underlying t = some d) (hh : K d h) : Hwp P (underlying t) h K := by
  show Hwp P (match P.underlying t with | some i => pure i | none => stuck "no such type") h K
  rw [hi]; exact hh
theorem hwp_sizeOf {t : TypeId} {i : TypeInfo} {K : Nat → Heap → Prop} (hi : P.info? t = some i) (hh : K i.size h) : Hwp P (sizeOf t) h K :=
  hwp_bind (hwp_typeInfo hi hh)
theorem hwp_isAgg {t : TypeId} {d : TypeDesc} {K : Bool → Heap → Prop} (hi : P.underlying t = some d) (hh : K (isAggD d) h) : Hwp P (isAgg t) h K := by
  refine hwp_bind (hwp_underlying hi ?_)
  cases d <;> exact hh
theorem hwp_zero {t : TypeId} {z : Value} {K : Value → Heap → Prop} (hi : zeroOf P t = some z) (hh : K z h) : Hwp P (zeroValue t) h K := by
  unfold zeroOf at hi
  split at hi
  · rename_i i he
    refine hwp_bind (hwp_typeInfo he ?_)
    rw [hi]; exact hh
  · cases hi
theorem hwp_program {K : Program → Heap → Prop} (hh : K P h) : Hwp P program h K := hh
theorem lay_spec {t : TypeId} {s : Nat} {g : Bool} (hl : lay P t = some (s, g)) : ∃ i d, P.info? t = some i ∧ P.underlying t = some d ∧ i.size = s ∧ isAggD d = g := by
  unfold lay at hl
  split at hl
  · rename_i i hi
    split at hl
    · rename_i d hd
      cases hl
      exact ⟨i, d, hi, hd, rfl, rfl⟩
    · cases hl
  · cases hl

theorem hwp_loadCellsFrom (a : Addr) : ∀ (n i : Nat) (acc : Array Value) (vs : List Value) (K : Array Value → Heap → Prop), cellsH h a i n = some vs → K (acc ++ vs.toArray) h → Hwp P (loadCellsFrom a i n acc) h K := by
  intro n
  induction n with
  | zero => intro i acc vs K hc hk; cases hc; simpa [loadCellsFrom] using hwp_pure (P := P) (by simpa using hk)
  | succ n ih =>
    intro i acc vs K hc hk
    unfold cellsH at hc
    split at hc
    · rename_i v hv
      split at hc
      · rename_i ws hw
        cases hc
        refine hwp_bind ⟨v, hv, ?_⟩
        refine ih (i + 1) (acc.push v) ws K hw ?_
        have : acc.push v ++ ws.toArray = acc ++ (v :: ws).toArray := by apply Array.ext'; simp
        rw [this]; exact hk
      · cases hc
    · cases hc

theorem hwp_loadCells {a : Addr} {n : Nat} {vs : List Value} {K : Array Value → Heap → Prop} (hc : cellsH h a 0 n = some vs) (hk : K vs.toArray h) : Hwp P (loadCells a n) h K :=
  hwp_loadCellsFrom a n 0 #[] vs K hc (by simpa using hk)

theorem hwp_loadVar {t : TypeId} {a : Addr} {s : Nat} {g : Bool} {v : Value} {K : Value → Heap → Prop} (hl : lay P t = some (s, g)) (hv : ldv g s h a = some v) (hk : K v h) : Hwp P (loadVar t a) h K := by
  obtain ⟨i, d, hi, hd, rfl, rfl⟩ := lay_spec hl
  refine hwp_bind (hwp_isAgg hd ?_)
  cases hg : isAggD d with
  | true =>
    rw [hg] at hv
    simp only [ldv, Option.map_eq_some_iff] at hv
    obtain ⟨vs, hvs, rfl⟩ := hv
    simp only [if_true]
    exact hwp_bind (hwp_sizeOf hi (hwp_bind (hwp_loadCells hvs (hwp_pure hk))))
  | false =>
    rw [hg] at hv
    simp only [ldv] at hv
    simp only [Bool.false_eq_true, if_false]
    exact ⟨v, hv, hk⟩

theorem st1_spec {a : Addr} {v : Value} {h' : Heap} (hs : st1 h a v = some h') : oneCell v ((cellH h a).isSome = true ∧ frozenH h a = false ∧ h' = setH h a v) := by
  cases v <;> simp only [st1, oneCell, Option.ite_none_right_eq_some, reduceCtorEq, Option.some.injEq] at hs ⊢
  all_goals exact ⟨hs.1.1, hs.1.2, hs.2.symm⟩

theorem hwp_store {a : Addr} {v : Value} {h' : Heap} {K : Unit → Heap → Prop} (hs : st1 h a v = some h') (hk : K () h') : Hwp P (store a v) h K := by
  have := st1_spec hs
  show oneCell v _
  cases v <;> simp only [oneCell] at this ⊢ <;> first | exact this.elim | (obtain ⟨h1, h2, rfl⟩ := this; exact ⟨h1, h2, hk⟩)

theorem hwp_storeCells (a : Addr) (vs : List Value) : ∀ {h : Heap} (i : Nat) {h' : Heap} {K : Unit → Heap → Prop}, stH h a vs i = some h' → K () h' → Hwp P (storeCells a vs i) h K := by
  induction vs with
  | nil => intro h i h' K hs hk; cases hs; exact hk
  | cons v vs ih =>
    intro h i h' K hs hk
    simp only [stH] at hs
    split at hs
    · rename_i h1 h1s
      exact hwp_bind (hwp_store h1s (ih (i + 1) hs hk))
    · cases hs

theorem oneCell_elim {v : Value} {K : Prop} (hh : oneCell v K) : K ∧ v.cells = #[v] := by
  cases v <;> simp only [oneCell] at hh <;> first | exact hh.elim | exact ⟨hh, rfl⟩

theorem st1_cells {a : Addr} {v : Value} {h' : Heap} (hs : st1 h a v = some h') : v.cells = #[v] := (oneCell_elim (st1_spec hs)).2

theorem Addr.add_zero (a : Addr) : a.add 0 = a := rfl

theorem hwp_valsOf {ρ : Operand → Option Value} {ρ' : Operand → Value} (hρ : ∀ x v, ρ x = some v → ρ' x = v) : ∀ (l : List Operand) (vs : List Value), valsOf ρ l = some vs → l.map ρ' = vs := by
  intro l
  induction l with
  | nil => intro vs hv; cases hv; rfl
  | cons x l ih =>
    intro vs hv
    simp only [valsOf] at hv
    split at hv
    · rename_i v hv1
      split at hv
      · rename_i ws hw
        cases hv
        rw [List.map_cons, hρ x v hv1, ih ws hw]
      · cases hv
    · cases hv

theorem valsOf_arr {ρ : Operand → Option Value} {ρ' : Operand → Value} (hρ : ∀ x v, ρ x = some v → ρ' x = v) {l : Array Operand} {vs : List Value} (hv : valsOf ρ l.toList = some vs) : l.map ρ' = vs.toArray := by
  apply Array.ext'
  rw [Array.toList_map, hwp_valsOf hρ _ _ hv]

theorem val_elim {x : Option Value} {K : Value → Prop} (hh : val x K) : ∃ v, x = some v ∧ K v := by
  cases x with
  | none => exact hh.elim
  | some v => exact ⟨v, rfl, hh⟩
theorem ptrOk_elim {x : Option Addr} {K : Addr → Prop} (hh : ptrOk x K) : ∃ v, x = some v ∧ K v := by
  cases x with
  | none => exact hh.elim
  | some v => exact ⟨v, rfl, hh⟩

theorem kindB_spec {k k' : IntKind} (hh : kindB k k' = true) : k = k' := by cases k <;> cases k' <;> simp_all [kindB]

theorem hwp_callFunc {f : FuncId} {args : Array Value} {K : Option Value → Heap → Prop} (hc : calleeOk P f = true) (hr : Run P f args h fun v h' => K (some v) h') : Hwp P (callFunc f args) h (nextK P K) := by
  unfold calleeOk at hc
  split at hc
  · rename_i fn hf
    simp only [Bool.and_eq_true, Bool.not_eq_true'] at hc
    show Hwp P (match P.funcs[f]? with | none => _ | some fn => _) h _
    rw [hf]
    simp only [hc.1, hc.2, Bool.false_eq_true, if_false]
    exact hr
  · cases hc

theorem hwp_callExt {f : FuncId} {args : Array Value} {K : Option Value → Heap → Prop} (hh : ExtF P f args h fun v h' => K (some v) h') : Hwp P (callFunc f args) h (nextK P K) := by
  obtain ⟨fn, e, h1, h2, h3, h4, h5, h6⟩ := hh
  show Hwp P (match P.funcs[f]? with | none => _ | some fn => _) h _
  rw [h1]
  simp only [h2, h3, h4, h5, Bool.false_eq_true, if_false, if_true]
  exact hwp_bind (s := e args) h6
theorem hwp_callF {f : Value} {args : List Value} {K : Option Value → Heap → Prop} (hh : CallF P f args h fun v h' => K (some v) h') :
    Hwp P (do let d ← Deferred.ofValue f args.toArray; invoke d.target d.args) h (nextK P K) := by
  unfold CallF at hh
  split at hh
  · split at hh
    · rename_i f first captured _ hc
      show Hwp P (callFunc f (first ++ args.toArray ++ captured)) h _
      refine hwp_callFunc hc ?_
      have : first ++ args.toArray ++ captured = (first.toList ++ args ++ captured.toList).toArray := by apply Array.ext'; simp
      rw [this]; exact hh
    · rename_i f first captured _ hc
      show Hwp P (callFunc f (first ++ args.toArray ++ captured)) h _
      refine hwp_callExt ?_
      have : first ++ args.toArray ++ captured = (first.toList ++ args ++ captured.toList).toArray := by apply Array.ext'; simp
      rw [this]; exact hh
  · exact hh.elim

theorem fillEv_spec (place : Nat → Option (Nat × Nat)) (place' : Nat → Option (Nat × Nat × Bool)) (hp : ∀ i o s g, place' i = some (o, s, g) → place i = some (o, s))
    {ρ : Operand → Option Value} {ρ' : Operand → Value} (hρ : ∀ x v, ρ x = some v → ρ' x = v) (n : Nat) : ∀ (parts : List (Nat × Operand)) (l : List (Nat × Nat × Bool × Value)) (cells : List Value) (K : List Value → Prop),
      cells.length = n → partsOf ρ place' parts = some l → fillEv n cells l K → ∃ cs : List Value, Instr.fill place cells.toArray (parts.map fun (i, x) => (i, ρ' x)) = some cs.toArray ∧ K cs := by
  intro parts
  induction parts with
  | nil => intro l cells K _ hl hf; cases hl; exact ⟨cells, rfl, hf⟩
  | cons p parts ih =>
    obtain ⟨i, x⟩ := p
    intro l cells K hn hl hf
    simp only [partsOf] at hl
    split at hl
    · rename_i o s g hpl
      split at hl
      · rename_i v hv
        split at hl
        · rename_i l' hl'
          cases hl
          simp only [fillEv] at hf
          split at hf
          · exact hf.elim
          · rename_i hb
            have hb' : o + s ≤ n := Nat.le_of_ble_eq_true hb
            have hpl' := hp _ _ _ _ hpl
            simp only [List.map_cons, Instr.fill, hpl', hρ x v hv]
            split at hf
            · split at hf
              · rename_i hs
                have hs' : s = 1 := Nat.eq_of_beq_eq_true hs
                subst hs'
                obtain ⟨hf, hc⟩ := oneCell_elim hf
                obtain ⟨cs, h1, h2⟩ := ih l' (cells.set o v) K (by simpa using hn) hl' hf
                refine ⟨cs, ?_, h2⟩
                rw [hc, ← h1]
                simp [show ¬ cells.length < o + 1 by omega]
              · exact hf.elim
            · obtain ⟨vs, rfl, hvs, hf⟩ := hf
              have hlen : (cells.take o ++ vs ++ cells.drop (o + s)).length = n := by simp; omega
              obtain ⟨cs, h1, h2⟩ := ih l' _ K hlen hl' hf
              refine ⟨cs, ?_, h2⟩
              have key : ∀ (vs : List Value) (o k : Nat) (cells : List Value), o + k + vs.length ≤ cells.length →
                  (vs.zipIdx k).foldl (fun cs (c, j) => cs.setIfInBounds (o + j) c) cells.toArray = (cells.take (o + k) ++ vs ++ cells.drop (o + k + vs.length)).toArray := by
                intro vs
                induction vs with
                | nil => intro o k cells hle; simp
                | cons v vs ihv =>
                  intro o k cells hle
                  simp only [List.length_cons] at hle
                  rw [List.zipIdx_cons, List.foldl_cons]
                  simp only [List.setIfInBounds_toArray]
                  rw [ihv o (k + 1) (cells.set (o + k) v) (by simp; omega)]
                  congr 1
                  rw [List.take_set, List.drop_set_of_lt (by omega), show o + (k + 1) = o + k + 1 by omega, List.take_add_one, List.getElem?_eq_getElem (by omega)]
                  simp only [Option.toList_some, List.length_cons]
                  rw [List.set_append_right _ _ (by simp; omega)]
                  have : min (o + k) cells.length = o + k := by omega
                  simp [this]
                  congr 1
                  omega
              have hk := key vs o 0 cells (by omega)
              simp only [Nat.add_zero] at hk
              rw [← h1]
              simp only [Value.cells, List.size_toArray, hvs, ne_eq, not_true_eq_false, decide_false, Bool.false_or, decide_eq_true_eq]
              rw [if_neg (by omega), ← Array.foldl_toList, Array.toList_zipIdx, hk, hvs]
        · cases hl
      · cases hl
    · cases hl

end
end Go.Hw
