/- Structs: as elements of rows, as variables of their own, compared, and told out of a row's data. -/
import Derived.Test.YtklobcelbpjjcacHwQ
import Derived.Laws.StructEq
namespace Go.Hw
open Go Go.RowKit

/-- A struct whose cells are f x. -/
def eSt {α : Type} (f : α → List Value) (_ : Heap) (x : α) (cs : List Value) : Prop := cs = f x
theorem mono_st {α : Type} (f : α → List Value) : Mono (eSt f) := fun _ _ _ _ _ h => h

section
variable {α : Type} {sz : Nat} {E : Heap → α → List Value → Prop} {h h' : Heap} {A : Option Addr} {l : List α}
/-- Element i, a struct. -/
theorem Rd.agg {f : α → List Value} (hr : Rd sz (eSt f) h A l) {i : Nat} {x : Int} {n : Nat} {K : Value → Prop} (hx : x = i) (hn : n = l.length) (hi : i < l.length) (hk : K (.agg (f l[i]).toArray)) :
    ptrOk A fun a => 0 ≤ x ∧ x < ((n : Nat) : Int) ∧ (∃ v, ldv true sz h (a.add (Int.toNat x * sz)) = some v ∧ K v) :=
  hr.at hx hn hi fun a cs h1 h2 => ⟨_, by simp only [ldv, h1, Option.map_some, show cs = f l[i] from h2], hk⟩
theorem Rd.aggE (hr : Rd sz E h A l) {i : Nat} {x : Int} {n : Nat} {K : Value → Prop} (hx : x = i) (hn : n = l.length) (hi : i < l.length) (hk : ∀ cs, E h l[i] cs → K (.agg cs.toArray)) :
    ptrOk A fun a => 0 ≤ x ∧ x < ((n : Nat) : Int) ∧ (∃ v, ldv true sz h (a.add (Int.toNat x * sz)) = some v ∧ K v) :=
  hr.at hx hn hi fun a cs h1 h2 => ⟨_, by simp only [ldv, h1, Option.map_some], hk cs h2⟩
end

theorem cellsH_get {h : Heap} {a : Addr} : ∀ {n i : Nat} {cs : List Value} {k : Nat} {v : Value}, cellsH h a i n = some cs → cs[k]? = some v → cellH h (a.add (i + k)) = some v := by
  intro n
  induction n with
  | zero => intro i cs k v hc hv; simp only [cellsH, Option.some.injEq] at hc; subst hc; cases hv
  | succ n ih =>
    intro i cs k v hc hv
    simp only [cellsH] at hc
    split at hc
    · rename_i u hu
      split at hc
      · rename_i vs hvs
        cases hc
        cases k with
        | zero => cases hv; exact hu
        | succ k => rw [show i + (k + 1) = i + 1 + k by omega]; exact ih hvs (by simpa using hv)
      · cases hc
    · cases hc
section
variable {α : Type} {sz : Nat} {E : Heap → α → List Value → Prop} {h h' : Heap} {A : Option Addr} {l : List α}
/-- Cell k of element i. -/
theorem Rd.fld {f : α → List Value} (hr : Rd sz (eSt f) h A l) {i k : Nat} {x : Int} {n : Nat} {v : Value} {K : Value → Prop} (hx : x = i) (hn : n = l.length) (hi : i < l.length) (hv : (f l[i])[k]? = some v) (hk : K v) :
    ptrOk A fun a => 0 ≤ x ∧ x < ((n : Nat) : Int) ∧ (∃ v, ldv false 1 h ((a.add (Int.toNat x * sz)).add k) = some v ∧ K v) :=
  hr.at hx hn hi fun a cs h1 h2 => ⟨v, by have := cellsH_get h1 (by rw [show cs = f l[i] from h2]; exact hv); simpa [ldv] using this, hk⟩
theorem Rd.fld0 {f : α → List Value} (hr : Rd sz (eSt f) h A l) {i : Nat} {x : Int} {n : Nat} {v : Value} {K : Value → Prop} (hx : x = i) (hn : n = l.length) (hi : i < l.length) (hv : (f l[i])[0]? = some v) (hk : K v) :
    ptrOk A fun a => 0 ≤ x ∧ x < ((n : Nat) : Int) ∧ (∃ v, ldv false 1 h (a.add (Int.toNat x * sz)) = some v ∧ K v) :=
  hr.at hx hn hi fun a cs h1 h2 => ⟨v, by have := cellsH_get h1 (by rw [show cs = f l[i] from h2]; exact hv); simpa [ldv, add_add] using this, hk⟩
theorem cellsH_append {h : Heap} {a : Addr} : ∀ {m i n : Nat} {cs ds : List Value}, cellsH h a i m = some cs → cellsH h a (i + m) n = some ds → cellsH h a i (m + n) = some (cs ++ ds) := by
  intro m
  induction m with
  | zero => intro i n cs ds h1 h2; simp only [cellsH, Option.some.injEq] at h1; subst h1; simpa using h2
  | succ m ih =>
    intro i n cs ds h1 h2
    simp only [cellsH] at h1
    split at h1
    · rename_i u hu
      split at h1
      · rename_i vs hvs
        cases h1
        rw [show m + 1 + n = (m + n) + 1 by omega]
        have h3 := ih hvs (n := n) (ds := ds) (by rw [show i + 1 + m = i + (m + 1) by omega]; exact h2)
        simp only [cellsH, hu, h3, List.cons_append]
      · cases h1
    · cases h1
theorem cellsH_shift {h : Heap} {a : Addr} {j : Nat} : ∀ {n i : Nat}, cellsH h (a.add j) i n = cellsH h a (j + i) n := by
  intro n
  induction n with
  | zero => intro i; rfl
  | succ n ih =>
    intro i
    simp only [cellsH, add_add]
    rw [ih, Nat.add_assoc]
/-- What append takes out of a row of flat structs. -/
theorem Rd.src {f : α → List Value} (hr : Rd sz (eSt f) h A l) (c : Nat) : srcCells sz (.slice A l.length c) h = some (l.length, l.flatMap f) := by
  cases A with
  | none =>
    cases l with
    | nil => rfl
    | cons x l => obtain ⟨a, _, h1, _⟩ := hr 0 (by simp); cases h1
  | some a =>
    have key : ∀ (k : Nat), k ≤ l.length → cellsH h a 0 (k * sz) = some ((l.take k).flatMap f) := by
      intro k
      induction k with
      | zero => intro _; simp [cellsH]
      | succ k ih =>
        intro hk
        obtain ⟨a', cs, h1, h2, h3⟩ := hr k (by omega)
        cases h1
        rw [cellsH_shift] at h2
        rw [Nat.succ_mul, List.take_succ_eq_append_getElem (by omega), List.flatMap_append]
        refine cellsH_append (ih (by omega)) ?_
        rw [show cs = f l[k] from h3] at h2
        simpa using h2
    have := key l.length (Nat.le_refl _)
    rw [List.take_length] at this
    simp only [srcCells, this, Option.map_some]
theorem flatMap_one {f : α → Value} (l : List α) : l.flatMap (fun x => [f x]) = l.map f := by
  induction l with
  | nil => rfl
  | cons x l ih => rw [List.flatMap_cons, ih]; rfl
/-- The same for elements of one cell. -/
theorem Rd.src1 {f : α → Value} (hr : Rd 1 E h A l) (hE : ∀ x ∈ l, ∀ cs, E h x cs → cs = [f x]) (c : Nat) : srcCells 1 (.slice A l.length c) h = some (l.length, l.map f) := by
  have h1 : Rd 1 (eSt fun x => [f x]) h A l := fun i hi => let ⟨a, cs, h1, h2, h3⟩ := hr i hi; ⟨a, cs, h1, h2, hE _ (List.getElem_mem hi) _ h3⟩
  have := h1.src c
  rw [this, flatMap_one]
theorem Rd.srcInt {k : IntKind} {l : List Int} (hr : Rd 1 (eInt k) h A l) (c : Nat) : srcCells 1 (.slice A l.length c) h = some (l.length, l.map (.int k)) := hr.src1 (fun _ _ _ h => h) c
end

/-- A block whole, as a struct. -/
theorem Blk.agg {h : Heap} {b : Nat} {c : List Value} {t : TypeId} (hb : Blk h b c t) {n : Nat} (hn : c.length = n) : ldv true n h ⟨b, 0, none⟩ = some (.agg c.toArray) := by
  have := hb.cells (a := ⟨b, 0, none⟩) rfl rfl n 0 (by simp [hn])
  simp only [ldv, this, Option.map_some]
  simp [← hn]
/-- A struct is put into a new variable. -/
theorem box_in {h : Heap} {z : Array Value} {t : TypeId} {v : Value} {n : Nat} {K : Heap → Prop} (l : List Value) (hl : v = .agg l.toArray) (hn : l.length = n) (hz : z.size = n) (hf : ∀ v ∈ l, Flat v)
    (H : ∀ h4, Blk h4 h.size l t → Ext h h4 → h4.size = h.size + 1 → K h4) : newH h (.cells z t) fun h3 => ∃ l5 : List Value, v = .agg l5.toArray ∧ l5.length = n ∧ ∃ h4, stH h3 ⟨h.size, 0, none⟩ l5 0 = some h4 ∧ K h4 := by
  refine newH_in fun h3 b3 e3 s3 => ⟨l, hl, hn, ?_⟩
  obtain ⟨h4, s1, b1, o1⟩ := Blk.stH l (p := []) (q := z.toList) (r := []) (a := ⟨h.size, 0, none⟩) (i := 0) (by simpa using b3) rfl rfl rfl (by simp [hz, hn]) hf
  exact ⟨h4, s1, H h4 (by simpa using b1) (e3.only o1 (Nat.le_refl _)) (by rw [o1.1, s3])⟩
/-- A struct's variable is written whole. -/
theorem Blk.stAll {h : Heap} {b : Nat} {c : List Value} {t : TypeId} (hb : Blk h b c t) (l : List Value) (hn : l.length = c.length) (hf : ∀ v ∈ l, Flat v) :
    ∃ h', Go.Hw.stH h ⟨b, 0, none⟩ l 0 = some h' ∧ Blk h' b l t ∧ Only h h' b := by
  obtain ⟨h', s1, b1, o1⟩ := Blk.stH l (p := []) (q := c) (r := []) (a := ⟨b, 0, none⟩) (i := 0) (by simpa using hb) rfl rfl rfl hn.symm hf
  exact ⟨h', s1, by simpa using b1, o1⟩

/-- One cell of one element is written. -/
theorem flatMap_set {α : Type} {f : α → List Value} {sz : Nat} (hf : ∀ x, (f x).length = sz) : ∀ (l : List α) (i : Nat) (hi : i < l.length) {j : Nat} (_ : j < sz) {v : Value} {x : α}, f x = (f l[i]).set j v → (l.flatMap f).set (i * sz + j) v = (l.set i x).flatMap f := by
  intro l
  induction l with
  | nil => intro i hi; cases hi
  | cons y l ih =>
    intro i hi j hj v x hx
    cases i with
    | zero =>
      rw [List.flatMap_cons, List.set_cons_zero, List.flatMap_cons, hx, Nat.zero_mul, Nat.zero_add, List.set_append_left _ _ (by rw [hf]; exact hj)]; rfl
    | succ i =>
      rw [List.flatMap_cons, List.set_cons_succ, List.flatMap_cons, Nat.succ_mul, List.set_append_right _ _ (by rw [hf]; omega), hf, show i * sz + sz + j - sz = i * sz + j by omega]
      rw [ih i (by simpa using hi) hj hx]
theorem flatMap_get {α : Type} {f : α → List Value} {sz : Nat} (hf : ∀ x, (f x).length = sz) : ∀ (l : List α) (i : Nat) (hi : i < l.length) {j : Nat} (_ : j < sz), (l.flatMap f)[i * sz + j]? = (f l[i])[j]? := by
  intro l
  induction l with
  | nil => intro i hi; cases hi
  | cons y l ih =>
    intro i hi j hj
    cases i with
    | zero => rw [List.flatMap_cons, Nat.zero_mul, Nat.zero_add, List.getElem?_append_left (by rw [hf]; exact hj)]; rfl
    | succ i =>
      rw [List.flatMap_cons, Nat.succ_mul, List.getElem?_append_right (by rw [hf]; omega), hf, show i * sz + sz + j - sz = i * sz + j by omega]
      exact ih i (by simpa using hi) hj

/-! ### Comparing -/
def EqF (P : Program) (d : Nat) (t : TypeId) (x y : Value) (b : Bool) : Prop := ∀ h (K : Bool → Heap → Prop), K b h → Hwp P (Op.equalIn d t x y) h K
section
variable {P : Program} {d : Nat} {t : TypeId}
theorem eqf_int {k k1 : IntKind} {a b : Int} (hu : P.underlying t = some (.int k1)) : EqF P (d + 1) t (.int k a) (.int k b) (a == b) := by
  intro h K hk
  unfold Op.equalIn
  refine hwp_bind (hwp_underlying hu ?_)
  simp only [if_true]
  exact hk
theorem eqf_bool {a b : Bool} (hu : P.underlying t = some .bool) : EqF P (d + 1) t (.bool a) (.bool b) (a == b) := by
  intro h K hk
  unfold Op.equalIn
  refine hwp_bind (hwp_underlying hu ?_)
  exact hk
theorem eqf_str {a b : ByteArray} (hu : P.underlying t = some .string) : EqF P (d + 1) t (.string a) (.string b) (a == b) := by
  intro h K hk
  unfold Op.equalIn
  refine hwp_bind (hwp_underlying hu ?_)
  exact hk


theorem hwp_part_flat {cs : Array Value} {off : Nat} {v : Value} {h : Heap} {D : TypeDesc} {K : Value → Heap → Prop} (hu : P.underlying t = some D) (hd : isAggD D = false) (hv : cs[off]? = some v) (hk : K v h) : Hwp P (part t cs off) h K := by
  unfold part
  refine hwp_bind (hwp_isAgg hu ?_)
  rw [hd]
  simp only [Bool.false_eq_true, if_false, hv]
  exact hk

/-- Two flat cells compared. -/
def flatB (P : Program) (t : TypeId) (x y : Value) : Option Bool :=
  match P.underlying t, x, y with
  | some (.int _), .int k a, .int k' b => match kindB k k' with | true => some (a == b) | false => none
  | some .bool, .bool a, .bool b => some (a == b)
  | some .string, .string a, .string b => some (a == b)
  | _, _, _ => none
/-- Structs of flat fields compared. -/
def flatsB (P : Program) (xs ys : Array Value) : List Field → Option Bool
  | [] => some true
  | f :: fs => match decide (f.name ≠ "_") with
    | false => flatsB P xs ys fs
    | true => match xs[f.offset]?, ys[f.offset]? with
      | some x, some y => match flatB P f.type x y with
        | some b => match flatsB P xs ys fs with
          | some c => some (b && c)
          | none => none
        | none => none
      | _, _ => none
/-- Arrays of flat elements compared, at these places. -/
def arrB (P : Program) (e : TypeId) (s : Nat) (xs ys : Array Value) : List Nat → Option Bool
  | [] => some true
  | i :: r => match xs[i * s]?, ys[i * s]? with
    | some x, some y => match flatB P e x y with
      | some b => match arrB P e s xs ys r with
        | some c => some (b && c)
        | none => none
      | none => none
    | _, _ => none
def aggB (P : Program) (t : TypeId) (xs ys : Array Value) : Option Bool :=
  match P.eqGuardType P.depth t, P.stoodInHeld t, P.underlying t with
  | false, false, some (.struct fs) => flatsB P xs ys fs.toList
  | false, _, some (.array n e) => match P.info? e with | some i => arrB P e i.size xs ys (List.range' 0 n) | none => none
  | _, _, _ => none

theorem flatB_spec {x y : Value} {b : Bool} (hb : flatB P t x y = some b) : EqF P (d + 1) t x y b ∧ ∃ D, P.underlying t = some D ∧ isAggD D = false := by
  unfold flatB at hb
  split at hb
  · rename_i k1 k a k' b' hu
    split at hb
    · rename_i hk
      cases hb
      have : k = k' := kindB_spec hk
      subst this
      exact ⟨eqf_int hu, _, hu, rfl⟩
    · cases hb
  · rename_i a b' hu; cases hb; exact ⟨eqf_bool hu, _, hu, rfl⟩
  · rename_i a b' hu; cases hb; exact ⟨eqf_str hu, _, hu, rfl⟩
  · cases hb

theorem eqf_struct {fs : Array Field} {xs ys : Array Value} {b : Bool} (hu : P.underlying t = some (.struct fs)) (hp : P.stoodInHeld t = false) (hb : flatsB P xs ys fs.toList = some b) : EqF P (d + 2) t (.agg xs) (.agg ys) b := by
  intro h K hk
  unfold Op.equalIn
  refine hwp_bind (hwp_underlying hu ?_)
  refine hwp_bind (hwp_program ?_)
  rw [hp]
  simp only [Bool.false_eq_true, if_false]
  rw [← Array.forIn_toList]
  clear hu
  generalize fs.toList = l at *
  refine hwp_bind ?_
  induction l generalizing b with
  | nil => cases hb; exact hk
  | cons f l ih =>
    rw [List.forIn_cons]
    unfold flatsB at hb
    by_cases hn : f.name ≠ "_"
    · rw [decide_eq_true hn] at hb
      rw [if_pos hn]
      simp only at hb
      split at hb
      · rename_i x y hx hy
        split at hb
        · rename_i b1 h1
          split at hb
          · rename_i c hc
            cases hb
            obtain ⟨he, D, hD, hDa⟩ := flatB_spec (d := d) h1
            refine hwp_bind (hwp_bind (hwp_part_flat hD hDa hx (hwp_bind (hwp_part_flat hD hDa hy (hwp_bind (he _ _ ?_))))))
            cases b1 with
            | false => exact hk
            | true => exact ih hk hc
          · cases hb
        · cases hb
      · cases hb
    · rw [decide_eq_false hn] at hb
      rw [if_neg hn]
      exact hwp_bind (hwp_pure (P := P) (ih hk hb))

theorem eqf_array {n : Nat} {e : TypeId} {i : TypeInfo} {xs ys : Array Value} {b : Bool} (hu : P.underlying t = some (.array n e)) (hi : P.info? e = some i) (hb : arrB P e i.size xs ys (List.range' 0 n) = some b) : EqF P (d + 2) t (.agg xs) (.agg ys) b := by
  intro h K hk
  unfold Op.equalIn
  refine hwp_bind (hwp_underlying hu ?_)
  refine hwp_bind (hwp_sizeOf hi ?_)
  simp only [Std.Legacy.Range.forIn_eq_forIn_range', Std.Legacy.Range.size, Nat.sub_zero, Nat.add_sub_cancel, Nat.div_one]
  clear hu
  generalize List.range' 0 n = l at *
  refine hwp_bind ?_
  induction l generalizing b with
  | nil => cases hb; exact hk
  | cons f l ih =>
    rw [List.forIn_cons]
    unfold arrB at hb
    split at hb
    · rename_i x y hx hy
      split at hb
      · rename_i b1 h1
        split at hb
        · rename_i c hc
          cases hb
          obtain ⟨he, D, hD, hDa⟩ := flatB_spec (d := d) h1
          refine hwp_bind (hwp_bind (hwp_part_flat hD hDa hx (hwp_bind (hwp_part_flat hD hDa hy (hwp_bind (he _ _ ?_))))))
          cases b1 with
          | false => exact hk
          | true => exact ih hk hc
        · cases hb
      · cases hb
    · cases hb

theorem equal_agg {xs ys : Array Value} {b : Bool} {h : Heap} {K : Bool → Heap → Prop} (hb : aggB P t xs ys = some b) (hk : K b h) : Hwp P (Op.equal t (.agg xs) (.agg ys)) h K := by
  unfold aggB at hb
  split at hb
  · rename_i fs h1 h2 hu
    exact eqf_struct (d := 9998) hu h2 hb h K hk
  · rename_i n e h1 hu
    split at hb
    · rename_i i hi
      exact eqf_array (d := 9998) hu hi hb h K hk
    · cases hb
  · cases hb
theorem guard_agg {xs ys : Array Value} {b : Bool} {h : Heap} {op : BinOp} {xo yo : Operand} {K : Unit → Heap → Prop} (hb : aggB P t xs ys = some b) (hk : K () h) : Hwp P (eqGuard op t xo yo (.agg xs) (.agg ys)) h K := by
  have h1 : P.eqGuardType P.depth t = false := by
    unfold aggB at hb
    split at hb
    · assumption
    · assumption
    · cases hb
  cases op <;> first | exact hk | (unfold eqGuard; refine hwp_bind (hwp_program (hwp_bind (hwp_program ?_))); rw [h1]; exact hk)
theorem gen_neq {xs ys : Array Value} {b : Bool} {h : Heap} {xo yo : Operand} {K : Value → Heap → Prop} (hb : aggB P t xs ys = some b) (hk : K (.bool (!b)) h) :
    Gen P (do eqGuard .neq t xo yo (.agg xs) (.agg ys); binOp .neq t (.agg xs) (.agg ys)) h K := hwp_bind (guard_agg hb (hwp_bind (equal_agg hb hk)))
theorem gen_eql {xs ys : Array Value} {b : Bool} {h : Heap} {xo yo : Operand} {K : Value → Heap → Prop} (hb : aggB P t xs ys = some b) (hk : K (.bool b) h) :
    Gen P (do eqGuard .eql t xo yo (.agg xs) (.agg ys); binOp .eql t (.agg xs) (.agg ys)) h K := hwp_bind (guard_agg hb (hwp_bind (equal_agg hb hk)))
end

/-! ### Told out of a row's data -/
section
variable {H : Type} {enc : TypeId × Value → H} {P : Program} {W : World}

/-- Fields from cell o on, told one by one. -/
def TellsF {α : Type} (enc : TypeId × Value → H) (P : Program) (W : World) (T o : Nat) (fs : List (TypeId × Nat)) (F : Heap → α → List Value → Prop) (Q : α → Prop) : Prop :=
  ∀ (n : Nat) (cs : List Value) (xs : List (DataW H × List MemPlace)), cs.length = T → xs.length = fs.length → (∀ (i : Nat) (f : TypeId × Nat), fs[i]? = some f → DataW.trod enc P W 0 (fun _ => true) true n f.1 ((cs.drop f.2).take (P.cellsOf f.1)) = xs[i]?) →
    (DataW.weightsEach P (fs.map (·.1)) (xs.map (·.1))).all (· ≤ reachBytes) = true → ∃ b, F W.heap b (cs.drop o) ∧ Q b
def eNil (_ : Heap) (_ : Unit) (cs : List Value) : Prop := cs = []
def eCons {α β : Type} (E : Heap → α → List Value → Prop) (F : Heap → β → List Value → Prop) (h : Heap) (x : α × β) (cs : List Value) : Prop := ∃ c1 c2, cs = c1 ++ c2 ∧ E h x.1 c1 ∧ F h x.2 c2
theorem mono_nil : Mono eNil := fun _ _ _ _ _ h => h
theorem mono_cons {α β : Type} {E : Heap → α → List Value → Prop} {F : Heap → β → List Value → Prop} (hE : Mono E) (hF : Mono F) : Mono (eCons E F) := fun _ _ _ _ e ⟨c1, c2, h1, h2, h3⟩ => ⟨c1, c2, h1, hE _ _ _ _ e h2, hF _ _ _ _ e h3⟩
theorem tf_nil {T : Nat} : TellsF enc P W T T [] eNil (fun _ => True) := fun n cs xs hl _ _ _ => ⟨(), by unfold eNil; rw [List.drop_eq_nil_of_le (by omega)], trivial⟩
theorem tf_cons {α β : Type} {E : Heap → α → List Value → Prop} {F : Heap → β → List Value → Prop} {Q : α → Prop} {Q' : β → Prop} {T o s : Nat} {f : TypeId} {fs : List (TypeId × Nat)} (hs : P.cellsOf f = s)
    (he : Tells enc P W f E Q) (hf : TellsF enc P W T (o + s) fs F Q') : TellsF enc P W T o ((f, o) :: fs) (eCons E F) (fun x => Q x.1 ∧ Q' x.2) := by
  intro n cs xs hl hx hi hw
  cases xs with
  | nil => cases hx
  | cons x xs =>
    have h0 := hi 0 (f, o) rfl
    simp only [hs] at h0
    simp only [List.map_cons, DataW.weightsEach, List.all_append, Bool.and_eq_true] at hw
    obtain ⟨a, ha, qa⟩ := he n _ _ h0 hw.1
    obtain ⟨b, hb, qb⟩ := hf n cs xs hl (by simpa using hx) (fun i g hg => by simpa using hi (i + 1) g hg) hw.2
    exact ⟨(a, b), ⟨_, _, by rw [← List.drop_drop, List.take_append_drop], ha, hb⟩, qa, qb⟩
/-- Of a slice, its head alone: how many elements. -/
def eHead (_ : Heap) (n : Nat) (cs : List Value) : Prop := ∃ A c, cs = [.slice A n c]
theorem mono_head : Mono eHead := fun _ _ _ _ _ h => h
theorem tells_head {t e : TypeId} (hu : P.underlying t = some (.slice e)) : Tells enc P W t eHead (fun _ => True) := by
  intro fuel cs x h _
  rcases DataW.trod_slice hu h with ⟨h1, _⟩ | ⟨a, len, cap, elems, rest, n, _, h1, _⟩
  · exact ⟨0, ⟨none, 0, h1⟩, trivial⟩
  · exact ⟨len, ⟨some a, cap, h1⟩, trivial⟩
/-- A struct type's fields: their types and places. -/
def shapeOf (P : Program) (t : TypeId) : Option (List (TypeId × Nat)) := match P.underlying t with | some (.struct fs) => some (fs.toList.map fun f => (f.type, f.offset)) | _ => none
theorem tells_struct {α : Type} {F : Heap → α → List Value → Prop} {Q : α → Prop} {t : TypeId} {fs : List (TypeId × Nat)} {T : Nat} (hs : shapeOf P t = some fs) (hc : P.cellsOf t = T) (hf : TellsF enc P W T 0 fs F Q) : Tells enc P W t F Q := by
  intro fuel cs x h hw
  unfold shapeOf at hs
  split at hs
  · rename_i fa hu
    cases hs
    obtain ⟨xs, n, _, rfl, hl, hlen, hi⟩ := DataW.trod_struct hu h
    simp only [DataW.weights, hu] at hw
    obtain ⟨b, hb, qb⟩ := hf n cs xs (by rw [hl, hc]) (by simpa using hlen) (fun i f hif => by
      rw [List.getElem?_map, Option.map_eq_some_iff] at hif
      obtain ⟨g, hg, rfl⟩ := hif
      exact hi i g (by simpa using hg)) (by rw [List.map_map]; exact hw)
    exact ⟨b, by simpa using hb, qb⟩
  · cases hs
theorem tells_map {α β : Type} {E : Heap → α → List Value → Prop} {F : Heap → β → List Value → Prop} {Q : α → Prop} {Q' : β → Prop} {t : TypeId} (he : Tells enc P W t E Q) (hm : ∀ a cs, E W.heap a cs → Q a → ∃ b, F W.heap b cs ∧ Q' b) : Tells enc P W t F Q' :=
  fun fuel cs x h hw => let ⟨a, ha, qa⟩ := he fuel cs x h hw; hm a cs ha qa
theorem okWide_agg_of {t : TypeId} {fs : List (TypeId × Nat)} {v : Value} {r : Reach} {base : Nat} (hs : shapeOf P t = some fs) (h : Value.okWide P W r base t v) : ∃ cs : List Value, v = .agg cs.toArray := by
  unfold shapeOf at hs
  split at hs
  · rename_i fa hu
    simp only [Value.okWide, hu] at h
    cases v <;> simp_all
    rename_i xs
    exact ⟨xs.toList, by simp⟩
  · cases hs
end
theorem Rd.map {α β : Type} {sz : Nat} {E : Heap → α → List Value → Prop} {F : Heap → β → List Value → Prop} {h : Heap} {A : Option Addr} {l : List α} (hr : Rd sz E h A l) (g : α → β) (hm : ∀ x ∈ l, ∀ cs, E h x cs → F h (g x) cs) : Rd sz F h A (l.map g) := by
  intro i hi
  rw [List.length_map] at hi
  obtain ⟨a, cs, h1, h2, h3⟩ := hr i hi
  refine ⟨a, cs, h1, h2, ?_⟩
  rw [List.getElem_map]
  exact hm _ (List.getElem_mem hi) _ h3
theorem Rd.conv {α : Type} {sz : Nat} {E F : Heap → α → List Value → Prop} {h : Heap} {A : Option Addr} {l : List α} (hr : Rd sz E h A l) (hm : ∀ x ∈ l, ∀ cs, E h x cs → F h x cs) : Rd sz F h A l := by
  have := hr.map id hm
  simpa using this
end Go.Hw
