/- Maps: as lists of keys and values; made, looked up, updated. -/
import Derived.Test.YtklobcelbpjjcacHwR
namespace Go.Hw
open Go

/-- The map at block m holds these keys and values, in the order in which they came. -/
def MapB {α : Type} (kv : α → Value) (h : Heap) (m : Nat) (es : List (α × Value)) : Prop :=
  ∃ (e : Array MapEntry) (clock : Nat), h[m]? = some (.map e clock) ∧ e.toList.map (fun x => (x.key, x.val)) = es.map fun x => (kv x.1, x.2)

section
variable {α : Type} {kv : α → Value} {h h' : Heap} {m : Nat} {es : List (α × Value)}
theorem MapB.lt (hb : MapB kv h m es) : m < h.size := by
  obtain ⟨e, c, h1, _⟩ := hb
  exact (Array.getElem?_eq_some_iff.1 h1).1
theorem MapB.ext (hb : MapB kv h m es) (e : Ext h h') : MapB kv h' m es := by
  have := hb.lt
  obtain ⟨a, c, h1, h2⟩ := hb
  exact ⟨a, c, by rw [e.2 m this]; exact h1, h2⟩
theorem MapB.only (hb : MapB kv h m es) {b : Nat} (o : Only h h' b) (hne : m ≠ b) : MapB kv h' m es := by
  obtain ⟨a, c, h1, h2⟩ := hb
  exact ⟨a, c, by rw [o.2 m hne]; exact h1, h2⟩
theorem MapB.but (hb : MapB kv h m es) {A : Option Addr} (e : ButA A h h') (hne : ∀ a, A = some a → a.block ≠ m) : MapB kv h' m es := by
  have := hb.lt
  obtain ⟨a, c, h1, h2⟩ := hb
  exact ⟨a, c, by rw [e.2 m this hne]; exact h1, h2⟩

variable {P : Program} {t : TypeId}
theorem gen_makeMap {K : Value → Heap → Prop} (hk : ∀ h', MapB kv h' h.size [] → Ext h h' → h'.size = h.size + 1 → K (.map (some h.size)) h') : Gen P (Instr.makeMap t none) h K :=
  hk _ ⟨#[], 0, by simp, rfl⟩ (Ext.push _ _) (by simp)

theorem hwp_getObj {r : Nat} {o : Obj} {K : Obj → Heap → Prop} (h1 : h[r]? = some o) (h2 : ∀ c e f, o ≠ .cells c e f) (hk : K o h) : Hwp P (getObj r) h K := ⟨o, h1, h2, hk⟩
theorem hwp_setObj {r : Nat} {o o' : Obj} {K : Unit → Heap → Prop} (h1 : h[r]? = some o') (h2 : ∀ c e f, o' ≠ .cells c e f) (hk : K () (h.setIfInBounds r o)) : Hwp P (setObj r o) h K := ⟨o', h1, h2, hk⟩
/-- What stands behind a key. -/
def mget {α : Type} [DecidableEq α] (es : List (α × Value)) (k : α) : Option Value := (es.find? fun x => decide (k = x.1)).map (·.2)

/-- Keys of a flat kind. -/
structure KeyOk (P : Program) (t : TypeId) {α : Type} [DecidableEq α] (kv : α → Value) (elem : TypeId) : Prop where
  key : ∃ key kind, P.underlying t = some (.map key elem) ∧ P.underlying key = some kind ∧ (∀ b n v h K, K () h → Hwp P (Instr.checkKey b (n + 1) key (kv v)) h K) ∧ ∀ a b, Instr.sameNow kind (kv a) (kv b) = some (decide (a = b))
  same : ∀ a, Instr.sameBits 10000 (kv a) (kv a) = true

variable [DecidableEq α]
theorem findNow_spec {kind : TypeDesc} (hs : ∀ a b, Instr.sameNow kind (kv a) (kv b) = some (decide (a = b))) (k : α) : ∀ (l : List MapEntry) (es : List (α × Value)) (i : Nat), l.map (fun x => (x.key, x.val)) = es.map (fun x => (kv x.1, x.2)) →
    ∃ r, Instr.findNow kind (kv k) l i = some r ∧ r.map (·.2) = mget es k ∧ (∀ j v, r = some (j, v) → i ≤ j ∧ ∃ x, es[j - i]? = some (k, x) ∧ ∀ q, q < j - i → ∀ y, es[q]? = some y → y.1 ≠ k) := by
  intro l
  induction l with
  | nil =>
    intro es i he
    cases es with
    | nil => exact ⟨none, rfl, rfl, fun j v h => by cases h⟩
    | cons x es => cases he
  | cons e l ih =>
    intro es i he
    cases es with
    | nil => cases he
    | cons x es =>
      simp only [List.map_cons, List.cons.injEq, Prod.mk.injEq] at he
      obtain ⟨⟨hkey, hval⟩, he⟩ := he
      unfold Instr.findNow
      rw [hkey, hs]
      by_cases hkx : k = x.1
      · rw [decide_eq_true hkx]
        refine ⟨_, rfl, ?_, fun j v h => ?_⟩
        · unfold mget
          rw [List.find?_cons_of_pos (by simpa using hkx)]
          simp [hval]
        · cases h
          refine ⟨Nat.le_refl _, x.2, ?_, fun q hq => by omega⟩
          simp [hkx]
      · rw [decide_eq_false hkx]
        obtain ⟨r, h1, h2, h3⟩ := ih es (i + 1) he
        refine ⟨r, h1, ?_, fun j v h => ?_⟩
        · rw [h2]; unfold mget
          rw [List.find?_cons_of_neg (by simpa using hkx)]
        · obtain ⟨h4, y, h5, h6⟩ := h3 j v h
          refine ⟨by omega, y, ?_, fun q hq z hz => ?_⟩
          · rw [show j - i = (j - (i + 1)) + 1 by omega]; simpa using h5
          · cases q with
            | zero => simp at hz; subst hz; exact fun hh => hkx hh.symm
            | succ q => exact h6 q (by omega) z (by simpa using hz)

theorem gen_lookup {elem : TypeId} {z : Value} (ok : KeyOk P t kv elem) (hb : MapB kv h m es) (k : α) (hz : zeroOf P elem = some z) {K : Value → Heap → Prop} (hk : K ((mget es k).getD z) h) : Gen P (Instr.lookup t (.map (some m)) (kv k) false) h K := by
  obtain ⟨key, kind, hu, hkind, hck, hs⟩ := ok.key
  obtain ⟨e, clock, h1, h2⟩ := hb
  unfold Gen Instr.lookup
  refine hwp_bind (hwp_underlying hu ?_)
  refine hwp_bind (hwp_getObj h1 (fun _ _ _ hh => by cases hh) ?_)
  refine hwp_bind (hwp_pure (P := P) ?_)
  refine hwp_bind (hck _ _ _ _ _ ?_)
  unfold Instr.findKey
  refine hwp_bind (hwp_bind (hwp_underlying hkind ?_))
  obtain ⟨r, h3, h4, _⟩ := findNow_spec hs k e.toList es 0 h2
  rw [h3]
  cases r with
  | none =>
    have : mget es k = none := by rw [← h4]; rfl
    rw [this] at hk
    exact hwp_pure (P := P) (hwp_bind (hwp_zero hz (hwp_pure (P := P) (hwp_pure (P := P) hk))))
  | some iv =>
    have : mget es k = some iv.2 := by rw [← h4]; rfl
    rw [this] at hk
    exact hwp_pure (P := P) (hwp_pure (P := P) (hwp_pure (P := P) hk))
/-- Looked up, and whether it is there. -/
theorem gen_lookup2 {elem : TypeId} {z : Value} (ok : KeyOk P t kv elem) (hb : MapB kv h m es) (k : α) (hz : zeroOf P elem = some z) {K : Value → Heap → Prop} (hk : K (.tuple #[(mget es k).getD z, .bool (mget es k).isSome]) h) : Gen P (Instr.lookup t (.map (some m)) (kv k) true) h K := by
  obtain ⟨key, kind, hu, hkind, hck, hs⟩ := ok.key
  obtain ⟨e, clock, h1, h2⟩ := hb
  unfold Gen Instr.lookup
  refine hwp_bind (hwp_underlying hu ?_)
  refine hwp_bind (hwp_getObj h1 (fun _ _ _ hh => by cases hh) ?_)
  refine hwp_bind (hwp_pure (P := P) ?_)
  refine hwp_bind (hck _ _ _ _ _ ?_)
  unfold Instr.findKey
  refine hwp_bind (hwp_bind (hwp_underlying hkind ?_))
  obtain ⟨r, h3, h4, _⟩ := findNow_spec hs k e.toList es 0 h2
  rw [h3]
  cases r with
  | none =>
    have : mget es k = none := by rw [← h4]; rfl
    rw [this] at hk
    exact hwp_pure (P := P) (hwp_bind (hwp_zero hz (hwp_pure (P := P) (hwp_pure (P := P) hk))))
  | some iv =>
    have : mget es k = some iv.2 := by rw [← h4]; rfl
    rw [this] at hk
    exact hwp_pure (P := P) (hwp_pure (P := P) (hwp_pure (P := P) hk))

/-- A key is set. -/
def mset : List (α × Value) → α → Value → List (α × Value)
  | [], k, v => [(k, v)]
  | x :: es, k, v => if k = x.1 then (k, v) :: es else x :: mset es k v
theorem mget_mset (es : List (α × Value)) (k q : α) (v : Value) : mget (mset es k v) q = if q = k then some v else mget es q := by
  induction es with
  | nil =>
    unfold mset mget
    by_cases h : q = k
    · rw [if_pos h, List.find?_cons_of_pos (by simpa using h)]; rfl
    · rw [if_neg h, List.find?_cons_of_neg (by simpa using h)]
  | cons x es ih =>
    unfold mset
    by_cases hk : k = x.1
    · rw [if_pos hk]
      unfold mget
      by_cases h : q = k
      · rw [if_pos h, List.find?_cons_of_pos (by simpa using h)]; rfl
      · rw [if_neg h, List.find?_cons_of_neg (by simpa using h), List.find?_cons_of_neg (by simpa [← hk] using h)]
    · rw [if_neg hk]
      unfold mget at ih ⊢
      by_cases h : q = x.1
      · rw [List.find?_cons_of_pos (by simpa using h), List.find?_cons_of_pos (by simpa using h), if_neg (fun hh => hk (by rw [← hh, h]))]
      · rw [List.find?_cons_of_neg (by simpa using h), List.find?_cons_of_neg (by simpa using h), ih]
theorem mget_nil (k : α) : mget ([] : List (α × Value)) k = none := rfl

theorem findNow_set {kind : TypeDesc} (hs : ∀ a b, Instr.sameNow kind (kv a) (kv b) = some (decide (a = b))) (k : α) (v : Value) : ∀ (l : List MapEntry) (es : List (α × Value)) (i : Nat), l.map (fun x => (x.key, x.val)) = es.map (fun x => (kv x.1, x.2)) →
    ∃ r, Instr.findNow kind (kv k) l i = some r ∧ match r with
      | none => mset es k v = es ++ [(k, v)]
      | some (j, _) => i ≤ j ∧ (∃ e, l[j - i]? = some e ∧ e.key = kv k) ∧ (l.modify (j - i) fun e => { e with key := kv k, val := v }).map (fun x => (x.key, x.val)) = (mset es k v).map (fun x => (kv x.1, x.2)) := by
  intro l
  induction l with
  | nil =>
    intro es i he
    cases es with
    | nil => exact ⟨none, rfl, rfl⟩
    | cons x es => cases he
  | cons e l ih =>
    intro es i he
    cases es with
    | nil => cases he
    | cons x es =>
      simp only [List.map_cons, List.cons.injEq, Prod.mk.injEq] at he
      obtain ⟨⟨hkey, hval⟩, he⟩ := he
      unfold Instr.findNow
      rw [hkey, hs]
      by_cases hkx : k = x.1
      · rw [decide_eq_true hkx]
        refine ⟨_, rfl, Nat.le_refl _, ⟨e, by simp, by rw [hkey, hkx]⟩, ?_⟩
        unfold mset
        rw [if_pos hkx, Nat.sub_self]
        simp [he]
      · rw [decide_eq_false hkx]
        obtain ⟨r, h1, h2⟩ := ih es (i + 1) he
        refine ⟨r, h1, ?_⟩
        unfold mset
        rw [if_neg hkx]
        cases r with
        | none => simp only at h2 ⊢; rw [h2]; rfl
        | some jv =>
          simp only at h2 ⊢
          obtain ⟨h3, ⟨e', h4, h5⟩, h6⟩ := h2
          have e1 : jv.1 - i = (jv.1 - (i + 1)) + 1 := by omega
          refine ⟨by omega, ⟨e', by rw [e1]; simpa using h4, h5⟩, ?_⟩
          rw [e1, List.modify_succ_cons, List.map_cons, List.map_cons, h6, hkey, hval]

theorem gen_mapUpdate {elem : TypeId} (ok : KeyOk P t kv elem) (hb : MapB kv h m es) (k : α) (v : Value) {K : Unit → Heap → Prop} (hk : ∀ h', MapB kv h' m (mset es k v) → Only h h' m → K () h') : Hwp P (Instr.mapUpdate t (.map (some m)) (kv k) v) h K := by
  have hlt := hb.lt
  obtain ⟨key, kind, hu, hkind, hck, hs⟩ := ok.key
  obtain ⟨e, clock, h1, h2⟩ := hb
  have only : ∀ o, Only h (h.setIfInBounds m o) m := fun o => ⟨by simp, fun i hi => by rw [Array.getElem?_setIfInBounds, if_neg (fun hh => hi hh.symm)]⟩
  have at' : ∀ o, (h.setIfInBounds m o)[m]? = some o := fun o => by rw [Array.getElem?_setIfInBounds, if_pos rfl, if_pos hlt]
  unfold Instr.mapUpdate
  refine hwp_bind (hwp_underlying hu ?_)
  refine hwp_bind (hwp_getObj h1 (fun _ _ _ hh => by cases hh) ?_)
  refine hwp_bind (hck _ _ _ _ _ ?_)
  unfold Instr.findKey
  refine hwp_bind (hwp_bind (hwp_underlying hkind ?_))
  obtain ⟨r, h3, h4⟩ := findNow_set hs k v e.toList es 0 h2
  rw [h3]
  cases r with
  | none =>
    simp only at h4
    refine hwp_pure (P := P) (hwp_setObj h1 (fun _ _ _ hh => by cases hh) (hk _ ⟨_, _, at' _, ?_⟩ (only _)))
    rw [h4, Array.toList_push, List.map_append, List.map_append, h2]; rfl
  | some jv =>
    obtain ⟨j, x⟩ := jv
    simp only at h4
    obtain ⟨_, ⟨e', h5, h6⟩, h7⟩ := h4
    refine hwp_pure (P := P) ?_
    have hkey : ((e[j]?).map (·.key)).getD (kv k) = kv k := by
      have : e[j]? = some e' := by simpa using h5
      rw [this]; exact h6
    show Hwp P (Instr.keyThatStays (((e[j]?).map (·.key)).getD (kv k)) (kv k) >>= _) h K
    rw [hkey]
    refine hwp_bind ?_
    unfold Instr.keyThatStays
    rw [ok.same, if_pos rfl]
    refine hwp_pure (P := P) (hwp_setObj h1 (fun _ _ _ hh => by cases hh) (hk _ ⟨_, _, at' _, ?_⟩ (only _)))
    rw [Array.toList_modify]
    exact h7
end

theorem ba_toList {a b : ByteArray} (h : a.toList = b.toList) : a = b := by
  rw [ByteArray.toList_eq, ByteArray.toList_eq] at h
  obtain ⟨⟨x⟩⟩ := a
  obtain ⟨⟨y⟩⟩ := b
  have : x = y := h
  rw [this]
theorem ba_beq (a b : ByteArray) : (a == b) = decide (a = b) := by
  rw [beq_toListBytes]
  by_cases h : a = b
  · rw [decide_eq_true h, h]; simp
  · rw [decide_eq_false h, beq_eq_false_iff_ne]; exact fun hh => h (ba_toList hh)
section
variable {P : Program} {t : TypeId}
theorem keyOk_str {key elem : TypeId} (hu : P.underlying t = some (.map key elem)) (hk : P.underlying key = some .string) : KeyOk P t (fun s : ByteArray => Value.string s) elem where
  key := ⟨key, .string, hu, hk, fun b n v h K hh => by
      unfold Instr.checkKey
      exact hwp_bind (hwp_underlying hk hh), fun a b => by
      show some (a == b) = _
      rw [ba_beq]⟩
  same := fun a => by
    show (a == a) = true
    rw [ba_beq]; simp
theorem keyOk_int {key elem : TypeId} {k : IntKind} (hu : P.underlying t = some (.map key elem)) (hk : P.underlying key = some (.int k)) : KeyOk P t (fun n : Int => Value.int k n) elem where
  key := ⟨key, .int k, hu, hk, fun b n v h K hh => by
      unfold Instr.checkKey
      exact hwp_bind (hwp_underlying hk hh), fun a b => by
      show (if k = k then some (a == b) else none) = _
      rw [if_pos rfl]
      by_cases h : a = b
      · rw [decide_eq_true h, h]; simp
      · rw [decide_eq_false h]; simp [h]⟩
  same := fun a => by simp [Instr.sameBits]
end
end Go.Hw
