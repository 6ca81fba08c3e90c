/- What the library's loops answer: pure, over any function that has the loop's equation. -/
import Derived.Test.YtklobcelbpjjcacHwO
namespace Go.Hw
open Go
section
variable {α β : Type}
theorem ap_of {B : Nat} {l xs : List α} (h : (l.length + xs.length) * B ≤ 140737488355328) : ap B l xs = some (l ++ xs) := by unfold ap; rw [if_pos h]
theorem ap_nil {B : Nat} {xs : List α} (h : xs.length * B ≤ 140737488355328) : ap B ([] : List α) xs = some xs := by rw [ap_of (by simpa using h)]; rfl
theorem ap_one {B : Nat} {l : List α} {x : α} (h : (l.length + 1) * B ≤ 140737488355328) : ap B l [x] = some (l ++ [x]) := ap_of (by simpa using h)
theorem gi_some {l : List α} {k : Nat} {x : Int} {y : α} (hx : x = k) (h : l[k]? = some y) : gi l x = some y := by subst hx; rw [gi_nat]; exact h
theorem gi_at {l : List α} {k : Nat} (h : k < l.length) : gi l (k : Int) = some l[k] := by rw [gi_nat]; exact List.getElem?_eq_getElem h
theorem gi_cons {x : α} {l : List α} : gi (x :: l) 0 = some x := rfl
theorem sls_of {l : List α} {lo hi : Int} (h1 : 0 ≤ lo) (h2 : lo ≤ hi) (h3 : hi ≤ (l.length : Int)) : sls l lo hi = some (sl l lo hi) := by unfold sls; rw [if_pos ⟨h1, h2, h3⟩]
theorem sls_take {l : List α} {k : Nat} {x : Int} (hx : x = k) (h : k ≤ l.length) : sls l 0 x = some (l.take k) := by subst hx; rw [sls_of (by omega) (by omega) (by omega), sl_hi]; rfl
theorem sls_drop {l : List α} {k : Nat} {x : Int} (hx : x = k) (h : k ≤ l.length) : sls l x (l.length : Int) = some (l.drop k) := by subst hx; rw [sls_of (by omega) (by omega) (by omega), sl_lo]; rfl
theorem mks_of {B : Int} {z : α} {k : Nat} {x : Int} (hx : x = k) (h : (k : Int) * B ≤ 140737488355328) (h2 : (k : Int) ≤ 9223372036854775807) : mks B x z = some (List.replicate k z) := by subst hx; unfold mks; rw [if_pos ⟨by omega, h, h2⟩]; rfl
theorem w_succ {k : Nat} (h : k < 9223372036854775807) : IntKind.wrap .i64 ((k : Int) + 1) = ((k + 1 : Nat) : Int) := by rw [wrap_in (by omega) (by omega)]; rfl

/-- slices.IndexFunc. -/
theorem find_val {f : List α → (α → Option Bool) → Int → Int → Option Int}
    (hf : ∀ a p n i, f a p n i = if i < n then (Option.bind (gi a i) fun y => Option.bind (p y) fun b => if b = true then some i else f a p n (IntKind.wrap .i64 (i + 1))) else some (-1))
    {l : List α} {p : α → Option Bool} (q : α → Bool) (hp : ∀ x ∈ l, p x = some (q x)) (hl : l.length ≤ 4611686018427387904) : f l p (l.length : Int) 0 = some (idxOf q l) := by
  have key : ∀ (d k : Nat), k + d = l.length → (∀ x ∈ l.take k, q x = false) → f l p (l.length : Int) (k : Int) = some (idxOf q l) := by
    intro d
    induction d with
    | zero =>
      intro k hk hn
      rw [hf, if_neg (by omega)]
      have : l.findIdx? q = none := by
        rw [List.findIdx?_eq_none_iff]
        rw [List.take_of_length_le (by omega)] at hn
        exact hn
      simp [idxOf, this]
    | succ d ih =>
      intro k hk hn
      have hlt : k < l.length := by omega
      rw [hf, if_pos (by omega), gi_at hlt, Option.bind_some, hp _ (List.getElem_mem hlt), Option.bind_some]
      by_cases hq : q l[k] = true
      · rw [if_pos hq]
        have : l.findIdx? q = some k := by
          rw [List.findIdx?_eq_some_iff_getElem]
          refine ⟨hlt, hq, fun j hj => ?_⟩
          have := hn l[j] (by rw [List.mem_take_iff_getElem]; exact ⟨j, by omega, rfl⟩)
          simp [this]
        simp [idxOf, this]
      · rw [if_neg hq, w_succ (by omega)]
        refine ih (k + 1) (by omega) (fun x hx => ?_)
        rw [List.take_succ_eq_append_getElem hlt] at hx
        rcases List.mem_append.1 hx with hx | hx
        · exact hn x hx
        · simp at hx; subst hx; simpa using hq
  exact key l.length 0 (by omega) (fun x hx => by simp at hx)
theorem findB_val {f : List α → (α → Option Bool) → Int → Int → Option Int} {g : List α → (α → Option Bool) → Option Int} {c : List α → (α → Option Bool) → Option Bool}
    (hf : ∀ a p n i, f a p n i = if i < n then (Option.bind (gi a i) fun y => Option.bind (p y) fun b => if b = true then some i else f a p n (IntKind.wrap .i64 (i + 1))) else some (-1))
    (hg : ∀ a p, g a p = f a p (a.length : Int) 0) (hc : ∀ a p, c a p = Option.bind (g a p) fun y => some (decide (y ≥ 0)))
    {l : List α} {p : α → Option Bool} (q : α → Bool) (hp : ∀ x ∈ l, p x = some (q x)) (hl : l.length ≤ 4611686018427387904) : c l p = some (l.any q) := by
  rw [hc, hg, find_val hf q hp hl, Option.bind_some, idxOf_ge]
/-- slices.Index. -/
theorem index_val [DecidableEq α] {f : List α → α → Int → Int → Option Int}
    (hf : ∀ a v n i, f a v n i = if i < n then (Option.bind (gi a i) fun y => if v = y then some i else f a v n (IntKind.wrap .i64 (i + 1))) else some (-1))
    {l : List α} (v : α) (hl : l.length ≤ 4611686018427387904) : f l v (l.length : Int) 0 = some (idxOf (fun y => decide (v = y)) l) := by
  have key : ∀ (d k : Nat), k + d = l.length → (∀ x ∈ l.take k, decide (v = x) = false) → f l v (l.length : Int) (k : Int) = some (idxOf (fun y => decide (v = y)) l) := by
    intro d
    induction d with
    | zero =>
      intro k hk hn
      rw [hf, if_neg (by omega)]
      have : l.findIdx? (fun y => decide (v = y)) = none := by
        rw [List.findIdx?_eq_none_iff]
        rw [List.take_of_length_le (by omega)] at hn
        exact hn
      simp [idxOf, this]
    | succ d ih =>
      intro k hk hn
      have hlt : k < l.length := by omega
      rw [hf, if_pos (by omega), gi_at hlt, Option.bind_some]
      by_cases hq : v = l[k]
      · rw [if_pos hq]
        have : l.findIdx? (fun y => decide (v = y)) = some k := by
          rw [List.findIdx?_eq_some_iff_getElem]
          refine ⟨hlt, decide_eq_true hq, fun j hj => ?_⟩
          have := hn l[j] (by rw [List.mem_take_iff_getElem]; exact ⟨j, by omega, rfl⟩)
          rw [this]; simp
        simp [idxOf, this]
      · rw [if_neg hq, w_succ (by omega)]
        refine ih (k + 1) (by omega) (fun x hx => ?_)
        rw [List.take_succ_eq_append_getElem hlt] at hx
        rcases List.mem_append.1 hx with hx | hx
        · exact hn x hx
        · simp at hx; subst hx; exact decide_eq_false hq
  exact key l.length 0 (by omega) (fun x hx => by simp at hx)
theorem any_eq [DecidableEq α] (v : α) (l : List α) : l.any (fun y => decide (v = y)) = decide (v ∈ l) := by
  induction l with
  | nil => simp
  | cons x l ih => simp [ih]
theorem contains_val [DecidableEq α] {f : List α → α → Int → Int → Option Int} {g : List α → α → Option Int} {c : List α → α → Option Bool}
    (hf : ∀ a v n i, f a v n i = if i < n then (Option.bind (gi a i) fun y => if v = y then some i else f a v n (IntKind.wrap .i64 (i + 1))) else some (-1))
    (hg : ∀ a v, g a v = f a v (a.length : Int) 0) (hc : ∀ a v, c a v = Option.bind (g a v) fun y => some (decide (y ≥ 0)))
    {l : List α} (v : α) (hl : l.length ≤ 4611686018427387904) : c l v = some (decide (v ∈ l)) := by
  rw [hc, hg, index_val hf v hl, Option.bind_some, idxOf_ge, any_eq]
theorem contains_any [DecidableEq α] {f : List α → α → Int → Int → Option Int} {g : List α → α → Option Int} {c : List α → α → Option Bool}
    (hf : ∀ a v n i, f a v n i = if i < n then (Option.bind (gi a i) fun y => if v = y then some i else f a v n (IntKind.wrap .i64 (i + 1))) else some (-1))
    (hg : ∀ a v, g a v = f a v (a.length : Int) 0) (hc : ∀ a v, c a v = Option.bind (g a v) fun y => some (decide (y ≥ 0)))
    {l : List α} (v : α) (hl : l.length ≤ 4611686018427387904) : c l v = some (l.any fun y => decide (v = y)) := by
  rw [hc, hg, index_val hf v hl, Option.bind_some, idxOf_ge]
/-- slices.Equal. -/
theorem equal_val {R : α → α → Prop} [DecidableRel R] {f : List α → List α → Int → Int → Option Bool} {g : List α → List α → Option Bool}
    (hf : ∀ a b n i, f a b n i = if i < n then (Option.bind (gi a i) fun x => Option.bind (gi b i) fun y => if R x y then f a b n (IntKind.wrap .i64 (i + 1)) else some false) else some true)
    (hg : ∀ a b, g a b = if ((a.length : Nat) : Int) = ((b.length : Nat) : Int) then f a b (a.length : Int) 0 else some false) (hR : ∀ x y, R x y ↔ x = y)
    (l m : List α) (hl : l.length ≤ 4611686018427387904) : ∃ b, g l m = some b ∧ (b = true ↔ l = m) := by
  rw [hg]
  by_cases hlen : l.length = m.length
  · rw [if_pos (by omega)]
    have key : ∀ (d k : Nat), k + d = l.length → l.take k = m.take k → ∃ b, f l m (l.length : Int) (k : Int) = some b ∧ (b = true ↔ l = m) := by
      intro d
      induction d with
      | zero =>
        intro k hk he
        rw [List.take_of_length_le (by omega), List.take_of_length_le (by omega)] at he
        exact ⟨true, by rw [hf, if_neg (by omega)], by simp [he]⟩
      | succ d ih =>
        intro k hk he
        have h1 : k < l.length := by omega
        have h2 : k < m.length := by omega
        rw [hf, if_pos (by omega), gi_at h1, Option.bind_some, gi_at h2, Option.bind_some]
        by_cases hr : R l[k] m[k]
        · rw [if_pos hr, w_succ (by omega)]
          exact ih (k + 1) (by omega) (by rw [List.take_succ_eq_append_getElem h1, List.take_succ_eq_append_getElem h2, he, (hR _ _).1 hr])
        · rw [if_neg hr]
          refine ⟨false, rfl, by simp; intro e; exact hr ((hR _ _).2 (by simp [e]))⟩
    exact key l.length 0 (by omega) (by simp)
  · rw [if_neg (by omega)]
    exact ⟨false, rfl, by simp; intro e; exact hlen (by rw [e])⟩
/-- slices.EqualFunc. -/
theorem equalFunc_val {f : List α → List β → (α → β → Option Bool) → Int → Int → Option Bool} {g : List α → List β → (α → β → Option Bool) → Option Bool}
    (hf : ∀ a b p n i, f a b p n i = if i < n then (Option.bind (gi a i) fun x => Option.bind (gi b i) fun y => Option.bind (p x y) fun t => if t = true then f a b p n (IntKind.wrap .i64 (i + 1)) else some false) else some true)
    (hg : ∀ a b p, g a b p = if ((a.length : Nat) : Int) = ((b.length : Nat) : Int) then f a b p (a.length : Int) 0 else some false)
    {l : List α} {m : List β} {p : α → β → Option Bool} (q : α → β → Bool) (hp : ∀ x ∈ l, ∀ y ∈ m, p x y = some (q x y)) (hl : l.length ≤ 4611686018427387904) :
    g l m p = some (decide (l.length = m.length) && (l.zip m).all fun x => q x.1 x.2) := by
  rw [hg]
  by_cases hlen : l.length = m.length
  · rw [if_pos (by omega), decide_eq_true hlen, Bool.true_and]
    have key : ∀ (d k : Nat), k + d = l.length → (∀ x ∈ (l.zip m).take k, q x.1 x.2 = true) → f l m p (l.length : Int) (k : Int) = some ((l.zip m).all fun x => q x.1 x.2) := by
      intro d
      induction d with
      | zero =>
        intro k hk he
        rw [hf, if_neg (by omega)]
        rw [List.take_of_length_le (by simp; omega)] at he
        have : ((l.zip m).all fun x => q x.1 x.2) = true := by rw [List.all_eq_true]; exact he
        rw [this]
      | succ d ih =>
        intro k hk he
        have h1 : k < l.length := by omega
        have h2 : k < m.length := by omega
        have h3 : k < (l.zip m).length := by simp; omega
        rw [hf, if_pos (by omega), gi_at h1, Option.bind_some, gi_at h2, Option.bind_some, hp _ (List.getElem_mem h1) _ (List.getElem_mem h2), Option.bind_some]
        by_cases hq : q l[k] m[k] = true
        · rw [if_pos hq, w_succ (by omega)]
          refine ih (k + 1) (by omega) (fun x hx => ?_)
          rw [List.take_succ_eq_append_getElem h3] at hx
          rcases List.mem_append.1 hx with hx | hx
          · exact he x hx
          · simp at hx; subst hx; exact hq
        · rw [if_neg hq]
          have : ((l.zip m).all fun x => q x.1 x.2) = false := by
            rw [Bool.eq_false_iff]
            intro hh
            rw [List.all_eq_true] at hh
            have := hh _ (List.getElem_mem h3)
            simp at this; exact hq this
          rw [this]
    exact key l.length 0 (by omega) (fun x hx => by simp at hx)
  · rw [if_neg (by omega), decide_eq_false hlen, Bool.false_and]
/-- slices.Concat. -/
theorem concat_val {B : Nat} (hB : 0 < B) {f1 : List α → List (List α) → Int → Int → Option (List α)} {f0 : List (List α) → Int → List (List α) → Int → Int → Option (List α)} {gr : Int → Option (List α)} {g : List (List α) → Option (List α)}
    (h1 : ∀ r a n i, f1 r a n i = if i < n then (Option.bind (gi a i) fun y => Option.bind (ap B r y) fun l => f1 l a n (IntKind.wrap .i64 (i + 1))) else some r)
    (h0 : ∀ a s b n i, f0 a s b n i = if i < n then (Option.bind (gi b i) fun y => if IntKind.wrap .i64 (s + ((y.length : Nat) : Int)) < 0 then none else f0 a (IntKind.wrap .i64 (s + ((y.length : Nat) : Int))) b n (IntKind.wrap .i64 (i + 1))) else Option.bind (gr s) fun y => f1 y a (a.length : Int) 0)
    (hgr : ∀ x, gr x = if gro B x = true then some [] else none) (hg : ∀ a, g a = f0 a 0 a (a.length : Int) 0)
    (ls : List (List α)) (hl : ls.length ≤ 4611686018427387904) (hs : ls.flatten.length * B ≤ 140737488355328) : g ls = some ls.flatten := by
  have hs' : ls.flatten.length ≤ 140737488355328 := Nat.le_trans (Nat.le_mul_of_pos_right _ hB) hs
  have pre : ∀ k, (ls.take k).flatten.length ≤ ls.flatten.length := by
    intro k
    conv => rhs; rw [← List.take_append_drop k ls, List.flatten_append, List.length_append]
    omega
  have key1 : ∀ (d k : Nat), k + d = ls.length → f1 (ls.take k).flatten ls (ls.length : Int) (k : Int) = some ls.flatten := by
    intro d
    induction d with
    | zero => intro k hk; rw [h1, if_neg (by omega), List.take_of_length_le (by omega)]
    | succ d ih =>
      intro k hk
      have hlt : k < ls.length := by omega
      have e : (ls.take (k + 1)).flatten = (ls.take k).flatten ++ ls[k] := by rw [List.take_succ_eq_append_getElem hlt, List.flatten_append]; simp
      have hle := pre (k + 1)
      rw [e, List.length_append] at hle
      rw [h1, if_pos (by omega), gi_at hlt, Option.bind_some, ap_of (Nat.le_trans (Nat.mul_le_mul_right _ hle) hs), Option.bind_some, w_succ (by omega), ← e]
      exact ih (k + 1) (by omega)
  have key0 : ∀ (d k : Nat), k + d = ls.length → f0 ls (((ls.take k).flatten.length : Nat) : Int) ls (ls.length : Int) (k : Int) = some ls.flatten := by
    intro d
    induction d with
    | zero =>
      intro k hk
      rw [h0, if_neg (by omega), List.take_of_length_le (by omega), hgr, if_pos, Option.bind_some]
      · exact key1 ls.length 0 (by omega)
      · unfold gro
        rw [decide_eq_true_eq]
        refine ⟨by omega, ?_⟩
        have : ((ls.flatten.length * B : Nat) : Int) = (ls.flatten.length : Int) * (B : Int) := by push_cast; rfl
        omega
    | succ d ih =>
      intro k hk
      have hlt : k < ls.length := by omega
      have e : (ls.take (k + 1)).flatten = (ls.take k).flatten ++ ls[k] := by rw [List.take_succ_eq_append_getElem hlt, List.flatten_append]; simp
      have hle := pre (k + 1)
      have e2 : (ls.take (k + 1)).flatten.length = (ls.take k).flatten.length + ls[k].length := by rw [e, List.length_append]
      have e3 : IntKind.wrap .i64 ((((ls.take k).flatten.length : Nat) : Int) + ((ls[k].length : Nat) : Int)) = (((ls.take (k + 1)).flatten.length : Nat) : Int) := by
        rw [wrap_in (by omega) (by omega), e2]; push_cast; rfl
      rw [h0, if_pos (by omega), gi_at hlt, Option.bind_some, e3, if_neg (by omega), w_succ (by omega)]
      exact ih (k + 1) (by omega)
  rw [hg]
  exact key0 ls.length 0 (by omega)
end
/-! ### Data that hold data of their own type: told by how deep they are read -/
section
theorem forall_get {α : Type} {l : List α} {p : α → Prop} : (∀ i (hi : i < l.length), p l[i]) ↔ ∀ a ∈ l, p a :=
  ⟨fun h a ha => by obtain ⟨i, hi, rfl⟩ := List.getElem_of_mem ha; exact h i hi, fun h i hi => h _ (List.getElem_mem hi)⟩
open Go.RowKit
variable {H : Type} {enc : TypeId × Value → H} {P : Program} {W : World} {N : Nat}
def TellsU (N : Nat) {α : Type} (enc : TypeId × Value → H) (P : Program) (W : World) (t : TypeId) (E : Heap → α → List Value → Prop) (Q : α → Prop) : Prop :=
  ∀ (fuel : Nat), fuel < N → ∀ (cs : List Value) (x : DataW H × List MemPlace), DataW.trod enc P W 0 (fun _ => true) true fuel t cs = some x → (x.1.weights P t).all (· ≤ reachBytes) = true → ∃ a, E W.heap a cs ∧ Q a
theorem Tells.up {α : Type} {t : TypeId} {E : Heap → α → List Value → Prop} {Q : α → Prop} (he : Tells enc P W t E Q) : TellsU N enc P W t E Q := fun fuel _ => he fuel
theorem tells_rec {α : Type} {t : TypeId} {E : Heap → α → List Value → Prop} {Q : α → Prop} (step : ∀ N, TellsU N enc P W t E Q → TellsU (N + 1) enc P W t E Q) : Tells enc P W t E Q := by
  have key : ∀ N, TellsU N enc P W t E Q := by
    intro N
    induction N with
    | zero => intro fuel hf; omega
    | succ N ih => exact step N ih
  exact fun fuel => key (fuel + 1) fuel (Nat.lt_succ_self _)
theorem tellsU_map {α β : Type} {E : Heap → α → List Value → Prop} {F : Heap → β → List Value → Prop} {Q : α → Prop} {Q' : β → Prop} {t : TypeId} (he : TellsU N enc P W t E Q) (hm : ∀ a cs, E W.heap a cs → Q a → ∃ b, F W.heap b cs ∧ Q' b) : TellsU N enc P W t F Q' :=
  fun fuel hf cs x h hw => let ⟨a, ha, qa⟩ := he fuel hf cs x h hw; hm a cs ha qa
theorem tellsU_slice {α : Type} {t e : TypeId} {sz B : Nat} {E : Heap → α → List Value → Prop} {Q : α → Prop} (hu : P.underlying t = some (.slice e)) (hc : P.cellsOf e = sz) (hB : P.bytesOf e = B) (he : TellsU N enc P W e E Q) :
    TellsU N enc P W t (eRow sz E) (fun l => l.length * B ≤ 140737488351232 ∧ ∀ a ∈ l, Q a) := by
  intro fuel hf cs x h hw
  rcases DataW.trod_slice hu h with ⟨h1, h2⟩ | ⟨a, len, cap, elems, rest, n, hfn, h1, h2, _, hl, hm, hlen, hel, _, _⟩
  · exact ⟨[], ⟨none, 0, h1, Nat.le_refl _, Rd.nil⟩, by simp, fun a ha => by cases ha⟩
  · rw [h2] at hw
    simp only [DataW.weights, hu, List.all_cons, List.all_append, Bool.and_eq_true, decide_eq_true_eq] at hw
    obtain ⟨hw1, hw2, _⟩ := hw
    have hall := weightsAll_all _ hw2
    obtain ⟨l, h3, h4⟩ := list_choose (n := len) (p := fun i x => (∃ cs', cellsH W.heap (a.add (i * sz)) 0 sz = some cs' ∧ E W.heap x cs') ∧ Q x) (fun i hi => by
      have h5 := hel i hi
      have hlt : i < elems.length := by omega
      rw [List.getElem?_eq_getElem hlt] at h5
      obtain ⟨cs', h6, h7⟩ := Option.bind_eq_some_iff.1 h5
      obtain ⟨x, h8, h9⟩ := he _ (by omega) _ _ h7 (hall _ (List.mem_map.2 ⟨_, List.getElem_mem hlt, rfl⟩))
      rw [hc] at h6
      exact ⟨x, ⟨cs', cells_of h6, h8⟩, h9⟩)
    refine ⟨l, ⟨some a, cap, by rw [h1, h3], by omega, fun i hi => ?_⟩, ?_, fun x hx => ?_⟩
    · obtain ⟨⟨cs', h5, h6⟩, _⟩ := h4 i hi
      exact ⟨a, cs', rfl, h5, h6⟩
    · rw [hB] at hw1
      have h9 : l.length ≤ (List.map (·.1) elems).length + (List.map (·.1) rest).length := by simp; omega
      exact Nat.le_trans (Nat.mul_le_mul_right _ h9) hw1
    · obtain ⟨i, hi, rfl⟩ := List.getElem_of_mem hx
      exact (h4 i hi).2
theorem tellsU_down {α : Type} {t : TypeId} {E : Heap → α → List Value → Prop} {Q : α → Prop} (he : TellsU (N + 1) enc P W t E Q) : TellsU N enc P W t E Q := fun fuel hf => he fuel (by omega)
def TellsFU (N : Nat) {α : Type} (enc : TypeId × Value → H) (P : Program) (W : World) (T o : Nat) (fs : List (TypeId × Nat)) (F : Heap → α → List Value → Prop) (Q : α → Prop) : Prop :=
  ∀ (n : Nat), n < N → ∀ (cs : List Value) (xs : List (DataW H × List MemPlace)), cs.length = T → xs.length = fs.length → (∀ (i : Nat) (f : TypeId × Nat), fs[i]? = some f → DataW.trod enc P W 0 (fun _ => true) true n f.1 ((cs.drop f.2).take (P.cellsOf f.1)) = xs[i]?) →
    (DataW.weightsEach P (fs.map (·.1)) (xs.map (·.1))).all (· ≤ reachBytes) = true → ∃ b, F W.heap b (cs.drop o) ∧ Q b
theorem tfU_nil {T : Nat} : TellsFU N enc P W T T [] eNil (fun _ => True) := fun n _ cs xs hl _ _ _ => ⟨(), by unfold eNil; rw [List.drop_eq_nil_of_le (by omega)], trivial⟩
theorem tfU_cons {α β : Type} {E : Heap → α → List Value → Prop} {F : Heap → β → List Value → Prop} {Q : α → Prop} {Q' : β → Prop} {T o s : Nat} {f : TypeId} {fs : List (TypeId × Nat)} (hs : P.cellsOf f = s)
    (he : TellsU N enc P W f E Q) (hf : TellsFU N enc P W T (o + s) fs F Q') : TellsFU N enc P W T o ((f, o) :: fs) (eCons E F) (fun x => Q x.1 ∧ Q' x.2) := by
  intro n hn cs xs hl hx hi hw
  cases xs with
  | nil => cases hx
  | cons x xs =>
    have h0 := hi 0 (f, o) rfl
    simp only [hs] at h0
    simp only [List.map_cons, DataW.weightsEach, List.all_append, Bool.and_eq_true] at hw
    obtain ⟨a, ha, qa⟩ := he n hn _ _ h0 hw.1
    obtain ⟨b, hb, qb⟩ := hf n hn cs xs hl (by simpa using hx) (fun i g hg => by simpa using hi (i + 1) g hg) hw.2
    exact ⟨(a, b), ⟨_, _, by rw [← List.drop_drop, List.take_append_drop], ha, hb⟩, qa, qb⟩
theorem tellsU_struct {α : Type} {F : Heap → α → List Value → Prop} {Q : α → Prop} {t : TypeId} {fs : List (TypeId × Nat)} {T : Nat} (hs : shapeOf P t = some fs) (hc : P.cellsOf t = T) (hf : TellsFU N enc P W T 0 fs F Q) : TellsU (N + 1) enc P W t F Q := by
  intro fuel hfl cs x h hw
  unfold shapeOf at hs
  split at hs
  · rename_i fa hu
    cases hs
    obtain ⟨xs, n, hn, rfl, hl, hlen, hi⟩ := DataW.trod_struct hu h
    simp only [DataW.weights, hu] at hw
    obtain ⟨b, hb, qb⟩ := hf n (by omega) cs xs (by rw [hl, hc]) (by simpa using hlen) (fun i f hif => by
      rw [List.getElem?_map, Option.map_eq_some_iff] at hif
      obtain ⟨g, hg, rfl⟩ := hif
      exact hi i g (by simpa using hg)) (by rw [List.map_map]; exact hw)
    exact ⟨b, by simpa using hb, qb⟩
  · cases hs
end
end Go.Hw
