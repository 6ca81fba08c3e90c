/- What more of the library's loops answer: pure. -/
import Derived.Test.YtklobcelbpjjcacHwOe
set_option linter.unusedVariables false
namespace Go.Hw
open Go
section
variable {α : Type}
theorem clrL_take {l : List α} {i : Nat} {z : α} (h : i ≤ l.length) : (clrL l (i : Int) (l.length : Int) z).take i = l.take i := by
  unfold clrL
  rw [List.append_assoc, List.take_append_of_le_length (by rw [List.length_take]; simp; omega)]
  rw [show Int.toNat (i : Int) = i from rfl, List.take_take, Nat.min_self]
/-- slices.DeleteFunc, behind the first element that goes. -/
theorem deleteLoop_val {f g : List α → (α → Option Bool) → Int → Int → Option (List α)} {z : α}
    (hf : ∀ a p i j, f a p i j = if j < ((a.length : Nat) : Int) then (Option.bind (gi a j) fun y => Option.bind (p y) fun b => if b = true then g a p i j else Option.bind (gi a i) fun _ => Option.bind (some (List.set a (Int.toNat i) y)) fun l => g l p (IntKind.wrap .i64 (i + 1)) j) else Option.bind (sls a i ((a.length : Nat) : Int)) fun _ => Option.bind (sls (clrL a i ((a.length : Nat) : Int) z) 0 i) fun l => some l)
    (hg : ∀ a p i j, g a p i j = f a p i (IntKind.wrap .i64 (j + 1)))
    {p : α → Option Bool} (q : α → Bool) : ∀ (d : Nat) (a : List α) (i j : Nat), j + d = a.length → i ≤ j → a.length ≤ 4611686018427387904 → (∀ x ∈ a, p x = some (q x)) → f a p (i : Int) (j : Int) = some (a.take i ++ (a.drop j).filter fun x => !q x) := by
  intro d
  induction d with
  | zero =>
    intro a i j hj hi hl hp
    rw [hf, if_neg (by omega), sls_of (by omega) (by omega) (by omega), Option.bind_some]
    have hc : (clrL a (i : Int) ((a.length : Nat) : Int) z).length = a.length := (clrL_len (by omega) (by omega)).symm
    rw [sls_take rfl (by omega), Option.bind_some, clrL_take (by omega), List.drop_of_length_le (by omega)]
    simp
  | succ d ih =>
    intro a i j hj hi hl hp
    have hlt : j < a.length := by omega
    rw [hf, if_pos (by omega), gi_at hlt, Option.bind_some, hp _ (List.getElem_mem hlt), Option.bind_some]
    have hd : a.drop j = a[j] :: a.drop (j + 1) := List.drop_eq_getElem_cons hlt
    by_cases hq : q a[j] = true
    · rw [if_pos hq, hg, w_succ (by omega), ih a i (j + 1) (by omega) (by omega) hl hp, hd, List.filter_cons_of_neg (by simp [hq])]
    · rw [if_neg hq, gi_at (show i < a.length by omega), Option.bind_some, Option.bind_some, hg, w_succ (by omega), w_succ (by omega)]
      rw [show Int.toNat (i : Int) = i from rfl]
      rw [ih (a.set i a[j]) (i + 1) (j + 1) (by simp; omega) (by omega) (by simpa using hl) (fun x hx => by
        rcases List.mem_or_eq_of_mem_set hx with hx | hx
        · exact hp x hx
        · rw [hx]; exact hp _ (List.getElem_mem hlt))]
      rw [List.take_set, List.set_eq_take_append_cons_drop, if_pos (by rw [List.length_take]; omega), List.drop_set_of_lt (by omega), hd, List.filter_cons_of_pos (by simp [hq])]
      simp [List.take_take]
/-- slices.DeleteFunc. -/
theorem deleteFunc_val {f g : List α → (α → Option Bool) → Int → Int → Option (List α)} {ix : List α → (α → Option Bool) → Option Int} {h : List α → (α → Option Bool) → Option (List α)} {z : α}
    (hf : ∀ a p i j, f a p i j = if j < ((a.length : Nat) : Int) then (Option.bind (gi a j) fun y => Option.bind (p y) fun b => if b = true then g a p i j else Option.bind (gi a i) fun _ => Option.bind (some (List.set a (Int.toNat i) y)) fun l => g l p (IntKind.wrap .i64 (i + 1)) j) else Option.bind (sls a i ((a.length : Nat) : Int)) fun _ => Option.bind (sls (clrL a i ((a.length : Nat) : Int) z) 0 i) fun l => some l)
    (hg : ∀ a p i j, g a p i j = f a p i (IntKind.wrap .i64 (j + 1)))
    {l : List α} {p : α → Option Bool} (q : α → Bool) (hp : ∀ x ∈ l, p x = some (q x)) (hl : l.length ≤ 4611686018427387904)
    (hi : ix l p = some (idxOf q l)) (hh : ∀ a p, h a p = Option.bind (ix a p) fun y => if y = -1 then some a else f a p y (IntKind.wrap .i64 (y + 1))) : h l p = some (l.filter fun x => !q x) := by
  rw [hh, hi, Option.bind_some]
  cases hx : l.findIdx? q with
  | none =>
    rw [show idxOf q l = -1 by simp [idxOf, hx], if_pos rfl]
    rw [List.findIdx?_eq_none_iff] at hx
    congr 1
    symm
    rw [List.filter_eq_self]
    intro x hx'
    simp [hx x hx']
  | some k =>
    rw [List.findIdx?_eq_some_iff_getElem] at hx
    obtain ⟨hlt, h1, h2⟩ := hx
    have hk : idxOf q l = (k : Int) := by
      have : l.findIdx? q = some k := by rw [List.findIdx?_eq_some_iff_getElem]; exact ⟨hlt, h1, h2⟩
      simp [idxOf, this]
    rw [hk, if_neg (by omega), w_succ (by omega), deleteLoop_val hf hg q (l.length - (k + 1)) l k (k + 1) (by omega) (by omega) hl hp]
    congr 1
    conv => rhs; rw [← List.take_append_drop k l, List.filter_append, List.drop_eq_getElem_cons hlt, List.filter_cons_of_neg (by simp [h1])]
    congr 1
    symm
    rw [List.filter_eq_self]
    intro x hx'
    rw [List.mem_take_iff_getElem] at hx'
    obtain ⟨j, hj, rfl⟩ := hx'
    have := h2 j (by omega)
    simp at this
    simp [this]
end
end Go.Hw
