/- What may be done by whom: the law EffectSays over data alone (no memory, no Go). -/
import Derived.Test.YtilmfjdagnbbaabLfEffectSays
namespace Go.Proofs.Ytilmfjdagnbbaab.Fw
open Go Go.Hw Go.Proofs
set_option linter.unusedVariables false
set_option linter.unusedSectionVars false
abbrev Ex := T_api_Expr

/-! ### Expressions within expressions -/
def parts (e : Ex) : List Ex := e.Args ++ e.Arms.map (·.Body)
theorem parts_lt {e x : Ex} (h : x ∈ parts e) : SizeOf.sizeOf x < SizeOf.sizeOf e := by
  have h0 : SizeOf.sizeOf e = 1 + SizeOf.sizeOf e.Kind + SizeOf.sizeOf e.Num + SizeOf.sizeOf e.Text + SizeOf.sizeOf e.Names + SizeOf.sizeOf e.Types + SizeOf.sizeOf e.Args + SizeOf.sizeOf e.Arms + SizeOf.sizeOf e.At := by cases e; simp
  unfold parts at h
  rcases List.mem_append.1 h with h | h
  · have := List.sizeOf_lt_of_mem h; omega
  · obtain ⟨a, ha, rfl⟩ := List.mem_map.1 h
    have h1 := List.sizeOf_lt_of_mem ha
    have h2 := T_api_Arm.lt_Body a
    omega
def walk (e : Ex) : List Ex := e :: (parts e).attach.flatMap fun y => walk y.1
termination_by SizeOf.sizeOf e
decreasing_by exact parts_lt y.2
theorem walk_eq (e : Ex) : walk e = e :: (parts e).flatMap walk := by
  rw [walk]
  congr 1
  have : ((parts e).attach.flatMap fun y => walk y.1) = ((parts e).attach.map (fun y => y.1)).flatMap walk := by rw [List.flatMap_map]
  rw [this, List.attach_map_subtype_val]
theorem walk_ind {p : Ex → Prop} (h : ∀ e, (∀ x ∈ parts e, p x) → p e) (e : Ex) : p e := by
  have key : ∀ n e, SizeOf.sizeOf e ≤ n → p e := by
    intro n
    induction n with
    | zero => intro e he; cases e; simp at he
    | succ n ih => exact fun e he => h e fun x hx => ih x (by have := parts_lt hx; omega)
  exact key _ e (Nat.le_refl _)
theorem len_flatMap (l : List Ex) : (l.flatMap walk).length = (l.map fun x => (walk x).length).sum := by rw [List.length_flatMap]
theorem sum_le {α : Type} {l : List α} {f g : α → Nat} (h : ∀ x ∈ l, f x ≤ g x) : (l.map f).sum ≤ (l.map g).sum := by
  induction l with
  | nil => simp
  | cons x l ih =>
    have h0 := h x (by simp)
    have h1 := ih (fun y hy => h y (by simp [hy]))
    simp only [List.map_cons, List.sum_cons]; omega
theorem sum_one {α : Type} (l : List α) : (l.map fun _ => 1).sum = l.length := by
  induction l with
  | nil => rfl
  | cons x l ih => rw [List.map_cons, List.sum_cons, ih, List.length_cons]; omega
theorem sum_mem {α : Type} {l : List α} {f : α → Nat} {x : α} (h : x ∈ l) : f x ≤ (l.map f).sum := by
  induction l with
  | nil => cases h
  | cons y l ih =>
    simp only [List.map_cons, List.sum_cons]
    rcases List.mem_cons.1 h with rfl | h
    · omega
    · have := ih h; omega
theorem walk_bulk (e : Ex) : (walk e).length ≤ e.bulk := by
  induction e using walk_ind with
  | h e ih =>
    have h1 : ((parts e).map fun x => (walk x).length).sum ≤ ((parts e).map T_api_Expr.bulk).sum := sum_le ih
    have h2 : ((parts e).map T_api_Expr.bulk).sum = (e.Args.map T_api_Expr.bulk).sum + (e.Arms.map fun a => a.Body.bulk).sum := by
      unfold parts; rw [List.map_append, List.sum_append, List.map_map]; rfl
    have h3 : (e.Arms.map fun a => a.Body.bulk).sum ≤ (e.Arms.map T_api_Arm.bulk).sum := sum_le fun a _ => by unfold T_api_Arm.bulk; omega
    rw [walk_eq, List.length_cons, len_flatMap, T_api_Expr.bulk_eq]
    omega
theorem parts_len (e : Ex) : (parts e).length ≤ (walk e).length := by
  rw [walk_eq, List.length_cons, len_flatMap]
  have := sum_one (parts e)
  have h2 : ((parts e).map fun _ => 1).sum ≤ ((parts e).map fun x => (walk x).length).sum := sum_le fun x _ => by rw [walk_eq]; simp
  omega
theorem walk_part {e x : Ex} (h : x ∈ parts e) : (walk x).length < (walk e).length := by
  rw [walk_eq e, List.length_cons, len_flatMap]
  have := sum_mem (f := fun x => (walk x).length) h
  omega
theorem parts_val {e : Ex} (h : (walk e).length ≤ 4194304) : tree_Parts e = some (parts e) := by
  have hl := parts_len e
  have hp : (parts e).length = e.Args.length + e.Arms.length := by unfold parts; simp
  unfold tree_Parts
  rw [show slices_Clone_160 e.Args = some e.Args from ap_nil (by omega), Option.bind_some]
  have loop : ∀ (r pre : List T_api_Arm) (acc : List Ex), e.Arms = pre ++ r → acc.length = e.Args.length + pre.length → tree_Parts.l0 acc e.Arms (e.Arms.length : Int) (pre.length : Int) = some (acc ++ r.map (·.Body)) := by
    intro r
    induction r with
    | nil => intro pre acc he _; rw [tree_Parts.l0_eq, if_neg (by rw [he]; simp)]; simp
    | cons a r ih =>
      intro pre acc he ha
      have hlen : e.Arms.length = pre.length + (r.length + 1) := by rw [he]; simp
      rw [tree_Parts.l0_eq, if_pos (by omega), gi_some (k := pre.length) rfl (by rw [he]; simp : e.Arms[pre.length]? = some a), Option.bind_some, ap_one (by omega), Option.bind_some, w_succ (by omega)]
      have := ih (pre ++ [a]) (acc ++ [a.Body]) (by simpa using he) (by simp; omega)
      simpa using this
  exact loop e.Arms [] e.Args rfl (by simp)
theorem walk_val (e : Ex) (h : (walk e).length ≤ 4194304) : tree_Walk e = some (walk e) := by
  induction e using walk_ind with
  | h e ih =>
    rw [tree_Walk_eq, parts_val h, Option.bind_some]
    have hw := h
    rw [walk_eq, List.length_cons] at hw
    have hl := parts_len e
    have loop : ∀ (r pre : List Ex) (acc : List Ex), parts e = pre ++ r → acc.length + (r.flatMap walk).length ≤ 4194304 → tree_Walk.l0 acc (parts e) ((parts e).length : Int) (pre.length : Int) = some (acc ++ r.flatMap walk) := by
      intro r
      induction r with
      | nil => intro pre acc he _; rw [tree_Walk.l0_eq, if_neg (by rw [he]; simp)]; simp
      | cons x r ih2 =>
        intro pre acc he ha
        have hlen : (parts e).length = pre.length + (r.length + 1) := by rw [he]; simp
        have hx : x ∈ parts e := by rw [he]; simp
        rw [List.flatMap_cons, List.length_append] at ha
        rw [tree_Walk.l0_eq, if_pos (by omega), gi_some (k := pre.length) rfl (by rw [he]; simp : (parts e)[pre.length]? = some x), Option.bind_some, ih x hx (by omega), Option.bind_some, ap_of (by omega), Option.bind_some, w_succ (by omega)]
        have := ih2 (pre ++ [x]) (acc ++ walk x) (by simpa using he) (by rw [List.length_append]; omega)
        simpa using this
    have := loop (parts e) [] [e] rfl (by rw [List.length_singleton]; omega)
    rw [walk_eq]
    simpa using this

/-! ### The same by a stack -/
theorem all_l1 {out : List Ex} {x : Ex} (hx : (parts x).length ≤ 4194304) : ∀ (k : Nat) (row : List Ex), k ≤ x.Arms.length → row.length + k ≤ 8388608 → roadref2_All.l1 row out x ((k : Int) - 1) = roadref2_All.l2 (row ++ ((x.Arms.take k).map (·.Body)).reverse) out x ((x.Args.length : Int) - 1) := by
  have hp : (parts x).length = x.Args.length + x.Arms.length := by unfold parts; simp
  intro k
  induction k with
  | zero => intro row _ _; rw [roadref2_All.l1_eq, if_neg (by omega), wrap_in (by omega) (by omega)]; simp
  | succ k ih =>
    intro row hk hr
    have hlt : k < x.Arms.length := by omega
    rw [roadref2_All.l1_eq, if_pos (by omega), gi_some (k := k) (by omega) (List.getElem?_eq_getElem hlt), Option.bind_some, ap_one (by omega), Option.bind_some, wrap_in (by omega) (by omega), show ((k + 1 : Nat) : Int) - 1 - 1 = (k : Int) - 1 by omega, ih _ (by omega) (by simp; omega), List.take_succ_eq_append_getElem hlt, List.map_append, List.reverse_append]
    simp only [List.map_cons, List.map_nil, List.reverse_singleton, List.append_assoc]
theorem all_l2 {out : List Ex} {x : Ex} (hx : (parts x).length ≤ 4194304) : ∀ (k : Nat) (row : List Ex), k ≤ x.Args.length → row.length + k ≤ 16777216 → roadref2_All.l2 row out x ((k : Int) - 1) = roadref2_All.l0 (row ++ (x.Args.take k).reverse) out := by
  have hp : (parts x).length = x.Args.length + x.Arms.length := by unfold parts; simp
  intro k
  induction k with
  | zero => intro row _ _; rw [roadref2_All.l2_eq, if_neg (by omega)]; simp
  | succ k ih =>
    intro row hk hr
    have hlt : k < x.Args.length := by omega
    rw [roadref2_All.l2_eq, if_pos (by omega), gi_some (k := k) (by omega) (List.getElem?_eq_getElem hlt), Option.bind_some, ap_one (by omega), Option.bind_some, wrap_in (by omega) (by omega), show ((k + 1 : Nat) : Int) - 1 - 1 = (k : Int) - 1 by omega, ih _ (by omega) (by simp; omega), List.take_succ_eq_append_getElem hlt, List.reverse_append]
    simp only [List.reverse_singleton, List.append_assoc]
theorem all_l0 : ∀ (n : Nat) (row out : List Ex), (row.reverse.flatMap walk).length ≤ n → out.length + n ≤ 4194304 → roadref2_All.l0 row out = some (out ++ row.reverse.flatMap walk) := by
  intro n
  induction n using Nat.strongRecOn with
  | _ n ih =>
    intro row out h1 h2
    rw [roadref2_All.l0_eq]
    by_cases h0 : row = []
    · subst h0; rw [if_neg (by simp)]; simp
    · obtain ⟨pre, x, rfl⟩ : ∃ pre x, row = pre ++ [x] := ⟨row.dropLast, row.getLast h0, (List.dropLast_concat_getLast h0).symm⟩
      have hrl : ∀ l : List Ex, l.length ≤ (l.flatMap walk).length := by
        intro l
        rw [len_flatMap]
        rw [← sum_one l]
        exact sum_le fun x _ => by rw [walk_eq]; simp
      have hw := hrl (pre ++ [x]).reverse
      have hr2 : (pre ++ [x]).reverse = x :: pre.reverse := by simp
      rw [hr2, List.flatMap_cons, List.length_append, walk_eq x, List.length_cons] at h1
      rw [hr2, List.flatMap_cons, List.length_append, walk_eq x] at hw
      simp only [List.length_cons, List.length_reverse] at hw
      have hpl := parts_len x
      rw [walk_eq x, List.length_cons] at hpl
      have hp : (parts x).length = x.Args.length + x.Arms.length := by unfold parts; simp
      have hlen : (pre ++ [x]).length = pre.length + 1 := by simp
      have hwl : (x :: pre.reverse).length = pre.length + 1 := by simp
      rw [if_pos (by omega), hlen, wrap_in (by omega) (by omega), show ((pre.length + 1 : Nat) : Int) - 1 = (pre.length : Int) by omega, gi_some (k := pre.length) rfl (by simp : (pre ++ [x])[pre.length]? = some x), Option.bind_some, sls_take (k := pre.length) rfl (by simp), Option.bind_some, List.take_left' rfl, ap_one (by omega), Option.bind_some, wrap_in (by omega) (by omega), all_l1 (by omega) _ _ (Nat.le_refl _) (by omega), all_l2 (by omega) _ _ (Nat.le_refl _) (by simp; omega), List.take_of_length_le (Nat.le_refl _), List.take_of_length_le (Nat.le_refl _)]
      have e : (pre ++ (x.Arms.map (·.Body)).reverse ++ x.Args.reverse).reverse = parts x ++ pre.reverse := by simp [parts]
      rw [ih (n - 1) (by omega) _ _ (by rw [e, List.flatMap_append, List.length_append]; omega) (by simp; omega), e, hr2, List.flatMap_cons, walk_eq x]
      simp
theorem all_val (e : Ex) (h : (walk e).length ≤ 4194304) : roadref2_All e = some (walk e) := by
  unfold roadref2_All
  have := all_l0 (walk e).length [e] [] (by simp) (by simpa using h)
  simpa using this

/-! ### How big things are -/
theorem part_bulk {e x : Ex} (h : x ∈ parts e) : x.bulk < e.bulk := by
  rw [T_api_Expr.bulk_eq e]
  unfold parts at h
  rcases List.mem_append.1 h with h | h
  · have := sum_mem (f := T_api_Expr.bulk) h; omega
  · obtain ⟨a, ha, rfl⟩ := List.mem_map.1 h
    have := sum_mem (f := T_api_Arm.bulk) ha
    have h2 : a.Body.bulk ≤ a.bulk := by unfold T_api_Arm.bulk; omega
    omega
theorem walk_mem {e x : Ex} : x ∈ walk e ↔ x = e ∨ ∃ y ∈ parts e, x ∈ walk y := by rw [walk_eq]; simp
theorem walk_self (e : Ex) : e ∈ walk e := walk_mem.2 (.inl rfl)
theorem mem_bulk (e : Ex) : ∀ x ∈ walk e, x.bulk ≤ e.bulk := by
  induction e using walk_ind with
  | h e ih =>
    intro x hx
    rcases walk_mem.1 hx with rfl | ⟨y, hy, h2⟩
    · exact Nat.le_refl _
    · have := ih y hy x h2
      have := part_bulk hy
      omega
theorem walk_trans (e : Ex) : ∀ x ∈ walk e, ∀ y ∈ walk x, y ∈ walk e := by
  induction e using walk_ind with
  | h e ih =>
    intro x hx y hy
    rcases walk_mem.1 hx with rfl | ⟨z, hz, h2⟩
    · exact hy
    · exact walk_mem.2 (.inr ⟨z, hz, ih z hz x h2 y hy⟩)
theorem pats_val (p : T_api_Pat) (hp : p.bulk ≤ 1048576) : ∃ l, roadref2_pats p = some l ∧ l.length ≤ 1048576 := by
  have one : ∀ x : T_api_Pat, 1 ≤ x.bulk := fun x => by rw [T_api_Pat.bulk_eq]; omega
  have hlen : ∀ l : List T_api_Pat, l.length ≤ (l.map T_api_Pat.bulk).sum := fun l => by rw [← sum_one l]; exact sum_le fun x _ => one x
  have loop : ∀ (n : Nat) (pre r : List T_api_Pat), (r.map T_api_Pat.bulk).sum ≤ n → pre.length + n ≤ 1048576 → ∃ l, roadref2_pats.l0 (pre ++ r) (pre.length : Int) = some l ∧ l.length ≤ 1048576 := by
    intro n
    induction n using Nat.strongRecOn with
    | _ n ih =>
      intro pre r h1 h2
      have hl := hlen r
      rw [roadref2_pats.l0_eq]
      cases r with
      | nil => rw [if_neg (by simp)]; exact ⟨_, rfl, by simp; omega⟩
      | cons x r =>
        have hx := T_api_Pat.bulk_eq x
        have hc := hlen x.Args
        rw [List.map_cons, List.sum_cons] at h1
        have hlr := hlen r
        have e1 : (pre ++ x :: r).length = pre.length + (r.length + 1) := by simp
        rw [if_pos (by omega), gi_some (k := pre.length) rfl (by simp : (pre ++ x :: r)[pre.length]? = some x), Option.bind_some, ap_of (by rw [e1]; omega), Option.bind_some, w_succ (by omega)]
        have := ih (n - 1) (by omega) (pre ++ [x]) (r ++ x.Args) (by rw [List.map_append, List.sum_append]; omega) (by simp; omega)
        simpa using this
  unfold roadref2_pats
  exact loop p.bulk [] [p] (by simp) (by simpa using hp)
theorem size_val (e : Ex) (he : e.bulk ≤ 1048576) : ∃ n, roadref2_SizeOf e = some n := by
  have hw := walk_bulk e
  unfold roadref2_SizeOf
  rw [all_val e (by omega), Option.bind_some]
  have hl : ∀ x ∈ walk e, x.bulk ≤ 1048576 := fun x hx => Nat.le_trans (mem_bulk e x hx) he
  have l1 : ∀ (x : Ex) (k : Nat), x.bulk ≤ 1048576 → (∀ m, ∃ n, roadref2_SizeOf.l0 m (walk e) ((walk e).length : Int) (IntKind.wrap .i64 ((k : Int) + 1)) = some n) → ∀ (r pre : List T_api_Arm) (m : Int), x.Arms = pre ++ r → ∃ n, roadref2_SizeOf.l1 m (walk e) ((walk e).length : Int) (k : Int) x.Arms (x.Arms.length : Int) (pre.length : Int) = some n := by
    intro x k hx hn r
    have hx2 := T_api_Expr.bulk_eq x
    have hal : x.Arms.length ≤ (x.Arms.map T_api_Arm.bulk).sum := by rw [← sum_one x.Arms]; exact sum_le fun a _ => by unfold T_api_Arm.bulk; omega
    induction r with
    | nil =>
      intro pre m h
      rw [roadref2_SizeOf.l1_eq, if_neg (by rw [h]; simp)]; exact hn m
    | cons a r ih =>
      intro pre m h
      have hlen : x.Arms.length = pre.length + (r.length + 1) := by rw [h]; simp
      have ha := sum_mem (f := T_api_Arm.bulk) (show a ∈ x.Arms by rw [h]; simp)
      have hap : a.Pat.bulk ≤ a.bulk := by unfold T_api_Arm.bulk; omega
      obtain ⟨l, hl, _⟩ := pats_val a.Pat (by omega)
      rw [roadref2_SizeOf.l1_eq, if_pos (by omega), gi_some (k := pre.length) rfl (by rw [h]; simp : x.Arms[pre.length]? = some a), Option.bind_some, hl, Option.bind_some, w_succ (by omega)]
      have := ih (pre ++ [a]) (IntKind.wrap .i64 (m + (l.length : Int))) (by simpa using h)
      simpa using this
  have l0 : ∀ (d k : Nat) (m : Int), k + d = (walk e).length → ∃ n, roadref2_SizeOf.l0 m (walk e) ((walk e).length : Int) (k : Int) = some n := by
    intro d
    induction d with
    | zero => intro k m hk; rw [roadref2_SizeOf.l0_eq, if_neg (by omega)]; exact ⟨_, rfl⟩
    | succ d ih =>
      intro k m hk
      have hlt : k < (walk e).length := by omega
      rw [roadref2_SizeOf.l0_eq, if_pos (by omega), gi_at hlt, Option.bind_some]
      exact l1 _ k (hl _ (List.getElem_mem hlt)) (fun m => by rw [w_succ (by omega)]; exact ih (k + 1) m (by omega)) _ [] _ rfl
  exact l0 _ 0 _ (Nat.zero_add _)

/-! ### What is done -/
theorem or_nat {x y : Nat} (hx : x < 128) (hy : y < 128) : bitsI .or .i64 (x : Int) (y : Int) = ((x ||| y : Nat) : Int) := by
  show IntKind.wrap .i64 ((BitVec.ofInt 64 (x : Int) ||| BitVec.ofInt 64 (y : Int)).toNat : Nat) = _
  have e : ∀ z : Nat, z < 128 → (BitVec.ofInt 64 (z : Int)).toNat = z := fun z hz => by rw [BitVec.toNat_ofInt]; omega
  rw [BitVec.toNat_or, e x hx, e y hy]
  have := Nat.or_lt_two_pow (n := 7) hx hy
  exact wrap_in (by omega) (by omega)
theorem or_lt {x y : Nat} (hx : x < 128) (hy : y < 128) : x ||| y < 128 := Nat.or_lt_two_pow (n := 7) hx hy
theorem and_nat {x : Nat} (hx : x < 128) : bitsI .and .i64 (x : Int) 47 = ((x &&& 47 : Nat) : Int) := by
  show IntKind.wrap .i64 ((BitVec.ofInt 64 (x : Int) &&& BitVec.ofInt 64 (47 : Int)).toNat : Nat) = _
  have e : ∀ z : Nat, z < 128 → (BitVec.ofInt 64 (z : Int)).toNat = z := fun z hz => by rw [BitVec.toNat_ofInt]; omega
  rw [BitVec.toNat_and, e x hx, show (BitVec.ofInt 64 (47 : Int)).toNat = 47 from rfl]
  have : x &&& 47 ≤ x := Nat.and_le_left
  exact wrap_in (by omega) (by omega)
def kb (k : Int) : Nat := if k = 20 then 1 else if k = 15 then 2 else if k = 14 then 4 else if k = 18 then 8 else if k = 19 then 16 else if k = 24 then 32 else if k = 25 then 32 else if k = 21 then 64 else if k = 22 then 64 else if k = 23 then 64 else 0
theorem kb_lt (k : Int) : kb k < 128 := by unfold kb; repeat' split
                                           all_goals omega
def orAll (a : Nat) (l : List Ex) : Nat := l.foldl (fun a x => a ||| kb x.Kind) a
theorem orAll_lt {l : List Ex} : ∀ {a : Nat}, a < 128 → orAll a l < 128 := by
  induction l with
  | nil => intro a h; exact h
  | cons x l ih => intro a h; exact ih (or_lt h (kb_lt _))
def own (e : Ex) : Nat := orAll 0 (walk e)
theorem own_lt (e : Ex) : own e < 128 := orAll_lt (by decide)
theorem own_val (e : Ex) (h : (walk e).length ≤ 4194304) : effect_Own e = some (own e : Int) := by
  unfold effect_Own
  rw [walk_val e h, Option.bind_some]
  have loop : ∀ (r pre : List Ex) (a : Nat), walk e = pre ++ r → a < 128 → effect_Own.l0 (a : Int) (walk e) ((walk e).length : Int) (pre.length : Int) = some (orAll a r : Int) := by
    intro r
    induction r with
    | nil => intro pre a he _; rw [effect_Own.l0_eq, if_neg (by rw [he]; simp)]; rfl
    | cons x r ih =>
      intro pre a he ha
      have hlen : (walk e).length = pre.length + (r.length + 1) := by rw [he]; simp
      have go : ∀ b : Nat, b = a ||| kb x.Kind → effect_Own.l0 (b : Int) (walk e) ((walk e).length : Int) (IntKind.wrap .i64 ((pre.length : Int) + 1)) = some (orAll a (x :: r) : Int) := by
        rintro b rfl
        rw [w_succ (by omega)]
        have := ih (pre ++ [x]) (a ||| kb x.Kind) (by simpa using he) (or_lt ha (kb_lt _))
        rw [show orAll a (x :: r) = orAll (a ||| kb x.Kind) r from rfl]
        simpa using this
      have k0 : ∀ (z : Nat), z < 128 → z = kb x.Kind → effect_Own.l0 (bitsI .or .i64 (a : Int) (z : Int)) (walk e) ((walk e).length : Int) (IntKind.wrap .i64 ((pre.length : Int) + 1)) = some (orAll a (x :: r) : Int) := by
        intro z hz hk
        rw [or_nat ha hz]
        exact go _ (by rw [hk])
      rw [effect_Own.l0_eq, if_pos (by omega), gi_some (k := pre.length) rfl (by rw [he]; simp : (walk e)[pre.length]? = some x), Option.bind_some]
      by_cases k20 : x.Kind = 20
      · rw [if_pos k20]; exact k0 1 (by decide) (by rw [k20]; rfl)
      rw [if_neg k20]
      by_cases k15 : x.Kind = 15
      · rw [if_pos k15]; exact k0 2 (by decide) (by rw [k15]; rfl)
      rw [if_neg k15]
      by_cases k14 : x.Kind = 14
      · rw [if_pos k14]; exact k0 4 (by decide) (by rw [k14]; rfl)
      rw [if_neg k14]
      by_cases k18 : x.Kind = 18
      · rw [if_pos k18]; exact k0 8 (by decide) (by rw [k18]; rfl)
      rw [if_neg k18]
      by_cases k19 : x.Kind = 19
      · rw [if_pos k19]; exact k0 16 (by decide) (by rw [k19]; rfl)
      rw [if_neg k19]
      by_cases k24 : x.Kind = 24
      · rw [if_pos k24, effect_Own.j0_eq, if_pos (by simp [k24])]; exact k0 32 (by decide) (by rw [k24]; rfl)
      rw [if_neg k24, effect_Own.j0_eq]
      by_cases k25 : x.Kind = 25
      · rw [if_pos (by simp [k25])]; exact k0 32 (by decide) (by rw [k25]; rfl)
      rw [if_neg (by simp [k25])]
      by_cases k21 : x.Kind = 21
      · rw [if_pos k21, effect_Own.j1_eq, if_pos (by simp [k21])]; exact k0 64 (by decide) (by rw [k21]; rfl)
      rw [if_neg k21]
      by_cases k22 : x.Kind = 22
      · rw [if_pos k22, effect_Own.j1_eq, if_pos (by simp [k22])]; exact k0 64 (by decide) (by rw [k22]; rfl)
      rw [if_neg k22, effect_Own.j1_eq]
      by_cases k23 : x.Kind = 23
      · rw [if_pos (by simp [k23])]; exact k0 64 (by decide) (by rw [k23]; rfl)
      rw [if_neg (by simp [k23])]
      refine go a ?_
      have : kb x.Kind = 0 := by unfold kb; rw [if_neg k20, if_neg k15, if_neg k14, if_neg k18, if_neg k19, if_neg k24, if_neg k25, if_neg k21, if_neg k22, if_neg k23]
      rw [this, Nat.or_zero]
  exact loop (walk e) [] 0 rfl (by decide)
theorem kb_map (k : Int) : pgd (pset (pset (pset (pset (pset (pset (pset (pset (pset (pset ([] : List (Int × Int)) 20 1) 15 2) 14 4) 18 8) 19 16) 24 32) 25 32) 21 64) 22 64) 23 64) k 0 = (kb k : Int) := by
  unfold pgd
  simp only [pget_pset]
  unfold kb
  by_cases k20 : k = 20
  · subst k20; rfl
  by_cases k15 : k = 15
  · subst k15; rfl
  by_cases k14 : k = 14
  · subst k14; rfl
  by_cases k18 : k = 18
  · subst k18; rfl
  by_cases k19 : k = 19
  · subst k19; rfl
  by_cases k24 : k = 24
  · subst k24; rfl
  by_cases k25 : k = 25
  · subst k25; rfl
  by_cases k21 : k = 21
  · subst k21; rfl
  by_cases k22 : k = 22
  · subst k22; rfl
  by_cases k23 : k = 23
  · subst k23; rfl
  simp only [if_neg k20, if_neg k15, if_neg k14, if_neg k18, if_neg k19, if_neg k24, if_neg k25, if_neg k21, if_neg k22, if_neg k23]; rfl
theorem ownOf_val (e : Ex) (h : (walk e).length ≤ 4194304) : roadref2_OwnOf e = some (own e : Int) := by
  unfold roadref2_OwnOf
  rw [all_val e h, Option.bind_some]
  have loop : ∀ (r pre : List Ex) (a : Nat), walk e = pre ++ r → a < 128 → roadref2_OwnOf.l0 (a : Int) (walk e) ((walk e).length : Int) (pre.length : Int) = some (orAll a r : Int) := by
    intro r
    induction r with
    | nil => intro pre a he _; rw [roadref2_OwnOf.l0_eq, if_neg (by rw [he]; simp)]; rfl
    | cons x r ih =>
      intro pre a he ha
      have hlen : (walk e).length = pre.length + (r.length + 1) := by rw [he]; simp
      rw [roadref2_OwnOf.l0_eq, if_pos (by omega), gi_some (k := pre.length) rfl (by rw [he]; simp : (walk e)[pre.length]? = some x)]
      simp only [Option.bind_some]
      rw [kb_map, or_nat ha (kb_lt _), w_succ (by omega)]
      have := ih (pre ++ [x]) (a ||| kb x.Kind) (by simpa using he) (or_lt ha (kb_lt _))
      rw [show orAll a (x :: r) = orAll (a ||| kb x.Kind) r from rfl]
      simpa using this
  exact loop (walk e) [] 0 rfl (by decide)

/-! ### Who is called -/
def cstep (acc : List ByteArray) (x : Ex) : List ByteArray := if x.Kind = 9 ∧ (acc.any fun y => decide (x.Text = y)) = false then acc ++ [x.Text] else acc
def calls (e : Ex) : List ByteArray := (walk e).foldl cstep []
theorem cstep_len (acc : List ByteArray) (x : Ex) : (cstep acc x).length ≤ acc.length + 1 := by unfold cstep; split <;> simp
theorem cfold_len (l : List Ex) : ∀ acc : List ByteArray, (l.foldl cstep acc).length ≤ acc.length + l.length := by
  induction l with
  | nil => intro acc; simp
  | cons x l ih => intro acc; have := ih (cstep acc x); have := cstep_len acc x; simp only [List.foldl_cons, List.length_cons]; omega
theorem calls_len (e : Ex) : (calls e).length ≤ (walk e).length := by unfold calls; have := cfold_len (walk e) []; simpa using this
theorem cfold_mem (l : List Ex) (n : ByteArray) : ∀ acc : List ByteArray, n ∈ l.foldl cstep acc ↔ n ∈ acc ∨ ∃ x ∈ l, x.Kind = 9 ∧ x.Text = n := by
  induction l with
  | nil => intro acc; simp
  | cons x l ih =>
    intro acc
    rw [List.foldl_cons, ih]
    unfold cstep
    by_cases h : x.Kind = 9 ∧ (acc.any fun y => decide (x.Text = y)) = false
    · rw [if_pos h]
      constructor
      · rintro (h1 | ⟨y, h1, h2, h3⟩)
        · rcases List.mem_append.1 h1 with h1 | h1
          · exact .inl h1
          · simp at h1; exact .inr ⟨x, by simp, h.1, h1.symm⟩
        · exact .inr ⟨y, by simp [h1], h2, h3⟩
      · rintro (h1 | ⟨y, h1, h2, h3⟩)
        · exact .inl (List.mem_append.2 (.inl h1))
        · rcases List.mem_cons.1 h1 with rfl | h1
          · exact .inl (by simp [h3])
          · exact .inr ⟨y, h1, h2, h3⟩
    · rw [if_neg h]
      constructor
      · rintro (h1 | ⟨y, h1, h2, h3⟩)
        · exact .inl h1
        · exact .inr ⟨y, by simp [h1], h2, h3⟩
      · rintro (h1 | ⟨y, h1, h2, h3⟩)
        · exact .inl h1
        · rcases List.mem_cons.1 h1 with rfl | h1
          · by_cases hb : (acc.any fun z => decide (y.Text = z)) = true
            · obtain ⟨z, hz, hzz⟩ := List.any_eq_true.1 hb
              have := of_decide_eq_true hzz
              exact .inl (by rw [← h3, this]; exact hz)
            · exact absurd ⟨h2, Bool.eq_false_iff.2 hb⟩ h
          · exact .inr ⟨y, h1, h2, h3⟩
theorem calls_mem (e : Ex) (n : ByteArray) : n ∈ calls e ↔ ∃ x ∈ walk e, x.Kind = 9 ∧ x.Text = n := by unfold calls; rw [cfold_mem]; simp
theorem calls_val (e : Ex) (h : (walk e).length ≤ 4194304) : effect_Calls e = some (calls e) := by
  unfold effect_Calls
  rw [walk_val e h, Option.bind_some]
  have loop : ∀ (r pre : List Ex) (a : List ByteArray), walk e = pre ++ r → a.length ≤ pre.length → effect_Calls.l0 a (walk e) ((walk e).length : Int) (pre.length : Int) = some (r.foldl cstep a) := by
    intro r
    induction r with
    | nil => intro pre a he _; rw [effect_Calls.l0_eq, if_neg (by rw [he]; simp)]; rfl
    | cons x r ih =>
      intro pre a he ha
      have hlen : (walk e).length = pre.length + (r.length + 1) := by rw [he]; simp
      have go : ∀ b, b = cstep a x → effect_Calls.l0 b (walk e) ((walk e).length : Int) (IntKind.wrap .i64 ((pre.length : Int) + 1)) = some ((x :: r).foldl cstep a) := by
        rintro b rfl
        have hc := cstep_len a x
        rw [w_succ (by omega), List.foldl_cons]
        have := ih (pre ++ [x]) (cstep a x) (by simpa using he) (by simp; omega)
        simpa using this
      rw [effect_Calls.l0_eq, if_pos (by omega), gi_some (k := pre.length) rfl (by rw [he]; simp : (walk e)[pre.length]? = some x), Option.bind_some]
      by_cases k9 : x.Kind = 9
      · rw [if_pos k9, slices_Contains_92.val _ (by omega), Option.bind_some, effect_Calls.j0_eq]
        by_cases hb : (a.any fun y => decide (x.Text = y)) = false
        · rw [if_pos (by rw [hb]; rfl), ap_one (by omega), Option.bind_some]
          exact go _ (by unfold cstep; rw [if_pos ⟨k9, hb⟩])
        · rw [if_neg (by simpa using hb)]
          exact go _ (by unfold cstep; rw [if_neg (fun z => hb z.2)])
      · rw [if_neg k9, effect_Calls.j0_eq, if_neg (by decide)]
        exact go _ (by unfold cstep; rw [if_neg (fun z => k9 z.1)])
  exact loop (walk e) [] [] rfl (by simp)
theorem callsOf_val (e : Ex) (h : (walk e).length ≤ 4194304) : roadref2_CallsOf e = some (calls e) := by
  unfold roadref2_CallsOf
  rw [all_val e h, Option.bind_some]
  have loop : ∀ (r pre : List Ex) (a : List ByteArray), walk e = pre ++ r → a.length ≤ pre.length → roadref2_CallsOf.l0 a (walk e) ((walk e).length : Int) (pre.length : Int) = some (r.foldl cstep a) := by
    intro r
    induction r with
    | nil => intro pre a he _; rw [roadref2_CallsOf.l0_eq, if_neg (by rw [he]; simp)]; rfl
    | cons x r ih =>
      intro pre a he ha
      have hlen : (walk e).length = pre.length + (r.length + 1) := by rw [he]; simp
      have go : ∀ b, b = cstep a x → roadref2_CallsOf.l0 b (walk e) ((walk e).length : Int) (IntKind.wrap .i64 ((pre.length : Int) + 1)) = some ((x :: r).foldl cstep a) := by
        rintro b rfl
        have hc := cstep_len a x
        rw [w_succ (by omega), List.foldl_cons]
        have := ih (pre ++ [x]) (cstep a x) (by simpa using he) (by simp; omega)
        simpa using this
      rw [roadref2_CallsOf.l0_eq, if_pos (by omega), gi_some (k := pre.length) rfl (by rw [he]; simp : (walk e)[pre.length]? = some x), Option.bind_some]
      by_cases k9 : x.Kind = 9
      · rw [if_pos k9, slices_Contains_92.val _ (by omega), Option.bind_some, roadref2_CallsOf.j0_eq]
        by_cases hb : (a.any fun y => decide (x.Text = y)) = false
        · rw [if_pos (by rw [hb]; rfl), ap_one (by omega), Option.bind_some]
          exact go _ (by unfold cstep; rw [if_pos ⟨k9, hb⟩])
        · rw [if_neg (by simpa using hb)]
          exact go _ (by unfold cstep; rw [if_neg (fun z => hb z.2)])
      · rw [if_neg k9, roadref2_CallsOf.j0_eq, if_neg (by decide)]
        exact go _ (by unfold cstep; rw [if_neg (fun z => k9 z.1)])
  exact loop (walk e) [] [] rfl (by simp)
def app (e : Ex) : Bool := (walk e).any fun x => x.Kind == 11
theorem applies_val (e : Ex) (h : (walk e).length ≤ 4194304) : effect_applies e = some (app e) := by
  unfold effect_applies
  rw [walk_val e h, Option.bind_some]
  have := slices_ContainsFunc_158.val (l := walk e) (p := fun z31 => effect_applies_1 z31) (fun x => x.Kind == 11) (fun x _ => rfl) (by omega)
  rw [this]; rfl

/-! ### Functions and bodies -/
abbrev Pg := T_api_Program
def fs (p : Pg) : List T_api_Func := p.Impls.flatMap (·.Funcs) ++ p.Funcs
def bs (p : Pg) : List Ex := (fs p).map (·.Body) ++ p.Actors.map (·.Body)
theorem bs_bulk (p : Pg) : ((bs p).map T_api_Expr.bulk).sum ≤ p.bulk := by
  have h1 : ((bs p).map T_api_Expr.bulk).sum = (p.Impls.map fun m => (m.Funcs.map fun f => f.Body.bulk).sum).sum + (p.Funcs.map fun f => f.Body.bulk).sum + (p.Actors.map fun a => a.Body.bulk).sum := by
    unfold bs fs
    simp only [List.map_append, List.sum_append, List.map_map, List.map_flatMap]
    congr 1
    congr 1
    generalize p.Impls = l
    induction l with
    | nil => rfl
    | cons m l ih => rw [List.flatMap_cons, List.sum_append, ih, List.map_cons, List.sum_cons]; rfl
  have h2 : (p.Funcs.map fun f => f.Body.bulk).sum ≤ (p.Funcs.map T_api_Func.bulk).sum := sum_le fun f _ => by unfold T_api_Func.bulk; omega
  have h3 : (p.Actors.map fun f => f.Body.bulk).sum ≤ (p.Actors.map T_api_Actor.bulk).sum := sum_le fun f _ => by unfold T_api_Actor.bulk; omega
  have h4 : (p.Impls.map fun m => (m.Funcs.map fun f => f.Body.bulk).sum).sum ≤ (p.Impls.map T_api_Impl.bulk).sum := sum_le fun m _ => by
    have : (m.Funcs.map fun f => f.Body.bulk).sum ≤ (m.Funcs.map T_api_Func.bulk).sum := sum_le fun f _ => by unfold T_api_Func.bulk; omega
    unfold T_api_Impl.bulk; omega
  rw [h1]; unfold T_api_Program.bulk; omega
theorem one_bulk (e : Ex) : 1 ≤ e.bulk := by rw [T_api_Expr.bulk_eq]; omega
theorem bs_len (p : Pg) : (bs p).length ≤ p.bulk := by
  have := bs_bulk p
  have h2 : (bs p).length ≤ ((bs p).map T_api_Expr.bulk).sum := by rw [← sum_one (bs p)]; exact sum_le fun x _ => one_bulk x
  omega
theorem fs_len (p : Pg) : (fs p).length ≤ p.bulk := by
  have := bs_len p
  unfold bs at this
  simp at this; omega
theorem impls_len (p : Pg) : p.Impls.length ≤ p.bulk := by
  have : p.Impls.length ≤ (p.Impls.map T_api_Impl.bulk).sum := by rw [← sum_one p.Impls]; exact sum_le fun x _ => by unfold T_api_Impl.bulk; omega
  unfold T_api_Program.bulk; omega
theorem actors_len (p : Pg) : p.Actors.length ≤ p.bulk := by
  have : p.Actors.length ≤ (p.Actors.map T_api_Actor.bulk).sum := by rw [← sum_one p.Actors]; exact sum_le fun x _ => by unfold T_api_Actor.bulk; omega
  unfold T_api_Program.bulk; omega
theorem bs_mem {p : Pg} {e : Ex} (h : e ∈ bs p) : e.bulk ≤ p.bulk := Nat.le_trans (sum_mem (f := T_api_Expr.bulk) h) (bs_bulk p)
section
variable {p : Pg} (hb : p.bulk ≤ 1048576)
include hb
theorem funs_val : effect_Funs p = some (fs p) ∧ roadref2_FunsOf p = some (fs p) := by
  have hl := fs_len p
  have hi := impls_len p
  have h1 : (fs p).length = (p.Impls.flatMap (·.Funcs)).length + p.Funcs.length := by unfold fs; simp
  have loop : ∀ (r pre : List T_api_Impl) (acc : List T_api_Func), p.Impls = pre ++ r → acc = pre.flatMap (·.Funcs) → effect_Funs.l0 p acc p.Impls (p.Impls.length : Int) (pre.length : Int) = some (fs p) ∧ roadref2_FunsOf.l0 p acc p.Impls (p.Impls.length : Int) (pre.length : Int) = some (fs p) := by
    intro r
    induction r with
    | nil =>
      intro pre acc he ha
      have e0 : pre = p.Impls := by rw [he]; simp
      subst ha
      rw [effect_Funs.l0_eq, roadref2_FunsOf.l0_eq, if_neg (by rw [he]; simp), if_neg (by rw [he]; simp), e0, ap_of (by omega), Option.bind_some]
      exact ⟨rfl, rfl⟩
    | cons m r ih =>
      intro pre acc he ha
      have hlen : p.Impls.length = pre.length + (r.length + 1) := by rw [he]; simp
      have h2 : (p.Impls.flatMap (·.Funcs)).length = (pre.flatMap (·.Funcs)).length + (m.Funcs.length + (r.flatMap (·.Funcs)).length) := by rw [he, List.flatMap_append, List.flatMap_cons, List.length_append, List.length_append]
      have hg : gi p.Impls (pre.length : Int) = some m := gi_some (k := pre.length) rfl (by rw [he]; simp)
      subst ha
      rw [effect_Funs.l0_eq, roadref2_FunsOf.l0_eq, if_pos (by omega), if_pos (by omega), hg, Option.bind_some, Option.bind_some, ap_of (by omega), Option.bind_some, Option.bind_some, w_succ (by omega)]
      have := ih (pre ++ [m]) (pre.flatMap (·.Funcs) ++ m.Funcs) (by simpa using he) (by simp)
      simpa using this
  exact loop p.Impls [] [] rfl rfl

omit hb in
theorem bs_split (p : Pg) : bs p = (p.Impls.flatMap fun m => m.Funcs.map (·.Body)) ++ (p.Funcs.map (·.Body) ++ p.Actors.map (·.Body)) := by
  unfold bs fs
  rw [List.map_append, List.map_flatMap, List.append_assoc]
theorem bodies_val : tree_Bodies p = some (bs p) ∧ roadref2_BodiesOf p = some (bs p) := by
  have hl := bs_len p
  have hi := impls_len p
  have hf := fs_len p
  have ha := actors_len p
  have hs := bs_split p
  have hlen : (bs p).length = (p.Impls.flatMap fun m => m.Funcs.map (·.Body)).length + (p.Funcs.length + p.Actors.length) := by rw [hs]; simp only [List.length_append, List.length_map]
  have hfl : p.Funcs.length ≤ (fs p).length := by unfold fs; simp
  have l2 : ∀ (r pre : List T_api_Actor) (acc : List Ex), p.Actors = pre ++ r → acc.length + r.length ≤ 4194304 → tree_Bodies.l2 acc p.Actors (p.Actors.length : Int) (pre.length : Int) = some (acc ++ r.map (·.Body)) ∧ roadref2_BodiesOf.l1 acc p.Actors (p.Actors.length : Int) (pre.length : Int) = some (acc ++ r.map (·.Body)) := by
    intro r
    induction r with
    | nil => intro pre acc he _; rw [tree_Bodies.l2_eq, roadref2_BodiesOf.l1_eq, if_neg (by rw [he]; simp), if_neg (by rw [he]; simp)]; simp
    | cons x r ih =>
      intro pre acc he h
      have hn : p.Actors.length = pre.length + (r.length + 1) := by rw [he]; simp
      have hg : gi p.Actors (pre.length : Int) = some x := gi_some (k := pre.length) rfl (by rw [he]; simp)
      rw [List.length_cons] at h
      rw [tree_Bodies.l2_eq, roadref2_BodiesOf.l1_eq, if_pos (by omega), if_pos (by omega), hg, Option.bind_some, Option.bind_some, ap_one (by omega), Option.bind_some, Option.bind_some, w_succ (by omega)]
      have := ih (pre ++ [x]) (acc ++ [x.Body]) (by simpa using he) (by simp; omega)
      simpa using this
  have l1 : ∀ (r pre : List T_api_Func) (acc : List Ex), p.Funcs = pre ++ r → acc.length + r.length + p.Actors.length ≤ 4194304 → tree_Bodies.l1 p acc p.Funcs (p.Funcs.length : Int) (pre.length : Int) = some (acc ++ (r.map (·.Body) ++ p.Actors.map (·.Body))) := by
    intro r
    induction r with
    | nil =>
      intro pre acc he h
      rw [tree_Bodies.l1_eq, if_neg (by rw [he]; simp)]
      exact (l2 p.Actors [] acc rfl (by simp at h; omega)).1
    | cons x r ih =>
      intro pre acc he h
      have hn : p.Funcs.length = pre.length + (r.length + 1) := by rw [he]; simp
      have hg : gi p.Funcs (pre.length : Int) = some x := gi_some (k := pre.length) rfl (by rw [he]; simp)
      rw [List.length_cons] at h
      rw [tree_Bodies.l1_eq, if_pos (by omega), hg, Option.bind_some, ap_one (by omega), Option.bind_some, w_succ (by omega)]
      have := ih (pre ++ [x]) (acc ++ [x.Body]) (by simpa using he) (by simp; omega)
      simpa using this
  have l3 : ∀ (m : T_api_Impl) (i : Nat) (r pre : List T_api_Func) (acc : List Ex), m.Funcs = pre ++ r → acc.length + r.length ≤ 4194304 → m.Funcs.length ≤ 4194304 → tree_Bodies.l3 p acc p.Impls (p.Impls.length : Int) (i : Int) m.Funcs (m.Funcs.length : Int) (pre.length : Int) = tree_Bodies.l0 p (acc ++ r.map (·.Body)) p.Impls (p.Impls.length : Int) (IntKind.wrap .i64 ((i : Int) + 1)) := by
    intro m i r
    induction r with
    | nil => intro pre acc he _ _; rw [tree_Bodies.l3_eq, if_neg (by rw [he]; simp)]; simp
    | cons x r ih =>
      intro pre acc he h hm
      have hn : m.Funcs.length = pre.length + (r.length + 1) := by rw [he]; simp
      have hg : gi m.Funcs (pre.length : Int) = some x := gi_some (k := pre.length) rfl (by rw [he]; simp)
      rw [List.length_cons] at h
      rw [tree_Bodies.l3_eq, if_pos (by omega), hg, Option.bind_some, ap_one (by omega), Option.bind_some, w_succ (by omega)]
      have := ih (pre ++ [x]) (acc ++ [x.Body]) (by simpa using he) (by simp; omega) hm
      simpa using this
  have l0 : ∀ (r pre : List T_api_Impl) (acc : List Ex), p.Impls = pre ++ r → acc = (pre.flatMap fun m => m.Funcs.map (·.Body)) → tree_Bodies.l0 p acc p.Impls (p.Impls.length : Int) (pre.length : Int) = some (bs p) := by
    intro r
    induction r with
    | nil =>
      intro pre acc he h
      have e0 : pre = p.Impls := by rw [he]; simp
      rw [tree_Bodies.l0_eq, if_neg (by rw [he]; simp), hs, ← e0, ← h]
      exact l1 p.Funcs [] acc rfl (by rw [e0] at h; rw [h]; omega)
    | cons m r ih =>
      intro pre acc he h
      have hn : p.Impls.length = pre.length + (r.length + 1) := by rw [he]; simp
      have hg : gi p.Impls (pre.length : Int) = some m := gi_some (k := pre.length) rfl (by rw [he]; simp)
      have h2 : (p.Impls.flatMap fun m => m.Funcs.map (·.Body)).length = acc.length + (m.Funcs.length + (r.flatMap fun m => m.Funcs.map (·.Body)).length) := by rw [he, List.flatMap_append, List.flatMap_cons, List.length_append, List.length_append, List.length_map, h]
      have h3 := l3 m pre.length m.Funcs [] acc rfl (by omega) (by omega)
      rw [tree_Bodies.l0_eq, if_pos (by omega), hg, Option.bind_some]
      refine Eq.trans h3 ?_
      rw [w_succ (by omega)]
      have := ih (pre ++ [m]) (acc ++ m.Funcs.map (·.Body)) (by simpa using he) (by rw [h]; simp)
      simpa using this
  refine ⟨l0 p.Impls [] [] rfl rfl, ?_⟩
  unfold roadref2_BodiesOf
  rw [(funs_val hb).2, Option.bind_some]
  have b0 : ∀ (r pre : List T_api_Func) (acc : List Ex), fs p = pre ++ r → acc.length + r.length + p.Actors.length ≤ 4194304 → roadref2_BodiesOf.l0 p acc (fs p) ((fs p).length : Int) (pre.length : Int) = some (acc ++ (r.map (·.Body) ++ p.Actors.map (·.Body))) := by
    intro r
    induction r with
    | nil =>
      intro pre acc he h
      rw [roadref2_BodiesOf.l0_eq, if_neg (by rw [he]; simp)]
      exact (l2 p.Actors [] acc rfl (by simp at h; omega)).2
    | cons x r ih =>
      intro pre acc he h
      have hn : (fs p).length = pre.length + (r.length + 1) := by rw [he]; simp
      have hg : gi (fs p) (pre.length : Int) = some x := gi_some (k := pre.length) rfl (by rw [he]; simp)
      rw [List.length_cons] at h
      rw [roadref2_BodiesOf.l0_eq, if_pos (by omega), hg, Option.bind_some, ap_one (by omega), Option.bind_some, w_succ (by omega)]
      have := ih (pre ++ [x]) (acc ++ [x.Body]) (by simpa using he) (by simp; omega)
      simpa using this
  exact b0 (fs p) [] [] rfl (by simp; omega)
theorem small_val : ∃ b, roadlaw2_small p = some b := by
  unfold roadlaw2_small
  have hl := bs_len p
  rw [(bodies_val hb).2, Option.bind_some]
  have loop : ∀ (d k : Nat) (m : Int), k + d = (bs p).length → ∃ b, roadlaw2_small.l0 m (bs p) ((bs p).length : Int) (k : Int) = some b := by
    intro d
    induction d with
    | zero => intro k m hk; rw [roadlaw2_small.l0_eq, if_neg (by omega)]; exact ⟨_, rfl⟩
    | succ d ih =>
      intro k m hk
      have hlt : k < (bs p).length := by omega
      obtain ⟨n, hn⟩ := size_val ((bs p)[k]) (Nat.le_trans (bs_mem (List.getElem_mem hlt)) hb)
      rw [roadlaw2_small.l0_eq, if_pos (by omega), gi_at hlt, Option.bind_some, hn, Option.bind_some, w_succ (by omega)]
      exact ih (k + 1) _ (by omega)
  exact loop _ 0 _ (Nat.zero_add _)
end

/-! ### Once more -/
def inn (cs : List ByteArray) (n : ByteArray) : Bool := cs.any fun y => decide (n = y)
theorem inn_iff {cs : List ByteArray} {n : ByteArray} : inn cs n = true ↔ n ∈ cs := by
  unfold inn
  rw [List.any_eq_true]
  exact ⟨fun ⟨x, h1, h2⟩ => by rw [of_decide_eq_true h2]; exact h1, fun h => ⟨n, h, decide_eq_true rfl⟩⟩
def hasOr (cs : List ByteArray) : List T_api_Func → List Nat → Nat → Nat
  | f :: fl, h :: hl, a => hasOr cs fl hl (if inn cs f.Name = true then a ||| h else a)
  | _, _, a => a
theorem hasOr_lt (cs : List ByteArray) : ∀ (fl : List T_api_Func) (hl : List Nat) (a : Nat), a < 128 → (∀ h ∈ hl, h < 128) → hasOr cs fl hl a < 128 := by
  intro fl
  induction fl with
  | nil => intro hl a h _; exact h
  | cons f fl ih =>
    intro hl a ha hh
    cases hl with
    | nil => exact ha
    | cons h hl =>
      refine ih hl _ ?_ (fun x hx => hh x (by simp [hx]))
      split
      · exact or_lt ha (hh h (by simp))
      · exact ha
theorem hasOr_bit (cs : List ByteArray) (j : Nat) : ∀ (fl : List T_api_Func) (hl : List Nat) (a : Nat), (hasOr cs fl hl a).testBit j = true ↔ a.testBit j = true ∨ ∃ (i : Nat) (f : T_api_Func) (h : Nat), fl[i]? = some f ∧ hl[i]? = some h ∧ f.Name ∈ cs ∧ h.testBit j = true := by
  intro fl
  induction fl with
  | nil => intro hl a; simp [hasOr]
  | cons f fl ih =>
    intro hl a
    cases hl with
    | nil => simp [hasOr]
    | cons h hl =>
      rw [hasOr, ih]
      constructor
      · rintro (h1 | ⟨i, g, k, h1, h2, h3, h4⟩)
        · split at h1
          · rename_i hc
            rw [Nat.testBit_or, Bool.or_eq_true] at h1
            rcases h1 with h1 | h1
            · exact .inl h1
            · exact .inr ⟨0, f, h, rfl, rfl, inn_iff.1 hc, h1⟩
          · exact .inl h1
        · exact .inr ⟨i + 1, g, k, h1, h2, h3, h4⟩
      · rintro (h1 | ⟨i, g, k, h1, h2, h3, h4⟩)
        · refine .inl ?_
          split
          · rw [Nat.testBit_or, h1, Bool.true_or]
          · exact h1
        · cases i with
          | zero =>
            cases h1; cases h2
            refine .inl ?_
            rw [if_pos (inn_iff.2 h3), Nat.testBit_or, h4, Bool.or_true]
          | succ i => exact .inr ⟨i, g, k, h1, h2, h3, h4⟩
def once (p : Pg) (e : Ex) (has : List Nat) (any : Nat) : Nat := if app e = true then hasOr (calls e) (fs p) has (own e) ||| any else hasOr (calls e) (fs p) has (own e)
theorem once_lt {p : Pg} {e : Ex} {has : List Nat} {any : Nat} (h1 : ∀ h ∈ has, h < 128) (h2 : any < 128) : once p e has any < 128 := by
  have := hasOr_lt (calls e) (fs p) has (own e) (own_lt e) h1
  unfold once
  split
  · exact or_lt this h2
  · exact this
theorem once_bit {p : Pg} {e : Ex} {has : List Nat} {any j : Nat} : (once p e has any).testBit j = true ↔ (own e).testBit j = true ∨ (∃ (i : Nat) (f : T_api_Func) (h : Nat), (fs p)[i]? = some f ∧ has[i]? = some h ∧ f.Name ∈ calls e ∧ h.testBit j = true) ∨ (app e = true ∧ any.testBit j = true) := by
  unfold once
  by_cases ha : app e = true
  · rw [if_pos ha, Nat.testBit_or, Bool.or_eq_true, hasOr_bit]
    constructor
    · rintro ((h | h) | h)
      · exact .inl h
      · exact .inr (.inl h)
      · exact .inr (.inr ⟨ha, h⟩)
    · rintro (h | h | h)
      · exact .inl (.inl h)
      · exact .inl (.inr h)
      · exact .inr h.2
  · rw [if_neg ha, hasOr_bit]
    constructor
    · rintro (h | h)
      · exact .inl h
      · exact .inr (.inl h)
    · rintro (h | h | h)
      · exact .inl h
      · exact .inr h
      · exact absurd h.1 ha
def toI (l : List Nat) : List Int := l.map (fun n : Nat => ((n : Nat) : Int))
theorem toI_len (l : List Nat) : (toI l).length = l.length := by simp [toI]
theorem toI_get {l : List Nat} {i : Nat} {n : Nat} (h : l[i]? = some n) : (toI l)[i]? = some (n : Int) := by simp [toI, h]
section
variable {p : Pg} (hb : p.bulk ≤ 1048576)
include hb
theorem once_val {e : Ex} {has : List Nat} {any : Nat} (he : e.bulk ≤ 1048576) (hn : has.length = (fs p).length) (h1 : ∀ h ∈ has, h < 128) (h2 : any < 128) : effect_once p e (toI has) (any : Int) = some (once p e has any : Int) := by
  have hw := walk_bulk e
  have hf := fs_len p
  unfold effect_once
  rw [own_val e (by omega), Option.bind_some, (funs_val hb).1, Option.bind_some]
  have hcl := calls_len e
  have loop : ∀ (r pre : List T_api_Func) (hr hpre : List Nat) (a : Nat), fs p = pre ++ r → has = hpre ++ hr → hpre.length = pre.length → hr.length = r.length → a < 128 → effect_once.l0 (toI has) (any : Int) e (a : Int) (fs p) ((fs p).length : Int) (pre.length : Int) = some ((if app e = true then hasOr (calls e) r hr a ||| any else hasOr (calls e) r hr a : Nat) : Int) := by
    intro r
    induction r with
    | nil =>
      intro pre hr hpre a hp hh e1 e2 ha
      have : hr = [] := List.length_eq_zero_iff.1 (by simpa using e2)
      subst this
      rw [effect_once.l0_eq, if_neg (by rw [hp]; simp), applies_val e (by omega), Option.bind_some]
      by_cases hc : app e = true
      · rw [if_pos hc, if_pos hc, or_nat ha h2]; rfl
      · rw [if_neg hc, if_neg hc]; rfl
    | cons f r ih =>
      intro pre hr hpre a hp hh e1 e2 ha
      have hlen : (fs p).length = pre.length + (r.length + 1) := by rw [hp]; simp
      cases hr with
      | nil => simp at e2
      | cons h hr =>
        have hlt : h < 128 := h1 h (by rw [hh]; simp)
        have hg : gi (toI has) (pre.length : Int) = some (h : Int) := gi_some (k := pre.length) rfl (toI_get (by rw [hh, ← e1]; simp))
        have next : ∀ b : Nat, b < 128 → effect_once.l0 (toI has) (any : Int) e (b : Int) (fs p) ((fs p).length : Int) (IntKind.wrap .i64 ((pre.length : Int) + 1)) = some ((if app e = true then hasOr (calls e) r hr b ||| any else hasOr (calls e) r hr b : Nat) : Int) := by
          intro b hb2
          rw [w_succ (by omega)]
          have := ih (pre ++ [f]) hr (hpre ++ [h]) b (by simpa using hp) (by simpa using hh) (by simp [e1]) (by simpa using e2) hb2
          simpa using this
        rw [effect_once.l0_eq, if_pos (by omega), gi_some (k := pre.length) rfl (by rw [hp]; simp : (fs p)[pre.length]? = some f), Option.bind_some, calls_val e (by omega), Option.bind_some, slices_Contains_92.val _ (by omega), Option.bind_some]
        by_cases hc : inn (calls e) f.Name = true
        · rw [if_pos (show ((calls e).any fun y => decide (f.Name = y)) = true from hc), hg, Option.bind_some, or_nat ha hlt, hasOr, if_pos hc]
          exact next _ (or_lt ha hlt)
        · rw [if_neg (show ¬ ((calls e).any fun y => decide (f.Name = y)) = true from hc), hasOr, if_neg hc]
          exact next _ ha
  exact loop (fs p) [] has [] (own e) rfl rfl rfl hn (own_lt e)
end

/-! ### The least that fits -/
def efuns (p : Pg) : List Ex := ((bs p).flatMap walk).filter fun x => x.Kind == 10
def nxt (p : Pg) (has : List Nat) (any : Nat) : List Nat := (fs p).map fun f => once p f.Body has any
def mfold (p : Pg) (has : List Nat) (any : Nat) (l : List Ex) (a : Nat) : Nat := (l.filter fun x => x.Kind == 10).foldl (fun a x => a ||| once p x has any) a
def more (p : Pg) (has : List Nat) (any : Nat) : Nat := (efuns p).foldl (fun a x => a ||| once p x has any) any
theorem mfold_cons (p : Pg) (has : List Nat) (any : Nat) (x : Ex) (l : List Ex) (a : Nat) : mfold p has any (x :: l) a = mfold p has any l (if x.Kind = 10 then a ||| once p x has any else a) := by
  unfold mfold
  by_cases h : x.Kind = 10
  · rw [List.filter_cons_of_pos (by simp [h]), List.foldl_cons, if_pos h]
  · rw [List.filter_cons_of_neg (by simp [h]), if_neg h]
theorem mfold_append (p : Pg) (has : List Nat) (any : Nat) (l m : List Ex) (a : Nat) : mfold p has any (l ++ m) a = mfold p has any m (mfold p has any l a) := by unfold mfold; rw [List.filter_append, List.foldl_append]
theorem mfold_lt {p : Pg} {has : List Nat} {any : Nat} (h1 : ∀ h ∈ has, h < 128) (h2 : any < 128) : ∀ (l : List Ex) (a : Nat), a < 128 → mfold p has any l a < 128 := by
  intro l
  induction l with
  | nil => intro a h; exact h
  | cons x l ih =>
    intro a h
    rw [mfold_cons]
    refine ih _ ?_
    split
    · exact or_lt h (once_lt h1 h2)
    · exact h
theorem more_eq (p : Pg) (has : List Nat) (any : Nat) : more p has any = mfold p has any ((bs p).flatMap walk) any := rfl
theorem nxt_lt {p : Pg} {has : List Nat} {any : Nat} (h1 : ∀ h ∈ has, h < 128) (h2 : any < 128) : ∀ h ∈ nxt p has any, h < 128 := by
  intro h hh
  obtain ⟨f, _, rfl⟩ := List.mem_map.1 hh
  exact once_lt h1 h2
theorem toI_inj {l m : List Nat} (h : toI l = toI m) : l = m := by
  unfold toI at h
  exact List.map_inj_right (fun x y h => by omega) |>.1 h
section
variable {p : Pg} (hb : p.bulk ≤ 1048576)
include hb
omit hb in
theorem fs_body {f : T_api_Func} (h : f ∈ fs p) : f.Body ∈ bs p := List.mem_append.2 (.inl (List.mem_map.2 ⟨f, h, rfl⟩))
theorem round_val {has : List Nat} {any : Nat} (hn : has.length = (fs p).length) (h1 : ∀ h ∈ has, h < 128) (h2 : any < 128) :
    effect_Least.l0 p (fs p) (toI has) (any : Int) = if nxt p has any = has ∧ more p has any = any then some (toI has, (any : Int)) else effect_Least.l0 p (fs p) (toI (nxt p has any)) (more p has any : Int) := by
  have hf := fs_len p
  have hbl := bs_len p
  have hbody : ∀ e ∈ bs p, e.bulk ≤ 1048576 := fun e he => Nat.le_trans (bs_mem he) hb
  have l3 : ∀ (e : Ex) (k : Nat) (A7 : List Int), e.bulk ≤ 1048576 → ∀ (r pre : List Ex) (a : Nat), walk e = pre ++ r → a < 128 →
      effect_Least.l3 p (fs p) (toI has) (any : Int) A7 (a : Int) (bs p) ((bs p).length : Int) (k : Int) (walk e) ((walk e).length : Int) (pre.length : Int) = effect_Least.l2 p (fs p) (toI has) (any : Int) A7 (mfold p has any r a : Int) (bs p) ((bs p).length : Int) (IntKind.wrap .i64 ((k : Int) + 1)) := by
    intro e k A7 he r
    have hw := walk_bulk e
    induction r with
    | nil => intro pre a hp _; rw [effect_Least.l3_eq, if_neg (by rw [hp]; simp)]; rfl
    | cons x r ih =>
      intro pre a hp ha
      have hlen : (walk e).length = pre.length + (r.length + 1) := by rw [hp]; simp
      have hx : x.bulk ≤ 1048576 := Nat.le_trans (mem_bulk e x (by rw [hp]; simp)) he
      have next : ∀ b : Nat, b < 128 → effect_Least.l3 p (fs p) (toI has) (any : Int) A7 (b : Int) (bs p) ((bs p).length : Int) (k : Int) (walk e) ((walk e).length : Int) (IntKind.wrap .i64 ((pre.length : Int) + 1)) = effect_Least.l2 p (fs p) (toI has) (any : Int) A7 (mfold p has any r b : Int) (bs p) ((bs p).length : Int) (IntKind.wrap .i64 ((k : Int) + 1)) := by
        intro b hb2
        rw [w_succ (k := pre.length) (by omega)]
        have := ih (pre ++ [x]) b (by simpa using hp) hb2
        simpa using this
      rw [effect_Least.l3_eq, if_pos (by omega), gi_some (k := pre.length) rfl (by rw [hp]; simp : (walk e)[pre.length]? = some x), Option.bind_some, mfold_cons]
      by_cases hk : x.Kind = 10
      · rw [if_pos hk, if_pos hk, once_val hb hx hn h1 h2, Option.bind_some, or_nat ha (once_lt h1 h2)]
        exact next _ (or_lt ha (once_lt h1 h2))
      · rw [if_neg hk, if_neg hk]
        exact next _ ha
  have fin : ∀ (A7 : List Int) (c : Nat), A7 = toI (nxt p has any) → c = more p has any → (if (c : Int) = (any : Int) then (Option.bind (slices_Equal_62 A7 (toI has)) fun y192 => effect_Least.j1 p (fs p) (toI has) (any : Int) A7 (c : Int) y192) else effect_Least.j1 p (fs p) (toI has) (any : Int) A7 (c : Int) false) = if nxt p has any = has ∧ more p has any = any then some (toI has, (any : Int)) else effect_Least.l0 p (fs p) (toI (nxt p has any)) (more p has any : Int) := by
    rintro A7 c rfl rfl
    by_cases hm : more p has any = any
    · have hnl : (nxt p has any).length ≤ 1048576 := by unfold nxt; rw [List.length_map]; omega
      obtain ⟨b, hb1, hb2⟩ := slices_Equal_62.val (toI (nxt p has any)) (toI has) (by rw [toI_len]; omega)
      rw [if_pos (by omega), hb1, Option.bind_some, effect_Least.j1_eq]
      by_cases he : nxt p has any = has
      · rw [if_pos (hb2.2 (by rw [he])), if_pos ⟨he, hm⟩]
      · rw [if_neg (fun h => he (toI_inj (hb2.1 h))), if_neg (fun h => he h.1), effect_Least.j0_eq]
    · rw [if_neg (by omega), effect_Least.j1_eq, if_neg (by decide), if_neg (fun h => hm h.2), effect_Least.j0_eq]
  have l2 : ∀ (r pre : List Ex) (a : Nat), bs p = pre ++ r → a < 128 → more p has any = mfold p has any (r.flatMap walk) a → effect_Least.l2 p (fs p) (toI has) (any : Int) (toI (nxt p has any)) (a : Int) (bs p) ((bs p).length : Int) (pre.length : Int) = if nxt p has any = has ∧ more p has any = any then some (toI has, (any : Int)) else effect_Least.l0 p (fs p) (toI (nxt p has any)) (more p has any : Int) := by
    intro r
    induction r with
    | nil =>
      intro pre a hp ha hm
      rw [effect_Least.l2_eq, if_neg (by rw [hp]; simp)]
      exact fin _ a rfl hm.symm
    | cons e r ih =>
      intro pre a hp ha hm
      have hlen : (bs p).length = pre.length + (r.length + 1) := by rw [hp]; simp
      have he : e.bulk ≤ 1048576 := hbody e (by rw [hp]; simp)
      have hw := walk_bulk e
      rw [effect_Least.l2_eq, if_pos (by omega), gi_some (k := pre.length) rfl (by rw [hp]; simp : (bs p)[pre.length]? = some e), Option.bind_some, walk_val e (by omega), Option.bind_some]
      refine Eq.trans (l3 e pre.length _ he (walk e) [] a rfl ha) ?_
      rw [w_succ (by omega)]
      have := ih (pre ++ [e]) (mfold p has any (walk e) a) (by simpa using hp) (mfold_lt h1 h2 _ _ ha) (by rw [hm, List.flatMap_cons, mfold_append])
      simpa using this
  have l1 : ∀ (r pre : List T_api_Func), fs p = pre ++ r → effect_Least.l1 p (fs p) (toI has) (any : Int) (toI (pre.map fun f : T_api_Func => once p f.Body has any) ++ List.replicate r.length 0) (any : Int) ((fs p).length : Int) (pre.length : Int) = if nxt p has any = has ∧ more p has any = any then some (toI has, (any : Int)) else effect_Least.l0 p (fs p) (toI (nxt p has any)) (more p has any : Int) := by
    intro r
    induction r with
    | nil =>
      intro pre hp
      have e0 : pre = fs p := by rw [hp]; simp
      rw [effect_Least.l1_eq, if_neg (by rw [hp]; simp), (bodies_val hb).1, Option.bind_some, e0]
      have := l2 (bs p) [] any rfl h2 (more_eq p has any)
      simpa [nxt] using this
    | cons f r ih =>
      intro pre hp
      have hlen : (fs p).length = pre.length + (r.length + 1) := by rw [hp]; simp
      have hfm : f ∈ fs p := by rw [hp]; simp
      have hl7 : (toI (pre.map fun f : T_api_Func => once p f.Body has any)).length = pre.length := by rw [toI_len, List.length_map]
      rw [effect_Least.l1_eq, if_pos (by omega), gi_some (k := pre.length) rfl (by rw [hp]; simp : (fs p)[pre.length]? = some f), Option.bind_some, once_val hb (hbody _ (fs_body hfm)) hn h1 h2, Option.bind_some, gi_some (k := pre.length) (y := (0 : Int)) rfl (by rw [List.getElem?_append_right (by omega), hl7]; simp), Option.bind_some, Option.bind_some, Int.toNat_natCast, w_succ (by omega)]
      have e7 : (toI (pre.map fun f : T_api_Func => once p f.Body has any) ++ List.replicate (f :: r).length 0).set pre.length ((once p f.Body has any : Nat) : Int) = toI ((pre ++ [f]).map fun f : T_api_Func => once p f.Body has any) ++ List.replicate r.length 0 := by
        rw [List.set_append_right _ _ (by omega), hl7, Nat.sub_self, List.length_cons, List.replicate_succ, List.set_cons_zero]
        simp [toI]
      rw [e7]
      have := ih (pre ++ [f]) (by simpa using hp)
      simpa using this
  rw [effect_Least.l0_eq, mks_of (k := (fs p).length) rfl (by omega) (by omega), Option.bind_some]
  have := l1 (fs p) [] rfl
  simpa [toI] using this
end

/-! ### Bits -/
def Le (x y : Nat) : Prop := ∀ j, x.testBit j = true → y.testBit j = true
theorem Le.refl (x : Nat) : Le x x := fun _ h => h
theorem bit_eq {x y : Nat} (h : ∀ j, x.testBit j = true ↔ y.testBit j = true) : x = y := Nat.eq_of_testBit_eq fun j => by
  have := h j
  cases hx : x.testBit j <;> cases hy : y.testBit j <;> simp_all
theorem Le.le {x y : Nat} (h : Le x y) : x ≤ y := by
  have e : x ||| y = y := bit_eq fun j => by rw [Nat.testBit_or, Bool.or_eq_true]; exact ⟨fun k => k.elim (h j) id, .inr⟩
  rw [← e]; exact Nat.left_le_or
def Les (l m : List Nat) : Prop := l.length = m.length ∧ ∀ (i h k : Nat), l[i]? = some h → m[i]? = some k → Le h k
theorem les_sum : ∀ {l m : List Nat}, Les l m → l.sum ≤ m.sum ∧ (l.sum = m.sum → l = m) := by
  intro l
  induction l with
  | nil => intro m h; have : m = [] := List.length_eq_zero_iff.1 h.1.symm; subst this; simp
  | cons x l ih =>
    intro m h
    cases m with
    | nil => cases h.1
    | cons y m =>
      have h1 := (h.2 0 x y rfl rfl).le
      have h2 := ih (m := m) ⟨by simpa using h.1, fun i a b ha hb => h.2 (i + 1) a b (by simpa using ha) (by simpa using hb)⟩
      simp only [List.sum_cons]
      refine ⟨by omega, fun e => ?_⟩
      have e1 : x = y := by omega
      have e2 := h2.2 (by omega)
      rw [e1, e2]
theorem once_mono {p : Pg} {e : Ex} {has has' : List Nat} {any any' : Nat} (h1 : Les has has') (h2 : Le any any') : Le (once p e has any) (once p e has' any') := by
  intro j hj
  rw [once_bit] at hj ⊢
  rcases hj with h | ⟨i, f, h, e1, e2, e3, e4⟩ | ⟨e1, e2⟩
  · exact .inl h
  · have hlt : i < has.length := (List.getElem?_eq_some_iff.1 e2).1
    have hlt' : i < has'.length := by rw [← h1.1]; exact hlt
    exact .inr (.inl ⟨i, f, has'[i], e1, List.getElem?_eq_getElem hlt', e3, h1.2 i h _ e2 (List.getElem?_eq_getElem hlt') j e4⟩)
  · exact .inr (.inr ⟨e1, h2 j e2⟩)
theorem mfold_bit {p : Pg} {has : List Nat} {any j : Nat} : ∀ (l : List Ex) (a : Nat), (l.foldl (fun a x => a ||| once p x has any) a).testBit j = true ↔ a.testBit j = true ∨ ∃ x ∈ l, (once p x has any).testBit j = true := by
  intro l
  induction l with
  | nil => intro a; simp
  | cons x l ih =>
    intro a
    rw [List.foldl_cons, ih, Nat.testBit_or, Bool.or_eq_true]
    constructor
    · rintro ((h | h) | ⟨y, h1, h2⟩)
      · exact .inl h
      · exact .inr ⟨x, by simp, h⟩
      · exact .inr ⟨y, by simp [h1], h2⟩
    · rintro (h | ⟨y, h1, h2⟩)
      · exact .inl (.inl h)
      · rcases List.mem_cons.1 h1 with rfl | h1
        · exact .inl (.inr h2)
        · exact .inr ⟨y, h1, h2⟩
theorem more_mono {p : Pg} {has has' : List Nat} {any any' : Nat} (h1 : Les has has') (h2 : Le any any') : Le (more p has any) (more p has' any') := by
  intro j hj
  unfold more at hj ⊢
  rw [mfold_bit] at hj ⊢
  rcases hj with h | ⟨x, hx, h⟩
  · exact .inl (h2 j h)
  · exact .inr ⟨x, hx, once_mono h1 h2 j h⟩
theorem more_ge (p : Pg) (has : List Nat) (any : Nat) : Le any (more p has any) := fun j hj => by unfold more; rw [mfold_bit]; exact .inl hj
theorem nxt_get {p : Pg} {has : List Nat} {any i : Nat} {f : T_api_Func} (h : (fs p)[i]? = some f) : (nxt p has any)[i]? = some (once p f.Body has any) := by unfold nxt; rw [List.getElem?_map, h]; rfl
theorem nxt_mono {p : Pg} {has has' : List Nat} {any any' : Nat} (h1 : Les has has') (h2 : Le any any') : Les (nxt p has any) (nxt p has' any') := by
  refine ⟨by simp [nxt], fun i h k e1 e2 => ?_⟩
  unfold nxt at e1 e2
  rw [List.getElem?_map] at e1 e2
  cases hf : (fs p)[i]? with
  | none => rw [hf] at e1; cases e1
  | some f => rw [hf] at e1 e2; cases e1; cases e2; exact once_mono h1 h2

/-! ### Who leads to whom -/
inductive Reach (p : Pg) : Ex → Ex → Prop
  | refl (e : Ex) : Reach p e e
  | call {e r : Ex} (f : T_api_Func) : f ∈ fs p → f.Name ∈ calls e → Reach p f.Body r → Reach p e r
  | app {e r : Ex} (x : Ex) : app e = true → x ∈ efuns p → Reach p x r → Reach p e r
theorem Reach.trans {p : Pg} {a b c : Ex} (h1 : Reach p a b) (h2 : Reach p b c) : Reach p a c := by
  induction h1 with
  | refl => exact h2
  | call f hf hn _ ih => exact .call f hf hn (ih h2)
  | app x ha hx _ ih => exact .app x ha hx (ih h2)
def does (p : Pg) (e : Ex) (j : Nat) : Prop := ∃ r, Reach p e r ∧ (own r).testBit j = true
def Sound (p : Pg) (has : List Nat) (any : Nat) : Prop := (∀ (i : Nat) (f : T_api_Func) (h j : Nat), (fs p)[i]? = some f → has[i]? = some h → h.testBit j = true → does p f.Body j) ∧ ∀ j, any.testBit j = true → ∃ x ∈ efuns p, does p x j
theorem once_sound {p : Pg} {e : Ex} {has : List Nat} {any j : Nat} (S : Sound p has any) (h : (once p e has any).testBit j = true) : does p e j := by
  rcases once_bit.1 h with h | ⟨i, f, k, e1, e2, e3, e4⟩ | ⟨e1, e2⟩
  · exact ⟨e, .refl e, h⟩
  · obtain ⟨r, hr, hj⟩ := S.1 i f k j e1 e2 e4
    exact ⟨r, .call f (List.mem_of_getElem? e1) e3 hr, hj⟩
  · obtain ⟨x, hx, r, hr, hj⟩ := S.2 j e2
    exact ⟨r, .app x e1 hx hr, hj⟩
theorem sound_step {p : Pg} {has : List Nat} {any : Nat} (S : Sound p has any) : Sound p (nxt p has any) (more p has any) := by
  refine ⟨fun i f h j e1 e2 e3 => ?_, fun j hj => ?_⟩
  · rw [nxt_get e1] at e2
    cases e2
    exact once_sound S e3
  · unfold more at hj
    rw [mfold_bit] at hj
    rcases hj with h | ⟨x, hx, h⟩
    · exact S.2 j h
    · exact ⟨x, hx, once_sound S h⟩
theorem once_complete {p : Pg} {has : List Nat} {any : Nat} (h1 : nxt p has any = has) (h2 : more p has any = any) {e r : Ex} (h : Reach p e r) {j : Nat} (hj : (own r).testBit j = true) : (once p e has any).testBit j = true := by
  induction h with
  | refl e => exact once_bit.2 (.inl hj)
  | call f hf hn _ ih =>
    obtain ⟨i, hi⟩ := List.getElem?_of_mem hf
    refine once_bit.2 (.inr (.inl ⟨i, f, _, hi, ?_, hn, ih hj⟩))
    have := nxt_get (has := has) (any := any) hi
    rw [h1] at this
    exact this
  | app x ha hx _ ih =>
    refine once_bit.2 (.inr (.inr ⟨ha, ?_⟩))
    rw [← h2]
    unfold more
    rw [mfold_bit]
    exact .inr ⟨x, hx, ih hj⟩
theorem sum_lt128 {l : List Nat} (h : ∀ x ∈ l, x < 128) : l.sum ≤ 128 * l.length := by
  induction l with
  | nil => simp
  | cons x l ih =>
    have h1 := h x (by simp)
    have h2 := ih (fun y hy => h y (by simp [hy]))
    simp only [List.sum_cons, List.length_cons]; omega
theorem least_loop {p : Pg} (hb : p.bulk ≤ 1048576) : ∀ (d : Nat) (has : List Nat) (any : Nat), 128 * ((fs p).length + 1) ≤ has.sum + any + d → has.length = (fs p).length → (∀ h ∈ has, h < 128) → any < 128 → Les has (nxt p has any) → Sound p has any →
    ∃ (has' : List Nat) (any' : Nat), effect_Least.l0 p (fs p) (toI has) (any : Int) = some (toI has', (any' : Int)) ∧ has'.length = (fs p).length ∧ (∀ h ∈ has', h < 128) ∧ any' < 128 ∧ nxt p has' any' = has' ∧ more p has' any' = any' ∧ Sound p has' any' := by
  intro d
  induction d with
  | zero =>
    intro has any hd hn h1 h2 _ _
    have := sum_lt128 h1
    rw [hn] at this
    omega
  | succ d ih =>
    intro has any hd hn h1 h2 hl hS
    rw [round_val hb hn h1 h2]
    by_cases hfix : nxt p has any = has ∧ more p has any = any
    · rw [if_pos hfix]
      exact ⟨has, any, rfl, hn, h1, h2, hfix.1, hfix.2, hS⟩
    · rw [if_neg hfix]
      have hm : more p has any < 128 := mfold_lt h1 h2 _ _ h2
      have hg := more_ge p has any
      obtain ⟨s1, s2⟩ := les_sum hl
      refine ih _ _ ?_ (by simp [nxt]) (nxt_lt h1 h2) hm (nxt_mono hl hg) (sound_step hS)
      have := hg.le
      by_cases e : has.sum = (nxt p has any).sum
      · have e1 := s2 e
        have : more p has any ≠ any := fun e2 => hfix ⟨e1.symm, e2⟩
        omega
      · omega
theorem least_val {p : Pg} (hb : p.bulk ≤ 1048576) : ∃ (has : List Nat) (any : Nat), effect_Least p = some (toI has, (any : Int)) ∧ has.length = (fs p).length ∧ (∀ h ∈ has, h < 128) ∧ any < 128 ∧ nxt p has any = has ∧ more p has any = any ∧ Sound p has any := by
  have hf := fs_len p
  unfold effect_Least
  rw [(funs_val hb).1, Option.bind_some, mks_of (k := (fs p).length) rfl (by omega) (by omega), Option.bind_some]
  have e0 : List.replicate (fs p).length (0 : Int) = toI (List.replicate (fs p).length 0) := by simp [toI]
  have hz : ∀ (i h : Nat), (List.replicate (fs p).length 0)[i]? = some h → h = 0 := fun i h hh => by
    have := List.mem_of_getElem? hh
    exact (List.mem_replicate.1 this).2
  rw [e0]
  exact least_loop hb (128 * ((fs p).length + 1)) _ 0 (by omega) (by simp) (fun h hh => by rw [(List.mem_replicate.1 hh).2]; decide) (by decide)
    ⟨by simp [nxt], fun i h k e1 _ j hj => by rw [hz i h e1] at hj; simp at hj⟩
    ⟨fun i f h j _ e2 e3 => by rw [hz i h e2] at e3; simp at e3, fun j hj => by simp at hj⟩

/-! ### All that is led to -/
structure Lst where
  row : List Ex
  names : List ByteArray
  ap : Bool
def named (p : Pg) (n : ByteArray) : List Ex := ((fs p).filter fun f => decide (f.Name = n)).map (·.Body)
def st1 (p : Pg) (S : Lst) (x : Ex) : Lst := if x.Kind = 11 ∧ S.ap = false then ⟨S.row ++ efuns p, S.names, true⟩ else S
def st2 (p : Pg) (S : Lst) (x : Ex) : Lst := if x.Kind = 9 ∧ inn S.names x.Text = false then ⟨S.row ++ named p x.Text, S.names ++ [x.Text], S.ap⟩ else S
def lst (p : Pg) (S : Lst) (x : Ex) : Lst := st2 p (st1 p S x) x
/-- What may yet be added. -/
def pot (p : Pg) (S : Lst) : Nat := (if S.ap = true then 0 else (efuns p).length) + ((fs p).filter fun f => !inn S.names f.Name).length
theorem st1_pot (p : Pg) (S : Lst) (x : Ex) : (st1 p S x).row.length + pot p (st1 p S x) = S.row.length + pot p S := by
  unfold st1
  split
  · rename_i h
    unfold pot
    simp only [List.length_append, if_true, h.2]
    simp; omega
  · rfl
theorem filter_split (l : List T_api_Func) (ns : List ByteArray) (n : ByteArray) (hn : inn ns n = false) :
    (l.filter fun f => !inn (ns ++ [n]) f.Name).length + (l.filter fun f => decide (f.Name = n)).length = (l.filter fun f => !inn ns f.Name).length := by
  induction l with
  | nil => rfl
  | cons f l ih =>
    have e : inn (ns ++ [n]) f.Name = (inn ns f.Name || decide (f.Name = n)) := by unfold inn; simp
    by_cases h : f.Name = n
    · rw [List.filter_cons_of_neg (by rw [e, decide_eq_true h, Bool.or_true]; decide), List.filter_cons_of_pos (by simp [h]), List.filter_cons_of_pos (by rw [h, hn]; rfl), List.length_cons, List.length_cons]; omega
    · by_cases h2 : inn ns f.Name = true
      · rw [List.filter_cons_of_neg (by simp [e, h2]), List.filter_cons_of_neg (by simp [h]), List.filter_cons_of_neg (by simp [h2])]; exact ih
      · rw [List.filter_cons_of_pos (by simp [e, h, h2]), List.filter_cons_of_neg (by simp [h]), List.filter_cons_of_pos (by simp [h2]), List.length_cons, List.length_cons]; omega
theorem st2_pot (p : Pg) (S : Lst) (x : Ex) : (st2 p S x).row.length + pot p (st2 p S x) = S.row.length + pot p S := by
  unfold st2
  split
  · rename_i h
    have := filter_split (fs p) S.names x.Text h.2
    unfold pot named
    simp only [List.length_append, List.length_map]
    omega
  · rfl
theorem lst_pot (p : Pg) (S : Lst) (x : Ex) : (lst p S x).row.length + pot p (lst p S x) = S.row.length + pot p S := by unfold lst; rw [st2_pot, st1_pot]
theorem lst_names (p : Pg) (S : Lst) (x : Ex) : (lst p S x).names.length ≤ S.names.length + 1 := by
  have h1 : (st1 p S x).names = S.names := by unfold st1; split <;> rfl
  unfold lst st2
  split
  · simp [h1]
  · rw [h1]; omega
theorem efuns_len {p : Pg} : (efuns p).length ≤ p.bulk := by
  have h1 : (efuns p).length ≤ ((bs p).flatMap walk).length := List.length_filter_le _ _
  have h2 : ((bs p).map fun x => (walk x).length).sum ≤ ((bs p).map T_api_Expr.bulk).sum := sum_le fun x _ => walk_bulk x
  have h3 := bs_bulk p
  rw [len_flatMap] at h1
  omega
section
variable {p : Pg} (hb : p.bulk ≤ 1048576)
include hb
omit hb in
theorem led_l4 {names : List ByteArray} {i k m : Nat} {y : Ex} {nodes : List Ex} {e : Ex} (he : e.bulk ≤ 1048576) : ∀ (r pre row : List Ex), walk e = pre ++ r → row.length + (r.filter fun x => x.Kind == 10).length ≤ 16777216 →
    roadref2_led.l4 p row names true (i : Int) y nodes (nodes.length : Int) (k : Int) (bs p) ((bs p).length : Int) (m : Int) (walk e) ((walk e).length : Int) (pre.length : Int) = roadref2_led.l3 p (row ++ r.filter fun x => x.Kind == 10) names true (i : Int) y nodes (nodes.length : Int) (k : Int) (bs p) ((bs p).length : Int) (IntKind.wrap .i64 ((m : Int) + 1)) := by
  have hw := walk_bulk e
  intro r
  induction r with
  | nil => intro pre row hp _; rw [roadref2_led.l4_eq, if_neg (by rw [hp]; simp)]; simp
  | cons x r ih =>
    intro pre row hp hl
    have hlen : (walk e).length = pre.length + (r.length + 1) := by rw [hp]; simp
    rw [roadref2_led.l4_eq, if_pos (by omega), gi_some (k := pre.length) rfl (by rw [hp]; simp : (walk e)[pre.length]? = some x), Option.bind_some]
    by_cases h : x.Kind = 10
    · rw [List.filter_cons_of_pos (by simp [h]), List.length_cons] at hl
      rw [if_pos h, ap_one (by omega), Option.bind_some, w_succ (k := pre.length) (by omega), List.filter_cons_of_pos (by simp [h])]
      have := ih (pre ++ [x]) (row ++ [x]) (by simpa using hp) (by simp only [List.length_append, List.length_singleton]; omega)
      simpa using this
    · rw [List.filter_cons_of_neg (by simp [h])] at hl
      rw [if_neg h, w_succ (k := pre.length) (by omega), List.filter_cons_of_neg (by simp [h])]
      have := ih (pre ++ [x]) row (by simpa using hp) hl
      simpa using this
theorem led_l3 {names : List ByteArray} {i k : Nat} {y : Ex} {nodes : List Ex} : ∀ (r pre row : List Ex), bs p = pre ++ r → row.length + ((r.flatMap walk).filter fun x => x.Kind == 10).length ≤ 16777216 →
    roadref2_led.l3 p row names true (i : Int) y nodes (nodes.length : Int) (k : Int) (bs p) ((bs p).length : Int) (pre.length : Int) = roadref2_led.j0 p (row ++ (r.flatMap walk).filter fun x => x.Kind == 10) names true (i : Int) y nodes (nodes.length : Int) (k : Int) := by
  have hl0 := bs_len p
  intro r
  induction r with
  | nil => intro pre row hp _; rw [roadref2_led.l3_eq, if_neg (by rw [hp]; simp)]; simp
  | cons e r ih =>
    intro pre row hp hl
    have hlen : (bs p).length = pre.length + (r.length + 1) := by rw [hp]; simp
    have he : e.bulk ≤ 1048576 := Nat.le_trans (bs_mem (show e ∈ bs p by rw [hp]; simp)) hb
    have hw := walk_bulk e
    rw [List.flatMap_cons, List.filter_append, List.length_append] at hl
    rw [roadref2_led.l3_eq, if_pos (by omega), gi_some (k := pre.length) rfl (by rw [hp]; simp : (bs p)[pre.length]? = some e), Option.bind_some, all_val e (by omega), Option.bind_some]
    refine Eq.trans (led_l4 he (walk e) [] row rfl (by omega)) ?_
    rw [w_succ (by omega), List.flatMap_cons, List.filter_append]
    have := ih (pre ++ [e]) (row ++ (walk e).filter fun x => x.Kind == 10) (by simpa using hp) (by rw [List.length_append]; omega)
    simpa using this
theorem led_l2 {names : List ByteArray} {ap : Bool} {i k : Nat} {y : Ex} {nodes : List Ex} (hk : k < 4611686018427387904) : ∀ (r pre : List T_api_Func) (row : List Ex), fs p = pre ++ r → row.length + (r.filter fun f => decide (f.Name = y.Text)).length ≤ 16777216 →
    roadref2_led.l2 p row names ap (i : Int) y nodes (nodes.length : Int) (k : Int) (fs p) ((fs p).length : Int) (pre.length : Int) = roadref2_led.l1 p (row ++ (r.filter fun f => decide (f.Name = y.Text)).map (·.Body)) names ap (i : Int) nodes (nodes.length : Int) ((k + 1 : Nat) : Int) := by
  have hl0 := fs_len p
  intro r
  induction r with
  | nil => intro pre row hp _; rw [roadref2_led.l2_eq, if_neg (by rw [hp]; simp), w_succ (by omega)]; simp
  | cons f r ih =>
    intro pre row hp hl
    have hlen : (fs p).length = pre.length + (r.length + 1) := by rw [hp]; simp
    rw [roadref2_led.l2_eq, if_pos (by omega), gi_some (k := pre.length) rfl (by rw [hp]; simp : (fs p)[pre.length]? = some f), Option.bind_some]
    by_cases h : f.Name = y.Text
    · rw [List.filter_cons_of_pos (by simp [h]), List.length_cons] at hl
      rw [if_pos h, ap_one (by omega), Option.bind_some, w_succ (k := pre.length) (by omega), List.filter_cons_of_pos (by simp [h])]
      have := ih (pre ++ [f]) (row ++ [f.Body]) (by simpa using hp) (by simp only [List.length_append, List.length_singleton]; omega)
      simpa using this
    · rw [List.filter_cons_of_neg (by simp [h])] at hl
      rw [if_neg h, w_succ (k := pre.length) (by omega), List.filter_cons_of_neg (by simp [h])]
      have := ih (pre ++ [f]) row (by simpa using hp) hl
      simpa using this
theorem led_j0 {S : Lst} {i k : Nat} {y : Ex} {nodes : List Ex} (hk : k < 4611686018427387904) (hr : S.row.length ≤ 8388608) (hn : S.names.length ≤ 4398046511104) :
    roadref2_led.j0 p S.row S.names S.ap (i : Int) y nodes (nodes.length : Int) (k : Int) = roadref2_led.l1 p (st2 p S y).row (st2 p S y).names (st2 p S y).ap (i : Int) nodes (nodes.length : Int) ((k + 1 : Nat) : Int) := by
  have hf := fs_len p
  have hfl : ((fs p).filter fun f => decide (f.Name = y.Text)).length ≤ (fs p).length := List.length_filter_le _ _
  rw [roadref2_led.j0_eq]
  by_cases h : y.Kind = 9
  · rw [if_pos h, slices_Contains_92.val _ (by omega), Option.bind_some]
    by_cases h2 : inn S.names y.Text = true
    · rw [if_pos (show (S.names.any fun z => decide (y.Text = z)) = true from h2), w_succ (by omega)]
      unfold st2
      rw [if_neg (fun x => by rw [h2] at x; exact absurd x.2 (by decide))]
    · rw [if_neg (show ¬ (S.names.any fun z => decide (y.Text = z)) = true from h2), roadref2_led.j2_eq, ap_one (by omega), Option.bind_some, (funs_val hb).2, Option.bind_some]
      refine Eq.trans (led_l2 hb hk (fs p) [] S.row rfl (by omega)) ?_
      unfold st2
      rw [if_pos ⟨h, Bool.eq_false_iff.2 h2⟩]; rfl
  · rw [if_neg h, w_succ (by omega)]
    unfold st2
    rw [if_neg (fun x => h x.1)]
theorem led_l1 {i : Nat} {nodes : List Ex} (hnl : nodes.length ≤ 4194304) : ∀ (r pre : List Ex) (S : Lst), nodes = pre ++ r → S.row.length + pot p S ≤ 8388608 → S.names.length + r.length ≤ 4398046511104 →
    roadref2_led.l1 p S.row S.names S.ap (i : Int) nodes (nodes.length : Int) (pre.length : Int) = roadref2_led.l0 p (r.foldl (lst p) S).row (r.foldl (lst p) S).names (r.foldl (lst p) S).ap (IntKind.wrap .i64 ((i : Int) + 1)) := by
  intro r
  induction r with
  | nil => intro pre S hp _ _; rw [roadref2_led.l1_eq, if_neg (by rw [hp]; simp)]; rfl
  | cons x r ih =>
    intro pre S hp hr hn
    have hlen : nodes.length = pre.length + (r.length + 1) := by rw [hp]; simp
    have h1 := st1_pot p S x
    have hpn : (st1 p S x).names = S.names := by unfold st1; split <;> rfl
    have hl1 := lst_names p S x
    rw [List.length_cons] at hn
    have next : roadref2_led.j0 p (st1 p S x).row (st1 p S x).names (st1 p S x).ap (i : Int) x nodes (nodes.length : Int) (pre.length : Int) = roadref2_led.l0 p ((x :: r).foldl (lst p) S).row ((x :: r).foldl (lst p) S).names ((x :: r).foldl (lst p) S).ap (IntKind.wrap .i64 ((i : Int) + 1)) := by
      rw [led_j0 hb (S := st1 p S x) (by omega) (by omega) (by rw [hpn]; omega)]
      have := ih (pre ++ [x]) (lst p S x) (by simpa using hp) (by rw [lst_pot]; exact hr) (by omega)
      rw [List.length_append, List.length_singleton] at this
      exact this
    rw [roadref2_led.l1_eq, if_pos (by omega), gi_some (k := pre.length) rfl (by rw [hp]; simp : nodes[pre.length]? = some x), Option.bind_some]
    have j1 : ∀ b : Bool, b = decide (x.Kind = 11 ∧ S.ap = false) → roadref2_led.j1 p S.row S.names S.ap (i : Int) x nodes (nodes.length : Int) (pre.length : Int) b = roadref2_led.l0 p ((x :: r).foldl (lst p) S).row ((x :: r).foldl (lst p) S).names ((x :: r).foldl (lst p) S).ap (IntKind.wrap .i64 ((i : Int) + 1)) := by
      rintro b rfl
      rw [roadref2_led.j1_eq]
      by_cases h : x.Kind = 11 ∧ S.ap = false
      · rw [decide_eq_true h, if_pos rfl, (bodies_val hb).2, Option.bind_some]
        have e : st1 p S x = ⟨S.row ++ efuns p, S.names, true⟩ := by unfold st1; rw [if_pos h]
        have hpot : (efuns p).length ≤ pot p S := by unfold pot; rw [h.2]; simp
        refine Eq.trans (led_l3 hb (bs p) [] S.row rfl ?_) ?_
        · show S.row.length + (efuns p).length ≤ _
          omega
        · rw [e] at next; exact next
      · rw [decide_eq_false h, if_neg (by decide)]
        have e : st1 p S x = S := by unfold st1; rw [if_neg h]
        rw [e] at next; exact next
    by_cases h11 : x.Kind = 11
    · rw [if_pos h11]; exact j1 _ (by cases S.ap <;> simp [h11])
    · rw [if_neg h11]; exact j1 _ (by simp [h11])
end

theorem efuns_bulk {p : Pg} {x : Ex} (h : x ∈ efuns p) : x.bulk ≤ p.bulk := by
  obtain ⟨b, hb, hx⟩ := List.mem_flatMap.1 (List.mem_filter.1 h).1
  exact Nat.le_trans (mem_bulk b x hx) (bs_mem hb)
theorem reach_bulk {p : Pg} {N : Nat} (hb : p.bulk ≤ N) {e r : Ex} (h : Reach p e r) : e.bulk ≤ N → r.bulk ≤ N := by
  induction h with
  | refl => exact id
  | call f hf _ _ ih => exact fun _ => ih (Nat.le_trans (bs_mem (fs_body hf)) hb)
  | app x _ hx _ ih => exact fun _ => ih (Nat.le_trans (efuns_bulk hx) hb)
structure Inv (p : Pg) (e : Ex) (S : Lst) : Prop where
  ap : S.ap = true → ∀ x ∈ efuns p, x ∈ S.row
  nm : ∀ n ∈ S.names, ∀ f ∈ fs p, f.Name = n → f.Body ∈ S.row
  re : ∀ r ∈ S.row, Reach p e r
def Done (S : Lst) (r : Ex) : Prop := ∀ x ∈ walk r, (x.Kind = 11 → S.ap = true) ∧ (x.Kind = 9 → x.Text ∈ S.names)
structure Grow (S T : Lst) : Prop where
  ap : S.ap = true → T.ap = true
  nm : ∀ n ∈ S.names, n ∈ T.names
  row : ∃ t, T.row = S.row ++ t
theorem Grow.refl (S : Lst) : Grow S S := ⟨id, fun _ h => h, [], by simp⟩
theorem Grow.trans {S T U : Lst} (g : Grow S T) (k : Grow T U) : Grow S U := ⟨fun h => k.ap (g.ap h), fun n h => k.nm n (g.nm n h), by
  obtain ⟨t, ht⟩ := g.row
  obtain ⟨u, hu⟩ := k.row
  exact ⟨t ++ u, by rw [hu, ht, List.append_assoc]⟩⟩
theorem st1_grow (p : Pg) (S : Lst) (x : Ex) : Grow S (st1 p S x) := by
  unfold st1
  split
  · exact ⟨fun _ => rfl, fun _ h => h, _, rfl⟩
  · exact .refl S
theorem st2_grow (p : Pg) (S : Lst) (x : Ex) : Grow S (st2 p S x) := by
  unfold st2
  split
  · exact ⟨id, fun _ h => List.mem_append.2 (.inl h), _, rfl⟩
  · exact .refl S
theorem lst_grow (p : Pg) (S : Lst) (x : Ex) : Grow S (lst p S x) := (st1_grow p S x).trans (st2_grow p _ x)
theorem lst_done (p : Pg) (S : Lst) (x : Ex) : (x.Kind = 11 → (lst p S x).ap = true) ∧ (x.Kind = 9 → x.Text ∈ (lst p S x).names) := by
  constructor
  · intro h
    refine (st2_grow p _ x).ap ?_
    unfold st1
    by_cases ha : S.ap = false
    · rw [if_pos ⟨h, ha⟩]
    · rw [if_neg (fun k => ha k.2)]; simpa using ha
  · intro h
    unfold lst st2
    by_cases hi : inn (st1 p S x).names x.Text = false
    · rw [if_pos ⟨h, hi⟩]; simp
    · rw [if_neg (fun k => hi k.2)]; exact inn_iff.1 (by simpa using hi)
theorem lst_inv {p : Pg} {e r0 x : Ex} {S : Lst} (I : Inv p e S) (hr : Reach p e r0) (hx : x ∈ walk r0) : Inv p e (lst p S x) := by
  have I1 : Inv p e (st1 p S x) := by
    unfold st1
    split
    · rename_i h
      refine ⟨fun _ y hy => List.mem_append.2 (.inr hy), fun n hn f hf hnf => List.mem_append.2 (.inl (I.nm n hn f hf hnf)), fun r hr2 => ?_⟩
      rcases List.mem_append.1 hr2 with h2 | h2
      · exact I.re r h2
      · exact hr.trans (.app r (by unfold app; rw [List.any_eq_true]; exact ⟨x, hx, by simp [h.1]⟩) h2 (.refl r))
    · exact I
  unfold lst st2
  split
  · rename_i h
    refine ⟨fun ha y hy => List.mem_append.2 (.inl (I1.ap ha y hy)), fun n hn f hf hnf => ?_, fun r hr2 => ?_⟩
    · rcases List.mem_append.1 hn with h2 | h2
      · exact List.mem_append.2 (.inl (I1.nm n h2 f hf hnf))
      · refine List.mem_append.2 (.inr ?_)
        have : n = x.Text := by simpa using h2
        unfold named
        exact List.mem_map.2 ⟨f, List.mem_filter.2 ⟨hf, decide_eq_true (hnf.trans this)⟩, rfl⟩
    · rcases List.mem_append.1 hr2 with h2 | h2
      · exact I1.re r h2
      · unfold named at h2
        obtain ⟨f, hf, rfl⟩ := List.mem_map.1 h2
        obtain ⟨hf1, hf2⟩ := List.mem_filter.1 hf
        exact hr.trans (.call f hf1 ((calls_mem r0 _).2 ⟨x, hx, h.1, (of_decide_eq_true hf2).symm⟩) (.refl _))
  · exact I1
theorem fold_grow (p : Pg) : ∀ (l : List Ex) (S : Lst), Grow S (l.foldl (lst p) S) := by
  intro l
  induction l with
  | nil => exact fun S => .refl S
  | cons x l ih => exact fun S => (lst_grow p S x).trans (ih _)
theorem fold_inv {p : Pg} {e r0 : Ex} (hr : Reach p e r0) : ∀ (l : List Ex), (∀ x ∈ l, x ∈ walk r0) → ∀ S : Lst, Inv p e S → Inv p e (l.foldl (lst p) S) := by
  intro l
  induction l with
  | nil => exact fun _ S I => I
  | cons x l ih => exact fun h S I => ih (fun y hy => h y (by simp [hy])) _ (lst_inv I hr (h x (by simp)))
theorem fold_done (p : Pg) : ∀ (l : List Ex) (S : Lst), ∀ x ∈ l, (x.Kind = 11 → (l.foldl (lst p) S).ap = true) ∧ (x.Kind = 9 → x.Text ∈ (l.foldl (lst p) S).names) := by
  intro l
  induction l with
  | nil => intro S x hx; cases hx
  | cons y l ih =>
    intro S x hx
    rcases List.mem_cons.1 hx with rfl | hx
    · have g := fold_grow p l (lst p S x)
      have d := lst_done p S x
      exact ⟨fun h => g.ap (d.1 h), fun h => g.nm _ (d.2 h)⟩
    · exact ih _ x hx
theorem fold_pot (p : Pg) : ∀ (l : List Ex) (S : Lst), (l.foldl (lst p) S).row.length + pot p (l.foldl (lst p) S) = S.row.length + pot p S := by
  intro l
  induction l with
  | nil => exact fun S => rfl
  | cons x l ih => exact fun S => (ih _).trans (lst_pot p S x)
theorem fold_names (p : Pg) : ∀ (l : List Ex) (S : Lst), (l.foldl (lst p) S).names.length ≤ S.names.length + l.length := by
  intro l
  induction l with
  | nil => exact fun S => Nat.le_refl _
  | cons x l ih => intro S; have := ih (lst p S x); have := lst_names p S x; simp only [List.foldl_cons, List.length_cons]; omega
theorem Done.grow {S T : Lst} {r : Ex} (d : Done S r) (g : Grow S T) : Done T r := fun x hx => ⟨fun h => g.ap ((d x hx).1 h), fun h => g.nm _ ((d x hx).2 h)⟩
theorem closed_mem {p : Pg} {e : Ex} {S : Lst} (I : Inv p e S) (hd : ∀ r ∈ S.row, Done S r) {a r : Ex} (h : Reach p a r) : a ∈ S.row → r ∈ S.row := by
  induction h with
  | refl => exact id
  | call f hf hn _ ih =>
    intro ha
    obtain ⟨x, hx, h9, ht⟩ := (calls_mem _ _).1 hn
    exact ih (I.nm _ ((hd _ ha x hx).2 h9) f hf ht.symm)
  | app x hap hx _ ih =>
    intro ha
    unfold app at hap
    obtain ⟨y, hy, h11⟩ := List.any_eq_true.1 hap
    exact ih (I.ap ((hd _ ha y hy).1 (by simpa using h11)) x hx)
theorem led_loop {p : Pg} (hb : p.bulk ≤ 1048576) {e : Ex} (he : e.bulk ≤ 1048576) : ∀ (d k : Nat) (S : Lst), S.row.length + pot p S ≤ k + d → S.row.length + pot p S ≤ 3145728 → k ≤ S.row.length → S.names.length ≤ k * 1048576 → Inv p e S → (∀ i r, i < k → S.row[i]? = some r → Done S r) → e ∈ S.row →
    ∃ R, roadref2_led.l0 p S.row S.names S.ap (k : Int) = some R ∧ R.length ≤ 3145728 ∧ ∀ r, r ∈ R ↔ Reach p e r := by
  intro d
  induction d with
  | zero =>
    intro k S h1 h2 h3 h4 I hd hm
    rw [roadref2_led.l0_eq, if_neg (by omega)]
    refine ⟨_, rfl, by omega, fun r => ⟨I.re r, fun h => closed_mem I (fun r hr => ?_) h hm⟩⟩
    obtain ⟨i, hi⟩ := List.getElem?_of_mem hr
    have := (List.getElem?_eq_some_iff.1 hi).1
    exact hd i r (by omega) hi
  | succ d ih =>
    intro k S h1 h2 h3 h4 I hd hm
    rw [roadref2_led.l0_eq]
    by_cases hk : k < S.row.length
    · have hR := I.re _ (List.getElem_mem hk)
      have hrb := reach_bulk hb hR he
      have hw := walk_bulk (S.row[k])
      have hkb : k * 1048576 ≤ 3145728 * 1048576 := Nat.mul_le_mul_right _ (by omega)
      rw [if_pos (by omega), gi_at hk, Option.bind_some, all_val _ (by omega), Option.bind_some]
      have h5 := led_l1 hb (i := k) (nodes := walk S.row[k]) (by omega) (walk S.row[k]) [] S rfl (by omega) (by omega)
      have hg := fold_grow p (walk S.row[k]) S
      have hp := fold_pot p (walk S.row[k]) S
      have hnm := fold_names p (walk S.row[k]) S
      obtain ⟨t, ht⟩ := hg.row
      have hlen : S.row.length ≤ ((walk S.row[k]).foldl (lst p) S).row.length := by rw [ht, List.length_append]; omega
      rw [w_succ (by omega)] at h5
      obtain ⟨R, e1, e2, e3⟩ := ih (k + 1) ((walk S.row[k]).foldl (lst p) S) (by omega) (by omega) (by omega) (by rw [Nat.succ_mul]; omega) (fold_inv hR _ (fun x hx => hx) S I) (fun i r hi hr => by
        rw [ht, List.getElem?_append_left (by omega)] at hr
        by_cases hik : i = k
        · subst hik
          rw [List.getElem?_eq_getElem hk] at hr
          cases hr
          exact fun x hx => fold_done p _ S x hx
        · exact (hd i r (by omega) hr).grow hg) (by rw [ht]; exact List.mem_append.2 (.inl hm))
      exact ⟨R, Eq.trans h5 e1, e2, e3⟩
    · rw [if_neg (by omega)]
      refine ⟨_, rfl, by omega, fun r => ⟨I.re r, fun h => closed_mem I (fun r hr => ?_) h hm⟩⟩
      obtain ⟨i, hi⟩ := List.getElem?_of_mem hr
      have := (List.getElem?_eq_some_iff.1 hi).1
      exact hd i r (by omega) hi
theorem led_val {p : Pg} (hb : p.bulk ≤ 1048576) {e : Ex} (he : e.bulk ≤ 1048576) : ∃ R, roadref2_led p e = some R ∧ R.length ≤ 3145728 ∧ ∀ r, r ∈ R ↔ Reach p e r := by
  have h1 := @efuns_len p
  have h2 := fs_len p
  have h3 : ((fs p).filter fun f => !inn [] f.Name).length ≤ (fs p).length := List.length_filter_le _ _
  have hp : pot p ⟨[e], [], false⟩ ≤ 2097152 := by unfold pot; simp only [Bool.false_eq_true, if_false]; omega
  unfold roadref2_led
  exact led_loop hb he 3145728 0 ⟨[e], [], false⟩ (by simp; omega) (by simp; omega) (by simp) (by simp)
    ⟨fun h => (by cases h), fun n hn => (by cases hn), fun r hr => (by simp at hr; subst hr; exact .refl _)⟩ (fun i r hi => (by omega)) (by simp)
def doesN (R : List Ex) : Nat := R.foldl (fun a r => a ||| own r) 0
theorem doesN_bit : ∀ (R : List Ex) (a j : Nat), (R.foldl (fun a r => a ||| own r) a).testBit j = true ↔ a.testBit j = true ∨ ∃ r ∈ R, (own r).testBit j = true := by
  intro R
  induction R with
  | nil => intro a j; simp
  | cons x R ih =>
    intro a j
    rw [List.foldl_cons, ih, Nat.testBit_or, Bool.or_eq_true]
    constructor
    · rintro ((h | h) | ⟨y, h1, h2⟩)
      · exact .inl h
      · exact .inr ⟨x, by simp, h⟩
      · exact .inr ⟨y, by simp [h1], h2⟩
    · rintro (h | ⟨y, h1, h2⟩)
      · exact .inl (.inl h)
      · rcases List.mem_cons.1 h1 with rfl | h1
        · exact .inl (.inr h2)
        · exact .inr ⟨y, h1, h2⟩
theorem doesOf_val {p : Pg} (hb : p.bulk ≤ 1048576) {e : Ex} (he : e.bulk ≤ 1048576) : ∃ n : Nat, roadref2_DoesOf p e = some (n : Int) ∧ ∀ j, n.testBit j = true ↔ does p e j := by
  obtain ⟨R, h1, h2, h3⟩ := led_val hb he
  unfold roadref2_DoesOf
  rw [h1, Option.bind_some]
  have loop : ∀ (r pre : List Ex) (a : Nat), R = pre ++ r → a < 128 → roadref2_DoesOf.l0 (a : Int) R (R.length : Int) (pre.length : Int) = some ((r.foldl (fun a r => a ||| own r) a : Nat) : Int) := by
    intro r
    induction r with
    | nil => intro pre a hp _; rw [roadref2_DoesOf.l0_eq, if_neg (by rw [hp]; simp)]; rfl
    | cons x r ih =>
      intro pre a hp ha
      have hlen : R.length = pre.length + (r.length + 1) := by rw [hp]; simp
      have hx : x.bulk ≤ 1048576 := reach_bulk hb ((h3 x).1 (by rw [hp]; simp)) he
      have hw := walk_bulk x
      rw [roadref2_DoesOf.l0_eq, if_pos (by omega), gi_some (k := pre.length) rfl (by rw [hp]; simp : R[pre.length]? = some x), Option.bind_some, ownOf_val x (by omega), Option.bind_some, or_nat ha (own_lt x), w_succ (by omega)]
      have := ih (pre ++ [x]) (a ||| own x) (by simpa using hp) (or_lt ha (own_lt x))
      rw [List.foldl_cons]
      simpa using this
  refine ⟨_, loop R [] 0 rfl (by decide), fun j => ?_⟩
  rw [doesN_bit]
  constructor
  · rintro (h | ⟨r, hr, h⟩)
    · simp at h
    · exact ⟨r, (h3 r).1 hr, h⟩
  · rintro ⟨r, hr, h⟩
    exact .inr ⟨r, (h3 r).2 hr, h⟩

/-! ### The law -/
section
variable {p : Pg} (hb : p.bulk ≤ 1048576) {has : List Nat} {any : Nat} (hn : has.length = (fs p).length) (h1 : ∀ h ∈ has, h < 128) (h2 : any < 128) (f1 : nxt p has any = has) (f2 : more p has any = any) (S : Sound p has any)
include hb hn h1 h2 f1 f2 S
theorem does_once {e : Ex} (he : e.bulk ≤ 1048576) : roadref2_DoesOf p e = some (once p e has any : Int) := by
  obtain ⟨n, e1, e2⟩ := doesOf_val hb he
  have : n = once p e has any := bit_eq fun j => (e2 j).trans ⟨fun ⟨r, hr, hj⟩ => once_complete f1 f2 hr hj, fun h => once_sound S h⟩
  rw [e1, this]
theorem any_val : roadref2_AnyOf p = some (any : Int) := by
  have hbl := bs_len p
  unfold roadref2_AnyOf
  rw [(bodies_val hb).2, Option.bind_some]
  have l1 : ∀ (e : Ex) (k : Nat), e.bulk ≤ 1048576 → ∀ (r pre : List Ex) (a : Nat), walk e = pre ++ r → a < 128 →
      roadref2_AnyOf.l1 p (a : Int) (bs p) ((bs p).length : Int) (k : Int) (walk e) ((walk e).length : Int) (pre.length : Int) = roadref2_AnyOf.l0 p (mfold p has any r a : Int) (bs p) ((bs p).length : Int) (IntKind.wrap .i64 ((k : Int) + 1)) := by
    intro e k he r
    have hw := walk_bulk e
    induction r with
    | nil => intro pre a hp _; rw [roadref2_AnyOf.l1_eq, if_neg (by rw [hp]; simp)]; rfl
    | cons x r ih =>
      intro pre a hp ha
      have hlen : (walk e).length = pre.length + (r.length + 1) := by rw [hp]; simp
      have hx : x.bulk ≤ 1048576 := Nat.le_trans (mem_bulk e x (by rw [hp]; simp)) he
      have next : ∀ b : Nat, b < 128 → roadref2_AnyOf.l1 p (b : Int) (bs p) ((bs p).length : Int) (k : Int) (walk e) ((walk e).length : Int) (IntKind.wrap .i64 ((pre.length : Int) + 1)) = roadref2_AnyOf.l0 p (mfold p has any r b : Int) (bs p) ((bs p).length : Int) (IntKind.wrap .i64 ((k : Int) + 1)) := by
        intro b hb2
        rw [w_succ (k := pre.length) (by omega)]
        have := ih (pre ++ [x]) b (by simpa using hp) hb2
        simpa using this
      rw [roadref2_AnyOf.l1_eq, if_pos (by omega), gi_some (k := pre.length) rfl (by rw [hp]; simp : (walk e)[pre.length]? = some x), Option.bind_some, mfold_cons]
      by_cases hk : x.Kind = 10
      · rw [if_pos hk, if_pos hk, does_once hb hn h1 h2 f1 f2 S hx, Option.bind_some, or_nat ha (once_lt h1 h2)]
        exact next _ (or_lt ha (once_lt h1 h2))
      · rw [if_neg hk, if_neg hk]
        exact next _ ha
  have l0 : ∀ (r pre : List Ex) (a : Nat), bs p = pre ++ r → a < 128 → roadref2_AnyOf.l0 p (a : Int) (bs p) ((bs p).length : Int) (pre.length : Int) = some (mfold p has any (r.flatMap walk) a : Int) := by
    intro r
    induction r with
    | nil => intro pre a hp _; rw [roadref2_AnyOf.l0_eq, if_neg (by rw [hp]; simp)]; rfl
    | cons e r ih =>
      intro pre a hp ha
      have hlen : (bs p).length = pre.length + (r.length + 1) := by rw [hp]; simp
      have he : e.bulk ≤ 1048576 := Nat.le_trans (bs_mem (show e ∈ bs p by rw [hp]; simp)) hb
      have hw := walk_bulk e
      rw [roadref2_AnyOf.l0_eq, if_pos (by omega), gi_some (k := pre.length) rfl (by rw [hp]; simp : (bs p)[pre.length]? = some e), Option.bind_some, all_val e (by omega), Option.bind_some]
      refine Eq.trans (l1 e pre.length he (walk e) [] a rfl ha) ?_
      rw [w_succ (by omega)]
      have := ih (pre ++ [e]) (mfold p has any (walk e) a) (by simpa using hp) (mfold_lt h1 h2 _ _ ha)
      rw [List.flatMap_cons, mfold_append]
      simpa using this
  have hz : mfold p has any ((bs p).flatMap walk) 0 = any := by
    refine bit_eq fun j => ?_
    have e1 : (mfold p has any ((bs p).flatMap walk) 0).testBit j = true ↔ (0 : Nat).testBit j = true ∨ ∃ x ∈ efuns p, (once p x has any).testBit j = true := mfold_bit (efuns p) 0
    rw [e1]
    constructor
    · rintro (h | h)
      · simp at h
      · rw [← f2]; unfold more; rw [mfold_bit]; exact .inr h
    · intro h
      obtain ⟨x, hx, r, hr, hj⟩ := S.2 j h
      exact .inr ⟨x, hx, once_complete f1 f2 hr hj⟩
  have := l0 (bs p) [] 0 rfl (by decide)
  rw [hz] at this
  exact this
theorem has_get {i : Nat} {f : T_api_Func} (h : (fs p)[i]? = some f) : has[i]? = some (once p f.Body has any) := by
  have := nxt_get (has := has) (any := any) h
  rw [f1] at this
  exact this
theorem prog_val (hL : effect_Least p = some (toI has, (any : Int))) : ∃ E A : Int, effect_Program p = some (E, A) ∧ roadref2_EffectsOf p = some ⟨E, A⟩ := by
  have hf := fs_len p
  have hi := impls_len p
  have hfs : fs p = p.Impls.flatMap (·.Funcs) ++ p.Funcs := rfl
  unfold effect_Program roadref2_EffectsOf
  rw [hL, Option.bind_some]
  have l1 : ∀ (m : T_api_Impl) (k : Nat) (c : List T_api_Func) (rest : List T_api_Func), fs p = c ++ (m.Funcs ++ rest) → k < 1048577 →
      (∃ E A : Int, effect_Program.l0 (toI has) ((c.length + m.Funcs.length : Nat) : Int) p.Impls (p.Impls.length : Int) (IntKind.wrap .i64 ((k : Int) + 1)) = some (E, A) ∧ roadref2_EffectsOf.l0 p ⟨0, 0⟩ p.Impls (p.Impls.length : Int) (IntKind.wrap .i64 ((k : Int) + 1)) = some ⟨E, A⟩) →
      ∀ (r pre : List T_api_Func), m.Funcs = pre ++ r → ∃ E A : Int, effect_Program.l1 (toI has) ((c.length + pre.length : Nat) : Int) p.Impls (p.Impls.length : Int) (k : Int) m.Funcs (m.Funcs.length : Int) (pre.length : Int) = some (E, A) ∧ roadref2_EffectsOf.l1 p ⟨0, 0⟩ p.Impls (p.Impls.length : Int) (k : Int) m.Funcs (m.Funcs.length : Int) (pre.length : Int) = some ⟨E, A⟩ := by
    intro m k c rest hc hk hnext r
    induction r with
    | nil =>
      intro pre hp
      have e0 : pre = m.Funcs := by rw [hp]; simp
      rw [effect_Program.l1_eq, roadref2_EffectsOf.l1_eq, if_neg (by rw [hp]; simp), if_neg (by rw [hp]; simp), e0]
      exact hnext
    | cons f r ih =>
      intro pre hp
      have hlen : m.Funcs.length = pre.length + (r.length + 1) := by rw [hp]; simp
      have hl2 : (fs p).length = c.length + (m.Funcs.length + rest.length) := by rw [hc]; simp
      have hfi : (fs p)[c.length + pre.length]? = some f := by
        rw [hc, List.getElem?_append_right (by omega), show c.length + pre.length - c.length = pre.length by omega, List.getElem?_append_left (by omega), hp]; simp
      have hfb : f.Body.bulk ≤ 1048576 := Nat.le_trans (bs_mem (fs_body (List.mem_of_getElem? hfi))) hb
      have hg : gi m.Funcs (pre.length : Int) = some f := gi_some (k := pre.length) rfl (by rw [hp]; simp)
      have hol := once_lt (p := p) (e := f.Body) h1 h2
      rw [effect_Program.l1_eq, roadref2_EffectsOf.l1_eq, if_pos (by omega), if_pos (by omega), hg, Option.bind_some, Option.bind_some, gi_some (k := c.length + pre.length) rfl (toI_get (has_get hb hn h1 h2 f1 f2 S hfi)), Option.bind_some, does_once hb hn h1 h2 f1 f2 S hfb, Option.bind_some, and_nat hol]
      by_cases hz : ((once p f.Body has any &&& 47 : Nat) : Int) = 0
      · rw [if_pos hz, if_pos hz, w_succ (by omega), w_succ (by omega)]
        have := ih (pre ++ [f]) (by simpa using hp)
        rw [List.length_append, List.length_singleton, ← Nat.add_assoc] at this
        exact this
      · rw [if_neg hz, if_neg hz]
        exact ⟨_, _, rfl, rfl⟩
  have l0 : ∀ (r pre : List T_api_Impl), p.Impls = pre ++ r → ∃ E A : Int, effect_Program.l0 (toI has) ((pre.flatMap (·.Funcs)).length : Int) p.Impls (p.Impls.length : Int) (pre.length : Int) = some (E, A) ∧ roadref2_EffectsOf.l0 p ⟨0, 0⟩ p.Impls (p.Impls.length : Int) (pre.length : Int) = some ⟨E, A⟩ := by
    intro r
    induction r with
    | nil => intro pre hp; rw [effect_Program.l0_eq, roadref2_EffectsOf.l0_eq, if_neg (by rw [hp]; simp), if_neg (by rw [hp]; simp)]; exact ⟨_, _, rfl, rfl⟩
    | cons m r ih =>
      intro pre hp
      have hlen : p.Impls.length = pre.length + (r.length + 1) := by rw [hp]; simp
      have hg : gi p.Impls (pre.length : Int) = some m := gi_some (k := pre.length) rfl (by rw [hp]; simp)
      rw [effect_Program.l0_eq, roadref2_EffectsOf.l0_eq, if_pos (by omega), if_pos (by omega), hg, Option.bind_some, Option.bind_some]
      refine l1 m pre.length (pre.flatMap (·.Funcs)) (r.flatMap (·.Funcs) ++ p.Funcs) (by rw [hfs, hp]; simp) (by omega) ?_ m.Funcs [] rfl
      rw [w_succ (by omega)]
      have := ih (pre ++ [m]) (by simpa using hp)
      simpa using this
  exact l0 p.Impls [] rfl
theorem law_l1 (hL : effect_Least p = some (toI has, (any : Int))) : ∀ (d k : Nat), k + d = (bs p).length → roadlaw2_EffectSays.l1 p (bs p) ((bs p).length : Int) (k : Int) = some true := by
  have hbl := bs_len p
  intro d
  induction d with
  | zero =>
    intro k hk
    rw [roadlaw2_EffectSays.l1_eq, if_neg (by omega)]
    generalize he1 : (T_api_Expr.mk 2 0 (ByteArray.mk #[]) [] [] [] [] 0) = e1
    have w1 : walk e1 = [e1] := by rw [walk_eq, ← he1]; simp [parts]
    generalize he0 : (T_api_Expr.mk 20 0 (ByteArray.mk #[]) [] [] [e1] [] 0) = e0
    have w0 : walk e0 = [e0, e1] := by
      have : parts e0 = [e1] := by rw [← he0]; rfl
      rw [walk_eq, this, List.flatMap_cons, w1]; rfl
    rw [own_val e0 (by rw [w0]; simp), Option.bind_some]
    have : own e0 = 1 := by
      unfold own
      rw [w0, ← he0, ← he1]; rfl
    rw [this]; rfl
  | succ d ih =>
    intro k hk
    have hlt : k < (bs p).length := by omega
    have he : ((bs p)[k]).bulk ≤ 1048576 := Nat.le_trans (bs_mem (List.getElem_mem hlt)) hb
    have hw := walk_bulk ((bs p)[k])
    have hcl := calls_len ((bs p)[k])
    have hB : effect_Body p (bs p)[k] = some (once p (bs p)[k] has any : Int) := by
      unfold effect_Body
      rw [hL, Option.bind_some, once_val hb he hn h1 h2]; rfl
    obtain ⟨b, hb1, hb2⟩ := slices_Equal_37.val (calls (bs p)[k]) (calls (bs p)[k]) (by omega)
    rw [roadlaw2_EffectSays.l1_eq, if_pos (by omega), gi_at hlt, Option.bind_some, own_val _ (by omega), Option.bind_some, ownOf_val _ (by omega), Option.bind_some, if_pos rfl, hB, Option.bind_some, does_once hb hn h1 h2 f1 f2 S he, Option.bind_some, if_pos rfl, calls_val _ (by omega), Option.bind_some, callsOf_val _ (by omega), Option.bind_some, hb1, Option.bind_some, if_pos (hb2.2 rfl), w_succ (by omega)]
    exact ih (k + 1) (by omega)
theorem law_l0 (hL : effect_Least p = some (toI has, (any : Int))) : ∀ (d k : Nat), k + d = (fs p).length → roadlaw2_EffectSays.l0 p (toI has) (fs p) (fs p) ((fs p).length : Int) (k : Int) = some true := by
  have hf := fs_len p
  intro d
  induction d with
  | zero =>
    intro k hk
    rw [roadlaw2_EffectSays.l0_eq, if_neg (by omega), (bodies_val hb).2, Option.bind_some]
    exact law_l1 hb hn h1 h2 f1 f2 S hL _ 0 (Nat.zero_add _)
  | succ d ih =>
    intro k hk
    have hlt : k < (fs p).length := by omega
    have hm := List.getElem_mem hlt
    have he : ((fs p)[k]).Body.bulk ≤ 1048576 := Nat.le_trans (bs_mem (fs_body hm)) hb
    rw [roadlaw2_EffectSays.l0_eq, if_pos (by omega), gi_at hlt, Option.bind_some, gi_some (k := k) rfl (toI_get (has_get hb hn h1 h2 f1 f2 S (List.getElem?_eq_getElem hlt))), Option.bind_some, does_once hb hn h1 h2 f1 f2 S he, Option.bind_some, if_pos rfl, Option.bind_some, if_pos rfl, w_succ (by omega)]
    exact ih (k + 1) (by omega)
end
theorem EffectSays (p : Pg) (hq : T_api_Program.Q p) (hb : p.bulk ≤ 1048576) : roadlaw2_EffectSays p = some true := by
  obtain ⟨b, hsm⟩ := small_val hb
  obtain ⟨has, any, hL, hn, h1, h2, f1, f2, S⟩ := least_val hb
  obtain ⟨E, A, e1, e2⟩ := prog_val hb hn h1 h2 f1 f2 S hL
  unfold roadlaw2_EffectSays
  rw [hsm, Option.bind_some]
  by_cases hbt : b = true
  · rw [if_pos hbt, e1, Option.bind_some, e2, Option.bind_some, hL, Option.bind_some, (funs_val hb).1, Option.bind_some, if_pos rfl, if_pos rfl, any_val hb hn h1 h2 f1 f2 S, Option.bind_some, if_pos rfl, (funs_val hb).2, Option.bind_some, if_pos (by rw [toI_len, hn]), if_pos (by rw [toI_len, hn])]
    unfold roadlaw2_EffectSays.j0
    rw [(funs_val hb).2, Option.bind_some]
    exact law_l0 hb hn h1 h2 f1 f2 S hL _ 0 (Nat.zero_add _)
  · rw [if_neg hbt]
end Go.Proofs.Ytilmfjdagnbbaab.Fw
