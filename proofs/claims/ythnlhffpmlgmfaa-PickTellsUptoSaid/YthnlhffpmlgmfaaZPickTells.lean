/- Last part: what the law PickTells needs, put together out of texts of this session. -/
import Derived.Test.YthnlhffpmlgmfaaRows
import Derived.WalkKit
import Derived.JoinedCond
import Derived.Deep.CondSized
import Derived.Test.YthnlhffpmlgmfaaZPickTellsc
section
namespace Go.Proofs.Ythnlhffpmlgmfaa.Fw
open Go Go.Hw Go.Proofs
set_option linter.unusedVariables false
abbrev Pa := T_api_Pat
abbrev Va := T_api_Value
abbrev Le := T_api_Letter
abbrev Bo := T_box_Box
theorem deep_val : ∀ (n : Nat) (v : Va), SizeOf.sizeOf v ≤ n → T_api_Value.Q v → ∃ r, roadref3_Deep v = some r := by
  intro n
  induction n with
  | zero => intro v hv; cases v; simp at hv
  | succ n ih =>
    intro v hv hQ
    obtain ⟨_, _, _, hQl, hQa⟩ := T_api_Value.Q_iff.1 hQ
    rw [roadref3_Deep_eq]
    have loop : ∀ (d i : Nat) (x y : Int), i + d = v.Args.length → ∃ r, roadref3_Deep.l0 x y v.Args (v.Args.length : Int) (i : Int) = some r := by
      intro d
      induction d with
      | zero => intro i x y hi; rw [roadref3_Deep.l0_eq, if_neg (by omega)]; exact ⟨_, rfl⟩
      | succ d ih2 =>
        intro i x y hi
        have hlt : i < v.Args.length := by omega
        have hm := List.getElem_mem hlt
        have hsz : SizeOf.sizeOf v.Args[i] ≤ n := by
          have h1 := List.sizeOf_lt_of_mem hm
          have h2 : SizeOf.sizeOf v = 1 + SizeOf.sizeOf v.Kind + SizeOf.sizeOf v.Num + SizeOf.sizeOf v.Text + SizeOf.sizeOf v.Args := by cases v; simp
          omega
        obtain ⟨r, hr⟩ := ih _ hsz (hQa _ hm)
        rw [roadref3_Deep.l0_eq, if_pos (by omega), gi_at hlt, Option.bind_some, hr, Option.bind_some, w_succ (by omega)]
        exact ih2 (i + 1) _ _ (by omega)
    exact loop _ 0 _ _ (Nat.zero_add _)
theorem same_val : ∀ (n : Nat) (v : Va), SizeOf.sizeOf v ≤ n → T_api_Value.Q v → roadref3_SameValue v v = some true := by
  intro n
  induction n with
  | zero => intro v hv; cases v; simp at hv
  | succ n ih =>
    intro v hv hQ
    obtain ⟨_, _, _, hQl, hQa⟩ := T_api_Value.Q_iff.1 hQ
    rw [roadref3_SameValue_eq, if_pos rfl, if_pos rfl, if_pos rfl, if_pos rfl, roadref3_SameValue.j0_eq]
    have loop : ∀ (d i : Nat), i + d = v.Args.length → roadref3_SameValue.l0 v v (v.Args.length : Int) (i : Int) = some true := by
      intro d
      induction d with
      | zero => intro i hi; rw [roadref3_SameValue.l0_eq, if_neg (by omega)]
      | succ d ih2 =>
        intro i hi
        have hlt : i < v.Args.length := by omega
        have hm := List.getElem_mem hlt
        have hsz : SizeOf.sizeOf v.Args[i] ≤ n := by
          have h1 := List.sizeOf_lt_of_mem hm
          have h2 : SizeOf.sizeOf v = 1 + SizeOf.sizeOf v.Kind + SizeOf.sizeOf v.Num + SizeOf.sizeOf v.Text + SizeOf.sizeOf v.Args := by cases v; simp
          omega
        rw [roadref3_SameValue.l0_eq, if_pos (by omega), gi_at hlt, Option.bind_some, Option.bind_some, ih _ hsz (hQa _ hm), Option.bind_some, if_pos rfl, w_succ (by omega)]
        exact ih2 (i + 1) (by omega)
    exact loop _ 0 (Nat.zero_add _)
theorem own_val : ∀ (n : Nat) (v : Va), SizeOf.sizeOf v ≤ n → T_api_Value.Q v → box_Own v = some v := by
  intro n
  induction n with
  | zero => intro v hv; cases v; simp at hv
  | succ n ih =>
    intro v hv hQ
    obtain ⟨_, _, _, hQl, hQa⟩ := T_api_Value.Q_iff.1 hQ
    rw [box_Own_eq, slices_Clone_112.val _ (by omega), Option.bind_some]
    have loop : ∀ (d i : Nat) (w : Va), i + d = v.Args.length → box_Own.l0 v.Kind v.Num v.Text v.Args w (v.Args.length : Int) (i : Int) = some v := by
      intro d
      induction d with
      | zero => intro i w hi; rw [box_Own.l0_eq, if_neg (show ¬ ((i : Int) < (v.Args.length : Int)) by omega)]; cases v; rfl
      | succ d ih2 =>
        intro i w hi
        have hlt : i < v.Args.length := by omega
        have hm := List.getElem_mem hlt
        have hsz : SizeOf.sizeOf v.Args[i] ≤ n := by
          have h1 := List.sizeOf_lt_of_mem hm
          have h2 : SizeOf.sizeOf v = 1 + SizeOf.sizeOf v.Kind + SizeOf.sizeOf v.Num + SizeOf.sizeOf v.Text + SizeOf.sizeOf v.Args := by cases v; simp
          omega
        rw [box_Own.l0_eq, if_pos (by omega), gi_at hlt, Option.bind_some, ih _ hsz (hQa _ hm), Option.bind_some, Option.bind_some, Option.bind_some, w_succ (by omega)]
        rw [show Int.toNat (i : Int) = i from rfl, List.set_getElem_self]
        exact ih2 (i + 1) w (by omega)
    exact loop _ 0 _ (Nat.zero_add _)
theorem same_v {v : Va} (h : T_api_Value.Q v) : roadref3_SameValue v v = some true := same_val _ v (Nat.le_refl _) h
theorem own_v {v : Va} (h : T_api_Value.Q v) : box_Own v = some v := own_val _ v (Nat.le_refl _) h
theorem same_letter {x : Le} (h : T_api_Letter.Q x) : roadref3_SameLetter x x = some true := by
  unfold roadref3_SameLetter
  rw [if_pos rfl, if_pos rfl, if_pos rfl, if_pos rfl, if_pos rfl, same_v h.2.2.2.2.2, Option.bind_some]
theorem same_letters {l : List Le} (hl : l.length ≤ 4611686018427387904) (h : ∀ x ∈ l, T_api_Letter.Q x) : roadref3_SameLetters l l = some true := by
  unfold roadref3_SameLetters
  rw [if_pos rfl]
  have loop : ∀ (d i : Nat), i + d = l.length → roadref3_SameLetters.l0 l l (l.length : Int) (i : Int) = some true := by
    intro d
    induction d with
    | zero => intro i hi; rw [roadref3_SameLetters.l0_eq, if_neg (by omega)]
    | succ d ih =>
      intro i hi
      have hlt : i < l.length := by omega
      rw [roadref3_SameLetters.l0_eq, if_pos (by omega), gi_at hlt, Option.bind_some, Option.bind_some, same_letter (h _ (List.getElem_mem hlt)), Option.bind_some, if_pos rfl, w_succ (by omega)]
      exact ih (i + 1) (by omega)
  exact loop _ 0 (Nat.zero_add _)
theorem same_box {b : Bo} (hl : b.Letters.length ≤ 4611686018427387904) (h : ∀ x ∈ b.Letters, T_api_Letter.Q x) : roadref3_SameBox b b = some true := by
  unfold roadref3_SameBox
  rw [if_pos rfl, same_letters hl h, Option.bind_some]
theorem in_val (x a b : Int) : roadref3_In x a b = some (decide (a ≤ x ∧ x ≤ b)) := by
  unfold roadref3_In
  by_cases h : x ≥ a
  · rw [if_pos h]; congr 1; by_cases h2 : x ≤ b <;> simp [h2] <;> omega
  · rw [if_neg h]; congr 1; symm; rw [decide_eq_false_iff_not]; omega
def okK (x : Le) : Bool := decide (x.Kind = 1) || decide (x.Kind = 2)
def code (b : Bo) : Int := if b.Letters.length > 60 then 2 else if 0 ≤ b.At ∧ b.At ≤ b.Letters.length then (if b.Letters.all okK then 0 else 3) else 1
theorem step_ok {l : List Le} {i : Nat} (hlt : i < l.length) (h : ∀ x ∈ l.take i, okK x = true) (hk : okK l[i] = true) : ∀ x ∈ l.take (i + 1), okK x = true := by
  intro x hx
  rw [List.take_succ_eq_append_getElem hlt] at hx
  rcases List.mem_append.1 hx with hx | hx
  · exact h x hx
  · simp at hx; subst hx; exact hk
theorem all_not {l : List Le} {i : Nat} (hlt : i < l.length) (h1 : l[i].Kind ≠ 1) (h2 : l[i].Kind ≠ 2) : ¬ l.all okK = true := by
  rw [List.all_eq_true]
  intro hh
  have := hh _ (List.getElem_mem hlt)
  simp [okK, h1, h2] at this
theorem check_loop {l : List Le} (hl : l.length ≤ 4611686018427387904) : ∀ (d i : Nat), i + d = l.length → (∀ x ∈ l.take i, okK x = true) →
    box_Check.l0 l (l.length : Int) (i : Int) = some (if l.all okK = true then 0 else 3) := by
  intro d
  induction d with
  | zero =>
    intro i hi h
    rw [box_Check.l0_eq, if_neg (show ¬ ((i : Int) < (l.length : Int)) by omega)]
    rw [List.take_of_length_le (by omega)] at h
    rw [if_pos (List.all_eq_true.2 h)]
  | succ d ih =>
    intro i hi h
    have hlt : i < l.length := by omega
    rw [box_Check.l0_eq, if_pos (show ((i : Int) < (l.length : Int)) by omega), gi_at hlt, Option.bind_some]
    by_cases h1 : l[i].Kind = 1
    · rw [if_pos h1, w_succ (by omega)]
      exact ih (i + 1) (by omega) (step_ok hlt h (by simp [okK, h1]))
    · rw [if_neg h1]
      by_cases h2 : l[i].Kind = 2
      · rw [if_pos h2, w_succ (by omega)]
        exact ih (i + 1) (by omega) (step_ok hlt h (by simp [okK, h2]))
      · rw [if_neg h2, if_neg (all_not hlt h1 h2)]
theorem fault_loop {l : List Le} (hl : l.length ≤ 4611686018427387904) : ∀ (d i : Nat), i + d = l.length → (∀ x ∈ l.take i, okK x = true) →
    roadref3_BoxFault.l0 l (l.length : Int) (i : Int) = some (if l.all okK = true then 0 else 3) := by
  intro d
  induction d with
  | zero =>
    intro i hi h
    rw [roadref3_BoxFault.l0_eq, if_neg (show ¬ ((i : Int) < (l.length : Int)) by omega)]
    rw [List.take_of_length_le (by omega)] at h
    rw [if_pos (List.all_eq_true.2 h)]
  | succ d ih =>
    intro i hi h
    have hlt : i < l.length := by omega
    rw [roadref3_BoxFault.l0_eq, if_pos (show ((i : Int) < (l.length : Int)) by omega), gi_at hlt, Option.bind_some, in_val, Option.bind_some]
    by_cases h1 : 1 ≤ l[i].Kind ∧ l[i].Kind ≤ 2
    · rw [if_pos (decide_eq_true h1), w_succ (by omega)]
      refine ih (i + 1) (by omega) (step_ok hlt h ?_)
      have : l[i].Kind = 1 ∨ l[i].Kind = 2 := by omega
      rcases this with h2 | h2 <;> simp [okK, h2]
    · rw [if_neg (show ¬ decide (1 ≤ l[i].Kind ∧ l[i].Kind ≤ 2) = true by rw [decide_eq_true_eq]; exact h1), if_neg (all_not hlt (by omega) (by omega))]
theorem check_val (b : Bo) (hl : b.Letters.length ≤ 4611686018427387904) : box_Check b = some (code b) := by
  unfold box_Check code box_Check.j0
  by_cases h1 : b.Letters.length > 60
  · rw [if_pos (show ((b.Letters.length : Nat) : Int) > 60 by omega), if_pos h1]
  · rw [if_neg (show ¬ ((b.Letters.length : Nat) : Int) > 60 by omega), if_neg h1]
    by_cases h2 : 0 ≤ b.At ∧ b.At ≤ b.Letters.length
    · rw [if_neg (show ¬ b.At < 0 by omega), if_neg (show ¬ b.At > ((b.Letters.length : Nat) : Int) by omega), if_pos h2]
      exact check_loop hl b.Letters.length 0 (by omega) (by simp)
    · rw [if_neg h2]
      by_cases h3 : b.At < 0
      · rw [if_pos h3]
      · rw [if_neg h3, if_pos (show b.At > ((b.Letters.length : Nat) : Int) by omega)]
theorem fault_val (b : Bo) (hl : b.Letters.length ≤ 4611686018427387904) : roadref3_BoxFault b = some (code b) := by
  unfold roadref3_BoxFault code
  by_cases h1 : b.Letters.length > 60
  · rw [if_pos (show ((b.Letters.length : Nat) : Int) > 60 by omega), if_pos h1]
  · rw [if_neg (show ¬ ((b.Letters.length : Nat) : Int) > 60 by omega), if_neg h1, in_val, Option.bind_some]
    by_cases h2 : 0 ≤ b.At ∧ b.At ≤ b.Letters.length
    · rw [if_pos (decide_eq_true h2), if_pos h2]
      exact fault_loop hl b.Letters.length 0 (by omega) (by simp)
    · rw [if_neg (show ¬ decide (0 ≤ b.At ∧ b.At ≤ (b.Letters.length : Int)) = true by rw [decide_eq_true_eq]; exact h2), if_neg h2]
theorem code_zero {b : Bo} (h : code b = 0) : b.Letters.length ≤ 60 := by
  unfold code at h
  by_cases h1 : b.Letters.length > 60
  · rw [if_pos h1] at h; cases h
  · omega
def none' : Bo := T_box_Box.mk ([] : List Le) 0
theorem same_none : roadref3_SameBox none' none' = some true := same_box (by simp [none']) (by simp [none'])
theorem same_values {l : List Va} (hl : l.length ≤ 4611686018427387904) (h : ∀ x ∈ l, T_api_Value.Q x) : roadref3_SameValues l l = some true := by
  unfold roadref3_SameValues
  rw [if_pos rfl]
  have loop : ∀ (d i : Nat), i + d = l.length → roadref3_SameValues.l0 l l (l.length : Int) (i : Int) = some true := by
    intro d
    induction d with
    | zero => intro i hi; rw [roadref3_SameValues.l0_eq, if_neg (by omega)]
    | succ d ih =>
      intro i hi
      have hlt : i < l.length := by omega
      rw [roadref3_SameValues.l0_eq, if_pos (by omega), gi_at hlt, Option.bind_some, Option.bind_some, same_v (h _ (List.getElem_mem hlt)), Option.bind_some, if_pos rfl, w_succ (by omega)]
      exact ih (i + 1) (by omega)
  exact loop _ 0 (Nat.zero_add _)
def zl : Le := T_api_Letter.mk 0 0 0 0 (ByteArray.mk #[]) (T_api_Value.mk 0 0 (ByteArray.mk #[]) [])
theorem zl_Q : T_api_Letter.Q zl := by
  have q0 : T_api_Value.Q (T_api_Value.mk 0 0 (ByteArray.mk #[]) []) := T_api_Value.Q_iff.2 ⟨by simp, by simp, (show (ByteArray.mk #[]).size ≤ 140737488351232 by decide), by simp, fun a ha => by cases ha⟩
  exact ⟨by decide, by decide, by decide, by decide, (show (ByteArray.mk #[]).size ≤ 140737488351232 by decide), q0⟩
theorem mem_le {α : Type} {f : α → Nat} {l : List α} {x : α} (h : x ∈ l) : f x ≤ (l.map f).sum := by
  induction l with
  | nil => cases h
  | cons a l ih =>
    rw [List.map_cons, List.sum_cons]
    rcases List.mem_cons.1 h with rfl | h
    · omega
    · have := ih h; omega
theorem pattern_val : ∀ (n : Nat) (p : Pa), SizeOf.sizeOf p ≤ n → p.bulk ≤ 1048576 → ∀ k, ∃ b, roadlaw3_pattern p k = some b := by
  intro n
  induction n with
  | zero => intro p hp; cases p; simp at hp
  | succ n ih =>
    intro p hp hb k
    rw [roadlaw3_pattern_eq]
    by_cases c1 : k < 1
    · rw [if_pos c1]; exact ⟨_, rfl⟩
    · rw [if_neg c1]
      by_cases c2 : ((p.Args.length : Nat) : Int) > 20
      · rw [if_pos c2]; exact ⟨_, rfl⟩
      · rw [if_neg c2, roadlaw3_pattern.j0_eq, slices_ContainsFunc_24_s1_eq, slices_IndexFunc_81_s2_eq]
        have loop : ∀ (d i : Nat), i + d = p.Args.length → ∃ r, slices_IndexFunc_81_s2.l0 p.Args k (p.Args.length : Int) (i : Int) = some r := by
          intro d
          induction d with
          | zero => intro i hi; rw [slices_IndexFunc_81_s2.l0_eq, if_neg (by omega)]; exact ⟨_, rfl⟩
          | succ d ih2 =>
            intro i hi
            have hlt : i < p.Args.length := by omega
            have hm := List.getElem_mem hlt
            have hsz : SizeOf.sizeOf p.Args[i] ≤ n := by
              have h1 := List.sizeOf_lt_of_mem hm
              have h2 : SizeOf.sizeOf p = 1 + SizeOf.sizeOf p.Kind + SizeOf.sizeOf p.Num + SizeOf.sizeOf p.Text + SizeOf.sizeOf p.Args := by cases p; simp
              omega
            have hbb : p.Args[i].bulk ≤ 1048576 := by
              rw [T_api_Pat.bulk_eq] at hb
              have : p.Args[i].bulk ≤ (p.Args.map T_api_Pat.bulk).sum := mem_le hm
              omega
            obtain ⟨b, hb'⟩ := ih _ hsz hbb (IntKind.wrap .i64 (k - 1))
            rw [slices_IndexFunc_81_s2.l0_eq, if_pos (by omega), gi_at hlt, Option.bind_some, roadlaw3_pattern_1_eq, hb', Option.bind_some, Option.bind_some]
            by_cases e : (!b) = true
            · rw [if_pos e]; exact ⟨_, rfl⟩
            · rw [if_neg e, w_succ (by omega)]; exact ih2 (i + 1) (by omega)
        obtain ⟨r, hr⟩ := loop _ 0 (Nat.zero_add _)
        rw [show ((0 : Nat) : Int) = 0 from rfl] at hr
        rw [hr, Option.bind_some, Option.bind_some]
        exact ⟨_, rfl⟩
def Fit (p : Pa) (v : Va) (acc : List Va) (ok : Bool) (outs acc' : List Va) : Prop := (ok = true → acc' = acc ++ outs) ∧ (ok = false → outs = []) ∧ ∀ o ∈ outs, T_api_Value.Q o
theorem fit_none {p : Pa} {v : Va} {acc : List Va} (ok : Bool) : Fit p v acc ok [] acc := ⟨fun _ => by simp, fun _ => rfl, fun o h => by cases h⟩
theorem fit_val : ∀ (n : Nat) (p : Pa) (v : Va) (acc : List Va), SizeOf.sizeOf p ≤ n → T_api_Value.Q v → acc.length + p.bulk ≤ 3000000 → ∃ ok outs acc', pick_Fits p v = some (outs, ok) ∧ roadref3_Matches p v acc = some (ok, acc') ∧ Fit p v acc ok outs acc' ∧ outs.length ≤ p.bulk := by
  intro n
  induction n with
  | zero => intro p v acc hp; cases p; simp at hp
  | succ n ih =>
    intro p v acc hp hv hb
    have hbq := T_api_Pat.bulk_eq p
    rw [pick_Fits_eq, roadref3_Matches_eq]
    by_cases k2 : p.Kind = 2
    · have hset : (acc ++ [(T_api_Value.mk 0 0 (ByteArray.mk #[]) [] : Va)]).set (Int.toNat ((acc.length : Nat) : Int)) v = acc ++ [v] := by
        rw [show Int.toNat ((acc.length : Nat) : Int) = acc.length from rfl, List.set_append_right _ _ (Nat.le_refl _), Nat.sub_self]; rfl
      rw [if_neg (by omega), if_pos k2, own_v hv, Option.bind_some, if_pos k2, ap_one (by omega), Option.bind_some, gi_at (show acc.length < (acc ++ [(T_api_Value.mk 0 0 (ByteArray.mk #[]) [] : Va)]).length by simp), Option.bind_some, Option.bind_some, hset, roadref3_Matches.j0_eq, Option.bind_some, Option.bind_some, Option.bind_some, Option.bind_some, if_neg (by omega), roadref3_Matches.j1_eq, if_pos (by rw [k2]; rfl)]
      exact ⟨_, _, _, rfl, rfl, ⟨fun _ => rfl, fun h => (by cases h), fun o ho => by rw [List.mem_singleton.1 ho]; exact hv⟩, by rw [hbq]; simp⟩
    · rw [if_neg k2, if_neg k2, roadref3_Matches.j0_eq, Option.bind_some, Option.bind_some, Option.bind_some, Option.bind_some]
      by_cases k1 : p.Kind = 1
      · rw [if_pos k1, if_pos k1, roadref3_Matches.j1_eq, if_pos (by rw [k1]; rfl)]
        exact ⟨_, _, _, rfl, rfl, fit_none _, Nat.zero_le _⟩
      · rw [if_neg k1, if_neg k1, roadref3_Matches.j1_eq, if_neg (show ¬ (p.Kind == 2) = true by simpa using k2)]
        by_cases k3 : p.Kind = 3
        · have hx : pgd (pset (pset (pset (pset ([] : List (Int × Int)) 3 2) 4 3) 5 4) 6 5) p.Kind 0 = 2 := by rw [k3]; decide
          rw [if_pos k3, if_pos k3, roadref3_Matches.j2_eq, if_pos (show (p.Kind == 3) = true by rw [k3]; rfl), hx]
          by_cases c : v.Kind = 2
          · rw [if_pos c, if_pos c]; exact ⟨_, _, _, rfl, rfl, fit_none _, Nat.zero_le _⟩
          · rw [if_neg c, if_neg c]; exact ⟨_, _, _, rfl, rfl, fit_none _, Nat.zero_le _⟩
        · rw [if_neg k3, if_neg k3, roadref3_Matches.j2_eq]
          by_cases k4 : p.Kind = 4
          · have hx : pgd (pset (pset (pset (pset ([] : List (Int × Int)) 3 2) 4 3) 5 4) 6 5) p.Kind 0 = 3 := by rw [k4]; decide
            rw [if_pos k4, if_pos (show (p.Kind == 4) = true by rw [k4]; rfl), hx]
            by_cases c : v.Kind = 3
            · rw [if_pos c, if_pos c]; exact ⟨_, _, _, rfl, rfl, fit_none _, Nat.zero_le _⟩
            · rw [if_neg c, if_neg c]; exact ⟨_, _, _, rfl, rfl, fit_none _, Nat.zero_le _⟩
          · rw [if_neg k4, if_neg (show ¬ (p.Kind == 4) = true by simpa using k4)]
            by_cases k5 : p.Kind = 5
            · have hx : pgd (pset (pset (pset (pset ([] : List (Int × Int)) 3 2) 4 3) 5 4) 6 5) p.Kind 0 = 4 := by rw [k5]; decide
              rw [if_pos k5, if_pos k5, hx]
              by_cases c : v.Kind = 4
              · rw [if_pos c, if_pos c]; exact ⟨_, _, _, rfl, rfl, fit_none _, Nat.zero_le _⟩
              · rw [if_neg c, if_neg c]; exact ⟨_, _, _, rfl, rfl, fit_none _, Nat.zero_le _⟩
            · rw [if_neg k5, if_neg k5]
              by_cases k6 : p.Kind = 6
              · have hx : pgd (pset (pset (pset (pset ([] : List (Int × Int)) 3 2) 4 3) 5 4) 6 5) p.Kind 0 = 5 := by rw [k6]; decide
                rw [if_pos k6, if_pos k6, hx, pick_parts_eq]
                have bad : ∀ acc : List Va, roadref3_Matches.j3 acc p v false = some (false, acc) := fun acc => by rw [roadref3_Matches.j3_eq, roadref3_Matches.l0_eq, if_neg (by decide)]
                by_cases c : v.Kind = 5
                · rw [if_pos c, if_pos c]
                  by_cases t : v.Text = p.Text
                  · rw [if_pos t, if_pos t, pick_parts.j1_eq]
                    by_cases e : v.Args.length = p.Args.length
                    · rw [if_neg (show ¬ ((((v.Args.length : Nat) : Int) != ((p.Args.length : Nat) : Int)) = true) by simp [e]), show (((v.Args.length : Nat) : Int) == ((p.Args.length : Nat) : Int)) = true by simp [e], pick_parts.j0_eq, roadref3_Matches.j3_eq]
                      obtain ⟨_, _, _, _, hQa⟩ := T_api_Value.Q_iff.1 hv
                      have loop : ∀ (d i : Nat) (a : List Va), i + d = p.Args.length → acc.length + a.length + ((p.Args.drop i).map T_api_Pat.bulk).sum ≤ 3000000 → (∀ o ∈ a, T_api_Value.Q o) → ∃ ok outs acc', pick_parts.l0 v a p.Args (p.Args.length : Int) (i : Int) = some (outs, ok) ∧ roadref3_Matches.l0 (acc ++ a) p v true (i : Int) = some (ok, acc') ∧ Fit p v acc ok outs acc' ∧ outs.length ≤ a.length + ((p.Args.drop i).map T_api_Pat.bulk).sum := by
                        intro d
                        induction d with
                        | zero =>
                          intro i a hi ha hq
                          rw [pick_parts.l0_eq, if_neg (by omega), roadref3_Matches.l0_eq, if_pos rfl, if_neg (by omega)]
                          exact ⟨_, _, _, rfl, rfl, ⟨fun _ => rfl, fun h => (by cases h), hq⟩, by omega⟩
                        | succ d ih2 =>
                          intro i a hi ha hq
                          have hlt : i < p.Args.length := by omega
                          have hlv : i < v.Args.length := by omega
                          have hm := List.getElem_mem hlt
                          have hsz : SizeOf.sizeOf p.Args[i] ≤ n := by
                            have h1 := List.sizeOf_lt_of_mem hm
                            have h2 : SizeOf.sizeOf p = 1 + SizeOf.sizeOf p.Kind + SizeOf.sizeOf p.Num + SizeOf.sizeOf p.Text + SizeOf.sizeOf p.Args := by cases p; simp
                            omega
                          rw [List.drop_eq_getElem_cons hlt, List.map_cons, List.sum_cons] at ha ⊢
                          obtain ⟨ok, outs, acc', f1, f2, f3, f4⟩ := ih p.Args[i] v.Args[i] (acc ++ a) hsz (hQa _ (List.getElem_mem hlv)) (by rw [List.length_append]; omega)
                          rw [pick_parts.l0_eq, if_pos (show (i : Int) < (p.Args.length : Int) by omega), gi_at hlt, Option.bind_some, gi_at hlv, Option.bind_some, f1, Option.bind_some, roadref3_Matches.l0_eq, if_pos (show true = true from rfl), if_pos (show (i : Int) < (p.Args.length : Int) by omega), roadref3_Matches.j4_eq, gi_at hlt, Option.bind_some, gi_at hlv, Option.bind_some, f2, Option.bind_some]
                          cases ok with
                          | false =>
                            rw [if_neg Bool.false_ne_true]
                            show ∃ ok outs acc'', some (([] : List Va), false) = some (outs, ok) ∧ roadref3_Matches.l0 acc' p v false _ = some (ok, acc'') ∧ _
                            rw [roadref3_Matches.l0_eq, if_neg (by decide)]
                            exact ⟨_, _, _, rfl, rfl, ⟨fun h => (by cases h), fun _ => rfl, fun o h => (by cases h)⟩, Nat.zero_le _⟩
                          | true =>
                            have hacc := f3.1 rfl
                            rw [if_pos rfl, ap_of (by
                              show (a.length + outs.length) * 56 ≤ _
                              omega), Option.bind_some, w_succ (by omega)]
                            show ∃ ok' outs' acc'', pick_parts.l0 v (a ++ outs) p.Args _ _ = some (outs', ok') ∧ roadref3_Matches.l0 acc' p v true _ = some (ok', acc'') ∧ _
                            rw [hacc, List.append_assoc]
                            obtain ⟨ok2, outs2, acc2, g1, g2, g3, g4⟩ := ih2 (i + 1) (a ++ outs) (by omega) (by rw [List.length_append]; omega) (fun o ho => (List.mem_append.1 ho).elim (hq o) (f3.2.2 o))
                            exact ⟨ok2, outs2, acc2, g1, g2, g3, by rw [List.length_append] at g4; omega⟩
                      obtain ⟨ok, outs, acc', g1, g2, g3, g4⟩ := loop p.Args.length 0 [] (by omega) (by rw [List.drop_zero]; simp; omega) (fun o h => by cases h)
                      rw [show ((0 : Nat) : Int) = 0 from rfl, List.append_nil] at g2
                      rw [show ((0 : Nat) : Int) = 0 from rfl] at g1
                      rw [g1, Option.bind_some, g2]
                      exact ⟨ok, outs, acc', rfl, rfl, g3, by rw [List.drop_zero] at g4; simp at g4; omega⟩
                    · rw [if_pos (show ((((v.Args.length : Nat) : Int) != ((p.Args.length : Nat) : Int)) = true) by simp; omega), show (((v.Args.length : Nat) : Int) == ((p.Args.length : Nat) : Int)) = false by simp; omega, bad]
                      exact ⟨_, _, _, rfl, rfl, fit_none _, Nat.zero_le _⟩
                  · rw [if_neg t, if_neg t, pick_parts.j1_eq, if_pos rfl, bad]
                    exact ⟨_, _, _, rfl, rfl, fit_none _, Nat.zero_le _⟩
                · rw [if_neg c, if_neg c, pick_parts.j1_eq, if_pos rfl, bad]
                  exact ⟨_, _, _, rfl, rfl, fit_none _, Nat.zero_le _⟩
              · rw [if_neg k6, if_neg k6]
                exact ⟨_, _, _, rfl, rfl, fit_none _, Nat.zero_le _⟩
section
variable {l : List Pa} (hl : l.length ≤ 1048576) (hp : ∀ p ∈ l, p.bulk ≤ 1048576)
include hl hp
theorem first_val {v : Va} (hv : T_api_Value.Q v) : ∃ r, pick_First l v = some r ∧ roadref3_FirstOf l v = some r := by
  have loop : ∀ (d i : Nat), i + d = l.length → ∃ r, slices_IndexFunc_81.l0 l (fun z18 => pick_First_1 z18 v) (l.length : Int) (i : Int) = some r ∧ roadref3_FirstOf.l0 v l (l.length : Int) (i : Int) = some r := by
    intro d
    induction d with
    | zero => intro i hi; rw [slices_IndexFunc_81.l0_eq, if_neg (by omega), roadref3_FirstOf.l0_eq, if_neg (by omega)]; exact ⟨_, rfl, rfl⟩
    | succ d ih =>
      intro i hi
      have hlt : i < l.length := by omega
      have hb := hp _ (List.getElem_mem hlt)
      obtain ⟨ok, outs, acc', f1, f2, _, _⟩ := fit_val _ l[i] v [] (Nat.le_refl _) hv (by simp; omega)
      have h1 : pick_First_1 l[i] v = some ok := by unfold pick_First_1; rw [f1, Option.bind_some]
      rw [slices_IndexFunc_81.l0_eq, if_pos (by omega), gi_at hlt, Option.bind_some, h1, Option.bind_some, roadref3_FirstOf.l0_eq, if_pos (show (i : Int) < (l.length : Int) by omega), gi_at hlt, Option.bind_some, f2, Option.bind_some]
      cases ok with
      | true => rw [if_pos rfl, if_pos rfl]; exact ⟨_, rfl, rfl⟩
      | false => rw [if_neg Bool.false_ne_true, if_neg Bool.false_ne_true, w_succ (by omega)]; exact ih (i + 1) (by omega)
  obtain ⟨r, r1, r2⟩ := loop l.length 0 (by omega)
  rw [show ((0 : Nat) : Int) = 0 from rfl] at r1 r2
  refine ⟨r, ?_, ?_⟩
  · unfold pick_First slices_IndexFunc_81
    rw [r1, Option.bind_some]
  · unfold roadref3_FirstOf
    exact r2
omit hl hp in
theorem mess {x : Le} (hx : T_api_Letter.Q x) : ∃ m, box_Says x = some m ∧ roadref3_Message x = some m ∧ T_api_Value.Q m := by
  have hv := hx.2.2.2.2.2
  unfold box_Says roadref3_Message
  by_cases h : x.Kind = 2
  · rw [if_pos h, if_pos h]
    refine ⟨_, rfl, rfl, ?_⟩
    have q0 : ∀ k n : Int, (-9223372036854775808 ≤ k ∧ k ≤ 9223372036854775807) → (-9223372036854775808 ≤ n ∧ n ≤ 9223372036854775807) → T_api_Value.Q (T_api_Value.mk k n (ByteArray.mk #[]) []) := fun k n h1 h2 => T_api_Value.Q_iff.2 ⟨h1, h2, (show (ByteArray.mk #[]).size ≤ 140737488351232 by decide), by simp, fun a ha => by cases ha⟩
    refine T_api_Value.Q_iff.2 ⟨by simp, by simp, (show (ByteArray.mk #[68, 111, 119, 110]).size ≤ 140737488351232 by decide), by simp, fun a ha => ?_⟩
    simp only [List.mem_cons, List.not_mem_nil, or_false] at ha
    rcases ha with rfl | rfl
    · exact q0 _ _ (by simp) hx.2.1
    · exact q0 _ _ (by simp) hx.2.2.2.1
  · rw [if_neg h, if_neg h, own_v hv, Option.bind_some]; exact ⟨_, rfl, rfl, hv⟩
theorem take_loop {b : Bo} (hb : ∀ x ∈ b.Letters, T_api_Letter.Q x) (h60 : b.Letters.length ≤ 60) : ∀ (d i : Nat) (io : Int), i + d = b.Letters.length →
    ∃ R, pick_Take_s3.l0 l io none' zl b.Letters (i : Int) = some R ∧ R.2.2.2.1 = 0 ∧ roadlaw3_PickTells.l1 l b R.1 R.2.1 (if R.2.2.1 = true then R.2.2.2.2 else -1) 0 (i : Int) = some true := by
  intro d
  induction d with
  | zero =>
    intro i io hi
    rw [pick_Take_s3.l0_eq, if_neg (by omega)]
    refine ⟨_, rfl, rfl, ?_⟩
    rw [roadlaw3_PickTells.l1_eq, if_neg (by omega)]
    show (Option.bind (roadref3_SameBox (T_box_Box.mk b.Letters (b.Letters.length : Int)) (T_box_Box.mk b.Letters (b.Letters.length : Int))) _) = _
    rw [same_box (b := T_box_Box.mk b.Letters (b.Letters.length : Int)) (by show b.Letters.length ≤ _; omega) hb, Option.bind_some, if_pos rfl]
    show (Option.bind (roadref3_SameLetter zl zl) _) = _
    rw [same_letter zl_Q, Option.bind_some, if_pos rfl]
    rfl
  | succ d ih =>
    intro i io hi
    have hlt : i < b.Letters.length := by omega
    have hx := hb _ (List.getElem_mem hlt)
    obtain ⟨m, m1, m2, m3⟩ := mess hx
    obtain ⟨r, r1, r2⟩ := first_val hl hp m3
    have hc : pick_Choose_1 m l io = some (decide (r ≥ 0), r) := by unfold pick_Choose_1; rw [r1, Option.bind_some]
    rw [pick_Take_s3.l0_eq, if_pos (by omega), gi_at hlt, Option.bind_some, m1, Option.bind_some, hc, Option.bind_some]
    by_cases e : r ≥ 0
    · have hdel : slices_Delete_116 b.Letters (i : Int) ((i + 1 : Nat) : Int) = some (b.Letters.take i ++ b.Letters.drop (i + 1)) := by
        unfold slices_Delete_116
        rw [if_pos ⟨by omega, by omega, by omega⟩]
        rfl
      have hsub : ∀ x ∈ b.Letters.take i ++ b.Letters.drop (i + 1), T_api_Letter.Q x := fun x hx => by
        rcases List.mem_append.1 hx with hx | hx
        · exact hb x (List.mem_of_mem_take hx)
        · exact hb x (List.mem_of_mem_drop hx)
      have hfl : ([b.Letters.take i, b.Letters.drop (i + 1)] : List (List Le)).flatten = b.Letters.take i ++ b.Letters.drop (i + 1) := by simp
      have hlen : (b.Letters.take i ++ b.Letters.drop (i + 1)).length ≤ 60 := by rw [List.length_append, List.length_take, List.length_drop]; omega
      rw [if_pos (decide_eq_true e), w_succ (by omega), hdel, Option.bind_some]
      refine ⟨_, rfl, rfl, ?_⟩
      rw [roadlaw3_PickTells.l1_eq, if_pos (by omega), gi_at hlt, Option.bind_some, m2, Option.bind_some, r2, Option.bind_some, if_pos e, sls_take rfl (by omega), Option.bind_some, w_succ (by omega), sls_drop rfl (by omega), Option.bind_some, slices_Concat_39.val _ (by simp) (by rw [hfl]; omega), Option.bind_some, hfl]
      show (Option.bind (roadref3_SameBox (T_box_Box.mk (b.Letters.take i ++ b.Letters.drop (i + 1)) 0) (T_box_Box.mk (b.Letters.take i ++ b.Letters.drop (i + 1)) 0)) _) = _
      rw [same_box (b := T_box_Box.mk (b.Letters.take i ++ b.Letters.drop (i + 1)) 0) (Nat.le_trans hlen (by decide)) hsub, Option.bind_some, if_pos rfl, Option.bind_some]
      show (Option.bind (roadref3_SameLetter b.Letters[i] b.Letters[i]) _) = _
      rw [same_letter hx, Option.bind_some, if_pos rfl]
      show (if r = r then _ else _) = _
      rw [if_pos rfl]
      rfl
    · obtain ⟨R, k1, k2, k3⟩ := ih (i + 1) r (by omega)
      rw [if_neg (by simpa using e), w_succ (by omega)]
      refine ⟨R, k1, k2, ?_⟩
      rw [roadlaw3_PickTells.l1_eq, if_pos (by omega), gi_at hlt, Option.bind_some, m2, Option.bind_some, r2, Option.bind_some, if_neg e, w_succ (by omega)]
      exact k3
theorem law_l0 {b : Bo} (hb : T_box_Box.Q b) {v : Va} (hv : T_api_Value.Q v) : ∀ (d i : Nat), i + d = l.length → roadlaw3_PickTells.l0 l b v l (l.length : Int) (i : Int) = some true := by
  have hbl : b.Letters.length ≤ 4611686018427387904 := by have := hb.1.1; omega
  intro d
  induction d with
  | zero =>
    intro i hi
    obtain ⟨r, r1, r2⟩ := first_val hl hp hv
    have c1 := check_val b hbl
    have c2 := fault_val b hbl
    rw [roadlaw3_PickTells.l0_eq, if_neg (by omega), r1, Option.bind_some, r2, Option.bind_some, if_pos rfl, c2]
    by_cases c : code b = 0
    · have h60 := code_zero c
      have hat : 0 ≤ b.At ∧ b.At ≤ b.Letters.length := by
        unfold code at c
        rw [if_neg (by omega)] at c
        by_cases g : 0 ≤ b.At ∧ b.At ≤ b.Letters.length
        · exact g
        · rw [if_neg g] at c; cases c
      obtain ⟨k, hk⟩ := Int.eq_ofNat_of_zero_le hat.1
      obtain ⟨R, k1, k2, k3⟩ := take_loop hl hp hb.1.2 h60 (b.Letters.length - k) k (-1) (by omega)
      have ht : pick_Take_s3 b l (-1) = some R := by
        unfold pick_Take_s3
        rw [c1, Option.bind_some, if_pos c, slices_Clone_114.val _ (by omega), Option.bind_some, hk]
        exact k1
      have hch : pick_Choose b l = some (R.1, R.2.1, (if R.2.2.1 = true then R.2.2.2.2 else -1), 0) := by
        unfold pick_Choose
        rw [ht, Option.bind_some]
        unfold pick_Choose.j0 pick_Choose.j1
        by_cases g : R.2.2.1 = true
        · rw [if_pos g, if_pos k2, if_pos g, k2]
        · rw [if_neg g, if_pos k2, if_neg g, k2]
      rw [hch, Option.bind_some, Option.bind_some, if_pos c, hk]
      exact k3
    · have ht : pick_Take_s3 b l (-1) = some (none', zl, false, code b, -1) := by
        unfold pick_Take_s3
        rw [c1, Option.bind_some, if_neg c]
        rfl
      have hch : pick_Choose b l = some (none', zl, 0, code b) := by
        unfold pick_Choose
        rw [ht, Option.bind_some, if_neg Bool.false_ne_true]
        unfold pick_Choose.j0 pick_Choose.j1
        rw [if_neg c]
      rw [hch, Option.bind_some, Option.bind_some, if_neg c]
      show (Option.bind (roadref3_SameBox none' none') _) = _
      rw [same_none, Option.bind_some, if_pos rfl]
      show (Option.bind (roadref3_SameLetter zl zl) _) = _
      rw [same_letter zl_Q, Option.bind_some, if_pos rfl]
      show (if (0 : Int) = 0 then some (code b == code b) else _) = _
      rw [if_pos rfl, beq_self_eq_true]
  | succ d ih =>
    intro i hi
    have hlt : i < l.length := by omega
    have hbk := hp _ (List.getElem_mem hlt)
    obtain ⟨ok, outs, acc', f1, f2, f3, f4⟩ := fit_val _ l[i] v [] (Nat.le_refl _) hv (by simp; omega)
    have hsame := same_values (l := outs) (by omega) f3.2.2
    rw [roadlaw3_PickTells.l0_eq, if_pos (by omega), gi_at hlt, Option.bind_some, f1, Option.bind_some, f2, Option.bind_some]
    cases ok with
    | true =>
      have := f3.1 rfl
      rw [List.nil_append] at this
      rw [if_pos rfl, roadlaw3_PickTells.j1_eq, if_pos (by rfl), this, hsame, Option.bind_some, if_pos rfl, w_succ (by omega)]
      exact ih (i + 1) (by omega)
    | false =>
      have := f3.2.1 rfl
      subst this
      rw [if_neg Bool.false_ne_true, roadlaw3_PickTells.j1_eq, if_pos (by rfl), hsame, Option.bind_some, if_pos rfl, w_succ (by omega)]
      exact ih (i + 1) (by omega)
end
theorem flat_val {v : Va} (hv : T_api_Value.Q v) : ∃ b, roadlaw3_flat v = some b := by
  unfold roadlaw3_flat
  obtain ⟨r, hr⟩ := deep_val _ v (Nat.le_refl _) hv
  rw [hr, Option.bind_some]
  split <;> exact ⟨_, rfl⟩
theorem PickTells (b : Bo) (l : List Pa) (v : Va) (hb : T_box_Box.Q b) (hl : l.length * 56 ≤ 140737488351232 ∧ ∀ z ∈ l, T_api_Pat.Q z) (hv : T_api_Value.Q v) (hbk : b.bulk + ((l.map T_api_Pat.bulk).sum + 1) + v.bulk ≤ 1048576) : roadlaw3_PickTells b l v = some true := by
  have hp : ∀ p ∈ l, p.bulk ≤ 1048576 := fun p hp => by
    have : p.bulk ≤ (l.map T_api_Pat.bulk).sum := mem_le hp
    omega
  unfold roadlaw3_PickTells
  obtain ⟨f, hf⟩ := flat_val hv
  rw [hf, Option.bind_some]
  cases f with
  | false => rfl
  | true =>
    rw [if_pos rfl]
    by_cases c : ((l.length : Nat) : Int) > 30
    · rw [if_pos c]
    · have h1 : ∀ p ∈ l, roadlaw3_PickTells_1 p = some ((roadlaw3_PickTells_1 p).getD true) := fun p hpl => by
        obtain ⟨q, hq⟩ := pattern_val _ p (Nat.le_refl _) (hp p hpl) 60
        unfold roadlaw3_PickTells_1
        rw [hq, Option.bind_some]; rfl
      have h2 : ∀ x ∈ b.Letters, roadlaw3_PickTells_2 x = some ((roadlaw3_PickTells_2 x).getD true) := fun x hx => by
        obtain ⟨q, hq⟩ := flat_val (hb.1.2 x hx).2.2.2.2.2
        unfold roadlaw3_PickTells_2
        rw [hq, Option.bind_some]; rfl
      rw [if_neg c, slices_ContainsFunc_24.val (p := fun z22 => roadlaw3_PickTells_1 z22) _ h1 (by omega), Option.bind_some]
      split
      · rfl
      · rw [slices_ContainsFunc_27.val (p := fun z42 => roadlaw3_PickTells_2 z42) _ h2 (by have := hb.1.1; omega), Option.bind_some]
        split
        · rfl
        · unfold roadlaw3_PickTells.j0
          exact law_l0 (by omega) hp hb hv l.length 0 (by omega)
end Go.Proofs.Ythnlhffpmlgmfaa.Fw

end
section
namespace Go.Proofs.Ythnlhffpmlgmfaa.pickTells
open Go Go.Hw Go.ChangeShapes Go.WideShapes Go.ChangeAt Go.RowKit Go.Proofs.Ythnlhffpmlgmfaa.Fw
open Go.ChangeMaps (open_string shut_string)
set_option linter.unusedVariables false
theorem own : ownKnob Try.prog.godebug = none := by kernel_rfl
theorem laidOut : laidOutB Try.prog = true := by kernel_rfl
theorem bulkAll {H : Type} : ∀ l : List (DataW H), Rows.uptoBulkAll l = (l.map Rows.uptoBulk).sum
  | [] => rfl
  | d :: r => by rw [Rows.uptoBulkAll, List.map_cons, List.sum_cons, bulkAll r]
theorem measure {H : Type} : Measure (Rows.uptoBulk (H := H)) where
  pos d := by
    cases d with
    | lit l => cases l <;> simp [Rows.uptoBulk]
    | _ => simp [Rows.uptoBulk]
  str b := by simp [Rows.uptoBulk]
  slice e s := by rw [Rows.uptoBulk, bulkAll]; omega
  agg ps := by rw [Rows.uptoBulk, bulkAll]; omega
set_option maxRecDepth 100000 in
theorem lifted (os : Os) (started : os.Started) (H : Type) (enc : TypeId × Value → H) :
    ReturnsInHanded {} Try.checked os 5 .any ((Rows.OpenSpec.upto Rows.pickTellsSpec).pre6 enc Try.prog Try.f5 Rows.pickTellsUptoRow.domain false) (Rows.pickTellsSpec.post enc Try.prog Try.f5 false true false false) := by
  refine returnsInHanded_of_cond_sized (s := Rows.OpenSpec.upto Rows.pickTellsSpec) (k := Rows.uptoSmall) (F := fun _ _ _ => 0) rfl (C := Try.checked) own started (by kernel_rfl) Try.func5
    (OpenSpec.witness (s := Rows.OpenSpec.upto Rows.pickTellsSpec) (k := Rows.uptoSmall) rfl (enc := enc) (C := Try.checked) false ⟨#[], #[(.agg #[(.slice none 0 0), (.int .i64 (0 : Int))]), (.slice none 0 0), (.agg #[(.int .i64 (0 : Int)), (.int .i64 (0 : Int)), (.string (ByteArray.mk #[])), (.slice none 0 0)])], []⟩ 8 (by kernel_rfl) (by kernel_rfl) (by kernel_rfl) (x := ([DataW.agg [DataW.nil, DataW.lit (.int .i64 0)], DataW.nil, DataW.agg [DataW.lit (.int .i64 0), DataW.lit (.int .i64 0), DataW.lit (.string []), DataW.nil]], [], [])) (by kernel_rfl) (by kernel_rfl) (by kernel_rfl)) ?_
  intro W base args ds gs before hval0 hW hcnd hkk hsz0 _
  have hsz : (DataW.weightsEach Try.prog (Try.f5.params.toList ++ (Rows.OpenSpec.upto Rows.pickTellsSpec).bare.plain.varTypes Try.prog) (ds ++ gs)).all (· ≤ reachBytes) = true := hsz0
  have hval : ∀ (j : Nat) t v, Try.f5.params[j]? = some t → args[j]? = some v → Value.okWide Try.prog W .any base t v := hval0
  have hW' := hW
  obtain ⟨p, q, hA0, hV, rfl, hfz, hnd⟩ := hW
  have hA : DataW.TrodAll enc Try.prog W 0 (fun _ => true) true Try.f5.params.toList args.toList ds p := hA0
  rw [Try.params5] at hA hval hsz
  obtain ⟨v0, vs0, d0, ds0, p0, q0_, hargs, rfl, rfl, h0, r0_⟩ := trodAll_cons hA
  obtain ⟨v1, vs1, d1, ds1, p1, q1_, rfl, rfl, rfl, h1, r1_⟩ := trodAll_cons r0_
  obtain ⟨v2, vs2, d2, ds2, p2, q2_, rfl, rfl, rfl, h2, r2_⟩ := trodAll_cons r1_
  obtain ⟨rfl, rfl, rfl⟩ := trodAll_nil r2_
  obtain rfl : args = #[v0, v1, v2] := by cases args; simp_all
  obtain ⟨rfl, rfl⟩ := trodVars_none hV
  have hs : (DataW.weightsEach Try.prog [46, 47, 50] [d0, d1, d2]).all (· ≤ reachBytes) = true := hsz
  simp only [DataW.weightsEach, List.append_nil, List.all_append, Bool.and_eq_true] at hs
  obtain ⟨hw0, hw1, hw2⟩ := hs
  have k0 := h0
  have lt0 : ∀ x ∈ p0, x.block < W.heap.size := by obtain ⟨m, hm⟩ := k0; exact DataW.trod_lt m _ _ _ hm
  obtain ⟨cs0, rfl⟩ : ∃ cs : List Value, v0 = .agg cs.toArray := okWide_agg_of (show shapeOf Try.prog 46 = some [(44, 0), (3, 1)] by kernel_rfl) (hval 0 46 v0 rfl rfl)
  obtain ⟨fuel0, hf0⟩ := h0
  obtain ⟨x0, e0, q0⟩ := T_box_Box.tells fuel0 _ _ hf0 hw0
  have b0 := (T_box_Box.kt (N := fuel0 + 1) (enc := enc) (W := W) measure) fuel0 (Nat.lt_succ_self _) _ _ hf0 _ e0
  have e0 : T_box_Box.E W.heap x0 cs0 := by simpa [Value.cells] using e0
  have k1 := h1
  have lt1 : ∀ x ∈ p1, x.block < W.heap.size := by obtain ⟨m, hm⟩ := k1; exact DataW.trod_lt m _ _ _ hm
  obtain ⟨A1, n1, c1, rfl⟩ := okWide_slice (show Try.prog.underlying 47 = some (.slice 54) by kernel_rfl) (hval 1 47 v1 rfl rfl)
  obtain ⟨fuel1, hf1⟩ := h1
  obtain ⟨l1, E1, q1⟩ := (tells_sliceL (t := 47) (e := 54) (sz := 4) (B := 56) (by kernel_rfl) (by kernel_rfl) (by kernel_rfl) T_api_Pat.tells) fuel1 _ _ hf1 hw1
  have b1 := (let M := measure (H := H); (kt_slice M (t := 47) (e := 54) (sz := 4) (by kernel_rfl) (by kernel_rfl) (T_api_Pat.kt M)) : KT (fuel1 + 1) Rows.uptoBulk enc Try.prog W 47 (eRow 4 T_api_Pat.E) (fun l : (List T_api_Pat) => (List.map T_api_Pat.bulk l).sum + 1)) fuel1 (Nat.lt_succ_self _) _ _ hf1 _ E1
  obtain ⟨A1', c1', hcs1, hle1, r1⟩ := E1
  simp only [Value.cells, List.cons.injEq, Value.slice.injEq, and_true] at hcs1
  obtain ⟨rfl, rfl, rfl⟩ := hcs1
  have k2 := h2
  have lt2 : ∀ x ∈ p2, x.block < W.heap.size := by obtain ⟨m, hm⟩ := k2; exact DataW.trod_lt m _ _ _ hm
  obtain ⟨cs2, rfl⟩ : ∃ cs : List Value, v2 = .agg cs.toArray := okWide_agg_of (show shapeOf Try.prog 50 = some [(3, 0), (3, 1), (9, 2), (48, 3)] by kernel_rfl) (hval 2 50 v2 rfl rfl)
  obtain ⟨fuel2, hf2⟩ := h2
  obtain ⟨x2, e2, q2⟩ := T_api_Value.tells fuel2 _ _ hf2 hw2
  have b2 := (T_api_Value.kt (N := fuel2 + 1) (enc := enc) (W := W) measure) fuel2 (Nat.lt_succ_self _) _ _ hf2 _ e2
  have e2 : T_api_Value.E W.heap x2 cs2 := by simpa [Value.cells] using e2
  have hb : (T_box_Box.bulk x0) + ((fun l => (List.map T_api_Pat.bulk l).sum + 1) l1) + (T_api_Value.bulk x2) ≤ 1048576 := by
    have hk : Rows.uptoBulkAll ([d0, d1, d2] ++ []) ≤ 1048576 := of_decide_eq_true hkk
    have := b0
    have := b1
    have := b2
    simp only [List.append_nil, Rows.uptoBulkAll] at hk
    simp only at *
    omega
  refine ((Run.mono (R' := fun v h' => v = Value.bool true ∧ Ext W.heap h') (Fw.roadlaw3_PickTells.walk (W := No) (Hold.start (Sub.refl _)) e0 rfl hle1 r1 e2 (Fw.PickTells x0 l1 x2 q0 q1 q2 hb)) (fun v h' hp => by obtain ⟨m', st, hv⟩ := hp; exact ⟨hv, st.S.ext⟩)) W rfl).mono fun e W' he => ?_
  obtain ⟨v, rfl, ⟨rfl, ext⟩, same⟩ := he
  have bel := below_of ext same
  exact ⟨_, rfl, _, _, _, [], _, [], hW', trodAll_mk1 (shut_bool (show Try.prog.underlying 4 = some .bool by kernel_rfl) _), (trodAll_cons_mk (Below.trod laidOut (by kernel_rfl) (of_decide_eq_true (by kernel_rfl)) k0 bel lt0) (trodAll_cons_mk (Below.trod laidOut (by kernel_rfl) (of_decide_eq_true (by kernel_rfl)) k1 bel lt1) (trodAll_cons_mk (Below.trod laidOut (by kernel_rfl) (of_decide_eq_true (by kernel_rfl)) k2 bel lt2) trodAll_mk0))), rfl, bel.frame _, fun h => by cases h⟩
theorem over : Rows.pickTellsUptoRow.holds Try.pinned (Rows.OpenSpec.upto Rows.pickTellsSpec) :=
  OpenClaim.holds_of_cond 5 Try.f5 rfl rfl rfl rfl rfl rfl rfl ⟨rfl, rfl, rfl, rfl, rfl⟩ rfl rfl rfl rfl rfl (by kernel_rfl) Try.func5 (by kernel_rfl)
    (of_decide_eq_true (by kernel_rfl)) (by unfold Func.isWrapper; first | (rw [if_pos (by decide +kernel)]; kernel_rfl) | (rw [if_neg (by decide +kernel)]; exact ⟨rfl, rfl⟩))
    (fun os started H enc _ F => lifted os started H enc)
end Go.Proofs.Ythnlhffpmlgmfaa.pickTells
namespace Go.Proofs.Ythnlhffpmlgmfaa
theorem pickTells_holds : Rows.PickTellsUptoSaid := pickTells.over
end Go.Proofs.Ythnlhffpmlgmfaa

end
