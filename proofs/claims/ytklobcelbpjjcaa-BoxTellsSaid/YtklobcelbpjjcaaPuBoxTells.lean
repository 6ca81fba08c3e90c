/- Boxes of letters: the law BoxTells over numbers, texts and trees alone (no memory, no Go). -/
import Derived.Test.YtklobcelbpjjcaaLfBoxTells
namespace Go.Proofs.Ytklobcelbpjjcaa.Fw
open Go Go.Hw Go.Proofs
set_option linter.unusedVariables false
abbrev Va := T_api_Value
abbrev Le := T_api_Letter
abbrev Bo := T_box_Box

theorem deep_val : ∀ (n : Nat) (v : Va), SizeOf.sizeOf v ≤ n → T_api_Value.Q v → ∃ r, roadref3_Deep v = some r := by
  intro n
  induction n with
  | zero => intro v hv; cases v; simp at hv
  | succ n ih =>
    intro v hv hQ
    obtain ⟨_, _, _, hQl, hQa⟩ := T_api_Value.Q_iff.1 hQ
    rw [roadref3_Deep_eq]
    have loop : ∀ (d i : Nat) (x y : Int), i + d = v.Args.length → ∃ r, roadref3_Deep.l0 x y v.Args (v.Args.length : Int) (i : Int) = some r := by
      intro d
      induction d with
      | zero => intro i x y hi; rw [roadref3_Deep.l0_eq, if_neg (by omega)]; exact ⟨_, rfl⟩
      | succ d ih2 =>
        intro i x y hi
        have hlt : i < v.Args.length := by omega
        have hm := List.getElem_mem hlt
        have hsz : SizeOf.sizeOf v.Args[i] ≤ n := by
          have h1 := List.sizeOf_lt_of_mem hm
          have h2 : SizeOf.sizeOf v = 1 + SizeOf.sizeOf v.Kind + SizeOf.sizeOf v.Num + SizeOf.sizeOf v.Text + SizeOf.sizeOf v.Args := by cases v; simp
          omega
        obtain ⟨r, hr⟩ := ih _ hsz (hQa _ hm)
        rw [roadref3_Deep.l0_eq, if_pos (by omega), gi_at hlt, Option.bind_some, hr, Option.bind_some, w_succ (by omega)]
        exact ih2 (i + 1) _ _ (by omega)
    exact loop _ 0 _ _ (Nat.zero_add _)
theorem same_val : ∀ (n : Nat) (v : Va), SizeOf.sizeOf v ≤ n → T_api_Value.Q v → roadref3_SameValue v v = some true := by
  intro n
  induction n with
  | zero => intro v hv; cases v; simp at hv
  | succ n ih =>
    intro v hv hQ
    obtain ⟨_, _, _, hQl, hQa⟩ := T_api_Value.Q_iff.1 hQ
    rw [roadref3_SameValue_eq, if_pos rfl, if_pos rfl, if_pos rfl, if_pos rfl, roadref3_SameValue.j0_eq]
    have loop : ∀ (d i : Nat), i + d = v.Args.length → roadref3_SameValue.l0 v v (v.Args.length : Int) (i : Int) = some true := by
      intro d
      induction d with
      | zero => intro i hi; rw [roadref3_SameValue.l0_eq, if_neg (by omega)]
      | succ d ih2 =>
        intro i hi
        have hlt : i < v.Args.length := by omega
        have hm := List.getElem_mem hlt
        have hsz : SizeOf.sizeOf v.Args[i] ≤ n := by
          have h1 := List.sizeOf_lt_of_mem hm
          have h2 : SizeOf.sizeOf v = 1 + SizeOf.sizeOf v.Kind + SizeOf.sizeOf v.Num + SizeOf.sizeOf v.Text + SizeOf.sizeOf v.Args := by cases v; simp
          omega
        rw [roadref3_SameValue.l0_eq, if_pos (by omega), gi_at hlt, Option.bind_some, Option.bind_some, ih _ hsz (hQa _ hm), Option.bind_some, if_pos rfl, w_succ (by omega)]
        exact ih2 (i + 1) (by omega)
    exact loop _ 0 (Nat.zero_add _)
theorem own_val : ∀ (n : Nat) (v : Va), SizeOf.sizeOf v ≤ n → T_api_Value.Q v → box_Own v = some v := by
  intro n
  induction n with
  | zero => intro v hv; cases v; simp at hv
  | succ n ih =>
    intro v hv hQ
    obtain ⟨_, _, _, hQl, hQa⟩ := T_api_Value.Q_iff.1 hQ
    rw [box_Own_eq, slices_Clone_81.val _ (by omega), Option.bind_some]
    have loop : ∀ (d i : Nat) (w : Va), i + d = v.Args.length → box_Own.l0 v.Kind v.Num v.Text v.Args w (v.Args.length : Int) (i : Int) = some v := by
      intro d
      induction d with
      | zero => intro i w hi; rw [box_Own.l0_eq, if_neg (show ¬ ((i : Int) < (v.Args.length : Int)) by omega)]; cases v; rfl
      | succ d ih2 =>
        intro i w hi
        have hlt : i < v.Args.length := by omega
        have hm := List.getElem_mem hlt
        have hsz : SizeOf.sizeOf v.Args[i] ≤ n := by
          have h1 := List.sizeOf_lt_of_mem hm
          have h2 : SizeOf.sizeOf v = 1 + SizeOf.sizeOf v.Kind + SizeOf.sizeOf v.Num + SizeOf.sizeOf v.Text + SizeOf.sizeOf v.Args := by cases v; simp
          omega
        rw [box_Own.l0_eq, if_pos (by omega), gi_at hlt, Option.bind_some, ih _ hsz (hQa _ hm), Option.bind_some, Option.bind_some, Option.bind_some, w_succ (by omega)]
        rw [show Int.toNat (i : Int) = i from rfl, List.set_getElem_self]
        exact ih2 (i + 1) w (by omega)
    exact loop _ 0 _ (Nat.zero_add _)
theorem same_v {v : Va} (h : T_api_Value.Q v) : roadref3_SameValue v v = some true := same_val _ v (Nat.le_refl _) h
theorem own_v {v : Va} (h : T_api_Value.Q v) : box_Own v = some v := own_val _ v (Nat.le_refl _) h
theorem same_letter {x : Le} (h : T_api_Letter.Q x) : roadref3_SameLetter x x = some true := by
  unfold roadref3_SameLetter
  rw [if_pos rfl, if_pos rfl, if_pos rfl, if_pos rfl, if_pos rfl, same_v h.2.2.2.2.2, Option.bind_some]
theorem same_letters {l : List Le} (hl : l.length ≤ 4611686018427387904) (h : ∀ x ∈ l, T_api_Letter.Q x) : roadref3_SameLetters l l = some true := by
  unfold roadref3_SameLetters
  rw [if_pos rfl]
  have loop : ∀ (d i : Nat), i + d = l.length → roadref3_SameLetters.l0 l l (l.length : Int) (i : Int) = some true := by
    intro d
    induction d with
    | zero => intro i hi; rw [roadref3_SameLetters.l0_eq, if_neg (by omega)]
    | succ d ih =>
      intro i hi
      have hlt : i < l.length := by omega
      rw [roadref3_SameLetters.l0_eq, if_pos (by omega), gi_at hlt, Option.bind_some, Option.bind_some, same_letter (h _ (List.getElem_mem hlt)), Option.bind_some, if_pos rfl, w_succ (by omega)]
      exact ih (i + 1) (by omega)
  exact loop _ 0 (Nat.zero_add _)
theorem same_box {b : Bo} (hl : b.Letters.length ≤ 4611686018427387904) (h : ∀ x ∈ b.Letters, T_api_Letter.Q x) : roadref3_SameBox b b = some true := by
  unfold roadref3_SameBox
  rw [if_pos rfl, same_letters hl h, Option.bind_some]
theorem in_val (x a b : Int) : roadref3_In x a b = some (decide (a ≤ x ∧ x ≤ b)) := by
  unfold roadref3_In
  by_cases h : x ≥ a
  · rw [if_pos h]; congr 1; by_cases h2 : x ≤ b <;> simp [h2] <;> omega
  · rw [if_neg h]; congr 1; symm; rw [decide_eq_false_iff_not]; omega

/-! ### Checks -/
def okK (x : Le) : Bool := decide (x.Kind = 1) || decide (x.Kind = 2)
def code (b : Bo) : Int := if b.Letters.length > 60 then 2 else if 0 ≤ b.At ∧ b.At ≤ b.Letters.length then (if b.Letters.all okK then 0 else 3) else 1
theorem step_ok {l : List Le} {i : Nat} (hlt : i < l.length) (h : ∀ x ∈ l.take i, okK x = true) (hk : okK l[i] = true) : ∀ x ∈ l.take (i + 1), okK x = true := by
  intro x hx
  rw [List.take_succ_eq_append_getElem hlt] at hx
  rcases List.mem_append.1 hx with hx | hx
  · exact h x hx
  · simp at hx; subst hx; exact hk
theorem all_not {l : List Le} {i : Nat} (hlt : i < l.length) (h1 : l[i].Kind ≠ 1) (h2 : l[i].Kind ≠ 2) : ¬ l.all okK = true := by
  rw [List.all_eq_true]
  intro hh
  have := hh _ (List.getElem_mem hlt)
  simp [okK, h1, h2] at this
theorem check_loop {l : List Le} (hl : l.length ≤ 4611686018427387904) : ∀ (d i : Nat), i + d = l.length → (∀ x ∈ l.take i, okK x = true) →
    box_Check.l0 l (l.length : Int) (i : Int) = some (if l.all okK = true then 0 else 3) := by
  intro d
  induction d with
  | zero =>
    intro i hi h
    rw [box_Check.l0_eq, if_neg (show ¬ ((i : Int) < (l.length : Int)) by omega)]
    rw [List.take_of_length_le (by omega)] at h
    rw [if_pos (List.all_eq_true.2 h)]
  | succ d ih =>
    intro i hi h
    have hlt : i < l.length := by omega
    rw [box_Check.l0_eq, if_pos (show ((i : Int) < (l.length : Int)) by omega), gi_at hlt, Option.bind_some]
    by_cases h1 : l[i].Kind = 1
    · rw [if_pos h1, w_succ (by omega)]
      exact ih (i + 1) (by omega) (step_ok hlt h (by simp [okK, h1]))
    · rw [if_neg h1]
      by_cases h2 : l[i].Kind = 2
      · rw [if_pos h2, w_succ (by omega)]
        exact ih (i + 1) (by omega) (step_ok hlt h (by simp [okK, h2]))
      · rw [if_neg h2, if_neg (all_not hlt h1 h2)]
theorem fault_loop {l : List Le} (hl : l.length ≤ 4611686018427387904) : ∀ (d i : Nat), i + d = l.length → (∀ x ∈ l.take i, okK x = true) →
    roadref3_BoxFault.l0 l (l.length : Int) (i : Int) = some (if l.all okK = true then 0 else 3) := by
  intro d
  induction d with
  | zero =>
    intro i hi h
    rw [roadref3_BoxFault.l0_eq, if_neg (show ¬ ((i : Int) < (l.length : Int)) by omega)]
    rw [List.take_of_length_le (by omega)] at h
    rw [if_pos (List.all_eq_true.2 h)]
  | succ d ih =>
    intro i hi h
    have hlt : i < l.length := by omega
    rw [roadref3_BoxFault.l0_eq, if_pos (show ((i : Int) < (l.length : Int)) by omega), gi_at hlt, Option.bind_some, in_val, Option.bind_some]
    by_cases h1 : 1 ≤ l[i].Kind ∧ l[i].Kind ≤ 2
    · rw [if_pos (decide_eq_true h1), w_succ (by omega)]
      refine ih (i + 1) (by omega) (step_ok hlt h ?_)
      have : l[i].Kind = 1 ∨ l[i].Kind = 2 := by omega
      rcases this with h2 | h2 <;> simp [okK, h2]
    · rw [if_neg (show ¬ decide (1 ≤ l[i].Kind ∧ l[i].Kind ≤ 2) = true by rw [decide_eq_true_eq]; exact h1), if_neg (all_not hlt (by omega) (by omega))]
theorem check_val (b : Bo) (hl : b.Letters.length ≤ 4611686018427387904) : box_Check b = some (code b) := by
  unfold box_Check code box_Check.j0
  by_cases h1 : b.Letters.length > 60
  · rw [if_pos (show ((b.Letters.length : Nat) : Int) > 60 by omega), if_pos h1]
  · rw [if_neg (show ¬ ((b.Letters.length : Nat) : Int) > 60 by omega), if_neg h1]
    by_cases h2 : 0 ≤ b.At ∧ b.At ≤ b.Letters.length
    · rw [if_neg (show ¬ b.At < 0 by omega), if_neg (show ¬ b.At > ((b.Letters.length : Nat) : Int) by omega), if_pos h2]
      exact check_loop hl b.Letters.length 0 (by omega) (by simp)
    · rw [if_neg h2]
      by_cases h3 : b.At < 0
      · rw [if_pos h3]
      · rw [if_neg h3, if_pos (show b.At > ((b.Letters.length : Nat) : Int) by omega)]
theorem fault_val (b : Bo) (hl : b.Letters.length ≤ 4611686018427387904) : roadref3_BoxFault b = some (code b) := by
  unfold roadref3_BoxFault code
  by_cases h1 : b.Letters.length > 60
  · rw [if_pos (show ((b.Letters.length : Nat) : Int) > 60 by omega), if_pos h1]
  · rw [if_neg (show ¬ ((b.Letters.length : Nat) : Int) > 60 by omega), if_neg h1, in_val, Option.bind_some]
    by_cases h2 : 0 ≤ b.At ∧ b.At ≤ b.Letters.length
    · rw [if_pos (decide_eq_true h2), if_pos h2]
      exact fault_loop hl b.Letters.length 0 (by omega) (by simp)
    · rw [if_neg (show ¬ decide (0 ≤ b.At ∧ b.At ≤ (b.Letters.length : Int)) = true by rw [decide_eq_true_eq]; exact h2), if_neg h2]
theorem code_zero {b : Bo} (h : code b = 0) : b.Letters.length ≤ 60 := by
  unfold code at h
  by_cases h1 : b.Letters.length > 60
  · rw [if_pos h1] at h; cases h
  · omega

/-! ### The law -/
def none' : Bo := T_box_Box.mk ([] : List Le) 0
theorem same_none : roadref3_SameBox none' none' = some true := same_box (by simp [none']) (by simp [none'])
theorem from_loop {l : List Le} (who : Int) (hl : l.length ≤ 60) (x2 : Int) (y3 : Bo) (y4 : Le) (y7 : Bo) (x8 : Int) (y9 : Bo) (x10 : Int) (a11 : List Le) (x12 x13 : Int) (K : List Le → Option Bool)
    (hK : ∀ a, K a = (Option.bind (roadref3_SameBox y9 (T_box_Box.mk y3.Letters (0 : Int))) fun y36 => if y36 = true then (if x10 = (0 : Int) then (Option.bind (roadref3_SameLetters a11 a) fun y43 => if y43 = true then (if x12 = (0 : Int) then (roadlaw3_BoxTells.j1 y3 y4 y7 x8 x13) else (some (false))) else (some (false))) else (some (false))) else (some (false)))) :
    ∀ (d i : Nat) (a : List Le), i + d = l.length → a.length ≤ i → roadlaw3_BoxTells.l0 who y3 y4 y7 x8 y9 x10 a11 x12 x13 a l (l.length : Int) (i : Int) = K (a ++ (l.drop i).filter fun x => decide (x.From = who)) := by
  intro d
  induction d with
  | zero =>
    intro i a hi ha
    rw [roadlaw3_BoxTells.l0_eq, if_neg (by omega), List.drop_of_length_le (by omega), hK]
    simp
  | succ d ih =>
    intro i a hi ha
    have hlt : i < l.length := by omega
    rw [roadlaw3_BoxTells.l0_eq, if_pos (by omega), gi_at hlt, Option.bind_some, List.drop_eq_getElem_cons hlt]
    by_cases h : l[i].From = who
    · rw [if_pos h, ap_one (by omega), Option.bind_some, w_succ (by omega), ih (i + 1) _ (by omega) (by simp; omega), List.filter_cons_of_pos (by simpa using h)]
      simp
    · rw [if_neg h, w_succ (by omega), ih (i + 1) _ (by omega) (by omega), List.filter_cons_of_neg (by simpa using h)]
theorem BoxTells (b : Bo) (x : Le) (who : Int) (hb : T_box_Box.Q b) (hx : T_api_Letter.Q x) (hw : -9223372036854775808 ≤ who ∧ who ≤ 9223372036854775807) : roadlaw3_BoxTells b x who = some true := by
  obtain ⟨⟨hlen, hall⟩, _⟩ := hb
  have hl : b.Letters.length ≤ 4611686018427387904 := by omega
  have c1 := check_val b hl
  have c2 := fault_val b hl
  have hv := hx.2.2.2.2.2
  unfold roadlaw3_BoxTells roadlaw3_flat
  obtain ⟨r, hr⟩ := deep_val _ x.Value_ (Nat.le_refl _) hv
  rw [hr, Option.bind_some]
  have key : ∀ fl : Bool, (if fl = true then (Option.bind (box_Put b x) fun y16 => Option.bind (box_Again b) fun y32 => Option.bind (box_From b who) fun y48 => Option.bind (roadref3_BoxFault b) fun y61 => Option.bind (box_Check b) fun y68 => if y68 = y61 then (Option.bind (box_Says x) fun y75 => Option.bind (roadref3_Message x) fun y85 => Option.bind (roadref3_SameValue y75 y85) fun y95 => if y95 = true then (Option.bind (box_Own x.Value_) fun y102 => Option.bind (roadref3_SameValue y102 x.Value_) fun y112 => if y112 = true then (roadlaw3_BoxTells.j0 who b x y16.1 y16.2 y32.1 y32.2 y48.1 y48.2 y61) else (some (false))) else (some (false))) else (some (false))) else (some (true))) = some true := by
    intro fl
    cases fl with
    | false => rfl
    | true =>
      rw [if_pos rfl]
      have says : box_Says x = roadref3_Message x := by
        unfold box_Says roadref3_Message
        by_cases h : x.Kind = 2
        · rw [if_pos h, if_pos h]
        · rw [if_neg h, if_neg h, own_v hv, Option.bind_some]
      have mess : ∃ m, roadref3_Message x = some m ∧ T_api_Value.Q m := by
        unfold roadref3_Message
        by_cases h : x.Kind = 2
        · rw [if_pos h]
          refine ⟨_, rfl, ?_⟩
          have q0 : ∀ k n : Int, (-9223372036854775808 ≤ k ∧ k ≤ 9223372036854775807) → (-9223372036854775808 ≤ n ∧ n ≤ 9223372036854775807) → T_api_Value.Q (T_api_Value.mk k n (ByteArray.mk #[]) []) := fun k n h1 h2 => T_api_Value.Q_iff.2 ⟨h1, h2, (show (ByteArray.mk #[]).size ≤ 140737488351232 by decide), by simp, fun a ha => by cases ha⟩
          refine T_api_Value.Q_iff.2 ⟨by simp, by simp, (show (ByteArray.mk #[68, 111, 119, 110]).size ≤ 140737488351232 by decide), by simp, fun a ha => ?_⟩
          simp only [List.mem_cons, List.not_mem_nil, or_false] at ha
          rcases ha with rfl | rfl
          · exact q0 _ _ (by simp) hx.2.1
          · exact q0 _ _ (by simp) hx.2.2.2.1
        · rw [if_neg h]; exact ⟨_, rfl, hv⟩
      obtain ⟨ms, hm1, hm2⟩ := mess
      by_cases hc : code b = 0
      · have h60 := code_zero hc
        -- Put
        have put : box_Put b x = some (if (x.Kind = 1 ∨ x.Kind = 2) then (if b.Letters.length = 60 then (none', 6) else (T_box_Box.mk (b.Letters ++ [x]) b.At, 0)) else (none', 3)) := by
          unfold box_Put
          rw [c1, Option.bind_some, if_pos hc]
          unfold box_Put.j1 box_Put.j0
          have j : (if ((b.Letters.length : Nat) : Int) = 60 then (some ((T_box_Box.mk ([] : List Le) 0), (6 : Int))) else (Option.bind (slices_Clone_22 b.Letters) fun y6 => Option.bind (ap 104 y6 ([x] : List Le)) fun l23 => some ((T_box_Box.mk l23 b.At), (0 : Int)))) = some (if b.Letters.length = 60 then (none', (6 : Int)) else (T_box_Box.mk (b.Letters ++ [x]) b.At, 0)) := by
            by_cases h : b.Letters.length = 60
            · rw [if_pos (by omega), if_pos h]; rfl
            · rw [if_neg (by omega), if_neg h, slices_Clone_22.val _ (by omega), Option.bind_some, ap_one (by omega), Option.bind_some]
          by_cases k1 : x.Kind = 1
          · rw [if_pos k1, if_neg (show ¬ (false = true) by simp), if_pos (show x.Kind = 1 ∨ x.Kind = 2 from .inl k1)]; exact j
          · rw [if_neg k1]
            by_cases k2 : x.Kind = 2
            · rw [if_neg (show ¬ ((x.Kind != 2) = true) by simp [k2]), if_pos (show x.Kind = 1 ∨ x.Kind = 2 from .inr k2)]; exact j
            · rw [if_pos (show (x.Kind != 2) = true by simp [k2]), if_neg (show ¬ (x.Kind = 1 ∨ x.Kind = 2) by omega)]; rfl
        have again : box_Again b = some (T_box_Box.mk b.Letters 0, 0) := by
          unfold box_Again
          rw [c1, Option.bind_some, if_pos hc, slices_Clone_22.val _ (by omega), Option.bind_some]
        have fr : box_From b who = some (b.Letters.filter (fun x => decide (x.From = who)), 0) := by
          unfold box_From
          rw [c1, Option.bind_some, if_pos hc, slices_Clone_22.val _ (by omega), Option.bind_some]
          rw [slices_DeleteFunc_79.val (p := fun z => box_From_1 z who) (fun y => y.From != who) (fun _ _ => rfl) (by omega), Option.bind_some]
          congr 2
          apply List.filter_congr
          intro y _
          by_cases h : y.From = who <;> simp [h]
        rw [put, Option.bind_some, again, Option.bind_some, fr, Option.bind_some, c2, Option.bind_some, c1, Option.bind_some, if_pos rfl, says, hm1, Option.bind_some, Option.bind_some, same_v hm2, Option.bind_some, if_pos rfl, own_v hv, Option.bind_some, same_v hv, Option.bind_some, if_pos rfl]
        unfold roadlaw3_BoxTells.j0
        rw [if_pos hc]
        have := from_loop (l := b.Letters) who h60 who b x (if (x.Kind = 1 ∨ x.Kind = 2) then (if b.Letters.length = 60 then (none', (6 : Int)) else (T_box_Box.mk (b.Letters ++ [x]) b.At, 0)) else (none', 3)).1 (if (x.Kind = 1 ∨ x.Kind = 2) then (if b.Letters.length = 60 then (none', (6 : Int)) else (T_box_Box.mk (b.Letters ++ [x]) b.At, 0)) else (none', 3)).2 (T_box_Box.mk b.Letters 0) 0 (b.Letters.filter (fun x => decide (x.From = who))) 0 (code b) _ (fun a => rfl) b.Letters.length 0 [] (by omega) (by simp)
        refine this.trans ?_
        have hf : ∀ y ∈ b.Letters.filter (fun x => decide (x.From = who)), T_api_Letter.Q y := fun y hy => hall y (List.mem_filter.1 hy).1
        have hfl : (b.Letters.filter (fun x => decide (x.From = who))).length ≤ 4611686018427387904 := Nat.le_trans (List.length_filter_le _ _) hl
        show (Option.bind (roadref3_SameBox (T_box_Box.mk b.Letters 0) (T_box_Box.mk b.Letters 0)) _) = _
        rw [same_box (b := T_box_Box.mk b.Letters 0) hl hall, Option.bind_some, if_pos rfl, if_pos rfl, List.drop_zero, List.nil_append, same_letters hfl hf, Option.bind_some, if_pos rfl, if_pos rfl]
        unfold roadlaw3_BoxTells.j1 roadlaw3_BoxTells.j2
        rw [in_val, Option.bind_some, hc]
        by_cases hk : x.Kind = 1 ∨ x.Kind = 2
        · rw [if_pos (show decide (1 ≤ x.Kind ∧ x.Kind ≤ 2) = true by rw [decide_eq_true_eq]; omega), if_pos hk]
          by_cases h : b.Letters.length = 60
          · rw [if_pos (by omega), if_pos h, if_neg (by decide)]
            show (Option.bind (roadref3_SameBox none' none') _) = _
            rw [same_none, Option.bind_some, if_pos rfl]; rfl
          · rw [if_neg (by omega), if_neg h, if_pos rfl, slices_Clone_22.val _ (by omega), Option.bind_some, ap_one (by omega), Option.bind_some]
            rw [same_box (by simp; omega) (by
              intro y hy
              rcases List.mem_append.1 hy with hy | hy
              · exact hall y hy
              · simp at hy; subst hy; exact hx), Option.bind_some, if_pos rfl]; rfl
        · rw [if_neg (show ¬ decide (1 ≤ x.Kind ∧ x.Kind ≤ 2) = true by rw [decide_eq_true_eq]; omega), if_neg hk, if_neg (by decide)]
          show (Option.bind (roadref3_SameBox none' none') _) = _
          rw [same_none, Option.bind_some, if_pos rfl]; rfl
      · have put : box_Put b x = some (none', code b) := by
          unfold box_Put; rw [c1, Option.bind_some, if_neg hc]; rfl
        have again : box_Again b = some (none', code b) := by
          unfold box_Again; rw [c1, Option.bind_some, if_neg hc]; rfl
        have fr : box_From b who = some ([], code b) := by
          unfold box_From; rw [c1, Option.bind_some, if_neg hc]
        rw [put, Option.bind_some, again, Option.bind_some, fr, Option.bind_some, c2, Option.bind_some, c1, Option.bind_some, if_pos rfl, says, hm1, Option.bind_some, Option.bind_some, same_v hm2, Option.bind_some, if_pos rfl, own_v hv, Option.bind_some, same_v hv, Option.bind_some, if_pos rfl]
        unfold roadlaw3_BoxTells.j0
        rw [if_neg hc]
        show (Option.bind (roadref3_SameBox none' none') _) = _
        rw [same_none, Option.bind_some, if_pos rfl, if_pos rfl]
        show (Option.bind (roadref3_SameBox none' none') _) = _
        rw [same_none, Option.bind_some, if_pos rfl, if_pos rfl]
        simp
  by_cases h : r.1 ≤ 60
  · rw [if_pos h, Option.bind_some]; exact key _
  · rw [if_neg h, Option.bind_some]; exact key _
end Go.Proofs.Ytklobcelbpjjcaa.Fw
