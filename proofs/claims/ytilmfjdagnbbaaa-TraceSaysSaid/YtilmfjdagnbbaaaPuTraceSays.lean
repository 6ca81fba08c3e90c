/- Packing and unpacking histories: the law TraceSays over numbers and lists alone (no memory, no Go). -/
import Derived.Test.YtilmfjdagnbbaaaLfTraceSays
namespace Go.Proofs.Ytilmfjdagnbbaaa.Fw
open Go Go.Hw Go.Proofs
set_option linter.unusedVariables false
set_option linter.unusedSimpArgs false
abbrev Ev := T_api_Event

/-! ### Histories -/
def has (k : Int) (l : List Ev) (m : Int) : Bool := l.any fun x => x.Kind == k && x.Msg == m
def stepErr (pre : List Ev) (e : Ev) : Int :=
  if e.Kind < 1 ∨ e.Kind > 3 then 3
  else if e.Place < 0 ∨ e.Place > 7 ∨ (e.Kind ≠ 1 ∧ (e.Msg < 0 ∨ e.Msg > 999)) then 1
  else if e.Kind = 2 then (if has 2 pre e.Msg = true then 5 else 0)
  else if e.Kind = 3 then (if has 2 pre e.Msg = true then (if has 3 pre e.Msg = true then 5 else 0) else 4)
  else 0
def hist : List Ev → List Ev → Int
  | _, [] => 0
  | pre, e :: r => if stepErr pre e = 0 then hist (pre ++ [e]) r else stepErr pre e
theorem has_snoc (k : Int) (l : List Ev) (e : Ev) (m : Int) : has k (l ++ [e]) m = (has k l m || (e.Kind == k && e.Msg == m)) := by simp [has]
theorem hist_cons (pre : List Ev) (e : Ev) (r : List Ev) : hist pre (e :: r) = if stepErr pre e = 0 then hist (pre ++ [e]) r else stepErr pre e := rfl

theorem hist_bad {pre : List Ev} {e : Ev} {r : List Ev} {c : Int} (h : stepErr pre e = c) (hc : c ≠ 0) : hist pre (e :: r) = c := by rw [hist_cons, h, if_neg hc]
theorem hist_ok {pre : List Ev} {e : Ev} {r : List Ev} (h : stepErr pre e = 0) : hist pre (e :: r) = hist (pre ++ [e]) r := by rw [hist_cons, if_pos h]
theorem check_loop {l : List Ev} (hl : l.length ≤ 200) : ∀ (r pre : List Ev) (es3 es4 : List (Int × Bool)), (∀ m, pgd es3 m false = has 2 pre m) → (∀ m, pgd es4 m false = has 3 pre m) → l = pre ++ r →
    clock_Check.l0 es3 es4 l (l.length : Int) (pre.length : Int) = some (hist pre r) := by
  intro r
  induction r with
  | nil =>
    intro pre es3 es4 h3 h4 e
    rw [clock_Check.l0_eq, if_neg (by rw [e]; simp)]; rfl
  | cons e r ih =>
    intro pre es3 es4 h3 h4 he
    have hlen : l.length = pre.length + (r.length + 1) := by rw [he]; simp
    have hn : ∀ es3 es4, (∀ m, pgd es3 m false = has 2 (pre ++ [e]) m) → (∀ m, pgd es4 m false = has 3 (pre ++ [e]) m) → clock_Check.l0 es3 es4 l (l.length : Int) (IntKind.wrap .i64 ((pre.length : Int) + 1)) = some (hist (pre ++ [e]) r) := by
      intro a b ha hb
      rw [w_succ (by omega)]
      have := ih (pre ++ [e]) a b ha hb (by simpa using he)
      simpa using this
    rw [clock_Check.l0_eq, if_pos (by omega), gi_some (k := pre.length) rfl (by rw [he]; simp : l[pre.length]? = some e), Option.bind_some]
    by_cases k1 : e.Kind < 1
    · rw [if_pos k1, hist_bad (c := 3) (by rw [stepErr, if_pos (by omega)]) (by decide)]
    rw [if_neg k1]
    by_cases k3 : e.Kind > 3
    · rw [if_pos k3, hist_bad (c := 3) (by rw [stepErr, if_pos (by omega)]) (by decide)]
    rw [if_neg k3, clock_Check.j0_eq]
    by_cases p0 : e.Place < 0
    · rw [if_pos p0, hist_bad (c := 1) (by rw [stepErr, if_neg (by omega), if_pos (by omega)]) (by decide)]
    rw [if_neg p0]
    by_cases p8 : e.Place ≥ 8
    · rw [if_pos p8, hist_bad (c := 1) (by rw [stepErr, if_neg (by omega), if_pos (by omega)]) (by decide)]
    rw [if_neg p8]
    have fin : (e.Kind ≠ 1 → ¬ (e.Msg < 0 ∨ e.Msg > 999)) → clock_Check.j1 es3 es4 e l (l.length : Int) (pre.length : Int) = some (hist pre (e :: r)) := by
      intro hm
      have hm' : ¬ (e.Place < 0 ∨ e.Place > 7 ∨ (e.Kind ≠ 1 ∧ (e.Msg < 0 ∨ e.Msg > 999))) := by omega
      rw [clock_Check.j1_eq, h3, h4]
      by_cases k2 : e.Kind = 2
      · rw [if_pos k2]
        by_cases hs : has 2 pre e.Msg = true
        · rw [if_pos hs, hist_bad (c := 5) (by rw [stepErr, if_neg (by omega), if_neg hm', if_pos k2, if_pos hs]) (by decide)]
        · rw [if_neg hs, hist_ok (by rw [stepErr, if_neg (by omega), if_neg hm', if_pos k2, if_neg hs]), Option.bind_some]
          refine hn _ _ (fun m => ?_) (fun m => ?_)
          · have := h3 m
            unfold pgd at this ⊢
            rw [pget_pset, has_snoc]
            by_cases hme : m = e.Msg
            · rw [if_pos hme]; simp [k2, hme]
            · rw [if_neg hme, this]; simp [Ne.symm hme]
          · rw [h4, has_snoc]; simp [k2]
      · rw [if_neg k2]
        by_cases k3' : e.Kind = 3
        · rw [if_pos k3']
          by_cases hs : has 2 pre e.Msg = true
          · rw [if_pos hs]
            by_cases ht : has 3 pre e.Msg = true
            · rw [if_pos ht, hist_bad (c := 5) (by rw [stepErr, if_neg (by omega), if_neg hm', if_neg k2, if_pos k3', if_pos hs, if_pos ht]) (by decide)]
            · rw [if_neg ht, hist_ok (by rw [stepErr, if_neg (by omega), if_neg hm', if_neg k2, if_pos k3', if_pos hs, if_neg ht]), Option.bind_some]
              refine hn _ _ (fun m => ?_) (fun m => ?_)
              · rw [h3, has_snoc]; simp [k3']
              · have := h4 m
                unfold pgd at this ⊢
                rw [pget_pset, has_snoc]
                by_cases hme : m = e.Msg
                · rw [if_pos hme]; simp [k3', hme]
                · rw [if_neg hme, this]; simp [Ne.symm hme]
          · rw [if_neg hs, hist_bad (c := 4) (by rw [stepErr, if_neg (by omega), if_neg hm', if_neg k2, if_pos k3', if_neg hs]) (by decide)]
        · rw [if_neg k3', hist_ok (by rw [stepErr, if_neg (by omega), if_neg hm', if_neg k2, if_neg k3'])]
          refine hn _ _ (fun m => ?_) (fun m => ?_)
          · rw [h3, has_snoc]; simp [k2]
          · rw [h4, has_snoc]; simp [k3']
    by_cases kk : e.Kind = 1
    · rw [if_pos kk]; exact fin (fun h => absurd kk h)
    rw [if_neg kk]
    by_cases m0 : e.Msg < 0
    · rw [if_pos m0, hist_bad (c := 1) (by rw [stepErr, if_neg (by omega), if_pos (by omega)]) (by decide)]
    rw [if_neg m0]
    by_cases m9 : e.Msg > 999
    · rw [if_pos m9, hist_bad (c := 1) (by rw [stepErr, if_neg (by omega), if_pos (by omega)]) (by decide)]
    rw [if_neg m9]
    exact fin (fun _ => by omega)
def histErr (l : List Ev) : Int := if l.length > 200 then 2 else hist [] l
theorem check_val (l : List Ev) : clock_Check l = some (histErr l) := by
  unfold clock_Check histErr
  by_cases h : l.length > 200
  · rw [if_pos (by omega), if_pos h]
  · rw [if_neg (by omega), if_neg h]
    exact check_loop (by omega) l [] [] [] (fun _ => rfl) (fun _ => rfl) rfl

theorem within_val (x a b : Int) : roadref4_within x a b = some (decide (a ≤ x ∧ x ≤ b)) := by
  unfold roadref4_within
  by_cases h : x ≥ a
  · rw [if_pos h]; congr 1; exact decide_eq_decide.2 ⟨fun k => ⟨h, k⟩, fun k => k.2⟩
  · rw [if_neg h, decide_eq_false (fun k => h k.1)]
theorem hist1_val {l pre r : List Ev} {e : Ev} (hl : l.length ≤ 200) (he : l = pre ++ e :: r) (k : Int) : roadref4_History_1 k l (pre.length : Int) e = some (has k pre e.Msg) := by
  unfold roadref4_History_1
  rw [sls_take (k := pre.length) rfl (by rw [he]; simp), Option.bind_some]
  have ht : l.take pre.length = pre := by rw [he]; simp
  have hpl : pre.length ≤ 200 := by
    have : l.length = pre.length + (r.length + 1) := by rw [he]; simp
    omega
  rw [ht, slices_ContainsFunc_97.val (fun x => x.Kind == k && x.Msg == e.Msg) (fun x _ => ?_) (by omega), Option.bind_some]
  · rfl
  · unfold roadref4_History_1_1
    by_cases h : x.Kind = k
    · rw [if_pos h]; simp [h]
    · rw [if_neg h]; simp [h]
theorem hist_loop {l : List Ev} (hl : l.length ≤ 200) : ∀ (r pre : List Ev), l = pre ++ r → roadref4_History.l0 l l (l.length : Int) (pre.length : Int) = some (hist pre r) := by
  intro r
  induction r with
  | nil =>
    intro pre e
    rw [roadref4_History.l0_eq, if_neg (by rw [e]; simp)]; rfl
  | cons e r ih =>
    intro pre he
    have hlen : l.length = pre.length + (r.length + 1) := by rw [he]; simp
    have hn : roadref4_History.l0 l l (l.length : Int) (IntKind.wrap .i64 ((pre.length : Int) + 1)) = some (hist (pre ++ [e]) r) := by
      rw [w_succ (by omega)]
      have := ih (pre ++ [e]) (by simpa using he)
      simpa using this
    have hv := fun k => hist1_val hl he k
    rw [roadref4_History.l0_eq, if_pos (by omega), gi_some (k := pre.length) rfl (by rw [he]; simp : l[pre.length]? = some e), Option.bind_some, within_val, Option.bind_some]
    by_cases k1 : e.Kind < 1 ∨ e.Kind > 3
    · rw [if_neg (by simp; omega), hist_bad (c := 3) (by rw [stepErr, if_pos (by omega)]) (by decide)]
    rw [if_pos (by simp; omega), within_val, Option.bind_some]
    have hj0 : ∀ b, b = decide (e.Place < 0 ∨ e.Place > 7 ∨ (e.Kind ≠ 1 ∧ (e.Msg < 0 ∨ e.Msg > 999))) → roadref4_History.j0 l e (pre.length : Int) l (l.length : Int) (pre.length : Int) b = some (hist pre (e :: r)) := by
      rintro b rfl
      rw [roadref4_History.j0_eq]
      by_cases hb : e.Place < 0 ∨ e.Place > 7 ∨ (e.Kind ≠ 1 ∧ (e.Msg < 0 ∨ e.Msg > 999))
      · rw [decide_eq_true hb, if_pos rfl, hist_bad (c := 1) (by rw [stepErr, if_neg (by omega), if_pos hb]) (by decide)]
      rw [decide_eq_false hb, if_neg (by decide)]
      by_cases k2 : e.Kind = 2
      · rw [if_pos k2, hv, Option.bind_some, roadref4_History.j1_eq]
        by_cases hs : has 2 pre e.Msg = true
        · rw [if_pos hs, hist_bad (c := 5) (by rw [stepErr, if_neg (by omega), if_neg hb, if_pos k2, if_pos hs]) (by decide)]
        · rw [if_neg hs, if_neg (by omega), roadref4_History.j2_eq, if_neg (by decide), if_neg (by omega), hist_ok (by rw [stepErr, if_neg (by omega), if_neg hb, if_pos k2, if_neg hs])]; exact hn
      · rw [if_neg k2, roadref4_History.j1_eq, if_neg (by decide)]
        by_cases k3 : e.Kind = 3
        · rw [if_pos k3, hv, Option.bind_some, roadref4_History.j2_eq, if_pos k3, hv]
          by_cases hs : has 2 pre e.Msg = true
          · rw [hs, if_neg (by decide), Option.bind_some]
            by_cases ht : has 3 pre e.Msg = true
            · rw [if_pos ht, hist_bad (c := 5) (by rw [stepErr, if_neg (by omega), if_neg hb, if_neg k2, if_pos k3, if_pos hs, if_pos ht]) (by decide)]
            · rw [if_neg ht, hist_ok (by rw [stepErr, if_neg (by omega), if_neg hb, if_neg k2, if_pos k3, if_pos hs, if_neg ht])]; exact hn
          · rw [if_pos (by simpa using hs), hist_bad (c := 4) (by rw [stepErr, if_neg (by omega), if_neg hb, if_neg k2, if_pos k3, if_neg hs]) (by decide)]
        · rw [if_neg k3, roadref4_History.j2_eq, if_neg (by decide), if_neg k3, hist_ok (by rw [stepErr, if_neg (by omega), if_neg hb, if_neg k2, if_neg k3])]; exact hn
    by_cases hp : e.Place < 0 ∨ e.Place > 7
    · rw [decide_eq_false (by omega), if_neg (by decide)]
      exact hj0 _ (by rw [decide_eq_true (by omega)]; rfl)
    · rw [decide_eq_true (by omega), if_pos rfl]
      by_cases hk : e.Kind > 1
      · rw [if_pos hk, within_val, Option.bind_some]
        refine hj0 _ ?_
        rw [← decide_not]
        exact decide_eq_decide.2 ⟨fun h => .inr (.inr ⟨by omega, by omega⟩), fun h => by omega⟩
      · rw [if_neg hk]
        exact hj0 _ (by rw [decide_eq_false (by omega)])
theorem history_val (l : List Ev) : roadref4_History l = some (histErr l) := by
  unfold roadref4_History histErr
  by_cases h : l.length > 200
  · rw [if_pos (by omega), if_pos h]
  · rw [if_neg (by omega), if_neg h]
    exact hist_loop (by omega) l [] rfl
/-- A history that may be: each event is of the right form. -/
theorem hist_right : ∀ (r pre : List Ev), hist pre r = 0 → ∀ e ∈ r, 1 ≤ e.Kind ∧ e.Kind ≤ 3 ∧ 0 ≤ e.Place ∧ e.Place ≤ 7 ∧ (e.Kind ≠ 1 → 0 ≤ e.Msg ∧ e.Msg ≤ 999) := by
  intro r
  induction r with
  | nil => intro pre _ e he; cases he
  | cons x r ih =>
    intro pre h e he
    rw [hist_cons] at h
    by_cases hs : stepErr pre x = 0
    · rw [if_pos hs] at h
      rcases List.mem_cons.1 he with rfl | he
      · unfold stepErr at hs
        by_cases k1 : e.Kind < 1 ∨ e.Kind > 3
        · rw [if_pos k1] at hs; omega
        rw [if_neg k1] at hs
        by_cases k2 : e.Place < 0 ∨ e.Place > 7 ∨ (e.Kind ≠ 1 ∧ (e.Msg < 0 ∨ e.Msg > 999))
        · rw [if_pos k2] at hs; omega
        omega
      · exact ih _ h e he
    · rw [if_neg hs] at h; exact absurd h hs
theorem histErr_right {l : List Ev} (h : histErr l = 0) : l.length ≤ 200 ∧ ∀ e ∈ l, 1 ≤ e.Kind ∧ e.Kind ≤ 3 ∧ 0 ≤ e.Place ∧ e.Place ≤ 7 ∧ (e.Kind ≠ 1 → 0 ≤ e.Msg ∧ e.Msg ≤ 999) := by
  unfold histErr at h
  by_cases hl : l.length > 200
  · rw [if_pos hl] at h; omega
  · rw [if_neg hl] at h; exact ⟨by omega, hist_right _ _ h⟩

/-! ### Numbers as bytes -/
def enc (n : Int) : List Int := if n ≥ 128 then [n % 128 + 128, n / 128] else [n]
theorem u8_in {x : Int} (h0 : 0 ≤ x) (h1 : x ≤ 255) : IntKind.wrap .u8 x = x := by
  show x % 256 = x
  omega
theorem enc_len (n : Int) : (enc n).length ≤ 2 := by unfold enc; split <;> simp
theorem put_val {a : List Int} {n : Int} (h0 : 0 ≤ n) (h1 : n ≤ 16383) (ha : a.length ≤ 1000000) : trace_put a n = some (a ++ enc n) := by
  unfold trace_put
  rw [trace_put.l0_eq]
  by_cases h : n ≥ 128
  · rw [if_pos h, ap_one (by omega), Option.bind_some, trace_put.l0_eq, Int.tmod_eq_emod_of_nonneg h0, Int.tdiv_eq_ediv_of_nonneg h0, wrap_in (n := n % 128 + 128) (by omega) (by omega), wrap_in (n := n / 128) (by omega) (by omega),
      if_neg (by omega), ap_one (by simp; omega), Option.bind_some, u8_in (by omega) (by omega), u8_in (by omega) (by omega), enc, if_pos h]
    simp
  · rw [if_neg h, ap_one (by omega), Option.bind_some, u8_in (by omega) (by omega), enc, if_neg h]
theorem or_all : ∀ n : Fin 1024, IntKind.wrap .u8 (bitsI .or .i64 ((n.1 : Nat) : Int) 128) = ((n.1 : Nat) : Int) % 128 + 128 ∧ shrI .i64 ((n.1 : Nat) : Int) 7 = ((n.1 : Nat) : Int) / 128 := by decide +kernel
theorem or_val {n : Int} (h0 : 0 ≤ n) (h1 : n ≤ 1023) : IntKind.wrap .u8 (bitsI .or .i64 n 128) = n % 128 + 128 ∧ shrI .i64 n 7 = n / 128 := by
  obtain ⟨k, rfl⟩ : ∃ k : Nat, n = k := ⟨n.toNat, by omega⟩
  exact or_all ⟨k, by omega⟩
theorem bytes1 {a l : List Int} {n i x : Int} (h0 : 0 ≤ n) (h1 : n ≤ 1023) (ha : a.length ≤ 1000000) : roadref4_Bytes.l1 a n l x i = roadref4_Bytes.l0 (a ++ enc n) l x (IntKind.wrap .i64 (i + 1)) := by
  rw [roadref4_Bytes.l1_eq]
  by_cases h : n ≥ 128
  · obtain ⟨e1, e2⟩ := or_val h0 h1
    rw [if_pos (by omega), ap_one (by omega), Option.bind_some, e1, e2, roadref4_Bytes.l1_eq, if_neg (by omega), ap_one (by simp; omega), Option.bind_some, u8_in (by omega) (by omega), enc, if_pos h]
    simp
  · rw [if_neg (by omega), ap_one (by omega), Option.bind_some, u8_in (by omega) (by omega), enc, if_neg h]
theorem flat_len (l : List Int) : (l.flatMap enc).length ≤ 2 * l.length := by
  induction l with
  | nil => simp
  | cons x l ih => rw [List.flatMap_cons, List.length_append, List.length_cons]; have := enc_len x; omega
theorem bytes_loop {l : List Int} (hl : l.length ≤ 1000) (hb : ∀ n ∈ l, 0 ≤ n ∧ n ≤ 1023) : ∀ (r pre : List Int), l = pre ++ r → roadref4_Bytes.l0 (pre.flatMap enc) l (l.length : Int) (pre.length : Int) = some (l.flatMap enc) := by
  intro r
  induction r with
  | nil => intro pre e; rw [roadref4_Bytes.l0_eq, if_neg (by rw [e]; simp), e]; simp
  | cons n r ih =>
    intro pre he
    have hlen : l.length = pre.length + (r.length + 1) := by rw [he]; simp
    have hn := hb n (by rw [he]; simp)
    have := flat_len pre
    rw [roadref4_Bytes.l0_eq, if_pos (by omega), gi_some (k := pre.length) rfl (by rw [he]; simp : l[pre.length]? = some n), Option.bind_some, bytes1 hn.1 hn.2 (by omega), w_succ (by omega)]
    have := ih (pre ++ [n]) (by simpa using he)
    simpa using this
theorem bytes_val {l : List Int} (hl : l.length ≤ 1000) (hb : ∀ n ∈ l, 0 ≤ n ∧ n ≤ 1023) : roadref4_Bytes l = some (l.flatMap enc) := bytes_loop hl hb l [] rfl

/-! ### Packed -/
def num1 (e : Ev) : List Int := (e.Place * 3 + e.Kind - 1) :: (if e.Kind = 1 then [] else [e.Msg])
def Right (l : List Ev) : Prop := l.length ≤ 200 ∧ ∀ e ∈ l, 1 ≤ e.Kind ∧ e.Kind ≤ 3 ∧ 0 ≤ e.Place ∧ e.Place ≤ 7 ∧ (e.Kind ≠ 1 → 0 ≤ e.Msg ∧ e.Msg ≤ 999)
theorem num1_len (e : Ev) : (num1 e).length ≤ 2 := by unfold num1; split <;> simp
theorem nums_len (l : List Ev) : (l.flatMap num1).length ≤ 2 * l.length := by
  induction l with
  | nil => simp
  | cons x l ih => rw [List.flatMap_cons, List.length_append, List.length_cons]; have := num1_len x; omega
theorem w_num {e : Ev} (h : 1 ≤ e.Kind ∧ e.Kind ≤ 3 ∧ 0 ≤ e.Place ∧ e.Place ≤ 7) : IntKind.wrap .i64 (IntKind.wrap .i64 (IntKind.wrap .i64 (e.Place * 3) + e.Kind) - 1) = e.Place * 3 + e.Kind - 1 ∧ IntKind.wrap .i64 (IntKind.wrap .i64 (IntKind.wrap .i64 (3 * e.Place) + e.Kind) - 1) = e.Place * 3 + e.Kind - 1 := by
  rw [wrap_in (n := e.Place * 3) (by omega) (by omega), wrap_in (n := 3 * e.Place) (by omega) (by omega), wrap_in (n := e.Place * 3 + e.Kind) (by omega) (by omega), wrap_in (n := 3 * e.Place + e.Kind) (by omega) (by omega), wrap_in (by omega) (by omega), wrap_in (by omega) (by omega)]
  exact ⟨rfl, by omega⟩
theorem pack_loop {l : List Ev} (hl : Right l) : ∀ (r pre : List Ev) (a : List Int), a.length ≤ 10 + 4 * pre.length → l = pre ++ r → trace_Pack.l0 a l (l.length : Int) (pre.length : Int) = some (a ++ (r.flatMap num1).flatMap enc, 0) := by
  intro r
  induction r with
  | nil => intro pre a ha e; rw [trace_Pack.l0_eq, if_neg (by rw [e]; simp)]; simp
  | cons e r ih =>
    intro pre a ha he
    have hlen : l.length = pre.length + (r.length + 1) := by rw [he]; simp
    have hle := hl.1
    obtain ⟨h1, h2, h3, h4, h5⟩ := hl.2 e (by rw [he]; simp)
    have key : ∀ b : List Int, b.length ≤ a.length + 4 → trace_Pack.l0 b l (l.length : Int) (IntKind.wrap .i64 ((pre.length : Int) + 1)) = some (b ++ (r.flatMap num1).flatMap enc, 0) := by
      intro b hb
      rw [w_succ (by omega)]
      have := ih (pre ++ [e]) b (by simp; omega) (by simpa using he)
      simpa using this
    rw [trace_Pack.l0_eq, if_pos (by omega), gi_some (k := pre.length) rfl (by rw [he]; simp : l[pre.length]? = some e), Option.bind_some, (w_num ⟨h1, h2, h3, h4⟩).2, put_val (by omega) (by omega) (by omega), Option.bind_some, List.flatMap_cons, List.flatMap_append]
    have e1 := enc_len (e.Place * 3 + e.Kind - 1)
    by_cases hk : e.Kind = 1
    · rw [if_pos hk, key _ (by simp; omega), num1, if_pos hk]; simp
    · have e2 := enc_len e.Msg
      rw [if_neg hk, put_val (by omega) (by omega) (by simp; omega), Option.bind_some, key _ (by simp; omega), num1, if_neg hk]; simp
theorem rpack_loop {l : List Ev} (hl : Right l) : ∀ (r pre : List Ev) (a : List Int), a.length ≤ 1 + 2 * pre.length → (∀ n ∈ a, 0 ≤ n ∧ n ≤ 1023) → l = pre ++ r → roadref4_Pack.l0 a l (l.length : Int) (pre.length : Int) = some ((a ++ r.flatMap num1).flatMap enc) := by
  intro r
  induction r with
  | nil => intro pre a ha hb e; rw [roadref4_Pack.l0_eq, if_neg (by rw [e]; simp), bytes_val (by have := hl.1; rw [e] at this; simp at this; omega) hb]; simp
  | cons e r ih =>
    intro pre a ha hb he
    have hlen : l.length = pre.length + (r.length + 1) := by rw [he]; simp
    have hle := hl.1
    obtain ⟨h1, h2, h3, h4, h5⟩ := hl.2 e (by rw [he]; simp)
    have key : ∀ b : List Int, b.length ≤ a.length + 2 → (∀ n ∈ b, 0 ≤ n ∧ n ≤ 1023) → roadref4_Pack.l0 b l (l.length : Int) (IntKind.wrap .i64 ((pre.length : Int) + 1)) = some ((b ++ r.flatMap num1).flatMap enc) := by
      intro b hb hb2
      rw [w_succ (by omega)]
      have := ih (pre ++ [e]) b (by simp; omega) hb2 (by simpa using he)
      simpa using this
    rw [roadref4_Pack.l0_eq, if_pos (by omega), gi_some (k := pre.length) rfl (by rw [he]; simp : l[pre.length]? = some e), Option.bind_some, (w_num ⟨h1, h2, h3, h4⟩).1, ap_one (by omega), Option.bind_some, List.flatMap_cons]
    have hm : ∀ n ∈ a ++ [e.Place * 3 + e.Kind - 1], 0 ≤ n ∧ n ≤ 1023 := by
      intro n hn
      rcases List.mem_append.1 hn with hn | hn
      · exact hb n hn
      · simp at hn; omega
    by_cases hk : e.Kind = 1
    · rw [if_neg (by omega), key _ (by simp) hm, num1, if_pos hk]; simp
    · rw [if_pos (by omega), ap_one (by simp; omega), Option.bind_some, key _ (by simp) (fun n hn => ?_), num1, if_neg hk]; · simp
      rcases List.mem_append.1 hn with hn | hn
      · exact hm n hn
      · simp at hn; omega
theorem pack_val {l : List Ev} (h : histErr l = 0) : trace_Pack l = some (enc (l.length : Int) ++ (l.flatMap num1).flatMap enc, 0) ∧ roadref4_Pack l = some (enc (l.length : Int) ++ (l.flatMap num1).flatMap enc) := by
  have hr : Right l := histErr_right h
  have hle := hr.1
  refine ⟨?_, ?_⟩
  · unfold trace_Pack
    have := enc_len (l.length : Int)
    rw [check_val, Option.bind_some, h, if_pos rfl, put_val (by omega) (by omega) (by simp), Option.bind_some]
    exact pack_loop hr l [] _ (by simp; omega) rfl
  · have := rpack_loop hr l [] [(l.length : Int)] (by simp) (fun n hn => by simp at hn; omega) rfl
    unfold roadref4_Pack
    refine this.trans ?_
    simp
theorem pack_bad {l : List Ev} (h : histErr l ≠ 0) : trace_Pack l = some ([], histErr l) := by
  unfold trace_Pack
  rw [check_val, Option.bind_some, if_neg h]

/-! ### One number out of bytes -/
def tk : List Int → Option (Int × List Int)
  | [] => none
  | c0 :: r0 => if c0 < 128 then some (c0, r0) else match r0 with
    | [] => none
    | c1 :: r1 => if c1 = 0 then none else if c1 < 128 then some ((c0 - 128) + 128 * c1, r1) else match r1 with
      | [] => none
      | c2 :: r2 => if c2 = 0 then none else if c2 < 128 then some ((c0 - 128) + 128 * (c1 - 128) + 16384 * c2, r2) else none
theorem tk_a {c0 : Int} {r0 : List Int} (k : c0 < 128) : tk (c0 :: r0) = some (c0, r0) := by rw [tk.eq_def]; simp only; rw [if_pos k]
theorem tk_b {c0 : Int} (k : ¬ c0 < 128) : tk [c0] = none := by rw [tk.eq_def]; simp only; rw [if_neg k]
theorem tk_c {c0 c1 : Int} {r1 : List Int} (k : ¬ c0 < 128) : tk (c0 :: c1 :: r1) = if c1 = 0 then none else if c1 < 128 then some ((c0 - 128) + 128 * c1, r1) else match r1 with
      | [] => none
      | c2 :: r2 => if c2 = 0 then none else if c2 < 128 then some ((c0 - 128) + 128 * (c1 - 128) + 16384 * c2, r2) else none := by rw [tk.eq_def]; simp only; rw [if_neg k]
def tkV (b : List Int) : Int × List Int × Bool := match tk b with | some (n, r) => (n, r, true) | none => (0, [], false)
def Bytes (b : List Int) : Prop := b.length ≤ 4000 ∧ ∀ c ∈ b, 0 ≤ c ∧ c ≤ 255
theorem take_step {b : List Int} (hb : Bytes b) {i : Nat} {c n u : Int} (h : b[i]? = some c) (hi : i < 3) (hn : 0 ≤ n ∧ n ≤ 100000000) (hu : 0 ≤ u ∧ u ≤ 100000000) :
    trace_take.l0 b n u b (b.length : Int) (i : Int) = if i > 0 ∧ c = 0 then some (0, [], false) else if c < 128 then some (n + u * c, b.drop (i + 1), true) else trace_take.l0 b (n + u * (c - 128)) (u * 128) b (b.length : Int) ((i + 1 : Nat) : Int) := by
  have hlt : i < b.length := (List.getElem?_eq_some_iff.1 h).1
  have hc := hb.2 c (List.mem_of_getElem? h)
  have hlen := hb.1
  have hm0 : 0 ≤ u * c := Int.mul_nonneg hu.1 hc.1
  have hm1 : u * c ≤ 100000000 * 255 := Int.mul_le_mul hu.2 hc.2 hc.1 (by omega)
  rw [trace_take.l0_eq, if_pos (by omega), gi_some rfl h, Option.bind_some, if_neg (by omega)]
  have hj : trace_take.j0 b n u (i : Int) c b (b.length : Int) (i : Int) = if c < 128 then some (n + u * c, b.drop (i + 1), true) else trace_take.l0 b (n + u * (c - 128)) (u * 128) b (b.length : Int) ((i + 1 : Nat) : Int) := by
    rw [trace_take.j0_eq]
    by_cases h1 : c < 128
    · rw [if_pos h1, if_pos h1, w_succ (by omega), sls_drop rfl (by omega), Option.bind_some, wrap_in (n := c) (by omega) (by omega), wrap_in (n := u * c) (by omega) (by omega), wrap_in (by omega) (by omega)]
    · have hd0 : 0 ≤ u * (c - 128) := Int.mul_nonneg hu.1 (by omega)
      have hd1 : u * (c - 128) ≤ 100000000 * 127 := Int.mul_le_mul hu.2 (by omega) (by omega) (by omega)
      rw [if_neg h1, if_neg h1, u8_in (by omega) (by omega), w_succ (by omega), wrap_in (n := c - 128) (by omega) (by omega), wrap_in (n := u * (c - 128)) (by omega) (by omega), wrap_in (n := u * 128) (by omega) (by omega), wrap_in (by omega) (by omega)]
  by_cases h0 : i > 0
  · rw [if_pos (by omega), trace_take.j1_eq]
    by_cases hz : c = 0
    · rw [if_pos (by simp [hz]), if_pos ⟨h0, hz⟩]
    · rw [if_neg (by simp [hz]), if_neg (by omega), hj]
  · rw [if_neg (by omega), trace_take.j1_eq, if_neg (by decide), if_neg (by omega), hj]
theorem take_end {b : List Int} {i : Nat} {n u : Int} (h : b.length ≤ i) : trace_take.l0 b n u b (b.length : Int) (i : Int) = some (0, [], false) := by rw [trace_take.l0_eq, if_neg (by omega)]
theorem take_three {b : List Int} {n u c : Int} (h : b[3]? = some c) : trace_take.l0 b n u b (b.length : Int) ((3 : Nat) : Int) = some (0, [], false) := by
  have hlt : 3 < b.length := (List.getElem?_eq_some_iff.1 h).1
  rw [trace_take.l0_eq, if_pos (by omega), gi_some rfl h, Option.bind_some, if_pos (show ((3 : Nat) : Int) = 3 from rfl), trace_take.j1_eq, if_pos rfl]
theorem take_val {b : List Int} (hb : Bytes b) : trace_take b = some (tkV b) := by
  unfold trace_take
  show trace_take.l0 b 0 1 b (b.length : Int) ((0 : Nat) : Int) = _
  rcases b with _ | ⟨c0, r0⟩
  · exact take_end (by simp)
  have h0 := hb.2 c0 (by simp)
  rw [take_step hb (c := c0) rfl (by omega) (by omega) (by omega), if_neg (by omega)]
  by_cases k0 : c0 < 128
  · rw [if_pos k0, tkV, tk_a k0]; simp
  rw [if_neg k0]
  rcases r0 with _ | ⟨c1, r1⟩
  · rw [take_end (by simp), tkV, tk_b k0]
  have h1 := hb.2 c1 (by simp)
  rw [take_step hb (c := c1) rfl (by omega) (by omega) (by omega)]
  by_cases z1 : c1 = 0
  · rw [if_pos ⟨by omega, z1⟩, tkV, tk_c k0]; simp [z1]
  rw [if_neg (by omega)]
  by_cases k1 : c1 < 128
  · rw [if_pos k1, tkV, tk_c k0]; simp [z1, k1]
  rw [if_neg k1]
  rcases r1 with _ | ⟨c2, r2⟩
  · rw [take_end (by simp), tkV, tk_c k0]; simp [z1, k1]
  have h2 := hb.2 c2 (by simp)
  rw [take_step hb (c := c2) rfl (by omega) (by omega) (by omega)]
  by_cases z2 : c2 = 0
  · rw [if_pos ⟨by omega, z2⟩, tkV, tk_c k0]; simp [z1, k1, z2]
  rw [if_neg (by omega)]
  by_cases k2 : c2 < 128
  · rw [if_pos k2, tkV, tk_c k0]; simp [z1, k1, z2, k2]
  rw [if_neg k2]
  rcases r2 with _ | ⟨c3, r3⟩
  · rw [take_end (by simp), tkV, tk_c k0]; simp [z1, k1, z2, k2]
  rw [take_three (c := c3) rfl, tkV, tk_c k0]; simp [z1, k1, z2, k2]
theorem tk_more {b r : List Int} {n : Int} (hb : Bytes b) (h : tk b = some (n, r)) : 0 ≤ n ∧ n ≤ 3000000 ∧ r.length < b.length ∧ Bytes r := by
  have sub : ∀ {k : Nat}, r = b.drop (k + 1) → b ≠ [] → r.length < b.length ∧ Bytes r := by
    rintro k rfl hne
    have : 0 < b.length := List.length_pos_iff.2 hne
    refine ⟨by rw [List.length_drop]; omega, by rw [List.length_drop]; have := hb.1; omega, fun c hc => hb.2 c (List.mem_of_mem_drop hc)⟩
  rcases b with _ | ⟨c0, r0⟩
  · cases h
  have h0 := hb.2 c0 (by simp)
  by_cases k0 : c0 < 128
  · rw [tk_a k0] at h; cases h; exact ⟨by omega, by omega, sub (k := 0) rfl (by simp)⟩
  rcases r0 with _ | ⟨c1, r1⟩
  · rw [tk_b k0] at h; cases h
  rw [tk_c k0] at h
  have h1 := hb.2 c1 (by simp)
  by_cases z1 : c1 = 0
  · simp [z1] at h
  by_cases k1 : c1 < 128
  · simp only [z1, k1, if_true, if_false] at h; cases h; exact ⟨by omega, by omega, sub (k := 1) rfl (by simp)⟩
  rcases r1 with _ | ⟨c2, r2⟩
  · simp [z1, k1] at h
  have h2 := hb.2 c2 (by simp)
  by_cases z2 : c2 = 0
  · simp [z1, k1, z2] at h
  by_cases k2 : c2 < 128
  · simp only [z1, k1, z2, k2, if_true, if_false] at h; cases h; exact ⟨by omega, by omega, sub (k := 2) rfl (by simp)⟩
  · simp [z1, k1, z2, k2] at h

/-! ### All numbers -/
def f127 (b : List Int) : Nat := (b.takeWhile fun c => decide (c > 127)).length
theorem f127_cons (c : Int) (b : List Int) : f127 (c :: b) = if c > 127 then f127 b + 1 else 0 := by
  unfold f127
  by_cases h : c > 127
  · rw [if_pos h, List.takeWhile_cons_of_pos (by simpa using h)]; simp
  · rw [if_neg h, List.takeWhile_cons_of_neg (by simpa using h)]; rfl
theorem f127_le (b : List Int) : f127 b ≤ b.length := by
  induction b with
  | nil => simp [f127]
  | cons c b ih => rw [f127_cons]; split <;> simp <;> omega
theorem read_k {b acc : List Int} (hb : b.length ≤ 4000) : ∀ (r pre : List Int), b = pre ++ r → roadref4_Read.l1 b acc (pre.length : Int) = roadref4_Read.j0 b acc ((pre.length + f127 r : Nat) : Int) := by
  intro r
  induction r with
  | nil => intro pre e; rw [roadref4_Read.l1_eq, if_neg (by rw [e]; simp)]; rfl
  | cons c r ih =>
    intro pre he
    have hlen : b.length = pre.length + (r.length + 1) := by rw [he]; simp
    rw [roadref4_Read.l1_eq, if_pos (by omega), gi_some (k := pre.length) rfl (by rw [he]; simp : b[pre.length]? = some c), Option.bind_some, f127_cons]
    by_cases h : c > 127
    · rw [if_pos h, if_pos h, roadref4_Read.j3_eq, w_succ (by omega)]
      have := ih (pre ++ [c]) (by simpa using he)
      rw [show pre.length + (f127 r + 1) = (pre ++ [c]).length + f127 r by simp; omega, ← this]; simp
    · rw [if_neg h, if_neg h]; rfl
theorem read_bad {b acc : List Int} {k : Int} (h : k = b.length ∨ k > 2) : roadref4_Read.j0 b acc k = some (acc, false) := by
  rw [roadref4_Read.j0_eq]
  by_cases h1 : k = b.length
  · rw [if_pos h1, roadref4_Read.j2_eq, if_pos rfl]
  · rw [if_neg h1, if_pos (by omega), roadref4_Read.j2_eq, if_pos rfl]
theorem l2_step {b acc : List Int} {k n : Int} {i : Nat} {c : Int} (h : b[i]? = some c) (hc : 0 ≤ c ∧ c ≤ 255) (hn : 0 ≤ n ∧ n ≤ 10000000) (hi : i ≤ 4000) :
    roadref4_Read.l2 b acc k n (i : Int) = roadref4_Read.l2 b acc k (n * 128 + c % 128) ((i : Int) - 1) := by
  rw [roadref4_Read.l2_eq, if_pos (by omega), gi_some rfl h, Option.bind_some, Int.tmod_eq_emod_of_nonneg hc.1, wrap_in (n := c % 128) (by omega) (by omega), wrap_in (n := n * 128) (by omega) (by omega), wrap_in (by omega) (by omega), wrap_in (by omega) (by omega)]
theorem l2_end {b acc : List Int} {k : Nat} {n : Int} (hb : b.length ≤ 4000) (ha : acc.length ≤ 4000) (hk : k < b.length) : roadref4_Read.l2 b acc (k : Int) n (-1) = roadref4_Read.l0 (b.drop (k + 1)) (acc ++ [n]) := by
  rw [roadref4_Read.l2_eq, if_neg (by omega), ap_one (by omega), Option.bind_some, w_succ (by omega), sls_drop rfl (by omega), Option.bind_some]
theorem read_step {b acc : List Int} (hb : Bytes b) (hne : b ≠ []) (ha : acc.length ≤ 4000) : roadref4_Read.l0 b acc = match tk b with | some (n, r) => roadref4_Read.l0 r (acc ++ [n]) | none => some (acc, false) := by
  have hlen := hb.1
  have hpos : 0 < b.length := List.length_pos_iff.2 hne
  rw [roadref4_Read.l0_eq, if_pos (by omega)]
  have hk := read_k (acc := acc) hlen b [] rfl
  simp only [List.length_nil, Nat.zero_add] at hk
  rw [show (0 : Int) = ((0 : Nat) : Int) from rfl, hk]
  rcases b with _ | ⟨c0, r0⟩
  · exact absurd rfl hne
  have h0 := hb.2 c0 (by simp)
  rw [f127_cons]
  by_cases k0 : c0 < 128
  · rw [if_neg (by omega), tk_a k0, roadref4_Read.j0_eq, if_neg (by simp; omega), if_neg (by omega), if_neg (by omega), roadref4_Read.j2_eq, if_neg (by decide), roadref4_Read.j1_eq, l2_step (i := 0) (c := c0) rfl h0 (by omega) (by omega)]
    rw [show ((0 : Nat) : Int) - 1 = -1 from rfl, l2_end (k := 0) hlen ha hpos, show (0 : Int) * 128 + c0 % 128 = c0 by omega]
    rfl
  rw [if_pos (by omega)]
  rcases r0 with _ | ⟨c1, r1⟩
  · rw [read_bad (.inl (by simp [f127])), tk_b k0]
  rw [tk_c k0]
  have h1 := hb.2 c1 (by simp)
  rw [f127_cons]
  by_cases k1 : c1 < 128
  · rw [if_neg (by omega), roadref4_Read.j0_eq, if_neg (by simp; omega), if_neg (by omega), if_pos (by omega), gi_some (k := 1) rfl rfl, Option.bind_some, roadref4_Read.j2_eq]
    by_cases z1 : c1 = 0
    · rw [if_pos (by simp [z1])]; simp [z1]
    · rw [if_neg (by simp [z1]), roadref4_Read.j1_eq, l2_step (i := 1) (c := c1) rfl h1 (by omega) (by omega), show ((0 + 1 : Nat) : Int) - 1 = ((0 : Nat) : Int) from rfl, l2_step (i := 0) (c := c0) rfl h0 (by omega) (by omega), show ((0 : Nat) : Int) - 1 = -1 from rfl, l2_end (k := 1) hlen ha (by simp)]
      simp only [z1, k1, if_true, if_false]
      rw [show ((0 : Int) * 128 + c1 % 128) * 128 + c0 % 128 = c0 - 128 + 128 * c1 by omega]; rfl
  rw [if_pos (by omega)]
  rcases r1 with _ | ⟨c2, r2⟩
  · rw [read_bad (.inl (by simp [f127]))]; simp [k1]
  have h2 := hb.2 c2 (by simp)
  rw [f127_cons]
  by_cases k2 : c2 < 128
  · rw [if_neg (by omega), roadref4_Read.j0_eq, if_neg (by simp; omega), if_neg (by omega), if_pos (by omega), gi_some (k := 2) rfl rfl, Option.bind_some, roadref4_Read.j2_eq]
    by_cases z2 : c2 = 0
    · rw [if_pos (by simp [z2])]; simp [z2, k1]
    · rw [if_neg (by simp [z2]), roadref4_Read.j1_eq, l2_step (i := 2) (c := c2) rfl h2 (by omega) (by omega), show ((0 + 1 + 1 : Nat) : Int) - 1 = ((1 : Nat) : Int) from rfl, l2_step (i := 1) (c := c1) rfl h1 (by omega) (by omega), show ((1 : Nat) : Int) - 1 = ((0 : Nat) : Int) from rfl, l2_step (i := 0) (c := c0) rfl h0 (by omega) (by omega), show ((0 : Nat) : Int) - 1 = -1 from rfl, l2_end (k := 2) hlen ha (by simp)]
      have z1 : ¬ c1 = 0 := by omega
      simp only [z1, k1, z2, k2, if_true, if_false]
      rw [show (((0 : Int) * 128 + c2 % 128) * 128 + c1 % 128) * 128 + c0 % 128 = c0 - 128 + 128 * (c1 - 128) + 16384 * c2 by omega]; rfl
  rw [if_pos (by omega), read_bad (.inr (by omega))]
  have z1 : ¬ c1 = 0 := by omega
  have z2 : ¬ c2 = 0 := by omega
  simp only [z1, k1, z2, k2, if_true, if_false]
def rd : Nat → List Int → List Int × Bool
  | 0, _ => ([], true)
  | k + 1, b => if b = [] then ([], true) else match tk b with
    | none => ([], false)
    | some (n, r) => (n :: (rd k r).1, (rd k r).2)
theorem read_val : ∀ (k : Nat) (b acc : List Int), Bytes b → b.length ≤ k → acc.length + b.length ≤ 4000 → roadref4_Read.l0 b acc = some (acc ++ (rd k b).1, (rd k b).2) := by
  intro k
  induction k with
  | zero =>
    intro b acc hb hk ha
    rw [List.length_eq_zero_iff.1 (show b.length = 0 by omega), roadref4_Read.l0_eq, if_neg (by simp)]; simp [rd]
  | succ k ih =>
    intro b acc hb hk ha
    by_cases hne : b = []
    · rw [hne, roadref4_Read.l0_eq, if_neg (by simp)]; simp [rd]
    rw [read_step hb hne (by omega), rd, if_neg hne]
    cases h : tk b with
    | none => simp
    | some p =>
      obtain ⟨n, r⟩ := p
      obtain ⟨h1, h2, h3, h4⟩ := tk_more hb h
      simp only
      rw [ih r (acc ++ [n]) h4 (by omega) (by simp; omega)]
      simp
theorem rd_more {k : Nat} : ∀ {j : Nat} {b : List Int}, Bytes b → b.length ≤ k → b.length ≤ j → rd k b = rd j b := by
  induction k with
  | zero =>
    intro j b hb h1 h2
    have : b = [] := List.length_eq_zero_iff.1 (by omega)
    subst this
    cases j with
    | zero => rfl
    | succ j => simp [rd]
  | succ k ih =>
    intro j b hb h1 h2
    by_cases hne : b = []
    · subst hne
      cases j <;> simp [rd]
    cases j with
    | zero => exact absurd (List.length_eq_zero_iff.1 (by omega)) hne
    | succ j =>
      rw [rd, rd, if_neg hne, if_neg hne]
      cases h : tk b with
      | none => rfl
      | some p =>
        obtain ⟨n, r⟩ := p
        obtain ⟨_, _, h3, h4⟩ := tk_more hb h
        simp only
        rw [ih h4 (by omega) (show r.length ≤ j by omega)]

/-! ### Unpacked -/
theorem end_val (out : List Ev) : (Option.bind (clock_Check out) fun y79 => if y79 = (0 : Int) then some (out, (0 : Int)) else some (([] : List Ev), y79)) = some (if histErr out = 0 then (out, 0) else ([], histErr out)) := by
  rw [check_val, Option.bind_some]
  by_cases h : histErr out = 0
  · rw [if_pos h, if_pos h]
  · rw [if_neg h, if_neg h]
theorem rend_val (out : List Ev) : roadref4_Unpack.j0 out = some (if histErr out = 0 then (out, 0) else ([], histErr out)) := by
  unfold roadref4_Unpack.j0
  rw [history_val, Option.bind_some]
  by_cases h : histErr out = 0
  · rw [if_pos h, if_pos h]
  · rw [if_neg h, if_neg h]
theorem kind_val {n : Int} (h0 : 0 ≤ n) (h1 : n ≤ 3000000) : IntKind.wrap .i64 (Int.tmod n 3 + 1) = n % 3 + 1 := by
  rw [Int.tmod_eq_emod_of_nonneg h0, wrap_in (by omega) (by omega)]
theorem unpack_loop {N : Int} (hN : N ≤ 200) : ∀ (d i : Nat) (b : List Int) (out : List Ev), (i : Int) + d = N → Bytes b → out.length ≤ i →
    ∃ r, trace_Unpack.l0 b out N (i : Int) = some r ∧ roadref4_Unpack.l0 (rd b.length b).1 (rd b.length b).2 out N (i : Int) = some r ∧ r.1.length ≤ 200 := by
  intro d
  induction d with
  | zero =>
    intro i b out hi hb ho
    have hi' : ¬ ((i : Nat) : Int) < N := by omega
    rw [trace_Unpack.l0_eq, if_neg hi', roadref4_Unpack.l0_eq, if_neg hi']
    by_cases hne : b = []
    · subst hne
      refine ⟨if histErr out = 0 then (out, 0) else ([], histErr out), ?_, ?_, ?_⟩
      · rw [if_neg (by simp), end_val]
      · rw [if_neg (by simp [rd])]
        unfold roadref4_Unpack.j1
        rw [if_neg (by simp [rd]), rend_val]
      · split
        · show out.length ≤ 200; omega
        · simp
    · have hpos : 0 < b.length := List.length_pos_iff.2 hne
      obtain ⟨k, hk⟩ : ∃ k, b.length = k + 1 := ⟨b.length - 1, by omega⟩
      refine ⟨([], 3), by rw [if_pos (show ((b.length : Nat) : Int) > 0 by omega)], ?_, by simp⟩
      rw [hk, rd, if_neg hne]
      cases h : tk b with
      | none => simp [roadref4_Unpack.j1]
      | some p => simp [roadref4_Unpack.j1]
  | succ d ih =>
    intro i b out hi hb ho
    have next : ∀ (r : List Int) (e : Ev), Bytes r → ∃ q, trace_Unpack.j0 r out e N (i : Int) = some q ∧ roadref4_Unpack.j2 (rd r.length r).1 (rd r.length r).2 out e N (i : Int) = some q ∧ q.1.length ≤ 200 := by
      intro r e hr
      rw [trace_Unpack.j0_eq, roadref4_Unpack.j2_eq, ap_one (by omega), Option.bind_some, Option.bind_some, w_succ (by omega)]
      exact ih (i + 1) r (out ++ [e]) (by omega) hr (by rw [List.length_append, List.length_singleton]; omega)
    have hi' : ((i : Nat) : Int) < N := by omega
    rw [trace_Unpack.l0_eq, if_pos hi', roadref4_Unpack.l0_eq, if_pos hi', take_val hb, Option.bind_some, tkV]
    by_cases hne : b = []
    · subst hne
      exact ⟨([], 3), by simp [tk], by simp [rd], by simp⟩
    have hpos : 0 < b.length := List.length_pos_iff.2 hne
    obtain ⟨k, hk⟩ : ∃ k, b.length = k + 1 := ⟨b.length - 1, by omega⟩
    rw [hk, rd, if_neg hne]
    cases h : tk b with
    | none => exact ⟨([], 3), by simp, by simp, by simp⟩
    | some p =>
      obtain ⟨n, r⟩ := p
      obtain ⟨h1, h2, h3, h4⟩ := tk_more hb h
      simp only [if_true]
      have e0 : ¬ (((n :: (rd k r).1).length : Nat) : Int) = 0 := by simp; omega
      rw [kind_val h1 h2, if_neg e0, gi_cons, Option.bind_some, Option.bind_some, sls_drop (x := 1) (k := 1) rfl (by simp), Option.bind_some, kind_val h1 h2]
      simp only [List.drop_succ_cons, List.drop_zero]
      rw [rd_more h4 (show r.length ≤ k by omega) (Nat.le_refl _)]
      by_cases hkd : n % 3 + 1 = 1
      · rw [if_pos hkd, if_neg (show ¬ n % 3 + 1 > 1 by omega)]
        exact next r _ h4
      · rw [if_neg hkd, if_pos (show n % 3 + 1 > 1 by omega), take_val h4, Option.bind_some, tkV]
        by_cases hne2 : r = []
        · subst hne2
          exact ⟨([], 3), by simp [tk], by simp [rd], by simp⟩
        have hpos2 : 0 < r.length := List.length_pos_iff.2 hne2
        obtain ⟨k2, hk2⟩ : ∃ k, r.length = k + 1 := ⟨r.length - 1, by omega⟩
        rw [hk2, rd, if_neg hne2]
        cases h' : tk r with
        | none => exact ⟨([], 3), by simp, by simp, by simp⟩
        | some p2 =>
          obtain ⟨m, r2⟩ := p2
          obtain ⟨j1, j2, j3, j4⟩ := tk_more h4 h'
          simp only [if_true]
          have e1 : ¬ (((m :: (rd k2 r2).1).length : Nat) : Int) = 0 := by simp; omega
          rw [if_neg e1, gi_cons, Option.bind_some, sls_drop (x := 1) (k := 1) rfl (by simp), Option.bind_some]
          simp only [List.drop_succ_cons, List.drop_zero]
          rw [rd_more j4 (show r2.length ≤ k2 by omega) (Nat.le_refl _)]
          exact next r2 _ j4
theorem unpack_val {b : List Int} (hb : ∀ c ∈ b, 0 ≤ c ∧ c ≤ 255) : ∃ r, trace_Unpack b = some r ∧ roadref4_Unpack b = some r ∧ r.1.length ≤ 200 := by
  unfold trace_Unpack roadref4_Unpack
  by_cases hl : b.length > 4000
  · have h4 : ((b.length : Nat) : Int) > 4000 := by omega
    rw [if_pos h4, if_pos h4]; exact ⟨_, rfl, rfl, by simp⟩
  have hB : Bytes b := ⟨by omega, hb⟩
  have h4 : ¬ ((b.length : Nat) : Int) > 4000 := by omega
  rw [if_neg h4, if_neg h4, take_val hB, Option.bind_some]
  have hr : roadref4_Read b = some ((rd b.length b).1, (rd b.length b).2) := by
    unfold roadref4_Read
    rw [read_val b.length b [] hB (Nat.le_refl _) (by simp; omega)]; simp
  rw [hr, Option.bind_some, tkV]
  by_cases hne : b = []
  · subst hne
    exact ⟨([], 3), by simp [tk], by simp [rd], by simp⟩
  have hpos : 0 < b.length := List.length_pos_iff.2 hne
  obtain ⟨k, hk⟩ : ∃ k, b.length = k + 1 := ⟨b.length - 1, by omega⟩
  rw [hk, rd, if_neg hne]
  cases h : tk b with
  | none => exact ⟨([], 3), by simp, by simp, by simp⟩
  | some p =>
    obtain ⟨n, r⟩ := p
    obtain ⟨h1, h2, h3, h4⟩ := tk_more hB h
    simp only [if_true]
    have e0 : ¬ (((n :: (rd k r).1).length : Nat) : Int) = 0 := by simp; omega
    rw [if_neg e0, gi_cons, Option.bind_some]
    by_cases h200 : n > 200
    · rw [if_pos h200, if_pos h200]; exact ⟨_, rfl, rfl, by simp⟩
    rw [if_neg h200, if_neg h200, sls_drop (x := 1) (k := 1) rfl (by simp), Option.bind_some]
    simp only [List.drop_succ_cons, List.drop_zero]
    rw [rd_more h4 (show r.length ≤ k by omega) (Nat.le_refl _)]
    exact unpack_loop (by omega) n.toNat 0 r [] (by simp; omega) h4 (by simp)

/-- The law, over numbers and lists. -/
theorem TraceSays (l : List Ev) (b : List Int) (q0 : l.length * 24 ≤ 140737488351232 ∧ ∀ a ∈ l, T_api_Event.Q a) (q1 : b.length * 1 ≤ 140737488351232 ∧ ∀ a ∈ b, (0 ≤ a ∧ a ≤ 255)) : roadlaw4_TraceSays l b = some true := by
  have first : trace_Pack [T_api_Event.mk 0 2 5, T_api_Event.mk 1 3 5] = some ([2, 1, 5, 5, 5], 0) := by
    rw [(pack_val (by decide)).1]; rfl
  have eqv : ∀ x : List Int, bytes_Equal x x = some true := fun x => by unfold bytes_Equal; simp
  obtain ⟨r, hr1, hr2, hr3⟩ := unpack_val q1.2
  have hj1 : roadlaw4_TraceSays.j1 b r.1 r.2 = some true := by
    unfold roadlaw4_TraceSays.j1
    rw [hr2, Option.bind_some, if_pos rfl]
    obtain ⟨t, h1, h2⟩ := slices_Equal_41.val r.1 r.1 (by omega)
    rw [h1, Option.bind_some, h2.2 rfl]
  unfold roadlaw4_TraceSays
  unfold roadlaw4_two
  rw [Option.bind_some, first, Option.bind_some, if_pos rfl, eqv, Option.bind_some, if_pos rfl]
  unfold roadlaw4_TraceSays.j0
  by_cases h : histErr l = 0
  · rw [(pack_val h).1, Option.bind_some, hr1, Option.bind_some, history_val, Option.bind_some, h, if_pos rfl, if_pos rfl, (pack_val h).2, Option.bind_some, eqv, Option.bind_some, if_pos rfl]
    exact hj1
  · rw [pack_bad h, Option.bind_some, hr1, Option.bind_some, history_val, Option.bind_some, if_neg h, if_pos rfl]
    exact (if_pos (by simp)).trans hj1
end Go.Proofs.Ytilmfjdagnbbaaa.Fw
