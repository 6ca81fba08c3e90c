/- Programs run in an order: the law ExploreRuns over numbers and lists alone (no memory, no Go). -/
import Derived.Test.YtklobcelbpjjcaaLfExploreRuns
namespace Go.Proofs.Ytklobcelbpjjcaa.Fw
open Go Go.Hw Go.Proofs
set_option linter.unusedVariables false
abbrev D1 := T_explore_Do
abbrev D2 := T_roadref4_Do
abbrev St := T_explore_State
def cv (d : D2) : D1 := ⟨d.Kind, d.Cell, d.By⟩
def cvs (a : List (List D2)) : List (List D1) := a.map (·.map cv)
abbrev row (a : List (List D2)) (j : Nat) : List D2 := (a[j]?).getD []
theorem row_some {a : List (List D2)} {j : Nat} (h : j < a.length) : a[j]? = some (row a j) := by unfold row; rw [List.getElem?_eq_getElem h]; rfl
theorem cvs_at {a : List (List D2)} {j : Nat} (h : j < a.length) : (cvs a)[j]? = some ((row a j).map cv) := by unfold cvs; rw [List.getElem?_map, row_some h]; rfl
theorem cvs_len {a : List (List D2)} : (cvs a).length = a.length := by simp [cvs]
theorem cvs_flat {a : List (List D2)} : (cvs a).flatten = a.flatten.map cv := by unfold cvs; rw [List.map_flatten]

/-! ### The program's own form of the programs -/
def PW (a : List (List D2)) (i : Nat) (cur : List D1) (x : List (List D1)) : Prop := x.length = a.length ∧ ∀ j, j < a.length → x[j]? = some (if j < i then (row a j).map cv else if j = i then cur else [])
theorem progs_l1 {a : List (List D2)} (ha : a.length ≤ 1048576) {i : Nat} (hi : i < a.length) (hr : (row a i).length ≤ 1048576) {r : Option (List (List D1))} (K : ∀ x, PW a (i + 1) [] x → roadlaw4_progs.l0 x a (a.length : Int) ((i + 1 : Nat) : Int) = r) :
    ∀ (d k : Nat) (x : List (List D1)), k + d = (row a i).length → PW a i (((row a i).take k).map cv) x → roadlaw4_progs.l1 x (i : Int) a (a.length : Int) (i : Int) (row a i) ((row a i).length : Int) (k : Int) = r := by
  intro d
  induction d with
  | zero =>
    intro k x hk h
    rw [roadlaw4_progs.l1_eq, if_neg (by omega), w_succ (by omega)]
    refine K x ⟨h.1, fun j hj => ?_⟩
    rw [h.2 j hj]
    by_cases h1 : j < i
    · rw [if_pos h1, if_pos (by omega)]
    · rw [if_neg h1]
      by_cases h2 : j = i
      · subst h2; rw [if_pos rfl, if_pos (by omega), List.take_of_length_le (by omega)]
      · rw [if_neg h2, if_neg (by omega)]; split <;> rfl
  | succ d ih =>
    intro k x hk h
    have hkl : k < (row a i).length := by omega
    have hx := h.2 i hi
    rw [if_neg (by omega), if_pos rfl] at hx
    rw [roadlaw4_progs.l1_eq, if_pos (by omega), gi_at hkl, Option.bind_some, gi_some (k := i) rfl hx, Option.bind_some, ap_one (by simp; omega), Option.bind_some, Option.bind_some, w_succ (by omega), Int.toNat_natCast]
    refine ih (k + 1) _ (by omega) ⟨by rw [List.length_set]; exact h.1, fun j hj => ?_⟩
    rw [List.getElem?_set]
    by_cases he : i = j
    · subst he
      rw [if_pos rfl, if_pos (by rw [h.1]; exact hi), if_neg (by omega), if_pos rfl, List.take_succ_eq_append_getElem hkl, List.map_append]
      rfl
    · rw [if_neg he, h.2 j hj]
      by_cases h1 : j < i
      · rw [if_pos h1, if_pos h1]
      · rw [if_neg h1, if_neg h1, if_neg (by omega), if_neg (by omega)]
theorem progs_l0 {a : List (List D2)} (ha : a.length ≤ 1048576) (hr : ∀ i, i < a.length → (row a i).length ≤ 1048576) : ∀ (d i : Nat) (x : List (List D1)), i + d = a.length → PW a i [] x → roadlaw4_progs.l0 x a (a.length : Int) (i : Int) = some (cvs a) := by
  intro d
  induction d with
  | zero =>
    intro i x hi h
    rw [roadlaw4_progs.l0_eq, if_neg (by omega)]
    refine congrArg some (List.ext_getElem? fun j => ?_)
    by_cases hj : j < a.length
    · rw [h.2 j hj, if_pos (by omega), cvs_at hj]
    · rw [List.getElem?_eq_none (by rw [h.1]; omega), List.getElem?_eq_none (by rw [cvs_len]; omega)]
  | succ d ih =>
    intro i x hi h
    have hlt : i < a.length := by omega
    rw [roadlaw4_progs.l0_eq, if_pos (by omega), gi_some (k := i) rfl (row_some hlt), Option.bind_some]
    exact progs_l1 ha hlt (hr i hlt) (fun x' h' => ih (i + 1) x' (by omega) h') (row a i).length 0 x (by omega) (by rw [List.take_zero]; exact h)
theorem progs_val {a : List (List D2)} (ha : a.length ≤ 1048576) (hr : ∀ i, i < a.length → (row a i).length ≤ 1048576) : roadlaw4_progs a = some (cvs a) := by
  unfold roadlaw4_progs
  rw [mks_of (k := a.length) rfl (by omega) (by omega), Option.bind_some]
  refine progs_l0 ha hr a.length 0 _ (by omega) ⟨by rw [List.length_replicate], fun j hj => ?_⟩
  rw [List.getElem?_replicate, if_pos hj, if_neg (by omega)]; split <;> rfl

/-! ### What is right -/
def derr (d : D1) : Int := if d.Kind < 1 ∨ d.Kind > 4 then 3 else if d.Cell < 0 ∨ d.Cell ≥ 4 ∨ d.By < -1000 ∨ d.By > 1000 then 1 else 0
def ferr : List D1 → Int
  | [] => 0
  | d :: r => if derr d = 0 then ferr r else derr d
theorem ferr_append : ∀ (x y : List D1), ferr (x ++ y) = if ferr x = 0 then ferr y else ferr x := by
  intro x y
  induction x with
  | nil => rfl
  | cons d x ih =>
    rw [List.cons_append]
    show (if derr d = 0 then ferr (x ++ y) else derr d) = if (if derr d = 0 then ferr x else derr d) = 0 then ferr y else (if derr d = 0 then ferr x else derr d)
    by_cases h : derr d = 0
    · simp only [if_pos h, ih]
    · simp only [if_neg h]
theorem ferr_right : ∀ {l : List D1}, ferr l = 0 → ∀ d ∈ l, derr d = 0 := by
  intro l
  induction l with
  | nil => intro _ d hd; cases hd
  | cons x l ih =>
    intro h d hd
    have h : (if derr x = 0 then ferr l else derr x) = 0 := h
    by_cases hx : derr x = 0
    · rw [if_pos hx] at h
      rcases List.mem_cons.1 hd with rfl | hd
      · exact hx
      · exact ih h d hd
    · rw [if_neg hx] at h; exact absurd h hx
theorem derr_ok {d : D1} (h : derr d = 0) : 1 ≤ d.Kind ∧ d.Kind ≤ 4 ∧ 0 ≤ d.Cell ∧ d.Cell < 4 := by
  unfold derr at h
  split at h
  · omega
  · split at h
    · omega
    · omega
theorem check_l1 {p : List (List D1)} {r : List D1} {i : Nat} (hr : r.length ≤ 1048576) (hi : i ≤ 1048576) : ∀ (d k : Nat), k + d = r.length → explore_Check.l1 p (p.length : Int) (i : Int) r (r.length : Int) (k : Int) = if ferr (r.drop k) = 0 then explore_Check.l0 p (p.length : Int) ((i + 1 : Nat) : Int) else some (ferr (r.drop k)) := by
  intro d
  induction d with
  | zero => intro k hk; rw [explore_Check.l1_eq, if_neg (by omega), List.drop_eq_nil_of_le (by omega), w_succ (by omega), if_pos (show ferr [] = 0 from rfl)]
  | succ d ih =>
    intro k hk
    have hkl : k < r.length := by omega
    rw [explore_Check.l1_eq, if_pos (by omega), gi_at hkl, Option.bind_some, List.drop_eq_getElem_cons hkl]
    show _ = if (if derr r[k] = 0 then ferr (r.drop (k + 1)) else derr r[k]) = 0 then _ else some (if derr r[k] = 0 then ferr (r.drop (k + 1)) else derr r[k])
    have bad : ∀ c : Int, c ≠ 0 → derr r[k] = c → some c = if (if derr r[k] = 0 then ferr (r.drop (k + 1)) else derr r[k]) = 0 then explore_Check.l0 p (p.length : Int) ((i + 1 : Nat) : Int) else some (if derr r[k] = 0 then ferr (r.drop (k + 1)) else derr r[k]) := by
      intro c hc h
      rw [h, if_neg hc, if_neg hc]
    by_cases k1 : r[k].Kind < 1
    · rw [if_pos k1]; exact bad 3 (by decide) (by unfold derr; rw [if_pos (by omega)])
    rw [if_neg k1]
    by_cases k4 : r[k].Kind > 4
    · rw [if_pos k4]; exact bad 3 (by decide) (by unfold derr; rw [if_pos (by omega)])
    rw [if_neg k4, explore_Check.j0_eq]
    by_cases c0 : r[k].Cell < 0
    · rw [if_pos c0]; exact bad 1 (by decide) (by unfold derr; rw [if_neg (by omega), if_pos (by omega)])
    rw [if_neg c0]
    by_cases c4 : r[k].Cell ≥ 4
    · rw [if_pos c4]; exact bad 1 (by decide) (by unfold derr; rw [if_neg (by omega), if_pos (by omega)])
    rw [if_neg c4]
    by_cases b0 : r[k].By < -1000
    · rw [if_pos b0]; exact bad 1 (by decide) (by unfold derr; rw [if_neg (by omega), if_pos (by omega)])
    rw [if_neg b0]
    by_cases b1 : r[k].By > 1000
    · rw [if_pos b1]; exact bad 1 (by decide) (by unfold derr; rw [if_neg (by omega), if_pos (by omega)])
    have h0 : derr r[k] = 0 := by unfold derr; rw [if_neg (by omega), if_neg (by omega)]
    rw [if_neg b1, w_succ (by omega), ih (k + 1) (by omega)]
    simp only [if_pos h0]
theorem check_l0 {p : List (List D1)} (hp : p.length ≤ 4) (hr : ∀ r ∈ p, r.length ≤ 1048576) : ∀ (d i : Nat), i + d = p.length → explore_Check.l0 p (p.length : Int) (i : Int) = some (ferr (p.drop i).flatten) := by
  intro d
  induction d with
  | zero => intro i hi; rw [explore_Check.l0_eq, if_neg (by omega), List.drop_eq_nil_of_le (by omega)]; rfl
  | succ d ih =>
    intro i hi
    have hlt : i < p.length := by omega
    rw [explore_Check.l0_eq, if_pos (by omega), gi_at hlt, Option.bind_some, List.drop_eq_getElem_cons hlt, List.flatten_cons, ferr_append]
    refine (check_l1 (hr _ (List.getElem_mem hlt)) (by omega) p[i].length 0 (by omega)).trans ?_
    rw [List.drop_zero, ih (i + 1) (by omega)]
    split <;> rfl
def perr (p : List (List D1)) : Int := if p.length > 4 then 2 else if p.flatten.length > 12 then 2 else ferr p.flatten
theorem check_val {p : List (List D1)} (hp : p.length ≤ 1048576) (hf : p.flatten.length ≤ 1048576) (hr : ∀ r ∈ p, r.length ≤ 1048576) : explore_Check p = some (perr p) := by
  unfold explore_Check perr
  by_cases h : p.length > 4
  · rw [if_pos (by omega), if_pos h]
  rw [if_neg (by omega), if_neg h, slices_Concat_99.val p (by omega) (by omega), Option.bind_some]
  by_cases h2 : p.flatten.length > 12
  · rw [if_pos (by omega), if_pos h2]
  rw [if_neg (by omega), if_neg h2]
  exact check_l0 (by omega) hr p.length 0 (by omega)
theorem within_val (x a b : Int) : roadref4_within x a b = some (decide (a ≤ x ∧ x ≤ b)) := by
  unfold roadref4_within
  by_cases h : x ≥ a
  · rw [if_pos h]; congr 1; exact decide_eq_decide.2 ⟨fun k => ⟨h, k⟩, fun k => k.2⟩
  · rw [if_neg h, decide_eq_false (fun k => h k.1)]
theorem rprogs_l0 {l : List D2} (hl : l.length ≤ 1048576) : ∀ (d k : Nat), k + d = l.length → roadref4_Progs.l0 l (l.length : Int) (k : Int) = some (ferr ((l.drop k).map cv)) := by
  intro d
  induction d with
  | zero => intro k hk; rw [roadref4_Progs.l0_eq, if_neg (by omega), List.drop_eq_nil_of_le (by omega)]; rfl
  | succ d ih =>
    intro k hk
    have hkl : k < l.length := by omega
    rw [roadref4_Progs.l0_eq, if_pos (by omega), gi_at hkl, Option.bind_some, List.drop_eq_getElem_cons hkl, within_val, Option.bind_some]
    show _ = some (if derr (cv l[k]) = 0 then ferr ((l.drop (k + 1)).map cv) else derr (cv l[k]))
    have hc : (cv l[k]).Kind = l[k].Kind ∧ (cv l[k]).Cell = l[k].Cell ∧ (cv l[k]).By = l[k].By := ⟨rfl, rfl, rfl⟩
    by_cases k1 : 1 ≤ l[k].Kind ∧ l[k].Kind ≤ 4
    · rw [decide_eq_true k1, if_pos rfl, within_val, Option.bind_some]
      by_cases k2 : 0 ≤ l[k].Cell ∧ l[k].Cell ≤ 3
      · rw [decide_eq_true k2, if_pos rfl, within_val, Option.bind_some]
        by_cases k3 : -1000 ≤ l[k].By ∧ l[k].By ≤ 1000
        · rw [decide_eq_true k3, if_pos rfl, w_succ (by omega), ih (k + 1) (by omega), if_pos (by unfold derr; rw [if_neg (by omega), if_neg (by omega)])]
        · have h : derr (cv l[k]) = 1 := by unfold derr; rw [if_neg (by omega), if_pos (by omega)]
          rw [decide_eq_false k3, if_neg (by decide), h, if_neg (by decide)]
      · have h : derr (cv l[k]) = 1 := by unfold derr; rw [if_neg (by omega), if_pos (by omega)]
        rw [decide_eq_false k2, if_neg (by decide), h, if_neg (by decide)]
    · have h : derr (cv l[k]) = 3 := by unfold derr; rw [if_pos (by omega)]
      rw [decide_eq_false k1, if_neg (by decide), h, if_neg (by decide)]
theorem rprogs_val {a : List (List D2)} (ha : a.length ≤ 1048576) (hf : a.flatten.length ≤ 1048576) : roadref4_Progs a = some (perr (cvs a)) := by
  unfold roadref4_Progs perr
  rw [cvs_len, cvs_flat, List.length_map]
  by_cases h : a.length > 4
  · rw [if_pos (by omega), if_pos h]
  rw [if_neg (by omega), if_neg h, slices_Concat_98.val a (by omega) (by omega), Option.bind_some]
  by_cases h2 : a.flatten.length > 12
  · rw [if_pos (by omega), if_pos h2]
  rw [if_neg (by omega), if_neg h2]
  unfold roadref4_Progs.j0
  rw [slices_Concat_98.val a (by omega) (by omega), Option.bind_some]
  exact rprogs_l0 hf a.flatten.length 0 (by omega)

/-! ### One step -/
def Ok (a : List (List D2)) : Prop := a.length ≤ 4 ∧ ∀ j, j < a.length → (row a j).length ≤ 1048576 ∧ ∀ d ∈ row a j, 1 ≤ d.Kind ∧ d.Kind ≤ 4 ∧ 0 ≤ d.Cell ∧ d.Cell < 4
def InA (a : List (List D2)) (y : List Int) : Prop := y.length = 4 ∧ ∀ j, j < a.length → ∃ t : Nat, y[j]? = some (t : Int) ∧ t ≤ (row a j).length
def Inv (a : List (List D2)) (s : St) : Prop := s.Cells.length = 4 ∧ s.Hands.length = 4 ∧ InA a s.At
def toR (s : St) : T_roadref4_State := ⟨s.Cells, s.Hands, s.At⟩
theorem inA_set {a : List (List D2)} {y : List Int} {x t : Nat} (h : InA a y) (hx : x < a.length) (hl : a.length ≤ 4) (ht : t < (row a x).length) : InA a (y.set x ((t + 1 : Nat) : Int)) := by
  refine ⟨by rw [List.length_set]; exact h.1, fun j hj => ?_⟩
  rw [List.getElem?_set]
  by_cases he : x = j
  · subst he; rw [if_pos rfl, if_pos (by rw [h.1]; omega)]; exact ⟨_, rfl, by omega⟩
  · rw [if_neg he]; exact h.2 j hj
theorem step_val {a : List (List D2)} (ok : Ok a) {s : St} (I : Inv a s) {x : Nat} (hx : x < a.length) :
    ∃ c, explore_may (cvs a) s (x : Int) = some c ∧ roadref4_State_Can (toR s) a (x : Int) = some c ∧ (c = true → ∃ s', explore_step (cvs a) s (x : Int) = some s' ∧ roadref4_State_Next (toR s) a (x : Int) = some (toR s') ∧ Inv a s') := by
  obtain ⟨i1, i2, i3⟩ := I
  obtain ⟨t, ht, htl⟩ := i3.2 x hx
  have hl := ok.1
  obtain ⟨hrl, hrd⟩ := ok.2 x hx
  have hat : gi s.At (x : Int) = some (t : Int) := gi_some (k := x) rfl ht
  by_cases he : t = (row a x).length
  · have e1 : explore_may (cvs a) s (x : Int) = some false := by
      unfold explore_may
      rw [hat, Option.bind_some, gi_some (k := x) rfl (cvs_at hx), Option.bind_some, List.length_map, if_pos (by omega)]
    have e2 : roadref4_State_Can (toR s) a (x : Int) = some false := by
      unfold roadref4_State_Can
      show (gi s.At (x : Int)).bind _ = _
      rw [hat, Option.bind_some, gi_some (k := x) rfl (row_some hx), Option.bind_some, if_pos (by omega)]
    exact ⟨_, e1, e2, fun h => by cases h⟩
  have hlt : t < (row a x).length := by omega
  have hc1 : ((row a x).map cv)[t]? = some (cv (row a x)[t]) := by rw [List.getElem?_map, List.getElem?_eq_getElem hlt]; rfl
  have hr1 : (row a x)[t]? = some (row a x)[t] := List.getElem?_eq_getElem hlt
  obtain ⟨d1, d2, d3, d4⟩ := hrd _ (List.getElem_mem hlt)
  generalize (row a x)[t] = d at *
  obtain ⟨q, hq⟩ : ∃ q : Nat, d.Cell = (q : Int) := ⟨d.Cell.toNat, by omega⟩
  have hcell : gi s.Cells d.Cell = some (s.Cells[q]'(by omega)) := by rw [hq, gi_at (by omega)]
  have hhand : gi s.Hands (x : Int) = some (s.Hands[x]'(by omega)) := gi_at (by omega)
  have e1 : explore_may (cvs a) s (x : Int) = if d.Kind = 4 then some (s.Cells[q]'(by omega) == d.By) else some true := by
    unfold explore_may
    rw [hat, Option.bind_some, gi_some (k := x) rfl (cvs_at hx), Option.bind_some, List.length_map, if_neg (by omega), Option.bind_some, Option.bind_some, gi_some (k := t) rfl hc1, Option.bind_some]
    show (if d.Kind = 4 then (gi s.Cells d.Cell).bind _ else some true) = _
    rw [hcell]; rfl
  have e2 : roadref4_State_Can (toR s) a (x : Int) = if d.Kind < 4 then some true else some (s.Cells[q]'(by omega) == d.By) := by
    unfold roadref4_State_Can
    show (gi s.At (x : Int)).bind _ = _
    rw [hat, Option.bind_some, gi_some (k := x) rfl (row_some hx), Option.bind_some, if_neg (by omega), Option.bind_some]
    show (gi s.At (x : Int)).bind _ = _
    rw [hat, Option.bind_some, gi_some (k := t) rfl hr1, Option.bind_some]
    show (if d.Kind < 4 then some true else (gi s.Cells d.Cell).bind _) = _
    rw [hcell]; rfl
  have next : ∃ s', explore_step (cvs a) s (x : Int) = some s' ∧ roadref4_State_Next (toR s) a (x : Int) = some (toR s') ∧ Inv a s' := by
    have fin : ∀ (C H : List Int), C.length = 4 → H.length = 4 → explore_step.j0 (x : Int) (⟨C, H, s.At⟩ : St) ⟨List.replicate 4 0, List.replicate 4 0, List.replicate 4 0⟩ = some ⟨C, H, s.At.set x ((t + 1 : Nat) : Int)⟩ ∧ Inv a ⟨C, H, s.At.set x ((t + 1 : Nat) : Int)⟩ := by
      intro C H h1 h2
      refine ⟨?_, h1, h2, inA_set i3 hx hl hlt⟩
      unfold explore_step.j0
      show (gi s.At (x : Int)).bind _ = _
      rw [hat]
      simp only [Option.bind_some]
      rw [w_succ (by omega), Int.toNat_natCast]
    obtain ⟨dk, dc, db⟩ := d
    simp only at d1 d2 d3 d4 hq hcell
    subst hq
    have hself : s.Cells.set q (s.Cells[q]'(by omega)) = s.Cells := List.set_getElem_self ..
    have e3 : explore_step (cvs a) s (x : Int) = if dk = 1 then explore_step.j0 (x : Int) (⟨s.Cells, s.Hands.set x (s.Cells[q]'(by omega)), s.At⟩ : St) ⟨List.replicate 4 0, List.replicate 4 0, List.replicate 4 0⟩
        else if dk = 2 then explore_step.j0 (x : Int) (⟨s.Cells.set q (IntKind.wrap .i64 (s.Hands[x]'(by omega) + db)), s.Hands, s.At⟩ : St) ⟨List.replicate 4 0, List.replicate 4 0, List.replicate 4 0⟩
        else if dk = 3 then explore_step.j0 (x : Int) (⟨s.Cells.set q (IntKind.wrap .i64 (s.Cells[q]'(by omega) + db)), s.Hands, s.At⟩ : St) ⟨List.replicate 4 0, List.replicate 4 0, List.replicate 4 0⟩
        else explore_step.j0 (x : Int) s ⟨List.replicate 4 0, List.replicate 4 0, List.replicate 4 0⟩ := by
      unfold explore_step
      rw [gi_some (k := x) rfl (cvs_at hx), Option.bind_some, hat, Option.bind_some, gi_some (k := t) rfl hc1]
      simp only [Option.bind_some, cv, hcell, hhand, Int.toNat_natCast]
    have e4 : roadref4_State_Next (toR s) a (x : Int) = (gi ([s.Cells[q]'(by omega), s.Cells[q]'(by omega), (IntKind.wrap .i64 (s.Hands[x]'(by omega) + db)), (IntKind.wrap .i64 (s.Cells[q]'(by omega) + db)), s.Cells[q]'(by omega)] : List Int) dk).bind fun y53 => if dk = 1 then some (T_roadref4_State.mk (s.Cells.set q y53) (s.Hands.set x (s.Cells[q]'(by omega))) (s.At.set x ((t + 1 : Nat) : Int))) else some (T_roadref4_State.mk (s.Cells.set q y53) s.Hands (s.At.set x ((t + 1 : Nat) : Int))) := by
      unfold roadref4_State_Next
      rw [gi_some (k := x) rfl (row_some hx), Option.bind_some]
      simp only [toR]
      rw [hat, Option.bind_some, gi_some (k := t) rfl hr1]
      simp only [Option.bind_some, hcell, hhand, Int.toNat_natCast]
      rw [w_succ (by omega)]
    rw [e3, e4]
    rcases (by omega : dk = 1 ∨ dk = 2 ∨ dk = 3 ∨ dk = 4) with hk | hk | hk | hk
    · obtain ⟨f1, f2⟩ := fin s.Cells (s.Hands.set x (s.Cells[q]'(by omega))) i1 (by simpa using i2)
      subst hk
      refine ⟨_, (if_pos rfl).trans f1, ?_, f2⟩
      show (some (s.Cells[q]'(by omega))).bind _ = _
      rw [Option.bind_some, if_pos rfl, hself]; rfl
    · obtain ⟨f1, f2⟩ := fin (s.Cells.set q (IntKind.wrap .i64 (s.Hands[x]'(by omega) + db))) s.Hands (by simpa using i1) i2
      subst hk
      refine ⟨_, ((if_neg (by decide)).trans (if_pos rfl)).trans f1, ?_, f2⟩
      show (some (IntKind.wrap .i64 (s.Hands[x]'(by omega) + db))).bind _ = _
      rw [Option.bind_some, if_neg (by decide)]; rfl
    · obtain ⟨f1, f2⟩ := fin (s.Cells.set q (IntKind.wrap .i64 (s.Cells[q]'(by omega) + db))) s.Hands (by simpa using i1) i2
      subst hk
      refine ⟨_, ((if_neg (by decide)).trans ((if_neg (by decide)).trans (if_pos rfl))).trans f1, ?_, f2⟩
      show (some (IntKind.wrap .i64 (s.Cells[q]'(by omega) + db))).bind _ = _
      rw [Option.bind_some, if_neg (by decide)]; rfl
    · obtain ⟨f1, f2⟩ := fin s.Cells s.Hands i1 i2
      subst hk
      refine ⟨_, ((if_neg (by decide)).trans ((if_neg (by decide)).trans (if_neg (by decide)))).trans f1, ?_, f2⟩
      show (some (s.Cells[q]'(by omega))).bind _ = _
      rw [Option.bind_some, if_neg (by decide), hself]; rfl
  rw [e1, e2]
  by_cases hk : d.Kind = 4
  · rw [if_pos hk, if_neg (by omega)]
    exact ⟨_, rfl, rfl, fun _ => next⟩
  · rw [if_neg hk, if_pos (by omega)]
    exact ⟨_, rfl, rfl, fun _ => next⟩

/-! ### Whole orders -/
def Z : St := ⟨List.replicate 4 0, List.replicate 4 0, List.replicate 4 0⟩
theorem j1_ok {a : List (List D2)} {b : List Int} {s : St} (h : s.Cells.length = 4) {n e : Int} {A : List T_part_Step} : roadlaw4_ExploreRuns.j1 a b s n 0 A e (toR s) n 0 = roadlaw4_ExploreRuns.j2 a b A e := by
  unfold roadlaw4_ExploreRuns.j1 roadlaw4_state
  rw [if_pos rfl, if_pos rfl, Option.bind_some, if_pos (by simp [toR]), if_pos rfl]
theorem j1_bad {a : List (List D2)} {b : List Int} {t : T_roadref4_State} {n e : Int} {A : List T_part_Step} : roadlaw4_ExploreRuns.j1 a b Z 0 1 A e t n 1 = roadlaw4_ExploreRuns.j2 a b A e := by
  unfold roadlaw4_ExploreRuns.j1
  rw [if_neg (by decide), if_pos rfl, if_pos (by decide), if_pos rfl]
theorem run_loop {a : List (List D2)} (ok : Ok a) {b : List Int} (hb : b.length ≤ 1048576) {A : List T_part_Step} {e2 : Int} : ∀ (d i : Nat) (s : St), i + d = b.length → Inv a s →
    ∃ s' n e, explore_Run.l0 (cvs a) b Z s b (b.length : Int) (i : Int) = some (s', n, e) ∧ roadlaw4_ExploreRuns.l0 a b s' n e A e2 (toR s) (i : Int) 0 b (b.length : Int) (i : Int) = roadlaw4_ExploreRuns.j2 a b A e2 := by
  intro d
  induction d with
  | zero =>
    intro i s hi I
    rw [explore_Run.l0_eq, if_neg (by omega)]
    refine ⟨_, _, _, rfl, ?_⟩
    rw [roadlaw4_ExploreRuns.l0_eq, if_neg (by omega), show b.length = i by omega]
    exact j1_ok I.1
  | succ d ih =>
    intro i s hi I
    have hlt : i < b.length := by omega
    rw [explore_Run.l0_eq, if_pos (by omega), gi_at hlt, Option.bind_some, cvs_len]
    by_cases h0 : b[i] < 0
    · rw [if_pos h0, explore_Run.j1_eq, if_pos rfl]
      refine ⟨_, _, _, rfl, ?_⟩
      rw [roadlaw4_ExploreRuns.l0_eq, if_pos (by omega), gi_at hlt, Option.bind_some, if_pos h0]
      exact j1_bad
    rw [if_neg h0]
    by_cases h1 : b[i] ≥ (a.length : Int)
    · rw [decide_eq_true h1, explore_Run.j1_eq, if_pos rfl]
      refine ⟨_, _, _, rfl, ?_⟩
      rw [roadlaw4_ExploreRuns.l0_eq, if_pos (by omega), gi_at hlt, Option.bind_some, if_neg h0, if_pos h1]
      exact j1_bad
    obtain ⟨x, hx⟩ : ∃ x : Nat, b[i] = (x : Int) := ⟨b[i].toNat, by omega⟩
    obtain ⟨c, c1, c2, c3⟩ := step_val ok I (x := x) (by omega)
    rw [decide_eq_false h1, explore_Run.j1_eq, if_neg (by decide), explore_Run.j0_eq, hx, c1, Option.bind_some]
    cases c with
    | true =>
      obtain ⟨s', f1, f2, f3⟩ := c3 rfl
      rw [if_pos rfl, f1, Option.bind_some, w_succ (by omega)]
      obtain ⟨s2, n, e, g1, g2⟩ := ih (i + 1) s' (by omega) f3
      refine ⟨s2, n, e, g1, ?_⟩
      rw [roadlaw4_ExploreRuns.l0_eq, if_pos (by omega), gi_at hlt, Option.bind_some, if_neg h0, if_neg h1, roadlaw4_ExploreRuns.j3_eq, hx, c2, Option.bind_some, if_pos rfl, f2, Option.bind_some, w_succ (by omega)]
      exact g2
    | false =>
      rw [if_neg (by decide)]
      refine ⟨_, _, _, rfl, ?_⟩
      rw [roadlaw4_ExploreRuns.l0_eq, if_pos (by omega), gi_at hlt, Option.bind_some, if_neg h0, if_neg h1, roadlaw4_ExploreRuns.j3_eq, hx, c2, Option.bind_some, if_neg (by decide)]
      exact j1_ok I.1
theorem as_val {d : D2} {x : Int} (h : 1 ≤ d.Kind ∧ d.Kind ≤ 4 ∧ 0 ≤ d.Cell ∧ d.Cell < 4) : ∃ q, explore_as (cv d) x = some q ∧ ∃ t, roadref4_Do_Step d x = some t ∧ roadlaw4_steps [t] = some [q] := by
  obtain ⟨dk, dc, db⟩ := d
  simp only at h
  have st : ∀ t : T_roadref4_Step, roadlaw4_steps [t] = some [⟨t.Who, t.Reads, t.Writes⟩] := by
    intro t
    unfold roadlaw4_steps
    rw [roadlaw4_steps.l0_eq, if_pos (by simp), gi_cons, Option.bind_some, ap_nil (by simp), Option.bind_some, show IntKind.wrap .i64 ((0 : Int) + 1) = 1 from by decide, roadlaw4_steps.l0_eq, if_neg (by simp)]
  unfold explore_as roadref4_Do_Step
  simp only [cv]
  have h0 : 0 ≤ dc := h.2.2.1
  rcases (by omega : dk = 1 ∨ dk = 2 ∨ dk = 3 ∨ dk = 4) with hk | hk | hk | hk
  · subst hk; exact ⟨_, (if_pos h0).trans rfl, _, (if_pos h0).trans rfl, st _⟩
  · subst hk; exact ⟨_, (if_pos h0).trans rfl, _, (if_pos h0).trans rfl, st _⟩
  · subst hk; exact ⟨_, (if_pos h0).trans rfl, _, (if_pos h0).trans rfl, st _⟩
  · subst hk; exact ⟨_, (if_pos h0).trans rfl, _, (if_pos h0).trans rfl, st _⟩
theorem steps_loop {a : List (List D2)} (ok : Ok a) {b : List Int} (hb : b.length ≤ 1048576) : ∀ (d i : Nat) (y : List Int) (acc : List T_part_Step), i + d = b.length → InA a y → acc.length ≤ i →
    ∃ A e, explore_Steps.l0 (cvs a) y acc b (b.length : Int) (i : Int) = some (A, e) ∧ roadlaw4_ExploreRuns.l1 a A e y acc b (b.length : Int) (i : Int) = some true := by
  intro d
  induction d with
  | zero =>
    intro i y acc hi I hacc
    rw [explore_Steps.l0_eq, if_neg (by omega)]
    refine ⟨_, _, rfl, ?_⟩
    obtain ⟨r, h1, h2⟩ := slices_Equal_64.val acc acc (by omega)
    rw [roadlaw4_ExploreRuns.l1_eq, if_neg (by omega), if_pos rfl, h1, Option.bind_some, h2.2 rfl]
  | succ d ih =>
    intro i y acc hi I hacc
    have hlt : i < b.length := by omega
    rw [explore_Steps.l0_eq, if_pos (by omega), gi_at hlt, Option.bind_some, cvs_len]
    have bad : ∀ x : Int, roadlaw4_ExploreRuns.j5 a [] 1 y acc x b (b.length : Int) (i : Int) true = some true := by
      intro x; rw [roadlaw4_ExploreRuns.j5_eq, if_pos rfl, if_pos rfl]; rfl
    by_cases h0 : b[i] < 0
    · rw [if_pos h0, explore_Steps.j1_eq, if_pos rfl]
      refine ⟨_, _, rfl, ?_⟩
      rw [roadlaw4_ExploreRuns.l1_eq, if_pos (by omega), gi_at hlt, Option.bind_some, if_pos h0]
      exact bad _
    rw [if_neg h0]
    by_cases h1 : b[i] ≥ (a.length : Int)
    · rw [decide_eq_true h1, explore_Steps.j1_eq, if_pos rfl]
      refine ⟨_, _, rfl, ?_⟩
      rw [roadlaw4_ExploreRuns.l1_eq, if_pos (by omega), gi_at hlt, Option.bind_some, if_neg h0, decide_eq_true h1]
      exact bad _
    obtain ⟨x, hx⟩ : ∃ x : Nat, b[i] = (x : Int) := ⟨b[i].toNat, by omega⟩
    have hxl : x < a.length := by omega
    have hl4 := ok.1
    obtain ⟨t, ht, htl⟩ := I.2 x hxl
    obtain ⟨hrl, hrd⟩ := ok.2 x hxl
    rw [decide_eq_false h1, explore_Steps.j1_eq, if_neg (by decide), explore_Steps.j0_eq, hx, gi_some (k := x) rfl ht, Option.bind_some, gi_some (k := x) rfl (cvs_at hxl), Option.bind_some, List.length_map]
    have law : ∀ A e, roadlaw4_ExploreRuns.l1 a A e y acc b (b.length : Int) (i : Int) = roadlaw4_ExploreRuns.j4 a A e y acc (x : Int) b (b.length : Int) (i : Int) := by
      intro A e
      rw [roadlaw4_ExploreRuns.l1_eq, if_pos (by omega), gi_at hlt, Option.bind_some, if_neg h0, decide_eq_false h1, roadlaw4_ExploreRuns.j5_eq, if_neg (by decide), hx]
    by_cases he : t = (row a x).length
    · rw [if_pos (by omega)]
      refine ⟨_, _, rfl, ?_⟩
      rw [law, roadlaw4_ExploreRuns.j4_eq, gi_some (k := x) rfl ht, Option.bind_some, gi_some (k := x) rfl (row_some hxl), Option.bind_some, if_pos (by omega), if_pos rfl]; rfl
    have hlt2 : t < (row a x).length := by omega
    have hc1 : ((row a x).map cv)[t]? = some (cv (row a x)[t]) := by rw [List.getElem?_map, List.getElem?_eq_getElem hlt2]; rfl
    obtain ⟨q, q1, u, q2, q3⟩ := as_val (x := (x : Int)) (hrd _ (List.getElem_mem hlt2))
    rw [if_neg (by omega), Option.bind_some, Option.bind_some, gi_some (k := t) rfl hc1, Option.bind_some, q1, Option.bind_some, ap_one (by omega), Option.bind_some, Option.bind_some, Option.bind_some, Option.bind_some, w_succ (by omega), w_succ (by omega), Int.toNat_natCast]
    obtain ⟨A, e, g1, g2⟩ := ih (i + 1) (y.set x ((t + 1 : Nat) : Int)) (acc ++ [q]) (by omega) (inA_set I hxl hl4 hlt2) (by simp; omega)
    refine ⟨A, e, g1, ?_⟩
    rw [law, roadlaw4_ExploreRuns.j4_eq, gi_some (k := x) rfl ht, Option.bind_some, gi_some (k := x) rfl (row_some hxl), Option.bind_some, if_neg (by omega), Option.bind_some, Option.bind_some, gi_at hlt2, Option.bind_some, q2, Option.bind_some, q3, Option.bind_some, ap_one (by omega), Option.bind_some, Option.bind_some, Option.bind_some, Option.bind_some, w_succ (by omega), w_succ (by omega), Int.toNat_natCast]
    exact g2
theorem flat_len {a : List (List D2)} {r : List D2} (h : r ∈ a) : r.length ≤ a.flatten.length := by
  obtain ⟨s, t, rfl⟩ := List.append_of_mem h
  simp
  omega
theorem bulk_len {α : Type} {f : α → Nat} {l : List α} (h : ∀ x, 1 ≤ f x) : l.length ≤ (l.map f).sum := by
  induction l with
  | nil => exact Nat.zero_le _
  | cons x l ih => rw [List.map_cons, List.sum_cons, List.length_cons]; have := h x; omega
theorem flat_bulk {a : List (List D2)} : a.flatten.length ≤ (a.map fun r => (r.map T_roadref4_Do.bulk).sum + 1).sum := by
  induction a with
  | nil => exact Nat.zero_le _
  | cons r a ih =>
    rw [List.flatten_cons, List.length_append, List.map_cons, List.sum_cons]
    have := bulk_len (f := T_roadref4_Do.bulk) (l := r) (fun x => by unfold T_roadref4_Do.bulk; omega)
    omega
theorem ExploreRuns (a : List (List T_roadref4_Do)) (b : List Int) (q0 : a.length * 24 ≤ 140737488351232 ∧ ∀ x ∈ a, x.length * 24 ≤ 140737488351232 ∧ ∀ y ∈ x, T_roadref4_Do.Q y) (q1 : b.length * 8 ≤ 140737488351232 ∧ ∀ x ∈ b, (-9223372036854775808 ≤ x ∧ x ≤ 9223372036854775807))
    (hb : ((a.map fun r => (r.map T_roadref4_Do.bulk).sum + 1).sum + 1) + ((b.map fun _ => 1).sum + 1) ≤ 1048576) : roadlaw4_ExploreRuns a b = some true := by
  have b1 : a.length ≤ 1048576 := by have := bulk_len (f := fun r => (r.map T_roadref4_Do.bulk).sum + 1) (l := a) (fun x => by omega); omega
  have b2 : b.length ≤ 1048576 := by have := bulk_len (f := fun _ => 1) (l := b) (fun x => by omega); omega
  have b3 : a.flatten.length ≤ 1048576 := Nat.le_trans flat_bulk (Nat.le_trans (Nat.le_add_right _ 1) (Nat.le_trans (Nat.le_add_right _ _) hb))
  have b4 : ∀ r ∈ a, r.length ≤ 1048576 := fun r hr => Nat.le_trans (flat_len hr) b3
  have b5 : ∀ i, i < a.length → (row a i).length ≤ 1048576 := fun i hi => b4 _ (List.mem_of_getElem? (row_some hi))
  have first : explore_Run [[⟨3, 0, 3⟩]] [0, 0] = some (⟨[3, 0, 0, 0], [0, 0, 0, 0], [1, 0, 0, 0]⟩, 1, 0) := by
    unfold explore_Run
    rw [check_val (by decide) (by decide) (by decide), Option.bind_some, if_pos (by decide)]
    rw [explore_Run.l0_eq, if_pos (by decide), gi_cons, Option.bind_some, if_neg (by decide), explore_Run.j1_eq, if_neg (by decide), explore_Run.j0_eq]
    rw [show explore_may [[⟨3, 0, 3⟩]] ⟨List.replicate 4 0, List.replicate 4 0, List.replicate 4 0⟩ 0 = some true from by rfl, Option.bind_some, if_pos rfl]
    rw [show explore_step [[⟨3, 0, 3⟩]] ⟨List.replicate 4 0, List.replicate 4 0, List.replicate 4 0⟩ 0 = some ⟨[3, 0, 0, 0], [0, 0, 0, 0], [1, 0, 0, 0]⟩ from by rfl, Option.bind_some, show IntKind.wrap .i64 ((0 : Int) + 1) = 1 from by decide]
    rw [explore_Run.l0_eq, if_pos (by decide), show gi ([0, 0] : List Int) 1 = some 0 from rfl, Option.bind_some, if_neg (by decide), explore_Run.j1_eq, if_neg (by decide), explore_Run.j0_eq]
    rw [show explore_may [[⟨3, 0, 3⟩]] ⟨[3, 0, 0, 0], [0, 0, 0, 0], [1, 0, 0, 0]⟩ 0 = some false from by rfl, Option.bind_some, if_neg (by decide)]
  unfold roadlaw4_ExploreRuns
  rw [first, Option.bind_some, if_pos rfl, if_pos rfl]
  show (some (3 : Int)).bind _ = _
  rw [Option.bind_some, if_pos rfl]
  unfold roadlaw4_ExploreRuns.j0
  rw [progs_val b1 b5, Option.bind_some]
  have hck : explore_Check (cvs a) = some (perr (cvs a)) := check_val (by rw [cvs_len]; exact b1) (by rw [cvs_flat, List.length_map]; exact b3) (fun r hr => by
    obtain ⟨x, hx, rfl⟩ := List.mem_map.1 hr
    rw [List.length_map]; exact b4 x hx)
  by_cases h : perr (cvs a) = 0
  · have ok : Ok a := by
      unfold perr at h
      rw [cvs_len, cvs_flat, List.length_map] at h
      by_cases h1 : a.length > 4
      · rw [if_pos h1] at h; omega
      rw [if_neg h1] at h
      by_cases h2 : a.flatten.length > 12
      · rw [if_pos h2] at h; omega
      rw [if_neg h2] at h
      refine ⟨by omega, fun j hj => ⟨b5 j hj, fun d hd => ?_⟩⟩
      exact derr_ok (ferr_right h (cv d) (List.mem_map.2 ⟨d, List.mem_flatten.2 ⟨_, List.mem_of_getElem? (row_some hj), hd⟩, rfl⟩))
    have hl := ok.1
    have I0 : InA a (List.replicate 4 0) := ⟨by rw [List.length_replicate], fun j hj => ⟨0, by rw [List.getElem?_replicate, if_pos (by omega)]; rfl, by omega⟩⟩
    obtain ⟨A, e2, g1, g2⟩ := steps_loop ok b2 b.length 0 (List.replicate 4 0) [] (by omega) I0 (by simp)
    obtain ⟨s', n, e, r1, r2⟩ := run_loop ok b2 (A := A) (e2 := e2) b.length 0 Z (by omega) ⟨by rfl, by rfl, I0⟩
    have hR : explore_Run (cvs a) b = some (s', n, e) := by
      unfold explore_Run
      rw [hck, Option.bind_some, if_pos h]; exact r1
    have hS : explore_Steps (cvs a) b = some (A, e2) := by
      unfold explore_Steps
      rw [hck, Option.bind_some, if_pos h]; exact g1
    rw [hR, Option.bind_some, hS, Option.bind_some, rprogs_val b1 b3, Option.bind_some, hck, Option.bind_some, if_pos rfl, if_pos h]
    exact r2.trans g2
  · have hR : explore_Run (cvs a) b = some (Z, 0, perr (cvs a)) := by
      unfold explore_Run
      rw [hck, Option.bind_some, if_neg h]; rfl
    have hS : explore_Steps (cvs a) b = some ([], perr (cvs a)) := by
      unfold explore_Steps
      rw [hck, Option.bind_some, if_neg h]
    rw [hR, Option.bind_some, hS, Option.bind_some, rprogs_val b1 b3, Option.bind_some, hck, Option.bind_some, if_pos rfl, if_neg h, if_pos rfl, if_pos rfl, if_pos (by rfl), if_pos rfl]
    rfl
end Go.Proofs.Ytklobcelbpjjcaa.Fw
