/- The ends of a channel: the law LinePlays over numbers and lists alone (no memory, no Go). -/
import Derived.Test.YtklobcelbpjjcaaLfLinePlays
namespace Go.Proofs.Ytklobcelbpjjcaa.Fw
open Go Go.Hw Go.Proofs
set_option linter.unusedVariables false
abbrev LE := T_line_End
abbrev RE := T_roadref4_End
abbrev LP := T_line_Packet
abbrev RP := T_roadref4_Packet
theorem wu32 (n : Int) : IntKind.wrap .u32 n = n % 4294967296 := by
  simp only [IntKind.wrap, IntKind.signed, IntKind.bits, Bool.false_and]
  rw [if_neg (by decide)]; rfl
theorem wu64 (n : Int) : IntKind.wrap .u64 n = n % 18446744073709551616 := by
  simp only [IntKind.wrap, IntKind.signed, IntKind.bits, Bool.false_and]
  rw [if_neg (by decide)]; rfl
theorem wi32 (n : Int) : IntKind.wrap .i32 n = if n % 4294967296 ≥ 2147483648 then n % 4294967296 - 4294967296 else n % 4294967296 := by
  simp only [IntKind.wrap, IntKind.signed, IntKind.bits, Bool.true_and]
  by_cases h : n % 4294967296 ≥ 2147483648
  · rw [if_pos h, if_pos (by exact decide_eq_true h)]; rfl
  · rw [if_neg h, if_neg (by exact fun g => h (of_decide_eq_true g))]; rfl
def cvp (p : RP) : LP := ⟨p.Seq, p.Ack, p.Has, p.Window, p.Body⟩
theorem packet_val (p : RP) : roadlaw4_packet p = some (cvp p) := rfl
theorem zip_self {α β : Type} {c : α → β} {f : β × α → Bool} {l : List α} (h : ∀ y ∈ l, f (c y, y) = true) : ((l.map c).zip l).all f = true := by
  induction l with
  | nil => rfl
  | cons x l ih =>
    rw [List.map_cons, List.zip_cons_cons, List.all_cons, h x (List.mem_cons_self ..), ih fun y hy => h y (List.mem_cons_of_mem _ hy)]; rfl
theorem same_some (x : LP) (y : RP) : ∃ b, roadlaw4_same x y = some b := by
  unfold roadlaw4_same
  split
  · split
    · split
      · split
        · exact ⟨_, rfl⟩
        · exact ⟨_, rfl⟩
      · exact ⟨_, rfl⟩
    · exact ⟨_, rfl⟩
  · exact ⟨_, rfl⟩
theorem same_self (y : RP) : roadlaw4_same (cvp y) y = some true := by
  unfold roadlaw4_same
  rw [if_pos (show (cvp y).Seq = y.Seq from rfl), if_pos (show (cvp y).Ack = y.Ack from rfl), if_pos (by show (y.Has == y.Has) = true; simp), if_pos (show (cvp y).Window = y.Window from rfl)]
  unfold bytes_Equal
  rw [Option.bind_some, decide_eq_true (show bytesOf (cvp y).Body = bytesOf y.Body from rfl)]
theorem eq28 {l : List RP} (h : l.length ≤ 1000000) : slices_EqualFunc_28 (l.map cvp) l (fun z106 z107 => roadlaw4_same z106 z107) = some true := by
  rw [slices_EqualFunc_28.val (fun x y => (roadlaw4_same x y).getD false) (fun x _ y _ => by obtain ⟨b, hb⟩ := same_some x y; rw [hb]; rfl) (by rw [List.length_map]; omega)]
  rw [zip_self (f := fun x => (roadlaw4_same x.1 x.2).getD false) (fun y _ => by show (roadlaw4_same (cvp y) y).getD false = true; rw [same_self]; rfl)]
  simp
theorem eq35 {l : List (List Int)} (h : l.length ≤ 1000000) : slices_EqualFunc_35 l l (fun z35 z36 => bytes_Equal z35 z36) = some true := by
  rw [slices_EqualFunc_35.val (p := fun z35 z36 => bytes_Equal z35 z36) (fun x y => decide (bytesOf x = bytesOf y)) (fun x _ y _ => rfl) (by omega)]
  have : (l.zip l).all (fun x => decide (bytesOf x.1 = bytesOf x.2)) = true := by
    have := zip_self (c := id) (f := fun x : List Int × List Int => decide (bytesOf x.1 = bytesOf x.2)) (l := l) (fun y _ => decide_eq_true rfl)
    rw [List.map_id] at this; exact this
  rw [this]; simp
theorem pick_b {a : List (List Int)} (ha : a.length ≤ 5864062014805) (k : Int) : ∃ b, roadlaw4_pick_27 a k = some b ∧ (b = [] ∨ b ∈ a) := by
  unfold roadlaw4_pick_27
  by_cases h : (a.length : Int) = 0
  · rw [if_pos h]; exact ⟨_, rfl, .inl rfl⟩
  rw [if_neg h, wu64, wu64, if_pos (by omega)]
  have e : (a.length : Int) % 18446744073709551616 = a.length := by omega
  rw [e]
  have h1 := Int.tmod_nonneg (a.length : Int) (show 0 ≤ k % 18446744073709551616 by omega)
  have h2 := Int.tmod_lt_of_pos (k % 18446744073709551616) (show (0 : Int) < a.length by omega)
  rw [wrap_in (by omega) (by omega)]
  obtain ⟨n, hn⟩ : ∃ n : Nat, (k % 18446744073709551616).tmod (a.length : Int) = n := ⟨((k % 18446744073709551616).tmod (a.length : Int)).toNat, by omega⟩
  rw [hn, gi_at (by omega)]
  exact ⟨_, rfl, .inr (List.getElem_mem _)⟩
theorem pick_p {a : List RP} (ha : a.length ≤ 5864062014805) (k : Int) : ∃ b, roadlaw4_pick_31 a k = some b ∧ (b = ⟨0, 0, false, 0, []⟩ ∨ b ∈ a) := by
  unfold roadlaw4_pick_31
  by_cases h : (a.length : Int) = 0
  · rw [if_pos h]; exact ⟨_, rfl, .inl rfl⟩
  rw [if_neg h, wu64, wu64, if_pos (by omega)]
  have e : (a.length : Int) % 18446744073709551616 = a.length := by omega
  rw [e]
  have h1 := Int.tmod_nonneg (a.length : Int) (show 0 ≤ k % 18446744073709551616 by omega)
  have h2 := Int.tmod_lt_of_pos (k % 18446744073709551616) (show (0 : Int) < a.length by omega)
  rw [wrap_in (by omega) (by omega)]
  obtain ⟨n, hn⟩ : ∃ n : Nat, (k % 18446744073709551616).tmod (a.length : Int) = n := ⟨((k % 18446744073709551616).tmod (a.length : Int)).toNat, by omega⟩
  rw [hn, gi_at (by omega)]
  exact ⟨_, rfl, .inr (List.getElem_mem _)⟩
theorem at_some (c : List Int) {k : Nat} : ∃ x, roadlaw4_at c (k : Int) = some x := by
  unfold roadlaw4_at
  by_cases h : (k : Int) < (c.length : Int)
  · rw [if_pos h, gi_at (by omega)]; exact ⟨_, rfl⟩
  · rw [if_neg h]; exact ⟨_, rfl⟩
theorem clone_val {a : List Int} (h : a.length ≤ 1048576) : slices_Clone_82 a = some a := by unfold slices_Clone_82; exact ap_nil (by omega)

/-! ### The two ends -/
/-- The program's end (window, base, kept ..) and the model's, as one: B letters gone, K taken, w the window. -/
structure Rel (w : Int) (n : Nat) (X : LE) (M : RE) (B K : Nat) : Prop where
  xw : X.window_ = w
  mw : M.Window = w
  w1 : 1 ≤ w
  w16 : w ≤ 16
  mb : M.Base = (B : Int)
  bl : B ≤ M.All.length
  xb : X.base_ = (B : Int) % 4294967296
  xk : X.kept_ = M.All.drop B
  xt : X.told_ = M.Told
  t0 : 0 ≤ M.Told
  t16 : M.Told ≤ 16
  xl : X.limit_ = M.Limit
  l0 : 0 ≤ M.Limit
  l16 : M.Limit ≤ 16
  mt : M.Took = (K : Int)
  kn : K ≤ n
  xn : X.want_ = (K : Int) % 4294967296
  xr : X.read_ = M.Got
  mr : M.Read = (M.Got.length : Int)
  gl : M.Got.length ≤ 16
  xo : X.owe_ = M.Owe
  al : M.All.length ≤ n
  kl : (X.kept_.length : Int) ≤ w
  kb : ∀ b ∈ X.kept_, b.length ≤ 1048576
def pk (B K : Nat) (w : Int) (kept : List (List Int)) (g : Nat) (i : Nat) : RP := ⟨((B + i : Nat) : Int) % 4294967296, (K : Int) % 4294967296, true, w - (g : Int), (kept[i]?).getD []⟩
def outs (f : Nat → RP) (t : Nat) : Nat → List RP
  | 0 => []
  | d + 1 => outs f t d ++ [f (t + d)]
theorem outs_len {f : Nat → RP} {t : Nat} : ∀ d, (outs f t d).length = d := by
  intro d
  induction d with
  | zero => rfl
  | succ d ih => show (outs f t d ++ [f (t + d)]).length = _; rw [List.length_append, ih]; rfl
theorem prog_loop {B K : Nat} {w lim : Int} {kept got : List (List Int)} {owe : Bool} {mn t0 : Nat} (hg : got.length ≤ 16) (hk : kept.length ≤ 16) (hw1 : 1 ≤ w) (hw : w ≤ 16) (hb : ∀ b ∈ kept, b.length ≤ 1048576)
    (hm : (mn : Int) = if lim < (kept.length : Int) then lim else (kept.length : Int)) : ∀ (d k : Nat) (y : LP), t0 + k + d = mn → y.Ack = (K : Int) % 4294967296 → y.Window = w - (got.length : Int) → (d ≠ 0 ∨ k ≠ 0) →
    line_End_Out.l0 w ((B : Int) % 4294967296) kept ((t0 + k : Nat) : Int) lim ((K : Int) % 4294967296) got owe y ((outs (pk B K w kept got.length) t0 k).map cvp) = some ((outs (pk B K w kept got.length) t0 (mn - t0)).map cvp, ⟨w, (B : Int) % 4294967296, kept, (mn : Int), lim, (K : Int) % 4294967296, got, false⟩) := by
  have hmn : (mn : Int) ≤ kept.length := by rw [hm]; split <;> omega
  intro d
  induction d with
  | zero =>
    intro k y hd h1 h2 hne
    rw [line_End_Out.l0_eq, if_neg (by rw [← hm]; omega), if_neg (by rw [List.length_map, outs_len]; omega)]
    unfold line_End_Out.j1 line_End_Out.j0
    rw [if_neg (by decide), show mn - t0 = k by omega, show t0 + k = mn by omega]
  | succ d ih =>
    intro k y hd h1 h2 hne
    have hlt : t0 + k < kept.length := by omega
    have hbl := hb _ (List.getElem_mem hlt)
    rw [line_End_Out.l0_eq, if_pos (by rw [← hm]; omega), gi_at hlt, Option.bind_some, clone_val hbl, Option.bind_some, ap_one (by rw [List.length_map, outs_len]; omega), Option.bind_some, w_succ (by omega)]
    have hp : ((outs (pk B K w kept got.length) t0 k).map cvp) ++ [(⟨IntKind.wrap .u32 ((B : Int) % 4294967296 + IntKind.wrap .u32 ((t0 + k : Nat) : Int)), y.Ack, true, y.Window, kept[t0 + k]⟩ : LP)] = (outs (pk B K w kept got.length) t0 (k + 1)).map cvp := by
      show _ = (outs (pk B K w kept got.length) t0 k ++ [pk B K w kept got.length (t0 + k)]).map cvp
      rw [List.map_append]
      congr 1
      show _ = [cvp (pk B K w kept got.length (t0 + k))]
      unfold pk cvp
      rw [wu32, wu32, h1, h2, List.getElem?_eq_getElem hlt]
      simp only [Option.getD_some]
      congr 2
      omega
    show line_End_Out.l0 _ _ _ _ _ _ _ _ (⟨IntKind.wrap .u32 ((B : Int) % 4294967296 + IntKind.wrap .u32 ((t0 + k : Nat) : Int)), y.Ack, true, y.Window, kept[t0 + k]⟩ : LP) (((outs (pk B K w kept got.length) t0 k).map cvp) ++ [(⟨IntKind.wrap .u32 ((B : Int) % 4294967296 + IntKind.wrap .u32 ((t0 + k : Nat) : Int)), y.Ack, true, y.Window, kept[t0 + k]⟩ : LP)]) = _
    rw [hp]
    exact ih (k + 1) _ (by omega) h1 h2 (.inr (by omega))
theorem model_loop {B K : Nat} {w lim : Int} {all got : List (List Int)} {owe : Bool} {mn t0 : Nat} {y4 : RP} (hA : all.length ≤ 5864062014805) (hBl : B ≤ all.length) (hg : got.length ≤ 16) (hl0 : 0 ≤ lim) (hl : lim ≤ 16) (ht : t0 ≤ 16)
    (hy1 : y4.Ack = (K : Int) % 4294967296) (hy2 : y4.Window = w - (got.length : Int)) (hm : (mn : Int) = if lim < ((all.drop B).length : Int) then lim else ((all.drop B).length : Int)) : ∀ (d i : Nat), i + d = mn →
    roadref4_End_Out.l0 w lim (B : Int) ((max t0 i : Nat) : Int) all (K : Int) (got.length : Int) got owe (outs (pk B K w (all.drop B) got.length) t0 (i - t0)) y4 ((B + i : Nat) : Int) =
      roadref4_End_Out.j0 w lim (B : Int) ((max t0 mn : Nat) : Int) all (K : Int) (got.length : Int) got owe (outs (pk B K w (all.drop B) got.length) t0 (mn - t0)) y4 := by
  have hdl : (all.drop B).length = all.length - B := List.length_drop
  have hmn : (mn : Int) ≤ 16 ∧ (mn : Int) ≤ lim ∧ (mn : Int) ≤ ((all.drop B).length : Int) := by rw [hm]; split <;> omega
  intro d
  induction d with
  | zero =>
    intro i hi
    rw [roadref4_End_Out.l0_eq, wrap_in (by omega) (by omega), show i = mn by omega]
    by_cases h1 : ((B + mn : Nat) : Int) < (all.length : Int)
    · rw [if_pos h1, if_neg (by split at hm <;> omega)]
    · rw [if_neg h1]
  | succ d ih =>
    intro i hi
    have hlt : B + i < all.length := by omega
    have nx := ih (i + 1) (by omega)
    rw [roadref4_End_Out.l0_eq, wrap_in (by omega) (by omega), if_pos (by omega), if_pos (by omega), roadref4_End_Out.j3_eq, wrap_in (by omega) (by omega)]
    by_cases h : i ≥ t0
    · have hat : all[B + i]? = some (((all.drop B)[i]?).getD []) := by rw [List.getElem?_drop, List.getElem?_eq_getElem hlt]; rfl
      have ho : outs (pk B K w (all.drop B) got.length) t0 (i + 1 - t0) = outs (pk B K w (all.drop B) got.length) t0 (i - t0) ++ [pk B K w (all.drop B) got.length i] := by
        rw [show i + 1 - t0 = (i - t0) + 1 by omega]
        show _ ++ [pk B K w (all.drop B) got.length (t0 + (i - t0))] = _
        rw [show t0 + (i - t0) = i by omega]
      rw [if_pos (by omega), gi_some (k := B + i) rfl hat, Option.bind_some, ap_one (by rw [outs_len]; omega), Option.bind_some, roadref4_End_Out.j4_eq, wrap_in (by omega) (by omega), wrap_in (by omega) (by omega), wu32, hy1, hy2, ← nx, ho]
      rw [show ((max t0 (i + 1) : Nat) : Int) = ((B + i : Nat) : Int) - (B : Int) + 1 by omega, show ((B + (i + 1) : Nat) : Int) = ((B + i : Nat) : Int) + 1 by omega]
      rfl
    · rw [if_neg (by omega), roadref4_End_Out.j4_eq, wrap_in (by omega) (by omega), ← nx, show i + 1 - t0 = i - t0 by omega, show max t0 (i + 1) = max t0 i by omega, show ((B + (i + 1) : Nat) : Int) = ((B + i : Nat) : Int) + 1 by omega]

theorem out_val {w : Int} {n B K : Nat} {X : LE} {M : RE} (R : Rel w n X M B K) (hn : n ≤ 5864062014805) : ∃ L X' M', line_End_Out X = some (L.map cvp, X') ∧ roadref4_End_Out M = some (L, M') ∧ L.length ≤ 1000 ∧ Rel w n X' M' B K := by
  obtain ⟨xw, xb, xk, xt, xl, xn, xr, xo⟩ := X
  obtain ⟨mw, ml, mb, mt, ma, mk, mr, mg, mo⟩ := M
  obtain ⟨h1, h2, h3, h4, h5, h6, h7, h8, h9, h10, h11, h12, h13, h14, h15, h16, h17, h18, h19, h20, h21, h22, h23, h24⟩ := R
  simp only at h1 h2 h3 h4 h5 h6 h7 h8 h9 h10 h11 h12 h13 h14 h15 h16 h17 h18 h19 h20 h21 h22 h23 h24
  have h9 := h9.symm
  have h12 := h12.symm
  have h18 := h18.symm
  have h21 := h21.symm
  subst h1
  subst h2
  subst h5 h7 h8 h9 h12 h15 h17 h18 h19 h21
  obtain ⟨t0, rfl⟩ : ∃ t : Nat, mt = (t : Int) := ⟨mt.toNat, by omega⟩
  have hdl : (ma.drop B).length = ma.length - B := List.length_drop
  obtain ⟨mn, hm⟩ : ∃ m : Nat, (m : Int) = if ml < ((ma.drop B).length : Int) then ml else ((ma.drop B).length : Int) := ⟨(if ml < ((ma.drop B).length : Int) then ml else ((ma.drop B).length : Int)).toNat, by split <;> omega⟩
  have hmn : (mn : Int) ≤ 16 := by rw [hm]; split <;> omega
  have hmodel := model_loop (B := B) (K := K) (w := mw) (lim := ml) (all := ma) (got := mg) (owe := mo) (mn := mn) (t0 := t0) (y4 := ⟨0, (K : Int) % 4294967296, false, mw - (mg.length : Int), []⟩) (by omega) h6 h20 h13 h14 (by omega) rfl rfl hm mn 0 (by omega)
  have hM : roadref4_End_Out ⟨mw, ml, (B : Int), (t0 : Int), ma, (K : Int), (mg.length : Int), mg, mo⟩ = roadref4_End_Out.j0 mw ml (B : Int) ((max t0 mn : Nat) : Int) ma (K : Int) (mg.length : Int) mg mo (outs (pk B K mw (ma.drop B) mg.length) t0 (mn - t0)) ⟨0, (K : Int) % 4294967296, false, mw - (mg.length : Int), []⟩ := by
    unfold roadref4_End_Out
    show roadref4_End_Out.l0 mw ml (B : Int) (t0 : Int) ma (K : Int) (mg.length : Int) mg mo [] ⟨0, IntKind.wrap .u32 (K : Int), false, IntKind.wrap .i64 (mw - (mg.length : Int)), []⟩ (B : Int) = _
    rw [wu32, wrap_in (by omega) (by omega), ← hmodel, show max t0 0 = t0 by omega, Nat.zero_sub]
    rfl
  have hX : line_End_Out ⟨mw, (B : Int) % 4294967296, ma.drop B, (t0 : Int), ml, (K : Int) % 4294967296, mg, mo⟩ = line_End_Out.l0 mw ((B : Int) % 4294967296) (ma.drop B) (t0 : Int) ml ((K : Int) % 4294967296) mg mo ⟨0, (K : Int) % 4294967296, false, mw - (mg.length : Int), []⟩ [] := by
    unfold line_End_Out
    show line_End_Out.l0 _ _ _ _ _ _ _ _ ⟨0, (K : Int) % 4294967296, false, IntKind.wrap .i64 (mw - (mg.length : Int)), []⟩ [] = _
    rw [wrap_in (by omega) (by omega)]
  rw [hM, hX]
  by_cases hlt : t0 < mn
  · have hP := prog_loop (B := B) (K := K) (w := mw) (lim := ml) (kept := ma.drop B) (got := mg) (owe := mo) (mn := mn) (t0 := t0) h20 (by omega) h3 h4 h24 hm (mn - t0) 0 ⟨0, (K : Int) % 4294967296, false, mw - (mg.length : Int), []⟩ (by omega) rfl rfl (.inl (by omega))
    refine ⟨outs (pk B K mw (ma.drop B) mg.length) t0 (mn - t0), _, ⟨mw, ml, (B : Int), (mn : Int), ma, (K : Int), (mg.length : Int), mg, false⟩, hP, ?_, by rw [outs_len]; omega, ?_⟩
    · unfold roadref4_End_Out.j0
      rw [if_neg (by rw [outs_len]; omega)]
      unfold roadref4_End_Out.j2 roadref4_End_Out.j1
      rw [if_neg (by decide), show max t0 mn = mn by omega]
    · exact ⟨rfl, rfl, h3, h4, rfl, h6, rfl, rfl, rfl, (by show (0 : Int) ≤ (mn : Int); omega), hmn, rfl, h13, h14, rfl, h16, rfl, rfl, rfl, h20, rfl, h22, h23, h24⟩
  · have hz : mn - t0 = 0 := by omega
    rw [hz, show max t0 mn = t0 by omega, line_End_Out.l0_eq, if_neg (by rw [← hm]; omega), if_pos (by rfl)]
    unfold roadref4_End_Out.j0
    rw [if_pos (show (((outs (pk B K mw (ma.drop B) mg.length) t0 0).length : Nat) : Int) = 0 from rfl)]
    unfold line_End_Out.j1 roadref4_End_Out.j2 line_End_Out.j0 roadref4_End_Out.j1
    have rel : Rel mw n ⟨mw, (B : Int) % 4294967296, ma.drop B, (t0 : Int), ml, (K : Int) % 4294967296, mg, false⟩ ⟨mw, ml, (B : Int), (t0 : Int), ma, (K : Int), (mg.length : Int), mg, false⟩ B K := ⟨rfl, rfl, h3, h4, rfl, h6, rfl, rfl, rfl, h10, h11, rfl, h13, h14, rfl, h16, rfl, rfl, rfl, h20, rfl, h22, h23, h24⟩
    cases mo with
    | true =>
      rw [if_pos rfl, if_pos rfl, ap_nil (by simp), Option.bind_some]
      refine ⟨[⟨IntKind.wrap .u32 (ma.length : Int), (K : Int) % 4294967296, false, mw - (mg.length : Int), []⟩], _, _, ?_, rfl, by simp, rel⟩
      rw [wu32, wu32, wu32]
      have : ((B : Int) % 4294967296 + ((ma.drop B).length : Int) % 4294967296) % 4294967296 = (ma.length : Int) % 4294967296 := by omega
      rw [this]; rfl
    | false =>
      rw [if_neg (by decide), if_neg (by decide)]
      exact ⟨[], _, _, rfl, rfl, by simp, rel⟩
theorem come_end {w : Int} {n B K : Nat} {X : LE} {M : RE} (R : Rel w n X M B K) (hn : n + 1 ≤ 5864062014805) {p : RP} (hp : p.Body.length ≤ 1048576) (hs : 0 ≤ p.Seq ∧ p.Seq < 4294967296) :
    ∃ X' M' K', line_End_Come.j1 X.window_ X.base_ X.kept_ X.told_ X.limit_ X.want_ X.read_ X.owe_ (cvp p) = some (0, X') ∧ roadref4_End_Come.j4 M.Window M.Limit M.Base M.Told M.All M.Took M.Read M.Got M.Owe p = some M' ∧ Rel w (n + 1) X' M' B K' := by
  obtain ⟨xw, xb, xk, xt, xl, xn, xr, xo⟩ := X
  obtain ⟨mw, ml, mb, mt, ma, mk, mr, mg, mo⟩ := M
  obtain ⟨h1, h2, h3, h4, h5, h6, h7, h8, h9, h10, h11, h12, h13, h14, h15, h16, h17, h18, h19, h20, h21, h22, h23, h24⟩ := R
  simp only at h1 h2 h3 h4 h5 h6 h7 h8 h9 h10 h11 h12 h13 h14 h15 h16 h17 h18 h19 h20 h21 h22 h23 h24
  have h9 := h9.symm
  have h12 := h12.symm
  have h18 := h18.symm
  have h21 := h21.symm
  subst h1
  subst h2
  subst h5 h7 h8 h9 h12 h15 h17 h18 h19 h21
  dsimp only
  unfold line_End_Come.j1 roadref4_End_Come.j4
  by_cases hh : p.Has = true
  · rw [if_pos (show (cvp p).Has = true from hh), if_pos hh, wu32]
    unfold line_End_Come.j3 roadref4_End_Come.j5
    by_cases hq : p.Seq = (K : Int) % 4294967296
    · rw [if_pos (show (cvp p).Seq = (K : Int) % 4294967296 from hq), if_pos hq]
      by_cases hr : (mg.length : Int) < mw
      · rw [decide_eq_true hr, if_pos rfl, if_pos rfl, clone_val (show (cvp p).Body.length ≤ 1048576 from hp), Option.bind_some, ap_one (by omega), Option.bind_some, ap_one (by omega), Option.bind_some, wu32, wrap_in (by omega) (by omega), wrap_in (by omega) (by omega)]
        refine ⟨_, _, K + 1, rfl, rfl, ?_⟩
        exact ⟨rfl, rfl, h3, h4, rfl, h6, rfl, rfl, rfl, h10, h11, rfl, h13, h14, rfl, by omega, by show ((K : Int) % 4294967296 + 1) % 4294967296 = ((K + 1 : Nat) : Int) % 4294967296; omega, rfl, by show (mg.length : Int) + 1 = ((mg ++ [p.Body]).length : Int); rw [List.length_append]; rfl, by show (mg ++ [p.Body]).length ≤ 16; rw [List.length_append]; show mg.length + 1 ≤ 16; omega, rfl, by show ma.length ≤ n + 1; omega, h23, h24⟩
      · rw [decide_eq_false hr, if_neg (by decide), if_neg (by decide)]
        exact ⟨_, _, K, rfl, rfl, ⟨rfl, rfl, h3, h4, rfl, h6, rfl, rfl, rfl, h10, h11, rfl, h13, h14, rfl, by omega, rfl, rfl, rfl, h20, rfl, by show ma.length ≤ n + 1; omega, h23, h24⟩⟩
    · rw [if_neg (show ¬ (cvp p).Seq = (K : Int) % 4294967296 from hq), if_neg hq, if_neg (by decide), if_neg (by decide)]
      exact ⟨_, _, K, rfl, rfl, ⟨rfl, rfl, h3, h4, rfl, h6, rfl, rfl, rfl, h10, h11, rfl, h13, h14, rfl, by omega, rfl, rfl, rfl, h20, rfl, by show ma.length ≤ n + 1; omega, h23, h24⟩⟩
  · rw [if_neg (show ¬ (cvp p).Has = true from hh), if_neg hh]
    exact ⟨_, _, K, rfl, rfl, ⟨rfl, rfl, h3, h4, rfl, h6, rfl, rfl, rfl, h10, h11, rfl, h13, h14, rfl, by omega, rfl, rfl, rfl, h20, rfl, by show ma.length ≤ n + 1; omega, h23, h24⟩⟩
theorem within_val (x a b : Int) : roadref4_within x a b = some (decide (a ≤ x ∧ x ≤ b)) := by
  unfold roadref4_within
  by_cases h : x ≥ a
  · rw [if_pos h]; congr 1; exact decide_eq_decide.2 ⟨fun k => ⟨h, k⟩, fun k => k.2⟩
  · rw [if_neg h, decide_eq_false (fun k => h k.1)]
theorem come_val {w : Int} {n B K : Nat} {X : LE} {M : RE} (R : Rel w n X M B K) (hn : n + 1 ≤ 5864062014805) {p : RP} (hp : p.Body.length ≤ 1048576) (hs : 0 ≤ p.Seq ∧ p.Seq < 4294967296) (ha : 0 ≤ p.Ack ∧ p.Ack < 4294967296) (hw : 0 ≤ p.Window ∧ p.Window ≤ 16) :
    ∃ X' M' B' K', line_End_Come X (cvp p) = some (0, X') ∧ roadref4_End_Come M p = some M' ∧ Rel w (n + 1) X' M' B' K' := by
  have R0 := R
  obtain ⟨xw, xb, xk, xt, xl, xn, xr, xo⟩ := X
  obtain ⟨mw, ml, mb, mt, ma, mk, mr, mg, mo⟩ := M
  obtain ⟨h1, h2, h3, h4, h5, h6, h7, h8, h9, h10, h11, h12, h13, h14, h15, h16, h17, h18, h19, h20, h21, h22, h23, h24⟩ := R
  simp only at h1 h2 h3 h4 h5 h6 h7 h8 h9 h10 h11 h12 h13 h14 h15 h16 h17 h18 h19 h20 h21 h22 h23 h24
  have h9 := h9.symm
  have h12 := h12.symm
  have h18 := h18.symm
  have h21 := h21.symm
  subst h1
  subst h2
  subst h5 h7 h8 h9 h12 h15 h17 h18 h19 h21
  have hdl : (ma.drop B).length = ma.length - B := List.length_drop
  obtain ⟨A, hA, hA1, hA2⟩ : ∃ A : Int, A = IntKind.wrap .i64 (IntKind.wrap .i32 (IntKind.wrap .u32 (p.Ack - (B : Int) % 4294967296))) ∧ -2147483648 ≤ A ∧ A < 2147483648 := by
    refine ⟨_, rfl, ?_, ?_⟩ <;> (rw [wu32, wi32]; split <;> rw [wrap_in (by omega) (by omega)] <;> omega)
  have hA3 : A = if p.Ack - (B : Int) % 4294967296 ≥ 2147483648 then p.Ack - (B : Int) % 4294967296 - 4294967296 else if p.Ack - (B : Int) % 4294967296 < -2147483648 then p.Ack - (B : Int) % 4294967296 + 4294967296 else p.Ack - (B : Int) % 4294967296 := by
    rw [hA, wu32, wi32]
    by_cases g1 : p.Ack - (B : Int) % 4294967296 ≥ 2147483648
    · rw [if_pos g1]; split <;> rw [wrap_in (by omega) (by omega)] <;> omega
    · rw [if_neg g1]
      by_cases g2 : p.Ack - (B : Int) % 4294967296 < -2147483648
      · rw [if_pos g2]; split <;> rw [wrap_in (by omega) (by omega)] <;> omega
      · rw [if_neg g2]; split <;> rw [wrap_in (by omega) (by omega)] <;> omega
  have hM : roadref4_End_Come ⟨mw, ml, (B : Int), mt, ma, (K : Int), (mg.length : Int), mg, mo⟩ p = roadref4_End_Come.j1 mw ml (B : Int) mt ma (K : Int) (mg.length : Int) mg mo p A := by
    unfold roadref4_End_Come
    show (if IntKind.wrap .i64 (IntKind.wrap .i64 p.Ack - IntKind.wrap .i64 (IntKind.wrap .u32 (B : Int))) ≥ 2147483648 then roadref4_End_Come.j0 mw ml (B : Int) mt ma (K : Int) (mg.length : Int) mg mo p (IntKind.wrap .i64 (IntKind.wrap .i64 (IntKind.wrap .i64 p.Ack - IntKind.wrap .i64 (IntKind.wrap .u32 (B : Int))) - 4294967296)) else roadref4_End_Come.j0 mw ml (B : Int) mt ma (K : Int) (mg.length : Int) mg mo p (IntKind.wrap .i64 (IntKind.wrap .i64 p.Ack - IntKind.wrap .i64 (IntKind.wrap .u32 (B : Int))))) = _
    rw [wu32, wrap_in (n := p.Ack) (by omega) (by omega), wrap_in (n := (B : Int) % 4294967296) (by omega) (by omega), wrap_in (n := p.Ack - (B : Int) % 4294967296) (by omega) (by omega)]
    unfold roadref4_End_Come.j0
    by_cases g1 : p.Ack - (B : Int) % 4294967296 ≥ 2147483648
    · rw [if_pos g1, wrap_in (by omega) (by omega), if_neg (by omega), hA3, if_pos g1]
    · rw [if_neg g1]
      by_cases g2 : p.Ack - (B : Int) % 4294967296 < -2147483648
      · rw [if_pos g2, wrap_in (by omega) (by omega), hA3, if_neg g1, if_pos g2]
      · rw [if_neg g2, hA3, if_neg g1, if_neg g2]
  have hX : line_End_Come ⟨mw, (B : Int) % 4294967296, ma.drop B, mt, ml, (K : Int) % 4294967296, mg, mo⟩ (cvp p) = if A > 0 then line_End_Come.j2 mw ((B : Int) % 4294967296) (ma.drop B) mt ml ((K : Int) % 4294967296) mg mo (cvp p) A (decide (A ≤ ((ma.drop B).length : Int))) else line_End_Come.j2 mw ((B : Int) % 4294967296) (ma.drop B) mt ml ((K : Int) % 4294967296) mg mo (cvp p) A false := by
    unfold line_End_Come
    rw [if_neg (show ¬ (cvp p).Window < 0 by show ¬ p.Window < 0; omega), if_neg (show ¬ (cvp p).Window > 16 by show ¬ p.Window > 16; omega)]
    unfold line_End_Come.j0
    rw [if_neg (show ¬ ((cvp p).Body.length : Int) > 1048576 by show ¬ (p.Body.length : Int) > 1048576; omega)]
    show (if IntKind.wrap .i64 (IntKind.wrap .i32 (IntKind.wrap .u32 (p.Ack - (B : Int) % 4294967296))) > 0 then line_End_Come.j2 mw ((B : Int) % 4294967296) (ma.drop B) mt ml ((K : Int) % 4294967296) mg mo (cvp p) (IntKind.wrap .i64 (IntKind.wrap .i32 (IntKind.wrap .u32 (p.Ack - (B : Int) % 4294967296)))) (decide (IntKind.wrap .i64 (IntKind.wrap .i32 (IntKind.wrap .u32 (p.Ack - (B : Int) % 4294967296))) ≤ ((ma.drop B).length : Int))) else line_End_Come.j2 mw ((B : Int) % 4294967296) (ma.drop B) mt ml ((K : Int) % 4294967296) mg mo (cvp p) (IntKind.wrap .i64 (IntKind.wrap .i32 (IntKind.wrap .u32 (p.Ack - (B : Int) % 4294967296)))) false) = _
    rw [← hA]
  clear hA hA3
  have hwl : IntKind.wrap .i64 ((ma.length : Int) - (B : Int)) = (ma.length : Int) - (B : Int) := wrap_in (by omega) (by omega)
  have hj2 : ∀ l : Int, ¬ (1 ≤ A ∧ A ≤ (ma.length : Int) - (B : Int)) → roadref4_End_Come.j2 mw l (B : Int) mt ma (K : Int) (mg.length : Int) mg mo p A = roadref4_End_Come.j4 mw l (B : Int) mt ma (K : Int) (mg.length : Int) mg mo p := by
    intro l h
    unfold roadref4_End_Come.j2
    rw [hwl, within_val, Option.bind_some, decide_eq_false h, if_neg (by decide)]
  by_cases g0 : A = 0
  · have eX : line_End_Come ⟨mw, (B : Int) % 4294967296, ma.drop B, mt, ml, (K : Int) % 4294967296, mg, mo⟩ (cvp p) = line_End_Come.j1 mw ((B : Int) % 4294967296) (ma.drop B) mt (if p.Window > ml then p.Window else ml) ((K : Int) % 4294967296) mg mo (cvp p) := by
      rw [hX, if_neg (by omega)]
      unfold line_End_Come.j2
      rw [if_neg (by decide), if_pos g0]; rfl
    have eM : roadref4_End_Come ⟨mw, ml, (B : Int), mt, ma, (K : Int), (mg.length : Int), mg, mo⟩ p = roadref4_End_Come.j4 mw (if p.Window > ml then p.Window else ml) (B : Int) mt ma (K : Int) (mg.length : Int) mg mo p := by
      rw [hM]
      unfold roadref4_End_Come.j1
      rw [if_pos g0]
      unfold roadref4_End_Come.j3
      by_cases g : p.Window > ml
      · rw [decide_eq_true g, if_pos rfl, if_pos g]; exact hj2 _ (by omega)
      · rw [decide_eq_false g, if_neg (by decide), if_neg g]; exact hj2 _ (by omega)
    have R1 : Rel mw n ⟨mw, (B : Int) % 4294967296, ma.drop B, mt, (if p.Window > ml then p.Window else ml), (K : Int) % 4294967296, mg, mo⟩ ⟨mw, (if p.Window > ml then p.Window else ml), (B : Int), mt, ma, (K : Int), (mg.length : Int), mg, mo⟩ B K :=
      ⟨rfl, rfl, h3, h4, rfl, h6, rfl, rfl, rfl, h10, h11, rfl, by show 0 ≤ (if p.Window > ml then p.Window else ml); split <;> omega, by show (if p.Window > ml then p.Window else ml) ≤ 16; split <;> omega, rfl, h16, rfl, rfl, rfl, h20, rfl, h22, h23, h24⟩
    obtain ⟨X', M', K', e1, e2, e3⟩ := come_end R1 hn hp hs
    exact ⟨X', M', B, K', eX.trans e1, eM.trans e2, e3⟩
  have eM0 : roadref4_End_Come ⟨mw, ml, (B : Int), mt, ma, (K : Int), (mg.length : Int), mg, mo⟩ p = roadref4_End_Come.j2 mw ml (B : Int) mt ma (K : Int) (mg.length : Int) mg mo p A := by
    rw [hM]
    unfold roadref4_End_Come.j1
    rw [if_neg g0]
    unfold roadref4_End_Come.j3
    rw [if_neg (by decide)]
  by_cases gp : 1 ≤ A ∧ A ≤ (ma.length : Int) - (B : Int)
  · obtain ⟨a, rfl⟩ : ∃ a : Nat, A = (a : Int) := ⟨A.toNat, by omega⟩
    have ht : (if mt - (a : Int) > 0 then mt - (a : Int) else 0) = (if 0 > mt - (a : Int) then 0 else mt - (a : Int)) := by
      by_cases g : mt - (a : Int) > 0
      · rw [if_pos g, if_neg (by omega)]
      · rw [if_neg g]; split <;> omega
    have eX : line_End_Come ⟨mw, (B : Int) % 4294967296, ma.drop B, mt, ml, (K : Int) % 4294967296, mg, mo⟩ (cvp p) = line_End_Come.j1 mw (((B : Int) % 4294967296 + (a : Int) % 4294967296) % 4294967296) (ma.drop (B + a)) (if 0 > mt - (a : Int) then 0 else mt - (a : Int)) p.Window ((K : Int) % 4294967296) mg mo (cvp p) := by
      rw [hX, if_pos (show (a : Int) > 0 by omega), decide_eq_true (show (a : Int) ≤ ((ma.drop B).length : Int) by omega)]
      unfold line_End_Come.j2
      rw [if_pos rfl, sls_drop (k := a) rfl (by omega), Option.bind_some]
      unfold slices_Clone_84
      rw [ap_nil (by rw [List.length_drop, hdl]; omega), Option.bind_some, wu32, wu32, wrap_in (n := mt - (a : Int)) (by omega) (by omega), List.drop_drop, ht]; rfl
    have eM : roadref4_End_Come ⟨mw, ml, (B : Int), mt, ma, (K : Int), (mg.length : Int), mg, mo⟩ p = roadref4_End_Come.j4 mw p.Window ((B : Int) + (a : Int)) (if 0 > mt - (a : Int) then 0 else mt - (a : Int)) ma (K : Int) (mg.length : Int) mg mo p := by
      rw [eM0]
      unfold roadref4_End_Come.j2
      rw [hwl, within_val, Option.bind_some, decide_eq_true gp, if_pos rfl, wrap_in (n := (B : Int) + (a : Int)) (by omega) (by omega), wrap_in (n := mt - (a : Int)) (by omega) (by omega)]
    have R1 : Rel mw n ⟨mw, ((B : Int) % 4294967296 + (a : Int) % 4294967296) % 4294967296, ma.drop (B + a), (if 0 > mt - (a : Int) then 0 else mt - (a : Int)), p.Window, (K : Int) % 4294967296, mg, mo⟩ ⟨mw, p.Window, (B : Int) + (a : Int), (if 0 > mt - (a : Int) then 0 else mt - (a : Int)), ma, (K : Int), (mg.length : Int), mg, mo⟩ (B + a) K :=
      ⟨rfl, rfl, h3, h4, by show (B : Int) + (a : Int) = ((B + a : Nat) : Int); omega, by show B + a ≤ ma.length; omega, by show ((B : Int) % 4294967296 + (a : Int) % 4294967296) % 4294967296 = ((B + a : Nat) : Int) % 4294967296; omega, rfl, rfl, by show 0 ≤ (if 0 > mt - (a : Int) then 0 else mt - (a : Int)); split <;> omega, by show (if 0 > mt - (a : Int) then 0 else mt - (a : Int)) ≤ 16; split <;> omega, rfl, hw.1, hw.2, rfl, h16, rfl, rfl, rfl, h20, rfl, h22, by show ((ma.drop (B + a)).length : Int) ≤ mw; rw [List.length_drop]; omega, fun b hb => h24 b (by
        have hb : b ∈ ma.drop (B + a) := hb
        rw [← List.drop_drop] at hb
        exact List.mem_of_mem_drop hb)⟩
    obtain ⟨X', M', K', e1, e2, e3⟩ := come_end R1 hn hp hs
    exact ⟨X', M', B + a, K', eX.trans e1, eM.trans e2, e3⟩
  · obtain ⟨X', M', K', e1, e2, e3⟩ := come_end R0 hn hp hs
    have eX : line_End_Come ⟨mw, (B : Int) % 4294967296, ma.drop B, mt, ml, (K : Int) % 4294967296, mg, mo⟩ (cvp p) = line_End_Come.j1 mw ((B : Int) % 4294967296) (ma.drop B) mt ml ((K : Int) % 4294967296) mg mo (cvp p) := by
      rw [hX]
      unfold line_End_Come.j2
      by_cases gA : A > 0
      · rw [if_pos gA, decide_eq_false (by omega), if_neg (by decide), if_neg g0]
      · rw [if_neg gA, if_neg (by decide), if_neg g0]
    exact ⟨X', M', B, K', eX.trans e1, (eM0.trans (hj2 _ gp)).trans e2, e3⟩

/-! ### The law -/
theorem j5_val {x0 : Int} {bodies plays : List (List Int)} {ps : List RP} {w : Int} {i B K : Nat} {X : LE} {M : RE} (hi : i < 5864062014805) (R : Rel w (i + 1) X M B K)
    (hk : ∀ X M B K, Rel w (i + 1) X M B K → roadlaw4_LinePlays.l0 x0 bodies ps X.window_ X.base_ X.kept_ X.told_ X.limit_ X.want_ X.read_ X.owe_ M.Window M.Limit M.Base M.Told M.All M.Took M.Read M.Got M.Owe plays (plays.length : Int) ((i + 1 : Nat) : Int) = some true) :
    roadlaw4_LinePlays.j5 x0 bodies ps X.window_ X.base_ X.kept_ X.told_ X.limit_ X.want_ X.read_ X.owe_ M.Window M.Limit M.Base M.Told M.All M.Took M.Read M.Got M.Owe plays (plays.length : Int) (i : Int) = some true := by
  have h := hk X M B K R
  have hxk := R.xk
  have hmb := R.mb
  have hbl := R.bl
  rw [roadlaw4_LinePlays.j5_eq]
  unfold line_End_Idle
  have e : (((X.kept_.length : Nat) : Int) == 0) = (((M.All.length : Nat) : Int) == M.Base) := by
    rw [hxk, hmb, List.length_drop, Bool.eq_iff_iff, beq_iff_eq, beq_iff_eq]; omega
  rw [Option.bind_some]
  show (if ((((X.kept_.length : Nat) : Int) == 0) == (((M.All.length : Nat) : Int) == M.Base)) = true then _ else _) = _
  rw [e, if_pos (by simp), w_succ (by omega)]
  exact h
theorem Rel.more {w : Int} {n B K : Nat} {X : LE} {M : RE} (R : Rel w n X M B K) : Rel w (n + 1) X M B K := { R with kn := Nat.le_succ_of_le R.kn, al := Nat.le_succ_of_le R.al }
section
variable {x0 : Int} {bodies plays : List (List Int)} {ps : List RP} {i B K : Nat} {X : LE} {M : RE}
theorem j9_val (hi : i < 5864062014800) (R : Rel x0 i X M B K)
    (hk : ∀ X M B K, Rel x0 (i + 1) X M B K → roadlaw4_LinePlays.l0 x0 bodies ps X.window_ X.base_ X.kept_ X.told_ X.limit_ X.want_ X.read_ X.owe_ M.Window M.Limit M.Base M.Told M.All M.Took M.Read M.Got M.Owe plays (plays.length : Int) ((i + 1 : Nat) : Int) = some true)
    {q : RP} (hs : 0 ≤ q.Seq ∧ q.Seq < 4294967296) (ha : 0 ≤ q.Ack ∧ q.Ack < 4294967296) {b : Bool} (hb : b = decide (q.Window < 0 ∨ q.Window > 16)) :
    roadlaw4_LinePlays.j9 x0 bodies ps X.window_ X.base_ X.kept_ X.told_ X.limit_ X.want_ X.read_ X.owe_ M.Window M.Limit M.Base M.Told M.All M.Took M.Read M.Got M.Owe q 0 plays (plays.length : Int) (i : Int) b = some true := by
  subst hb
  have j7 : ∀ (e : Int) (X' : LE) (M' : RE) (B' K' : Nat), line_End_Come X (cvp q) = some (e, X') → Rel x0 (i + 1) X' M' B' K' → roadlaw4_LinePlays.j7 x0 bodies ps X.window_ X.base_ X.kept_ X.told_ X.limit_ X.want_ X.read_ X.owe_ M'.Window M'.Limit M'.Base M'.Told M'.All M'.Took M'.Read M'.Got M'.Owe q e plays (plays.length : Int) (i : Int) = some true := by
    intro e X' M' B' K' h1 h2
    rw [roadlaw4_LinePlays.j7_eq, packet_val, Option.bind_some]
    have h1' : line_End_Come (T_line_End.mk X.window_ X.base_ X.kept_ X.told_ X.limit_ X.want_ X.read_ X.owe_) (cvp q) = some (e, X') := h1
    rw [h1', Option.bind_some, if_pos rfl]
    exact j5_val (by omega) h2 hk
  rw [roadlaw4_LinePlays.j9_eq]
  by_cases h : q.Window < 0 ∨ q.Window > 16
  · rw [decide_eq_true h, if_pos rfl]
    refine j7 1 X M B K ?_ R.more
    unfold line_End_Come
    by_cases g : q.Window < 0
    · rw [if_pos (show (cvp q).Window < 0 from g)]
    · rw [if_neg (show ¬ (cvp q).Window < 0 from g), if_pos (show (cvp q).Window > 16 by show q.Window > 16; omega)]
  · rw [decide_eq_false h, if_neg (by decide)]
    by_cases hl : (q.Body.length : Int) > 1048576
    · rw [if_pos hl]
      refine j7 2 X M B K ?_ R.more
      unfold line_End_Come
      rw [if_neg (show ¬ (cvp q).Window < 0 by show ¬ q.Window < 0; omega), if_neg (show ¬ (cvp q).Window > 16 by show ¬ q.Window > 16; omega)]
      unfold line_End_Come.j0
      rw [if_pos (show ((cvp q).Body.length : Int) > 1048576 from hl)]
    · obtain ⟨X', M', B', K', e1, e2, e3⟩ := come_val R (by omega) (p := q) (by omega) hs ha (by omega)
      have e2' : roadref4_End_Come (T_roadref4_End.mk M.Window M.Limit M.Base M.Told M.All M.Took M.Read M.Got M.Owe) q = some M' := e2
      rw [if_neg hl, e2', Option.bind_some]
      exact j7 0 X' M' B' K' e1 e3
theorem put_val (hi : i < 5864062014800) (R : Rel x0 i X M B K)
    (hk : ∀ X M B K, Rel x0 (i + 1) X M B K → roadlaw4_LinePlays.l0 x0 bodies ps X.window_ X.base_ X.kept_ X.told_ X.limit_ X.want_ X.read_ X.owe_ M.Window M.Limit M.Base M.Told M.All M.Took M.Read M.Got M.Owe plays (plays.length : Int) ((i + 1 : Nat) : Int) = some true) (b : List Int) :
    (if (b.length : Int) > 1048576 then roadlaw4_LinePlays.j6 x0 bodies ps X.window_ X.base_ X.kept_ X.told_ X.limit_ X.want_ X.read_ X.owe_ M.Window M.Limit M.Base M.Told M.All M.Took M.Read M.Got M.Owe b 2 plays (plays.length : Int) (i : Int)
      else if IntKind.wrap .i64 ((M.All.length : Int) - M.Base) = x0 then roadlaw4_LinePlays.j6 x0 bodies ps X.window_ X.base_ X.kept_ X.told_ X.limit_ X.want_ X.read_ X.owe_ M.Window M.Limit M.Base M.Told M.All M.Took M.Read M.Got M.Owe b 9 plays (plays.length : Int) (i : Int)
      else Option.bind (ap 24 M.All [b]) fun l39 => roadlaw4_LinePlays.j6 x0 bodies ps X.window_ X.base_ X.kept_ X.told_ X.limit_ X.want_ X.read_ X.owe_ M.Window M.Limit M.Base M.Told l39 M.Took M.Read M.Got M.Owe b 0 plays (plays.length : Int) (i : Int)) = some true := by
  have hkl : (X.kept_.length : Int) = (M.All.length : Int) - (B : Int) := by have := R.bl; rw [R.xk, List.length_drop]; omega
  have hal := R.al
  have hw := R.w16
  have hbl := R.bl
  have e0 : line_End_Put (T_line_End.mk X.window_ X.base_ X.kept_ X.told_ X.limit_ X.want_ X.read_ X.owe_) b = if (b.length : Int) > 1048576 then some (2, X) else if (M.All.length : Int) - (B : Int) = x0 then some (9, X) else some (0, (T_line_End.mk X.window_ X.base_ (X.kept_ ++ [b]) X.told_ X.limit_ X.want_ X.read_ X.owe_)) := by
    unfold line_End_Put
    by_cases h1 : (b.length : Int) > 1048576
    · rw [if_pos h1, if_pos h1]
    rw [if_neg h1, if_neg h1]
    dsimp only
    by_cases h2 : (M.All.length : Int) - (B : Int) = x0
    · rw [if_pos (show (X.kept_.length : Int) = X.window_ by rw [R.xw, hkl]; exact h2), if_pos h2]
    rw [if_neg (show ¬ (X.kept_.length : Int) = X.window_ by rw [R.xw, hkl]; exact h2), if_neg h2, clone_val (by omega), Option.bind_some, ap_one (by have := R.kl; omega), Option.bind_some]
  rw [R.mb, wrap_in (by omega) (by omega)]
  by_cases h1 : (b.length : Int) > 1048576
  · rw [if_pos h1] at e0
    rw [if_pos h1, roadlaw4_LinePlays.j6_eq, e0, Option.bind_some, if_pos rfl, ← R.mb]
    exact j5_val (by omega) R.more hk
  rw [if_neg h1] at e0
  rw [if_neg h1]
  by_cases h2 : (M.All.length : Int) - (B : Int) = x0
  · rw [if_pos h2] at e0
    rw [if_pos h2, roadlaw4_LinePlays.j6_eq, e0, Option.bind_some, if_pos rfl, ← R.mb]
    exact j5_val (by omega) R.more hk
  rw [if_neg h2] at e0
  rw [if_neg h2, ap_one (by omega), Option.bind_some, roadlaw4_LinePlays.j6_eq, e0, Option.bind_some, if_pos rfl, ← R.mb]
  have hkl2 := R.kl
  refine j5_val (M := { M with All := M.All ++ [b] }) (B := B) (K := K) (by omega) ?_ hk
  exact { R with
    bl := by show B ≤ (M.All ++ [b]).length; rw [List.length_append]; omega
    xk := by show X.kept_ ++ [b] = (M.All ++ [b]).drop B; rw [List.drop_append_of_le_length hbl, R.xk]
    kn := Nat.le_succ_of_le R.kn
    al := by show (M.All ++ [b]).length ≤ i + 1; rw [List.length_append]; show M.All.length + 1 ≤ i + 1; omega
    kl := by show ((X.kept_ ++ [b]).length : Int) ≤ x0; rw [List.length_append]; show ((X.kept_.length + 1 : Nat) : Int) ≤ x0; omega
    kb := by
      intro z hz
      have hz : z ∈ X.kept_ ++ [b] := hz
      rcases List.mem_append.1 hz with hz | hz
      · exact R.kb z hz
      · rw [List.mem_singleton.1 hz]; omega }
end
theorem line_loop {x0 : Int} {bodies plays : List (List Int)} {ps : List RP} (hpl : plays.length * 24 ≤ 140737488351232) (hbo : bodies.length * 24 ≤ 140737488351232) (hps : ps.length * 48 ≤ 140737488351232) :
    ∀ (d i B K : Nat) (X : LE) (M : RE), i + d = plays.length → Rel x0 i X M B K → roadlaw4_LinePlays.l0 x0 bodies ps X.window_ X.base_ X.kept_ X.told_ X.limit_ X.want_ X.read_ X.owe_ M.Window M.Limit M.Base M.Told M.All M.Took M.Read M.Got M.Owe plays (plays.length : Int) (i : Int) = some true := by
  intro d
  induction d with
  | zero => intro i B K X M hi R; rw [roadlaw4_LinePlays.l0_eq, if_neg (by omega)]
  | succ d ih =>
    intro i B K X M hi R
    have hlt : i < plays.length := by omega
    have hk : ∀ X M B K, Rel x0 (i + 1) X M B K → roadlaw4_LinePlays.l0 x0 bodies ps X.window_ X.base_ X.kept_ X.told_ X.limit_ X.want_ X.read_ X.owe_ M.Window M.Limit M.Base M.Told M.All M.Took M.Read M.Got M.Owe plays (plays.length : Int) ((i + 1 : Nat) : Int) = some true := fun X M B K h => ih (i + 1) B K X M (by omega) h
    obtain ⟨k, hkv⟩ := at_some plays[i] (k := 1)
    obtain ⟨c, hcv⟩ := at_some plays[i] (k := 0)
    obtain ⟨z, hzv⟩ := at_some plays[i] (k := 2)
    rw [roadlaw4_LinePlays.l0_eq, if_pos (by omega), gi_at hlt, Option.bind_some, show roadlaw4_at plays[i] (1 : Int) = some k from hkv, Option.bind_some, show roadlaw4_at plays[i] (0 : Int) = some c from hcv, Option.bind_some]
    by_cases c1 : c = 1
    · rw [if_pos c1]
      obtain ⟨b, hb, _⟩ := pick_b (a := bodies) (by omega) k
      rw [hb, Option.bind_some]
      exact put_val (by omega) R hk b
    rw [if_neg c1]
    by_cases c2 : c = 2
    · rw [if_pos c2]
      obtain ⟨L, X', M', e1, e2, hL, R'⟩ := out_val R (by omega)
      have e1' : line_End_Out (T_line_End.mk X.window_ X.base_ X.kept_ X.told_ X.limit_ X.want_ X.read_ X.owe_) = some (L.map cvp, X') := e1
      have e2' : roadref4_End_Out (T_roadref4_End.mk M.Window M.Limit M.Base M.Told M.All M.Took M.Read M.Got M.Owe) = some (L, M') := e2
      rw [e1', Option.bind_some, e2', Option.bind_some]
      show Option.bind (slices_EqualFunc_28 (L.map cvp) L _) _ = _
      rw [eq28 (by omega), Option.bind_some, if_pos rfl]
      exact j5_val (by omega) R'.more hk
    rw [if_neg c2]
    by_cases c3 : c = 3
    · rw [if_pos c3]
      obtain ⟨p, hp, _⟩ := pick_p (a := ps) (by omega) k
      rw [hp, Option.bind_some, show roadlaw4_at plays[i] (2 : Int) = some z from hzv, Option.bind_some, Option.bind_some]
      split
      · rename_i hw
        exact j9_val (by omega) R hk (by dsimp only; rw [wu32]; omega) (by dsimp only; rw [wu32]; omega) (by rw [decide_eq_true (.inl hw)])
      · rename_i hw
        exact j9_val (by omega) R hk (by dsimp only; rw [wu32]; omega) (by dsimp only; rw [wu32]; omega) (decide_eq_decide.2 ⟨.inr, fun h => h.resolve_left hw⟩)
    rw [if_neg c3]
    by_cases c4 : c = 4
    · rw [if_pos c4]
      have hg := R.gl
      have e1 : line_End_Got (T_line_End.mk X.window_ X.base_ X.kept_ X.told_ X.limit_ X.want_ X.read_ X.owe_) = some (X.read_, T_line_End.mk X.window_ X.base_ X.kept_ X.told_ X.limit_ X.want_ [] (if X.owe_ = true then true else decide ((X.read_.length : Int) > 0))) := by
        unfold line_End_Got
        dsimp only
        by_cases h : X.owe_ = true
        · rw [if_pos h, if_pos h]
        · rw [if_neg h, if_neg h]
      have j8 : ∀ o : Bool, o = (if M.Owe = true then true else decide ((M.Got.length : Int) > 0)) → roadlaw4_LinePlays.j8 x0 bodies ps X.window_ X.base_ X.kept_ X.told_ X.limit_ X.want_ X.read_ X.owe_ M.Window M.Limit M.Base M.Told M.All M.Took 0 [] o M.Got plays (plays.length : Int) (i : Int) = some true := by
        intro o ho
        rw [roadlaw4_LinePlays.j8_eq, e1, Option.bind_some]
        show Option.bind (slices_EqualFunc_35 X.read_ M.Got _) _ = _
        rw [R.xr, eq35 (by omega), Option.bind_some, if_pos rfl]
        refine j5_val (X := T_line_End.mk X.window_ X.base_ X.kept_ X.told_ X.limit_ X.want_ [] (if X.owe_ = true then true else decide ((M.Got.length : Int) > 0))) (M := { M with Read := 0, Got := [], Owe := o }) (B := B) (K := K) (by omega) ?_ hk
        exact { R.more with xr := rfl, mr := rfl, gl := Nat.zero_le _, xo := by show (if X.owe_ = true then true else decide ((M.Got.length : Int) > 0)) = o; rw [ho, R.xo] }
      by_cases h : M.Owe = true
      · rw [if_pos h]; exact j8 true (by rw [if_pos h])
      · rw [if_neg h]; exact j8 _ (by rw [if_neg h])
    rw [if_neg c4]
    by_cases c5 : c = 5
    · rw [if_pos c5]
      have hkl : (X.kept_.length : Int) = (M.All.length : Int) - M.Base := by have := R.bl; rw [R.mb, R.xk, List.length_drop]; omega
      have hl0 := R.l0
      have hl16 := R.l16
      have e1 : line_End_Tick (T_line_End.mk X.window_ X.base_ X.kept_ X.told_ X.limit_ X.want_ X.read_ X.owe_) = some (if (M.All.length : Int) > M.Base then (T_line_End.mk X.window_ X.base_ X.kept_ 0 (if 1 > M.Limit then 1 else M.Limit) X.want_ X.read_ X.owe_) else (T_line_End.mk X.window_ X.base_ X.kept_ 0 M.Limit X.want_ X.read_ X.owe_)) := by
        unfold line_End_Tick
        dsimp only
        rw [R.xl, hkl]
        by_cases h : (M.All.length : Int) > M.Base
        · rw [if_pos (by omega), if_pos h]
        · rw [if_neg (by omega), if_neg h]
      have j10 : ∀ (l : Int) (b : Bool) (l' : Int), l' = (if b = true then 1 else M.Limit) → l = l' → roadlaw4_LinePlays.j10 x0 bodies ps X.window_ X.base_ X.kept_ 0 l X.want_ X.read_ X.owe_ M.Window M.Limit M.Base 0 M.All M.Took M.Read M.Got M.Owe plays (plays.length : Int) (i : Int) b = some true := by
        intro l b l' h1 h2
        subst h2
        have R1 : Rel x0 (i + 1) (T_line_End.mk X.window_ X.base_ X.kept_ 0 l X.want_ X.read_ X.owe_) { M with Told := 0, Limit := l } B K := { R.more with xt := rfl, t0 := Int.le_refl _, t16 := by show (0 : Int) ≤ 16; decide, xl := rfl, l0 := by show 0 ≤ l; rw [h1]; split <;> omega, l16 := by show l ≤ 16; rw [h1]; split <;> omega }
        have h := j5_val (plays := plays) (bodies := bodies) (ps := ps) (x0 := x0) (by omega) R1 hk
        rw [roadlaw4_LinePlays.j10_eq]
        cases b with
        | true => rw [if_pos rfl] at h1 ⊢; subst h1; exact h
        | false => rw [if_neg (by decide)] at h1 ⊢; subst h1; exact h
      rw [e1, Option.bind_some]
      by_cases h : (M.All.length : Int) > M.Base
      · rw [if_pos h, if_pos h]
        refine j10 (if 1 > M.Limit then 1 else M.Limit) _ _ rfl ?_
        by_cases g : M.Limit < 1
        · rw [decide_eq_true g, if_pos rfl, if_pos (by omega)]
        · rw [if_neg (show ¬ 1 > M.Limit by omega), if_neg (show ¬ decide (M.Limit < 1) = true from fun q => g (of_decide_eq_true q))]
      · rw [if_neg h, if_neg h]
        exact j10 M.Limit false _ rfl (by rw [if_neg (by decide)])
    rw [if_neg c5]
    exact j5_val (by omega) R.more hk
theorem new_in {w : Int} (h1 : 1 ≤ w) (h2 : w ≤ 16) : line_New w = some (some ⟨w, 0, [], 0, w, 0, [], false⟩, 0) := by
  unfold line_New
  rw [if_neg (by omega), decide_eq_false (by omega)]
  unfold line_New.j1 line_New.j0
  rw [if_neg (by decide)]
theorem new_out {w : Int} (h : w < 1 ∨ w > 16) : line_New w = some (none, 1) := by
  unfold line_New
  by_cases g : w < 1
  · rw [if_pos g]; unfold line_New.j1; rw [if_pos rfl]
  · rw [if_neg g, decide_eq_true (by omega)]; unfold line_New.j1; rw [if_pos rfl]
theorem rel0 {w : Int} (h1 : 1 ≤ w) (h2 : w ≤ 16) : Rel w 0 ⟨w, 0, [], 0, w, 0, [], false⟩ ⟨w, w, 0, 0, [], 0, 0, [], false⟩ 0 0 :=
  ⟨rfl, rfl, h1, h2, rfl, Nat.le_refl _, rfl, rfl, rfl, Int.le_refl _, by show (0 : Int) ≤ 16; decide, rfl, by show 0 ≤ w; omega, h2, rfl, Nat.le_refl _, rfl, rfl, rfl, Nat.zero_le _, rfl, Nat.le_refl _, by show (0 : Int) ≤ w; omega, fun b hb => by cases hb⟩
theorem LinePlays (x0 : Int) (plays bodies : List (List Int)) (ps : List T_roadref4_Packet) (q0 : -9223372036854775808 ≤ x0 ∧ x0 ≤ 9223372036854775807)
    (q1 : plays.length * 24 ≤ 140737488351232 ∧ ∀ a ∈ plays, (a.length * 8 ≤ 140737488351232 ∧ ∀ a' ∈ a, (-9223372036854775808 ≤ a' ∧ a' ≤ 9223372036854775807)))
    (q2 : bodies.length * 24 ≤ 140737488351232 ∧ ∀ a ∈ bodies, (a.length * 1 ≤ 140737488351232 ∧ ∀ a' ∈ a, (0 ≤ a' ∧ a' ≤ 255)))
    (q3 : ps.length * 48 ≤ 140737488351232 ∧ ∀ a ∈ ps, T_roadref4_Packet.Q a) : roadlaw4_LinePlays x0 plays bodies ps = some true := by
  have main : roadlaw4_LinePlays.j0 x0 plays bodies ps = some true := by
    unfold roadlaw4_LinePlays.j0
    by_cases h : x0 < 1 ∨ x0 > 16
    · rw [new_out h, Option.bind_some]
      show (if x0 < 1 then roadlaw4_LinePlays.j3_n12 x0 plays bodies ps 1 true else roadlaw4_LinePlays.j3_n12 x0 plays bodies ps 1 (decide (x0 > 16))) = _
      have t : roadlaw4_LinePlays.j3_n12 x0 plays bodies ps 1 true = some true := by unfold roadlaw4_LinePlays.j3_n12; rw [if_pos rfl, if_pos rfl]
      by_cases g : x0 < 1
      · rw [if_pos g]; exact t
      · rw [if_neg g, decide_eq_true (by omega)]; exact t
    · rw [new_in (by omega) (by omega), Option.bind_some]
      show (if x0 < 1 then _ else roadlaw4_LinePlays.j3 x0 plays bodies ps x0 0 [] 0 x0 0 [] false 0 (decide (x0 > 16))) = _
      rw [if_neg (by omega), decide_eq_false (by omega)]
      unfold roadlaw4_LinePlays.j3 roadlaw4_LinePlays.j2 roadlaw4_LinePlays.j4
      rw [if_neg (by decide), if_pos rfl]
      exact line_loop q1.1 q2.1 q3.1 plays.length 0 0 0 _ _ (by omega) (rel0 (w := x0) (by omega) (by omega))
  unfold roadlaw4_LinePlays
  rw [new_in (by decide) (by decide), Option.bind_some]
  simp only [Option.elim]
  rw [if_pos trivial]
  have p1 : line_End_Put ⟨1, 0, [], 0, 1, 0, [], false⟩ [7] = some (0, ⟨1, 0, [[7]], 0, 1, 0, [], false⟩) := by
    unfold line_End_Put
    rw [if_neg (by decide), if_neg (by decide), clone_val (by decide), Option.bind_some, ap_nil (by decide), Option.bind_some]
  have p2 : line_End_Put ⟨1, 0, [[7]], 0, 1, 0, [], false⟩ [8] = some (9, ⟨1, 0, [[7]], 0, 1, 0, [], false⟩) := by
    unfold line_End_Put
    rw [if_neg (by decide), if_pos (by decide)]
  rw [p1, Option.bind_some, if_pos rfl, p2, Option.bind_some]
  unfold roadlaw4_LinePlays.j1
  rw [if_neg (by decide)]
  have R1 : Rel 1 1 ⟨1, 0, [[7]], 0, 1, 0, [], false⟩ ⟨1, 1, 0, 0, [[7]], 0, 0, [], false⟩ 0 0 :=
    ⟨rfl, rfl, by decide, by decide, rfl, by decide, rfl, rfl, rfl, Int.le_refl _, by show (0 : Int) ≤ 16; decide, rfl, by show (0 : Int) ≤ 1; decide, by show (1 : Int) ≤ 16; decide, rfl, Nat.zero_le _, rfl, rfl, rfl, Nat.zero_le _, rfl, by decide, by decide, fun b hb => by
      have hb : b ∈ [[7]] := hb
      rw [List.mem_singleton.1 hb]; decide⟩
  have o1 := prog_loop (B := 0) (K := 0) (w := 1) (lim := 1) (kept := [[7]]) (got := []) (owe := false) (mn := 1) (t0 := 0) (by decide) (by decide) (by decide) (by decide) (fun b hb => by rw [List.mem_singleton.1 hb]; decide) (by decide) 1 0 ⟨0, 0, false, 1, []⟩ (by decide) rfl rfl (.inl (by decide))
  have o2 : line_End_Out ⟨1, 0, [[7]], 0, 1, 0, [], false⟩ = some ([(⟨0, 0, true, 1, [7]⟩ : LP)], ⟨1, 0, [[7]], 1, 1, 0, [], false⟩) := by
    unfold line_End_Out
    exact o1
  rw [o2, Option.bind_some]
  simp only [gi_cons, Option.bind_some]
  rw [if_pos (by rfl), if_pos trivial, if_pos trivial]
  exact main
end Go.Proofs.Ytklobcelbpjjcaa.Fw
