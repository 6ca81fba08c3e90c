/- Last part: what the law TreeSame needs, put together out of texts of this session. -/
import Derived.Lib.ItoaLen
import Derived.Test.YtnlocljmalhddabDoorRows
import Derived.WalkKit
import Derived.ProofKit
import Derived.OpenShut
import Derived.Deep.DeepHandedRow
import Derived.Lib.LaidTab
import Derived.Stop.LaidErr
import Derived.Test.YtnlocljmalhddabDoorCards
import Derived.Test.YtnlocljmalhddabDoorTie
import Derived.JoinedCond
import Derived.Deep.CondSized
import Derived.Test.YtnlocljmalhddabDoorZTreeSamed
section
namespace Go.Proofs.YtnlocljmalhddabDoor.Fw
open Go Go.Hw Go.Proofs
set_option linter.unusedVariables false
set_option linter.unusedSectionVars false
def BA0 : ByteArray := ByteArray.mk #[]
def cat : List ByteArray → ByteArray
  | [] => BA0
  | a :: l => a ++ cat l
theorem ba0_size : BA0.size = 0 := rfl
theorem app_size (a b : ByteArray) : (a ++ b).size = a.size + b.size := ByteArray.size_append
theorem app_assoc (a b c : ByteArray) : a ++ b ++ c = a ++ (b ++ c) := ByteArray.append_assoc
theorem app_nil (a : ByteArray) : a ++ BA0 = a := ByteArray.append_empty
theorem nil_app (a : ByteArray) : BA0 ++ a = a := ByteArray.empty_append
theorem cat_size : ∀ l : List ByteArray, (cat l).size = (l.map ByteArray.size).sum
  | [] => rfl
  | a :: l => by rw [cat, app_size, cat_size l, List.map_cons, List.sum_cons]
theorem cat_one (a : ByteArray) : cat [a] = a := by rw [cat, cat, app_nil]
theorem cat_loop' {α β : Type} {F : ByteArray → Int → Option β} {r : Option β} {l : List α} {T : α → ByteArray}
    (step : ∀ (s : ByteArray) (i : Nat) (hi : i < l.length), s.size + (T l[i]).size ≤ 1000000000000 → F s (i : Int) = F (s ++ T l[i]) ((i + 1 : Nat) : Int))
    (s : ByteArray) (hs : s.size + (cat (l.map T)).size ≤ 1000000000000) (fin : F (s ++ cat (l.map T)) (l.length : Int) = r) : F s 0 = r := by
  have key : ∀ (d i : Nat) (s : ByteArray), d + i = l.length → s.size + (cat ((l.drop i).map T)).size ≤ 1000000000000 → F s (i : Int) = F (s ++ cat ((l.drop i).map T)) (l.length : Int) := by
    intro d
    induction d with
    | zero =>
      intro i s hi hs
      obtain rfl : i = l.length := by omega
      rw [List.drop_length]
      show _ = F (s ++ BA0) _
      rw [app_nil]
    | succ d ih =>
      intro i s hi hs
      have hlt : i < l.length := by omega
      rw [List.drop_eq_getElem_cons hlt, List.map_cons] at hs ⊢
      rw [cat, app_size] at hs
      rw [step s i hlt (by omega), ih (i + 1) _ (by omega) (by rw [app_size]; omega), cat, app_assoc]
  have := key l.length 0 s (by omega) (by rw [List.drop_zero]; exact hs)
  rw [List.drop_zero] at this
  exact this.trans fin
theorem cat_loop {α β : Type} {F : ByteArray → Int → Option β} {E : ByteArray → Option β} {l : List α} {T : α → ByteArray}
    (step : ∀ (s : ByteArray) (i : Nat) (hi : i < l.length), s.size + (T l[i]).size ≤ 1000000000000 → F s (i : Int) = F (s ++ T l[i]) ((i + 1 : Nat) : Int))
    (fin : ∀ s, F s (l.length : Int) = E s) (s : ByteArray) (hs : s.size + (cat (l.map T)).size ≤ 1000000000000) : F s 0 = E (s ++ cat (l.map T)) := cat_loop' step s hs (fin _)
theorem sum_le {α : Type} {f g : α → Nat} : ∀ {l : List α}, (∀ x ∈ l, f x ≤ g x) → (l.map f).sum ≤ (l.map g).sum
  | [], _ => Nat.le_refl _
  | x :: l, h => by
    rw [List.map_cons, List.map_cons, List.sum_cons, List.sum_cons]
    exact Nat.add_le_add (h x (List.mem_cons_self ..)) (sum_le fun y hy => h y (List.mem_cons_of_mem _ hy))
theorem sum_mul {α : Type} (f : α → Nat) (k : Nat) : ∀ l : List α, (l.map fun x => k * f x).sum = k * (l.map f).sum
  | [] => rfl
  | x :: l => by rw [List.map_cons, List.map_cons, List.sum_cons, List.sum_cons, sum_mul f k l, Nat.mul_add]
theorem le_sum {α : Type} {f : α → Nat} : ∀ {l : List α} {x : α}, x ∈ l → f x ≤ (l.map f).sum
  | y :: l, x, h => by
    rw [List.map_cons, List.sum_cons]
    rcases List.mem_cons.1 h with rfl | h
    · omega
    · have := le_sum (f := f) h; omega
theorem cat_le {α : Type} {T : α → ByteArray} {g : α → Nat} {l : List α} (h : ∀ x ∈ l, (T x).size ≤ 22 * g x) : (cat (l.map T)).size ≤ 22 * (l.map g).sum := by
  rw [cat_size, List.map_map, ← sum_mul]
  exact sum_le h
theorem len_le_sum {α : Type} {f : α → Nat} : ∀ {l : List α}, (∀ x ∈ l, 1 ≤ f x) → l.length ≤ (l.map f).sum
  | [], _ => Nat.le_refl _
  | x :: l, h => by
    rw [List.map_cons, List.sum_cons, List.length_cons]
    have := h x (List.mem_cons_self ..); have := len_le_sum fun y hy => h y (List.mem_cons_of_mem x hy); omega
def i64 (x : Int) : Prop := -9223372036854775808 ≤ x ∧ x ≤ 9223372036854775807
theorem i64_nat {n : Nat} (h : n ≤ 1000000000000) : i64 (n : Int) := ⟨by omega, by omega⟩
def nm1 (x : Int) : ByteArray := itoaB x ++ ByteArray.mk #[44]
def nm (l : List Int) : ByteArray := cat (l.map nm1)
def tx1 (s : ByteArray) : ByteArray := nm [(s.size : Int)] ++ s
def tx (l : List ByteArray) : ByteArray := cat (l.map tx1)
theorem nm1_size {x : Int} (h : i64 x) : (nm1 x).size ≤ 22 := by
  unfold nm1
  rw [app_size]
  have h1 : (itoaB x).size = (Lib.itoa x).length := by unfold itoaB; show (Lib.itoa x).toArray.size = _; simp
  have h2 := Lib.itoa_length_le x h.1 h.2
  have h3 : (ByteArray.mk #[44]).size = 1 := rfl
  omega
theorem nm_size {l : List Int} (h : ∀ x ∈ l, i64 x) : (nm l).size ≤ 22 * l.length := by
  have := cat_le (T := nm1) (g := fun _ => 1) (l := l) fun x hx => nm1_size (h x hx)
  rw [List.map_const', List.sum_replicate_nat] at this
  unfold nm; omega
theorem itoa_val {x : Int} (h : i64 x) : strconv_Itoa x = some (itoaB x) := by unfold strconv_Itoa; rw [if_pos (show -9223372036854775808 ≤ x ∧ x ≤ 9223372036854775807 from h)]
theorem nums_val {l : List Int} (h : ∀ x ∈ l, i64 x) (hl : l.length ≤ 10000000) : roadref2_nums l = some (nm l) := by
  have hs := nm_size h
  unfold roadref2_nums
  have := cat_loop (F := fun s i => roadref2_nums.l0 s l (l.length : Int) i) (E := fun s => some s) (l := l) (T := nm1) (fun s i hi hs => by
    have hx := nm1_size (h _ (List.getElem_mem hi))
    have e1 : (nm1 l[i]).size = (itoaB l[i]).size + (ByteArray.mk #[44]).size := app_size ..
    rw [roadref2_nums.l0_eq, if_pos (by omega), gi_at hi, Option.bind_some, itoa_val (h _ (List.getElem_mem hi)), Option.bind_some, if_pos (by omega), if_pos (by show _ + (nm1 l[i]).size ≤ _; omega), w_succ (by omega)]
    rfl) (fun s => by rw [roadref2_nums.l0_eq, if_neg (by omega)]) BA0 (by rw [ba0_size]; unfold nm at hs; omega)
  rw [nil_app] at this
  exact this
theorem tx1_size {s : ByteArray} (h : s.size ≤ 1000000000000) : (tx1 s).size ≤ 22 + s.size := by
  unfold tx1
  rw [app_size]
  have := nm_size (l := [(s.size : Int)]) (by intro x hx; rw [List.mem_singleton.1 hx]; exact i64_nat h)
  simp only [List.length_cons, List.length_nil] at this
  omega
theorem tx_size {l : List ByteArray} (h : ∀ s ∈ l, s.size ≤ 1000000000000) : (tx l).size ≤ 22 * (l.map fun s => s.size + 1).sum :=
  cat_le fun s hs => by have := tx1_size (h s hs); omega
theorem texts_val {l : List ByteArray} (h : (l.map fun s => s.size + 1).sum ≤ 10000000) : roadref2_texts l = some (tx l) := by
  have h1 : ∀ s ∈ l, s.size + 1 ≤ 10000000 := fun s hs => Nat.le_trans (le_sum (f := fun s : ByteArray => s.size + 1) hs) h
  have hs := tx_size (l := l) fun s hs => by have := h1 s hs; omega
  have hlen : l.length ≤ 10000000 := Nat.le_trans (len_le_sum (f := fun s : ByteArray => s.size + 1) fun _ _ => by omega) h
  unfold roadref2_texts
  have := cat_loop (F := fun s i => roadref2_texts.l0 s l (l.length : Int) i) (E := fun s => some s) (l := l) (T := tx1) (fun s i hi hs => by
    have hx := h1 _ (List.getElem_mem hi)
    have e1 : (tx1 l[i]).size = (nm [((l[i]).size : Int)]).size + (l[i]).size := app_size ..
    rw [roadref2_texts.l0_eq, if_pos (by omega), gi_at hi, Option.bind_some, nums_val (by intro x hx'; rw [List.mem_singleton.1 hx']; exact i64_nat (by omega)) (by simp), Option.bind_some, if_pos (by omega), if_pos (by show _ + (tx1 l[i]).size ≤ _; omega), w_succ (by omega)]
    rfl) (fun s => by rw [roadref2_texts.l0_eq, if_neg (by omega)]) BA0 (by rw [ba0_size]; unfold tx at hs; omega)
  rw [nil_app] at this
  exact this
theorem tx_one (s : ByteArray) : tx [s] = tx1 s := cat_one _
theorem text_val {s : ByteArray} (h : s.size ≤ 5000000) : roadref2_texts [s] = some (tx1 s) := by
  rw [texts_val (by simp; omega), tx_one]
noncomputable def TM (t : T_api_Type) : ByteArray := (roadref2_TypeMark t).getD BA0
noncomputable def PM (t : T_api_Pat) : ByteArray := (roadref2_PatMark t).getD BA0
noncomputable def EM (t : T_api_Expr) : ByteArray := (roadref2_ExprMark t).getD BA0
noncomputable def AM (a : T_api_Arm) : ByteArray := PM a.Pat ++ EM a.Body
theorem getD_of {α : Type} {o : Option α} {x d : α} (h : o = some x) : o.getD d = x := by rw [h]; rfl
theorem i64_2 {a b : Int} (ha : i64 a) (hb : i64 b) : ∀ x ∈ [a, b], i64 x := by
  intro x hx; simp only [List.mem_cons, List.mem_nil_iff, or_false] at hx; rcases hx with rfl | rfl <;> assumption
theorem i64_1 {a : Int} (ha : i64 a) : ∀ x ∈ [a], i64 x := by
  intro x hx; rw [List.mem_singleton.1 hx]; exact ha
theorem i64_3 {a b c : Int} (ha : i64 a) (hb : i64 b) (hc : i64 c) : ∀ x ∈ [a, b, c], i64 x := by
  intro x hx; simp only [List.mem_cons, List.mem_nil_iff, or_false] at hx; rcases hx with rfl | rfl | rfl <;> assumption
theorem i64_6 {a b c d e f : Int} (ha : i64 a) (hb : i64 b) (hc : i64 c) (hd : i64 d) (he : i64 e) (hf : i64 f) : ∀ x ∈ [a, b, c, d, e, f], i64 x := by
  intro x hx; simp only [List.mem_cons, List.mem_nil_iff, or_false] at hx; rcases hx with rfl | rfl | rfl | rfl | rfl | rfl <;> assumption
theorem tbulk (t : T_api_Type) : t.bulk = t.Name.size + (t.Args.map T_api_Type.bulk).sum + 4 := by rw [T_api_Type.bulk_eq]; omega
theorem pbulk (t : T_api_Pat) : t.bulk = t.Text.size + (t.Args.map T_api_Pat.bulk).sum + 5 := by rw [T_api_Pat.bulk_eq]; omega
theorem ebulk (t : T_api_Expr) : t.bulk = t.Text.size + (t.Names.map fun s => s.size + 1).sum + (t.Types.map T_api_Type.bulk).sum + (t.Args.map T_api_Expr.bulk).sum + (t.Arms.map T_api_Arm.bulk).sum + 9 := by rw [T_api_Expr.bulk_eq]; omega
theorem abulk (t : T_api_Arm) : t.bulk = t.Pat.bulk + t.Body.bulk + 1 := rfl
theorem tbulk_pos (t : T_api_Type) : 1 ≤ t.bulk := by rw [tbulk]; omega
theorem pbulk_pos (t : T_api_Pat) : 1 ≤ t.bulk := by rw [pbulk]; omega
theorem ebulk_pos (t : T_api_Expr) : 1 ≤ t.bulk := by rw [ebulk]; omega
theorem abulk_pos (t : T_api_Arm) : 1 ≤ t.bulk := by rw [abulk]; omega
theorem type_mark : ∀ (n : Nat) (t : T_api_Type), t.bulk ≤ n → n ≤ 2000000 → t.Q →
    roadref2_TypeMark t = some (TM t) ∧ (TM t).size ≤ 22 * t.bulk ∧ TM t = nm [t.Kind, (t.Args.length : Int)] ++ tx1 t.Name ++ cat (t.Args.map TM) := by
  intro n
  induction n with
  | zero => intro t h; have := tbulk_pos t; omega
  | succ n ih =>
    intro t hn hN q
    obtain ⟨q1, q2, q3, q4⟩ := T_api_Type.Q_iff.1 q
    have hb := tbulk t
    have hlen : t.Args.length ≤ (t.Args.map T_api_Type.bulk).sum := len_le_sum fun x _ => tbulk_pos x
    have hc : ∀ x ∈ t.Args, roadref2_TypeMark x = some (TM x) ∧ (TM x).size ≤ 22 * x.bulk := fun x hx => by
      have := le_sum (f := T_api_Type.bulk) hx
      have := ih x (by omega) (by omega) (q4 x hx)
      exact ⟨this.1, this.2.1⟩
    have hcat := cat_le (T := TM) (g := T_api_Type.bulk) (l := t.Args) fun x hx => (hc x hx).2
    have hk : ∀ x ∈ [t.Kind, (t.Args.length : Int)], i64 x := i64_2 q1 (i64_nat (by omega))
    have h1 := nm_size hk
    have h2 := tx1_size (s := t.Name) (by omega)
    simp only [List.length_cons, List.length_nil] at h1
    have e : roadref2_TypeMark t = some (nm [t.Kind, (t.Args.length : Int)] ++ tx1 t.Name ++ cat (t.Args.map TM)) := by
      rw [roadref2_TypeMark_eq, nums_val hk (by simp), Option.bind_some, text_val (by omega), Option.bind_some, if_pos (by omega), roadref2_TypeMark.j0_eq]
      exact cat_loop (F := fun s i => roadref2_TypeMark.l0 s t.Args (t.Args.length : Int) i) (E := fun s => some s) (l := t.Args) (T := TM) (fun s i hi hs => by
        rw [roadref2_TypeMark.l0_eq, if_pos (by omega), gi_at hi, Option.bind_some, (hc _ (List.getElem_mem hi)).1, Option.bind_some, if_pos (by omega), w_succ (by omega)]) (fun s => by rw [roadref2_TypeMark.l0_eq, if_neg (by omega)]) _ (by rw [app_size]; omega)
    have e2 : TM t = _ := getD_of e
    refine ⟨by rw [e, e2], ?_, e2⟩
    rw [e2, app_size, app_size]; omega
theorem pat_mark : ∀ (n : Nat) (t : T_api_Pat), t.bulk ≤ n → n ≤ 2000000 → t.Q →
    roadref2_PatMark t = some (PM t) ∧ (PM t).size ≤ 22 * t.bulk ∧ PM t = nm [t.Kind, t.Num, (t.Args.length : Int)] ++ tx1 t.Text ++ cat (t.Args.map PM) := by
  intro n
  induction n with
  | zero => intro t h; have := pbulk_pos t; omega
  | succ n ih =>
    intro t hn hN q
    obtain ⟨q1, q0, q2, q3, q4⟩ := T_api_Pat.Q_iff.1 q
    have hb := pbulk t
    have hlen : t.Args.length ≤ (t.Args.map T_api_Pat.bulk).sum := len_le_sum fun x _ => pbulk_pos x
    have hc : ∀ x ∈ t.Args, roadref2_PatMark x = some (PM x) ∧ (PM x).size ≤ 22 * x.bulk := fun x hx => by
      have := le_sum (f := T_api_Pat.bulk) hx
      have := ih x (by omega) (by omega) (q4 x hx)
      exact ⟨this.1, this.2.1⟩
    have hcat := cat_le (T := PM) (g := T_api_Pat.bulk) (l := t.Args) fun x hx => (hc x hx).2
    have hk : ∀ x ∈ [t.Kind, t.Num, (t.Args.length : Int)], i64 x := i64_3 q1 q0 (i64_nat (by omega))
    have h1 := nm_size hk
    have h2 := tx1_size (s := t.Text) (by omega)
    simp only [List.length_cons, List.length_nil] at h1
    have e : roadref2_PatMark t = some (nm [t.Kind, t.Num, (t.Args.length : Int)] ++ tx1 t.Text ++ cat (t.Args.map PM)) := by
      rw [roadref2_PatMark_eq, nums_val hk (by simp), Option.bind_some, text_val (by omega), Option.bind_some, if_pos (by omega), roadref2_PatMark.j0_eq]
      exact cat_loop (F := fun s i => roadref2_PatMark.l0 s t.Args (t.Args.length : Int) i) (E := fun s => some s) (l := t.Args) (T := PM) (fun s i hi hs => by
        rw [roadref2_PatMark.l0_eq, if_pos (by omega), gi_at hi, Option.bind_some, (hc _ (List.getElem_mem hi)).1, Option.bind_some, if_pos (by omega), w_succ (by omega)]) (fun s => by rw [roadref2_PatMark.l0_eq, if_neg (by omega)]) _ (by rw [app_size]; omega)
    have e2 : PM t = _ := getD_of e
    refine ⟨by rw [e, e2], ?_, e2⟩
    rw [e2, app_size, app_size]; omega
theorem expr_mark : ∀ (n : Nat) (t : T_api_Expr), t.bulk ≤ n → n ≤ 2000000 → t.Q →
    roadref2_ExprMark t = some (EM t) ∧ (EM t).size ≤ 22 * t.bulk ∧ EM t = nm [t.Kind, t.Num, (t.Names.length : Int), (t.Types.length : Int), (t.Args.length : Int), (t.Arms.length : Int)] ++ tx1 t.Text ++ tx t.Names ++ cat (t.Types.map TM) ++ cat (t.Args.map EM) ++ cat (t.Arms.map AM) := by
  intro n
  induction n with
  | zero => intro t h; have := ebulk_pos t; omega
  | succ n ih =>
    intro t hn hN q
    obtain ⟨q1, q2, q3, ⟨q4, q5⟩, ⟨q6, q7⟩, ⟨q8, q9⟩, ⟨q10, q11⟩, _⟩ := T_api_Expr.Q_iff.1 q
    have hb := ebulk t
    have l1 : t.Names.length ≤ (t.Names.map fun s => s.size + 1).sum := len_le_sum fun x _ => by omega
    have l2 : t.Types.length ≤ (t.Types.map T_api_Type.bulk).sum := len_le_sum fun x _ => tbulk_pos x
    have l3 : t.Args.length ≤ (t.Args.map T_api_Expr.bulk).sum := len_le_sum fun x _ => ebulk_pos x
    have l4 : t.Arms.length ≤ (t.Arms.map T_api_Arm.bulk).sum := len_le_sum fun x _ => abulk_pos x
    have ht : ∀ x ∈ t.Types, roadref2_TypeMark x = some (TM x) ∧ (TM x).size ≤ 22 * x.bulk := fun x hx => by
      have := le_sum (f := T_api_Type.bulk) hx
      have := type_mark x.bulk x (Nat.le_refl _) (by omega) (q7 x hx)
      exact ⟨this.1, this.2.1⟩
    have hc : ∀ x ∈ t.Args, roadref2_ExprMark x = some (EM x) ∧ (EM x).size ≤ 22 * x.bulk := fun x hx => by
      have := le_sum (f := T_api_Expr.bulk) hx
      have := ih x (by omega) (by omega) (q9 x hx)
      exact ⟨this.1, this.2.1⟩
    have ha : ∀ x ∈ t.Arms, (roadref2_PatMark x.Pat = some (PM x.Pat) ∧ roadref2_ExprMark x.Body = some (EM x.Body)) ∧ (AM x).size ≤ 22 * x.bulk := fun x hx => by
      have hx1 := le_sum (f := T_api_Arm.bulk) hx
      have hx2 := abulk x
      have k1 := pat_mark x.Pat.bulk x.Pat (Nat.le_refl _) (by omega) (q11 x hx).1
      have k2 := ih x.Body (by omega) (by omega) (q11 x hx).2
      refine ⟨⟨k1.1, k2.1⟩, ?_⟩
      unfold AM
      rw [app_size, hx2]; omega
    have c0 := tx_size (l := t.Names) fun s hs => by have := le_sum (f := fun s : ByteArray => s.size + 1) hs; omega
    have c1 := cat_le (T := TM) (g := T_api_Type.bulk) (l := t.Types) fun x hx => (ht x hx).2
    have c2 := cat_le (T := EM) (g := T_api_Expr.bulk) (l := t.Args) fun x hx => (hc x hx).2
    have c3 := cat_le (T := AM) (g := T_api_Arm.bulk) (l := t.Arms) fun x hx => (ha x hx).2
    have hk : ∀ x ∈ [t.Kind, t.Num, (t.Names.length : Int), (t.Types.length : Int), (t.Args.length : Int), (t.Arms.length : Int)], i64 x := i64_6 q1 q2 (i64_nat (by omega)) (i64_nat (by omega)) (i64_nat (by omega)) (i64_nat (by omega))
    have h1 := nm_size hk
    have h2 := tx1_size (s := t.Text) (by omega)
    simp only [List.length_cons, List.length_nil] at h1
    have e : roadref2_ExprMark t = some (nm [t.Kind, t.Num, (t.Names.length : Int), (t.Types.length : Int), (t.Args.length : Int), (t.Arms.length : Int)] ++ tx1 t.Text ++ tx t.Names ++ cat (t.Types.map TM) ++ cat (t.Args.map EM) ++ cat (t.Arms.map AM)) := by
      rw [roadref2_ExprMark_eq, nums_val hk (by simp), Option.bind_some, text_val (by omega), Option.bind_some, if_pos (by omega), texts_val (by omega), Option.bind_some, if_pos (by rw [app_size]; omega), roadref2_ExprMark.j0_eq]
      refine (cat_loop (F := fun s i => roadref2_ExprMark.l0 t s t.Types (t.Types.length : Int) i) (E := fun s => roadref2_ExprMark.l1 t s t.Args (t.Args.length : Int) 0) (l := t.Types) (T := TM) (fun s i hi hs => by
        rw [roadref2_ExprMark.l0_eq, if_pos (by omega), gi_at hi, Option.bind_some, (ht _ (List.getElem_mem hi)).1, Option.bind_some, if_pos (by omega), w_succ (by omega)]) (fun s => by rw [roadref2_ExprMark.l0_eq, if_neg (by omega)]) _ (by rw [app_size, app_size]; omega)).trans ?_
      refine (cat_loop (F := fun s i => roadref2_ExprMark.l1 t s t.Args (t.Args.length : Int) i) (E := fun s => roadref2_ExprMark.l2 s t.Arms (t.Arms.length : Int) 0) (l := t.Args) (T := EM) (fun s i hi hs => by
        rw [roadref2_ExprMark.l1_eq, if_pos (by omega), gi_at hi, Option.bind_some, (hc _ (List.getElem_mem hi)).1, Option.bind_some, if_pos (by omega), w_succ (by omega)]) (fun s => by rw [roadref2_ExprMark.l1_eq, if_neg (by omega)]) _ (by rw [app_size, app_size, app_size]; omega)).trans ?_
      exact cat_loop (F := fun s i => roadref2_ExprMark.l2 s t.Arms (t.Arms.length : Int) i) (E := fun s => some s) (l := t.Arms) (T := AM) (fun s i hi hs => by
        have e1 : (AM t.Arms[i]).size = (PM t.Arms[i].Pat).size + (EM t.Arms[i].Body).size := app_size ..
        rw [roadref2_ExprMark.l2_eq, if_pos (by omega), gi_at hi, Option.bind_some, (ha _ (List.getElem_mem hi)).1.1, Option.bind_some, (ha _ (List.getElem_mem hi)).1.2, Option.bind_some, if_pos (by omega), if_pos (by show _ + (AM t.Arms[i]).size ≤ _; omega), w_succ (by omega)]
        rfl) (fun s => by rw [roadref2_ExprMark.l2_eq, if_neg (by omega)]) _ (by rw [app_size, app_size, app_size, app_size]; omega)
    have e2 : EM t = _ := getD_of e
    refine ⟨by rw [e, e2], ?_, e2⟩
    rw [e2, app_size, app_size, app_size, app_size, app_size]; omega
theorem tm_ok {t : T_api_Type} (h : t.bulk ≤ 2000000) (q : t.Q) : roadref2_TypeMark t = some (TM t) ∧ (TM t).size ≤ 22 * t.bulk := ⟨(type_mark _ t (Nat.le_refl _) h q).1, (type_mark _ t (Nat.le_refl _) h q).2.1⟩
theorem em_ok {t : T_api_Expr} (h : t.bulk ≤ 2000000) (q : t.Q) : roadref2_ExprMark t = some (EM t) ∧ (EM t).size ≤ 22 * t.bulk := ⟨(expr_mark _ t (Nat.le_refl _) h q).1, (expr_mark _ t (Nat.le_refl _) h q).2.1⟩
noncomputable def NL (l : List ByteArray) : ByteArray := nm [(l.length : Int)] ++ tx l
noncomputable def TL (l : List T_api_Type) : ByteArray := nm [(l.length : Int)] ++ cat (l.map TM)
noncomputable def FM (f : T_api_Func) : ByteArray := tx1 f.Name ++ NL f.Params ++ NL f.Names ++ TL f.Types ++ TM f.Out ++ EM f.Body
noncomputable def FL (l : List T_api_Func) : ByteArray := nm [(l.length : Int)] ++ cat (l.map FM)
noncomputable def UM (u : T_api_Use) : ByteArray := tx1 u.Name ++ nm [u.Low, u.High]
noncomputable def KM (m : T_api_Make) : ByteArray := tx1 m.Name ++ TL m.Args
noncomputable def DM (d : T_api_Data) : ByteArray := tx1 d.Name ++ nm [(d.Makes.length : Int)] ++ NL d.Params ++ cat (d.Makes.map KM)
noncomputable def RM (t : T_api_Trait) : ByteArray := tx1 t.Name ++ FL t.Funcs
noncomputable def IM (m : T_api_Impl) : ByteArray := tx [m.Trait, m.For] ++ FL m.Funcs
noncomputable def CM (a : T_api_Actor) : ByteArray := tx1 a.Name ++ NL a.Names ++ TL a.Types ++ TM a.Msg ++ EM a.Body
noncomputable def MK (p : T_api_Program) : ByteArray := tx1 p.Name ++ nm [p.Version, (p.Uses.length : Int), (p.Datas.length : Int), (p.Traits.length : Int), (p.Impls.length : Int), (p.Actors.length : Int)] ++ cat (p.Uses.map UM) ++ cat (p.Datas.map DM) ++ cat (p.Traits.map RM) ++ cat (p.Impls.map IM) ++ FL p.Funcs ++ cat (p.Actors.map CM)
theorem nm_one {n : Nat} (h : n ≤ 1000000000000) : (nm [(n : Int)]).size ≤ 22 := by
  have := nm_size (i64_1 (i64_nat h)); simpa using this
theorem nums_one {n : Nat} (h : n ≤ 1000000000000) : roadref2_nums [(n : Int)] = some (nm [(n : Int)]) := nums_val (i64_1 (i64_nat h)) (by simp)
theorem nl_ok {l : List ByteArray} (h : (l.map fun s => s.size + 1).sum ≤ 3000000) : roadref2_namesMark l = some (NL l) ∧ (NL l).size ≤ 22 * ((l.map fun s => s.size + 1).sum + 1) := by
  have l1 : l.length ≤ (l.map fun s => s.size + 1).sum := len_le_sum fun x _ => by omega
  have c0 := tx_size (l := l) fun s hs => by have := le_sum (f := fun s : ByteArray => s.size + 1) hs; omega
  have h1 := nm_one (n := l.length) (by omega)
  refine ⟨?_, by unfold NL; rw [app_size]; omega⟩
  unfold roadref2_namesMark
  rw [nums_one (by omega), Option.bind_some, texts_val (by omega), Option.bind_some, if_pos (by omega)]
  rfl
theorem tl_ok {l : List T_api_Type} (h : (l.map T_api_Type.bulk).sum ≤ 2000000) (q : ∀ t ∈ l, t.Q) : roadref2_typesMark l = some (TL l) ∧ (TL l).size ≤ 22 * ((l.map T_api_Type.bulk).sum + 1) := by
  have l1 : l.length ≤ (l.map T_api_Type.bulk).sum := len_le_sum fun x _ => tbulk_pos x
  have hc : ∀ x ∈ l, roadref2_TypeMark x = some (TM x) ∧ (TM x).size ≤ 22 * x.bulk := fun x hx => tm_ok (by have := le_sum (f := T_api_Type.bulk) hx; omega) (q x hx)
  have c0 := cat_le (T := TM) (g := T_api_Type.bulk) (l := l) fun x hx => (hc x hx).2
  have h1 := nm_one (n := l.length) (by omega)
  refine ⟨?_, by unfold TL; rw [app_size]; omega⟩
  unfold roadref2_typesMark
  rw [nums_one (by omega), Option.bind_some]
  exact cat_loop (F := fun s i => roadref2_typesMark.l0 s l (l.length : Int) i) (E := fun s => some s) (l := l) (T := TM) (fun s i hi hs => by
    rw [roadref2_typesMark.l0_eq, if_pos (by omega), gi_at hi, Option.bind_some, (hc _ (List.getElem_mem hi)).1, Option.bind_some, if_pos (by omega), w_succ (by omega)]) (fun s => by rw [roadref2_typesMark.l0_eq, if_neg (by omega)]) _ (by omega)
theorem fbulk (f : T_api_Func) : f.bulk = (f.Name.size + 1) + ((f.Params.map fun s => s.size + 1).sum + 1) + ((f.Names.map fun s => s.size + 1).sum + 1) + ((f.Types.map T_api_Type.bulk).sum + 1) + f.Out.bulk + f.Body.bulk + 1 := by unfold T_api_Func.bulk; omega
theorem fl_ok {l : List T_api_Func} (h : (l.map T_api_Func.bulk).sum ≤ 2000000) (q : ∀ t ∈ l, t.Q) : roadref2_funcsMark l = some (FL l) ∧ (FL l).size ≤ 22 * ((l.map T_api_Func.bulk).sum + 1) := by
  have l1 : l.length ≤ (l.map T_api_Func.bulk).sum := len_le_sum fun x _ => by rw [fbulk]; omega
  have key : ∀ x ∈ l, (FM x).size ≤ 22 * x.bulk ∧ ∀ (s : ByteArray) (i : Nat), i < l.length → l[i]? = some x → s.size + (FM x).size ≤ 1000000000000 → roadref2_funcsMark.l0 s l (l.length : Int) (i : Int) = roadref2_funcsMark.l0 (s ++ FM x) l (l.length : Int) ((i + 1 : Nat) : Int) := fun x hx => by
    have hx0 := le_sum (f := T_api_Func.bulk) hx
    have hb := fbulk x
    obtain ⟨_, ⟨_, _⟩, ⟨_, _⟩, ⟨_, q7⟩, q8, q9⟩ := q x hx
    have k0 := text_val (s := x.Name) (by omega)
    have s0 := tx1_size (s := x.Name) (by omega)
    have k1 := nl_ok (l := x.Params) (by omega)
    have k2 := nl_ok (l := x.Names) (by omega)
    have k3 := tl_ok (l := x.Types) (by omega) q7
    have k4 := tm_ok (t := x.Out) (by omega) q8
    have k5 := em_ok (t := x.Body) (by omega) q9
    have e1 : (FM x).size = (tx1 x.Name).size + (NL x.Params).size + (NL x.Names).size + (TL x.Types).size + (TM x.Out).size + (EM x.Body).size := by unfold FM; rw [app_size, app_size, app_size, app_size, app_size]
    refine ⟨by omega, fun s i hi hxi hs => ?_⟩
    have hgi : gi l (i : Int) = some x := by rw [gi_at hi]; rw [List.getElem?_eq_getElem hi] at hxi; exact hxi
    rw [roadref2_funcsMark.l0_eq, if_pos (by omega), hgi, Option.bind_some, k0, Option.bind_some, k1.1, Option.bind_some, if_pos (by omega), k2.1, Option.bind_some, if_pos (by rw [app_size]; omega), k3.1, Option.bind_some, if_pos (by rw [app_size, app_size]; omega), k4.1, Option.bind_some, if_pos (by rw [app_size, app_size, app_size]; omega), k5.1, Option.bind_some, if_pos (by rw [app_size, app_size, app_size, app_size]; omega), if_pos (by rw [app_size, app_size, app_size, app_size, app_size]; omega), w_succ (by omega)]
    rfl
  have c0 := cat_le (T := FM) (g := T_api_Func.bulk) (l := l) fun x hx => (key x hx).1
  have h1 := nm_one (n := l.length) (by omega)
  refine ⟨?_, by unfold FL; rw [app_size]; omega⟩
  unfold roadref2_funcsMark
  rw [nums_one (by omega), Option.bind_some]
  exact cat_loop (F := fun s i => roadref2_funcsMark.l0 s l (l.length : Int) i) (E := fun s => some s) (l := l) (T := FM) (fun s i hi hs => (key _ (List.getElem_mem hi)).2 s i hi (List.getElem?_eq_getElem hi) hs) (fun s => by rw [roadref2_funcsMark.l0_eq, if_neg (by omega)]) _ (by omega)
theorem prbulk (p : T_api_Program) : p.bulk = (p.Name.size + 1) + 1 + ((p.Uses.map T_api_Use.bulk).sum + 1) + ((p.Datas.map T_api_Data.bulk).sum + 1) + ((p.Traits.map T_api_Trait.bulk).sum + 1) + ((p.Impls.map T_api_Impl.bulk).sum + 1) + ((p.Funcs.map T_api_Func.bulk).sum + 1) + ((p.Actors.map T_api_Actor.bulk).sum + 1) + 1 := by unfold T_api_Program.bulk; omega
theorem mark_ok {p : T_api_Program} (h : p.bulk ≤ 2000000) (q : p.Q) : roadref2_Mark p = some (MK p) := by
  have hb := prbulk p
  obtain ⟨q1, q2, ⟨_, q3⟩, ⟨_, q4⟩, ⟨_, q5⟩, ⟨_, q6⟩, ⟨_, q7⟩, ⟨_, q8⟩⟩ := q
  have u1 : p.Uses.length ≤ (p.Uses.map T_api_Use.bulk).sum := len_le_sum fun x _ => by unfold T_api_Use.bulk; omega
  have u2 : p.Datas.length ≤ (p.Datas.map T_api_Data.bulk).sum := len_le_sum fun x _ => by unfold T_api_Data.bulk; omega
  have u3 : p.Traits.length ≤ (p.Traits.map T_api_Trait.bulk).sum := len_le_sum fun x _ => by unfold T_api_Trait.bulk; omega
  have u4 : p.Impls.length ≤ (p.Impls.map T_api_Impl.bulk).sum := len_le_sum fun x _ => by unfold T_api_Impl.bulk; omega
  have u6 : p.Actors.length ≤ (p.Actors.map T_api_Actor.bulk).sum := len_le_sum fun x _ => by unfold T_api_Actor.bulk; omega
  have hk : ∀ x ∈ [p.Version, (p.Uses.length : Int), (p.Datas.length : Int), (p.Traits.length : Int), (p.Impls.length : Int), (p.Actors.length : Int)], i64 x := i64_6 q2 (i64_nat (by omega)) (i64_nat (by omega)) (i64_nat (by omega)) (i64_nat (by omega)) (i64_nat (by omega))
  have n1 := nm_size hk
  simp only [List.length_cons, List.length_nil] at n1
  have n0 := tx1_size (s := p.Name) (by omega)
  -- the parts
  have hU : ∀ x ∈ p.Uses, roadref2_texts [x.Name] = some (tx1 x.Name) ∧ roadref2_nums [x.Low, x.High] = some (nm [x.Low, x.High]) ∧ (UM x).size = (tx1 x.Name).size + (nm [x.Low, x.High]).size ∧ (UM x).size ≤ 22 * x.bulk := fun x hx => by
    have hx0 := le_sum (f := T_api_Use.bulk) hx
    have hxb : x.bulk = x.Name.size + 4 := by unfold T_api_Use.bulk; omega
    obtain ⟨_, r2, r3⟩ := q3 x hx
    have s0 := tx1_size (s := x.Name) (by omega)
    have hk2 := i64_2 r2 r3
    have s1 := nm_size hk2
    simp only [List.length_cons, List.length_nil] at s1
    have e1 : (UM x).size = (tx1 x.Name).size + (nm [x.Low, x.High]).size := app_size ..
    exact ⟨text_val (by omega), nums_val hk2 (by simp), e1, by omega⟩
  have hK : ∀ d ∈ p.Datas, ∀ x ∈ d.Makes, roadref2_texts [x.Name] = some (tx1 x.Name) ∧ roadref2_typesMark x.Args = some (TL x.Args) ∧ (KM x).size = (tx1 x.Name).size + (TL x.Args).size ∧ (KM x).size ≤ 22 * x.bulk := fun d hd x hx => by
    have hd0 := le_sum (f := T_api_Data.bulk) hd
    have hdb : d.bulk = d.Name.size + (d.Params.map fun s => s.size + 1).sum + (d.Makes.map T_api_Make.bulk).sum + 4 := by unfold T_api_Data.bulk; omega
    have hx0 := le_sum (f := T_api_Make.bulk) hx
    have hxb : x.bulk = x.Name.size + (x.Args.map T_api_Type.bulk).sum + 3 := by unfold T_api_Make.bulk; omega
    have s0 := tx1_size (s := x.Name) (by omega)
    have k1 := tl_ok (l := x.Args) (by omega) ((q4 d hd).2.2.2 x hx).2.2
    have e1 : (KM x).size = (tx1 x.Name).size + (TL x.Args).size := app_size ..
    exact ⟨text_val (by omega), k1.1, e1, by omega⟩
  have hD : ∀ x ∈ p.Datas, roadref2_texts [x.Name] = some (tx1 x.Name) ∧ roadref2_nums [(x.Makes.length : Int)] = some (nm [(x.Makes.length : Int)]) ∧ roadref2_namesMark x.Params = some (NL x.Params) ∧ (DM x).size = (tx1 x.Name).size + (nm [(x.Makes.length : Int)]).size + (NL x.Params).size + (cat (x.Makes.map KM)).size ∧ (DM x).size ≤ 22 * x.bulk ∧ x.Makes.length ≤ 2000000 := fun x hx => by
    have hd0 := le_sum (f := T_api_Data.bulk) hx
    have hdb : x.bulk = x.Name.size + (x.Params.map fun s => s.size + 1).sum + (x.Makes.map T_api_Make.bulk).sum + 4 := by unfold T_api_Data.bulk; omega
    have l1 : x.Makes.length ≤ (x.Makes.map T_api_Make.bulk).sum := len_le_sum fun x _ => by unfold T_api_Make.bulk; omega
    have s0 := tx1_size (s := x.Name) (by omega)
    have k1 := nl_ok (l := x.Params) (by omega)
    have s1 := nm_one (n := x.Makes.length) (by omega)
    have c0 := cat_le (T := KM) (g := T_api_Make.bulk) (l := x.Makes) fun y hy => (hK x hx y hy).2.2.2
    have e1 : (DM x).size = (tx1 x.Name).size + (nm [(x.Makes.length : Int)]).size + (NL x.Params).size + (cat (x.Makes.map KM)).size := by unfold DM; rw [app_size, app_size, app_size]
    exact ⟨text_val (by omega), nums_one (by omega), k1.1, e1, by omega, by omega⟩
  have hR : ∀ x ∈ p.Traits, roadref2_texts [x.Name] = some (tx1 x.Name) ∧ roadref2_funcsMark x.Funcs = some (FL x.Funcs) ∧ (RM x).size = (tx1 x.Name).size + (FL x.Funcs).size ∧ (RM x).size ≤ 22 * x.bulk := fun x hx => by
    have hx0 := le_sum (f := T_api_Trait.bulk) hx
    have hxb : x.bulk = x.Name.size + (x.Funcs.map T_api_Func.bulk).sum + 3 := by unfold T_api_Trait.bulk; omega
    have s0 := tx1_size (s := x.Name) (by omega)
    have k1 := fl_ok (l := x.Funcs) (by omega) (q5 x hx).2.2
    have e1 : (RM x).size = (tx1 x.Name).size + (FL x.Funcs).size := app_size ..
    exact ⟨text_val (by omega), k1.1, e1, by omega⟩
  have hI : ∀ x ∈ p.Impls, roadref2_texts [x.Trait, x.For] = some (tx [x.Trait, x.For]) ∧ roadref2_funcsMark x.Funcs = some (FL x.Funcs) ∧ (IM x).size = (tx [x.Trait, x.For]).size + (FL x.Funcs).size ∧ (IM x).size ≤ 22 * x.bulk := fun x hx => by
    have hx0 := le_sum (f := T_api_Impl.bulk) hx
    have hxb : x.bulk = x.Trait.size + x.For.size + (x.Funcs.map T_api_Func.bulk).sum + 4 := by unfold T_api_Impl.bulk; omega
    have s0 := tx_size (l := [x.Trait, x.For]) (fun s hs => by simp only [List.mem_cons, List.mem_nil_iff, or_false] at hs; rcases hs with rfl | rfl <;> omega)
    simp only [List.map_cons, List.map_nil, List.sum_cons, List.sum_nil] at s0
    have k1 := fl_ok (l := x.Funcs) (by omega) (q6 x hx).2.2.2
    have e1 : (IM x).size = (tx [x.Trait, x.For]).size + (FL x.Funcs).size := app_size ..
    exact ⟨texts_val (by simp only [List.map_cons, List.map_nil, List.sum_cons, List.sum_nil]; omega), k1.1, e1, by omega⟩
  have hF := fl_ok (l := p.Funcs) (by omega) q7
  have hC : ∀ x ∈ p.Actors, roadref2_texts [x.Name] = some (tx1 x.Name) ∧ roadref2_namesMark x.Names = some (NL x.Names) ∧ roadref2_typesMark x.Types = some (TL x.Types) ∧ roadref2_TypeMark x.Msg = some (TM x.Msg) ∧ roadref2_ExprMark x.Body = some (EM x.Body) ∧ (CM x).size = (tx1 x.Name).size + (NL x.Names).size + (TL x.Types).size + (TM x.Msg).size + (EM x.Body).size ∧ (CM x).size ≤ 22 * x.bulk := fun x hx => by
    have hx0 := le_sum (f := T_api_Actor.bulk) hx
    have hxb : x.bulk = x.Name.size + (x.Names.map fun s => s.size + 1).sum + (x.Types.map T_api_Type.bulk).sum + x.Msg.bulk + x.Body.bulk + 4 := by unfold T_api_Actor.bulk; omega
    obtain ⟨_, ⟨_, _⟩, ⟨_, r3⟩, r4, r5⟩ := q8 x hx
    have s0 := tx1_size (s := x.Name) (by omega)
    have k2 := nl_ok (l := x.Names) (by omega)
    have k3 := tl_ok (l := x.Types) (by omega) r3
    have k4 := tm_ok (t := x.Msg) (by omega) r4
    have k5 := em_ok (t := x.Body) (by omega) r5
    have e1 : (CM x).size = (tx1 x.Name).size + (NL x.Names).size + (TL x.Types).size + (TM x.Msg).size + (EM x.Body).size := by unfold CM; rw [app_size, app_size, app_size, app_size]
    exact ⟨text_val (by omega), k2.1, k3.1, k4.1, k5.1, e1, by omega⟩
  have c1 := cat_le (T := UM) (g := T_api_Use.bulk) (l := p.Uses) fun x hx => (hU x hx).2.2.2
  have c2 := cat_le (T := DM) (g := T_api_Data.bulk) (l := p.Datas) fun x hx => (hD x hx).2.2.2.2.1
  have c3 := cat_le (T := RM) (g := T_api_Trait.bulk) (l := p.Traits) fun x hx => (hR x hx).2.2.2
  have c4 := cat_le (T := IM) (g := T_api_Impl.bulk) (l := p.Impls) fun x hx => (hI x hx).2.2.2
  have c5 := cat_le (T := CM) (g := T_api_Actor.bulk) (l := p.Actors) fun x hx => (hC x hx).2.2.2.2.2.2
  unfold roadref2_Mark
  rw [text_val (by omega), Option.bind_some, nums_val hk (by simp), Option.bind_some, if_pos (by omega)]
  unfold roadref2_Mark.j0
  refine (cat_loop (F := fun s i => roadref2_Mark.l0 p s p.Uses (p.Uses.length : Int) i) (E := fun s => roadref2_Mark.l1 p s p.Datas (p.Datas.length : Int) 0) (l := p.Uses) (T := UM) (fun s i hi hs => by
    obtain ⟨r1, r2, r3, r4⟩ := hU _ (List.getElem_mem hi)
    rw [roadref2_Mark.l0_eq, if_pos (by omega), gi_at hi, Option.bind_some, r1, Option.bind_some, r2, Option.bind_some, if_pos (by omega), if_pos (by rw [app_size]; omega), w_succ (by omega)]
    rfl) (fun s => by rw [roadref2_Mark.l0_eq, if_neg (by omega)]) _ (by rw [app_size]; omega)).trans ?_
  refine (cat_loop (F := fun s i => roadref2_Mark.l1 p s p.Datas (p.Datas.length : Int) i) (E := fun s => roadref2_Mark.l2 p s p.Traits (p.Traits.length : Int) 0) (l := p.Datas) (T := DM) (fun s i hi hs => by
    have hm := List.getElem_mem hi
    obtain ⟨r1, r2, r3, r4, r5, r6⟩ := hD _ hm
    rw [roadref2_Mark.l1_eq, if_pos (by omega), gi_at hi, Option.bind_some, r1, Option.bind_some, r2, Option.bind_some, if_pos (by omega), r3, Option.bind_some, if_pos (by rw [app_size]; omega), if_pos (by rw [app_size, app_size]; omega), roadref2_Mark.j1_eq]
    refine (cat_loop (F := fun s' j => roadref2_Mark.l5 p s' p.Datas (p.Datas.length : Int) (i : Int) p.Datas[i].Makes (p.Datas[i].Makes.length : Int) j) (E := fun s' => roadref2_Mark.l1 p s' p.Datas (p.Datas.length : Int) ((i + 1 : Nat) : Int)) (l := p.Datas[i].Makes) (T := KM) (fun s' j hj hs' => by
      obtain ⟨t1, t2, t3, t4⟩ := hK _ hm _ (List.getElem_mem hj)
      rw [roadref2_Mark.l5_eq, if_pos (by omega), gi_at hj, Option.bind_some, t1, Option.bind_some, t2, Option.bind_some, if_pos (by omega), if_pos (by rw [app_size]; omega), w_succ (by omega)]
      rfl) (fun s' => by rw [roadref2_Mark.l5_eq, if_neg (by omega), w_succ (by omega)]) _ (by rw [app_size, app_size, app_size]; omega)).trans ?_
    rw [app_assoc]
    rfl) (fun s => by rw [roadref2_Mark.l1_eq, if_neg (by omega)]) _ (by rw [app_size, app_size]; omega)).trans ?_
  refine (cat_loop (F := fun s i => roadref2_Mark.l2 p s p.Traits (p.Traits.length : Int) i) (E := fun s => roadref2_Mark.l3 p s p.Impls (p.Impls.length : Int) 0) (l := p.Traits) (T := RM) (fun s i hi hs => by
    obtain ⟨r1, r2, r3, r4⟩ := hR _ (List.getElem_mem hi)
    rw [roadref2_Mark.l2_eq, if_pos (by omega), gi_at hi, Option.bind_some, r1, Option.bind_some, r2, Option.bind_some, if_pos (by omega), if_pos (by rw [app_size]; omega), w_succ (by omega)]
    rfl) (fun s => by rw [roadref2_Mark.l2_eq, if_neg (by omega)]) _ (by rw [app_size, app_size, app_size]; omega)).trans ?_
  refine cat_loop' (F := fun s i => roadref2_Mark.l3 p s p.Impls (p.Impls.length : Int) i) (l := p.Impls) (T := IM) (fun s i hi hs => by
    obtain ⟨r1, r2, r3, r4⟩ := hI _ (List.getElem_mem hi)
    rw [roadref2_Mark.l3_eq, if_pos (by omega), gi_at hi, Option.bind_some, r1, Option.bind_some, r2, Option.bind_some, if_pos (by omega), if_pos (by rw [app_size]; omega), w_succ (by omega)]
    rfl) _ (by rw [app_size, app_size, app_size, app_size]; omega) ?_
  have hF2 := hF.2
  rw [roadref2_Mark.l3_eq, if_neg (by omega), hF.1, Option.bind_some, if_pos (by rw [app_size, app_size, app_size, app_size, app_size]; omega)]
  exact cat_loop (F := fun s i => roadref2_Mark.l4 s p.Actors (p.Actors.length : Int) i) (E := fun s => some s) (l := p.Actors) (T := CM) (fun s i hi hs => by
    obtain ⟨r1, r2, r3, r4, r5, r6, r7⟩ := hC _ (List.getElem_mem hi)
    rw [roadref2_Mark.l4_eq, if_pos (by omega), gi_at hi, Option.bind_some, r1, Option.bind_some, r2, Option.bind_some, if_pos (by omega), r3, Option.bind_some, if_pos (by rw [app_size]; omega), r4, Option.bind_some, if_pos (by rw [app_size, app_size]; omega), r5, Option.bind_some, if_pos (by rw [app_size, app_size, app_size]; omega), if_pos (by rw [app_size, app_size, app_size, app_size]; omega), w_succ (by omega)]
    rfl) (fun s => by rw [roadref2_Mark.l4_eq, if_neg (by omega)]) _ (by rw [app_size, app_size, app_size, app_size, app_size, app_size]; omega)
abbrev Ex := T_api_Expr
def parts (e : Ex) : List Ex := e.Args ++ e.Arms.map (·.Body)
theorem parts_lt {e x : Ex} (h : x ∈ parts e) : SizeOf.sizeOf x < SizeOf.sizeOf e := by
  have h0 : SizeOf.sizeOf e = 1 + SizeOf.sizeOf e.Kind + SizeOf.sizeOf e.Num + SizeOf.sizeOf e.Text + SizeOf.sizeOf e.Names + SizeOf.sizeOf e.Types + SizeOf.sizeOf e.Args + SizeOf.sizeOf e.Arms + SizeOf.sizeOf e.At := by cases e; simp
  unfold parts at h
  rcases List.mem_append.1 h with h | h
  · have := List.sizeOf_lt_of_mem h; omega
  · obtain ⟨a, ha, rfl⟩ := List.mem_map.1 h
    have h1 := List.sizeOf_lt_of_mem ha
    have h2 := T_api_Arm.lt_Body a
    omega
def walk (e : Ex) : List Ex := e :: (parts e).attach.flatMap fun y => walk y.1
termination_by SizeOf.sizeOf e
decreasing_by exact parts_lt y.2
theorem walk_eq (e : Ex) : walk e = e :: (parts e).flatMap walk := by
  rw [walk]
  congr 1
  have : ((parts e).attach.flatMap fun y => walk y.1) = ((parts e).attach.map (fun y => y.1)).flatMap walk := by rw [List.flatMap_map]
  rw [this, List.attach_map_subtype_val]
theorem walk_ind {p : Ex → Prop} (h : ∀ e, (∀ x ∈ parts e, p x) → p e) (e : Ex) : p e := by
  have key : ∀ n e, SizeOf.sizeOf e ≤ n → p e := by
    intro n
    induction n with
    | zero => intro e he; cases e; simp at he
    | succ n ih => exact fun e he => h e fun x hx => ih x (by have := parts_lt hx; omega)
  exact key _ e (Nat.le_refl _)
theorem len_flatMap (l : List Ex) : (l.flatMap walk).length = (l.map fun x => (walk x).length).sum := by rw [List.length_flatMap]
theorem sum_le2 {α : Type} {l : List α} {f g : α → Nat} (h : ∀ x ∈ l, f x ≤ g x) : (l.map f).sum ≤ (l.map g).sum := by
  induction l with
  | nil => simp
  | cons x l ih =>
    have h0 := h x (by simp)
    have h1 := ih (fun y hy => h y (by simp [hy]))
    simp only [List.map_cons, List.sum_cons]; omega
theorem sum_one {α : Type} (l : List α) : (l.map fun _ => 1).sum = l.length := by
  induction l with
  | nil => rfl
  | cons x l ih => rw [List.map_cons, List.sum_cons, ih, List.length_cons]; omega
theorem sum_mem {α : Type} {l : List α} {f : α → Nat} {x : α} (h : x ∈ l) : f x ≤ (l.map f).sum := by
  induction l with
  | nil => cases h
  | cons y l ih =>
    simp only [List.map_cons, List.sum_cons]
    rcases List.mem_cons.1 h with rfl | h
    · omega
    · have := ih h; omega
theorem walk_bulk (e : Ex) : (walk e).length ≤ e.bulk := by
  induction e using walk_ind with
  | h e ih =>
    have h1 : ((parts e).map fun x => (walk x).length).sum ≤ ((parts e).map T_api_Expr.bulk).sum := sum_le2 ih
    have h2 : ((parts e).map T_api_Expr.bulk).sum = (e.Args.map T_api_Expr.bulk).sum + (e.Arms.map fun a => a.Body.bulk).sum := by
      unfold parts; rw [List.map_append, List.sum_append, List.map_map]; rfl
    have h3 : (e.Arms.map fun a => a.Body.bulk).sum ≤ (e.Arms.map T_api_Arm.bulk).sum := sum_le2 fun a _ => by unfold T_api_Arm.bulk; omega
    rw [walk_eq, List.length_cons, len_flatMap, T_api_Expr.bulk_eq]
    omega
theorem parts_len (e : Ex) : (parts e).length ≤ (walk e).length := by
  rw [walk_eq, List.length_cons, len_flatMap]
  have := sum_one (parts e)
  have h2 : ((parts e).map fun _ => 1).sum ≤ ((parts e).map fun x => (walk x).length).sum := sum_le2 fun x _ => by rw [walk_eq]; simp
  omega
theorem all_l1 {out : List Ex} {x : Ex} (hx : (parts x).length ≤ 4194304) : ∀ (k : Nat) (row : List Ex), k ≤ x.Arms.length → row.length + k ≤ 8388608 → roadref2_All.l1 row out x ((k : Int) - 1) = roadref2_All.l2 (row ++ ((x.Arms.take k).map (·.Body)).reverse) out x ((x.Args.length : Int) - 1) := by
  have hp : (parts x).length = x.Args.length + x.Arms.length := by unfold parts; simp
  intro k
  induction k with
  | zero => intro row _ _; rw [roadref2_All.l1_eq, if_neg (by omega), wrap_in (by omega) (by omega)]; simp
  | succ k ih =>
    intro row hk hr
    have hlt : k < x.Arms.length := by omega
    rw [roadref2_All.l1_eq, if_pos (by omega), gi_some (k := k) (by omega) (List.getElem?_eq_getElem hlt), Option.bind_some, ap_one (by omega), Option.bind_some, wrap_in (by omega) (by omega), show ((k + 1 : Nat) : Int) - 1 - 1 = (k : Int) - 1 by omega, ih _ (by omega) (by simp; omega), List.take_succ_eq_append_getElem hlt, List.map_append, List.reverse_append]
    simp only [List.map_cons, List.map_nil, List.reverse_singleton, List.append_assoc]
theorem all_l2 {out : List Ex} {x : Ex} (hx : (parts x).length ≤ 4194304) : ∀ (k : Nat) (row : List Ex), k ≤ x.Args.length → row.length + k ≤ 16777216 → roadref2_All.l2 row out x ((k : Int) - 1) = roadref2_All.l0 (row ++ (x.Args.take k).reverse) out := by
  have hp : (parts x).length = x.Args.length + x.Arms.length := by unfold parts; simp
  intro k
  induction k with
  | zero => intro row _ _; rw [roadref2_All.l2_eq, if_neg (by omega)]; simp
  | succ k ih =>
    intro row hk hr
    have hlt : k < x.Args.length := by omega
    rw [roadref2_All.l2_eq, if_pos (by omega), gi_some (k := k) (by omega) (List.getElem?_eq_getElem hlt), Option.bind_some, ap_one (by omega), Option.bind_some, wrap_in (by omega) (by omega), show ((k + 1 : Nat) : Int) - 1 - 1 = (k : Int) - 1 by omega, ih _ (by omega) (by simp; omega), List.take_succ_eq_append_getElem hlt, List.reverse_append]
    simp only [List.reverse_singleton, List.append_assoc]
theorem all_l0 : ∀ (n : Nat) (row out : List Ex), (row.reverse.flatMap walk).length ≤ n → out.length + n ≤ 4194304 → roadref2_All.l0 row out = some (out ++ row.reverse.flatMap walk) := by
  intro n
  induction n using Nat.strongRecOn with
  | _ n ih =>
    intro row out h1 h2
    rw [roadref2_All.l0_eq]
    by_cases h0 : row = []
    · subst h0; rw [if_neg (by simp)]; simp
    · obtain ⟨pre, x, rfl⟩ : ∃ pre x, row = pre ++ [x] := ⟨row.dropLast, row.getLast h0, (List.dropLast_concat_getLast h0).symm⟩
      have hrl : ∀ l : List Ex, l.length ≤ (l.flatMap walk).length := by
        intro l
        rw [len_flatMap]
        rw [← sum_one l]
        exact sum_le2 fun x _ => by rw [walk_eq]; simp
      have hw := hrl (pre ++ [x]).reverse
      have hr2 : (pre ++ [x]).reverse = x :: pre.reverse := by simp
      rw [hr2, List.flatMap_cons, List.length_append, walk_eq x, List.length_cons] at h1
      rw [hr2, List.flatMap_cons, List.length_append, walk_eq x] at hw
      simp only [List.length_cons, List.length_reverse] at hw
      have hpl := parts_len x
      rw [walk_eq x, List.length_cons] at hpl
      have hp : (parts x).length = x.Args.length + x.Arms.length := by unfold parts; simp
      have hlen : (pre ++ [x]).length = pre.length + 1 := by simp
      have hwl : (x :: pre.reverse).length = pre.length + 1 := by simp
      rw [if_pos (by omega), hlen, wrap_in (by omega) (by omega), show ((pre.length + 1 : Nat) : Int) - 1 = (pre.length : Int) by omega, gi_some (k := pre.length) rfl (by simp : (pre ++ [x])[pre.length]? = some x), Option.bind_some, sls_take (k := pre.length) rfl (by simp), Option.bind_some, List.take_left' rfl, ap_one (by omega), Option.bind_some, wrap_in (by omega) (by omega), all_l1 (by omega) _ _ (Nat.le_refl _) (by omega), all_l2 (by omega) _ _ (Nat.le_refl _) (by simp; omega), List.take_of_length_le (Nat.le_refl _), List.take_of_length_le (Nat.le_refl _)]
      have e : (pre ++ (x.Arms.map (·.Body)).reverse ++ x.Args.reverse).reverse = parts x ++ pre.reverse := by simp [parts]
      rw [ih (n - 1) (by omega) _ _ (by rw [e, List.flatMap_append, List.length_append]; omega) (by simp; omega), e, hr2, List.flatMap_cons, walk_eq x]
      simp
theorem all_val (e : Ex) (h : (walk e).length ≤ 4194304) : roadref2_All e = some (walk e) := by
  unfold roadref2_All
  have := all_l0 (walk e).length [e] [] (by simp) (by simpa using h)
  simpa using this
theorem part_bulk {e x : Ex} (h : x ∈ parts e) : x.bulk < e.bulk := by
  rw [T_api_Expr.bulk_eq e]
  unfold parts at h
  rcases List.mem_append.1 h with h | h
  · have := sum_mem (f := T_api_Expr.bulk) h; omega
  · obtain ⟨a, ha, rfl⟩ := List.mem_map.1 h
    have := sum_mem (f := T_api_Arm.bulk) ha
    have h2 : a.Body.bulk ≤ a.bulk := by unfold T_api_Arm.bulk; omega
    omega
theorem walk_mem {e x : Ex} : x ∈ walk e ↔ x = e ∨ ∃ y ∈ parts e, x ∈ walk y := by rw [walk_eq]; simp
theorem mem_bulk (e : Ex) : ∀ x ∈ walk e, x.bulk ≤ e.bulk := by
  induction e using walk_ind with
  | h e ih =>
    intro x hx
    rcases walk_mem.1 hx with rfl | ⟨y, hy, h2⟩
    · exact Nat.le_refl _
    · have := ih y hy x h2
      have := part_bulk hy
      omega
theorem pats_val (p : T_api_Pat) (hp : p.bulk ≤ 1048576) : ∃ l, roadref2_pats p = some l ∧ l.length ≤ 1048576 := by
  have one : ∀ x : T_api_Pat, 1 ≤ x.bulk := fun x => by rw [T_api_Pat.bulk_eq]; omega
  have hlen : ∀ l : List T_api_Pat, l.length ≤ (l.map T_api_Pat.bulk).sum := fun l => by rw [← sum_one l]; exact sum_le2 fun x _ => one x
  have loop : ∀ (n : Nat) (pre r : List T_api_Pat), (r.map T_api_Pat.bulk).sum ≤ n → pre.length + n ≤ 1048576 → ∃ l, roadref2_pats.l0 (pre ++ r) (pre.length : Int) = some l ∧ l.length ≤ 1048576 := by
    intro n
    induction n using Nat.strongRecOn with
    | _ n ih =>
      intro pre r h1 h2
      have hl := hlen r
      rw [roadref2_pats.l0_eq]
      cases r with
      | nil => rw [if_neg (by simp)]; exact ⟨_, rfl, by simp; omega⟩
      | cons x r =>
        have hx := T_api_Pat.bulk_eq x
        have hc := hlen x.Args
        rw [List.map_cons, List.sum_cons] at h1
        have hlr := hlen r
        have e1 : (pre ++ x :: r).length = pre.length + (r.length + 1) := by simp
        rw [if_pos (by omega), gi_some (k := pre.length) rfl (by simp : (pre ++ x :: r)[pre.length]? = some x), Option.bind_some, ap_of (by rw [e1]; omega), Option.bind_some, w_succ (by omega)]
        have := ih (n - 1) (by omega) (pre ++ [x]) (r ++ x.Args) (by rw [List.map_append, List.sum_append]; omega) (by simp; omega)
        simpa using this
  unfold roadref2_pats
  exact loop p.bulk [] [p] (by simp) (by simpa using hp)
theorem size_val (e : Ex) (he : e.bulk ≤ 1048576) : ∃ n, roadref2_SizeOf e = some n := by
  have hw := walk_bulk e
  unfold roadref2_SizeOf
  rw [all_val e (by omega), Option.bind_some]
  have hl : ∀ x ∈ walk e, x.bulk ≤ 1048576 := fun x hx => Nat.le_trans (mem_bulk e x hx) he
  have l1 : ∀ (x : Ex) (k : Nat), x.bulk ≤ 1048576 → (∀ m, ∃ n, roadref2_SizeOf.l0 m (walk e) ((walk e).length : Int) (IntKind.wrap .i64 ((k : Int) + 1)) = some n) → ∀ (r pre : List T_api_Arm) (m : Int), x.Arms = pre ++ r → ∃ n, roadref2_SizeOf.l1 m (walk e) ((walk e).length : Int) (k : Int) x.Arms (x.Arms.length : Int) (pre.length : Int) = some n := by
    intro x k hx hn r
    have hx2 := T_api_Expr.bulk_eq x
    have hal : x.Arms.length ≤ (x.Arms.map T_api_Arm.bulk).sum := by rw [← sum_one x.Arms]; exact sum_le2 fun a _ => by unfold T_api_Arm.bulk; omega
    induction r with
    | nil =>
      intro pre m h
      rw [roadref2_SizeOf.l1_eq, if_neg (by rw [h]; simp)]; exact hn m
    | cons a r ih =>
      intro pre m h
      have hlen : x.Arms.length = pre.length + (r.length + 1) := by rw [h]; simp
      have ha := sum_mem (f := T_api_Arm.bulk) (show a ∈ x.Arms by rw [h]; simp)
      have hap : a.Pat.bulk ≤ a.bulk := by unfold T_api_Arm.bulk; omega
      obtain ⟨l, hl, _⟩ := pats_val a.Pat (by omega)
      rw [roadref2_SizeOf.l1_eq, if_pos (by omega), gi_some (k := pre.length) rfl (by rw [h]; simp : x.Arms[pre.length]? = some a), Option.bind_some, hl, Option.bind_some, w_succ (by omega)]
      have := ih (pre ++ [a]) (IntKind.wrap .i64 (m + (l.length : Int))) (by simpa using h)
      simpa using this
  have l0 : ∀ (d k : Nat) (m : Int), k + d = (walk e).length → ∃ n, roadref2_SizeOf.l0 m (walk e) ((walk e).length : Int) (k : Int) = some n := by
    intro d
    induction d with
    | zero => intro k m hk; rw [roadref2_SizeOf.l0_eq, if_neg (by omega)]; exact ⟨_, rfl⟩
    | succ d ih =>
      intro k m hk
      have hlt : k < (walk e).length := by omega
      rw [roadref2_SizeOf.l0_eq, if_pos (by omega), gi_at hlt, Option.bind_some]
      exact l1 _ k (hl _ (List.getElem_mem hlt)) (fun m => by rw [w_succ (by omega)]; exact ih (k + 1) m (by omega)) _ [] _ rfl
  exact l0 _ 0 _ (Nat.zero_add _)
abbrev Pg := T_api_Program
def fs (p : Pg) : List T_api_Func := p.Impls.flatMap (·.Funcs) ++ p.Funcs
def bs (p : Pg) : List Ex := (fs p).map (·.Body) ++ p.Actors.map (·.Body)
theorem bs_bulk (p : Pg) : ((bs p).map T_api_Expr.bulk).sum ≤ p.bulk := by
  have h1 : ((bs p).map T_api_Expr.bulk).sum = (p.Impls.map fun m => (m.Funcs.map fun f => f.Body.bulk).sum).sum + (p.Funcs.map fun f => f.Body.bulk).sum + (p.Actors.map fun a => a.Body.bulk).sum := by
    unfold bs fs
    simp only [List.map_append, List.sum_append, List.map_map, List.map_flatMap]
    congr 1
    congr 1
    generalize p.Impls = l
    induction l with
    | nil => rfl
    | cons m l ih => rw [List.flatMap_cons, List.sum_append, ih, List.map_cons, List.sum_cons]; rfl
  have h2 : (p.Funcs.map fun f => f.Body.bulk).sum ≤ (p.Funcs.map T_api_Func.bulk).sum := sum_le2 fun f _ => by unfold T_api_Func.bulk; omega
  have h3 : (p.Actors.map fun f => f.Body.bulk).sum ≤ (p.Actors.map T_api_Actor.bulk).sum := sum_le2 fun f _ => by unfold T_api_Actor.bulk; omega
  have h4 : (p.Impls.map fun m => (m.Funcs.map fun f => f.Body.bulk).sum).sum ≤ (p.Impls.map T_api_Impl.bulk).sum := sum_le2 fun m _ => by
    have : (m.Funcs.map fun f => f.Body.bulk).sum ≤ (m.Funcs.map T_api_Func.bulk).sum := sum_le2 fun f _ => by unfold T_api_Func.bulk; omega
    unfold T_api_Impl.bulk; omega
  rw [h1]; unfold T_api_Program.bulk; omega
theorem one_bulk (e : Ex) : 1 ≤ e.bulk := by rw [T_api_Expr.bulk_eq]; omega
theorem bs_len (p : Pg) : (bs p).length ≤ p.bulk := by
  have := bs_bulk p
  have h2 : (bs p).length ≤ ((bs p).map T_api_Expr.bulk).sum := by rw [← sum_one (bs p)]; exact sum_le2 fun x _ => one_bulk x
  omega
theorem fs_len (p : Pg) : (fs p).length ≤ p.bulk := by
  have := bs_len p
  unfold bs at this
  simp at this; omega
theorem impls_len (p : Pg) : p.Impls.length ≤ p.bulk := by
  have : p.Impls.length ≤ (p.Impls.map T_api_Impl.bulk).sum := by rw [← sum_one p.Impls]; exact sum_le2 fun x _ => by unfold T_api_Impl.bulk; omega
  unfold T_api_Program.bulk; omega
theorem actors_len (p : Pg) : p.Actors.length ≤ p.bulk := by
  have : p.Actors.length ≤ (p.Actors.map T_api_Actor.bulk).sum := by rw [← sum_one p.Actors]; exact sum_le2 fun x _ => by unfold T_api_Actor.bulk; omega
  unfold T_api_Program.bulk; omega
theorem bs_mem {p : Pg} {e : Ex} (h : e ∈ bs p) : e.bulk ≤ p.bulk := Nat.le_trans (sum_mem (f := T_api_Expr.bulk) h) (bs_bulk p)
section
variable {p : Pg} (hb : p.bulk ≤ 1048576)
include hb
theorem funs_val : roadref2_FunsOf p = some (fs p) := by
  have hl := fs_len p
  have hi := impls_len p
  have h1 : (fs p).length = (p.Impls.flatMap (·.Funcs)).length + p.Funcs.length := by unfold fs; simp
  have loop : ∀ (r pre : List T_api_Impl) (acc : List T_api_Func), p.Impls = pre ++ r → acc = pre.flatMap (·.Funcs) → roadref2_FunsOf.l0 p acc p.Impls (p.Impls.length : Int) (pre.length : Int) = some (fs p) := by
    intro r
    induction r with
    | nil =>
      intro pre acc he ha
      have e0 : pre = p.Impls := by rw [he]; simp
      subst ha
      rw [roadref2_FunsOf.l0_eq, if_neg (by rw [he]; simp), e0, ap_of (by omega), Option.bind_some]
      rfl
    | cons m r ih =>
      intro pre acc he ha
      have hlen : p.Impls.length = pre.length + (r.length + 1) := by rw [he]; simp
      have h2 : (p.Impls.flatMap (·.Funcs)).length = (pre.flatMap (·.Funcs)).length + (m.Funcs.length + (r.flatMap (·.Funcs)).length) := by rw [he, List.flatMap_append, List.flatMap_cons, List.length_append, List.length_append]
      have hg : gi p.Impls (pre.length : Int) = some m := gi_some (k := pre.length) rfl (by rw [he]; simp)
      subst ha
      rw [roadref2_FunsOf.l0_eq, if_pos (by omega), hg, Option.bind_some, ap_of (by omega), Option.bind_some, w_succ (by omega)]
      have := ih (pre ++ [m]) (pre.flatMap (·.Funcs) ++ m.Funcs) (by simpa using he) (by simp)
      simpa using this
  exact loop p.Impls [] [] rfl rfl
omit hb in
theorem bs_split (p : Pg) : bs p = (p.Impls.flatMap fun m => m.Funcs.map (·.Body)) ++ (p.Funcs.map (·.Body) ++ p.Actors.map (·.Body)) := by
  unfold bs fs
  rw [List.map_append, List.map_flatMap, List.append_assoc]
theorem bodies_val : tree_Bodies p = some (bs p) ∧ roadref2_BodiesOf p = some (bs p) := by
  have hl := bs_len p
  have hi := impls_len p
  have hf := fs_len p
  have ha := actors_len p
  have hs := bs_split p
  have hlen : (bs p).length = (p.Impls.flatMap fun m => m.Funcs.map (·.Body)).length + (p.Funcs.length + p.Actors.length) := by rw [hs]; simp only [List.length_append, List.length_map]
  have hfl : p.Funcs.length ≤ (fs p).length := by unfold fs; simp
  have l2 : ∀ (r pre : List T_api_Actor) (acc : List Ex), p.Actors = pre ++ r → acc.length + r.length ≤ 4194304 → tree_Bodies.l2 acc p.Actors (p.Actors.length : Int) (pre.length : Int) = some (acc ++ r.map (·.Body)) ∧ roadref2_BodiesOf.l1 acc p.Actors (p.Actors.length : Int) (pre.length : Int) = some (acc ++ r.map (·.Body)) := by
    intro r
    induction r with
    | nil => intro pre acc he _; rw [tree_Bodies.l2_eq, roadref2_BodiesOf.l1_eq, if_neg (by rw [he]; simp), if_neg (by rw [he]; simp)]; simp
    | cons x r ih =>
      intro pre acc he h
      have hn : p.Actors.length = pre.length + (r.length + 1) := by rw [he]; simp
      have hg : gi p.Actors (pre.length : Int) = some x := gi_some (k := pre.length) rfl (by rw [he]; simp)
      rw [List.length_cons] at h
      rw [tree_Bodies.l2_eq, roadref2_BodiesOf.l1_eq, if_pos (by omega), if_pos (by omega), hg, Option.bind_some, Option.bind_some, ap_one (by omega), Option.bind_some, Option.bind_some, w_succ (by omega)]
      have := ih (pre ++ [x]) (acc ++ [x.Body]) (by simpa using he) (by simp; omega)
      simpa using this
  have l1 : ∀ (r pre : List T_api_Func) (acc : List Ex), p.Funcs = pre ++ r → acc.length + r.length + p.Actors.length ≤ 4194304 → tree_Bodies.l1 p acc p.Funcs (p.Funcs.length : Int) (pre.length : Int) = some (acc ++ (r.map (·.Body) ++ p.Actors.map (·.Body))) := by
    intro r
    induction r with
    | nil =>
      intro pre acc he h
      rw [tree_Bodies.l1_eq, if_neg (by rw [he]; simp)]
      exact (l2 p.Actors [] acc rfl (by simp at h; omega)).1
    | cons x r ih =>
      intro pre acc he h
      have hn : p.Funcs.length = pre.length + (r.length + 1) := by rw [he]; simp
      have hg : gi p.Funcs (pre.length : Int) = some x := gi_some (k := pre.length) rfl (by rw [he]; simp)
      rw [List.length_cons] at h
      rw [tree_Bodies.l1_eq, if_pos (by omega), hg, Option.bind_some, ap_one (by omega), Option.bind_some, w_succ (by omega)]
      have := ih (pre ++ [x]) (acc ++ [x.Body]) (by simpa using he) (by simp; omega)
      simpa using this
  have l3 : ∀ (m : T_api_Impl) (i : Nat) (r pre : List T_api_Func) (acc : List Ex), m.Funcs = pre ++ r → acc.length + r.length ≤ 4194304 → m.Funcs.length ≤ 4194304 → tree_Bodies.l3 p acc p.Impls (p.Impls.length : Int) (i : Int) m.Funcs (m.Funcs.length : Int) (pre.length : Int) = tree_Bodies.l0 p (acc ++ r.map (·.Body)) p.Impls (p.Impls.length : Int) (IntKind.wrap .i64 ((i : Int) + 1)) := by
    intro m i r
    induction r with
    | nil => intro pre acc he _ _; rw [tree_Bodies.l3_eq, if_neg (by rw [he]; simp)]; simp
    | cons x r ih =>
      intro pre acc he h hm
      have hn : m.Funcs.length = pre.length + (r.length + 1) := by rw [he]; simp
      have hg : gi m.Funcs (pre.length : Int) = some x := gi_some (k := pre.length) rfl (by rw [he]; simp)
      rw [List.length_cons] at h
      rw [tree_Bodies.l3_eq, if_pos (by omega), hg, Option.bind_some, ap_one (by omega), Option.bind_some, w_succ (by omega)]
      have := ih (pre ++ [x]) (acc ++ [x.Body]) (by simpa using he) (by simp; omega) hm
      simpa using this
  have l0 : ∀ (r pre : List T_api_Impl) (acc : List Ex), p.Impls = pre ++ r → acc = (pre.flatMap fun m => m.Funcs.map (·.Body)) → tree_Bodies.l0 p acc p.Impls (p.Impls.length : Int) (pre.length : Int) = some (bs p) := by
    intro r
    induction r with
    | nil =>
      intro pre acc he h
      have e0 : pre = p.Impls := by rw [he]; simp
      rw [tree_Bodies.l0_eq, if_neg (by rw [he]; simp), hs, ← e0, ← h]
      exact l1 p.Funcs [] acc rfl (by rw [e0] at h; rw [h]; omega)
    | cons m r ih =>
      intro pre acc he h
      have hn : p.Impls.length = pre.length + (r.length + 1) := by rw [he]; simp
      have hg : gi p.Impls (pre.length : Int) = some m := gi_some (k := pre.length) rfl (by rw [he]; simp)
      have h2 : (p.Impls.flatMap fun m => m.Funcs.map (·.Body)).length = acc.length + (m.Funcs.length + (r.flatMap fun m => m.Funcs.map (·.Body)).length) := by rw [he, List.flatMap_append, List.flatMap_cons, List.length_append, List.length_append, List.length_map, h]
      have h3 := l3 m pre.length m.Funcs [] acc rfl (by omega) (by omega)
      rw [tree_Bodies.l0_eq, if_pos (by omega), hg, Option.bind_some]
      refine Eq.trans h3 ?_
      rw [w_succ (by omega)]
      have := ih (pre ++ [m]) (acc ++ m.Funcs.map (·.Body)) (by simpa using he) (by rw [h]; simp)
      simpa using this
  refine ⟨l0 p.Impls [] [] rfl rfl, ?_⟩
  unfold roadref2_BodiesOf
  rw [funs_val hb, Option.bind_some]
  have b0 : ∀ (r pre : List T_api_Func) (acc : List Ex), fs p = pre ++ r → acc.length + r.length + p.Actors.length ≤ 4194304 → roadref2_BodiesOf.l0 p acc (fs p) ((fs p).length : Int) (pre.length : Int) = some (acc ++ (r.map (·.Body) ++ p.Actors.map (·.Body))) := by
    intro r
    induction r with
    | nil =>
      intro pre acc he h
      rw [roadref2_BodiesOf.l0_eq, if_neg (by rw [he]; simp)]
      exact (l2 p.Actors [] acc rfl (by simp at h; omega)).2
    | cons x r ih =>
      intro pre acc he h
      have hn : (fs p).length = pre.length + (r.length + 1) := by rw [he]; simp
      have hg : gi (fs p) (pre.length : Int) = some x := gi_some (k := pre.length) rfl (by rw [he]; simp)
      rw [List.length_cons] at h
      rw [roadref2_BodiesOf.l0_eq, if_pos (by omega), hg, Option.bind_some, ap_one (by omega), Option.bind_some, w_succ (by omega)]
      have := ih (pre ++ [x]) (acc ++ [x.Body]) (by simpa using he) (by simp; omega)
      simpa using this
  exact b0 (fs p) [] [] rfl (by simp; omega)
theorem small_val : ∃ b, roadlaw2_small p = some b := by
  unfold roadlaw2_small
  have hl := bs_len p
  rw [(bodies_val hb).2, Option.bind_some]
  have loop : ∀ (d k : Nat) (m : Int), k + d = (bs p).length → ∃ b, roadlaw2_small.l0 m (bs p) ((bs p).length : Int) (k : Int) = some b := by
    intro d
    induction d with
    | zero => intro k m hk; rw [roadlaw2_small.l0_eq, if_neg (by omega)]; exact ⟨_, rfl⟩
    | succ d ih =>
      intro k m hk
      have hlt : k < (bs p).length := by omega
      obtain ⟨n, hn⟩ := size_val ((bs p)[k]) (Nat.le_trans (bs_mem (List.getElem_mem hlt)) hb)
      rw [roadlaw2_small.l0_eq, if_pos (by omega), gi_at hlt, Option.bind_some, hn, Option.bind_some, w_succ (by omega)]
      exact ih (k + 1) _ (by omega)
  exact loop _ 0 _ (Nat.zero_add _)
end
def bs8 (s : ByteArray) : List UInt8 := s.data.toList
theorem bs8_app (a b : ByteArray) : bs8 (a ++ b) = bs8 a ++ bs8 b := by unfold bs8; rw [ByteArray.data_append, Array.toList_append]
theorem bs8_inj {a b : ByteArray} (h : bs8 a = bs8 b) : a = b := by
  unfold bs8 at h
  exact ByteArray.ext (Array.toList_inj.1 h)
theorem bs8_size (a : ByteArray) : (bs8 a).length = a.size := by unfold bs8; rw [Array.length_toList]; rfl
theorem app_inj {a b s s' : ByteArray} (hs : a.size = b.size) (h : a ++ s = b ++ s') : a = b ∧ s = s' := by
  have h2 : bs8 a ++ bs8 s = bs8 b ++ bs8 s' := by rw [← bs8_app, ← bs8_app, h]
  have := List.append_inj h2 (by rw [bs8_size, bs8_size, hs])
  exact ⟨bs8_inj this.1, bs8_inj this.2⟩
theorem dec_mem : ∀ (u : Nat), ∀ c ∈ Lib.decDigits u, 48 ≤ c.toNat ∧ c.toNat ≤ 57 := by
  intro u
  induction u using Nat.strongRecOn with
  | _ u ih =>
    intro c hc
    rw [Lib.decDigits] at hc
    split at hc
    · rw [List.mem_singleton] at hc
      subst hc
      rw [UInt8.toNat_ofNat']
      omega
    · rcases List.mem_append.1 hc with hc | hc
      · exact ih _ (by omega) c hc
      · rw [List.mem_singleton] at hc
        subst hc
        rw [UInt8.toNat_ofNat']
        omega
def dval (l : List UInt8) : Nat := l.foldl (fun a c => 10 * a + (c.toNat - 48)) 0
theorem dval_dec (u : Nat) : dval (Lib.decDigits u) = u := by
  induction u using Nat.strongRecOn with
  | _ u ih =>
    rw [Lib.decDigits]
    split
    · show 10 * 0 + ((UInt8.ofNat (48 + u)).toNat - 48) = u
      rw [UInt8.toNat_ofNat']
      omega
    · have := ih (u / 10) (by omega)
      unfold dval at this ⊢
      rw [List.foldl_append, this]
      show 10 * (u / 10) + ((UInt8.ofNat (48 + u % 10)).toNat - 48) = u
      rw [UInt8.toNat_ofNat']
      omega
theorem dec_inj {u v : Nat} (h : Lib.decDigits u = Lib.decDigits v) : u = v := by
  have := dval_dec u; rw [h, dval_dec] at this; exact this.symm
theorem itoa_mem (x : Int) : ∀ c ∈ Lib.itoa x, c.toNat ≠ 44 := by
  intro c hc
  unfold Lib.itoa at hc
  split at hc
  · rcases List.mem_cons.1 hc with rfl | hc
    · decide
    · have := dec_mem _ c hc; omega
  · have := dec_mem _ c hc; omega
theorem itoa_inj {x y : Int} (h : Lib.itoa x = Lib.itoa y) : x = y := by
  unfold Lib.itoa at h
  have no : ∀ u v : Nat, 45 :: Lib.decDigits u = Lib.decDigits v → False := fun u v e => by
    have := dec_mem v 45 (by rw [← e]; exact List.mem_cons_self ..)
    have h45 : (45 : UInt8).toNat = 45 := rfl
    omega
  split at h <;> split at h
  · have := dec_inj (List.cons.inj h).2; omega
  · exact (no _ _ h).elim
  · exact (no _ _ h.symm).elim
  · have := dec_inj h; omega
theorem comma_inj : ∀ {l m s s' : List UInt8}, (∀ c ∈ l, c.toNat ≠ 44) → (∀ c ∈ m, c.toNat ≠ 44) → l ++ 44 :: s = m ++ 44 :: s' → l = m ∧ s = s'
  | [], [], s, s', _, _, h => ⟨rfl, (List.cons.inj h).2⟩
  | [], y :: m, s, s', _, hm, h => by
    have := (List.cons.inj h).1
    exact absurd (by rw [← this]; rfl) (hm y (List.mem_cons_self ..))
  | x :: l, [], s, s', hl, _, h => by
    have := (List.cons.inj h).1
    exact absurd (by rw [this]; rfl) (hl x (List.mem_cons_self ..))
  | x :: l, y :: m, s, s', hl, hm, h => by
    have e := List.cons.inj h
    have := comma_inj (fun c hc => hl c (List.mem_cons_of_mem _ hc)) (fun c hc => hm c (List.mem_cons_of_mem _ hc)) e.2
    exact ⟨by rw [e.1, this.1], this.2⟩
theorem bs8_itoa (x : Int) : bs8 (itoaB x) = Lib.itoa x := by unfold itoaB bs8; simp
theorem nm1_inj {x y : Int} {s s' : ByteArray} (h : nm1 x ++ s = nm1 y ++ s') : x = y ∧ s = s' := by
  have h2 : bs8 (nm1 x ++ s) = bs8 (nm1 y ++ s') := by rw [h]
  unfold nm1 at h2
  rw [bs8_app, bs8_app, bs8_app, bs8_app, bs8_itoa, bs8_itoa, List.append_assoc, List.append_assoc] at h2
  have := comma_inj (itoa_mem x) (itoa_mem y) h2
  exact ⟨itoa_inj this.1, bs8_inj this.2⟩
theorem nm_inj : ∀ {l m : List Int} {s s' : ByteArray}, l.length = m.length → nm l ++ s = nm m ++ s' → l = m ∧ s = s'
  | [], [], s, s', _, h => ⟨rfl, by unfold nm at h; simp only [List.map_nil, cat, nil_app] at h; exact h⟩
  | x :: l, y :: m, s, s', hl, h => by
    unfold nm at h
    rw [List.map_cons, List.map_cons, cat, cat, app_assoc, app_assoc] at h
    have e := nm1_inj h
    have := nm_inj (l := l) (m := m) (by simpa using hl) e.2
    exact ⟨by rw [e.1, this.1], this.2⟩
theorem tx1_inj {a b s s' : ByteArray} (h : tx1 a ++ s = tx1 b ++ s') : a = b ∧ s = s' := by
  unfold tx1 at h
  rw [app_assoc, app_assoc] at h
  have e := nm_inj (by simp) h
  have e1 := List.cons.inj e.1
  exact app_inj (by omega) e.2
theorem tx_inj : ∀ {l m : List ByteArray} {s s' : ByteArray}, l.length = m.length → tx l ++ s = tx m ++ s' → l = m ∧ s = s'
  | [], [], s, s', _, h => ⟨rfl, by unfold tx at h; simp only [List.map_nil, cat, nil_app] at h; exact h⟩
  | x :: l, y :: m, s, s', hl, h => by
    unfold tx at h
    rw [List.map_cons, List.map_cons, cat, cat, app_assoc, app_assoc] at h
    have e := tx1_inj h
    have := tx_inj (l := l) (m := m) (by simpa using hl) e.2
    exact ⟨by rw [e.1, this.1], this.2⟩
def PF {α : Type} (M : α → ByteArray) (P : α → Prop) : Prop := ∀ x y s s', P x → P y → M x ++ s = M y ++ s' → M x = M y ∧ s = s'
theorem cat_inj {α : Type} {M : α → ByteArray} {P : α → Prop} (pf : PF M P) : ∀ {l m : List α} {s s' : ByteArray}, (∀ x ∈ l, P x) → (∀ x ∈ m, P x) → l.length = m.length → cat (l.map M) ++ s = cat (m.map M) ++ s' → l.map M = m.map M ∧ s = s'
  | [], [], s, s', _, _, _, h => ⟨rfl, by simp only [List.map_nil, cat, nil_app] at h; exact h⟩
  | x :: l, y :: m, s, s', hl, hm, hn, h => by
    rw [List.map_cons, List.map_cons, cat, cat, app_assoc, app_assoc] at h
    have e := pf x y _ _ (hl x (List.mem_cons_self ..)) (hm y (List.mem_cons_self ..)) h
    have := cat_inj pf (l := l) (m := m) (fun z hz => hl z (List.mem_cons_of_mem _ hz)) (fun z hz => hm z (List.mem_cons_of_mem _ hz)) (by simpa using hn) e.2
    exact ⟨by rw [List.map_cons, List.map_cons, e.1, this.1], this.2⟩
theorem len_of_map {α : Type} {M : α → ByteArray} {l m : List α} (h : l.map M = m.map M) : l.length = m.length := by
  have := congrArg List.length h; simpa using this
def TP (t : T_api_Type) : Prop := t.bulk ≤ 2000000 ∧ t.Q
def PP (t : T_api_Pat) : Prop := t.bulk ≤ 2000000 ∧ t.Q
def EP (t : T_api_Expr) : Prop := t.bulk ≤ 2000000 ∧ t.Q
def AP (a : T_api_Arm) : Prop := PP a.Pat ∧ EP a.Body
theorem tp_args {t : T_api_Type} (h : TP t) : ∀ x ∈ t.Args, TP x := fun x hx => by
  obtain ⟨q1, q2, q3, q4⟩ := T_api_Type.Q_iff.1 h.2
  have hb := tbulk t; have := h.1
  have := le_sum (f := T_api_Type.bulk) hx
  exact ⟨by omega, q4 x hx⟩
theorem pp_args {t : T_api_Pat} (h : PP t) : ∀ x ∈ t.Args, PP x := fun x hx => by
  obtain ⟨q1, q0, q2, q3, q4⟩ := T_api_Pat.Q_iff.1 h.2
  have hb := pbulk t; have := h.1
  have := le_sum (f := T_api_Pat.bulk) hx
  exact ⟨by omega, q4 x hx⟩
theorem tm_eq {t : T_api_Type} (h : TP t) : TM t = nm [t.Kind, (t.Args.length : Int)] ++ tx1 t.Name ++ cat (t.Args.map TM) := (type_mark t.bulk t (Nat.le_refl _) h.1 h.2).2.2
theorem pm_eq {t : T_api_Pat} (h : PP t) : PM t = nm [t.Kind, t.Num, (t.Args.length : Int)] ++ tx1 t.Text ++ cat (t.Args.map PM) := (pat_mark t.bulk t (Nat.le_refl _) h.1 h.2).2.2
theorem em_eq {t : T_api_Expr} (h : EP t) : EM t = nm [t.Kind, t.Num, (t.Names.length : Int), (t.Types.length : Int), (t.Args.length : Int), (t.Arms.length : Int)] ++ tx1 t.Text ++ tx t.Names ++ cat (t.Types.map TM) ++ cat (t.Args.map EM) ++ cat (t.Arms.map AM) := (expr_mark t.bulk t (Nat.le_refl _) h.1 h.2).2.2
theorem tm_split : ∀ (n : Nat) (x y : T_api_Type) (s s' : ByteArray), x.bulk ≤ n → TP x → TP y → TM x ++ s = TM y ++ s' → (x.Kind = y.Kind ∧ x.Name = y.Name ∧ x.Args.map TM = y.Args.map TM) ∧ s = s' := by
  intro n
  induction n with
  | zero => intro x y s s' hx; have := tbulk_pos x; omega
  | succ n ih =>
    intro x y s s' hx px py h
    rw [tm_eq px, tm_eq py] at h
    simp only [app_assoc] at h
    have a := nm_inj (by simp) h
    simp only [List.cons.injEq, and_true] at a
    have b := tx1_inj a.2
    have hl : x.Args.length = y.Args.length := by have := a.1.2; omega
    have hb := tbulk x
    -- the arguments, one after another
    have key : ∀ (l m : List T_api_Type) (s s' : ByteArray), (∀ z ∈ l, z.bulk ≤ n ∧ TP z) → (∀ z ∈ m, TP z) → l.length = m.length → cat (l.map TM) ++ s = cat (m.map TM) ++ s' → l.map TM = m.map TM ∧ s = s' := by
      intro l
      induction l with
      | nil =>
        intro m s s' _ _ hn h
        have : m = [] := List.eq_nil_of_length_eq_zero (by simpa using hn.symm)
        subst this
        exact ⟨rfl, by simp only [List.map_nil, cat, nil_app] at h; exact h⟩
      | cons z l il =>
        intro m s s' hl hm hn h
        cases m with
        | nil => simp at hn
        | cons w m =>
          rw [List.map_cons, List.map_cons, cat, cat, app_assoc, app_assoc] at h
          have pz := hl z (List.mem_cons_self ..)
          have pw := hm w (List.mem_cons_self ..)
          have e := ih z w _ _ pz.1 pz.2 pw h
          have ez : TM z = TM w := by
            rw [tm_eq pz.2, tm_eq pw, e.1.1, e.1.2.1, e.1.2.2, len_of_map e.1.2.2]
          have := il m s s' (fun q hq => hl q (List.mem_cons_of_mem _ hq)) (fun q hq => hm q (List.mem_cons_of_mem _ hq)) (by simpa using hn) e.2
          exact ⟨by rw [List.map_cons, List.map_cons, ez, this.1], this.2⟩
    have c := key _ _ _ _ (fun z hz => ⟨by have := le_sum (f := T_api_Type.bulk) hz; omega, tp_args px z hz⟩) (tp_args py) hl b.2
    exact ⟨⟨a.1.1, b.1, c.1⟩, c.2⟩
theorem tm_iff {x y : T_api_Type} (px : TP x) (py : TP y) : TM x = TM y ↔ x.Kind = y.Kind ∧ x.Name = y.Name ∧ x.Args.map TM = y.Args.map TM :=
  ⟨fun h => (tm_split x.bulk x y BA0 BA0 (Nat.le_refl _) px py (by rw [h])).1, fun ⟨h1, h2, h3⟩ => by rw [tm_eq px, tm_eq py, h1, h2, h3, len_of_map h3]⟩
theorem tm_pf : PF TM TP := fun x y s s' px py h => by
  have := tm_split x.bulk x y s s' (Nat.le_refl _) px py h
  exact ⟨(tm_iff px py).2 this.1, this.2⟩
theorem pm_split : ∀ (n : Nat) (x y : T_api_Pat) (s s' : ByteArray), x.bulk ≤ n → PP x → PP y → PM x ++ s = PM y ++ s' → (x.Kind = y.Kind ∧ x.Num = y.Num ∧ x.Text = y.Text ∧ x.Args.map PM = y.Args.map PM) ∧ s = s' := by
  intro n
  induction n with
  | zero => intro x y s s' hx; have := pbulk_pos x; omega
  | succ n ih =>
    intro x y s s' hx px py h
    rw [pm_eq px, pm_eq py] at h
    simp only [app_assoc] at h
    have a := nm_inj (by simp) h
    simp only [List.cons.injEq, and_true] at a
    have b := tx1_inj a.2
    have hl : x.Args.length = y.Args.length := by have := a.1.2.2; omega
    have hb := pbulk x
    have key : ∀ (l m : List T_api_Pat) (s s' : ByteArray), (∀ z ∈ l, z.bulk ≤ n ∧ PP z) → (∀ z ∈ m, PP z) → l.length = m.length → cat (l.map PM) ++ s = cat (m.map PM) ++ s' → l.map PM = m.map PM ∧ s = s' := by
      intro l
      induction l with
      | nil =>
        intro m s s' _ _ hn h
        have : m = [] := List.eq_nil_of_length_eq_zero (by simpa using hn.symm)
        subst this
        exact ⟨rfl, by simp only [List.map_nil, cat, nil_app] at h; exact h⟩
      | cons z l il =>
        intro m s s' hl hm hn h
        cases m with
        | nil => simp at hn
        | cons w m =>
          rw [List.map_cons, List.map_cons, cat, cat, app_assoc, app_assoc] at h
          have pz := hl z (List.mem_cons_self ..)
          have pw := hm w (List.mem_cons_self ..)
          have e := ih z w _ _ pz.1 pz.2 pw h
          have ez : PM z = PM w := by
            rw [pm_eq pz.2, pm_eq pw, e.1.1, e.1.2.1, e.1.2.2.1, e.1.2.2.2, len_of_map e.1.2.2.2]
          have := il m s s' (fun q hq => hl q (List.mem_cons_of_mem _ hq)) (fun q hq => hm q (List.mem_cons_of_mem _ hq)) (by simpa using hn) e.2
          exact ⟨by rw [List.map_cons, List.map_cons, ez, this.1], this.2⟩
    have c := key _ _ _ _ (fun z hz => ⟨by have := le_sum (f := T_api_Pat.bulk) hz; omega, pp_args px z hz⟩) (pp_args py) hl b.2
    exact ⟨⟨a.1.1, a.1.2.1, b.1, c.1⟩, c.2⟩
theorem pm_iff {x y : T_api_Pat} (px : PP x) (py : PP y) : PM x = PM y ↔ x.Kind = y.Kind ∧ x.Num = y.Num ∧ x.Text = y.Text ∧ x.Args.map PM = y.Args.map PM :=
  ⟨fun h => (pm_split x.bulk x y BA0 BA0 (Nat.le_refl _) px py (by rw [h])).1, fun ⟨h1, h2, h3, h4⟩ => by rw [pm_eq px, pm_eq py, h1, h2, h3, h4, len_of_map h4]⟩
theorem pm_pf : PF PM PP := fun x y s s' px py h => by
  have := pm_split x.bulk x y s s' (Nat.le_refl _) px py h
  exact ⟨(pm_iff px py).2 this.1, this.2⟩
theorem ep_types {t : T_api_Expr} (h : EP t) : ∀ x ∈ t.Types, TP x := fun x hx => by
  obtain ⟨q1, q2, q3, ⟨q4, q5⟩, ⟨q6, q7⟩, ⟨q8, q9⟩, ⟨q10, q11⟩, _⟩ := T_api_Expr.Q_iff.1 h.2
  have hb := ebulk t; have := h.1
  have := le_sum (f := T_api_Type.bulk) hx
  exact ⟨by omega, q7 x hx⟩
theorem ep_args {t : T_api_Expr} (h : EP t) : ∀ x ∈ t.Args, EP x := fun x hx => by
  obtain ⟨q1, q2, q3, ⟨q4, q5⟩, ⟨q6, q7⟩, ⟨q8, q9⟩, ⟨q10, q11⟩, _⟩ := T_api_Expr.Q_iff.1 h.2
  have hb := ebulk t; have := h.1
  have := le_sum (f := T_api_Expr.bulk) hx
  exact ⟨by omega, q9 x hx⟩
theorem ep_arms {t : T_api_Expr} (h : EP t) : ∀ x ∈ t.Arms, AP x := fun x hx => by
  obtain ⟨q1, q2, q3, ⟨q4, q5⟩, ⟨q6, q7⟩, ⟨q8, q9⟩, ⟨q10, q11⟩, _⟩ := T_api_Expr.Q_iff.1 h.2
  have hb := ebulk t; have := h.1
  have := le_sum (f := T_api_Arm.bulk) hx
  have ha := abulk x
  exact ⟨⟨by omega, (q11 x hx).1⟩, ⟨by omega, (q11 x hx).2⟩⟩
def ESm (x y : T_api_Expr) : Prop := x.Kind = y.Kind ∧ x.Num = y.Num ∧ x.Text = y.Text ∧ x.Names = y.Names ∧ x.Types.map TM = y.Types.map TM ∧ x.Args.map EM = y.Args.map EM ∧ x.Arms.map AM = y.Arms.map AM
theorem em_of {x y : T_api_Expr} (px : EP x) (py : EP y) (h : ESm x y) : EM x = EM y := by
  obtain ⟨h1, h2, h3, h4, h5, h6, h7⟩ := h
  rw [em_eq px, em_eq py, h1, h2, h3, h4, h5, h6, h7, len_of_map h5, len_of_map h6, len_of_map h7]
theorem cat_step {α : Type} {M : α → ByteArray} {P : α → Prop} {n : Nat} {f : α → Nat} (one : ∀ z w s s', f z ≤ n → P z → P w → M z ++ s = M w ++ s' → M z = M w ∧ s = s') :
    ∀ (l m : List α) (s s' : ByteArray), (∀ z ∈ l, f z ≤ n ∧ P z) → (∀ z ∈ m, P z) → l.length = m.length → cat (l.map M) ++ s = cat (m.map M) ++ s' → l.map M = m.map M ∧ s = s' := by
  intro l
  induction l with
  | nil =>
    intro m s s' _ _ hn h
    have : m = [] := List.eq_nil_of_length_eq_zero (by simpa using hn.symm)
    subst this
    exact ⟨rfl, by simp only [List.map_nil, cat, nil_app] at h; exact h⟩
  | cons z l il =>
    intro m s s' hl hm hn h
    cases m with
    | nil => simp at hn
    | cons w m =>
      rw [List.map_cons, List.map_cons, cat, cat, app_assoc, app_assoc] at h
      have pz := hl z (List.mem_cons_self ..)
      have e := one z w _ _ pz.1 pz.2 (hm w (List.mem_cons_self ..)) h
      have := il m s s' (fun q hq => hl q (List.mem_cons_of_mem _ hq)) (fun q hq => hm q (List.mem_cons_of_mem _ hq)) (by simpa using hn) e.2
      exact ⟨by rw [List.map_cons, List.map_cons, e.1, this.1], this.2⟩
theorem em_split : ∀ (n : Nat) (x y : T_api_Expr) (s s' : ByteArray), x.bulk ≤ n → EP x → EP y → EM x ++ s = EM y ++ s' → ESm x y ∧ s = s' := by
  intro n
  induction n with
  | zero => intro x y s s' hx; have := ebulk_pos x; omega
  | succ n ih =>
    intro x y s s' hx px py h
    rw [em_eq px, em_eq py] at h
    simp only [app_assoc] at h
    have a := nm_inj (by simp) h
    simp only [List.cons.injEq, and_true] at a
    obtain ⟨⟨a1, a2, a3, a4, a5, a6⟩, h⟩ := a
    have b := tx1_inj h
    have c := tx_inj (by omega) b.2
    have d := cat_inj tm_pf (ep_types px) (ep_types py) (by omega) c.2
    have hb := ebulk x
    have one : ∀ (z w : T_api_Expr) (s s' : ByteArray), z.bulk ≤ n → EP z → EP w → EM z ++ s = EM w ++ s' → EM z = EM w ∧ s = s' := fun z w s s' hz pz pw h => by
      have := ih z w s s' hz pz pw h
      exact ⟨em_of pz pw this.1, this.2⟩
    have e := cat_step (M := EM) (P := EP) (f := T_api_Expr.bulk) one _ _ _ _ (fun z hz => ⟨by have := le_sum (f := T_api_Expr.bulk) hz; omega, ep_args px z hz⟩) (ep_args py) (by omega) d.2
    have f := cat_step (M := AM) (P := AP) (n := n) (f := T_api_Arm.bulk) (fun z w s s' hz pz pw h => by
      unfold AM at h
      rw [app_assoc, app_assoc] at h
      have k1 := pm_pf z.Pat w.Pat _ _ pz.1 pw.1 h
      have hzb := abulk z
      have k2 := one z.Body w.Body _ _ (by omega) pz.2 pw.2 k1.2
      exact ⟨by unfold AM; rw [k1.1, k2.1], k2.2⟩) _ _ _ _ (fun z hz => ⟨by have := le_sum (f := T_api_Arm.bulk) hz; omega, ep_arms px z hz⟩) (ep_arms py) (by omega) e.2
    exact ⟨⟨a1, a2, b.1, c.1, d.1, e.1, f.1⟩, f.2⟩
theorem em_iff {x y : T_api_Expr} (px : EP x) (py : EP y) : EM x = EM y ↔ ESm x y :=
  ⟨fun h => (em_split x.bulk x y BA0 BA0 (Nat.le_refl _) px py (by rw [h])).1, em_of px py⟩
theorem em_pf : PF EM EP := fun x y s s' px py h => by
  have := em_split x.bulk x y s s' (Nat.le_refl _) px py h
  exact ⟨em_of px py this.1, this.2⟩
theorem am_iff {x y : T_api_Arm} (px : AP x) (py : AP y) : AM x = AM y ↔ PM x.Pat = PM y.Pat ∧ EM x.Body = EM y.Body := by
  constructor
  · intro h
    unfold AM at h
    have k1 := pm_pf x.Pat y.Pat _ _ px.1 py.1 h
    exact k1
  · rintro ⟨h1, h2⟩
    unfold AM; rw [h1, h2]
theorem eqf_loop {α β : Type} [DecidableEq β] {M : α → β} {l m : List α} {F : Int → Option Bool} (hn : l.length = m.length)
    (step : ∀ (i : Nat) (h1 : i < l.length) (h2 : i < m.length), F (i : Int) = if M l[i] = M m[i] then F ((i + 1 : Nat) : Int) else some false) (fin : F (l.length : Int) = some true) : F 0 = some (decide (l.map M = m.map M)) := by
  have key : ∀ (d i : Nat), l.length - i = d → i ≤ l.length → F (i : Int) = some (decide ((l.drop i).map M = (m.drop i).map M)) := by
    intro d
    induction d with
    | zero =>
      intro i hd hi
      obtain rfl : i = l.length := by omega
      rw [fin, List.drop_length, hn, List.drop_length]; simp
    | succ d ih =>
      intro i hd hi
      rw [step i (by omega) (by omega), List.drop_eq_getElem_cons (by omega : i < l.length), List.drop_eq_getElem_cons (by omega : i < m.length), List.map_cons, List.map_cons]
      by_cases c : M l[i] = M m[i]
      · rw [if_pos c, ih (i + 1) (by omega) (by omega), c]
        simp
      · rw [if_neg c]
        simp [c]
  have := key l.length 0 (by omega) (by omega)
  simpa using this
theorem map_ne {α β : Type} {M : α → β} {l m : List α} (h : l.length ≠ m.length) : ¬ l.map M = m.map M := fun e => h (by have := congrArg List.length e; simpa using this)
theorem if_dec {p : Prop} [Decidable p] {α : Type} (x y : α) : (if decide p = true then x else y) = if p then x else y := by by_cases h : p <;> simp [h]
theorem eq20 {l m : List ByteArray} (hl : l.length ≤ 2000000) : slices_Equal_20 l m = some (decide (l = m)) := by
  unfold slices_Equal_20
  by_cases c : l.length = m.length
  · rw [if_pos (by omega)]
    have := eqf_loop (M := id) (l := l) (m := m) (F := fun i => slices_Equal_20.l0 l m (l.length : Int) i) c (fun i h1 h2 => by
      rw [slices_Equal_20.l0_eq, if_pos (by omega), gi_at h1, Option.bind_some, gi_at h2, Option.bind_some, w_succ (by omega)]
      rfl) (by rw [slices_Equal_20.l0_eq, if_neg (by omega)])
    rw [List.map_id, List.map_id] at this
    exact this
  · rw [if_neg (by omega), decide_eq_false (fun e => c (by rw [e]))]
theorem eq48_s1 {l m : List T_api_Type} (M : T_api_Type → ByteArray) (hl : l.length ≤ 2000000) (h : ∀ x ∈ l, ∀ y ∈ m, tree_SameType x y = some (decide (M x = M y))) : slices_EqualFunc_48_s1 l m = some (decide (l.map M = m.map M)) := by
  rw [slices_EqualFunc_48_s1_eq]
  by_cases c : l.length = m.length
  · rw [if_pos (by omega)]
    exact eqf_loop (M := M) (l := l) (m := m) (F := fun i => slices_EqualFunc_48_s1.l0 m l (l.length : Int) i) c (fun i h1 h2 => by
      rw [slices_EqualFunc_48_s1.l0_eq, if_pos (by omega), gi_at h1, Option.bind_some, gi_at h2, Option.bind_some, h _ (List.getElem_mem h1) _ (List.getElem_mem h2), Option.bind_some, w_succ (by omega), if_dec]) (by rw [slices_EqualFunc_48_s1.l0_eq, if_neg (by omega)])
  · rw [if_neg (by omega), decide_eq_false (map_ne c)]
theorem eq68_s2 {l m : List T_api_Pat} (M : T_api_Pat → ByteArray) (hl : l.length ≤ 2000000) (h : ∀ x ∈ l, ∀ y ∈ m, tree_SamePat x y = some (decide (M x = M y))) : slices_EqualFunc_68_s2 l m = some (decide (l.map M = m.map M)) := by
  rw [slices_EqualFunc_68_s2_eq]
  by_cases c : l.length = m.length
  · rw [if_pos (by omega)]
    exact eqf_loop (M := M) (l := l) (m := m) (F := fun i => slices_EqualFunc_68_s2.l0 m l (l.length : Int) i) c (fun i h1 h2 => by
      rw [slices_EqualFunc_68_s2.l0_eq, if_pos (by omega), gi_at h1, Option.bind_some, gi_at h2, Option.bind_some, h _ (List.getElem_mem h1) _ (List.getElem_mem h2), Option.bind_some, w_succ (by omega), if_dec]) (by rw [slices_EqualFunc_68_s2.l0_eq, if_neg (by omega)])
  · rw [if_neg (by omega), decide_eq_false (map_ne c)]
theorem eq26_s3 {l m : List T_api_Expr} (M : T_api_Expr → ByteArray) (hl : l.length ≤ 2000000) (h : ∀ x ∈ l, ∀ y ∈ m, tree_SameExpr x y = some (decide (M x = M y))) : slices_EqualFunc_26_s3 l m = some (decide (l.map M = m.map M)) := by
  rw [slices_EqualFunc_26_s3_eq]
  by_cases c : l.length = m.length
  · rw [if_pos (by omega)]
    exact eqf_loop (M := M) (l := l) (m := m) (F := fun i => slices_EqualFunc_26_s3.l0 m l (l.length : Int) i) c (fun i h1 h2 => by
      rw [slices_EqualFunc_26_s3.l0_eq, if_pos (by omega), gi_at h1, Option.bind_some, gi_at h2, Option.bind_some, h _ (List.getElem_mem h1) _ (List.getElem_mem h2), Option.bind_some, w_succ (by omega), if_dec]) (by rw [slices_EqualFunc_26_s3.l0_eq, if_neg (by omega)])
  · rw [if_neg (by omega), decide_eq_false (map_ne c)]
theorem eq50_s4 {l m : List T_api_Arm} (M : T_api_Arm → ByteArray) (hl : l.length ≤ 2000000) (h : ∀ x ∈ l, ∀ y ∈ m, tree_sameArm x y = some (decide (M x = M y))) : slices_EqualFunc_50_s4 l m = some (decide (l.map M = m.map M)) := by
  rw [slices_EqualFunc_50_s4_eq]
  by_cases c : l.length = m.length
  · rw [if_pos (by omega)]
    exact eqf_loop (M := M) (l := l) (m := m) (F := fun i => slices_EqualFunc_50_s4.l0 m l (l.length : Int) i) c (fun i h1 h2 => by
      rw [slices_EqualFunc_50_s4.l0_eq, if_pos (by omega), gi_at h1, Option.bind_some, gi_at h2, Option.bind_some, h _ (List.getElem_mem h1) _ (List.getElem_mem h2), Option.bind_some, w_succ (by omega), if_dec]) (by rw [slices_EqualFunc_50_s4.l0_eq, if_neg (by omega)])
  · rw [if_neg (by omega), decide_eq_false (map_ne c)]
theorem eq62 {l m : List T_api_Make} {p : T_api_Make → T_api_Make → Option Bool} (M : T_api_Make → ByteArray) (hl : l.length ≤ 2000000) (h : ∀ x ∈ l, ∀ y ∈ m, p x y = some (decide (M x = M y))) : slices_EqualFunc_62 l m p = some (decide (l.map M = m.map M)) := by
  unfold slices_EqualFunc_62
  by_cases c : l.length = m.length
  · rw [if_pos (by omega)]
    exact eqf_loop (M := M) (l := l) (m := m) (F := fun i => slices_EqualFunc_62.l0 m p l (l.length : Int) i) c (fun i h1 h2 => by
      rw [slices_EqualFunc_62.l0_eq, if_pos (by omega), gi_at h1, Option.bind_some, gi_at h2, Option.bind_some, h _ (List.getElem_mem h1) _ (List.getElem_mem h2), Option.bind_some, w_succ (by omega), if_dec]) (by rw [slices_EqualFunc_62.l0_eq, if_neg (by omega)])
  · rw [if_neg (by omega), decide_eq_false (map_ne c)]
theorem eq31 {l m : List T_api_Data} {p : T_api_Data → T_api_Data → Option Bool} (M : T_api_Data → ByteArray) (hl : l.length ≤ 2000000) (h : ∀ x ∈ l, ∀ y ∈ m, p x y = some (decide (M x = M y))) : slices_EqualFunc_31 l m p = some (decide (l.map M = m.map M)) := by
  unfold slices_EqualFunc_31
  by_cases c : l.length = m.length
  · rw [if_pos (by omega)]
    exact eqf_loop (M := M) (l := l) (m := m) (F := fun i => slices_EqualFunc_31.l0 m p l (l.length : Int) i) c (fun i h1 h2 => by
      rw [slices_EqualFunc_31.l0_eq, if_pos (by omega), gi_at h1, Option.bind_some, gi_at h2, Option.bind_some, h _ (List.getElem_mem h1) _ (List.getElem_mem h2), Option.bind_some, w_succ (by omega), if_dec]) (by rw [slices_EqualFunc_31.l0_eq, if_neg (by omega)])
  · rw [if_neg (by omega), decide_eq_false (map_ne c)]
theorem eq33 {l m : List T_api_Trait} {p : T_api_Trait → T_api_Trait → Option Bool} (M : T_api_Trait → ByteArray) (hl : l.length ≤ 2000000) (h : ∀ x ∈ l, ∀ y ∈ m, p x y = some (decide (M x = M y))) : slices_EqualFunc_33 l m p = some (decide (l.map M = m.map M)) := by
  unfold slices_EqualFunc_33
  by_cases c : l.length = m.length
  · rw [if_pos (by omega)]
    exact eqf_loop (M := M) (l := l) (m := m) (F := fun i => slices_EqualFunc_33.l0 m p l (l.length : Int) i) c (fun i h1 h2 => by
      rw [slices_EqualFunc_33.l0_eq, if_pos (by omega), gi_at h1, Option.bind_some, gi_at h2, Option.bind_some, h _ (List.getElem_mem h1) _ (List.getElem_mem h2), Option.bind_some, w_succ (by omega), if_dec]) (by rw [slices_EqualFunc_33.l0_eq, if_neg (by omega)])
  · rw [if_neg (by omega), decide_eq_false (map_ne c)]
theorem eq35 {l m : List T_api_Impl} {p : T_api_Impl → T_api_Impl → Option Bool} (M : T_api_Impl → ByteArray) (hl : l.length ≤ 2000000) (h : ∀ x ∈ l, ∀ y ∈ m, p x y = some (decide (M x = M y))) : slices_EqualFunc_35 l m p = some (decide (l.map M = m.map M)) := by
  unfold slices_EqualFunc_35
  by_cases c : l.length = m.length
  · rw [if_pos (by omega)]
    exact eqf_loop (M := M) (l := l) (m := m) (F := fun i => slices_EqualFunc_35.l0 m p l (l.length : Int) i) c (fun i h1 h2 => by
      rw [slices_EqualFunc_35.l0_eq, if_pos (by omega), gi_at h1, Option.bind_some, gi_at h2, Option.bind_some, h _ (List.getElem_mem h1) _ (List.getElem_mem h2), Option.bind_some, w_succ (by omega), if_dec]) (by rw [slices_EqualFunc_35.l0_eq, if_neg (by omega)])
  · rw [if_neg (by omega), decide_eq_false (map_ne c)]
theorem eq37 {l m : List T_api_Func} {p : T_api_Func → T_api_Func → Option Bool} (M : T_api_Func → ByteArray) (hl : l.length ≤ 2000000) (h : ∀ x ∈ l, ∀ y ∈ m, p x y = some (decide (M x = M y))) : slices_EqualFunc_37 l m p = some (decide (l.map M = m.map M)) := by
  unfold slices_EqualFunc_37
  by_cases c : l.length = m.length
  · rw [if_pos (by omega)]
    exact eqf_loop (M := M) (l := l) (m := m) (F := fun i => slices_EqualFunc_37.l0 m p l (l.length : Int) i) c (fun i h1 h2 => by
      rw [slices_EqualFunc_37.l0_eq, if_pos (by omega), gi_at h1, Option.bind_some, gi_at h2, Option.bind_some, h _ (List.getElem_mem h1) _ (List.getElem_mem h2), Option.bind_some, w_succ (by omega), if_dec]) (by rw [slices_EqualFunc_37.l0_eq, if_neg (by omega)])
  · rw [if_neg (by omega), decide_eq_false (map_ne c)]
theorem eq39 {l m : List T_api_Actor} {p : T_api_Actor → T_api_Actor → Option Bool} (M : T_api_Actor → ByteArray) (hl : l.length ≤ 2000000) (h : ∀ x ∈ l, ∀ y ∈ m, p x y = some (decide (M x = M y))) : slices_EqualFunc_39 l m p = some (decide (l.map M = m.map M)) := by
  unfold slices_EqualFunc_39
  by_cases c : l.length = m.length
  · rw [if_pos (by omega)]
    exact eqf_loop (M := M) (l := l) (m := m) (F := fun i => slices_EqualFunc_39.l0 m p l (l.length : Int) i) c (fun i h1 h2 => by
      rw [slices_EqualFunc_39.l0_eq, if_pos (by omega), gi_at h1, Option.bind_some, gi_at h2, Option.bind_some, h _ (List.getElem_mem h1) _ (List.getElem_mem h2), Option.bind_some, w_succ (by omega), if_dec]) (by rw [slices_EqualFunc_39.l0_eq, if_neg (by omega)])
  · rw [if_neg (by omega), decide_eq_false (map_ne c)]
theorem types_len {t : T_api_Type} (h : TP t) : t.Args.length ≤ 2000000 := by
  have : t.Args.length ≤ (t.Args.map T_api_Type.bulk).sum := len_le_sum fun x _ => tbulk_pos x
  have hb := tbulk t; have := h.1; omega
theorem same_type : ∀ (n : Nat) (x y : T_api_Type), x.bulk ≤ n → TP x → TP y → tree_SameType x y = some (decide (TM x = TM y)) := by
  intro n
  induction n with
  | zero => intro x y hx; have := tbulk_pos x; omega
  | succ n ih =>
    intro x y hx px py
    have hb := tbulk x
    rw [tree_SameType_eq]
    have no : ¬ (x.Kind = y.Kind ∧ x.Name = y.Name ∧ x.Args.map TM = y.Args.map TM) → some false = some (decide (TM x = TM y)) := fun h => by rw [decide_eq_false (fun e => h ((tm_iff px py).1 e))]
    by_cases c1 : x.Kind = y.Kind
    · by_cases c2 : x.Name = y.Name
      · rw [if_pos c1, if_pos c2, eq48_s1 TM (types_len px) (fun z hz w hw => ih z w (by have := le_sum (f := T_api_Type.bulk) hz; omega) (tp_args px z hz) (tp_args py w hw)), Option.bind_some]
        congr 1
        rw [decide_eq_decide, tm_iff px py]
        exact ⟨fun h => ⟨c1, c2, h⟩, fun h => h.2.2⟩
      · rw [if_pos c1, if_neg c2]; exact no fun h => c2 h.2.1
    · rw [if_neg c1]; exact no fun h => c1 h.1
theorem sameT {x y : T_api_Type} (px : TP x) (py : TP y) : tree_SameType x y = some (decide (TM x = TM y)) := same_type _ x y (Nat.le_refl _) px py
theorem same_pat : ∀ (n : Nat) (x y : T_api_Pat), x.bulk ≤ n → PP x → PP y → tree_SamePat x y = some (decide (PM x = PM y)) := by
  intro n
  induction n with
  | zero => intro x y hx; have := pbulk_pos x; omega
  | succ n ih =>
    intro x y hx px py
    have hb := pbulk x
    have hl : x.Args.length ≤ (x.Args.map T_api_Pat.bulk).sum := len_le_sum fun x _ => pbulk_pos x
    have hx2 := px.1
    rw [tree_SamePat_eq]
    have no : ¬ (x.Kind = y.Kind ∧ x.Num = y.Num ∧ x.Text = y.Text ∧ x.Args.map PM = y.Args.map PM) → some false = some (decide (PM x = PM y)) := fun h => by rw [decide_eq_false (fun e => h ((pm_iff px py).1 e))]
    by_cases c1 : x.Kind = y.Kind
    · by_cases c2 : x.Num = y.Num
      · by_cases c3 : x.Text = y.Text
        · rw [if_pos c1, if_pos c2, if_pos c3, eq68_s2 PM (by omega) (fun z hz w hw => ih z w (by have := le_sum (f := T_api_Pat.bulk) hz; omega) (pp_args px z hz) (pp_args py w hw)), Option.bind_some]
          congr 1
          rw [decide_eq_decide, pm_iff px py]
          exact ⟨fun h => ⟨c1, c2, c3, h⟩, fun h => h.2.2.2⟩
        · rw [if_pos c1, if_pos c2, if_neg c3]; exact no fun h => c3 h.2.2.1
      · rw [if_pos c1, if_neg c2]; exact no fun h => c2 h.2.1
    · rw [if_neg c1]; exact no fun h => c1 h.1
theorem sameP {x y : T_api_Pat} (px : PP x) (py : PP y) : tree_SamePat x y = some (decide (PM x = PM y)) := same_pat _ x y (Nat.le_refl _) px py
theorem bind_if {α : Type} {p : Prop} [Decidable p] {f : Bool → Option α} (h : p) : Option.bind (some (decide p)) f = f true := by rw [decide_eq_true h]; rfl
theorem bind_no {α : Type} {p : Prop} [Decidable p] {f : Bool → Option α} (h : ¬ p) : Option.bind (some (decide p)) f = f false := by rw [decide_eq_false h]; rfl
theorem same_expr : ∀ (n : Nat) (x y : T_api_Expr), x.bulk ≤ n → EP x → EP y → tree_SameExpr x y = some (decide (EM x = EM y)) := by
  intro n
  induction n with
  | zero => intro x y hx; have := ebulk_pos x; omega
  | succ n ih =>
    intro x y hx px py
    have hb := ebulk x
    have hx2 := px.1
    have l1 : x.Names.length ≤ (x.Names.map fun s => s.size + 1).sum := len_le_sum fun x _ => by omega
    have l2 : x.Types.length ≤ (x.Types.map T_api_Type.bulk).sum := len_le_sum fun x _ => tbulk_pos x
    have l3 : x.Args.length ≤ (x.Args.map T_api_Expr.bulk).sum := len_le_sum fun x _ => ebulk_pos x
    have l4 : x.Arms.length ≤ (x.Arms.map T_api_Arm.bulk).sum := len_le_sum fun x _ => abulk_pos x
    have no : ¬ ESm x y → some false = some (decide (EM x = EM y)) := fun h => by rw [decide_eq_false (fun e => h ((em_iff px py).1 e))]
    have e1 := eq20 (l := x.Names) (m := y.Names) (by omega)
    have e2 := eq48_s1 (l := x.Types) (m := y.Types) TM (by omega) (fun z hz w hw => sameT (ep_types px z hz) (ep_types py w hw))
    have e3 := eq26_s3 (l := x.Args) (m := y.Args) EM (by omega) (fun z hz w hw => ih z w (by have := le_sum (f := T_api_Expr.bulk) hz; omega) (ep_args px z hz) (ep_args py w hw))
    have e4 := eq50_s4 (l := x.Arms) (m := y.Arms) AM (by omega) (fun z hz w hw => by
      have az := ep_arms px z hz
      have aw := ep_arms py w hw
      have hzb := le_sum (f := T_api_Arm.bulk) hz
      have hab := abulk z
      rw [tree_sameArm_eq, sameP az.1 aw.1]
      by_cases c : PM z.Pat = PM w.Pat
      · rw [bind_if c, if_pos rfl, ih z.Body w.Body (by omega) az.2 aw.2, Option.bind_some]
        congr 1
        rw [decide_eq_decide, am_iff az aw]
        exact ⟨fun h => ⟨c, h⟩, fun h => h.2⟩
      · rw [bind_no c, if_neg (by decide), decide_eq_false (fun e => c ((am_iff az aw).1 e).1)])
    rw [tree_SameExpr_eq, e1, e2, e3, e4]
    by_cases c1 : x.Kind = y.Kind
    · by_cases c2 : x.Num = y.Num
      · by_cases c3 : x.Text = y.Text
        · rw [if_pos c1, if_pos c2, if_pos c3]
          by_cases c4 : x.Names = y.Names
          · rw [bind_if c4, if_pos rfl]
            by_cases c5 : x.Types.map TM = y.Types.map TM
            · rw [bind_if c5, if_pos rfl]
              by_cases c6 : x.Args.map EM = y.Args.map EM
              · rw [bind_if c6, if_pos rfl, Option.bind_some]
                congr 1
                rw [decide_eq_decide, em_iff px py]
                exact ⟨fun h => ⟨c1, c2, c3, c4, c5, c6, h⟩, fun h => h.2.2.2.2.2.2⟩
              · rw [bind_no c6, if_neg (by decide)]; exact no fun h => c6 h.2.2.2.2.2.1
            · rw [bind_no c5, if_neg (by decide)]; exact no fun h => c5 h.2.2.2.2.1
          · rw [bind_no c4, if_neg (by decide)]; exact no fun h => c4 h.2.2.2.1
        · rw [if_pos c1, if_pos c2, if_neg c3]; exact no fun h => c3 h.2.2.1
      · rw [if_pos c1, if_neg c2]; exact no fun h => c2 h.2.1
    · rw [if_neg c1]; exact no fun h => c1 h.1
theorem sameE {x y : T_api_Expr} (px : EP x) (py : EP y) : tree_SameExpr x y = some (decide (EM x = EM y)) := same_expr _ x y (Nat.le_refl _) px py
theorem nl_inj {l m : List ByteArray} {s s' : ByteArray} (h : NL l ++ s = NL m ++ s') : l = m ∧ s = s' := by
  unfold NL at h
  rw [app_assoc, app_assoc] at h
  have a := nm_inj (by simp) h
  simp only [List.cons.injEq, and_true] at a
  exact tx_inj (by omega) a.2
theorem tl_inj {l m : List T_api_Type} {s s' : ByteArray} (hl : ∀ x ∈ l, TP x) (hm : ∀ x ∈ m, TP x) (h : TL l ++ s = TL m ++ s') : l.map TM = m.map TM ∧ s = s' := by
  unfold TL at h
  rw [app_assoc, app_assoc] at h
  have a := nm_inj (by simp) h
  simp only [List.cons.injEq, and_true] at a
  exact cat_inj tm_pf hl hm (by omega) a.2
theorem tl_of {l m : List T_api_Type} (h : l.map TM = m.map TM) : TL l = TL m := by unfold TL; rw [h, len_of_map h]
def FP (f : T_api_Func) : Prop := f.bulk ≤ 2000000 ∧ f.Q
theorem fp_parts {f : T_api_Func} (h : FP f) : (∀ x ∈ f.Types, TP x) ∧ TP f.Out ∧ EP f.Body ∧ f.Params.length ≤ 2000000 ∧ f.Names.length ≤ 2000000 ∧ f.Types.length ≤ 2000000 := by
  obtain ⟨_, ⟨_, _⟩, ⟨_, _⟩, ⟨_, q7⟩, q8, q9⟩ := h.2
  have hb := fbulk f
  have h1 := h.1
  have l1 : f.Params.length ≤ (f.Params.map fun s => s.size + 1).sum := len_le_sum fun x _ => by omega
  have l2 : f.Names.length ≤ (f.Names.map fun s => s.size + 1).sum := len_le_sum fun x _ => by omega
  have l3 : f.Types.length ≤ (f.Types.map T_api_Type.bulk).sum := len_le_sum fun x _ => tbulk_pos x
  exact ⟨fun x hx => ⟨by have := le_sum (f := T_api_Type.bulk) hx; omega, q7 x hx⟩, ⟨by omega, q8⟩, ⟨by omega, q9⟩, by omega, by omega, by omega⟩
theorem fm_split {x y : T_api_Func} {s s' : ByteArray} (px : FP x) (py : FP y) (h : FM x ++ s = FM y ++ s') : (x.Name = y.Name ∧ x.Params = y.Params ∧ x.Names = y.Names ∧ x.Types.map TM = y.Types.map TM ∧ TM x.Out = TM y.Out ∧ EM x.Body = EM y.Body) ∧ s = s' := by
  unfold FM at h
  simp only [app_assoc] at h
  have a := tx1_inj h
  have b := nl_inj a.2
  have c := nl_inj b.2
  have d := tl_inj (fp_parts px).1 (fp_parts py).1 c.2
  have e := tm_pf _ _ _ _ (fp_parts px).2.1 (fp_parts py).2.1 d.2
  have f := em_pf _ _ _ _ (fp_parts px).2.2.1 (fp_parts py).2.2.1 e.2
  exact ⟨⟨a.1, b.1, c.1, d.1, e.1, f.1⟩, f.2⟩
theorem fm_iff {x y : T_api_Func} (px : FP x) (py : FP y) : FM x = FM y ↔ (x.Name = y.Name ∧ x.Params = y.Params ∧ x.Names = y.Names ∧ x.Types.map TM = y.Types.map TM ∧ TM x.Out = TM y.Out ∧ EM x.Body = EM y.Body) :=
  ⟨fun h => (fm_split (s := BA0) (s' := BA0) px py (by rw [h])).1, fun ⟨h1, h2, h3, h4, h5, h6⟩ => by unfold FM; rw [h1, h2, h3, tl_of h4, h5, h6]⟩
theorem fm_pf : PF FM FP := fun x y s s' px py h => by
  have := fm_split px py h
  exact ⟨(fm_iff px py).2 this.1, this.2⟩
theorem sameF {x y : T_api_Func} (px : FP x) (py : FP y) : tree_sameFunc x y = some (decide (FM x = FM y)) := by
  obtain ⟨x1, x2, x3, x4, x5, x6⟩ := fp_parts px
  obtain ⟨y1, y2, y3, _, _, _⟩ := fp_parts py
  have no : ¬ (x.Name = y.Name ∧ x.Params = y.Params ∧ x.Names = y.Names ∧ x.Types.map TM = y.Types.map TM ∧ TM x.Out = TM y.Out ∧ EM x.Body = EM y.Body) → some false = some (decide (FM x = FM y)) := fun h => by rw [decide_eq_false (fun e => h ((fm_iff px py).1 e))]
  unfold tree_sameFunc
  rw [eq20 x4, eq20 x5, eq48_s1 TM x6 (fun z hz w hw => sameT (x1 z hz) (y1 w hw)), sameT x2 y2, sameE x3 y3]
  by_cases c0 : x.Name = y.Name
  · rw [if_pos c0]
    by_cases c1 : x.Params = y.Params
    · rw [bind_if c1, if_pos rfl]
      by_cases c2 : x.Names = y.Names
      · rw [bind_if c2, if_pos rfl]
        by_cases c3 : x.Types.map TM = y.Types.map TM
        · rw [bind_if c3, if_pos rfl]
          by_cases c4 : TM x.Out = TM y.Out
          · rw [bind_if c4, if_pos rfl]
            rw [Option.bind_some]
            congr 1
            rw [decide_eq_decide, fm_iff px py]
            exact ⟨fun h => ⟨c0, c1, c2, c3, c4, h⟩, fun h => h.2.2.2.2.2⟩
          · rw [bind_no c4, if_neg (by decide)]
            exact no fun h => c4 h.2.2.2.2.1
        · rw [bind_no c3, if_neg (by decide)]
          exact no fun h => c3 h.2.2.2.1
      · rw [bind_no c2, if_neg (by decide)]
        exact no fun h => c2 h.2.2.1
    · rw [bind_no c1, if_neg (by decide)]
      exact no fun h => c1 h.2.1
  · rw [if_neg c0]
    exact no fun h => c0 h.1
theorem fl_inj {l m : List T_api_Func} {s s' : ByteArray} (hl : ∀ x ∈ l, FP x) (hm : ∀ x ∈ m, FP x) (h : FL l ++ s = FL m ++ s') : l.map FM = m.map FM ∧ s = s' := by
  unfold FL at h
  rw [app_assoc, app_assoc] at h
  have a := nm_inj (by simp) h
  simp only [List.cons.injEq, and_true] at a
  exact cat_inj fm_pf hl hm (by omega) a.2
theorem fl_of {l m : List T_api_Func} (h : l.map FM = m.map FM) : FL l = FL m := by unfold FL; rw [h, len_of_map h]
theorem fl_len {l : List T_api_Func} (h : (l.map T_api_Func.bulk).sum ≤ 2000000) (q : ∀ f ∈ l, f.Q) : l.length ≤ 2000000 ∧ ∀ f ∈ l, FP f := by
  have l1 : l.length ≤ (l.map T_api_Func.bulk).sum := len_le_sum fun x _ => by rw [fbulk]; omega
  exact ⟨by omega, fun f hf => ⟨by have := le_sum (f := T_api_Func.bulk) hf; omega, q f hf⟩⟩
theorem um_split {x y : T_api_Use} {s s' : ByteArray} (h : UM x ++ s = UM y ++ s') : (x.Name = y.Name ∧ x.Low = y.Low ∧ x.High = y.High) ∧ s = s' := by
  unfold UM at h
  simp only [app_assoc] at h
  have a := tx1_inj h
  have b := nm_inj (by simp) a.2
  simp only [List.cons.injEq, and_true] at b
  exact ⟨⟨a.1, b.1⟩, b.2⟩
theorem um_iff {x y : T_api_Use} : UM x = UM y ↔ (x.Name = y.Name ∧ x.Low = y.Low ∧ x.High = y.High) :=
  ⟨fun h => (um_split (s := BA0) (s' := BA0) (by rw [h])).1, fun ⟨h1, h2, h3⟩ => by unfold UM; rw [h1, h2, h3]⟩
theorem um_pf : PF UM (fun _ => True) := fun x y s s' _ _ h => by
  have := um_split h
  exact ⟨um_iff.2 this.1, this.2⟩
theorem eq30 {l m : List T_api_Use} (hl : l.length ≤ 2000000) : slices_Equal_30 l m = some (decide (l.map UM = m.map UM)) := by
  unfold slices_Equal_30
  by_cases c : l.length = m.length
  · rw [if_pos (by omega)]
    exact eqf_loop (M := UM) (l := l) (m := m) (F := fun i => slices_Equal_30.l0 l m (l.length : Int) i) c (fun i h1 h2 => by
      rw [slices_Equal_30.l0_eq, if_pos (by omega), gi_at h1, Option.bind_some, gi_at h2, Option.bind_some, w_succ (by omega)]
      by_cases c : UM l[i] = UM m[i]
      · obtain ⟨c1, c2, c3⟩ := um_iff.1 c
        rw [if_pos c, if_pos (by rw [ba_beq]; simp [c1, c2, c3])]
      · rw [if_neg c, if_neg (fun e => c (um_iff.2 (by rw [ba_beq] at e; simpa using e)))]) (by rw [slices_Equal_30.l0_eq, if_neg (by omega)])
  · rw [if_neg (by omega), decide_eq_false (map_ne c)]
def MP (m : T_api_Make) : Prop := m.bulk ≤ 2000000 ∧ m.Q
theorem mp_parts {x : T_api_Make} (h : MP x) : (∀ t ∈ x.Args, TP t) ∧ x.Args.length ≤ 2000000 := by
  obtain ⟨_, _, q⟩ := h.2
  have hb : x.bulk = x.Name.size + (x.Args.map T_api_Type.bulk).sum + 3 := by unfold T_api_Make.bulk; omega
  have h1 := h.1
  have l3 : x.Args.length ≤ (x.Args.map T_api_Type.bulk).sum := len_le_sum fun x _ => tbulk_pos x
  exact ⟨fun t ht => ⟨by have := le_sum (f := T_api_Type.bulk) ht; omega, q t ht⟩, by omega⟩
theorem km_split {x y : T_api_Make} {s s' : ByteArray} (px : MP x) (py : MP y) (h : KM x ++ s = KM y ++ s') : (x.Name = y.Name ∧ x.Args.map TM = y.Args.map TM) ∧ s = s' := by
  unfold KM at h
  simp only [app_assoc] at h
  have a := tx1_inj h
  have b := tl_inj (mp_parts px).1 (mp_parts py).1 a.2
  exact ⟨⟨a.1, b.1⟩, b.2⟩
theorem km_iff {x y : T_api_Make} (px : MP x) (py : MP y) : KM x = KM y ↔ (x.Name = y.Name ∧ x.Args.map TM = y.Args.map TM) :=
  ⟨fun h => (km_split (s := BA0) (s' := BA0) px py (by rw [h])).1, fun ⟨h1, h2⟩ => by unfold KM; rw [h1, tl_of h2]⟩
theorem km_pf : PF KM MP := fun x y s s' px py h => by
  have := km_split px py h
  exact ⟨(km_iff px py).2 this.1, this.2⟩
theorem sameK {x y : T_api_Make} (px : MP x) (py : MP y) : tree_sameMake x y = some (decide (KM x = KM y)) := by
  have no : ¬ (x.Name = y.Name ∧ x.Args.map TM = y.Args.map TM) → some false = some (decide (KM x = KM y)) := fun h => by rw [decide_eq_false (fun e => h ((km_iff px py).1 e))]
  unfold tree_sameMake
  rw [eq48_s1 TM (mp_parts px).2 (fun z hz w hw => sameT ((mp_parts px).1 z hz) ((mp_parts py).1 w hw))]
  by_cases c0 : x.Name = y.Name
  · rw [if_pos c0]
    rw [Option.bind_some]
    congr 1
    rw [decide_eq_decide, km_iff px py]
    exact ⟨fun h => ⟨c0, h⟩, fun h => h.2⟩
  · rw [if_neg c0]
    exact no fun h => c0 h.1
def DP (d : T_api_Data) : Prop := d.bulk ≤ 2000000 ∧ d.Q
theorem dp_parts {x : T_api_Data} (h : DP x) : (∀ t ∈ x.Makes, MP t) ∧ x.Makes.length ≤ 2000000 ∧ x.Params.length ≤ 2000000 := by
  obtain ⟨_, ⟨_, _⟩, _, q⟩ := h.2
  have hb : x.bulk = x.Name.size + (x.Params.map fun s => s.size + 1).sum + (x.Makes.map T_api_Make.bulk).sum + 4 := by unfold T_api_Data.bulk; omega
  have h1 := h.1
  have l1 : x.Makes.length ≤ (x.Makes.map T_api_Make.bulk).sum := len_le_sum fun x _ => by unfold T_api_Make.bulk; omega
  have l2 : x.Params.length ≤ (x.Params.map fun s => s.size + 1).sum := len_le_sum fun x _ => by omega
  exact ⟨fun t ht => ⟨by have := le_sum (f := T_api_Make.bulk) ht; omega, q t ht⟩, by omega, by omega⟩
theorem dm_split {x y : T_api_Data} {s s' : ByteArray} (px : DP x) (py : DP y) (h : DM x ++ s = DM y ++ s') : (x.Name = y.Name ∧ x.Params = y.Params ∧ x.Makes.map KM = y.Makes.map KM) ∧ s = s' := by
  unfold DM at h
  simp only [app_assoc] at h
  have a := tx1_inj h
  have b := nm_inj (by simp) a.2
  simp only [List.cons.injEq, and_true] at b
  have c := nl_inj b.2
  have d := cat_inj km_pf (dp_parts px).1 (dp_parts py).1 (by omega) c.2
  exact ⟨⟨a.1, c.1, d.1⟩, d.2⟩
theorem dm_iff {x y : T_api_Data} (px : DP x) (py : DP y) : DM x = DM y ↔ (x.Name = y.Name ∧ x.Params = y.Params ∧ x.Makes.map KM = y.Makes.map KM) :=
  ⟨fun h => (dm_split (s := BA0) (s' := BA0) px py (by rw [h])).1, fun ⟨h1, h2, h3⟩ => by unfold DM; rw [h1, h2, h3, len_of_map h3]⟩
theorem dm_pf : PF DM DP := fun x y s s' px py h => by
  have := dm_split px py h
  exact ⟨(dm_iff px py).2 this.1, this.2⟩
theorem sameD {x y : T_api_Data} (px : DP x) (py : DP y) : tree_sameData x y = some (decide (DM x = DM y)) := by
  obtain ⟨x1, x2, x3⟩ := dp_parts px
  obtain ⟨y1, y2, y3⟩ := dp_parts py
  have no : ¬ (x.Name = y.Name ∧ x.Params = y.Params ∧ x.Makes.map KM = y.Makes.map KM) → some false = some (decide (DM x = DM y)) := fun h => by rw [decide_eq_false (fun e => h ((dm_iff px py).1 e))]
  unfold tree_sameData
  rw [eq20 x3, eq62 KM x2 (fun z hz w hw => sameK (x1 z hz) (y1 w hw))]
  by_cases c0 : x.Name = y.Name
  · rw [if_pos c0]
    by_cases c1 : x.Params = y.Params
    · rw [bind_if c1, if_pos rfl]
      rw [Option.bind_some]
      congr 1
      rw [decide_eq_decide, dm_iff px py]
      exact ⟨fun h => ⟨c0, c1, h⟩, fun h => h.2.2⟩
    · rw [bind_no c1, if_neg (by decide)]
      exact no fun h => c1 h.2.1
  · rw [if_neg c0]
    exact no fun h => c0 h.1
def RP (x : T_api_Trait) : Prop := x.bulk ≤ 2000000 ∧ x.Q
theorem rp_parts {x : T_api_Trait} (h : RP x) : x.Funcs.length ≤ 2000000 ∧ ∀ f ∈ x.Funcs, FP f := by
  obtain ⟨_, _, q⟩ := h.2
  have hb : x.bulk = x.Name.size + (x.Funcs.map T_api_Func.bulk).sum + 3 := by unfold T_api_Trait.bulk; omega
  have h1 := h.1
  exact fl_len (by omega) q
theorem rm_split {x y : T_api_Trait} {s s' : ByteArray} (px : RP x) (py : RP y) (h : RM x ++ s = RM y ++ s') : (x.Name = y.Name ∧ x.Funcs.map FM = y.Funcs.map FM) ∧ s = s' := by
  unfold RM at h
  simp only [app_assoc] at h
  have a := tx1_inj h
  have b := fl_inj (rp_parts px).2 (rp_parts py).2 a.2
  exact ⟨⟨a.1, b.1⟩, b.2⟩
theorem rm_iff {x y : T_api_Trait} (px : RP x) (py : RP y) : RM x = RM y ↔ (x.Name = y.Name ∧ x.Funcs.map FM = y.Funcs.map FM) :=
  ⟨fun h => (rm_split (s := BA0) (s' := BA0) px py (by rw [h])).1, fun ⟨h1, h2⟩ => by unfold RM; rw [h1, fl_of h2]⟩
theorem rm_pf : PF RM RP := fun x y s s' px py h => by
  have := rm_split px py h
  exact ⟨(rm_iff px py).2 this.1, this.2⟩
theorem sameR {x y : T_api_Trait} (px : RP x) (py : RP y) : tree_sameTrait x y = some (decide (RM x = RM y)) := by
  have no : ¬ (x.Name = y.Name ∧ x.Funcs.map FM = y.Funcs.map FM) → some false = some (decide (RM x = RM y)) := fun h => by rw [decide_eq_false (fun e => h ((rm_iff px py).1 e))]
  unfold tree_sameTrait
  rw [eq37 FM (rp_parts px).1 (fun z hz w hw => sameF ((rp_parts px).2 z hz) ((rp_parts py).2 w hw))]
  by_cases c0 : x.Name = y.Name
  · rw [if_pos c0]
    rw [Option.bind_some]
    congr 1
    rw [decide_eq_decide, rm_iff px py]
    exact ⟨fun h => ⟨c0, h⟩, fun h => h.2⟩
  · rw [if_neg c0]
    exact no fun h => c0 h.1
def IP (x : T_api_Impl) : Prop := x.bulk ≤ 2000000 ∧ x.Q
theorem ip_parts {x : T_api_Impl} (h : IP x) : x.Funcs.length ≤ 2000000 ∧ ∀ f ∈ x.Funcs, FP f := by
  obtain ⟨_, _, _, q⟩ := h.2
  have hb : x.bulk = x.Trait.size + x.For.size + (x.Funcs.map T_api_Func.bulk).sum + 4 := by unfold T_api_Impl.bulk; omega
  have h1 := h.1
  exact fl_len (by omega) q
theorem im_split {x y : T_api_Impl} {s s' : ByteArray} (px : IP x) (py : IP y) (h : IM x ++ s = IM y ++ s') : (x.Trait = y.Trait ∧ x.For = y.For ∧ x.Funcs.map FM = y.Funcs.map FM) ∧ s = s' := by
  unfold IM at h
  simp only [app_assoc] at h
  have a := tx_inj (by simp) h
  simp only [List.cons.injEq, and_true] at a
  have b := fl_inj (ip_parts px).2 (ip_parts py).2 a.2
  exact ⟨⟨a.1.1, a.1.2, b.1⟩, b.2⟩
theorem im_iff {x y : T_api_Impl} (px : IP x) (py : IP y) : IM x = IM y ↔ (x.Trait = y.Trait ∧ x.For = y.For ∧ x.Funcs.map FM = y.Funcs.map FM) :=
  ⟨fun h => (im_split (s := BA0) (s' := BA0) px py (by rw [h])).1, fun ⟨h1, h2, h3⟩ => by unfold IM; rw [h1, h2, fl_of h3]⟩
theorem im_pf : PF IM IP := fun x y s s' px py h => by
  have := im_split px py h
  exact ⟨(im_iff px py).2 this.1, this.2⟩
theorem sameI {x y : T_api_Impl} (px : IP x) (py : IP y) : tree_sameImpl x y = some (decide (IM x = IM y)) := by
  have no : ¬ (x.Trait = y.Trait ∧ x.For = y.For ∧ x.Funcs.map FM = y.Funcs.map FM) → some false = some (decide (IM x = IM y)) := fun h => by rw [decide_eq_false (fun e => h ((im_iff px py).1 e))]
  unfold tree_sameImpl
  rw [eq37 FM (ip_parts px).1 (fun z hz w hw => sameF ((ip_parts px).2 z hz) ((ip_parts py).2 w hw))]
  by_cases c0 : x.Trait = y.Trait
  · rw [if_pos c0]
    by_cases c1 : x.For = y.For
    · rw [if_pos c1]
      rw [Option.bind_some]
      congr 1
      rw [decide_eq_decide, im_iff px py]
      exact ⟨fun h => ⟨c0, c1, h⟩, fun h => h.2.2⟩
    · rw [if_neg c1]
      exact no fun h => c1 h.2.1
  · rw [if_neg c0]
    exact no fun h => c0 h.1
def CP (x : T_api_Actor) : Prop := x.bulk ≤ 2000000 ∧ x.Q
theorem cp_parts {x : T_api_Actor} (h : CP x) : (∀ t ∈ x.Types, TP t) ∧ TP x.Msg ∧ EP x.Body ∧ x.Names.length ≤ 2000000 ∧ x.Types.length ≤ 2000000 := by
  obtain ⟨_, ⟨_, _⟩, ⟨_, r3⟩, r4, r5⟩ := h.2
  have hb : x.bulk = x.Name.size + (x.Names.map fun s => s.size + 1).sum + (x.Types.map T_api_Type.bulk).sum + x.Msg.bulk + x.Body.bulk + 4 := by unfold T_api_Actor.bulk; omega
  have h1 := h.1
  have l2 : x.Names.length ≤ (x.Names.map fun s => s.size + 1).sum := len_le_sum fun x _ => by omega
  have l3 : x.Types.length ≤ (x.Types.map T_api_Type.bulk).sum := len_le_sum fun x _ => tbulk_pos x
  exact ⟨fun t ht => ⟨by have := le_sum (f := T_api_Type.bulk) ht; omega, r3 t ht⟩, ⟨by omega, r4⟩, ⟨by omega, r5⟩, by omega, by omega⟩
theorem cm_split {x y : T_api_Actor} {s s' : ByteArray} (px : CP x) (py : CP y) (h : CM x ++ s = CM y ++ s') : (x.Name = y.Name ∧ x.Names = y.Names ∧ x.Types.map TM = y.Types.map TM ∧ TM x.Msg = TM y.Msg ∧ EM x.Body = EM y.Body) ∧ s = s' := by
  unfold CM at h
  simp only [app_assoc] at h
  have a := tx1_inj h
  have b := nl_inj a.2
  have d := tl_inj (cp_parts px).1 (cp_parts py).1 b.2
  have e := tm_pf _ _ _ _ (cp_parts px).2.1 (cp_parts py).2.1 d.2
  have f := em_pf _ _ _ _ (cp_parts px).2.2.1 (cp_parts py).2.2.1 e.2
  exact ⟨⟨a.1, b.1, d.1, e.1, f.1⟩, f.2⟩
theorem cm_iff {x y : T_api_Actor} (px : CP x) (py : CP y) : CM x = CM y ↔ (x.Name = y.Name ∧ x.Names = y.Names ∧ x.Types.map TM = y.Types.map TM ∧ TM x.Msg = TM y.Msg ∧ EM x.Body = EM y.Body) :=
  ⟨fun h => (cm_split (s := BA0) (s' := BA0) px py (by rw [h])).1, fun ⟨h1, h2, h3, h4, h5⟩ => by unfold CM; rw [h1, h2, tl_of h3, h4, h5]⟩
theorem cm_pf : PF CM CP := fun x y s s' px py h => by
  have := cm_split px py h
  exact ⟨(cm_iff px py).2 this.1, this.2⟩
theorem sameC {x y : T_api_Actor} (px : CP x) (py : CP y) : tree_sameActor x y = some (decide (CM x = CM y)) := by
  obtain ⟨x1, x2, x3, x4, x5⟩ := cp_parts px
  obtain ⟨y1, y2, y3, _, _⟩ := cp_parts py
  have no : ¬ (x.Name = y.Name ∧ x.Names = y.Names ∧ x.Types.map TM = y.Types.map TM ∧ TM x.Msg = TM y.Msg ∧ EM x.Body = EM y.Body) → some false = some (decide (CM x = CM y)) := fun h => by rw [decide_eq_false (fun e => h ((cm_iff px py).1 e))]
  unfold tree_sameActor
  rw [eq20 x4, eq48_s1 TM x5 (fun z hz w hw => sameT (x1 z hz) (y1 w hw)), sameT x2 y2, sameE x3 y3]
  by_cases c0 : x.Name = y.Name
  · rw [if_pos c0]
    by_cases c1 : x.Names = y.Names
    · rw [bind_if c1, if_pos rfl]
      by_cases c2 : x.Types.map TM = y.Types.map TM
      · rw [bind_if c2, if_pos rfl]
        by_cases c3 : TM x.Msg = TM y.Msg
        · rw [bind_if c3, if_pos rfl]
          rw [Option.bind_some]
          congr 1
          rw [decide_eq_decide, cm_iff px py]
          exact ⟨fun h => ⟨c0, c1, c2, c3, h⟩, fun h => h.2.2.2.2⟩
        · rw [bind_no c3, if_neg (by decide)]
          exact no fun h => c3 h.2.2.2.1
      · rw [bind_no c2, if_neg (by decide)]
        exact no fun h => c2 h.2.2.1
    · rw [bind_no c1, if_neg (by decide)]
      exact no fun h => c1 h.2.1
  · rw [if_neg c0]
    exact no fun h => c0 h.1
def GP (p : T_api_Program) : Prop := p.bulk ≤ 2000000 ∧ p.Q
theorem gp_parts {p : T_api_Program} (h : GP p) : p.Uses.length ≤ 2000000 ∧ (p.Datas.length ≤ 2000000 ∧ ∀ x ∈ p.Datas, DP x) ∧ (p.Traits.length ≤ 2000000 ∧ ∀ x ∈ p.Traits, RP x) ∧ (p.Impls.length ≤ 2000000 ∧ ∀ x ∈ p.Impls, IP x) ∧ (p.Funcs.length ≤ 2000000 ∧ ∀ x ∈ p.Funcs, FP x) ∧ (p.Actors.length ≤ 2000000 ∧ ∀ x ∈ p.Actors, CP x) := by
  have hb := prbulk p
  have h1 := h.1
  obtain ⟨q1, q2, ⟨_, q3⟩, ⟨_, q4⟩, ⟨_, q5⟩, ⟨_, q6⟩, ⟨_, q7⟩, ⟨_, q8⟩⟩ := h.2
  have u1 : p.Uses.length ≤ (p.Uses.map T_api_Use.bulk).sum := len_le_sum fun x _ => by unfold T_api_Use.bulk; omega
  have u2 : p.Datas.length ≤ (p.Datas.map T_api_Data.bulk).sum := len_le_sum fun x _ => by unfold T_api_Data.bulk; omega
  have u3 : p.Traits.length ≤ (p.Traits.map T_api_Trait.bulk).sum := len_le_sum fun x _ => by unfold T_api_Trait.bulk; omega
  have u4 : p.Impls.length ≤ (p.Impls.map T_api_Impl.bulk).sum := len_le_sum fun x _ => by unfold T_api_Impl.bulk; omega
  have u6 : p.Actors.length ≤ (p.Actors.map T_api_Actor.bulk).sum := len_le_sum fun x _ => by unfold T_api_Actor.bulk; omega
  exact ⟨by omega, ⟨by omega, fun x hx => ⟨by have := le_sum (f := T_api_Data.bulk) hx; omega, q4 x hx⟩⟩, ⟨by omega, fun x hx => ⟨by have := le_sum (f := T_api_Trait.bulk) hx; omega, q5 x hx⟩⟩, ⟨by omega, fun x hx => ⟨by have := le_sum (f := T_api_Impl.bulk) hx; omega, q6 x hx⟩⟩, fl_len (by omega) q7, ⟨by omega, fun x hx => ⟨by have := le_sum (f := T_api_Actor.bulk) hx; omega, q8 x hx⟩⟩⟩
def GSm (x y : T_api_Program) : Prop := x.Name = y.Name ∧ x.Version = y.Version ∧ x.Uses.map UM = y.Uses.map UM ∧ x.Datas.map DM = y.Datas.map DM ∧ x.Traits.map RM = y.Traits.map RM ∧ x.Impls.map IM = y.Impls.map IM ∧ x.Funcs.map FM = y.Funcs.map FM ∧ x.Actors.map CM = y.Actors.map CM
theorem mk_iff {x y : T_api_Program} (px : GP x) (py : GP y) : MK x = MK y ↔ GSm x y := by
  constructor
  · intro h
    have h : MK x ++ BA0 = MK y ++ BA0 := by rw [h]
    unfold MK at h
    simp only [app_assoc] at h
    obtain ⟨_, xd, xr, xi, xf, xc⟩ := gp_parts px
    obtain ⟨_, yd, yr, yi, yf, yc⟩ := gp_parts py
    have a := tx1_inj h
    have b := nm_inj (by simp) a.2
    simp only [List.cons.injEq, and_true] at b
    obtain ⟨⟨b1, b2, b3, b4, b5, b6⟩, b⟩ := b
    have c := cat_inj um_pf (fun _ _ => trivial) (fun _ _ => trivial) (by omega) b
    have d := cat_inj dm_pf xd.2 yd.2 (by omega) c.2
    have e := cat_inj rm_pf xr.2 yr.2 (by omega) d.2
    have f := cat_inj im_pf xi.2 yi.2 (by omega) e.2
    have g := fl_inj xf.2 yf.2 f.2
    have k := cat_inj cm_pf xc.2 yc.2 (by omega) g.2
    exact ⟨a.1, b1, c.1, d.1, e.1, f.1, g.1, k.1⟩
  · rintro ⟨h1, h2, h3, h4, h5, h6, h7, h8⟩
    unfold MK
    rw [h1, h2, h3, h4, h5, h6, fl_of h7, h8, len_of_map h3, len_of_map h4, len_of_map h5, len_of_map h6, len_of_map h8]
theorem sameG {x y : T_api_Program} (px : GP x) (py : GP y) : tree_Same x y = some (decide (MK x = MK y)) := by
  obtain ⟨xu, xd, xr, xi, xf, xc⟩ := gp_parts px
  obtain ⟨_, yd, yr, yi, yf, yc⟩ := gp_parts py
  have no : ¬ GSm x y → some false = some (decide (MK x = MK y)) := fun h => by rw [decide_eq_false (fun e => h ((mk_iff px py).1 e))]
  unfold tree_Same
  rw [eq30 xu, eq31 DM xd.1 (fun z hz w hw => sameD (xd.2 z hz) (yd.2 w hw)), eq33 RM xr.1 (fun z hz w hw => sameR (xr.2 z hz) (yr.2 w hw)), eq35 IM xi.1 (fun z hz w hw => sameI (xi.2 z hz) (yi.2 w hw)), eq37 FM xf.1 (fun z hz w hw => sameF (xf.2 z hz) (yf.2 w hw)), eq39 CM xc.1 (fun z hz w hw => sameC (xc.2 z hz) (yc.2 w hw))]
  by_cases c0 : x.Name = y.Name
  · rw [if_pos c0]
    by_cases c1 : x.Version = y.Version
    · rw [if_pos c1]
      by_cases c2 : x.Uses.map UM = y.Uses.map UM
      · rw [bind_if c2, if_pos rfl]
        by_cases c3 : x.Datas.map DM = y.Datas.map DM
        · rw [bind_if c3, if_pos rfl]
          by_cases c4 : x.Traits.map RM = y.Traits.map RM
          · rw [bind_if c4, if_pos rfl]
            by_cases c5 : x.Impls.map IM = y.Impls.map IM
            · rw [bind_if c5, if_pos rfl]
              by_cases c6 : x.Funcs.map FM = y.Funcs.map FM
              · rw [bind_if c6, if_pos rfl]
                rw [Option.bind_some]
                congr 1
                rw [decide_eq_decide, mk_iff px py]
                exact ⟨fun h => ⟨c0, c1, c2, c3, c4, c5, c6, h⟩, fun h => h.2.2.2.2.2.2.2⟩
              · rw [bind_no c6, if_neg (by decide)]
                exact no fun h => c6 h.2.2.2.2.2.2.1
            · rw [bind_no c5, if_neg (by decide)]
              exact no fun h => c5 h.2.2.2.2.2.1
          · rw [bind_no c4, if_neg (by decide)]
            exact no fun h => c4 h.2.2.2.2.1
        · rw [bind_no c3, if_neg (by decide)]
          exact no fun h => c3 h.2.2.2.1
      · rw [bind_no c2, if_neg (by decide)]
        exact no fun h => c2 h.2.2.1
    · rw [if_neg c1]
      exact no fun h => c1 h.2.1
  · rw [if_neg c0]
    exact no fun h => c0 h.1
theorem bs_q {p : Pg} (h : GP p) : ∀ e ∈ bs p, EP e := by
  obtain ⟨_, _, _, hi, hf, hc⟩ := gp_parts h
  intro e he
  unfold bs fs at he
  rcases List.mem_append.1 he with he | he
  · obtain ⟨f, hf', rfl⟩ := List.mem_map.1 he
    rcases List.mem_append.1 hf' with h1 | h1
    · obtain ⟨m, hm, hm2⟩ := List.mem_flatMap.1 h1
      exact (fp_parts ((ip_parts (hi.2 m hm)).2 f hm2)).2.2.1
    · exact (fp_parts (hf.2 f h1)).2.2.1
  · obtain ⟨c, hc', rfl⟩ := List.mem_map.1 he
    exact (cp_parts (hc.2 c hc')).2.2.1
theorem em_val {e : T_api_Expr} (h : EP e) : roadref2_ExprMark e = some (EM e) := (expr_mark e.bulk e (Nat.le_refl _) h.1 h.2).1
theorem law_l1 {l : List Ex} (hl : l.length ≤ 2000000) (hq : ∀ e ∈ l, EP e) {i : Nat} (hi : i < l.length) : ∀ (d j : Nat), l.length - j = d → j ≤ l.length →
    roadlaw2_TreeSame.l1 l l (i : Int) (l.length : Int) (i : Int) (l.length : Int) (j : Int) = roadlaw2_TreeSame.l0 l l (l.length : Int) ((i + 1 : Nat) : Int) := by
  intro d
  induction d with
  | zero => intro j hd hj; rw [roadlaw2_TreeSame.l1_eq, if_neg (by omega), w_succ (by omega)]
  | succ d ih =>
    intro j hd hj
    have hlt : j < l.length := by omega
    have q1 := hq _ (List.getElem_mem hi)
    have q2 := hq _ (List.getElem_mem hlt)
    rw [roadlaw2_TreeSame.l1_eq, if_pos (by omega), gi_at hlt, Option.bind_some, gi_at hi, Option.bind_some, Option.bind_some, sameE q1 q2, Option.bind_some, em_val q1, Option.bind_some, em_val q2, Option.bind_some, if_pos (by simp), w_succ (by omega)]
    exact ih (j + 1) (by omega) (by omega)
theorem law_l0 {l : List Ex} (hl : l.length ≤ 2000000) (hq : ∀ e ∈ l, EP e) : ∀ (d i : Nat), l.length - i = d → i ≤ l.length → roadlaw2_TreeSame.l0 l l (l.length : Int) (i : Int) = some true := by
  intro d
  induction d with
  | zero => intro i hd hi; rw [roadlaw2_TreeSame.l0_eq, if_neg (by omega)]
  | succ d ih =>
    intro i hd hi
    have hlt : i < l.length := by omega
    have q1 := hq _ (List.getElem_mem hlt)
    rw [roadlaw2_TreeSame.l0_eq, if_pos (by omega), gi_at hlt, Option.bind_some, Option.bind_some, em_val q1, Option.bind_some, Option.bind_some, if_pos rfl, roadlaw2_TreeSame.j2_eq]
    have := law_l1 hl hq hlt l.length 0 (by omega) (by omega)
    exact this.trans (ih (i + 1) (by omega) (by omega))
theorem TreeSame (p q : Pg) (hp : p.Q) (hq : q.Q) (hb : p.bulk + q.bulk ≤ 1048576) : roadlaw2_TreeSame p q = some true := by
  have hpb : p.bulk ≤ 1048576 := by omega
  have hqb : q.bulk ≤ 1048576 := by omega
  have gp : GP p := ⟨by omega, hp⟩
  have gq : GP q := ⟨by omega, hq⟩
  obtain ⟨b1, e1⟩ := small_val hpb
  obtain ⟨b2, e2⟩ := small_val hqb
  have bd := bodies_val hpb
  have hl := bs_len p
  unfold roadlaw2_TreeSame
  rw [e1, Option.bind_some]
  cases b1 with
  | false => rw [if_neg (by decide)]
  | true =>
    rw [if_pos rfl, e2, Option.bind_some]
    cases b2 with
    | false => rw [if_neg (by decide)]
    | true =>
      rw [if_pos rfl]
      unfold roadlaw2_TreeSame.j0
      rw [bd.1, Option.bind_some, bd.2, Option.bind_some, sameG gp gq, Option.bind_some, mark_ok gp.1 gp.2, Option.bind_some, mark_ok gq.1 gq.2, Option.bind_some, if_pos (by simp), sameG gp gp, Option.bind_some, if_pos (by simp), if_pos rfl]
      unfold roadlaw2_TreeSame.j1
      exact law_l0 (by omega) (bs_q gp) (bs p).length 0 (by omega) (by omega)
end Go.Proofs.YtnlocljmalhddabDoor.Fw

end
section
namespace Go.Proofs.YtnlocljmalhddabDoor.treeSame
open Go Go.Hw Go.ChangeShapes Go.WideShapes Go.ChangeAt Go.RowKit Go.Proofs.YtnlocljmalhddabDoor.Fw
open Go.ChangeMaps (open_string shut_string)
set_option linter.unusedVariables false
theorem own : ownKnob Tryd.prog.godebug = none := by kernel_rfl
theorem laidOut : laidOutB Tryd.prog = true := by kernel_rfl
theorem bulkAll {H : Type} : ∀ l : List (DataW H), Rows.uptoBulkAll l = (l.map Rows.uptoBulk).sum
  | [] => rfl
  | d :: r => by rw [Rows.uptoBulkAll, List.map_cons, List.sum_cons, bulkAll r]
theorem measure {H : Type} : Measure (Rows.uptoBulk (H := H)) where
  pos d := by
    cases d with
    | lit l => cases l <;> simp [Rows.uptoBulk]
    | _ => simp [Rows.uptoBulk]
  str b := by simp [Rows.uptoBulk]
  slice e s := by rw [Rows.uptoBulk, bulkAll]; omega
  agg ps := by rw [Rows.uptoBulk, bulkAll]; omega
theorem gTab : Tryd.prog.globalNamed "internal/strconv.uint64pow10" = some 0 := by kernel_rfl
theorem gTabType : (Tryd.prog.globals[0]?).map (·.type) = some 124 := by kernel_rfl
theorem table {W : World} (h : laidMetH Tryd.prog Rows.treeSameUptoRow.laid W) : Lib.TabIs Tryd.prog W "internal/strconv.uint64pow10" .u64 Lib.pow10Tab :=
  Lib.tabIs_of_head (rest := []) gTab gTabType (show Tryd.prog.underlying 124 = some (.array 20 116) by kernel_rfl) (show Tryd.prog.underlying 116 = some (.int .u64) by kernel_rfl) (by kernel_rfl) (by kernel_rfl) (laidMet.tail (laidMet.tail (show laidMet Tryd.prog Rows.treeSameUptoRow.laid W from h)))
noncomputable def laidHeap (os : Os) : Array Obj :=
  ((((World.holding Tryd.prog os ⟨#[], #[], []⟩).heap).modify 1 (fun
      | .cells _ t frozen => .cells #[(.int .u8 0), (.int .u8 1), (.int .u8 28), (.int .u8 2), (.int .u8 29), (.int .u8 14), (.int .u8 24), (.int .u8 3), (.int .u8 30), (.int .u8 22), (.int .u8 20), (.int .u8 15), (.int .u8 25), (.int .u8 17), (.int .u8 4), (.int .u8 8), (.int .u8 31), (.int .u8 27), (.int .u8 13), (.int .u8 23), (.int .u8 21), (.int .u8 19), (.int .u8 16), (.int .u8 7), (.int .u8 26), (.int .u8 12), (.int .u8 18), (.int .u8 6), (.int .u8 11), (.int .u8 5), (.int .u8 10), (.int .u8 9)] t frozen
      | o => o)).modify 2 (fun
      | .cells _ t frozen => .cells #[(.int .u8 0), (.int .u8 1), (.int .u8 56), (.int .u8 2), (.int .u8 57), (.int .u8 49), (.int .u8 28), (.int .u8 3), (.int .u8 61), (.int .u8 58), (.int .u8 42), (.int .u8 50), (.int .u8 38), (.int .u8 29), (.int .u8 17), (.int .u8 4), (.int .u8 62), (.int .u8 47), (.int .u8 59), (.int .u8 36), (.int .u8 45), (.int .u8 43), (.int .u8 51), (.int .u8 22), (.int .u8 53), (.int .u8 39), (.int .u8 33), (.int .u8 30), (.int .u8 24), (.int .u8 18), (.int .u8 12), (.int .u8 5), (.int .u8 63), (.int .u8 55), (.int .u8 48), (.int .u8 27), (.int .u8 60), (.int .u8 41), (.int .u8 37), (.int .u8 16), (.int .u8 46), (.int .u8 35), (.int .u8 44), (.int .u8 21), (.int .u8 52), (.int .u8 32), (.int .u8 23), (.int .u8 11), (.int .u8 54), (.int .u8 26), (.int .u8 40), (.int .u8 15), (.int .u8 34), (.int .u8 20), (.int .u8 31), (.int .u8 10), (.int .u8 25), (.int .u8 14), (.int .u8 19), (.int .u8 9), (.int .u8 13), (.int .u8 8), (.int .u8 7), (.int .u8 6)] t frozen
      | o => o)).modify 0 (fun
      | .cells _ t frozen => .cells #[(.int .u64 1), (.int .u64 10), (.int .u64 100), (.int .u64 1000), (.int .u64 10000), (.int .u64 100000), (.int .u64 1000000), (.int .u64 10000000), (.int .u64 100000000), (.int .u64 1000000000), (.int .u64 10000000000), (.int .u64 100000000000), (.int .u64 1000000000000), (.int .u64 10000000000000), (.int .u64 100000000000000), (.int .u64 1000000000000000), (.int .u64 10000000000000000), (.int .u64 100000000000000000), (.int .u64 1000000000000000000), (.int .u64 10000000000000000000)] t frozen
      | o => o)
noncomputable def laidWorld (os : Os) : World :=
  { World.holding Tryd.prog os ⟨#[], #[], []⟩ with heap := laidHeap os }
theorem laid_met (os : Os) : laidMet Tryd.prog Rows.treeSameUptoRow.laid ((laidWorld os).forCall (fun _ _ => 0) ⟨#[], #[(.agg #[(.string (ByteArray.mk #[])), (.int .i64 (0 : Int)), (.slice none 0 0), (.slice none 0 0), (.slice none 0 0), (.slice none 0 0), (.slice none 0 0), (.slice none 0 0)]), (.agg #[(.string (ByteArray.mk #[])), (.int .i64 (0 : Int)), (.slice none 0 0), (.slice none 0 0), (.slice none 0 0), (.slice none 0 0), (.slice none 0 0), (.slice none 0 0)])], []⟩).memory :=
  laidMet_of_run' 8 (by kernel_rfl) (by kernel_rfl)
theorem reads (os : Os) {H : Type} (enc : TypeId × Value → H) : ∃ places, DataW.whole enc Tryd.prog ((laidWorld os).forCall (fun _ _ => 0) ⟨#[], #[(.agg #[(.string (ByteArray.mk #[])), (.int .i64 (0 : Int)), (.slice none 0 0), (.slice none 0 0), (.slice none 0 0), (.slice none 0 0), (.slice none 0 0), (.slice none 0 0)]), (.agg #[(.string (ByteArray.mk #[])), (.int .i64 (0 : Int)), (.slice none 0 0), (.slice none 0 0), (.slice none 0 0), (.slice none 0 0), (.slice none 0 0), (.slice none 0 0)])], []⟩).memory Tryd.f3.params.toList Rows.treeSameSpec.vars false (#[(.agg #[(.string (ByteArray.mk #[])), (.int .i64 (0 : Int)), (.slice none 0 0), (.slice none 0 0), (.slice none 0 0), (.slice none 0 0), (.slice none 0 0), (.slice none 0 0)]), (.agg #[(.string (ByteArray.mk #[])), (.int .i64 (0 : Int)), (.slice none 0 0), (.slice none 0 0), (.slice none 0 0), (.slice none 0 0), (.slice none 0 0), (.slice none 0 0)])] : Array Value).toList 8 = some ([DataW.agg [DataW.lit (.string []), DataW.lit (.int .i64 0), DataW.nil, DataW.nil, DataW.nil, DataW.nil, DataW.nil, DataW.nil], DataW.agg [DataW.lit (.string []), DataW.lit (.int .i64 0), DataW.nil, DataW.nil, DataW.nil, DataW.nil, DataW.nil, DataW.nil]], [], places) :=
  ⟨[], by kernel_rfl⟩
set_option maxRecDepth 100000 in
theorem lifted (os : Os) (started : os.Started) (H : Type) (enc : TypeId × Value → H) (F : Stop.Interp) :
    ReturnsInHanded {} Tryd.checked os 3 .any ((Rows.OpenSpec.upto Rows.treeSameSpec).preRow enc Tryd.prog Tryd.f3 Rows.treeSameUptoRow.domain false Rows.treeSameUptoRow.laid) (((Rows.OpenSpec.upto Rows.treeSameSpec).at F).post enc Tryd.prog Tryd.f3 false true false false) := by
  obtain ⟨places, hx⟩ := reads os enc
  refine returnsInHanded_of_row (C := Tryd.checked) (s := (Rows.OpenSpec.upto Rows.treeSameSpec)) own started (by kernel_rfl) Tryd.func3
    (witness_row_at (enc := enc) (C := Tryd.checked) false (laidWorld os) #[(.agg #[(.string (ByteArray.mk #[])), (.int .i64 (0 : Int)), (.slice none 0 0), (.slice none 0 0), (.slice none 0 0), (.slice none 0 0), (.slice none 0 0), (.slice none 0 0)]), (.agg #[(.string (ByteArray.mk #[])), (.int .i64 (0 : Int)), (.slice none 0 0), (.slice none 0 0), (.slice none 0 0), (.slice none 0 0), (.slice none 0 0), (.slice none 0 0)])] rfl (by kernel_rfl) (by kernel_rfl) (by kernel_rfl)
      (OpenSpec.preRow_of_cond 8 hx (by kernel_rfl) (fun k hk => by cases hk; kernel_rfl) (by kernel_rfl) (laid_met os))) ?_
  intro W base args ds gs before hval0 hW hcnd hkk0 hsz0 hL _ _
  have hkk : Rows.uptoSmall H (ds ++ gs) = true := hkk0 _ rfl
  have hsz : (DataW.weightsEach Tryd.prog (Tryd.f3.params.toList ++ (Rows.OpenSpec.upto Rows.treeSameSpec).bare.plain.varTypes Tryd.prog) (ds ++ gs)).all (· ≤ reachBytes) = true := hsz0
  have hval : ∀ (j : Nat) t v, Tryd.f3.params[j]? = some t → args[j]? = some v → Value.okWide Tryd.prog W .any base t v := hval0
  have hW' := hW
  obtain ⟨p, q, hA0, hV, rfl, hfz, hnd⟩ := hW
  have hA : DataW.TrodAll enc Tryd.prog W 0 (fun _ => true) true Tryd.f3.params.toList args.toList ds p := hA0
  rw [Tryd.params3] at hA hval hsz
  obtain ⟨v0, vs0, d0, ds0, p0, q0_, hargs, rfl, rfl, h0, r0_⟩ := trodAll_cons hA
  obtain ⟨v1, vs1, d1, ds1, p1, q1_, rfl, rfl, rfl, h1, r1_⟩ := trodAll_cons r0_
  obtain ⟨rfl, rfl, rfl⟩ := trodAll_nil r1_
  obtain rfl : args = #[v0, v1] := by cases args; simp_all
  obtain ⟨rfl, rfl⟩ := trodVars_none hV
  have hs : (DataW.weightsEach Tryd.prog [29, 29] [d0, d1]).all (· ≤ reachBytes) = true := hsz
  simp only [DataW.weightsEach, List.append_nil, List.all_append, Bool.and_eq_true] at hs
  obtain ⟨hw0, hw1⟩ := hs
  have k0 := h0
  have lt0 : ∀ x ∈ p0, x.block < W.heap.size := by obtain ⟨m, hm⟩ := k0; exact DataW.trod_lt m _ _ _ hm
  obtain ⟨cs0, rfl⟩ : ∃ cs : List Value, v0 = .agg cs.toArray := okWide_agg_of (show shapeOf Tryd.prog 29 = some [(9, 0), (3, 1), (22, 2), (23, 3), (24, 4), (25, 5), (26, 6), (27, 7)] by kernel_rfl) (hval 0 29 v0 rfl rfl)
  obtain ⟨fuel0, hf0⟩ := h0
  obtain ⟨x0, e0, q0⟩ := T_api_Program.tells fuel0 _ _ hf0 hw0
  have b0 := (T_api_Program.kt (N := fuel0 + 1) (enc := enc) (W := W) measure) fuel0 (Nat.lt_succ_self _) _ _ hf0 _ e0
  have e0 : T_api_Program.E W.heap x0 cs0 := by simpa [Value.cells] using e0
  have k1 := h1
  have lt1 : ∀ x ∈ p1, x.block < W.heap.size := by obtain ⟨m, hm⟩ := k1; exact DataW.trod_lt m _ _ _ hm
  obtain ⟨cs1, rfl⟩ : ∃ cs : List Value, v1 = .agg cs.toArray := okWide_agg_of (show shapeOf Tryd.prog 29 = some [(9, 0), (3, 1), (22, 2), (23, 3), (24, 4), (25, 5), (26, 6), (27, 7)] by kernel_rfl) (hval 1 29 v1 rfl rfl)
  obtain ⟨fuel1, hf1⟩ := h1
  obtain ⟨x1, e1, q1⟩ := T_api_Program.tells fuel1 _ _ hf1 hw1
  have b1 := (T_api_Program.kt (N := fuel1 + 1) (enc := enc) (W := W) measure) fuel1 (Nat.lt_succ_self _) _ _ hf1 _ e1
  have e1 : T_api_Program.E W.heap x1 cs1 := by simpa [Value.cells] using e1
  have hb : (T_api_Program.bulk x0) + (T_api_Program.bulk x1) ≤ 1048576 := by
    have hk : Rows.uptoBulkAll ([d0, d1] ++ []) ≤ 1048576 := of_decide_eq_true hkk
    have := b0
    have := b1
    simp only [List.append_nil, Rows.uptoBulkAll] at hk
    simp only at *
    omega
  refine ((Run.mono (R' := fun v h' => v = Value.bool true ∧ Ext W.heap h') (Fw.roadlaw2_TreeSame.walk (W := No) (Hold.start (Sub.refl _)) e0 e1 (TBg.of gTab (table hL)) (Fw.TreeSame x0 x1 q0 q1 hb)) (fun v h' hp => by obtain ⟨m', st, hv⟩ := hp; exact ⟨hv, st.S.ext⟩)) W rfl).mono fun e W' he => ?_
  obtain ⟨v, rfl, ⟨rfl, ext⟩, same⟩ := he
  have bel := below_of ext same
  exact ⟨_, rfl, _, _, _, [], _, [], hW', trodAll_mk1 (shut_bool (show Tryd.prog.underlying 4 = some .bool by kernel_rfl) _), (trodAll_cons_mk (Below.trod laidOut (by kernel_rfl) (of_decide_eq_true (by kernel_rfl)) k0 bel lt0) (trodAll_cons_mk (Below.trod laidOut (by kernel_rfl) (of_decide_eq_true (by kernel_rfl)) k1 bel lt1) trodAll_mk0)), rfl, bel.frame _, fun h => by cases h⟩
theorem over : Rows.treeSameUptoRow.holds Tryd.pinned (Rows.OpenSpec.upto Rows.treeSameSpec) :=
  OpenClaim.holds_of_cond 3 Tryd.f3 rfl rfl rfl rfl rfl rfl rfl ⟨rfl, rfl, rfl, rfl, rfl⟩ rfl rfl rfl rfl rfl (by kernel_rfl) Tryd.func3 (by kernel_rfl)
    (of_decide_eq_true (by kernel_rfl)) (by unfold Func.isWrapper; first | (rw [if_pos (by decide +kernel)]; kernel_rfl) | (rw [if_neg (by decide +kernel)]; exact ⟨rfl, rfl⟩))
    (fun os started H enc _ F => by rw [OpenClaim.pre_eq_preRow]; exact lifted os started H enc F)
theorem plain (f : FuncId) (fn : Func) (hf : Tryd.pinned.checked.prog.funcNamed "roadstead/roadlaw2.TreeSame" = some f) (hfn : Tryd.pinned.checked.prog.funcs[f]? = some fn) :
    false = Tryd.pinned.checked.prog.looks [] ∧ ∀ (j : Nat) t, fn.params[j]? = some t → Tryd.pinned.checked.prog.wantsStandIn t = false := by
  obtain rfl : f = 3 := Option.some.inj ((show Tryd.prog.funcNamed "roadstead/roadlaw2.TreeSame" = some 3 by kernel_rfl).symm.trans hf) |>.symm
  obtain rfl : fn = Tryd.f3 := (Option.some.inj (Tryd.func3.symm.trans hfn)).symm
  refine ⟨by kernel_rfl, fun j t ht => ?_⟩
  rw [Tryd.params3] at ht
  have hm : t ∈ [29, 29] := by simpa using Array.mem_of_getElem? ht
  have hall : ([29, 29].all fun u => !Tryd.prog.wantsStandIn u) = true := by kernel_rfl
  exact (show Tryd.prog.wantsStandIn t = false by simpa using List.all_eq_true.1 hall t hm)
end Go.Proofs.YtnlocljmalhddabDoor.treeSame
namespace Go.Proofs.YtnlocljmalhddabDoor
theorem treeSame_holds : Rows.TreeSameUptoCardSaid :=
  Claim7.holds_tied_plain_at .later [] _ _ _ _ treeSame.over (fun _ h => by cases h) (by kernel_rfl) (fun _ h => by cases h) treeSameUpto_row_tie rfl ⟨rfl, rfl⟩ (by kernel_rfl) rfl treeSame.plain (by kernel_rfl)
end Go.Proofs.YtnlocljmalhddabDoor

end
