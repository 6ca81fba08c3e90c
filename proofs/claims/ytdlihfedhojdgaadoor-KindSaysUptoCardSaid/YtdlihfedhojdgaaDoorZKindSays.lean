/- Last part: what the law KindSays needs, put together out of texts of this session. -/
import Derived.Lib.ItoaLen
import Derived.Test.YtdlihfedhojdgaaDoorRows
import Derived.WalkKit
import Derived.ProofKit
import Derived.OpenShut
import Derived.Deep.DeepHandedRow
import Derived.Lib.LaidTab
import Derived.Stop.LaidErr
import Derived.Test.YtdlihfedhojdgaaDoorCards
import Derived.Test.YtdlihfedhojdgaaDoorTie
import Derived.JoinedCond
import Derived.Deep.CondSized
import Derived.Test.YtdlihfedhojdgaaDoorZKindSayse
section
namespace Go.Proofs.YtdlihfedhojdgaaDoor.Fw
open Go Go.Hw Go.Proofs
set_option linter.unusedVariables false
set_option linter.unusedSectionVars false
def BA0 : ByteArray := ByteArray.mk #[]
def cat : List ByteArray → ByteArray
  | [] => BA0
  | a :: l => a ++ cat l
theorem ba0_size : BA0.size = 0 := rfl
theorem app_size (a b : ByteArray) : (a ++ b).size = a.size + b.size := ByteArray.size_append
theorem app_assoc (a b c : ByteArray) : a ++ b ++ c = a ++ (b ++ c) := ByteArray.append_assoc
theorem app_nil (a : ByteArray) : a ++ BA0 = a := ByteArray.append_empty
theorem nil_app (a : ByteArray) : BA0 ++ a = a := ByteArray.empty_append
theorem cat_size : ∀ l : List ByteArray, (cat l).size = (l.map ByteArray.size).sum
  | [] => rfl
  | a :: l => by rw [cat, app_size, cat_size l, List.map_cons, List.sum_cons]
theorem cat_one (a : ByteArray) : cat [a] = a := by rw [cat, cat, app_nil]
theorem cat_loop' {α β : Type} {F : ByteArray → Int → Option β} {r : Option β} {l : List α} {T : α → ByteArray}
    (step : ∀ (s : ByteArray) (i : Nat) (hi : i < l.length), s.size + (T l[i]).size ≤ 1000000000000000 → F s (i : Int) = F (s ++ T l[i]) ((i + 1 : Nat) : Int))
    (s : ByteArray) (hs : s.size + (cat (l.map T)).size ≤ 1000000000000000) (fin : F (s ++ cat (l.map T)) (l.length : Int) = r) : F s 0 = r := by
  have key : ∀ (d i : Nat) (s : ByteArray), d + i = l.length → s.size + (cat ((l.drop i).map T)).size ≤ 1000000000000000 → F s (i : Int) = F (s ++ cat ((l.drop i).map T)) (l.length : Int) := by
    intro d
    induction d with
    | zero =>
      intro i s hi hs
      obtain rfl : i = l.length := by omega
      rw [List.drop_length]
      show _ = F (s ++ BA0) _
      rw [app_nil]
    | succ d ih =>
      intro i s hi hs
      have hlt : i < l.length := by omega
      rw [List.drop_eq_getElem_cons hlt, List.map_cons] at hs ⊢
      rw [cat, app_size] at hs
      rw [step s i hlt (by omega), ih (i + 1) _ (by omega) (by rw [app_size]; omega), cat, app_assoc]
  have := key l.length 0 s (by omega) (by rw [List.drop_zero]; exact hs)
  rw [List.drop_zero] at this
  exact this.trans fin
theorem cat_loop {α β : Type} {F : ByteArray → Int → Option β} {E : ByteArray → Option β} {l : List α} {T : α → ByteArray}
    (step : ∀ (s : ByteArray) (i : Nat) (hi : i < l.length), s.size + (T l[i]).size ≤ 1000000000000000 → F s (i : Int) = F (s ++ T l[i]) ((i + 1 : Nat) : Int))
    (fin : ∀ s, F s (l.length : Int) = E s) (s : ByteArray) (hs : s.size + (cat (l.map T)).size ≤ 1000000000000000) : F s 0 = E (s ++ cat (l.map T)) := cat_loop' step s hs (fin _)
theorem sum_le {α : Type} {f g : α → Nat} : ∀ {l : List α}, (∀ x ∈ l, f x ≤ g x) → (l.map f).sum ≤ (l.map g).sum
  | [], _ => Nat.le_refl _
  | x :: l, h => by
    rw [List.map_cons, List.map_cons, List.sum_cons, List.sum_cons]
    exact Nat.add_le_add (h x (List.mem_cons_self ..)) (sum_le fun y hy => h y (List.mem_cons_of_mem _ hy))
theorem sum_mul {α : Type} (f : α → Nat) (k : Nat) : ∀ l : List α, (l.map fun x => k * f x).sum = k * (l.map f).sum
  | [] => rfl
  | x :: l => by rw [List.map_cons, List.map_cons, List.sum_cons, List.sum_cons, sum_mul f k l, Nat.mul_add]
theorem le_sum {α : Type} {f : α → Nat} : ∀ {l : List α} {x : α}, x ∈ l → f x ≤ (l.map f).sum
  | y :: l, x, h => by
    rw [List.map_cons, List.sum_cons]
    rcases List.mem_cons.1 h with rfl | h
    · omega
    · have := le_sum (f := f) h; omega
theorem cat_le {α : Type} {T : α → ByteArray} {g : α → Nat} {l : List α} (h : ∀ x ∈ l, (T x).size ≤ 22 * g x) : (cat (l.map T)).size ≤ 22 * (l.map g).sum := by
  rw [cat_size, List.map_map, ← sum_mul]
  exact sum_le h
theorem len_le_sum {α : Type} {f : α → Nat} : ∀ {l : List α}, (∀ x ∈ l, 1 ≤ f x) → l.length ≤ (l.map f).sum
  | [], _ => Nat.le_refl _
  | x :: l, h => by
    rw [List.map_cons, List.sum_cons, List.length_cons]
    have := h x (List.mem_cons_self ..); have := len_le_sum fun y hy => h y (List.mem_cons_of_mem x hy); omega
def i64 (x : Int) : Prop := -9223372036854775808 ≤ x ∧ x ≤ 9223372036854775807
theorem i64_nat {n : Nat} (h : n ≤ 1000000000000000) : i64 (n : Int) := ⟨by omega, by omega⟩
def nm1 (x : Int) : ByteArray := itoaB x ++ ByteArray.mk #[44]
def nm (l : List Int) : ByteArray := cat (l.map nm1)
def tx1 (s : ByteArray) : ByteArray := nm [(s.size : Int)] ++ s
def tx (l : List ByteArray) : ByteArray := cat (l.map tx1)
theorem nm1_size {x : Int} (h : i64 x) : (nm1 x).size ≤ 22 := by
  unfold nm1
  rw [app_size]
  have h1 : (itoaB x).size = (Lib.itoa x).length := by unfold itoaB; show (Lib.itoa x).toArray.size = _; simp
  have h2 := Lib.itoa_length_le x h.1 h.2
  have h3 : (ByteArray.mk #[44]).size = 1 := rfl
  omega
theorem nm_size {l : List Int} (h : ∀ x ∈ l, i64 x) : (nm l).size ≤ 22 * l.length := by
  have := cat_le (T := nm1) (g := fun _ => 1) (l := l) fun x hx => nm1_size (h x hx)
  rw [List.map_const', List.sum_replicate_nat] at this
  unfold nm; omega
theorem itoa_val {x : Int} (h : i64 x) : strconv_Itoa x = some (itoaB x) := by unfold strconv_Itoa; rw [if_pos (show -9223372036854775808 ≤ x ∧ x ≤ 9223372036854775807 from h)]
theorem nums_val {l : List Int} (h : ∀ x ∈ l, i64 x) (hl : l.length ≤ 10000000000000) : roadref2_nums l = some (nm l) := by
  have hs := nm_size h
  unfold roadref2_nums
  have := cat_loop (F := fun s i => roadref2_nums.l0 s l (l.length : Int) i) (E := fun s => some s) (l := l) (T := nm1) (fun s i hi hs => by
    have hx := nm1_size (h _ (List.getElem_mem hi))
    have e1 : (nm1 l[i]).size = (itoaB l[i]).size + (ByteArray.mk #[44]).size := app_size ..
    rw [roadref2_nums.l0_eq, if_pos (by omega), gi_at hi, Option.bind_some, itoa_val (h _ (List.getElem_mem hi)), Option.bind_some, if_pos (by omega), if_pos (by show _ + (nm1 l[i]).size ≤ _; omega), w_succ (by omega)]
    rfl) (fun s => by rw [roadref2_nums.l0_eq, if_neg (by omega)]) BA0 (by rw [ba0_size]; unfold nm at hs; omega)
  rw [nil_app] at this
  exact this
theorem tx1_size {s : ByteArray} (h : s.size ≤ 1000000000000000) : (tx1 s).size ≤ 22 + s.size := by
  unfold tx1
  rw [app_size]
  have := nm_size (l := [(s.size : Int)]) (by intro x hx; rw [List.mem_singleton.1 hx]; exact i64_nat h)
  simp only [List.length_cons, List.length_nil] at this
  omega
theorem tx_size {l : List ByteArray} (h : ∀ s ∈ l, s.size ≤ 1000000000000000) : (tx l).size ≤ 22 * (l.map fun s => s.size + 1).sum :=
  cat_le fun s hs => by have := tx1_size (h s hs); omega
theorem texts_val {l : List ByteArray} (h : (l.map fun s => s.size + 1).sum ≤ 10000000000000) : roadref2_texts l = some (tx l) := by
  have h1 : ∀ s ∈ l, s.size + 1 ≤ 10000000000000 := fun s hs => Nat.le_trans (le_sum (f := fun s : ByteArray => s.size + 1) hs) h
  have hs := tx_size (l := l) fun s hs => by have := h1 s hs; omega
  have hlen : l.length ≤ 10000000000000 := Nat.le_trans (len_le_sum (f := fun s : ByteArray => s.size + 1) fun _ _ => by omega) h
  unfold roadref2_texts
  have := cat_loop (F := fun s i => roadref2_texts.l0 s l (l.length : Int) i) (E := fun s => some s) (l := l) (T := tx1) (fun s i hi hs => by
    have hx := h1 _ (List.getElem_mem hi)
    have e1 : (tx1 l[i]).size = (nm [((l[i]).size : Int)]).size + (l[i]).size := app_size ..
    rw [roadref2_texts.l0_eq, if_pos (by omega), gi_at hi, Option.bind_some, nums_val (by intro x hx'; rw [List.mem_singleton.1 hx']; exact i64_nat (by omega)) (by simp), Option.bind_some, if_pos (by omega), if_pos (by show _ + (tx1 l[i]).size ≤ _; omega), w_succ (by omega)]
    rfl) (fun s => by rw [roadref2_texts.l0_eq, if_neg (by omega)]) BA0 (by rw [ba0_size]; unfold tx at hs; omega)
  rw [nil_app] at this
  exact this
theorem tx_one (s : ByteArray) : tx [s] = tx1 s := cat_one _
theorem text_val {s : ByteArray} (h : s.size ≤ 5000000000000) : roadref2_texts [s] = some (tx1 s) := by
  rw [texts_val (by simp; omega), tx_one]
noncomputable def TM (t : T_api_Type) : ByteArray := (roadref2_TypeMark t).getD BA0
theorem getD_of {α : Type} {o : Option α} {x d : α} (h : o = some x) : o.getD d = x := by rw [h]; rfl
theorem i64_2 {a b : Int} (ha : i64 a) (hb : i64 b) : ∀ x ∈ [a, b], i64 x := by
  intro x hx; simp only [List.mem_cons, List.mem_nil_iff, or_false] at hx; rcases hx with rfl | rfl <;> assumption
theorem tbulk (t : T_api_Type) : t.bulk = t.Name.size + (t.Args.map T_api_Type.bulk).sum + 4 := by rw [T_api_Type.bulk_eq]; omega
theorem ebulk (t : T_api_Expr) : t.bulk = t.Text.size + (t.Names.map fun s => s.size + 1).sum + (t.Types.map T_api_Type.bulk).sum + (t.Args.map T_api_Expr.bulk).sum + (t.Arms.map T_api_Arm.bulk).sum + 9 := by rw [T_api_Expr.bulk_eq]; omega
theorem tbulk_pos (t : T_api_Type) : 1 ≤ t.bulk := by rw [tbulk]; omega
theorem type_mark : ∀ (n : Nat) (t : T_api_Type), t.bulk ≤ n → n ≤ 2000000000000 → t.Q →
    roadref2_TypeMark t = some (TM t) ∧ (TM t).size ≤ 22 * t.bulk ∧ TM t = nm [t.Kind, (t.Args.length : Int)] ++ tx1 t.Name ++ cat (t.Args.map TM) := by
  intro n
  induction n with
  | zero => intro t h; have := tbulk_pos t; omega
  | succ n ih =>
    intro t hn hN q
    obtain ⟨q1, q2, q3, q4⟩ := T_api_Type.Q_iff.1 q
    have hb := tbulk t
    have hlen : t.Args.length ≤ (t.Args.map T_api_Type.bulk).sum := len_le_sum fun x _ => tbulk_pos x
    have hc : ∀ x ∈ t.Args, roadref2_TypeMark x = some (TM x) ∧ (TM x).size ≤ 22 * x.bulk := fun x hx => by
      have := le_sum (f := T_api_Type.bulk) hx
      have := ih x (by omega) (by omega) (q4 x hx)
      exact ⟨this.1, this.2.1⟩
    have hcat := cat_le (T := TM) (g := T_api_Type.bulk) (l := t.Args) fun x hx => (hc x hx).2
    have hk : ∀ x ∈ [t.Kind, (t.Args.length : Int)], i64 x := i64_2 q1 (i64_nat (by omega))
    have h1 := nm_size hk
    have h2 := tx1_size (s := t.Name) (by omega)
    simp only [List.length_cons, List.length_nil] at h1
    have e : roadref2_TypeMark t = some (nm [t.Kind, (t.Args.length : Int)] ++ tx1 t.Name ++ cat (t.Args.map TM)) := by
      rw [roadref2_TypeMark_eq, nums_val hk (by simp), Option.bind_some, text_val (by omega), Option.bind_some, if_pos (by omega), roadref2_TypeMark.j0_eq]
      exact cat_loop (F := fun s i => roadref2_TypeMark.l0 s t.Args (t.Args.length : Int) i) (E := fun s => some s) (l := t.Args) (T := TM) (fun s i hi hs => by
        rw [roadref2_TypeMark.l0_eq, if_pos (by omega), gi_at hi, Option.bind_some, (hc _ (List.getElem_mem hi)).1, Option.bind_some, if_pos (by omega), w_succ (by omega)]) (fun s => by rw [roadref2_TypeMark.l0_eq, if_neg (by omega)]) _ (by rw [app_size]; omega)
    have e2 : TM t = _ := getD_of e
    refine ⟨by rw [e, e2], ?_, e2⟩
    rw [e2, app_size, app_size]; omega
theorem gen_loop {α β γ : Type} {l : List α} {F : β → Int → Option γ} {g : β → α → β} (P : List α → β → Prop)
    (step : ∀ (s : β) (i : Nat) (hi : i < l.length), P (l[i] :: l.drop (i + 1)) s → F s (i : Int) = F (g s l[i]) ((i + 1 : Nat) : Int) ∧ P (l.drop (i + 1)) (g s l[i])) (s : β) (h : P l s) : F s 0 = F (l.foldl g s) (l.length : Int) := by
  have key : ∀ (d i : Nat) (s : β), l.length - i = d → i ≤ l.length → P (l.drop i) s → F s (i : Int) = F ((l.drop i).foldl g s) (l.length : Int) := by
    intro d
    induction d with
    | zero =>
      intro i s hd hi _
      obtain rfl : i = l.length := by omega
      rw [List.drop_length, List.foldl_nil]
    | succ d ih =>
      intro i s hd hi hP
      have hlt : i < l.length := by omega
      rw [List.drop_eq_getElem_cons hlt] at hP ⊢
      have := step s i hlt hP
      rw [this.1, ih (i + 1) _ (by omega) hlt this.2, List.foldl_cons]
  have := key l.length 0 s (by omega) (by omega) (by rw [List.drop_zero]; exact h)
  rw [List.drop_zero] at this
  exact this
theorem fold_app {α β : Type} (T : α → List β) : ∀ (l : List α) (x : List β), l.foldl (fun s a => s ++ T a) x = x ++ l.flatMap T
  | [], x => by simp
  | a :: l, x => by rw [List.foldl_cons, fold_app T l, List.flatMap_cons, List.append_assoc]
theorem app_loop {α β γ : Type} {l : List α} {F : List β → Int → Option γ} {T : α → List β} {B : Nat} (step : ∀ (s : List β) (i : Nat) (hi : i < l.length), s.length + (T l[i]).length ≤ B → F s (i : Int) = F (s ++ T l[i]) ((i + 1 : Nat) : Int)) (x : List β) (hB : x.length + (l.map fun a => (T a).length).sum ≤ B) : F x 0 = F (x ++ l.flatMap T) (l.length : Int) := by
  rw [← fold_app]
  exact gen_loop (F := F) (g := fun s a => s ++ T a) (fun r s => s.length + (r.map fun a => (T a).length).sum ≤ B) (fun s i hi h => by
    rw [List.map_cons, List.sum_cons] at h
    exact ⟨step s i hi (by omega), by show (s ++ T l[i]).length + _ ≤ B; rw [List.length_append]; omega⟩) x hB
theorem flat_one {α β : Type} (f : α → β) : ∀ l : List α, l.flatMap (fun x => [f x]) = l.map f
  | [] => rfl
  | a :: l => by rw [List.flatMap_cons, flat_one f l]; rfl
theorem one_len {α β : Type} (f : α → β) (l : List α) : (l.map fun a => [f a].length).sum = l.length := by
  induction l with
  | nil => rfl
  | cons a l ih => rw [List.map_cons, List.sum_cons, ih, List.length_cons, List.length_cons, List.length_nil]; omega
theorem map_loop {α β γ : Type} {l : List α} {F : List β → Int → Option γ} {f : α → β} {B : Nat} (step : ∀ (s : List β) (i : Nat) (hi : i < l.length), s.length + 1 ≤ B → F s (i : Int) = F (s ++ [f l[i]]) ((i + 1 : Nat) : Int)) (hB : l.length ≤ B) : F [] 0 = F (l.map f) (l.length : Int) := by
  have := app_loop (l := l) (F := F) (T := fun x => [f x]) (B := B) (fun s i hi h => step s i hi h) [] (by
    have : ∀ l : List α, (l.map fun a => [f a].length).sum = l.length := fun l => by induction l with
      | nil => rfl
      | cons a l ih => rw [List.map_cons, List.sum_cons, ih, List.length_cons, List.length_cons, List.length_nil]; omega
    rw [this, List.length_nil]; omega)
  rw [flat_one, List.nil_append] at this
  exact this
abbrev Ex := T_api_Expr
def parts (e : Ex) : List Ex := e.Args ++ e.Arms.map (·.Body)
theorem parts_lt {e x : Ex} (h : x ∈ parts e) : SizeOf.sizeOf x < SizeOf.sizeOf e := by
  have h0 : SizeOf.sizeOf e = 1 + SizeOf.sizeOf e.Kind + SizeOf.sizeOf e.Num + SizeOf.sizeOf e.Text + SizeOf.sizeOf e.Names + SizeOf.sizeOf e.Types + SizeOf.sizeOf e.Args + SizeOf.sizeOf e.Arms + SizeOf.sizeOf e.At := by cases e; simp
  unfold parts at h
  rcases List.mem_append.1 h with h | h
  · have := List.sizeOf_lt_of_mem h; omega
  · obtain ⟨a, ha, rfl⟩ := List.mem_map.1 h
    have h1 := List.sizeOf_lt_of_mem ha
    have h2 := T_api_Arm.lt_Body a
    omega
def walk (e : Ex) : List Ex := e :: (parts e).attach.flatMap fun y => walk y.1
termination_by SizeOf.sizeOf e
decreasing_by exact parts_lt y.2
theorem walk_eq (e : Ex) : walk e = e :: (parts e).flatMap walk := by
  rw [walk]
  congr 1
  have : ((parts e).attach.flatMap fun y => walk y.1) = ((parts e).attach.map (fun y => y.1)).flatMap walk := by rw [List.flatMap_map]
  rw [this, List.attach_map_subtype_val]
theorem walk_ind {p : Ex → Prop} (h : ∀ e, (∀ x ∈ parts e, p x) → p e) (e : Ex) : p e := by
  have key : ∀ n e, SizeOf.sizeOf e ≤ n → p e := by
    intro n
    induction n with
    | zero => intro e he; cases e; simp at he
    | succ n ih => exact fun e he => h e fun x hx => ih x (by have := parts_lt hx; omega)
  exact key _ e (Nat.le_refl _)
theorem len_flatMap (l : List Ex) : (l.flatMap walk).length = (l.map fun x => (walk x).length).sum := by rw [List.length_flatMap]
theorem sum_le2 {α : Type} {l : List α} {f g : α → Nat} (h : ∀ x ∈ l, f x ≤ g x) : (l.map f).sum ≤ (l.map g).sum := by
  induction l with
  | nil => simp
  | cons x l ih =>
    have h0 := h x (by simp)
    have h1 := ih (fun y hy => h y (by simp [hy]))
    simp only [List.map_cons, List.sum_cons]; omega
theorem sum_one {α : Type} (l : List α) : (l.map fun _ => 1).sum = l.length := by
  induction l with
  | nil => rfl
  | cons x l ih => rw [List.map_cons, List.sum_cons, ih, List.length_cons]; omega
theorem sum_mem {α : Type} {l : List α} {f : α → Nat} {x : α} (h : x ∈ l) : f x ≤ (l.map f).sum := by
  induction l with
  | nil => cases h
  | cons y l ih =>
    simp only [List.map_cons, List.sum_cons]
    rcases List.mem_cons.1 h with rfl | h
    · omega
    · have := ih h; omega
theorem walk_bulk (e : Ex) : (walk e).length ≤ e.bulk := by
  induction e using walk_ind with
  | h e ih =>
    have h1 : ((parts e).map fun x => (walk x).length).sum ≤ ((parts e).map T_api_Expr.bulk).sum := sum_le2 ih
    have h2 : ((parts e).map T_api_Expr.bulk).sum = (e.Args.map T_api_Expr.bulk).sum + (e.Arms.map fun a => a.Body.bulk).sum := by
      unfold parts; rw [List.map_append, List.sum_append, List.map_map]; rfl
    have h3 : (e.Arms.map fun a => a.Body.bulk).sum ≤ (e.Arms.map T_api_Arm.bulk).sum := sum_le2 fun a _ => by unfold T_api_Arm.bulk; omega
    rw [walk_eq, List.length_cons, len_flatMap, T_api_Expr.bulk_eq]
    omega
theorem parts_len (e : Ex) : (parts e).length ≤ (walk e).length := by
  rw [walk_eq, List.length_cons, len_flatMap]
  have := sum_one (parts e)
  have h2 : ((parts e).map fun _ => 1).sum ≤ ((parts e).map fun x => (walk x).length).sum := sum_le2 fun x _ => by rw [walk_eq]; simp
  omega
theorem parts_val {e : Ex} (h : (walk e).length ≤ 4194304) : tree_Parts e = some (parts e) := by
  have hl := parts_len e
  have hp : (parts e).length = e.Args.length + e.Arms.length := by unfold parts; simp
  unfold tree_Parts
  rw [show slices_Clone_73 e.Args = some e.Args from ap_nil (by omega), Option.bind_some]
  have loop : ∀ (r pre : List T_api_Arm) (acc : List Ex), e.Arms = pre ++ r → acc.length = e.Args.length + pre.length → tree_Parts.l0 acc e.Arms (e.Arms.length : Int) (pre.length : Int) = some (acc ++ r.map (·.Body)) := by
    intro r
    induction r with
    | nil => intro pre acc he _; rw [tree_Parts.l0_eq, if_neg (by rw [he]; simp)]; simp
    | cons a r ih =>
      intro pre acc he ha
      have hlen : e.Arms.length = pre.length + (r.length + 1) := by rw [he]; simp
      rw [tree_Parts.l0_eq, if_pos (by omega), gi_some (k := pre.length) rfl (by rw [he]; simp : e.Arms[pre.length]? = some a), Option.bind_some, ap_one (by omega), Option.bind_some, w_succ (by omega)]
      have := ih (pre ++ [a]) (acc ++ [a.Body]) (by simpa using he) (by simp; omega)
      simpa using this
  exact loop e.Arms [] e.Args rfl (by simp)
theorem walk_val (e : Ex) (h : (walk e).length ≤ 4194304) : tree_Walk e = some (walk e) := by
  induction e using walk_ind with
  | h e ih =>
    rw [tree_Walk_eq, parts_val h, Option.bind_some]
    have hw := h
    rw [walk_eq, List.length_cons] at hw
    have hl := parts_len e
    have loop : ∀ (r pre : List Ex) (acc : List Ex), parts e = pre ++ r → acc.length + (r.flatMap walk).length ≤ 4194304 → tree_Walk.l0 acc (parts e) ((parts e).length : Int) (pre.length : Int) = some (acc ++ r.flatMap walk) := by
      intro r
      induction r with
      | nil => intro pre acc he _; rw [tree_Walk.l0_eq, if_neg (by rw [he]; simp)]; simp
      | cons x r ih2 =>
        intro pre acc he ha
        have hlen : (parts e).length = pre.length + (r.length + 1) := by rw [he]; simp
        have hx : x ∈ parts e := by rw [he]; simp
        rw [List.flatMap_cons, List.length_append] at ha
        rw [tree_Walk.l0_eq, if_pos (by omega), gi_some (k := pre.length) rfl (by rw [he]; simp : (parts e)[pre.length]? = some x), Option.bind_some, ih x hx (by omega), Option.bind_some, ap_of (by omega), Option.bind_some, w_succ (by omega)]
        have := ih2 (pre ++ [x]) (acc ++ walk x) (by simpa using he) (by rw [List.length_append]; omega)
        simpa using this
    have := loop (parts e) [] [e] rfl (by rw [List.length_singleton]; omega)
    rw [walk_eq]
    simpa using this
theorem all_l1 {out : List Ex} {x : Ex} (hx : (parts x).length ≤ 4194304) : ∀ (k : Nat) (row : List Ex), k ≤ x.Arms.length → row.length + k ≤ 8388608 → roadref2_All.l1 row out x ((k : Int) - 1) = roadref2_All.l2 (row ++ ((x.Arms.take k).map (·.Body)).reverse) out x ((x.Args.length : Int) - 1) := by
  have hp : (parts x).length = x.Args.length + x.Arms.length := by unfold parts; simp
  intro k
  induction k with
  | zero => intro row _ _; rw [roadref2_All.l1_eq, if_neg (by omega), wrap_in (by omega) (by omega)]; simp
  | succ k ih =>
    intro row hk hr
    have hlt : k < x.Arms.length := by omega
    rw [roadref2_All.l1_eq, if_pos (by omega), gi_some (k := k) (by omega) (List.getElem?_eq_getElem hlt), Option.bind_some, ap_one (by omega), Option.bind_some, wrap_in (by omega) (by omega), show ((k + 1 : Nat) : Int) - 1 - 1 = (k : Int) - 1 by omega, ih _ (by omega) (by simp; omega), List.take_succ_eq_append_getElem hlt, List.map_append, List.reverse_append]
    simp only [List.map_cons, List.map_nil, List.reverse_singleton, List.append_assoc]
theorem all_l2 {out : List Ex} {x : Ex} (hx : (parts x).length ≤ 4194304) : ∀ (k : Nat) (row : List Ex), k ≤ x.Args.length → row.length + k ≤ 16777216 → roadref2_All.l2 row out x ((k : Int) - 1) = roadref2_All.l0 (row ++ (x.Args.take k).reverse) out := by
  have hp : (parts x).length = x.Args.length + x.Arms.length := by unfold parts; simp
  intro k
  induction k with
  | zero => intro row _ _; rw [roadref2_All.l2_eq, if_neg (by omega)]; simp
  | succ k ih =>
    intro row hk hr
    have hlt : k < x.Args.length := by omega
    rw [roadref2_All.l2_eq, if_pos (by omega), gi_some (k := k) (by omega) (List.getElem?_eq_getElem hlt), Option.bind_some, ap_one (by omega), Option.bind_some, wrap_in (by omega) (by omega), show ((k + 1 : Nat) : Int) - 1 - 1 = (k : Int) - 1 by omega, ih _ (by omega) (by simp; omega), List.take_succ_eq_append_getElem hlt, List.reverse_append]
    simp only [List.reverse_singleton, List.append_assoc]
theorem all_l0 : ∀ (n : Nat) (row out : List Ex), (row.reverse.flatMap walk).length ≤ n → out.length + n ≤ 4194304 → roadref2_All.l0 row out = some (out ++ row.reverse.flatMap walk) := by
  intro n
  induction n using Nat.strongRecOn with
  | _ n ih =>
    intro row out h1 h2
    rw [roadref2_All.l0_eq]
    by_cases h0 : row = []
    · subst h0; rw [if_neg (by simp)]; simp
    · obtain ⟨pre, x, rfl⟩ : ∃ pre x, row = pre ++ [x] := ⟨row.dropLast, row.getLast h0, (List.dropLast_concat_getLast h0).symm⟩
      have hrl : ∀ l : List Ex, l.length ≤ (l.flatMap walk).length := by
        intro l
        rw [len_flatMap]
        rw [← sum_one l]
        exact sum_le2 fun x _ => by rw [walk_eq]; simp
      have hw := hrl (pre ++ [x]).reverse
      have hr2 : (pre ++ [x]).reverse = x :: pre.reverse := by simp
      rw [hr2, List.flatMap_cons, List.length_append, walk_eq x, List.length_cons] at h1
      rw [hr2, List.flatMap_cons, List.length_append, walk_eq x] at hw
      simp only [List.length_cons, List.length_reverse] at hw
      have hpl := parts_len x
      rw [walk_eq x, List.length_cons] at hpl
      have hp : (parts x).length = x.Args.length + x.Arms.length := by unfold parts; simp
      have hlen : (pre ++ [x]).length = pre.length + 1 := by simp
      have hwl : (x :: pre.reverse).length = pre.length + 1 := by simp
      rw [if_pos (by omega), hlen, wrap_in (by omega) (by omega), show ((pre.length + 1 : Nat) : Int) - 1 = (pre.length : Int) by omega, gi_some (k := pre.length) rfl (by simp : (pre ++ [x])[pre.length]? = some x), Option.bind_some, sls_take (k := pre.length) rfl (by simp), Option.bind_some, List.take_left' rfl, ap_one (by omega), Option.bind_some, wrap_in (by omega) (by omega), all_l1 (by omega) _ _ (Nat.le_refl _) (by omega), all_l2 (by omega) _ _ (Nat.le_refl _) (by simp; omega), List.take_of_length_le (Nat.le_refl _), List.take_of_length_le (Nat.le_refl _)]
      have e : (pre ++ (x.Arms.map (·.Body)).reverse ++ x.Args.reverse).reverse = parts x ++ pre.reverse := by simp [parts]
      rw [ih (n - 1) (by omega) _ _ (by rw [e, List.flatMap_append, List.length_append]; omega) (by simp; omega), e, hr2, List.flatMap_cons, walk_eq x]
      simp
theorem all_val (e : Ex) (h : (walk e).length ≤ 4194304) : roadref2_All e = some (walk e) := by
  unfold roadref2_All
  have := all_l0 (walk e).length [e] [] (by simp) (by simpa using h)
  simpa using this
theorem part_bulk {e x : Ex} (h : x ∈ parts e) : x.bulk < e.bulk := by
  rw [T_api_Expr.bulk_eq e]
  unfold parts at h
  rcases List.mem_append.1 h with h | h
  · have := sum_mem (f := T_api_Expr.bulk) h; omega
  · obtain ⟨a, ha, rfl⟩ := List.mem_map.1 h
    have := sum_mem (f := T_api_Arm.bulk) ha
    have h2 : a.Body.bulk ≤ a.bulk := by unfold T_api_Arm.bulk; omega
    omega
theorem walk_mem {e x : Ex} : x ∈ walk e ↔ x = e ∨ ∃ y ∈ parts e, x ∈ walk y := by rw [walk_eq]; simp
theorem mem_bulk (e : Ex) : ∀ x ∈ walk e, x.bulk ≤ e.bulk := by
  induction e using walk_ind with
  | h e ih =>
    intro x hx
    rcases walk_mem.1 hx with rfl | ⟨y, hy, h2⟩
    · exact Nat.le_refl _
    · have := ih y hy x h2
      have := part_bulk hy
      omega
theorem pats_val (p : T_api_Pat) (hp : p.bulk ≤ 1048576) : ∃ l, roadref2_pats p = some l ∧ l.length ≤ 1048576 := by
  have one : ∀ x : T_api_Pat, 1 ≤ x.bulk := fun x => by rw [T_api_Pat.bulk_eq]; omega
  have hlen : ∀ l : List T_api_Pat, l.length ≤ (l.map T_api_Pat.bulk).sum := fun l => by rw [← sum_one l]; exact sum_le2 fun x _ => one x
  have loop : ∀ (n : Nat) (pre r : List T_api_Pat), (r.map T_api_Pat.bulk).sum ≤ n → pre.length + n ≤ 1048576 → ∃ l, roadref2_pats.l0 (pre ++ r) (pre.length : Int) = some l ∧ l.length ≤ 1048576 := by
    intro n
    induction n using Nat.strongRecOn with
    | _ n ih =>
      intro pre r h1 h2
      have hl := hlen r
      rw [roadref2_pats.l0_eq]
      cases r with
      | nil => rw [if_neg (by simp)]; exact ⟨_, rfl, by simp; omega⟩
      | cons x r =>
        have hx := T_api_Pat.bulk_eq x
        have hc := hlen x.Args
        rw [List.map_cons, List.sum_cons] at h1
        have hlr := hlen r
        have e1 : (pre ++ x :: r).length = pre.length + (r.length + 1) := by simp
        rw [if_pos (by omega), gi_some (k := pre.length) rfl (by simp : (pre ++ x :: r)[pre.length]? = some x), Option.bind_some, ap_of (by rw [e1]; omega), Option.bind_some, w_succ (by omega)]
        have := ih (n - 1) (by omega) (pre ++ [x]) (r ++ x.Args) (by rw [List.map_append, List.sum_append]; omega) (by simp; omega)
        simpa using this
  unfold roadref2_pats
  exact loop p.bulk [] [p] (by simp) (by simpa using hp)
theorem size_val (e : Ex) (he : e.bulk ≤ 1048576) : ∃ n, roadref2_SizeOf e = some n := by
  have hw := walk_bulk e
  unfold roadref2_SizeOf
  rw [all_val e (by omega), Option.bind_some]
  have hl : ∀ x ∈ walk e, x.bulk ≤ 1048576 := fun x hx => Nat.le_trans (mem_bulk e x hx) he
  have l1 : ∀ (x : Ex) (k : Nat), x.bulk ≤ 1048576 → (∀ m, ∃ n, roadref2_SizeOf.l0 m (walk e) ((walk e).length : Int) (IntKind.wrap .i64 ((k : Int) + 1)) = some n) → ∀ (r pre : List T_api_Arm) (m : Int), x.Arms = pre ++ r → ∃ n, roadref2_SizeOf.l1 m (walk e) ((walk e).length : Int) (k : Int) x.Arms (x.Arms.length : Int) (pre.length : Int) = some n := by
    intro x k hx hn r
    have hx2 := T_api_Expr.bulk_eq x
    have hal : x.Arms.length ≤ (x.Arms.map T_api_Arm.bulk).sum := by rw [← sum_one x.Arms]; exact sum_le2 fun a _ => by unfold T_api_Arm.bulk; omega
    induction r with
    | nil =>
      intro pre m h
      rw [roadref2_SizeOf.l1_eq, if_neg (by rw [h]; simp)]; exact hn m
    | cons a r ih =>
      intro pre m h
      have hlen : x.Arms.length = pre.length + (r.length + 1) := by rw [h]; simp
      have ha := sum_mem (f := T_api_Arm.bulk) (show a ∈ x.Arms by rw [h]; simp)
      have hap : a.Pat.bulk ≤ a.bulk := by unfold T_api_Arm.bulk; omega
      obtain ⟨l, hl, _⟩ := pats_val a.Pat (by omega)
      rw [roadref2_SizeOf.l1_eq, if_pos (by omega), gi_some (k := pre.length) rfl (by rw [h]; simp : x.Arms[pre.length]? = some a), Option.bind_some, hl, Option.bind_some, w_succ (by omega)]
      have := ih (pre ++ [a]) (IntKind.wrap .i64 (m + (l.length : Int))) (by simpa using h)
      simpa using this
  have l0 : ∀ (d k : Nat) (m : Int), k + d = (walk e).length → ∃ n, roadref2_SizeOf.l0 m (walk e) ((walk e).length : Int) (k : Int) = some n := by
    intro d
    induction d with
    | zero => intro k m hk; rw [roadref2_SizeOf.l0_eq, if_neg (by omega)]; exact ⟨_, rfl⟩
    | succ d ih =>
      intro k m hk
      have hlt : k < (walk e).length := by omega
      rw [roadref2_SizeOf.l0_eq, if_pos (by omega), gi_at hlt, Option.bind_some]
      exact l1 _ k (hl _ (List.getElem_mem hlt)) (fun m => by rw [w_succ (by omega)]; exact ih (k + 1) m (by omega)) _ [] _ rfl
  exact l0 _ 0 _ (Nat.zero_add _)
abbrev Pg := T_api_Program
def fs (p : Pg) : List T_api_Func := p.Impls.flatMap (·.Funcs) ++ p.Funcs
def bs (p : Pg) : List Ex := (fs p).map (·.Body) ++ p.Actors.map (·.Body)
theorem bs_bulk (p : Pg) : ((bs p).map T_api_Expr.bulk).sum ≤ p.bulk := by
  have h1 : ((bs p).map T_api_Expr.bulk).sum = (p.Impls.map fun m => (m.Funcs.map fun f => f.Body.bulk).sum).sum + (p.Funcs.map fun f => f.Body.bulk).sum + (p.Actors.map fun a => a.Body.bulk).sum := by
    unfold bs fs
    simp only [List.map_append, List.sum_append, List.map_map, List.map_flatMap]
    congr 1
    congr 1
    generalize p.Impls = l
    induction l with
    | nil => rfl
    | cons m l ih => rw [List.flatMap_cons, List.sum_append, ih, List.map_cons, List.sum_cons]; rfl
  have h2 : (p.Funcs.map fun f => f.Body.bulk).sum ≤ (p.Funcs.map T_api_Func.bulk).sum := sum_le2 fun f _ => by unfold T_api_Func.bulk; omega
  have h3 : (p.Actors.map fun f => f.Body.bulk).sum ≤ (p.Actors.map T_api_Actor.bulk).sum := sum_le2 fun f _ => by unfold T_api_Actor.bulk; omega
  have h4 : (p.Impls.map fun m => (m.Funcs.map fun f => f.Body.bulk).sum).sum ≤ (p.Impls.map T_api_Impl.bulk).sum := sum_le2 fun m _ => by
    have : (m.Funcs.map fun f => f.Body.bulk).sum ≤ (m.Funcs.map T_api_Func.bulk).sum := sum_le2 fun f _ => by unfold T_api_Func.bulk; omega
    unfold T_api_Impl.bulk; omega
  rw [h1]; unfold T_api_Program.bulk; omega
theorem one_bulk (e : Ex) : 1 ≤ e.bulk := by rw [T_api_Expr.bulk_eq]; omega
theorem bs_len (p : Pg) : (bs p).length ≤ p.bulk := by
  have := bs_bulk p
  have h2 : (bs p).length ≤ ((bs p).map T_api_Expr.bulk).sum := by rw [← sum_one (bs p)]; exact sum_le2 fun x _ => one_bulk x
  omega
theorem fs_len (p : Pg) : (fs p).length ≤ p.bulk := by
  have := bs_len p
  unfold bs at this
  simp at this; omega
theorem impls_len (p : Pg) : p.Impls.length ≤ p.bulk := by
  have : p.Impls.length ≤ (p.Impls.map T_api_Impl.bulk).sum := by rw [← sum_one p.Impls]; exact sum_le2 fun x _ => by unfold T_api_Impl.bulk; omega
  unfold T_api_Program.bulk; omega
theorem actors_len (p : Pg) : p.Actors.length ≤ p.bulk := by
  have : p.Actors.length ≤ (p.Actors.map T_api_Actor.bulk).sum := by rw [← sum_one p.Actors]; exact sum_le2 fun x _ => by unfold T_api_Actor.bulk; omega
  unfold T_api_Program.bulk; omega
theorem bs_mem {p : Pg} {e : Ex} (h : e ∈ bs p) : e.bulk ≤ p.bulk := Nat.le_trans (sum_mem (f := T_api_Expr.bulk) h) (bs_bulk p)
section
variable {p : Pg} (hb : p.bulk ≤ 1048576)
include hb
theorem funs_val : roadref2_FunsOf p = some (fs p) := by
  have hl := fs_len p
  have hi := impls_len p
  have h1 : (fs p).length = (p.Impls.flatMap (·.Funcs)).length + p.Funcs.length := by unfold fs; simp
  unfold roadref2_FunsOf
  refine (app_loop (l := p.Impls) (F := fun s i => roadref2_FunsOf.l0 p s p.Impls (p.Impls.length : Int) i) (T := fun m => m.Funcs) (B := 2000000) (fun s i hi h => by
    rw [roadref2_FunsOf.l0_eq, if_pos (by omega), gi_at hi, Option.bind_some, ap_of (by omega), Option.bind_some, w_succ (by omega)]) [] (by rw [List.length_flatMap] at h1; simp only [List.length_nil]; omega)).trans ?_
  rw [roadref2_FunsOf.l0_eq, if_neg (by omega), List.nil_append, ap_of (by omega), Option.bind_some]
  rfl
theorem bodies_val : roadref2_BodiesOf p = some (bs p) := by
  have hl := fs_len p
  have ha := actors_len p
  unfold roadref2_BodiesOf
  rw [funs_val hb, Option.bind_some]
  refine (map_loop (l := fs p) (F := fun s i => roadref2_BodiesOf.l0 p s (fs p) ((fs p).length : Int) i) (f := fun f => f.Body) (B := 2000000) (fun s i hi h => by
    rw [roadref2_BodiesOf.l0_eq, if_pos (by omega), gi_at hi, Option.bind_some, ap_one (by omega), Option.bind_some, w_succ (by omega)]) (by omega)).trans ?_
  rw [roadref2_BodiesOf.l0_eq, if_neg (by omega)]
  refine (app_loop (l := p.Actors) (F := fun s i => roadref2_BodiesOf.l1 s p.Actors (p.Actors.length : Int) i) (T := fun a => [a.Body]) (B := 4000000) (fun s i hi h => by
    simp only [List.length_cons, List.length_nil] at h
    rw [roadref2_BodiesOf.l1_eq, if_pos (by omega), gi_at hi, Option.bind_some, ap_one (by omega), Option.bind_some, w_succ (by omega)]) _ (by rw [one_len, List.length_map]; omega)).trans ?_
  rw [roadref2_BodiesOf.l1_eq, if_neg (by omega), flat_one]
  rfl
theorem small_val : ∃ b, roadlaw2_small p = some b := by
  unfold roadlaw2_small
  have hl := bs_len p
  rw [bodies_val hb, Option.bind_some]
  have loop : ∀ (d k : Nat) (m : Int), k + d = (bs p).length → ∃ b, roadlaw2_small.l0 m (bs p) ((bs p).length : Int) (k : Int) = some b := by
    intro d
    induction d with
    | zero => intro k m hk; rw [roadlaw2_small.l0_eq, if_neg (by omega)]; exact ⟨_, rfl⟩
    | succ d ih =>
      intro k m hk
      have hlt : k < (bs p).length := by omega
      obtain ⟨n, hn⟩ := size_val ((bs p)[k]) (Nat.le_trans (bs_mem (List.getElem_mem hlt)) hb)
      rw [roadlaw2_small.l0_eq, if_pos (by omega), gi_at hlt, Option.bind_some, hn, Option.bind_some, w_succ (by omega)]
      exact ih (k + 1) _ (by omega)
  exact loop _ 0 _ (Nat.zero_add _)
end
abbrev Pt := T_api_Pat
def first {α : Type} (g : α → Int × Int) : List α → Int × Int
  | [] => (0, 0)
  | a :: l => if (g a).1 = 0 then first g l else g a
theorem first_append {α : Type} (g : α → Int × Int) (m : List α) : ∀ l : List α, first g (l ++ m) = if (first g l).1 = 0 then first g m else first g l
  | [] => by rw [List.nil_append, first, if_pos rfl]
  | a :: l => by
    rw [List.cons_append, first, first]
    by_cases c : (g a).1 = 0
    · rw [if_pos c, if_pos c, first_append g m l]
    · rw [if_neg c, if_neg c, if_neg c]
theorem first_flat {α β : Type} (g : β → Int × Int) (h : α → List β) : ∀ l : List α, first g (l.flatMap h) = first (fun x => first g (h x)) l
  | [] => rfl
  | a :: l => by rw [List.flatMap_cons, first_append, first, first_flat g h l]
theorem first_loop {α γ : Type} {l : List α} {F : Int → Option γ} {g : α → Int × Int} {K : Int × Int → Option γ} (step : ∀ (i : Nat) (hi : i < l.length), F (i : Int) = if (g l[i]).1 = 0 then F ((i + 1 : Nat) : Int) else K (g l[i])) : F 0 = if (first g l).1 = 0 then F (l.length : Int) else K (first g l) := by
  have key : ∀ (d i : Nat), l.length - i = d → i ≤ l.length → F (i : Int) = if (first g (l.drop i)).1 = 0 then F (l.length : Int) else K (first g (l.drop i)) := by
    intro d
    induction d with
    | zero =>
      intro i hd hi
      obtain rfl : i = l.length := by omega
      rw [List.drop_length, first, if_pos rfl]
    | succ d ih =>
      intro i hd hi
      have hlt : i < l.length := by omega
      rw [step i hlt, List.drop_eq_getElem_cons hlt, first]
      by_cases c : (g l[i]).1 = 0
      · rw [if_pos c, if_pos c, ih (i + 1) (by omega) hlt]
      · rw [if_neg c, if_neg c, if_neg c]
  have := key l.length 0 (by omega) (by omega)
  rw [List.drop_zero] at this
  exact this
theorem nlt (n : Int) : ¬ n < n := by omega
theorem first_zero {α : Type} (g : α → Int × Int) : ∀ l : List α, (first g l).1 = 0 → first g l = (0, 0)
  | [], _ => rfl
  | a :: l, h => by
    rw [first] at h ⊢
    by_cases c : (g a).1 = 0
    · rw [if_pos c] at h ⊢; exact first_zero g l h
    · rw [if_neg c] at h; exact absurd h c
theorem first_end {α γ : Type} (g : α → Int × Int) (l : List α) (K : Int × Int → Option γ) : (if (first g l).1 = 0 then K (0, 0) else K (first g l)) = K (first g l) := by
  by_cases c : (first g l).1 = 0
  · rw [if_pos c, first_zero g l c]
  · rw [if_neg c]
def firstI {α : Type} (g : α → Int) : List α → Int
  | [] => 0
  | a :: l => if g a = 0 then firstI g l else g a
theorem firstI_append {α : Type} (g : α → Int) (m : List α) : ∀ l : List α, firstI g (l ++ m) = if firstI g l = 0 then firstI g m else firstI g l
  | [] => by rw [List.nil_append, firstI, if_pos rfl]
  | a :: l => by
    rw [List.cons_append, firstI, firstI]
    by_cases c : g a = 0
    · rw [if_pos c, if_pos c, firstI_append g m l]
    · rw [if_neg c, if_neg c, if_neg c]
theorem firstI_loop {α : Type} {l : List α} {F : Int → Option Int} {g : α → Int} (step : ∀ (i : Nat) (hi : i < l.length), F (i : Int) = if g l[i] = 0 then F ((i + 1 : Nat) : Int) else some (g l[i])) (fin : F (l.length : Int) = some 0) : F 0 = some (firstI g l) := by
  have key : ∀ (d i : Nat), l.length - i = d → i ≤ l.length → F (i : Int) = some (firstI g (l.drop i)) := by
    intro d
    induction d with
    | zero =>
      intro i hd hi
      obtain rfl : i = l.length := by omega
      rw [List.drop_length, firstI, fin]
    | succ d ih =>
      intro i hd hi
      have hlt : i < l.length := by omega
      rw [step i hlt, List.drop_eq_getElem_cons hlt, firstI]
      by_cases c : g l[i] = 0
      · rw [if_pos c, if_pos c, ih (i + 1) (by omega) hlt]
      · rw [if_neg c, if_neg c]
  have := key l.length 0 (by omega) (by omega)
  rw [List.drop_zero] at this
  exact this
def sq (a b : Int × Int) : Int × Int := if a.1 = 0 then b else a
theorem sq_if {γ : Type} {a b : Int × Int} {K : Int × Int → γ} : (if a.1 = 0 then K b else K a) = K (sq a b) := by
  unfold sq
  by_cases c : a.1 = 0
  · rw [if_pos c, if_pos c]
  · rw [if_neg c, if_neg c]
abbrev Ty := T_api_Type
instance memBA (n : ByteArray) (l : List ByteArray) : Decidable (n ∈ l) := @List.instDecidableMemOfLawfulBEq ByteArray instBEqOfDecidableEq inferInstance n l
theorem has_val {l : List ByteArray} (s : ByteArray) (hl : l.length ≤ 4000000) : slices_Contains_6 l s = some (decide (s ∈ l)) := by
  rw [slices_Contains_6.val s (by omega)]
  congr 1
  by_cases h : s ∈ l
  · rw [decide_eq_true h, List.any_eq_true]
    exact ⟨s, h, decide_eq_true rfl⟩
  · rw [decide_eq_false h, List.any_eq_false]
    intro x hx e
    exact h (by rw [of_decide_eq_true e]; exact hx)
def dfind (p : Pg) (s : ByteArray) : Option T_api_Data := p.Datas.find? fun d => decide (d.Name = s)
def zd : T_api_Data := T_api_Data.mk (ByteArray.mk #[]) ([] : List ByteArray) ([] : List T_api_Make)
def dres (o : Option T_api_Data) : T_api_Data × Int := match o with | some d => (d, 0) | none => (zd, 11)
def oe (p : Pg) (ps : List ByteArray) (t : Ty) : Int :=
  if t.Kind = 5 then (if t.Name ∈ ps then 0 else 11) else if t.Kind = 6 then (match dfind p t.Name with | none => 11 | some d => if (d.Params.length : Int) = (t.Args.length : Int) then 0 else 13) else 0
noncomputable def kE (p : Pg) (ps : List ByteArray) (t : Ty) : Int := (kind_Type p ps t).getD 0
theorem targs_len (t : Ty) : t.Args.length + 1 ≤ t.bulk := by
  have h : t.Args.length ≤ (t.Args.map T_api_Type.bulk).sum := len_le_sum fun x _ => tbulk_pos x
  have := tbulk t; omega
theorem targ_bulk {t x : Ty} (h : x ∈ t.Args) : x.bulk < t.bulk := by
  have := le_sum (f := T_api_Type.bulk) h
  have := tbulk t; omega
theorem prbulk (p : T_api_Program) : p.bulk = p.Name.size + (p.Uses.map T_api_Use.bulk).sum + (p.Datas.map T_api_Data.bulk).sum + (p.Traits.map T_api_Trait.bulk).sum + (p.Impls.map T_api_Impl.bulk).sum + (p.Funcs.map T_api_Func.bulk).sum + (p.Actors.map T_api_Actor.bulk).sum + 9 := by unfold T_api_Program.bulk; omega
theorem concatT {a b : List Ty} (h : a.length + b.length ≤ 100000000) : slices_Concat_31 [a, b] = some (a ++ b) := by
  rw [slices_Concat_31.val [a, b] (by simp) (by simp only [List.flatten_cons, List.flatten_nil, List.append_nil, List.length_append]; omega)]
  simp
theorem concatS {a b : List ByteArray} (h : a.length + b.length ≤ 100000000) : slices_Concat_57 [a, b] = some (a ++ b) := by
  rw [slices_Concat_57.val [a, b] (by simp) (by simp only [List.flatten_cons, List.flatten_nil, List.append_nil, List.length_append]; omega)]
  simp
section
variable {p : Pg} (hb : p.bulk ≤ 1048576)
include hb
theorem datas_len : p.Datas.length ≤ 1048576 := by
  have h := prbulk p
  have u : p.Datas.length ≤ (p.Datas.map T_api_Data.bulk).sum := len_le_sum fun x _ => by unfold T_api_Data.bulk; omega
  omega
theorem data_val (s : ByteArray) : kind_Data p s = some (dres (dfind p s)) := by
  have hd := datas_len hb
  have key : ∀ (d i : Nat), p.Datas.length - i = d → i ≤ p.Datas.length → kind_Data.l0 s zd p.Datas (p.Datas.length : Int) (i : Int) = some (dres ((p.Datas.drop i).find? fun d => decide (d.Name = s))) := by
    intro d
    induction d with
    | zero =>
      intro i hd hi
      obtain rfl : i = p.Datas.length := by omega
      rw [kind_Data.l0_eq, if_neg (nlt _), List.drop_length]
      rfl
    | succ d ih =>
      intro i hd hi
      have hlt : i < p.Datas.length := by omega
      rw [kind_Data.l0_eq, if_pos (by omega), gi_at hlt, Option.bind_some, List.drop_eq_getElem_cons hlt, w_succ (by omega)]
      by_cases c : p.Datas[i].Name = s
      · rw [if_pos c, List.find?_cons_of_pos (by simp [c])]
        rfl
      · rw [if_neg c, List.find?_cons_of_neg (by simp [c])]
        exact ih (i + 1) (by omega) (by omega)
  unfold kind_Data
  exact key p.Datas.length 0 (by omega) (by omega)
theorem index_ok (s : ByteArray) (f : T_api_Data → Option Bool) (hf : ∀ d, f d = some (decide (d.Name = s))) : ∃ k : Int, slices_IndexFunc_24 p.Datas f = some k ∧ (dfind p s = none → k < 0) ∧ (∀ d, dfind p s = some d → 0 ≤ k ∧ gi p.Datas k = some d ∧ d.Name = s) := by
  have hd := datas_len hb
  have key : ∀ (d i : Nat), p.Datas.length - i = d → i ≤ p.Datas.length → ∃ k : Int, slices_IndexFunc_24.l0 p.Datas f (p.Datas.length : Int) (i : Int) = some k ∧ (((p.Datas.drop i).find? fun d => decide (d.Name = s)) = none → k < 0) ∧ (∀ d, ((p.Datas.drop i).find? fun d => decide (d.Name = s)) = some d → 0 ≤ k ∧ gi p.Datas k = some d ∧ d.Name = s) := by
    intro d
    induction d with
    | zero =>
      intro i hd hi
      obtain rfl : i = p.Datas.length := by omega
      rw [slices_IndexFunc_24.l0_eq, if_neg (nlt _), List.drop_length]
      exact ⟨_, rfl, fun _ => by decide, fun d h => by simp at h⟩
    | succ d ih =>
      intro i hd hi
      have hlt : i < p.Datas.length := by omega
      rw [slices_IndexFunc_24.l0_eq, if_pos (by omega), gi_at hlt, Option.bind_some, hf, Option.bind_some, List.drop_eq_getElem_cons hlt, w_succ (by omega)]
      by_cases c : p.Datas[i].Name = s
      · rw [if_pos (decide_eq_true c), List.find?_cons_of_pos (by simp [c])]
        exact ⟨_, rfl, (fun h => by cases h), fun d h => by cases h; exact ⟨by omega, gi_at hlt, c⟩⟩
      · rw [if_neg (by rw [decide_eq_true_eq]; exact c), List.find?_cons_of_neg (by simp [c])]
        exact ih (i + 1) (by omega) (by omega)
  unfold slices_IndexFunc_24
  exact key p.Datas.length 0 (by omega) (by omega)
theorem type_all {ps : List ByteArray} (hp : ps.length ≤ 4000000) : ∀ (n : Nat) (t : Ty), t.bulk ≤ n → n ≤ 2000000 → kind_Type p ps t = some (kE p ps t) ∧ kE p ps t = if oe p ps t = 0 then firstI (kE p ps) t.Args else oe p ps t := by
  intro n
  induction n with
  | zero => intro t h; have := tbulk_pos t; omega
  | succ n ih =>
    intro t ht hn
    have hl := targs_len t
    have j0 : kind_Type.j0 ps p t = some (firstI (kE p ps) t.Args) := by
      rw [kind_Type.j0_eq, kind_Types_eq]
      have := firstI_loop (l := t.Args) (F := fun i => kind_Types.l0 ps p t.Args (t.Args.length : Int) i) (g := kE p ps) (fun i hi => by
        have h0 := targ_bulk (List.getElem_mem hi)
        rw [kind_Types.l0_eq, if_pos (by omega), gi_at hi, Option.bind_some, (ih _ (by omega) (by omega)).1, Option.bind_some, w_succ (by omega)]) (by rw [kind_Types.l0_eq, if_neg (nlt _)])
      rw [this, Option.bind_some]
    have e : kind_Type p ps t = some (if oe p ps t = 0 then firstI (kE p ps) t.Args else oe p ps t) := by
      rw [kind_Type_eq]
      by_cases k5 : t.Kind = 5
      · rw [if_pos k5, has_val _ hp, Option.bind_some]
        by_cases c : t.Name ∈ ps
        · have ho : oe p ps t = 0 := by unfold oe; rw [if_pos k5, if_pos c]
          rw [if_pos (decide_eq_true c), if_pos ho, j0]
        · have ho : oe p ps t = 11 := by unfold oe; rw [if_pos k5, if_neg c]
          rw [if_neg (by rw [decide_eq_true_eq]; exact c), ho, if_neg (by decide)]
      · rw [if_neg k5]
        by_cases k6 : t.Kind = 6
        · rw [if_pos k6, data_val hb, Option.bind_some]
          cases hd : dfind p t.Name with
          | none =>
            have ho : oe p ps t = 11 := by unfold oe; rw [if_neg k5, if_pos k6, hd]
            rw [ho]
            exact rfl
          | some d =>
            have ho : oe p ps t = if (d.Params.length : Int) = (t.Args.length : Int) then 0 else 13 := by unfold oe; rw [if_neg k5, if_pos k6, hd]
            show (if (0 : Int) = 0 then (if (d.Params.length : Int) = (t.Args.length : Int) then kind_Type.j0 ps p t else some 13) else some 0) = _
            rw [if_pos rfl, ho]
            by_cases c : (d.Params.length : Int) = (t.Args.length : Int)
            · rw [if_pos c, if_pos c, if_pos rfl, j0]
            · rw [if_neg c, if_neg c, if_neg (by decide)]
        · have ho : oe p ps t = 0 := by unfold oe; rw [if_neg k5, if_neg k6]
          rw [if_neg k6, if_pos ho, j0]
    have e2 : kE p ps t = if oe p ps t = 0 then firstI (kE p ps) t.Args else oe p ps t := by
      conv => lhs; unfold kE
      rw [e]; rfl
    exact ⟨by rw [e, e2], e2⟩
theorem types_val {ps : List ByteArray} (hp : ps.length ≤ 4000000) (l : List Ty) (hl : (l.map T_api_Type.bulk).sum ≤ 2000000) : kind_Types p ps l = some (firstI (kE p ps) l) := by
  have hn : l.length ≤ (l.map T_api_Type.bulk).sum := len_le_sum fun x _ => tbulk_pos x
  rw [kind_Types_eq]
  exact firstI_loop (l := l) (F := fun i => kind_Types.l0 ps p l (l.length : Int) i) (g := kE p ps) (fun i hi => by
    have h0 := le_sum (f := T_api_Type.bulk) (List.getElem_mem hi)
    rw [kind_Types.l0_eq, if_pos (by omega), gi_at hi, Option.bind_some, (type_all hb hp _ l[i] (Nat.le_refl _) (by omega)).1, Option.bind_some, w_succ (by omega)]) (by rw [kind_Types.l0_eq, if_neg (nlt _)])
theorem kindOf_val {ps : List ByteArray} (hp : ps.length ≤ 4000000) (l : List Ty) (hl : (l.map T_api_Type.bulk).sum ≤ 2000000) : roadref2_KindOf p ps l = some (firstI (kE p ps) l) := by
  have hln : ∀ l : List Ty, l.length ≤ (l.map T_api_Type.bulk).sum := fun l => len_le_sum fun x _ => tbulk_pos x
  have key : ∀ (n : Nat) (l : List Ty), (l.map T_api_Type.bulk).sum ≤ n → n ≤ 2000000 → roadref2_KindOf.l0 ps p l = some (firstI (kE p ps) l) := by
    intro n
    induction n using Nat.strongRecOn with
    | _ n ih =>
      intro l hn hN
      have h1 := hln l
      cases l with
      | nil => rw [roadref2_KindOf.l0_eq, if_neg (by simp)]; rfl
      | cons t l =>
        rw [List.map_cons, List.sum_cons] at hn
        have h2 := hln l
        have h3 := targs_len t
        have h4 := tbulk t
        have hg : gi (t :: l) 0 = some t := rfl
        have hs : sls (t :: l) 1 ((t :: l).length : Int) = some l := by
          have := sls_drop (l := t :: l) (k := 1) (x := 1) rfl (by simp)
          exact this
        have ta := type_all hb hp t.bulk t (Nat.le_refl _) (by omega)
        obtain ⟨k, k1, k2, k3⟩ := index_ok hb t.Name (fun z27 => roadref2_dataOf_1 z27 t.Name) (fun d => rfl)
        have hd : roadref2_dataOf p t.Name = some k := by unfold roadref2_dataOf; rw [k1, Option.bind_some]
        have hrec : roadref2_KindOf.l0 ps p (t.Args ++ l) = some (if firstI (kE p ps) t.Args = 0 then firstI (kE p ps) l else firstI (kE p ps) t.Args) := by
          rw [ih ((t.Args.map T_api_Type.bulk).sum + (l.map T_api_Type.bulk).sum) (by omega) (t.Args ++ l) (by rw [List.map_append, List.sum_append]; omega) (by omega), firstI_append]
        -- what the own part comes to
        have fin : ∀ e : Int, oe p ps t = e → e ≠ 0 → some e = some (firstI (kE p ps) (t :: l)) := fun e h1 h2 => by
          rw [firstI, ta.2, h1, if_neg h2, if_neg h2]
        have go : oe p ps t = 0 → some (if firstI (kE p ps) t.Args = 0 then firstI (kE p ps) l else firstI (kE p ps) t.Args) = some (firstI (kE p ps) (t :: l)) := fun h1 => by
          rw [firstI, ta.2, h1, if_pos rfl]
        rw [roadref2_KindOf.l0_eq, if_pos (by simp only [List.length_cons]; omega), hg, Option.bind_some, hs, Option.bind_some, concatT (by omega), Option.bind_some, hd, Option.bind_some]
        by_cases c5 : t.Kind = 5
        · have c6 : ¬ t.Kind = 6 := by omega
          rw [if_pos c5, has_val _ hp, Option.bind_some, roadref2_KindOf.j1_eq]
          by_cases c : t.Name ∈ ps
          · rw [decide_eq_true c, if_neg (by decide), if_neg c6, roadref2_KindOf.j0_eq, if_neg (by decide), if_neg c6, hrec]
            exact go (by unfold oe; rw [if_pos c5, if_pos c])
          · rw [decide_eq_false c, if_pos (by decide), roadref2_KindOf.j0_eq, if_pos (by decide)]
            exact fin 11 (by unfold oe; rw [if_pos c5, if_neg c]) (by decide)
        · rw [if_neg c5, roadref2_KindOf.j1_eq, if_neg (by decide)]
          by_cases c6 : t.Kind = 6
          · rw [if_pos c6, roadref2_KindOf.j0_eq]
            cases hf : dfind p t.Name with
            | none =>
              rw [if_pos (decide_eq_true (k2 hf))]
              exact fin 11 (by unfold oe; rw [if_neg c5, if_pos c6, hf]) (by decide)
            | some d =>
              obtain ⟨q1, q2, q3⟩ := k3 d hf
              rw [if_neg (by rw [decide_eq_true_eq]; omega), if_pos c6, q2, Option.bind_some]
              by_cases c : (d.Params.length : Int) = (t.Args.length : Int)
              · rw [if_pos c, hrec]
                exact go (by unfold oe; rw [if_neg c5, if_pos c6, hf]; exact if_pos c)
              · rw [if_neg c]
                exact fin 13 (by unfold oe; rw [if_neg c5, if_pos c6, hf]; exact if_neg c) (by decide)
          · rw [if_neg c6, roadref2_KindOf.j0_eq, if_neg (by decide), if_neg c6, hrec]
            exact go (by unfold oe; rw [if_neg c5, if_neg c6])
  have hn := hln l
  unfold roadref2_KindOf
  rw [slices_Clone_42.val l (by omega), Option.bind_some]
  exact key _ l (Nat.le_refl _) hl
end
noncomputable def bE (p : Pg) (ps : List ByteArray) (e : Ex) : Int × Int := first (fun x : Ex => (firstI (kE p ps) x.Types, x.At)) (walk e)
noncomputable def fnE (p : Pg) (more : List ByteArray) (f : T_api_Func) : Int × Int :=
  if firstI (kE p (more ++ f.Params)) (f.Types ++ [f.Out]) = 0 then (if f.Body.Kind = 0 then (0, 0) else bE p (more ++ f.Params) f.Body) else (firstI (kE p (more ++ f.Params)) (f.Types ++ [f.Out]), 0)
noncomputable def acE (p : Pg) (a : T_api_Actor) : Int × Int :=
  if firstI (kE p []) (a.Types ++ [a.Msg]) = 0 then bE p [] a.Body else (firstI (kE p []) (a.Types ++ [a.Msg]), 0)
noncomputable def dtE (p : Pg) (d : T_api_Data) : Int × Int := first (fun m : T_api_Make => (firstI (kE p d.Params) m.Args, (0 : Int))) d.Makes
noncomputable def pE (p : Pg) : Int × Int :=
  sq (first (dtE p) p.Datas) (sq (first (fun t : T_api_Trait => first (fnE p [ByteArray.mk #[115, 101, 108, 102]]) t.Funcs) p.Traits) (sq (first (fun m : T_api_Impl => first (fnE p []) m.Funcs) p.Impls) (sq (first (fnE p []) p.Funcs) (first (acE p) p.Actors))))
theorem etypes {e x : Ex} (he : e.bulk ≤ 1048576) (hx : x ∈ walk e) : (x.Types.map T_api_Type.bulk).sum ≤ 1048576 := by
  have := mem_bulk e x hx
  have := ebulk x
  omega
theorem func_bulk (f : T_api_Func) : f.Params.length + ((f.Types.map T_api_Type.bulk).sum + f.Out.bulk) + f.Body.bulk + 1 ≤ f.bulk := by
  have h1 : f.Params.length ≤ (f.Params.map fun s => s.size + 1).sum := len_le_sum fun x _ => by omega
  unfold T_api_Func.bulk; omega
theorem actor_bulk (a : T_api_Actor) : ((a.Types.map T_api_Type.bulk).sum + a.Msg.bulk) + a.Body.bulk + 1 ≤ a.bulk := by
  unfold T_api_Actor.bulk; omega
theorem func_pos (f : T_api_Func) : 1 ≤ f.bulk := by have := func_bulk f; omega
theorem sum_snoc {α : Type} (f : α → Nat) (l : List α) (x : α) : ((l ++ [x]).map f).sum = (l.map f).sum + f x := by rw [List.map_append, List.sum_append]; simp
section
variable {p : Pg} (hb : p.bulk ≤ 1048576)
include hb
theorem body_val {ps : List ByteArray} (hp : ps.length ≤ 4000000) (e : Ex) (he : e.bulk ≤ 1048576) : kind_body p ps e = some (bE p ps e) ∧ roadref2_kindBody p ps e = some (T_roadref2_Wrong.mk (bE p ps e).1 (bE p ps e).2) := by
  have hw := walk_bulk e
  constructor
  · unfold kind_body
    rw [walk_val e (by omega), Option.bind_some]
    refine (first_loop (l := walk e) (F := fun i => kind_body.l0 ps p (walk e) ((walk e).length : Int) i) (g := fun x : Ex => (firstI (kE p ps) x.Types, x.At)) (K := fun r => some r) (fun i hi => by
      rw [kind_body.l0_eq, if_pos (by omega), gi_at hi, Option.bind_some, types_val hb hp _ (by have := etypes he (List.getElem_mem hi); omega), Option.bind_some, w_succ (by omega)])).trans ?_
    rw [kind_body.l0_eq, if_neg (nlt _)]
    exact first_end _ _ (fun r => some r)
  · unfold roadref2_kindBody
    generalize T_roadref2_Wrong.mk (0 : Int) (0 : Int) = z
    rw [all_val e (by omega), Option.bind_some]
    refine (first_loop (l := walk e) (F := fun i => roadref2_kindBody.l0 ps p z (walk e) ((walk e).length : Int) i) (g := fun x : Ex => (firstI (kE p ps) x.Types, x.At)) (K := fun r => some (T_roadref2_Wrong.mk r.1 r.2)) (fun i hi => by
      rw [roadref2_kindBody.l0_eq, if_pos (by omega), gi_at hi, Option.bind_some, kindOf_val hb hp _ (by have := etypes he (List.getElem_mem hi); omega), Option.bind_some, w_succ (by omega)])).trans ?_
    rw [roadref2_kindBody.l0_eq, if_neg (nlt _)]
    exact first_end _ _ (fun r => some (T_roadref2_Wrong.mk r.1 r.2))
theorem kindFun_val {more : List ByteArray} (hm : more.length ≤ 10) (f : T_api_Func) (hf : f.bulk ≤ 1048576) : roadref2_kindFun p more f = some (T_roadref2_Wrong.mk (fnE p more f).1 (fnE p more f).2) := by
  have h := func_bulk f
  have hl : f.Types.length ≤ (f.Types.map T_api_Type.bulk).sum := len_le_sum fun x _ => tbulk_pos x
  have hs := sum_snoc T_api_Type.bulk f.Types f.Out
  unfold roadref2_kindFun fnE
  rw [concatS (by omega), Option.bind_some, concatT (by simp only [List.length_cons, List.length_nil]; omega), Option.bind_some, kindOf_val hb (by rw [List.length_append]; omega) _ (by omega), Option.bind_some]
  by_cases c : firstI (kE p (more ++ f.Params)) (f.Types ++ [f.Out]) = 0
  · rw [if_pos c, if_pos c]
    by_cases c2 : f.Body.Kind = 0
    · rw [if_pos c2, if_pos c2]
    · rw [if_neg c2, if_neg c2, (body_val hb (by rw [List.length_append]; omega) f.Body (by omega)).2, Option.bind_some]
  · rw [if_neg c, if_neg c]
theorem funcs_val {more : List ByteArray} (hm : more.length ≤ 10) (l : List T_api_Func) (hl : (l.map T_api_Func.bulk).sum ≤ 1048576) : kind_funcs p l more = some (first (fnE p more) l) := by
  have h1 : l.length ≤ (l.map T_api_Func.bulk).sum := len_le_sum fun x _ => func_pos x
  unfold kind_funcs
  refine (first_loop (l := l) (F := fun i => kind_funcs.l0 more p l (l.length : Int) i) (g := fnE p more) (K := fun r => some r) (fun i hi => by
    have h2 := le_sum (f := T_api_Func.bulk) (List.getElem_mem hi)
    have h := func_bulk l[i]
    have hln : l[i].Types.length ≤ (l[i].Types.map T_api_Type.bulk).sum := len_le_sum fun x _ => tbulk_pos x
    have hs := sum_snoc T_api_Type.bulk l[i].Types l[i].Out
    rw [kind_funcs.l0_eq, if_pos (by omega), gi_at hi, Option.bind_some, slices_Clone_55.val more (by omega), Option.bind_some, ap_of (by omega), Option.bind_some, slices_Clone_42.val _ (by omega), Option.bind_some, ap_one (by omega), Option.bind_some, types_val hb (by rw [List.length_append]; omega) _ (by omega), Option.bind_some, kind_funcs.j1_eq, kind_funcs.j0_eq, (body_val hb (by rw [List.length_append]; omega) l[i].Body (by omega)).1, Option.bind_some, w_succ (by omega)]
    unfold fnE
    by_cases c : firstI (kE p (more ++ l[i].Params)) (l[i].Types ++ [l[i].Out]) = 0
    · rw [if_pos c, if_pos c]
      by_cases c2 : l[i].Body.Kind = 0
      · rw [if_pos c2, if_pos c2, if_pos rfl]
      · rw [if_neg c2, if_neg c2]
    · rw [if_neg c, if_neg c, if_neg c])).trans ?_
  rw [kind_funcs.l0_eq, if_neg (nlt _)]
  exact first_end _ _ (fun r => some r)
theorem impl_sum : ∀ m ∈ p.Impls, (m.Funcs.map T_api_Func.bulk).sum ≤ 1048576 := fun m hm => by
  have h := prbulk p
  have h1 := le_sum (f := T_api_Impl.bulk) hm
  have h2 : (m.Funcs.map T_api_Func.bulk).sum + 1 ≤ m.bulk := by unfold T_api_Impl.bulk; omega
  omega
theorem trait_sum : ∀ m ∈ p.Traits, (m.Funcs.map T_api_Func.bulk).sum ≤ 1048576 := fun m hm => by
  have h := prbulk p
  have h1 := le_sum (f := T_api_Trait.bulk) hm
  have h2 : (m.Funcs.map T_api_Func.bulk).sum + 1 ≤ m.bulk := by unfold T_api_Trait.bulk; omega
  omega
theorem data_sum : ∀ d ∈ p.Datas, d.Params.length ≤ 1048576 ∧ d.Makes.length ≤ 1048576 ∧ ∀ m ∈ d.Makes, (m.Args.map T_api_Type.bulk).sum ≤ 1048576 := fun d hd => by
  have h := prbulk p
  have h1 := le_sum (f := T_api_Data.bulk) hd
  have e1 : d.Params.length ≤ (d.Params.map fun s => s.size + 1).sum := len_le_sum fun x _ => by omega
  have e2 : d.Makes.length ≤ (d.Makes.map T_api_Make.bulk).sum := len_le_sum fun x _ => by unfold T_api_Make.bulk; omega
  have h2 : (d.Params.map fun s => s.size + 1).sum + (d.Makes.map T_api_Make.bulk).sum + 1 ≤ d.bulk := by unfold T_api_Data.bulk; omega
  refine ⟨by omega, by omega, fun m hm => ?_⟩
  have h3 := le_sum (f := T_api_Make.bulk) hm
  have h4 : (m.Args.map T_api_Type.bulk).sum + 1 ≤ m.bulk := by unfold T_api_Make.bulk; omega
  omega
theorem lens : p.Traits.length ≤ 1048576 ∧ p.Impls.length ≤ 1048576 ∧ p.Funcs.length ≤ 1048576 ∧ p.Actors.length ≤ 1048576 := by
  have h := prbulk p
  have u4 : p.Traits.length ≤ (p.Traits.map T_api_Trait.bulk).sum := len_le_sum fun x _ => by unfold T_api_Trait.bulk; omega
  have u5 : p.Impls.length ≤ (p.Impls.map T_api_Impl.bulk).sum := len_le_sum fun x _ => by unfold T_api_Impl.bulk; omega
  have u6 : p.Funcs.length ≤ (p.Funcs.map T_api_Func.bulk).sum := len_le_sum fun x _ => func_pos x
  have u7 : p.Actors.length ≤ (p.Actors.map T_api_Actor.bulk).sum := len_le_sum fun x _ => by have := actor_bulk x; omega
  omega
theorem program_val : kind_Program p = some (pE p) := by
  have hl := lens hb
  have hd := datas_len hb
  have hpb := prbulk p
  have l3 : kind_Program.l3 p p.Actors (p.Actors.length : Int) 0 = some (first (acE p) p.Actors) := by
    refine (first_loop (l := p.Actors) (F := fun i => kind_Program.l3 p p.Actors (p.Actors.length : Int) i) (g := acE p) (K := fun r => some r) (fun i hi => by
      have h2 := le_sum (f := T_api_Actor.bulk) (List.getElem_mem hi)
      have h := actor_bulk p.Actors[i]
      have hln : p.Actors[i].Types.length ≤ (p.Actors[i].Types.map T_api_Type.bulk).sum := len_le_sum fun x _ => tbulk_pos x
      have hs := sum_snoc T_api_Type.bulk p.Actors[i].Types p.Actors[i].Msg
      rw [kind_Program.l3_eq, if_pos (by omega), gi_at hi, Option.bind_some, slices_Clone_42.val _ (by omega), Option.bind_some, ap_one (by omega), Option.bind_some, types_val hb (by simp) _ (by omega), Option.bind_some, kind_Program.j1_eq, kind_Program.j0_eq, (body_val hb (by simp) p.Actors[i].Body (by omega)).1, Option.bind_some, w_succ (by omega)]
      unfold acE
      by_cases c : firstI (kE p []) (p.Actors[i].Types ++ [p.Actors[i].Msg]) = 0
      · rw [if_pos c, if_pos c]
      · rw [if_neg c, if_neg c, if_neg c])).trans ?_
    rw [kind_Program.l3_eq, if_neg (nlt _)]
    exact first_end _ _ (fun r => some r)
  have l2 : kind_Program.l2 p p.Impls (p.Impls.length : Int) 0 = some (sq (first (fun m : T_api_Impl => first (fnE p []) m.Funcs) p.Impls) (sq (first (fnE p []) p.Funcs) (first (acE p) p.Actors))) := by
    refine (first_loop (l := p.Impls) (F := fun i => kind_Program.l2 p p.Impls (p.Impls.length : Int) i) (g := fun m => first (fnE p []) m.Funcs) (K := fun r => some r) (fun i hi => by
      rw [kind_Program.l2_eq, if_pos (by omega), gi_at hi, Option.bind_some, funcs_val hb (by simp) _ (impl_sum hb _ (List.getElem_mem hi)), Option.bind_some, w_succ (by omega)])).trans ?_
    rw [kind_Program.l2_eq, if_neg (nlt _), funcs_val hb (by simp) _ (by omega), Option.bind_some, l3]
    rw [sq_if (K := fun r => some r)]
    exact sq_if (K := fun r => some r)
  have l1 : kind_Program.l1 p p.Traits (p.Traits.length : Int) 0 = some (sq (first (fun t : T_api_Trait => first (fnE p [ByteArray.mk #[115, 101, 108, 102]]) t.Funcs) p.Traits) (sq (first (fun m : T_api_Impl => first (fnE p []) m.Funcs) p.Impls) (sq (first (fnE p []) p.Funcs) (first (acE p) p.Actors)))) := by
    refine (first_loop (l := p.Traits) (F := fun i => kind_Program.l1 p p.Traits (p.Traits.length : Int) i) (g := fun m => first (fnE p [ByteArray.mk #[115, 101, 108, 102]]) m.Funcs) (K := fun r => some r) (fun i hi => by
      rw [kind_Program.l1_eq, if_pos (by omega), gi_at hi, Option.bind_some, funcs_val hb (by simp) _ (trait_sum hb _ (List.getElem_mem hi)), Option.bind_some, w_succ (by omega)])).trans ?_
    rw [kind_Program.l1_eq, if_neg (nlt _), l2]
    exact sq_if (K := fun r => some r)
  unfold kind_Program pE
  refine (first_loop (l := p.Datas) (F := fun i => kind_Program.l0 p p.Datas (p.Datas.length : Int) i) (g := dtE p) (K := fun r => some r) (fun i hi => by
    obtain ⟨s1, s2, s3⟩ := data_sum hb _ (List.getElem_mem hi)
    rw [kind_Program.l0_eq, if_pos (by omega), gi_at hi, Option.bind_some]
    refine (first_loop (l := p.Datas[i].Makes) (F := fun j => kind_Program.l4 p p.Datas[i] p.Datas (p.Datas.length : Int) (i : Int) p.Datas[i].Makes (p.Datas[i].Makes.length : Int) j) (g := fun m : T_api_Make => (firstI (kE p p.Datas[i].Params) m.Args, (0 : Int))) (K := fun r => some r) (fun j hj => by
      have s4 := s3 _ (List.getElem_mem hj)
      rw [kind_Program.l4_eq, if_pos (by omega), gi_at hj, Option.bind_some, types_val hb (by omega) _ (by omega), Option.bind_some, w_succ (by omega)])).trans ?_
    rw [kind_Program.l4_eq, if_neg (nlt _), w_succ (by omega)]
    rfl)).trans ?_
  rw [kind_Program.l0_eq, if_neg (nlt _), l1]
  exact sq_if (K := fun r => some r)
theorem kindsOf_val : roadref2_KindsOf p = some (T_roadref2_Wrong.mk (pE p).1 (pE p).2) := by
  have hl := lens hb
  have hd := datas_len hb
  have hpb := prbulk p
  have hfl := fs_len p
  unfold roadref2_KindsOf
  generalize hz : T_roadref2_Wrong.mk (0 : Int) (0 : Int) = z
  have l3 : roadref2_KindsOf.l3 p z p.Actors (p.Actors.length : Int) 0 = some (T_roadref2_Wrong.mk (first (acE p) p.Actors).1 (first (acE p) p.Actors).2) := by
    refine (first_loop (l := p.Actors) (F := fun i => roadref2_KindsOf.l3 p z p.Actors (p.Actors.length : Int) i) (g := acE p) (K := fun r => some (T_roadref2_Wrong.mk r.1 r.2)) (fun i hi => by
      have h2 := le_sum (f := T_api_Actor.bulk) (List.getElem_mem hi)
      have h := actor_bulk p.Actors[i]
      have hln : p.Actors[i].Types.length ≤ (p.Actors[i].Types.map T_api_Type.bulk).sum := len_le_sum fun x _ => tbulk_pos x
      have hs := sum_snoc T_api_Type.bulk p.Actors[i].Types p.Actors[i].Msg
      rw [roadref2_KindsOf.l3_eq, if_pos (by omega), gi_at hi, Option.bind_some, concatT (by simp only [List.length_cons, List.length_nil]; omega), Option.bind_some, kindOf_val hb (by simp) _ (by omega), Option.bind_some, (body_val hb (by simp) p.Actors[i].Body (by omega)).2, Option.bind_some, w_succ (by omega)]
      unfold acE
      by_cases c : firstI (kE p []) (p.Actors[i].Types ++ [p.Actors[i].Msg]) = 0
      · rw [if_pos c, if_pos c]
      · rw [if_neg c, if_neg c, if_neg c])).trans ?_
    rw [roadref2_KindsOf.l3_eq, if_neg (nlt _)]
    exact first_end _ _ (fun r => some (T_roadref2_Wrong.mk r.1 r.2))
  have fsb : ∀ f ∈ fs p, f.bulk ≤ 1048576 := fun f hf => by
    unfold fs at hf
    rcases List.mem_append.1 hf with hf | hf
    · obtain ⟨m, hm, hf⟩ := List.mem_flatMap.1 hf
      have h1 := impl_sum hb m hm
      have h2 := le_sum (f := T_api_Func.bulk) hf
      omega
    · have h2 := le_sum (f := T_api_Func.bulk) hf
      omega
  have l2 : roadref2_KindsOf.l2 p z (fs p) ((fs p).length : Int) 0 = some (T_roadref2_Wrong.mk (sq (first (fun m : T_api_Impl => first (fnE p []) m.Funcs) p.Impls) (sq (first (fnE p []) p.Funcs) (first (acE p) p.Actors))).1 (sq (first (fun m : T_api_Impl => first (fnE p []) m.Funcs) p.Impls) (sq (first (fnE p []) p.Funcs) (first (acE p) p.Actors))).2) := by
    refine (first_loop (l := fs p) (F := fun i => roadref2_KindsOf.l2 p z (fs p) ((fs p).length : Int) i) (g := fnE p []) (K := fun r => some (T_roadref2_Wrong.mk r.1 r.2)) (fun i hi => by
      rw [roadref2_KindsOf.l2_eq, if_pos (by omega), gi_at hi, Option.bind_some, kindFun_val hb (by simp) _ (fsb _ (List.getElem_mem hi)), Option.bind_some, w_succ (by omega)])).trans ?_
    rw [roadref2_KindsOf.l2_eq, if_neg (nlt _), l3]
    have hf : first (fnE p []) (fs p) = sq (first (fun m : T_api_Impl => first (fnE p []) m.Funcs) p.Impls) (first (fnE p []) p.Funcs) := by
      unfold fs sq
      rw [first_append, first_flat]
    rw [sq_if (K := fun r : Int × Int => some (T_roadref2_Wrong.mk r.1 r.2)), hf]
    have : ∀ a b c : Int × Int, sq (sq a b) c = sq a (sq b c) := fun a b c => by
      unfold sq
      by_cases h : a.1 = 0
      · rw [if_pos h, if_pos h]
      · rw [if_neg h, if_neg h, if_neg h]
    rw [this]
  have l1 : roadref2_KindsOf.l1 p z p.Traits (p.Traits.length : Int) 0 = some (T_roadref2_Wrong.mk (sq (first (fun t : T_api_Trait => first (fnE p [ByteArray.mk #[115, 101, 108, 102]]) t.Funcs) p.Traits) (sq (first (fun m : T_api_Impl => first (fnE p []) m.Funcs) p.Impls) (sq (first (fnE p []) p.Funcs) (first (acE p) p.Actors)))).1 (sq (first (fun t : T_api_Trait => first (fnE p [ByteArray.mk #[115, 101, 108, 102]]) t.Funcs) p.Traits) (sq (first (fun m : T_api_Impl => first (fnE p []) m.Funcs) p.Impls) (sq (first (fnE p []) p.Funcs) (first (acE p) p.Actors)))).2) := by
    refine (first_loop (l := p.Traits) (F := fun i => roadref2_KindsOf.l1 p z p.Traits (p.Traits.length : Int) i) (g := fun m => first (fnE p [ByteArray.mk #[115, 101, 108, 102]]) m.Funcs) (K := fun r => some (T_roadref2_Wrong.mk r.1 r.2)) (fun i hi => by
      have hs := trait_sum hb _ (List.getElem_mem hi)
      have h1 : p.Traits[i].Funcs.length ≤ (p.Traits[i].Funcs.map T_api_Func.bulk).sum := len_le_sum fun x _ => func_pos x
      rw [roadref2_KindsOf.l1_eq, if_pos (by omega), gi_at hi, Option.bind_some]
      refine (first_loop (l := p.Traits[i].Funcs) (F := fun j => roadref2_KindsOf.l5 p z p.Traits (p.Traits.length : Int) (i : Int) p.Traits[i].Funcs (p.Traits[i].Funcs.length : Int) j) (g := fnE p [ByteArray.mk #[115, 101, 108, 102]]) (K := fun r => some (T_roadref2_Wrong.mk r.1 r.2)) (fun j hj => by
        have h2 := le_sum (f := T_api_Func.bulk) (List.getElem_mem hj)
        rw [roadref2_KindsOf.l5_eq, if_pos (by omega), gi_at hj, Option.bind_some, kindFun_val hb (by simp) _ (by omega), Option.bind_some, w_succ (by omega)])).trans ?_
      rw [roadref2_KindsOf.l5_eq, if_neg (nlt _), w_succ (by omega)])).trans ?_
    rw [roadref2_KindsOf.l1_eq, if_neg (nlt _), funs_val hb, Option.bind_some, l2]
    exact sq_if (K := fun r : Int × Int => some (T_roadref2_Wrong.mk r.1 r.2))
  unfold pE
  refine (first_loop (l := p.Datas) (F := fun i => roadref2_KindsOf.l0 p z p.Datas (p.Datas.length : Int) i) (g := dtE p) (K := fun r => some (T_roadref2_Wrong.mk r.1 r.2)) (fun i hi => by
    obtain ⟨s1, s2, s3⟩ := data_sum hb _ (List.getElem_mem hi)
    rw [roadref2_KindsOf.l0_eq, if_pos (by omega), gi_at hi, Option.bind_some]
    refine (first_loop (l := p.Datas[i].Makes) (F := fun j => roadref2_KindsOf.l4 p z p.Datas[i] p.Datas (p.Datas.length : Int) (i : Int) p.Datas[i].Makes (p.Datas[i].Makes.length : Int) j) (g := fun m : T_api_Make => (firstI (kE p p.Datas[i].Params) m.Args, (0 : Int))) (K := fun r => some (T_roadref2_Wrong.mk r.1 r.2)) (fun j hj => by
      have s4 := s3 _ (List.getElem_mem hj)
      rw [roadref2_KindsOf.l4_eq, if_pos (by omega), gi_at hj, Option.bind_some, kindOf_val hb (by omega) _ (by omega), Option.bind_some, w_succ (by omega)])).trans ?_
    rw [roadref2_KindsOf.l4_eq, if_neg (nlt _), w_succ (by omega)]
    rfl)).trans ?_
  rw [roadref2_KindsOf.l0_eq, if_neg (nlt _), l1]
  exact sq_if (K := fun r : Int × Int => some (T_roadref2_Wrong.mk r.1 r.2))
end
theorem type_eta (t : Ty) : T_api_Type.mk t.Kind t.Name t.Args = t := by cases t; rfl
theorem set_loop {α γ : Type} {l : List α} {F : List α → Int → Option γ} {f : α → α} (step : ∀ (s : List α) (i : Nat) (hi : i < l.length), s.length = l.length → s[i]? = some l[i] → F s (i : Int) = F (s.set i (f l[i])) ((i + 1 : Nat) : Int)) : F l 0 = F (l.map f) (l.length : Int) := by
  have key : ∀ (d i : Nat), l.length - i = d → i ≤ l.length → F ((l.take i).map f ++ l.drop i) (i : Int) = F (l.map f) (l.length : Int) := by
    intro d
    induction d with
    | zero =>
      intro i hd hi
      obtain rfl : i = l.length := by omega
      rw [List.take_length, List.drop_length, List.append_nil]
    | succ d ih =>
      intro i hd hi
      have hlt : i < l.length := by omega
      have hlen : ((l.take i).map f).length = i := by rw [List.length_map, List.length_take]; omega
      have hg : ((l.take i).map f ++ l.drop i)[i]? = some l[i] := by
        rw [List.getElem?_append_right (by omega), hlen, Nat.sub_self, List.getElem?_drop, Nat.add_zero]
        exact List.getElem?_eq_getElem hlt
      rw [step _ i hlt (by rw [List.length_append, hlen, List.length_drop]; omega) hg]
      have : ((l.take i).map f ++ l.drop i).set i (f l[i]) = (l.take (i + 1)).map f ++ l.drop (i + 1) := by
        rw [List.set_append_right _ _ (by omega), hlen, Nat.sub_self, List.drop_eq_getElem_cons hlt, List.set_cons_zero, List.take_succ_eq_append_getElem hlt, List.map_append, List.append_assoc]
        rfl
      rw [this]
      exact ih (i + 1) (by omega) hlt
  have := key l.length 0 (by omega) (by omega)
  rw [List.take_zero, List.map_nil, List.nil_append, List.drop_zero] at this
  exact this
theorem idx_nil (s : ByteArray) : slices_Index_33 ([] : List ByteArray) s = some (-1) := by
  unfold slices_Index_33
  rw [slices_Index_33.l0_eq, if_neg (by simp)]
theorem copy_all : ∀ (n : Nat) (t : Ty), t.bulk ≤ n → n ≤ 2000000 → kind_Put t [] [] = some t ∧ roadref2_Swap t [] [] = some t := by
  intro n
  induction n with
  | zero => intro t h; have := tbulk_pos t; omega
  | succ n ih =>
    intro t ht hn
    have hl := targs_len t
    have j0 : ∀ z : Ty, kind_Put.j0 [] [] t z = some t := fun z => by
      rw [kind_Put.j0_eq, slices_Clone_42.val _ (by omega), Option.bind_some]
      refine (set_loop (l := t.Args) (F := fun s i => kind_Put.l0 [] [] t.Kind t.Name s z (t.Args.length : Int) i) (f := fun x => x) (fun s i hi hs hg => by
        have h0 := targ_bulk (List.getElem_mem hi)
        have hgi : gi s (i : Int) = some t.Args[i] := gi_some rfl hg
        rw [kind_Put.l0_eq, if_pos (by omega), hgi, Option.bind_some, (ih _ (by omega) (by omega)).1, Option.bind_some, Option.bind_some, Option.bind_some, w_succ (by omega)]
        rfl)).trans ?_
      rw [kind_Put.l0_eq, if_neg (nlt _), List.map_id', type_eta]
    have s0 : ∀ z : Ty, roadref2_Swap.j0 [] [] t z = some t := fun z => by
      rw [roadref2_Swap.j0_eq]
      refine (map_loop (l := t.Args) (F := fun s i => roadref2_Swap.l0 [] [] z t.Kind t.Name s t.Args (t.Args.length : Int) i) (f := fun x => x) (B := 2000000) (fun s i hi hs => by
        have h0 := targ_bulk (List.getElem_mem hi)
        rw [roadref2_Swap.l0_eq, if_pos (by omega), gi_at hi, Option.bind_some, (ih _ (by omega) (by omega)).2, Option.bind_some, ap_one (by omega), Option.bind_some, w_succ (by omega)]) (by omega)).trans ?_
      rw [roadref2_Swap.l0_eq, if_neg (nlt _), List.map_id', type_eta]
    constructor
    · rw [kind_Put_eq, idx_nil]
      by_cases k5 : t.Kind = 5
      · rw [if_pos k5, Option.bind_some, if_neg (by decide : ¬ (-1 : Int) ≥ 0), kind_Put.j1_eq, if_neg (by decide : ¬ (false = true)), j0]
      · rw [if_neg k5, j0]
    · rw [roadref2_Swap_eq, idx_nil, Option.bind_some]
      by_cases k5 : t.Kind = 5
      · rw [if_pos k5, if_neg (by decide : ¬ (-1 : Int) ≥ 0), roadref2_Swap.j1_eq, if_neg (by decide : ¬ (false = true)), s0]
      · rw [if_neg k5, roadref2_Swap.j1_eq, if_neg (by decide : ¬ (false = true)), s0]
noncomputable def pu (ps : List ByteArray) (u t : Ty) : Ty := (kind_Put t ps [u]).getD t
theorem put_all {ps : List ByteArray} {u : Ty} (hp : ps.length ≤ 1048576) (hu : u.bulk ≤ 1048576) (qu : u.Q) : ∀ (n : Nat) (t : Ty), t.bulk ≤ n → n ≤ 1048576 → t.Q → kind_Put t ps [u] = some (pu ps u t) ∧ roadref2_Swap t ps [u] = some (pu ps u t) ∧ (pu ps u t).Q ∧ (pu ps u t).bulk ≤ t.bulk * u.bulk := by
  intro n
  induction n with
  | zero => intro t h; have := tbulk_pos t; omega
  | succ n ih =>
    intro t ht hn q
    have hl := targs_len t
    have hb := tbulk t
    have hup := tbulk_pos u
    obtain ⟨q1, q2, q3, q4⟩ := T_api_Type.Q_iff.1 q
    have c : ∀ x ∈ t.Args, kind_Put x ps [u] = some (pu ps u x) ∧ roadref2_Swap x ps [u] = some (pu ps u x) ∧ (pu ps u x).Q ∧ (pu ps u x).bulk ≤ x.bulk * u.bulk := fun x hx => by
      have := targ_bulk hx
      exact ih x (by omega) (by omega) (q4 x hx)
    have cu := copy_all u.bulk u (Nat.le_refl _) (by omega)
    have j0 : ∀ z : Ty, kind_Put.j0 ps [u] t z = some (T_api_Type.mk t.Kind t.Name (t.Args.map (pu ps u))) := fun z => by
      rw [kind_Put.j0_eq, slices_Clone_42.val _ (by omega), Option.bind_some]
      refine (set_loop (l := t.Args) (F := fun s i => kind_Put.l0 ps [u] t.Kind t.Name s z (t.Args.length : Int) i) (f := pu ps u) (fun s i hi hs hg => by
        have hgi : gi s (i : Int) = some t.Args[i] := gi_some rfl hg
        rw [kind_Put.l0_eq, if_pos (by omega), hgi, Option.bind_some, (c _ (List.getElem_mem hi)).1, Option.bind_some, Option.bind_some, Option.bind_some, w_succ (by omega)]
        rfl)).trans ?_
      rw [kind_Put.l0_eq, if_neg (nlt _)]
    have s0 : ∀ z : Ty, roadref2_Swap.j0 ps [u] t z = some (T_api_Type.mk t.Kind t.Name (t.Args.map (pu ps u))) := fun z => by
      rw [roadref2_Swap.j0_eq]
      refine (map_loop (l := t.Args) (F := fun s i => roadref2_Swap.l0 ps [u] z t.Kind t.Name s t.Args (t.Args.length : Int) i) (f := pu ps u) (B := 2000000) (fun s i hi hs => by
        rw [roadref2_Swap.l0_eq, if_pos (by omega), gi_at hi, Option.bind_some, (c _ (List.getElem_mem hi)).2.1, Option.bind_some, ap_one (by omega), Option.bind_some, w_succ (by omega)]) (by omega)).trans ?_
      rw [roadref2_Swap.l0_eq, if_neg (nlt _)]
    have hidx : ∃ k : Int, slices_Index_33 ps t.Name = some k := ⟨_, slices_Index_33.val t.Name (by omega)⟩
    obtain ⟨k, hk⟩ := hidx
    -- what is answered where nothing is put
    have plainQ : (T_api_Type.mk t.Kind t.Name (t.Args.map (pu ps u))).Q := by
      rw [T_api_Type.Q_iff]
      refine ⟨q1, q2, by rw [List.length_map]; exact q3, fun x hx => ?_⟩
      obtain ⟨y, hy, rfl⟩ := List.mem_map.1 hx
      exact (c y hy).2.2.1
    have plainB : (T_api_Type.mk t.Kind t.Name (t.Args.map (pu ps u))).bulk ≤ t.bulk * u.bulk := by
      rw [tbulk, hb]
      simp only
      rw [List.map_map]
      have h1 : (t.Args.map (T_api_Type.bulk ∘ pu ps u)).sum ≤ (t.Args.map fun x => u.bulk * x.bulk).sum := sum_le fun x hx => by
        have := (c x hx).2.2.2
        rw [Nat.mul_comm] at this
        exact this
      rw [sum_mul] at h1
      have h2 : t.Name.size + 4 ≤ (t.Name.size + 4) * u.bulk := Nat.le_mul_of_pos_right _ hup
      have h3 : (t.Name.size + (t.Args.map T_api_Type.bulk).sum + 4) * u.bulk = (t.Name.size + 4) * u.bulk + u.bulk * (t.Args.map T_api_Type.bulk).sum := by
        rw [Nat.mul_comm u.bulk, ← Nat.add_mul]
        congr 1; omega
      omega
    have res : ∃ r, kind_Put t ps [u] = some r ∧ roadref2_Swap t ps [u] = some r ∧ r.Q ∧ r.bulk ≤ t.bulk * u.bulk := by
      rw [kind_Put_eq, roadref2_Swap_eq, hk]
      by_cases k5 : t.Kind = 5
      · rw [if_pos k5, Option.bind_some, Option.bind_some, if_pos k5]
        by_cases k0 : k ≥ 0
        · rw [if_pos k0, if_pos k0, kind_Put.j1_eq, roadref2_Swap.j1_eq]
          by_cases k1 : k < ((([u] : List Ty).length : Nat) : Int)
          · have hk0 : k = 0 := by simp only [List.length_cons, List.length_nil] at k1; omega
            rw [decide_eq_true k1, if_pos rfl, if_pos rfl, hk0, gi_cons, Option.bind_some, Option.bind_some, kind_Copy_eq, cu.1, cu.2]
            refine ⟨u, rfl, rfl, qu, ?_⟩
            exact Nat.le_mul_of_pos_left _ (tbulk_pos t)
          · rw [decide_eq_false k1, if_neg (by decide), if_neg (by decide), j0, s0]
            exact ⟨_, rfl, rfl, plainQ, plainB⟩
        · rw [if_neg k0, if_neg k0, kind_Put.j1_eq, roadref2_Swap.j1_eq, if_neg (by decide), if_neg (by decide), j0, s0]
          exact ⟨_, rfl, rfl, plainQ, plainB⟩
      · rw [if_neg k5, Option.bind_some, if_neg k5, roadref2_Swap.j1_eq, if_neg (by decide), j0, s0]
        exact ⟨_, rfl, rfl, plainQ, plainB⟩
    obtain ⟨r, r1, r2, r3, r4⟩ := res
    have : pu ps u t = r := by unfold pu; rw [r1]; rfl
    rw [this]
    exact ⟨r1, r2, r3, r4⟩
theorem KindSays (p : Pg) (ps : List ByteArray) (t u : Ty) (s : ByteArray) (q : p.Q) (hps : ps.length * 16 ≤ 140737488351232 ∧ ∀ s ∈ ps, s.size ≤ 140737488351232) (qt : t.Q) (qu : u.Q) (hs : s.size ≤ 140737488351232) (hbb : p.bulk + ((ps.map fun s => s.size + 1).sum + 1) + t.bulk + u.bulk + (s.size + 1) ≤ 1048576) : roadlaw2_KindSays p ps t u s = some true := by
  have hb : p.bulk ≤ 1048576 := by omega
  have hpl : ps.length ≤ (ps.map fun s => s.size + 1).sum := len_le_sum fun x _ => by omega
  obtain ⟨b1, e1⟩ := small_val hb
  obtain ⟨k, k1, k2, k3⟩ := index_ok hb s (fun z81 => roadlaw2_KindSays_1 z81 s) (fun d => rfl)
  have ta := type_all hb (ps := ps) (by omega) t.bulk t (Nat.le_refl _) (by omega)
  obtain ⟨u1, u2, u3, u4⟩ := put_all (ps := ps) (u := u) (by omega) (by omega) qu t.bulk t (Nat.le_refl _) (by omega) qt
  have cu := copy_all t.bulk t (Nat.le_refl _) (by omega)
  have hmul : t.bulk * u.bulk ≤ 1048576 * 1048576 := Nat.mul_le_mul (by omega) (by omega)
  have m1 := (type_mark (pu ps u t).bulk (pu ps u t) (Nat.le_refl _) (by omega) u3).1
  have m2 := (type_mark t.bulk t (Nat.le_refl _) (by omega) qt).1
  have j1 : roadlaw2_KindSays.j1 ps t u = some true := by
    unfold roadlaw2_KindSays.j1
    rw [u1, Option.bind_some, m1, Option.bind_some, u2, Option.bind_some, m1, Option.bind_some, if_pos rfl, kind_Copy_eq, cu.1, Option.bind_some, Option.bind_some, m2, Option.bind_some, Option.bind_some]
    simp
  have j0 : roadlaw2_KindSays.j0 ps p t u = some true := by
    unfold roadlaw2_KindSays.j0
    rw [ta.1, Option.bind_some, kindOf_val hb (by omega) [t] (by simp; omega), Option.bind_some]
    have e0 : kE p ps t = firstI (kE p ps) [t] := by
      rw [firstI, firstI]
      by_cases c : kE p ps t = 0
      · rw [if_pos c, c]
      · rw [if_neg c]
    rw [if_pos e0, types_val hb (by omega) [t, u] (by simp; omega), Option.bind_some, kindOf_val hb (by omega) [t, u] (by simp; omega), Option.bind_some, if_pos rfl, j1]
  unfold roadlaw2_KindSays
  rw [e1, Option.bind_some]
  cases b1 with
  | false => rw [if_neg (by decide)]
  | true =>
    rw [if_pos rfl, program_val hb, Option.bind_some, kindsOf_val hb, Option.bind_some, data_val hb, Option.bind_some, k1, Option.bind_some]
    rw [if_pos rfl, if_pos rfl]
    cases hf : dfind p s with
    | none =>
      have hk := k2 hf
      rw [if_pos hk, if_pos (show (dres none).2 = 11 from rfl), if_pos (show (dres none).1.Name = ByteArray.mk #[] from rfl), if_neg (show ¬ (((List.length (dres none).1.Makes) : Nat) : Int) > 0 by simp [dres, zd]), if_neg (by omega), j0]
    | some d =>
      obtain ⟨d1, d2, d3⟩ := k3 d hf
      rw [if_neg (by omega), if_pos (by omega), if_pos (show (dres (some d)).2 = 0 from rfl), if_pos (show (dres (some d)).1.Name = s from d3), d2, Option.bind_some, if_pos (show (((List.length (dres (some d)).1.Makes) : Nat) : Int) = (((List.length d.Makes) : Nat) : Int) from rfl), j0]
end Go.Proofs.YtdlihfedhojdgaaDoor.Fw

end
section
namespace Go.Proofs.YtdlihfedhojdgaaDoor.kindSays
open Go Go.Hw Go.ChangeShapes Go.WideShapes Go.ChangeAt Go.RowKit Go.Proofs.YtdlihfedhojdgaaDoor.Fw
open Go.ChangeMaps (open_string shut_string)
set_option linter.unusedVariables false
theorem own : ownKnob Tryd.prog.godebug = none := by kernel_rfl
theorem laidOut : laidOutB Tryd.prog = true := by kernel_rfl
theorem bulkAll {H : Type} : ∀ l : List (DataW H), Rows.uptoBulkAll l = (l.map Rows.uptoBulk).sum
  | [] => rfl
  | d :: r => by rw [Rows.uptoBulkAll, List.map_cons, List.sum_cons, bulkAll r]
theorem measure {H : Type} : Measure (Rows.uptoBulk (H := H)) where
  pos d := by
    cases d with
    | lit l => cases l <;> simp [Rows.uptoBulk]
    | _ => simp [Rows.uptoBulk]
  str b := by simp [Rows.uptoBulk]
  slice e s := by rw [Rows.uptoBulk, bulkAll]; omega
  agg ps := by rw [Rows.uptoBulk, bulkAll]; omega
theorem gTab : Tryd.prog.globalNamed "internal/strconv.uint64pow10" = some 0 := by kernel_rfl
theorem gTabType : (Tryd.prog.globals[0]?).map (·.type) = some 135 := by kernel_rfl
theorem table {W : World} (h : laidMetH Tryd.prog Rows.kindSaysUptoRow.laid W) : Lib.TabIs Tryd.prog W "internal/strconv.uint64pow10" .u64 Lib.pow10Tab :=
  Lib.tabIs_of_head (rest := []) gTab gTabType (show Tryd.prog.underlying 135 = some (.array 20 124) by kernel_rfl) (show Tryd.prog.underlying 124 = some (.int .u64) by kernel_rfl) (by kernel_rfl) (by kernel_rfl) (laidMet.tail (laidMet.tail (show laidMet Tryd.prog Rows.kindSaysUptoRow.laid W from h)))
noncomputable def laidHeap (os : Os) : Array Obj :=
  ((((World.holding Tryd.prog os ⟨#[], #[], []⟩).heap).modify 1 (fun
      | .cells _ t frozen => .cells #[(.int .u8 0), (.int .u8 1), (.int .u8 28), (.int .u8 2), (.int .u8 29), (.int .u8 14), (.int .u8 24), (.int .u8 3), (.int .u8 30), (.int .u8 22), (.int .u8 20), (.int .u8 15), (.int .u8 25), (.int .u8 17), (.int .u8 4), (.int .u8 8), (.int .u8 31), (.int .u8 27), (.int .u8 13), (.int .u8 23), (.int .u8 21), (.int .u8 19), (.int .u8 16), (.int .u8 7), (.int .u8 26), (.int .u8 12), (.int .u8 18), (.int .u8 6), (.int .u8 11), (.int .u8 5), (.int .u8 10), (.int .u8 9)] t frozen
      | o => o)).modify 2 (fun
      | .cells _ t frozen => .cells #[(.int .u8 0), (.int .u8 1), (.int .u8 56), (.int .u8 2), (.int .u8 57), (.int .u8 49), (.int .u8 28), (.int .u8 3), (.int .u8 61), (.int .u8 58), (.int .u8 42), (.int .u8 50), (.int .u8 38), (.int .u8 29), (.int .u8 17), (.int .u8 4), (.int .u8 62), (.int .u8 47), (.int .u8 59), (.int .u8 36), (.int .u8 45), (.int .u8 43), (.int .u8 51), (.int .u8 22), (.int .u8 53), (.int .u8 39), (.int .u8 33), (.int .u8 30), (.int .u8 24), (.int .u8 18), (.int .u8 12), (.int .u8 5), (.int .u8 63), (.int .u8 55), (.int .u8 48), (.int .u8 27), (.int .u8 60), (.int .u8 41), (.int .u8 37), (.int .u8 16), (.int .u8 46), (.int .u8 35), (.int .u8 44), (.int .u8 21), (.int .u8 52), (.int .u8 32), (.int .u8 23), (.int .u8 11), (.int .u8 54), (.int .u8 26), (.int .u8 40), (.int .u8 15), (.int .u8 34), (.int .u8 20), (.int .u8 31), (.int .u8 10), (.int .u8 25), (.int .u8 14), (.int .u8 19), (.int .u8 9), (.int .u8 13), (.int .u8 8), (.int .u8 7), (.int .u8 6)] t frozen
      | o => o)).modify 0 (fun
      | .cells _ t frozen => .cells #[(.int .u64 1), (.int .u64 10), (.int .u64 100), (.int .u64 1000), (.int .u64 10000), (.int .u64 100000), (.int .u64 1000000), (.int .u64 10000000), (.int .u64 100000000), (.int .u64 1000000000), (.int .u64 10000000000), (.int .u64 100000000000), (.int .u64 1000000000000), (.int .u64 10000000000000), (.int .u64 100000000000000), (.int .u64 1000000000000000), (.int .u64 10000000000000000), (.int .u64 100000000000000000), (.int .u64 1000000000000000000), (.int .u64 10000000000000000000)] t frozen
      | o => o)
noncomputable def laidWorld (os : Os) : World :=
  { World.holding Tryd.prog os ⟨#[], #[], []⟩ with heap := laidHeap os }
theorem laid_met (os : Os) : laidMet Tryd.prog Rows.kindSaysUptoRow.laid ((laidWorld os).forCall (fun _ _ => 0) ⟨#[], #[(.agg #[(.string (ByteArray.mk #[])), (.int .i64 (0 : Int)), (.slice none 0 0), (.slice none 0 0), (.slice none 0 0), (.slice none 0 0), (.slice none 0 0), (.slice none 0 0)]), (.slice none 0 0), (.agg #[(.int .i64 (0 : Int)), (.string (ByteArray.mk #[])), (.slice none 0 0)]), (.agg #[(.int .i64 (0 : Int)), (.string (ByteArray.mk #[])), (.slice none 0 0)]), (.string (ByteArray.mk #[]))], []⟩).memory :=
  laidMet_of_run' 8 (by kernel_rfl) (by kernel_rfl)
theorem reads (os : Os) {H : Type} (enc : TypeId × Value → H) : ∃ places, DataW.whole enc Tryd.prog ((laidWorld os).forCall (fun _ _ => 0) ⟨#[], #[(.agg #[(.string (ByteArray.mk #[])), (.int .i64 (0 : Int)), (.slice none 0 0), (.slice none 0 0), (.slice none 0 0), (.slice none 0 0), (.slice none 0 0), (.slice none 0 0)]), (.slice none 0 0), (.agg #[(.int .i64 (0 : Int)), (.string (ByteArray.mk #[])), (.slice none 0 0)]), (.agg #[(.int .i64 (0 : Int)), (.string (ByteArray.mk #[])), (.slice none 0 0)]), (.string (ByteArray.mk #[]))], []⟩).memory Tryd.f4.params.toList Rows.kindSaysSpec.vars false (#[(.agg #[(.string (ByteArray.mk #[])), (.int .i64 (0 : Int)), (.slice none 0 0), (.slice none 0 0), (.slice none 0 0), (.slice none 0 0), (.slice none 0 0), (.slice none 0 0)]), (.slice none 0 0), (.agg #[(.int .i64 (0 : Int)), (.string (ByteArray.mk #[])), (.slice none 0 0)]), (.agg #[(.int .i64 (0 : Int)), (.string (ByteArray.mk #[])), (.slice none 0 0)]), (.string (ByteArray.mk #[]))] : Array Value).toList 8 = some ([DataW.agg [DataW.lit (.string []), DataW.lit (.int .i64 0), DataW.nil, DataW.nil, DataW.nil, DataW.nil, DataW.nil, DataW.nil], DataW.nil, DataW.agg [DataW.lit (.int .i64 0), DataW.lit (.string []), DataW.nil], DataW.agg [DataW.lit (.int .i64 0), DataW.lit (.string []), DataW.nil], DataW.lit (.string [])], [], places) :=
  ⟨[], by kernel_rfl⟩
set_option maxRecDepth 100000 in
theorem lifted (os : Os) (started : os.Started) (H : Type) (enc : TypeId × Value → H) (F : Stop.Interp) :
    ReturnsInHanded {} Tryd.checked os 4 .any ((Rows.OpenSpec.upto Rows.kindSaysSpec).preRow enc Tryd.prog Tryd.f4 Rows.kindSaysUptoRow.domain false Rows.kindSaysUptoRow.laid) (((Rows.OpenSpec.upto Rows.kindSaysSpec).at F).post enc Tryd.prog Tryd.f4 false true false false) := by
  obtain ⟨places, hx⟩ := reads os enc
  refine returnsInHanded_of_row (C := Tryd.checked) (s := (Rows.OpenSpec.upto Rows.kindSaysSpec)) own started (by kernel_rfl) Tryd.func4
    (witness_row_at (enc := enc) (C := Tryd.checked) false (laidWorld os) #[(.agg #[(.string (ByteArray.mk #[])), (.int .i64 (0 : Int)), (.slice none 0 0), (.slice none 0 0), (.slice none 0 0), (.slice none 0 0), (.slice none 0 0), (.slice none 0 0)]), (.slice none 0 0), (.agg #[(.int .i64 (0 : Int)), (.string (ByteArray.mk #[])), (.slice none 0 0)]), (.agg #[(.int .i64 (0 : Int)), (.string (ByteArray.mk #[])), (.slice none 0 0)]), (.string (ByteArray.mk #[]))] rfl (by kernel_rfl) (by kernel_rfl) (by kernel_rfl)
      (OpenSpec.preRow_of_cond 8 hx (by kernel_rfl) (fun k hk => by cases hk; kernel_rfl) (by kernel_rfl) (laid_met os))) ?_
  intro W base args ds gs before hval0 hW hcnd hkk0 hsz0 hL _ _
  have hkk : Rows.uptoSmall H (ds ++ gs) = true := hkk0 _ rfl
  have hsz : (DataW.weightsEach Tryd.prog (Tryd.f4.params.toList ++ (Rows.OpenSpec.upto Rows.kindSaysSpec).bare.plain.varTypes Tryd.prog) (ds ++ gs)).all (· ≤ reachBytes) = true := hsz0
  have hval : ∀ (j : Nat) t v, Tryd.f4.params[j]? = some t → args[j]? = some v → Value.okWide Tryd.prog W .any base t v := hval0
  have hW' := hW
  obtain ⟨p, q, hA0, hV, rfl, hfz, hnd⟩ := hW
  have hA : DataW.TrodAll enc Tryd.prog W 0 (fun _ => true) true Tryd.f4.params.toList args.toList ds p := hA0
  rw [Tryd.params4] at hA hval hsz
  obtain ⟨v0, vs0, d0, ds0, p0, q0_, hargs, rfl, rfl, h0, r0_⟩ := trodAll_cons hA
  obtain ⟨v1, vs1, d1, ds1, p1, q1_, rfl, rfl, rfl, h1, r1_⟩ := trodAll_cons r0_
  obtain ⟨v2, vs2, d2, ds2, p2, q2_, rfl, rfl, rfl, h2, r2_⟩ := trodAll_cons r1_
  obtain ⟨v3, vs3, d3, ds3, p3, q3_, rfl, rfl, rfl, h3, r3_⟩ := trodAll_cons r2_
  obtain ⟨v4, vs4, d4, ds4, p4, q4_, rfl, rfl, rfl, h4, r4_⟩ := trodAll_cons r3_
  obtain ⟨rfl, rfl, rfl⟩ := trodAll_nil r4_
  obtain rfl : args = #[v0, v1, v2, v3, v4] := by cases args; simp_all
  obtain ⟨rfl, rfl⟩ := trodVars_none hV
  have hs : (DataW.weightsEach Tryd.prog [54, 22, 25, 25, 9] [d0, d1, d2, d3, d4]).all (· ≤ reachBytes) = true := hsz
  simp only [DataW.weightsEach, List.append_nil, List.all_append, Bool.and_eq_true] at hs
  obtain ⟨hw0, hw1, hw2, hw3, hw4⟩ := hs
  have k0 := h0
  have lt0 : ∀ x ∈ p0, x.block < W.heap.size := by obtain ⟨m, hm⟩ := k0; exact DataW.trod_lt m _ _ _ hm
  obtain ⟨cs0, rfl⟩ : ∃ cs : List Value, v0 = .agg cs.toArray := okWide_agg_of (show shapeOf Tryd.prog 54 = some [(9, 0), (3, 1), (47, 2), (48, 3), (49, 4), (50, 5), (51, 6), (52, 7)] by kernel_rfl) (hval 0 54 v0 rfl rfl)
  obtain ⟨fuel0, hf0⟩ := h0
  obtain ⟨x0, e0, q0⟩ := T_api_Program.tells fuel0 _ _ hf0 hw0
  have b0 := (T_api_Program.kt (N := fuel0 + 1) (enc := enc) (W := W) measure) fuel0 (Nat.lt_succ_self _) _ _ hf0 _ e0
  have e0 : T_api_Program.E W.heap x0 cs0 := by simpa [Value.cells] using e0
  have k1 := h1
  have lt1 : ∀ x ∈ p1, x.block < W.heap.size := by obtain ⟨m, hm⟩ := k1; exact DataW.trod_lt m _ _ _ hm
  obtain ⟨A1, n1, c1, rfl⟩ := okWide_slice (show Tryd.prog.underlying 22 = some (.slice 9) by kernel_rfl) (hval 1 22 v1 rfl rfl)
  obtain ⟨fuel1, hf1⟩ := h1
  obtain ⟨l1, E1, q1⟩ := (tells_sliceL (t := 22) (e := 9) (sz := 1) (B := 16) (by kernel_rfl) (by kernel_rfl) (by kernel_rfl) (tells_strL (t := 9) (by kernel_rfl))) fuel1 _ _ hf1 hw1
  have b1 := (let M := measure (H := H); (kt_slice M (t := 22) (e := 9) (sz := 1) (by kernel_rfl) (by kernel_rfl) (kt_str (t := 9) M (by kernel_rfl))) : KT (fuel1 + 1) Rows.uptoBulk enc Tryd.prog W 22 (eRow 1 eStr) (fun l : (List ByteArray) => (List.map (fun s : ByteArray => s.size + 1) l).sum + 1)) fuel1 (Nat.lt_succ_self _) _ _ hf1 _ E1
  obtain ⟨A1', c1', hcs1, hle1, r1⟩ := E1
  simp only [Value.cells, List.cons.injEq, Value.slice.injEq, and_true] at hcs1
  obtain ⟨rfl, rfl, rfl⟩ := hcs1
  have k2 := h2
  have lt2 : ∀ x ∈ p2, x.block < W.heap.size := by obtain ⟨m, hm⟩ := k2; exact DataW.trod_lt m _ _ _ hm
  obtain ⟨cs2, rfl⟩ : ∃ cs : List Value, v2 = .agg cs.toArray := okWide_agg_of (show shapeOf Tryd.prog 25 = some [(3, 0), (9, 1), (23, 2)] by kernel_rfl) (hval 2 25 v2 rfl rfl)
  obtain ⟨fuel2, hf2⟩ := h2
  obtain ⟨x2, e2, q2⟩ := T_api_Type.tells fuel2 _ _ hf2 hw2
  have b2 := (T_api_Type.kt (N := fuel2 + 1) (enc := enc) (W := W) measure) fuel2 (Nat.lt_succ_self _) _ _ hf2 _ e2
  have e2 : T_api_Type.E W.heap x2 cs2 := by simpa [Value.cells] using e2
  have k3 := h3
  have lt3 : ∀ x ∈ p3, x.block < W.heap.size := by obtain ⟨m, hm⟩ := k3; exact DataW.trod_lt m _ _ _ hm
  obtain ⟨cs3, rfl⟩ : ∃ cs : List Value, v3 = .agg cs.toArray := okWide_agg_of (show shapeOf Tryd.prog 25 = some [(3, 0), (9, 1), (23, 2)] by kernel_rfl) (hval 3 25 v3 rfl rfl)
  obtain ⟨fuel3, hf3⟩ := h3
  obtain ⟨x3, e3, q3⟩ := T_api_Type.tells fuel3 _ _ hf3 hw3
  have b3 := (T_api_Type.kt (N := fuel3 + 1) (enc := enc) (W := W) measure) fuel3 (Nat.lt_succ_self _) _ _ hf3 _ e3
  have e3 : T_api_Type.E W.heap x3 cs3 := by simpa [Value.cells] using e3
  have k4 := h4
  have lt4 : ∀ x ∈ p4, x.block < W.heap.size := by obtain ⟨m, hm⟩ := k4; exact DataW.trod_lt m _ _ _ hm
  obtain ⟨s4, rfl⟩ : ∃ s, v4 = .string s := by obtain ⟨s, rfl, _⟩ := open_string (show Tryd.prog.underlying 9 = some .string by kernel_rfl) (hval 4 9 v4 rfl rfl) h4; exact ⟨s, rfl⟩
  have w4 : s4.size ≤ reachBytes := by
    obtain ⟨fuel, hf⟩ := h4
    obtain ⟨s, hs, hq⟩ := tells_str (W := W) (show Tryd.prog.underlying 9 = some .string by kernel_rfl) fuel _ _ hf hw4
    simp [eStr, Value.cells] at hs
    rw [hs]; exact hq
  have b4 : s4.size + 1 ≤ Rows.uptoBulk d4 := by
    obtain ⟨fuel, hf⟩ := h4
    exact (kt_str (N := fuel + 1) (W := W) (enc := enc) (measure (H := H)) (show Tryd.prog.underlying 9 = some .string by kernel_rfl)) fuel (Nat.lt_succ_self _) _ _ hf s4 rfl
  have hb : (T_api_Program.bulk x0) + ((fun l => (List.map (fun s : ByteArray => s.size + 1) l).sum + 1) l1) + (T_api_Type.bulk x2) + (T_api_Type.bulk x3) + (s4.size + 1) ≤ 1048576 := by
    have hk : Rows.uptoBulkAll ([d0, d1, d2, d3, d4] ++ []) ≤ 1048576 := of_decide_eq_true hkk
    have := b0
    have := b1
    have := b2
    have := b3
    have := b4
    simp only [List.append_nil, Rows.uptoBulkAll] at hk
    simp only at *
    omega
  refine ((Run.mono (R' := fun v h' => v = Value.bool true ∧ Ext W.heap h') (Fw.roadlaw2_KindSays.walk (W := No) (Hold.start (Sub.refl _)) e0 rfl hle1 r1 e2 e3 (TBg.of gTab (table hL)) (Fw.KindSays x0 l1 x2 x3 s4 q0 q1 q2 q3 w4 hb)) (fun v h' hp => by obtain ⟨m', st, hv⟩ := hp; exact ⟨hv, st.S.ext⟩)) W rfl).mono fun e W' he => ?_
  obtain ⟨v, rfl, ⟨rfl, ext⟩, same⟩ := he
  have bel := below_of ext same
  exact ⟨_, rfl, _, _, _, [], _, [], hW', trodAll_mk1 (shut_bool (show Tryd.prog.underlying 4 = some .bool by kernel_rfl) _), (trodAll_cons_mk (Below.trod laidOut (by kernel_rfl) (of_decide_eq_true (by kernel_rfl)) k0 bel lt0) (trodAll_cons_mk (Below.trod laidOut (by kernel_rfl) (of_decide_eq_true (by kernel_rfl)) k1 bel lt1) (trodAll_cons_mk (Below.trod laidOut (by kernel_rfl) (of_decide_eq_true (by kernel_rfl)) k2 bel lt2) (trodAll_cons_mk (Below.trod laidOut (by kernel_rfl) (of_decide_eq_true (by kernel_rfl)) k3 bel lt3) (trodAll_cons_mk (Below.trod laidOut (by kernel_rfl) (of_decide_eq_true (by kernel_rfl)) k4 bel lt4) trodAll_mk0))))), rfl, bel.frame _, fun h => by cases h⟩
theorem over : Rows.kindSaysUptoRow.holds Tryd.pinned (Rows.OpenSpec.upto Rows.kindSaysSpec) :=
  OpenClaim.holds_of_cond 4 Tryd.f4 rfl rfl rfl rfl rfl rfl rfl ⟨rfl, rfl, rfl, rfl, rfl⟩ rfl rfl rfl rfl rfl (by kernel_rfl) Tryd.func4 (by kernel_rfl)
    (of_decide_eq_true (by kernel_rfl)) (by unfold Func.isWrapper; first | (rw [if_pos (by decide +kernel)]; kernel_rfl) | (rw [if_neg (by decide +kernel)]; exact ⟨rfl, rfl⟩))
    (fun os started H enc _ F => by rw [OpenClaim.pre_eq_preRow]; exact lifted os started H enc F)
theorem plain (f : FuncId) (fn : Func) (hf : Tryd.pinned.checked.prog.funcNamed "roadstead/roadlaw2.KindSays" = some f) (hfn : Tryd.pinned.checked.prog.funcs[f]? = some fn) :
    false = Tryd.pinned.checked.prog.looks [] ∧ ∀ (j : Nat) t, fn.params[j]? = some t → Tryd.pinned.checked.prog.wantsStandIn t = false := by
  obtain rfl : f = 4 := Option.some.inj ((show Tryd.prog.funcNamed "roadstead/roadlaw2.KindSays" = some 4 by kernel_rfl).symm.trans hf) |>.symm
  obtain rfl : fn = Tryd.f4 := (Option.some.inj (Tryd.func4.symm.trans hfn)).symm
  refine ⟨by kernel_rfl, fun j t ht => ?_⟩
  rw [Tryd.params4] at ht
  have hm : t ∈ [54, 22, 25, 25, 9] := by simpa using Array.mem_of_getElem? ht
  have hall : ([54, 22, 25, 25, 9].all fun u => !Tryd.prog.wantsStandIn u) = true := by kernel_rfl
  exact (show Tryd.prog.wantsStandIn t = false by simpa using List.all_eq_true.1 hall t hm)
end Go.Proofs.YtdlihfedhojdgaaDoor.kindSays
namespace Go.Proofs.YtdlihfedhojdgaaDoor
theorem kindSays_holds : Rows.KindSaysUptoCardSaid :=
  Claim7.holds_tied_plain_at .later [] _ _ _ _ kindSays.over (fun _ h => by cases h) (by kernel_rfl) (fun _ h => by cases h) kindSaysUpto_row_tie rfl ⟨rfl, rfl⟩ (by kernel_rfl) rfl kindSays.plain (by kernel_rfl)
end Go.Proofs.YtdlihfedhojdgaaDoor

end
