/- What clock.Less, clock.Join and the library's searches do, and that the law ClockJoins holds, over heaps. -/
import Derived.Test.YtbpfmlgnlcfbcaaFwAll0
import Derived.Test.YtbpfmlgnlcfbcaaFwAll1
import Derived.Test.YtbpfmlgnlcfbcaaFwAll2
import Derived.Test.YtbpfmlgnlcfbcaaHwN
namespace Go.Proofs.Ytbpfmlgnlcfbcaa.Fw
open Go Go.Hw Go.Proofs
set_option linter.unusedVariables false

theorem cat_spec {h : Heap} {A : Option Addr} {c : Nat} {l : List Int} {i : Nat} {x : Int} (hr : Rd 1 (eInt .i64) h A l) (hx : x = i) :
    Run Try.prog 108 #[.slice A l.length c, .int .i64 x] h fun u h' => u = .int .i64 (l.getD i 0) ∧ h' = h := by
  refine f108.run ?_
  unfold f108.runT
  refine split_dec (fun c => ?_) (fun c => ?_)
  · refine hr.int hx rfl (by omega) ⟨?_, rfl⟩
    rw [List.getD_eq_getElem?_getD, List.getElem?_eq_getElem (by omega)]; rfl
  · refine ⟨?_, rfl⟩
    rw [List.getD_eq_getElem?_getD, List.getElem?_eq_none (by omega)]; rfl
theorem lat_spec {h : Heap} {A : Option Addr} {c : Nat} {l : List Int} {i : Nat} {x : Int} (hr : Rd 1 (eInt .i64) h A l) (hx : x = i) :
    Run Try.prog 17 #[.slice A l.length c, .int .i64 x] h fun u h' => u = .int .i64 (l.getD i 0) ∧ h' = h := by
  refine f17.run ?_
  unfold f17.runT
  refine split_dec (fun c => ?_) (fun c => ?_)
  · refine hr.int hx rfl (by omega) ⟨?_, rfl⟩
    rw [List.getD_eq_getElem?_getD, List.getElem?_eq_getElem (by omega)]; rfl
  · refine ⟨?_, rfl⟩
    rw [List.getD_eq_getElem?_getD, List.getElem?_eq_none (by omega)]; rfl

def lessL (a b : List Int) : Nat → Nat → Bool → Bool
  | 0, _, s => s
  | d + 1, k, s => if a.getD k 0 > b.getD k 0 then false else lessL a b d (k + 1) (s || decide (a.getD k 0 < b.getD k 0))
def big (a b : List Int) : Nat := max a.length b.length

theorem big_ite (a b : List Int) : (if (b.length : Int) > a.length then (b.length : Int) else a.length) = (big a b : Int) := by unfold big; split <;> omega

theorem less_loop {h : Heap} {A B : Option Addr} {c c' : Nat} {a b : List Int} (ha : Rd 1 (eInt .i64) h A a) (hb : Rd 1 (eInt .i64) h B b) (hm : (big a b : Int) ≤ 9223372036854775806) :
    ∀ (d k : Nat) (s : Bool), k + d = big a b → f22.l0 (fun u h' => u = .bool (lessL a b d k s) ∧ h' = h) A a.length c B b.length c' s (big a b : Int) (k : Int) h := by
  intro d
  induction d with
  | zero =>
    intro k s hk
    refine f22.l0_in ?_
    unfold f22.l0T
    exact split_dec (fun c => by omega) fun _ => ⟨rfl, rfl⟩
  | succ d ih =>
    intro k s hk
    refine f22.l0_in ?_
    unfold f22.l0T
    refine split_dec (fun _ => ?_) (fun c => by omega)
    refine (cat_spec ha rfl).ret ⟨_, rfl, ?_⟩
    refine (cat_spec hb rfl).ret ⟨_, rfl, ?_⟩
    refine split_dec (fun c => ?_) (fun c => ?_)
    · simp only [lessL, if_pos c]; exact ⟨trivial, trivial⟩
    · have e : lessL a b (d + 1) k s = lessL a b d (k + 1) (s || decide (a.getD k 0 < b.getD k 0)) := by simp only [lessL, if_neg c]
      rw [wrap_in (by omega) (by omega)]
      refine split_any (fun hs => ?_) (fun hs => ?_)
      · subst hs
        rw [e, Bool.true_or]
        exact ih (k + 1) true (by omega)
      · subst hs
        refine (cat_spec ha rfl).ret ⟨_, rfl, ?_⟩
        refine (cat_spec hb rfl).ret ⟨_, rfl, ?_⟩
        rw [e, Bool.false_or]
        exact ih (k + 1) _ (by omega)

theorem less_spec {h : Heap} {A B : Option Addr} {c c' : Nat} {a b : List Int} (ha : Rd 1 (eInt .i64) h A a) (hb : Rd 1 (eInt .i64) h B b) (hm : (big a b : Int) ≤ 9223372036854775806) :
    Run Try.prog 22 #[.slice A a.length c, .slice B b.length c'] h fun u h' => u = .bool (lessL a b (big a b) 0 false) ∧ h' = h := by
  refine f22.run ?_
  unfold f22.runT
  rw [big_ite]
  exact less_loop ha hb hm (big a b) 0 false (by omega)

def mx (a b : List Int) (i : Nat) : Int := if b.getD i 0 > a.getD i 0 then b.getD i 0 else a.getD i 0

theorem join_loop {R : Value → Heap → Prop} {h0 : Heap} {A B : Option Addr} {c c' z : Nat} {a b : List Int} (ha : Rd 1 (eInt .i64) h0 A a) (hb : Rd 1 (eInt .i64) h0 B b) (hm : (big a b : Int) ≤ 9223372036854775806) (hz : h0.size ≤ z)
    (hR : ∀ h, Ext h0 h → Blk h z (((List.range (big a b)).map (mx a b)).map (Value.int .i64)) 3 → R (.slice (some ⟨z, 0, none⟩) (big a b) (big a b)) h) :
    ∀ (d k : Nat) (h : Heap), k + d = big a b → Ext h0 h → Blk h z (((List.range k).map (mx a b)).map (Value.int .i64) ++ List.replicate d (.int .i64 0)) 3 →
      f23.l0 R A a.length c B b.length c' (some ⟨z, 0, none⟩) (big a b) (big a b) (big a b : Int) (k : Int) h := by
  intro d
  induction d with
  | zero =>
    intro k h hk e hb1
    refine f23.l0_in ?_
    unfold f23.l0T
    refine split_dec (fun c => by omega) fun _ => hR h e ?_
    have : k = big a b := by omega
    subst this
    simpa using hb1
  | succ d ih =>
    intro k h hk e hb1
    refine f23.l0_in ?_
    unfold f23.l0T
    refine split_dec (fun _ => ?_) (fun c => by omega)
    refine (cat_spec (ha.ext (mono_int _) e) rfl).ret ⟨_, rfl, ?_⟩
    refine (cat_spec (hb.ext (mono_int _) e) rfl).ret ⟨_, rfl, ?_⟩
    refine ⟨by omega, by omega, ?_⟩
    have hoff : ((⟨z, 0, none⟩ : Addr).add (Int.toNat (k : Int) * 1)).off = k := by rw [add_off]; simp
    obtain ⟨h1, s1, b1, o1⟩ := hb1.st (a := (⟨z, 0, none⟩ : Addr).add (Int.toNat (k : Int) * 1)) (v := .int .i64 (mx a b k)) (add_block _ _) (add_spot _ rfl) (by rw [hoff]; simp) trivial
    refine ⟨h1, s1, ?_⟩
    rw [wrap_in (by omega) (by omega)]
    refine ih (k + 1) h1 (by omega) (e.only o1 hz) ?_
    rw [hoff] at b1
    have : (List.map (Value.int .i64) (List.map (mx a b) (List.range k)) ++ List.replicate (d + 1) (Value.int .i64 0)).set k (.int .i64 (mx a b k)) =
        List.map (Value.int .i64) (List.map (mx a b) (List.range (k + 1))) ++ List.replicate d (Value.int .i64 0) := by
      rw [List.set_append_right _ _ (by simp), List.range_succ]
      simp [List.replicate_succ]
    rwa [this] at b1

theorem join_spec {R : Value → Heap → Prop} {h : Heap} {A B : Option Addr} {c c' : Nat} {a b : List Int} (ha : Rd 1 (eInt .i64) h A a) (hb : Rd 1 (eInt .i64) h B b) (hm : big a b * 8 ≤ 140737488351232)
    (hR : ∀ z h', Ext h h' → Blk h' z (((List.range (big a b)).map (mx a b)).map (Value.int .i64)) 3 → R (.slice (some ⟨z, 0, none⟩) (big a b) (big a b)) h') :
    Run Try.prog 23 #[.slice A a.length c, .slice B b.length c'] h R := by
  refine f23.run ?_
  unfold f23.runT
  rw [big_ite]
  refine ⟨by omega, by omega, by omega, by omega, newH_in fun h1 b1 e1 _ => ?_⟩
  rw [Int.toNat_natCast] at *
  rw [mkCells_one] at b1
  exact join_loop ha hb (by omega) (Nat.le_refl _) (fun h' e b => hR _ h' e b) (big a b) 0 h1 (by omega) e1 (by simpa using b1)

theorem indexFunc_loop {h : Heap} {A : Option Addr} {c : Nat} {l : List Int} {v : Value} {p : Int → Bool} (hr : Rd 1 (eInt .i64) h A l) (hl : (l.length : Int) ≤ 9223372036854775806)
    (hf : ∀ x ∈ l, CallF Try.prog v [.int .i64 x] h fun u h' => u = .bool (p x) ∧ h' = h) :
    ∀ (d k : Nat), k + d = l.length → (∀ x ∈ l.take k, p x = false) → f109.l0 (fun u h' => u = .int .i64 (idxOf p l) ∧ h' = h) A l.length c v (l.length : Int) (k : Int) h := by
  intro d
  induction d with
  | zero =>
    intro k hk hn
    refine f109.l0_in ?_
    unfold f109.l0T
    refine split_dec (fun c => by omega) fun _ => ⟨?_, rfl⟩
    have : l.findIdx? p = none := by
      rw [List.findIdx?_eq_none_iff]
      rw [List.take_of_length_le (by omega)] at hn
      exact hn
    simp [idxOf, this]
  | succ d ih =>
    intro k hk hn
    refine f109.l0_in ?_
    unfold f109.l0T
    refine split_dec (fun _ => ?_) (fun c => by omega)
    refine hr.int rfl rfl (by omega) ?_
    refine (hf _ (List.getElem_mem _)).mono ?_
    rintro _ h1 ⟨rfl, rfl⟩
    refine ⟨_, rfl, split_any (fun hp => ⟨?_, rfl⟩) (fun hp => ?_)⟩
    · have : l.findIdx? p = some k := by
        rw [List.findIdx?_eq_some_iff_getElem]
        refine ⟨by omega, hp, fun j hj => ?_⟩
        have := hn l[j] (by rw [List.mem_take_iff_getElem]; exact ⟨j, by omega, rfl⟩)
        simp [this]
      simp [idxOf, this]
    · rw [wrap_in (by omega) (by omega)]
      refine ih (k + 1) (by omega) fun x hx => ?_
      rw [List.take_succ_eq_append_getElem (by omega)] at hx
      rcases List.mem_append.1 hx with hx | hx
      · exact hn x hx
      · simp at hx; subst hx; exact hp

theorem indexFunc_spec {h : Heap} {A : Option Addr} {c : Nat} {l : List Int} {v : Value} {p : Int → Bool} (hr : Rd 1 (eInt .i64) h A l) (hl : (l.length : Int) ≤ 9223372036854775806)
    (hf : ∀ x ∈ l, CallF Try.prog v [.int .i64 x] h fun u h' => u = .bool (p x) ∧ h' = h) : Run Try.prog 109 #[.slice A l.length c, v] h fun u h' => u = .int .i64 (idxOf p l) ∧ h' = h := by
  refine f109.run ?_
  unfold f109.runT
  exact indexFunc_loop hr hl hf l.length 0 (by omega) (fun x hx => by simp at hx)

theorem containsFunc_spec {h : Heap} {A : Option Addr} {c : Nat} {l : List Int} {v : Value} {p : Int → Bool} (hr : Rd 1 (eInt .i64) h A l) (hl : (l.length : Int) ≤ 9223372036854775806)
    (hf : ∀ x ∈ l, CallF Try.prog v [.int .i64 x] h fun u h' => u = .bool (p x) ∧ h' = h) : Run Try.prog 24 #[.slice A l.length c, v] h fun u h' => u = .bool (l.any p) ∧ h' = h := by
  refine f24.run ?_
  unfold f24.runT
  refine (indexFunc_spec hr hl hf).ret ⟨_, rfl, ?_, rfl⟩
  rw [idxOf_ge]

def lawL (a b : List Int) : Nat → Nat → Bool → Bool → Bool
  | 0, _, w, s => w && s
  | d + 1, k, w, s => lawL a b d (k + 1) (w && decide (a.getD k 0 ≤ b.getD k 0)) (s || decide (a.getD k 0 < b.getD k 0))
theorem lawL_false (a b : List Int) : ∀ d k s, lawL a b d k false s = false := by
  intro d
  induction d with
  | zero => intro k s; rfl
  | succ d ih => intro k s; simp only [lawL, Bool.false_and]; exact ih _ _
theorem lawL_eq (a b : List Int) : ∀ d k w s, lawL a b d k w s = (w && lessL a b d k s) := by
  intro d
  induction d with
  | zero => intro k w s; rfl
  | succ d ih =>
    intro k w s
    simp only [lawL, lessL]
    by_cases c : a.getD k 0 > b.getD k 0
    · rw [if_pos c, decide_eq_false (p := a.getD k 0 ≤ b.getD k 0) (by omega), Bool.and_false, lawL_false]
    · rw [if_neg c, decide_eq_true (p := a.getD k 0 ≤ b.getD k 0) (by omega), Bool.and_true, ih]

theorem joins_loop {R : Value → Heap → Prop} {h : Heap} {A B : Option Addr} {c c' z : Nat} {a b : List Int} (ha : Rd 1 (eInt .i64) h A a) (hb : Rd 1 (eInt .i64) h B b) (hm : big a b * 8 ≤ 140737488351232)
    (hj : Rd 1 (eInt .i64) h (some ⟨z, 0, none⟩) ((List.range (big a b)).map (mx a b))) (hR : R (.bool true) h) :
    ∀ (d k : Nat) (w s : Bool), k + d = big a b → lawL a b d k w s = lessL a b (big a b) 0 false → f5.l0 R A a.length c B b.length c' (some ⟨z, 0, none⟩) (big a b) (big a b) w s (big a b : Int) (k : Int) h := by
  have hjl : big a b = ((List.range (big a b)).map (mx a b)).length := by simp
  intro d
  induction d with
  | zero =>
    intro k w s hk hw
    refine f5.l0_in ?_
    unfold f5.l0T
    refine split_dec (fun c => by omega) fun _ => ?_
    refine (less_spec ha hb (by omega)).ret ⟨_, rfl, ?_⟩
    rw [big_ite]
    have fin : ∀ K : Prop, R (.bool true) h → Run Try.prog 24 #[.slice (sliceA (some ⟨z, 0, none⟩) (Int.toNat (if (big a b : Int) < (big a b : Int) then (big a b : Int) else (big a b : Int))) (big a b) 1) (Int.toNat (big a b : Int) - Int.toNat (if (big a b : Int) < (big a b : Int) then (big a b : Int) else (big a b : Int))) (big a b - Int.toNat (if (big a b : Int) < (big a b : Int) then (big a b : Int) else (big a b : Int))), .func (.func 25) #[] #[]] h fun v h' => ∃ b, v = .bool b ∧ R (.bool (!b)) h' := by
      intro _ hR
      have e : (if (big a b : Int) < (big a b : Int) then (big a b : Int) else (big a b : Int)) = (big a b : Int) := by split <;> rfl
      rw [e, Int.toNat_natCast, Nat.sub_self]
      exact (containsFunc_spec (l := []) (p := fun _ => false) Rd.nil (by simp) (fun x hx => by cases hx)).ret ⟨_, rfl, hR⟩
    have eb : (if (big a b : Int) < (big a b : Int) then (big a b : Int) else (big a b : Int)) = (big a b : Int) := by split <;> rfl
    simp only [lawL] at hw
    refine split_any (fun h1 => ?_) (fun h1 => ?_)
    · subst h1
      rw [← hw, Bool.true_and]
      rw [show (s == s) = true by cases s <;> rfl]
      exact split_t ⟨by rw [eb]; omega, by rw [eb]; omega, by omega, fin True hR⟩
    · subst h1
      rw [← hw, Bool.false_and]
      exact split_t ⟨by rw [eb]; omega, by rw [eb]; omega, by omega, fin True hR⟩
  | succ d ih =>
    intro k w s hk hw
    refine f5.l0_in ?_
    unfold f5.l0T
    refine split_dec (fun _ => ?_) (fun c => by omega)
    refine (lat_spec ha rfl).ret ⟨_, rfl, ?_⟩
    refine (lat_spec hb rfl).ret ⟨_, rfl, ?_⟩
    have h3 := lat_spec (c := big a b) hj (x := (k : Int)) (i := k) rfl
    rw [← hjl] at h3
    refine h3.ret ⟨_, rfl, ?_⟩
    have hk2 : ((List.range (big a b)).map (mx a b)).getD k 0 = mx a b k := by
      rw [List.getD_eq_getElem?_getD, List.getElem?_map, List.getElem?_range (by omega)]; rfl
    rw [hk2]
    refine split_ne (fun c => absurd rfl c) fun _ => ?_
    simp only [lawL] at hw
    have nxt : ∀ w', w' = (w && decide (a.getD k 0 ≤ b.getD k 0)) → f5.j1 R A a.length c B b.length c' (some ⟨z, 0, none⟩) (big a b) (big a b) w' s (a.getD k 0) (b.getD k 0) (big a b : Int) (k : Int) h := by
      intro w' hw'
      refine f5.j1_in ?_
      unfold f5.j1T
      rw [wrap_in (by omega) (by omega)]
      refine split_any (fun hs => ?_) (fun hs => ?_)
      · subst hs; exact ih (k + 1) _ _ (by omega) (by rw [hw', ← hw, Bool.true_or])
      · subst hs; exact ih (k + 1) _ _ (by omega) (by rw [hw', ← hw, Bool.false_or])
    refine split_any (fun h1 => nxt _ (by rw [h1, Bool.true_and])) (fun h1 => nxt _ (by rw [h1, Bool.false_and]))

theorem ClockJoins_run {h : Heap} {A B : Option Addr} {c c' : Nat} {a b : List Int} (ha : Rd 1 (eInt .i64) h A a) (hb : Rd 1 (eInt .i64) h B b) (hla : a.length * 8 ≤ 140737488351232) (hlb : b.length * 8 ≤ 140737488351232) :
    Run Try.prog 5 #[.slice A a.length c, .slice B b.length c'] h fun v h' => v = .bool true ∧ Ext h h' := by
  have hm : big a b * 8 ≤ 140737488351232 := by unfold big; omega
  refine f5.run ?_
  unfold f5.runT
  refine newH_in fun h1 b1 e1 _ => ?_
  refine (less_spec (a := []) (b := [0, 1]) Rd.nil (Blk.ints' (l := [0, 1]) b1) (by simp [big])).ret ⟨_, rfl, ?_⟩
  refine split_f ?_
  refine newH_in fun h2 b2 e2 _ => newH_in fun h3 b3 e3 _ => ?_
  refine (less_spec (a := [1]) (b := [0, 5]) (Blk.ints' (l := [1]) (b2.ext e3)) (Blk.ints' (l := [0, 5]) b3) (by simp [big])).ret ⟨_, rfl, ?_⟩
  refine split_f ?_
  have e := e1.trans (e2.trans e3)
  refine f5.j0_in ?_
  unfold f5.j0T
  refine join_spec (ha.ext (mono_int _) e) (hb.ext (mono_int _) e) hm fun z h4 e4 b4 => ⟨_, _, _, rfl, ?_⟩
  rw [big_ite]
  exact joins_loop ((ha.ext (mono_int _) e).ext (mono_int _) e4) ((hb.ext (mono_int _) e).ext (mono_int _) e4) hm (Blk.ints' b4) ⟨rfl, e.trans e4⟩ (big a b) 0 true false (by omega) (by rw [lawL_eq, Bool.true_and])
end Go.Proofs.Ytbpfmlgnlcfbcaa.Fw
