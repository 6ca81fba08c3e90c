/- What a lease of package fence does, and that the law FencePlays holds, over heaps. -/
import Derived.Test.YtbpfmlgnlcfbcaaFwAll0
import Derived.Test.YtbpfmlgnlcfbcaaFwAll1
import Derived.Test.YtbpfmlgnlcfbcaaFwAll2
import Derived.Test.YtbpfmlgnlcfbcaaHwR
namespace Go.Proofs.Ytbpfmlgnlcfbcaa.Fw.FP
open Go Go.Hw Go.Proofs
set_option linter.unusedVariables false

theorem at_spec {h : Heap} {A : Option Addr} {c : Nat} {l : List Int} {i : Nat} {x : Int} (hr : Rd 1 (eInt .i64) h A l) (hx : x = i) :
    Run Try.prog 17 #[.slice A l.length c, .int .i64 x] h fun u h' => u = .int .i64 (l.getD i 0) ∧ h' = h := by
  refine f17.run ?_
  unfold f17.runT
  refine split_dec (fun c => ?_) (fun c => ?_)
  · refine hr.int hx rfl (by omega) ⟨?_, rfl⟩
    rw [List.getD_eq_getElem?_getD, List.getElem?_eq_getElem (by omega)]; rfl
  · refine ⟨?_, rfl⟩
    rw [List.getD_eq_getElem?_getD, List.getElem?_eq_none (by omega)]; rfl

/-- A cell of a known block, as the text asks for it. -/
theorem get {h : Heap} {b : Nat} {c : List Value} {t : TypeId} (hb : Blk h b c t) {a : Addr} {v : Value} (h1 : a.block = b) (h2 : a.spot = none) (h3 : c[a.off]? = some v) {K : Value → Prop} (hk : K v) : ∃ u, ldv false 1 h a = some u ∧ K u := ⟨v, hb.ld h1 h2 h3, hk⟩
/-- A cell of a known block is written. -/
theorem put {h : Heap} {b : Nat} {c : List Value} {t : TypeId} (hb : Blk h b c t) {a : Addr} {v : Value} (h1 : a.block = b) (h2 : a.spot = none) (h3 : a.off < c.length) (h4 : Flat v) {K : Heap → Prop} (hk : ∀ h', Blk h' b (c.set a.off v) t → Only h h' b → K h') : ∃ h', st1 h a v = some h' ∧ K h' := by
  obtain ⟨h', s, b', o⟩ := hb.st h1 h2 h3 h4
  exact ⟨h', s, hk h' b' o⟩

abbrev Term := Int × Int
def tV (x : Term) : List Value := [.int .i64 x.1, .int .i64 x.2]
theorem tV_len (x : Term) : (tV x).length = 2 := rfl
theorem tV_flat (x : Term) : ∀ v ∈ tV x, Flat v := by intro v hv; simp [tV] at hv; rcases hv with rfl | rfl <;> trivial

/-- The law's model of a lease, as it lies in memory. -/
structure Md (h : Heap) (y lo : Nat) (now nd tl : Int) (A : Option Addr) (n c : Nat) (T : List Term) : Prop where
  model : Blk h y [.int .i64 now, .slice A n c] 63
  own : Own lo 2 h A n c (T.flatMap tV)
  last : (T = [] ∧ nd = 0 ∧ tl = 0) ∨ ∃ T', T = T' ++ [(nd, tl)]
/-- The lease and the law's model of it, as they lie in memory. -/
structure St (h0 h : Heap) (z y lo : Nat) (now ep nd tl : Int) (A : Option Addr) (n c : Nat) (T : List Term) : Prop where
  ext : Ext h0 h
  lease : Blk h z [.int .i64 now, .int .i64 ep, .int .i64 nd, .int .i64 tl] 169
  model : Blk h y [.int .i64 now, .slice A n c] 63
  own : Own lo 2 h A n c (T.flatMap tV)
  hz : h0.size ≤ z ∧ z < lo
  hy : h0.size ≤ y ∧ y < lo
  hlo : lo ≤ h.size
  ne : z ≠ y
  num : ep = T.length
  nd0 : 0 ≤ nd ∧ nd ≤ 8
  now0 : 0 ≤ now ∧ now ≤ 1099511627776
  tl0 : 0 ≤ tl ∧ tl ≤ 2199023255552
  last : (T = [] ∧ nd = 0 ∧ tl = 0) ∨ ∃ T', T = T' ++ [(nd, tl)]

section
variable {h0 h : Heap} {z y lo : Nat} {now ep nd tl : Int} {A : Option Addr} {n c : Nat} {T : List Term}
theorem St.md (s : St h0 h z y lo now ep nd tl A n c T) : Md h y lo now nd tl A n c T := ⟨s.model, s.own, s.last⟩
theorem Md.len (s : Md h y lo now nd tl A n c T) : n = T.length := by
  have := s.own.1
  rw [flatMap_len tV_len] at this; omega
theorem Own.only {lo sz : Nat} {h h' : Heap} {A : Option Addr} {n c b : Nat} {cs : List Value} (ho : Own lo sz h A n c cs) (o : Only h h' b) (hne : ∀ a, A = some a → a.block ≠ b) : Own lo sz h' A n c cs :=
  ho.but (B := some ⟨b, 0, none⟩) ⟨by rw [o.1]; exact Nat.le_refl _, fun i hi hx => o.2 i fun he => hx _ rfl he.symm⟩ (fun a x ha hx => by cases hx; exact hne a ha)
theorem Md.only {h' : Heap} {b : Nat} (s : Md h y lo now nd tl A n c T) (o : Only h h' b) (hy : y ≠ b) (hne : ∀ a, A = some a → a.block ≠ b) : Md h' y lo now nd tl A n c T := ⟨s.model.only o hy, Own.only s.own o hne, s.last⟩
theorem Md.ext {h' : Heap} (s : Md h y lo now nd tl A n c T) (e : Ext h h') : Md h' y lo now nd tl A n c T := ⟨s.model.ext e, s.own.ext e, s.last⟩
theorem St.len (s : St h0 h z y lo now ep nd tl A n c T) : n = T.length := by
  have := s.own.1
  rw [flatMap_len tV_len] at this; omega
theorem St.ownAt (s : St h0 h z y lo now ep nd tl A n c T) : ∀ a, A = some a → a.block ≠ z ∧ a.block ≠ y := fun a ha => by
  have h1 := s.own.at a ha
  have h2 := s.hz.2
  have h3 := s.hy.2
  omega
/-- The last term: where it lies. -/
theorem Md.top (s : Md h y lo now nd tl A n c T) (hn : 0 < n) :
    ∃ a, A = some a ∧ ldv false 1 h (a.add ((n - 1) * 2)) = some (.int .i64 nd) ∧ ldv false 1 h ((a.add ((n - 1) * 2)).add 1) = some (.int .i64 tl) := by
  have hl := s.len
  rcases s.last with ⟨rfl, _⟩ | ⟨T', hT⟩
  · simp at hl; omega
  · have hr : Rd 2 (eSt tV) h A T := s.own.rd tV_len (by omega) (fun _ _ => rfl)
    obtain ⟨a, cs, h1, h2, h3⟩ := hr (n - 1) (by omega)
    have h4 : T[n - 1]'(by omega) = (nd, tl) := by
      subst hT
      rw [List.getElem_append_right (by simp at hl; omega)]; simp
    have h5 : cs = tV (nd, tl) := by rw [← h4]; exact h3
    subst h5
    exact ⟨a, h1, (by
      have := cellsH_get h2 (k := 0) (v := .int .i64 nd) rfl
      simpa [ldv, add_add] using this), by
      have := cellsH_get h2 (k := 1) (v := .int .i64 tl) rfl
      simpa [ldv] using this⟩

theorem last_spec (s : Md h y lo now nd tl A n c T) (hn : 0 < n) {a : Addr} (ha : A = some a) (hm : n ≤ 9223372036854775807) : Run Try.prog 41 #[.pointer (some ⟨y, 0, none⟩)] h fun u h' => u = .pointer (some (a.add ((n - 1) * 2))) ∧ h' = h := by
  refine f41.run ?_
  unfold f41.runT
  refine get s.model rfl rfl rfl ⟨_, _, _, rfl, ?_⟩
  refine get s.model rfl rfl rfl ⟨_, _, _, rfl, ?_⟩
  have e : IntKind.wrap .i64 ((n : Int) - 1) = ((n - 1 : Nat) : Int) := by rw [wrap_in (by omega) (by omega)]; omega
  rw [e]
  subst ha
  exact ⟨by omega, by omega, rfl, rfl⟩

def hadB (now nd tl : Int) : Bool := decide (nd > 0) && decide (now < tl)
theorem had_spec (s : Md h y lo now nd tl A n c T) (hm : n ≤ 9223372036854775807) : Run Try.prog 43 #[.pointer (some ⟨y, 0, none⟩)] h fun u h' => u = .bool (hadB now nd tl) ∧ h' = h := by
  refine f43.run ?_
  unfold f43.runT
  unfold hadB
  refine get s.model rfl rfl rfl ⟨_, _, _, rfl, ?_⟩
  refine split_dec (fun c1 => ?_) (fun c1 => ⟨?_, rfl⟩)
  · obtain ⟨a, ha, h1, h2⟩ := s.top (by omega)
    refine ⟨_, last_spec s (by omega) ha hm, _, rfl, ?_⟩
    refine ⟨_, h1, _, rfl, ?_⟩
    refine split_dec (fun c2 => ?_) (fun c2 => ⟨?_, rfl⟩)
    · refine get s.model rfl rfl rfl ⟨_, rfl, ?_⟩
      refine ⟨_, last_spec s (by omega) ha hm, _, rfl, ?_⟩
      refine ⟨_, h2, _, rfl, ?_, rfl⟩
      rw [decide_eq_true c2, Bool.true_and]
    · rw [decide_eq_false c2, Bool.false_and]
  · rcases s.last with ⟨_, h1, _⟩ | ⟨T', hT⟩
    · rw [h1]; rfl
    · have := s.len; rw [hT] at this; simp at this; omega

/-! ### The lease's own functions -/
section
variable {R : Value → Heap → Prop} {t : TypeId}
theorem tick_spec {a : Int} (b : Blk h z [.int .i64 now, .int .i64 ep, .int .i64 nd, .int .i64 tl] t) (hw : 0 ≤ now ∧ now ≤ 1099511627776)
    (k1 : a < 0 ∨ a > 1000 → R (.int .i64 1) h) (k2 : 0 ≤ a → a ≤ 1000 → now + a > 1099511627776 → R (.int .i64 2) h)
    (k3 : 0 ≤ a → a ≤ 1000 → now + a ≤ 1099511627776 → ∀ h', Blk h' z [.int .i64 (now + a), .int .i64 ep, .int .i64 nd, .int .i64 tl] t → Only h h' z → R (.int .i64 0) h') :
    Run Try.prog 42 #[.pointer (some ⟨z, 0, none⟩), .int .i64 a] h R := by
  refine f42.run ?_
  unfold f42.runT
  refine split_dec (fun c => k1 (.inl c)) (fun c1 => split_dec (fun c => k1 (.inr c)) (fun c2 => ?_))
  refine f42.j0_in ?_
  unfold f42.j0T
  refine get b rfl rfl rfl ⟨_, rfl, ?_⟩
  rw [wrap_in (by omega) (by omega)]
  refine split_dec (fun c3 => k2 (by omega) (by omega) c3) (fun c3 => ?_)
  refine get b rfl rfl rfl ⟨_, rfl, ?_⟩
  rw [wrap_in (by omega) (by omega)]
  exact put b rfl rfl (by show 0 < 4; omega) (by exact trivial) fun h' b' o => k3 (by omega) (by omega) (by omega) h' b' o

def badTake (a b : Int) : Prop := a < 1 ∨ a > 8 ∨ b < 1 ∨ b > 1000
theorem take_spec {a d : Int} (b : Blk h z [.int .i64 now, .int .i64 ep, .int .i64 nd, .int .i64 tl] t) (hw : 0 ≤ now ∧ now ≤ 1099511627776) (he : 0 ≤ ep ∧ ep ≤ 9000000000000000000) (hnd : 0 ≤ nd)
    (k1 : badTake a d → R (.tuple #[.int .i64 0, .int .i64 1]) h) (k2 : ¬ badTake a d → hadB now nd tl = true → R (.tuple #[.int .i64 0, .int .i64 5]) h)
    (k3 : ¬ badTake a d → hadB now nd tl = false → ∀ h', Blk h' z [.int .i64 now, .int .i64 (ep + 1), .int .i64 a, .int .i64 (now + d)] t → Only h h' z → R (.tuple #[.int .i64 (ep + 1), .int .i64 0]) h') :
    Run Try.prog 40 #[.pointer (some ⟨z, 0, none⟩), .int .i64 a, .int .i64 d] h R := by
  unfold badTake at *
  refine f40.run ?_
  unfold f40.runT
  have bad : a < 1 ∨ a > 8 ∨ d < 1 ∨ d > 1000 → f40.j1 R ⟨z, 0, none⟩ a d true h := by
    intro hb
    refine f40.j1_in ?_
    unfold f40.j1T
    exact split_t (k1 hb)
  refine split_dec (fun c => bad (by omega)) (fun c1 => split_dec (fun c => bad (by omega)) (fun c2 => split_dec (fun c => bad (by omega)) (fun c3 => ?_)))
  by_cases c4 : d > 1000
  · rw [decide_eq_true c4]; exact bad (by omega)
  rw [decide_eq_false c4]
  have hb : ¬ (a < 1 ∨ a > 8 ∨ d < 1 ∨ d > 1000) := by omega
  refine f40.j1_in ?_
  unfold f40.j1T
  refine split_f ?_
  refine f40.j0_in ?_
  unfold f40.j0T
  refine get b rfl rfl rfl ⟨_, rfl, ?_⟩
  have free : hadB now nd tl = false → f40.j3 R ⟨z, 0, none⟩ a d false h := by
    intro hf
    refine f40.j3_in ?_
    unfold f40.j3T
    refine split_f ?_
    refine f40.j2_in ?_
    unfold f40.j2T
    refine get b rfl rfl rfl ⟨_, rfl, ?_⟩
    rw [wrap_in (n := ep + 1) (by omega) (by omega)]
    refine put b rfl rfl (by show 1 < 4; omega) (by exact trivial) fun h1 b1 o1 => ?_
    refine get b1 rfl rfl rfl ⟨_, rfl, ?_⟩
    refine put b1 rfl rfl (by show 2 < 4; omega) (by exact trivial) fun h2 b2 o2 => ?_
    rw [wrap_in (n := now + d) (by omega) (by omega)]
    refine put b2 rfl rfl (by show 3 < 4; omega) (by exact trivial) fun h3 b3 o3 => ?_
    refine get b3 rfl rfl rfl ⟨_, rfl, ?_⟩
    exact k3 hb hf h3 b3 (o1.trans (o2.trans o3))
  refine split_ne (fun c5 => ?_) (fun c5 => free (by unfold hadB; rw [decide_eq_false (by omega), Bool.false_and]))
  refine get b rfl rfl rfl ⟨_, rfl, ?_⟩
  refine get b rfl rfl rfl ⟨_, rfl, ?_⟩
  have hh : hadB now nd tl = decide (now < tl) := by unfold hadB; rw [decide_eq_true (by omega), Bool.true_and]
  rw [← hh]
  cases hv : hadB now nd tl with
  | true =>
    refine f40.j3_in ?_
    unfold f40.j3T
    exact split_t (k2 hb hv)
  | false => exact free hv

theorem keep_spec {a e d : Int} (b : Blk h z [.int .i64 now, .int .i64 ep, .int .i64 nd, .int .i64 tl] t) (hw : 0 ≤ now ∧ now ≤ 1099511627776)
    (k1 : d < 1 ∨ d > 1000 → R (.int .i64 1) h) (k2 : 1 ≤ d → d ≤ 1000 → ¬ (nd = a ∧ ep = e ∧ a ≠ 0) → R (.int .i64 4) h) (k3 : 1 ≤ d → d ≤ 1000 → (nd = a ∧ ep = e ∧ a ≠ 0) → now ≥ tl → R (.int .i64 23) h)
    (k4 : 1 ≤ d → d ≤ 1000 → (nd = a ∧ ep = e ∧ a ≠ 0) → now < tl → ∀ h', Blk h' z [.int .i64 now, .int .i64 ep, .int .i64 nd, .int .i64 (if now + d > tl then now + d else tl)] t → Only h h' z → R (.int .i64 0) h') :
    Run Try.prog 44 #[.pointer (some ⟨z, 0, none⟩), .int .i64 a, .int .i64 e, .int .i64 d] h R := by
  refine f44.run ?_
  unfold f44.runT
  refine split_dec (fun c => k1 (by omega)) (fun c1 => split_dec (fun c => k1 (by omega)) (fun c2 => ?_))
  refine f44.j0_in ?_
  unfold f44.j0T
  refine get b rfl rfl rfl ⟨_, rfl, ?_⟩
  refine split_ne (fun c3 => k2 (by omega) (by omega) (by omega)) (fun c3 => ?_)
  refine get b rfl rfl rfl ⟨_, rfl, ?_⟩
  refine split_ne (fun c4 => k2 (by omega) (by omega) (by omega)) (fun c4 => ?_)
  refine split_eq (fun c5 => k2 (by omega) (by omega) (by omega)) (fun c5 => ?_)
  refine f44.j1_in ?_
  unfold f44.j1T
  refine get b rfl rfl rfl ⟨_, rfl, ?_⟩
  refine get b rfl rfl rfl ⟨_, rfl, ?_⟩
  refine split_dec (fun c6 => k3 (by omega) (by omega) ⟨c3, c4, c5⟩ c6) (fun c6 => ?_)
  refine get b rfl rfl rfl ⟨_, rfl, ?_⟩
  refine get b rfl rfl rfl ⟨_, rfl, ?_⟩
  rw [wrap_in (n := now + d) (by omega) (by omega)]
  exact put b rfl rfl (by show 3 < 4; omega) (by exact trivial) fun h' b' o => k4 (by omega) (by omega) ⟨c3, c4, c5⟩ (by omega) h' b' o

theorem leave_spec {a e : Int} (b : Blk h z [.int .i64 now, .int .i64 ep, .int .i64 nd, .int .i64 tl] t)
    (k1 : ¬ (nd = a ∧ ep = e ∧ a ≠ 0) → R (.int .i64 4) h) (k2 : (nd = a ∧ ep = e ∧ a ≠ 0) → ∀ h', Blk h' z [.int .i64 now, .int .i64 ep, .int .i64 0, .int .i64 tl] t → Only h h' z → R (.int .i64 0) h') :
    Run Try.prog 39 #[.pointer (some ⟨z, 0, none⟩), .int .i64 a, .int .i64 e] h R := by
  refine f39.run ?_
  unfold f39.runT
  refine get b rfl rfl rfl ⟨_, rfl, ?_⟩
  refine split_ne (fun c3 => k1 (by omega)) (fun c3 => ?_)
  refine get b rfl rfl rfl ⟨_, rfl, ?_⟩
  refine split_ne (fun c4 => k1 (by omega)) (fun c4 => ?_)
  refine split_eq (fun c5 => k1 (by omega)) (fun c5 => ?_)
  refine f39.j0_in ?_
  unfold f39.j0T
  exact put b rfl rfl (by show 2 < 4; omega) (by exact trivial) fun h' b' o => k2 ⟨c3, c4, c5⟩ h' b' o

theorem who_spec (b : Blk h z [.int .i64 now, .int .i64 ep, .int .i64 nd, .int .i64 tl] t) (hw : 0 ≤ now ∧ now ≤ 1099511627776) (ht : 0 ≤ tl ∧ tl ≤ 2199023255552) (hnd : 0 ≤ nd)
    (k1 : hadB now nd tl = true → R (.tuple #[.int .i64 nd, .int .i64 ep, .int .i64 (tl - now)]) h) (k2 : hadB now nd tl = false → R (.tuple #[.int .i64 0, .int .i64 ep, .int .i64 0]) h) :
    Run Try.prog 45 #[.pointer (some ⟨z, 0, none⟩)] h R := by
  refine f45.run ?_
  unfold f45.runT
  have no : hadB now nd tl = false → f45.j1 R ⟨z, 0, none⟩ true h := by
    intro hf
    refine f45.j1_in ?_
    unfold f45.j1T
    exact split_t (get b rfl rfl rfl ⟨_, rfl, k2 hf⟩)
  refine get b rfl rfl rfl ⟨_, rfl, ?_⟩
  refine split_eq (fun c => no (by unfold hadB; rw [decide_eq_false (by omega), Bool.false_and])) (fun c => ?_)
  refine get b rfl rfl rfl ⟨_, rfl, ?_⟩
  refine get b rfl rfl rfl ⟨_, rfl, ?_⟩
  have hh : hadB now nd tl = decide (now < tl) := by unfold hadB; rw [decide_eq_true (by omega), Bool.true_and]
  by_cases c2 : now ≥ tl
  · rw [decide_eq_true c2]
    exact no (by rw [hh, decide_eq_false (by omega)])
  · rw [decide_eq_false c2]
    refine f45.j1_in ?_
    unfold f45.j1T
    refine split_f ?_
    refine f45.j0_in ?_
    unfold f45.j0T
    refine get b rfl rfl rfl ⟨_, rfl, ?_⟩
    refine get b rfl rfl rfl ⟨_, rfl, ?_⟩
    refine get b rfl rfl rfl ⟨_, rfl, ?_⟩
    refine get b rfl rfl rfl ⟨_, rfl, ?_⟩
    rw [wrap_in (by omega) (by omega)]
    exact k1 (by rw [hh, decide_eq_true (by omega)])
theorem new_spec (k : ∀ h', Blk h' h.size [.int .i64 0, .int .i64 0, .int .i64 0, .int .i64 0] 169 → Ext h h' → h'.size = h.size + 1 → R (.pointer (some ⟨h.size, 0, none⟩)) h') : Run Try.prog 38 #[] h R := by
  refine f38.run ?_
  unfold f38.runT
  exact newH_in fun h1 b1 e1 s1 => k h1 b1 e1 s1
end

theorem setTop1 (T : List Term) (p q v : Int) : ((T ++ [(p, q)]).flatMap tV).set (T.length * 2 + 1) (.int .i64 v) = (T ++ [(p, v)]).flatMap tV := by
  have h := flatMap_len tV_len T
  rw [List.flatMap_append, List.flatMap_append, List.set_append_right _ _ (by omega), show T.length * 2 + 1 - (T.flatMap tV).length = 1 by omega]; rfl
theorem setTop0 (T : List Term) (p q v : Int) : ((T ++ [(p, q)]).flatMap tV).set (T.length * 2) (.int .i64 v) = (T ++ [(v, q)]).flatMap tV := by
  have h := flatMap_len tV_len T
  rw [List.flatMap_append, List.flatMap_append, List.set_append_right _ _ (by omega), show T.length * 2 - (T.flatMap tV).length = 0 by omega]; rfl

/-- After each play the law looks at the lease. -/
theorem look {R : Value → Heap → Prop} {AP : Option Addr} {nP cP : Nat} {x43 x44 e : Int} (s : St h0 h z y lo now ep nd tl A n c T) (hm : n ≤ 9000000000000000000)
    (hk : f7.l0 R (some ⟨z, 0, none⟩) ⟨y, 0, none⟩ AP nP cP x43 (IntKind.wrap .i64 (x44 + 1)) h) : f7.j3 R (some ⟨z, 0, none⟩) ⟨y, 0, none⟩ e e AP nP cP x43 x44 h := by
  have hl := s.len
  have hnum := s.num
  refine f7.j3_in ?_
  unfold f7.j3T
  have rest : ∀ u v w : Int, w = n → f7.j4 R (some ⟨z, 0, none⟩) ⟨y, 0, none⟩ u v AP nP cP x43 x44 h →
      splitB (e != e) (R (.bool false) h) (∃ v6, ldv false 1 h ((⟨y, 0, none⟩ : Addr).add 1) = some v6 ∧ ∃ A7 n7 c7, v6 = .slice A7 n7 c7 ∧ splitB (w != (n7 : Int)) (R (.bool false) h) (f7.j4 R (some ⟨z, 0, none⟩) ⟨y, 0, none⟩ u v AP nP cP x43 x44 h)) := by
    intro u v w hw hj
    refine split_ne (fun c => absurd rfl c) fun _ => ?_
    refine get s.model rfl rfl rfl ⟨_, _, _, rfl, ?_⟩
    exact split_ne (fun c => absurd hw c) fun _ => hj
  refine who_spec s.lease s.now0 s.tl0 s.nd0.1 (fun hb => ⟨_, _, _, rfl, rest _ _ _ (by omega) ?_⟩) (fun hb => ⟨_, _, _, rfl, rest _ _ _ (by omega) ?_⟩)
  · refine f7.j4_in ?_
    unfold f7.j4T
    refine (had_spec s.md (by omega)).ret ⟨_, rfl, ?_⟩
    rw [hb]
    refine split_t ?_
    have hn : 0 < n := by
      rcases s.last with ⟨_, h1, _⟩ | ⟨T', hT⟩
      · rw [h1] at hb; simp [hadB] at hb
      · rw [hT] at hl; simp at hl; omega
    obtain ⟨a, ha, h1, h2⟩ := s.md.top hn
    refine ⟨_, last_spec s.md hn ha (by omega), _, rfl, ?_⟩
    refine ⟨_, h1, _, rfl, split_ne (fun c => absurd rfl c) fun _ => ?_⟩
    refine get s.model rfl rfl rfl ⟨_, rfl, ?_⟩
    refine ⟨_, last_spec s.md hn ha (by omega), _, rfl, ?_⟩
    have h3 := s.now0
    have h4 := s.tl0
    refine ⟨_, h2, _, rfl, split_ne (fun c => absurd (by rw [wrap_in (by omega) (by omega)]) c) fun _ => hk⟩
  · refine f7.j4_in ?_
    unfold f7.j4T
    refine (had_spec s.md (by omega)).ret ⟨_, rfl, ?_⟩
    rw [hb]
    refine split_f ?_
    exact split_ne (fun c => absurd rfl c) fun _ => split_ne (fun c => absurd rfl c) fun _ => hk

/-- One play. -/
theorem play {R : Value → Heap → Prop} {AP A9 : Option Addr} {nP cP c9 : Nat} {x43 x44 : Int} {l : List Int} {b15 : Bool} (s : St h0 h z y lo now ep nd tl A n c T) (hm : n ≤ 8000000000000)
    (hr : Rd 1 (eInt .i64) h A9 l) (hb : b15 = true ↔ (l.getD 1 0 > 0 ∧ nd = l.getD 1 0 ∧ l.getD 2 0 = n))
    (hk : ∀ (h' : Heap) (now ep nd tl : Int) (A : Option Addr) (n' c : Nat) (T : List Term), St h0 h' z y lo now ep nd tl A n' c T → n' ≤ n + 1 → f7.l0 R (some ⟨z, 0, none⟩) ⟨y, 0, none⟩ AP nP cP x43 (IntKind.wrap .i64 (x44 + 1)) h') :
    f7.j2 R (some ⟨z, 0, none⟩) ⟨y, 0, none⟩ A9 l.length c9 (l.getD 1 0) (l.getD 2 0) (l.getD 3 0) 0 0 b15 AP nP cP x43 x44 h := by
  generalize l.getD 1 0 = a at *
  generalize l.getD 2 0 = e at *
  generalize l.getD 3 0 = d at *
  have hl := s.len
  have hnum := s.num
  have same : ∀ w, f7.j3 R (some ⟨z, 0, none⟩) ⟨y, 0, none⟩ w w AP nP cP x43 x44 h := fun w => look s (by omega) (hk h _ _ _ _ _ _ _ _ s (by omega))
  have isLast : b15 = true ↔ (nd = a ∧ ep = e ∧ a ≠ 0) := by
    rw [hb]
    have := s.nd0
    constructor
    · rintro ⟨h1, h2, h3⟩; omega
    · rintro ⟨h1, h2, h3⟩; omega
  refine f7.j2_in ?_
  unfold f7.j2T
  refine (at_spec hr (i := 0) rfl).ret ⟨_, rfl, ?_⟩
  refine split_eq (fun _ => ?_) (fun _ => split_eq (fun _ => ?_) (fun _ => split_eq (fun _ => ?_) (fun _ => split_eq (fun _ => ?_) (fun _ => same 0))))
  · -- Tick
    have bad : a < 0 ∨ a > 1000 → splitB (decide (a < 0)) (f7.j5 R (some ⟨z, 0, none⟩) ⟨y, 0, none⟩ a 1 0 AP nP cP x43 x44 true h) (f7.j5 R (some ⟨z, 0, none⟩) ⟨y, 0, none⟩ a 1 0 AP nP cP x43 x44 (decide (a > 1000)) h) := by
      intro hbad
      have h5 : f7.j5 R (some ⟨z, 0, none⟩) ⟨y, 0, none⟩ a 1 0 AP nP cP x43 x44 true h := by
        refine f7.j5_in ?_
        unfold f7.j5T
        exact split_t (same 1)
      refine split_dec (fun _ => h5) (fun c => ?_)
      rw [decide_eq_true (show a > 1000 by omega)]; exact h5
    have good : ∀ (x : Int) (h' : Heap), 0 ≤ a → a ≤ 1000 → f7.j5 R (some ⟨z, 0, none⟩) ⟨y, 0, none⟩ a x 0 AP nP cP x43 x44 false h' → splitB (decide (a < 0)) (f7.j5 R (some ⟨z, 0, none⟩) ⟨y, 0, none⟩ a x 0 AP nP cP x43 x44 true h') (f7.j5 R (some ⟨z, 0, none⟩) ⟨y, 0, none⟩ a x 0 AP nP cP x43 x44 (decide (a > 1000)) h') := by
      intro x h' h1 h2 h3
      refine split_dec (fun c => by omega) (fun c => ?_)
      rw [decide_eq_false (show ¬ a > 1000 by omega)]; exact h3
    have hnow := s.now0
    refine tick_spec s.lease s.now0 (fun c => ⟨_, rfl, bad c⟩) (fun c1 c2 c3 => ⟨_, rfl, good _ _ c1 c2 ?_⟩) (fun c1 c2 c3 h1 b1 o1 => ⟨_, rfl, good _ _ c1 c2 ?_⟩)
    · refine f7.j5_in ?_
      unfold f7.j5T
      refine split_f ?_
      refine get s.model rfl rfl rfl ⟨_, rfl, ?_⟩
      rw [wrap_in (by omega) (by omega)]
      exact split_dec (fun _ => same 2) (fun c => absurd c3 c)
    · have m1 := s.model.only o1 (fun he => s.ne he.symm)
      refine f7.j5_in ?_
      unfold f7.j5T
      refine split_f ?_
      refine get m1 rfl rfl rfl ⟨_, rfl, ?_⟩
      rw [wrap_in (by omega) (by omega)]
      refine split_dec (fun c => absurd c (by omega)) (fun _ => ?_)
      refine get m1 rfl rfl rfl ⟨_, rfl, ?_⟩
      rw [wrap_in (by omega) (by omega)]
      refine put m1 rfl rfl (by show 0 < 2; omega) (by exact trivial) fun h2 m2 o2 => ?_
      have s2 : St h0 h2 z y lo (now + a) ep nd tl A n c T :=
        { s with ext := (s.ext.only o1 s.hz.1).only o2 s.hy.1, lease := b1.only o2 s.ne, model := m2, own := (Own.only s.own o1 fun a ha => (s.ownAt a ha).1) |> fun o => Own.only o o2 fun a ha => (s.ownAt a ha).2, hlo := by rw [o2.1, o1.1]; exact s.hlo, now0 := by omega }
      exact look s2 (by omega) (hk h2 _ _ _ _ _ _ _ _ s2 (by omega))
  · -- Take
    have hnow := s.now0
    have hnd := s.nd0
    have good : ∀ (x w : Int) (h' : Heap), ¬ badTake a e → f7.j6 R (some ⟨z, 0, none⟩) ⟨y, 0, none⟩ a e x 0 w AP nP cP x43 x44 false h' →
        splitB (decide (a < 1)) (f7.j6 R (some ⟨z, 0, none⟩) ⟨y, 0, none⟩ a e x 0 w AP nP cP x43 x44 true h') (splitB (decide (a > 8)) (f7.j6 R (some ⟨z, 0, none⟩) ⟨y, 0, none⟩ a e x 0 w AP nP cP x43 x44 true h') (splitB (decide (e < 1)) (f7.j6 R (some ⟨z, 0, none⟩) ⟨y, 0, none⟩ a e x 0 w AP nP cP x43 x44 true h') (f7.j6 R (some ⟨z, 0, none⟩) ⟨y, 0, none⟩ a e x 0 w AP nP cP x43 x44 (decide (e > 1000)) h'))) := by
      intro x w h' hg hj
      unfold badTake at hg
      refine split_dec (fun c => by omega) (fun _ => split_dec (fun c => by omega) (fun _ => split_dec (fun c => by omega) (fun _ => ?_)))
      rw [decide_eq_false (by omega)]; exact hj
    refine take_spec s.lease s.now0 (by omega) hnd.1 (fun c1 => ⟨_, _, rfl, ?_⟩) (fun c1 c2 => ⟨_, _, rfl, good _ _ _ c1 ?_⟩) (fun c1 c2 h1 b1 o1 => ⟨_, _, rfl, good _ _ _ c1 ?_⟩)
    · have hj : f7.j6 R (some ⟨z, 0, none⟩) ⟨y, 0, none⟩ a e 1 0 0 AP nP cP x43 x44 true h := by
        refine f7.j6_in ?_
        unfold f7.j6T
        exact split_t (same 1)
      unfold badTake at c1
      refine split_dec (fun _ => hj) (fun _ => split_dec (fun _ => hj) (fun _ => split_dec (fun _ => hj) (fun _ => ?_)))
      rw [decide_eq_true (by omega)]; exact hj
    · refine f7.j6_in ?_
      unfold f7.j6T
      refine split_f ?_
      refine (had_spec s.md (by omega)).ret ⟨_, rfl, ?_⟩
      rw [c2]
      exact split_t (same 5)
    · have m1 := s.model.only o1 (fun he => s.ne he.symm)
      have w1 := Own.only s.own o1 fun a ha => (s.ownAt a ha).1
      have e1 := s.ext.only o1 s.hz.1
      have hs1 : lo ≤ h1.size := by rw [o1.1]; exact s.hlo
      refine f7.j6_in ?_
      unfold f7.j6T
      refine split_f ?_
      have d1 := s.md.only o1 (fun he => s.ne he.symm) (fun a ha => (s.ownAt a ha).1)
      refine (had_spec d1 (by omega)).ret ⟨_, rfl, ?_⟩
      rw [c2]
      refine split_f ?_
      refine get m1 rfl rfl rfl ⟨_, _, _, rfl, ?_⟩
      refine get m1 rfl rfl rfl ⟨_, rfl, ⟨Nat.le_refl _, fun _ _ => rfl⟩, tV (a, now + e), ?_, rfl, ?_⟩
      · unfold badTake at c1
        rw [wrap_in (by omega) (by omega)]; rfl
      refine newH_in fun h2 b2 e2 _ => ⟨e2, ?_⟩
      have hs2 : srcCells 2 (.slice (some ⟨h1.size, 0, none⟩) 1 1) h2 = some (1, tV (a, now + e)) := by
        have := b2.cells (a := ⟨h1.size, 0, none⟩) rfl rfl (1 * 2) 0 (by show 2 ≤ 2; omega)
        simp only [srcCells, this]
        rfl
      refine (w1.ext e2).app2 (by have := e2.1; omega) rfl hs2 rfl (tV_flat _) (by omega) (by omega) fun A' c' h3 o3 r3 => ⟨_, _, _, rfl, ?_⟩
      have own1 : ∀ a, A = some a → a.block ≠ z ∧ a.block ≠ y := s.ownAt
      have m3 := r3.1.blk (m1.ext e2) (fun a ha => (own1 a ha).2)
      have l3 := r3.1.blk (b1.ext e2) (fun a ha => (own1 a ha).1)
      have x3 : Ext h0 h3 := (w1.ext e2).keep r3.1 (e1.trans e2) (by have := s.hz; omega)
      refine put m3 rfl rfl (by show 1 < 2; omega) (by exact trivial) fun h4 m4 o4 => ?_
      refine get m4 rfl rfl rfl ⟨_, _, _, rfl, ?_⟩
      refine split_ne (fun c => absurd (by omega) c) (fun _ => ?_)
      have at3 : ∀ a, A' = some a → a.block ≠ z ∧ a.block ≠ y := fun a ha => by
        have h1 := o3.at a ha
        have h2 := s.hz.2
        have h3 := s.hy.2
        omega
      unfold badTake at c1
      have s4 : St h0 h4 z y lo now (ep + 1) a (now + e) A' (n + 1) c' (T ++ [(a, now + e)]) :=
        { ext := x3.only o4 s.hy.1, lease := l3.only o4 s.ne, model := m4, own := by
            refine Own.only ?_ o4 fun a ha => (at3 a ha).2
            simpa [List.flatMap_append] using o3
          hz := s.hz, hy := s.hy, hlo := by rw [o4.1]; have := r3.1.1; have := e2.1; omega
          ne := s.ne, num := by simp; omega, nd0 := by omega, now0 := hnow, tl0 := by omega, last := .inr ⟨T, rfl⟩ }
      exact look s4 (by omega) (hk h4 _ _ _ _ _ _ _ _ s4 (by omega))
  · -- Keep
    have hnow := s.now0
    have htl := s.tl0
    have good : ∀ (x : Int) (h' : Heap), 1 ≤ d → d ≤ 1000 → f7.j7 R (some ⟨z, 0, none⟩) ⟨y, 0, none⟩ d x 0 b15 AP nP cP x43 x44 false h' →
        splitB (decide (d < 1)) (f7.j7 R (some ⟨z, 0, none⟩) ⟨y, 0, none⟩ d x 0 b15 AP nP cP x43 x44 true h') (f7.j7 R (some ⟨z, 0, none⟩) ⟨y, 0, none⟩ d x 0 b15 AP nP cP x43 x44 (decide (d > 1000)) h') := by
      intro x h' h1 h2 hj
      refine split_dec (fun c => by omega) (fun _ => ?_)
      rw [decide_eq_false (by omega)]; exact hj
    have pos : (nd = a ∧ ep = e ∧ a ≠ 0) → hadB now nd tl = decide (now < tl) := by
      intro hh
      unfold hadB
      have := s.nd0
      rw [decide_eq_true (show nd > 0 by omega), Bool.true_and]
    refine keep_spec s.lease s.now0 (fun c1 => ⟨_, rfl, ?_⟩) (fun c1 c2 c3 => ⟨_, rfl, good _ _ c1 c2 ?_⟩) (fun c1 c2 c3 c4 => ⟨_, rfl, good _ _ c1 c2 ?_⟩) (fun c1 c2 c3 c4 h1 b1 o1 => ⟨_, rfl, good _ _ c1 c2 ?_⟩)
    · have hj : f7.j7 R (some ⟨z, 0, none⟩) ⟨y, 0, none⟩ d 1 0 b15 AP nP cP x43 x44 true h := by
        refine f7.j7_in ?_
        unfold f7.j7T
        exact split_t (same 1)
      refine split_dec (fun _ => hj) (fun _ => ?_)
      rw [decide_eq_true (by omega)]; exact hj
    · refine f7.j7_in ?_
      unfold f7.j7T
      refine split_f ?_
      cases hv : b15 with
      | true => exact absurd (isLast.1 hv) c3
      | false => exact split_t (same 4)
    · have hv : b15 = true := isLast.2 c3
      refine f7.j7_in ?_
      unfold f7.j7T
      refine split_f ?_
      rw [hv]
      refine split_f ?_
      refine (had_spec s.md (by omega)).ret ⟨_, rfl, ?_⟩
      rw [pos c3, decide_eq_false (by omega)]
      exact split_t (same 23)
    · have hv : b15 = true := isLast.2 c3
      have d1 := s.md.only o1 (fun he => s.ne he.symm) (fun a ha => (s.ownAt a ha).1)
      have hn : 0 < n := by
        rcases s.last with ⟨_, h1, _⟩ | ⟨T', hT⟩
        · omega
        · rw [hT] at hl; simp at hl; omega
      refine f7.j7_in ?_
      unfold f7.j7T
      refine split_f ?_
      rw [hv]
      refine split_f ?_
      refine (had_spec d1 (by omega)).ret ⟨_, rfl, ?_⟩
      rw [pos c3, decide_eq_true (by omega)]
      refine split_f ?_
      refine get d1.model rfl rfl rfl ⟨_, rfl, ?_⟩
      obtain ⟨q, hq, hq1, hq2⟩ := d1.top hn
      refine ⟨_, fun h' e' => last_spec (d1.ext e') hn hq (by omega), _, rfl, _, fun h' e' => last_spec (d1.ext e') hn hq (by omega), _, rfl, ?_⟩
      refine ⟨_, hq2, _, rfl, ?_⟩
      rw [wrap_in (n := now + d) (by omega) (by omega)]
      obtain ⟨T', hT⟩ : ∃ T', T = T' ++ [(nd, tl)] := by
        rcases s.last with ⟨h1, _⟩ | h1
        · rw [h1] at hl; simp at hl; omega
        · exact h1
      have hn' : n - 1 = T'.length := by rw [hT] at hl; simp at hl; omega
      obtain ⟨q', hq', H⟩ := d1.own.st (j := (n - 1) * 2 + 1) (v := .int .i64 (if now + d > tl then now + d else tl)) (by rw [d1.own.1]; omega) (by exact trivial)
      have : q' = q := by rw [hq] at hq'; cases hq'; rfl
      subst this
      obtain ⟨h2, st2, w2, u2⟩ := H ((q'.add ((n - 1) * 2)).add 1) (by rw [add_block, add_block]) (add_spot _ (add_spot _ (d1.own.spot q' hq))) (by rw [add_off, add_off]; omega)
      refine ⟨h2, st2, ?_⟩
      rw [hT, hn', setTop1] at w2
      have s4 : St h0 h2 z y lo now ep nd (if now + d > tl then now + d else tl) A n c (T' ++ [(nd, if now + d > tl then now + d else tl)]) :=
        { ext := d1.own.keep u2 (s.ext.only o1 s.hz.1) (by have := s.hz; omega), lease := u2.blk b1 (fun a ha => (s.ownAt a ha).1), model := u2.blk d1.model (fun a ha => (s.ownAt a ha).2), own := w2
          hz := s.hz, hy := s.hy, hlo := by have := u2.1; have := o1.1; have := s.hlo; omega
          ne := s.ne, num := by rw [hnum, hT]; simp, nd0 := s.nd0, now0 := hnow, tl0 := by split <;> omega, last := .inr ⟨T', rfl⟩ }
      exact look s4 (by omega) (hk h2 _ _ _ _ _ _ _ _ s4 (by omega))
  · -- Leave
    refine leave_spec s.lease (fun c1 => ⟨_, rfl, ?_⟩) (fun c1 h1 b1 o1 => ⟨_, rfl, ?_⟩)
    · cases hv : b15 with
      | true => exact absurd (isLast.1 hv) c1
      | false => exact split_f (same 4)
    · have hv : b15 = true := isLast.2 c1
      rw [hv]
      refine split_t ?_
      have d1 := s.md.only o1 (fun he => s.ne he.symm) (fun a ha => (s.ownAt a ha).1)
      have hn : 0 < n := by
        have := s.nd0
        rcases s.last with ⟨_, h1, _⟩ | ⟨T', hT⟩
        · omega
        · rw [hT] at hl; simp at hl; omega
      obtain ⟨q, hq, hq1, hq2⟩ := d1.top hn
      refine (last_spec d1 hn hq (by omega)).ret ⟨_, rfl, ?_⟩
      obtain ⟨T', hT⟩ : ∃ T', T = T' ++ [(nd, tl)] := by
        rcases s.last with ⟨h1, _⟩ | h1
        · rw [h1] at hl; simp at hl; omega
        · exact h1
      have hn' : n - 1 = T'.length := by rw [hT] at hl; simp at hl; omega
      obtain ⟨q', hq', H⟩ := d1.own.st (j := (n - 1) * 2) (v := .int .i64 0) (by rw [d1.own.1]; omega) (by exact trivial)
      have : q' = q := by rw [hq] at hq'; cases hq'; rfl
      subst this
      obtain ⟨h2, st2, w2, u2⟩ := H (q'.add ((n - 1) * 2)) (by rw [add_block]) (add_spot _ (d1.own.spot q' hq)) (by rw [add_off])
      refine ⟨h2, st2, ?_⟩
      rw [hT, hn', setTop0] at w2
      have s4 : St h0 h2 z y lo now ep 0 tl A n c (T' ++ [(0, tl)]) :=
        { ext := d1.own.keep u2 (s.ext.only o1 s.hz.1) (by have := s.hz; omega), lease := u2.blk b1 (fun a ha => (s.ownAt a ha).1), model := u2.blk d1.model (fun a ha => (s.ownAt a ha).2), own := w2
          hz := s.hz, hy := s.hy, hlo := by have := u2.1; have := o1.1; have := s.hlo; omega
          ne := s.ne, num := by rw [hnum, hT]; simp, nd0 := by omega, now0 := s.now0, tl0 := s.tl0, last := .inr ⟨T', rfl⟩ }
      exact look s4 (by omega) (hk h2 _ _ _ _ _ _ _ _ s4 (by omega))

theorem plays {AP : Option Addr} {cP : Nat} {L : List (List Int)} (hL : L.length * 24 ≤ 140737488351232) (hr : Rd 1 (eRow 1 (eInt .i64)) h0 AP L) :
    ∀ (d k : Nat) (h : Heap) (now ep nd tl : Int) (A : Option Addr) (n c : Nat) (T : List Term), k + d = L.length → n ≤ k → St h0 h z y lo now ep nd tl A n c T →
      f7.l0 (fun v h' => v = .bool true ∧ Ext h0 h') (some ⟨z, 0, none⟩) ⟨y, 0, none⟩ AP L.length cP (L.length : Int) (k : Int) h := by
  intro d
  induction d with
  | zero =>
    intro k h now ep nd tl A n c T hk hn s
    refine f7.l0_in ?_
    unfold f7.l0T
    exact split_dec (fun c => by omega) fun _ => ⟨rfl, s.ext⟩
  | succ d ih =>
    intro k h now ep nd tl A n c T hk hn s
    refine f7.l0_in ?_
    unfold f7.l0T
    refine split_dec (fun _ => ?_) (fun c => by omega)
    refine (hr.ext (mono_row (mono_int _)) s.ext).row rfl rfl (by omega) fun B cB hcB hB => ?_
    generalize L[k] = l at *
    refine (at_spec hB (i := 1) rfl).ret ⟨_, rfl, ?_⟩
    refine (at_spec hB (i := 2) rfl).ret ⟨_, rfl, ?_⟩
    refine (at_spec hB (i := 3) rfl).ret ⟨_, rfl, ?_⟩
    have hl := s.len
    have next : ∀ (h' : Heap) (now ep nd tl : Int) (A : Option Addr) (n' c : Nat) (T : List Term), St h0 h' z y lo now ep nd tl A n' c T → n' ≤ n + 1 →
        f7.l0 (fun v h' => v = .bool true ∧ Ext h0 h') (some ⟨z, 0, none⟩) ⟨y, 0, none⟩ AP L.length cP (L.length : Int) (IntKind.wrap .i64 ((k : Int) + 1)) h' := by
      intro h' now ep nd tl A n' c T s' hn'
      have e1 : IntKind.wrap .i64 ((k : Int) + 1) = ((k + 1 : Nat) : Int) := by rw [wrap_in (by omega) (by omega)]; omega
      rw [e1]
      exact ih (k + 1) h' now ep nd tl A n' c T (by omega) (by omega) s'
    have go := fun (b : Bool) hb => play (c9 := cB) (b15 := b) (x44 := (k : Int)) s (by omega) hB hb next
    refine get s.model rfl rfl rfl ⟨_, _, _, rfl, ?_⟩
    refine split_dec (fun c1 => ?_) (fun c1 => go false ⟨fun h => (by cases h), fun h => ?_⟩)
    · refine split_dec (fun c2 => ?_) (fun c2 => go false ⟨fun h => (by cases h), fun h => absurd h.1 c2⟩)
      obtain ⟨q, hq, hq1, hq2⟩ := s.md.top (by omega)
      refine (last_spec s.md (by omega) hq (by omega)).ret ⟨_, rfl, ?_⟩
      refine ⟨_, hq1, _, rfl, split_eq (fun c3 => ?_) (fun c3 => go false ⟨fun h => (by cases h), fun h => absurd h.2.1 c3⟩)⟩
      refine get s.model rfl rfl rfl ⟨_, _, _, rfl, ?_⟩
      exact go _ ⟨fun h => ⟨c2, c3, by simpa using h⟩, fun h => by simpa using h.2.2⟩
    · rcases s.last with ⟨h1, h2, _⟩ | ⟨T', hT⟩
      · omega
      · rw [hT] at hl; simp at hl; omega

theorem FencePlays_run {AP : Option Addr} {cP : Nat} {L : List (List Int)} (hr : Rd 1 (eRow 1 (eInt .i64)) h AP L) (hL : L.length * 24 ≤ 140737488351232) :
    Run Try.prog 7 #[.slice AP L.length cP] h fun v h' => v = .bool true ∧ Ext h h' := by
  refine f7.run ?_
  unfold f7.runT
  refine new_spec fun h1 b1 e1 s1 => ⟨_, rfl, split_f ?_⟩
  refine leave_spec b1 (fun _ => ⟨_, rfl, ?_⟩) (fun c => by omega)
  refine f7.j1_in ?_
  unfold f7.j1T
  refine split_f ?_
  refine take_spec b1 (by omega) (by omega) (by omega) (fun c => by unfold badTake at c; omega) (fun _ c => by cases c) (fun _ _ h2 b2 o2 => ⟨_, _, rfl, ?_⟩)
  refine split_f (split_f ?_)
  have e2 : Ext h h2 := e1.only o2 (Nat.le_refl _)
  refine f7.j0_in ?_
  unfold f7.j0T
  refine new_spec fun h3 b3 e3 s3 => ⟨_, rfl, ?_⟩
  refine newH_in fun h4 b4 e4 s4 => ?_
  have hs2 : h2.size = h1.size := o2.1
  refine plays hL hr L.length 0 h4 0 0 0 0 none 0 0 [] (by omega) (Nat.le_refl _) (z := h2.size) (y := h3.size) (lo := h4.size) ?_
  exact { ext := e2.trans (e3.trans e4), lease := b3.ext e4, model := b4, own := by simpa using Own.nil, hz := by have := e2.1; omega, hy := by have := e2.1; omega, hlo := Nat.le_refl _, ne := by omega, num := rfl, nd0 := by omega, now0 := by omega, tl0 := by omega, last := .inl ⟨rfl, rfl, rfl⟩ }
end
end Go.Proofs.Ytbpfmlgnlcfbcaa.Fw.FP
