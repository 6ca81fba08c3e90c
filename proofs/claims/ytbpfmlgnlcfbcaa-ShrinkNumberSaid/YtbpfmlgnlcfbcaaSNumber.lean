/- What shrink.Number does, whatever it asks, and that the law ShrinkNumber holds, over heaps. -/
import Derived.Test.YtbpfmlgnlcfbcaaFwAll0
import Derived.Test.YtbpfmlgnlcfbcaaFwAll1
import Derived.Test.YtbpfmlgnlcfbcaaFwAll2
import Derived.Test.YtbpfmlgnlcfbcaaHwN
namespace Go.Proofs.Ytbpfmlgnlcfbcaa.Fw
open Go Go.Hw Go.Proofs
set_option linter.unusedVariables false

theorem number_loop {R : Value → Heap → Prop} {vf : Value} {I : Heap → Nat → Prop} {p : Int → Bool} {n : Int}
    (hf : ∀ (k : Int) (h : Heap) (m : Nat), I h m → m ≤ 60 → CallF Try.prog vf [.int .i64 k] h fun v h' => v = .bool (p k) ∧ I h' (m + 1)) (hn : n ≤ 1099511627776)
    (hR : ∀ (low : Int) (h : Heap) (m : Nat), I h m → m ≤ 60 → 0 ≤ low → low ≤ n → p low = true → (low = 0 ∨ p (low - 1) = false) → R (.tuple #[.int .i64 low, .int .i64 0]) h) :
    ∀ (t : Nat) (low high : Int) (h : Heap) (m : Nat), I h m → m + t ≤ 60 → 0 ≤ low → low ≤ high → high ≤ n → high - low < 2 ^ t → p high = true → (low = 0 ∨ p (low - 1) = false) → f19.l0 R vf low high h := by
  intro t
  induction t with
  | zero =>
    intro low high h m hI hm h0 h1 h2 h3 h4 h5
    refine f19.l0_in ?_
    unfold f19.l0T
    have : high = low := by omega
    subst this
    exact split_dec (fun c => by omega) fun _ => hR _ h m hI (by omega) h0 h2 h4 h5
  | succ t ih =>
    intro low high h m hI hm h0 h1 h2 h3 h4 h5
    refine f19.l0_in ?_
    unfold f19.l0T
    refine split_dec (fun c => ⟨by omega, ?_⟩) (fun c => ?_)
    · rw [wrap_in (n := low + high) (by omega) (by omega), Int.tdiv_eq_ediv_of_nonneg (by omega)]
      have e2 : (2 : Int) ^ (t + 1) = 2 * 2 ^ t := by rw [Int.pow_succ]; omega
      have hpos : (0 : Int) < 2 ^ t := Int.pow_pos (by omega)
      generalize (2 : Int) ^ t = z at *
      rw [wrap_in (n := (low + high) / 2) (by omega) (by omega), wrap_in (n := (low + high) / 2 + 1) (by omega) (by omega)]
      refine (hf _ h m hI (by omega)).mono ?_
      rintro v h' ⟨rfl, hI'⟩
      refine ⟨_, rfl, split_any (fun hp => ?_) (fun hp => ?_)⟩
      · exact ih _ _ h' (m + 1) hI' (by omega) h0 (by omega) (by omega) (by omega) hp h5
      · refine ih _ _ h' (m + 1) hI' (by omega) (by omega) (by omega) h2 (by omega) h4 (.inr ?_)
        rw [show (low + high) / 2 + 1 - 1 = (low + high) / 2 by omega]; exact hp
    · have : high = low := by omega
      subst this
      exact hR _ h m hI (by omega) h0 h2 h4 h5

theorem number_spec {R : Value → Heap → Prop} {vf : Value} {I : Heap → Nat → Prop} {p : Int → Bool} {n : Int} {h : Heap}
    (hf : ∀ (k : Int) (h : Heap) (m : Nat), I h m → m ≤ 60 → CallF Try.prog vf [.int .i64 k] h fun v h' => v = .bool (p k) ∧ I h' (m + 1)) (hI : I h 0)
    (h1 : (n < 0 ∨ n > 1099511627776) → ∀ h, I h 0 → R (.tuple #[.int .i64 0, .int .i64 1]) h)
    (h2 : 0 ≤ n → n ≤ 1099511627776 → p n = false → ∀ h, I h 1 → R (.tuple #[.int .i64 0, .int .i64 4]) h)
    (h3 : 0 ≤ n → n ≤ 1099511627776 → p n = true → ∀ (low : Int) (h : Heap) (m : Nat), I h m → m ≤ 60 → 0 ≤ low → low ≤ n → p low = true → (low = 0 ∨ p (low - 1) = false) → R (.tuple #[.int .i64 low, .int .i64 0]) h) :
    Run Try.prog 19 #[.int .i64 n, vf] h R := by
  refine f19.run ?_
  unfold f19.runT
  have rest : 0 ≤ n → n ≤ 1099511627776 → f19.j0 R n vf h := by
    intro a b
    refine f19.j0_in ?_
    unfold f19.j0T
    refine (hf n h 0 hI (by omega)).mono ?_
    rintro v h' ⟨rfl, hI'⟩
    refine ⟨_, rfl, split_not (split_any (fun hp => ?_) (fun hp => h2 a b hp h' hI'))⟩
    exact number_loop hf b (h3 a b hp) 41 0 n h' 1 hI' (by omega) (by omega) a (by omega) (by omega) hp (.inl rfl)
  refine split_dec (fun c => ?_) (fun c => ?_)
  · refine f19.j1_in ?_
    unfold f19.j1T
    exact split_t (h1 (.inl c) h hI)
  · refine f19.j1_in ?_
    unfold f19.j1T
    exact split_dec (fun c2 => h1 (.inr c2) h hI) fun c2 => rest (by omega) (by omega)

set_option maxRecDepth 100000 in
theorem fails37 (k : Int) (h : Heap) : CallF Try.prog (.func (.func 20) #[] #[]) [.int .i64 k] h fun v h' => v = .bool (decide (k ≥ 37)) ∧ h' = h := by
  refine CallF.of [.int .i64 k] (by kernel_rfl) rfl ?_
  refine f20.run ?_
  unfold f20.runT
  exact ⟨rfl, rfl⟩

set_option maxRecDepth 100000 in
theorem ShrinkNumber_run (n fro gap : Int) (hfro : -9223372036854775808 ≤ fro) (hgap : -9223372036854775808 ≤ gap) (h : Heap) :
    Run Try.prog 4 #[.int .i64 n, .int .i64 fro, .int .i64 gap] h fun v h' => v = .bool true ∧ Ext h h' := by
  refine f4.run ?_
  unfold f4.runT
  refine newH_in fun h1 bf e1 z1 => newH_in fun h2 bg0 e2 z2 => ?_
  have bf0 := bf.ext e2
  refine number_spec (I := fun h' _ => h' = h2) (p := fun k => decide (k ≥ 37)) ?_ rfl (fun c => by omega) (fun _ _ c => by simp at c) ?_
  · rintro k _ m rfl _
    exact fails37 k _
  rintro _ _ _ low h3 m rfl _ h0 h1 h4 h5
  have hlow : low = 37 := by
    simp only [decide_eq_true_eq, decide_eq_false_iff_not] at h4 h5
    omega
  subst hlow
  refine ⟨_, _, rfl, split_ne (fun c => absurd rfl c) fun _ => split_ne (fun c => absurd rfl c) fun _ => ?_⟩
  clear h0 h1 h4 h5
  refine f4.j0_in ?_
  unfold f4.j0T
  refine newH_in fun h4 ba e3 z3 => ?_
  obtain ⟨h5, s5, ba5, o5⟩ := ba.st (a := ⟨h3.size, 0, none⟩) (v := .int .i64 0) rfl rfl (by simp) trivial
  refine ⟨h5, s5, ?_⟩
  have bg5 := (bg0.ext e3).only o5 (by omega)
  have bf5 := (bf0.ext e3).only o5 (by omega)
  have base : Ext h h5 := (e1.trans (e2.trans e3)).only o5 (by omega)
  refine number_spec (I := fun h' m => Blk h' h3.size [.int .i64 m] 3 ∧ Blk h' h1.size [.int .i64 gap] 3 ∧ Blk h' h.size [.int .i64 fro] 3 ∧ Ext h h') (p := fun k => decide (k ≥ fro) && k != gap) ?_ ⟨ba5, bg5, bf5, base⟩ ?_ ?_ ?_
  · rintro k h6 m ⟨b1, b2, b3, e6⟩ hm
    refine CallF.of [.int .i64 k, .pointer (some ⟨h3.size, 0, none⟩), .pointer (some ⟨h.size, 0, none⟩), .pointer (some ⟨h1.size, 0, none⟩)] (by kernel_rfl) rfl ?_
    refine f21.run ?_
    unfold f21.runT
    obtain ⟨h7, s7, b7, o7⟩ := b1.st (a := ⟨h3.size, 0, none⟩) (v := .int .i64 (IntKind.wrap .i64 ((m : Int) + 1))) rfl rfl (by simp) trivial
    have b27 := b2.only o7 (by omega)
    have b37 := b3.only o7 (by omega)
    have e7 := e6.only o7 (by omega)
    rw [wrap_in (by omega) (by omega)] at s7 b7
    refine ⟨_, b1.ld rfl rfl rfl, _, rfl, h7, by rw [wrap_in (by omega) (by omega)]; exact s7, _, b37.ld rfl rfl rfl, _, rfl, split_dec (fun c => ?_) (fun c => ?_)⟩
    · exact ⟨_, b27.ld rfl rfl rfl, _, rfl, by simp [c], b7, b27, b37, e7⟩
    · exact ⟨by simp [c], b7, b27, b37, e7⟩
  · rintro c h6 ⟨b1, b2, b3, e6⟩
    refine ⟨_, _, rfl, ?_⟩
    have : f4.j2 (fun v h' => v = .bool true ∧ Ext h h') n ⟨h.size, 0, none⟩ ⟨h1.size, 0, none⟩ ⟨h3.size, 0, none⟩ 0 1 true h6 := by
      refine f4.j2_in ?_
      unfold f4.j2T
      exact split_t (split_eq (fun _ => ⟨rfl, e6⟩) fun c => absurd rfl c)
    refine split_dec (fun c => this) fun c2 => ?_
    rw [decide_eq_true (by omega)]
    exact this
  all_goals
    intro hn0 hn1
  · rintro hp h6 ⟨b1, b2, b3, e6⟩
    refine ⟨_, _, rfl, split_dec (fun c => by omega) fun _ => ?_⟩
    refine f4.j2_in ?_
    unfold f4.j2T
    refine split_dec (fun c => by omega) fun _ => ?_
    refine f4.j1_in ?_
    unfold f4.j1T
    have fin : ∀ b, b = true → f4.j4 (fun v h' => v = .bool true ∧ Ext h h') n ⟨h.size, 0, none⟩ ⟨h1.size, 0, none⟩ ⟨h3.size, 0, none⟩ 0 4 b h6 := by
      rintro _ rfl
      refine f4.j4_in ?_
      unfold f4.j4T
      exact split_t (split_eq (fun _ => ⟨rfl, e6⟩) fun c => absurd rfl c)
    refine ⟨_, b3.ld rfl rfl rfl, _, rfl, split_dec (fun c => fin _ rfl) fun c => ⟨_, b2.ld rfl rfl rfl, _, rfl, fin _ ?_⟩⟩
    have : n ≥ fro := by omega
    simpa [this] using hp
  · rintro hp low h6 m ⟨b1, b2, b3, e6⟩ hm h0 h1 h4 h5
    simp only [Bool.and_eq_true, decide_eq_true_eq, bne_iff_ne] at hp h4
    refine ⟨_, _, rfl, split_dec (fun c => by omega) fun _ => ?_⟩
    refine f4.j2_in ?_
    unfold f4.j2T
    refine split_dec (fun c => by omega) fun _ => ?_
    refine f4.j1_in ?_
    unfold f4.j1T
    refine ⟨_, b3.ld rfl rfl rfl, _, rfl, split_dec (fun c => by omega) fun c => ⟨_, b2.ld rfl rfl rfl, _, rfl, ?_⟩⟩
    refine f4.j4_in ?_
    unfold f4.j4T
    refine split_eq (fun c => absurd c hp.2) fun _ => ?_
    refine f4.j3_in ?_
    unfold f4.j3T
    refine split_ne (fun c => absurd rfl c) fun _ => ⟨_, b1.ld rfl rfl rfl, _, rfl, split_dec (fun c => by omega) fun _ => split_dec (fun c => by omega) fun _ => split_dec (fun c => by omega) fun _ => ⟨_, b3.ld rfl rfl rfl, _, rfl, split_dec (fun c => by omega) fun _ => ⟨_, b2.ld rfl rfl rfl, _, rfl, split_eq (fun c => absurd c h4.2) fun _ => ?_⟩⟩⟩
    refine f4.j5_in ?_
    unfold f4.j5T
    refine split_eq (fun c => ⟨rfl, e6⟩) fun c => ⟨_, b3.ld rfl rfl rfl, _, rfl, ?_⟩
    rw [wrap_in (by omega) (by omega)]
    refine split_dec (fun c => ⟨rfl, e6⟩) fun c2 => ⟨_, b2.ld rfl rfl rfl, _, rfl, ?_, e6⟩
    rcases h5 with h5 | h5
    · exact absurd h5 c
    · have : low - 1 ≥ fro := by omega
      simp only [this, decide_true, Bool.true_and] at h5
      have h6' : low - 1 = gap := by simpa using h5
      rw [h6']; simp
end Go.Proofs.Ytbpfmlgnlcfbcaa.Fw
