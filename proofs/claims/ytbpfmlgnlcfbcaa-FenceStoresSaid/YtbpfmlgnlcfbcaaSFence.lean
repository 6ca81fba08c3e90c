/- What the functions of package fence's store do, and that the law FenceStores holds, over heaps. -/
import Derived.Test.YtbpfmlgnlcfbcaaFwFence
import Derived.Test.YtbpfmlgnlcfbcaaHwN
namespace Go.Proofs.Ytbpfmlgnlcfbcaa.Fw
open Go Go.Hw Go.Proofs
set_option linter.unusedVariables false

theorem newStore_spec (h : Heap) : Run Try.prog 15 #[] h fun v h' => v = .pointer (some ⟨h.size, 0, none⟩) ∧ Blk h' h.size [.int .i64 0, .int .i64 0, .int .i64 0] 164 ∧ Ext h h' := by
  refine f15.run ?_
  unfold f15.runT newH
  exact ⟨rfl, Blk.new _ _ _, Ext.push _ _⟩

/-- What Put does: the code, and the state behind it. -/
def putS (e v r n x : Int) : Int × Int × Int × Int :=
  if n < 1 then (1, e, v, r) else if n < e then (23, e, v, IntKind.wrap .i64 (r + 1)) else (0, n, x, r)

theorem put_spec {h : Heap} {b : Nat} {e v r n x : Int} (hb : Blk h b [.int .i64 e, .int .i64 v, .int .i64 r] 164) :
    Run Try.prog 16 #[.pointer (some ⟨b, 0, none⟩), .int .i64 n, .int .i64 x] h fun u h' =>
      u = .int .i64 (putS e v r n x).1 ∧ Blk h' b [.int .i64 (putS e v r n x).2.1, .int .i64 (putS e v r n x).2.2.1, .int .i64 (putS e v r n x).2.2.2] 164 ∧ Only h h' b := by
  refine f16.run ?_
  unfold f16.runT
  refine split_dec (fun c => ?_) (fun c => ?_)
  · unfold putS; rw [if_pos c]; exact ⟨rfl, hb, Only.refl _ _⟩
  · refine ⟨_, hb.ld rfl rfl rfl, _, rfl, split_dec (fun c2 => ?_) (fun c2 => ?_)⟩
    · refine ⟨_, hb.ld rfl rfl rfl, _, rfl, ?_⟩
      obtain ⟨h1, s1, b1, o1⟩ := hb.st (a := Addr.add ⟨b, 0, none⟩ 2) (v := .int .i64 (IntKind.wrap .i64 (r + 1))) rfl rfl (by simp [Addr.add]) trivial
      refine ⟨h1, s1, ?_⟩
      unfold putS; rw [if_neg c, if_pos c2]
      exact ⟨rfl, b1, o1⟩
    · obtain ⟨h1, s1, b1, o1⟩ := hb.st (a := ⟨b, 0, none⟩) (v := .int .i64 n) rfl rfl (by simp) trivial
      obtain ⟨h2, s2, b2, o2⟩ := b1.st (a := Addr.add ⟨b, 0, none⟩ 1) (v := .int .i64 x) rfl rfl (by simp [Addr.add]) trivial
      refine ⟨h1, s1, h2, s2, ?_⟩
      unfold putS; rw [if_neg c, if_neg c2]
      exact ⟨rfl, b2, o1.trans o2⟩

theorem get_spec {h : Heap} {b : Nat} {e v r : Int} (hb : Blk h b [.int .i64 e, .int .i64 v, .int .i64 r] 164) :
    Run Try.prog 18 #[.pointer (some ⟨b, 0, none⟩)] h fun u h' => u = .tuple #[.int .i64 v, .int .i64 e, .int .i64 r] ∧ h' = h := by
  refine f18.run ?_
  unfold f18.runT
  exact ⟨_, hb.ld rfl rfl rfl, _, rfl, _, hb.ld rfl rfl rfl, _, rfl, _, hb.ld rfl rfl rfl, _, rfl, rfl, rfl⟩

theorem at_spec {h : Heap} {A : Option Addr} {c : Nat} {l : List Int} {i : Nat} {x : Int} (hr : Rd 1 (eInt .i64) h A l) (hx : x = i) :
    Run Try.prog 17 #[.slice A l.length c, .int .i64 x] h fun u h' => u = .int .i64 (l.getD i 0) ∧ h' = h := by
  refine f17.run ?_
  unfold f17.runT
  refine split_dec (fun c => ?_) (fun c => ?_)
  · refine hr.int hx rfl (by omega) ?_
    refine ⟨?_, rfl⟩
    rw [List.getD_eq_getElem?_getD, List.getElem?_eq_getElem (by omega)]; rfl
  · refine ⟨?_, rfl⟩
    rw [List.getD_eq_getElem?_getD, List.getElem?_eq_none (by omega)]; rfl

theorem loop_spec {R : Value → Heap → Prop} {h0 : Heap} {A : Option Addr} {c : Nat} {l : List (List Int)} (hl : (l.length : Int) ≤ 9223372036854775807) (hr : Rd 1 (eRow 1 (eInt .i64)) h0 A l) (hR : ∀ h, Ext h0 h → R (.bool true) h) :
    ∀ (d k : Nat), k + d = l.length → ∀ (h : Heap) (b : Nat) (value epoch refused : Int), Ext h0 h → h0.size ≤ b → Blk h b [.int .i64 epoch, .int .i64 value, .int .i64 refused] 164 →
      f3.l0 R (some ⟨b, 0, none⟩) value epoch refused A l.length c (l.length : Int) (k : Int) h := by
  intro d
  induction d with
  | zero =>
    intro k hk h b value epoch refused e hsz hb
    refine f3.l0_in ?_
    unfold f3.l0T
    refine split_dec (fun c => by omega) (fun _ => hR h e)
  | succ d ih =>
    intro k hk h b value epoch refused e hsz hb
    refine f3.l0_in ?_
    unfold f3.l0T
    refine split_dec (fun _ => ?_) (fun c => by omega)
    have hr' := hr.ext (mono_row (mono_int _)) e
    refine hr'.row (i := k) rfl rfl (by omega) fun B c2 _ hB => ?_
    refine (at_spec (i := 0) hB rfl).ret ⟨_, rfl, ?_⟩
    refine (at_spec (i := 1) hB rfl).ret ⟨_, rfl, ?_⟩
    generalize l[k].getD 0 0 = n
    generalize l[k].getD 1 0 = x
    have key : ∀ (value' epoch' refused' want : Int), putS epoch value refused n x = (want, epoch', value', refused') → f3.j1 R (some ⟨b, 0, none⟩) value' epoch' refused' n x want A l.length c (l.length : Int) (k : Int) h := by
      intro value' epoch' refused' want hp
      refine f3.j1_in ?_
      unfold f3.j1T
      have hput := put_spec (n := n) (x := x) hb
      rw [hp] at hput
      refine hput.mono ?_
      rintro v3 h3 ⟨rfl, b3, o3⟩
      refine ⟨_, rfl, split_ne (fun hne => absurd rfl hne) fun _ => ?_⟩
      refine (get_spec b3).ret ⟨_, _, _, rfl, split_ne (fun hne => absurd rfl hne) fun _ => split_ne (fun hne => absurd rfl hne) fun _ => split_ne (fun hne => absurd rfl hne) fun _ => ?_⟩
      rw [wrap_in (by omega) (by omega)]
      exact ih (k + 1) (by omega) _ b _ _ _ (e.only o3 hsz) hsz b3
    refine split_dec (fun c1 => ?_) (fun c1 => split_dec (fun c2 => ?_) (fun c2 => ?_))
    · exact key _ _ _ _ (by unfold putS; rw [if_pos c1])
    · exact key _ _ _ _ (by unfold putS; rw [if_neg c1, if_pos c2])
    · exact key _ _ _ _ (by unfold putS; rw [if_neg c1, if_neg c2])

theorem FenceStores_run {h : Heap} {A : Option Addr} {c : Nat} {l : List (List Int)} (hl : (l.length : Int) ≤ 9223372036854775807) (hr : Rd 1 (eRow 1 (eInt .i64)) h A l) :
    Run Try.prog 3 #[.slice A l.length c] h fun v h' => v = .bool true ∧ Ext h h' := by
  refine f3.run ?_
  unfold f3.runT
  refine (newStore_spec h).mono ?_
  rintro v1 h1 ⟨rfl, b1, e1⟩
  refine ⟨_, rfl, split_f ?_⟩
  refine (put_spec (n := 5) (x := 7) b1).mono ?_
  rintro v2 h2 ⟨rfl, b2, o2⟩
  have e2 := e1.only o2 (Nat.le_refl _)
  refine ⟨_, rfl, split_ne (fun hne => absurd rfl hne) fun _ => ?_⟩
  refine (put_spec (n := 4) (x := 8) b2).mono ?_
  rintro v3 h3 ⟨rfl, b3, o3⟩
  have e3 := e2.only o3 (Nat.le_refl _)
  refine ⟨_, rfl, split_ne (fun hne => absurd rfl hne) fun _ => ?_⟩
  refine (put_spec (n := 0) (x := 1) b3).mono ?_
  rintro v4 h4 ⟨rfl, b4, o4⟩
  have e4 := e3.only o4 (Nat.le_refl _)
  refine ⟨_, rfl, split_ne (fun hne => absurd rfl hne) fun _ => ?_⟩
  refine f3.j0_in ?_
  unfold f3.j0T
  refine (newStore_spec h4).mono ?_
  rintro v5 h5 ⟨rfl, b5, e5⟩
  refine ⟨_, rfl, ?_⟩
  exact loop_spec hl hr (fun h' e => ⟨rfl, e⟩) l.length 0 (by omega) h5 _ 0 0 0 (e4.trans e5) e4.1 b5
end Go.Proofs.Ytbpfmlgnlcfbcaa.Fw
