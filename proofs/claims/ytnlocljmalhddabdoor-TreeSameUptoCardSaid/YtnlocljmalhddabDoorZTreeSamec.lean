/- Part 3: what the law TreeSame needs, put together out of texts of this session. -/
import Derived.Lib.LaidTab
import Derived.Lib.ItoaNum
import Derived.Sort.Grow
import Derived.Deep.Draws
import Derived.Shelf.Bodies
import Derived.Shelf.LaysM
import Derived.Shelf.Strconv.Itoa3
import Derived.Test.YtnlocljmalhddabDoorProg
import Derived.Test.YtnlocljmalhddabDoorZTreeSameb
section
set_option linter.unusedVariables false
namespace Go.Hw
open Go
abbrev Foot := Nat → Prop
def U (F G : Foot) : Foot := fun b => F b ∨ G b
section
variable {F G H F' G' : Foot}
theorem U.no_left : U No F = F := funext fun _ => propext ⟨fun h => h.elim (fun h => h.elim) id, .inr⟩
theorem U.no_right : U F No = F := funext fun _ => propext ⟨fun h => h.elim id (fun h => h.elim), .inl⟩
theorem U.assoc : U (U F G) H = U F (U G H) := funext fun _ => propext or_assoc
theorem U.comm : U F G = U G F := funext fun _ => propext or_comm
theorem U.left_comm : U F (U G H) = U G (U F H) := by rw [← U.assoc, U.comm (F := F), U.assoc]
theorem Dj.u (d : Dj F H) (d' : Dj G H) : Dj (U F G) H := fun b h k => h.elim (fun h => d b h k) (fun h => d' b h k)
theorem Dj.ul (d : Dj (U F G) H) : Dj F H := fun b h k => d b (.inl h) k
theorem Dj.ur (d : Dj (U F G) H) : Dj G H := fun b h k => d b (.inr h) k
theorem Dj.u' (d : Dj H F) (d' : Dj H G) : Dj H (U F G) := fun b k h => h.elim (fun h => d b k h) (fun h => d' b k h)
theorem Dj.ul' (d : Dj H (U F G)) : Dj H F := fun b k h => d b k (.inl h)
theorem Dj.ur' (d : Dj H (U F G)) : Dj H G := fun b k h => d b k (.inr h)
theorem Dj.no' : Dj F No := fun _ _ h => h
theorem Dj.mono (d : Dj F G) (h1 : ∀ b, F' b → F b) (h2 : ∀ b, G' b → G b) : Dj F' G' := fun b k l => d b (h1 b k) (h2 b l)
end
structure Res where
  p : Heap → Heap → Foot → Prop
  z : Heap → Prop
  lt : ∀ {h m F}, p h m F → ∀ b, F b → b < h.size
  nl : ∀ {h m F}, p h m F → ∀ b, F b → ¬ Live m b
  fr : ∀ {h m F h' m'}, p h m F → (∀ b, F b → h'[b]? = h[b]?) → Sub m m' → (∀ b, F b → ¬ Live m' b) → p h' m' F
  fz : ∀ {h m F G}, p h m F → Sub m h → (∀ b, F b → G b) → z (addV m h G)
def Res.vf (R : Res) : Prop := ∀ h m m' F, R.p h m F → Sub m' h → (∀ b, F b → ¬ Live m' b) → R.p h m' F
def rE : Res where
  p _ _ F := F = No
  z _ := True
  lt := by rintro h m F rfl b hb; exact hb.elim
  nl := by rintro h m F rfl b hb; exact hb.elim
  fr := fun h _ _ _ => h
  fz := fun _ _ _ => trivial
def Sep : List Res → Heap → Heap → Foot → Prop
  | [], _, _, F => F = No
  | R :: Rs, h, m, F => ∃ F1 F2, R.p h m F1 ∧ Sep Rs h m F2 ∧ Dj F1 F2 ∧ F = U F1 F2
def ZAll (m : Heap) : List Res → Prop
  | [] => True
  | R :: Rs => R.z m ∧ ZAll m Rs
def takeL : List Res → List Nat → List Res
  | _, [] => []
  | Rs, i :: is => (match Rs[i]? with | some R => R | none => rE) :: takeL (Rs.set i rE) is
def dropL : List Res → List Nat → List Res
  | Rs, [] => Rs
  | Rs, i :: is => dropL (Rs.set i rE) is
section
variable {h h' m m' : Heap} {F F1 F2 G : Foot} {Rs Rs' : List Res} {R R' : Res} {k : Nat}
theorem Sep.lt : ∀ {Rs : List Res} {F : Foot}, Sep Rs h m F → ∀ b, F b → b < h.size
  | [], _, hs, b, hb => by rw [show _ = No from hs] at hb; exact hb.elim
  | _ :: _, _, ⟨_, _, h1, h2, _, rfl⟩, b, hb => hb.elim (Res.lt _ h1 b) (Sep.lt h2 b)
theorem Sep.nl : ∀ {Rs : List Res} {F : Foot}, Sep Rs h m F → ∀ b, F b → ¬ Live m b
  | [], _, hs, b, hb => by rw [show _ = No from hs] at hb; exact hb.elim
  | _ :: _, _, ⟨_, _, h1, h2, _, rfl⟩, b, hb => hb.elim (Res.nl _ h1 b) (Sep.nl h2 b)
theorem Sep.fr : ∀ {Rs : List Res} {F : Foot}, Sep Rs h m F → (∀ b, F b → h'[b]? = h[b]?) → Sub m m' → (∀ b, F b → ¬ Live m' b) → Sep Rs h' m' F
  | [], _, hs, _, _, _ => hs
  | _ :: _, _, ⟨F1, F2, h1, h2, h3, rfl⟩, k1, k2, k3 => ⟨F1, F2, Res.fr _ h1 (fun b hb => k1 b (.inl hb)) k2 (fun b hb => k3 b (.inl hb)), Sep.fr h2 (fun b hb => k1 b (.inr hb)) k2 (fun b hb => k3 b (.inr hb)), h3, rfl⟩
theorem Sep.fz : ∀ {Rs : List Res} {F : Foot}, Sep Rs h m F → Sub m h → (∀ b, F b → G b) → ZAll (addV m h G) Rs
  | [], _, _, _, _ => trivial
  | _ :: _, _, ⟨F1, F2, h1, h2, h3, rfl⟩, k1, k2 => ⟨Res.fz _ h1 k1 (fun b hb => k2 b (.inl hb)), Sep.fz h2 k1 (fun b hb => k2 b (.inr hb))⟩
theorem Sep.vf : ∀ {Rs : List Res} {F : Foot}, Sep Rs h m F → (∀ R ∈ Rs, R.vf) → Sub m' h → (∀ b, F b → ¬ Live m' b) → Sep Rs h m' F
  | [], _, hs, _, _, _ => hs
  | R :: Rs, _, ⟨F1, F2, h1, h2, h3, rfl⟩, v, k1, k2 => ⟨F1, F2, v R (List.mem_cons_self ..) _ _ _ _ h1 k1 (fun b hb => k2 b (.inl hb)), Sep.vf h2 (fun R hR => v R (List.mem_cons_of_mem _ hR)) k1 (fun b hb => k2 b (.inr hb)), h3, rfl⟩
theorem Sep.get : ∀ {Rs : List Res} {F : Foot} {k : Nat}, Sep Rs h m F → Rs[k]? = some R → ∃ F1 F2, R.p h m F1 ∧ Sep (Rs.set k rE) h m F2 ∧ Dj F1 F2 ∧ F = U F1 F2
  | [], _, _, _, hk => by cases hk
  | R' :: Rs, _, 0, ⟨F1, F2, h1, h2, h3, e⟩, hk => by
    cases hk
    exact ⟨F1, F2, h1, ⟨No, F2, rfl, h2, .no, U.no_left.symm⟩, h3, e⟩
  | R' :: Rs, _, k + 1, ⟨F1, F2, h1, h2, h3, e⟩, hk => by
    obtain ⟨G1, G2, k1, k2, k3, rfl⟩ := Sep.get h2 (show Rs[k]? = some R by simpa using hk)
    refine ⟨G1, U F1 G2, k1, ⟨F1, G2, h1, k2, h3.ur', rfl⟩, ?_, ?_⟩
    · exact Dj.u' h3.ul'.symm k3
    · rw [e, U.left_comm]
theorem Sep.put : ∀ {Rs : List Res} {F2 : Foot} {k : Nat}, Sep Rs h m F2 → Rs[k]? = some rE → R'.p h m F1 → Dj F1 F2 → Sep (Rs.set k R') h m (U F1 F2)
  | [], _, _, _, hk, _, _ => by cases hk
  | R :: Rs, _, 0, ⟨G1, G2, h1, h2, h3, e⟩, hk, hp, d => by
    cases hk
    have : G1 = No := h1
    subst this
    rw [U.no_left] at e
    subst e
    exact ⟨F1, _, hp, h2, d, rfl⟩
  | R :: Rs, _, k + 1, ⟨G1, G2, h1, h2, h3, e⟩, hk, hp, d => by
    subst e
    have := Sep.put h2 (show Rs[k]? = some rE by simpa using hk) hp d.ur'
    exact ⟨G1, _, h1, this, Dj.u' d.ul'.symm h3, by rw [U.left_comm]⟩
theorem Sep.app : ∀ {Rs : List Res} {F : Foot}, Sep Rs h m F → Sep Rs' h m G → Dj F G → Sep (Rs ++ Rs') h m (U F G)
  | [], _, hs, hs', _ => by rw [show _ = No from hs, U.no_left]; exact hs'
  | R :: Rs, _, ⟨F1, F2, h1, h2, h3, e⟩, hs', d => by
    subst e
    exact ⟨F1, _, h1, Sep.app h2 hs' d.ur, Dj.u' h3 d.ul, U.assoc⟩
theorem Sep.one (hp : R.p h m F) : Sep [R] h m F := ⟨F, No, hp, rfl, .no', U.no_right.symm⟩
theorem set_rE (hk : Rs[k]? = some R) : (Rs.set k rE)[k]? = some rE := by
  have : k < Rs.length := (List.getElem?_eq_some_iff.1 hk).1
  rw [List.getElem?_set_self this]
theorem Sep.part : ∀ (is : List Nat) {Rs : List Res} {F : Foot}, Sep Rs h m F → ∃ F1 F2, Sep (takeL Rs is) h m F1 ∧ Sep (dropL Rs is) h m F2 ∧ Dj F1 F2 ∧ F = U F1 F2
  | [], Rs, F, hs => ⟨No, F, rfl, hs, .no, U.no_left.symm⟩
  | i :: is, Rs, F, hs => by
    cases hi : Rs[i]? with
    | none =>
      have : Rs.set i rE = Rs := List.set_eq_of_length_le (List.getElem?_eq_none_iff.1 hi)
      obtain ⟨F1, F2, h1, h2, h3, h4⟩ := Sep.part is (Rs := Rs.set i rE) (by rw [this]; exact hs)
      refine ⟨F1, F2, ?_, h2, h3, h4⟩
      simp only [takeL, hi]
      exact ⟨No, F1, rfl, h1, .no, U.no_left.symm⟩
    | some R =>
      obtain ⟨G1, G2, k1, k2, k3, rfl⟩ := Sep.get hs hi
      obtain ⟨F1, F2, h1, h2, h3, rfl⟩ := Sep.part is k2
      refine ⟨U G1 F1, F2, ?_, h2, Dj.u k3.ur' h3, U.assoc.symm⟩
      simp only [takeL, hi]
      exact ⟨G1, F1, k1, h1, k3.ul', rfl⟩
end
structure Hold (W : Foot) (h0 m0 h m : Heap) (Rs : List Res) : Prop where
  S : St W h0 m0 h m
  q : ∃ F, Sep Rs h m F ∧ ∀ b, F b → h0.size ≤ b ∨ W b
section
variable {h0 m0 h h' m m' : Heap} {W F F' G : Foot} {Rs Rs' : List Res} {R R' : Res} {k : Nat}
theorem Hold.s (O : Hold W h0 m0 h m Rs) : Sub m h := O.S.s
theorem Hold.up (O : Hold W h0 m0 h m Rs) : Sub m0 m := O.S.up
theorem Hold.start (s : Sub m h) : Hold W h m h m [] := ⟨.refl s, No, rfl, fun _ h => h.elim⟩
theorem St.frame (T : St F h m h' m') (h2 : Dj F G) (h3 : ∀ b, G b → b < h.size) (h4 : ∀ b, G b → ¬ Live m b) : (∀ b, G b → h'[b]? = h[b]?) ∧ ∀ b, G b → ¬ Live m' b :=
  ⟨fun b hb => T.fr b (h3 b hb) (fun hf => h2 b hf hb), fun b hb hl => (T.lv b (h3 b hb) hl).elim (h4 b hb) (fun hf => h2 b hf hb)⟩
theorem Hold.get (O : Hold W h0 m0 h m Rs) (k : Nat) (hk : Rs[k]? = some R) : ∃ F, R.p h m F ∧ (∀ b, F b → h0.size ≤ b ∨ W b) ∧
    ∀ {h' m' : Heap} {R' : Res} {F' : Foot}, St F h m h' m' → R'.p h' m' F' → (∀ b, F' b → F b ∨ h.size ≤ b) → Hold W h0 m0 h' m' (Rs.set k R') := by
  obtain ⟨S, FF, hs, hw⟩ := O
  obtain ⟨F1, F2, h1, h2, h3, rfl⟩ := hs.get hk
  refine ⟨F1, h1, fun b hb => hw b (.inl hb), fun {h' m' R' F'} T hp hn => ?_⟩
  obtain ⟨f1, f2⟩ := T.frame h3 h2.lt h2.nl
  have s2 := Sep.fr h2 f1 T.up f2
  have d : Dj F' F2 := fun b hb hc => (hn b hb).elim (fun hf => h3 b hf hc) (fun hl => by have := h2.lt b hc; omega)
  have := Sep.put s2 (set_rE hk) hp d
  rw [List.set_set] at this
  refine ⟨S.then T (fun b _ hb => hw b (.inl hb)), _, this, fun b hb => hb.elim (fun hb => (hn b hb).elim (fun hf => hw b (.inl hf)) (fun hl => .inl (Nat.le_trans S.size hl))) (fun hb => hw b (.inr hb))⟩
theorem Hold.add (O : Hold W h0 m0 h m Rs) (T : St No h m h' m') (hp : R.p h' m' F') (hn : ∀ b, F' b → h.size ≤ b) : Hold W h0 m0 h' m' (Rs ++ [R]) := by
  obtain ⟨S, F, hs, hw⟩ := O
  obtain ⟨f1, f2⟩ := T.frame (G := F) .no hs.lt hs.nl
  refine ⟨S.grow T, _, (Sep.fr hs f1 T.up f2).app (.one hp) (fun b hb hc => by have := hs.lt b hb; have := hn b hc; omega), fun b hb => hb.elim (hw b) (fun hb => .inl (Nat.le_trans S.size (hn b hb)))⟩
theorem Hold.grow (O : Hold W h0 m0 h m Rs) (T : St No h m h' m') : Hold W h0 m0 h' m' Rs := by
  obtain ⟨S, F, hs, hw⟩ := O
  obtain ⟨f1, f2⟩ := T.frame (G := F) .no hs.lt hs.nl
  exact ⟨S.grow T, F, Sep.fr hs f1 T.up f2, hw⟩
theorem Hold.ext (O : Hold W h0 m0 h m Rs) (e : Ext h h') : Hold W h0 m0 h' m Rs := O.grow (St.of_ext O.s e)
theorem Hold.adds (O : Hold W h0 m0 h m Rs) (hp : R.p h m No) : Hold W h0 m0 h m (Rs ++ [R]) := O.add (.refl O.s) hp (fun _ h => h.elim)
theorem Hold.conv (O : Hold W h0 m0 h m Rs) (k : Nat) (hk : Rs[k]? = some R) (H : ∀ F, R.p h m F → ∃ F', R'.p h m F' ∧ ∀ b, F' b → F b) : Hold W h0 m0 h m (Rs.set k R') := by
  obtain ⟨F, h1, _, h3⟩ := O.get k hk
  obtain ⟨F', h4, h5⟩ := H F h1
  exact h3 (.refl O.s) h4 (fun b hb => .inl (h5 b hb))
theorem Hold.pick (O : Hold W h0 m0 h m Rs) (is : List Nat) : Hold W h0 m0 h m (takeL Rs is) := by
  obtain ⟨S, F, hs, hw⟩ := O
  obtain ⟨F1, F2, h1, h2, h3, rfl⟩ := hs.part is
  exact ⟨S, F1, h1, fun b hb => hw b (.inl hb)⟩
theorem Hold.call (O : Hold W h0 m0 h m Rs) (is : List Nat) : ∃ W', Hold W' h m h m (takeL Rs is) ∧ ∀ {h' m' : Heap} {Rs' : List Res}, Hold W' h m h' m' Rs' → Hold W h0 m0 h' m' (dropL Rs is ++ Rs') := by
  obtain ⟨S, F, hs, hw⟩ := O
  obtain ⟨F1, F2, h1, h2, h3, rfl⟩ := hs.part is
  refine ⟨F1, ⟨.refl S.s, F1, h1, fun b hb => .inr hb⟩, fun {h' m' Rs'} O' => ?_⟩
  obtain ⟨T, F', hs', hw'⟩ := O'
  obtain ⟨f1, f2⟩ := T.frame h3 h2.lt h2.nl
  refine ⟨S.then T (fun b _ hb => hw b (.inl hb)), _, (Sep.fr h2 f1 T.up f2).app hs' (fun b hb hc => (hw' b hc).elim (fun hl => by have := h2.lt b hb; omega) (fun hf => h3 b hf hb)), fun b hb => hb.elim (fun hb => hw b (.inr hb)) (fun hb => (hw' b hb).elim (fun hl => .inl (Nat.le_trans S.size hl)) (fun hf => hw b (.inl hf)))⟩
theorem Hold.lend (O : Hold W h0 m0 h m Rs) (is ls : List Nat) : ∃ m1 W', Sub m m1 ∧ Hold W' h m1 h m1 (takeL Rs is) ∧ ZAll m1 (takeL (dropL Rs is) ls) ∧
    (∀ {h' m' : Heap} {Rs' : List Res}, Hold W' h m1 h' m' Rs' → Hold W h0 m0 h' m' (dropL (dropL Rs is) ls ++ Rs')) ∧
    (∀ {h' m' : Heap} {Rs' : List Res}, Hold W' h m1 h' m' Rs' → (∀ R ∈ Rs', R.vf) → Hold W h0 m0 h' m (dropL Rs is ++ Rs')) := by
  obtain ⟨S, F, hs, hw⟩ := O
  obtain ⟨F1, F2, h1, h2, h3, rfl⟩ := hs.part is
  obtain ⟨F3, F4, k1, k2, k3, rfl⟩ := h2.part ls
  have hl : ∀ b, Live (addV m h F3) b → Live m b ∨ F3 b := fun b h => (addV_live h).1
  have n1 : ∀ b, F1 b → ¬ Live (addV m h F3) b := fun b hb hv => (hl b hv).elim (h1.nl b hb) (fun hf => h3 b hb (.inl hf))
  have n4 : ∀ b, F4 b → ¬ Live (addV m h F3) b := fun b hb hv => (hl b hv).elim (k2.nl b hb) (fun hf => k3 b hf hb)
  refine ⟨addV m h F3, F1, addV_up S.s, ⟨.refl addV_sub, F1, Sep.fr h1 (fun _ _ => rfl) (addV_up S.s) n1, fun b hb => .inr hb⟩, k1.fz S.s (fun _ h => h), fun {h' m' Rs'} O' => ?_, fun {h' m' Rs'} O' v => ?_⟩
  · obtain ⟨T, F', hs', hw'⟩ := O'
    have k4 := Sep.fr k2 (fun _ _ => rfl) (addV_up S.s) n4
    obtain ⟨f1, f2⟩ := T.frame h3.ur' k2.lt n4
    refine ⟨(S.then (St.settle S.s F3) (fun b _ hb => hw b (.inr (.inl hb)))).then T (fun b _ hb => hw b (.inl hb)), _, (Sep.fr k4 f1 T.up f2).app hs' (fun b hb hc => (hw' b hc).elim (fun hl => by have := k2.lt b hb; omega) (fun hf => h3 b hf (.inr hb))), fun b hb => hb.elim (fun hb => hw b (.inr (.inr hb))) (fun hb => (hw' b hb).elim (fun hl => .inl (Nat.le_trans S.size hl)) (fun hf => hw b (.inl hf)))⟩
  · obtain ⟨T, F', hs', hw'⟩ := O'
    have T' : St F1 h m h' m := T.unlend S.s h1.nl
    obtain ⟨f1, f2⟩ := T'.frame h3 h2.lt h2.nl
    have n' : ∀ b, F' b → ¬ Live m b := fun b hb hv => (hw' b hb).elim (fun hl => by have := S.s.lt hv; omega) (fun hf => h1.nl b hf hv)
    refine ⟨S.then T' (fun b _ hb => hw b (.inl hb)), _, (Sep.fr h2 f1 T'.up f2).app (hs'.vf v T'.s n') (fun b hb hc => (hw' b hc).elim (fun hl => by have := h2.lt b hb; omega) (fun hf => h3 b hf hb)), fun b hb => hb.elim (fun hb => hw b (.inr hb)) (fun hb => (hw' b hb).elim (fun hl => .inl (Nat.le_trans S.size hl)) (fun hf => hw b (.inl hf)))⟩
end
end Go.Hw

end
section
set_option linter.unusedVariables false
namespace Go.Hw
open Go
structure Asn (α : Type) (sz : Nat) where
  p : Heap → Heap → α → List Value → Foot → Prop
  E : Heap → α → List Value → Prop
  T : Tell sz E
  len : ∀ {h m x cs F}, p h m x cs F → cs.length = sz
  flat : ∀ {h m x cs F}, p h m x cs F → ∀ v ∈ cs, Flat v
  lt : ∀ {h m x cs F}, p h m x cs F → ∀ b, F b → b < h.size
  nl : ∀ {h m x cs F}, p h m x cs F → ∀ b, F b → ¬ Live m b
  fr : ∀ {h m x cs F h' m'}, p h m x cs F → (∀ b, F b → h'[b]? = h[b]?) → Sub m m' → (∀ b, F b → ¬ Live m' b) → p h' m' x cs F
  fz : ∀ {h m x cs F G}, p h m x cs F → Sub m h → (∀ b, F b → G b) → E (addV m h G) x cs
def aE {α : Type} {sz : Nat} {E : Heap → α → List Value → Prop} (T : Tell sz E) : Asn α sz where
  p _ m x cs F := E m x cs ∧ F = No
  E := E
  T := T
  len h := T.len _ _ _ h.1
  flat h := T.flat _ _ _ h.1
  lt := by rintro h m x cs F ⟨_, rfl⟩ b hb; exact hb.elim
  nl := by rintro h m x cs F ⟨_, rfl⟩ b hb; exact hb.elim
  fr := fun h _ s _ => ⟨T.mono _ _ _ _ s h.1, h.2⟩
  fz := fun h s _ => T.mono _ _ _ _ (addV_up s) h.1
theorem Blk.fr {h h' : Heap} {b : Nat} {c : List Value} {t : TypeId} (hb : Blk h b c t) (e : h'[b]? = h[b]?) : Blk h' b c t := by unfold Blk at *; rw [e]; exact hb
def rV (b : Nat) (t : TypeId) (cs : List Value) : Res where
  p h m F := Blk h b cs t ∧ ¬ Live m b ∧ F = fb b
  z m := Blk m b cs t
  lt := by rintro h m F ⟨h1, _, rfl⟩ i hi; unfold fb at hi; subst hi; exact h1.lt
  nl := by rintro h m F ⟨h1, h2, rfl⟩ i hi; unfold fb at hi; subst hi; exact h2
  fr := by rintro h m F h' m' ⟨h1, h2, rfl⟩ k1 _ k3; exact ⟨h1.fr (k1 b rfl), k3 b rfl, rfl⟩
  fz := by rintro h m F G ⟨h1, h2, rfl⟩ _ k2; exact h1.settle (k2 b rfl)
section
variable {α : Type} {sz : Nat}
def CsA (a : Asn α sz) (h m : Heap) : List α → List Value → Foot → Prop
  | [], cs, F => cs = [] ∧ F = No
  | x :: l, cs, F => ∃ c1 c2 F1 F2, cs = c1 ++ c2 ∧ a.p h m x c1 F1 ∧ CsA a h m l c2 F2 ∧ Dj F1 F2 ∧ F = U F1 F2
variable {a : Asn α sz} {h h' m m' : Heap} {l l' : List α} {cs ds : List Value} {F F' F1 F2 G : Foot} {x y : α}
theorem CsA.len : ∀ {l : List α} {cs : List Value} {F : Foot}, CsA a h m l cs F → cs.length = l.length * sz
  | [], _, _, ⟨e, _⟩ => by rw [e]; simp
  | x :: l, _, _, ⟨c1, c2, F1, F2, e, h1, h2, _, _⟩ => by rw [e, List.length_append, CsA.len h2, a.len h1, List.length_cons, Nat.succ_mul, Nat.add_comm]
theorem CsA.flat : ∀ {l : List α} {cs : List Value} {F : Foot}, CsA a h m l cs F → ∀ v ∈ cs, Flat v
  | [], _, _, ⟨e, _⟩ => by rw [e]; exact Flats.nil
  | x :: l, _, _, ⟨c1, c2, F1, F2, e, h1, h2, _, _⟩ => by
    rw [e]; intro v hv
    rcases List.mem_append.1 hv with hv | hv
    · exact a.flat h1 v hv
    · exact CsA.flat h2 v hv
theorem CsA.lt : ∀ {l : List α} {cs : List Value} {F : Foot}, CsA a h m l cs F → ∀ b, F b → b < h.size
  | [], _, _, ⟨_, e⟩, b, hb => by rw [e] at hb; exact hb.elim
  | x :: l, _, _, ⟨c1, c2, F1, F2, _, h1, h2, _, rfl⟩, b, hb => hb.elim (a.lt h1 b) (CsA.lt h2 b)
theorem CsA.nl : ∀ {l : List α} {cs : List Value} {F : Foot}, CsA a h m l cs F → ∀ b, F b → ¬ Live m b
  | [], _, _, ⟨_, e⟩, b, hb => by rw [e] at hb; exact hb.elim
  | x :: l, _, _, ⟨c1, c2, F1, F2, _, h1, h2, _, rfl⟩, b, hb => hb.elim (a.nl h1 b) (CsA.nl h2 b)
theorem CsA.fr : ∀ {l : List α} {cs : List Value} {F : Foot}, CsA a h m l cs F → (∀ b, F b → h'[b]? = h[b]?) → Sub m m' → (∀ b, F b → ¬ Live m' b) → CsA a h' m' l cs F
  | [], _, _, hs, _, _, _ => hs
  | x :: l, _, _, ⟨c1, c2, F1, F2, e, h1, h2, d, rfl⟩, k1, k2, k3 => ⟨c1, c2, F1, F2, e, a.fr h1 (fun b hb => k1 b (.inl hb)) k2 (fun b hb => k3 b (.inl hb)), CsA.fr h2 (fun b hb => k1 b (.inr hb)) k2 (fun b hb => k3 b (.inr hb)), d, rfl⟩
theorem CsA.fz : ∀ {l : List α} {cs : List Value} {F : Foot}, CsA a h m l cs F → Sub m h → (∀ b, F b → G b) → CsE sz a.E (addV m h G) l cs
  | [], _, _, ⟨e, _⟩, _, _ => e
  | x :: l, _, _, ⟨c1, c2, F1, F2, e, h1, h2, d, rfl⟩, k1, k2 => ⟨c1, c2, e, a.len h1, a.fz h1 k1 (fun b hb => k2 b (.inl hb)), CsA.fz h2 k1 (fun b hb => k2 b (.inr hb))⟩
theorem CsA.append : ∀ {l : List α} {cs : List Value} {F : Foot}, CsA a h m l cs F → CsA a h m l' ds F' → Dj F F' → CsA a h m (l ++ l') (cs ++ ds) (U F F')
  | [], _, _, ⟨e, e'⟩, h', _ => by subst e; subst e'; rw [U.no_left]; exact h'
  | x :: l, _, _, ⟨c1, c2, F1, F2, e, h1, h2, d, e'⟩, h', dd => by
    subst e; subst e'
    rw [List.append_assoc]
    exact ⟨c1, _, F1, _, rfl, h1, CsA.append h2 h' dd.ur, Dj.u' d dd.ul, U.assoc⟩
theorem CsA.drop : ∀ {l : List α} {cs : List Value} {F : Foot} (k : Nat), CsA a h m l cs F → ∃ F', CsA a h m (l.drop k) (cs.drop (k * sz)) F' ∧ ∀ b, F' b → F b
  | [], _, F, k, ⟨e, e'⟩ => by subst e; subst e'; exact ⟨No, by simp [CsA], fun _ h => h⟩
  | x :: l, _, F, 0, hh => by rw [Nat.zero_mul, List.drop_zero, List.drop_zero]; exact ⟨F, hh, fun _ h => h⟩
  | x :: l, _, F, k + 1, ⟨c1, c2, F1, F2, e, h1, h2, d, e'⟩ => by
    obtain ⟨F', h3, h4⟩ := CsA.drop k h2
    refine ⟨F', ?_, fun b hb => by rw [e']; exact .inr (h4 b hb)⟩
    rw [e, show (k + 1) * sz = c1.length + k * sz by rw [a.len h1, Nat.succ_mul, Nat.add_comm], ← List.drop_drop (l := c1 ++ c2), List.drop_left, List.drop_succ_cons]
    exact h3
theorem CsA.take : ∀ {l : List α} {cs : List Value} {F : Foot} (k : Nat), CsA a h m l cs F → ∃ F', CsA a h m (l.take k) (cs.take (k * sz)) F' ∧ ∀ b, F' b → F b
  | [], _, F, k, ⟨e, e'⟩ => by subst e; subst e'; exact ⟨No, by simp [CsA], fun _ h => h⟩
  | x :: l, _, F, 0, hh => ⟨No, by simp [CsA], fun _ h => h.elim⟩
  | x :: l, _, F, k + 1, ⟨c1, c2, F1, F2, e, h1, h2, d, e'⟩ => by
    obtain ⟨F', h3, h4⟩ := CsA.take k h2
    refine ⟨U F1 F', ?_, fun b hb => by rw [e']; exact hb.elim .inl (fun hb => .inr (h4 b hb))⟩
    rw [e, show (k + 1) * sz = c1.length + k * sz by rw [a.len h1, Nat.succ_mul, Nat.add_comm], List.take_length_add_append, List.take_succ_cons]
    exact ⟨c1, _, F1, F', rfl, h1, h3, d.mono (fun _ h => h) h4, rfl⟩
theorem CsE.csa {E : Heap → α → List Value → Prop} {T : Tell sz E} : ∀ {l : List α} {cs : List Value}, CsE sz E m l cs → CsA (aE T) h m l cs No
  | [], _, e => ⟨e, rfl⟩
  | x :: l, _, ⟨c1, c2, e, h1, h2, h3⟩ => ⟨c1, c2, No, No, e, ⟨h2, rfl⟩, CsE.csa h3, .no, U.no_left.symm⟩
theorem CsA.cse {E : Heap → α → List Value → Prop} {T : Tell sz E} : ∀ {l : List α} {cs : List Value} {F : Foot}, CsA (aE T) h m l cs F → CsE sz E m l cs ∧ F = No
  | [], _, _, ⟨e, e'⟩ => ⟨e, e'⟩
  | x :: l, _, _, ⟨c1, c2, F1, F2, e, ⟨h1, h1'⟩, h2, _, e'⟩ => by
    obtain ⟨h3, h3'⟩ := CsA.cse h2
    subst h1'; subst h3'
    exact ⟨⟨c1, c2, e, T.len _ _ _ h1, h1, h3⟩, by rw [e', U.no_left]⟩
end
section
variable {α : Type} {sz : Nat}
def rowP (a : Asn α sz) (A : Option Addr) (c : Nat) (l : List α) (h m : Heap) (F : Foot) : Prop :=
  (l = [] ∧ c = 0 ∧ F = No) ∨ ∃ b t pre cs rest Fe, c ≠ 0 ∧ A = some ⟨b, pre.length, none⟩ ∧ Blk h b (pre ++ cs ++ rest) t ∧ CsA a h m l cs Fe ∧ l.length ≤ c ∧ (c - l.length) * sz ≤ rest.length ∧ ¬ Live m b ∧ ¬ Fe b ∧ F = U (fb b) Fe
def rR (a : Asn α sz) (A : Option Addr) (c : Nat) (l : List α) : Res where
  p := rowP a A c l
  z m := Rd sz a.E m A l ∧ l.length ≤ c
  lt := by
    rintro h m F (⟨_, _, rfl⟩ | ⟨b, t, pre, cs, rest, Fe, k0, k1, k2, k3, k4, k5, k6, k7, rfl⟩) i hi
    · exact hi.elim
    · rcases hi with hi | hi
      · unfold fb at hi; subst hi; exact k2.lt
      · exact k3.lt i hi
  nl := by
    rintro h m F (⟨_, _, rfl⟩ | ⟨b, t, pre, cs, rest, Fe, k0, k1, k2, k3, k4, k5, k6, k7, rfl⟩) i hi
    · exact hi.elim
    · rcases hi with hi | hi
      · unfold fb at hi; subst hi; exact k6
      · exact k3.nl i hi
  fr := by
    rintro h m F h' m' (⟨e1, e2, rfl⟩ | ⟨b, t, pre, cs, rest, Fe, k0, k1, k2, k3, k4, k5, k6, k7, rfl⟩) f1 f2 f3
    · exact .inl ⟨e1, e2, rfl⟩
    · exact .inr ⟨b, t, pre, cs, rest, Fe, k0, k1, k2.fr (f1 b (.inl rfl)), k3.fr (fun i hi => f1 i (.inr hi)) f2 (fun i hi => f3 i (.inr hi)), k4, k5, f3 b (.inl rfl), k7, rfl⟩
  fz := by
    rintro h m F G (⟨e1, e2, rfl⟩ | ⟨b, t, pre, cs, rest, Fe, k0, k1, k2, k3, k4, k5, k6, k7, rfl⟩) f1 f2
    · subst e1; exact ⟨.nil, Nat.zero_le _⟩
    · subst k1
      exact ⟨CsE.rd (k2.settle (f2 b (.inl rfl))) (k3.fz f1 (fun i hi => f2 i (.inr hi))) (fun _ _ h => h), k4⟩
variable {a : Asn α sz} {h h' h0 m m' m0 : Heap} {A : Option Addr} {c n k : Nat} {l l' : List α} {F F' G W : Foot} {x : Int} {y : α} {v : Value} {cs : List Value} {Rs : List Res} {b : Nat} {t : TypeId} {aa : Addr}
variable {E : Heap → α → List Value → Prop} {T : Tell sz E}
theorem rowP.cap (o : rowP a A c l h m F) : l.length ≤ c := by
  rcases o with ⟨rfl, rfl, _⟩ | ⟨b, t, pre, cs, rest, Fe, k0, k1, k2, k3, k4, _⟩
  · exact Nat.le_refl _
  · exact k4
theorem rowP.os (o : rowP (aE T) A c l h m F) (hw : ∀ b, F b → h0.size ≤ b ∨ W b) : OS W h0 sz E h m A l c ∧ F = fp A c := by
  rcases o with ⟨rfl, rfl, rfl⟩ | ⟨b, t, pre, cs, rest, Fe, k0, k1, k2, k3, k4, k5, k6, k7, rfl⟩
  · exact ⟨.inl ⟨rfl, rfl⟩, funext fun b => propext ⟨fun h => h.elim, fun h => h.1 rfl⟩⟩
  · obtain ⟨k8, rfl⟩ := k3.cse
    refine ⟨.inr ⟨b, t, pre, cs, rest, k1, k2, k8, k4, k5, hw b (.inl rfl), k6⟩, ?_⟩
    rw [U.no_right]
    subst k1
    exact funext fun i => propext ⟨fun hi => ⟨k0, _, rfl, hi.symm⟩, fun ⟨_, a, e, hi⟩ => by cases e; exact hi.symm⟩
theorem Hold.os (O : Hold W h0 m0 h m Rs) (k : Nat) (hk : Rs[k]? = some (rR (aE T) A c l)) : OS W h0 sz E h m A l c := by
  obtain ⟨F, h1, h2, _⟩ := O.get k hk
  exact (rowP.os h1 h2).1
theorem Hold.ob (O : Hold W h0 m0 h m Rs) (k : Nat) (hk : Rs[k]? = some (rV b t cs)) : OB W h0 h m b cs t := by
  obtain ⟨F, ⟨h1, h3, rfl⟩, h2, _⟩ := O.get k hk
  exact ⟨h1, h2 b rfl, h3⟩
theorem Hold.cap (O : Hold W h0 m0 h m Rs) (k : Nat) (hk : Rs[k]? = some (rR a A c l)) : l.length ≤ c := by
  obtain ⟨F, h1, _⟩ := O.get k hk
  exact rowP.cap h1
theorem Hold.all (O : Hold W h0 m0 h m Rs) (k : Nat) (hk : Rs[k]? = some (rV b t cs)) : cellsH h ⟨b, 0, none⟩ 0 cs.length = some cs := (O.ob k hk).all
theorem Hold.setV (O : Hold W h0 m0 h m Rs) (k : Nat) (hk : Rs[k]? = some (rV b t cs)) {cs' : List Value} (o : OB W h0 h' m b cs' t) (S : St (fb b) h m h' m) : Hold W h0 m0 h' m (Rs.set k (rV b t cs')) := by
  obtain ⟨F, ⟨h1, h3, rfl⟩, h2, h4⟩ := O.get k hk
  exact h4 S ⟨o.1, o.2.2, rfl⟩ (fun _ h => .inl h)
variable {K : Heap → Prop}
theorem Hold.new {z : Array Value} (O : Hold W h0 m0 h m Rs) (H : ∀ h', Ext h h' → Hold W h0 m0 h' m (Rs ++ [rV h.size t z.toList]) → K h') : newH h (.cells z t) K :=
  newH_in fun h' hb e hs => H h' e (O.add (St.of_ext O.s e) ⟨hb, St.notLive O.s, rfl⟩ (fun i hi => by unfold fb at hi; omega))
theorem Hold.stA (O : Hold W h0 m0 h m Rs) (k : Nat) (hk : Rs[k]? = some (rV b t cs)) {ds : List Value} (hn : ds.length = cs.length) (hf : ∀ v ∈ ds, Flat v) (H : ∀ h', Hold W h0 m0 h' m (Rs.set k (rV b t ds)) → K h') : ∃ h', stH h ⟨b, 0, none⟩ ds 0 = some h' ∧ K h' := by
  obtain ⟨h', h1, h2, h3⟩ := (O.ob k hk).stA O.s ds hn hf
  exact ⟨h', h1, H h' (O.setV k hk h2 h3)⟩
theorem Hold.nil (O : Hold W h0 m0 h m Rs) (a : Asn α sz) (A : Option Addr) : Hold W h0 m0 h m (Rs ++ [rR a A 0 []]) := O.adds (R := rR a A 0 []) (.inl ⟨rfl, rfl, rfl⟩)
theorem Hold.row (O : Hold W h0 m0 h m Rs) (k : Nat) (hk : Rs[k]? = some (rV b t cs)) (a : Asn α sz) (hc : ∃ F, CsA a h m l cs F ∧ F = No) (hn : l.length = c) (h0' : c ≠ 0) : Hold W h0 m0 h m (Rs.set k (rR a (some ⟨b, 0, none⟩) c l)) :=
  O.conv k hk (R' := rR a (some ⟨b, 0, none⟩) c l) fun F hF => by
    obtain ⟨h1, h2, rfl⟩ := hF
    obtain ⟨_, hc, rfl⟩ := hc
    exact ⟨_, .inr ⟨b, t, [], cs, [], No, h0', rfl, by simpa using h1, hc, by omega, by simp [hn], h2, fun h => h, rfl⟩, fun i hi => hi.elim id (fun h => h.elim)⟩
theorem Hold.rowE (O : Hold W h0 m0 h m Rs) (k : Nat) (hk : Rs[k]? = some (rV b t cs)) (T : Tell sz E) (hc : CsE sz E m l cs) (hn : l.length = c) : Hold W h0 m0 h m (Rs.set k (rR (aE T) (some ⟨b, 0, none⟩) c l)) := by
  by_cases h0' : c = 0
  · subst h0'
    refine O.conv k hk (R' := rR (aE T) (some ⟨b, 0, none⟩) 0 l) fun F _ => ⟨No, .inl ⟨List.length_eq_zero_iff.1 hn, rfl, rfl⟩, fun _ h => h.elim⟩
  · exact O.row k hk (aE T) ⟨No, hc.csa, rfl⟩ hn h0'
theorem rowP.sl {lo hi : Int} {mx : Nat} (o : rowP a A c l h m F) (h1 : 0 ≤ lo) (h2 : lo ≤ hi) (h3 : hi ≤ (l.length : Int)) (h4 : hi.toNat ≤ mx) (h5 : mx ≤ c) : ∃ F', rowP a (sliceA A (Int.toNat lo) mx sz) (mx - Int.toNat lo) (Hw.sl l lo hi) h m F' ∧ ∀ b, F' b → F b := by
  rcases o with ⟨rfl, rfl, rfl⟩ | ⟨b, t, pre, cs, rest, Fe, k0, rfl, k1, k2, k3, k4, k5, k6, rfl⟩
  · exact ⟨No, .inl ⟨by unfold Hw.sl; simp, by omega, rfl⟩, fun _ h => h⟩
  by_cases hm : mx = lo.toNat
  · exact ⟨No, .inl ⟨List.length_eq_zero_iff.1 (by rw [← sl_len h1 h2 h3]; omega), by omega, rfl⟩, fun _ h => h.elim⟩
  have hl := k2.len
  have e1 : (cs.take (lo.toNat * sz)).length = lo.toNat * sz := by
    rw [List.length_take, hl]; have := Nat.mul_le_mul_right sz (show lo.toNat ≤ l.length by omega); omega
  have e2 : hi.toNat * sz ≤ l.length * sz := Nat.mul_le_mul_right _ (by omega)
  have e3 : lo.toNat * sz ≤ hi.toNat * sz := Nat.mul_le_mul_right _ (by omega)
  obtain ⟨F1, q1, q2⟩ := k2.take hi.toNat
  obtain ⟨F2, q3, q4⟩ := q1.drop lo.toNat
  refine ⟨U (fb b) F2, .inr ⟨b, t, pre ++ cs.take (lo.toNat * sz), (cs.take (hi.toNat * sz)).drop (lo.toNat * sz), cs.drop (hi.toNat * sz) ++ rest, F2, by omega, ?_, ?_, q3, sl_cap h1 h2 h3 h4, ?_, k5, fun hb => k6 (q2 b (q4 b hb)), rfl⟩, fun i hi => hi.elim .inl (fun hi => .inr (q2 i (q4 i hi)))⟩
  · unfold sliceA
    rw [if_neg hm, Option.map_some, List.length_append, e1]
    unfold Addr.add
    split
    · rename_i h9; rw [h9]; rfl
    · rfl
  · have : pre ++ cs.take (lo.toNat * sz) ++ (cs.take (hi.toNat * sz)).drop (lo.toNat * sz) ++ (cs.drop (hi.toNat * sz) ++ rest) = pre ++ cs ++ rest := by
      have e4 : cs.take (lo.toNat * sz) = (cs.take (hi.toNat * sz)).take (lo.toNat * sz) := by rw [List.take_take, Nat.min_eq_left e3]
      rw [e4, List.append_assoc pre, List.take_append_drop, ← List.append_assoc, List.append_assoc pre, List.take_append_drop]
    rw [this]; exact k1
  · rw [List.length_append, List.length_drop, hl, ← sl_len h1 h2 h3]
    have e5 : (mx - lo.toNat - (hi.toNat - lo.toNat)) * sz + hi.toNat * sz ≤ c * sz := by rw [← Nat.add_mul]; exact Nat.mul_le_mul_right _ (by omega)
    have e6 : (c - l.length) * sz + l.length * sz = c * sz := by rw [← Nat.add_mul, Nat.sub_add_cancel k3]
    omega
theorem Hold.sls {lo hi : Int} (O : Hold W h0 m0 h m Rs) (k : Nat) (hk : Rs[k]? = some (rR a A c l)) (g : sls l lo hi = some l') : Hold W h0 m0 h m (Rs.set k (rR a (sliceA A (Int.toNat lo) c sz) (c - Int.toNat lo) l')) := by
  have hc := O.cap k hk
  obtain ⟨h1, h2, h3, _, rfl⟩ := sls_e g
  exact O.conv k hk (R' := rR a (sliceA A (Int.toNat lo) c sz) (c - Int.toNat lo) (Hw.sl l lo hi)) fun F hF => rowP.sl hF h1 h2 h3 (by omega) (Nat.le_refl _)
end
section
variable {α : Type} {sz : Nat} {a : Asn α sz} {h h' h0 m m' m0 : Heap} {A : Option Addr} {c n k : Nat} {l l' xs : List α} {F F' G W : Foot} {x : Int} {y : α} {v X : Value} {cs es : List Value} {Rs : List Res} {b : Nat} {t e : TypeId} {aa : Addr}
variable {E : Heap → α → List Value → Prop} {T : Tell sz E}
theorem rowP.app {bytes : Nat} {z : Array Value} {K : Value → Heap → Prop} {F2 : Foot} (o : rowP a A c l h m F) (s : Sub m h) (hn : n = l.length) (hz : z.size = sz) (h1 : srcCells sz X h = some (xs.length, es)) (h2 : CsA a h m xs es F2) (hd : Dj F F2) (hb0 : 0 < bytes) (g : ap bytes l xs = some l')
    (hk : ∀ A' c' h' F', rowP a A' c' l' h' m F' → St F h m h' m → (∀ b, F' b → F b ∨ F2 b ∨ h.size ≤ b) → K (.slice A' l'.length c') h') : AppW e sz bytes z A n c X h K := by
  subst hn
  obtain ⟨hb, rfl⟩ := ap_e g
  have he := h2.len
  refine ⟨xs.length, es, h1, ?_⟩
  have hpush : ∀ (old : List Value) (Fo : Foot) (hold : oldCells sz A l.length h = some old) (hE : CsA a h m l old Fo) (hFo : ∀ b, Fo b → F b), c < l.length + xs.length →
      ∃ old, oldCells sz A l.length h = some old ∧ ∀ c', l.length + xs.length ≤ c' → K (.slice (some ⟨h.size, 0, none⟩) (l.length + xs.length) c') (h.push (.cells (old.toArray ++ es.toArray ++ zcells z (c' - (l.length + xs.length))) e)) := by
    intro old Fo hold hE hFo hlt
    refine ⟨old, hold, fun c' hc' => ?_⟩
    rw [show (Value.slice (some ⟨h.size, 0, none⟩) (l.length + xs.length) c') = .slice (some ⟨h.size, 0, none⟩) (l ++ xs).length c' by rw [List.length_append]]
    have e1 := Ext.push h (Obj.cells (old.toArray ++ es.toArray ++ zcells z (c' - (l.length + xs.length))) e)
    have S1 := St.of_ext (W := F) s e1
    have hA := hE.append h2 (hd.mono hFo (fun _ h => h))
    have hA' := hA.fr (fun i hi => e1.2 i (hA.lt i hi)) (.refl _) (fun i hi => hA.nl i hi)
    refine hk _ _ _ _ (.inr ⟨h.size, e, [], old ++ es, (zcells z (c' - (l.length + xs.length))).toList, _, by omega, rfl, ?_, hA', by rw [List.length_append]; exact hc', ?_, St.notLive s, fun hf => by have := hA.lt _ hf; omega, rfl⟩) S1 ?_
    · have := Blk.new h (old.toArray ++ es.toArray ++ zcells z (c' - (l.length + xs.length))) e
      simpa using this
    · rw [zc_len, hz, List.length_append]; exact Nat.le_refl _
    · rintro i (hi | hi | hi)
      · unfold fb at hi; exact .inr (.inr (by omega))
      · exact .inl (hFo i hi)
      · exact .inr (.inl hi)
  rcases o with ⟨rfl, rfl, rfl⟩ | ⟨b, t, pre, cs, rest, Fe, k0, rfl, k1, k2, k3, k4, k5, k6, rfl⟩
  · by_cases hx : xs.length = 0
    · have hxs : xs = [] := List.length_eq_zero_iff.1 hx
      subst hxs
      obtain ⟨rfl, rfl⟩ : es = [] ∧ F2 = No := h2
      refine .inl ⟨by simp, ?_⟩
      have fin := hk A 0 h No (.inl ⟨rfl, rfl, rfl⟩) (St.refl s) (fun b hb => .inl hb)
      cases A with
      | none => exact .inl ⟨rfl, fin⟩
      | some a => exact .inr ⟨a, h, rfl, by simp [stH], fin⟩
    · refine .inr ⟨by simp; omega, by simpa using hb, hb0, ?_⟩
      refine hpush [] No ?_ ⟨rfl, rfl⟩ (fun _ h => h) (by simp; omega)
      cases A with
      | none => rfl
      | some a => simp [oldCells, cellsH]
  · have hl := k2.len
    by_cases hle : l.length + xs.length ≤ c
    · refine .inl ⟨hle, .inr ?_⟩
      have hmul : (c - l.length) * sz = xs.length * sz + (c - l.length - xs.length) * sz := by rw [← Nat.add_mul]; congr 1; omega
      have k1' : Blk h b ((pre ++ cs) ++ rest.take (xs.length * sz) ++ rest.drop (xs.length * sz)) t := by rw [List.append_assoc, List.take_append_drop]; exact k1
      obtain ⟨h', s1, b1, o1⟩ := Blk.stH es (a := (⟨b, pre.length, none⟩ : Addr).add (l.length * sz)) (i := 0) k1' (by rw [add_block]) (add_spot _ rfl) (by rw [add_off, List.length_append, hl, Nat.add_zero]) (by rw [List.length_take, he]; omega) (h2.flat)
      refine ⟨_, h', rfl, s1, ?_⟩
      rw [show (Value.slice (some ⟨b, pre.length, none⟩) (l.length + xs.length) c) = .slice (some ⟨b, pre.length, none⟩) (l ++ xs).length c by rw [List.length_append]]
      have S : St (fb b) h m h' m := .only s k5 o1
      have S2 : St (U (fb b) Fe) h m h' m := ⟨S.up, S.s, S.size, fun i hi hn => S.fr i hi (fun h => hn (.inl h)), fun i hi hl => .inl hl⟩
      have hA := k2.append h2 hd.ur
      have nb : ∀ i, U Fe F2 i → i ≠ b := fun i hi e' => by subst e'; exact hi.elim k6 (fun hf => hd i (.inl rfl) hf)
      have hA' := hA.fr (fun i hi => S.fr i (hA.lt i hi) (fun e' => nb i hi e')) (.refl _) (fun i hi => hA.nl i hi)
      refine hk _ _ _ _ (.inr ⟨b, t, pre, cs ++ es, rest.drop (xs.length * sz), _, k0, rfl, by rw [← List.append_assoc pre]; exact b1, hA', by rw [List.length_append]; exact hle, ?_, k5, fun hf => nb b hf rfl, rfl⟩) S2 ?_
      · rw [List.length_drop, List.length_append, show c - (l.length + xs.length) = c - l.length - xs.length by omega]; omega
      · rintro i (hi | hi | hi)
        · exact .inl (.inl hi)
        · exact .inl (.inr hi)
        · exact .inr (.inl hi)
    · refine .inr ⟨by omega, hb, hb0, ?_⟩
      refine hpush cs Fe ?_ k2 (fun _ h => .inr h) (by omega)
      have := k1.cells (a := ⟨b, pre.length, none⟩) rfl rfl (l.length * sz) 0 (by simp [hl])
      simp only [oldCells, this, Nat.add_zero]
      rw [List.append_assoc, List.drop_left, List.take_append_of_le_length (by omega), List.take_of_length_le (by omega)]
variable {K : Value → Heap → Prop} {bytes : Nat} {z : Array Value}
theorem Hold.app (O : Hold W h0 m0 h m Rs) (k : Nat) (hk : Rs[k]? = some (rR (aE T) A c l)) (hn : n = l.length) (hz : z.size = sz) (hs : Src sz E h m X xs) (hb0 : 0 < bytes) (g : ap bytes l xs = some l')
    (H : ∀ A' c' h', Hold W h0 m0 h' m (Rs.set k (rR (aE T) A' c' l')) → K (.slice A' l'.length c') h') : AppW e sz bytes z A n c X h K := by
  obtain ⟨F, h1, h2, h3⟩ := O.get k hk
  obtain ⟨es, s1, s2⟩ := hs
  refine rowP.app h1 O.s hn hz s1 (s2.csa (T := T)) .no' hb0 g fun A' c' h' F' q1 q2 q3 => H A' c' h' (h3 (R' := rR (aE T) A' c' l') q2 q1 fun b hb => ?_)
  rcases q3 b hb with hb | hb | hb
  · exact .inl hb
  · exact hb.elim
  · exact .inr hb
end
end Go.Hw

end
section
set_option linter.unusedVariables false
namespace Go.Hw
open Go
section
variable {m h : Heap} {a : Addr} {cs ds : List Value} {N n k j : Nat} {v : Value}
theorem ldAn (s : Sub m h) (hc : cellsH m a 0 N = some cs) (hn : N = n) : ldv true n h a = some (.agg cs.toArray) := by subst hn; exact ldA s hc
theorem ldAkn (s : Sub m h) (hc : cellsH m a 0 N = some cs) (k j : Nat) (hk : k + j ≤ N) : ldv true j h (Addr.add a k) = some (.agg ((cs.drop k).take j).toArray) := ldAk s hc hk
theorem ldA0n (s : Sub m h) (hc : cellsH m a 0 N = some cs) (j : Nat) (hk : 0 + j ≤ N) : ldv true j h a = some (.agg ((cs.drop 0).take j).toArray) := ldAk (k := 0) s hc hk
end
section
variable {α : Type} {sz : Nat} {a : Asn α sz} {h h' h0 m m' m0 : Heap} {A Ai : Option Addr} {c ci n k : Nat} {l li : List α} {ll ll' : List (List α)} {W : Foot} {x : Int} {y : α} {v : Value} {cs : List Value} {Rs Rs' : List Res} {b : Nat} {t : TypeId} {aa : Addr} {K : Heap → Prop}
variable {E : Heap → α → List Value → Prop} {T : Tell sz E}
theorem Hold.ret (O : Hold W h0 m0 h m Rs) (Q : Hold No h m h' m' Rs') : Hold W h0 m0 h' m' (Rs ++ Rs') := by
  obtain ⟨W', h1, h2⟩ := O.call []
  simp only [dropL, takeL] at h1 h2
  exact h2 ⟨⟨Q.S.up, Q.S.s, Q.S.size, fun b hb _ => Q.S.fr b hb (fun h => h), fun b hb hl => (Q.S.lv b hb hl).elim .inl (fun h => h.elim)⟩, by
    obtain ⟨F, k1, k2⟩ := Q.q
    exact ⟨F, k1, fun b hb => (k2 b hb).elim .inl (fun h => h.elim)⟩⟩
theorem vfs_nil : ∀ R ∈ ([] : List Res), R.vf := fun _ h => by cases h
theorem Hold.retC (O : Hold W h0 m0 h m Rs) (Q : Hold No h m h' m' Rs') (v : ∀ R ∈ Rs', R.vf) : Hold W h0 m0 h' m (Rs ++ Rs') := by
  obtain ⟨m1, W', h1, h2, _, _, h5⟩ := O.lend [] []
  have s1 : Hold No h m h' m Rs' := by
    refine ⟨Q.S.unlend O.s (fun _ h => h.elim), ?_⟩
    obtain ⟨F, k1, k2⟩ := Q.q
    have T := Q.S.unlend O.s (fun _ h => h.elim)
    exact ⟨F, k1.vf v T.s (fun b hb hl => (k2 b hb).elim (fun h => by have := O.s.lt hl; omega) (fun h => h.elim)), k2⟩
  exact O.ret s1
theorem Hold.lend0 (O : Hold W h0 m0 h m Rs) (ls : List Nat) : ∃ m1, Sub m m1 ∧ Sub m1 h ∧ ZAll m1 (takeL Rs ls) ∧
    (∀ {h' m' : Heap} {Rs' : List Res}, Hold No h m1 h' m' Rs' → Hold W h0 m0 h' m' (dropL Rs ls ++ Rs')) ∧
    (∀ {h' m' : Heap} {Rs' : List Res}, Hold No h m1 h' m' Rs' → (∀ R ∈ Rs', R.vf) → Hold W h0 m0 h' m (Rs ++ Rs')) := by
  obtain ⟨m1, W', h1, h2, h3, h4, h5⟩ := O.lend [] ls
  simp only [dropL, takeL] at h2 h3 h4 h5
  have up : ∀ {h' m' : Heap} {Rs' : List Res}, Hold No h m1 h' m' Rs' → Hold W' h m1 h' m' Rs' := fun Q =>
    ⟨⟨Q.S.up, Q.S.s, Q.S.size, fun b hb _ => Q.S.fr b hb (fun h => h), fun b hb hl => (Q.S.lv b hb hl).elim .inl (fun h => h.elim)⟩, by
      obtain ⟨F, k1, k2⟩ := Q.q
      exact ⟨F, k1, fun b hb => (k2 b hb).elim .inl (fun h => h.elim)⟩⟩
  exact ⟨m1, h1, h2.s, h3, fun Q => h4 (up Q), fun Q v => h5 (up Q) v⟩
theorem Hold.recell (O : Hold W h0 m0 h m Rs) (k : Nat) (hk : Rs[k]? = some (rV b t cs)) {cs' : List Value} (e : cs = cs') : Hold W h0 m0 h m (Rs.set k (rV b t cs')) := by
  subst e
  exact O.conv k hk (R' := rV b t cs) fun F hF => ⟨F, hF, fun _ h => h⟩
end
section
variable {κ ν : Type} [DecidableEq κ] {h h' m m' h0 m0 : Heap} {b k : Nat} {W : Foot} {kv : κ → Value} {es : List (κ × ν)} {q : κ} {x zv : ν} {v z : Value} {P : Program} {t elem : TypeId} {EV : Heap → ν → Value → Prop} {M : MonoV EV} {Rs : List Res}
def FM (EV : Heap → ν → Value → Prop) (kv : κ → Value) (m : Heap) (b : Nat) (es : List (κ × ν)) : Prop := ∃ vs, MapB kv m b vs ∧ MR (EV m) es vs
end
end Go.Hw
namespace Go.Hw
theorem le_len {α : Type} {l : List α} {n k j : Nat} (h : l.length = n) (hk : k + j ≤ n) : k + j ≤ l.length := by omega
end Go.Hw
namespace Go.Hw
open Go
class SetAt (k : Nat) (L : List Res) (r : Res) (out : outParam (List Res)) : Prop where
  eq : L.set k r = out
instance {a r : Res} {l : List Res} : SetAt 0 (a :: l) r (r :: l) := ⟨rfl⟩
instance {k : Nat} {a r : Res} {l o : List Res} [S : SetAt k l r o] : SetAt (k + 1) (a :: l) r (a :: o) := ⟨by rw [List.set_cons_succ, S.eq]⟩
class GetAt (k : Nat) (L : List Res) (r : outParam Res) : Prop where
  eq : L[k]? = some r
instance {a : Res} {l : List Res} : GetAt 0 (a :: l) a := ⟨rfl⟩
instance {k : Nat} {a r : Res} {l : List Res} [S : GetAt k l r] : GetAt (k + 1) (a :: l) r := ⟨by rw [List.getElem?_cons_succ, S.eq]⟩
class Apd (L M : List Res) (out : outParam (List Res)) : Prop where
  eq : L ++ M = out
instance {M : List Res} : Apd [] M M := ⟨rfl⟩
instance {a : Res} {l M o : List Res} [S : Apd l M o] : Apd (a :: l) M (a :: o) := ⟨by rw [List.cons_append, S.eq]⟩
class PickT (L : List Res) (is : List Nat) (T D : outParam (List Res)) : Prop where
  t : takeL L is = T
  d : dropL L is = D
instance {L : List Res} : PickT L [] [] L := ⟨rfl, rfl⟩
instance {L L2 T D : List Res} {i : Nat} {is : List Nat} {r : Res} [G : GetAt i L r] [S : SetAt i L rE L2] [P : PickT L2 is T D] : PickT L (i :: is) (r :: T) D := ⟨by simp only [takeL, G.eq, S.eq, P.t], by simp only [dropL, S.eq, P.d]⟩
class Nm (L : List Res) (out : outParam (List Res)) : Prop where
  eq : L = out
instance : Nm [] [] := ⟨rfl⟩
instance {a : Res} {l : List Res} : Nm (a :: l) (a :: l) := ⟨rfl⟩
instance {L L' o : List Res} {k : Nat} {r : Res} [N : Nm L L'] [S : SetAt k L' r o] : Nm (L.set k r) o := ⟨by rw [N.eq, S.eq]⟩
instance {L L' M M' o : List Res} [N : Nm L L'] [N' : Nm M M'] [S : Apd L' M' o] : Nm (L ++ M) o := ⟨by rw [N.eq, N'.eq, S.eq]⟩
instance {L L' T D : List Res} {is : List Nat} [N : Nm L L'] [S : PickT L' is T D] : Nm (takeL L is) T := ⟨by rw [N.eq, S.t]⟩
instance {L L' T D : List Res} {is : List Nat} [N : Nm L L'] [S : PickT L' is T D] : Nm (dropL L is) D := ⟨by rw [N.eq, S.d]⟩
theorem Hold.nm {W : Foot} {h0 m0 h m : Heap} {Rs Rs' : List Res} (O : Hold W h0 m0 h m Rs) [N : Nm Rs Rs'] : Hold W h0 m0 h m Rs' := N.eq ▸ O
end Go.Hw

end
section
namespace Go.Hw
open Go Go.RowKit
structure Measure {H : Type} (bk : DataW H → Nat) : Prop where
  pos : ∀ d, 1 ≤ bk d
  str : ∀ b, b.length + 1 ≤ bk (.lit (.string b))
  slice : ∀ e s, (e.map bk).sum + 1 ≤ bk (.slice e s)
  agg : ∀ ps, (ps.map bk).sum + 1 ≤ bk (.agg ps)
section
variable {H : Type} {bk : DataW H → Nat} {enc : TypeId × Value → H} {P : Program} {W : World} {N : Nat}
def KT (N : Nat) {α : Type} (bk : DataW H → Nat) (enc : TypeId × Value → H) (P : Program) (W : World) (t : TypeId) (E : Heap → α → List Value → Prop) (K : α → Nat) : Prop :=
  ∀ (fuel : Nat), fuel < N → ∀ (cs : List Value) (x : DataW H × List MemPlace), DataW.trod enc P W 0 (fun _ => true) true fuel t cs = some x → ∀ a, E W.heap a cs → K a ≤ bk x.1
theorem kt_one (M : Measure bk) {α : Type} {t : TypeId} {E : Heap → α → List Value → Prop} : KT N bk enc P W t E (fun _ => 1) := fun _ _ _ _ _ _ _ => M.pos _
theorem kt_str (M : Measure bk) {t : TypeId} (hu : P.underlying t = some .string) : KT N bk enc P W t eStr (fun s => s.size + 1) := by
  intro fuel _ cs x h a ha
  obtain ⟨s, h1, h2, _⟩ := DataW.trod_string hu h
  rw [h2]
  have e : cs = [.string a] := ha
  rw [e] at h1
  cases h1
  have := M.str a.data.toList
  simpa using this
theorem kt_map {α β : Type} {t : TypeId} {E : Heap → α → List Value → Prop} {F : Heap → β → List Value → Prop} {K : α → Nat} {L : β → Nat} (he : KT N bk enc P W t E K) (hm : ∀ b cs, F W.heap b cs → ∃ a, E W.heap a cs ∧ L b ≤ K a) : KT N bk enc P W t F L :=
  fun fuel hf cs x h b hb => let ⟨a, ha, hl⟩ := hm b cs hb; Nat.le_trans hl (he fuel hf cs x h a ha)
theorem kt_down {α : Type} {t : TypeId} {E : Heap → α → List Value → Prop} {K : α → Nat} (he : KT (N + 1) bk enc P W t E K) : KT N bk enc P W t E K := fun fuel hf => he fuel (by omega)
theorem kt_rec {α : Type} {t : TypeId} {E : Heap → α → List Value → Prop} {K : α → Nat} (step : ∀ N, KT N bk enc P W t E K → KT (N + 1) bk enc P W t E K) : ∀ N, KT N bk enc P W t E K := by
  intro N
  induction N with
  | zero => intro fuel hf; omega
  | succ N ih => exact step N ih
theorem sum_map_le {α β : Type} {f : α → Nat} {g : β → Nat} : ∀ {l : List α} {m : List β}, l.length ≤ m.length → (∀ i (h1 : i < l.length) (h2 : i < m.length), f l[i] ≤ g m[i]) → (l.map f).sum ≤ (m.map g).sum := by
  intro l
  induction l with
  | nil => intro m _ _; simp
  | cons x l ih =>
    intro m hl h
    cases m with
    | nil => simp at hl
    | cons y m =>
      have h0 := h 0 (by simp) (by simp)
      have h1 := ih (m := m) (by simpa using hl) (fun i h1 h2 => h (i + 1) (Nat.succ_lt_succ h1) (Nat.succ_lt_succ h2))
      simp only [List.map_cons, List.sum_cons]
      simp only [List.getElem_cons_zero] at h0
      omega
theorem kt_slice (M : Measure bk) {α : Type} {t e : TypeId} {sz : Nat} {E : Heap → α → List Value → Prop} {K : α → Nat} (hu : P.underlying t = some (.slice e)) (hc : P.cellsOf e = sz) (he : KT N bk enc P W e E K) :
    KT N bk enc P W t (eRow sz E) (fun l => (l.map K).sum + 1) := by
  intro fuel hf cs x h l hl
  obtain ⟨A, c, hcs, hlc, hr⟩ := hl
  rcases DataW.trod_slice hu h with ⟨h1, h2⟩ | ⟨a, len, cap, elems, rest, n, hfn, h1, h2, _, hl', hm, hlen, hel, _, _⟩
  · rw [hcs] at h1
    simp only [List.cons.injEq, Value.slice.injEq, and_true] at h1
    have hl0 : l = [] := List.length_eq_zero_iff.1 h1.2.1
    subst hl0
    have := M.pos x.1
    simpa using this
  · rw [hcs] at h1
    simp only [List.cons.injEq, Value.slice.injEq, and_true] at h1
    obtain ⟨rfl, rfl, rfl⟩ := h1
    rw [h2]
    have hs := M.slice (elems.map (·.1)) (rest.map (·.1))
    have : (l.map K).sum ≤ ((elems.map (·.1)).map bk).sum := by
      refine sum_map_le (by simp [hlen]) (fun i i1 i2 => ?_)
      have h5 := hel i i1
      have hlt : i < elems.length := by omega
      rw [List.getElem?_eq_getElem hlt] at h5
      obtain ⟨cs', h6, h7⟩ := Option.bind_eq_some_iff.1 h5
      obtain ⟨a', ds, e1, e2, e3⟩ := hr i i1
      cases e1
      rw [hc] at h6
      have := cells_of h6
      rw [this] at e2
      cases e2
      have := he _ (by omega) _ _ h7 _ e3
      simpa using this
    exact Nat.le_trans (Nat.succ_le_succ this) hs
def KTF (N : Nat) {α : Type} (bk : DataW H → Nat) (enc : TypeId × Value → H) (P : Program) (W : World) (T o : Nat) (fs : List (TypeId × Nat)) (F : Heap → α → List Value → Prop) (K : α → Nat) : Prop :=
  ∀ (n : Nat), n < N → ∀ (cs : List Value) (xs : List (DataW H × List MemPlace)), cs.length = T → xs.length = fs.length → (∀ (i : Nat) (f : TypeId × Nat), fs[i]? = some f → DataW.trod enc P W 0 (fun _ => true) true n f.1 ((cs.drop f.2).take (P.cellsOf f.1)) = xs[i]?) →
    ∀ b, F W.heap b (cs.drop o) → K b ≤ ((xs.map (·.1)).map bk).sum
theorem ktf_nil {T : Nat} : KTF N bk enc P W T T [] eNil (fun _ => 0) := fun _ _ _ _ _ _ _ _ _ => Nat.zero_le _
theorem ktf_cons {α β : Type} {E : Heap → α → List Value → Prop} {F : Heap → β → List Value → Prop} {K : α → Nat} {L : β → Nat} {T o s : Nat} {f : TypeId} {fs : List (TypeId × Nat)} (hs : P.cellsOf f = s) (ht : Tell s E)
    (he : KT N bk enc P W f E K) (hf : KTF N bk enc P W T (o + s) fs F L) : KTF N bk enc P W T o ((f, o) :: fs) (eCons E F) (fun x => K x.1 + L x.2) := by
  intro n hn cs xs hl hx hi b hb
  cases xs with
  | nil => cases hx
  | cons x xs =>
    have h0 := hi 0 (f, o) rfl
    simp only [hs] at h0
    obtain ⟨c1, c2, e1, e2, e3⟩ := hb
    have hlen := ht.len _ _ _ e2
    have ec1 : (cs.drop o).take s = c1 := by rw [e1, ← hlen, List.take_left]
    have ec2 : cs.drop (o + s) = c2 := by rw [← List.drop_drop, e1, ← hlen, List.drop_left]
    rw [ec1] at h0
    have k1 := he n hn _ _ h0 _ e2
    have k2 := hf n hn cs xs hl (by simpa using hx) (fun i g hg => by simpa using hi (i + 1) g hg) b.2 (by rw [ec2]; exact e3)
    simp only [List.map_cons, List.sum_cons]
    omega
theorem kt_struct (M : Measure bk) {α : Type} {F : Heap → α → List Value → Prop} {K : α → Nat} {t : TypeId} {fs : List (TypeId × Nat)} {T : Nat} (hs : shapeOf P t = some fs) (hc : P.cellsOf t = T) (hf : KTF N bk enc P W T 0 fs F K) : KT (N + 1) bk enc P W t F (fun x => K x + 1) := by
  intro fuel hfl cs x h b hb
  unfold shapeOf at hs
  split at hs
  · rename_i fa hu
    cases hs
    obtain ⟨xs, n, hn, rfl, hl, hlen, hi⟩ := DataW.trod_struct hu h
    have := hf n (by omega) cs xs (by rw [hl, hc]) (by simpa using hlen) (fun i f hif => by
      rw [List.getElem?_map, Option.map_eq_some_iff] at hif
      obtain ⟨g, hg, rfl⟩ := hif
      exact hi i g (by simpa using hg)) b (by simpa using hb)
    have h2 := M.agg (xs.map (·.1))
    exact Nat.le_trans (Nat.succ_le_succ this) h2
  · cases hs
end
end Go.Hw

end
section
namespace Go.Hw
open Go
end Go.Hw

end
section
set_option linter.unusedVariables false
namespace Go.Hw
open Go
end Go.Hw
namespace Go.Hw
open Go
end Go.Hw
namespace Go.Hw
open Go
end Go.Hw

end
section
set_option linter.unusedVariables false
namespace Go.Hw
open Go
end Go.Hw

end
section
set_option linter.unusedVariables false
namespace Go.Hw
open Go
end Go.Hw

end
section
set_option linter.unusedVariables false
namespace Go.Hw
open Go Go.RowKit
end Go.Hw

end
section
set_option linter.unusedVariables false
namespace Go.Hw
open Go
end Go.Hw
namespace Go.Hw
open Go
end Go.Hw
namespace Go.Hw
open Go
end Go.Hw
namespace Go.Hw
open Go
end Go.Hw
namespace Go.Hw
open Go
end Go.Hw

end
section
set_option linter.unusedVariables false
namespace Go.Hw
open Go
end Go.Hw

end
section
set_option linter.unusedVariables false
namespace Go.Hw
open Go
end Go.Hw

end
section
set_option linter.unusedVariables false
namespace Go.Hw
open Go
def pow10V : List Value := Lib.pow10Tab.map fun z => Value.int .u64 z
def TBg (g : Nat) (m : Heap) : Prop := ∃ t f, m[g]? = some (.cells pow10V.toArray t f)
theorem TBg.sub {g : Nat} {m h : Heap} (t : TBg g m) (s : Sub m h) : TBg g h := by
  obtain ⟨t, f, h1⟩ := t
  refine ⟨t, f, s _ _ h1 fun e => ?_⟩
  unfold dead at e
  have := congrArg (fun o => match o with | Obj.cells c _ _ => c.size | _ => 0) e
  simp [pow10V, Lib.pow10Tab] at this
def itoaB (n : Int) : ByteArray := ⟨(Lib.itoa n).toArray⟩
theorem TBg.var {P : Program} {g : Nat} {w : World} (hg : P.globalNamed "internal/strconv.uint64pow10" = some g) (t : TBg g w.heap) : Lib.TabIs P w "internal/strconv.uint64pow10" .u64 Lib.pow10Tab := by
  obtain ⟨t, f, h1⟩ := t
  unfold Lib.TabIs World.var?
  rw [hg]
  show (match w.heap[g]? with | some (.cells cs _ _) => some cs | _ => none) = _
  rw [h1]; rfl
theorem TBg.of {P : Program} {g : Nat} {w : World} (hg : P.globalNamed "internal/strconv.uint64pow10" = some g) (t : Lib.TabIs P w "internal/strconv.uint64pow10" .u64 Lib.pow10Tab) : TBg g w.heap := by
  unfold Lib.TabIs World.var? at t
  rw [hg] at t
  have t' : (match w.heap[g]? with | some (.cells cs _ _) => some cs | _ => none) = some pow10V.toArray := t
  cases h : w.heap[g]? with
  | none => rw [h] at t'; cases t'
  | some o =>
    rw [h] at t'
    cases o with
    | cells c e f => cases t'; exact ⟨e, f, h⟩
    | _ => cases t'
theorem itoa_run {P : Program} {k g : Nat} {W : Foot} {h m : Heap} {x : Int} {r : ByteArray} (hg : P.globalNamed "internal/strconv.uint64pow10" = some g)
    (c : ∀ (n : Int) (_ : -9223372036854775808 ≤ n) (_ : n ≤ 9223372036854775807) (w : World) (_ : Lib.TabIs P w "internal/strconv.uint64pow10" .u64 Lib.pow10Tab), Calls P k #[.int .i64 n] w fun e w' => e = .returned (.string ⟨(Lib.itoa n).toArray⟩) ∧ ∃ k os, w' = Go.Sort.grow (w.drewN k) os)
    (O : Hold W h m h m []) (tab : TBg g m) (e : (if -9223372036854775808 ≤ x ∧ x ≤ 9223372036854775807 then some (itoaB x) else none) = some r) : Run P k #[Value.int .i64 x] h fun v h' => ∃ m', Hold W h m h' m' [] ∧ v = .string r := by
  obtain ⟨g1, e⟩ := guard_e e
  cases e
  intro w hw
  subst hw
  refine (c x g1.1 g1.2 w ((tab.sub O.s).var hg)).mono fun e w' he => ?_
  obtain ⟨rfl, k, os, rfl⟩ := he
  refine ⟨_, rfl, ⟨m, O.ext ?_, rfl⟩, ⟨rfl, rfl, rfl⟩⟩
  refine ⟨?_, fun i hi => ?_⟩
  · show w.heap.size ≤ (w.heap ++ os).size
    simp
  · show (w.heap ++ os)[i]? = w.heap[i]?
    rw [Array.getElem?_append_left hi]
end Go.Hw

end
section
namespace Go.Proofs
open Go.Shelf
def Tryd.laysM171_ren : Go.Shelf.Ren := ⟨fun | 171 => 64 | 243 => 67 | 246 => 69 | 283 => 70 | 284 => 71 | 285 => 72 | 286 => 73 | 129 => 75 | 317 => 74 | 318 => 76 | 319 => 77 | 320 => 78 | 337 => 79 | 338 => 80 | n => n, fun | 3 => 3 | 9 => 9 | 2 => 2 | 4 => 4 | 171 => 115 | 0 => 0 | 53 => 116 | 37 => 119 | 5 => 5 | 173 => 120 | 212 => 124 | 51 => 125 | 20 => 20 | 213 => 126 | 46 => 128 | 232 => 131 | 233 => 132 | n => n, fun | 17 => 0 | 18 => 1 | 19 => 2 | n => n⟩
theorem Tryd.laysM171 : Go.Proofs.LaysM.n171 Tryd.prog Tryd.laysM171_ren := {
  mixed := by kernel_rfl
  f129 := Tryd.func75.trans (congrArg some (by kernel_rfl))
  f171 := Tryd.func64.trans (congrArg some (by kernel_rfl))
  f243 := Tryd.func67.trans (congrArg some (by kernel_rfl))
  f246 := Tryd.func69.trans (congrArg some (by kernel_rfl))
  f283 := Tryd.func70.trans (congrArg some (by kernel_rfl))
  f284 := Tryd.func71.trans (congrArg some (by kernel_rfl))
  f285 := Tryd.func72.trans (congrArg some (by kernel_rfl))
  f286 := Tryd.func73.trans (congrArg some (by kernel_rfl))
  f317 := Tryd.func74.trans (congrArg some (by kernel_rfl))
  f318 := Tryd.func76.trans (congrArg some (by kernel_rfl))
  f319 := Tryd.func77.trans (congrArg some (by kernel_rfl))
  f320 := Tryd.func78.trans (congrArg some (by kernel_rfl))
  f337 := Tryd.func79.trans (congrArg some (by kernel_rfl))
  f338 := Tryd.func80.trans (congrArg some (by kernel_rfl))
  t0 := Tryd.underlying0
  a0 := Tryd.isAgg0
  z0 := Tryd.sizeOf0
  v0 := Tryd.zeroValue0
  t2 := Tryd.underlying2
  a2 := Tryd.isAgg2
  z2 := Tryd.sizeOf2
  v2 := Tryd.zeroValue2
  t3 := Tryd.underlying3
  a3 := Tryd.isAgg3
  z3 := Tryd.sizeOf3
  v3 := Tryd.zeroValue3
  t4 := Tryd.underlying4
  a4 := Tryd.isAgg4
  z4 := Tryd.sizeOf4
  v4 := Tryd.zeroValue4
  t5 := Tryd.underlying5
  a5 := Tryd.isAgg5
  z5 := Tryd.sizeOf5
  v5 := Tryd.zeroValue5
  t9 := Tryd.underlying9
  a9 := Tryd.isAgg9
  z9 := Tryd.sizeOf9
  v9 := Tryd.zeroValue9
  t20 := Tryd.underlying20
  a20 := Tryd.isAgg20
  z20 := Tryd.sizeOf20
  v20 := Tryd.zeroValue20
  t37 := Tryd.underlying119
  a37 := Tryd.isAgg119
  z37 := Tryd.sizeOf119
  v37 := Tryd.zeroValue119
  t46 := Tryd.underlying128
  a46 := Tryd.isAgg128
  z46 := Tryd.sizeOf128
  v46 := Tryd.zeroValue128
  t51 := Tryd.underlying125
  a51 := Tryd.isAgg125
  z51 := Tryd.sizeOf125
  v51 := Tryd.zeroValue125
  t53 := Tryd.underlying116
  a53 := Tryd.isAgg116
  z53 := Tryd.sizeOf116
  v53 := Tryd.zeroValue116
  t171 := Tryd.underlying115
  a171 := Tryd.isAgg115
  z171 := Tryd.sizeOf115
  v171 := Tryd.zeroValue115
  t173 := Tryd.underlying120
  a173 := Tryd.isAgg120
  z173 := Tryd.sizeOf120
  v173 := Tryd.zeroValue120
  t212 := Tryd.underlying124
  a212 := Tryd.isAgg124
  z212 := Tryd.sizeOf124
  v212 := Tryd.zeroValue124
  t213 := Tryd.underlying126
  a213 := Tryd.isAgg126
  z213 := Tryd.sizeOf126
  t232 := Tryd.underlying131
  a232 := Tryd.isAgg131
  z232 := Tryd.sizeOf131
  v232 := Tryd.zeroValue131
  t233 := Tryd.underlying132
  a233 := Tryd.isAgg132
  z233 := Tryd.sizeOf132
  v233 := Tryd.zeroValue132
  g17 := by kernel_rfl
  g18 := by kernel_rfl
  g19 := by kernel_rfl
  i0 := by kernel_rfl
  i2 := by kernel_rfl
  i3 := by kernel_rfl
  i4 := by kernel_rfl
  i5 := by kernel_rfl
  i9 := by kernel_rfl
  i20 := by kernel_rfl
  i37 := by kernel_rfl
  i46 := by kernel_rfl
  i51 := by kernel_rfl
  i53 := by kernel_rfl
  i171 := by kernel_rfl
  i173 := by kernel_rfl
  i212 := by kernel_rfl
  i232 := by kernel_rfl
  i233 := by kernel_rfl
  m17 := by kernel_rfl
  m18 := by kernel_rfl
  m19 := by kernel_rfl }
theorem Tryd.strconv_Itoa (n : Int) (h0 : -9223372036854775808 ≤ n) (h1 : n ≤ 9223372036854775807) (w : World)
    (htab : Lib.TabIs Tryd.prog w "internal/strconv.uint64pow10" .u64 Lib.pow10Tab) :
    Calls Tryd.prog 64 #[.int .i64 n] w fun e w' => e = .returned (.string ⟨(Lib.itoa n).toArray⟩) ∧ ∃ k os, w' = Go.Sort.grow (w.drewN k) os := Any.strconv_Itoa Tryd.laysM171 n h0 h1 w htab
end Go.Proofs

end
section
namespace Go.Proofs.YtnlocljmalhddabDoor.Fw
open Go Go.Hw Go.Proofs
set_option linter.unusedVariables false
set_option synthInstance.maxHeartbeats 400000
set_option synthInstance.maxSize 1000
abbrev TB (m : Heap) : Prop := TBg 0 m
structure T_api_Use where
  Name : ByteArray
  Low : Int
  High : Int
def T_api_Use.E (h : Heap) (x : T_api_Use) (cs : List Value) : Prop := cs = [.string x.Name, .int .i64 x.Low, .int .i64 x.High]
theorem T_api_Use.T : Tell 3 T_api_Use.E := ⟨by rintro m h x _ s rfl; exact rfl, by rintro h x _ rfl; rfl, by rintro h x _ rfl; exact Flats.cons trivial (Flats.cons trivial (Flats.cons trivial Flats.nil))⟩
def T_api_Use.Q (x : T_api_Use) : Prop := (x.Name.size ≤ 140737488351232) ∧ (-9223372036854775808 ≤ x.Low ∧ x.Low ≤ 9223372036854775807) ∧ (-9223372036854775808 ≤ x.High ∧ x.High ≤ 9223372036854775807)
theorem T_api_Use.tells {H : Type} {enc : TypeId × Value → H} {W : World} : Tells enc Tryd.prog W 67 T_api_Use.E T_api_Use.Q := tells_map (tells_struct (t := 67) (fs := [(9, 0), (3, 1), (3, 2)]) (T := 3) (by kernel_rfl) (by kernel_rfl) (tf_cons (s := 1) (f := 9) (by kernel_rfl) (tells_strL (t := 9) (by kernel_rfl)) (tf_cons (s := 1) (f := 3) (by kernel_rfl) (tells_i64 (t := 3) (by kernel_rfl)) (tf_cons (s := 1) (f := 3) (by kernel_rfl) (tells_i64 (t := 3) (by kernel_rfl)) tf_nil)))) (by
  rintro ⟨x0, x1, x2, ⟨⟩⟩ cs e q
  obtain ⟨c0, r0, rfl, e0, c1, r1, rfl, e1, c2, r2, rfl, e2, eN⟩ := e
  obtain rfl : c0 = [.string x0] := e0
  obtain rfl : c1 = [.int .i64 x1] := e1
  obtain rfl : c2 = [.int .i64 x2] := e2
  obtain rfl : r2 = [] := eN
  exact ⟨⟨x0, x1, x2⟩, rfl, q.1, q.2.1, q.2.2.1⟩)
def T_api_Use.bulk (x : T_api_Use) : Nat := ((x.Name.size + 1) + (1 + (1 + (0)))) + 1
theorem T_api_Use.kt {H : Type} {bk : DataW H → Nat} {enc : TypeId × Value → H} {W : World} {N : Nat} (M : Measure bk) : KT N bk enc Tryd.prog W 67 T_api_Use.E T_api_Use.bulk := kt_down (kt_map (kt_struct M (t := 67) (fs := [(9, 0), (3, 1), (3, 2)]) (T := 3) (by kernel_rfl) (by kernel_rfl) (ktf_cons (s := 1) (f := 9) (by kernel_rfl) tell_str (kt_str (t := 9) M (by kernel_rfl)) (ktf_cons (s := 1) (f := 3) (by kernel_rfl) (tell_int .i64) (kt_one M) (ktf_cons (s := 1) (f := 3) (by kernel_rfl) (tell_int .i64) (kt_one M) ktf_nil)))) (fun x cs e => by
  obtain rfl := e
  exact ⟨(x.Name, x.Low, x.High, ()), ⟨[.string x.Name], _, rfl, rfl, ⟨[.int .i64 x.Low], _, rfl, rfl, ⟨[.int .i64 x.High], _, rfl, rfl, rfl⟩⟩⟩, Nat.le_refl _⟩))
structure T_api_Type where
  Kind : Int
  Name : ByteArray
  Args : (List T_api_Type)
def T_api_Type.E (h : Heap) : T_api_Type → List Value → Prop
  | ⟨f0, f1, f2⟩, cs => ∃ A2 c2, cs = [.int .i64 f0, .string f1, .slice A2 f2.length c2] ∧ f2.length ≤ c2 ∧ (∀ i (hi : i < f2.length), ∃ a ds, A2 = some a ∧ cellsH h (a.add (i * 3)) 0 3 = some ds ∧ T_api_Type.E h f2[i] ds)
  termination_by x => SizeOf.sizeOf x
  decreasing_by
    all_goals
      have h1 := List.sizeOf_lt_of_mem (List.getElem_mem hi)
      first
      | (simp_all; omega)
theorem T_api_Type.iff {h : Heap} {x : T_api_Type} {cs : List Value} : T_api_Type.E h x cs ↔ ∃ A2 c2, cs = [.int .i64 x.Kind, .string x.Name, .slice A2 x.Args.length c2] ∧ x.Args.length ≤ c2 ∧ Rd 3 T_api_Type.E h A2 x.Args := by
  cases x
  rw [T_api_Type.E]
  exact Iff.rfl
theorem T_api_Type.mono {m h : Heap} (s : Sub m h) : ∀ (x : T_api_Type) (cs : List Value), T_api_Type.E m x cs → T_api_Type.E h x cs
  | ⟨f0, f1, f2⟩, cs, e => by
    rw [T_api_Type.E] at e ⊢
    obtain ⟨A2, c2, h1, k2, r2⟩ := e
    exact ⟨A2, c2, h1, k2, fun i hi => let ⟨a, ds, h1, h2, h3⟩ := r2 i hi; ⟨a, ds, h1, s.cells _ _ h2, T_api_Type.mono s _ _ h3⟩⟩
  termination_by x => SizeOf.sizeOf x
  decreasing_by
    all_goals
      have h1 := List.sizeOf_lt_of_mem (List.getElem_mem hi)
      first
      | (simp_all; omega)
theorem T_api_Type.T : Tell 3 T_api_Type.E := ⟨fun _ _ x cs s e => T_api_Type.mono s x cs e, by intro h x cs e; obtain ⟨A2, c2, rfl, k2, r2⟩ := T_api_Type.iff.1 e; rfl, by intro h x cs e; obtain ⟨A2, c2, rfl, k2, r2⟩ := T_api_Type.iff.1 e; exact Flats.cons trivial (Flats.cons trivial (Flats.cons trivial Flats.nil))⟩
def T_api_Type.Q : T_api_Type → Prop
  | ⟨f0, f1, f2⟩ => (-9223372036854775808 ≤ f0 ∧ f0 ≤ 9223372036854775807) ∧ (f1.size ≤ 140737488351232) ∧ (f2.length * 48 ≤ 140737488351232 ∧ ∀ i (hi : i < f2.length), T_api_Type.Q f2[i])
  termination_by x => SizeOf.sizeOf x
  decreasing_by
    all_goals
      have h1 := List.sizeOf_lt_of_mem (List.getElem_mem hi)
      first
      | (simp_all; omega)
theorem T_api_Type.Q_iff {x : T_api_Type} : T_api_Type.Q x ↔ (-9223372036854775808 ≤ x.Kind ∧ x.Kind ≤ 9223372036854775807) ∧ (x.Name.size ≤ 140737488351232) ∧ (x.Args.length * 48 ≤ 140737488351232 ∧ ∀ a ∈ x.Args, T_api_Type.Q a) := by
  obtain ⟨f0, f1, f2⟩ := x
  rw [T_api_Type.Q]
  show _ ↔ (-9223372036854775808 ≤ f0 ∧ f0 ≤ 9223372036854775807) ∧ (f1.size ≤ 140737488351232) ∧ (f2.length * 48 ≤ 140737488351232 ∧ ∀ a ∈ f2, T_api_Type.Q a)
  rw [← forall_get (l := f2) (p := T_api_Type.Q)]
theorem T_api_Type.tells {H : Type} {enc : TypeId × Value → H} {W : World} : Tells enc Tryd.prog W 59 T_api_Type.E T_api_Type.Q := tells_rec fun N ih => tellsU_map (tellsU_struct (t := 59) (fs := [(3, 0), (9, 1), (37, 2)]) (T := 3) (by kernel_rfl) (by kernel_rfl) (tfU_cons (s := 1) (f := 3) (by kernel_rfl) (Tells.up (tells_i64 (t := 3) (by kernel_rfl))) (tfU_cons (s := 1) (f := 9) (by kernel_rfl) (Tells.up (tells_strL (t := 9) (by kernel_rfl))) (tfU_cons (s := 1) (f := 37) (by kernel_rfl) (tellsU_slice (t := 37) (e := 59) (sz := 3) (B := 48) (by kernel_rfl) (by kernel_rfl) (by kernel_rfl) ih) tfU_nil)))) (by
  rintro ⟨x0, x1, x2, ⟨⟩⟩ cs e q
  obtain ⟨c0, r0, rfl, e0, c1, r1, rfl, e1, c2, r2, rfl, e2, eN⟩ := e
  obtain rfl : c0 = [.int .i64 x0] := e0
  obtain rfl : c1 = [.string x1] := e1
  obtain ⟨A2, k2, rfl, l2, R2⟩ := e2
  obtain rfl : r2 = [] := eN
  exact ⟨⟨x0, x1, x2⟩, T_api_Type.iff.2 ⟨_, _, rfl, l2, R2⟩, T_api_Type.Q_iff.2 ⟨q.1, q.2.1, q.2.2.1⟩⟩)
def T_api_Type.bulk : T_api_Type → Nat
  | ⟨f0, f1, f2⟩ => (1 + ((f1.size + 1) + (((f2.attach.map fun y => T_api_Type.bulk y.1).sum + 1) + (0)))) + 1
  termination_by x => SizeOf.sizeOf x
  decreasing_by
    all_goals
      have h1 := List.sizeOf_lt_of_mem y.2
      first
      | (simp_all; omega)
theorem T_api_Type.bulk_eq (x : T_api_Type) : T_api_Type.bulk x = (1 + ((x.Name.size + 1) + (((List.map T_api_Type.bulk x.Args).sum + 1) + (0)))) + 1 := by
  obtain ⟨f0, f1, f2⟩ := x
  rw [T_api_Type.bulk]
  rw [(List.attach_map_val : (f2.attach.map fun i => T_api_Type.bulk i.1) = f2.map T_api_Type.bulk)]
theorem T_api_Type.kt {H : Type} {bk : DataW H → Nat} {enc : TypeId × Value → H} {W : World} {N : Nat} (M : Measure bk) : KT N bk enc Tryd.prog W 59 T_api_Type.E T_api_Type.bulk := kt_rec (fun N ih => kt_map (kt_struct M (t := 59) (fs := [(3, 0), (9, 1), (37, 2)]) (T := 3) (by kernel_rfl) (by kernel_rfl) (ktf_cons (s := 1) (f := 3) (by kernel_rfl) (tell_int .i64) (kt_one M) (ktf_cons (s := 1) (f := 9) (by kernel_rfl) tell_str (kt_str (t := 9) M (by kernel_rfl)) (ktf_cons (s := 1) (f := 37) (by kernel_rfl) (tell_row T_api_Type.T) (kt_slice M (t := 37) (e := 59) (sz := 3) (by kernel_rfl) (by kernel_rfl) ih) ktf_nil)))) (fun x cs e => by
  obtain ⟨A2, c2, rfl, k2, r2⟩ := T_api_Type.iff.1 e
  exact ⟨(x.Kind, x.Name, x.Args, ()), ⟨[.int .i64 x.Kind], _, rfl, rfl, ⟨[.string x.Name], _, rfl, rfl, ⟨[.slice A2 x.Args.length c2], _, rfl, ⟨_, _, rfl, k2, r2⟩, rfl⟩⟩⟩, by rw [T_api_Type.bulk_eq]; exact Nat.le_refl _⟩)) N
structure T_api_Make where
  Name : ByteArray
  Args : (List T_api_Type)
def T_api_Make.E (h : Heap) (x : T_api_Make) (cs : List Value) : Prop := ∃ A1 c1, cs = [.string x.Name, .slice A1 x.Args.length c1] ∧ x.Args.length ≤ c1 ∧ Rd 3 T_api_Type.E h A1 x.Args
theorem T_api_Make.T : Tell 2 T_api_Make.E := ⟨by rintro m h x _ s ⟨A1, c1, rfl, k1, r1⟩; exact ⟨_, _, rfl, k1, r1.sub T_api_Type.T s⟩, by rintro h x _ ⟨A1, c1, rfl, k1, r1⟩; rfl, by rintro h x _ ⟨A1, c1, rfl, k1, r1⟩; exact Flats.cons trivial (Flats.cons trivial Flats.nil)⟩
def T_api_Make.Q (x : T_api_Make) : Prop := (x.Name.size ≤ 140737488351232) ∧ (x.Args.length * 48 ≤ 140737488351232 ∧ ∀ a ∈ x.Args, (T_api_Type.Q a))
theorem T_api_Make.tells {H : Type} {enc : TypeId × Value → H} {W : World} : Tells enc Tryd.prog W 87 T_api_Make.E T_api_Make.Q := tells_map (tells_struct (t := 87) (fs := [(9, 0), (37, 1)]) (T := 2) (by kernel_rfl) (by kernel_rfl) (tf_cons (s := 1) (f := 9) (by kernel_rfl) (tells_strL (t := 9) (by kernel_rfl)) (tf_cons (s := 1) (f := 37) (by kernel_rfl) (tells_sliceL (t := 37) (e := 59) (sz := 3) (B := 48) (by kernel_rfl) (by kernel_rfl) (by kernel_rfl) T_api_Type.tells) tf_nil))) (by
  rintro ⟨x0, x1, ⟨⟩⟩ cs e q
  obtain ⟨c0, r0, rfl, e0, c1, r1, rfl, e1, eN⟩ := e
  obtain rfl : c0 = [.string x0] := e0
  obtain ⟨A1, k1, rfl, l1, R1⟩ := e1
  obtain rfl : r1 = [] := eN
  exact ⟨⟨x0, x1⟩, ⟨_, _, rfl, l1, R1⟩, q.1, q.2.1⟩)
def T_api_Make.bulk (x : T_api_Make) : Nat := ((x.Name.size + 1) + (((List.map T_api_Type.bulk x.Args).sum + 1) + (0))) + 1
theorem T_api_Make.kt {H : Type} {bk : DataW H → Nat} {enc : TypeId × Value → H} {W : World} {N : Nat} (M : Measure bk) : KT N bk enc Tryd.prog W 87 T_api_Make.E T_api_Make.bulk := kt_down (kt_map (kt_struct M (t := 87) (fs := [(9, 0), (37, 1)]) (T := 2) (by kernel_rfl) (by kernel_rfl) (ktf_cons (s := 1) (f := 9) (by kernel_rfl) tell_str (kt_str (t := 9) M (by kernel_rfl)) (ktf_cons (s := 1) (f := 37) (by kernel_rfl) (tell_row T_api_Type.T) (kt_slice M (t := 37) (e := 59) (sz := 3) (by kernel_rfl) (by kernel_rfl) (T_api_Type.kt M)) ktf_nil))) (fun x cs e => by
  obtain ⟨A1, c1, rfl, k1, r1⟩ := e
  exact ⟨(x.Name, x.Args, ()), ⟨[.string x.Name], _, rfl, rfl, ⟨[.slice A1 x.Args.length c1], _, rfl, ⟨_, _, rfl, k1, r1⟩, rfl⟩⟩, Nat.le_refl _⟩))
structure T_api_Data where
  Name : ByteArray
  Params : (List ByteArray)
  Makes : (List T_api_Make)
def T_api_Data.E (h : Heap) (x : T_api_Data) (cs : List Value) : Prop := ∃ A1 c1 A2 c2, cs = [.string x.Name, .slice A1 x.Params.length c1, .slice A2 x.Makes.length c2] ∧ x.Params.length ≤ c1 ∧ Rd 1 eStr h A1 x.Params ∧ x.Makes.length ≤ c2 ∧ Rd 2 T_api_Make.E h A2 x.Makes
theorem T_api_Data.T : Tell 3 T_api_Data.E := ⟨by rintro m h x _ s ⟨A1, c1, A2, c2, rfl, k1, r1, k2, r2⟩; exact ⟨_, _, _, _, rfl, k1, r1.sub tell_str s, k2, r2.sub T_api_Make.T s⟩, by rintro h x _ ⟨A1, c1, A2, c2, rfl, k1, r1, k2, r2⟩; rfl, by rintro h x _ ⟨A1, c1, A2, c2, rfl, k1, r1, k2, r2⟩; exact Flats.cons trivial (Flats.cons trivial (Flats.cons trivial Flats.nil))⟩
def T_api_Data.Q (x : T_api_Data) : Prop := (x.Name.size ≤ 140737488351232) ∧ (x.Params.length * 16 ≤ 140737488351232 ∧ ∀ a ∈ x.Params, (a.size ≤ 140737488351232)) ∧ (x.Makes.length * 40 ≤ 140737488351232 ∧ ∀ a ∈ x.Makes, (T_api_Make.Q a))
theorem T_api_Data.tells {H : Type} {enc : TypeId × Value → H} {W : World} : Tells enc Tryd.prog W 71 T_api_Data.E T_api_Data.Q := tells_map (tells_struct (t := 71) (fs := [(9, 0), (36, 1), (69, 2)]) (T := 3) (by kernel_rfl) (by kernel_rfl) (tf_cons (s := 1) (f := 9) (by kernel_rfl) (tells_strL (t := 9) (by kernel_rfl)) (tf_cons (s := 1) (f := 36) (by kernel_rfl) (tells_sliceL (t := 36) (e := 9) (sz := 1) (B := 16) (by kernel_rfl) (by kernel_rfl) (by kernel_rfl) (tells_strL (t := 9) (by kernel_rfl))) (tf_cons (s := 1) (f := 69) (by kernel_rfl) (tells_sliceL (t := 69) (e := 87) (sz := 2) (B := 40) (by kernel_rfl) (by kernel_rfl) (by kernel_rfl) T_api_Make.tells) tf_nil)))) (by
  rintro ⟨x0, x1, x2, ⟨⟩⟩ cs e q
  obtain ⟨c0, r0, rfl, e0, c1, r1, rfl, e1, c2, r2, rfl, e2, eN⟩ := e
  obtain rfl : c0 = [.string x0] := e0
  obtain ⟨A1, k1, rfl, l1, R1⟩ := e1
  obtain ⟨A2, k2, rfl, l2, R2⟩ := e2
  obtain rfl : r2 = [] := eN
  exact ⟨⟨x0, x1, x2⟩, ⟨_, _, _, _, rfl, l1, R1, l2, R2⟩, q.1, q.2.1, q.2.2.1⟩)
def T_api_Data.bulk (x : T_api_Data) : Nat := ((x.Name.size + 1) + (((List.map (fun s : ByteArray => s.size + 1) x.Params).sum + 1) + (((List.map T_api_Make.bulk x.Makes).sum + 1) + (0)))) + 1
theorem T_api_Data.kt {H : Type} {bk : DataW H → Nat} {enc : TypeId × Value → H} {W : World} {N : Nat} (M : Measure bk) : KT N bk enc Tryd.prog W 71 T_api_Data.E T_api_Data.bulk := kt_down (kt_map (kt_struct M (t := 71) (fs := [(9, 0), (36, 1), (69, 2)]) (T := 3) (by kernel_rfl) (by kernel_rfl) (ktf_cons (s := 1) (f := 9) (by kernel_rfl) tell_str (kt_str (t := 9) M (by kernel_rfl)) (ktf_cons (s := 1) (f := 36) (by kernel_rfl) (tell_row tell_str) (kt_slice M (t := 36) (e := 9) (sz := 1) (by kernel_rfl) (by kernel_rfl) (kt_str (t := 9) M (by kernel_rfl))) (ktf_cons (s := 1) (f := 69) (by kernel_rfl) (tell_row T_api_Make.T) (kt_slice M (t := 69) (e := 87) (sz := 2) (by kernel_rfl) (by kernel_rfl) (T_api_Make.kt M)) ktf_nil)))) (fun x cs e => by
  obtain ⟨A1, c1, A2, c2, rfl, k1, r1, k2, r2⟩ := e
  exact ⟨(x.Name, x.Params, x.Makes, ()), ⟨[.string x.Name], _, rfl, rfl, ⟨[.slice A1 x.Params.length c1], _, rfl, ⟨_, _, rfl, k1, r1⟩, ⟨[.slice A2 x.Makes.length c2], _, rfl, ⟨_, _, rfl, k2, r2⟩, rfl⟩⟩⟩, Nat.le_refl _⟩))
structure T_api_Pat where
  Kind : Int
  Num : Int
  Text : ByteArray
  Args : (List T_api_Pat)
def T_api_Pat.E (h : Heap) : T_api_Pat → List Value → Prop
  | ⟨f0, f1, f2, f3⟩, cs => ∃ A3 c3, cs = [.int .i64 f0, .int .i64 f1, .string f2, .slice A3 f3.length c3] ∧ f3.length ≤ c3 ∧ (∀ i (hi : i < f3.length), ∃ a ds, A3 = some a ∧ cellsH h (a.add (i * 4)) 0 4 = some ds ∧ T_api_Pat.E h f3[i] ds)
  termination_by x => SizeOf.sizeOf x
  decreasing_by
    all_goals
      have h1 := List.sizeOf_lt_of_mem (List.getElem_mem hi)
      first
      | (simp_all; omega)
theorem T_api_Pat.iff {h : Heap} {x : T_api_Pat} {cs : List Value} : T_api_Pat.E h x cs ↔ ∃ A3 c3, cs = [.int .i64 x.Kind, .int .i64 x.Num, .string x.Text, .slice A3 x.Args.length c3] ∧ x.Args.length ≤ c3 ∧ Rd 4 T_api_Pat.E h A3 x.Args := by
  cases x
  rw [T_api_Pat.E]
  exact Iff.rfl
theorem T_api_Pat.mono {m h : Heap} (s : Sub m h) : ∀ (x : T_api_Pat) (cs : List Value), T_api_Pat.E m x cs → T_api_Pat.E h x cs
  | ⟨f0, f1, f2, f3⟩, cs, e => by
    rw [T_api_Pat.E] at e ⊢
    obtain ⟨A3, c3, h1, k3, r3⟩ := e
    exact ⟨A3, c3, h1, k3, fun i hi => let ⟨a, ds, h1, h2, h3⟩ := r3 i hi; ⟨a, ds, h1, s.cells _ _ h2, T_api_Pat.mono s _ _ h3⟩⟩
  termination_by x => SizeOf.sizeOf x
  decreasing_by
    all_goals
      have h1 := List.sizeOf_lt_of_mem (List.getElem_mem hi)
      first
      | (simp_all; omega)
theorem T_api_Pat.T : Tell 4 T_api_Pat.E := ⟨fun _ _ x cs s e => T_api_Pat.mono s x cs e, by intro h x cs e; obtain ⟨A3, c3, rfl, k3, r3⟩ := T_api_Pat.iff.1 e; rfl, by intro h x cs e; obtain ⟨A3, c3, rfl, k3, r3⟩ := T_api_Pat.iff.1 e; exact Flats.cons trivial (Flats.cons trivial (Flats.cons trivial (Flats.cons trivial Flats.nil)))⟩
def T_api_Pat.Q : T_api_Pat → Prop
  | ⟨f0, f1, f2, f3⟩ => (-9223372036854775808 ≤ f0 ∧ f0 ≤ 9223372036854775807) ∧ (-9223372036854775808 ≤ f1 ∧ f1 ≤ 9223372036854775807) ∧ (f2.size ≤ 140737488351232) ∧ (f3.length * 56 ≤ 140737488351232 ∧ ∀ i (hi : i < f3.length), T_api_Pat.Q f3[i])
  termination_by x => SizeOf.sizeOf x
  decreasing_by
    all_goals
      have h1 := List.sizeOf_lt_of_mem (List.getElem_mem hi)
      first
      | (simp_all; omega)
theorem T_api_Pat.Q_iff {x : T_api_Pat} : T_api_Pat.Q x ↔ (-9223372036854775808 ≤ x.Kind ∧ x.Kind ≤ 9223372036854775807) ∧ (-9223372036854775808 ≤ x.Num ∧ x.Num ≤ 9223372036854775807) ∧ (x.Text.size ≤ 140737488351232) ∧ (x.Args.length * 56 ≤ 140737488351232 ∧ ∀ a ∈ x.Args, T_api_Pat.Q a) := by
  obtain ⟨f0, f1, f2, f3⟩ := x
  rw [T_api_Pat.Q]
  show _ ↔ (-9223372036854775808 ≤ f0 ∧ f0 ≤ 9223372036854775807) ∧ (-9223372036854775808 ≤ f1 ∧ f1 ≤ 9223372036854775807) ∧ (f2.size ≤ 140737488351232) ∧ (f3.length * 56 ≤ 140737488351232 ∧ ∀ a ∈ f3, T_api_Pat.Q a)
  rw [← forall_get (l := f3) (p := T_api_Pat.Q)]
theorem T_api_Pat.tells {H : Type} {enc : TypeId × Value → H} {W : World} : Tells enc Tryd.prog W 48 T_api_Pat.E T_api_Pat.Q := tells_rec fun N ih => tellsU_map (tellsU_struct (t := 48) (fs := [(3, 0), (3, 1), (9, 2), (46, 3)]) (T := 4) (by kernel_rfl) (by kernel_rfl) (tfU_cons (s := 1) (f := 3) (by kernel_rfl) (Tells.up (tells_i64 (t := 3) (by kernel_rfl))) (tfU_cons (s := 1) (f := 3) (by kernel_rfl) (Tells.up (tells_i64 (t := 3) (by kernel_rfl))) (tfU_cons (s := 1) (f := 9) (by kernel_rfl) (Tells.up (tells_strL (t := 9) (by kernel_rfl))) (tfU_cons (s := 1) (f := 46) (by kernel_rfl) (tellsU_slice (t := 46) (e := 48) (sz := 4) (B := 56) (by kernel_rfl) (by kernel_rfl) (by kernel_rfl) ih) tfU_nil))))) (by
  rintro ⟨x0, x1, x2, x3, ⟨⟩⟩ cs e q
  obtain ⟨c0, r0, rfl, e0, c1, r1, rfl, e1, c2, r2, rfl, e2, c3, r3, rfl, e3, eN⟩ := e
  obtain rfl : c0 = [.int .i64 x0] := e0
  obtain rfl : c1 = [.int .i64 x1] := e1
  obtain rfl : c2 = [.string x2] := e2
  obtain ⟨A3, k3, rfl, l3, R3⟩ := e3
  obtain rfl : r3 = [] := eN
  exact ⟨⟨x0, x1, x2, x3⟩, T_api_Pat.iff.2 ⟨_, _, rfl, l3, R3⟩, T_api_Pat.Q_iff.2 ⟨q.1, q.2.1, q.2.2.1, q.2.2.2.1⟩⟩)
def T_api_Pat.bulk : T_api_Pat → Nat
  | ⟨f0, f1, f2, f3⟩ => (1 + (1 + ((f2.size + 1) + (((f3.attach.map fun y => T_api_Pat.bulk y.1).sum + 1) + (0))))) + 1
  termination_by x => SizeOf.sizeOf x
  decreasing_by
    all_goals
      have h1 := List.sizeOf_lt_of_mem y.2
      first
      | (simp_all; omega)
theorem T_api_Pat.bulk_eq (x : T_api_Pat) : T_api_Pat.bulk x = (1 + (1 + ((x.Text.size + 1) + (((List.map T_api_Pat.bulk x.Args).sum + 1) + (0))))) + 1 := by
  obtain ⟨f0, f1, f2, f3⟩ := x
  rw [T_api_Pat.bulk]
  rw [(List.attach_map_val : (f3.attach.map fun i => T_api_Pat.bulk i.1) = f3.map T_api_Pat.bulk)]
theorem T_api_Pat.kt {H : Type} {bk : DataW H → Nat} {enc : TypeId × Value → H} {W : World} {N : Nat} (M : Measure bk) : KT N bk enc Tryd.prog W 48 T_api_Pat.E T_api_Pat.bulk := kt_rec (fun N ih => kt_map (kt_struct M (t := 48) (fs := [(3, 0), (3, 1), (9, 2), (46, 3)]) (T := 4) (by kernel_rfl) (by kernel_rfl) (ktf_cons (s := 1) (f := 3) (by kernel_rfl) (tell_int .i64) (kt_one M) (ktf_cons (s := 1) (f := 3) (by kernel_rfl) (tell_int .i64) (kt_one M) (ktf_cons (s := 1) (f := 9) (by kernel_rfl) tell_str (kt_str (t := 9) M (by kernel_rfl)) (ktf_cons (s := 1) (f := 46) (by kernel_rfl) (tell_row T_api_Pat.T) (kt_slice M (t := 46) (e := 48) (sz := 4) (by kernel_rfl) (by kernel_rfl) ih) ktf_nil))))) (fun x cs e => by
  obtain ⟨A3, c3, rfl, k3, r3⟩ := T_api_Pat.iff.1 e
  exact ⟨(x.Kind, x.Num, x.Text, x.Args, ()), ⟨[.int .i64 x.Kind], _, rfl, rfl, ⟨[.int .i64 x.Num], _, rfl, rfl, ⟨[.string x.Text], _, rfl, rfl, ⟨[.slice A3 x.Args.length c3], _, rfl, ⟨_, _, rfl, k3, r3⟩, rfl⟩⟩⟩⟩, by rw [T_api_Pat.bulk_eq]; exact Nat.le_refl _⟩)) N
mutual
structure T_api_Expr where
  Kind : Int
  Num : Int
  Text : ByteArray
  Names : (List ByteArray)
  Types : (List T_api_Type)
  Args : (List T_api_Expr)
  Arms : (List T_api_Arm)
  At : Int
structure T_api_Arm where
  Pat : T_api_Pat
  Body : T_api_Expr
end
theorem T_api_Arm.lt_Body (x : T_api_Arm) : SizeOf.sizeOf x.Body < SizeOf.sizeOf x := by cases x; simp; omega
def T_api_Expr.E (h : Heap) : T_api_Expr → List Value → Prop
  | ⟨f0, f1, f2, f3, f4, f5, f6, f7⟩, cs => ∃ A3 c3 A4 c4 A5 c5 A6 c6, cs = [.int .i64 f0, .int .i64 f1, .string f2, .slice A3 f3.length c3, .slice A4 f4.length c4, .slice A5 f5.length c5, .slice A6 f6.length c6, .int .i64 f7] ∧ f3.length ≤ c3 ∧ Rd 1 eStr h A3 f3 ∧ f4.length ≤ c4 ∧ Rd 3 T_api_Type.E h A4 f4 ∧ f5.length ≤ c5 ∧ (∀ i (hi : i < f5.length), ∃ a ds, A5 = some a ∧ cellsH h (a.add (i * 8)) 0 8 = some ds ∧ T_api_Expr.E h f5[i] ds) ∧ f6.length ≤ c6 ∧ (∀ i (hi : i < f6.length), ∃ a ds, A6 = some a ∧ cellsH h (a.add (i * 12)) 0 12 = some ds ∧ ∃ d0 d1, ds = d0 ++ d1 ∧ T_api_Pat.E h f6[i].Pat d0 ∧ T_api_Expr.E h f6[i].Body d1)
  termination_by x => SizeOf.sizeOf x
  decreasing_by
    all_goals
      have h1 := List.sizeOf_lt_of_mem (List.getElem_mem hi)
      first
      | (simp_all; omega)
      | (have h2 := T_api_Arm.lt_Body (f6[i]'hi); simp_all; omega)
def T_api_Arm.E (h : Heap) (x : T_api_Arm) (cs : List Value) : Prop := ∃ d0 d1, cs = d0 ++ d1 ∧ T_api_Pat.E h x.Pat d0 ∧ T_api_Expr.E h x.Body d1
theorem T_api_Expr.iff {h : Heap} {x : T_api_Expr} {cs : List Value} : T_api_Expr.E h x cs ↔ ∃ A3 c3 A4 c4 A5 c5 A6 c6, cs = [.int .i64 x.Kind, .int .i64 x.Num, .string x.Text, .slice A3 x.Names.length c3, .slice A4 x.Types.length c4, .slice A5 x.Args.length c5, .slice A6 x.Arms.length c6, .int .i64 x.At] ∧ x.Names.length ≤ c3 ∧ Rd 1 eStr h A3 x.Names ∧ x.Types.length ≤ c4 ∧ Rd 3 T_api_Type.E h A4 x.Types ∧ x.Args.length ≤ c5 ∧ Rd 8 T_api_Expr.E h A5 x.Args ∧ x.Arms.length ≤ c6 ∧ Rd 12 T_api_Arm.E h A6 x.Arms := by
  cases x
  rw [T_api_Expr.E]
  exact Iff.rfl
theorem T_api_Expr.mono {m h : Heap} (s : Sub m h) : ∀ (x : T_api_Expr) (cs : List Value), T_api_Expr.E m x cs → T_api_Expr.E h x cs
  | ⟨f0, f1, f2, f3, f4, f5, f6, f7⟩, cs, e => by
    rw [T_api_Expr.E] at e ⊢
    obtain ⟨A3, c3, A4, c4, A5, c5, A6, c6, h1, k3, r3, k4, r4, k5, r5, k6, r6⟩ := e
    exact ⟨A3, c3, A4, c4, A5, c5, A6, c6, h1, k3, r3.sub tell_str s, k4, r4.sub T_api_Type.T s, k5, fun i hi => let ⟨a, ds, h1, h2, h3⟩ := r5 i hi; ⟨a, ds, h1, s.cells _ _ h2, T_api_Expr.mono s _ _ h3⟩, k6, fun i hi => let ⟨a, ds, h1, h2, d0, d1, h4, e0, e1⟩ := r6 i hi; ⟨a, ds, h1, s.cells _ _ h2, d0, d1, h4, T_api_Pat.T.mono _ _ _ _ s e0, T_api_Expr.mono s _ _ e1⟩⟩
  termination_by x => SizeOf.sizeOf x
  decreasing_by
    all_goals
      have h1 := List.sizeOf_lt_of_mem (List.getElem_mem hi)
      first
      | (simp_all; omega)
      | (have h2 := T_api_Arm.lt_Body (f6[i]'hi); simp_all; omega)
theorem T_api_Expr.T : Tell 8 T_api_Expr.E := ⟨fun _ _ x cs s e => T_api_Expr.mono s x cs e, by intro h x cs e; obtain ⟨A3, c3, A4, c4, A5, c5, A6, c6, rfl, k3, r3, k4, r4, k5, r5, k6, r6⟩ := T_api_Expr.iff.1 e; rfl, by intro h x cs e; obtain ⟨A3, c3, A4, c4, A5, c5, A6, c6, rfl, k3, r3, k4, r4, k5, r5, k6, r6⟩ := T_api_Expr.iff.1 e; exact Flats.cons trivial (Flats.cons trivial (Flats.cons trivial (Flats.cons trivial (Flats.cons trivial (Flats.cons trivial (Flats.cons trivial (Flats.cons trivial Flats.nil)))))))⟩
theorem T_api_Arm.iff {h : Heap} {x : T_api_Arm} {cs : List Value} : T_api_Arm.E h x cs ↔ ∃ A3 c3 A7 c7 A8 c8 A9 c9 A10 c10, cs = [.int .i64 x.Pat.Kind, .int .i64 x.Pat.Num, .string x.Pat.Text, .slice A3 x.Pat.Args.length c3, .int .i64 x.Body.Kind, .int .i64 x.Body.Num, .string x.Body.Text, .slice A7 x.Body.Names.length c7, .slice A8 x.Body.Types.length c8, .slice A9 x.Body.Args.length c9, .slice A10 x.Body.Arms.length c10, .int .i64 x.Body.At] ∧ x.Pat.Args.length ≤ c3 ∧ Rd 4 T_api_Pat.E h A3 x.Pat.Args ∧ x.Body.Names.length ≤ c7 ∧ Rd 1 eStr h A7 x.Body.Names ∧ x.Body.Types.length ≤ c8 ∧ Rd 3 T_api_Type.E h A8 x.Body.Types ∧ x.Body.Args.length ≤ c9 ∧ Rd 8 T_api_Expr.E h A9 x.Body.Args ∧ x.Body.Arms.length ≤ c10 ∧ Rd 12 T_api_Arm.E h A10 x.Body.Arms := by
  constructor
  · rintro ⟨d0, d1, rfl, e0, e1⟩
    obtain ⟨A3, c3, rfl, k3, r3⟩ := T_api_Pat.iff.1 e0
    obtain ⟨A7, c7, A8, c8, A9, c9, A10, c10, rfl, k7, r7, k8, r8, k9, r9, k10, r10⟩ := T_api_Expr.iff.1 e1
    exact ⟨A3, c3, A7, c7, A8, c8, A9, c9, A10, c10, rfl, k3, r3, k7, r7, k8, r8, k9, r9, k10, r10⟩
  · rintro ⟨A3, c3, A7, c7, A8, c8, A9, c9, A10, c10, rfl, k3, r3, k7, r7, k8, r8, k9, r9, k10, r10⟩
    exact ⟨[.int .i64 x.Pat.Kind, .int .i64 x.Pat.Num, .string x.Pat.Text, .slice A3 x.Pat.Args.length c3], [.int .i64 x.Body.Kind, .int .i64 x.Body.Num, .string x.Body.Text, .slice A7 x.Body.Names.length c7, .slice A8 x.Body.Types.length c8, .slice A9 x.Body.Args.length c9, .slice A10 x.Body.Arms.length c10, .int .i64 x.Body.At], rfl, T_api_Pat.iff.2 ⟨A3, c3, rfl, k3, r3⟩, T_api_Expr.iff.2 ⟨A7, c7, A8, c8, A9, c9, A10, c10, rfl, k7, r7, k8, r8, k9, r9, k10, r10⟩⟩
theorem T_api_Arm.T : Tell 12 T_api_Arm.E := ⟨by rintro m h x _ s ⟨d0, d1, rfl, e0, e1⟩; exact ⟨d0, d1, rfl, T_api_Pat.T.mono _ _ _ _ s e0, T_api_Expr.T.mono _ _ _ _ s e1⟩, by intro h x cs e; obtain ⟨A3, c3, A7, c7, A8, c8, A9, c9, A10, c10, rfl, k3, r3, k7, r7, k8, r8, k9, r9, k10, r10⟩ := T_api_Arm.iff.1 e; rfl, by intro h x cs e; obtain ⟨A3, c3, A7, c7, A8, c8, A9, c9, A10, c10, rfl, k3, r3, k7, r7, k8, r8, k9, r9, k10, r10⟩ := T_api_Arm.iff.1 e; exact Flats.cons trivial (Flats.cons trivial (Flats.cons trivial (Flats.cons trivial (Flats.cons trivial (Flats.cons trivial (Flats.cons trivial (Flats.cons trivial (Flats.cons trivial (Flats.cons trivial (Flats.cons trivial (Flats.cons trivial Flats.nil)))))))))))⟩
def T_api_Expr.Q : T_api_Expr → Prop
  | ⟨f0, f1, f2, f3, f4, f5, f6, f7⟩ => (-9223372036854775808 ≤ f0 ∧ f0 ≤ 9223372036854775807) ∧ (-9223372036854775808 ≤ f1 ∧ f1 ≤ 9223372036854775807) ∧ (f2.size ≤ 140737488351232) ∧ (f3.length * 16 ≤ 140737488351232 ∧ ∀ a ∈ f3, (a.size ≤ 140737488351232)) ∧ (f4.length * 48 ≤ 140737488351232 ∧ ∀ a ∈ f4, (T_api_Type.Q a)) ∧ (f5.length * 136 ≤ 140737488351232 ∧ ∀ i (hi : i < f5.length), T_api_Expr.Q f5[i]) ∧ (f6.length * 192 ≤ 140737488351232 ∧ ∀ i (hi : i < f6.length), (T_api_Pat.Q f6[i].Pat) ∧ (T_api_Expr.Q f6[i].Body)) ∧ (-9223372036854775808 ≤ f7 ∧ f7 ≤ 9223372036854775807)
  termination_by x => SizeOf.sizeOf x
  decreasing_by
    all_goals
      have h1 := List.sizeOf_lt_of_mem (List.getElem_mem hi)
      first
      | (simp_all; omega)
      | (have h2 := T_api_Arm.lt_Body (f6[i]'hi); simp_all; omega)
def T_api_Arm.Q (x : T_api_Arm) : Prop := (T_api_Pat.Q x.Pat) ∧ (T_api_Expr.Q x.Body)
theorem T_api_Expr.Q_iff {x : T_api_Expr} : T_api_Expr.Q x ↔ (-9223372036854775808 ≤ x.Kind ∧ x.Kind ≤ 9223372036854775807) ∧ (-9223372036854775808 ≤ x.Num ∧ x.Num ≤ 9223372036854775807) ∧ (x.Text.size ≤ 140737488351232) ∧ (x.Names.length * 16 ≤ 140737488351232 ∧ ∀ a ∈ x.Names, (a.size ≤ 140737488351232)) ∧ (x.Types.length * 48 ≤ 140737488351232 ∧ ∀ a ∈ x.Types, (T_api_Type.Q a)) ∧ (x.Args.length * 136 ≤ 140737488351232 ∧ ∀ a ∈ x.Args, T_api_Expr.Q a) ∧ (x.Arms.length * 192 ≤ 140737488351232 ∧ ∀ a ∈ x.Arms, T_api_Arm.Q a) ∧ (-9223372036854775808 ≤ x.At ∧ x.At ≤ 9223372036854775807) := by
  obtain ⟨f0, f1, f2, f3, f4, f5, f6, f7⟩ := x
  rw [T_api_Expr.Q]
  show _ ↔ (-9223372036854775808 ≤ f0 ∧ f0 ≤ 9223372036854775807) ∧ (-9223372036854775808 ≤ f1 ∧ f1 ≤ 9223372036854775807) ∧ (f2.size ≤ 140737488351232) ∧ (f3.length * 16 ≤ 140737488351232 ∧ ∀ a ∈ f3, (a.size ≤ 140737488351232)) ∧ (f4.length * 48 ≤ 140737488351232 ∧ ∀ a ∈ f4, (T_api_Type.Q a)) ∧ (f5.length * 136 ≤ 140737488351232 ∧ ∀ a ∈ f5, T_api_Expr.Q a) ∧ (f6.length * 192 ≤ 140737488351232 ∧ ∀ a ∈ f6, T_api_Arm.Q a) ∧ (-9223372036854775808 ≤ f7 ∧ f7 ≤ 9223372036854775807)
  rw [← forall_get (l := f5) (p := T_api_Expr.Q), ← forall_get (l := f6) (p := T_api_Arm.Q)]
  exact Iff.rfl
theorem T_api_Arm.tellsU {H : Type} {enc : TypeId × Value → H} {W : World} {N : Nat} (ih : TellsU N enc Tryd.prog W 40 T_api_Expr.E T_api_Expr.Q) : TellsU (N + 1) enc Tryd.prog W 50 T_api_Arm.E T_api_Arm.Q := tellsU_map (tellsU_struct (t := 50) (fs := [(48, 0), (40, 4)]) (T := 12) (by kernel_rfl) (by kernel_rfl) (tfU_cons (s := 4) (f := 48) (by kernel_rfl) (Tells.up T_api_Pat.tells) (tfU_cons (s := 8) (f := 40) (by kernel_rfl) ih tfU_nil))) (by
  rintro ⟨x0, x1, ⟨⟩⟩ cs e q
  obtain ⟨c0, r0, rfl, e0, c1, r1, rfl, e1, eN⟩ := e
  obtain rfl : r1 = [] := eN
  exact ⟨⟨x0, x1⟩, ⟨_, _, by simp, e0, e1⟩, q.1, q.2.1⟩)
theorem T_api_Expr.tells {H : Type} {enc : TypeId × Value → H} {W : World} : Tells enc Tryd.prog W 40 T_api_Expr.E T_api_Expr.Q := tells_rec fun N ih => tellsU_map (tellsU_struct (t := 40) (fs := [(3, 0), (3, 1), (9, 2), (36, 3), (37, 4), (31, 5), (38, 6), (3, 7)]) (T := 8) (by kernel_rfl) (by kernel_rfl) (tfU_cons (s := 1) (f := 3) (by kernel_rfl) (Tells.up (tells_i64 (t := 3) (by kernel_rfl))) (tfU_cons (s := 1) (f := 3) (by kernel_rfl) (Tells.up (tells_i64 (t := 3) (by kernel_rfl))) (tfU_cons (s := 1) (f := 9) (by kernel_rfl) (Tells.up (tells_strL (t := 9) (by kernel_rfl))) (tfU_cons (s := 1) (f := 36) (by kernel_rfl) (Tells.up (tells_sliceL (t := 36) (e := 9) (sz := 1) (B := 16) (by kernel_rfl) (by kernel_rfl) (by kernel_rfl) (tells_strL (t := 9) (by kernel_rfl)))) (tfU_cons (s := 1) (f := 37) (by kernel_rfl) (Tells.up (tells_sliceL (t := 37) (e := 59) (sz := 3) (B := 48) (by kernel_rfl) (by kernel_rfl) (by kernel_rfl) T_api_Type.tells)) (tfU_cons (s := 1) (f := 31) (by kernel_rfl) (tellsU_slice (t := 31) (e := 40) (sz := 8) (B := 136) (by kernel_rfl) (by kernel_rfl) (by kernel_rfl) ih) (tfU_cons (s := 1) (f := 38) (by kernel_rfl) (tellsU_slice (t := 38) (e := 50) (sz := 12) (B := 192) (by kernel_rfl) (by kernel_rfl) (by kernel_rfl) (tellsU_down (T_api_Arm.tellsU ih))) (tfU_cons (s := 1) (f := 3) (by kernel_rfl) (Tells.up (tells_i64 (t := 3) (by kernel_rfl))) tfU_nil))))))))) (by
  rintro ⟨x0, x1, x2, x3, x4, x5, x6, x7, ⟨⟩⟩ cs e q
  obtain ⟨c0, r0, rfl, e0, c1, r1, rfl, e1, c2, r2, rfl, e2, c3, r3, rfl, e3, c4, r4, rfl, e4, c5, r5, rfl, e5, c6, r6, rfl, e6, c7, r7, rfl, e7, eN⟩ := e
  obtain rfl : c0 = [.int .i64 x0] := e0
  obtain rfl : c1 = [.int .i64 x1] := e1
  obtain rfl : c2 = [.string x2] := e2
  obtain ⟨A3, k3, rfl, l3, R3⟩ := e3
  obtain ⟨A4, k4, rfl, l4, R4⟩ := e4
  obtain ⟨A5, k5, rfl, l5, R5⟩ := e5
  obtain ⟨A6, k6, rfl, l6, R6⟩ := e6
  obtain rfl : c7 = [.int .i64 x7] := e7
  obtain rfl : r7 = [] := eN
  exact ⟨⟨x0, x1, x2, x3, x4, x5, x6, x7⟩, T_api_Expr.iff.2 ⟨_, _, _, _, _, _, _, _, rfl, l3, R3, l4, R4, l5, R5, l6, R6⟩, T_api_Expr.Q_iff.2 ⟨q.1, q.2.1, q.2.2.1, q.2.2.2.1, q.2.2.2.2.1, q.2.2.2.2.2.1, q.2.2.2.2.2.2.1, q.2.2.2.2.2.2.2.1⟩⟩)
def T_api_Expr.bulk : T_api_Expr → Nat
  | ⟨f0, f1, f2, f3, f4, f5, f6, f7⟩ => (1 + (1 + ((f2.size + 1) + (((List.map (fun s : ByteArray => s.size + 1) f3).sum + 1) + (((List.map T_api_Type.bulk f4).sum + 1) + (((f5.attach.map fun y => T_api_Expr.bulk y.1).sum + 1) + (((f6.attach.map fun y => ((T_api_Pat.bulk y.1.Pat) + ((T_api_Expr.bulk y.1.Body) + (0))) + 1).sum + 1) + (1 + (0))))))))) + 1
  termination_by x => SizeOf.sizeOf x
  decreasing_by
    all_goals
      have h1 := List.sizeOf_lt_of_mem y.2
      first
      | (simp_all; omega)
      | (have h2 := T_api_Arm.lt_Body y.1; simp_all; omega)
def T_api_Arm.bulk (x : T_api_Arm) : Nat := ((T_api_Pat.bulk x.Pat) + ((T_api_Expr.bulk x.Body) + (0))) + 1
theorem T_api_Expr.bulk_eq (x : T_api_Expr) : T_api_Expr.bulk x = (1 + (1 + ((x.Text.size + 1) + (((List.map (fun s : ByteArray => s.size + 1) x.Names).sum + 1) + (((List.map T_api_Type.bulk x.Types).sum + 1) + (((List.map T_api_Expr.bulk x.Args).sum + 1) + (((List.map T_api_Arm.bulk x.Arms).sum + 1) + (1 + (0))))))))) + 1 := by
  obtain ⟨f0, f1, f2, f3, f4, f5, f6, f7⟩ := x
  rw [T_api_Expr.bulk]
  rw [(List.attach_map_val : (f5.attach.map fun i => T_api_Expr.bulk i.1) = f5.map T_api_Expr.bulk)]
  rw [show (f6.attach.map fun y => ((T_api_Pat.bulk y.1.Pat) + ((T_api_Expr.bulk y.1.Body) + (0))) + 1) = (f6.attach.map fun y => T_api_Arm.bulk y.1) from rfl, (List.attach_map_val : (f6.attach.map fun i => T_api_Arm.bulk i.1) = f6.map T_api_Arm.bulk)]
theorem T_api_Arm.ktU {H : Type} {bk : DataW H → Nat} {enc : TypeId × Value → H} {W : World} {N : Nat} (M : Measure bk) (ih : KT N bk enc Tryd.prog W 40 T_api_Expr.E T_api_Expr.bulk) : KT (N + 1) bk enc Tryd.prog W 50 T_api_Arm.E T_api_Arm.bulk := kt_map (kt_struct M (t := 50) (fs := [(48, 0), (40, 4)]) (T := 12) (by kernel_rfl) (by kernel_rfl) (ktf_cons (s := 4) (f := 48) (by kernel_rfl) T_api_Pat.T (T_api_Pat.kt M) (ktf_cons (s := 8) (f := 40) (by kernel_rfl) T_api_Expr.T ih ktf_nil))) (fun x cs e => by
  obtain ⟨d0, d1, rfl, e0, e1⟩ := e
  exact ⟨(x.Pat, x.Body, ()), ⟨d0, _, rfl, e0, ⟨d1, _, (List.append_nil _).symm, e1, rfl⟩⟩, Nat.le_refl _⟩)
theorem T_api_Expr.kt {H : Type} {bk : DataW H → Nat} {enc : TypeId × Value → H} {W : World} {N : Nat} (M : Measure bk) : KT N bk enc Tryd.prog W 40 T_api_Expr.E T_api_Expr.bulk := kt_rec (fun N ih => kt_map (kt_struct M (t := 40) (fs := [(3, 0), (3, 1), (9, 2), (36, 3), (37, 4), (31, 5), (38, 6), (3, 7)]) (T := 8) (by kernel_rfl) (by kernel_rfl) (ktf_cons (s := 1) (f := 3) (by kernel_rfl) (tell_int .i64) (kt_one M) (ktf_cons (s := 1) (f := 3) (by kernel_rfl) (tell_int .i64) (kt_one M) (ktf_cons (s := 1) (f := 9) (by kernel_rfl) tell_str (kt_str (t := 9) M (by kernel_rfl)) (ktf_cons (s := 1) (f := 36) (by kernel_rfl) (tell_row tell_str) (kt_slice M (t := 36) (e := 9) (sz := 1) (by kernel_rfl) (by kernel_rfl) (kt_str (t := 9) M (by kernel_rfl))) (ktf_cons (s := 1) (f := 37) (by kernel_rfl) (tell_row T_api_Type.T) (kt_slice M (t := 37) (e := 59) (sz := 3) (by kernel_rfl) (by kernel_rfl) (T_api_Type.kt M)) (ktf_cons (s := 1) (f := 31) (by kernel_rfl) (tell_row T_api_Expr.T) (kt_slice M (t := 31) (e := 40) (sz := 8) (by kernel_rfl) (by kernel_rfl) ih) (ktf_cons (s := 1) (f := 38) (by kernel_rfl) (tell_row T_api_Arm.T) (kt_slice M (t := 38) (e := 50) (sz := 12) (by kernel_rfl) (by kernel_rfl) (kt_down (T_api_Arm.ktU M ih))) (ktf_cons (s := 1) (f := 3) (by kernel_rfl) (tell_int .i64) (kt_one M) ktf_nil))))))))) (fun x cs e => by
  obtain ⟨A3, c3, A4, c4, A5, c5, A6, c6, rfl, k3, r3, k4, r4, k5, r5, k6, r6⟩ := T_api_Expr.iff.1 e
  exact ⟨(x.Kind, x.Num, x.Text, x.Names, x.Types, x.Args, x.Arms, x.At, ()), ⟨[.int .i64 x.Kind], _, rfl, rfl, ⟨[.int .i64 x.Num], _, rfl, rfl, ⟨[.string x.Text], _, rfl, rfl, ⟨[.slice A3 x.Names.length c3], _, rfl, ⟨_, _, rfl, k3, r3⟩, ⟨[.slice A4 x.Types.length c4], _, rfl, ⟨_, _, rfl, k4, r4⟩, ⟨[.slice A5 x.Args.length c5], _, rfl, ⟨_, _, rfl, k5, r5⟩, ⟨[.slice A6 x.Arms.length c6], _, rfl, ⟨_, _, rfl, k6, r6⟩, ⟨[.int .i64 x.At], _, rfl, rfl, rfl⟩⟩⟩⟩⟩⟩⟩⟩, by rw [T_api_Expr.bulk_eq]; exact Nat.le_refl _⟩)) N
structure T_api_Func where
  Name : ByteArray
  Params : (List ByteArray)
  Names : (List ByteArray)
  Types : (List T_api_Type)
  Out : T_api_Type
  Body : T_api_Expr
def T_api_Func.E (h : Heap) (x : T_api_Func) (cs : List Value) : Prop := ∃ A1 c1 A2 c2 A3 c3 A6 c6 A10 c10 A11 c11 A12 c12 A13 c13, cs = [.string x.Name, .slice A1 x.Params.length c1, .slice A2 x.Names.length c2, .slice A3 x.Types.length c3, .int .i64 x.Out.Kind, .string x.Out.Name, .slice A6 x.Out.Args.length c6, .int .i64 x.Body.Kind, .int .i64 x.Body.Num, .string x.Body.Text, .slice A10 x.Body.Names.length c10, .slice A11 x.Body.Types.length c11, .slice A12 x.Body.Args.length c12, .slice A13 x.Body.Arms.length c13, .int .i64 x.Body.At] ∧ x.Params.length ≤ c1 ∧ Rd 1 eStr h A1 x.Params ∧ x.Names.length ≤ c2 ∧ Rd 1 eStr h A2 x.Names ∧ x.Types.length ≤ c3 ∧ Rd 3 T_api_Type.E h A3 x.Types ∧ x.Out.Args.length ≤ c6 ∧ Rd 3 T_api_Type.E h A6 x.Out.Args ∧ x.Body.Names.length ≤ c10 ∧ Rd 1 eStr h A10 x.Body.Names ∧ x.Body.Types.length ≤ c11 ∧ Rd 3 T_api_Type.E h A11 x.Body.Types ∧ x.Body.Args.length ≤ c12 ∧ Rd 8 T_api_Expr.E h A12 x.Body.Args ∧ x.Body.Arms.length ≤ c13 ∧ Rd 12 T_api_Arm.E h A13 x.Body.Arms
theorem T_api_Func.T : Tell 15 T_api_Func.E := ⟨by rintro m h x _ s ⟨A1, c1, A2, c2, A3, c3, A6, c6, A10, c10, A11, c11, A12, c12, A13, c13, rfl, k1, r1, k2, r2, k3, r3, k6, r6, k10, r10, k11, r11, k12, r12, k13, r13⟩; exact ⟨_, _, _, _, _, _, _, _, _, _, _, _, _, _, _, _, rfl, k1, r1.sub tell_str s, k2, r2.sub tell_str s, k3, r3.sub T_api_Type.T s, k6, r6.sub T_api_Type.T s, k10, r10.sub tell_str s, k11, r11.sub T_api_Type.T s, k12, r12.sub T_api_Expr.T s, k13, r13.sub T_api_Arm.T s⟩, by rintro h x _ ⟨A1, c1, A2, c2, A3, c3, A6, c6, A10, c10, A11, c11, A12, c12, A13, c13, rfl, k1, r1, k2, r2, k3, r3, k6, r6, k10, r10, k11, r11, k12, r12, k13, r13⟩; rfl, by rintro h x _ ⟨A1, c1, A2, c2, A3, c3, A6, c6, A10, c10, A11, c11, A12, c12, A13, c13, rfl, k1, r1, k2, r2, k3, r3, k6, r6, k10, r10, k11, r11, k12, r12, k13, r13⟩; exact Flats.cons trivial (Flats.cons trivial (Flats.cons trivial (Flats.cons trivial (Flats.cons trivial (Flats.cons trivial (Flats.cons trivial (Flats.cons trivial (Flats.cons trivial (Flats.cons trivial (Flats.cons trivial (Flats.cons trivial (Flats.cons trivial (Flats.cons trivial (Flats.cons trivial Flats.nil))))))))))))))⟩
def T_api_Func.Q (x : T_api_Func) : Prop := (x.Name.size ≤ 140737488351232) ∧ (x.Params.length * 16 ≤ 140737488351232 ∧ ∀ a ∈ x.Params, (a.size ≤ 140737488351232)) ∧ (x.Names.length * 16 ≤ 140737488351232 ∧ ∀ a ∈ x.Names, (a.size ≤ 140737488351232)) ∧ (x.Types.length * 48 ≤ 140737488351232 ∧ ∀ a ∈ x.Types, (T_api_Type.Q a)) ∧ (T_api_Type.Q x.Out) ∧ (T_api_Expr.Q x.Body)
theorem T_api_Func.tells {H : Type} {enc : TypeId × Value → H} {W : World} : Tells enc Tryd.prog W 61 T_api_Func.E T_api_Func.Q := tells_map (tells_struct (t := 61) (fs := [(9, 0), (36, 1), (36, 2), (37, 3), (59, 4), (40, 7)]) (T := 15) (by kernel_rfl) (by kernel_rfl) (tf_cons (s := 1) (f := 9) (by kernel_rfl) (tells_strL (t := 9) (by kernel_rfl)) (tf_cons (s := 1) (f := 36) (by kernel_rfl) (tells_sliceL (t := 36) (e := 9) (sz := 1) (B := 16) (by kernel_rfl) (by kernel_rfl) (by kernel_rfl) (tells_strL (t := 9) (by kernel_rfl))) (tf_cons (s := 1) (f := 36) (by kernel_rfl) (tells_sliceL (t := 36) (e := 9) (sz := 1) (B := 16) (by kernel_rfl) (by kernel_rfl) (by kernel_rfl) (tells_strL (t := 9) (by kernel_rfl))) (tf_cons (s := 1) (f := 37) (by kernel_rfl) (tells_sliceL (t := 37) (e := 59) (sz := 3) (B := 48) (by kernel_rfl) (by kernel_rfl) (by kernel_rfl) T_api_Type.tells) (tf_cons (s := 3) (f := 59) (by kernel_rfl) T_api_Type.tells (tf_cons (s := 8) (f := 40) (by kernel_rfl) T_api_Expr.tells tf_nil))))))) (by
  rintro ⟨x0, x1, x2, x3, x4, x5, ⟨⟩⟩ cs e q
  obtain ⟨c0, r0, rfl, e0, c1, r1, rfl, e1, c2, r2, rfl, e2, c3, r3, rfl, e3, c4, r4, rfl, e4, c5, r5, rfl, e5, eN⟩ := e
  obtain rfl : c0 = [.string x0] := e0
  obtain ⟨A1, k1, rfl, l1, R1⟩ := e1
  obtain ⟨A2, k2, rfl, l2, R2⟩ := e2
  obtain ⟨A3, k3, rfl, l3, R3⟩ := e3
  obtain ⟨A4_2, k4_2, rfl, l4_2, R4_2⟩ := T_api_Type.iff.1 e4
  obtain ⟨A5_3, k5_3, A5_4, k5_4, A5_5, k5_5, A5_6, k5_6, rfl, l5_3, R5_3, l5_4, R5_4, l5_5, R5_5, l5_6, R5_6⟩ := T_api_Expr.iff.1 e5
  obtain rfl : r5 = [] := eN
  exact ⟨⟨x0, x1, x2, x3, x4, x5⟩, ⟨_, _, _, _, _, _, _, _, _, _, _, _, _, _, _, _, rfl, l1, R1, l2, R2, l3, R3, l4_2, R4_2, l5_3, R5_3, l5_4, R5_4, l5_5, R5_5, l5_6, R5_6⟩, q.1, q.2.1, q.2.2.1, q.2.2.2.1, q.2.2.2.2.1, q.2.2.2.2.2.1⟩)
def T_api_Func.bulk (x : T_api_Func) : Nat := ((x.Name.size + 1) + (((List.map (fun s : ByteArray => s.size + 1) x.Params).sum + 1) + (((List.map (fun s : ByteArray => s.size + 1) x.Names).sum + 1) + (((List.map T_api_Type.bulk x.Types).sum + 1) + ((T_api_Type.bulk x.Out) + ((T_api_Expr.bulk x.Body) + (0))))))) + 1
theorem T_api_Func.kt {H : Type} {bk : DataW H → Nat} {enc : TypeId × Value → H} {W : World} {N : Nat} (M : Measure bk) : KT N bk enc Tryd.prog W 61 T_api_Func.E T_api_Func.bulk := kt_down (kt_map (kt_struct M (t := 61) (fs := [(9, 0), (36, 1), (36, 2), (37, 3), (59, 4), (40, 7)]) (T := 15) (by kernel_rfl) (by kernel_rfl) (ktf_cons (s := 1) (f := 9) (by kernel_rfl) tell_str (kt_str (t := 9) M (by kernel_rfl)) (ktf_cons (s := 1) (f := 36) (by kernel_rfl) (tell_row tell_str) (kt_slice M (t := 36) (e := 9) (sz := 1) (by kernel_rfl) (by kernel_rfl) (kt_str (t := 9) M (by kernel_rfl))) (ktf_cons (s := 1) (f := 36) (by kernel_rfl) (tell_row tell_str) (kt_slice M (t := 36) (e := 9) (sz := 1) (by kernel_rfl) (by kernel_rfl) (kt_str (t := 9) M (by kernel_rfl))) (ktf_cons (s := 1) (f := 37) (by kernel_rfl) (tell_row T_api_Type.T) (kt_slice M (t := 37) (e := 59) (sz := 3) (by kernel_rfl) (by kernel_rfl) (T_api_Type.kt M)) (ktf_cons (s := 3) (f := 59) (by kernel_rfl) T_api_Type.T (T_api_Type.kt M) (ktf_cons (s := 8) (f := 40) (by kernel_rfl) T_api_Expr.T (T_api_Expr.kt M) ktf_nil))))))) (fun x cs e => by
  obtain ⟨A1, c1, A2, c2, A3, c3, A4_2, c4_2, A5_3, c5_3, A5_4, c5_4, A5_5, c5_5, A5_6, c5_6, rfl, k1, r1, k2, r2, k3, r3, k4_2, r4_2, k5_3, r5_3, k5_4, r5_4, k5_5, r5_5, k5_6, r5_6⟩ := e
  exact ⟨(x.Name, x.Params, x.Names, x.Types, x.Out, x.Body, ()), ⟨[.string x.Name], _, rfl, rfl, ⟨[.slice A1 x.Params.length c1], _, rfl, ⟨_, _, rfl, k1, r1⟩, ⟨[.slice A2 x.Names.length c2], _, rfl, ⟨_, _, rfl, k2, r2⟩, ⟨[.slice A3 x.Types.length c3], _, rfl, ⟨_, _, rfl, k3, r3⟩, ⟨[.int .i64 x.Out.Kind, .string x.Out.Name, .slice A4_2 x.Out.Args.length c4_2], _, rfl, T_api_Type.iff.2 ⟨_, _, rfl, k4_2, r4_2⟩, ⟨[.int .i64 x.Body.Kind, .int .i64 x.Body.Num, .string x.Body.Text, .slice A5_3 x.Body.Names.length c5_3, .slice A5_4 x.Body.Types.length c5_4, .slice A5_5 x.Body.Args.length c5_5, .slice A5_6 x.Body.Arms.length c5_6, .int .i64 x.Body.At], _, rfl, T_api_Expr.iff.2 ⟨_, _, _, _, _, _, _, _, rfl, k5_3, r5_3, k5_4, r5_4, k5_5, r5_5, k5_6, r5_6⟩, rfl⟩⟩⟩⟩⟩⟩, Nat.le_refl _⟩))
structure T_api_Trait where
  Name : ByteArray
  Funcs : (List T_api_Func)
def T_api_Trait.E (h : Heap) (x : T_api_Trait) (cs : List Value) : Prop := ∃ A1 c1, cs = [.string x.Name, .slice A1 x.Funcs.length c1] ∧ x.Funcs.length ≤ c1 ∧ Rd 15 T_api_Func.E h A1 x.Funcs
theorem T_api_Trait.T : Tell 2 T_api_Trait.E := ⟨by rintro m h x _ s ⟨A1, c1, rfl, k1, r1⟩; exact ⟨_, _, rfl, k1, r1.sub T_api_Func.T s⟩, by rintro h x _ ⟨A1, c1, rfl, k1, r1⟩; rfl, by rintro h x _ ⟨A1, c1, rfl, k1, r1⟩; exact Flats.cons trivial (Flats.cons trivial Flats.nil)⟩
def T_api_Trait.Q (x : T_api_Trait) : Prop := (x.Name.size ≤ 140737488351232) ∧ (x.Funcs.length * 272 ≤ 140737488351232 ∧ ∀ a ∈ x.Funcs, (T_api_Func.Q a))
theorem T_api_Trait.tells {H : Type} {enc : TypeId × Value → H} {W : World} : Tells enc Tryd.prog W 75 T_api_Trait.E T_api_Trait.Q := tells_map (tells_struct (t := 75) (fs := [(9, 0), (26, 1)]) (T := 2) (by kernel_rfl) (by kernel_rfl) (tf_cons (s := 1) (f := 9) (by kernel_rfl) (tells_strL (t := 9) (by kernel_rfl)) (tf_cons (s := 1) (f := 26) (by kernel_rfl) (tells_sliceL (t := 26) (e := 61) (sz := 15) (B := 272) (by kernel_rfl) (by kernel_rfl) (by kernel_rfl) T_api_Func.tells) tf_nil))) (by
  rintro ⟨x0, x1, ⟨⟩⟩ cs e q
  obtain ⟨c0, r0, rfl, e0, c1, r1, rfl, e1, eN⟩ := e
  obtain rfl : c0 = [.string x0] := e0
  obtain ⟨A1, k1, rfl, l1, R1⟩ := e1
  obtain rfl : r1 = [] := eN
  exact ⟨⟨x0, x1⟩, ⟨_, _, rfl, l1, R1⟩, q.1, q.2.1⟩)
def T_api_Trait.bulk (x : T_api_Trait) : Nat := ((x.Name.size + 1) + (((List.map T_api_Func.bulk x.Funcs).sum + 1) + (0))) + 1
theorem T_api_Trait.kt {H : Type} {bk : DataW H → Nat} {enc : TypeId × Value → H} {W : World} {N : Nat} (M : Measure bk) : KT N bk enc Tryd.prog W 75 T_api_Trait.E T_api_Trait.bulk := kt_down (kt_map (kt_struct M (t := 75) (fs := [(9, 0), (26, 1)]) (T := 2) (by kernel_rfl) (by kernel_rfl) (ktf_cons (s := 1) (f := 9) (by kernel_rfl) tell_str (kt_str (t := 9) M (by kernel_rfl)) (ktf_cons (s := 1) (f := 26) (by kernel_rfl) (tell_row T_api_Func.T) (kt_slice M (t := 26) (e := 61) (sz := 15) (by kernel_rfl) (by kernel_rfl) (T_api_Func.kt M)) ktf_nil))) (fun x cs e => by
  obtain ⟨A1, c1, rfl, k1, r1⟩ := e
  exact ⟨(x.Name, x.Funcs, ()), ⟨[.string x.Name], _, rfl, rfl, ⟨[.slice A1 x.Funcs.length c1], _, rfl, ⟨_, _, rfl, k1, r1⟩, rfl⟩⟩, Nat.le_refl _⟩))
structure T_api_Impl where
  Trait : ByteArray
  For : ByteArray
  Funcs : (List T_api_Func)
def T_api_Impl.E (h : Heap) (x : T_api_Impl) (cs : List Value) : Prop := ∃ A2 c2, cs = [.string x.Trait, .string x.For, .slice A2 x.Funcs.length c2] ∧ x.Funcs.length ≤ c2 ∧ Rd 15 T_api_Func.E h A2 x.Funcs
theorem T_api_Impl.T : Tell 3 T_api_Impl.E := ⟨by rintro m h x _ s ⟨A2, c2, rfl, k2, r2⟩; exact ⟨_, _, rfl, k2, r2.sub T_api_Func.T s⟩, by rintro h x _ ⟨A2, c2, rfl, k2, r2⟩; rfl, by rintro h x _ ⟨A2, c2, rfl, k2, r2⟩; exact Flats.cons trivial (Flats.cons trivial (Flats.cons trivial Flats.nil))⟩
def T_api_Impl.Q (x : T_api_Impl) : Prop := (x.Trait.size ≤ 140737488351232) ∧ (x.For.size ≤ 140737488351232) ∧ (x.Funcs.length * 272 ≤ 140737488351232 ∧ ∀ a ∈ x.Funcs, (T_api_Func.Q a))
theorem T_api_Impl.tells {H : Type} {enc : TypeId × Value → H} {W : World} : Tells enc Tryd.prog W 57 T_api_Impl.E T_api_Impl.Q := tells_map (tells_struct (t := 57) (fs := [(9, 0), (9, 1), (26, 2)]) (T := 3) (by kernel_rfl) (by kernel_rfl) (tf_cons (s := 1) (f := 9) (by kernel_rfl) (tells_strL (t := 9) (by kernel_rfl)) (tf_cons (s := 1) (f := 9) (by kernel_rfl) (tells_strL (t := 9) (by kernel_rfl)) (tf_cons (s := 1) (f := 26) (by kernel_rfl) (tells_sliceL (t := 26) (e := 61) (sz := 15) (B := 272) (by kernel_rfl) (by kernel_rfl) (by kernel_rfl) T_api_Func.tells) tf_nil)))) (by
  rintro ⟨x0, x1, x2, ⟨⟩⟩ cs e q
  obtain ⟨c0, r0, rfl, e0, c1, r1, rfl, e1, c2, r2, rfl, e2, eN⟩ := e
  obtain rfl : c0 = [.string x0] := e0
  obtain rfl : c1 = [.string x1] := e1
  obtain ⟨A2, k2, rfl, l2, R2⟩ := e2
  obtain rfl : r2 = [] := eN
  exact ⟨⟨x0, x1, x2⟩, ⟨_, _, rfl, l2, R2⟩, q.1, q.2.1, q.2.2.1⟩)
def T_api_Impl.bulk (x : T_api_Impl) : Nat := ((x.Trait.size + 1) + ((x.For.size + 1) + (((List.map T_api_Func.bulk x.Funcs).sum + 1) + (0)))) + 1
theorem T_api_Impl.kt {H : Type} {bk : DataW H → Nat} {enc : TypeId × Value → H} {W : World} {N : Nat} (M : Measure bk) : KT N bk enc Tryd.prog W 57 T_api_Impl.E T_api_Impl.bulk := kt_down (kt_map (kt_struct M (t := 57) (fs := [(9, 0), (9, 1), (26, 2)]) (T := 3) (by kernel_rfl) (by kernel_rfl) (ktf_cons (s := 1) (f := 9) (by kernel_rfl) tell_str (kt_str (t := 9) M (by kernel_rfl)) (ktf_cons (s := 1) (f := 9) (by kernel_rfl) tell_str (kt_str (t := 9) M (by kernel_rfl)) (ktf_cons (s := 1) (f := 26) (by kernel_rfl) (tell_row T_api_Func.T) (kt_slice M (t := 26) (e := 61) (sz := 15) (by kernel_rfl) (by kernel_rfl) (T_api_Func.kt M)) ktf_nil)))) (fun x cs e => by
  obtain ⟨A2, c2, rfl, k2, r2⟩ := e
  exact ⟨(x.Trait, x.For, x.Funcs, ()), ⟨[.string x.Trait], _, rfl, rfl, ⟨[.string x.For], _, rfl, rfl, ⟨[.slice A2 x.Funcs.length c2], _, rfl, ⟨_, _, rfl, k2, r2⟩, rfl⟩⟩⟩, Nat.le_refl _⟩))
structure T_api_Actor where
  Name : ByteArray
  Names : (List ByteArray)
  Types : (List T_api_Type)
  Msg : T_api_Type
  Body : T_api_Expr
def T_api_Actor.E (h : Heap) (x : T_api_Actor) (cs : List Value) : Prop := ∃ A1 c1 A2 c2 A5 c5 A9 c9 A10 c10 A11 c11 A12 c12, cs = [.string x.Name, .slice A1 x.Names.length c1, .slice A2 x.Types.length c2, .int .i64 x.Msg.Kind, .string x.Msg.Name, .slice A5 x.Msg.Args.length c5, .int .i64 x.Body.Kind, .int .i64 x.Body.Num, .string x.Body.Text, .slice A9 x.Body.Names.length c9, .slice A10 x.Body.Types.length c10, .slice A11 x.Body.Args.length c11, .slice A12 x.Body.Arms.length c12, .int .i64 x.Body.At] ∧ x.Names.length ≤ c1 ∧ Rd 1 eStr h A1 x.Names ∧ x.Types.length ≤ c2 ∧ Rd 3 T_api_Type.E h A2 x.Types ∧ x.Msg.Args.length ≤ c5 ∧ Rd 3 T_api_Type.E h A5 x.Msg.Args ∧ x.Body.Names.length ≤ c9 ∧ Rd 1 eStr h A9 x.Body.Names ∧ x.Body.Types.length ≤ c10 ∧ Rd 3 T_api_Type.E h A10 x.Body.Types ∧ x.Body.Args.length ≤ c11 ∧ Rd 8 T_api_Expr.E h A11 x.Body.Args ∧ x.Body.Arms.length ≤ c12 ∧ Rd 12 T_api_Arm.E h A12 x.Body.Arms
theorem T_api_Actor.T : Tell 14 T_api_Actor.E := ⟨by rintro m h x _ s ⟨A1, c1, A2, c2, A5, c5, A9, c9, A10, c10, A11, c11, A12, c12, rfl, k1, r1, k2, r2, k5, r5, k9, r9, k10, r10, k11, r11, k12, r12⟩; exact ⟨_, _, _, _, _, _, _, _, _, _, _, _, _, _, rfl, k1, r1.sub tell_str s, k2, r2.sub T_api_Type.T s, k5, r5.sub T_api_Type.T s, k9, r9.sub tell_str s, k10, r10.sub T_api_Type.T s, k11, r11.sub T_api_Expr.T s, k12, r12.sub T_api_Arm.T s⟩, by rintro h x _ ⟨A1, c1, A2, c2, A5, c5, A9, c9, A10, c10, A11, c11, A12, c12, rfl, k1, r1, k2, r2, k5, r5, k9, r9, k10, r10, k11, r11, k12, r12⟩; rfl, by rintro h x _ ⟨A1, c1, A2, c2, A5, c5, A9, c9, A10, c10, A11, c11, A12, c12, rfl, k1, r1, k2, r2, k5, r5, k9, r9, k10, r10, k11, r11, k12, r12⟩; exact Flats.cons trivial (Flats.cons trivial (Flats.cons trivial (Flats.cons trivial (Flats.cons trivial (Flats.cons trivial (Flats.cons trivial (Flats.cons trivial (Flats.cons trivial (Flats.cons trivial (Flats.cons trivial (Flats.cons trivial (Flats.cons trivial (Flats.cons trivial Flats.nil)))))))))))))⟩
def T_api_Actor.Q (x : T_api_Actor) : Prop := (x.Name.size ≤ 140737488351232) ∧ (x.Names.length * 16 ≤ 140737488351232 ∧ ∀ a ∈ x.Names, (a.size ≤ 140737488351232)) ∧ (x.Types.length * 48 ≤ 140737488351232 ∧ ∀ a ∈ x.Types, (T_api_Type.Q a)) ∧ (T_api_Type.Q x.Msg) ∧ (T_api_Expr.Q x.Body)
theorem T_api_Actor.tells {H : Type} {enc : TypeId × Value → H} {W : World} : Tells enc Tryd.prog W 63 T_api_Actor.E T_api_Actor.Q := tells_map (tells_struct (t := 63) (fs := [(9, 0), (36, 1), (37, 2), (59, 3), (40, 6)]) (T := 14) (by kernel_rfl) (by kernel_rfl) (tf_cons (s := 1) (f := 9) (by kernel_rfl) (tells_strL (t := 9) (by kernel_rfl)) (tf_cons (s := 1) (f := 36) (by kernel_rfl) (tells_sliceL (t := 36) (e := 9) (sz := 1) (B := 16) (by kernel_rfl) (by kernel_rfl) (by kernel_rfl) (tells_strL (t := 9) (by kernel_rfl))) (tf_cons (s := 1) (f := 37) (by kernel_rfl) (tells_sliceL (t := 37) (e := 59) (sz := 3) (B := 48) (by kernel_rfl) (by kernel_rfl) (by kernel_rfl) T_api_Type.tells) (tf_cons (s := 3) (f := 59) (by kernel_rfl) T_api_Type.tells (tf_cons (s := 8) (f := 40) (by kernel_rfl) T_api_Expr.tells tf_nil)))))) (by
  rintro ⟨x0, x1, x2, x3, x4, ⟨⟩⟩ cs e q
  obtain ⟨c0, r0, rfl, e0, c1, r1, rfl, e1, c2, r2, rfl, e2, c3, r3, rfl, e3, c4, r4, rfl, e4, eN⟩ := e
  obtain rfl : c0 = [.string x0] := e0
  obtain ⟨A1, k1, rfl, l1, R1⟩ := e1
  obtain ⟨A2, k2, rfl, l2, R2⟩ := e2
  obtain ⟨A3_2, k3_2, rfl, l3_2, R3_2⟩ := T_api_Type.iff.1 e3
  obtain ⟨A4_3, k4_3, A4_4, k4_4, A4_5, k4_5, A4_6, k4_6, rfl, l4_3, R4_3, l4_4, R4_4, l4_5, R4_5, l4_6, R4_6⟩ := T_api_Expr.iff.1 e4
  obtain rfl : r4 = [] := eN
  exact ⟨⟨x0, x1, x2, x3, x4⟩, ⟨_, _, _, _, _, _, _, _, _, _, _, _, _, _, rfl, l1, R1, l2, R2, l3_2, R3_2, l4_3, R4_3, l4_4, R4_4, l4_5, R4_5, l4_6, R4_6⟩, q.1, q.2.1, q.2.2.1, q.2.2.2.1, q.2.2.2.2.1⟩)
def T_api_Actor.bulk (x : T_api_Actor) : Nat := ((x.Name.size + 1) + (((List.map (fun s : ByteArray => s.size + 1) x.Names).sum + 1) + (((List.map T_api_Type.bulk x.Types).sum + 1) + ((T_api_Type.bulk x.Msg) + ((T_api_Expr.bulk x.Body) + (0)))))) + 1
theorem T_api_Actor.kt {H : Type} {bk : DataW H → Nat} {enc : TypeId × Value → H} {W : World} {N : Nat} (M : Measure bk) : KT N bk enc Tryd.prog W 63 T_api_Actor.E T_api_Actor.bulk := kt_down (kt_map (kt_struct M (t := 63) (fs := [(9, 0), (36, 1), (37, 2), (59, 3), (40, 6)]) (T := 14) (by kernel_rfl) (by kernel_rfl) (ktf_cons (s := 1) (f := 9) (by kernel_rfl) tell_str (kt_str (t := 9) M (by kernel_rfl)) (ktf_cons (s := 1) (f := 36) (by kernel_rfl) (tell_row tell_str) (kt_slice M (t := 36) (e := 9) (sz := 1) (by kernel_rfl) (by kernel_rfl) (kt_str (t := 9) M (by kernel_rfl))) (ktf_cons (s := 1) (f := 37) (by kernel_rfl) (tell_row T_api_Type.T) (kt_slice M (t := 37) (e := 59) (sz := 3) (by kernel_rfl) (by kernel_rfl) (T_api_Type.kt M)) (ktf_cons (s := 3) (f := 59) (by kernel_rfl) T_api_Type.T (T_api_Type.kt M) (ktf_cons (s := 8) (f := 40) (by kernel_rfl) T_api_Expr.T (T_api_Expr.kt M) ktf_nil)))))) (fun x cs e => by
  obtain ⟨A1, c1, A2, c2, A3_2, c3_2, A4_3, c4_3, A4_4, c4_4, A4_5, c4_5, A4_6, c4_6, rfl, k1, r1, k2, r2, k3_2, r3_2, k4_3, r4_3, k4_4, r4_4, k4_5, r4_5, k4_6, r4_6⟩ := e
  exact ⟨(x.Name, x.Names, x.Types, x.Msg, x.Body, ()), ⟨[.string x.Name], _, rfl, rfl, ⟨[.slice A1 x.Names.length c1], _, rfl, ⟨_, _, rfl, k1, r1⟩, ⟨[.slice A2 x.Types.length c2], _, rfl, ⟨_, _, rfl, k2, r2⟩, ⟨[.int .i64 x.Msg.Kind, .string x.Msg.Name, .slice A3_2 x.Msg.Args.length c3_2], _, rfl, T_api_Type.iff.2 ⟨_, _, rfl, k3_2, r3_2⟩, ⟨[.int .i64 x.Body.Kind, .int .i64 x.Body.Num, .string x.Body.Text, .slice A4_3 x.Body.Names.length c4_3, .slice A4_4 x.Body.Types.length c4_4, .slice A4_5 x.Body.Args.length c4_5, .slice A4_6 x.Body.Arms.length c4_6, .int .i64 x.Body.At], _, rfl, T_api_Expr.iff.2 ⟨_, _, _, _, _, _, _, _, rfl, k4_3, r4_3, k4_4, r4_4, k4_5, r4_5, k4_6, r4_6⟩, rfl⟩⟩⟩⟩⟩, Nat.le_refl _⟩))
structure T_api_Program where
  Name : ByteArray
  Version : Int
  Uses : (List T_api_Use)
  Datas : (List T_api_Data)
  Traits : (List T_api_Trait)
  Impls : (List T_api_Impl)
  Funcs : (List T_api_Func)
  Actors : (List T_api_Actor)
def T_api_Program.E (h : Heap) (x : T_api_Program) (cs : List Value) : Prop := ∃ A2 c2 A3 c3 A4 c4 A5 c5 A6 c6 A7 c7, cs = [.string x.Name, .int .i64 x.Version, .slice A2 x.Uses.length c2, .slice A3 x.Datas.length c3, .slice A4 x.Traits.length c4, .slice A5 x.Impls.length c5, .slice A6 x.Funcs.length c6, .slice A7 x.Actors.length c7] ∧ x.Uses.length ≤ c2 ∧ Rd 3 T_api_Use.E h A2 x.Uses ∧ x.Datas.length ≤ c3 ∧ Rd 3 T_api_Data.E h A3 x.Datas ∧ x.Traits.length ≤ c4 ∧ Rd 2 T_api_Trait.E h A4 x.Traits ∧ x.Impls.length ≤ c5 ∧ Rd 3 T_api_Impl.E h A5 x.Impls ∧ x.Funcs.length ≤ c6 ∧ Rd 15 T_api_Func.E h A6 x.Funcs ∧ x.Actors.length ≤ c7 ∧ Rd 14 T_api_Actor.E h A7 x.Actors
theorem T_api_Program.T : Tell 8 T_api_Program.E := ⟨by rintro m h x _ s ⟨A2, c2, A3, c3, A4, c4, A5, c5, A6, c6, A7, c7, rfl, k2, r2, k3, r3, k4, r4, k5, r5, k6, r6, k7, r7⟩; exact ⟨_, _, _, _, _, _, _, _, _, _, _, _, rfl, k2, r2.sub T_api_Use.T s, k3, r3.sub T_api_Data.T s, k4, r4.sub T_api_Trait.T s, k5, r5.sub T_api_Impl.T s, k6, r6.sub T_api_Func.T s, k7, r7.sub T_api_Actor.T s⟩, by rintro h x _ ⟨A2, c2, A3, c3, A4, c4, A5, c5, A6, c6, A7, c7, rfl, k2, r2, k3, r3, k4, r4, k5, r5, k6, r6, k7, r7⟩; rfl, by rintro h x _ ⟨A2, c2, A3, c3, A4, c4, A5, c5, A6, c6, A7, c7, rfl, k2, r2, k3, r3, k4, r4, k5, r5, k6, r6, k7, r7⟩; exact Flats.cons trivial (Flats.cons trivial (Flats.cons trivial (Flats.cons trivial (Flats.cons trivial (Flats.cons trivial (Flats.cons trivial (Flats.cons trivial Flats.nil)))))))⟩
def T_api_Program.Q (x : T_api_Program) : Prop := (x.Name.size ≤ 140737488351232) ∧ (-9223372036854775808 ≤ x.Version ∧ x.Version ≤ 9223372036854775807) ∧ (x.Uses.length * 32 ≤ 140737488351232 ∧ ∀ a ∈ x.Uses, (T_api_Use.Q a)) ∧ (x.Datas.length * 64 ≤ 140737488351232 ∧ ∀ a ∈ x.Datas, (T_api_Data.Q a)) ∧ (x.Traits.length * 40 ≤ 140737488351232 ∧ ∀ a ∈ x.Traits, (T_api_Trait.Q a)) ∧ (x.Impls.length * 56 ≤ 140737488351232 ∧ ∀ a ∈ x.Impls, (T_api_Impl.Q a)) ∧ (x.Funcs.length * 272 ≤ 140737488351232 ∧ ∀ a ∈ x.Funcs, (T_api_Func.Q a)) ∧ (x.Actors.length * 248 ≤ 140737488351232 ∧ ∀ a ∈ x.Actors, (T_api_Actor.Q a))
theorem T_api_Program.tells {H : Type} {enc : TypeId × Value → H} {W : World} : Tells enc Tryd.prog W 29 T_api_Program.E T_api_Program.Q := tells_map (tells_struct (t := 29) (fs := [(9, 0), (3, 1), (22, 2), (23, 3), (24, 4), (25, 5), (26, 6), (27, 7)]) (T := 8) (by kernel_rfl) (by kernel_rfl) (tf_cons (s := 1) (f := 9) (by kernel_rfl) (tells_strL (t := 9) (by kernel_rfl)) (tf_cons (s := 1) (f := 3) (by kernel_rfl) (tells_i64 (t := 3) (by kernel_rfl)) (tf_cons (s := 1) (f := 22) (by kernel_rfl) (tells_sliceL (t := 22) (e := 67) (sz := 3) (B := 32) (by kernel_rfl) (by kernel_rfl) (by kernel_rfl) T_api_Use.tells) (tf_cons (s := 1) (f := 23) (by kernel_rfl) (tells_sliceL (t := 23) (e := 71) (sz := 3) (B := 64) (by kernel_rfl) (by kernel_rfl) (by kernel_rfl) T_api_Data.tells) (tf_cons (s := 1) (f := 24) (by kernel_rfl) (tells_sliceL (t := 24) (e := 75) (sz := 2) (B := 40) (by kernel_rfl) (by kernel_rfl) (by kernel_rfl) T_api_Trait.tells) (tf_cons (s := 1) (f := 25) (by kernel_rfl) (tells_sliceL (t := 25) (e := 57) (sz := 3) (B := 56) (by kernel_rfl) (by kernel_rfl) (by kernel_rfl) T_api_Impl.tells) (tf_cons (s := 1) (f := 26) (by kernel_rfl) (tells_sliceL (t := 26) (e := 61) (sz := 15) (B := 272) (by kernel_rfl) (by kernel_rfl) (by kernel_rfl) T_api_Func.tells) (tf_cons (s := 1) (f := 27) (by kernel_rfl) (tells_sliceL (t := 27) (e := 63) (sz := 14) (B := 248) (by kernel_rfl) (by kernel_rfl) (by kernel_rfl) T_api_Actor.tells) tf_nil))))))))) (by
  rintro ⟨x0, x1, x2, x3, x4, x5, x6, x7, ⟨⟩⟩ cs e q
  obtain ⟨c0, r0, rfl, e0, c1, r1, rfl, e1, c2, r2, rfl, e2, c3, r3, rfl, e3, c4, r4, rfl, e4, c5, r5, rfl, e5, c6, r6, rfl, e6, c7, r7, rfl, e7, eN⟩ := e
  obtain rfl : c0 = [.string x0] := e0
  obtain rfl : c1 = [.int .i64 x1] := e1
  obtain ⟨A2, k2, rfl, l2, R2⟩ := e2
  obtain ⟨A3, k3, rfl, l3, R3⟩ := e3
  obtain ⟨A4, k4, rfl, l4, R4⟩ := e4
  obtain ⟨A5, k5, rfl, l5, R5⟩ := e5
  obtain ⟨A6, k6, rfl, l6, R6⟩ := e6
  obtain ⟨A7, k7, rfl, l7, R7⟩ := e7
  obtain rfl : r7 = [] := eN
  exact ⟨⟨x0, x1, x2, x3, x4, x5, x6, x7⟩, ⟨_, _, _, _, _, _, _, _, _, _, _, _, rfl, l2, R2, l3, R3, l4, R4, l5, R5, l6, R6, l7, R7⟩, q.1, q.2.1, q.2.2.1, q.2.2.2.1, q.2.2.2.2.1, q.2.2.2.2.2.1, q.2.2.2.2.2.2.1, q.2.2.2.2.2.2.2.1⟩)
def T_api_Program.bulk (x : T_api_Program) : Nat := ((x.Name.size + 1) + (1 + (((List.map T_api_Use.bulk x.Uses).sum + 1) + (((List.map T_api_Data.bulk x.Datas).sum + 1) + (((List.map T_api_Trait.bulk x.Traits).sum + 1) + (((List.map T_api_Impl.bulk x.Impls).sum + 1) + (((List.map T_api_Func.bulk x.Funcs).sum + 1) + (((List.map T_api_Actor.bulk x.Actors).sum + 1) + (0))))))))) + 1
theorem T_api_Program.kt {H : Type} {bk : DataW H → Nat} {enc : TypeId × Value → H} {W : World} {N : Nat} (M : Measure bk) : KT N bk enc Tryd.prog W 29 T_api_Program.E T_api_Program.bulk := kt_down (kt_map (kt_struct M (t := 29) (fs := [(9, 0), (3, 1), (22, 2), (23, 3), (24, 4), (25, 5), (26, 6), (27, 7)]) (T := 8) (by kernel_rfl) (by kernel_rfl) (ktf_cons (s := 1) (f := 9) (by kernel_rfl) tell_str (kt_str (t := 9) M (by kernel_rfl)) (ktf_cons (s := 1) (f := 3) (by kernel_rfl) (tell_int .i64) (kt_one M) (ktf_cons (s := 1) (f := 22) (by kernel_rfl) (tell_row T_api_Use.T) (kt_slice M (t := 22) (e := 67) (sz := 3) (by kernel_rfl) (by kernel_rfl) (T_api_Use.kt M)) (ktf_cons (s := 1) (f := 23) (by kernel_rfl) (tell_row T_api_Data.T) (kt_slice M (t := 23) (e := 71) (sz := 3) (by kernel_rfl) (by kernel_rfl) (T_api_Data.kt M)) (ktf_cons (s := 1) (f := 24) (by kernel_rfl) (tell_row T_api_Trait.T) (kt_slice M (t := 24) (e := 75) (sz := 2) (by kernel_rfl) (by kernel_rfl) (T_api_Trait.kt M)) (ktf_cons (s := 1) (f := 25) (by kernel_rfl) (tell_row T_api_Impl.T) (kt_slice M (t := 25) (e := 57) (sz := 3) (by kernel_rfl) (by kernel_rfl) (T_api_Impl.kt M)) (ktf_cons (s := 1) (f := 26) (by kernel_rfl) (tell_row T_api_Func.T) (kt_slice M (t := 26) (e := 61) (sz := 15) (by kernel_rfl) (by kernel_rfl) (T_api_Func.kt M)) (ktf_cons (s := 1) (f := 27) (by kernel_rfl) (tell_row T_api_Actor.T) (kt_slice M (t := 27) (e := 63) (sz := 14) (by kernel_rfl) (by kernel_rfl) (T_api_Actor.kt M)) ktf_nil))))))))) (fun x cs e => by
  obtain ⟨A2, c2, A3, c3, A4, c4, A5, c5, A6, c6, A7, c7, rfl, k2, r2, k3, r3, k4, r4, k5, r5, k6, r6, k7, r7⟩ := e
  exact ⟨(x.Name, x.Version, x.Uses, x.Datas, x.Traits, x.Impls, x.Funcs, x.Actors, ()), ⟨[.string x.Name], _, rfl, rfl, ⟨[.int .i64 x.Version], _, rfl, rfl, ⟨[.slice A2 x.Uses.length c2], _, rfl, ⟨_, _, rfl, k2, r2⟩, ⟨[.slice A3 x.Datas.length c3], _, rfl, ⟨_, _, rfl, k3, r3⟩, ⟨[.slice A4 x.Traits.length c4], _, rfl, ⟨_, _, rfl, k4, r4⟩, ⟨[.slice A5 x.Impls.length c5], _, rfl, ⟨_, _, rfl, k5, r5⟩, ⟨[.slice A6 x.Funcs.length c6], _, rfl, ⟨_, _, rfl, k6, r6⟩, ⟨[.slice A7 x.Actors.length c7], _, rfl, ⟨_, _, rfl, k7, r7⟩, rfl⟩⟩⟩⟩⟩⟩⟩⟩, Nat.le_refl _⟩))
theorem T_api_Program.g5 {m : Heap} {x : T_api_Program} {cs : List Value} (e : T_api_Program.E m x cs) : ∃ A c, cs[5]? = some (.slice A (List.length x.Impls) c) ∧ List.length x.Impls ≤ c ∧ Rd 3 T_api_Impl.E m A x.Impls := by
  obtain ⟨A2, c2, A3, c3, A4, c4, A5, c5, A6, c6, A7, c7, rfl, k2, r2, k3, r3, k4, r4, k5, r5, k6, r6, k7, r7⟩ := e
  exact ⟨_, _, rfl, k5, r5⟩
theorem T_api_Impl.g2 {m : Heap} {x : T_api_Impl} {cs : List Value} (e : T_api_Impl.E m x cs) : ∃ A c, cs[2]? = some (.slice A (List.length x.Funcs) c) ∧ List.length x.Funcs ≤ c ∧ Rd 15 T_api_Func.E m A x.Funcs := by
  obtain ⟨A2, c2, rfl, k2, r2⟩ := e
  exact ⟨_, _, rfl, k2, r2⟩
theorem T_api_Program.g6 {m : Heap} {x : T_api_Program} {cs : List Value} (e : T_api_Program.E m x cs) : ∃ A c, cs[6]? = some (.slice A (List.length x.Funcs) c) ∧ List.length x.Funcs ≤ c ∧ Rd 15 T_api_Func.E m A x.Funcs := by
  obtain ⟨A2, c2, A3, c3, A4, c4, A5, c5, A6, c6, A7, c7, rfl, k2, r2, k3, r3, k4, r4, k5, r5, k6, r6, k7, r7⟩ := e
  exact ⟨_, _, rfl, k6, r6⟩
theorem T_api_Func.u7_40 {m : Heap} {x : T_api_Func} {cs : List Value} (e : T_api_Func.E m x cs) : T_api_Expr.E m x.Body (List.take 8 (List.drop 7 cs)) := by
  obtain ⟨A1, c1, A2, c2, A3, c3, A6, c6, A10, c10, A11, c11, A12, c12, A13, c13, rfl, k1, r1, k2, r2, k3, r3, k6, r6, k10, r10, k11, r11, k12, r12, k13, r13⟩ := e
  exact (T_api_Expr.iff.2 ⟨_, _, _, _, _, _, _, _, rfl, k10, r10, k11, r11, k12, r12, k13, r13⟩)
theorem T_api_Program.g7 {m : Heap} {x : T_api_Program} {cs : List Value} (e : T_api_Program.E m x cs) : ∃ A c, cs[7]? = some (.slice A (List.length x.Actors) c) ∧ List.length x.Actors ≤ c ∧ Rd 14 T_api_Actor.E m A x.Actors := by
  obtain ⟨A2, c2, A3, c3, A4, c4, A5, c5, A6, c6, A7, c7, rfl, k2, r2, k3, r3, k4, r4, k5, r5, k6, r6, k7, r7⟩ := e
  exact ⟨_, _, rfl, k7, r7⟩
theorem T_api_Actor.u6_40 {m : Heap} {x : T_api_Actor} {cs : List Value} (e : T_api_Actor.E m x cs) : T_api_Expr.E m x.Body (List.take 8 (List.drop 6 cs)) := by
  obtain ⟨A1, c1, A2, c2, A5, c5, A9, c9, A10, c10, A11, c11, A12, c12, rfl, k1, r1, k2, r2, k5, r5, k9, r9, k10, r10, k11, r11, k12, r12⟩ := e
  exact (T_api_Expr.iff.2 ⟨_, _, _, _, _, _, _, _, rfl, k9, r9, k10, r10, k11, r11, k12, r12⟩)
theorem T_api_Expr.g6 {m : Heap} {x : T_api_Expr} {cs : List Value} (e : T_api_Expr.E m x cs) : ∃ A c, cs[6]? = some (.slice A (List.length x.Arms) c) ∧ List.length x.Arms ≤ c ∧ Rd 12 T_api_Arm.E m A x.Arms := by
  obtain ⟨A3, c3, A4, c4, A5, c5, A6, c6, rfl, k3, r3, k4, r4, k5, r5, k6, r6⟩ := T_api_Expr.iff.1 e
  exact ⟨_, _, rfl, k6, r6⟩
theorem T_api_Arm.u4_40 {m : Heap} {x : T_api_Arm} {cs : List Value} (e : T_api_Arm.E m x cs) : T_api_Expr.E m x.Body (List.take 8 (List.drop 4 cs)) := by
  obtain ⟨A3, c3, A7, c7, A8, c8, A9, c9, A10, c10, rfl, k3, r3, k7, r7, k8, r8, k9, r9, k10, r10⟩ := T_api_Arm.iff.1 e
  exact (T_api_Expr.iff.2 ⟨_, _, _, _, _, _, _, _, rfl, k7, r7, k8, r8, k9, r9, k10, r10⟩)
theorem T_api_Expr.g5 {m : Heap} {x : T_api_Expr} {cs : List Value} (e : T_api_Expr.E m x cs) : ∃ A c, cs[5]? = some (.slice A (List.length x.Args) c) ∧ List.length x.Args ≤ c ∧ Rd 8 T_api_Expr.E m A x.Args := by
  obtain ⟨A3, c3, A4, c4, A5, c5, A6, c6, rfl, k3, r3, k4, r4, k5, r5, k6, r6⟩ := T_api_Expr.iff.1 e
  exact ⟨_, _, rfl, k5, r5⟩
theorem T_api_Pat.g3 {m : Heap} {x : T_api_Pat} {cs : List Value} (e : T_api_Pat.E m x cs) : ∃ A c, cs[3]? = some (.slice A (List.length x.Args) c) ∧ List.length x.Args ≤ c ∧ Rd 4 T_api_Pat.E m A x.Args := by
  obtain ⟨A3, c3, rfl, k3, r3⟩ := T_api_Pat.iff.1 e
  exact ⟨_, _, rfl, k3, r3⟩
theorem T_api_Arm.u0_48 {m : Heap} {x : T_api_Arm} {cs : List Value} (e : T_api_Arm.E m x cs) : T_api_Pat.E m x.Pat (List.take 4 (List.drop 0 cs)) := by
  obtain ⟨A3, c3, A7, c7, A8, c8, A9, c9, A10, c10, rfl, k3, r3, k7, r7, k8, r8, k9, r9, k10, r10⟩ := T_api_Arm.iff.1 e
  exact (T_api_Pat.iff.2 ⟨_, _, rfl, k3, r3⟩)
theorem T_api_Type.g0 {m : Heap} {x : T_api_Type} {cs : List Value} (e : T_api_Type.E m x cs) : cs[0]? = some (Value.int .i64 x.Kind) := by
  obtain ⟨A2, c2, rfl, k2, r2⟩ := T_api_Type.iff.1 e
  exact rfl
theorem T_api_Type.g1 {m : Heap} {x : T_api_Type} {cs : List Value} (e : T_api_Type.E m x cs) : cs[1]? = some (Value.string x.Name) := by
  obtain ⟨A2, c2, rfl, k2, r2⟩ := T_api_Type.iff.1 e
  exact rfl
theorem T_api_Type.g2 {m : Heap} {x : T_api_Type} {cs : List Value} (e : T_api_Type.E m x cs) : ∃ A c, cs[2]? = some (.slice A (List.length x.Args) c) ∧ List.length x.Args ≤ c ∧ Rd 3 T_api_Type.E m A x.Args := by
  obtain ⟨A2, c2, rfl, k2, r2⟩ := T_api_Type.iff.1 e
  exact ⟨_, _, rfl, k2, r2⟩
theorem T_api_Make.g0 {m : Heap} {x : T_api_Make} {cs : List Value} (e : T_api_Make.E m x cs) : cs[0]? = some (Value.string x.Name) := by
  obtain ⟨A1, c1, rfl, k1, r1⟩ := e
  exact rfl
theorem T_api_Make.g1 {m : Heap} {x : T_api_Make} {cs : List Value} (e : T_api_Make.E m x cs) : ∃ A c, cs[1]? = some (.slice A (List.length x.Args) c) ∧ List.length x.Args ≤ c ∧ Rd 3 T_api_Type.E m A x.Args := by
  obtain ⟨A1, c1, rfl, k1, r1⟩ := e
  exact ⟨_, _, rfl, k1, r1⟩
theorem T_api_Data.g0 {m : Heap} {x : T_api_Data} {cs : List Value} (e : T_api_Data.E m x cs) : cs[0]? = some (Value.string x.Name) := by
  obtain ⟨A1, c1, A2, c2, rfl, k1, r1, k2, r2⟩ := e
  exact rfl
theorem T_api_Data.g1 {m : Heap} {x : T_api_Data} {cs : List Value} (e : T_api_Data.E m x cs) : ∃ A c, cs[1]? = some (.slice A (List.length x.Params) c) ∧ List.length x.Params ≤ c ∧ Rd 1 eStr m A x.Params := by
  obtain ⟨A1, c1, A2, c2, rfl, k1, r1, k2, r2⟩ := e
  exact ⟨_, _, rfl, k1, r1⟩
theorem T_api_Data.g2 {m : Heap} {x : T_api_Data} {cs : List Value} (e : T_api_Data.E m x cs) : ∃ A c, cs[2]? = some (.slice A (List.length x.Makes) c) ∧ List.length x.Makes ≤ c ∧ Rd 2 T_api_Make.E m A x.Makes := by
  obtain ⟨A1, c1, A2, c2, rfl, k1, r1, k2, r2⟩ := e
  exact ⟨_, _, rfl, k2, r2⟩
theorem T_api_Pat.g0 {m : Heap} {x : T_api_Pat} {cs : List Value} (e : T_api_Pat.E m x cs) : cs[0]? = some (Value.int .i64 x.Kind) := by
  obtain ⟨A3, c3, rfl, k3, r3⟩ := T_api_Pat.iff.1 e
  exact rfl
theorem T_api_Pat.g1 {m : Heap} {x : T_api_Pat} {cs : List Value} (e : T_api_Pat.E m x cs) : cs[1]? = some (Value.int .i64 x.Num) := by
  obtain ⟨A3, c3, rfl, k3, r3⟩ := T_api_Pat.iff.1 e
  exact rfl
theorem T_api_Pat.g2 {m : Heap} {x : T_api_Pat} {cs : List Value} (e : T_api_Pat.E m x cs) : cs[2]? = some (Value.string x.Text) := by
  obtain ⟨A3, c3, rfl, k3, r3⟩ := T_api_Pat.iff.1 e
  exact rfl
theorem T_api_Expr.g0 {m : Heap} {x : T_api_Expr} {cs : List Value} (e : T_api_Expr.E m x cs) : cs[0]? = some (Value.int .i64 x.Kind) := by
  obtain ⟨A3, c3, A4, c4, A5, c5, A6, c6, rfl, k3, r3, k4, r4, k5, r5, k6, r6⟩ := T_api_Expr.iff.1 e
  exact rfl
theorem T_api_Expr.g1 {m : Heap} {x : T_api_Expr} {cs : List Value} (e : T_api_Expr.E m x cs) : cs[1]? = some (Value.int .i64 x.Num) := by
  obtain ⟨A3, c3, A4, c4, A5, c5, A6, c6, rfl, k3, r3, k4, r4, k5, r5, k6, r6⟩ := T_api_Expr.iff.1 e
  exact rfl
theorem T_api_Expr.g2 {m : Heap} {x : T_api_Expr} {cs : List Value} (e : T_api_Expr.E m x cs) : cs[2]? = some (Value.string x.Text) := by
  obtain ⟨A3, c3, A4, c4, A5, c5, A6, c6, rfl, k3, r3, k4, r4, k5, r5, k6, r6⟩ := T_api_Expr.iff.1 e
  exact rfl
theorem T_api_Expr.g3 {m : Heap} {x : T_api_Expr} {cs : List Value} (e : T_api_Expr.E m x cs) : ∃ A c, cs[3]? = some (.slice A (List.length x.Names) c) ∧ List.length x.Names ≤ c ∧ Rd 1 eStr m A x.Names := by
  obtain ⟨A3, c3, A4, c4, A5, c5, A6, c6, rfl, k3, r3, k4, r4, k5, r5, k6, r6⟩ := T_api_Expr.iff.1 e
  exact ⟨_, _, rfl, k3, r3⟩
theorem T_api_Expr.g4 {m : Heap} {x : T_api_Expr} {cs : List Value} (e : T_api_Expr.E m x cs) : ∃ A c, cs[4]? = some (.slice A (List.length x.Types) c) ∧ List.length x.Types ≤ c ∧ Rd 3 T_api_Type.E m A x.Types := by
  obtain ⟨A3, c3, A4, c4, A5, c5, A6, c6, rfl, k3, r3, k4, r4, k5, r5, k6, r6⟩ := T_api_Expr.iff.1 e
  exact ⟨_, _, rfl, k4, r4⟩
theorem T_api_Func.g0 {m : Heap} {x : T_api_Func} {cs : List Value} (e : T_api_Func.E m x cs) : cs[0]? = some (Value.string x.Name) := by
  obtain ⟨A1, c1, A2, c2, A3, c3, A6, c6, A10, c10, A11, c11, A12, c12, A13, c13, rfl, k1, r1, k2, r2, k3, r3, k6, r6, k10, r10, k11, r11, k12, r12, k13, r13⟩ := e
  exact rfl
theorem T_api_Func.g1 {m : Heap} {x : T_api_Func} {cs : List Value} (e : T_api_Func.E m x cs) : ∃ A c, cs[1]? = some (.slice A (List.length x.Params) c) ∧ List.length x.Params ≤ c ∧ Rd 1 eStr m A x.Params := by
  obtain ⟨A1, c1, A2, c2, A3, c3, A6, c6, A10, c10, A11, c11, A12, c12, A13, c13, rfl, k1, r1, k2, r2, k3, r3, k6, r6, k10, r10, k11, r11, k12, r12, k13, r13⟩ := e
  exact ⟨_, _, rfl, k1, r1⟩
theorem T_api_Func.g2 {m : Heap} {x : T_api_Func} {cs : List Value} (e : T_api_Func.E m x cs) : ∃ A c, cs[2]? = some (.slice A (List.length x.Names) c) ∧ List.length x.Names ≤ c ∧ Rd 1 eStr m A x.Names := by
  obtain ⟨A1, c1, A2, c2, A3, c3, A6, c6, A10, c10, A11, c11, A12, c12, A13, c13, rfl, k1, r1, k2, r2, k3, r3, k6, r6, k10, r10, k11, r11, k12, r12, k13, r13⟩ := e
  exact ⟨_, _, rfl, k2, r2⟩
theorem T_api_Func.g3 {m : Heap} {x : T_api_Func} {cs : List Value} (e : T_api_Func.E m x cs) : ∃ A c, cs[3]? = some (.slice A (List.length x.Types) c) ∧ List.length x.Types ≤ c ∧ Rd 3 T_api_Type.E m A x.Types := by
  obtain ⟨A1, c1, A2, c2, A3, c3, A6, c6, A10, c10, A11, c11, A12, c12, A13, c13, rfl, k1, r1, k2, r2, k3, r3, k6, r6, k10, r10, k11, r11, k12, r12, k13, r13⟩ := e
  exact ⟨_, _, rfl, k3, r3⟩
theorem T_api_Func.u4_59 {m : Heap} {x : T_api_Func} {cs : List Value} (e : T_api_Func.E m x cs) : T_api_Type.E m x.Out (List.take 3 (List.drop 4 cs)) := by
  obtain ⟨A1, c1, A2, c2, A3, c3, A6, c6, A10, c10, A11, c11, A12, c12, A13, c13, rfl, k1, r1, k2, r2, k3, r3, k6, r6, k10, r10, k11, r11, k12, r12, k13, r13⟩ := e
  exact (T_api_Type.iff.2 ⟨_, _, rfl, k6, r6⟩)
theorem T_api_Trait.g0 {m : Heap} {x : T_api_Trait} {cs : List Value} (e : T_api_Trait.E m x cs) : cs[0]? = some (Value.string x.Name) := by
  obtain ⟨A1, c1, rfl, k1, r1⟩ := e
  exact rfl
theorem T_api_Trait.g1 {m : Heap} {x : T_api_Trait} {cs : List Value} (e : T_api_Trait.E m x cs) : ∃ A c, cs[1]? = some (.slice A (List.length x.Funcs) c) ∧ List.length x.Funcs ≤ c ∧ Rd 15 T_api_Func.E m A x.Funcs := by
  obtain ⟨A1, c1, rfl, k1, r1⟩ := e
  exact ⟨_, _, rfl, k1, r1⟩
theorem T_api_Impl.g0 {m : Heap} {x : T_api_Impl} {cs : List Value} (e : T_api_Impl.E m x cs) : cs[0]? = some (Value.string x.Trait) := by
  obtain ⟨A2, c2, rfl, k2, r2⟩ := e
  exact rfl
theorem T_api_Impl.g1 {m : Heap} {x : T_api_Impl} {cs : List Value} (e : T_api_Impl.E m x cs) : cs[1]? = some (Value.string x.For) := by
  obtain ⟨A2, c2, rfl, k2, r2⟩ := e
  exact rfl
theorem T_api_Actor.g0 {m : Heap} {x : T_api_Actor} {cs : List Value} (e : T_api_Actor.E m x cs) : cs[0]? = some (Value.string x.Name) := by
  obtain ⟨A1, c1, A2, c2, A5, c5, A9, c9, A10, c10, A11, c11, A12, c12, rfl, k1, r1, k2, r2, k5, r5, k9, r9, k10, r10, k11, r11, k12, r12⟩ := e
  exact rfl
theorem T_api_Actor.g1 {m : Heap} {x : T_api_Actor} {cs : List Value} (e : T_api_Actor.E m x cs) : ∃ A c, cs[1]? = some (.slice A (List.length x.Names) c) ∧ List.length x.Names ≤ c ∧ Rd 1 eStr m A x.Names := by
  obtain ⟨A1, c1, A2, c2, A5, c5, A9, c9, A10, c10, A11, c11, A12, c12, rfl, k1, r1, k2, r2, k5, r5, k9, r9, k10, r10, k11, r11, k12, r12⟩ := e
  exact ⟨_, _, rfl, k1, r1⟩
theorem T_api_Actor.g2 {m : Heap} {x : T_api_Actor} {cs : List Value} (e : T_api_Actor.E m x cs) : ∃ A c, cs[2]? = some (.slice A (List.length x.Types) c) ∧ List.length x.Types ≤ c ∧ Rd 3 T_api_Type.E m A x.Types := by
  obtain ⟨A1, c1, A2, c2, A5, c5, A9, c9, A10, c10, A11, c11, A12, c12, rfl, k1, r1, k2, r2, k5, r5, k9, r9, k10, r10, k11, r11, k12, r12⟩ := e
  exact ⟨_, _, rfl, k2, r2⟩
theorem T_api_Actor.u3_59 {m : Heap} {x : T_api_Actor} {cs : List Value} (e : T_api_Actor.E m x cs) : T_api_Type.E m x.Msg (List.take 3 (List.drop 3 cs)) := by
  obtain ⟨A1, c1, A2, c2, A5, c5, A9, c9, A10, c10, A11, c11, A12, c12, rfl, k1, r1, k2, r2, k5, r5, k9, r9, k10, r10, k11, r11, k12, r12⟩ := e
  exact (T_api_Type.iff.2 ⟨_, _, rfl, k5, r5⟩)
theorem T_api_Program.g0 {m : Heap} {x : T_api_Program} {cs : List Value} (e : T_api_Program.E m x cs) : cs[0]? = some (Value.string x.Name) := by
  obtain ⟨A2, c2, A3, c3, A4, c4, A5, c5, A6, c6, A7, c7, rfl, k2, r2, k3, r3, k4, r4, k5, r5, k6, r6, k7, r7⟩ := e
  exact rfl
theorem T_api_Program.g1 {m : Heap} {x : T_api_Program} {cs : List Value} (e : T_api_Program.E m x cs) : cs[1]? = some (Value.int .i64 x.Version) := by
  obtain ⟨A2, c2, A3, c3, A4, c4, A5, c5, A6, c6, A7, c7, rfl, k2, r2, k3, r3, k4, r4, k5, r5, k6, r6, k7, r7⟩ := e
  exact rfl
theorem T_api_Program.g2 {m : Heap} {x : T_api_Program} {cs : List Value} (e : T_api_Program.E m x cs) : ∃ A c, cs[2]? = some (.slice A (List.length x.Uses) c) ∧ List.length x.Uses ≤ c ∧ Rd 3 T_api_Use.E m A x.Uses := by
  obtain ⟨A2, c2, A3, c3, A4, c4, A5, c5, A6, c6, A7, c7, rfl, k2, r2, k3, r3, k4, r4, k5, r5, k6, r6, k7, r7⟩ := e
  exact ⟨_, _, rfl, k2, r2⟩
theorem T_api_Program.g3 {m : Heap} {x : T_api_Program} {cs : List Value} (e : T_api_Program.E m x cs) : ∃ A c, cs[3]? = some (.slice A (List.length x.Datas) c) ∧ List.length x.Datas ≤ c ∧ Rd 3 T_api_Data.E m A x.Datas := by
  obtain ⟨A2, c2, A3, c3, A4, c4, A5, c5, A6, c6, A7, c7, rfl, k2, r2, k3, r3, k4, r4, k5, r5, k6, r6, k7, r7⟩ := e
  exact ⟨_, _, rfl, k3, r3⟩
theorem T_api_Program.g4 {m : Heap} {x : T_api_Program} {cs : List Value} (e : T_api_Program.E m x cs) : ∃ A c, cs[4]? = some (.slice A (List.length x.Traits) c) ∧ List.length x.Traits ≤ c ∧ Rd 2 T_api_Trait.E m A x.Traits := by
  obtain ⟨A2, c2, A3, c3, A4, c4, A5, c5, A6, c6, A7, c7, rfl, k2, r2, k3, r3, k4, r4, k5, r5, k6, r6, k7, r7⟩ := e
  exact ⟨_, _, rfl, k4, r4⟩
theorem T_api_Use.g0 {m : Heap} {x : T_api_Use} {cs : List Value} (e : T_api_Use.E m x cs) : cs[0]? = some (Value.string x.Name) := by
  obtain rfl := e
  exact rfl
theorem T_api_Use.g1 {m : Heap} {x : T_api_Use} {cs : List Value} (e : T_api_Use.E m x cs) : cs[1]? = some (Value.int .i64 x.Low) := by
  obtain rfl := e
  exact rfl
theorem T_api_Use.g2 {m : Heap} {x : T_api_Use} {cs : List Value} (e : T_api_Use.E m x cs) : cs[2]? = some (Value.int .i64 x.High) := by
  obtain rfl := e
  exact rfl
def roadref2_FunsOf.post (W : Nat → Prop) (h0 m0 : Heap) (r : (List T_api_Func)) (v : Value) (h : Heap) : Prop := ∃ m A0 n0 c0, Hold W h0 m0 h m [rR (aE T_api_Func.T) A0 c0 r] ∧ v = .slice A0 n0 c0 ∧ n0 = List.length r
inductive roadref2_FunsOf.l0_k.Pt where
  | l0 (y_1 : T_api_Program) (a_3 : List T_api_Func) (a_7 : List T_api_Impl) (x_8 : Int) (x_9 : Int)
noncomputable def roadref2_FunsOf.l0_k.body (go : (p : roadref2_FunsOf.l0_k.Pt) → Option ((List T_api_Func))) : (p : roadref2_FunsOf.l0_k.Pt) → Option ((List T_api_Func))
  | .l0 y_1 a_3 a_7 x_8 x_9 => if x_9 < x_8 then (Option.bind (gi a_7 x_9) fun y1 => Option.bind (ap 272 a_3 y1.Funcs) fun l19 => (go (.l0 y_1 l19 a_7 x_8 (IntKind.wrap .i64 (x_9 + (1 : Int)))))) else (Option.bind (ap 272 a_3 y_1.Funcs) fun l33 => some (l33))
theorem roadref2_FunsOf.l0_k.mono : MonoF (β := fun _ => ((List T_api_Func))) roadref2_FunsOf.l0_k.body := fun f g hfg p => match p with
  | .l0 y_1 a_3 a_7 x_8 x_9 => LeO.ite (LeO.bind (LeO.refl _) fun y1 => LeO.bind (LeO.refl _) fun l19 => (hfg _)) (LeO.bind (LeO.refl _) fun l33 => LeO.refl _)
noncomputable def roadref2_FunsOf.l0_k.go (p : roadref2_FunsOf.l0_k.Pt) : Option ((List T_api_Func)) := fixF (β := fun _ => ((List T_api_Func))) roadref2_FunsOf.l0_k.body p
noncomputable def roadref2_FunsOf.l0 (y_1 : T_api_Program) (a_3 : List T_api_Func) (a_7 : List T_api_Impl) (x_8 : Int) (x_9 : Int) : Option ((List T_api_Func)) := roadref2_FunsOf.l0_k.go (.l0 y_1 a_3 a_7 x_8 x_9)
theorem roadref2_FunsOf.l0_eq (y_1 : T_api_Program) (a_3 : List T_api_Func) (a_7 : List T_api_Impl) (x_8 : Int) (x_9 : Int) : roadref2_FunsOf.l0 y_1 a_3 a_7 x_8 x_9 = if x_9 < x_8 then (Option.bind (gi a_7 x_9) fun y1 => Option.bind (ap 272 a_3 y1.Funcs) fun l19 => (roadref2_FunsOf.l0 y_1 l19 a_7 x_8 (IntKind.wrap .i64 (x_9 + (1 : Int))))) else (Option.bind (ap 272 a_3 y_1.Funcs) fun l33 => some (l33)) := fixF_eq roadref2_FunsOf.l0_k.mono _
def roadref2_FunsOf.l0_k.I : (p : roadref2_FunsOf.l0_k.Pt) → ((List T_api_Func)) → Prop
  | .l0 y_1 a_3 a_7 x_8 x_9, r => ∀ (W : Nat → Prop) (h0 m0 h m : Heap) (bk_1 : Nat) (cs_1 : List Value) (A_3 : Option Addr) (n_3 c_3 : Nat) (A_7 : Option Addr) (n_7 c_7 : Nat) (O : Hold W h0 m0 h m [rV bk_1 29 cs_1, rR (aE T_api_Func.T) A_3 c_3 a_3]) (e_1 : T_api_Program.E m y_1 cs_1) (ne_3 : n_3 = List.length a_3) (ne_7 : n_7 = List.length a_7) (k_7 : List.length a_7 ≤ c_7) (r_7 : Rd 3 T_api_Impl.E m A_7 a_7), f29.l0 (roadref2_FunsOf.post W h0 m0 r) (⟨bk_1, 0, none⟩ : Addr) A_3 n_3 c_3 A_7 n_7 c_7 x_8 x_9 h
set_option maxRecDepth 100000 in
theorem roadref2_FunsOf.l0_k.step_l0 (go : (p : roadref2_FunsOf.l0_k.Pt) → Option ((List T_api_Func))) (ih : ∀ p r, go p = some r → roadref2_FunsOf.l0_k.I p r) (y_1 : T_api_Program) (a_3 : List T_api_Func) (a_7 : List T_api_Impl) (x_8 : Int) (x_9 : Int) (r : (List T_api_Func)) (e : roadref2_FunsOf.l0_k.body go (.l0 y_1 a_3 a_7 x_8 x_9) = some r) : roadref2_FunsOf.l0_k.I (.l0 y_1 a_3 a_7 x_8 x_9) r := by
  unfold roadref2_FunsOf.l0_k.body at e
  intro W h0 m0 h m bk_1 cs_1 A_3 n_3 c_3 A_7 n_7 c_7 O e_1 ne_3 ne_7 k_7 r_7
  subst ne_3
  subst ne_7
  refine f29.l0_in ?_
  unfold f29.l0T
  refine split_dec_e e (fun c42 e => ?_) (fun c42 e => ?_)
  · obtain ⟨y1, g2, e⟩ := bind_e e
    refine r_7.addr rfl g2 fun a3 cs4 ha5 hc6 he7 => ?_
    refine ⟨_, ldAn O.s hc6 rfl, ?_⟩
    refine O.new fun h8 x9 O10 => ?_
    refine ⟨_, rfl, (T_api_Impl.T.len _ _ _ he7), ?_⟩
    refine O10.stA 2 rfl (T_api_Impl.T.len _ _ _ he7) (T_api_Impl.T.flat _ _ _ he7) fun h12 O13 => ?_
    obtain ⟨A14, c15, q16, k17, r18⟩ := T_api_Impl.g2 he7
    refine ⟨_, ldk (k := 2) (Sub.refl _) (O13.all 2 rfl) q16, _, _, _, rfl, ?_⟩
    obtain ⟨l19, g20, e⟩ := bind_e e
    refine O13.app 1 rfl rfl rfl (Rd.srcE r18 T_api_Func.T O13.s rfl) (by decide) g20 fun A21 c22 h23 O24 => ?_
    refine ⟨_, _, _, rfl, ?_⟩
    have O27 := O24.nm
    exact (ih _ _ e) _ _ _ _ _ _ _ _ _ _ _ _ _ (O27.pick [0, 1]).nm e_1 rfl rfl k_7 r_7
  · obtain ⟨A28, c29, q30, k31, r32⟩ := T_api_Program.g6 e_1
    refine ⟨_, ldk (k := 6) (Sub.refl _) (O.all 0 rfl) q30, _, _, _, rfl, ?_⟩
    obtain ⟨l33, g34, e⟩ := bind_e e
    refine O.app 1 rfl rfl rfl (Rd.srcE r32 T_api_Func.T O.s rfl) (by decide) g34 fun A35 c36 h37 O38 => ?_
    refine ⟨_, _, _, rfl, ?_⟩
    have O41 := O38.nm
    cases e
    exact ⟨_, _, _, _, O41.pick [1], rfl, rfl⟩
theorem roadref2_FunsOf.l0_k.all {p : roadref2_FunsOf.l0_k.Pt} {r : ((List T_api_Func))} (e : roadref2_FunsOf.l0_k.go p = some r) : roadref2_FunsOf.l0_k.I p r := fixF_ind (β := fun _ => ((List T_api_Func))) roadref2_FunsOf.l0_k.mono (I := roadref2_FunsOf.l0_k.I) (fun go ih p r e => match p with
  | .l0 y_1 a_3 a_7 x_8 x_9 => roadref2_FunsOf.l0_k.step_l0 go ih y_1 a_3 a_7 x_8 x_9 r e
  ) e
theorem roadref2_FunsOf.l0.walk {W : Nat → Prop} {h0 m0 h m : Heap} {bk_1 : Nat} {cs_1 : List Value} {A_3 : Option Addr} {n_3 c_3 : Nat} {A_7 : Option Addr} {n_7 c_7 : Nat} {y_1 : T_api_Program} {a_3 : List T_api_Func} {a_7 : List T_api_Impl} {x_8 : Int} {x_9 : Int} (O : Hold W h0 m0 h m [rV bk_1 29 cs_1, rR (aE T_api_Func.T) A_3 c_3 a_3]) (e_1 : T_api_Program.E m y_1 cs_1) (ne_3 : n_3 = List.length a_3) (ne_7 : n_7 = List.length a_7) (k_7 : List.length a_7 ≤ c_7) (r_7 : Rd 3 T_api_Impl.E m A_7 a_7) {r : (List T_api_Func)} (e : roadref2_FunsOf.l0 y_1 a_3 a_7 x_8 x_9 = some r) : f29.l0 (roadref2_FunsOf.post W h0 m0 r) (⟨bk_1, 0, none⟩ : Addr) A_3 n_3 c_3 A_7 n_7 c_7 x_8 x_9 h := roadref2_FunsOf.l0_k.all (p := .l0 y_1 a_3 a_7 x_8 x_9) e W h0 m0 h m bk_1 cs_1 A_3 n_3 c_3 A_7 n_7 c_7 O e_1 ne_3 ne_7 k_7 r_7
noncomputable def roadref2_FunsOf (y_0 : T_api_Program) : Option ((List T_api_Func)) :=
  (roadref2_FunsOf.l0 y_0 ([] : List T_api_Func) y_0.Impls (((List.length y_0.Impls) : Nat) : Int) (0 : Int))
set_option maxRecDepth 100000 in
theorem roadref2_FunsOf.walk {W : Nat → Prop} {h m : Heap} {cs_0 : List Value} {y_0 : T_api_Program} (O : Hold W h m h m []) (e_0 : T_api_Program.E m y_0 cs_0) {r : (List T_api_Func)} (e : roadref2_FunsOf y_0 = some r) : Run Tryd.prog 29 #[Value.agg cs_0.toArray] h (roadref2_FunsOf.post W h m r) := by
  unfold roadref2_FunsOf at e
  refine f29.run ?_
  unfold f29.runT
  refine O.new fun h1 x2 O3 => ?_
  obtain ⟨A5, c6, q7, k8, r9⟩ := T_api_Program.g5 e_0
  refine ⟨_, ldk (k := 5) (Sub.refl _) (O3.all 0 rfl) q7, _, _, _, rfl, ?_⟩
  have O10 := O3.nil (aE T_api_Func.T) none
  have O12 := O10.nm
  exact roadref2_FunsOf.l0.walk (O12.pick [0, 1]).nm e_0 rfl rfl k8 r9 e
def roadref2_BodiesOf.post (W : Nat → Prop) (h0 m0 : Heap) (r : (List T_api_Expr)) (v : Value) (h : Heap) : Prop := ∃ m A0 n0 c0, Hold W h0 m0 h m [rR (aE T_api_Expr.T) A0 c0 r] ∧ v = .slice A0 n0 c0 ∧ n0 = List.length r
inductive roadref2_BodiesOf.l1_k.Pt where
  | l1 (a_3 : List T_api_Expr) (a_22 : List T_api_Actor) (x_23 : Int) (x_24 : Int)
noncomputable def roadref2_BodiesOf.l1_k.body (go : (p : roadref2_BodiesOf.l1_k.Pt) → Option ((List T_api_Expr))) : (p : roadref2_BodiesOf.l1_k.Pt) → Option ((List T_api_Expr))
  | .l1 a_3 a_22 x_23 x_24 => if x_24 < x_23 then (Option.bind (gi a_22 x_24) fun y1 => Option.bind (ap 136 a_3 ([y1.Body] : List T_api_Expr)) fun l19 => (go (.l1 l19 a_22 x_23 (IntKind.wrap .i64 (x_24 + (1 : Int)))))) else (some (a_3))
theorem roadref2_BodiesOf.l1_k.mono : MonoF (β := fun _ => ((List T_api_Expr))) roadref2_BodiesOf.l1_k.body := fun f g hfg p => match p with
  | .l1 a_3 a_22 x_23 x_24 => LeO.ite (LeO.bind (LeO.refl _) fun y1 => LeO.bind (LeO.refl _) fun l19 => (hfg _)) (LeO.refl _)
noncomputable def roadref2_BodiesOf.l1_k.go (p : roadref2_BodiesOf.l1_k.Pt) : Option ((List T_api_Expr)) := fixF (β := fun _ => ((List T_api_Expr))) roadref2_BodiesOf.l1_k.body p
noncomputable def roadref2_BodiesOf.l1 (a_3 : List T_api_Expr) (a_22 : List T_api_Actor) (x_23 : Int) (x_24 : Int) : Option ((List T_api_Expr)) := roadref2_BodiesOf.l1_k.go (.l1 a_3 a_22 x_23 x_24)
theorem roadref2_BodiesOf.l1_eq (a_3 : List T_api_Expr) (a_22 : List T_api_Actor) (x_23 : Int) (x_24 : Int) : roadref2_BodiesOf.l1 a_3 a_22 x_23 x_24 = if x_24 < x_23 then (Option.bind (gi a_22 x_24) fun y1 => Option.bind (ap 136 a_3 ([y1.Body] : List T_api_Expr)) fun l19 => (roadref2_BodiesOf.l1 l19 a_22 x_23 (IntKind.wrap .i64 (x_24 + (1 : Int))))) else (some (a_3)) := fixF_eq roadref2_BodiesOf.l1_k.mono _
def roadref2_BodiesOf.l1_k.I : (p : roadref2_BodiesOf.l1_k.Pt) → ((List T_api_Expr)) → Prop
  | .l1 a_3 a_22 x_23 x_24, r => ∀ (W : Nat → Prop) (h0 m0 h m : Heap) (A_3 : Option Addr) (n_3 c_3 : Nat) (A_22 : Option Addr) (n_22 c_22 : Nat) (O : Hold W h0 m0 h m [rR (aE T_api_Expr.T) A_3 c_3 a_3]) (ne_3 : n_3 = List.length a_3) (ne_22 : n_22 = List.length a_22) (k_22 : List.length a_22 ≤ c_22) (r_22 : Rd 14 T_api_Actor.E m A_22 a_22), f7.l1 (roadref2_BodiesOf.post W h0 m0 r) A_3 n_3 c_3 A_22 n_22 c_22 x_23 x_24 h
set_option maxRecDepth 100000 in
theorem roadref2_BodiesOf.l1_k.step_l1 (go : (p : roadref2_BodiesOf.l1_k.Pt) → Option ((List T_api_Expr))) (ih : ∀ p r, go p = some r → roadref2_BodiesOf.l1_k.I p r) (a_3 : List T_api_Expr) (a_22 : List T_api_Actor) (x_23 : Int) (x_24 : Int) (r : (List T_api_Expr)) (e : roadref2_BodiesOf.l1_k.body go (.l1 a_3 a_22 x_23 x_24) = some r) : roadref2_BodiesOf.l1_k.I (.l1 a_3 a_22 x_23 x_24) r := by
  unfold roadref2_BodiesOf.l1_k.body at e
  intro W h0 m0 h m A_3 n_3 c_3 A_22 n_22 c_22 O ne_3 ne_22 k_22 r_22
  subst ne_3
  subst ne_22
  refine f7.l1_in ?_
  unfold f7.l1T
  refine split_dec_e e (fun c29 e => ?_) (fun c29 e => ?_)
  · obtain ⟨y1, g2, e⟩ := bind_e e
    refine r_22.addr rfl g2 fun a3 cs4 ha5 hc6 he7 => ?_
    refine ⟨_, ldAn O.s hc6 rfl, ?_⟩
    refine O.new fun h8 x9 O10 => ?_
    refine ⟨_, rfl, (T_api_Actor.T.len _ _ _ he7), ?_⟩
    refine O10.stA 1 rfl (T_api_Actor.T.len _ _ _ he7) (T_api_Actor.T.flat _ _ _ he7) fun h12 O13 => ?_
    refine ⟨_, ldAkn (Sub.refl _) (O13.all 1 rfl) 6 8 (le_len (T_api_Actor.T.len _ _ _ he7) (by decide)), ?_⟩
    refine ⟨(List.take 8 (List.drop 6 cs4)), rfl, (T_api_Expr.T.len _ _ _ (T_api_Actor.u6_40 he7)), ?_⟩
    refine O13.new fun h14 x15 O16 => ?_
    have O18 := O16.recell 2 rfl (cs' := (List.take 8 (List.drop 6 cs4)) ++ []) rfl
    obtain ⟨l19, g20, e⟩ := bind_e e
    have O27 := O18.rowE (l := ([y1.Body] : List T_api_Expr)) 2 rfl T_api_Expr.T (show CsE _ _ _ _ _ from (CsE.cons (T_api_Actor.u6_40 he7) (T_api_Expr.T.len _ _ _ (T_api_Actor.u6_40 he7)) CsE.nil)) rfl
    refine O27.app 0 rfl rfl rfl ((O27.os 2 rfl).srcE rfl) (by decide) g20 fun A21 c22 h23 O24 => ?_
    refine ⟨_, _, _, rfl, ?_⟩
    have O28 := O24.nm
    exact (ih _ _ e) _ _ _ _ _ _ _ _ _ _ _ (O28.pick [0]).nm rfl rfl k_22 r_22
  · cases e
    exact ⟨_, _, _, _, O.pick [0], rfl, rfl⟩
theorem roadref2_BodiesOf.l1_k.all {p : roadref2_BodiesOf.l1_k.Pt} {r : ((List T_api_Expr))} (e : roadref2_BodiesOf.l1_k.go p = some r) : roadref2_BodiesOf.l1_k.I p r := fixF_ind (β := fun _ => ((List T_api_Expr))) roadref2_BodiesOf.l1_k.mono (I := roadref2_BodiesOf.l1_k.I) (fun go ih p r e => match p with
  | .l1 a_3 a_22 x_23 x_24 => roadref2_BodiesOf.l1_k.step_l1 go ih a_3 a_22 x_23 x_24 r e
  ) e
theorem roadref2_BodiesOf.l1.walk {W : Nat → Prop} {h0 m0 h m : Heap} {A_3 : Option Addr} {n_3 c_3 : Nat} {A_22 : Option Addr} {n_22 c_22 : Nat} {a_3 : List T_api_Expr} {a_22 : List T_api_Actor} {x_23 : Int} {x_24 : Int} (O : Hold W h0 m0 h m [rR (aE T_api_Expr.T) A_3 c_3 a_3]) (ne_3 : n_3 = List.length a_3) (ne_22 : n_22 = List.length a_22) (k_22 : List.length a_22 ≤ c_22) (r_22 : Rd 14 T_api_Actor.E m A_22 a_22) {r : (List T_api_Expr)} (e : roadref2_BodiesOf.l1 a_3 a_22 x_23 x_24 = some r) : f7.l1 (roadref2_BodiesOf.post W h0 m0 r) A_3 n_3 c_3 A_22 n_22 c_22 x_23 x_24 h := roadref2_BodiesOf.l1_k.all (p := .l1 a_3 a_22 x_23 x_24) e W h0 m0 h m A_3 n_3 c_3 A_22 n_22 c_22 O ne_3 ne_22 k_22 r_22
inductive roadref2_BodiesOf.l0_k.Pt where
  | l0 (y_1 : T_api_Program) (a_3 : List T_api_Expr) (a_9 : List T_api_Func) (x_10 : Int) (x_11 : Int)
noncomputable def roadref2_BodiesOf.l0_k.body (go : (p : roadref2_BodiesOf.l0_k.Pt) → Option ((List T_api_Expr))) : (p : roadref2_BodiesOf.l0_k.Pt) → Option ((List T_api_Expr))
  | .l0 y_1 a_3 a_9 x_10 x_11 => if x_11 < x_10 then (Option.bind (gi a_9 x_11) fun y1 => Option.bind (ap 136 a_3 ([y1.Body] : List T_api_Expr)) fun l19 => (go (.l0 y_1 l19 a_9 x_10 (IntKind.wrap .i64 (x_11 + (1 : Int)))))) else ((roadref2_BodiesOf.l1 a_3 y_1.Actors (((List.length y_1.Actors) : Nat) : Int) (0 : Int)))
theorem roadref2_BodiesOf.l0_k.mono : MonoF (β := fun _ => ((List T_api_Expr))) roadref2_BodiesOf.l0_k.body := fun f g hfg p => match p with
  | .l0 y_1 a_3 a_9 x_10 x_11 => LeO.ite (LeO.bind (LeO.refl _) fun y1 => LeO.bind (LeO.refl _) fun l19 => (hfg _)) ((LeO.refl _))
noncomputable def roadref2_BodiesOf.l0_k.go (p : roadref2_BodiesOf.l0_k.Pt) : Option ((List T_api_Expr)) := fixF (β := fun _ => ((List T_api_Expr))) roadref2_BodiesOf.l0_k.body p
noncomputable def roadref2_BodiesOf.l0 (y_1 : T_api_Program) (a_3 : List T_api_Expr) (a_9 : List T_api_Func) (x_10 : Int) (x_11 : Int) : Option ((List T_api_Expr)) := roadref2_BodiesOf.l0_k.go (.l0 y_1 a_3 a_9 x_10 x_11)
theorem roadref2_BodiesOf.l0_eq (y_1 : T_api_Program) (a_3 : List T_api_Expr) (a_9 : List T_api_Func) (x_10 : Int) (x_11 : Int) : roadref2_BodiesOf.l0 y_1 a_3 a_9 x_10 x_11 = if x_11 < x_10 then (Option.bind (gi a_9 x_11) fun y1 => Option.bind (ap 136 a_3 ([y1.Body] : List T_api_Expr)) fun l19 => (roadref2_BodiesOf.l0 y_1 l19 a_9 x_10 (IntKind.wrap .i64 (x_11 + (1 : Int))))) else ((roadref2_BodiesOf.l1 a_3 y_1.Actors (((List.length y_1.Actors) : Nat) : Int) (0 : Int))) := fixF_eq roadref2_BodiesOf.l0_k.mono _
def roadref2_BodiesOf.l0_k.I : (p : roadref2_BodiesOf.l0_k.Pt) → ((List T_api_Expr)) → Prop
  | .l0 y_1 a_3 a_9 x_10 x_11, r => ∀ (W : Nat → Prop) (h0 m0 h m : Heap) (bk_1 : Nat) (cs_1 : List Value) (A_3 : Option Addr) (n_3 c_3 : Nat) (A_9 : Option Addr) (n_9 c_9 : Nat) (O : Hold W h0 m0 h m [rV bk_1 29 cs_1, rR (aE T_api_Expr.T) A_3 c_3 a_3, rR (aE T_api_Func.T) A_9 c_9 a_9]) (e_1 : T_api_Program.E m y_1 cs_1) (ne_3 : n_3 = List.length a_3) (ne_9 : n_9 = List.length a_9), f7.l0 (roadref2_BodiesOf.post W h0 m0 r) (⟨bk_1, 0, none⟩ : Addr) A_3 n_3 c_3 A_9 n_9 c_9 x_10 x_11 h
set_option maxRecDepth 100000 in
theorem roadref2_BodiesOf.l0_k.step_l0 (go : (p : roadref2_BodiesOf.l0_k.Pt) → Option ((List T_api_Expr))) (ih : ∀ p r, go p = some r → roadref2_BodiesOf.l0_k.I p r) (y_1 : T_api_Program) (a_3 : List T_api_Expr) (a_9 : List T_api_Func) (x_10 : Int) (x_11 : Int) (r : (List T_api_Expr)) (e : roadref2_BodiesOf.l0_k.body go (.l0 y_1 a_3 a_9 x_10 x_11) = some r) : roadref2_BodiesOf.l0_k.I (.l0 y_1 a_3 a_9 x_10 x_11) r := by
  unfold roadref2_BodiesOf.l0_k.body at e
  intro W h0 m0 h m bk_1 cs_1 A_3 n_3 c_3 A_9 n_9 c_9 O e_1 ne_3 ne_9
  subst ne_3
  subst ne_9
  refine f7.l0_in ?_
  unfold f7.l0T
  refine split_dec_e e (fun c34 e => ?_) (fun c34 e => ?_)
  · obtain ⟨y1, g2, e⟩ := bind_e e
    refine (O.os 2 rfl).addr rfl g2 fun a3 cs4 ha5 hc6 he7 => ?_
    refine ⟨_, ldAn (Sub.refl _) hc6 rfl, ?_⟩
    refine O.new fun h8 x9 O10 => ?_
    refine ⟨_, rfl, (T_api_Func.T.len _ _ _ he7), ?_⟩
    refine O10.stA 3 rfl (T_api_Func.T.len _ _ _ he7) (T_api_Func.T.flat _ _ _ he7) fun h12 O13 => ?_
    refine ⟨_, ldAkn (Sub.refl _) (O13.all 3 rfl) 7 8 (le_len (T_api_Func.T.len _ _ _ he7) (by decide)), ?_⟩
    refine ⟨(List.take 8 (List.drop 7 cs4)), rfl, (T_api_Expr.T.len _ _ _ (T_api_Func.u7_40 he7)), ?_⟩
    refine O13.new fun h14 x15 O16 => ?_
    have O18 := O16.recell 4 rfl (cs' := (List.take 8 (List.drop 7 cs4)) ++ []) rfl
    obtain ⟨l19, g20, e⟩ := bind_e e
    have O27 := O18.rowE (l := ([y1.Body] : List T_api_Expr)) 4 rfl T_api_Expr.T (show CsE _ _ _ _ _ from (CsE.cons (T_api_Func.u7_40 he7) (T_api_Expr.T.len _ _ _ (T_api_Func.u7_40 he7)) CsE.nil)) rfl
    refine O27.app 1 rfl rfl rfl ((O27.os 4 rfl).srcE rfl) (by decide) g20 fun A21 c22 h23 O24 => ?_
    refine ⟨_, _, _, rfl, ?_⟩
    have O28 := O24.nm
    exact (ih _ _ e) _ _ _ _ _ _ _ _ _ _ _ _ _ (O28.pick [0, 1, 2]).nm e_1 rfl rfl
  · obtain ⟨A29, c30, q31, k32, r33⟩ := T_api_Program.g7 e_1
    refine ⟨_, ldk (k := 7) (Sub.refl _) (O.all 0 rfl) q31, _, _, _, rfl, ?_⟩
    exact roadref2_BodiesOf.l1.walk (O.pick [1]).nm rfl rfl k32 r33 e
theorem roadref2_BodiesOf.l0_k.all {p : roadref2_BodiesOf.l0_k.Pt} {r : ((List T_api_Expr))} (e : roadref2_BodiesOf.l0_k.go p = some r) : roadref2_BodiesOf.l0_k.I p r := fixF_ind (β := fun _ => ((List T_api_Expr))) roadref2_BodiesOf.l0_k.mono (I := roadref2_BodiesOf.l0_k.I) (fun go ih p r e => match p with
  | .l0 y_1 a_3 a_9 x_10 x_11 => roadref2_BodiesOf.l0_k.step_l0 go ih y_1 a_3 a_9 x_10 x_11 r e
  ) e
theorem roadref2_BodiesOf.l0.walk {W : Nat → Prop} {h0 m0 h m : Heap} {bk_1 : Nat} {cs_1 : List Value} {A_3 : Option Addr} {n_3 c_3 : Nat} {A_9 : Option Addr} {n_9 c_9 : Nat} {y_1 : T_api_Program} {a_3 : List T_api_Expr} {a_9 : List T_api_Func} {x_10 : Int} {x_11 : Int} (O : Hold W h0 m0 h m [rV bk_1 29 cs_1, rR (aE T_api_Expr.T) A_3 c_3 a_3, rR (aE T_api_Func.T) A_9 c_9 a_9]) (e_1 : T_api_Program.E m y_1 cs_1) (ne_3 : n_3 = List.length a_3) (ne_9 : n_9 = List.length a_9) {r : (List T_api_Expr)} (e : roadref2_BodiesOf.l0 y_1 a_3 a_9 x_10 x_11 = some r) : f7.l0 (roadref2_BodiesOf.post W h0 m0 r) (⟨bk_1, 0, none⟩ : Addr) A_3 n_3 c_3 A_9 n_9 c_9 x_10 x_11 h := roadref2_BodiesOf.l0_k.all (p := .l0 y_1 a_3 a_9 x_10 x_11) e W h0 m0 h m bk_1 cs_1 A_3 n_3 c_3 A_9 n_9 c_9 O e_1 ne_3 ne_9
noncomputable def roadref2_BodiesOf (y_0 : T_api_Program) : Option ((List T_api_Expr)) :=
  Option.bind (roadref2_FunsOf y_0) fun y5 => (roadref2_BodiesOf.l0 y_0 ([] : List T_api_Expr) y5 (((List.length y5) : Nat) : Int) (0 : Int))
set_option maxRecDepth 100000 in
theorem roadref2_BodiesOf.walk {W : Nat → Prop} {h m : Heap} {cs_0 : List Value} {y_0 : T_api_Program} (O : Hold W h m h m []) (e_0 : T_api_Program.E m y_0 cs_0) {r : (List T_api_Expr)} (e : roadref2_BodiesOf y_0 = some r) : Run Tryd.prog 7 #[Value.agg cs_0.toArray] h (roadref2_BodiesOf.post W h m r) := by
  unfold roadref2_BodiesOf at e
  refine f7.run ?_
  unfold f7.runT
  refine O.new fun h1 x2 O3 => ?_
  refine ⟨_, ldAn (Sub.refl _) (O3.all 0 rfl) (T_api_Program.T.len _ _ _ e_0), ?_⟩
  obtain ⟨y5, g6, e⟩ := bind_e e
  refine (roadref2_FunsOf.walk (Hold.start (W := No) O3.s) e_0 g6).mono ?_
  rintro _ h7 ⟨m8, A11, n12, c13, Q9, rfl, ne14⟩
  have O16 := Hold.nm (O3.ret Q9)
  subst ne14
  refine ⟨_, _, _, rfl, ?_⟩
  have O17 := O16.nil (aE T_api_Expr.T) none
  have O19 := O17.nm
  exact roadref2_BodiesOf.l0.walk (O19.pick [0, 2, 1]).nm (T_api_Program.T.mono _ _ _ _ Q9.S.up e_0) rfl rfl e
def roadref2_All.post (W : Nat → Prop) (h0 m0 : Heap) (r : (List T_api_Expr)) (v : Value) (h : Heap) : Prop := ∃ m A0 n0 c0, Hold W h0 m0 h m [rR (aE T_api_Expr.T) A0 c0 r] ∧ v = .slice A0 n0 c0 ∧ n0 = List.length r
inductive roadref2_All.l0_k.Pt where
  | l0 (a_3 : List T_api_Expr) (a_4 : List T_api_Expr)
  | l1 (a_3 : List T_api_Expr) (a_4 : List T_api_Expr) (y_5 : T_api_Expr) (x_6 : Int)
  | l2 (a_3 : List T_api_Expr) (a_4 : List T_api_Expr) (y_5 : T_api_Expr) (x_7 : Int)
noncomputable def roadref2_All.l0_k.body (go : (p : roadref2_All.l0_k.Pt) → Option ((List T_api_Expr))) : (p : roadref2_All.l0_k.Pt) → Option ((List T_api_Expr))
  | .l0 a_3 a_4 => if (((List.length a_3) : Nat) : Int) > (0 : Int) then (Option.bind (gi a_3 (IntKind.wrap .i64 ((((List.length a_3) : Nat) : Int) - (1 : Int)))) fun y1 => Option.bind (sls a_3 (0 : Int) (IntKind.wrap .i64 ((((List.length a_3) : Nat) : Int) - (1 : Int)))) fun l14 => Option.bind (ap 136 a_4 ([y1] : List T_api_Expr)) fun l22 => (go (.l1 l14 l22 y1 (IntKind.wrap .i64 ((((List.length y1.Arms) : Nat) : Int) - (1 : Int)))))) else (some (a_4))
  | .l1 a_3 a_4 y_5 x_6 => if x_6 ≥ (0 : Int) then (Option.bind (gi y_5.Arms x_6) fun y6 => Option.bind (ap 136 a_3 ([y6.Body] : List T_api_Expr)) fun l18 => (go (.l1 l18 a_4 y_5 (IntKind.wrap .i64 (x_6 - (1 : Int)))))) else ((go (.l2 a_3 a_4 y_5 (IntKind.wrap .i64 ((((List.length y_5.Args) : Nat) : Int) - (1 : Int))))))
  | .l2 a_3 a_4 y_5 x_7 => if x_7 ≥ (0 : Int) then (Option.bind (gi y_5.Args x_7) fun y6 => Option.bind (ap 136 a_3 ([y6] : List T_api_Expr)) fun l18 => (go (.l2 l18 a_4 y_5 (IntKind.wrap .i64 (x_7 - (1 : Int)))))) else ((go (.l0 a_3 a_4)))
theorem roadref2_All.l0_k.mono : MonoF (β := fun _ => ((List T_api_Expr))) roadref2_All.l0_k.body := fun f g hfg p => match p with
  | .l0 a_3 a_4 => LeO.ite (LeO.bind (LeO.refl _) fun y1 => LeO.bind (LeO.refl _) fun l14 => LeO.bind (LeO.refl _) fun l22 => (hfg _)) (LeO.refl _)
  | .l1 a_3 a_4 y_5 x_6 => LeO.ite (LeO.bind (LeO.refl _) fun y6 => LeO.bind (LeO.refl _) fun l18 => (hfg _)) ((hfg _))
  | .l2 a_3 a_4 y_5 x_7 => LeO.ite (LeO.bind (LeO.refl _) fun y6 => LeO.bind (LeO.refl _) fun l18 => (hfg _)) ((hfg _))
noncomputable def roadref2_All.l0_k.go (p : roadref2_All.l0_k.Pt) : Option ((List T_api_Expr)) := fixF (β := fun _ => ((List T_api_Expr))) roadref2_All.l0_k.body p
noncomputable def roadref2_All.l0 (a_3 : List T_api_Expr) (a_4 : List T_api_Expr) : Option ((List T_api_Expr)) := roadref2_All.l0_k.go (.l0 a_3 a_4)
noncomputable def roadref2_All.l1 (a_3 : List T_api_Expr) (a_4 : List T_api_Expr) (y_5 : T_api_Expr) (x_6 : Int) : Option ((List T_api_Expr)) := roadref2_All.l0_k.go (.l1 a_3 a_4 y_5 x_6)
noncomputable def roadref2_All.l2 (a_3 : List T_api_Expr) (a_4 : List T_api_Expr) (y_5 : T_api_Expr) (x_7 : Int) : Option ((List T_api_Expr)) := roadref2_All.l0_k.go (.l2 a_3 a_4 y_5 x_7)
theorem roadref2_All.l0_eq (a_3 : List T_api_Expr) (a_4 : List T_api_Expr) : roadref2_All.l0 a_3 a_4 = if (((List.length a_3) : Nat) : Int) > (0 : Int) then (Option.bind (gi a_3 (IntKind.wrap .i64 ((((List.length a_3) : Nat) : Int) - (1 : Int)))) fun y1 => Option.bind (sls a_3 (0 : Int) (IntKind.wrap .i64 ((((List.length a_3) : Nat) : Int) - (1 : Int)))) fun l14 => Option.bind (ap 136 a_4 ([y1] : List T_api_Expr)) fun l22 => (roadref2_All.l1 l14 l22 y1 (IntKind.wrap .i64 ((((List.length y1.Arms) : Nat) : Int) - (1 : Int))))) else (some (a_4)) := fixF_eq roadref2_All.l0_k.mono _
theorem roadref2_All.l1_eq (a_3 : List T_api_Expr) (a_4 : List T_api_Expr) (y_5 : T_api_Expr) (x_6 : Int) : roadref2_All.l1 a_3 a_4 y_5 x_6 = if x_6 ≥ (0 : Int) then (Option.bind (gi y_5.Arms x_6) fun y6 => Option.bind (ap 136 a_3 ([y6.Body] : List T_api_Expr)) fun l18 => (roadref2_All.l1 l18 a_4 y_5 (IntKind.wrap .i64 (x_6 - (1 : Int))))) else ((roadref2_All.l2 a_3 a_4 y_5 (IntKind.wrap .i64 ((((List.length y_5.Args) : Nat) : Int) - (1 : Int))))) := fixF_eq roadref2_All.l0_k.mono _
theorem roadref2_All.l2_eq (a_3 : List T_api_Expr) (a_4 : List T_api_Expr) (y_5 : T_api_Expr) (x_7 : Int) : roadref2_All.l2 a_3 a_4 y_5 x_7 = if x_7 ≥ (0 : Int) then (Option.bind (gi y_5.Args x_7) fun y6 => Option.bind (ap 136 a_3 ([y6] : List T_api_Expr)) fun l18 => (roadref2_All.l2 l18 a_4 y_5 (IntKind.wrap .i64 (x_7 - (1 : Int))))) else ((roadref2_All.l0 a_3 a_4)) := fixF_eq roadref2_All.l0_k.mono _
def roadref2_All.l0_k.I : (p : roadref2_All.l0_k.Pt) → ((List T_api_Expr)) → Prop
  | .l0 a_3 a_4, r => ∀ (W : Nat → Prop) (h0 m0 h m : Heap) (A_3 : Option Addr) (n_3 c_3 : Nat) (A_4 : Option Addr) (n_4 c_4 : Nat) (O : Hold W h0 m0 h m [rR (aE T_api_Expr.T) A_3 c_3 a_3, rR (aE T_api_Expr.T) A_4 c_4 a_4]) (ne_3 : n_3 = List.length a_3) (ne_4 : n_4 = List.length a_4), f14.l0 (roadref2_All.post W h0 m0 r) A_3 n_3 c_3 A_4 n_4 c_4 h
  | .l1 a_3 a_4 y_5 x_6, r => ∀ (W : Nat → Prop) (h0 m0 h m : Heap) (A_3 : Option Addr) (n_3 c_3 : Nat) (A_4 : Option Addr) (n_4 c_4 : Nat) (bk_5 : Nat) (cs_5 : List Value) (O : Hold W h0 m0 h m [rR (aE T_api_Expr.T) A_3 c_3 a_3, rR (aE T_api_Expr.T) A_4 c_4 a_4, rV bk_5 40 cs_5]) (ne_3 : n_3 = List.length a_3) (ne_4 : n_4 = List.length a_4) (e_5 : T_api_Expr.E m y_5 cs_5), f14.l1 (roadref2_All.post W h0 m0 r) A_3 n_3 c_3 A_4 n_4 c_4 (⟨bk_5, 0, none⟩ : Addr) x_6 h
  | .l2 a_3 a_4 y_5 x_7, r => ∀ (W : Nat → Prop) (h0 m0 h m : Heap) (A_3 : Option Addr) (n_3 c_3 : Nat) (A_4 : Option Addr) (n_4 c_4 : Nat) (bk_5 : Nat) (cs_5 : List Value) (O : Hold W h0 m0 h m [rR (aE T_api_Expr.T) A_3 c_3 a_3, rR (aE T_api_Expr.T) A_4 c_4 a_4, rV bk_5 40 cs_5]) (ne_3 : n_3 = List.length a_3) (ne_4 : n_4 = List.length a_4) (e_5 : T_api_Expr.E m y_5 cs_5), f14.l2 (roadref2_All.post W h0 m0 r) A_3 n_3 c_3 A_4 n_4 c_4 (⟨bk_5, 0, none⟩ : Addr) x_7 h
set_option maxRecDepth 100000 in
theorem roadref2_All.l0_k.step_l0 (go : (p : roadref2_All.l0_k.Pt) → Option ((List T_api_Expr))) (ih : ∀ p r, go p = some r → roadref2_All.l0_k.I p r) (a_3 : List T_api_Expr) (a_4 : List T_api_Expr) (r : (List T_api_Expr)) (e : roadref2_All.l0_k.body go (.l0 a_3 a_4) = some r) : roadref2_All.l0_k.I (.l0 a_3 a_4) r := by
  unfold roadref2_All.l0_k.body at e
  intro W h0 m0 h m A_3 n_3 c_3 A_4 n_4 c_4 O ne_3 ne_4
  subst ne_3
  subst ne_4
  refine f14.l0_in ?_
  unfold f14.l0T
  refine split_dec_e e (fun c40 e => ?_) (fun c40 e => ?_)
  · obtain ⟨y1, g2, e⟩ := bind_e e
    refine (O.os 0 rfl).addr rfl g2 fun a3 cs4 ha5 hc6 he7 => ?_
    refine ⟨_, ldAn (Sub.refl _) hc6 rfl, ?_⟩
    refine O.new fun h8 x9 O10 => ?_
    refine ⟨_, rfl, (T_api_Expr.T.len _ _ _ he7), ?_⟩
    refine O10.stA 2 rfl (T_api_Expr.T.len _ _ _ he7) (T_api_Expr.T.flat _ _ _ he7) fun h12 O13 => ?_
    obtain ⟨l14, g15, e⟩ := bind_e e
    have q16 := sls_e g15
    refine ⟨q16.1, q16.2.1, cap_in q16.2.2.1 (O13.cap 0 rfl), ?_⟩
    try rw [q16.2.2.2.1]
    refine ⟨_, ldAn (Sub.refl _) (O13.all 2 rfl) (T_api_Expr.T.len _ _ _ he7), ?_⟩
    refine ⟨cs4, rfl, (T_api_Expr.T.len _ _ _ he7), ?_⟩
    refine O13.new fun h17 x18 O19 => ?_
    have O21 := O19.recell 3 rfl (cs' := cs4 ++ []) rfl
    obtain ⟨l22, g23, e⟩ := bind_e e
    have O30 := O21.rowE (l := ([y1] : List T_api_Expr)) 3 rfl T_api_Expr.T (show CsE _ _ _ _ _ from (CsE.cons he7 (T_api_Expr.T.len _ _ _ he7) CsE.nil)) rfl
    refine O30.app 1 rfl rfl rfl ((O30.os 3 rfl).srcE rfl) (by decide) g23 fun A24 c25 h26 O27 => ?_
    refine ⟨_, _, _, rfl, ?_⟩
    have O31 := O27.nm
    obtain ⟨A32, c33, q34, k35, r36⟩ := T_api_Expr.g6 he7
    refine ⟨_, ldk (k := 6) (Sub.refl _) (O31.all 2 rfl) q34, _, _, _, rfl, ?_⟩
    have O37 := O31.sls 0 rfl g15
    have O39 := O37.nm
    exact (ih _ _ e) _ _ _ _ _ _ _ _ _ _ _ _ _ (O39.pick [0, 1, 2]).nm rfl rfl he7
  · cases e
    exact ⟨_, _, _, _, O.pick [1], rfl, rfl⟩
set_option maxRecDepth 100000 in
theorem roadref2_All.l0_k.step_l1 (go : (p : roadref2_All.l0_k.Pt) → Option ((List T_api_Expr))) (ih : ∀ p r, go p = some r → roadref2_All.l0_k.I p r) (a_3 : List T_api_Expr) (a_4 : List T_api_Expr) (y_5 : T_api_Expr) (x_6 : Int) (r : (List T_api_Expr)) (e : roadref2_All.l0_k.body go (.l1 a_3 a_4 y_5 x_6) = some r) : roadref2_All.l0_k.I (.l1 a_3 a_4 y_5 x_6) r := by
  unfold roadref2_All.l0_k.body at e
  intro W h0 m0 h m A_3 n_3 c_3 A_4 n_4 c_4 bk_5 cs_5 O ne_3 ne_4 e_5
  subst ne_3
  subst ne_4
  refine f14.l1_in ?_
  unfold f14.l1T
  refine split_dec_e e (fun c33 e => ?_) (fun c33 e => ?_)
  · obtain ⟨A1, c2, q3, k4, r5⟩ := T_api_Expr.g6 e_5
    refine ⟨_, ldk (k := 6) (Sub.refl _) (O.all 2 rfl) q3, _, _, _, rfl, ?_⟩
    obtain ⟨y6, g7, e⟩ := bind_e e
    refine r5.addr rfl g7 fun a8 cs9 ha10 hc11 he12 => ?_
    refine ⟨_, ldAkn O.s hc11 4 8 (Nat.le_of_ble_eq_true rfl), ?_⟩
    refine ⟨(List.take 8 (List.drop 4 cs9)), rfl, (T_api_Expr.T.len _ _ _ (T_api_Arm.u4_40 he12)), ?_⟩
    refine O.new fun h13 x14 O15 => ?_
    have O17 := O15.recell 3 rfl (cs' := (List.take 8 (List.drop 4 cs9)) ++ []) rfl
    obtain ⟨l18, g19, e⟩ := bind_e e
    have O26 := O17.rowE (l := ([y6.Body] : List T_api_Expr)) 3 rfl T_api_Expr.T (show CsE _ _ _ _ _ from (CsE.cons (T_api_Arm.u4_40 he12) (T_api_Expr.T.len _ _ _ (T_api_Arm.u4_40 he12)) CsE.nil)) rfl
    refine O26.app 0 rfl rfl rfl ((O26.os 3 rfl).srcE rfl) (by decide) g19 fun A20 c21 h22 O23 => ?_
    refine ⟨_, _, _, rfl, ?_⟩
    have O27 := O23.nm
    exact (ih _ _ e) _ _ _ _ _ _ _ _ _ _ _ _ _ (O27.pick [0, 1, 2]).nm rfl rfl e_5
  · obtain ⟨A28, c29, q30, k31, r32⟩ := T_api_Expr.g5 e_5
    refine ⟨_, ldk (k := 5) (Sub.refl _) (O.all 2 rfl) q30, _, _, _, rfl, ?_⟩
    exact (ih _ _ e) _ _ _ _ _ _ _ _ _ _ _ _ _ (O.pick [0, 1, 2]).nm rfl rfl e_5
set_option maxRecDepth 100000 in
theorem roadref2_All.l0_k.step_l2 (go : (p : roadref2_All.l0_k.Pt) → Option ((List T_api_Expr))) (ih : ∀ p r, go p = some r → roadref2_All.l0_k.I p r) (a_3 : List T_api_Expr) (a_4 : List T_api_Expr) (y_5 : T_api_Expr) (x_7 : Int) (r : (List T_api_Expr)) (e : roadref2_All.l0_k.body go (.l2 a_3 a_4 y_5 x_7) = some r) : roadref2_All.l0_k.I (.l2 a_3 a_4 y_5 x_7) r := by
  unfold roadref2_All.l0_k.body at e
  intro W h0 m0 h m A_3 n_3 c_3 A_4 n_4 c_4 bk_5 cs_5 O ne_3 ne_4 e_5
  subst ne_3
  subst ne_4
  refine f14.l2_in ?_
  unfold f14.l2T
  refine split_dec_e e (fun c28 e => ?_) (fun c28 e => ?_)
  · obtain ⟨A1, c2, q3, k4, r5⟩ := T_api_Expr.g5 e_5
    refine ⟨_, ldk (k := 5) (Sub.refl _) (O.all 2 rfl) q3, _, _, _, rfl, ?_⟩
    obtain ⟨y6, g7, e⟩ := bind_e e
    refine r5.addr rfl g7 fun a8 cs9 ha10 hc11 he12 => ?_
    refine ⟨_, ldAn O.s hc11 rfl, ?_⟩
    refine ⟨cs9, rfl, (T_api_Expr.T.len _ _ _ he12), ?_⟩
    refine O.new fun h13 x14 O15 => ?_
    have O17 := O15.recell 3 rfl (cs' := cs9 ++ []) rfl
    obtain ⟨l18, g19, e⟩ := bind_e e
    have O26 := O17.rowE (l := ([y6] : List T_api_Expr)) 3 rfl T_api_Expr.T (show CsE _ _ _ _ _ from (CsE.cons he12 (T_api_Expr.T.len _ _ _ he12) CsE.nil)) rfl
    refine O26.app 0 rfl rfl rfl ((O26.os 3 rfl).srcE rfl) (by decide) g19 fun A20 c21 h22 O23 => ?_
    refine ⟨_, _, _, rfl, ?_⟩
    have O27 := O23.nm
    exact (ih _ _ e) _ _ _ _ _ _ _ _ _ _ _ _ _ (O27.pick [0, 1, 2]).nm rfl rfl e_5
  · exact (ih _ _ e) _ _ _ _ _ _ _ _ _ _ _ (O.pick [0, 1]).nm rfl rfl
theorem roadref2_All.l0_k.all {p : roadref2_All.l0_k.Pt} {r : ((List T_api_Expr))} (e : roadref2_All.l0_k.go p = some r) : roadref2_All.l0_k.I p r := fixF_ind (β := fun _ => ((List T_api_Expr))) roadref2_All.l0_k.mono (I := roadref2_All.l0_k.I) (fun go ih p r e => match p with
  | .l0 a_3 a_4 => roadref2_All.l0_k.step_l0 go ih a_3 a_4 r e
  | .l1 a_3 a_4 y_5 x_6 => roadref2_All.l0_k.step_l1 go ih a_3 a_4 y_5 x_6 r e
  | .l2 a_3 a_4 y_5 x_7 => roadref2_All.l0_k.step_l2 go ih a_3 a_4 y_5 x_7 r e
  ) e
theorem roadref2_All.l0.walk {W : Nat → Prop} {h0 m0 h m : Heap} {A_3 : Option Addr} {n_3 c_3 : Nat} {A_4 : Option Addr} {n_4 c_4 : Nat} {a_3 : List T_api_Expr} {a_4 : List T_api_Expr} (O : Hold W h0 m0 h m [rR (aE T_api_Expr.T) A_3 c_3 a_3, rR (aE T_api_Expr.T) A_4 c_4 a_4]) (ne_3 : n_3 = List.length a_3) (ne_4 : n_4 = List.length a_4) {r : (List T_api_Expr)} (e : roadref2_All.l0 a_3 a_4 = some r) : f14.l0 (roadref2_All.post W h0 m0 r) A_3 n_3 c_3 A_4 n_4 c_4 h := roadref2_All.l0_k.all (p := .l0 a_3 a_4) e W h0 m0 h m A_3 n_3 c_3 A_4 n_4 c_4 O ne_3 ne_4
noncomputable def roadref2_All (y_0 : T_api_Expr) : Option ((List T_api_Expr)) :=
  (roadref2_All.l0 ([y_0] : List T_api_Expr) ([] : List T_api_Expr))
set_option maxRecDepth 100000 in
theorem roadref2_All.walk {W : Nat → Prop} {h m : Heap} {cs_0 : List Value} {y_0 : T_api_Expr} (O : Hold W h m h m []) (e_0 : T_api_Expr.E m y_0 cs_0) {r : (List T_api_Expr)} (e : roadref2_All y_0 = some r) : Run Tryd.prog 14 #[Value.agg cs_0.toArray] h (roadref2_All.post W h m r) := by
  unfold roadref2_All at e
  refine f14.run ?_
  unfold f14.runT
  refine O.new fun h1 x2 O3 => ?_
  refine ⟨_, ldAn (Sub.refl _) (O3.all 0 rfl) (T_api_Expr.T.len _ _ _ e_0), ?_⟩
  refine ⟨cs_0, rfl, (T_api_Expr.T.len _ _ _ e_0), ?_⟩
  refine O3.new fun h5 x6 O7 => ?_
  have O9 := O7.recell 1 rfl (cs' := cs_0 ++ []) rfl
  have O10 := O9.rowE (l := ([y_0] : List T_api_Expr)) 1 rfl T_api_Expr.T (show CsE _ _ _ _ _ from (CsE.cons e_0 (T_api_Expr.T.len _ _ _ e_0) CsE.nil)) rfl
  have O11 := O10.nil (aE T_api_Expr.T) none
  have O13 := O11.nm
  exact roadref2_All.l0.walk (O13.pick [1, 2]).nm rfl rfl e
def roadref2_pats.post (W : Nat → Prop) (h0 m0 : Heap) (r : (List T_api_Pat)) (v : Value) (h : Heap) : Prop := ∃ m A0 n0 c0, Hold W h0 m0 h m [rR (aE T_api_Pat.T) A0 c0 r] ∧ v = .slice A0 n0 c0 ∧ n0 = List.length r
inductive roadref2_pats.l0_k.Pt where
  | l0 (a_3 : List T_api_Pat) (x_4 : Int)
noncomputable def roadref2_pats.l0_k.body (go : (p : roadref2_pats.l0_k.Pt) → Option ((List T_api_Pat))) : (p : roadref2_pats.l0_k.Pt) → Option ((List T_api_Pat))
  | .l0 a_3 x_4 => if x_4 < (((List.length a_3) : Nat) : Int) then (Option.bind (gi a_3 x_4) fun y1 => Option.bind (ap 56 a_3 y1.Args) fun l13 => (go (.l0 l13 (IntKind.wrap .i64 (x_4 + (1 : Int)))))) else (some (a_3))
theorem roadref2_pats.l0_k.mono : MonoF (β := fun _ => ((List T_api_Pat))) roadref2_pats.l0_k.body := fun f g hfg p => match p with
  | .l0 a_3 x_4 => LeO.ite (LeO.bind (LeO.refl _) fun y1 => LeO.bind (LeO.refl _) fun l13 => (hfg _)) (LeO.refl _)
noncomputable def roadref2_pats.l0_k.go (p : roadref2_pats.l0_k.Pt) : Option ((List T_api_Pat)) := fixF (β := fun _ => ((List T_api_Pat))) roadref2_pats.l0_k.body p
noncomputable def roadref2_pats.l0 (a_3 : List T_api_Pat) (x_4 : Int) : Option ((List T_api_Pat)) := roadref2_pats.l0_k.go (.l0 a_3 x_4)
theorem roadref2_pats.l0_eq (a_3 : List T_api_Pat) (x_4 : Int) : roadref2_pats.l0 a_3 x_4 = if x_4 < (((List.length a_3) : Nat) : Int) then (Option.bind (gi a_3 x_4) fun y1 => Option.bind (ap 56 a_3 y1.Args) fun l13 => (roadref2_pats.l0 l13 (IntKind.wrap .i64 (x_4 + (1 : Int))))) else (some (a_3)) := fixF_eq roadref2_pats.l0_k.mono _
def roadref2_pats.l0_k.I : (p : roadref2_pats.l0_k.Pt) → ((List T_api_Pat)) → Prop
  | .l0 a_3 x_4, r => ∀ (W : Nat → Prop) (h0 m0 h m : Heap) (A_3 : Option Addr) (n_3 c_3 : Nat) (O : Hold W h0 m0 h m [rR (aE T_api_Pat.T) A_3 c_3 a_3]) (ne_3 : n_3 = List.length a_3), f52.l0 (roadref2_pats.post W h0 m0 r) A_3 n_3 c_3 x_4 h
set_option maxRecDepth 100000 in
theorem roadref2_pats.l0_k.step_l0 (go : (p : roadref2_pats.l0_k.Pt) → Option ((List T_api_Pat))) (ih : ∀ p r, go p = some r → roadref2_pats.l0_k.I p r) (a_3 : List T_api_Pat) (x_4 : Int) (r : (List T_api_Pat)) (e : roadref2_pats.l0_k.body go (.l0 a_3 x_4) = some r) : roadref2_pats.l0_k.I (.l0 a_3 x_4) r := by
  unfold roadref2_pats.l0_k.body at e
  intro W h0 m0 h m A_3 n_3 c_3 O ne_3
  subst ne_3
  refine f52.l0_in ?_
  unfold f52.l0T
  refine split_dec_e e (fun c22 e => ?_) (fun c22 e => ?_)
  · obtain ⟨y1, g2, e⟩ := bind_e e
    refine (O.os 0 rfl).addr rfl g2 fun a3 cs4 ha5 hc6 he7 => ?_
    obtain ⟨A8, c9, q10, k11, r12⟩ := T_api_Pat.g3 he7
    refine ⟨_, ldk (k := 3) (Sub.refl _) hc6 q10, _, _, _, rfl, ?_⟩
    obtain ⟨l13, g14, e⟩ := bind_e e
    refine O.app 0 rfl rfl rfl (Rd.srcE r12 T_api_Pat.T O.s rfl) (by decide) g14 fun A15 c16 h17 O18 => ?_
    refine ⟨_, _, _, rfl, ?_⟩
    have O21 := O18.nm
    exact (ih _ _ e) _ _ _ _ _ _ _ _ (O21.pick [0]).nm rfl
  · cases e
    exact ⟨_, _, _, _, O.pick [0], rfl, rfl⟩
theorem roadref2_pats.l0_k.all {p : roadref2_pats.l0_k.Pt} {r : ((List T_api_Pat))} (e : roadref2_pats.l0_k.go p = some r) : roadref2_pats.l0_k.I p r := fixF_ind (β := fun _ => ((List T_api_Pat))) roadref2_pats.l0_k.mono (I := roadref2_pats.l0_k.I) (fun go ih p r e => match p with
  | .l0 a_3 x_4 => roadref2_pats.l0_k.step_l0 go ih a_3 x_4 r e
  ) e
theorem roadref2_pats.l0.walk {W : Nat → Prop} {h0 m0 h m : Heap} {A_3 : Option Addr} {n_3 c_3 : Nat} {a_3 : List T_api_Pat} {x_4 : Int} (O : Hold W h0 m0 h m [rR (aE T_api_Pat.T) A_3 c_3 a_3]) (ne_3 : n_3 = List.length a_3) {r : (List T_api_Pat)} (e : roadref2_pats.l0 a_3 x_4 = some r) : f52.l0 (roadref2_pats.post W h0 m0 r) A_3 n_3 c_3 x_4 h := roadref2_pats.l0_k.all (p := .l0 a_3 x_4) e W h0 m0 h m A_3 n_3 c_3 O ne_3
noncomputable def roadref2_pats (y_0 : T_api_Pat) : Option ((List T_api_Pat)) :=
  (roadref2_pats.l0 ([y_0] : List T_api_Pat) (0 : Int))
set_option maxRecDepth 100000 in
theorem roadref2_pats.walk {W : Nat → Prop} {h m : Heap} {cs_0 : List Value} {y_0 : T_api_Pat} (O : Hold W h m h m []) (e_0 : T_api_Pat.E m y_0 cs_0) {r : (List T_api_Pat)} (e : roadref2_pats y_0 = some r) : Run Tryd.prog 52 #[Value.agg cs_0.toArray] h (roadref2_pats.post W h m r) := by
  unfold roadref2_pats at e
  refine f52.run ?_
  unfold f52.runT
  refine O.new fun h1 x2 O3 => ?_
  refine ⟨_, ldAn (Sub.refl _) (O3.all 0 rfl) (T_api_Pat.T.len _ _ _ e_0), ?_⟩
  refine ⟨cs_0, rfl, (T_api_Pat.T.len _ _ _ e_0), ?_⟩
  refine O3.new fun h5 x6 O7 => ?_
  have O9 := O7.recell 1 rfl (cs' := cs_0 ++ []) rfl
  have O10 := O9.rowE (l := ([y_0] : List T_api_Pat)) 1 rfl T_api_Pat.T (show CsE _ _ _ _ _ from (CsE.cons e_0 (T_api_Pat.T.len _ _ _ e_0) CsE.nil)) rfl
  have O11 := O10.nm
  exact roadref2_pats.l0.walk (O11.pick [1]).nm rfl e
def roadref2_SizeOf.post (W : Nat → Prop) (h0 m0 : Heap) (r : Int) (v : Value) (h : Heap) : Prop := ∃ m , Hold W h0 m0 h m [] ∧ v = .int .i64 r
inductive roadref2_SizeOf.l0_k.Pt where
  | l0 (x_3 : Int) (a_9 : List T_api_Expr) (x_10 : Int) (x_11 : Int)
  | l1 (x_3 : Int) (a_9 : List T_api_Expr) (x_10 : Int) (x_11 : Int) (a_18 : List T_api_Arm) (x_19 : Int) (x_20 : Int)
noncomputable def roadref2_SizeOf.l0_k.body (go : (p : roadref2_SizeOf.l0_k.Pt) → Option (Int)) : (p : roadref2_SizeOf.l0_k.Pt) → Option (Int)
  | .l0 x_3 a_9 x_10 x_11 => if x_11 < x_10 then (Option.bind (gi a_9 x_11) fun y1 => (go (.l1 (IntKind.wrap .i64 (x_3 + (1 : Int))) a_9 x_10 x_11 y1.Arms (((List.length y1.Arms) : Nat) : Int) (0 : Int)))) else (some (x_3))
  | .l1 x_3 a_9 x_10 x_11 a_18 x_19 x_20 => if x_20 < x_19 then (Option.bind (gi a_18 x_20) fun y1 => Option.bind (roadref2_pats y1.Pat) fun y14 => (go (.l1 (IntKind.wrap .i64 (x_3 + (((List.length y14) : Nat) : Int))) a_9 x_10 x_11 a_18 x_19 (IntKind.wrap .i64 (x_20 + (1 : Int)))))) else ((go (.l0 x_3 a_9 x_10 (IntKind.wrap .i64 (x_11 + (1 : Int))))))
theorem roadref2_SizeOf.l0_k.mono : MonoF (β := fun _ => (Int)) roadref2_SizeOf.l0_k.body := fun f g hfg p => match p with
  | .l0 x_3 a_9 x_10 x_11 => LeO.ite (LeO.bind (LeO.refl _) fun y1 => (hfg _)) (LeO.refl _)
  | .l1 x_3 a_9 x_10 x_11 a_18 x_19 x_20 => LeO.ite (LeO.bind (LeO.refl _) fun y1 => LeO.bind (LeO.refl _) fun y14 => (hfg _)) ((hfg _))
noncomputable def roadref2_SizeOf.l0_k.go (p : roadref2_SizeOf.l0_k.Pt) : Option (Int) := fixF (β := fun _ => (Int)) roadref2_SizeOf.l0_k.body p
noncomputable def roadref2_SizeOf.l0 (x_3 : Int) (a_9 : List T_api_Expr) (x_10 : Int) (x_11 : Int) : Option (Int) := roadref2_SizeOf.l0_k.go (.l0 x_3 a_9 x_10 x_11)
noncomputable def roadref2_SizeOf.l1 (x_3 : Int) (a_9 : List T_api_Expr) (x_10 : Int) (x_11 : Int) (a_18 : List T_api_Arm) (x_19 : Int) (x_20 : Int) : Option (Int) := roadref2_SizeOf.l0_k.go (.l1 x_3 a_9 x_10 x_11 a_18 x_19 x_20)
theorem roadref2_SizeOf.l0_eq (x_3 : Int) (a_9 : List T_api_Expr) (x_10 : Int) (x_11 : Int) : roadref2_SizeOf.l0 x_3 a_9 x_10 x_11 = if x_11 < x_10 then (Option.bind (gi a_9 x_11) fun y1 => (roadref2_SizeOf.l1 (IntKind.wrap .i64 (x_3 + (1 : Int))) a_9 x_10 x_11 y1.Arms (((List.length y1.Arms) : Nat) : Int) (0 : Int))) else (some (x_3)) := fixF_eq roadref2_SizeOf.l0_k.mono _
theorem roadref2_SizeOf.l1_eq (x_3 : Int) (a_9 : List T_api_Expr) (x_10 : Int) (x_11 : Int) (a_18 : List T_api_Arm) (x_19 : Int) (x_20 : Int) : roadref2_SizeOf.l1 x_3 a_9 x_10 x_11 a_18 x_19 x_20 = if x_20 < x_19 then (Option.bind (gi a_18 x_20) fun y1 => Option.bind (roadref2_pats y1.Pat) fun y14 => (roadref2_SizeOf.l1 (IntKind.wrap .i64 (x_3 + (((List.length y14) : Nat) : Int))) a_9 x_10 x_11 a_18 x_19 (IntKind.wrap .i64 (x_20 + (1 : Int))))) else ((roadref2_SizeOf.l0 x_3 a_9 x_10 (IntKind.wrap .i64 (x_11 + (1 : Int))))) := fixF_eq roadref2_SizeOf.l0_k.mono _
def roadref2_SizeOf.l0_k.I : (p : roadref2_SizeOf.l0_k.Pt) → (Int) → Prop
  | .l0 x_3 a_9 x_10 x_11, r => ∀ (W : Nat → Prop) (h0 m0 h m : Heap) (A_9 : Option Addr) (n_9 c_9 : Nat) (O : Hold W h0 m0 h m [rR (aE T_api_Expr.T) A_9 c_9 a_9]) (ne_9 : n_9 = List.length a_9), f12.l0 (roadref2_SizeOf.post W h0 m0 r) x_3 A_9 n_9 c_9 x_10 x_11 h
  | .l1 x_3 a_9 x_10 x_11 a_18 x_19 x_20, r => ∀ (W : Nat → Prop) (h0 m0 h m : Heap) (A_9 : Option Addr) (n_9 c_9 : Nat) (A_18 : Option Addr) (n_18 c_18 : Nat) (O : Hold W h0 m0 h m [rR (aE T_api_Expr.T) A_9 c_9 a_9]) (ne_9 : n_9 = List.length a_9) (ne_18 : n_18 = List.length a_18) (k_18 : List.length a_18 ≤ c_18) (r_18 : Rd 12 T_api_Arm.E m A_18 a_18), f12.l1 (roadref2_SizeOf.post W h0 m0 r) x_3 A_9 n_9 c_9 x_10 x_11 A_18 n_18 c_18 x_19 x_20 h
set_option maxRecDepth 100000 in
theorem roadref2_SizeOf.l0_k.step_l0 (go : (p : roadref2_SizeOf.l0_k.Pt) → Option (Int)) (ih : ∀ p r, go p = some r → roadref2_SizeOf.l0_k.I p r) (x_3 : Int) (a_9 : List T_api_Expr) (x_10 : Int) (x_11 : Int) (r : Int) (e : roadref2_SizeOf.l0_k.body go (.l0 x_3 a_9 x_10 x_11) = some r) : roadref2_SizeOf.l0_k.I (.l0 x_3 a_9 x_10 x_11) r := by
  unfold roadref2_SizeOf.l0_k.body at e
  intro W h0 m0 h m A_9 n_9 c_9 O ne_9
  subst ne_9
  refine f12.l0_in ?_
  unfold f12.l0T
  refine split_dec_e e (fun c20 e => ?_) (fun c20 e => ?_)
  · obtain ⟨y1, g2, e⟩ := bind_e e
    refine (O.os 0 rfl).addr rfl g2 fun a3 cs4 ha5 hc6 he7 => ?_
    refine ⟨_, ldAn (Sub.refl _) hc6 rfl, ?_⟩
    refine O.new fun h8 x9 O10 => ?_
    refine ⟨_, rfl, (T_api_Expr.T.len _ _ _ he7), ?_⟩
    refine O10.stA 1 rfl (T_api_Expr.T.len _ _ _ he7) (T_api_Expr.T.flat _ _ _ he7) fun h12 O13 => ?_
    obtain ⟨A14, c15, q16, k17, r18⟩ := T_api_Expr.g6 he7
    refine ⟨_, ldk (k := 6) (Sub.refl _) (O13.all 1 rfl) q16, _, _, _, rfl, ?_⟩
    have O19 := O13.nm
    exact (ih _ _ e) _ _ _ _ _ _ _ _ _ _ _ (O19.pick [0]).nm rfl rfl k17 r18
  · cases e
    exact ⟨_, O.pick [], rfl⟩
set_option maxRecDepth 100000 in
theorem roadref2_SizeOf.l0_k.step_l1 (go : (p : roadref2_SizeOf.l0_k.Pt) → Option (Int)) (ih : ∀ p r, go p = some r → roadref2_SizeOf.l0_k.I p r) (x_3 : Int) (a_9 : List T_api_Expr) (x_10 : Int) (x_11 : Int) (a_18 : List T_api_Arm) (x_19 : Int) (x_20 : Int) (r : Int) (e : roadref2_SizeOf.l0_k.body go (.l1 x_3 a_9 x_10 x_11 a_18 x_19 x_20) = some r) : roadref2_SizeOf.l0_k.I (.l1 x_3 a_9 x_10 x_11 a_18 x_19 x_20) r := by
  unfold roadref2_SizeOf.l0_k.body at e
  intro W h0 m0 h m A_9 n_9 c_9 A_18 n_18 c_18 O ne_9 ne_18 k_18 r_18
  subst ne_9
  subst ne_18
  refine f12.l1_in ?_
  unfold f12.l1T
  refine split_dec_e e (fun c26 e => ?_) (fun c26 e => ?_)
  · obtain ⟨y1, g2, e⟩ := bind_e e
    refine r_18.addr rfl g2 fun a3 cs4 ha5 hc6 he7 => ?_
    refine ⟨_, ldAn O.s hc6 rfl, ?_⟩
    refine O.new fun h8 x9 O10 => ?_
    refine ⟨_, rfl, (T_api_Arm.T.len _ _ _ he7), ?_⟩
    refine O10.stA 1 rfl (T_api_Arm.T.len _ _ _ he7) (T_api_Arm.T.flat _ _ _ he7) fun h12 O13 => ?_
    refine ⟨_, ldA0n (Sub.refl _) (O13.all 1 rfl) 4 (le_len (T_api_Arm.T.len _ _ _ he7) (by decide)), ?_⟩
    obtain ⟨y14, g15, e⟩ := bind_e e
    refine (roadref2_pats.walk (Hold.start (W := No) O13.s) (T_api_Arm.u0_48 he7) g15).mono ?_
    rintro _ h16 ⟨m17, A20, n21, c22, Q18, rfl, ne23⟩
    have O25 := Hold.nm (O13.ret Q18)
    subst ne23
    refine ⟨_, _, _, rfl, ?_⟩
    exact (ih _ _ e) _ _ _ _ _ _ _ _ _ _ _ (O25.pick [0]).nm rfl rfl k_18 (r_18.sub T_api_Arm.T Q18.S.up)
  · exact (ih _ _ e) _ _ _ _ _ _ _ _ (O.pick [0]).nm rfl
theorem roadref2_SizeOf.l0_k.all {p : roadref2_SizeOf.l0_k.Pt} {r : (Int)} (e : roadref2_SizeOf.l0_k.go p = some r) : roadref2_SizeOf.l0_k.I p r := fixF_ind (β := fun _ => (Int)) roadref2_SizeOf.l0_k.mono (I := roadref2_SizeOf.l0_k.I) (fun go ih p r e => match p with
  | .l0 x_3 a_9 x_10 x_11 => roadref2_SizeOf.l0_k.step_l0 go ih x_3 a_9 x_10 x_11 r e
  | .l1 x_3 a_9 x_10 x_11 a_18 x_19 x_20 => roadref2_SizeOf.l0_k.step_l1 go ih x_3 a_9 x_10 x_11 a_18 x_19 x_20 r e
  ) e
theorem roadref2_SizeOf.l0.walk {W : Nat → Prop} {h0 m0 h m : Heap} {A_9 : Option Addr} {n_9 c_9 : Nat} {x_3 : Int} {a_9 : List T_api_Expr} {x_10 : Int} {x_11 : Int} (O : Hold W h0 m0 h m [rR (aE T_api_Expr.T) A_9 c_9 a_9]) (ne_9 : n_9 = List.length a_9) {r : Int} (e : roadref2_SizeOf.l0 x_3 a_9 x_10 x_11 = some r) : f12.l0 (roadref2_SizeOf.post W h0 m0 r) x_3 A_9 n_9 c_9 x_10 x_11 h := roadref2_SizeOf.l0_k.all (p := .l0 x_3 a_9 x_10 x_11) e W h0 m0 h m A_9 n_9 c_9 O ne_9
noncomputable def roadref2_SizeOf (y_0 : T_api_Expr) : Option (Int) :=
  Option.bind (roadref2_All y_0) fun y5 => (roadref2_SizeOf.l0 (0 : Int) y5 (((List.length y5) : Nat) : Int) (0 : Int))
set_option maxRecDepth 100000 in
theorem roadref2_SizeOf.walk {W : Nat → Prop} {h m : Heap} {cs_0 : List Value} {y_0 : T_api_Expr} (O : Hold W h m h m []) (e_0 : T_api_Expr.E m y_0 cs_0) {r : Int} (e : roadref2_SizeOf y_0 = some r) : Run Tryd.prog 12 #[Value.agg cs_0.toArray] h (roadref2_SizeOf.post W h m r) := by
  unfold roadref2_SizeOf at e
  refine f12.run ?_
  unfold f12.runT
  refine O.new fun h1 x2 O3 => ?_
  refine ⟨_, ldAn (Sub.refl _) (O3.all 0 rfl) (T_api_Expr.T.len _ _ _ e_0), ?_⟩
  obtain ⟨y5, g6, e⟩ := bind_e e
  refine (roadref2_All.walk (Hold.start (W := No) O3.s) e_0 g6).mono ?_
  rintro _ h7 ⟨m8, A11, n12, c13, Q9, rfl, ne14⟩
  have O16 := Hold.nm (O3.ret Q9)
  subst ne14
  refine ⟨_, _, _, rfl, ?_⟩
  exact roadref2_SizeOf.l0.walk (O16.pick [1]).nm rfl e
def roadlaw2_small.post (W : Nat → Prop) (h0 m0 : Heap) (r : Bool) (v : Value) (h : Heap) : Prop := ∃ m , Hold W h0 m0 h m [] ∧ v = .bool r
inductive roadlaw2_small.l0_k.Pt where
  | l0 (x_3 : Int) (a_7 : List T_api_Expr) (x_8 : Int) (x_9 : Int)
noncomputable def roadlaw2_small.l0_k.body (go : (p : roadlaw2_small.l0_k.Pt) → Option (Bool)) : (p : roadlaw2_small.l0_k.Pt) → Option (Bool)
  | .l0 x_3 a_7 x_8 x_9 => if x_9 < x_8 then (Option.bind (gi a_7 x_9) fun y1 => Option.bind (roadref2_SizeOf y1) fun y14 => (go (.l0 (IntKind.wrap .i64 (x_3 + y14)) a_7 x_8 (IntKind.wrap .i64 (x_9 + (1 : Int)))))) else (some ((decide (x_3 ≤ (400 : Int)))))
theorem roadlaw2_small.l0_k.mono : MonoF (β := fun _ => (Bool)) roadlaw2_small.l0_k.body := fun f g hfg p => match p with
  | .l0 x_3 a_7 x_8 x_9 => LeO.ite (LeO.bind (LeO.refl _) fun y1 => LeO.bind (LeO.refl _) fun y14 => (hfg _)) (LeO.refl _)
noncomputable def roadlaw2_small.l0_k.go (p : roadlaw2_small.l0_k.Pt) : Option (Bool) := fixF (β := fun _ => (Bool)) roadlaw2_small.l0_k.body p
noncomputable def roadlaw2_small.l0 (x_3 : Int) (a_7 : List T_api_Expr) (x_8 : Int) (x_9 : Int) : Option (Bool) := roadlaw2_small.l0_k.go (.l0 x_3 a_7 x_8 x_9)
theorem roadlaw2_small.l0_eq (x_3 : Int) (a_7 : List T_api_Expr) (x_8 : Int) (x_9 : Int) : roadlaw2_small.l0 x_3 a_7 x_8 x_9 = if x_9 < x_8 then (Option.bind (gi a_7 x_9) fun y1 => Option.bind (roadref2_SizeOf y1) fun y14 => (roadlaw2_small.l0 (IntKind.wrap .i64 (x_3 + y14)) a_7 x_8 (IntKind.wrap .i64 (x_9 + (1 : Int))))) else (some ((decide (x_3 ≤ (400 : Int))))) := fixF_eq roadlaw2_small.l0_k.mono _
def roadlaw2_small.l0_k.I : (p : roadlaw2_small.l0_k.Pt) → (Bool) → Prop
  | .l0 x_3 a_7 x_8 x_9, r => ∀ (W : Nat → Prop) (h0 m0 h m : Heap) (A_7 : Option Addr) (n_7 c_7 : Nat) (O : Hold W h0 m0 h m [rR (aE T_api_Expr.T) A_7 c_7 a_7]) (ne_7 : n_7 = List.length a_7), f5.l0 (roadlaw2_small.post W h0 m0 r) x_3 A_7 n_7 c_7 x_8 x_9 h
set_option maxRecDepth 100000 in
theorem roadlaw2_small.l0_k.step_l0 (go : (p : roadlaw2_small.l0_k.Pt) → Option (Bool)) (ih : ∀ p r, go p = some r → roadlaw2_small.l0_k.I p r) (x_3 : Int) (a_7 : List T_api_Expr) (x_8 : Int) (x_9 : Int) (r : Bool) (e : roadlaw2_small.l0_k.body go (.l0 x_3 a_7 x_8 x_9) = some r) : roadlaw2_small.l0_k.I (.l0 x_3 a_7 x_8 x_9) r := by
  unfold roadlaw2_small.l0_k.body at e
  intro W h0 m0 h m A_7 n_7 c_7 O ne_7
  subst ne_7
  refine f5.l0_in ?_
  unfold f5.l0T
  refine split_dec_e e (fun c21 e => ?_) (fun c21 e => ?_)
  · obtain ⟨y1, g2, e⟩ := bind_e e
    refine (O.os 0 rfl).addr rfl g2 fun a3 cs4 ha5 hc6 he7 => ?_
    refine ⟨_, ldAn (Sub.refl _) hc6 rfl, ?_⟩
    refine O.new fun h8 x9 O10 => ?_
    refine ⟨_, rfl, (T_api_Expr.T.len _ _ _ he7), ?_⟩
    refine O10.stA 1 rfl (T_api_Expr.T.len _ _ _ he7) (T_api_Expr.T.flat _ _ _ he7) fun h12 O13 => ?_
    refine ⟨_, ldAn (Sub.refl _) (O13.all 1 rfl) (T_api_Expr.T.len _ _ _ he7), ?_⟩
    obtain ⟨y14, g15, e⟩ := bind_e e
    refine (roadref2_SizeOf.walk (Hold.start (W := No) O13.s) he7 g15).mono ?_
    rintro _ h16 ⟨m17, Q18, rfl⟩
    have O20 := Hold.nm (O13.retC Q18 vfs_nil)
    refine ⟨_, rfl, ?_⟩
    exact (ih _ _ e) _ _ _ _ _ _ _ _ (O20.pick [0]).nm rfl
  · cases e
    exact ⟨_, O.pick [], rfl⟩
theorem roadlaw2_small.l0_k.all {p : roadlaw2_small.l0_k.Pt} {r : (Bool)} (e : roadlaw2_small.l0_k.go p = some r) : roadlaw2_small.l0_k.I p r := fixF_ind (β := fun _ => (Bool)) roadlaw2_small.l0_k.mono (I := roadlaw2_small.l0_k.I) (fun go ih p r e => match p with
  | .l0 x_3 a_7 x_8 x_9 => roadlaw2_small.l0_k.step_l0 go ih x_3 a_7 x_8 x_9 r e
  ) e
theorem roadlaw2_small.l0.walk {W : Nat → Prop} {h0 m0 h m : Heap} {A_7 : Option Addr} {n_7 c_7 : Nat} {x_3 : Int} {a_7 : List T_api_Expr} {x_8 : Int} {x_9 : Int} (O : Hold W h0 m0 h m [rR (aE T_api_Expr.T) A_7 c_7 a_7]) (ne_7 : n_7 = List.length a_7) {r : Bool} (e : roadlaw2_small.l0 x_3 a_7 x_8 x_9 = some r) : f5.l0 (roadlaw2_small.post W h0 m0 r) x_3 A_7 n_7 c_7 x_8 x_9 h := roadlaw2_small.l0_k.all (p := .l0 x_3 a_7 x_8 x_9) e W h0 m0 h m A_7 n_7 c_7 O ne_7
noncomputable def roadlaw2_small (y_0 : T_api_Program) : Option (Bool) :=
  Option.bind (roadref2_BodiesOf y_0) fun y5 => (roadlaw2_small.l0 (0 : Int) y5 (((List.length y5) : Nat) : Int) (0 : Int))
set_option maxRecDepth 100000 in
theorem roadlaw2_small.walk {W : Nat → Prop} {h m : Heap} {cs_0 : List Value} {y_0 : T_api_Program} (O : Hold W h m h m []) (e_0 : T_api_Program.E m y_0 cs_0) {r : Bool} (e : roadlaw2_small y_0 = some r) : Run Tryd.prog 5 #[Value.agg cs_0.toArray] h (roadlaw2_small.post W h m r) := by
  unfold roadlaw2_small at e
  refine f5.run ?_
  unfold f5.runT
  refine O.new fun h1 x2 O3 => ?_
  refine ⟨_, ldAn (Sub.refl _) (O3.all 0 rfl) (T_api_Program.T.len _ _ _ e_0), ?_⟩
  obtain ⟨y5, g6, e⟩ := bind_e e
  refine (roadref2_BodiesOf.walk (Hold.start (W := No) O3.s) e_0 g6).mono ?_
  rintro _ h7 ⟨m8, A11, n12, c13, Q9, rfl, ne14⟩
  have O16 := Hold.nm (O3.ret Q9)
  subst ne14
  refine ⟨_, _, _, rfl, ?_⟩
  exact roadlaw2_small.l0.walk (O16.pick [1]).nm rfl e
def tree_Bodies.post (W : Nat → Prop) (h0 m0 : Heap) (r : (List T_api_Expr)) (v : Value) (h : Heap) : Prop := ∃ m A0 n0 c0, Hold W h0 m0 h m [rR (aE T_api_Expr.T) A0 c0 r] ∧ v = .slice A0 n0 c0 ∧ n0 = List.length r
inductive tree_Bodies.l2_k.Pt where
  | l2 (a_3 : List T_api_Expr) (a_47 : List T_api_Actor) (x_48 : Int) (x_49 : Int)
noncomputable def tree_Bodies.l2_k.body (go : (p : tree_Bodies.l2_k.Pt) → Option ((List T_api_Expr))) : (p : tree_Bodies.l2_k.Pt) → Option ((List T_api_Expr))
  | .l2 a_3 a_47 x_48 x_49 => if x_49 < x_48 then (Option.bind (gi a_47 x_49) fun y1 => Option.bind (ap 136 a_3 ([y1.Body] : List T_api_Expr)) fun l19 => (go (.l2 l19 a_47 x_48 (IntKind.wrap .i64 (x_49 + (1 : Int)))))) else (some (a_3))
theorem tree_Bodies.l2_k.mono : MonoF (β := fun _ => ((List T_api_Expr))) tree_Bodies.l2_k.body := fun f g hfg p => match p with
  | .l2 a_3 a_47 x_48 x_49 => LeO.ite (LeO.bind (LeO.refl _) fun y1 => LeO.bind (LeO.refl _) fun l19 => (hfg _)) (LeO.refl _)
noncomputable def tree_Bodies.l2_k.go (p : tree_Bodies.l2_k.Pt) : Option ((List T_api_Expr)) := fixF (β := fun _ => ((List T_api_Expr))) tree_Bodies.l2_k.body p
noncomputable def tree_Bodies.l2 (a_3 : List T_api_Expr) (a_47 : List T_api_Actor) (x_48 : Int) (x_49 : Int) : Option ((List T_api_Expr)) := tree_Bodies.l2_k.go (.l2 a_3 a_47 x_48 x_49)
theorem tree_Bodies.l2_eq (a_3 : List T_api_Expr) (a_47 : List T_api_Actor) (x_48 : Int) (x_49 : Int) : tree_Bodies.l2 a_3 a_47 x_48 x_49 = if x_49 < x_48 then (Option.bind (gi a_47 x_49) fun y1 => Option.bind (ap 136 a_3 ([y1.Body] : List T_api_Expr)) fun l19 => (tree_Bodies.l2 l19 a_47 x_48 (IntKind.wrap .i64 (x_49 + (1 : Int))))) else (some (a_3)) := fixF_eq tree_Bodies.l2_k.mono _
def tree_Bodies.l2_k.I : (p : tree_Bodies.l2_k.Pt) → ((List T_api_Expr)) → Prop
  | .l2 a_3 a_47 x_48 x_49, r => ∀ (W : Nat → Prop) (h0 m0 h m : Heap) (A_3 : Option Addr) (n_3 c_3 : Nat) (A_47 : Option Addr) (n_47 c_47 : Nat) (O : Hold W h0 m0 h m [rR (aE T_api_Expr.T) A_3 c_3 a_3]) (ne_3 : n_3 = List.length a_3) (ne_47 : n_47 = List.length a_47) (k_47 : List.length a_47 ≤ c_47) (r_47 : Rd 14 T_api_Actor.E m A_47 a_47), f6.l2 (tree_Bodies.post W h0 m0 r) A_3 n_3 c_3 A_47 n_47 c_47 x_48 x_49 h
set_option maxRecDepth 100000 in
theorem tree_Bodies.l2_k.step_l2 (go : (p : tree_Bodies.l2_k.Pt) → Option ((List T_api_Expr))) (ih : ∀ p r, go p = some r → tree_Bodies.l2_k.I p r) (a_3 : List T_api_Expr) (a_47 : List T_api_Actor) (x_48 : Int) (x_49 : Int) (r : (List T_api_Expr)) (e : tree_Bodies.l2_k.body go (.l2 a_3 a_47 x_48 x_49) = some r) : tree_Bodies.l2_k.I (.l2 a_3 a_47 x_48 x_49) r := by
  unfold tree_Bodies.l2_k.body at e
  intro W h0 m0 h m A_3 n_3 c_3 A_47 n_47 c_47 O ne_3 ne_47 k_47 r_47
  subst ne_3
  subst ne_47
  refine f6.l2_in ?_
  unfold f6.l2T
  refine split_dec_e e (fun c29 e => ?_) (fun c29 e => ?_)
  · obtain ⟨y1, g2, e⟩ := bind_e e
    refine r_47.addr rfl g2 fun a3 cs4 ha5 hc6 he7 => ?_
    refine ⟨_, ldAn O.s hc6 rfl, ?_⟩
    refine O.new fun h8 x9 O10 => ?_
    refine ⟨_, rfl, (T_api_Actor.T.len _ _ _ he7), ?_⟩
    refine O10.stA 1 rfl (T_api_Actor.T.len _ _ _ he7) (T_api_Actor.T.flat _ _ _ he7) fun h12 O13 => ?_
    refine ⟨_, ldAkn (Sub.refl _) (O13.all 1 rfl) 6 8 (le_len (T_api_Actor.T.len _ _ _ he7) (by decide)), ?_⟩
    refine ⟨(List.take 8 (List.drop 6 cs4)), rfl, (T_api_Expr.T.len _ _ _ (T_api_Actor.u6_40 he7)), ?_⟩
    refine O13.new fun h14 x15 O16 => ?_
    have O18 := O16.recell 2 rfl (cs' := (List.take 8 (List.drop 6 cs4)) ++ []) rfl
    obtain ⟨l19, g20, e⟩ := bind_e e
    have O27 := O18.rowE (l := ([y1.Body] : List T_api_Expr)) 2 rfl T_api_Expr.T (show CsE _ _ _ _ _ from (CsE.cons (T_api_Actor.u6_40 he7) (T_api_Expr.T.len _ _ _ (T_api_Actor.u6_40 he7)) CsE.nil)) rfl
    refine O27.app 0 rfl rfl rfl ((O27.os 2 rfl).srcE rfl) (by decide) g20 fun A21 c22 h23 O24 => ?_
    refine ⟨_, _, _, rfl, ?_⟩
    have O28 := O24.nm
    exact (ih _ _ e) _ _ _ _ _ _ _ _ _ _ _ (O28.pick [0]).nm rfl rfl k_47 r_47
  · cases e
    exact ⟨_, _, _, _, O.pick [0], rfl, rfl⟩
theorem tree_Bodies.l2_k.all {p : tree_Bodies.l2_k.Pt} {r : ((List T_api_Expr))} (e : tree_Bodies.l2_k.go p = some r) : tree_Bodies.l2_k.I p r := fixF_ind (β := fun _ => ((List T_api_Expr))) tree_Bodies.l2_k.mono (I := tree_Bodies.l2_k.I) (fun go ih p r e => match p with
  | .l2 a_3 a_47 x_48 x_49 => tree_Bodies.l2_k.step_l2 go ih a_3 a_47 x_48 x_49 r e
  ) e
theorem tree_Bodies.l2.walk {W : Nat → Prop} {h0 m0 h m : Heap} {A_3 : Option Addr} {n_3 c_3 : Nat} {A_47 : Option Addr} {n_47 c_47 : Nat} {a_3 : List T_api_Expr} {a_47 : List T_api_Actor} {x_48 : Int} {x_49 : Int} (O : Hold W h0 m0 h m [rR (aE T_api_Expr.T) A_3 c_3 a_3]) (ne_3 : n_3 = List.length a_3) (ne_47 : n_47 = List.length a_47) (k_47 : List.length a_47 ≤ c_47) (r_47 : Rd 14 T_api_Actor.E m A_47 a_47) {r : (List T_api_Expr)} (e : tree_Bodies.l2 a_3 a_47 x_48 x_49 = some r) : f6.l2 (tree_Bodies.post W h0 m0 r) A_3 n_3 c_3 A_47 n_47 c_47 x_48 x_49 h := tree_Bodies.l2_k.all (p := .l2 a_3 a_47 x_48 x_49) e W h0 m0 h m A_3 n_3 c_3 A_47 n_47 c_47 O ne_3 ne_47 k_47 r_47
inductive tree_Bodies.l1_k.Pt where
  | l1 (y_1 : T_api_Program) (a_3 : List T_api_Expr) (a_34 : List T_api_Func) (x_35 : Int) (x_36 : Int)
noncomputable def tree_Bodies.l1_k.body (go : (p : tree_Bodies.l1_k.Pt) → Option ((List T_api_Expr))) : (p : tree_Bodies.l1_k.Pt) → Option ((List T_api_Expr))
  | .l1 y_1 a_3 a_34 x_35 x_36 => if x_36 < x_35 then (Option.bind (gi a_34 x_36) fun y1 => Option.bind (ap 136 a_3 ([y1.Body] : List T_api_Expr)) fun l19 => (go (.l1 y_1 l19 a_34 x_35 (IntKind.wrap .i64 (x_36 + (1 : Int)))))) else ((tree_Bodies.l2 a_3 y_1.Actors (((List.length y_1.Actors) : Nat) : Int) (0 : Int)))
theorem tree_Bodies.l1_k.mono : MonoF (β := fun _ => ((List T_api_Expr))) tree_Bodies.l1_k.body := fun f g hfg p => match p with
  | .l1 y_1 a_3 a_34 x_35 x_36 => LeO.ite (LeO.bind (LeO.refl _) fun y1 => LeO.bind (LeO.refl _) fun l19 => (hfg _)) ((LeO.refl _))
noncomputable def tree_Bodies.l1_k.go (p : tree_Bodies.l1_k.Pt) : Option ((List T_api_Expr)) := fixF (β := fun _ => ((List T_api_Expr))) tree_Bodies.l1_k.body p
noncomputable def tree_Bodies.l1 (y_1 : T_api_Program) (a_3 : List T_api_Expr) (a_34 : List T_api_Func) (x_35 : Int) (x_36 : Int) : Option ((List T_api_Expr)) := tree_Bodies.l1_k.go (.l1 y_1 a_3 a_34 x_35 x_36)
theorem tree_Bodies.l1_eq (y_1 : T_api_Program) (a_3 : List T_api_Expr) (a_34 : List T_api_Func) (x_35 : Int) (x_36 : Int) : tree_Bodies.l1 y_1 a_3 a_34 x_35 x_36 = if x_36 < x_35 then (Option.bind (gi a_34 x_36) fun y1 => Option.bind (ap 136 a_3 ([y1.Body] : List T_api_Expr)) fun l19 => (tree_Bodies.l1 y_1 l19 a_34 x_35 (IntKind.wrap .i64 (x_36 + (1 : Int))))) else ((tree_Bodies.l2 a_3 y_1.Actors (((List.length y_1.Actors) : Nat) : Int) (0 : Int))) := fixF_eq tree_Bodies.l1_k.mono _
def tree_Bodies.l1_k.I : (p : tree_Bodies.l1_k.Pt) → ((List T_api_Expr)) → Prop
  | .l1 y_1 a_3 a_34 x_35 x_36, r => ∀ (W : Nat → Prop) (h0 m0 h m : Heap) (bk_1 : Nat) (cs_1 : List Value) (A_3 : Option Addr) (n_3 c_3 : Nat) (A_34 : Option Addr) (n_34 c_34 : Nat) (O : Hold W h0 m0 h m [rV bk_1 29 cs_1, rR (aE T_api_Expr.T) A_3 c_3 a_3]) (e_1 : T_api_Program.E m y_1 cs_1) (ne_3 : n_3 = List.length a_3) (ne_34 : n_34 = List.length a_34) (k_34 : List.length a_34 ≤ c_34) (r_34 : Rd 15 T_api_Func.E m A_34 a_34), f6.l1 (tree_Bodies.post W h0 m0 r) (⟨bk_1, 0, none⟩ : Addr) A_3 n_3 c_3 A_34 n_34 c_34 x_35 x_36 h
set_option maxRecDepth 100000 in
theorem tree_Bodies.l1_k.step_l1 (go : (p : tree_Bodies.l1_k.Pt) → Option ((List T_api_Expr))) (ih : ∀ p r, go p = some r → tree_Bodies.l1_k.I p r) (y_1 : T_api_Program) (a_3 : List T_api_Expr) (a_34 : List T_api_Func) (x_35 : Int) (x_36 : Int) (r : (List T_api_Expr)) (e : tree_Bodies.l1_k.body go (.l1 y_1 a_3 a_34 x_35 x_36) = some r) : tree_Bodies.l1_k.I (.l1 y_1 a_3 a_34 x_35 x_36) r := by
  unfold tree_Bodies.l1_k.body at e
  intro W h0 m0 h m bk_1 cs_1 A_3 n_3 c_3 A_34 n_34 c_34 O e_1 ne_3 ne_34 k_34 r_34
  subst ne_3
  subst ne_34
  refine f6.l1_in ?_
  unfold f6.l1T
  refine split_dec_e e (fun c34 e => ?_) (fun c34 e => ?_)
  · obtain ⟨y1, g2, e⟩ := bind_e e
    refine r_34.addr rfl g2 fun a3 cs4 ha5 hc6 he7 => ?_
    refine ⟨_, ldAn O.s hc6 rfl, ?_⟩
    refine O.new fun h8 x9 O10 => ?_
    refine ⟨_, rfl, (T_api_Func.T.len _ _ _ he7), ?_⟩
    refine O10.stA 2 rfl (T_api_Func.T.len _ _ _ he7) (T_api_Func.T.flat _ _ _ he7) fun h12 O13 => ?_
    refine ⟨_, ldAkn (Sub.refl _) (O13.all 2 rfl) 7 8 (le_len (T_api_Func.T.len _ _ _ he7) (by decide)), ?_⟩
    refine ⟨(List.take 8 (List.drop 7 cs4)), rfl, (T_api_Expr.T.len _ _ _ (T_api_Func.u7_40 he7)), ?_⟩
    refine O13.new fun h14 x15 O16 => ?_
    have O18 := O16.recell 3 rfl (cs' := (List.take 8 (List.drop 7 cs4)) ++ []) rfl
    obtain ⟨l19, g20, e⟩ := bind_e e
    have O27 := O18.rowE (l := ([y1.Body] : List T_api_Expr)) 3 rfl T_api_Expr.T (show CsE _ _ _ _ _ from (CsE.cons (T_api_Func.u7_40 he7) (T_api_Expr.T.len _ _ _ (T_api_Func.u7_40 he7)) CsE.nil)) rfl
    refine O27.app 1 rfl rfl rfl ((O27.os 3 rfl).srcE rfl) (by decide) g20 fun A21 c22 h23 O24 => ?_
    refine ⟨_, _, _, rfl, ?_⟩
    have O28 := O24.nm
    exact (ih _ _ e) _ _ _ _ _ _ _ _ _ _ _ _ _ (O28.pick [0, 1]).nm e_1 rfl rfl k_34 r_34
  · obtain ⟨A29, c30, q31, k32, r33⟩ := T_api_Program.g7 e_1
    refine ⟨_, ldk (k := 7) (Sub.refl _) (O.all 0 rfl) q31, _, _, _, rfl, ?_⟩
    exact tree_Bodies.l2.walk (O.pick [1]).nm rfl rfl k32 r33 e
theorem tree_Bodies.l1_k.all {p : tree_Bodies.l1_k.Pt} {r : ((List T_api_Expr))} (e : tree_Bodies.l1_k.go p = some r) : tree_Bodies.l1_k.I p r := fixF_ind (β := fun _ => ((List T_api_Expr))) tree_Bodies.l1_k.mono (I := tree_Bodies.l1_k.I) (fun go ih p r e => match p with
  | .l1 y_1 a_3 a_34 x_35 x_36 => tree_Bodies.l1_k.step_l1 go ih y_1 a_3 a_34 x_35 x_36 r e
  ) e
theorem tree_Bodies.l1.walk {W : Nat → Prop} {h0 m0 h m : Heap} {bk_1 : Nat} {cs_1 : List Value} {A_3 : Option Addr} {n_3 c_3 : Nat} {A_34 : Option Addr} {n_34 c_34 : Nat} {y_1 : T_api_Program} {a_3 : List T_api_Expr} {a_34 : List T_api_Func} {x_35 : Int} {x_36 : Int} (O : Hold W h0 m0 h m [rV bk_1 29 cs_1, rR (aE T_api_Expr.T) A_3 c_3 a_3]) (e_1 : T_api_Program.E m y_1 cs_1) (ne_3 : n_3 = List.length a_3) (ne_34 : n_34 = List.length a_34) (k_34 : List.length a_34 ≤ c_34) (r_34 : Rd 15 T_api_Func.E m A_34 a_34) {r : (List T_api_Expr)} (e : tree_Bodies.l1 y_1 a_3 a_34 x_35 x_36 = some r) : f6.l1 (tree_Bodies.post W h0 m0 r) (⟨bk_1, 0, none⟩ : Addr) A_3 n_3 c_3 A_34 n_34 c_34 x_35 x_36 h := tree_Bodies.l1_k.all (p := .l1 y_1 a_3 a_34 x_35 x_36) e W h0 m0 h m bk_1 cs_1 A_3 n_3 c_3 A_34 n_34 c_34 O e_1 ne_3 ne_34 k_34 r_34
inductive tree_Bodies.l0_k.Pt where
  | l0 (y_1 : T_api_Program) (a_3 : List T_api_Expr) (a_13 : List T_api_Impl) (x_14 : Int) (x_15 : Int)
  | l3 (y_1 : T_api_Program) (a_3 : List T_api_Expr) (a_13 : List T_api_Impl) (x_14 : Int) (x_15 : Int) (a_20 : List T_api_Func) (x_21 : Int) (x_22 : Int)
noncomputable def tree_Bodies.l0_k.body (go : (p : tree_Bodies.l0_k.Pt) → Option ((List T_api_Expr))) : (p : tree_Bodies.l0_k.Pt) → Option ((List T_api_Expr))
  | .l0 y_1 a_3 a_13 x_14 x_15 => if x_15 < x_14 then (Option.bind (gi a_13 x_15) fun y1 => (go (.l3 y_1 a_3 a_13 x_14 x_15 y1.Funcs (((List.length y1.Funcs) : Nat) : Int) (0 : Int)))) else ((tree_Bodies.l1 y_1 a_3 y_1.Funcs (((List.length y_1.Funcs) : Nat) : Int) (0 : Int)))
  | .l3 y_1 a_3 a_13 x_14 x_15 a_20 x_21 x_22 => if x_22 < x_21 then (Option.bind (gi a_20 x_22) fun y1 => Option.bind (ap 136 a_3 ([y1.Body] : List T_api_Expr)) fun l19 => (go (.l3 y_1 l19 a_13 x_14 x_15 a_20 x_21 (IntKind.wrap .i64 (x_22 + (1 : Int)))))) else ((go (.l0 y_1 a_3 a_13 x_14 (IntKind.wrap .i64 (x_15 + (1 : Int))))))
theorem tree_Bodies.l0_k.mono : MonoF (β := fun _ => ((List T_api_Expr))) tree_Bodies.l0_k.body := fun f g hfg p => match p with
  | .l0 y_1 a_3 a_13 x_14 x_15 => LeO.ite (LeO.bind (LeO.refl _) fun y1 => (hfg _)) ((LeO.refl _))
  | .l3 y_1 a_3 a_13 x_14 x_15 a_20 x_21 x_22 => LeO.ite (LeO.bind (LeO.refl _) fun y1 => LeO.bind (LeO.refl _) fun l19 => (hfg _)) ((hfg _))
noncomputable def tree_Bodies.l0_k.go (p : tree_Bodies.l0_k.Pt) : Option ((List T_api_Expr)) := fixF (β := fun _ => ((List T_api_Expr))) tree_Bodies.l0_k.body p
noncomputable def tree_Bodies.l0 (y_1 : T_api_Program) (a_3 : List T_api_Expr) (a_13 : List T_api_Impl) (x_14 : Int) (x_15 : Int) : Option ((List T_api_Expr)) := tree_Bodies.l0_k.go (.l0 y_1 a_3 a_13 x_14 x_15)
noncomputable def tree_Bodies.l3 (y_1 : T_api_Program) (a_3 : List T_api_Expr) (a_13 : List T_api_Impl) (x_14 : Int) (x_15 : Int) (a_20 : List T_api_Func) (x_21 : Int) (x_22 : Int) : Option ((List T_api_Expr)) := tree_Bodies.l0_k.go (.l3 y_1 a_3 a_13 x_14 x_15 a_20 x_21 x_22)
theorem tree_Bodies.l0_eq (y_1 : T_api_Program) (a_3 : List T_api_Expr) (a_13 : List T_api_Impl) (x_14 : Int) (x_15 : Int) : tree_Bodies.l0 y_1 a_3 a_13 x_14 x_15 = if x_15 < x_14 then (Option.bind (gi a_13 x_15) fun y1 => (tree_Bodies.l3 y_1 a_3 a_13 x_14 x_15 y1.Funcs (((List.length y1.Funcs) : Nat) : Int) (0 : Int))) else ((tree_Bodies.l1 y_1 a_3 y_1.Funcs (((List.length y_1.Funcs) : Nat) : Int) (0 : Int))) := fixF_eq tree_Bodies.l0_k.mono _
theorem tree_Bodies.l3_eq (y_1 : T_api_Program) (a_3 : List T_api_Expr) (a_13 : List T_api_Impl) (x_14 : Int) (x_15 : Int) (a_20 : List T_api_Func) (x_21 : Int) (x_22 : Int) : tree_Bodies.l3 y_1 a_3 a_13 x_14 x_15 a_20 x_21 x_22 = if x_22 < x_21 then (Option.bind (gi a_20 x_22) fun y1 => Option.bind (ap 136 a_3 ([y1.Body] : List T_api_Expr)) fun l19 => (tree_Bodies.l3 y_1 l19 a_13 x_14 x_15 a_20 x_21 (IntKind.wrap .i64 (x_22 + (1 : Int))))) else ((tree_Bodies.l0 y_1 a_3 a_13 x_14 (IntKind.wrap .i64 (x_15 + (1 : Int))))) := fixF_eq tree_Bodies.l0_k.mono _
def tree_Bodies.l0_k.I : (p : tree_Bodies.l0_k.Pt) → ((List T_api_Expr)) → Prop
  | .l0 y_1 a_3 a_13 x_14 x_15, r => ∀ (W : Nat → Prop) (h0 m0 h m : Heap) (bk_1 : Nat) (cs_1 : List Value) (A_3 : Option Addr) (n_3 c_3 : Nat) (A_13 : Option Addr) (n_13 c_13 : Nat) (O : Hold W h0 m0 h m [rV bk_1 29 cs_1, rR (aE T_api_Expr.T) A_3 c_3 a_3]) (e_1 : T_api_Program.E m y_1 cs_1) (ne_3 : n_3 = List.length a_3) (ne_13 : n_13 = List.length a_13) (k_13 : List.length a_13 ≤ c_13) (r_13 : Rd 3 T_api_Impl.E m A_13 a_13), f6.l0 (tree_Bodies.post W h0 m0 r) (⟨bk_1, 0, none⟩ : Addr) A_3 n_3 c_3 A_13 n_13 c_13 x_14 x_15 h
  | .l3 y_1 a_3 a_13 x_14 x_15 a_20 x_21 x_22, r => ∀ (W : Nat → Prop) (h0 m0 h m : Heap) (bk_1 : Nat) (cs_1 : List Value) (A_3 : Option Addr) (n_3 c_3 : Nat) (A_13 : Option Addr) (n_13 c_13 : Nat) (A_20 : Option Addr) (n_20 c_20 : Nat) (O : Hold W h0 m0 h m [rV bk_1 29 cs_1, rR (aE T_api_Expr.T) A_3 c_3 a_3]) (e_1 : T_api_Program.E m y_1 cs_1) (ne_3 : n_3 = List.length a_3) (ne_13 : n_13 = List.length a_13) (k_13 : List.length a_13 ≤ c_13) (r_13 : Rd 3 T_api_Impl.E m A_13 a_13) (ne_20 : n_20 = List.length a_20) (k_20 : List.length a_20 ≤ c_20) (r_20 : Rd 15 T_api_Func.E m A_20 a_20), f6.l3 (tree_Bodies.post W h0 m0 r) (⟨bk_1, 0, none⟩ : Addr) A_3 n_3 c_3 A_13 n_13 c_13 x_14 x_15 A_20 n_20 c_20 x_21 x_22 h
set_option maxRecDepth 100000 in
theorem tree_Bodies.l0_k.step_l0 (go : (p : tree_Bodies.l0_k.Pt) → Option ((List T_api_Expr))) (ih : ∀ p r, go p = some r → tree_Bodies.l0_k.I p r) (y_1 : T_api_Program) (a_3 : List T_api_Expr) (a_13 : List T_api_Impl) (x_14 : Int) (x_15 : Int) (r : (List T_api_Expr)) (e : tree_Bodies.l0_k.body go (.l0 y_1 a_3 a_13 x_14 x_15) = some r) : tree_Bodies.l0_k.I (.l0 y_1 a_3 a_13 x_14 x_15) r := by
  unfold tree_Bodies.l0_k.body at e
  intro W h0 m0 h m bk_1 cs_1 A_3 n_3 c_3 A_13 n_13 c_13 O e_1 ne_3 ne_13 k_13 r_13
  subst ne_3
  subst ne_13
  refine f6.l0_in ?_
  unfold f6.l0T
  refine split_dec_e e (fun c25 e => ?_) (fun c25 e => ?_)
  · obtain ⟨y1, g2, e⟩ := bind_e e
    refine r_13.addr rfl g2 fun a3 cs4 ha5 hc6 he7 => ?_
    refine ⟨_, ldAn O.s hc6 rfl, ?_⟩
    refine O.new fun h8 x9 O10 => ?_
    refine ⟨_, rfl, (T_api_Impl.T.len _ _ _ he7), ?_⟩
    refine O10.stA 2 rfl (T_api_Impl.T.len _ _ _ he7) (T_api_Impl.T.flat _ _ _ he7) fun h12 O13 => ?_
    obtain ⟨A14, c15, q16, k17, r18⟩ := T_api_Impl.g2 he7
    refine ⟨_, ldk (k := 2) (Sub.refl _) (O13.all 2 rfl) q16, _, _, _, rfl, ?_⟩
    have O19 := O13.nm
    exact (ih _ _ e) _ _ _ _ _ _ _ _ _ _ _ _ _ _ _ _ (O19.pick [0, 1]).nm e_1 rfl rfl k_13 r_13 rfl k17 r18
  · obtain ⟨A20, c21, q22, k23, r24⟩ := T_api_Program.g6 e_1
    refine ⟨_, ldk (k := 6) (Sub.refl _) (O.all 0 rfl) q22, _, _, _, rfl, ?_⟩
    exact tree_Bodies.l1.walk (O.pick [0, 1]).nm e_1 rfl rfl k23 r24 e
set_option maxRecDepth 100000 in
theorem tree_Bodies.l0_k.step_l3 (go : (p : tree_Bodies.l0_k.Pt) → Option ((List T_api_Expr))) (ih : ∀ p r, go p = some r → tree_Bodies.l0_k.I p r) (y_1 : T_api_Program) (a_3 : List T_api_Expr) (a_13 : List T_api_Impl) (x_14 : Int) (x_15 : Int) (a_20 : List T_api_Func) (x_21 : Int) (x_22 : Int) (r : (List T_api_Expr)) (e : tree_Bodies.l0_k.body go (.l3 y_1 a_3 a_13 x_14 x_15 a_20 x_21 x_22) = some r) : tree_Bodies.l0_k.I (.l3 y_1 a_3 a_13 x_14 x_15 a_20 x_21 x_22) r := by
  unfold tree_Bodies.l0_k.body at e
  intro W h0 m0 h m bk_1 cs_1 A_3 n_3 c_3 A_13 n_13 c_13 A_20 n_20 c_20 O e_1 ne_3 ne_13 k_13 r_13 ne_20 k_20 r_20
  subst ne_3
  subst ne_13
  subst ne_20
  refine f6.l3_in ?_
  unfold f6.l3T
  refine split_dec_e e (fun c29 e => ?_) (fun c29 e => ?_)
  · obtain ⟨y1, g2, e⟩ := bind_e e
    refine r_20.addr rfl g2 fun a3 cs4 ha5 hc6 he7 => ?_
    refine ⟨_, ldAn O.s hc6 rfl, ?_⟩
    refine O.new fun h8 x9 O10 => ?_
    refine ⟨_, rfl, (T_api_Func.T.len _ _ _ he7), ?_⟩
    refine O10.stA 2 rfl (T_api_Func.T.len _ _ _ he7) (T_api_Func.T.flat _ _ _ he7) fun h12 O13 => ?_
    refine ⟨_, ldAkn (Sub.refl _) (O13.all 2 rfl) 7 8 (le_len (T_api_Func.T.len _ _ _ he7) (by decide)), ?_⟩
    refine ⟨(List.take 8 (List.drop 7 cs4)), rfl, (T_api_Expr.T.len _ _ _ (T_api_Func.u7_40 he7)), ?_⟩
    refine O13.new fun h14 x15 O16 => ?_
    have O18 := O16.recell 3 rfl (cs' := (List.take 8 (List.drop 7 cs4)) ++ []) rfl
    obtain ⟨l19, g20, e⟩ := bind_e e
    have O27 := O18.rowE (l := ([y1.Body] : List T_api_Expr)) 3 rfl T_api_Expr.T (show CsE _ _ _ _ _ from (CsE.cons (T_api_Func.u7_40 he7) (T_api_Expr.T.len _ _ _ (T_api_Func.u7_40 he7)) CsE.nil)) rfl
    refine O27.app 1 rfl rfl rfl ((O27.os 3 rfl).srcE rfl) (by decide) g20 fun A21 c22 h23 O24 => ?_
    refine ⟨_, _, _, rfl, ?_⟩
    have O28 := O24.nm
    exact (ih _ _ e) _ _ _ _ _ _ _ _ _ _ _ _ _ _ _ _ (O28.pick [0, 1]).nm e_1 rfl rfl k_13 r_13 rfl k_20 r_20
  · exact (ih _ _ e) _ _ _ _ _ _ _ _ _ _ _ _ _ (O.pick [0, 1]).nm e_1 rfl rfl k_13 r_13
theorem tree_Bodies.l0_k.all {p : tree_Bodies.l0_k.Pt} {r : ((List T_api_Expr))} (e : tree_Bodies.l0_k.go p = some r) : tree_Bodies.l0_k.I p r := fixF_ind (β := fun _ => ((List T_api_Expr))) tree_Bodies.l0_k.mono (I := tree_Bodies.l0_k.I) (fun go ih p r e => match p with
  | .l0 y_1 a_3 a_13 x_14 x_15 => tree_Bodies.l0_k.step_l0 go ih y_1 a_3 a_13 x_14 x_15 r e
  | .l3 y_1 a_3 a_13 x_14 x_15 a_20 x_21 x_22 => tree_Bodies.l0_k.step_l3 go ih y_1 a_3 a_13 x_14 x_15 a_20 x_21 x_22 r e
  ) e
theorem tree_Bodies.l0.walk {W : Nat → Prop} {h0 m0 h m : Heap} {bk_1 : Nat} {cs_1 : List Value} {A_3 : Option Addr} {n_3 c_3 : Nat} {A_13 : Option Addr} {n_13 c_13 : Nat} {y_1 : T_api_Program} {a_3 : List T_api_Expr} {a_13 : List T_api_Impl} {x_14 : Int} {x_15 : Int} (O : Hold W h0 m0 h m [rV bk_1 29 cs_1, rR (aE T_api_Expr.T) A_3 c_3 a_3]) (e_1 : T_api_Program.E m y_1 cs_1) (ne_3 : n_3 = List.length a_3) (ne_13 : n_13 = List.length a_13) (k_13 : List.length a_13 ≤ c_13) (r_13 : Rd 3 T_api_Impl.E m A_13 a_13) {r : (List T_api_Expr)} (e : tree_Bodies.l0 y_1 a_3 a_13 x_14 x_15 = some r) : f6.l0 (tree_Bodies.post W h0 m0 r) (⟨bk_1, 0, none⟩ : Addr) A_3 n_3 c_3 A_13 n_13 c_13 x_14 x_15 h := tree_Bodies.l0_k.all (p := .l0 y_1 a_3 a_13 x_14 x_15) e W h0 m0 h m bk_1 cs_1 A_3 n_3 c_3 A_13 n_13 c_13 O e_1 ne_3 ne_13 k_13 r_13
noncomputable def tree_Bodies (y_0 : T_api_Program) : Option ((List T_api_Expr)) :=
  (tree_Bodies.l0 y_0 ([] : List T_api_Expr) y_0.Impls (((List.length y_0.Impls) : Nat) : Int) (0 : Int))
set_option maxRecDepth 100000 in
theorem tree_Bodies.walk {W : Nat → Prop} {h m : Heap} {cs_0 : List Value} {y_0 : T_api_Program} (O : Hold W h m h m []) (e_0 : T_api_Program.E m y_0 cs_0) {r : (List T_api_Expr)} (e : tree_Bodies y_0 = some r) : Run Tryd.prog 6 #[Value.agg cs_0.toArray] h (tree_Bodies.post W h m r) := by
  unfold tree_Bodies at e
  refine f6.run ?_
  unfold f6.runT
  refine O.new fun h1 x2 O3 => ?_
  obtain ⟨A5, c6, q7, k8, r9⟩ := T_api_Program.g5 e_0
  refine ⟨_, ldk (k := 5) (Sub.refl _) (O3.all 0 rfl) q7, _, _, _, rfl, ?_⟩
  have O10 := O3.nil (aE T_api_Expr.T) none
  have O12 := O10.nm
  exact tree_Bodies.l0.walk (O12.pick [0, 1]).nm e_0 rfl rfl k8 r9 e
def slices_Equal_30.post (W : Nat → Prop) (h0 m0 : Heap) (r : Bool) (v : Value) (h : Heap) : Prop := ∃ m , Hold W h0 m0 h m [] ∧ v = .bool r
inductive slices_Equal_30.l0_k.Pt where
  | l0 (a_0 : List T_api_Use) (a_1 : List T_api_Use) (x_12 : Int) (x_13 : Int)
noncomputable def slices_Equal_30.l0_k.body (go : (p : slices_Equal_30.l0_k.Pt) → Option (Bool)) : (p : slices_Equal_30.l0_k.Pt) → Option (Bool)
  | .l0 a_0 a_1 x_12 x_13 => if x_13 < x_12 then (Option.bind (gi a_0 x_13) fun y1 => Option.bind (gi a_1 x_13) fun y8 => if ((y1.Name == y8.Name) && ((y1.Low == y8.Low) && ((y1.High == y8.High) && true))) = true then ((go (.l0 a_0 a_1 x_12 (IntKind.wrap .i64 (x_13 + (1 : Int)))))) else (some (false))) else (some (true))
theorem slices_Equal_30.l0_k.mono : MonoF (β := fun _ => (Bool)) slices_Equal_30.l0_k.body := fun f g hfg p => match p with
  | .l0 a_0 a_1 x_12 x_13 => LeO.ite (LeO.bind (LeO.refl _) fun y1 => LeO.bind (LeO.refl _) fun y8 => LeO.ite ((hfg _)) (LeO.refl _)) (LeO.refl _)
noncomputable def slices_Equal_30.l0_k.go (p : slices_Equal_30.l0_k.Pt) : Option (Bool) := fixF (β := fun _ => (Bool)) slices_Equal_30.l0_k.body p
noncomputable def slices_Equal_30.l0 (a_0 : List T_api_Use) (a_1 : List T_api_Use) (x_12 : Int) (x_13 : Int) : Option (Bool) := slices_Equal_30.l0_k.go (.l0 a_0 a_1 x_12 x_13)
theorem slices_Equal_30.l0_eq (a_0 : List T_api_Use) (a_1 : List T_api_Use) (x_12 : Int) (x_13 : Int) : slices_Equal_30.l0 a_0 a_1 x_12 x_13 = if x_13 < x_12 then (Option.bind (gi a_0 x_13) fun y1 => Option.bind (gi a_1 x_13) fun y8 => if ((y1.Name == y8.Name) && ((y1.Low == y8.Low) && ((y1.High == y8.High) && true))) = true then ((slices_Equal_30.l0 a_0 a_1 x_12 (IntKind.wrap .i64 (x_13 + (1 : Int))))) else (some (false))) else (some (true)) := fixF_eq slices_Equal_30.l0_k.mono _
def slices_Equal_30.l0_k.I : (p : slices_Equal_30.l0_k.Pt) → (Bool) → Prop
  | .l0 a_0 a_1 x_12 x_13, r => ∀ (W : Nat → Prop) (h0 m0 h m : Heap) (A_0 : Option Addr) (n_0 c_0 : Nat) (A_1 : Option Addr) (n_1 c_1 : Nat) (O : Hold W h0 m0 h m []) (ne_0 : n_0 = List.length a_0) (k_0 : List.length a_0 ≤ c_0) (r_0 : Rd 3 T_api_Use.E m A_0 a_0) (ne_1 : n_1 = List.length a_1) (k_1 : List.length a_1 ≤ c_1) (r_1 : Rd 3 T_api_Use.E m A_1 a_1), f30.l0 (slices_Equal_30.post W h0 m0 r) A_0 n_0 c_0 A_1 n_1 c_1 x_12 x_13 h
set_option maxRecDepth 100000 in
theorem slices_Equal_30.l0_k.step_l0 (go : (p : slices_Equal_30.l0_k.Pt) → Option (Bool)) (ih : ∀ p r, go p = some r → slices_Equal_30.l0_k.I p r) (a_0 : List T_api_Use) (a_1 : List T_api_Use) (x_12 : Int) (x_13 : Int) (r : Bool) (e : slices_Equal_30.l0_k.body go (.l0 a_0 a_1 x_12 x_13) = some r) : slices_Equal_30.l0_k.I (.l0 a_0 a_1 x_12 x_13) r := by
  unfold slices_Equal_30.l0_k.body at e
  intro W h0 m0 h m A_0 n_0 c_0 A_1 n_1 c_1 O ne_0 k_0 r_0 ne_1 k_1 r_1
  subst ne_0
  subst ne_1
  refine f30.l0_in ?_
  unfold f30.l0T
  refine split_dec_e e (fun c18 e => ?_) (fun c18 e => ?_)
  · obtain ⟨y1, g2, e⟩ := bind_e e
    refine r_0.addr rfl g2 fun a3 cs4 ha5 hc6 he7 => ?_
    obtain ⟨y8, g9, e⟩ := bind_e e
    refine r_1.addr rfl g9 fun a10 cs11 ha12 hc13 he14 => ?_
    refine ⟨_, ldAn O.s hc6 rfl, ?_⟩
    refine ⟨_, ldAn O.s hc13 rfl, ?_⟩
    obtain rfl : cs4 = [(Value.string y1.Name), (Value.int .i64 y1.Low), (Value.int .i64 y1.High)] := he7
    obtain rfl : cs11 = [(Value.string y8.Name), (Value.int .i64 y8.Low), (Value.int .i64 y8.High)] := he14
    refine gen_neq (b := ((y1.Name == y8.Name) && ((y1.Low == y8.Low) && ((y1.High == y8.High) && true)))) (by kernel_rfl) ?_
    refine ⟨_, rfl, ?_⟩
    refine split_not ?_
    refine split_any_e e (fun c17 e => ?_) (fun c17 e => ?_)
    · exact (ih _ _ e) _ _ _ _ _ _ _ _ _ _ _ (O.pick []).nm rfl k_0 r_0 rfl k_1 r_1
    · cases e
      exact ⟨_, O.pick [], rfl⟩
  · cases e
    exact ⟨_, O.pick [], rfl⟩
theorem slices_Equal_30.l0_k.all {p : slices_Equal_30.l0_k.Pt} {r : (Bool)} (e : slices_Equal_30.l0_k.go p = some r) : slices_Equal_30.l0_k.I p r := fixF_ind (β := fun _ => (Bool)) slices_Equal_30.l0_k.mono (I := slices_Equal_30.l0_k.I) (fun go ih p r e => match p with
  | .l0 a_0 a_1 x_12 x_13 => slices_Equal_30.l0_k.step_l0 go ih a_0 a_1 x_12 x_13 r e
  ) e
theorem slices_Equal_30.l0.walk {W : Nat → Prop} {h0 m0 h m : Heap} {A_0 : Option Addr} {n_0 c_0 : Nat} {A_1 : Option Addr} {n_1 c_1 : Nat} {a_0 : List T_api_Use} {a_1 : List T_api_Use} {x_12 : Int} {x_13 : Int} (O : Hold W h0 m0 h m []) (ne_0 : n_0 = List.length a_0) (k_0 : List.length a_0 ≤ c_0) (r_0 : Rd 3 T_api_Use.E m A_0 a_0) (ne_1 : n_1 = List.length a_1) (k_1 : List.length a_1 ≤ c_1) (r_1 : Rd 3 T_api_Use.E m A_1 a_1) {r : Bool} (e : slices_Equal_30.l0 a_0 a_1 x_12 x_13 = some r) : f30.l0 (slices_Equal_30.post W h0 m0 r) A_0 n_0 c_0 A_1 n_1 c_1 x_12 x_13 h := slices_Equal_30.l0_k.all (p := .l0 a_0 a_1 x_12 x_13) e W h0 m0 h m A_0 n_0 c_0 A_1 n_1 c_1 O ne_0 k_0 r_0 ne_1 k_1 r_1
noncomputable def slices_Equal_30 (a_0 : List T_api_Use) (a_1 : List T_api_Use) : Option (Bool) :=
  if (((List.length a_0) : Nat) : Int) = (((List.length a_1) : Nat) : Int) then ((slices_Equal_30.l0 a_0 a_1 (((List.length a_0) : Nat) : Int) (0 : Int))) else (some (false))
set_option maxRecDepth 100000 in
theorem slices_Equal_30.walk {W : Nat → Prop} {h m : Heap} {A_0 : Option Addr} {n_0 c_0 : Nat} {A_1 : Option Addr} {n_1 c_1 : Nat} {a_0 : List T_api_Use} {a_1 : List T_api_Use} (O : Hold W h m h m []) (ne_0 : n_0 = List.length a_0) (k_0 : List.length a_0 ≤ c_0) (r_0 : Rd 3 T_api_Use.E m A_0 a_0) (ne_1 : n_1 = List.length a_1) (k_1 : List.length a_1 ≤ c_1) (r_1 : Rd 3 T_api_Use.E m A_1 a_1) {r : Bool} (e : slices_Equal_30 a_0 a_1 = some r) : Run Tryd.prog 30 #[Value.slice A_0 n_0 c_0, Value.slice A_1 n_1 c_1] h (slices_Equal_30.post W h m r) := by
  unfold slices_Equal_30 at e
  subst ne_0
  subst ne_1
  refine f30.run ?_
  unfold f30.runT
  refine split_ne_e e (fun c1 e => ?_) (fun c1 e => ?_)
  · cases e
    exact ⟨_, O.pick [], rfl⟩
  · exact slices_Equal_30.l0.walk (O.pick []).nm rfl k_0 r_0 rfl k_1 r_1 e
def slices_EqualFunc_31.post (W : Nat → Prop) (h0 m0 : Heap) (r : Bool) (v : Value) (h : Heap) : Prop := ∃ m , Hold W h0 m0 h m [] ∧ v = .bool r
inductive slices_EqualFunc_31.l0_k.Pt where
  | l0 (a_1 : List T_api_Data) (p_2 : T_api_Data → T_api_Data → Option Bool) (a_15 : List T_api_Data) (x_16 : Int) (x_17 : Int)
noncomputable def slices_EqualFunc_31.l0_k.body (go : (p : slices_EqualFunc_31.l0_k.Pt) → Option (Bool)) : (p : slices_EqualFunc_31.l0_k.Pt) → Option (Bool)
  | .l0 a_1 p_2 a_15 x_16 x_17 => if x_17 < x_16 then (Option.bind (gi a_15 x_17) fun y1 => Option.bind (gi a_1 x_17) fun y14 => Option.bind (p_2 y1 y14) fun y27 => if y27 = true then ((go (.l0 a_1 p_2 a_15 x_16 (IntKind.wrap .i64 (x_17 + (1 : Int)))))) else (some (false))) else (some (true))
theorem slices_EqualFunc_31.l0_k.mono : MonoF (β := fun _ => (Bool)) slices_EqualFunc_31.l0_k.body := fun f g hfg p => match p with
  | .l0 a_1 p_2 a_15 x_16 x_17 => LeO.ite (LeO.bind (LeO.refl _) fun y1 => LeO.bind (LeO.refl _) fun y14 => LeO.bind (LeO.refl _) fun y27 => LeO.ite ((hfg _)) (LeO.refl _)) (LeO.refl _)
noncomputable def slices_EqualFunc_31.l0_k.go (p : slices_EqualFunc_31.l0_k.Pt) : Option (Bool) := fixF (β := fun _ => (Bool)) slices_EqualFunc_31.l0_k.body p
noncomputable def slices_EqualFunc_31.l0 (a_1 : List T_api_Data) (p_2 : T_api_Data → T_api_Data → Option Bool) (a_15 : List T_api_Data) (x_16 : Int) (x_17 : Int) : Option (Bool) := slices_EqualFunc_31.l0_k.go (.l0 a_1 p_2 a_15 x_16 x_17)
theorem slices_EqualFunc_31.l0_eq (a_1 : List T_api_Data) (p_2 : T_api_Data → T_api_Data → Option Bool) (a_15 : List T_api_Data) (x_16 : Int) (x_17 : Int) : slices_EqualFunc_31.l0 a_1 p_2 a_15 x_16 x_17 = if x_17 < x_16 then (Option.bind (gi a_15 x_17) fun y1 => Option.bind (gi a_1 x_17) fun y14 => Option.bind (p_2 y1 y14) fun y27 => if y27 = true then ((slices_EqualFunc_31.l0 a_1 p_2 a_15 x_16 (IntKind.wrap .i64 (x_17 + (1 : Int))))) else (some (false))) else (some (true)) := fixF_eq slices_EqualFunc_31.l0_k.mono _
def slices_EqualFunc_31.l0_k.I : (p : slices_EqualFunc_31.l0_k.Pt) → (Bool) → Prop
  | .l0 a_1 p_2 a_15 x_16 x_17, r => ∀ (W : Nat → Prop) (h0 m0 h m : Heap) (A_1 : Option Addr) (n_1 c_1 : Nat) (fv_2 : Value) (A_15 : Option Addr) (n_15 c_15 : Nat) (O : Hold W h0 m0 h m []) (ne_1 : n_1 = List.length a_1) (k_1 : List.length a_1 ≤ c_1) (r_1 : Rd 3 T_api_Data.E m A_1 a_1) (f_2 : ∀ h' m', Sub m0 m' → Sub m' h' → ∀ (y0 : T_api_Data) (cs0 : List Value) (_ : T_api_Data.E m' y0 cs0) (y1 : T_api_Data) (cs1 : List Value) (_ : T_api_Data.E m' y1 cs1) (r : Bool), p_2 y0 y1 = some r → CallF Tryd.prog fv_2 [.agg cs0.toArray, .agg cs1.toArray] h' (fun v h'' => v = .bool r ∧ Ext h' h'')) (ne_15 : n_15 = List.length a_15) (k_15 : List.length a_15 ≤ c_15) (r_15 : Rd 3 T_api_Data.E m A_15 a_15), f31.l0 (slices_EqualFunc_31.post W h0 m0 r) A_1 n_1 c_1 fv_2 A_15 n_15 c_15 x_16 x_17 h
set_option maxRecDepth 100000 in
theorem slices_EqualFunc_31.l0_k.step_l0 (go : (p : slices_EqualFunc_31.l0_k.Pt) → Option (Bool)) (ih : ∀ p r, go p = some r → slices_EqualFunc_31.l0_k.I p r) (a_1 : List T_api_Data) (p_2 : T_api_Data → T_api_Data → Option Bool) (a_15 : List T_api_Data) (x_16 : Int) (x_17 : Int) (r : Bool) (e : slices_EqualFunc_31.l0_k.body go (.l0 a_1 p_2 a_15 x_16 x_17) = some r) : slices_EqualFunc_31.l0_k.I (.l0 a_1 p_2 a_15 x_16 x_17) r := by
  unfold slices_EqualFunc_31.l0_k.body at e
  intro W h0 m0 h m A_1 n_1 c_1 fv_2 A_15 n_15 c_15 O ne_1 k_1 r_1 f_2 ne_15 k_15 r_15
  subst ne_1
  subst ne_15
  refine f31.l0_in ?_
  unfold f31.l0T
  refine split_dec_e e (fun c35 e => ?_) (fun c35 e => ?_)
  · obtain ⟨y1, g2, e⟩ := bind_e e
    refine r_15.addr rfl g2 fun a3 cs4 ha5 hc6 he7 => ?_
    refine ⟨_, ldAn O.s hc6 rfl, ?_⟩
    refine O.new fun h8 x9 O10 => ?_
    refine ⟨_, rfl, (T_api_Data.T.len _ _ _ he7), ?_⟩
    refine O10.stA 0 rfl (T_api_Data.T.len _ _ _ he7) (T_api_Data.T.flat _ _ _ he7) fun h12 O13 => ?_
    obtain ⟨y14, g15, e⟩ := bind_e e
    refine r_1.addr rfl g15 fun a16 cs17 ha18 hc19 he20 => ?_
    refine ⟨_, ldAn O13.s hc19 rfl, ?_⟩
    refine O13.new fun h21 x22 O23 => ?_
    refine ⟨_, rfl, (T_api_Data.T.len _ _ _ he20), ?_⟩
    refine O23.stA 1 rfl (T_api_Data.T.len _ _ _ he20) (T_api_Data.T.flat _ _ _ he20) fun h25 O26 => ?_
    refine ⟨_, ldAn (Sub.refl _) (O26.all 0 rfl) (T_api_Data.T.len _ _ _ he7), ?_⟩
    refine ⟨_, ldAn (Sub.refl _) (O26.all 1 rfl) (T_api_Data.T.len _ _ _ he20), ?_⟩
    obtain ⟨y27, g28, e⟩ := bind_e e
    refine CallF.mono (f_2 _ _ O.up O26.s _ _ he7 _ _ he20 _ g28) ?_
    rintro _ h29 ⟨rfl, x30⟩
    have O31 := O26.ext x30
    refine ⟨_, rfl, ?_⟩
    refine split_not ?_
    refine split_any_e e (fun c34 e => ?_) (fun c34 e => ?_)
    · have O32 := O31.nm
      exact (ih _ _ e) _ _ _ _ _ _ _ _ _ _ _ _ (O32.pick []).nm rfl k_1 r_1 f_2 rfl k_15 r_15
    · have O33 := O31.nm
      cases e
      exact ⟨_, O33.pick [], rfl⟩
  · cases e
    exact ⟨_, O.pick [], rfl⟩
theorem slices_EqualFunc_31.l0_k.all {p : slices_EqualFunc_31.l0_k.Pt} {r : (Bool)} (e : slices_EqualFunc_31.l0_k.go p = some r) : slices_EqualFunc_31.l0_k.I p r := fixF_ind (β := fun _ => (Bool)) slices_EqualFunc_31.l0_k.mono (I := slices_EqualFunc_31.l0_k.I) (fun go ih p r e => match p with
  | .l0 a_1 p_2 a_15 x_16 x_17 => slices_EqualFunc_31.l0_k.step_l0 go ih a_1 p_2 a_15 x_16 x_17 r e
  ) e
theorem slices_EqualFunc_31.l0.walk {W : Nat → Prop} {h0 m0 h m : Heap} {A_1 : Option Addr} {n_1 c_1 : Nat} {fv_2 : Value} {A_15 : Option Addr} {n_15 c_15 : Nat} {a_1 : List T_api_Data} {p_2 : T_api_Data → T_api_Data → Option Bool} {a_15 : List T_api_Data} {x_16 : Int} {x_17 : Int} (O : Hold W h0 m0 h m []) (ne_1 : n_1 = List.length a_1) (k_1 : List.length a_1 ≤ c_1) (r_1 : Rd 3 T_api_Data.E m A_1 a_1) (f_2 : ∀ h' m', Sub m0 m' → Sub m' h' → ∀ (y0 : T_api_Data) (cs0 : List Value) (_ : T_api_Data.E m' y0 cs0) (y1 : T_api_Data) (cs1 : List Value) (_ : T_api_Data.E m' y1 cs1) (r : Bool), p_2 y0 y1 = some r → CallF Tryd.prog fv_2 [.agg cs0.toArray, .agg cs1.toArray] h' (fun v h'' => v = .bool r ∧ Ext h' h'')) (ne_15 : n_15 = List.length a_15) (k_15 : List.length a_15 ≤ c_15) (r_15 : Rd 3 T_api_Data.E m A_15 a_15) {r : Bool} (e : slices_EqualFunc_31.l0 a_1 p_2 a_15 x_16 x_17 = some r) : f31.l0 (slices_EqualFunc_31.post W h0 m0 r) A_1 n_1 c_1 fv_2 A_15 n_15 c_15 x_16 x_17 h := slices_EqualFunc_31.l0_k.all (p := .l0 a_1 p_2 a_15 x_16 x_17) e W h0 m0 h m A_1 n_1 c_1 fv_2 A_15 n_15 c_15 O ne_1 k_1 r_1 f_2 ne_15 k_15 r_15
noncomputable def slices_EqualFunc_31 (a_0 : List T_api_Data) (a_1 : List T_api_Data) (p_2 : T_api_Data → T_api_Data → Option Bool) : Option (Bool) :=
  if (((List.length a_0) : Nat) : Int) = (((List.length a_1) : Nat) : Int) then ((slices_EqualFunc_31.l0 a_1 p_2 a_0 (((List.length a_0) : Nat) : Int) (0 : Int))) else (some (false))
set_option maxRecDepth 100000 in
theorem slices_EqualFunc_31.walk {W : Nat → Prop} {h m : Heap} {A_0 : Option Addr} {n_0 c_0 : Nat} {A_1 : Option Addr} {n_1 c_1 : Nat} {fv_2 : Value} {a_0 : List T_api_Data} {a_1 : List T_api_Data} {p_2 : T_api_Data → T_api_Data → Option Bool} (O : Hold W h m h m []) (ne_0 : n_0 = List.length a_0) (k_0 : List.length a_0 ≤ c_0) (r_0 : Rd 3 T_api_Data.E m A_0 a_0) (ne_1 : n_1 = List.length a_1) (k_1 : List.length a_1 ≤ c_1) (r_1 : Rd 3 T_api_Data.E m A_1 a_1) (f_2 : ∀ h' m', Sub m m' → Sub m' h' → ∀ (y0 : T_api_Data) (cs0 : List Value) (_ : T_api_Data.E m' y0 cs0) (y1 : T_api_Data) (cs1 : List Value) (_ : T_api_Data.E m' y1 cs1) (r : Bool), p_2 y0 y1 = some r → CallF Tryd.prog fv_2 [.agg cs0.toArray, .agg cs1.toArray] h' (fun v h'' => v = .bool r ∧ Ext h' h'')) {r : Bool} (e : slices_EqualFunc_31 a_0 a_1 p_2 = some r) : Run Tryd.prog 31 #[Value.slice A_0 n_0 c_0, Value.slice A_1 n_1 c_1, fv_2] h (slices_EqualFunc_31.post W h m r) := by
  unfold slices_EqualFunc_31 at e
  subst ne_0
  subst ne_1
  refine f31.run ?_
  unfold f31.runT
  refine split_ne_e e (fun c1 e => ?_) (fun c1 e => ?_)
  · cases e
    exact ⟨_, O.pick [], rfl⟩
  · exact slices_EqualFunc_31.l0.walk (O.pick []).nm rfl k_1 r_1 f_2 rfl k_0 r_0 e
def slices_Equal_20.post (W : Nat → Prop) (h0 m0 : Heap) (r : Bool) (v : Value) (h : Heap) : Prop := ∃ m , Hold W h0 m0 h m [] ∧ v = .bool r
inductive slices_Equal_20.l0_k.Pt where
  | l0 (a_0 : List ByteArray) (a_1 : List ByteArray) (x_12 : Int) (x_13 : Int)
noncomputable def slices_Equal_20.l0_k.body (go : (p : slices_Equal_20.l0_k.Pt) → Option (Bool)) : (p : slices_Equal_20.l0_k.Pt) → Option (Bool)
  | .l0 a_0 a_1 x_12 x_13 => if x_13 < x_12 then (Option.bind (gi a_0 x_13) fun y1 => Option.bind (gi a_1 x_13) fun y8 => if y1 = y8 then ((go (.l0 a_0 a_1 x_12 (IntKind.wrap .i64 (x_13 + (1 : Int)))))) else (some (false))) else (some (true))
theorem slices_Equal_20.l0_k.mono : MonoF (β := fun _ => (Bool)) slices_Equal_20.l0_k.body := fun f g hfg p => match p with
  | .l0 a_0 a_1 x_12 x_13 => LeO.ite (LeO.bind (LeO.refl _) fun y1 => LeO.bind (LeO.refl _) fun y8 => LeO.ite ((hfg _)) (LeO.refl _)) (LeO.refl _)
noncomputable def slices_Equal_20.l0_k.go (p : slices_Equal_20.l0_k.Pt) : Option (Bool) := fixF (β := fun _ => (Bool)) slices_Equal_20.l0_k.body p
noncomputable def slices_Equal_20.l0 (a_0 : List ByteArray) (a_1 : List ByteArray) (x_12 : Int) (x_13 : Int) : Option (Bool) := slices_Equal_20.l0_k.go (.l0 a_0 a_1 x_12 x_13)
theorem slices_Equal_20.l0_eq (a_0 : List ByteArray) (a_1 : List ByteArray) (x_12 : Int) (x_13 : Int) : slices_Equal_20.l0 a_0 a_1 x_12 x_13 = if x_13 < x_12 then (Option.bind (gi a_0 x_13) fun y1 => Option.bind (gi a_1 x_13) fun y8 => if y1 = y8 then ((slices_Equal_20.l0 a_0 a_1 x_12 (IntKind.wrap .i64 (x_13 + (1 : Int))))) else (some (false))) else (some (true)) := fixF_eq slices_Equal_20.l0_k.mono _
def slices_Equal_20.l0_k.I : (p : slices_Equal_20.l0_k.Pt) → (Bool) → Prop
  | .l0 a_0 a_1 x_12 x_13, r => ∀ (W : Nat → Prop) (h0 m0 h m : Heap) (A_0 : Option Addr) (n_0 c_0 : Nat) (A_1 : Option Addr) (n_1 c_1 : Nat) (O : Hold W h0 m0 h m []) (ne_0 : n_0 = List.length a_0) (k_0 : List.length a_0 ≤ c_0) (r_0 : Rd 1 eStr m A_0 a_0) (ne_1 : n_1 = List.length a_1) (k_1 : List.length a_1 ≤ c_1) (r_1 : Rd 1 eStr m A_1 a_1), f20.l0 (slices_Equal_20.post W h0 m0 r) A_0 n_0 c_0 A_1 n_1 c_1 x_12 x_13 h
set_option maxRecDepth 100000 in
theorem slices_Equal_20.l0_k.step_l0 (go : (p : slices_Equal_20.l0_k.Pt) → Option (Bool)) (ih : ∀ p r, go p = some r → slices_Equal_20.l0_k.I p r) (a_0 : List ByteArray) (a_1 : List ByteArray) (x_12 : Int) (x_13 : Int) (r : Bool) (e : slices_Equal_20.l0_k.body go (.l0 a_0 a_1 x_12 x_13) = some r) : slices_Equal_20.l0_k.I (.l0 a_0 a_1 x_12 x_13) r := by
  unfold slices_Equal_20.l0_k.body at e
  intro W h0 m0 h m A_0 n_0 c_0 A_1 n_1 c_1 O ne_0 k_0 r_0 ne_1 k_1 r_1
  subst ne_0
  subst ne_1
  refine f20.l0_in ?_
  unfold f20.l0T
  refine split_dec_e e (fun c16 e => ?_) (fun c16 e => ?_)
  · obtain ⟨y1, g2, e⟩ := bind_e e
    refine r_0.addr rfl g2 fun a3 cs4 ha5 hc6 he7 => ?_
    obtain rfl : cs4 = [(Value.string y1)] := he7
    obtain ⟨y8, g9, e⟩ := bind_e e
    refine r_1.addr rfl g9 fun a10 cs11 ha12 hc13 he14 => ?_
    obtain rfl : cs11 = [(Value.string y8)] := he14
    refine ⟨_, ld0 O.s hc6 rfl, _, rfl, ?_⟩
    refine ⟨_, ld0 O.s hc13 rfl, _, rfl, ?_⟩
    try rw [ba_list y1 y8]
    refine split_not ?_
    refine split_dec_e e (fun c15 e => ?_) (fun c15 e => ?_)
    · exact (ih _ _ e) _ _ _ _ _ _ _ _ _ _ _ (O.pick []).nm rfl k_0 r_0 rfl k_1 r_1
    · cases e
      exact ⟨_, O.pick [], rfl⟩
  · cases e
    exact ⟨_, O.pick [], rfl⟩
theorem slices_Equal_20.l0_k.all {p : slices_Equal_20.l0_k.Pt} {r : (Bool)} (e : slices_Equal_20.l0_k.go p = some r) : slices_Equal_20.l0_k.I p r := fixF_ind (β := fun _ => (Bool)) slices_Equal_20.l0_k.mono (I := slices_Equal_20.l0_k.I) (fun go ih p r e => match p with
  | .l0 a_0 a_1 x_12 x_13 => slices_Equal_20.l0_k.step_l0 go ih a_0 a_1 x_12 x_13 r e
  ) e
theorem slices_Equal_20.l0.walk {W : Nat → Prop} {h0 m0 h m : Heap} {A_0 : Option Addr} {n_0 c_0 : Nat} {A_1 : Option Addr} {n_1 c_1 : Nat} {a_0 : List ByteArray} {a_1 : List ByteArray} {x_12 : Int} {x_13 : Int} (O : Hold W h0 m0 h m []) (ne_0 : n_0 = List.length a_0) (k_0 : List.length a_0 ≤ c_0) (r_0 : Rd 1 eStr m A_0 a_0) (ne_1 : n_1 = List.length a_1) (k_1 : List.length a_1 ≤ c_1) (r_1 : Rd 1 eStr m A_1 a_1) {r : Bool} (e : slices_Equal_20.l0 a_0 a_1 x_12 x_13 = some r) : f20.l0 (slices_Equal_20.post W h0 m0 r) A_0 n_0 c_0 A_1 n_1 c_1 x_12 x_13 h := slices_Equal_20.l0_k.all (p := .l0 a_0 a_1 x_12 x_13) e W h0 m0 h m A_0 n_0 c_0 A_1 n_1 c_1 O ne_0 k_0 r_0 ne_1 k_1 r_1
noncomputable def slices_Equal_20 (a_0 : List ByteArray) (a_1 : List ByteArray) : Option (Bool) :=
  if (((List.length a_0) : Nat) : Int) = (((List.length a_1) : Nat) : Int) then ((slices_Equal_20.l0 a_0 a_1 (((List.length a_0) : Nat) : Int) (0 : Int))) else (some (false))
set_option maxRecDepth 100000 in
theorem slices_Equal_20.walk {W : Nat → Prop} {h m : Heap} {A_0 : Option Addr} {n_0 c_0 : Nat} {A_1 : Option Addr} {n_1 c_1 : Nat} {a_0 : List ByteArray} {a_1 : List ByteArray} (O : Hold W h m h m []) (ne_0 : n_0 = List.length a_0) (k_0 : List.length a_0 ≤ c_0) (r_0 : Rd 1 eStr m A_0 a_0) (ne_1 : n_1 = List.length a_1) (k_1 : List.length a_1 ≤ c_1) (r_1 : Rd 1 eStr m A_1 a_1) {r : Bool} (e : slices_Equal_20 a_0 a_1 = some r) : Run Tryd.prog 20 #[Value.slice A_0 n_0 c_0, Value.slice A_1 n_1 c_1] h (slices_Equal_20.post W h m r) := by
  unfold slices_Equal_20 at e
  subst ne_0
  subst ne_1
  refine f20.run ?_
  unfold f20.runT
  refine split_ne_e e (fun c1 e => ?_) (fun c1 e => ?_)
  · cases e
    exact ⟨_, O.pick [], rfl⟩
  · exact slices_Equal_20.l0.walk (O.pick []).nm rfl k_0 r_0 rfl k_1 r_1 e
def slices_EqualFunc_62.post (W : Nat → Prop) (h0 m0 : Heap) (r : Bool) (v : Value) (h : Heap) : Prop := ∃ m , Hold W h0 m0 h m [] ∧ v = .bool r
inductive slices_EqualFunc_62.l0_k.Pt where
  | l0 (a_1 : List T_api_Make) (p_2 : T_api_Make → T_api_Make → Option Bool) (a_15 : List T_api_Make) (x_16 : Int) (x_17 : Int)
noncomputable def slices_EqualFunc_62.l0_k.body (go : (p : slices_EqualFunc_62.l0_k.Pt) → Option (Bool)) : (p : slices_EqualFunc_62.l0_k.Pt) → Option (Bool)
  | .l0 a_1 p_2 a_15 x_16 x_17 => if x_17 < x_16 then (Option.bind (gi a_15 x_17) fun y1 => Option.bind (gi a_1 x_17) fun y14 => Option.bind (p_2 y1 y14) fun y27 => if y27 = true then ((go (.l0 a_1 p_2 a_15 x_16 (IntKind.wrap .i64 (x_17 + (1 : Int)))))) else (some (false))) else (some (true))
theorem slices_EqualFunc_62.l0_k.mono : MonoF (β := fun _ => (Bool)) slices_EqualFunc_62.l0_k.body := fun f g hfg p => match p with
  | .l0 a_1 p_2 a_15 x_16 x_17 => LeO.ite (LeO.bind (LeO.refl _) fun y1 => LeO.bind (LeO.refl _) fun y14 => LeO.bind (LeO.refl _) fun y27 => LeO.ite ((hfg _)) (LeO.refl _)) (LeO.refl _)
noncomputable def slices_EqualFunc_62.l0_k.go (p : slices_EqualFunc_62.l0_k.Pt) : Option (Bool) := fixF (β := fun _ => (Bool)) slices_EqualFunc_62.l0_k.body p
noncomputable def slices_EqualFunc_62.l0 (a_1 : List T_api_Make) (p_2 : T_api_Make → T_api_Make → Option Bool) (a_15 : List T_api_Make) (x_16 : Int) (x_17 : Int) : Option (Bool) := slices_EqualFunc_62.l0_k.go (.l0 a_1 p_2 a_15 x_16 x_17)
theorem slices_EqualFunc_62.l0_eq (a_1 : List T_api_Make) (p_2 : T_api_Make → T_api_Make → Option Bool) (a_15 : List T_api_Make) (x_16 : Int) (x_17 : Int) : slices_EqualFunc_62.l0 a_1 p_2 a_15 x_16 x_17 = if x_17 < x_16 then (Option.bind (gi a_15 x_17) fun y1 => Option.bind (gi a_1 x_17) fun y14 => Option.bind (p_2 y1 y14) fun y27 => if y27 = true then ((slices_EqualFunc_62.l0 a_1 p_2 a_15 x_16 (IntKind.wrap .i64 (x_17 + (1 : Int))))) else (some (false))) else (some (true)) := fixF_eq slices_EqualFunc_62.l0_k.mono _
def slices_EqualFunc_62.l0_k.I : (p : slices_EqualFunc_62.l0_k.Pt) → (Bool) → Prop
  | .l0 a_1 p_2 a_15 x_16 x_17, r => ∀ (W : Nat → Prop) (h0 m0 h m : Heap) (A_1 : Option Addr) (n_1 c_1 : Nat) (fv_2 : Value) (A_15 : Option Addr) (n_15 c_15 : Nat) (O : Hold W h0 m0 h m []) (ne_1 : n_1 = List.length a_1) (k_1 : List.length a_1 ≤ c_1) (r_1 : Rd 2 T_api_Make.E m A_1 a_1) (f_2 : ∀ h' m', Sub m0 m' → Sub m' h' → ∀ (y0 : T_api_Make) (cs0 : List Value) (_ : T_api_Make.E m' y0 cs0) (y1 : T_api_Make) (cs1 : List Value) (_ : T_api_Make.E m' y1 cs1) (r : Bool), p_2 y0 y1 = some r → CallF Tryd.prog fv_2 [.agg cs0.toArray, .agg cs1.toArray] h' (fun v h'' => v = .bool r ∧ Ext h' h'')) (ne_15 : n_15 = List.length a_15) (k_15 : List.length a_15 ≤ c_15) (r_15 : Rd 2 T_api_Make.E m A_15 a_15), f62.l0 (slices_EqualFunc_62.post W h0 m0 r) A_1 n_1 c_1 fv_2 A_15 n_15 c_15 x_16 x_17 h
set_option maxRecDepth 100000 in
theorem slices_EqualFunc_62.l0_k.step_l0 (go : (p : slices_EqualFunc_62.l0_k.Pt) → Option (Bool)) (ih : ∀ p r, go p = some r → slices_EqualFunc_62.l0_k.I p r) (a_1 : List T_api_Make) (p_2 : T_api_Make → T_api_Make → Option Bool) (a_15 : List T_api_Make) (x_16 : Int) (x_17 : Int) (r : Bool) (e : slices_EqualFunc_62.l0_k.body go (.l0 a_1 p_2 a_15 x_16 x_17) = some r) : slices_EqualFunc_62.l0_k.I (.l0 a_1 p_2 a_15 x_16 x_17) r := by
  unfold slices_EqualFunc_62.l0_k.body at e
  intro W h0 m0 h m A_1 n_1 c_1 fv_2 A_15 n_15 c_15 O ne_1 k_1 r_1 f_2 ne_15 k_15 r_15
  subst ne_1
  subst ne_15
  refine f62.l0_in ?_
  unfold f62.l0T
  refine split_dec_e e (fun c35 e => ?_) (fun c35 e => ?_)
  · obtain ⟨y1, g2, e⟩ := bind_e e
    refine r_15.addr rfl g2 fun a3 cs4 ha5 hc6 he7 => ?_
    refine ⟨_, ldAn O.s hc6 rfl, ?_⟩
    refine O.new fun h8 x9 O10 => ?_
    refine ⟨_, rfl, (T_api_Make.T.len _ _ _ he7), ?_⟩
    refine O10.stA 0 rfl (T_api_Make.T.len _ _ _ he7) (T_api_Make.T.flat _ _ _ he7) fun h12 O13 => ?_
    obtain ⟨y14, g15, e⟩ := bind_e e
    refine r_1.addr rfl g15 fun a16 cs17 ha18 hc19 he20 => ?_
    refine ⟨_, ldAn O13.s hc19 rfl, ?_⟩
    refine O13.new fun h21 x22 O23 => ?_
    refine ⟨_, rfl, (T_api_Make.T.len _ _ _ he20), ?_⟩
    refine O23.stA 1 rfl (T_api_Make.T.len _ _ _ he20) (T_api_Make.T.flat _ _ _ he20) fun h25 O26 => ?_
    refine ⟨_, ldAn (Sub.refl _) (O26.all 0 rfl) (T_api_Make.T.len _ _ _ he7), ?_⟩
    refine ⟨_, ldAn (Sub.refl _) (O26.all 1 rfl) (T_api_Make.T.len _ _ _ he20), ?_⟩
    obtain ⟨y27, g28, e⟩ := bind_e e
    refine CallF.mono (f_2 _ _ O.up O26.s _ _ he7 _ _ he20 _ g28) ?_
    rintro _ h29 ⟨rfl, x30⟩
    have O31 := O26.ext x30
    refine ⟨_, rfl, ?_⟩
    refine split_not ?_
    refine split_any_e e (fun c34 e => ?_) (fun c34 e => ?_)
    · have O32 := O31.nm
      exact (ih _ _ e) _ _ _ _ _ _ _ _ _ _ _ _ (O32.pick []).nm rfl k_1 r_1 f_2 rfl k_15 r_15
    · have O33 := O31.nm
      cases e
      exact ⟨_, O33.pick [], rfl⟩
  · cases e
    exact ⟨_, O.pick [], rfl⟩
theorem slices_EqualFunc_62.l0_k.all {p : slices_EqualFunc_62.l0_k.Pt} {r : (Bool)} (e : slices_EqualFunc_62.l0_k.go p = some r) : slices_EqualFunc_62.l0_k.I p r := fixF_ind (β := fun _ => (Bool)) slices_EqualFunc_62.l0_k.mono (I := slices_EqualFunc_62.l0_k.I) (fun go ih p r e => match p with
  | .l0 a_1 p_2 a_15 x_16 x_17 => slices_EqualFunc_62.l0_k.step_l0 go ih a_1 p_2 a_15 x_16 x_17 r e
  ) e
theorem slices_EqualFunc_62.l0.walk {W : Nat → Prop} {h0 m0 h m : Heap} {A_1 : Option Addr} {n_1 c_1 : Nat} {fv_2 : Value} {A_15 : Option Addr} {n_15 c_15 : Nat} {a_1 : List T_api_Make} {p_2 : T_api_Make → T_api_Make → Option Bool} {a_15 : List T_api_Make} {x_16 : Int} {x_17 : Int} (O : Hold W h0 m0 h m []) (ne_1 : n_1 = List.length a_1) (k_1 : List.length a_1 ≤ c_1) (r_1 : Rd 2 T_api_Make.E m A_1 a_1) (f_2 : ∀ h' m', Sub m0 m' → Sub m' h' → ∀ (y0 : T_api_Make) (cs0 : List Value) (_ : T_api_Make.E m' y0 cs0) (y1 : T_api_Make) (cs1 : List Value) (_ : T_api_Make.E m' y1 cs1) (r : Bool), p_2 y0 y1 = some r → CallF Tryd.prog fv_2 [.agg cs0.toArray, .agg cs1.toArray] h' (fun v h'' => v = .bool r ∧ Ext h' h'')) (ne_15 : n_15 = List.length a_15) (k_15 : List.length a_15 ≤ c_15) (r_15 : Rd 2 T_api_Make.E m A_15 a_15) {r : Bool} (e : slices_EqualFunc_62.l0 a_1 p_2 a_15 x_16 x_17 = some r) : f62.l0 (slices_EqualFunc_62.post W h0 m0 r) A_1 n_1 c_1 fv_2 A_15 n_15 c_15 x_16 x_17 h := slices_EqualFunc_62.l0_k.all (p := .l0 a_1 p_2 a_15 x_16 x_17) e W h0 m0 h m A_1 n_1 c_1 fv_2 A_15 n_15 c_15 O ne_1 k_1 r_1 f_2 ne_15 k_15 r_15
noncomputable def slices_EqualFunc_62 (a_0 : List T_api_Make) (a_1 : List T_api_Make) (p_2 : T_api_Make → T_api_Make → Option Bool) : Option (Bool) :=
  if (((List.length a_0) : Nat) : Int) = (((List.length a_1) : Nat) : Int) then ((slices_EqualFunc_62.l0 a_1 p_2 a_0 (((List.length a_0) : Nat) : Int) (0 : Int))) else (some (false))
set_option maxRecDepth 100000 in
theorem slices_EqualFunc_62.walk {W : Nat → Prop} {h m : Heap} {A_0 : Option Addr} {n_0 c_0 : Nat} {A_1 : Option Addr} {n_1 c_1 : Nat} {fv_2 : Value} {a_0 : List T_api_Make} {a_1 : List T_api_Make} {p_2 : T_api_Make → T_api_Make → Option Bool} (O : Hold W h m h m []) (ne_0 : n_0 = List.length a_0) (k_0 : List.length a_0 ≤ c_0) (r_0 : Rd 2 T_api_Make.E m A_0 a_0) (ne_1 : n_1 = List.length a_1) (k_1 : List.length a_1 ≤ c_1) (r_1 : Rd 2 T_api_Make.E m A_1 a_1) (f_2 : ∀ h' m', Sub m m' → Sub m' h' → ∀ (y0 : T_api_Make) (cs0 : List Value) (_ : T_api_Make.E m' y0 cs0) (y1 : T_api_Make) (cs1 : List Value) (_ : T_api_Make.E m' y1 cs1) (r : Bool), p_2 y0 y1 = some r → CallF Tryd.prog fv_2 [.agg cs0.toArray, .agg cs1.toArray] h' (fun v h'' => v = .bool r ∧ Ext h' h'')) {r : Bool} (e : slices_EqualFunc_62 a_0 a_1 p_2 = some r) : Run Tryd.prog 62 #[Value.slice A_0 n_0 c_0, Value.slice A_1 n_1 c_1, fv_2] h (slices_EqualFunc_62.post W h m r) := by
  unfold slices_EqualFunc_62 at e
  subst ne_0
  subst ne_1
  refine f62.run ?_
  unfold f62.runT
  refine split_ne_e e (fun c1 e => ?_) (fun c1 e => ?_)
  · cases e
    exact ⟨_, O.pick [], rfl⟩
  · exact slices_EqualFunc_62.l0.walk (O.pick []).nm rfl k_1 r_1 f_2 rfl k_0 r_0 e
def slices_EqualFunc_48_s1.post (W : Nat → Prop) (h0 m0 : Heap) (r : Bool) (v : Value) (h : Heap) : Prop := ∃ m , Hold W h0 m0 h m [] ∧ v = .bool r
def tree_SameType.post (W : Nat → Prop) (h0 m0 : Heap) (r : Bool) (v : Value) (h : Heap) : Prop := ∃ m , Hold W h0 m0 h m [] ∧ v = .bool r
inductive tree_SameType_k.Pt where
  | f_49 (y_0 : T_api_Type) (y_1 : T_api_Type)
  | f_1000000 (a_0 : List T_api_Type) (a_1 : List T_api_Type)
  | l0_1000000 (a_1 : List T_api_Type) (a_15 : List T_api_Type) (x_16 : Int) (x_17 : Int)
noncomputable def tree_SameType_k.body (go : (p : tree_SameType_k.Pt) → Option (Bool)) : (p : tree_SameType_k.Pt) → Option (Bool)
  | .f_49 y_0 y_1 => if y_0.Kind = y_1.Kind then (if y_0.Name = y_1.Name then (Option.bind ((go (.f_1000000 y_0.Args y_1.Args))) fun y19 => some (y19)) else (some (false))) else (some (false))
  | .f_1000000 a_0 a_1 => if (((List.length a_0) : Nat) : Int) = (((List.length a_1) : Nat) : Int) then ((go (.l0_1000000 a_1 a_0 (((List.length a_0) : Nat) : Int) (0 : Int)))) else (some (false))
  | .l0_1000000 a_1 a_15 x_16 x_17 => if x_17 < x_16 then (Option.bind (gi a_15 x_17) fun y1 => Option.bind (gi a_1 x_17) fun y14 => Option.bind ((go (.f_49 y1 y14))) fun y27 => if y27 = true then ((go (.l0_1000000 a_1 a_15 x_16 (IntKind.wrap .i64 (x_17 + (1 : Int)))))) else (some (false))) else (some (true))
theorem tree_SameType_k.mono : MonoF (β := fun _ => (Bool)) tree_SameType_k.body := fun f g hfg p => match p with
  | .f_49 y_0 y_1 => LeO.ite (LeO.ite (LeO.bind ((hfg _)) fun y19 => LeO.refl _) (LeO.refl _)) (LeO.refl _)
  | .f_1000000 a_0 a_1 => LeO.ite ((hfg _)) (LeO.refl _)
  | .l0_1000000 a_1 a_15 x_16 x_17 => LeO.ite (LeO.bind (LeO.refl _) fun y1 => LeO.bind (LeO.refl _) fun y14 => LeO.bind ((hfg _)) fun y27 => LeO.ite ((hfg _)) (LeO.refl _)) (LeO.refl _)
noncomputable def tree_SameType_k.go (p : tree_SameType_k.Pt) : Option (Bool) := fixF (β := fun _ => (Bool)) tree_SameType_k.body p
noncomputable def tree_SameType (y_0 : T_api_Type) (y_1 : T_api_Type) : Option (Bool) := tree_SameType_k.go (.f_49 y_0 y_1)
noncomputable def slices_EqualFunc_48_s1 (a_0 : List T_api_Type) (a_1 : List T_api_Type) : Option (Bool) := tree_SameType_k.go (.f_1000000 a_0 a_1)
noncomputable def slices_EqualFunc_48_s1.l0 (a_1 : List T_api_Type) (a_15 : List T_api_Type) (x_16 : Int) (x_17 : Int) : Option (Bool) := tree_SameType_k.go (.l0_1000000 a_1 a_15 x_16 x_17)
theorem tree_SameType_eq (y_0 : T_api_Type) (y_1 : T_api_Type) : tree_SameType y_0 y_1 = if y_0.Kind = y_1.Kind then (if y_0.Name = y_1.Name then (Option.bind ((slices_EqualFunc_48_s1 y_0.Args y_1.Args)) fun y19 => some (y19)) else (some (false))) else (some (false)) := fixF_eq tree_SameType_k.mono _
theorem slices_EqualFunc_48_s1_eq (a_0 : List T_api_Type) (a_1 : List T_api_Type) : slices_EqualFunc_48_s1 a_0 a_1 = if (((List.length a_0) : Nat) : Int) = (((List.length a_1) : Nat) : Int) then ((slices_EqualFunc_48_s1.l0 a_1 a_0 (((List.length a_0) : Nat) : Int) (0 : Int))) else (some (false)) := fixF_eq tree_SameType_k.mono _
theorem slices_EqualFunc_48_s1.l0_eq (a_1 : List T_api_Type) (a_15 : List T_api_Type) (x_16 : Int) (x_17 : Int) : slices_EqualFunc_48_s1.l0 a_1 a_15 x_16 x_17 = if x_17 < x_16 then (Option.bind (gi a_15 x_17) fun y1 => Option.bind (gi a_1 x_17) fun y14 => Option.bind ((tree_SameType y1 y14)) fun y27 => if y27 = true then ((slices_EqualFunc_48_s1.l0 a_1 a_15 x_16 (IntKind.wrap .i64 (x_17 + (1 : Int))))) else (some (false))) else (some (true)) := fixF_eq tree_SameType_k.mono _
def tree_SameType_k.I : (p : tree_SameType_k.Pt) → (Bool) → Prop
  | .f_49 y_0 y_1, r => ∀ (W : Nat → Prop) (h m : Heap) (cs_0 : List Value) (cs_1 : List Value) (O : Hold W h m h m []) (e_0 : T_api_Type.E m y_0 cs_0) (e_1 : T_api_Type.E m y_1 cs_1), Run Tryd.prog 49 #[Value.agg cs_0.toArray, Value.agg cs_1.toArray] h (tree_SameType.post W h m r)
  | .f_1000000 a_0 a_1, r => ∀ (W : Nat → Prop) (h m : Heap) (A_0 : Option Addr) (n_0 c_0 : Nat) (A_1 : Option Addr) (n_1 c_1 : Nat) (O : Hold W h m h m []) (ne_0 : n_0 = List.length a_0) (k_0 : List.length a_0 ≤ c_0) (r_0 : Rd 3 T_api_Type.E m A_0 a_0) (ne_1 : n_1 = List.length a_1) (k_1 : List.length a_1 ≤ c_1) (r_1 : Rd 3 T_api_Type.E m A_1 a_1), Run Tryd.prog 48 #[Value.slice A_0 n_0 c_0, Value.slice A_1 n_1 c_1, (Value.func (.func 49) #[] #[])] h (slices_EqualFunc_48_s1.post W h m r)
  | .l0_1000000 a_1 a_15 x_16 x_17, r => ∀ (W : Nat → Prop) (h0 m0 h m : Heap) (A_1 : Option Addr) (n_1 c_1 : Nat) (A_15 : Option Addr) (n_15 c_15 : Nat) (O : Hold W h0 m0 h m []) (ne_1 : n_1 = List.length a_1) (k_1 : List.length a_1 ≤ c_1) (r_1 : Rd 3 T_api_Type.E m A_1 a_1) (ne_15 : n_15 = List.length a_15) (k_15 : List.length a_15 ≤ c_15) (r_15 : Rd 3 T_api_Type.E m A_15 a_15), f48.l0 (slices_EqualFunc_48_s1.post W h0 m0 r) A_1 n_1 c_1 (Value.func (.func 49) #[] #[]) A_15 n_15 c_15 x_16 x_17 h
set_option maxRecDepth 100000 in
theorem tree_SameType_k.step_f_49 (go : (p : tree_SameType_k.Pt) → Option (Bool)) (ih : ∀ p r, go p = some r → tree_SameType_k.I p r) (y_0 : T_api_Type) (y_1 : T_api_Type) (r : Bool) (e : tree_SameType_k.body go (.f_49 y_0 y_1) = some r) : tree_SameType_k.I (.f_49 y_0 y_1) r := by
  unfold tree_SameType_k.body at e
  intro W h m cs_0 cs_1 O e_0 e_1
  refine f49.run ?_
  unfold f49.runT
  refine O.new fun h1 x2 O3 => ?_
  refine O3.new fun h5 x6 O7 => ?_
  refine ⟨_, ld0 (Sub.refl _) (O7.all 0 rfl) (T_api_Type.g0 e_0), _, rfl, ?_⟩
  refine ⟨_, ld0 (Sub.refl _) (O7.all 1 rfl) (T_api_Type.g0 e_1), _, rfl, ?_⟩
  refine split_eq_e e (fun c29 e => ?_) (fun c29 e => ?_)
  · refine ⟨_, ldk (k := 1) (Sub.refl _) (O7.all 0 rfl) (T_api_Type.g1 e_0), _, rfl, ?_⟩
    refine ⟨_, ldk (k := 1) (Sub.refl _) (O7.all 1 rfl) (T_api_Type.g1 e_1), _, rfl, ?_⟩
    try rw [ba_list y_0.Name y_1.Name]
    refine split_dec_e e (fun c27 e => ?_) (fun c27 e => ?_)
    · obtain ⟨A9, c10, q11, k12, r13⟩ := T_api_Type.g2 e_0
      refine ⟨_, ldk (k := 2) (Sub.refl _) (O7.all 0 rfl) q11, _, _, _, rfl, ?_⟩
      obtain ⟨A14, c15, q16, k17, r18⟩ := T_api_Type.g2 e_1
      refine ⟨_, ldk (k := 2) (Sub.refl _) (O7.all 1 rfl) q16, _, _, _, rfl, ?_⟩
      obtain ⟨y19, g20, e⟩ := bind_e e
      refine ((ih _ _ g20) _ _ _ _ _ _ _ _ _ (Hold.start (W := No) O7.s) rfl k12 r13 rfl k17 r18).mono ?_
      rintro _ h21 ⟨m22, Q23, rfl⟩
      have O25 := Hold.nm (O7.retC Q23 vfs_nil)
      refine ⟨_, rfl, ?_⟩
      cases e
      exact ⟨_, O25.pick [], rfl⟩
    · have O26 := O7.nm
      cases e
      exact ⟨_, O26.pick [], rfl⟩
  · have O28 := O7.nm
    cases e
    exact ⟨_, O28.pick [], rfl⟩
set_option maxRecDepth 100000 in
theorem tree_SameType_k.step_f_1000000 (go : (p : tree_SameType_k.Pt) → Option (Bool)) (ih : ∀ p r, go p = some r → tree_SameType_k.I p r) (a_0 : List T_api_Type) (a_1 : List T_api_Type) (r : Bool) (e : tree_SameType_k.body go (.f_1000000 a_0 a_1) = some r) : tree_SameType_k.I (.f_1000000 a_0 a_1) r := by
  unfold tree_SameType_k.body at e
  intro W h m A_0 n_0 c_0 A_1 n_1 c_1 O ne_0 k_0 r_0 ne_1 k_1 r_1
  subst ne_0
  subst ne_1
  refine f48.run ?_
  unfold f48.runT
  refine split_ne_e e (fun c1 e => ?_) (fun c1 e => ?_)
  · cases e
    exact ⟨_, O.pick [], rfl⟩
  · exact (ih _ _ e) _ _ _ _ _ _ _ _ _ _ _ (O.pick []).nm rfl k_1 r_1 rfl k_0 r_0
set_option maxRecDepth 100000 in
theorem tree_SameType_k.step_l0_1000000 (go : (p : tree_SameType_k.Pt) → Option (Bool)) (ih : ∀ p r, go p = some r → tree_SameType_k.I p r) (a_1 : List T_api_Type) (a_15 : List T_api_Type) (x_16 : Int) (x_17 : Int) (r : Bool) (e : tree_SameType_k.body go (.l0_1000000 a_1 a_15 x_16 x_17) = some r) : tree_SameType_k.I (.l0_1000000 a_1 a_15 x_16 x_17) r := by
  unfold tree_SameType_k.body at e
  intro W h0 m0 h m A_1 n_1 c_1 A_15 n_15 c_15 O ne_1 k_1 r_1 ne_15 k_15 r_15
  subst ne_1
  subst ne_15
  refine f48.l0_in ?_
  unfold f48.l0T
  refine split_dec_e e (fun c35 e => ?_) (fun c35 e => ?_)
  · obtain ⟨y1, g2, e⟩ := bind_e e
    refine r_15.addr rfl g2 fun a3 cs4 ha5 hc6 he7 => ?_
    refine ⟨_, ldAn O.s hc6 rfl, ?_⟩
    refine O.new fun h8 x9 O10 => ?_
    refine ⟨_, rfl, (T_api_Type.T.len _ _ _ he7), ?_⟩
    refine O10.stA 0 rfl (T_api_Type.T.len _ _ _ he7) (T_api_Type.T.flat _ _ _ he7) fun h12 O13 => ?_
    obtain ⟨y14, g15, e⟩ := bind_e e
    refine r_1.addr rfl g15 fun a16 cs17 ha18 hc19 he20 => ?_
    refine ⟨_, ldAn O13.s hc19 rfl, ?_⟩
    refine O13.new fun h21 x22 O23 => ?_
    refine ⟨_, rfl, (T_api_Type.T.len _ _ _ he20), ?_⟩
    refine O23.stA 1 rfl (T_api_Type.T.len _ _ _ he20) (T_api_Type.T.flat _ _ _ he20) fun h25 O26 => ?_
    refine ⟨_, ldAn (Sub.refl _) (O26.all 0 rfl) (T_api_Type.T.len _ _ _ he7), ?_⟩
    refine ⟨_, ldAn (Sub.refl _) (O26.all 1 rfl) (T_api_Type.T.len _ _ _ he20), ?_⟩
    obtain ⟨y27, g28, e⟩ := bind_e e
    refine CallF.of [(Value.agg (List.toArray cs4)), (Value.agg (List.toArray cs17))] f49.ok rfl ?_
    refine ((ih _ _ g28) _ _ _ _ _ (Hold.start (W := No) O26.s) he7 he20).mono ?_
    rintro _ h29 ⟨m30, Q31, rfl⟩
    have O33 := Hold.nm (O26.retC Q31 vfs_nil)
    refine ⟨_, rfl, ?_⟩
    refine split_not ?_
    refine split_any_e e (fun c34 e => ?_) (fun c34 e => ?_)
    · exact (ih _ _ e) _ _ _ _ _ _ _ _ _ _ _ (O33.pick []).nm rfl k_1 r_1 rfl k_15 r_15
    · cases e
      exact ⟨_, O33.pick [], rfl⟩
  · cases e
    exact ⟨_, O.pick [], rfl⟩
theorem tree_SameType_k.all {p : tree_SameType_k.Pt} {r : (Bool)} (e : tree_SameType_k.go p = some r) : tree_SameType_k.I p r := fixF_ind (β := fun _ => (Bool)) tree_SameType_k.mono (I := tree_SameType_k.I) (fun go ih p r e => match p with
  | .f_49 y_0 y_1 => tree_SameType_k.step_f_49 go ih y_0 y_1 r e
  | .f_1000000 a_0 a_1 => tree_SameType_k.step_f_1000000 go ih a_0 a_1 r e
  | .l0_1000000 a_1 a_15 x_16 x_17 => tree_SameType_k.step_l0_1000000 go ih a_1 a_15 x_16 x_17 r e
  ) e
theorem tree_SameType.walk {W : Nat → Prop} {h m : Heap} {cs_0 : List Value} {cs_1 : List Value} {y_0 : T_api_Type} {y_1 : T_api_Type} (O : Hold W h m h m []) (e_0 : T_api_Type.E m y_0 cs_0) (e_1 : T_api_Type.E m y_1 cs_1) {r : Bool} (e : tree_SameType y_0 y_1 = some r) : Run Tryd.prog 49 #[Value.agg cs_0.toArray, Value.agg cs_1.toArray] h (tree_SameType.post W h m r) := tree_SameType_k.all (p := .f_49 y_0 y_1) e W h m cs_0 cs_1 O e_0 e_1
theorem slices_EqualFunc_48_s1.walk {W : Nat → Prop} {h m : Heap} {A_0 : Option Addr} {n_0 c_0 : Nat} {A_1 : Option Addr} {n_1 c_1 : Nat} {a_0 : List T_api_Type} {a_1 : List T_api_Type} (O : Hold W h m h m []) (ne_0 : n_0 = List.length a_0) (k_0 : List.length a_0 ≤ c_0) (r_0 : Rd 3 T_api_Type.E m A_0 a_0) (ne_1 : n_1 = List.length a_1) (k_1 : List.length a_1 ≤ c_1) (r_1 : Rd 3 T_api_Type.E m A_1 a_1) {r : Bool} (e : slices_EqualFunc_48_s1 a_0 a_1 = some r) : Run Tryd.prog 48 #[Value.slice A_0 n_0 c_0, Value.slice A_1 n_1 c_1, (Value.func (.func 49) #[] #[])] h (slices_EqualFunc_48_s1.post W h m r) := tree_SameType_k.all (p := .f_1000000 a_0 a_1) e W h m A_0 n_0 c_0 A_1 n_1 c_1 O ne_0 k_0 r_0 ne_1 k_1 r_1
def tree_sameMake.post (W : Nat → Prop) (h0 m0 : Heap) (r : Bool) (v : Value) (h : Heap) : Prop := ∃ m , Hold W h0 m0 h m [] ∧ v = .bool r
noncomputable def tree_sameMake (y_0 : T_api_Make) (y_1 : T_api_Make) : Option (Bool) :=
  if y_0.Name = y_1.Name then (Option.bind (slices_EqualFunc_48_s1 y_0.Args y_1.Args) fun y19 => some (y19)) else (some (false))
set_option maxRecDepth 100000 in
theorem tree_sameMake.walk {W : Nat → Prop} {h m : Heap} {cs_0 : List Value} {cs_1 : List Value} {y_0 : T_api_Make} {y_1 : T_api_Make} (O : Hold W h m h m []) (e_0 : T_api_Make.E m y_0 cs_0) (e_1 : T_api_Make.E m y_1 cs_1) {r : Bool} (e : tree_sameMake y_0 y_1 = some r) : Run Tryd.prog 63 #[Value.agg cs_0.toArray, Value.agg cs_1.toArray] h (tree_sameMake.post W h m r) := by
  unfold tree_sameMake at e
  refine f63.run ?_
  unfold f63.runT
  refine O.new fun h1 x2 O3 => ?_
  refine O3.new fun h5 x6 O7 => ?_
  refine ⟨_, ld0 (Sub.refl _) (O7.all 0 rfl) (T_api_Make.g0 e_0), _, rfl, ?_⟩
  refine ⟨_, ld0 (Sub.refl _) (O7.all 1 rfl) (T_api_Make.g0 e_1), _, rfl, ?_⟩
  try rw [ba_list y_0.Name y_1.Name]
  refine split_dec_e e (fun c27 e => ?_) (fun c27 e => ?_)
  · obtain ⟨A9, c10, q11, k12, r13⟩ := T_api_Make.g1 e_0
    refine ⟨_, ldk (k := 1) (Sub.refl _) (O7.all 0 rfl) q11, _, _, _, rfl, ?_⟩
    obtain ⟨A14, c15, q16, k17, r18⟩ := T_api_Make.g1 e_1
    refine ⟨_, ldk (k := 1) (Sub.refl _) (O7.all 1 rfl) q16, _, _, _, rfl, ?_⟩
    obtain ⟨y19, g20, e⟩ := bind_e e
    refine (slices_EqualFunc_48_s1.walk (Hold.start (W := No) O7.s) rfl k12 r13 rfl k17 r18 g20).mono ?_
    rintro _ h21 ⟨m22, Q23, rfl⟩
    have O25 := Hold.nm (O7.retC Q23 vfs_nil)
    refine ⟨_, rfl, ?_⟩
    cases e
    exact ⟨_, O25.pick [], rfl⟩
  · have O26 := O7.nm
    cases e
    exact ⟨_, O26.pick [], rfl⟩
def tree_sameData.post (W : Nat → Prop) (h0 m0 : Heap) (r : Bool) (v : Value) (h : Heap) : Prop := ∃ m , Hold W h0 m0 h m [] ∧ v = .bool r
noncomputable def tree_sameData (y_0 : T_api_Data) (y_1 : T_api_Data) : Option (Bool) :=
  if y_0.Name = y_1.Name then (Option.bind (slices_Equal_20 y_0.Params y_1.Params) fun y19 => if y19 = true then (Option.bind (slices_EqualFunc_62 y_0.Makes y_1.Makes (fun z42 z43 => tree_sameMake z42 z43)) fun y36 => some (y36)) else (some (false))) else (some (false))
set_option maxHeartbeats 4000000 in
set_option maxRecDepth 100000 in
theorem tree_sameData.walk {W : Nat → Prop} {h m : Heap} {cs_0 : List Value} {cs_1 : List Value} {y_0 : T_api_Data} {y_1 : T_api_Data} (O : Hold W h m h m []) (e_0 : T_api_Data.E m y_0 cs_0) (e_1 : T_api_Data.E m y_1 cs_1) {r : Bool} (e : tree_sameData y_0 y_1 = some r) : Run Tryd.prog 32 #[Value.agg cs_0.toArray, Value.agg cs_1.toArray] h (tree_sameData.post W h m r) := by
  unfold tree_sameData at e
  refine f32.run ?_
  unfold f32.runT
  refine O.new fun h1 x2 O3 => ?_
  refine O3.new fun h5 x6 O7 => ?_
  refine ⟨_, ld0 (Sub.refl _) (O7.all 0 rfl) (T_api_Data.g0 e_0), _, rfl, ?_⟩
  refine ⟨_, ld0 (Sub.refl _) (O7.all 1 rfl) (T_api_Data.g0 e_1), _, rfl, ?_⟩
  try rw [ba_list y_0.Name y_1.Name]
  refine split_dec_e e (fun c55 e => ?_) (fun c55 e => ?_)
  · obtain ⟨A9, c10, q11, k12, r13⟩ := T_api_Data.g1 e_0
    refine ⟨_, ldk (k := 1) (Sub.refl _) (O7.all 0 rfl) q11, _, _, _, rfl, ?_⟩
    obtain ⟨A14, c15, q16, k17, r18⟩ := T_api_Data.g1 e_1
    refine ⟨_, ldk (k := 1) (Sub.refl _) (O7.all 1 rfl) q16, _, _, _, rfl, ?_⟩
    obtain ⟨y19, g20, e⟩ := bind_e e
    refine (slices_Equal_20.walk (Hold.start (W := No) O7.s) rfl k12 r13 rfl k17 r18 g20).mono ?_
    rintro _ h21 ⟨m22, Q23, rfl⟩
    have O25 := Hold.nm (O7.retC Q23 vfs_nil)
    refine ⟨_, rfl, ?_⟩
    refine split_any_e e (fun c53 e => ?_) (fun c53 e => ?_)
    · obtain ⟨A26, c27, q28, k29, r30⟩ := T_api_Data.g2 e_0
      refine ⟨_, ldk (k := 2) (Sub.refl _) (O25.all 0 rfl) q28, _, _, _, rfl, ?_⟩
      obtain ⟨A31, c32, q33, k34, r35⟩ := T_api_Data.g2 e_1
      refine ⟨_, ldk (k := 2) (Sub.refl _) (O25.all 1 rfl) q33, _, _, _, rfl, ?_⟩
      obtain ⟨y36, g37, e⟩ := bind_e e
      refine (slices_EqualFunc_62.walk (Hold.start (W := No) O25.s) rfl k29 r30 rfl k34 r35 (fun h44 m45 u46 s47 y50 cs50 he50 y51 cs51 he51 r48 e49 => CallF.of [Value.agg cs50.toArray, Value.agg cs51.toArray] f63.ok rfl ((tree_sameMake.walk (Hold.start (W := No) s47) he50 he51 e49).mono (fun _ _ h => let ⟨_, t, e⟩ := h; ⟨e, t.S.ext⟩))) g37).mono ?_
      rintro _ h38 ⟨m39, Q40, rfl⟩
      have O52 := Hold.nm (O25.retC Q40 vfs_nil)
      refine ⟨_, rfl, ?_⟩
      cases e
      exact ⟨_, O52.pick [], rfl⟩
    · cases e
      exact ⟨_, O25.pick [], rfl⟩
  · have O54 := O7.nm
    cases e
    exact ⟨_, O54.pick [], rfl⟩
def slices_EqualFunc_33.post (W : Nat → Prop) (h0 m0 : Heap) (r : Bool) (v : Value) (h : Heap) : Prop := ∃ m , Hold W h0 m0 h m [] ∧ v = .bool r
inductive slices_EqualFunc_33.l0_k.Pt where
  | l0 (a_1 : List T_api_Trait) (p_2 : T_api_Trait → T_api_Trait → Option Bool) (a_15 : List T_api_Trait) (x_16 : Int) (x_17 : Int)
noncomputable def slices_EqualFunc_33.l0_k.body (go : (p : slices_EqualFunc_33.l0_k.Pt) → Option (Bool)) : (p : slices_EqualFunc_33.l0_k.Pt) → Option (Bool)
  | .l0 a_1 p_2 a_15 x_16 x_17 => if x_17 < x_16 then (Option.bind (gi a_15 x_17) fun y1 => Option.bind (gi a_1 x_17) fun y14 => Option.bind (p_2 y1 y14) fun y27 => if y27 = true then ((go (.l0 a_1 p_2 a_15 x_16 (IntKind.wrap .i64 (x_17 + (1 : Int)))))) else (some (false))) else (some (true))
theorem slices_EqualFunc_33.l0_k.mono : MonoF (β := fun _ => (Bool)) slices_EqualFunc_33.l0_k.body := fun f g hfg p => match p with
  | .l0 a_1 p_2 a_15 x_16 x_17 => LeO.ite (LeO.bind (LeO.refl _) fun y1 => LeO.bind (LeO.refl _) fun y14 => LeO.bind (LeO.refl _) fun y27 => LeO.ite ((hfg _)) (LeO.refl _)) (LeO.refl _)
noncomputable def slices_EqualFunc_33.l0_k.go (p : slices_EqualFunc_33.l0_k.Pt) : Option (Bool) := fixF (β := fun _ => (Bool)) slices_EqualFunc_33.l0_k.body p
noncomputable def slices_EqualFunc_33.l0 (a_1 : List T_api_Trait) (p_2 : T_api_Trait → T_api_Trait → Option Bool) (a_15 : List T_api_Trait) (x_16 : Int) (x_17 : Int) : Option (Bool) := slices_EqualFunc_33.l0_k.go (.l0 a_1 p_2 a_15 x_16 x_17)
theorem slices_EqualFunc_33.l0_eq (a_1 : List T_api_Trait) (p_2 : T_api_Trait → T_api_Trait → Option Bool) (a_15 : List T_api_Trait) (x_16 : Int) (x_17 : Int) : slices_EqualFunc_33.l0 a_1 p_2 a_15 x_16 x_17 = if x_17 < x_16 then (Option.bind (gi a_15 x_17) fun y1 => Option.bind (gi a_1 x_17) fun y14 => Option.bind (p_2 y1 y14) fun y27 => if y27 = true then ((slices_EqualFunc_33.l0 a_1 p_2 a_15 x_16 (IntKind.wrap .i64 (x_17 + (1 : Int))))) else (some (false))) else (some (true)) := fixF_eq slices_EqualFunc_33.l0_k.mono _
def slices_EqualFunc_33.l0_k.I : (p : slices_EqualFunc_33.l0_k.Pt) → (Bool) → Prop
  | .l0 a_1 p_2 a_15 x_16 x_17, r => ∀ (W : Nat → Prop) (h0 m0 h m : Heap) (A_1 : Option Addr) (n_1 c_1 : Nat) (fv_2 : Value) (A_15 : Option Addr) (n_15 c_15 : Nat) (O : Hold W h0 m0 h m []) (ne_1 : n_1 = List.length a_1) (k_1 : List.length a_1 ≤ c_1) (r_1 : Rd 2 T_api_Trait.E m A_1 a_1) (f_2 : ∀ h' m', Sub m0 m' → Sub m' h' → ∀ (y0 : T_api_Trait) (cs0 : List Value) (_ : T_api_Trait.E m' y0 cs0) (y1 : T_api_Trait) (cs1 : List Value) (_ : T_api_Trait.E m' y1 cs1) (r : Bool), p_2 y0 y1 = some r → CallF Tryd.prog fv_2 [.agg cs0.toArray, .agg cs1.toArray] h' (fun v h'' => v = .bool r ∧ Ext h' h'')) (ne_15 : n_15 = List.length a_15) (k_15 : List.length a_15 ≤ c_15) (r_15 : Rd 2 T_api_Trait.E m A_15 a_15), f33.l0 (slices_EqualFunc_33.post W h0 m0 r) A_1 n_1 c_1 fv_2 A_15 n_15 c_15 x_16 x_17 h
set_option maxRecDepth 100000 in
theorem slices_EqualFunc_33.l0_k.step_l0 (go : (p : slices_EqualFunc_33.l0_k.Pt) → Option (Bool)) (ih : ∀ p r, go p = some r → slices_EqualFunc_33.l0_k.I p r) (a_1 : List T_api_Trait) (p_2 : T_api_Trait → T_api_Trait → Option Bool) (a_15 : List T_api_Trait) (x_16 : Int) (x_17 : Int) (r : Bool) (e : slices_EqualFunc_33.l0_k.body go (.l0 a_1 p_2 a_15 x_16 x_17) = some r) : slices_EqualFunc_33.l0_k.I (.l0 a_1 p_2 a_15 x_16 x_17) r := by
  unfold slices_EqualFunc_33.l0_k.body at e
  intro W h0 m0 h m A_1 n_1 c_1 fv_2 A_15 n_15 c_15 O ne_1 k_1 r_1 f_2 ne_15 k_15 r_15
  subst ne_1
  subst ne_15
  refine f33.l0_in ?_
  unfold f33.l0T
  refine split_dec_e e (fun c35 e => ?_) (fun c35 e => ?_)
  · obtain ⟨y1, g2, e⟩ := bind_e e
    refine r_15.addr rfl g2 fun a3 cs4 ha5 hc6 he7 => ?_
    refine ⟨_, ldAn O.s hc6 rfl, ?_⟩
    refine O.new fun h8 x9 O10 => ?_
    refine ⟨_, rfl, (T_api_Trait.T.len _ _ _ he7), ?_⟩
    refine O10.stA 0 rfl (T_api_Trait.T.len _ _ _ he7) (T_api_Trait.T.flat _ _ _ he7) fun h12 O13 => ?_
    obtain ⟨y14, g15, e⟩ := bind_e e
    refine r_1.addr rfl g15 fun a16 cs17 ha18 hc19 he20 => ?_
    refine ⟨_, ldAn O13.s hc19 rfl, ?_⟩
    refine O13.new fun h21 x22 O23 => ?_
    refine ⟨_, rfl, (T_api_Trait.T.len _ _ _ he20), ?_⟩
    refine O23.stA 1 rfl (T_api_Trait.T.len _ _ _ he20) (T_api_Trait.T.flat _ _ _ he20) fun h25 O26 => ?_
    refine ⟨_, ldAn (Sub.refl _) (O26.all 0 rfl) (T_api_Trait.T.len _ _ _ he7), ?_⟩
    refine ⟨_, ldAn (Sub.refl _) (O26.all 1 rfl) (T_api_Trait.T.len _ _ _ he20), ?_⟩
    obtain ⟨y27, g28, e⟩ := bind_e e
    refine CallF.mono (f_2 _ _ O.up O26.s _ _ he7 _ _ he20 _ g28) ?_
    rintro _ h29 ⟨rfl, x30⟩
    have O31 := O26.ext x30
    refine ⟨_, rfl, ?_⟩
    refine split_not ?_
    refine split_any_e e (fun c34 e => ?_) (fun c34 e => ?_)
    · have O32 := O31.nm
      exact (ih _ _ e) _ _ _ _ _ _ _ _ _ _ _ _ (O32.pick []).nm rfl k_1 r_1 f_2 rfl k_15 r_15
    · have O33 := O31.nm
      cases e
      exact ⟨_, O33.pick [], rfl⟩
  · cases e
    exact ⟨_, O.pick [], rfl⟩
theorem slices_EqualFunc_33.l0_k.all {p : slices_EqualFunc_33.l0_k.Pt} {r : (Bool)} (e : slices_EqualFunc_33.l0_k.go p = some r) : slices_EqualFunc_33.l0_k.I p r := fixF_ind (β := fun _ => (Bool)) slices_EqualFunc_33.l0_k.mono (I := slices_EqualFunc_33.l0_k.I) (fun go ih p r e => match p with
  | .l0 a_1 p_2 a_15 x_16 x_17 => slices_EqualFunc_33.l0_k.step_l0 go ih a_1 p_2 a_15 x_16 x_17 r e
  ) e
theorem slices_EqualFunc_33.l0.walk {W : Nat → Prop} {h0 m0 h m : Heap} {A_1 : Option Addr} {n_1 c_1 : Nat} {fv_2 : Value} {A_15 : Option Addr} {n_15 c_15 : Nat} {a_1 : List T_api_Trait} {p_2 : T_api_Trait → T_api_Trait → Option Bool} {a_15 : List T_api_Trait} {x_16 : Int} {x_17 : Int} (O : Hold W h0 m0 h m []) (ne_1 : n_1 = List.length a_1) (k_1 : List.length a_1 ≤ c_1) (r_1 : Rd 2 T_api_Trait.E m A_1 a_1) (f_2 : ∀ h' m', Sub m0 m' → Sub m' h' → ∀ (y0 : T_api_Trait) (cs0 : List Value) (_ : T_api_Trait.E m' y0 cs0) (y1 : T_api_Trait) (cs1 : List Value) (_ : T_api_Trait.E m' y1 cs1) (r : Bool), p_2 y0 y1 = some r → CallF Tryd.prog fv_2 [.agg cs0.toArray, .agg cs1.toArray] h' (fun v h'' => v = .bool r ∧ Ext h' h'')) (ne_15 : n_15 = List.length a_15) (k_15 : List.length a_15 ≤ c_15) (r_15 : Rd 2 T_api_Trait.E m A_15 a_15) {r : Bool} (e : slices_EqualFunc_33.l0 a_1 p_2 a_15 x_16 x_17 = some r) : f33.l0 (slices_EqualFunc_33.post W h0 m0 r) A_1 n_1 c_1 fv_2 A_15 n_15 c_15 x_16 x_17 h := slices_EqualFunc_33.l0_k.all (p := .l0 a_1 p_2 a_15 x_16 x_17) e W h0 m0 h m A_1 n_1 c_1 fv_2 A_15 n_15 c_15 O ne_1 k_1 r_1 f_2 ne_15 k_15 r_15
noncomputable def slices_EqualFunc_33 (a_0 : List T_api_Trait) (a_1 : List T_api_Trait) (p_2 : T_api_Trait → T_api_Trait → Option Bool) : Option (Bool) :=
  if (((List.length a_0) : Nat) : Int) = (((List.length a_1) : Nat) : Int) then ((slices_EqualFunc_33.l0 a_1 p_2 a_0 (((List.length a_0) : Nat) : Int) (0 : Int))) else (some (false))
set_option maxRecDepth 100000 in
theorem slices_EqualFunc_33.walk {W : Nat → Prop} {h m : Heap} {A_0 : Option Addr} {n_0 c_0 : Nat} {A_1 : Option Addr} {n_1 c_1 : Nat} {fv_2 : Value} {a_0 : List T_api_Trait} {a_1 : List T_api_Trait} {p_2 : T_api_Trait → T_api_Trait → Option Bool} (O : Hold W h m h m []) (ne_0 : n_0 = List.length a_0) (k_0 : List.length a_0 ≤ c_0) (r_0 : Rd 2 T_api_Trait.E m A_0 a_0) (ne_1 : n_1 = List.length a_1) (k_1 : List.length a_1 ≤ c_1) (r_1 : Rd 2 T_api_Trait.E m A_1 a_1) (f_2 : ∀ h' m', Sub m m' → Sub m' h' → ∀ (y0 : T_api_Trait) (cs0 : List Value) (_ : T_api_Trait.E m' y0 cs0) (y1 : T_api_Trait) (cs1 : List Value) (_ : T_api_Trait.E m' y1 cs1) (r : Bool), p_2 y0 y1 = some r → CallF Tryd.prog fv_2 [.agg cs0.toArray, .agg cs1.toArray] h' (fun v h'' => v = .bool r ∧ Ext h' h'')) {r : Bool} (e : slices_EqualFunc_33 a_0 a_1 p_2 = some r) : Run Tryd.prog 33 #[Value.slice A_0 n_0 c_0, Value.slice A_1 n_1 c_1, fv_2] h (slices_EqualFunc_33.post W h m r) := by
  unfold slices_EqualFunc_33 at e
  subst ne_0
  subst ne_1
  refine f33.run ?_
  unfold f33.runT
  refine split_ne_e e (fun c1 e => ?_) (fun c1 e => ?_)
  · cases e
    exact ⟨_, O.pick [], rfl⟩
  · exact slices_EqualFunc_33.l0.walk (O.pick []).nm rfl k_1 r_1 f_2 rfl k_0 r_0 e
def slices_EqualFunc_37.post (W : Nat → Prop) (h0 m0 : Heap) (r : Bool) (v : Value) (h : Heap) : Prop := ∃ m , Hold W h0 m0 h m [] ∧ v = .bool r
inductive slices_EqualFunc_37.l0_k.Pt where
  | l0 (a_1 : List T_api_Func) (p_2 : T_api_Func → T_api_Func → Option Bool) (a_15 : List T_api_Func) (x_16 : Int) (x_17 : Int)
noncomputable def slices_EqualFunc_37.l0_k.body (go : (p : slices_EqualFunc_37.l0_k.Pt) → Option (Bool)) : (p : slices_EqualFunc_37.l0_k.Pt) → Option (Bool)
  | .l0 a_1 p_2 a_15 x_16 x_17 => if x_17 < x_16 then (Option.bind (gi a_15 x_17) fun y1 => Option.bind (gi a_1 x_17) fun y14 => Option.bind (p_2 y1 y14) fun y27 => if y27 = true then ((go (.l0 a_1 p_2 a_15 x_16 (IntKind.wrap .i64 (x_17 + (1 : Int)))))) else (some (false))) else (some (true))
theorem slices_EqualFunc_37.l0_k.mono : MonoF (β := fun _ => (Bool)) slices_EqualFunc_37.l0_k.body := fun f g hfg p => match p with
  | .l0 a_1 p_2 a_15 x_16 x_17 => LeO.ite (LeO.bind (LeO.refl _) fun y1 => LeO.bind (LeO.refl _) fun y14 => LeO.bind (LeO.refl _) fun y27 => LeO.ite ((hfg _)) (LeO.refl _)) (LeO.refl _)
noncomputable def slices_EqualFunc_37.l0_k.go (p : slices_EqualFunc_37.l0_k.Pt) : Option (Bool) := fixF (β := fun _ => (Bool)) slices_EqualFunc_37.l0_k.body p
noncomputable def slices_EqualFunc_37.l0 (a_1 : List T_api_Func) (p_2 : T_api_Func → T_api_Func → Option Bool) (a_15 : List T_api_Func) (x_16 : Int) (x_17 : Int) : Option (Bool) := slices_EqualFunc_37.l0_k.go (.l0 a_1 p_2 a_15 x_16 x_17)
theorem slices_EqualFunc_37.l0_eq (a_1 : List T_api_Func) (p_2 : T_api_Func → T_api_Func → Option Bool) (a_15 : List T_api_Func) (x_16 : Int) (x_17 : Int) : slices_EqualFunc_37.l0 a_1 p_2 a_15 x_16 x_17 = if x_17 < x_16 then (Option.bind (gi a_15 x_17) fun y1 => Option.bind (gi a_1 x_17) fun y14 => Option.bind (p_2 y1 y14) fun y27 => if y27 = true then ((slices_EqualFunc_37.l0 a_1 p_2 a_15 x_16 (IntKind.wrap .i64 (x_17 + (1 : Int))))) else (some (false))) else (some (true)) := fixF_eq slices_EqualFunc_37.l0_k.mono _
def slices_EqualFunc_37.l0_k.I : (p : slices_EqualFunc_37.l0_k.Pt) → (Bool) → Prop
  | .l0 a_1 p_2 a_15 x_16 x_17, r => ∀ (W : Nat → Prop) (h0 m0 h m : Heap) (A_1 : Option Addr) (n_1 c_1 : Nat) (fv_2 : Value) (A_15 : Option Addr) (n_15 c_15 : Nat) (O : Hold W h0 m0 h m []) (ne_1 : n_1 = List.length a_1) (k_1 : List.length a_1 ≤ c_1) (r_1 : Rd 15 T_api_Func.E m A_1 a_1) (f_2 : ∀ h' m', Sub m0 m' → Sub m' h' → ∀ (y0 : T_api_Func) (cs0 : List Value) (_ : T_api_Func.E m' y0 cs0) (y1 : T_api_Func) (cs1 : List Value) (_ : T_api_Func.E m' y1 cs1) (r : Bool), p_2 y0 y1 = some r → CallF Tryd.prog fv_2 [.agg cs0.toArray, .agg cs1.toArray] h' (fun v h'' => v = .bool r ∧ Ext h' h'')) (ne_15 : n_15 = List.length a_15) (k_15 : List.length a_15 ≤ c_15) (r_15 : Rd 15 T_api_Func.E m A_15 a_15), f37.l0 (slices_EqualFunc_37.post W h0 m0 r) A_1 n_1 c_1 fv_2 A_15 n_15 c_15 x_16 x_17 h
set_option maxRecDepth 100000 in
theorem slices_EqualFunc_37.l0_k.step_l0 (go : (p : slices_EqualFunc_37.l0_k.Pt) → Option (Bool)) (ih : ∀ p r, go p = some r → slices_EqualFunc_37.l0_k.I p r) (a_1 : List T_api_Func) (p_2 : T_api_Func → T_api_Func → Option Bool) (a_15 : List T_api_Func) (x_16 : Int) (x_17 : Int) (r : Bool) (e : slices_EqualFunc_37.l0_k.body go (.l0 a_1 p_2 a_15 x_16 x_17) = some r) : slices_EqualFunc_37.l0_k.I (.l0 a_1 p_2 a_15 x_16 x_17) r := by
  unfold slices_EqualFunc_37.l0_k.body at e
  intro W h0 m0 h m A_1 n_1 c_1 fv_2 A_15 n_15 c_15 O ne_1 k_1 r_1 f_2 ne_15 k_15 r_15
  subst ne_1
  subst ne_15
  refine f37.l0_in ?_
  unfold f37.l0T
  refine split_dec_e e (fun c35 e => ?_) (fun c35 e => ?_)
  · obtain ⟨y1, g2, e⟩ := bind_e e
    refine r_15.addr rfl g2 fun a3 cs4 ha5 hc6 he7 => ?_
    refine ⟨_, ldAn O.s hc6 rfl, ?_⟩
    refine O.new fun h8 x9 O10 => ?_
    refine ⟨_, rfl, (T_api_Func.T.len _ _ _ he7), ?_⟩
    refine O10.stA 0 rfl (T_api_Func.T.len _ _ _ he7) (T_api_Func.T.flat _ _ _ he7) fun h12 O13 => ?_
    obtain ⟨y14, g15, e⟩ := bind_e e
    refine r_1.addr rfl g15 fun a16 cs17 ha18 hc19 he20 => ?_
    refine ⟨_, ldAn O13.s hc19 rfl, ?_⟩
    refine O13.new fun h21 x22 O23 => ?_
    refine ⟨_, rfl, (T_api_Func.T.len _ _ _ he20), ?_⟩
    refine O23.stA 1 rfl (T_api_Func.T.len _ _ _ he20) (T_api_Func.T.flat _ _ _ he20) fun h25 O26 => ?_
    refine ⟨_, ldAn (Sub.refl _) (O26.all 0 rfl) (T_api_Func.T.len _ _ _ he7), ?_⟩
    refine ⟨_, ldAn (Sub.refl _) (O26.all 1 rfl) (T_api_Func.T.len _ _ _ he20), ?_⟩
    obtain ⟨y27, g28, e⟩ := bind_e e
    refine CallF.mono (f_2 _ _ O.up O26.s _ _ he7 _ _ he20 _ g28) ?_
    rintro _ h29 ⟨rfl, x30⟩
    have O31 := O26.ext x30
    refine ⟨_, rfl, ?_⟩
    refine split_not ?_
    refine split_any_e e (fun c34 e => ?_) (fun c34 e => ?_)
    · have O32 := O31.nm
      exact (ih _ _ e) _ _ _ _ _ _ _ _ _ _ _ _ (O32.pick []).nm rfl k_1 r_1 f_2 rfl k_15 r_15
    · have O33 := O31.nm
      cases e
      exact ⟨_, O33.pick [], rfl⟩
  · cases e
    exact ⟨_, O.pick [], rfl⟩
theorem slices_EqualFunc_37.l0_k.all {p : slices_EqualFunc_37.l0_k.Pt} {r : (Bool)} (e : slices_EqualFunc_37.l0_k.go p = some r) : slices_EqualFunc_37.l0_k.I p r := fixF_ind (β := fun _ => (Bool)) slices_EqualFunc_37.l0_k.mono (I := slices_EqualFunc_37.l0_k.I) (fun go ih p r e => match p with
  | .l0 a_1 p_2 a_15 x_16 x_17 => slices_EqualFunc_37.l0_k.step_l0 go ih a_1 p_2 a_15 x_16 x_17 r e
  ) e
theorem slices_EqualFunc_37.l0.walk {W : Nat → Prop} {h0 m0 h m : Heap} {A_1 : Option Addr} {n_1 c_1 : Nat} {fv_2 : Value} {A_15 : Option Addr} {n_15 c_15 : Nat} {a_1 : List T_api_Func} {p_2 : T_api_Func → T_api_Func → Option Bool} {a_15 : List T_api_Func} {x_16 : Int} {x_17 : Int} (O : Hold W h0 m0 h m []) (ne_1 : n_1 = List.length a_1) (k_1 : List.length a_1 ≤ c_1) (r_1 : Rd 15 T_api_Func.E m A_1 a_1) (f_2 : ∀ h' m', Sub m0 m' → Sub m' h' → ∀ (y0 : T_api_Func) (cs0 : List Value) (_ : T_api_Func.E m' y0 cs0) (y1 : T_api_Func) (cs1 : List Value) (_ : T_api_Func.E m' y1 cs1) (r : Bool), p_2 y0 y1 = some r → CallF Tryd.prog fv_2 [.agg cs0.toArray, .agg cs1.toArray] h' (fun v h'' => v = .bool r ∧ Ext h' h'')) (ne_15 : n_15 = List.length a_15) (k_15 : List.length a_15 ≤ c_15) (r_15 : Rd 15 T_api_Func.E m A_15 a_15) {r : Bool} (e : slices_EqualFunc_37.l0 a_1 p_2 a_15 x_16 x_17 = some r) : f37.l0 (slices_EqualFunc_37.post W h0 m0 r) A_1 n_1 c_1 fv_2 A_15 n_15 c_15 x_16 x_17 h := slices_EqualFunc_37.l0_k.all (p := .l0 a_1 p_2 a_15 x_16 x_17) e W h0 m0 h m A_1 n_1 c_1 fv_2 A_15 n_15 c_15 O ne_1 k_1 r_1 f_2 ne_15 k_15 r_15
noncomputable def slices_EqualFunc_37 (a_0 : List T_api_Func) (a_1 : List T_api_Func) (p_2 : T_api_Func → T_api_Func → Option Bool) : Option (Bool) :=
  if (((List.length a_0) : Nat) : Int) = (((List.length a_1) : Nat) : Int) then ((slices_EqualFunc_37.l0 a_1 p_2 a_0 (((List.length a_0) : Nat) : Int) (0 : Int))) else (some (false))
set_option maxRecDepth 100000 in
theorem slices_EqualFunc_37.walk {W : Nat → Prop} {h m : Heap} {A_0 : Option Addr} {n_0 c_0 : Nat} {A_1 : Option Addr} {n_1 c_1 : Nat} {fv_2 : Value} {a_0 : List T_api_Func} {a_1 : List T_api_Func} {p_2 : T_api_Func → T_api_Func → Option Bool} (O : Hold W h m h m []) (ne_0 : n_0 = List.length a_0) (k_0 : List.length a_0 ≤ c_0) (r_0 : Rd 15 T_api_Func.E m A_0 a_0) (ne_1 : n_1 = List.length a_1) (k_1 : List.length a_1 ≤ c_1) (r_1 : Rd 15 T_api_Func.E m A_1 a_1) (f_2 : ∀ h' m', Sub m m' → Sub m' h' → ∀ (y0 : T_api_Func) (cs0 : List Value) (_ : T_api_Func.E m' y0 cs0) (y1 : T_api_Func) (cs1 : List Value) (_ : T_api_Func.E m' y1 cs1) (r : Bool), p_2 y0 y1 = some r → CallF Tryd.prog fv_2 [.agg cs0.toArray, .agg cs1.toArray] h' (fun v h'' => v = .bool r ∧ Ext h' h'')) {r : Bool} (e : slices_EqualFunc_37 a_0 a_1 p_2 = some r) : Run Tryd.prog 37 #[Value.slice A_0 n_0 c_0, Value.slice A_1 n_1 c_1, fv_2] h (slices_EqualFunc_37.post W h m r) := by
  unfold slices_EqualFunc_37 at e
  subst ne_0
  subst ne_1
  refine f37.run ?_
  unfold f37.runT
  refine split_ne_e e (fun c1 e => ?_) (fun c1 e => ?_)
  · cases e
    exact ⟨_, O.pick [], rfl⟩
  · exact slices_EqualFunc_37.l0.walk (O.pick []).nm rfl k_1 r_1 f_2 rfl k_0 r_0 e
def slices_EqualFunc_68_s2.post (W : Nat → Prop) (h0 m0 : Heap) (r : Bool) (v : Value) (h : Heap) : Prop := ∃ m , Hold W h0 m0 h m [] ∧ v = .bool r
def tree_SamePat.post (W : Nat → Prop) (h0 m0 : Heap) (r : Bool) (v : Value) (h : Heap) : Prop := ∃ m , Hold W h0 m0 h m [] ∧ v = .bool r
inductive tree_SamePat_k.Pt where
  | f_65 (y_0 : T_api_Pat) (y_1 : T_api_Pat)
  | f_1000001 (a_0 : List T_api_Pat) (a_1 : List T_api_Pat)
  | l0_1000001 (a_1 : List T_api_Pat) (a_15 : List T_api_Pat) (x_16 : Int) (x_17 : Int)
noncomputable def tree_SamePat_k.body (go : (p : tree_SamePat_k.Pt) → Option (Bool)) : (p : tree_SamePat_k.Pt) → Option (Bool)
  | .f_65 y_0 y_1 => if y_0.Kind = y_1.Kind then (if y_0.Num = y_1.Num then (if y_0.Text = y_1.Text then (Option.bind ((go (.f_1000001 y_0.Args y_1.Args))) fun y19 => some (y19)) else (some (false))) else (some (false))) else (some (false))
  | .f_1000001 a_0 a_1 => if (((List.length a_0) : Nat) : Int) = (((List.length a_1) : Nat) : Int) then ((go (.l0_1000001 a_1 a_0 (((List.length a_0) : Nat) : Int) (0 : Int)))) else (some (false))
  | .l0_1000001 a_1 a_15 x_16 x_17 => if x_17 < x_16 then (Option.bind (gi a_15 x_17) fun y1 => Option.bind (gi a_1 x_17) fun y14 => Option.bind ((go (.f_65 y1 y14))) fun y27 => if y27 = true then ((go (.l0_1000001 a_1 a_15 x_16 (IntKind.wrap .i64 (x_17 + (1 : Int)))))) else (some (false))) else (some (true))
theorem tree_SamePat_k.mono : MonoF (β := fun _ => (Bool)) tree_SamePat_k.body := fun f g hfg p => match p with
  | .f_65 y_0 y_1 => LeO.ite (LeO.ite (LeO.ite (LeO.bind ((hfg _)) fun y19 => LeO.refl _) (LeO.refl _)) (LeO.refl _)) (LeO.refl _)
  | .f_1000001 a_0 a_1 => LeO.ite ((hfg _)) (LeO.refl _)
  | .l0_1000001 a_1 a_15 x_16 x_17 => LeO.ite (LeO.bind (LeO.refl _) fun y1 => LeO.bind (LeO.refl _) fun y14 => LeO.bind ((hfg _)) fun y27 => LeO.ite ((hfg _)) (LeO.refl _)) (LeO.refl _)
noncomputable def tree_SamePat_k.go (p : tree_SamePat_k.Pt) : Option (Bool) := fixF (β := fun _ => (Bool)) tree_SamePat_k.body p
noncomputable def tree_SamePat (y_0 : T_api_Pat) (y_1 : T_api_Pat) : Option (Bool) := tree_SamePat_k.go (.f_65 y_0 y_1)
noncomputable def slices_EqualFunc_68_s2 (a_0 : List T_api_Pat) (a_1 : List T_api_Pat) : Option (Bool) := tree_SamePat_k.go (.f_1000001 a_0 a_1)
noncomputable def slices_EqualFunc_68_s2.l0 (a_1 : List T_api_Pat) (a_15 : List T_api_Pat) (x_16 : Int) (x_17 : Int) : Option (Bool) := tree_SamePat_k.go (.l0_1000001 a_1 a_15 x_16 x_17)
theorem tree_SamePat_eq (y_0 : T_api_Pat) (y_1 : T_api_Pat) : tree_SamePat y_0 y_1 = if y_0.Kind = y_1.Kind then (if y_0.Num = y_1.Num then (if y_0.Text = y_1.Text then (Option.bind ((slices_EqualFunc_68_s2 y_0.Args y_1.Args)) fun y19 => some (y19)) else (some (false))) else (some (false))) else (some (false)) := fixF_eq tree_SamePat_k.mono _
theorem slices_EqualFunc_68_s2_eq (a_0 : List T_api_Pat) (a_1 : List T_api_Pat) : slices_EqualFunc_68_s2 a_0 a_1 = if (((List.length a_0) : Nat) : Int) = (((List.length a_1) : Nat) : Int) then ((slices_EqualFunc_68_s2.l0 a_1 a_0 (((List.length a_0) : Nat) : Int) (0 : Int))) else (some (false)) := fixF_eq tree_SamePat_k.mono _
theorem slices_EqualFunc_68_s2.l0_eq (a_1 : List T_api_Pat) (a_15 : List T_api_Pat) (x_16 : Int) (x_17 : Int) : slices_EqualFunc_68_s2.l0 a_1 a_15 x_16 x_17 = if x_17 < x_16 then (Option.bind (gi a_15 x_17) fun y1 => Option.bind (gi a_1 x_17) fun y14 => Option.bind ((tree_SamePat y1 y14)) fun y27 => if y27 = true then ((slices_EqualFunc_68_s2.l0 a_1 a_15 x_16 (IntKind.wrap .i64 (x_17 + (1 : Int))))) else (some (false))) else (some (true)) := fixF_eq tree_SamePat_k.mono _
def tree_SamePat_k.I : (p : tree_SamePat_k.Pt) → (Bool) → Prop
  | .f_65 y_0 y_1, r => ∀ (W : Nat → Prop) (h m : Heap) (cs_0 : List Value) (cs_1 : List Value) (O : Hold W h m h m []) (e_0 : T_api_Pat.E m y_0 cs_0) (e_1 : T_api_Pat.E m y_1 cs_1), Run Tryd.prog 65 #[Value.agg cs_0.toArray, Value.agg cs_1.toArray] h (tree_SamePat.post W h m r)
  | .f_1000001 a_0 a_1, r => ∀ (W : Nat → Prop) (h m : Heap) (A_0 : Option Addr) (n_0 c_0 : Nat) (A_1 : Option Addr) (n_1 c_1 : Nat) (O : Hold W h m h m []) (ne_0 : n_0 = List.length a_0) (k_0 : List.length a_0 ≤ c_0) (r_0 : Rd 4 T_api_Pat.E m A_0 a_0) (ne_1 : n_1 = List.length a_1) (k_1 : List.length a_1 ≤ c_1) (r_1 : Rd 4 T_api_Pat.E m A_1 a_1), Run Tryd.prog 68 #[Value.slice A_0 n_0 c_0, Value.slice A_1 n_1 c_1, (Value.func (.func 65) #[] #[])] h (slices_EqualFunc_68_s2.post W h m r)
  | .l0_1000001 a_1 a_15 x_16 x_17, r => ∀ (W : Nat → Prop) (h0 m0 h m : Heap) (A_1 : Option Addr) (n_1 c_1 : Nat) (A_15 : Option Addr) (n_15 c_15 : Nat) (O : Hold W h0 m0 h m []) (ne_1 : n_1 = List.length a_1) (k_1 : List.length a_1 ≤ c_1) (r_1 : Rd 4 T_api_Pat.E m A_1 a_1) (ne_15 : n_15 = List.length a_15) (k_15 : List.length a_15 ≤ c_15) (r_15 : Rd 4 T_api_Pat.E m A_15 a_15), f68.l0 (slices_EqualFunc_68_s2.post W h0 m0 r) A_1 n_1 c_1 (Value.func (.func 65) #[] #[]) A_15 n_15 c_15 x_16 x_17 h
set_option maxHeartbeats 4000000 in
set_option maxRecDepth 100000 in
theorem tree_SamePat_k.step_f_65 (go : (p : tree_SamePat_k.Pt) → Option (Bool)) (ih : ∀ p r, go p = some r → tree_SamePat_k.I p r) (y_0 : T_api_Pat) (y_1 : T_api_Pat) (r : Bool) (e : tree_SamePat_k.body go (.f_65 y_0 y_1) = some r) : tree_SamePat_k.I (.f_65 y_0 y_1) r := by
  unfold tree_SamePat_k.body at e
  intro W h m cs_0 cs_1 O e_0 e_1
  refine f65.run ?_
  unfold f65.runT
  refine O.new fun h1 x2 O3 => ?_
  refine O3.new fun h5 x6 O7 => ?_
  refine ⟨_, ld0 (Sub.refl _) (O7.all 0 rfl) (T_api_Pat.g0 e_0), _, rfl, ?_⟩
  refine ⟨_, ld0 (Sub.refl _) (O7.all 1 rfl) (T_api_Pat.g0 e_1), _, rfl, ?_⟩
  refine split_eq_e e (fun c31 e => ?_) (fun c31 e => ?_)
  · refine ⟨_, ldk (k := 1) (Sub.refl _) (O7.all 0 rfl) (T_api_Pat.g1 e_0), _, rfl, ?_⟩
    refine ⟨_, ldk (k := 1) (Sub.refl _) (O7.all 1 rfl) (T_api_Pat.g1 e_1), _, rfl, ?_⟩
    refine split_eq_e e (fun c29 e => ?_) (fun c29 e => ?_)
    · refine ⟨_, ldk (k := 2) (Sub.refl _) (O7.all 0 rfl) (T_api_Pat.g2 e_0), _, rfl, ?_⟩
      refine ⟨_, ldk (k := 2) (Sub.refl _) (O7.all 1 rfl) (T_api_Pat.g2 e_1), _, rfl, ?_⟩
      try rw [ba_list y_0.Text y_1.Text]
      refine split_dec_e e (fun c27 e => ?_) (fun c27 e => ?_)
      · obtain ⟨A9, c10, q11, k12, r13⟩ := T_api_Pat.g3 e_0
        refine ⟨_, ldk (k := 3) (Sub.refl _) (O7.all 0 rfl) q11, _, _, _, rfl, ?_⟩
        obtain ⟨A14, c15, q16, k17, r18⟩ := T_api_Pat.g3 e_1
        refine ⟨_, ldk (k := 3) (Sub.refl _) (O7.all 1 rfl) q16, _, _, _, rfl, ?_⟩
        obtain ⟨y19, g20, e⟩ := bind_e e
        refine ((ih _ _ g20) _ _ _ _ _ _ _ _ _ (Hold.start (W := No) O7.s) rfl k12 r13 rfl k17 r18).mono ?_
        rintro _ h21 ⟨m22, Q23, rfl⟩
        have O25 := Hold.nm (O7.retC Q23 vfs_nil)
        refine ⟨_, rfl, ?_⟩
        cases e
        exact ⟨_, O25.pick [], rfl⟩
      · have O26 := O7.nm
        cases e
        exact ⟨_, O26.pick [], rfl⟩
    · have O28 := O7.nm
      cases e
      exact ⟨_, O28.pick [], rfl⟩
  · have O30 := O7.nm
    cases e
    exact ⟨_, O30.pick [], rfl⟩
set_option maxRecDepth 100000 in
theorem tree_SamePat_k.step_f_1000001 (go : (p : tree_SamePat_k.Pt) → Option (Bool)) (ih : ∀ p r, go p = some r → tree_SamePat_k.I p r) (a_0 : List T_api_Pat) (a_1 : List T_api_Pat) (r : Bool) (e : tree_SamePat_k.body go (.f_1000001 a_0 a_1) = some r) : tree_SamePat_k.I (.f_1000001 a_0 a_1) r := by
  unfold tree_SamePat_k.body at e
  intro W h m A_0 n_0 c_0 A_1 n_1 c_1 O ne_0 k_0 r_0 ne_1 k_1 r_1
  subst ne_0
  subst ne_1
  refine f68.run ?_
  unfold f68.runT
  refine split_ne_e e (fun c1 e => ?_) (fun c1 e => ?_)
  · cases e
    exact ⟨_, O.pick [], rfl⟩
  · exact (ih _ _ e) _ _ _ _ _ _ _ _ _ _ _ (O.pick []).nm rfl k_1 r_1 rfl k_0 r_0
set_option maxRecDepth 100000 in
theorem tree_SamePat_k.step_l0_1000001 (go : (p : tree_SamePat_k.Pt) → Option (Bool)) (ih : ∀ p r, go p = some r → tree_SamePat_k.I p r) (a_1 : List T_api_Pat) (a_15 : List T_api_Pat) (x_16 : Int) (x_17 : Int) (r : Bool) (e : tree_SamePat_k.body go (.l0_1000001 a_1 a_15 x_16 x_17) = some r) : tree_SamePat_k.I (.l0_1000001 a_1 a_15 x_16 x_17) r := by
  unfold tree_SamePat_k.body at e
  intro W h0 m0 h m A_1 n_1 c_1 A_15 n_15 c_15 O ne_1 k_1 r_1 ne_15 k_15 r_15
  subst ne_1
  subst ne_15
  refine f68.l0_in ?_
  unfold f68.l0T
  refine split_dec_e e (fun c35 e => ?_) (fun c35 e => ?_)
  · obtain ⟨y1, g2, e⟩ := bind_e e
    refine r_15.addr rfl g2 fun a3 cs4 ha5 hc6 he7 => ?_
    refine ⟨_, ldAn O.s hc6 rfl, ?_⟩
    refine O.new fun h8 x9 O10 => ?_
    refine ⟨_, rfl, (T_api_Pat.T.len _ _ _ he7), ?_⟩
    refine O10.stA 0 rfl (T_api_Pat.T.len _ _ _ he7) (T_api_Pat.T.flat _ _ _ he7) fun h12 O13 => ?_
    obtain ⟨y14, g15, e⟩ := bind_e e
    refine r_1.addr rfl g15 fun a16 cs17 ha18 hc19 he20 => ?_
    refine ⟨_, ldAn O13.s hc19 rfl, ?_⟩
    refine O13.new fun h21 x22 O23 => ?_
    refine ⟨_, rfl, (T_api_Pat.T.len _ _ _ he20), ?_⟩
    refine O23.stA 1 rfl (T_api_Pat.T.len _ _ _ he20) (T_api_Pat.T.flat _ _ _ he20) fun h25 O26 => ?_
    refine ⟨_, ldAn (Sub.refl _) (O26.all 0 rfl) (T_api_Pat.T.len _ _ _ he7), ?_⟩
    refine ⟨_, ldAn (Sub.refl _) (O26.all 1 rfl) (T_api_Pat.T.len _ _ _ he20), ?_⟩
    obtain ⟨y27, g28, e⟩ := bind_e e
    refine CallF.of [(Value.agg (List.toArray cs4)), (Value.agg (List.toArray cs17))] f65.ok rfl ?_
    refine ((ih _ _ g28) _ _ _ _ _ (Hold.start (W := No) O26.s) he7 he20).mono ?_
    rintro _ h29 ⟨m30, Q31, rfl⟩
    have O33 := Hold.nm (O26.retC Q31 vfs_nil)
    refine ⟨_, rfl, ?_⟩
    refine split_not ?_
    refine split_any_e e (fun c34 e => ?_) (fun c34 e => ?_)
    · exact (ih _ _ e) _ _ _ _ _ _ _ _ _ _ _ (O33.pick []).nm rfl k_1 r_1 rfl k_15 r_15
    · cases e
      exact ⟨_, O33.pick [], rfl⟩
  · cases e
    exact ⟨_, O.pick [], rfl⟩
theorem tree_SamePat_k.all {p : tree_SamePat_k.Pt} {r : (Bool)} (e : tree_SamePat_k.go p = some r) : tree_SamePat_k.I p r := fixF_ind (β := fun _ => (Bool)) tree_SamePat_k.mono (I := tree_SamePat_k.I) (fun go ih p r e => match p with
  | .f_65 y_0 y_1 => tree_SamePat_k.step_f_65 go ih y_0 y_1 r e
  | .f_1000001 a_0 a_1 => tree_SamePat_k.step_f_1000001 go ih a_0 a_1 r e
  | .l0_1000001 a_1 a_15 x_16 x_17 => tree_SamePat_k.step_l0_1000001 go ih a_1 a_15 x_16 x_17 r e
  ) e
theorem tree_SamePat.walk {W : Nat → Prop} {h m : Heap} {cs_0 : List Value} {cs_1 : List Value} {y_0 : T_api_Pat} {y_1 : T_api_Pat} (O : Hold W h m h m []) (e_0 : T_api_Pat.E m y_0 cs_0) (e_1 : T_api_Pat.E m y_1 cs_1) {r : Bool} (e : tree_SamePat y_0 y_1 = some r) : Run Tryd.prog 65 #[Value.agg cs_0.toArray, Value.agg cs_1.toArray] h (tree_SamePat.post W h m r) := tree_SamePat_k.all (p := .f_65 y_0 y_1) e W h m cs_0 cs_1 O e_0 e_1
end Go.Proofs.YtnlocljmalhddabDoor.Fw

end
