/- Part 3: what the law SchemeSays needs, put together out of texts of this session. -/
import Derived.Lib.LaidTab
import Derived.Lib.ItoaNum
import Derived.Sort.Grow
import Derived.Deep.Draws
import Derived.Shelf.Bodies
import Derived.Shelf.LaysM
import Derived.Shelf.Strconv.Itoa3
import Derived.Test.YtdlihfedhojdgaaDoorProg
import Derived.Test.YtdlihfedhojdgaaDoorZSchemeSaysb
section
set_option linter.unusedVariables false
namespace Go.Hw
open Go
abbrev Foot := Nat → Prop
def U (F G : Foot) : Foot := fun b => F b ∨ G b
section
variable {F G H F' G' : Foot}
theorem U.no_left : U No F = F := funext fun _ => propext ⟨fun h => h.elim (fun h => h.elim) id, .inr⟩
theorem U.no_right : U F No = F := funext fun _ => propext ⟨fun h => h.elim id (fun h => h.elim), .inl⟩
theorem U.assoc : U (U F G) H = U F (U G H) := funext fun _ => propext or_assoc
theorem U.comm : U F G = U G F := funext fun _ => propext or_comm
theorem U.left_comm : U F (U G H) = U G (U F H) := by rw [← U.assoc, U.comm (F := F), U.assoc]
theorem Dj.u (d : Dj F H) (d' : Dj G H) : Dj (U F G) H := fun b h k => h.elim (fun h => d b h k) (fun h => d' b h k)
theorem Dj.ul (d : Dj (U F G) H) : Dj F H := fun b h k => d b (.inl h) k
theorem Dj.ur (d : Dj (U F G) H) : Dj G H := fun b h k => d b (.inr h) k
theorem Dj.u' (d : Dj H F) (d' : Dj H G) : Dj H (U F G) := fun b k h => h.elim (fun h => d b k h) (fun h => d' b k h)
theorem Dj.ul' (d : Dj H (U F G)) : Dj H F := fun b k h => d b k (.inl h)
theorem Dj.ur' (d : Dj H (U F G)) : Dj H G := fun b k h => d b k (.inr h)
theorem Dj.no' : Dj F No := fun _ _ h => h
theorem Dj.mono (d : Dj F G) (h1 : ∀ b, F' b → F b) (h2 : ∀ b, G' b → G b) : Dj F' G' := fun b k l => d b (h1 b k) (h2 b l)
end
structure Res where
  p : Heap → Heap → Foot → Prop
  z : Heap → Prop
  lt : ∀ {h m F}, p h m F → ∀ b, F b → b < h.size
  nl : ∀ {h m F}, p h m F → ∀ b, F b → ¬ Live m b
  fr : ∀ {h m F h' m'}, p h m F → (∀ b, F b → h'[b]? = h[b]?) → Sub m m' → (∀ b, F b → ¬ Live m' b) → p h' m' F
  fz : ∀ {h m F G}, p h m F → Sub m h → (∀ b, F b → G b) → z (addV m h G)
def Res.vf (R : Res) : Prop := ∀ h m m' F, R.p h m F → Sub m' h → (∀ b, F b → ¬ Live m' b) → R.p h m' F
def rE : Res where
  p _ _ F := F = No
  z _ := True
  lt := by rintro h m F rfl b hb; exact hb.elim
  nl := by rintro h m F rfl b hb; exact hb.elim
  fr := fun h _ _ _ => h
  fz := fun _ _ _ => trivial
def Sep : List Res → Heap → Heap → Foot → Prop
  | [], _, _, F => F = No
  | R :: Rs, h, m, F => ∃ F1 F2, R.p h m F1 ∧ Sep Rs h m F2 ∧ Dj F1 F2 ∧ F = U F1 F2
def ZAll (m : Heap) : List Res → Prop
  | [] => True
  | R :: Rs => R.z m ∧ ZAll m Rs
def takeL : List Res → List Nat → List Res
  | _, [] => []
  | Rs, i :: is => (match Rs[i]? with | some R => R | none => rE) :: takeL (Rs.set i rE) is
def dropL : List Res → List Nat → List Res
  | Rs, [] => Rs
  | Rs, i :: is => dropL (Rs.set i rE) is
section
variable {h h' m m' : Heap} {F F1 F2 G : Foot} {Rs Rs' : List Res} {R R' : Res} {k : Nat}
theorem Sep.lt : ∀ {Rs : List Res} {F : Foot}, Sep Rs h m F → ∀ b, F b → b < h.size
  | [], _, hs, b, hb => by rw [show _ = No from hs] at hb; exact hb.elim
  | _ :: _, _, ⟨_, _, h1, h2, _, rfl⟩, b, hb => hb.elim (Res.lt _ h1 b) (Sep.lt h2 b)
theorem Sep.nl : ∀ {Rs : List Res} {F : Foot}, Sep Rs h m F → ∀ b, F b → ¬ Live m b
  | [], _, hs, b, hb => by rw [show _ = No from hs] at hb; exact hb.elim
  | _ :: _, _, ⟨_, _, h1, h2, _, rfl⟩, b, hb => hb.elim (Res.nl _ h1 b) (Sep.nl h2 b)
theorem Sep.fr : ∀ {Rs : List Res} {F : Foot}, Sep Rs h m F → (∀ b, F b → h'[b]? = h[b]?) → Sub m m' → (∀ b, F b → ¬ Live m' b) → Sep Rs h' m' F
  | [], _, hs, _, _, _ => hs
  | _ :: _, _, ⟨F1, F2, h1, h2, h3, rfl⟩, k1, k2, k3 => ⟨F1, F2, Res.fr _ h1 (fun b hb => k1 b (.inl hb)) k2 (fun b hb => k3 b (.inl hb)), Sep.fr h2 (fun b hb => k1 b (.inr hb)) k2 (fun b hb => k3 b (.inr hb)), h3, rfl⟩
theorem Sep.fz : ∀ {Rs : List Res} {F : Foot}, Sep Rs h m F → Sub m h → (∀ b, F b → G b) → ZAll (addV m h G) Rs
  | [], _, _, _, _ => trivial
  | _ :: _, _, ⟨F1, F2, h1, h2, h3, rfl⟩, k1, k2 => ⟨Res.fz _ h1 k1 (fun b hb => k2 b (.inl hb)), Sep.fz h2 k1 (fun b hb => k2 b (.inr hb))⟩
theorem Sep.vf : ∀ {Rs : List Res} {F : Foot}, Sep Rs h m F → (∀ R ∈ Rs, R.vf) → Sub m' h → (∀ b, F b → ¬ Live m' b) → Sep Rs h m' F
  | [], _, hs, _, _, _ => hs
  | R :: Rs, _, ⟨F1, F2, h1, h2, h3, rfl⟩, v, k1, k2 => ⟨F1, F2, v R (List.mem_cons_self ..) _ _ _ _ h1 k1 (fun b hb => k2 b (.inl hb)), Sep.vf h2 (fun R hR => v R (List.mem_cons_of_mem _ hR)) k1 (fun b hb => k2 b (.inr hb)), h3, rfl⟩
theorem Sep.get : ∀ {Rs : List Res} {F : Foot} {k : Nat}, Sep Rs h m F → Rs[k]? = some R → ∃ F1 F2, R.p h m F1 ∧ Sep (Rs.set k rE) h m F2 ∧ Dj F1 F2 ∧ F = U F1 F2
  | [], _, _, _, hk => by cases hk
  | R' :: Rs, _, 0, ⟨F1, F2, h1, h2, h3, e⟩, hk => by
    cases hk
    exact ⟨F1, F2, h1, ⟨No, F2, rfl, h2, .no, U.no_left.symm⟩, h3, e⟩
  | R' :: Rs, _, k + 1, ⟨F1, F2, h1, h2, h3, e⟩, hk => by
    obtain ⟨G1, G2, k1, k2, k3, rfl⟩ := Sep.get h2 (show Rs[k]? = some R by simpa using hk)
    refine ⟨G1, U F1 G2, k1, ⟨F1, G2, h1, k2, h3.ur', rfl⟩, ?_, ?_⟩
    · exact Dj.u' h3.ul'.symm k3
    · rw [e, U.left_comm]
theorem Sep.put : ∀ {Rs : List Res} {F2 : Foot} {k : Nat}, Sep Rs h m F2 → Rs[k]? = some rE → R'.p h m F1 → Dj F1 F2 → Sep (Rs.set k R') h m (U F1 F2)
  | [], _, _, _, hk, _, _ => by cases hk
  | R :: Rs, _, 0, ⟨G1, G2, h1, h2, h3, e⟩, hk, hp, d => by
    cases hk
    have : G1 = No := h1
    subst this
    rw [U.no_left] at e
    subst e
    exact ⟨F1, _, hp, h2, d, rfl⟩
  | R :: Rs, _, k + 1, ⟨G1, G2, h1, h2, h3, e⟩, hk, hp, d => by
    subst e
    have := Sep.put h2 (show Rs[k]? = some rE by simpa using hk) hp d.ur'
    exact ⟨G1, _, h1, this, Dj.u' d.ul'.symm h3, by rw [U.left_comm]⟩
theorem Sep.app : ∀ {Rs : List Res} {F : Foot}, Sep Rs h m F → Sep Rs' h m G → Dj F G → Sep (Rs ++ Rs') h m (U F G)
  | [], _, hs, hs', _ => by rw [show _ = No from hs, U.no_left]; exact hs'
  | R :: Rs, _, ⟨F1, F2, h1, h2, h3, e⟩, hs', d => by
    subst e
    exact ⟨F1, _, h1, Sep.app h2 hs' d.ur, Dj.u' h3 d.ul, U.assoc⟩
theorem Sep.one (hp : R.p h m F) : Sep [R] h m F := ⟨F, No, hp, rfl, .no', U.no_right.symm⟩
theorem set_rE (hk : Rs[k]? = some R) : (Rs.set k rE)[k]? = some rE := by
  have : k < Rs.length := (List.getElem?_eq_some_iff.1 hk).1
  rw [List.getElem?_set_self this]
theorem Sep.part : ∀ (is : List Nat) {Rs : List Res} {F : Foot}, Sep Rs h m F → ∃ F1 F2, Sep (takeL Rs is) h m F1 ∧ Sep (dropL Rs is) h m F2 ∧ Dj F1 F2 ∧ F = U F1 F2
  | [], Rs, F, hs => ⟨No, F, rfl, hs, .no, U.no_left.symm⟩
  | i :: is, Rs, F, hs => by
    cases hi : Rs[i]? with
    | none =>
      have : Rs.set i rE = Rs := List.set_eq_of_length_le (List.getElem?_eq_none_iff.1 hi)
      obtain ⟨F1, F2, h1, h2, h3, h4⟩ := Sep.part is (Rs := Rs.set i rE) (by rw [this]; exact hs)
      refine ⟨F1, F2, ?_, h2, h3, h4⟩
      simp only [takeL, hi]
      exact ⟨No, F1, rfl, h1, .no, U.no_left.symm⟩
    | some R =>
      obtain ⟨G1, G2, k1, k2, k3, rfl⟩ := Sep.get hs hi
      obtain ⟨F1, F2, h1, h2, h3, rfl⟩ := Sep.part is k2
      refine ⟨U G1 F1, F2, ?_, h2, Dj.u k3.ur' h3, U.assoc.symm⟩
      simp only [takeL, hi]
      exact ⟨G1, F1, k1, h1, k3.ul', rfl⟩
end
structure Hold (W : Foot) (h0 m0 h m : Heap) (Rs : List Res) : Prop where
  S : St W h0 m0 h m
  q : ∃ F, Sep Rs h m F ∧ ∀ b, F b → h0.size ≤ b ∨ W b
section
variable {h0 m0 h h' m m' : Heap} {W F F' G : Foot} {Rs Rs' : List Res} {R R' : Res} {k : Nat}
theorem Hold.s (O : Hold W h0 m0 h m Rs) : Sub m h := O.S.s
theorem Hold.start (s : Sub m h) : Hold W h m h m [] := ⟨.refl s, No, rfl, fun _ h => h.elim⟩
theorem St.frame (T : St F h m h' m') (h2 : Dj F G) (h3 : ∀ b, G b → b < h.size) (h4 : ∀ b, G b → ¬ Live m b) : (∀ b, G b → h'[b]? = h[b]?) ∧ ∀ b, G b → ¬ Live m' b :=
  ⟨fun b hb => T.fr b (h3 b hb) (fun hf => h2 b hf hb), fun b hb hl => (T.lv b (h3 b hb) hl).elim (h4 b hb) (fun hf => h2 b hf hb)⟩
theorem Hold.get (O : Hold W h0 m0 h m Rs) (k : Nat) (hk : Rs[k]? = some R) : ∃ F, R.p h m F ∧ (∀ b, F b → h0.size ≤ b ∨ W b) ∧
    ∀ {h' m' : Heap} {R' : Res} {F' : Foot}, St F h m h' m' → R'.p h' m' F' → (∀ b, F' b → F b ∨ h.size ≤ b) → Hold W h0 m0 h' m' (Rs.set k R') := by
  obtain ⟨S, FF, hs, hw⟩ := O
  obtain ⟨F1, F2, h1, h2, h3, rfl⟩ := hs.get hk
  refine ⟨F1, h1, fun b hb => hw b (.inl hb), fun {h' m' R' F'} T hp hn => ?_⟩
  obtain ⟨f1, f2⟩ := T.frame h3 h2.lt h2.nl
  have s2 := Sep.fr h2 f1 T.up f2
  have d : Dj F' F2 := fun b hb hc => (hn b hb).elim (fun hf => h3 b hf hc) (fun hl => by have := h2.lt b hc; omega)
  have := Sep.put s2 (set_rE hk) hp d
  rw [List.set_set] at this
  refine ⟨S.then T (fun b _ hb => hw b (.inl hb)), _, this, fun b hb => hb.elim (fun hb => (hn b hb).elim (fun hf => hw b (.inl hf)) (fun hl => .inl (Nat.le_trans S.size hl))) (fun hb => hw b (.inr hb))⟩
theorem Hold.add (O : Hold W h0 m0 h m Rs) (T : St No h m h' m') (hp : R.p h' m' F') (hn : ∀ b, F' b → h.size ≤ b) : Hold W h0 m0 h' m' (Rs ++ [R]) := by
  obtain ⟨S, F, hs, hw⟩ := O
  obtain ⟨f1, f2⟩ := T.frame (G := F) .no hs.lt hs.nl
  refine ⟨S.grow T, _, (Sep.fr hs f1 T.up f2).app (.one hp) (fun b hb hc => by have := hs.lt b hb; have := hn b hc; omega), fun b hb => hb.elim (hw b) (fun hb => .inl (Nat.le_trans S.size (hn b hb)))⟩
theorem Hold.grow (O : Hold W h0 m0 h m Rs) (T : St No h m h' m') : Hold W h0 m0 h' m' Rs := by
  obtain ⟨S, F, hs, hw⟩ := O
  obtain ⟨f1, f2⟩ := T.frame (G := F) .no hs.lt hs.nl
  exact ⟨S.grow T, F, Sep.fr hs f1 T.up f2, hw⟩
theorem Hold.ext (O : Hold W h0 m0 h m Rs) (e : Ext h h') : Hold W h0 m0 h' m Rs := O.grow (St.of_ext O.s e)
theorem Hold.adds (O : Hold W h0 m0 h m Rs) (hp : R.p h m No) : Hold W h0 m0 h m (Rs ++ [R]) := O.add (.refl O.s) hp (fun _ h => h.elim)
theorem Hold.conv (O : Hold W h0 m0 h m Rs) (k : Nat) (hk : Rs[k]? = some R) (H : ∀ F, R.p h m F → ∃ F', R'.p h m F' ∧ ∀ b, F' b → F b) : Hold W h0 m0 h m (Rs.set k R') := by
  obtain ⟨F, h1, _, h3⟩ := O.get k hk
  obtain ⟨F', h4, h5⟩ := H F h1
  exact h3 (.refl O.s) h4 (fun b hb => .inl (h5 b hb))
theorem Hold.pick (O : Hold W h0 m0 h m Rs) (is : List Nat) : Hold W h0 m0 h m (takeL Rs is) := by
  obtain ⟨S, F, hs, hw⟩ := O
  obtain ⟨F1, F2, h1, h2, h3, rfl⟩ := hs.part is
  exact ⟨S, F1, h1, fun b hb => hw b (.inl hb)⟩
theorem Hold.call (O : Hold W h0 m0 h m Rs) (is : List Nat) : ∃ W', Hold W' h m h m (takeL Rs is) ∧ ∀ {h' m' : Heap} {Rs' : List Res}, Hold W' h m h' m' Rs' → Hold W h0 m0 h' m' (dropL Rs is ++ Rs') := by
  obtain ⟨S, F, hs, hw⟩ := O
  obtain ⟨F1, F2, h1, h2, h3, rfl⟩ := hs.part is
  refine ⟨F1, ⟨.refl S.s, F1, h1, fun b hb => .inr hb⟩, fun {h' m' Rs'} O' => ?_⟩
  obtain ⟨T, F', hs', hw'⟩ := O'
  obtain ⟨f1, f2⟩ := T.frame h3 h2.lt h2.nl
  refine ⟨S.then T (fun b _ hb => hw b (.inl hb)), _, (Sep.fr h2 f1 T.up f2).app hs' (fun b hb hc => (hw' b hc).elim (fun hl => by have := h2.lt b hb; omega) (fun hf => h3 b hf hb)), fun b hb => hb.elim (fun hb => hw b (.inr hb)) (fun hb => (hw' b hb).elim (fun hl => .inl (Nat.le_trans S.size hl)) (fun hf => hw b (.inl hf)))⟩
theorem Hold.callC (O : Hold W h0 m0 h m Rs) (is : List Nat) : ∃ W', Hold W' h m h m (takeL Rs is) ∧
    (∀ {h' m' : Heap} {Rs' : List Res}, Hold W' h m h' m' Rs' → Hold W h0 m0 h' m' (dropL Rs is ++ Rs')) ∧
    (∀ {h' m' : Heap} {Rs' : List Res}, Hold W' h m h' m' Rs' → (∀ R ∈ Rs', R.vf) → Hold W h0 m0 h' m (dropL Rs is ++ Rs')) := by
  obtain ⟨S, F, hs, hw⟩ := O
  obtain ⟨F1, F2, h1, h2, h3, rfl⟩ := hs.part is
  have key : ∀ {h' m' : Heap} {Rs' : List Res}, Hold F1 h m h' m' Rs' → Hold W h0 m0 h' m' (dropL Rs is ++ Rs') := fun {h' m' Rs'} O' => by
    obtain ⟨T, F', hs', hw'⟩ := O'
    obtain ⟨f1, f2⟩ := T.frame h3 h2.lt h2.nl
    exact ⟨S.then T (fun b _ hb => hw b (.inl hb)), _, (Sep.fr h2 f1 T.up f2).app hs' (fun b hb hc => (hw' b hc).elim (fun hl => by have := h2.lt b hb; omega) (fun hf => h3 b hf hb)), fun b hb => hb.elim (fun hb => hw b (.inr hb)) (fun hb => (hw' b hb).elim (fun hl => .inl (Nat.le_trans S.size hl)) (fun hf => hw b (.inl hf)))⟩
  refine ⟨F1, ⟨.refl S.s, F1, h1, fun b hb => .inr hb⟩, key, fun {h' m' Rs'} O' v => key ?_⟩
  obtain ⟨T, F', hs', hw'⟩ := O'
  have T' : St F1 h m h' m := T.unlend S.s h1.nl
  exact ⟨T', F', hs'.vf v T'.s (fun b hb hv => (hw' b hb).elim (fun hl => by have := S.s.lt hv; omega) (fun hf => h1.nl b hf hv)), hw'⟩
theorem Hold.lend (O : Hold W h0 m0 h m Rs) (is ls : List Nat) : ∃ m1 W', Sub m m1 ∧ Hold W' h m1 h m1 (takeL Rs is) ∧ ZAll m1 (takeL (dropL Rs is) ls) ∧
    (∀ {h' m' : Heap} {Rs' : List Res}, Hold W' h m1 h' m' Rs' → Hold W h0 m0 h' m' (dropL (dropL Rs is) ls ++ Rs')) ∧
    (∀ {h' m' : Heap} {Rs' : List Res}, Hold W' h m1 h' m' Rs' → (∀ R ∈ Rs', R.vf) → Hold W h0 m0 h' m (dropL Rs is ++ Rs')) := by
  obtain ⟨S, F, hs, hw⟩ := O
  obtain ⟨F1, F2, h1, h2, h3, rfl⟩ := hs.part is
  obtain ⟨F3, F4, k1, k2, k3, rfl⟩ := h2.part ls
  have hl : ∀ b, Live (addV m h F3) b → Live m b ∨ F3 b := fun b h => (addV_live h).1
  have n1 : ∀ b, F1 b → ¬ Live (addV m h F3) b := fun b hb hv => (hl b hv).elim (h1.nl b hb) (fun hf => h3 b hb (.inl hf))
  have n4 : ∀ b, F4 b → ¬ Live (addV m h F3) b := fun b hb hv => (hl b hv).elim (k2.nl b hb) (fun hf => k3 b hf hb)
  refine ⟨addV m h F3, F1, addV_up S.s, ⟨.refl addV_sub, F1, Sep.fr h1 (fun _ _ => rfl) (addV_up S.s) n1, fun b hb => .inr hb⟩, k1.fz S.s (fun _ h => h), fun {h' m' Rs'} O' => ?_, fun {h' m' Rs'} O' v => ?_⟩
  · obtain ⟨T, F', hs', hw'⟩ := O'
    have k4 := Sep.fr k2 (fun _ _ => rfl) (addV_up S.s) n4
    obtain ⟨f1, f2⟩ := T.frame h3.ur' k2.lt n4
    refine ⟨(S.then (St.settle S.s F3) (fun b _ hb => hw b (.inr (.inl hb)))).then T (fun b _ hb => hw b (.inl hb)), _, (Sep.fr k4 f1 T.up f2).app hs' (fun b hb hc => (hw' b hc).elim (fun hl => by have := k2.lt b hb; omega) (fun hf => h3 b hf (.inr hb))), fun b hb => hb.elim (fun hb => hw b (.inr (.inr hb))) (fun hb => (hw' b hb).elim (fun hl => .inl (Nat.le_trans S.size hl)) (fun hf => hw b (.inl hf)))⟩
  · obtain ⟨T, F', hs', hw'⟩ := O'
    have T' : St F1 h m h' m := T.unlend S.s h1.nl
    obtain ⟨f1, f2⟩ := T'.frame h3 h2.lt h2.nl
    have n' : ∀ b, F' b → ¬ Live m b := fun b hb hv => (hw' b hb).elim (fun hl => by have := S.s.lt hv; omega) (fun hf => h1.nl b hf hv)
    refine ⟨S.then T' (fun b _ hb => hw b (.inl hb)), _, (Sep.fr h2 f1 T'.up f2).app (hs'.vf v T'.s n') (fun b hb hc => (hw' b hc).elim (fun hl => by have := h2.lt b hb; omega) (fun hf => h3 b hf hb)), fun b hb => hb.elim (fun hb => hw b (.inr hb)) (fun hb => (hw' b hb).elim (fun hl => .inl (Nat.le_trans S.size hl)) (fun hf => hw b (.inl hf)))⟩
theorem Hold.frz (O : Hold W h0 m0 h m Rs) (k : Nat) (hk : Rs[k]? = some R) : ∃ m', Sub m m' ∧ R.z m' ∧ Hold W h0 m0 h m' (Rs.set k rE) := by
  obtain ⟨m1, W', h1, h2, h3, h4, _⟩ := O.lend [] [k]
  refine ⟨m1, h1, ?_, ?_⟩
  · have : takeL (dropL Rs []) [k] = [R] := by simp only [takeL, dropL, hk]
    rw [this] at h3
    exact h3.1
  · have := h4 h2
    simp only [takeL, dropL, List.append_nil] at this
    exact this
end
end Go.Hw

end
section
set_option linter.unusedVariables false
namespace Go.Hw
open Go
structure Asn (α : Type) (sz : Nat) where
  p : Heap → Heap → α → List Value → Foot → Prop
  E : Heap → α → List Value → Prop
  T : Tell sz E
  len : ∀ {h m x cs F}, p h m x cs F → cs.length = sz
  flat : ∀ {h m x cs F}, p h m x cs F → ∀ v ∈ cs, Flat v
  lt : ∀ {h m x cs F}, p h m x cs F → ∀ b, F b → b < h.size
  nl : ∀ {h m x cs F}, p h m x cs F → ∀ b, F b → ¬ Live m b
  fr : ∀ {h m x cs F h' m'}, p h m x cs F → (∀ b, F b → h'[b]? = h[b]?) → Sub m m' → (∀ b, F b → ¬ Live m' b) → p h' m' x cs F
  fz : ∀ {h m x cs F G}, p h m x cs F → Sub m h → (∀ b, F b → G b) → E (addV m h G) x cs
def aE {α : Type} {sz : Nat} {E : Heap → α → List Value → Prop} (T : Tell sz E) : Asn α sz where
  p _ m x cs F := E m x cs ∧ F = No
  E := E
  T := T
  len h := T.len _ _ _ h.1
  flat h := T.flat _ _ _ h.1
  lt := by rintro h m x cs F ⟨_, rfl⟩ b hb; exact hb.elim
  nl := by rintro h m x cs F ⟨_, rfl⟩ b hb; exact hb.elim
  fr := fun h _ s _ => ⟨T.mono _ _ _ _ s h.1, h.2⟩
  fz := fun h s _ => T.mono _ _ _ _ (addV_up s) h.1
def Asn.vf {α : Type} {sz : Nat} (a : Asn α sz) : Prop := ∀ h m m' x cs F, a.p h m x cs F → Sub m' h → (∀ b, F b → ¬ Live m' b) → a.p h m' x cs F
theorem aE_vf {α : Type} {sz : Nat} {E : Heap → α → List Value → Prop} {T : Tell sz E} (hE : ∀ m m' x cs, E m x cs → E m' x cs) : (aE T).vf := fun _ _ _ _ _ _ h _ _ => ⟨hE _ _ _ _ h.1, h.2⟩
theorem Blk.fr {h h' : Heap} {b : Nat} {c : List Value} {t : TypeId} (hb : Blk h b c t) (e : h'[b]? = h[b]?) : Blk h' b c t := by unfold Blk at *; rw [e]; exact hb
def rV (b : Nat) (t : TypeId) (cs : List Value) : Res where
  p h m F := Blk h b cs t ∧ ¬ Live m b ∧ F = fb b
  z m := Blk m b cs t
  lt := by rintro h m F ⟨h1, _, rfl⟩ i hi; unfold fb at hi; subst hi; exact h1.lt
  nl := by rintro h m F ⟨h1, h2, rfl⟩ i hi; unfold fb at hi; subst hi; exact h2
  fr := by rintro h m F h' m' ⟨h1, h2, rfl⟩ k1 _ k3; exact ⟨h1.fr (k1 b rfl), k3 b rfl, rfl⟩
  fz := by rintro h m F G ⟨h1, h2, rfl⟩ _ k2; exact h1.settle (k2 b rfl)
section
variable {α : Type} {sz : Nat}
def CsA (a : Asn α sz) (h m : Heap) : List α → List Value → Foot → Prop
  | [], cs, F => cs = [] ∧ F = No
  | x :: l, cs, F => ∃ c1 c2 F1 F2, cs = c1 ++ c2 ∧ a.p h m x c1 F1 ∧ CsA a h m l c2 F2 ∧ Dj F1 F2 ∧ F = U F1 F2
variable {a : Asn α sz} {h h' m m' : Heap} {l l' : List α} {cs ds : List Value} {F F' F1 F2 G : Foot} {x y : α}
theorem CsA.len : ∀ {l : List α} {cs : List Value} {F : Foot}, CsA a h m l cs F → cs.length = l.length * sz
  | [], _, _, ⟨e, _⟩ => by rw [e]; simp
  | x :: l, _, _, ⟨c1, c2, F1, F2, e, h1, h2, _, _⟩ => by rw [e, List.length_append, CsA.len h2, a.len h1, List.length_cons, Nat.succ_mul, Nat.add_comm]
theorem CsA.flat : ∀ {l : List α} {cs : List Value} {F : Foot}, CsA a h m l cs F → ∀ v ∈ cs, Flat v
  | [], _, _, ⟨e, _⟩ => by rw [e]; exact Flats.nil
  | x :: l, _, _, ⟨c1, c2, F1, F2, e, h1, h2, _, _⟩ => by
    rw [e]; intro v hv
    rcases List.mem_append.1 hv with hv | hv
    · exact a.flat h1 v hv
    · exact CsA.flat h2 v hv
theorem CsA.lt : ∀ {l : List α} {cs : List Value} {F : Foot}, CsA a h m l cs F → ∀ b, F b → b < h.size
  | [], _, _, ⟨_, e⟩, b, hb => by rw [e] at hb; exact hb.elim
  | x :: l, _, _, ⟨c1, c2, F1, F2, _, h1, h2, _, rfl⟩, b, hb => hb.elim (a.lt h1 b) (CsA.lt h2 b)
theorem CsA.nl : ∀ {l : List α} {cs : List Value} {F : Foot}, CsA a h m l cs F → ∀ b, F b → ¬ Live m b
  | [], _, _, ⟨_, e⟩, b, hb => by rw [e] at hb; exact hb.elim
  | x :: l, _, _, ⟨c1, c2, F1, F2, _, h1, h2, _, rfl⟩, b, hb => hb.elim (a.nl h1 b) (CsA.nl h2 b)
theorem CsA.fr : ∀ {l : List α} {cs : List Value} {F : Foot}, CsA a h m l cs F → (∀ b, F b → h'[b]? = h[b]?) → Sub m m' → (∀ b, F b → ¬ Live m' b) → CsA a h' m' l cs F
  | [], _, _, hs, _, _, _ => hs
  | x :: l, _, _, ⟨c1, c2, F1, F2, e, h1, h2, d, rfl⟩, k1, k2, k3 => ⟨c1, c2, F1, F2, e, a.fr h1 (fun b hb => k1 b (.inl hb)) k2 (fun b hb => k3 b (.inl hb)), CsA.fr h2 (fun b hb => k1 b (.inr hb)) k2 (fun b hb => k3 b (.inr hb)), d, rfl⟩
theorem CsA.vf (v : a.vf) : ∀ {l : List α} {cs : List Value} {F : Foot}, CsA a h m l cs F → Sub m' h → (∀ b, F b → ¬ Live m' b) → CsA a h m' l cs F
  | [], _, _, hs, _, _ => hs
  | x :: l, _, _, ⟨c1, c2, F1, F2, e, h1, h2, d, rfl⟩, k1, k2 => ⟨c1, c2, F1, F2, e, v _ _ _ _ _ _ h1 k1 (fun b hb => k2 b (.inl hb)), CsA.vf v h2 k1 (fun b hb => k2 b (.inr hb)), d, rfl⟩
theorem CsA.fz : ∀ {l : List α} {cs : List Value} {F : Foot}, CsA a h m l cs F → Sub m h → (∀ b, F b → G b) → CsE sz a.E (addV m h G) l cs
  | [], _, _, ⟨e, _⟩, _, _ => e
  | x :: l, _, _, ⟨c1, c2, F1, F2, e, h1, h2, d, rfl⟩, k1, k2 => ⟨c1, c2, e, a.len h1, a.fz h1 k1 (fun b hb => k2 b (.inl hb)), CsA.fz h2 k1 (fun b hb => k2 b (.inr hb))⟩
theorem CsA.append : ∀ {l : List α} {cs : List Value} {F : Foot}, CsA a h m l cs F → CsA a h m l' ds F' → Dj F F' → CsA a h m (l ++ l') (cs ++ ds) (U F F')
  | [], _, _, ⟨e, e'⟩, h', _ => by subst e; subst e'; rw [U.no_left]; exact h'
  | x :: l, _, _, ⟨c1, c2, F1, F2, e, h1, h2, d, e'⟩, h', dd => by
    subst e; subst e'
    rw [List.append_assoc]
    exact ⟨c1, _, F1, _, rfl, h1, CsA.append h2 h' dd.ur, Dj.u' d dd.ul, U.assoc⟩
theorem CsA.drop : ∀ {l : List α} {cs : List Value} {F : Foot} (k : Nat), CsA a h m l cs F → ∃ F', CsA a h m (l.drop k) (cs.drop (k * sz)) F' ∧ ∀ b, F' b → F b
  | [], _, F, k, ⟨e, e'⟩ => by subst e; subst e'; exact ⟨No, by simp [CsA], fun _ h => h⟩
  | x :: l, _, F, 0, hh => by rw [Nat.zero_mul, List.drop_zero, List.drop_zero]; exact ⟨F, hh, fun _ h => h⟩
  | x :: l, _, F, k + 1, ⟨c1, c2, F1, F2, e, h1, h2, d, e'⟩ => by
    obtain ⟨F', h3, h4⟩ := CsA.drop k h2
    refine ⟨F', ?_, fun b hb => by rw [e']; exact .inr (h4 b hb)⟩
    rw [e, show (k + 1) * sz = c1.length + k * sz by rw [a.len h1, Nat.succ_mul, Nat.add_comm], ← List.drop_drop (l := c1 ++ c2), List.drop_left, List.drop_succ_cons]
    exact h3
theorem CsA.take : ∀ {l : List α} {cs : List Value} {F : Foot} (k : Nat), CsA a h m l cs F → ∃ F', CsA a h m (l.take k) (cs.take (k * sz)) F' ∧ ∀ b, F' b → F b
  | [], _, F, k, ⟨e, e'⟩ => by subst e; subst e'; exact ⟨No, by simp [CsA], fun _ h => h⟩
  | x :: l, _, F, 0, hh => ⟨No, by simp [CsA], fun _ h => h.elim⟩
  | x :: l, _, F, k + 1, ⟨c1, c2, F1, F2, e, h1, h2, d, e'⟩ => by
    obtain ⟨F', h3, h4⟩ := CsA.take k h2
    refine ⟨U F1 F', ?_, fun b hb => by rw [e']; exact hb.elim .inl (fun hb => .inr (h4 b hb))⟩
    rw [e, show (k + 1) * sz = c1.length + k * sz by rw [a.len h1, Nat.succ_mul, Nat.add_comm], List.take_length_add_append, List.take_succ_cons]
    exact ⟨c1, _, F1, F', rfl, h1, h3, d.mono (fun _ h => h) h4, rfl⟩
theorem CsE.csa {E : Heap → α → List Value → Prop} {T : Tell sz E} : ∀ {l : List α} {cs : List Value}, CsE sz E m l cs → CsA (aE T) h m l cs No
  | [], _, e => ⟨e, rfl⟩
  | x :: l, _, ⟨c1, c2, e, h1, h2, h3⟩ => ⟨c1, c2, No, No, e, ⟨h2, rfl⟩, CsE.csa h3, .no, U.no_left.symm⟩
theorem CsA.cse {E : Heap → α → List Value → Prop} {T : Tell sz E} : ∀ {l : List α} {cs : List Value} {F : Foot}, CsA (aE T) h m l cs F → CsE sz E m l cs ∧ F = No
  | [], _, _, ⟨e, e'⟩ => ⟨e, e'⟩
  | x :: l, _, _, ⟨c1, c2, F1, F2, e, ⟨h1, h1'⟩, h2, _, e'⟩ => by
    obtain ⟨h3, h3'⟩ := CsA.cse h2
    subst h1'; subst h3'
    exact ⟨⟨c1, c2, e, T.len _ _ _ h1, h1, h3⟩, by rw [e', U.no_left]⟩
end
section
variable {α : Type} {sz : Nat}
def rowP (a : Asn α sz) (A : Option Addr) (c : Nat) (l : List α) (h m : Heap) (F : Foot) : Prop :=
  (l = [] ∧ c = 0 ∧ F = No) ∨ ∃ b t pre cs rest Fe, c ≠ 0 ∧ A = some ⟨b, pre.length, none⟩ ∧ Blk h b (pre ++ cs ++ rest) t ∧ CsA a h m l cs Fe ∧ l.length ≤ c ∧ (c - l.length) * sz ≤ rest.length ∧ ¬ Live m b ∧ ¬ Fe b ∧ F = U (fb b) Fe
def rR (a : Asn α sz) (A : Option Addr) (c : Nat) (l : List α) : Res where
  p := rowP a A c l
  z m := Rd sz a.E m A l ∧ l.length ≤ c
  lt := by
    rintro h m F (⟨_, _, rfl⟩ | ⟨b, t, pre, cs, rest, Fe, k0, k1, k2, k3, k4, k5, k6, k7, rfl⟩) i hi
    · exact hi.elim
    · rcases hi with hi | hi
      · unfold fb at hi; subst hi; exact k2.lt
      · exact k3.lt i hi
  nl := by
    rintro h m F (⟨_, _, rfl⟩ | ⟨b, t, pre, cs, rest, Fe, k0, k1, k2, k3, k4, k5, k6, k7, rfl⟩) i hi
    · exact hi.elim
    · rcases hi with hi | hi
      · unfold fb at hi; subst hi; exact k6
      · exact k3.nl i hi
  fr := by
    rintro h m F h' m' (⟨e1, e2, rfl⟩ | ⟨b, t, pre, cs, rest, Fe, k0, k1, k2, k3, k4, k5, k6, k7, rfl⟩) f1 f2 f3
    · exact .inl ⟨e1, e2, rfl⟩
    · exact .inr ⟨b, t, pre, cs, rest, Fe, k0, k1, k2.fr (f1 b (.inl rfl)), k3.fr (fun i hi => f1 i (.inr hi)) f2 (fun i hi => f3 i (.inr hi)), k4, k5, f3 b (.inl rfl), k7, rfl⟩
  fz := by
    rintro h m F G (⟨e1, e2, rfl⟩ | ⟨b, t, pre, cs, rest, Fe, k0, k1, k2, k3, k4, k5, k6, k7, rfl⟩) f1 f2
    · subst e1; exact ⟨.nil, Nat.zero_le _⟩
    · subst k1
      exact ⟨CsE.rd (k2.settle (f2 b (.inl rfl))) (k3.fz f1 (fun i hi => f2 i (.inr hi))) (fun _ _ h => h), k4⟩
variable {a : Asn α sz} {h h' h0 m m' m0 : Heap} {A : Option Addr} {c n k : Nat} {l l' : List α} {F F' G W : Foot} {x : Int} {y : α} {v : Value} {cs : List Value} {Rs : List Res} {b : Nat} {t : TypeId} {aa : Addr}
variable {E : Heap → α → List Value → Prop} {T : Tell sz E}
theorem rR_vf (v : a.vf) : (rR a A c l).vf := by
  rintro h m m' F (⟨e1, e2, rfl⟩ | ⟨b, t, pre, cs, rest, Fe, k0, k1, k2, k3, k4, k5, k6, k7, rfl⟩) f1 f2
  · exact .inl ⟨e1, e2, rfl⟩
  · exact .inr ⟨b, t, pre, cs, rest, Fe, k0, k1, k2, k3.vf v f1 (fun i hi => f2 i (.inr hi)), k4, k5, f2 b (.inl rfl), k7, rfl⟩
theorem rowP.cap (o : rowP a A c l h m F) : l.length ≤ c := by
  rcases o with ⟨rfl, rfl, _⟩ | ⟨b, t, pre, cs, rest, Fe, k0, k1, k2, k3, k4, _⟩
  · exact Nat.le_refl _
  · exact k4
theorem rowP.os (o : rowP (aE T) A c l h m F) (hw : ∀ b, F b → h0.size ≤ b ∨ W b) : OS W h0 sz E h m A l c ∧ F = fp A c := by
  rcases o with ⟨rfl, rfl, rfl⟩ | ⟨b, t, pre, cs, rest, Fe, k0, k1, k2, k3, k4, k5, k6, k7, rfl⟩
  · exact ⟨.inl ⟨rfl, rfl⟩, funext fun b => propext ⟨fun h => h.elim, fun h => h.1 rfl⟩⟩
  · obtain ⟨k8, rfl⟩ := k3.cse
    refine ⟨.inr ⟨b, t, pre, cs, rest, k1, k2, k8, k4, k5, hw b (.inl rfl), k6⟩, ?_⟩
    rw [U.no_right]
    subst k1
    exact funext fun i => propext ⟨fun hi => ⟨k0, _, rfl, hi.symm⟩, fun ⟨_, a, e, hi⟩ => by cases e; exact hi.symm⟩
theorem OS.rowP (o : OS W h0 sz E h m A l c) : rowP (aE T) A c l h m (fp A c) := by
  by_cases hc : c = 0
  · subst hc
    have := o.cap
    exact .inl ⟨List.length_eq_zero_iff.1 (by omega), rfl, funext fun b => propext ⟨fun h => h.1 rfl, fun h => h.elim⟩⟩
  rcases o with ⟨rfl, rfl⟩ | ⟨b, t, pre, cs, rest, k1, k2, k3, k4, k5, k6, k7⟩
  · exact (hc rfl).elim
  · refine .inr ⟨b, t, pre, cs, rest, No, hc, k1, k2, k3.csa, k4, k5, k7, fun h => h, ?_⟩
    rw [U.no_right]
    subst k1
    exact funext fun i => propext ⟨fun ⟨_, a, e, hi⟩ => by cases e; exact hi.symm, fun hi => ⟨hc, _, rfl, hi.symm⟩⟩
theorem Hold.os (O : Hold W h0 m0 h m Rs) (k : Nat) (hk : Rs[k]? = some (rR (aE T) A c l)) : OS W h0 sz E h m A l c := by
  obtain ⟨F, h1, h2, _⟩ := O.get k hk
  exact (rowP.os h1 h2).1
theorem Hold.ob (O : Hold W h0 m0 h m Rs) (k : Nat) (hk : Rs[k]? = some (rV b t cs)) : OB W h0 h m b cs t := by
  obtain ⟨F, ⟨h1, h3, rfl⟩, h2, _⟩ := O.get k hk
  exact ⟨h1, h2 b rfl, h3⟩
theorem Hold.cap (O : Hold W h0 m0 h m Rs) (k : Nat) (hk : Rs[k]? = some (rR a A c l)) : l.length ≤ c := by
  obtain ⟨F, h1, _⟩ := O.get k hk
  exact rowP.cap h1
theorem Hold.all (O : Hold W h0 m0 h m Rs) (k : Nat) (hk : Rs[k]? = some (rV b t cs)) : cellsH h ⟨b, 0, none⟩ 0 cs.length = some cs := (O.ob k hk).all
theorem Hold.setV (O : Hold W h0 m0 h m Rs) (k : Nat) (hk : Rs[k]? = some (rV b t cs)) {cs' : List Value} (o : OB W h0 h' m b cs' t) (S : St (fb b) h m h' m) : Hold W h0 m0 h' m (Rs.set k (rV b t cs')) := by
  obtain ⟨F, ⟨h1, h3, rfl⟩, h2, h4⟩ := O.get k hk
  exact h4 S ⟨o.1, o.2.2, rfl⟩ (fun _ h => .inl h)
theorem Hold.setR (O : Hold W h0 m0 h m Rs) (k : Nat) (hk : Rs[k]? = some (rR (aE T) A c l)) (o : OS W h0 sz E h' m A l' c) (S : St (fp A c) h m h' m) : Hold W h0 m0 h' m (Rs.set k (rR (aE T) A c l')) := by
  obtain ⟨F, h1, h2, h4⟩ := O.get k hk
  obtain ⟨_, rfl⟩ := rowP.os h1 h2
  exact h4 S o.rowP (fun _ h => .inl h)
variable {K : Heap → Prop}
theorem Hold.new {z : Array Value} (O : Hold W h0 m0 h m Rs) (H : ∀ h', Ext h h' → Hold W h0 m0 h' m (Rs ++ [rV h.size t z.toList]) → K h') : newH h (.cells z t) K :=
  newH_in fun h' hb e hs => H h' e (O.add (St.of_ext O.s e) ⟨hb, St.notLive O.s, rfl⟩ (fun i hi => by unfold fb at hi; omega))
theorem Hold.st (O : Hold W h0 m0 h m Rs) (k : Nat) (hk : Rs[k]? = some (rV b t cs)) (j : Nat) (hj : j < cs.length) (hf : Flat v) (H : ∀ h', Hold W h0 m0 h' m (Rs.set k (rV b t (cs.set j v))) → K h') : ∃ h', st1 h (Addr.add ⟨b, 0, none⟩ j) v = some h' ∧ K h' := by
  obtain ⟨h', h1, h2, h3⟩ := (O.ob k hk).st O.s hj hf
  exact ⟨h', h1, H h' (O.setV k hk h2 h3)⟩
theorem Hold.st0 (O : Hold W h0 m0 h m Rs) (k : Nat) (hk : Rs[k]? = some (rV b t cs)) (hj : 0 < cs.length) (hf : Flat v) (H : ∀ h', Hold W h0 m0 h' m (Rs.set k (rV b t (cs.set 0 v))) → K h') : ∃ h', st1 h ⟨b, 0, none⟩ v = some h' ∧ K h' := O.st k hk 0 hj hf H
theorem Hold.stA (O : Hold W h0 m0 h m Rs) (k : Nat) (hk : Rs[k]? = some (rV b t cs)) {ds : List Value} (hn : ds.length = cs.length) (hf : ∀ v ∈ ds, Flat v) (H : ∀ h', Hold W h0 m0 h' m (Rs.set k (rV b t ds)) → K h') : ∃ h', stH h ⟨b, 0, none⟩ ds 0 = some h' ∧ K h' := by
  obtain ⟨h', h1, h2, h3⟩ := (O.ob k hk).stA O.s ds hn hf
  exact ⟨h', h1, H h' (O.setV k hk h2 h3)⟩
theorem Hold.elstA (O : Hold W h0 m0 h m Rs) (k : Nat) (hk : Rs[k]? = some (rR (aE T) A c l)) (g : gi l x = some y) (ha : A = some aa) (hc : cellsH h (Addr.add aa (Int.toNat x * sz)) 0 sz = some cs) {ds : List Value} {y' : α} (hy : E m y' ds) (hf : ∀ v ∈ ds, Flat v) (e : l.set (Int.toNat x) y' = l')
    (H : ∀ h', Hold W h0 m0 h' m (Rs.set k (rR (aE T) A c l')) → K h') : ∃ h', stH h (Addr.add aa (Int.toNat x * sz)) ds 0 = some h' ∧ K h' := by
  subst e
  obtain ⟨h', h1, h2, h3⟩ := (O.os k hk).stA T O.s g ha hc hy hf
  exact ⟨h', h1, H h' (O.setR k hk h2 h3)⟩
theorem Hold.nil (O : Hold W h0 m0 h m Rs) (a : Asn α sz) (A : Option Addr) : Hold W h0 m0 h m (Rs ++ [rR a A 0 []]) := O.adds (R := rR a A 0 []) (.inl ⟨rfl, rfl, rfl⟩)
theorem Hold.row (O : Hold W h0 m0 h m Rs) (k : Nat) (hk : Rs[k]? = some (rV b t cs)) (a : Asn α sz) (hc : ∃ F, CsA a h m l cs F ∧ F = No) (hn : l.length = c) (h0' : c ≠ 0) : Hold W h0 m0 h m (Rs.set k (rR a (some ⟨b, 0, none⟩) c l)) :=
  O.conv k hk (R' := rR a (some ⟨b, 0, none⟩) c l) fun F hF => by
    obtain ⟨h1, h2, rfl⟩ := hF
    obtain ⟨_, hc, rfl⟩ := hc
    exact ⟨_, .inr ⟨b, t, [], cs, [], No, h0', rfl, by simpa using h1, hc, by omega, by simp [hn], h2, fun h => h, rfl⟩, fun i hi => hi.elim id (fun h => h.elim)⟩
theorem Hold.rowE (O : Hold W h0 m0 h m Rs) (k : Nat) (hk : Rs[k]? = some (rV b t cs)) (T : Tell sz E) (hc : CsE sz E m l cs) (hn : l.length = c) : Hold W h0 m0 h m (Rs.set k (rR (aE T) (some ⟨b, 0, none⟩) c l)) := by
  by_cases h0' : c = 0
  · subst h0'
    refine O.conv k hk (R' := rR (aE T) (some ⟨b, 0, none⟩) 0 l) fun F _ => ⟨No, .inl ⟨List.length_eq_zero_iff.1 hn, rfl, rfl⟩, fun _ h => h.elim⟩
  · exact O.row k hk (aE T) ⟨No, hc.csa, rfl⟩ hn h0'
theorem rowP.sl {lo hi : Int} {mx : Nat} (o : rowP a A c l h m F) (h1 : 0 ≤ lo) (h2 : lo ≤ hi) (h3 : hi ≤ (l.length : Int)) (h4 : hi.toNat ≤ mx) (h5 : mx ≤ c) : ∃ F', rowP a (sliceA A (Int.toNat lo) mx sz) (mx - Int.toNat lo) (Hw.sl l lo hi) h m F' ∧ ∀ b, F' b → F b := by
  rcases o with ⟨rfl, rfl, rfl⟩ | ⟨b, t, pre, cs, rest, Fe, k0, rfl, k1, k2, k3, k4, k5, k6, rfl⟩
  · exact ⟨No, .inl ⟨by unfold Hw.sl; simp, by omega, rfl⟩, fun _ h => h⟩
  by_cases hm : mx = lo.toNat
  · exact ⟨No, .inl ⟨List.length_eq_zero_iff.1 (by rw [← sl_len h1 h2 h3]; omega), by omega, rfl⟩, fun _ h => h.elim⟩
  have hl := k2.len
  have e1 : (cs.take (lo.toNat * sz)).length = lo.toNat * sz := by
    rw [List.length_take, hl]; have := Nat.mul_le_mul_right sz (show lo.toNat ≤ l.length by omega); omega
  have e2 : hi.toNat * sz ≤ l.length * sz := Nat.mul_le_mul_right _ (by omega)
  have e3 : lo.toNat * sz ≤ hi.toNat * sz := Nat.mul_le_mul_right _ (by omega)
  obtain ⟨F1, q1, q2⟩ := k2.take hi.toNat
  obtain ⟨F2, q3, q4⟩ := q1.drop lo.toNat
  refine ⟨U (fb b) F2, .inr ⟨b, t, pre ++ cs.take (lo.toNat * sz), (cs.take (hi.toNat * sz)).drop (lo.toNat * sz), cs.drop (hi.toNat * sz) ++ rest, F2, by omega, ?_, ?_, q3, sl_cap h1 h2 h3 h4, ?_, k5, fun hb => k6 (q2 b (q4 b hb)), rfl⟩, fun i hi => hi.elim .inl (fun hi => .inr (q2 i (q4 i hi)))⟩
  · unfold sliceA
    rw [if_neg hm, Option.map_some, List.length_append, e1]
    unfold Addr.add
    split
    · rename_i h9; rw [h9]; rfl
    · rfl
  · have : pre ++ cs.take (lo.toNat * sz) ++ (cs.take (hi.toNat * sz)).drop (lo.toNat * sz) ++ (cs.drop (hi.toNat * sz) ++ rest) = pre ++ cs ++ rest := by
      have e4 : cs.take (lo.toNat * sz) = (cs.take (hi.toNat * sz)).take (lo.toNat * sz) := by rw [List.take_take, Nat.min_eq_left e3]
      rw [e4, List.append_assoc pre, List.take_append_drop, ← List.append_assoc, List.append_assoc pre, List.take_append_drop]
    rw [this]; exact k1
  · rw [List.length_append, List.length_drop, hl, ← sl_len h1 h2 h3]
    have e5 : (mx - lo.toNat - (hi.toNat - lo.toNat)) * sz + hi.toNat * sz ≤ c * sz := by rw [← Nat.add_mul]; exact Nat.mul_le_mul_right _ (by omega)
    have e6 : (c - l.length) * sz + l.length * sz = c * sz := by rw [← Nat.add_mul, Nat.sub_add_cancel k3]
    omega
theorem Hold.sls {lo hi : Int} (O : Hold W h0 m0 h m Rs) (k : Nat) (hk : Rs[k]? = some (rR a A c l)) (g : sls l lo hi = some l') : Hold W h0 m0 h m (Rs.set k (rR a (sliceA A (Int.toNat lo) c sz) (c - Int.toNat lo) l')) := by
  have hc := O.cap k hk
  obtain ⟨h1, h2, h3, _, rfl⟩ := sls_e g
  exact O.conv k hk (R' := rR a (sliceA A (Int.toNat lo) c sz) (c - Int.toNat lo) (Hw.sl l lo hi)) fun F hF => rowP.sl hF h1 h2 h3 (by omega) (Nat.le_refl _)
end
section
variable {α : Type} {sz : Nat} {a : Asn α sz} {h h' h0 m m' m0 : Heap} {A : Option Addr} {c n k : Nat} {l l' xs : List α} {F F' G W : Foot} {x : Int} {y : α} {v X : Value} {cs es : List Value} {Rs : List Res} {b : Nat} {t e : TypeId} {aa : Addr}
variable {E : Heap → α → List Value → Prop} {T : Tell sz E}
theorem rowP.app {bytes : Nat} {z : Array Value} {K : Value → Heap → Prop} {F2 : Foot} (o : rowP a A c l h m F) (s : Sub m h) (hn : n = l.length) (hz : z.size = sz) (h1 : srcCells sz X h = some (xs.length, es)) (h2 : CsA a h m xs es F2) (hd : Dj F F2) (hb0 : 0 < bytes) (g : ap bytes l xs = some l')
    (hk : ∀ A' c' h' F', rowP a A' c' l' h' m F' → St F h m h' m → (∀ b, F' b → F b ∨ F2 b ∨ h.size ≤ b) → K (.slice A' l'.length c') h') : AppW e sz bytes z A n c X h K := by
  subst hn
  obtain ⟨hb, rfl⟩ := ap_e g
  have he := h2.len
  refine ⟨xs.length, es, h1, ?_⟩
  have hpush : ∀ (old : List Value) (Fo : Foot) (hold : oldCells sz A l.length h = some old) (hE : CsA a h m l old Fo) (hFo : ∀ b, Fo b → F b), c < l.length + xs.length →
      ∃ old, oldCells sz A l.length h = some old ∧ ∀ c', l.length + xs.length ≤ c' → K (.slice (some ⟨h.size, 0, none⟩) (l.length + xs.length) c') (h.push (.cells (old.toArray ++ es.toArray ++ zcells z (c' - (l.length + xs.length))) e)) := by
    intro old Fo hold hE hFo hlt
    refine ⟨old, hold, fun c' hc' => ?_⟩
    rw [show (Value.slice (some ⟨h.size, 0, none⟩) (l.length + xs.length) c') = .slice (some ⟨h.size, 0, none⟩) (l ++ xs).length c' by rw [List.length_append]]
    have e1 := Ext.push h (Obj.cells (old.toArray ++ es.toArray ++ zcells z (c' - (l.length + xs.length))) e)
    have S1 := St.of_ext (W := F) s e1
    have hA := hE.append h2 (hd.mono hFo (fun _ h => h))
    have hA' := hA.fr (fun i hi => e1.2 i (hA.lt i hi)) (.refl _) (fun i hi => hA.nl i hi)
    refine hk _ _ _ _ (.inr ⟨h.size, e, [], old ++ es, (zcells z (c' - (l.length + xs.length))).toList, _, by omega, rfl, ?_, hA', by rw [List.length_append]; exact hc', ?_, St.notLive s, fun hf => by have := hA.lt _ hf; omega, rfl⟩) S1 ?_
    · have := Blk.new h (old.toArray ++ es.toArray ++ zcells z (c' - (l.length + xs.length))) e
      simpa using this
    · rw [zc_len, hz, List.length_append]; exact Nat.le_refl _
    · rintro i (hi | hi | hi)
      · unfold fb at hi; exact .inr (.inr (by omega))
      · exact .inl (hFo i hi)
      · exact .inr (.inl hi)
  rcases o with ⟨rfl, rfl, rfl⟩ | ⟨b, t, pre, cs, rest, Fe, k0, rfl, k1, k2, k3, k4, k5, k6, rfl⟩
  · by_cases hx : xs.length = 0
    · have hxs : xs = [] := List.length_eq_zero_iff.1 hx
      subst hxs
      obtain ⟨rfl, rfl⟩ : es = [] ∧ F2 = No := h2
      refine .inl ⟨by simp, ?_⟩
      have fin := hk A 0 h No (.inl ⟨rfl, rfl, rfl⟩) (St.refl s) (fun b hb => .inl hb)
      cases A with
      | none => exact .inl ⟨rfl, fin⟩
      | some a => exact .inr ⟨a, h, rfl, by simp [stH], fin⟩
    · refine .inr ⟨by simp; omega, by simpa using hb, hb0, ?_⟩
      refine hpush [] No ?_ ⟨rfl, rfl⟩ (fun _ h => h) (by simp; omega)
      cases A with
      | none => rfl
      | some a => simp [oldCells, cellsH]
  · have hl := k2.len
    by_cases hle : l.length + xs.length ≤ c
    · refine .inl ⟨hle, .inr ?_⟩
      have hmul : (c - l.length) * sz = xs.length * sz + (c - l.length - xs.length) * sz := by rw [← Nat.add_mul]; congr 1; omega
      have k1' : Blk h b ((pre ++ cs) ++ rest.take (xs.length * sz) ++ rest.drop (xs.length * sz)) t := by rw [List.append_assoc, List.take_append_drop]; exact k1
      obtain ⟨h', s1, b1, o1⟩ := Blk.stH es (a := (⟨b, pre.length, none⟩ : Addr).add (l.length * sz)) (i := 0) k1' (by rw [add_block]) (add_spot _ rfl) (by rw [add_off, List.length_append, hl, Nat.add_zero]) (by rw [List.length_take, he]; omega) (h2.flat)
      refine ⟨_, h', rfl, s1, ?_⟩
      rw [show (Value.slice (some ⟨b, pre.length, none⟩) (l.length + xs.length) c) = .slice (some ⟨b, pre.length, none⟩) (l ++ xs).length c by rw [List.length_append]]
      have S : St (fb b) h m h' m := .only s k5 o1
      have S2 : St (U (fb b) Fe) h m h' m := ⟨S.up, S.s, S.size, fun i hi hn => S.fr i hi (fun h => hn (.inl h)), fun i hi hl => .inl hl⟩
      have hA := k2.append h2 hd.ur
      have nb : ∀ i, U Fe F2 i → i ≠ b := fun i hi e' => by subst e'; exact hi.elim k6 (fun hf => hd i (.inl rfl) hf)
      have hA' := hA.fr (fun i hi => S.fr i (hA.lt i hi) (fun e' => nb i hi e')) (.refl _) (fun i hi => hA.nl i hi)
      refine hk _ _ _ _ (.inr ⟨b, t, pre, cs ++ es, rest.drop (xs.length * sz), _, k0, rfl, by rw [← List.append_assoc pre]; exact b1, hA', by rw [List.length_append]; exact hle, ?_, k5, fun hf => nb b hf rfl, rfl⟩) S2 ?_
      · rw [List.length_drop, List.length_append, show c - (l.length + xs.length) = c - l.length - xs.length by omega]; omega
      · rintro i (hi | hi | hi)
        · exact .inl (.inl hi)
        · exact .inl (.inr hi)
        · exact .inr (.inl hi)
    · refine .inr ⟨by omega, hb, hb0, ?_⟩
      refine hpush cs Fe ?_ k2 (fun _ h => .inr h) (by omega)
      have := k1.cells (a := ⟨b, pre.length, none⟩) rfl rfl (l.length * sz) 0 (by simp [hl])
      simp only [oldCells, this, Nat.add_zero]
      rw [List.append_assoc, List.drop_left, List.take_append_of_le_length (by omega), List.take_of_length_le (by omega)]
variable {K : Value → Heap → Prop} {bytes : Nat} {z : Array Value}
theorem Hold.app (O : Hold W h0 m0 h m Rs) (k : Nat) (hk : Rs[k]? = some (rR (aE T) A c l)) (hn : n = l.length) (hz : z.size = sz) (hs : Src sz E h m X xs) (hb0 : 0 < bytes) (g : ap bytes l xs = some l')
    (H : ∀ A' c' h', Hold W h0 m0 h' m (Rs.set k (rR (aE T) A' c' l')) → K (.slice A' l'.length c') h') : AppW e sz bytes z A n c X h K := by
  obtain ⟨F, h1, h2, h3⟩ := O.get k hk
  obtain ⟨es, s1, s2⟩ := hs
  refine rowP.app h1 O.s hn hz s1 (s2.csa (T := T)) .no' hb0 g fun A' c' h' F' q1 q2 q3 => H A' c' h' (h3 (R' := rR (aE T) A' c' l') q2 q1 fun b hb => ?_)
  rcases q3 b hb with hb | hb | hb
  · exact .inl hb
  · exact hb.elim
  · exact .inr hb
theorem Hold.app0 (O : Hold W h0 m0 h m Rs) (a : Asn α sz) (hn : n = 0) (hz : z.size = sz) (h1 : srcCells sz X h = some (xs.length, es)) (h2 : ∃ F, CsA a h m xs es F ∧ F = No) (hb0 : 0 < bytes) (g : ap bytes ([] : List α) xs = some l')
    (H : ∀ A' c' h', Ext h h' → Hold W h0 m0 h' m (Rs ++ [rR a A' c' l']) → K (.slice A' l'.length c') h') : AppW e sz bytes z A n 0 X h K := by
  obtain ⟨_, h2, rfl⟩ := h2
  refine rowP.app (a := a) (l := []) (F := No) (.inl ⟨rfl, rfl, rfl⟩) O.s hn hz h1 h2 .no' hb0 g fun A' c' h' F' q1 q2 q3 => H A' c' h' q2.ext (O.add q2 q1 fun b hb => ?_)
  rcases q3 b hb with hb | hb | hb
  · exact hb.elim
  · exact hb.elim
  · exact hb
theorem Hold.appE0 (O : Hold W h0 m0 h m Rs) (T : Tell sz E) (hn : n = 0) (hz : z.size = sz) (hs : Src sz E h m X xs) (hb0 : 0 < bytes) (g : ap bytes ([] : List α) xs = some l')
    (H : ∀ A' c' h', Ext h h' → Hold W h0 m0 h' m (Rs ++ [rR (aE T) A' c' l']) → K (.slice A' l'.length c') h') : AppW e sz bytes z A n 0 X h K := by
  obtain ⟨es, s1, s2⟩ := hs
  exact O.app0 (aE T) hn hz s1 ⟨No, s2.csa, rfl⟩ hb0 g H
end
end Go.Hw

end
section
set_option linter.unusedVariables false
namespace Go.Hw
open Go
section
variable {m h : Heap} {a : Addr} {cs ds : List Value} {N n k j : Nat} {v : Value}
theorem ldAn (s : Sub m h) (hc : cellsH m a 0 N = some cs) (hn : N = n) : ldv true n h a = some (.agg cs.toArray) := by subst hn; exact ldA s hc
theorem ldAkn (s : Sub m h) (hc : cellsH m a 0 N = some cs) (k j : Nat) (hk : k + j ≤ N) : ldv true j h (Addr.add a k) = some (.agg ((cs.drop k).take j).toArray) := ldAk s hc hk
theorem lset' {α : Type} {l l' : List α} {i : Nat} {y : α} (g : l.set i y = l') : l.length = l'.length := by rw [← g, List.length_set]
end
section
variable {α : Type} {sz : Nat} {a : Asn α sz} {h h' h0 m m' m0 : Heap} {A Ai : Option Addr} {c ci n k : Nat} {l li : List α} {ll ll' : List (List α)} {W : Foot} {x : Int} {y : α} {v : Value} {cs : List Value} {Rs Rs' : List Res} {b : Nat} {t : TypeId} {aa : Addr} {K : Heap → Prop}
variable {E : Heap → α → List Value → Prop} {T : Tell sz E}
theorem Hold.ret (O : Hold W h0 m0 h m Rs) (Q : Hold No h m h' m' Rs') : Hold W h0 m0 h' m' (Rs ++ Rs') := by
  obtain ⟨W', h1, h2⟩ := O.call []
  simp only [dropL, takeL] at h1 h2
  exact h2 ⟨⟨Q.S.up, Q.S.s, Q.S.size, fun b hb _ => Q.S.fr b hb (fun h => h), fun b hb hl => (Q.S.lv b hb hl).elim .inl (fun h => h.elim)⟩, by
    obtain ⟨F, k1, k2⟩ := Q.q
    exact ⟨F, k1, fun b hb => (k2 b hb).elim .inl (fun h => h.elim)⟩⟩
theorem vfs_nil : ∀ R ∈ ([] : List Res), R.vf := fun _ h => by cases h
theorem vfs_cons {R : Res} (v : R.vf) (w : ∀ R ∈ Rs, R.vf) : ∀ R' ∈ R :: Rs, R'.vf := fun R' h => by
  rcases List.mem_cons.1 h with rfl | h
  · exact v
  · exact w R' h
theorem Hold.retC (O : Hold W h0 m0 h m Rs) (Q : Hold No h m h' m' Rs') (v : ∀ R ∈ Rs', R.vf) : Hold W h0 m0 h' m (Rs ++ Rs') := by
  obtain ⟨m1, W', h1, h2, _, _, h5⟩ := O.lend [] []
  have s1 : Hold No h m h' m Rs' := by
    refine ⟨Q.S.unlend O.s (fun _ h => h.elim), ?_⟩
    obtain ⟨F, k1, k2⟩ := Q.q
    have T := Q.S.unlend O.s (fun _ h => h.elim)
    exact ⟨F, k1.vf v T.s (fun b hb hl => (k2 b hb).elim (fun h => by have := O.s.lt hl; omega) (fun h => h.elim)), k2⟩
  exact O.ret s1
theorem Hold.lend0 (O : Hold W h0 m0 h m Rs) (ls : List Nat) : ∃ m1, Sub m m1 ∧ Sub m1 h ∧ ZAll m1 (takeL Rs ls) ∧
    (∀ {h' m' : Heap} {Rs' : List Res}, Hold No h m1 h' m' Rs' → Hold W h0 m0 h' m' (dropL Rs ls ++ Rs')) ∧
    (∀ {h' m' : Heap} {Rs' : List Res}, Hold No h m1 h' m' Rs' → (∀ R ∈ Rs', R.vf) → Hold W h0 m0 h' m (Rs ++ Rs')) := by
  obtain ⟨m1, W', h1, h2, h3, h4, h5⟩ := O.lend [] ls
  simp only [dropL, takeL] at h2 h3 h4 h5
  have up : ∀ {h' m' : Heap} {Rs' : List Res}, Hold No h m1 h' m' Rs' → Hold W' h m1 h' m' Rs' := fun Q =>
    ⟨⟨Q.S.up, Q.S.s, Q.S.size, fun b hb _ => Q.S.fr b hb (fun h => h), fun b hb hl => (Q.S.lv b hb hl).elim .inl (fun h => h.elim)⟩, by
      obtain ⟨F, k1, k2⟩ := Q.q
      exact ⟨F, k1, fun b hb => (k2 b hb).elim .inl (fun h => h.elim)⟩⟩
  exact ⟨m1, h1, h2.s, h3, fun Q => h4 (up Q), fun Q v => h5 (up Q) v⟩
theorem Hold.stAE {β : Type} {D : Heap → β → List Value → Prop} {z : β} (O : Hold W h0 m0 h m Rs) (k : Nat) (hk : Rs[k]? = some (rV b t cs)) {ds : List Value} (hn : ds.length = cs.length) (hf : ∀ v ∈ ds, Flat v) (e : D m z ds) (H : ∀ h' cs', D m z cs' → Hold W h0 m0 h' m (Rs.set k (rV b t cs')) → K h') : ∃ h', stH h ⟨b, 0, none⟩ ds 0 = some h' ∧ K h' :=
  O.stA k hk hn hf fun h' O' => H h' _ e O'
theorem Hold.recell (O : Hold W h0 m0 h m Rs) (k : Nat) (hk : Rs[k]? = some (rV b t cs)) {cs' : List Value} (e : cs = cs') : Hold W h0 m0 h m (Rs.set k (rV b t cs')) := by
  subst e
  exact O.conv k hk (R' := rV b t cs) fun F hF => ⟨F, hF, fun _ h => h⟩
end
section
variable {κ ν : Type} [DecidableEq κ] {h h' m m' h0 m0 : Heap} {b k : Nat} {W : Foot} {kv : κ → Value} {es : List (κ × ν)} {q : κ} {x zv : ν} {v z : Value} {P : Program} {t elem : TypeId} {EV : Heap → ν → Value → Prop} {M : MonoV EV} {Rs : List Res}
def FM (EV : Heap → ν → Value → Prop) (kv : κ → Value) (m : Heap) (b : Nat) (es : List (κ × ν)) : Prop := ∃ vs, MapB kv m b vs ∧ MR (EV m) es vs
def rM (M : MonoV EV) (kv : κ → Value) (b : Nat) (es : List (κ × ν)) : Res where
  p h m F := (∃ vs, MapB kv h b vs ∧ MR (EV m) es vs) ∧ ¬ Live m b ∧ F = fb b
  z m := FM EV kv m b es
  lt := by rintro h m F ⟨⟨vs, h1, _⟩, _, rfl⟩ i hi; unfold fb at hi; subst hi; exact h1.lt
  nl := by rintro h m F ⟨_, h2, rfl⟩ i hi; unfold fb at hi; subst hi; exact h2
  fr := by
    rintro h m F h' m' ⟨⟨vs, ⟨e, c, h1, h1'⟩, h2⟩, h3, rfl⟩ k1 k2 k3
    exact ⟨⟨vs, ⟨e, c, by rw [k1 b rfl]; exact h1, h1'⟩, h2.sub M k2⟩, k3 b rfl, rfl⟩
  fz := by
    rintro h m F G ⟨⟨vs, h1, h2⟩, h3, rfl⟩ k1 k2
    have hlt := h1.lt
    obtain ⟨e, c, h1, h1'⟩ := h1
    exact ⟨vs, ⟨e, c, by rw [addV_get hlt (.inr (k2 b rfl))]; exact h1, h1'⟩, h2.sub M (addV_up k1)⟩
omit [DecidableEq κ] in
theorem Hold.om (O : Hold W h0 m0 h m Rs) (k : Nat) (hk : Rs[k]? = some (rM M kv b es)) : OM W h0 EV kv h m b es := by
  obtain ⟨F, ⟨⟨vs, h1, h2⟩, h3, rfl⟩, h4, _⟩ := O.get k hk
  exact ⟨vs, h1, h2, h4 b rfl, h3⟩
omit [DecidableEq κ] in
theorem Hold.mkMap {K : Value → Heap → Prop} (O : Hold W h0 m0 h m Rs) (M : MonoV EV) (kv : κ → Value) (H : ∀ h', Ext h h' → Hold W h0 m0 h' m (Rs ++ [rM M kv h.size ([] : List (κ × ν))]) → K (.map (some h.size)) h') : Gen P (Instr.makeMap t none) h K :=
  gen_makeMap (kv := kv) fun h' b e _ => H h' e (O.add (R := rM M kv h.size ([] : List (κ × ν))) (St.of_ext O.s e) ⟨⟨[], b, rfl⟩, St.notLive O.s, rfl⟩ (fun i hi => by unfold fb at hi; omega))
theorem Hold.mapUpd {K : Unit → Heap → Prop} {es' : List (κ × ν)} (O : Hold W h0 m0 h m Rs) (k : Nat) (hk : Rs[k]? = some (rM M kv b es)) (ok : KeyOk P t kv elem) (q : κ) (he : EV m x v) (e : pset es q x = es') (H : ∀ h', Hold W h0 m0 h' m (Rs.set k (rM M kv b es')) → K () h') : Hwp P (Instr.mapUpdate t (.map (some b)) (kv q) v) h K := by
  subst e
  refine (O.om k hk).upd O.s ok q he fun h' o S => H h' ?_
  obtain ⟨F, ⟨_, h3, rfl⟩, h4, h5⟩ := O.get k hk
  obtain ⟨vs, k1, k2, _, k4⟩ := o
  exact h5 (R' := rM M kv b _) S ⟨⟨vs, k1, k2⟩, k4, rfl⟩ (fun _ h => .inl h)
end
end Go.Hw
namespace Go.Hw
theorem le_len {α : Type} {l : List α} {n k j : Nat} (h : l.length = n) (hk : k + j ≤ n) : k + j ≤ l.length := by omega
end Go.Hw
namespace Go.Hw
open Go
class SetAt (k : Nat) (L : List Res) (r : Res) (out : outParam (List Res)) : Prop where
  eq : L.set k r = out
instance {a r : Res} {l : List Res} : SetAt 0 (a :: l) r (r :: l) := ⟨rfl⟩
instance {k : Nat} {a r : Res} {l o : List Res} [S : SetAt k l r o] : SetAt (k + 1) (a :: l) r (a :: o) := ⟨by rw [List.set_cons_succ, S.eq]⟩
class GetAt (k : Nat) (L : List Res) (r : outParam Res) : Prop where
  eq : L[k]? = some r
instance {a : Res} {l : List Res} : GetAt 0 (a :: l) a := ⟨rfl⟩
instance {k : Nat} {a r : Res} {l : List Res} [S : GetAt k l r] : GetAt (k + 1) (a :: l) r := ⟨by rw [List.getElem?_cons_succ, S.eq]⟩
class Apd (L M : List Res) (out : outParam (List Res)) : Prop where
  eq : L ++ M = out
instance {M : List Res} : Apd [] M M := ⟨rfl⟩
instance {a : Res} {l M o : List Res} [S : Apd l M o] : Apd (a :: l) M (a :: o) := ⟨by rw [List.cons_append, S.eq]⟩
class PickT (L : List Res) (is : List Nat) (T D : outParam (List Res)) : Prop where
  t : takeL L is = T
  d : dropL L is = D
instance {L : List Res} : PickT L [] [] L := ⟨rfl, rfl⟩
instance {L L2 T D : List Res} {i : Nat} {is : List Nat} {r : Res} [G : GetAt i L r] [S : SetAt i L rE L2] [P : PickT L2 is T D] : PickT L (i :: is) (r :: T) D := ⟨by simp only [takeL, G.eq, S.eq, P.t], by simp only [dropL, S.eq, P.d]⟩
class Nm (L : List Res) (out : outParam (List Res)) : Prop where
  eq : L = out
instance : Nm [] [] := ⟨rfl⟩
instance {a : Res} {l : List Res} : Nm (a :: l) (a :: l) := ⟨rfl⟩
instance {L L' o : List Res} {k : Nat} {r : Res} [N : Nm L L'] [S : SetAt k L' r o] : Nm (L.set k r) o := ⟨by rw [N.eq, S.eq]⟩
instance {L L' M M' o : List Res} [N : Nm L L'] [N' : Nm M M'] [S : Apd L' M' o] : Nm (L ++ M) o := ⟨by rw [N.eq, N'.eq, S.eq]⟩
instance {L L' T D : List Res} {is : List Nat} [N : Nm L L'] [S : PickT L' is T D] : Nm (takeL L is) T := ⟨by rw [N.eq, S.t]⟩
instance {L L' T D : List Res} {is : List Nat} [N : Nm L L'] [S : PickT L' is T D] : Nm (dropL L is) D := ⟨by rw [N.eq, S.d]⟩
theorem Hold.nm {W : Foot} {h0 m0 h m : Heap} {Rs Rs' : List Res} (O : Hold W h0 m0 h m Rs) [N : Nm Rs Rs'] : Hold W h0 m0 h m Rs' := N.eq ▸ O
end Go.Hw

end
section
namespace Go.Hw
open Go Go.RowKit
structure Measure {H : Type} (bk : DataW H → Nat) : Prop where
  pos : ∀ d, 1 ≤ bk d
  str : ∀ b, b.length + 1 ≤ bk (.lit (.string b))
  slice : ∀ e s, (e.map bk).sum + 1 ≤ bk (.slice e s)
  agg : ∀ ps, (ps.map bk).sum + 1 ≤ bk (.agg ps)
section
variable {H : Type} {bk : DataW H → Nat} {enc : TypeId × Value → H} {P : Program} {W : World} {N : Nat}
def KT (N : Nat) {α : Type} (bk : DataW H → Nat) (enc : TypeId × Value → H) (P : Program) (W : World) (t : TypeId) (E : Heap → α → List Value → Prop) (K : α → Nat) : Prop :=
  ∀ (fuel : Nat), fuel < N → ∀ (cs : List Value) (x : DataW H × List MemPlace), DataW.trod enc P W 0 (fun _ => true) true fuel t cs = some x → ∀ a, E W.heap a cs → K a ≤ bk x.1
theorem kt_one (M : Measure bk) {α : Type} {t : TypeId} {E : Heap → α → List Value → Prop} : KT N bk enc P W t E (fun _ => 1) := fun _ _ _ _ _ _ _ => M.pos _
theorem kt_str (M : Measure bk) {t : TypeId} (hu : P.underlying t = some .string) : KT N bk enc P W t eStr (fun s => s.size + 1) := by
  intro fuel _ cs x h a ha
  obtain ⟨s, h1, h2, _⟩ := DataW.trod_string hu h
  rw [h2]
  have e : cs = [.string a] := ha
  rw [e] at h1
  cases h1
  have := M.str a.data.toList
  simpa using this
theorem kt_map {α β : Type} {t : TypeId} {E : Heap → α → List Value → Prop} {F : Heap → β → List Value → Prop} {K : α → Nat} {L : β → Nat} (he : KT N bk enc P W t E K) (hm : ∀ b cs, F W.heap b cs → ∃ a, E W.heap a cs ∧ L b ≤ K a) : KT N bk enc P W t F L :=
  fun fuel hf cs x h b hb => let ⟨a, ha, hl⟩ := hm b cs hb; Nat.le_trans hl (he fuel hf cs x h a ha)
theorem kt_down {α : Type} {t : TypeId} {E : Heap → α → List Value → Prop} {K : α → Nat} (he : KT (N + 1) bk enc P W t E K) : KT N bk enc P W t E K := fun fuel hf => he fuel (by omega)
theorem kt_rec {α : Type} {t : TypeId} {E : Heap → α → List Value → Prop} {K : α → Nat} (step : ∀ N, KT N bk enc P W t E K → KT (N + 1) bk enc P W t E K) : ∀ N, KT N bk enc P W t E K := by
  intro N
  induction N with
  | zero => intro fuel hf; omega
  | succ N ih => exact step N ih
theorem sum_map_le {α β : Type} {f : α → Nat} {g : β → Nat} : ∀ {l : List α} {m : List β}, l.length ≤ m.length → (∀ i (h1 : i < l.length) (h2 : i < m.length), f l[i] ≤ g m[i]) → (l.map f).sum ≤ (m.map g).sum := by
  intro l
  induction l with
  | nil => intro m _ _; simp
  | cons x l ih =>
    intro m hl h
    cases m with
    | nil => simp at hl
    | cons y m =>
      have h0 := h 0 (by simp) (by simp)
      have h1 := ih (m := m) (by simpa using hl) (fun i h1 h2 => h (i + 1) (Nat.succ_lt_succ h1) (Nat.succ_lt_succ h2))
      simp only [List.map_cons, List.sum_cons]
      simp only [List.getElem_cons_zero] at h0
      omega
theorem kt_slice (M : Measure bk) {α : Type} {t e : TypeId} {sz : Nat} {E : Heap → α → List Value → Prop} {K : α → Nat} (hu : P.underlying t = some (.slice e)) (hc : P.cellsOf e = sz) (he : KT N bk enc P W e E K) :
    KT N bk enc P W t (eRow sz E) (fun l => (l.map K).sum + 1) := by
  intro fuel hf cs x h l hl
  obtain ⟨A, c, hcs, hlc, hr⟩ := hl
  rcases DataW.trod_slice hu h with ⟨h1, h2⟩ | ⟨a, len, cap, elems, rest, n, hfn, h1, h2, _, hl', hm, hlen, hel, _, _⟩
  · rw [hcs] at h1
    simp only [List.cons.injEq, Value.slice.injEq, and_true] at h1
    have hl0 : l = [] := List.length_eq_zero_iff.1 h1.2.1
    subst hl0
    have := M.pos x.1
    simpa using this
  · rw [hcs] at h1
    simp only [List.cons.injEq, Value.slice.injEq, and_true] at h1
    obtain ⟨rfl, rfl, rfl⟩ := h1
    rw [h2]
    have hs := M.slice (elems.map (·.1)) (rest.map (·.1))
    have : (l.map K).sum ≤ ((elems.map (·.1)).map bk).sum := by
      refine sum_map_le (by simp [hlen]) (fun i i1 i2 => ?_)
      have h5 := hel i i1
      have hlt : i < elems.length := by omega
      rw [List.getElem?_eq_getElem hlt] at h5
      obtain ⟨cs', h6, h7⟩ := Option.bind_eq_some_iff.1 h5
      obtain ⟨a', ds, e1, e2, e3⟩ := hr i i1
      cases e1
      rw [hc] at h6
      have := cells_of h6
      rw [this] at e2
      cases e2
      have := he _ (by omega) _ _ h7 _ e3
      simpa using this
    exact Nat.le_trans (Nat.succ_le_succ this) hs
def KTF (N : Nat) {α : Type} (bk : DataW H → Nat) (enc : TypeId × Value → H) (P : Program) (W : World) (T o : Nat) (fs : List (TypeId × Nat)) (F : Heap → α → List Value → Prop) (K : α → Nat) : Prop :=
  ∀ (n : Nat), n < N → ∀ (cs : List Value) (xs : List (DataW H × List MemPlace)), cs.length = T → xs.length = fs.length → (∀ (i : Nat) (f : TypeId × Nat), fs[i]? = some f → DataW.trod enc P W 0 (fun _ => true) true n f.1 ((cs.drop f.2).take (P.cellsOf f.1)) = xs[i]?) →
    ∀ b, F W.heap b (cs.drop o) → K b ≤ ((xs.map (·.1)).map bk).sum
theorem ktf_nil {T : Nat} : KTF N bk enc P W T T [] eNil (fun _ => 0) := fun _ _ _ _ _ _ _ _ _ => Nat.zero_le _
theorem ktf_cons {α β : Type} {E : Heap → α → List Value → Prop} {F : Heap → β → List Value → Prop} {K : α → Nat} {L : β → Nat} {T o s : Nat} {f : TypeId} {fs : List (TypeId × Nat)} (hs : P.cellsOf f = s) (ht : Tell s E)
    (he : KT N bk enc P W f E K) (hf : KTF N bk enc P W T (o + s) fs F L) : KTF N bk enc P W T o ((f, o) :: fs) (eCons E F) (fun x => K x.1 + L x.2) := by
  intro n hn cs xs hl hx hi b hb
  cases xs with
  | nil => cases hx
  | cons x xs =>
    have h0 := hi 0 (f, o) rfl
    simp only [hs] at h0
    obtain ⟨c1, c2, e1, e2, e3⟩ := hb
    have hlen := ht.len _ _ _ e2
    have ec1 : (cs.drop o).take s = c1 := by rw [e1, ← hlen, List.take_left]
    have ec2 : cs.drop (o + s) = c2 := by rw [← List.drop_drop, e1, ← hlen, List.drop_left]
    rw [ec1] at h0
    have k1 := he n hn _ _ h0 _ e2
    have k2 := hf n hn cs xs hl (by simpa using hx) (fun i g hg => by simpa using hi (i + 1) g hg) b.2 (by rw [ec2]; exact e3)
    simp only [List.map_cons, List.sum_cons]
    omega
theorem kt_struct (M : Measure bk) {α : Type} {F : Heap → α → List Value → Prop} {K : α → Nat} {t : TypeId} {fs : List (TypeId × Nat)} {T : Nat} (hs : shapeOf P t = some fs) (hc : P.cellsOf t = T) (hf : KTF N bk enc P W T 0 fs F K) : KT (N + 1) bk enc P W t F (fun x => K x + 1) := by
  intro fuel hfl cs x h b hb
  unfold shapeOf at hs
  split at hs
  · rename_i fa hu
    cases hs
    obtain ⟨xs, n, hn, rfl, hl, hlen, hi⟩ := DataW.trod_struct hu h
    have := hf n (by omega) cs xs (by rw [hl, hc]) (by simpa using hlen) (fun i f hif => by
      rw [List.getElem?_map, Option.map_eq_some_iff] at hif
      obtain ⟨g, hg, rfl⟩ := hif
      exact hi i g (by simpa using hg)) b (by simpa using hb)
    have h2 := M.agg (xs.map (·.1))
    exact Nat.le_trans (Nat.succ_le_succ this) h2
  · cases hs
end
end Go.Hw

end
section
namespace Go.Hw
open Go
end Go.Hw

end
section
set_option linter.unusedVariables false
namespace Go.Hw
open Go
end Go.Hw
namespace Go.Hw
open Go
section
variable {α : Type} {sz n : Nat} {E : Heap → α → List Value → Prop} {T : Tell sz E} {m m' h h' h0 m0 : Heap} {A : Option Addr} {l l' : List α} {c k : Nat} {W : Foot} {x j : Int} {y y' : α} {v : Value} {Rs : List Res} {aa : Addr} {K : Heap → Prop} {cs : List Value}
def eArrE (n sz : Nat) (E : Heap → α → List Value → Prop) (m : Heap) (l : List α) (cs : List Value) : Prop := CsE sz E m l cs ∧ l.length = n
theorem tell_arrE (n : Nat) (T : Tell sz E) : Tell (n * sz) (eArrE n sz E) := ⟨fun _ _ _ _ s h => ⟨h.1.sub T s, h.2⟩, fun _ _ _ h => by rw [h.1.len, h.2], fun _ _ _ h => h.1.flat T⟩
theorem eArrE.getN {E : Heap → α → List Value → Prop} (e : eArrE n sz E m l cs) (g : gi l x = some y) : E m y (List.take sz (List.drop (Int.toNat x * sz) cs)) := (e.1.get (gi_get g)).1
theorem eArrE.leN {E : Heap → α → List Value → Prop} (e : eArrE n sz E m l cs) (g : gi l x = some y) : Int.toNat x * sz + sz ≤ n * sz := by
  have h1 := (e.1.get (gi_get g)).2
  have h2 := e.1.len
  rw [e.2] at h2
  omega
theorem eArrE.ltn {E : Heap → α → List Value → Prop} (e : eArrE n sz E m l cs) (g : gi l x = some y) : x < ((n : Nat) : Int) := by
  have := gi_lt g; rw [e.2] at this; exact this
end
end Go.Hw
namespace Go.Hw
open Go
end Go.Hw

end
section
set_option linter.unusedVariables false
namespace Go.Hw
open Go
end Go.Hw

end
section
set_option linter.unusedVariables false
namespace Go.Hw
open Go
end Go.Hw

end
section
set_option linter.unusedVariables false
namespace Go.Hw
open Go Go.RowKit
end Go.Hw

end
section
set_option linter.unusedVariables false
namespace Go.Hw
open Go
end Go.Hw
namespace Go.Hw
open Go
end Go.Hw
namespace Go.Hw
open Go
end Go.Hw
namespace Go.Hw
open Go
end Go.Hw
namespace Go.Hw
open Go
end Go.Hw

end
section
set_option linter.unusedVariables false
namespace Go.Hw
open Go
end Go.Hw

end
section
set_option linter.unusedVariables false
namespace Go.Hw
open Go
section
noncomputable def agreeF {R : Type} (n : Nat) (f : Nat → Option R) : Option R :=
  open Classical in if ∃ r, ∀ j, j < n → f j = some r then f 0 else none
noncomputable def pickF {α R : Type} (left : List α) (over : Option R) (go : α → List α → Option R) : Option R :=
  match left with
  | [] => over
  | _ :: _ => agreeF left.length fun j => (left[j]?).bind fun c => go c (left.eraseIdx j)
variable {α R : Type} {left : List α} {over over' : Option R} {go go' : α → List α → Option R} {r : R}
end
attribute [irreducible] pickF agreeF
end Go.Hw
namespace Go.Hw
open Go
end Go.Hw

end
section
set_option linter.unusedVariables false
namespace Go.Hw
open Go
def pow10V : List Value := Lib.pow10Tab.map fun z => Value.int .u64 z
def TBg (g : Nat) (m : Heap) : Prop := ∃ t f, m[g]? = some (.cells pow10V.toArray t f)
theorem TBg.sub {g : Nat} {m h : Heap} (t : TBg g m) (s : Sub m h) : TBg g h := by
  obtain ⟨t, f, h1⟩ := t
  refine ⟨t, f, s _ _ h1 fun e => ?_⟩
  unfold dead at e
  have := congrArg (fun o => match o with | Obj.cells c _ _ => c.size | _ => 0) e
  simp [pow10V, Lib.pow10Tab] at this
def itoaB (n : Int) : ByteArray := ⟨(Lib.itoa n).toArray⟩
theorem TBg.var {P : Program} {g : Nat} {w : World} (hg : P.globalNamed "internal/strconv.uint64pow10" = some g) (t : TBg g w.heap) : Lib.TabIs P w "internal/strconv.uint64pow10" .u64 Lib.pow10Tab := by
  obtain ⟨t, f, h1⟩ := t
  unfold Lib.TabIs World.var?
  rw [hg]
  show (match w.heap[g]? with | some (.cells cs _ _) => some cs | _ => none) = _
  rw [h1]; rfl
theorem TBg.of {P : Program} {g : Nat} {w : World} (hg : P.globalNamed "internal/strconv.uint64pow10" = some g) (t : Lib.TabIs P w "internal/strconv.uint64pow10" .u64 Lib.pow10Tab) : TBg g w.heap := by
  unfold Lib.TabIs World.var? at t
  rw [hg] at t
  have t' : (match w.heap[g]? with | some (.cells cs _ _) => some cs | _ => none) = some pow10V.toArray := t
  cases h : w.heap[g]? with
  | none => rw [h] at t'; cases t'
  | some o =>
    rw [h] at t'
    cases o with
    | cells c e f => cases t'; exact ⟨e, f, h⟩
    | _ => cases t'
theorem itoa_run {P : Program} {k g : Nat} {W : Foot} {h m : Heap} {x : Int} {r : ByteArray} (hg : P.globalNamed "internal/strconv.uint64pow10" = some g)
    (c : ∀ (n : Int) (_ : -9223372036854775808 ≤ n) (_ : n ≤ 9223372036854775807) (w : World) (_ : Lib.TabIs P w "internal/strconv.uint64pow10" .u64 Lib.pow10Tab), Calls P k #[.int .i64 n] w fun e w' => e = .returned (.string ⟨(Lib.itoa n).toArray⟩) ∧ ∃ k os, w' = Go.Sort.grow (w.drewN k) os)
    (O : Hold W h m h m []) (tab : TBg g m) (e : (if -9223372036854775808 ≤ x ∧ x ≤ 9223372036854775807 then some (itoaB x) else none) = some r) : Run P k #[Value.int .i64 x] h fun v h' => ∃ m', Hold W h m h' m' [] ∧ v = .string r := by
  obtain ⟨g1, e⟩ := guard_e e
  cases e
  intro w hw
  subst hw
  refine (c x g1.1 g1.2 w ((tab.sub O.s).var hg)).mono fun e w' he => ?_
  obtain ⟨rfl, k, os, rfl⟩ := he
  refine ⟨_, rfl, ⟨m, O.ext ?_, rfl⟩, ⟨rfl, rfl, rfl⟩⟩
  refine ⟨?_, fun i hi => ?_⟩
  · show w.heap.size ≤ (w.heap ++ os).size
    simp
  · show (w.heap ++ os)[i]? = w.heap[i]?
    rw [Array.getElem?_append_left hi]
end Go.Hw

end
section
namespace Go.Proofs
open Go.Shelf
def Tryd.laysM171_ren : Go.Shelf.Ren := ⟨fun | 171 => 16 | 243 => 37 | 246 => 51 | 283 => 61 | 284 => 62 | 285 => 63 | 286 => 64 | 129 => 69 | 317 => 68 | 318 => 70 | 319 => 71 | 320 => 72 | 337 => 74 | 338 => 75 | n => n, fun | 3 => 3 | 9 => 9 | 2 => 2 | 4 => 4 | 171 => 123 | 0 => 0 | 53 => 124 | 37 => 127 | 5 => 5 | 173 => 128 | 212 => 135 | 51 => 136 | 20 => 20 | 213 => 137 | 46 => 139 | 232 => 143 | 233 => 144 | n => n, fun | 17 => 0 | 18 => 1 | 19 => 2 | n => n⟩
theorem Tryd.laysM171 : Go.Proofs.LaysM.n171 Tryd.prog Tryd.laysM171_ren := {
  mixed := by kernel_rfl
  f129 := Tryd.func69.trans (congrArg some (by kernel_rfl))
  f171 := Tryd.func16.trans (congrArg some (by kernel_rfl))
  f243 := Tryd.func37.trans (congrArg some (by kernel_rfl))
  f246 := Tryd.func51.trans (congrArg some (by kernel_rfl))
  f283 := Tryd.func61.trans (congrArg some (by kernel_rfl))
  f284 := Tryd.func62.trans (congrArg some (by kernel_rfl))
  f285 := Tryd.func63.trans (congrArg some (by kernel_rfl))
  f286 := Tryd.func64.trans (congrArg some (by kernel_rfl))
  f317 := Tryd.func68.trans (congrArg some (by kernel_rfl))
  f318 := Tryd.func70.trans (congrArg some (by kernel_rfl))
  f319 := Tryd.func71.trans (congrArg some (by kernel_rfl))
  f320 := Tryd.func72.trans (congrArg some (by kernel_rfl))
  f337 := Tryd.func74.trans (congrArg some (by kernel_rfl))
  f338 := Tryd.func75.trans (congrArg some (by kernel_rfl))
  t0 := Tryd.underlying0
  a0 := Tryd.isAgg0
  z0 := Tryd.sizeOf0
  v0 := Tryd.zeroValue0
  t2 := Tryd.underlying2
  a2 := Tryd.isAgg2
  z2 := Tryd.sizeOf2
  v2 := Tryd.zeroValue2
  t3 := Tryd.underlying3
  a3 := Tryd.isAgg3
  z3 := Tryd.sizeOf3
  v3 := Tryd.zeroValue3
  t4 := Tryd.underlying4
  a4 := Tryd.isAgg4
  z4 := Tryd.sizeOf4
  v4 := Tryd.zeroValue4
  t5 := Tryd.underlying5
  a5 := Tryd.isAgg5
  z5 := Tryd.sizeOf5
  v5 := Tryd.zeroValue5
  t9 := Tryd.underlying9
  a9 := Tryd.isAgg9
  z9 := Tryd.sizeOf9
  v9 := Tryd.zeroValue9
  t20 := Tryd.underlying20
  a20 := Tryd.isAgg20
  z20 := Tryd.sizeOf20
  v20 := Tryd.zeroValue20
  t37 := Tryd.underlying127
  a37 := Tryd.isAgg127
  z37 := Tryd.sizeOf127
  v37 := Tryd.zeroValue127
  t46 := Tryd.underlying139
  a46 := Tryd.isAgg139
  z46 := Tryd.sizeOf139
  v46 := Tryd.zeroValue139
  t51 := Tryd.underlying136
  a51 := Tryd.isAgg136
  z51 := Tryd.sizeOf136
  v51 := Tryd.zeroValue136
  t53 := Tryd.underlying124
  a53 := Tryd.isAgg124
  z53 := Tryd.sizeOf124
  v53 := Tryd.zeroValue124
  t171 := Tryd.underlying123
  a171 := Tryd.isAgg123
  z171 := Tryd.sizeOf123
  v171 := Tryd.zeroValue123
  t173 := Tryd.underlying128
  a173 := Tryd.isAgg128
  z173 := Tryd.sizeOf128
  v173 := Tryd.zeroValue128
  t212 := Tryd.underlying135
  a212 := Tryd.isAgg135
  z212 := Tryd.sizeOf135
  v212 := Tryd.zeroValue135
  t213 := Tryd.underlying137
  a213 := Tryd.isAgg137
  z213 := Tryd.sizeOf137
  t232 := Tryd.underlying143
  a232 := Tryd.isAgg143
  z232 := Tryd.sizeOf143
  v232 := Tryd.zeroValue143
  t233 := Tryd.underlying144
  a233 := Tryd.isAgg144
  z233 := Tryd.sizeOf144
  v233 := Tryd.zeroValue144
  g17 := by kernel_rfl
  g18 := by kernel_rfl
  g19 := by kernel_rfl
  i0 := by kernel_rfl
  i2 := by kernel_rfl
  i3 := by kernel_rfl
  i4 := by kernel_rfl
  i5 := by kernel_rfl
  i9 := by kernel_rfl
  i20 := by kernel_rfl
  i37 := by kernel_rfl
  i46 := by kernel_rfl
  i51 := by kernel_rfl
  i53 := by kernel_rfl
  i171 := by kernel_rfl
  i173 := by kernel_rfl
  i212 := by kernel_rfl
  i232 := by kernel_rfl
  i233 := by kernel_rfl
  m17 := by kernel_rfl
  m18 := by kernel_rfl
  m19 := by kernel_rfl }
theorem Tryd.strconv_Itoa (n : Int) (h0 : -9223372036854775808 ≤ n) (h1 : n ≤ 9223372036854775807) (w : World)
    (htab : Lib.TabIs Tryd.prog w "internal/strconv.uint64pow10" .u64 Lib.pow10Tab) :
    Calls Tryd.prog 16 #[.int .i64 n] w fun e w' => e = .returned (.string ⟨(Lib.itoa n).toArray⟩) ∧ ∃ k os, w' = Go.Sort.grow (w.drewN k) os := Any.strconv_Itoa Tryd.laysM171 n h0 h1 w htab
end Go.Proofs

end
section
namespace Go.Proofs.YtdlihfedhojdgaaDoor.Fw
open Go Go.Hw Go.Proofs
set_option linter.unusedVariables false
set_option synthInstance.maxHeartbeats 400000
set_option synthInstance.maxSize 1000
abbrev TB (m : Heap) : Prop := TBg 0 m
structure T_api_Type where
  Kind : Int
  Name : ByteArray
  Args : (List T_api_Type)
def T_api_Type.E (h : Heap) : T_api_Type → List Value → Prop
  | ⟨f0, f1, f2⟩, cs => ∃ A2 c2, cs = [.int .i64 f0, .string f1, .slice A2 f2.length c2] ∧ f2.length ≤ c2 ∧ (∀ i (hi : i < f2.length), ∃ a ds, A2 = some a ∧ cellsH h (a.add (i * 3)) 0 3 = some ds ∧ T_api_Type.E h f2[i] ds)
  termination_by x => SizeOf.sizeOf x
  decreasing_by
    all_goals
      have h1 := List.sizeOf_lt_of_mem (List.getElem_mem hi)
      first
      | (simp_all; omega)
theorem T_api_Type.iff {h : Heap} {x : T_api_Type} {cs : List Value} : T_api_Type.E h x cs ↔ ∃ A2 c2, cs = [.int .i64 x.Kind, .string x.Name, .slice A2 x.Args.length c2] ∧ x.Args.length ≤ c2 ∧ Rd 3 T_api_Type.E h A2 x.Args := by
  cases x
  rw [T_api_Type.E]
  exact Iff.rfl
theorem T_api_Type.mono {m h : Heap} (s : Sub m h) : ∀ (x : T_api_Type) (cs : List Value), T_api_Type.E m x cs → T_api_Type.E h x cs
  | ⟨f0, f1, f2⟩, cs, e => by
    rw [T_api_Type.E] at e ⊢
    obtain ⟨A2, c2, h1, k2, r2⟩ := e
    exact ⟨A2, c2, h1, k2, fun i hi => let ⟨a, ds, h1, h2, h3⟩ := r2 i hi; ⟨a, ds, h1, s.cells _ _ h2, T_api_Type.mono s _ _ h3⟩⟩
  termination_by x => SizeOf.sizeOf x
  decreasing_by
    all_goals
      have h1 := List.sizeOf_lt_of_mem (List.getElem_mem hi)
      first
      | (simp_all; omega)
theorem T_api_Type.T : Tell 3 T_api_Type.E := ⟨fun _ _ x cs s e => T_api_Type.mono s x cs e, by intro h x cs e; obtain ⟨A2, c2, rfl, k2, r2⟩ := T_api_Type.iff.1 e; rfl, by intro h x cs e; obtain ⟨A2, c2, rfl, k2, r2⟩ := T_api_Type.iff.1 e; exact Flats.cons trivial (Flats.cons trivial (Flats.cons trivial Flats.nil))⟩
def T_api_Type.Q : T_api_Type → Prop
  | ⟨f0, f1, f2⟩ => (-9223372036854775808 ≤ f0 ∧ f0 ≤ 9223372036854775807) ∧ (f1.size ≤ 140737488351232) ∧ (f2.length * 48 ≤ 140737488351232 ∧ ∀ i (hi : i < f2.length), T_api_Type.Q f2[i])
  termination_by x => SizeOf.sizeOf x
  decreasing_by
    all_goals
      have h1 := List.sizeOf_lt_of_mem (List.getElem_mem hi)
      first
      | (simp_all; omega)
theorem T_api_Type.Q_iff {x : T_api_Type} : T_api_Type.Q x ↔ (-9223372036854775808 ≤ x.Kind ∧ x.Kind ≤ 9223372036854775807) ∧ (x.Name.size ≤ 140737488351232) ∧ (x.Args.length * 48 ≤ 140737488351232 ∧ ∀ a ∈ x.Args, T_api_Type.Q a) := by
  obtain ⟨f0, f1, f2⟩ := x
  rw [T_api_Type.Q]
  show _ ↔ (-9223372036854775808 ≤ f0 ∧ f0 ≤ 9223372036854775807) ∧ (f1.size ≤ 140737488351232) ∧ (f2.length * 48 ≤ 140737488351232 ∧ ∀ a ∈ f2, T_api_Type.Q a)
  rw [← forall_get (l := f2) (p := T_api_Type.Q)]
theorem T_api_Type.tells {H : Type} {enc : TypeId × Value → H} {W : World} : Tells enc Tryd.prog W 25 T_api_Type.E T_api_Type.Q := tells_rec fun N ih => tellsU_map (tellsU_struct (t := 25) (fs := [(3, 0), (9, 1), (23, 2)]) (T := 3) (by kernel_rfl) (by kernel_rfl) (tfU_cons (s := 1) (f := 3) (by kernel_rfl) (Tells.up (tells_i64 (t := 3) (by kernel_rfl))) (tfU_cons (s := 1) (f := 9) (by kernel_rfl) (Tells.up (tells_strL (t := 9) (by kernel_rfl))) (tfU_cons (s := 1) (f := 23) (by kernel_rfl) (tellsU_slice (t := 23) (e := 25) (sz := 3) (B := 48) (by kernel_rfl) (by kernel_rfl) (by kernel_rfl) ih) tfU_nil)))) (by
  rintro ⟨x0, x1, x2, ⟨⟩⟩ cs e q
  obtain ⟨c0, r0, rfl, e0, c1, r1, rfl, e1, c2, r2, rfl, e2, eN⟩ := e
  obtain rfl : c0 = [.int .i64 x0] := e0
  obtain rfl : c1 = [.string x1] := e1
  obtain ⟨A2, k2, rfl, l2, R2⟩ := e2
  obtain rfl : r2 = [] := eN
  exact ⟨⟨x0, x1, x2⟩, T_api_Type.iff.2 ⟨_, _, rfl, l2, R2⟩, T_api_Type.Q_iff.2 ⟨q.1, q.2.1, q.2.2.1⟩⟩)
def T_api_Type.bulk : T_api_Type → Nat
  | ⟨f0, f1, f2⟩ => (1 + ((f1.size + 1) + (((f2.attach.map fun y => T_api_Type.bulk y.1).sum + 1) + (0)))) + 1
  termination_by x => SizeOf.sizeOf x
  decreasing_by
    all_goals
      have h1 := List.sizeOf_lt_of_mem y.2
      first
      | (simp_all; omega)
theorem T_api_Type.bulk_eq (x : T_api_Type) : T_api_Type.bulk x = (1 + ((x.Name.size + 1) + (((List.map T_api_Type.bulk x.Args).sum + 1) + (0)))) + 1 := by
  obtain ⟨f0, f1, f2⟩ := x
  rw [T_api_Type.bulk]
  rw [(List.attach_map_val : (f2.attach.map fun i => T_api_Type.bulk i.1) = f2.map T_api_Type.bulk)]
theorem T_api_Type.kt {H : Type} {bk : DataW H → Nat} {enc : TypeId × Value → H} {W : World} {N : Nat} (M : Measure bk) : KT N bk enc Tryd.prog W 25 T_api_Type.E T_api_Type.bulk := kt_rec (fun N ih => kt_map (kt_struct M (t := 25) (fs := [(3, 0), (9, 1), (23, 2)]) (T := 3) (by kernel_rfl) (by kernel_rfl) (ktf_cons (s := 1) (f := 3) (by kernel_rfl) (tell_int .i64) (kt_one M) (ktf_cons (s := 1) (f := 9) (by kernel_rfl) tell_str (kt_str (t := 9) M (by kernel_rfl)) (ktf_cons (s := 1) (f := 23) (by kernel_rfl) (tell_row T_api_Type.T) (kt_slice M (t := 23) (e := 25) (sz := 3) (by kernel_rfl) (by kernel_rfl) ih) ktf_nil)))) (fun x cs e => by
  obtain ⟨A2, c2, rfl, k2, r2⟩ := T_api_Type.iff.1 e
  exact ⟨(x.Kind, x.Name, x.Args, ()), ⟨[.int .i64 x.Kind], _, rfl, rfl, ⟨[.string x.Name], _, rfl, rfl, ⟨[.slice A2 x.Args.length c2], _, rfl, ⟨_, _, rfl, k2, r2⟩, rfl⟩⟩⟩, by rw [T_api_Type.bulk_eq]; exact Nat.le_refl _⟩)) N
structure T_scheme_Scheme where
  Params : (List ByteArray)
  Type_ : T_api_Type
def T_scheme_Scheme.E (h : Heap) (x : T_scheme_Scheme) (cs : List Value) : Prop := ∃ A0 c0 A3 c3, cs = [.slice A0 x.Params.length c0, .int .i64 x.Type_.Kind, .string x.Type_.Name, .slice A3 x.Type_.Args.length c3] ∧ x.Params.length ≤ c0 ∧ Rd 1 eStr h A0 x.Params ∧ x.Type_.Args.length ≤ c3 ∧ Rd 3 T_api_Type.E h A3 x.Type_.Args
theorem T_scheme_Scheme.T : Tell 4 T_scheme_Scheme.E := ⟨by rintro m h x _ s ⟨A0, c0, A3, c3, rfl, k0, r0, k3, r3⟩; exact ⟨_, _, _, _, rfl, k0, r0.sub tell_str s, k3, r3.sub T_api_Type.T s⟩, by rintro h x _ ⟨A0, c0, A3, c3, rfl, k0, r0, k3, r3⟩; rfl, by rintro h x _ ⟨A0, c0, A3, c3, rfl, k0, r0, k3, r3⟩; exact Flats.cons trivial (Flats.cons trivial (Flats.cons trivial (Flats.cons trivial Flats.nil)))⟩
def T_scheme_Scheme.Q (x : T_scheme_Scheme) : Prop := (x.Params.length * 16 ≤ 140737488351232 ∧ ∀ a ∈ x.Params, (a.size ≤ 140737488351232)) ∧ (T_api_Type.Q x.Type_)
theorem T_scheme_Scheme.tells {H : Type} {enc : TypeId × Value → H} {W : World} : Tells enc Tryd.prog W 27 T_scheme_Scheme.E T_scheme_Scheme.Q := tells_map (tells_struct (t := 27) (fs := [(22, 0), (25, 1)]) (T := 4) (by kernel_rfl) (by kernel_rfl) (tf_cons (s := 1) (f := 22) (by kernel_rfl) (tells_sliceL (t := 22) (e := 9) (sz := 1) (B := 16) (by kernel_rfl) (by kernel_rfl) (by kernel_rfl) (tells_strL (t := 9) (by kernel_rfl))) (tf_cons (s := 3) (f := 25) (by kernel_rfl) T_api_Type.tells tf_nil))) (by
  rintro ⟨x0, x1, ⟨⟩⟩ cs e q
  obtain ⟨c0, r0, rfl, e0, c1, r1, rfl, e1, eN⟩ := e
  obtain ⟨A0, k0, rfl, l0, R0⟩ := e0
  obtain ⟨A1_2, k1_2, rfl, l1_2, R1_2⟩ := T_api_Type.iff.1 e1
  obtain rfl : r1 = [] := eN
  exact ⟨⟨x0, x1⟩, ⟨_, _, _, _, rfl, l0, R0, l1_2, R1_2⟩, q.1, q.2.1⟩)
def T_scheme_Scheme.bulk (x : T_scheme_Scheme) : Nat := (((List.map (fun s : ByteArray => s.size + 1) x.Params).sum + 1) + ((T_api_Type.bulk x.Type_) + (0))) + 1
theorem T_scheme_Scheme.kt {H : Type} {bk : DataW H → Nat} {enc : TypeId × Value → H} {W : World} {N : Nat} (M : Measure bk) : KT N bk enc Tryd.prog W 27 T_scheme_Scheme.E T_scheme_Scheme.bulk := kt_down (kt_map (kt_struct M (t := 27) (fs := [(22, 0), (25, 1)]) (T := 4) (by kernel_rfl) (by kernel_rfl) (ktf_cons (s := 1) (f := 22) (by kernel_rfl) (tell_row tell_str) (kt_slice M (t := 22) (e := 9) (sz := 1) (by kernel_rfl) (by kernel_rfl) (kt_str (t := 9) M (by kernel_rfl))) (ktf_cons (s := 3) (f := 25) (by kernel_rfl) T_api_Type.T (T_api_Type.kt M) ktf_nil))) (fun x cs e => by
  obtain ⟨A0, c0, A1_2, c1_2, rfl, k0, r0, k1_2, r1_2⟩ := e
  exact ⟨(x.Params, x.Type_, ()), ⟨[.slice A0 x.Params.length c0], _, rfl, ⟨_, _, rfl, k0, r0⟩, ⟨[.int .i64 x.Type_.Kind, .string x.Type_.Name, .slice A1_2 x.Type_.Args.length c1_2], _, rfl, T_api_Type.iff.2 ⟨_, _, rfl, k1_2, r1_2⟩, rfl⟩⟩, Nat.le_refl _⟩))
theorem T_api_Type.g0 {m : Heap} {x : T_api_Type} {cs : List Value} (e : T_api_Type.E m x cs) : cs[0]? = some (Value.int .i64 x.Kind) := by
  obtain ⟨A2, c2, rfl, k2, r2⟩ := T_api_Type.iff.1 e
  exact rfl
theorem T_api_Type.g2 {m : Heap} {x : T_api_Type} {cs : List Value} (e : T_api_Type.E m x cs) : ∃ A c, cs[2]? = some (.slice A (List.length x.Args) c) ∧ List.length x.Args ≤ c ∧ Rd 3 T_api_Type.E m A x.Args := by
  obtain ⟨A2, c2, rfl, k2, r2⟩ := T_api_Type.iff.1 e
  exact ⟨_, _, rfl, k2, r2⟩
theorem T_api_Type.g1 {m : Heap} {x : T_api_Type} {cs : List Value} (e : T_api_Type.E m x cs) : cs[1]? = some (Value.string x.Name) := by
  obtain ⟨A2, c2, rfl, k2, r2⟩ := T_api_Type.iff.1 e
  exact rfl
theorem T_scheme_Scheme.u1_25 {m : Heap} {x : T_scheme_Scheme} {cs : List Value} (e : T_scheme_Scheme.E m x cs) : T_api_Type.E m x.Type_ (List.take 3 (List.drop 1 cs)) := by
  obtain ⟨A0, c0, A3, c3, rfl, k0, r0, k3, r3⟩ := e
  exact (T_api_Type.iff.2 ⟨_, _, rfl, k3, r3⟩)
theorem T_scheme_Scheme.g0 {m : Heap} {x : T_scheme_Scheme} {cs : List Value} (e : T_scheme_Scheme.E m x cs) : ∃ A c, cs[0]? = some (.slice A (List.length x.Params) c) ∧ List.length x.Params ≤ c ∧ Rd 1 eStr m A x.Params := by
  obtain ⟨A0, c0, A3, c3, rfl, k0, r0, k3, r3⟩ := e
  exact ⟨_, _, rfl, k0, r0⟩
def slices_Index_33.post (W : Nat → Prop) (h0 m0 : Heap) (r : Int) (v : Value) (h : Heap) : Prop := ∃ m , Hold W h0 m0 h m [] ∧ v = .int .i64 r
inductive slices_Index_33.l0_k.Pt where
  | l0 (a_0 : List ByteArray) (s_1 : ByteArray) (x_7 : Int) (x_8 : Int)
noncomputable def slices_Index_33.l0_k.body (go : (p : slices_Index_33.l0_k.Pt) → Option (Int)) : (p : slices_Index_33.l0_k.Pt) → Option (Int)
  | .l0 a_0 s_1 x_7 x_8 => if x_8 < x_7 then (Option.bind (gi a_0 x_8) fun y1 => if s_1 = y1 then (some (x_8)) else ((go (.l0 a_0 s_1 x_7 (IntKind.wrap .i64 (x_8 + (1 : Int))))))) else (some ((-1 : Int)))
theorem slices_Index_33.l0_k.mono : MonoF (β := fun _ => (Int)) slices_Index_33.l0_k.body := fun f g hfg p => match p with
  | .l0 a_0 s_1 x_7 x_8 => LeO.ite (LeO.bind (LeO.refl _) fun y1 => LeO.ite (LeO.refl _) ((hfg _))) (LeO.refl _)
noncomputable def slices_Index_33.l0_k.go (p : slices_Index_33.l0_k.Pt) : Option (Int) := fixF (β := fun _ => (Int)) slices_Index_33.l0_k.body p
noncomputable def slices_Index_33.l0 (a_0 : List ByteArray) (s_1 : ByteArray) (x_7 : Int) (x_8 : Int) : Option (Int) := slices_Index_33.l0_k.go (.l0 a_0 s_1 x_7 x_8)
theorem slices_Index_33.l0_eq (a_0 : List ByteArray) (s_1 : ByteArray) (x_7 : Int) (x_8 : Int) : slices_Index_33.l0 a_0 s_1 x_7 x_8 = if x_8 < x_7 then (Option.bind (gi a_0 x_8) fun y1 => if s_1 = y1 then (some (x_8)) else ((slices_Index_33.l0 a_0 s_1 x_7 (IntKind.wrap .i64 (x_8 + (1 : Int)))))) else (some ((-1 : Int))) := fixF_eq slices_Index_33.l0_k.mono _
def slices_Index_33.l0_k.I : (p : slices_Index_33.l0_k.Pt) → (Int) → Prop
  | .l0 a_0 s_1 x_7 x_8, r => ∀ (W : Nat → Prop) (h0 m0 h m : Heap) (A_0 : Option Addr) (n_0 c_0 : Nat) (O : Hold W h0 m0 h m []) (ne_0 : n_0 = List.length a_0) (k_0 : List.length a_0 ≤ c_0) (r_0 : Rd 1 eStr m A_0 a_0), f33.l0 (slices_Index_33.post W h0 m0 r) A_0 n_0 c_0 s_1 x_7 x_8 h
set_option maxRecDepth 100000 in
theorem slices_Index_33.l0_k.step_l0 (go : (p : slices_Index_33.l0_k.Pt) → Option (Int)) (ih : ∀ p r, go p = some r → slices_Index_33.l0_k.I p r) (a_0 : List ByteArray) (s_1 : ByteArray) (x_7 : Int) (x_8 : Int) (r : Int) (e : slices_Index_33.l0_k.body go (.l0 a_0 s_1 x_7 x_8) = some r) : slices_Index_33.l0_k.I (.l0 a_0 s_1 x_7 x_8) r := by
  unfold slices_Index_33.l0_k.body at e
  intro W h0 m0 h m A_0 n_0 c_0 O ne_0 k_0 r_0
  subst ne_0
  refine f33.l0_in ?_
  unfold f33.l0T
  refine split_dec_e e (fun c9 e => ?_) (fun c9 e => ?_)
  · obtain ⟨y1, g2, e⟩ := bind_e e
    refine r_0.addr rfl g2 fun a3 cs4 ha5 hc6 he7 => ?_
    obtain rfl : cs4 = [(Value.string y1)] := he7
    refine ⟨_, ld0 O.s hc6 rfl, _, rfl, ?_⟩
    try rw [ba_list s_1 y1]
    refine split_dec_e e (fun c8 e => ?_) (fun c8 e => ?_)
    · cases e
      exact ⟨_, O.pick [], rfl⟩
    · exact (ih _ _ e) _ _ _ _ _ _ _ _ (O.pick []).nm rfl k_0 r_0
  · cases e
    exact ⟨_, O.pick [], rfl⟩
theorem slices_Index_33.l0_k.all {p : slices_Index_33.l0_k.Pt} {r : (Int)} (e : slices_Index_33.l0_k.go p = some r) : slices_Index_33.l0_k.I p r := fixF_ind (β := fun _ => (Int)) slices_Index_33.l0_k.mono (I := slices_Index_33.l0_k.I) (fun go ih p r e => match p with
  | .l0 a_0 s_1 x_7 x_8 => slices_Index_33.l0_k.step_l0 go ih a_0 s_1 x_7 x_8 r e
  ) e
theorem slices_Index_33.l0.walk {W : Nat → Prop} {h0 m0 h m : Heap} {A_0 : Option Addr} {n_0 c_0 : Nat} {a_0 : List ByteArray} {s_1 : ByteArray} {x_7 : Int} {x_8 : Int} (O : Hold W h0 m0 h m []) (ne_0 : n_0 = List.length a_0) (k_0 : List.length a_0 ≤ c_0) (r_0 : Rd 1 eStr m A_0 a_0) {r : Int} (e : slices_Index_33.l0 a_0 s_1 x_7 x_8 = some r) : f33.l0 (slices_Index_33.post W h0 m0 r) A_0 n_0 c_0 s_1 x_7 x_8 h := slices_Index_33.l0_k.all (p := .l0 a_0 s_1 x_7 x_8) e W h0 m0 h m A_0 n_0 c_0 O ne_0 k_0 r_0
noncomputable def slices_Index_33 (a_0 : List ByteArray) (s_1 : ByteArray) : Option (Int) :=
  (slices_Index_33.l0 a_0 s_1 (((List.length a_0) : Nat) : Int) (0 : Int))
set_option maxRecDepth 100000 in
theorem slices_Index_33.walk {W : Nat → Prop} {h m : Heap} {A_0 : Option Addr} {n_0 c_0 : Nat} {a_0 : List ByteArray} {s_1 : ByteArray} (O : Hold W h m h m []) (ne_0 : n_0 = List.length a_0) (k_0 : List.length a_0 ≤ c_0) (r_0 : Rd 1 eStr m A_0 a_0) {r : Int} (e : slices_Index_33 a_0 s_1 = some r) : Run Tryd.prog 33 #[Value.slice A_0 n_0 c_0, Value.string s_1] h (slices_Index_33.post W h m r) := by
  unfold slices_Index_33 at e
  subst ne_0
  refine f33.run ?_
  unfold f33.runT
  exact slices_Index_33.l0.walk (O.pick []).nm rfl k_0 r_0 e
theorem slices_Index_33.val {l : List ByteArray} (v : ByteArray) (hl : l.length ≤ 4611686018427387904) : slices_Index_33 l v = some (idxOf (fun y => decide (v = y)) l) := index_val (fun a p n i => slices_Index_33.l0_eq a p n i) v hl
def slices_Contains_6.post (W : Nat → Prop) (h0 m0 : Heap) (r : Bool) (v : Value) (h : Heap) : Prop := ∃ m , Hold W h0 m0 h m [] ∧ v = .bool r
noncomputable def slices_Contains_6 (a_0 : List ByteArray) (s_1 : ByteArray) : Option (Bool) :=
  Option.bind (slices_Index_33 a_0 s_1) fun y1 => some ((decide (y1 ≥ (0 : Int))))
set_option maxRecDepth 100000 in
theorem slices_Contains_6.walk {W : Nat → Prop} {h m : Heap} {A_0 : Option Addr} {n_0 c_0 : Nat} {a_0 : List ByteArray} {s_1 : ByteArray} (O : Hold W h m h m []) (ne_0 : n_0 = List.length a_0) (k_0 : List.length a_0 ≤ c_0) (r_0 : Rd 1 eStr m A_0 a_0) {r : Bool} (e : slices_Contains_6 a_0 s_1 = some r) : Run Tryd.prog 6 #[Value.slice A_0 n_0 c_0, Value.string s_1] h (slices_Contains_6.post W h m r) := by
  unfold slices_Contains_6 at e
  subst ne_0
  refine f6.run ?_
  unfold f6.runT
  obtain ⟨y1, g2, e⟩ := bind_e e
  refine (slices_Index_33.walk (Hold.start (W := No) O.s) rfl k_0 r_0 g2).mono ?_
  rintro _ h3 ⟨m4, Q5, rfl⟩
  have O7 := Hold.nm (O.retC Q5 vfs_nil)
  refine ⟨_, rfl, ?_⟩
  cases e
  exact ⟨_, O7.pick [], rfl⟩
theorem slices_Contains_6.val {l : List ByteArray} (v : ByteArray) (hl : l.length ≤ 4611686018427387904) : slices_Contains_6 l v = some (l.any fun y => decide (v = y)) := contains_any (fun a p n i => slices_Index_33.l0_eq a p n i) (fun _ _ => rfl) (fun _ _ => rfl) v hl
def slices_Grow_48.post (W : Nat → Prop) (h0 m0 : Heap) (r : (List T_api_Type)) (v : Value) (h : Heap) : Prop := ∃ m A0 n0 c0, Hold W h0 m0 h m [rR (aE T_api_Type.T) A0 c0 r] ∧ v = .slice A0 n0 c0 ∧ n0 = List.length r
noncomputable def slices_Grow_48 (x1 : Int) : Option (List T_api_Type) := if gro 48 x1 = true then some [] else none
set_option maxRecDepth 100000 in
theorem slices_Grow_48.walk {W : Nat → Prop} {h m : Heap} {x1 : Int} (O : Hold W h m h m []) {r : List T_api_Type} (e : slices_Grow_48 x1 = some r) : Run Tryd.prog 48 #[Value.slice none 0 0, Value.int .i64 x1] h (slices_Grow_48.post W h m r) := by
  unfold slices_Grow_48 at e
  have S : St No h m h m := .refl O.s
  obtain ⟨g, e⟩ := guard_e e
  cases e
  refine f48.run ?_
  unfold f48.runT
  refine split_dec (fun c => absurd c (by have := of_decide_eq_true (show decide _ = true from g); omega)) (fun _ => ?_)
  refine f48.j0_in ?_
  unfold f48.j0T
  exact grow_nil S rfl (by decide) g (fun A' c' h' o' x' => ⟨m, _, _, _, O.add (R := rR (aE T_api_Type.T) A' c' []) (St.of_ext O.s x') o'.rowP o'.newNo, rfl, rfl⟩)
def slices_Concat_31.post (W : Nat → Prop) (h0 m0 : Heap) (r : (List T_api_Type)) (v : Value) (h : Heap) : Prop := ∃ m A0 n0 c0, Hold W h0 m0 h m [rR (aE T_api_Type.T) A0 c0 r] ∧ v = .slice A0 n0 c0 ∧ n0 = List.length r
inductive slices_Concat_31.l1_k.Pt where
  | l1 (a_6 : List T_api_Type) (a_25 : List (List T_api_Type)) (x_26 : Int) (x_27 : Int)
noncomputable def slices_Concat_31.l1_k.body (go : (p : slices_Concat_31.l1_k.Pt) → Option ((List T_api_Type))) : (p : slices_Concat_31.l1_k.Pt) → Option ((List T_api_Type))
  | .l1 a_6 a_25 x_26 x_27 => if x_27 < x_26 then (Option.bind (gi a_25 x_27) fun y1 => Option.bind (ap 48 a_6 y1) fun l8 => (go (.l1 l8 a_25 x_26 (IntKind.wrap .i64 (x_27 + (1 : Int)))))) else (some (a_6))
theorem slices_Concat_31.l1_k.mono : MonoF (β := fun _ => ((List T_api_Type))) slices_Concat_31.l1_k.body := fun f g hfg p => match p with
  | .l1 a_6 a_25 x_26 x_27 => LeO.ite (LeO.bind (LeO.refl _) fun y1 => LeO.bind (LeO.refl _) fun l8 => (hfg _)) (LeO.refl _)
noncomputable def slices_Concat_31.l1_k.go (p : slices_Concat_31.l1_k.Pt) : Option ((List T_api_Type)) := fixF (β := fun _ => ((List T_api_Type))) slices_Concat_31.l1_k.body p
noncomputable def slices_Concat_31.l1 (a_6 : List T_api_Type) (a_25 : List (List T_api_Type)) (x_26 : Int) (x_27 : Int) : Option ((List T_api_Type)) := slices_Concat_31.l1_k.go (.l1 a_6 a_25 x_26 x_27)
theorem slices_Concat_31.l1_eq (a_6 : List T_api_Type) (a_25 : List (List T_api_Type)) (x_26 : Int) (x_27 : Int) : slices_Concat_31.l1 a_6 a_25 x_26 x_27 = if x_27 < x_26 then (Option.bind (gi a_25 x_27) fun y1 => Option.bind (ap 48 a_6 y1) fun l8 => (slices_Concat_31.l1 l8 a_25 x_26 (IntKind.wrap .i64 (x_27 + (1 : Int))))) else (some (a_6)) := fixF_eq slices_Concat_31.l1_k.mono _
def slices_Concat_31.l1_k.I : (p : slices_Concat_31.l1_k.Pt) → ((List T_api_Type)) → Prop
  | .l1 a_6 a_25 x_26 x_27, r => ∀ (W : Nat → Prop) (h0 m0 h m : Heap) (A_6 : Option Addr) (n_6 c_6 : Nat) (A_25 : Option Addr) (n_25 c_25 : Nat) (O : Hold W h0 m0 h m [rR (aE T_api_Type.T) A_6 c_6 a_6]) (ne_6 : n_6 = List.length a_6) (ne_25 : n_25 = List.length a_25) (k_25 : List.length a_25 ≤ c_25) (r_25 : Rd 1 (eRow 3 T_api_Type.E) m A_25 a_25), f31.l1 (slices_Concat_31.post W h0 m0 r) A_6 n_6 c_6 A_25 n_25 c_25 x_26 x_27 h
set_option maxRecDepth 100000 in
theorem slices_Concat_31.l1_k.step_l1 (go : (p : slices_Concat_31.l1_k.Pt) → Option ((List T_api_Type))) (ih : ∀ p r, go p = some r → slices_Concat_31.l1_k.I p r) (a_6 : List T_api_Type) (a_25 : List (List T_api_Type)) (x_26 : Int) (x_27 : Int) (r : (List T_api_Type)) (e : slices_Concat_31.l1_k.body go (.l1 a_6 a_25 x_26 x_27) = some r) : slices_Concat_31.l1_k.I (.l1 a_6 a_25 x_26 x_27) r := by
  unfold slices_Concat_31.l1_k.body at e
  intro W h0 m0 h m A_6 n_6 c_6 A_25 n_25 c_25 O ne_6 ne_25 k_25 r_25
  subst ne_6
  subst ne_25
  refine f31.l1_in ?_
  unfold f31.l1T
  refine split_dec_e e (fun c17 e => ?_) (fun c17 e => ?_)
  · obtain ⟨y1, g2, e⟩ := bind_e e
    refine r_25.addr rfl g2 fun a3 cs4 ha5 hc6 he7 => ?_
    obtain ⟨Acs4_0, ccs4_0, rfl, kcs4_0, rcs4_0⟩ := id he7
    refine ⟨_, ld0 O.s hc6 rfl, _, _, _, rfl, ?_⟩
    obtain ⟨l8, g9, e⟩ := bind_e e
    refine O.app 0 rfl rfl rfl (Rd.srcE rcs4_0 T_api_Type.T O.s rfl) (by decide) g9 fun A10 c11 h12 O13 => ?_
    refine ⟨_, _, _, rfl, ?_⟩
    have O16 := O13.nm
    exact (ih _ _ e) _ _ _ _ _ _ _ _ _ _ _ (O16.pick [0]).nm rfl rfl k_25 r_25
  · cases e
    exact ⟨_, _, _, _, O.pick [0], rfl, rfl⟩
theorem slices_Concat_31.l1_k.all {p : slices_Concat_31.l1_k.Pt} {r : ((List T_api_Type))} (e : slices_Concat_31.l1_k.go p = some r) : slices_Concat_31.l1_k.I p r := fixF_ind (β := fun _ => ((List T_api_Type))) slices_Concat_31.l1_k.mono (I := slices_Concat_31.l1_k.I) (fun go ih p r e => match p with
  | .l1 a_6 a_25 x_26 x_27 => slices_Concat_31.l1_k.step_l1 go ih a_6 a_25 x_26 x_27 r e
  ) e
theorem slices_Concat_31.l1.walk {W : Nat → Prop} {h0 m0 h m : Heap} {A_6 : Option Addr} {n_6 c_6 : Nat} {A_25 : Option Addr} {n_25 c_25 : Nat} {a_6 : List T_api_Type} {a_25 : List (List T_api_Type)} {x_26 : Int} {x_27 : Int} (O : Hold W h0 m0 h m [rR (aE T_api_Type.T) A_6 c_6 a_6]) (ne_6 : n_6 = List.length a_6) (ne_25 : n_25 = List.length a_25) (k_25 : List.length a_25 ≤ c_25) (r_25 : Rd 1 (eRow 3 T_api_Type.E) m A_25 a_25) {r : (List T_api_Type)} (e : slices_Concat_31.l1 a_6 a_25 x_26 x_27 = some r) : f31.l1 (slices_Concat_31.post W h0 m0 r) A_6 n_6 c_6 A_25 n_25 c_25 x_26 x_27 h := slices_Concat_31.l1_k.all (p := .l1 a_6 a_25 x_26 x_27) e W h0 m0 h m A_6 n_6 c_6 A_25 n_25 c_25 O ne_6 ne_25 k_25 r_25
inductive slices_Concat_31.l0_k.Pt where
  | l0 (a_0 : List (List T_api_Type)) (x_3 : Int) (a_9 : List (List T_api_Type)) (x_10 : Int) (x_11 : Int)
noncomputable def slices_Concat_31.l0_k.body (go : (p : slices_Concat_31.l0_k.Pt) → Option ((List T_api_Type))) : (p : slices_Concat_31.l0_k.Pt) → Option ((List T_api_Type))
  | .l0 a_0 x_3 a_9 x_10 x_11 => if x_11 < x_10 then (Option.bind (gi a_9 x_11) fun y1 => if (IntKind.wrap .i64 (x_3 + (((List.length y1) : Nat) : Int))) < (0 : Int) then ((none : Option _)) else ((go (.l0 a_0 (IntKind.wrap .i64 (x_3 + (((List.length y1) : Nat) : Int))) a_9 x_10 (IntKind.wrap .i64 (x_11 + (1 : Int))))))) else (Option.bind (slices_Grow_48 x_3) fun y9 => (slices_Concat_31.l1 y9 a_0 (((List.length a_0) : Nat) : Int) (0 : Int)))
theorem slices_Concat_31.l0_k.mono : MonoF (β := fun _ => ((List T_api_Type))) slices_Concat_31.l0_k.body := fun f g hfg p => match p with
  | .l0 a_0 x_3 a_9 x_10 x_11 => LeO.ite (LeO.bind (LeO.refl _) fun y1 => LeO.ite (LeO.refl _) ((hfg _))) (LeO.bind (LeO.refl _) fun y9 => (LeO.refl _))
noncomputable def slices_Concat_31.l0_k.go (p : slices_Concat_31.l0_k.Pt) : Option ((List T_api_Type)) := fixF (β := fun _ => ((List T_api_Type))) slices_Concat_31.l0_k.body p
noncomputable def slices_Concat_31.l0 (a_0 : List (List T_api_Type)) (x_3 : Int) (a_9 : List (List T_api_Type)) (x_10 : Int) (x_11 : Int) : Option ((List T_api_Type)) := slices_Concat_31.l0_k.go (.l0 a_0 x_3 a_9 x_10 x_11)
theorem slices_Concat_31.l0_eq (a_0 : List (List T_api_Type)) (x_3 : Int) (a_9 : List (List T_api_Type)) (x_10 : Int) (x_11 : Int) : slices_Concat_31.l0 a_0 x_3 a_9 x_10 x_11 = if x_11 < x_10 then (Option.bind (gi a_9 x_11) fun y1 => if (IntKind.wrap .i64 (x_3 + (((List.length y1) : Nat) : Int))) < (0 : Int) then ((none : Option _)) else ((slices_Concat_31.l0 a_0 (IntKind.wrap .i64 (x_3 + (((List.length y1) : Nat) : Int))) a_9 x_10 (IntKind.wrap .i64 (x_11 + (1 : Int)))))) else (Option.bind (slices_Grow_48 x_3) fun y9 => (slices_Concat_31.l1 y9 a_0 (((List.length a_0) : Nat) : Int) (0 : Int))) := fixF_eq slices_Concat_31.l0_k.mono _
def slices_Concat_31.l0_k.I : (p : slices_Concat_31.l0_k.Pt) → ((List T_api_Type)) → Prop
  | .l0 a_0 x_3 a_9 x_10 x_11, r => ∀ (W : Nat → Prop) (h0 m0 h m : Heap) (A_0 : Option Addr) (n_0 c_0 : Nat) (A_9 : Option Addr) (n_9 c_9 : Nat) (O : Hold W h0 m0 h m []) (ne_0 : n_0 = List.length a_0) (k_0 : List.length a_0 ≤ c_0) (r_0 : Rd 1 (eRow 3 T_api_Type.E) m A_0 a_0) (ne_9 : n_9 = List.length a_9) (k_9 : List.length a_9 ≤ c_9) (r_9 : Rd 1 (eRow 3 T_api_Type.E) m A_9 a_9), f31.l0 (slices_Concat_31.post W h0 m0 r) A_0 n_0 c_0 x_3 A_9 n_9 c_9 x_10 x_11 h
set_option maxRecDepth 100000 in
theorem slices_Concat_31.l0_k.step_l0 (go : (p : slices_Concat_31.l0_k.Pt) → Option ((List T_api_Type))) (ih : ∀ p r, go p = some r → slices_Concat_31.l0_k.I p r) (a_0 : List (List T_api_Type)) (x_3 : Int) (a_9 : List (List T_api_Type)) (x_10 : Int) (x_11 : Int) (r : (List T_api_Type)) (e : slices_Concat_31.l0_k.body go (.l0 a_0 x_3 a_9 x_10 x_11) = some r) : slices_Concat_31.l0_k.I (.l0 a_0 x_3 a_9 x_10 x_11) r := by
  unfold slices_Concat_31.l0_k.body at e
  intro W h0 m0 h m A_0 n_0 c_0 A_9 n_9 c_9 O ne_0 k_0 r_0 ne_9 k_9 r_9
  subst ne_0
  subst ne_9
  refine f31.l0_in ?_
  unfold f31.l0T
  refine split_dec_e e (fun c21 e => ?_) (fun c21 e => ?_)
  · obtain ⟨y1, g2, e⟩ := bind_e e
    refine r_9.addr rfl g2 fun a3 cs4 ha5 hc6 he7 => ?_
    obtain ⟨Acs4_0, ccs4_0, rfl, kcs4_0, rcs4_0⟩ := id he7
    refine ⟨_, ld0 O.s hc6 rfl, _, _, _, rfl, ?_⟩
    refine split_dec_e e (fun c8 e => ?_) (fun c8 e => ?_)
    · cases e
    · exact (ih _ _ e) _ _ _ _ _ _ _ _ _ _ _ (O.pick []).nm rfl k_0 r_0 rfl k_9 r_9
  · obtain ⟨y9, g10, e⟩ := bind_e e
    refine (slices_Grow_48.walk (Hold.start (W := No) O.s)  g10).mono ?_
    rintro _ h11 ⟨m12, A15, n16, c17, Q13, rfl, ne18⟩
    have O20 := Hold.nm (O.ret Q13)
    subst ne18
    refine ⟨_, _, _, rfl, ?_⟩
    exact slices_Concat_31.l1.walk (O20.pick [0]).nm rfl rfl k_0 (r_0.sub (tell_row T_api_Type.T) Q13.S.up) e
theorem slices_Concat_31.l0_k.all {p : slices_Concat_31.l0_k.Pt} {r : ((List T_api_Type))} (e : slices_Concat_31.l0_k.go p = some r) : slices_Concat_31.l0_k.I p r := fixF_ind (β := fun _ => ((List T_api_Type))) slices_Concat_31.l0_k.mono (I := slices_Concat_31.l0_k.I) (fun go ih p r e => match p with
  | .l0 a_0 x_3 a_9 x_10 x_11 => slices_Concat_31.l0_k.step_l0 go ih a_0 x_3 a_9 x_10 x_11 r e
  ) e
theorem slices_Concat_31.l0.walk {W : Nat → Prop} {h0 m0 h m : Heap} {A_0 : Option Addr} {n_0 c_0 : Nat} {A_9 : Option Addr} {n_9 c_9 : Nat} {a_0 : List (List T_api_Type)} {x_3 : Int} {a_9 : List (List T_api_Type)} {x_10 : Int} {x_11 : Int} (O : Hold W h0 m0 h m []) (ne_0 : n_0 = List.length a_0) (k_0 : List.length a_0 ≤ c_0) (r_0 : Rd 1 (eRow 3 T_api_Type.E) m A_0 a_0) (ne_9 : n_9 = List.length a_9) (k_9 : List.length a_9 ≤ c_9) (r_9 : Rd 1 (eRow 3 T_api_Type.E) m A_9 a_9) {r : (List T_api_Type)} (e : slices_Concat_31.l0 a_0 x_3 a_9 x_10 x_11 = some r) : f31.l0 (slices_Concat_31.post W h0 m0 r) A_0 n_0 c_0 x_3 A_9 n_9 c_9 x_10 x_11 h := slices_Concat_31.l0_k.all (p := .l0 a_0 x_3 a_9 x_10 x_11) e W h0 m0 h m A_0 n_0 c_0 A_9 n_9 c_9 O ne_0 k_0 r_0 ne_9 k_9 r_9
noncomputable def slices_Concat_31 (a_0 : List (List T_api_Type)) : Option ((List T_api_Type)) :=
  (slices_Concat_31.l0 a_0 (0 : Int) a_0 (((List.length a_0) : Nat) : Int) (0 : Int))
set_option maxRecDepth 100000 in
theorem slices_Concat_31.walk {W : Nat → Prop} {h m : Heap} {A_0 : Option Addr} {n_0 c_0 : Nat} {a_0 : List (List T_api_Type)} (O : Hold W h m h m []) (ne_0 : n_0 = List.length a_0) (k_0 : List.length a_0 ≤ c_0) (r_0 : Rd 1 (eRow 3 T_api_Type.E) m A_0 a_0) {r : (List T_api_Type)} (e : slices_Concat_31 a_0 = some r) : Run Tryd.prog 31 #[Value.slice A_0 n_0 c_0] h (slices_Concat_31.post W h m r) := by
  unfold slices_Concat_31 at e
  subst ne_0
  refine f31.run ?_
  unfold f31.runT
  exact slices_Concat_31.l0.walk (O.pick []).nm rfl k_0 r_0 rfl k_0 r_0 e
theorem slices_Concat_31.val (ls : List (List T_api_Type)) (hl : ls.length ≤ 4611686018427387904) (hs : ls.flatten.length * 48 ≤ 140737488355328) : slices_Concat_31 ls = some ls.flatten := concat_val (B := 48) (by decide) (fun r a n i => slices_Concat_31.l1_eq r a n i) (fun a s b n i => slices_Concat_31.l0_eq a s b n i) (gr := slices_Grow_48) (fun _ => rfl) (fun _ => rfl) ls hl hs
def internal_stringslite_HasPrefix.post (W : Nat → Prop) (h0 m0 : Heap) (r : Bool) (v : Value) (h : Heap) : Prop := ∃ m , Hold W h0 m0 h m [] ∧ v = .bool r
noncomputable def internal_stringslite_HasPrefix (s_0 : ByteArray) (s_1 : ByteArray) : Option (Bool) :=
  if ((ByteArray.size s_0 : Nat) : Int) ≥ ((ByteArray.size s_1 : Nat) : Int) then (if 0 ≤ (0 : Int) ∧ (0 : Int) ≤ ((ByteArray.size s_1 : Nat) : Int) ∧ ((ByteArray.size s_1 : Nat) : Int) ≤ ((ByteArray.size s_0 : Nat) : Int) then (some ((decide ((ByteArray.extract s_0 (Int.toNat (0 : Int)) (Int.toNat ((ByteArray.size s_1 : Nat) : Int))) = s_1)))) else none) else (some (false))
set_option maxRecDepth 100000 in
theorem internal_stringslite_HasPrefix.walk {W : Nat → Prop} {h m : Heap} {s_0 : ByteArray} {s_1 : ByteArray} (O : Hold W h m h m []) {r : Bool} (e : internal_stringslite_HasPrefix s_0 s_1 = some r) : Run Tryd.prog 59 #[Value.string s_0, Value.string s_1] h (internal_stringslite_HasPrefix.post W h m r) := by
  unfold internal_stringslite_HasPrefix at e
  refine f59.run ?_
  unfold f59.runT
  refine split_dec_e e (fun c2 e => ?_) (fun c2 e => ?_)
  · obtain ⟨g1, e⟩ := guard_e e
    refine ⟨g1.1, g1.2.1, g1.2.2, ?_⟩
    try rw [ba_list (ByteArray.extract s_0 (Int.toNat (0 : Int)) (Int.toNat ((ByteArray.size s_1 : Nat) : Int))) s_1]
    cases e
    exact ⟨_, O.pick [], rfl⟩
  · cases e
    exact ⟨_, O.pick [], rfl⟩
def strings_HasPrefix.post (W : Nat → Prop) (h0 m0 : Heap) (r : Bool) (v : Value) (h : Heap) : Prop := ∃ m , Hold W h0 m0 h m [] ∧ v = .bool r
noncomputable def strings_HasPrefix (s_0 : ByteArray) (s_1 : ByteArray) : Option (Bool) :=
  Option.bind (internal_stringslite_HasPrefix s_0 s_1) fun y1 => some (y1)
set_option maxRecDepth 100000 in
theorem strings_HasPrefix.walk {W : Nat → Prop} {h m : Heap} {s_0 : ByteArray} {s_1 : ByteArray} (O : Hold W h m h m []) {r : Bool} (e : strings_HasPrefix s_0 s_1 = some r) : Run Tryd.prog 49 #[Value.string s_0, Value.string s_1] h (strings_HasPrefix.post W h m r) := by
  unfold strings_HasPrefix at e
  refine f49.run ?_
  unfold f49.runT
  obtain ⟨y1, g2, e⟩ := bind_e e
  refine (internal_stringslite_HasPrefix.walk (Hold.start (W := No) O.s)  g2).mono ?_
  rintro _ h3 ⟨m4, Q5, rfl⟩
  have O7 := Hold.nm (O.retC Q5 vfs_nil)
  refine ⟨_, rfl, ?_⟩
  cases e
  exact ⟨_, O7.pick [], rfl⟩
def roadref2_Unknown.post (W : Nat → Prop) (h0 m0 : Heap) (r : Bool) (v : Value) (h : Heap) : Prop := ∃ m , Hold W h0 m0 h m [] ∧ v = .bool r
noncomputable def roadref2_Unknown (y_0 : T_api_Type) : Option (Bool) :=
  if y_0.Kind = (5 : Int) then (if (((List.length y_0.Args) : Nat) : Int) = (0 : Int) then (Option.bind (strings_HasPrefix y_0.Name (ByteArray.mk #[63])) fun y10 => some (y10)) else (some (false))) else (some (false))
set_option maxRecDepth 100000 in
theorem roadref2_Unknown.walk {W : Nat → Prop} {h m : Heap} {cs_0 : List Value} {y_0 : T_api_Type} (O : Hold W h m h m []) (e_0 : T_api_Type.E m y_0 cs_0) {r : Bool} (e : roadref2_Unknown y_0 = some r) : Run Tryd.prog 32 #[Value.agg cs_0.toArray] h (roadref2_Unknown.post W h m r) := by
  unfold roadref2_Unknown at e
  refine f32.run ?_
  unfold f32.runT
  refine O.new fun h1 x2 O3 => ?_
  refine ⟨_, ld0 (Sub.refl _) (O3.all 0 rfl) (T_api_Type.g0 e_0), _, rfl, ?_⟩
  refine split_eq_e e (fun c20 e => ?_) (fun c20 e => ?_)
  · obtain ⟨A5, c6, q7, k8, r9⟩ := T_api_Type.g2 e_0
    refine ⟨_, ldk (k := 2) (Sub.refl _) (O3.all 0 rfl) q7, _, _, _, rfl, ?_⟩
    refine split_eq_e e (fun c18 e => ?_) (fun c18 e => ?_)
    · refine ⟨_, ldk (k := 1) (Sub.refl _) (O3.all 0 rfl) (T_api_Type.g1 e_0), _, rfl, ?_⟩
      obtain ⟨y10, g11, e⟩ := bind_e e
      refine (strings_HasPrefix.walk (Hold.start (W := No) O3.s)  g11).mono ?_
      rintro _ h12 ⟨m13, Q14, rfl⟩
      have O16 := Hold.nm (O3.retC Q14 vfs_nil)
      refine ⟨_, rfl, ?_⟩
      cases e
      exact ⟨_, O16.pick [], rfl⟩
    · have O17 := O3.nm
      cases e
      exact ⟨_, O17.pick [], rfl⟩
  · have O19 := O3.nm
    cases e
    exact ⟨_, O19.pick [], rfl⟩
def roadref2_UnknownsOf.post (W : Nat → Prop) (h0 m0 : Heap) (r : (List ByteArray)) (v : Value) (h : Heap) : Prop := ∃ m A0 n0 c0, Hold W h0 m0 h m [rR (aE tell_str) A0 c0 r] ∧ v = .slice A0 n0 c0 ∧ n0 = List.length r
inductive roadref2_UnknownsOf.l0_k.Pt where
  | l0 (a_3 : List ByteArray) (a_4 : List T_api_Type)
  | j0 (a_3 : List ByteArray) (a_4 : List T_api_Type) (y_5 : T_api_Type) (b_28 : Bool)
noncomputable def roadref2_UnknownsOf.l0_k.body (go : (p : roadref2_UnknownsOf.l0_k.Pt) → Option ((List ByteArray))) : (p : roadref2_UnknownsOf.l0_k.Pt) → Option ((List ByteArray))
  | .l0 a_3 a_4 => if (((List.length a_4) : Nat) : Int) > (0 : Int) then (Option.bind (gi a_4 (0 : Int)) fun y1 => Option.bind (sls a_4 (1 : Int) (((List.length a_4) : Nat) : Int)) fun l14 => Option.bind (slices_Concat_31 ([y1.Args, l14] : List (List T_api_Type))) fun y32 => Option.bind (roadref2_Unknown y1) fun y52 => if y52 = true then (Option.bind (slices_Contains_6 a_3 y1.Name) fun y59 => (go (.j0 a_3 y32 y1 (!y59)))) else ((go (.j0 a_3 y32 y1 false)))) else (some (a_3))
  | .j0 a_3 a_4 y_5 b_28 => if b_28 = true then (Option.bind (ap 16 a_3 ([y_5.Name] : List ByteArray)) fun l5 => (go (.l0 l5 a_4))) else ((go (.l0 a_3 a_4)))
theorem roadref2_UnknownsOf.l0_k.mono : MonoF (β := fun _ => ((List ByteArray))) roadref2_UnknownsOf.l0_k.body := fun f g hfg p => match p with
  | .l0 a_3 a_4 => LeO.ite (LeO.bind (LeO.refl _) fun y1 => LeO.bind (LeO.refl _) fun l14 => LeO.bind (LeO.refl _) fun y32 => LeO.bind (LeO.refl _) fun y52 => LeO.ite (LeO.bind (LeO.refl _) fun y59 => (hfg _)) ((hfg _))) (LeO.refl _)
  | .j0 a_3 a_4 y_5 b_28 => LeO.ite (LeO.bind (LeO.refl _) fun l5 => (hfg _)) ((hfg _))
noncomputable def roadref2_UnknownsOf.l0_k.go (p : roadref2_UnknownsOf.l0_k.Pt) : Option ((List ByteArray)) := fixF (β := fun _ => ((List ByteArray))) roadref2_UnknownsOf.l0_k.body p
noncomputable def roadref2_UnknownsOf.l0 (a_3 : List ByteArray) (a_4 : List T_api_Type) : Option ((List ByteArray)) := roadref2_UnknownsOf.l0_k.go (.l0 a_3 a_4)
noncomputable def roadref2_UnknownsOf.j0 (a_3 : List ByteArray) (a_4 : List T_api_Type) (y_5 : T_api_Type) (b_28 : Bool) : Option ((List ByteArray)) := roadref2_UnknownsOf.l0_k.go (.j0 a_3 a_4 y_5 b_28)
theorem roadref2_UnknownsOf.l0_eq (a_3 : List ByteArray) (a_4 : List T_api_Type) : roadref2_UnknownsOf.l0 a_3 a_4 = if (((List.length a_4) : Nat) : Int) > (0 : Int) then (Option.bind (gi a_4 (0 : Int)) fun y1 => Option.bind (sls a_4 (1 : Int) (((List.length a_4) : Nat) : Int)) fun l14 => Option.bind (slices_Concat_31 ([y1.Args, l14] : List (List T_api_Type))) fun y32 => Option.bind (roadref2_Unknown y1) fun y52 => if y52 = true then (Option.bind (slices_Contains_6 a_3 y1.Name) fun y59 => (roadref2_UnknownsOf.j0 a_3 y32 y1 (!y59))) else ((roadref2_UnknownsOf.j0 a_3 y32 y1 false))) else (some (a_3)) := fixF_eq roadref2_UnknownsOf.l0_k.mono _
theorem roadref2_UnknownsOf.j0_eq (a_3 : List ByteArray) (a_4 : List T_api_Type) (y_5 : T_api_Type) (b_28 : Bool) : roadref2_UnknownsOf.j0 a_3 a_4 y_5 b_28 = if b_28 = true then (Option.bind (ap 16 a_3 ([y_5.Name] : List ByteArray)) fun l5 => (roadref2_UnknownsOf.l0 l5 a_4)) else ((roadref2_UnknownsOf.l0 a_3 a_4)) := fixF_eq roadref2_UnknownsOf.l0_k.mono _
def roadref2_UnknownsOf.l0_k.I : (p : roadref2_UnknownsOf.l0_k.Pt) → ((List ByteArray)) → Prop
  | .l0 a_3 a_4, r => ∀ (W : Nat → Prop) (h0 m0 h m : Heap) (A_3 : Option Addr) (n_3 c_3 : Nat) (A_4 : Option Addr) (n_4 c_4 : Nat) (O : Hold W h0 m0 h m [rR (aE tell_str) A_3 c_3 a_3, rR (aE T_api_Type.T) A_4 c_4 a_4]) (ne_3 : n_3 = List.length a_3) (ne_4 : n_4 = List.length a_4), f5.l0 (roadref2_UnknownsOf.post W h0 m0 r) A_3 n_3 c_3 A_4 n_4 c_4 h
  | .j0 a_3 a_4 y_5 b_28, r => ∀ (W : Nat → Prop) (h0 m0 h m : Heap) (A_3 : Option Addr) (n_3 c_3 : Nat) (A_4 : Option Addr) (n_4 c_4 : Nat) (bk_5 : Nat) (cs_5 : List Value) (O : Hold W h0 m0 h m [rR (aE tell_str) A_3 c_3 a_3, rR (aE T_api_Type.T) A_4 c_4 a_4, rV bk_5 25 cs_5]) (ne_3 : n_3 = List.length a_3) (ne_4 : n_4 = List.length a_4) (e_5 : T_api_Type.E m y_5 cs_5), f5.j0 (roadref2_UnknownsOf.post W h0 m0 r) A_3 n_3 c_3 A_4 n_4 c_4 (⟨bk_5, 0, none⟩ : Addr) b_28 h
set_option maxHeartbeats 4000000 in
set_option maxRecDepth 100000 in
theorem roadref2_UnknownsOf.l0_k.step_l0 (go : (p : roadref2_UnknownsOf.l0_k.Pt) → Option ((List ByteArray))) (ih : ∀ p r, go p = some r → roadref2_UnknownsOf.l0_k.I p r) (a_3 : List ByteArray) (a_4 : List T_api_Type) (r : (List ByteArray)) (e : roadref2_UnknownsOf.l0_k.body go (.l0 a_3 a_4) = some r) : roadref2_UnknownsOf.l0_k.I (.l0 a_3 a_4) r := by
  unfold roadref2_UnknownsOf.l0_k.body at e
  intro W h0 m0 h m A_3 n_3 c_3 A_4 n_4 c_4 O ne_3 ne_4
  subst ne_3
  subst ne_4
  refine f5.l0_in ?_
  unfold f5.l0T
  refine split_dec_e e (fun c74 e => ?_) (fun c74 e => ?_)
  · obtain ⟨y1, g2, e⟩ := bind_e e
    refine (O.os 1 rfl).addr rfl g2 fun a3 cs4 ha5 hc6 he7 => ?_
    refine ⟨_, ldAn (Sub.refl _) hc6 rfl, ?_⟩
    refine O.new fun h8 x9 O10 => ?_
    refine ⟨_, rfl, (T_api_Type.T.len _ _ _ he7), ?_⟩
    refine O10.stA 2 rfl (T_api_Type.T.len _ _ _ he7) (T_api_Type.T.flat _ _ _ he7) fun h12 O13 => ?_
    obtain ⟨l14, g15, e⟩ := bind_e e
    have q16 := sls_e g15
    refine ⟨q16.1, q16.2.1, cap_in q16.2.2.1 (O13.cap 1 rfl), ?_⟩
    try rw [q16.2.2.2.1]
    obtain ⟨A17, c18, q19, k20, r21⟩ := T_api_Type.g2 he7
    refine ⟨_, ldk (k := 2) (Sub.refl _) (O13.all 2 rfl) q19, _, _, _, rfl, ?_⟩
    refine O13.new fun h22 x23 O24 => ?_
    obtain ⟨y32, g33, e⟩ := bind_e e
    obtain ⟨m26, u27, ⟨r28, k29⟩, O30⟩ := O24.frz 1 rfl
    replace r28 : Rd 3 T_api_Type.E m26 A_4 a_4 := r28
    have O31 := O30.rowE (l := ([y1.Args, l14] : List (List T_api_Type))) 3 rfl (tell_row T_api_Type.T) (show CsE _ _ _ _ _ from (CsE.cons (c1 := [(Value.slice A17 (List.length y1.Args) c18)]) ⟨_, _, rfl, k20, (r21.sub T_api_Type.T u27)⟩ rfl (CsE.cons (c1 := [(Value.slice (sliceA A_4 (Int.toNat (1 : Int)) c_4 3) (List.length l14) (c_4 - Int.toNat (1 : Int)))]) ⟨_, _, rfl, (sls_cap g15 k29), (r28.sls g15 (le_mx q16.2.2.1 k29))⟩ rfl CsE.nil))) rfl
    have O38 := O31.nm
    obtain ⟨m39, u40, s45, ⟨⟨r43, k44⟩, _⟩, B41, C42⟩ := O38.lend0 [3]
    replace r43 : Rd 1 (eRow 3 T_api_Type.E) m39 (some ⟨(Array.size h12), 0, none⟩) ([y1.Args, l14] : List (List T_api_Type)) := r43
    replace k44 : List.length ([y1.Args, l14] : List (List T_api_Type)) ≤ 2 := k44
    refine (slices_Concat_31.walk (Hold.start (W := No) s45) rfl k44 r43 g33).mono ?_
    rintro _ h34 ⟨m35, A46, n47, c48, Q36, rfl, ne49⟩
    have O51 := Hold.nm (B41 Q36)
    subst ne49
    refine ⟨_, _, _, rfl, ?_⟩
    refine ⟨_, ldAn (Sub.refl _) (O51.all 2 rfl) (T_api_Type.T.len _ _ _ he7), ?_⟩
    obtain ⟨y52, g53, e⟩ := bind_e e
    refine (roadref2_Unknown.walk (Hold.start (W := No) O51.s) (T_api_Type.T.mono _ _ _ _ (u27.trans (u40.trans Q36.S.up)) he7) g53).mono ?_
    rintro _ h54 ⟨m55, Q56, rfl⟩
    have O58 := Hold.nm (O51.retC Q56 vfs_nil)
    refine ⟨_, rfl, ?_⟩
    refine split_any_e e (fun c73 e => ?_) (fun c73 e => ?_)
    · refine ⟨_, ldk (k := 1) (Sub.refl _) (O58.all 2 rfl) (T_api_Type.g1 he7), _, rfl, ?_⟩
      obtain ⟨y59, g60, e⟩ := bind_e e
      obtain ⟨m65, u66, s71, ⟨⟨r69, k70⟩, _⟩, B67, C68⟩ := O58.lend0 [0]
      replace r69 : Rd 1 eStr m65 A_3 a_3 := r69
      replace k70 : List.length a_3 ≤ c_3 := k70
      refine (slices_Contains_6.walk (Hold.start (W := No) s71) rfl k70 r69 g60).mono ?_
      rintro _ h61 ⟨m62, Q63, rfl⟩
      have O72 := Hold.nm (C68 Q63 vfs_nil)
      refine ⟨_, rfl, ?_⟩
      exact (ih _ _ e) _ _ _ _ _ _ _ _ _ _ _ _ _ (O72.pick [0, 4, 2]).nm rfl rfl (T_api_Type.T.mono _ _ _ _ (u27.trans (u40.trans Q36.S.up)) he7)
    · exact (ih _ _ e) _ _ _ _ _ _ _ _ _ _ _ _ _ (O58.pick [0, 4, 2]).nm rfl rfl (T_api_Type.T.mono _ _ _ _ (u27.trans (u40.trans Q36.S.up)) he7)
  · cases e
    exact ⟨_, _, _, _, O.pick [0], rfl, rfl⟩
set_option maxRecDepth 100000 in
theorem roadref2_UnknownsOf.l0_k.step_j0 (go : (p : roadref2_UnknownsOf.l0_k.Pt) → Option ((List ByteArray))) (ih : ∀ p r, go p = some r → roadref2_UnknownsOf.l0_k.I p r) (a_3 : List ByteArray) (a_4 : List T_api_Type) (y_5 : T_api_Type) (b_28 : Bool) (r : (List ByteArray)) (e : roadref2_UnknownsOf.l0_k.body go (.j0 a_3 a_4 y_5 b_28) = some r) : roadref2_UnknownsOf.l0_k.I (.j0 a_3 a_4 y_5 b_28) r := by
  unfold roadref2_UnknownsOf.l0_k.body at e
  intro W h0 m0 h m A_3 n_3 c_3 A_4 n_4 c_4 bk_5 cs_5 O ne_3 ne_4 e_5
  subst ne_3
  subst ne_4
  refine f5.j0_in ?_
  unfold f5.j0T
  refine split_any_e e (fun c15 e => ?_) (fun c15 e => ?_)
  · refine ⟨_, ldk (k := 1) (Sub.refl _) (O.all 2 rfl) (T_api_Type.g1 e_5), _, rfl, ?_⟩
    refine O.new fun h1 x2 O3 => ?_
    obtain ⟨l5, g6, e⟩ := bind_e e
    have O13 := O3.rowE (l := ([y_5.Name] : List ByteArray)) 3 rfl tell_str (show CsE _ _ _ _ _ from (CsE.cons (c1 := [(Value.string y_5.Name)]) rfl rfl CsE.nil)) rfl
    refine O13.app 0 rfl rfl rfl ((O13.os 3 rfl).srcE rfl) (by decide) g6 fun A7 c8 h9 O10 => ?_
    refine ⟨_, _, _, rfl, ?_⟩
    have O14 := O10.nm
    exact (ih _ _ e) _ _ _ _ _ _ _ _ _ _ _ (O14.pick [0, 1]).nm rfl rfl
  · exact (ih _ _ e) _ _ _ _ _ _ _ _ _ _ _ (O.pick [0, 1]).nm rfl rfl
theorem roadref2_UnknownsOf.l0_k.all {p : roadref2_UnknownsOf.l0_k.Pt} {r : ((List ByteArray))} (e : roadref2_UnknownsOf.l0_k.go p = some r) : roadref2_UnknownsOf.l0_k.I p r := fixF_ind (β := fun _ => ((List ByteArray))) roadref2_UnknownsOf.l0_k.mono (I := roadref2_UnknownsOf.l0_k.I) (fun go ih p r e => match p with
  | .l0 a_3 a_4 => roadref2_UnknownsOf.l0_k.step_l0 go ih a_3 a_4 r e
  | .j0 a_3 a_4 y_5 b_28 => roadref2_UnknownsOf.l0_k.step_j0 go ih a_3 a_4 y_5 b_28 r e
  ) e
theorem roadref2_UnknownsOf.l0.walk {W : Nat → Prop} {h0 m0 h m : Heap} {A_3 : Option Addr} {n_3 c_3 : Nat} {A_4 : Option Addr} {n_4 c_4 : Nat} {a_3 : List ByteArray} {a_4 : List T_api_Type} (O : Hold W h0 m0 h m [rR (aE tell_str) A_3 c_3 a_3, rR (aE T_api_Type.T) A_4 c_4 a_4]) (ne_3 : n_3 = List.length a_3) (ne_4 : n_4 = List.length a_4) {r : (List ByteArray)} (e : roadref2_UnknownsOf.l0 a_3 a_4 = some r) : f5.l0 (roadref2_UnknownsOf.post W h0 m0 r) A_3 n_3 c_3 A_4 n_4 c_4 h := roadref2_UnknownsOf.l0_k.all (p := .l0 a_3 a_4) e W h0 m0 h m A_3 n_3 c_3 A_4 n_4 c_4 O ne_3 ne_4
noncomputable def roadref2_UnknownsOf (y_0 : T_api_Type) : Option ((List ByteArray)) :=
  (roadref2_UnknownsOf.l0 ([] : List ByteArray) ([y_0] : List T_api_Type))
set_option maxRecDepth 100000 in
theorem roadref2_UnknownsOf.walk {W : Nat → Prop} {h m : Heap} {cs_0 : List Value} {y_0 : T_api_Type} (O : Hold W h m h m []) (e_0 : T_api_Type.E m y_0 cs_0) {r : (List ByteArray)} (e : roadref2_UnknownsOf y_0 = some r) : Run Tryd.prog 5 #[Value.agg cs_0.toArray] h (roadref2_UnknownsOf.post W h m r) := by
  unfold roadref2_UnknownsOf at e
  refine f5.run ?_
  unfold f5.runT
  refine O.new fun h1 x2 O3 => ?_
  refine ⟨_, ldAn (Sub.refl _) (O3.all 0 rfl) (T_api_Type.T.len _ _ _ e_0), ?_⟩
  refine ⟨cs_0, rfl, (T_api_Type.T.len _ _ _ e_0), ?_⟩
  refine O3.new fun h5 x6 O7 => ?_
  have O9 := O7.recell 1 rfl (cs' := cs_0 ++ []) rfl
  have O10 := O9.nil (aE tell_str) none
  have O12 := O10.rowE (l := ([y_0] : List T_api_Type)) 1 rfl T_api_Type.T (show CsE _ _ _ _ _ from (CsE.cons e_0 (T_api_Type.T.len _ _ _ e_0) CsE.nil)) rfl
  have O13 := O12.nm
  exact roadref2_UnknownsOf.l0.walk (O13.pick [2, 1]).nm rfl rfl e
def slices_Equal_7.post (W : Nat → Prop) (h0 m0 : Heap) (r : Bool) (v : Value) (h : Heap) : Prop := ∃ m , Hold W h0 m0 h m [] ∧ v = .bool r
inductive slices_Equal_7.l0_k.Pt where
  | l0 (a_0 : List ByteArray) (a_1 : List ByteArray) (x_12 : Int) (x_13 : Int)
noncomputable def slices_Equal_7.l0_k.body (go : (p : slices_Equal_7.l0_k.Pt) → Option (Bool)) : (p : slices_Equal_7.l0_k.Pt) → Option (Bool)
  | .l0 a_0 a_1 x_12 x_13 => if x_13 < x_12 then (Option.bind (gi a_0 x_13) fun y1 => Option.bind (gi a_1 x_13) fun y8 => if y1 = y8 then ((go (.l0 a_0 a_1 x_12 (IntKind.wrap .i64 (x_13 + (1 : Int)))))) else (some (false))) else (some (true))
theorem slices_Equal_7.l0_k.mono : MonoF (β := fun _ => (Bool)) slices_Equal_7.l0_k.body := fun f g hfg p => match p with
  | .l0 a_0 a_1 x_12 x_13 => LeO.ite (LeO.bind (LeO.refl _) fun y1 => LeO.bind (LeO.refl _) fun y8 => LeO.ite ((hfg _)) (LeO.refl _)) (LeO.refl _)
noncomputable def slices_Equal_7.l0_k.go (p : slices_Equal_7.l0_k.Pt) : Option (Bool) := fixF (β := fun _ => (Bool)) slices_Equal_7.l0_k.body p
noncomputable def slices_Equal_7.l0 (a_0 : List ByteArray) (a_1 : List ByteArray) (x_12 : Int) (x_13 : Int) : Option (Bool) := slices_Equal_7.l0_k.go (.l0 a_0 a_1 x_12 x_13)
theorem slices_Equal_7.l0_eq (a_0 : List ByteArray) (a_1 : List ByteArray) (x_12 : Int) (x_13 : Int) : slices_Equal_7.l0 a_0 a_1 x_12 x_13 = if x_13 < x_12 then (Option.bind (gi a_0 x_13) fun y1 => Option.bind (gi a_1 x_13) fun y8 => if y1 = y8 then ((slices_Equal_7.l0 a_0 a_1 x_12 (IntKind.wrap .i64 (x_13 + (1 : Int))))) else (some (false))) else (some (true)) := fixF_eq slices_Equal_7.l0_k.mono _
def slices_Equal_7.l0_k.I : (p : slices_Equal_7.l0_k.Pt) → (Bool) → Prop
  | .l0 a_0 a_1 x_12 x_13, r => ∀ (W : Nat → Prop) (h0 m0 h m : Heap) (A_0 : Option Addr) (n_0 c_0 : Nat) (A_1 : Option Addr) (n_1 c_1 : Nat) (O : Hold W h0 m0 h m []) (ne_0 : n_0 = List.length a_0) (k_0 : List.length a_0 ≤ c_0) (r_0 : Rd 1 eStr m A_0 a_0) (ne_1 : n_1 = List.length a_1) (k_1 : List.length a_1 ≤ c_1) (r_1 : Rd 1 eStr m A_1 a_1), f7.l0 (slices_Equal_7.post W h0 m0 r) A_0 n_0 c_0 A_1 n_1 c_1 x_12 x_13 h
set_option maxRecDepth 100000 in
theorem slices_Equal_7.l0_k.step_l0 (go : (p : slices_Equal_7.l0_k.Pt) → Option (Bool)) (ih : ∀ p r, go p = some r → slices_Equal_7.l0_k.I p r) (a_0 : List ByteArray) (a_1 : List ByteArray) (x_12 : Int) (x_13 : Int) (r : Bool) (e : slices_Equal_7.l0_k.body go (.l0 a_0 a_1 x_12 x_13) = some r) : slices_Equal_7.l0_k.I (.l0 a_0 a_1 x_12 x_13) r := by
  unfold slices_Equal_7.l0_k.body at e
  intro W h0 m0 h m A_0 n_0 c_0 A_1 n_1 c_1 O ne_0 k_0 r_0 ne_1 k_1 r_1
  subst ne_0
  subst ne_1
  refine f7.l0_in ?_
  unfold f7.l0T
  refine split_dec_e e (fun c16 e => ?_) (fun c16 e => ?_)
  · obtain ⟨y1, g2, e⟩ := bind_e e
    refine r_0.addr rfl g2 fun a3 cs4 ha5 hc6 he7 => ?_
    obtain rfl : cs4 = [(Value.string y1)] := he7
    obtain ⟨y8, g9, e⟩ := bind_e e
    refine r_1.addr rfl g9 fun a10 cs11 ha12 hc13 he14 => ?_
    obtain rfl : cs11 = [(Value.string y8)] := he14
    refine ⟨_, ld0 O.s hc6 rfl, _, rfl, ?_⟩
    refine ⟨_, ld0 O.s hc13 rfl, _, rfl, ?_⟩
    try rw [ba_list y1 y8]
    refine split_not ?_
    refine split_dec_e e (fun c15 e => ?_) (fun c15 e => ?_)
    · exact (ih _ _ e) _ _ _ _ _ _ _ _ _ _ _ (O.pick []).nm rfl k_0 r_0 rfl k_1 r_1
    · cases e
      exact ⟨_, O.pick [], rfl⟩
  · cases e
    exact ⟨_, O.pick [], rfl⟩
theorem slices_Equal_7.l0_k.all {p : slices_Equal_7.l0_k.Pt} {r : (Bool)} (e : slices_Equal_7.l0_k.go p = some r) : slices_Equal_7.l0_k.I p r := fixF_ind (β := fun _ => (Bool)) slices_Equal_7.l0_k.mono (I := slices_Equal_7.l0_k.I) (fun go ih p r e => match p with
  | .l0 a_0 a_1 x_12 x_13 => slices_Equal_7.l0_k.step_l0 go ih a_0 a_1 x_12 x_13 r e
  ) e
theorem slices_Equal_7.l0.walk {W : Nat → Prop} {h0 m0 h m : Heap} {A_0 : Option Addr} {n_0 c_0 : Nat} {A_1 : Option Addr} {n_1 c_1 : Nat} {a_0 : List ByteArray} {a_1 : List ByteArray} {x_12 : Int} {x_13 : Int} (O : Hold W h0 m0 h m []) (ne_0 : n_0 = List.length a_0) (k_0 : List.length a_0 ≤ c_0) (r_0 : Rd 1 eStr m A_0 a_0) (ne_1 : n_1 = List.length a_1) (k_1 : List.length a_1 ≤ c_1) (r_1 : Rd 1 eStr m A_1 a_1) {r : Bool} (e : slices_Equal_7.l0 a_0 a_1 x_12 x_13 = some r) : f7.l0 (slices_Equal_7.post W h0 m0 r) A_0 n_0 c_0 A_1 n_1 c_1 x_12 x_13 h := slices_Equal_7.l0_k.all (p := .l0 a_0 a_1 x_12 x_13) e W h0 m0 h m A_0 n_0 c_0 A_1 n_1 c_1 O ne_0 k_0 r_0 ne_1 k_1 r_1
noncomputable def slices_Equal_7 (a_0 : List ByteArray) (a_1 : List ByteArray) : Option (Bool) :=
  if (((List.length a_0) : Nat) : Int) = (((List.length a_1) : Nat) : Int) then ((slices_Equal_7.l0 a_0 a_1 (((List.length a_0) : Nat) : Int) (0 : Int))) else (some (false))
set_option maxRecDepth 100000 in
theorem slices_Equal_7.walk {W : Nat → Prop} {h m : Heap} {A_0 : Option Addr} {n_0 c_0 : Nat} {A_1 : Option Addr} {n_1 c_1 : Nat} {a_0 : List ByteArray} {a_1 : List ByteArray} (O : Hold W h m h m []) (ne_0 : n_0 = List.length a_0) (k_0 : List.length a_0 ≤ c_0) (r_0 : Rd 1 eStr m A_0 a_0) (ne_1 : n_1 = List.length a_1) (k_1 : List.length a_1 ≤ c_1) (r_1 : Rd 1 eStr m A_1 a_1) {r : Bool} (e : slices_Equal_7 a_0 a_1 = some r) : Run Tryd.prog 7 #[Value.slice A_0 n_0 c_0, Value.slice A_1 n_1 c_1] h (slices_Equal_7.post W h m r) := by
  unfold slices_Equal_7 at e
  subst ne_0
  subst ne_1
  refine f7.run ?_
  unfold f7.runT
  refine split_ne_e e (fun c1 e => ?_) (fun c1 e => ?_)
  · cases e
    exact ⟨_, O.pick [], rfl⟩
  · exact slices_Equal_7.l0.walk (O.pick []).nm rfl k_0 r_0 rfl k_1 r_1 e
def unify_Unknown.post (W : Nat → Prop) (h0 m0 : Heap) (r : Bool) (v : Value) (h : Heap) : Prop := ∃ m , Hold W h0 m0 h m [] ∧ v = .bool r
noncomputable def unify_Unknown (y_0 : T_api_Type) : Option (Bool) :=
  if y_0.Kind = (5 : Int) then (if (((List.length y_0.Args) : Nat) : Int) = (0 : Int) then (Option.bind (strings_HasPrefix y_0.Name (ByteArray.mk #[63])) fun y10 => some (y10)) else (some (false))) else (some (false))
set_option maxRecDepth 100000 in
theorem unify_Unknown.walk {W : Nat → Prop} {h m : Heap} {cs_0 : List Value} {y_0 : T_api_Type} (O : Hold W h m h m []) (e_0 : T_api_Type.E m y_0 cs_0) {r : Bool} (e : unify_Unknown y_0 = some r) : Run Tryd.prog 60 #[Value.agg cs_0.toArray] h (unify_Unknown.post W h m r) := by
  unfold unify_Unknown at e
  refine f60.run ?_
  unfold f60.runT
  refine O.new fun h1 x2 O3 => ?_
  refine ⟨_, ld0 (Sub.refl _) (O3.all 0 rfl) (T_api_Type.g0 e_0), _, rfl, ?_⟩
  refine split_eq_e e (fun c20 e => ?_) (fun c20 e => ?_)
  · obtain ⟨A5, c6, q7, k8, r9⟩ := T_api_Type.g2 e_0
    refine ⟨_, ldk (k := 2) (Sub.refl _) (O3.all 0 rfl) q7, _, _, _, rfl, ?_⟩
    refine split_eq_e e (fun c18 e => ?_) (fun c18 e => ?_)
    · refine ⟨_, ldk (k := 1) (Sub.refl _) (O3.all 0 rfl) (T_api_Type.g1 e_0), _, rfl, ?_⟩
      obtain ⟨y10, g11, e⟩ := bind_e e
      refine (strings_HasPrefix.walk (Hold.start (W := No) O3.s)  g11).mono ?_
      rintro _ h12 ⟨m13, Q14, rfl⟩
      have O16 := Hold.nm (O3.retC Q14 vfs_nil)
      refine ⟨_, rfl, ?_⟩
      cases e
      exact ⟨_, O16.pick [], rfl⟩
    · have O17 := O3.nm
      cases e
      exact ⟨_, O17.pick [], rfl⟩
  · have O19 := O3.nm
    cases e
    exact ⟨_, O19.pick [], rfl⟩
def unify_unknowns.post (W : Nat → Prop) (h0 m0 : Heap) (r : (List ByteArray)) (v : Value) (h : Heap) : Prop := ∃ m A0 n0 c0, Hold W h0 m0 h m [rR (aE tell_str) A0 c0 r] ∧ v = .slice A0 n0 c0 ∧ n0 = List.length r
inductive unify_unknowns_k.Pt where
  | f (y_0 : T_api_Type) (a_1 : List ByteArray)
  | j1 (a_1 : List ByteArray) (y_2 : T_api_Type) (b_15 : Bool)
  | j0 (a_1 : List ByteArray) (y_2 : T_api_Type)
  | l0 (a_1 : List ByteArray) (a_22 : List T_api_Type) (x_23 : Int) (x_24 : Int)
noncomputable def unify_unknowns_k.body (go : (p : unify_unknowns_k.Pt) → Option ((List ByteArray))) : (p : unify_unknowns_k.Pt) → Option ((List ByteArray))
  | .f y_0 a_1 => Option.bind (unify_Unknown y_0) fun y5 => if y5 = true then (Option.bind (slices_Contains_6 a_1 y_0.Name) fun y12 => (go (.j1 a_1 y_0 (!y12)))) else ((go (.j1 a_1 y_0 false)))
  | .j1 a_1 y_2 b_15 => if b_15 = true then (Option.bind (ap 16 a_1 ([y_2.Name] : List ByteArray)) fun l5 => (go (.j0 l5 y_2))) else ((go (.j0 a_1 y_2)))
  | .j0 a_1 y_2 => (go (.l0 a_1 y_2.Args (((List.length y_2.Args) : Nat) : Int) (0 : Int)))
  | .l0 a_1 a_22 x_23 x_24 => if x_24 < x_23 then (Option.bind (gi a_22 x_24) fun y1 => Option.bind ((go (.f y1 a_1))) fun y14 => (go (.l0 y14 a_22 x_23 (IntKind.wrap .i64 (x_24 + (1 : Int)))))) else (some (a_1))
theorem unify_unknowns_k.mono : MonoF (β := fun _ => ((List ByteArray))) unify_unknowns_k.body := fun f g hfg p => match p with
  | .f y_0 a_1 => LeO.bind (LeO.refl _) fun y5 => LeO.ite (LeO.bind (LeO.refl _) fun y12 => (hfg _)) ((hfg _))
  | .j1 a_1 y_2 b_15 => LeO.ite (LeO.bind (LeO.refl _) fun l5 => (hfg _)) ((hfg _))
  | .j0 a_1 y_2 => (hfg _)
  | .l0 a_1 a_22 x_23 x_24 => LeO.ite (LeO.bind (LeO.refl _) fun y1 => LeO.bind ((hfg _)) fun y14 => (hfg _)) (LeO.refl _)
noncomputable def unify_unknowns_k.go (p : unify_unknowns_k.Pt) : Option ((List ByteArray)) := fixF (β := fun _ => ((List ByteArray))) unify_unknowns_k.body p
noncomputable def unify_unknowns (y_0 : T_api_Type) (a_1 : List ByteArray) : Option ((List ByteArray)) := unify_unknowns_k.go (.f y_0 a_1)
noncomputable def unify_unknowns.j1 (a_1 : List ByteArray) (y_2 : T_api_Type) (b_15 : Bool) : Option ((List ByteArray)) := unify_unknowns_k.go (.j1 a_1 y_2 b_15)
noncomputable def unify_unknowns.j0 (a_1 : List ByteArray) (y_2 : T_api_Type) : Option ((List ByteArray)) := unify_unknowns_k.go (.j0 a_1 y_2)
noncomputable def unify_unknowns.l0 (a_1 : List ByteArray) (a_22 : List T_api_Type) (x_23 : Int) (x_24 : Int) : Option ((List ByteArray)) := unify_unknowns_k.go (.l0 a_1 a_22 x_23 x_24)
theorem unify_unknowns_eq (y_0 : T_api_Type) (a_1 : List ByteArray) : unify_unknowns y_0 a_1 = Option.bind (unify_Unknown y_0) fun y5 => if y5 = true then (Option.bind (slices_Contains_6 a_1 y_0.Name) fun y12 => (unify_unknowns.j1 a_1 y_0 (!y12))) else ((unify_unknowns.j1 a_1 y_0 false)) := fixF_eq unify_unknowns_k.mono _
theorem unify_unknowns.j1_eq (a_1 : List ByteArray) (y_2 : T_api_Type) (b_15 : Bool) : unify_unknowns.j1 a_1 y_2 b_15 = if b_15 = true then (Option.bind (ap 16 a_1 ([y_2.Name] : List ByteArray)) fun l5 => (unify_unknowns.j0 l5 y_2)) else ((unify_unknowns.j0 a_1 y_2)) := fixF_eq unify_unknowns_k.mono _
theorem unify_unknowns.j0_eq (a_1 : List ByteArray) (y_2 : T_api_Type) : unify_unknowns.j0 a_1 y_2 = (unify_unknowns.l0 a_1 y_2.Args (((List.length y_2.Args) : Nat) : Int) (0 : Int)) := fixF_eq unify_unknowns_k.mono _
theorem unify_unknowns.l0_eq (a_1 : List ByteArray) (a_22 : List T_api_Type) (x_23 : Int) (x_24 : Int) : unify_unknowns.l0 a_1 a_22 x_23 x_24 = if x_24 < x_23 then (Option.bind (gi a_22 x_24) fun y1 => Option.bind ((unify_unknowns y1 a_1)) fun y14 => (unify_unknowns.l0 y14 a_22 x_23 (IntKind.wrap .i64 (x_24 + (1 : Int))))) else (some (a_1)) := fixF_eq unify_unknowns_k.mono _
def unify_unknowns_k.I : (p : unify_unknowns_k.Pt) → ((List ByteArray)) → Prop
  | .f y_0 a_1, r => ∀ (W : Nat → Prop) (h m : Heap) (cs_0 : List Value) (A_1 : Option Addr) (n_1 c_1 : Nat) (O : Hold W h m h m [rR (aE tell_str) A_1 c_1 a_1]) (e_0 : T_api_Type.E m y_0 cs_0) (ne_1 : n_1 = List.length a_1), Run Tryd.prog 50 #[Value.agg cs_0.toArray, Value.slice A_1 n_1 c_1] h (unify_unknowns.post W h m r)
  | .j1 a_1 y_2 b_15, r => ∀ (W : Nat → Prop) (h0 m0 h m : Heap) (A_1 : Option Addr) (n_1 c_1 : Nat) (bk_2 : Nat) (cs_2 : List Value) (O : Hold W h0 m0 h m [rR (aE tell_str) A_1 c_1 a_1, rV bk_2 25 cs_2]) (ne_1 : n_1 = List.length a_1) (e_2 : T_api_Type.E m y_2 cs_2), f50.j1 (unify_unknowns.post W h0 m0 r) A_1 n_1 c_1 (⟨bk_2, 0, none⟩ : Addr) b_15 h
  | .j0 a_1 y_2, r => ∀ (W : Nat → Prop) (h0 m0 h m : Heap) (A_1 : Option Addr) (n_1 c_1 : Nat) (bk_2 : Nat) (cs_2 : List Value) (O : Hold W h0 m0 h m [rR (aE tell_str) A_1 c_1 a_1, rV bk_2 25 cs_2]) (ne_1 : n_1 = List.length a_1) (e_2 : T_api_Type.E m y_2 cs_2), f50.j0 (unify_unknowns.post W h0 m0 r) A_1 n_1 c_1 (⟨bk_2, 0, none⟩ : Addr) h
  | .l0 a_1 a_22 x_23 x_24, r => ∀ (W : Nat → Prop) (h0 m0 h m : Heap) (A_1 : Option Addr) (n_1 c_1 : Nat) (A_22 : Option Addr) (n_22 c_22 : Nat) (O : Hold W h0 m0 h m [rR (aE tell_str) A_1 c_1 a_1]) (ne_1 : n_1 = List.length a_1) (ne_22 : n_22 = List.length a_22) (k_22 : List.length a_22 ≤ c_22) (r_22 : Rd 3 T_api_Type.E m A_22 a_22), f50.l0 (unify_unknowns.post W h0 m0 r) A_1 n_1 c_1 A_22 n_22 c_22 x_23 x_24 h
set_option maxRecDepth 100000 in
theorem unify_unknowns_k.step_f (go : (p : unify_unknowns_k.Pt) → Option ((List ByteArray))) (ih : ∀ p r, go p = some r → unify_unknowns_k.I p r) (y_0 : T_api_Type) (a_1 : List ByteArray) (r : (List ByteArray)) (e : unify_unknowns_k.body go (.f y_0 a_1) = some r) : unify_unknowns_k.I (.f y_0 a_1) r := by
  unfold unify_unknowns_k.body at e
  intro W h m cs_0 A_1 n_1 c_1 O e_0 ne_1
  subst ne_1
  refine f50.run ?_
  unfold f50.runT
  refine O.new fun h1 x2 O3 => ?_
  refine ⟨_, ldAn (Sub.refl _) (O3.all 1 rfl) (T_api_Type.T.len _ _ _ e_0), ?_⟩
  obtain ⟨y5, g6, e⟩ := bind_e e
  refine (unify_Unknown.walk (Hold.start (W := No) O3.s) e_0 g6).mono ?_
  rintro _ h7 ⟨m8, Q9, rfl⟩
  have O11 := Hold.nm (O3.retC Q9 vfs_nil)
  refine ⟨_, rfl, ?_⟩
  refine split_any_e e (fun c26 e => ?_) (fun c26 e => ?_)
  · refine ⟨_, ldk (k := 1) (Sub.refl _) (O11.all 1 rfl) (T_api_Type.g1 e_0), _, rfl, ?_⟩
    obtain ⟨y12, g13, e⟩ := bind_e e
    obtain ⟨m18, u19, s24, ⟨⟨r22, k23⟩, _⟩, B20, C21⟩ := O11.lend0 [0]
    replace r22 : Rd 1 eStr m18 A_1 a_1 := r22
    replace k23 : List.length a_1 ≤ c_1 := k23
    refine (slices_Contains_6.walk (Hold.start (W := No) s24) rfl k23 r22 g13).mono ?_
    rintro _ h14 ⟨m15, Q16, rfl⟩
    have O25 := Hold.nm (C21 Q16 vfs_nil)
    refine ⟨_, rfl, ?_⟩
    exact (ih _ _ e) _ _ _ _ _ _ _ _ _ _ (O25.pick [0, 1]).nm rfl e_0
  · exact (ih _ _ e) _ _ _ _ _ _ _ _ _ _ (O11.pick [0, 1]).nm rfl e_0
set_option maxRecDepth 100000 in
theorem unify_unknowns_k.step_j1 (go : (p : unify_unknowns_k.Pt) → Option ((List ByteArray))) (ih : ∀ p r, go p = some r → unify_unknowns_k.I p r) (a_1 : List ByteArray) (y_2 : T_api_Type) (b_15 : Bool) (r : (List ByteArray)) (e : unify_unknowns_k.body go (.j1 a_1 y_2 b_15) = some r) : unify_unknowns_k.I (.j1 a_1 y_2 b_15) r := by
  unfold unify_unknowns_k.body at e
  intro W h0 m0 h m A_1 n_1 c_1 bk_2 cs_2 O ne_1 e_2
  subst ne_1
  refine f50.j1_in ?_
  unfold f50.j1T
  refine split_any_e e (fun c15 e => ?_) (fun c15 e => ?_)
  · refine ⟨_, ldk (k := 1) (Sub.refl _) (O.all 1 rfl) (T_api_Type.g1 e_2), _, rfl, ?_⟩
    refine O.new fun h1 x2 O3 => ?_
    obtain ⟨l5, g6, e⟩ := bind_e e
    have O13 := O3.rowE (l := ([y_2.Name] : List ByteArray)) 2 rfl tell_str (show CsE _ _ _ _ _ from (CsE.cons (c1 := [(Value.string y_2.Name)]) rfl rfl CsE.nil)) rfl
    refine O13.app 0 rfl rfl rfl ((O13.os 2 rfl).srcE rfl) (by decide) g6 fun A7 c8 h9 O10 => ?_
    refine ⟨_, _, _, rfl, ?_⟩
    have O14 := O10.nm
    exact (ih _ _ e) _ _ _ _ _ _ _ _ _ _ (O14.pick [0, 1]).nm rfl e_2
  · exact (ih _ _ e) _ _ _ _ _ _ _ _ _ _ (O.pick [0, 1]).nm rfl e_2
set_option maxRecDepth 100000 in
theorem unify_unknowns_k.step_j0 (go : (p : unify_unknowns_k.Pt) → Option ((List ByteArray))) (ih : ∀ p r, go p = some r → unify_unknowns_k.I p r) (a_1 : List ByteArray) (y_2 : T_api_Type) (r : (List ByteArray)) (e : unify_unknowns_k.body go (.j0 a_1 y_2) = some r) : unify_unknowns_k.I (.j0 a_1 y_2) r := by
  unfold unify_unknowns_k.body at e
  intro W h0 m0 h m A_1 n_1 c_1 bk_2 cs_2 O ne_1 e_2
  subst ne_1
  refine f50.j0_in ?_
  unfold f50.j0T
  obtain ⟨A1, c2, q3, k4, r5⟩ := T_api_Type.g2 e_2
  refine ⟨_, ldk (k := 2) (Sub.refl _) (O.all 1 rfl) q3, _, _, _, rfl, ?_⟩
  exact (ih _ _ e) _ _ _ _ _ _ _ _ _ _ _ (O.pick [0]).nm rfl rfl k4 r5
set_option maxRecDepth 100000 in
theorem unify_unknowns_k.step_l0 (go : (p : unify_unknowns_k.Pt) → Option ((List ByteArray))) (ih : ∀ p r, go p = some r → unify_unknowns_k.I p r) (a_1 : List ByteArray) (a_22 : List T_api_Type) (x_23 : Int) (x_24 : Int) (r : (List ByteArray)) (e : unify_unknowns_k.body go (.l0 a_1 a_22 x_23 x_24) = some r) : unify_unknowns_k.I (.l0 a_1 a_22 x_23 x_24) r := by
  unfold unify_unknowns_k.body at e
  intro W h0 m0 h m A_1 n_1 c_1 A_22 n_22 c_22 O ne_1 ne_22 k_22 r_22
  subst ne_1
  subst ne_22
  refine f50.l0_in ?_
  unfold f50.l0T
  refine split_dec_e e (fun c31 e => ?_) (fun c31 e => ?_)
  · obtain ⟨y1, g2, e⟩ := bind_e e
    refine r_22.addr rfl g2 fun a3 cs4 ha5 hc6 he7 => ?_
    refine ⟨_, ldAn O.s hc6 rfl, ?_⟩
    refine O.new fun h8 x9 O10 => ?_
    refine ⟨_, rfl, (T_api_Type.T.len _ _ _ he7), ?_⟩
    refine O10.stA 1 rfl (T_api_Type.T.len _ _ _ he7) (T_api_Type.T.flat _ _ _ he7) fun h12 O13 => ?_
    refine ⟨_, ldAn (Sub.refl _) (O13.all 1 rfl) (T_api_Type.T.len _ _ _ he7), ?_⟩
    obtain ⟨y14, g15, e⟩ := bind_e e
    have O20 := O13.nm
    obtain ⟨W21, P22, B23, C24⟩ := O20.callC [0]
    refine ((ih _ _ g15) _ _ _ _ _ _ _ P22 he7 rfl).mono ?_
    rintro _ h16 ⟨m17, A25, n26, c27, Q18, rfl, ne28⟩
    have O30 := Hold.nm (C24 Q18 (vfs_cons (rR_vf (aE_vf (fun _ _ _ _ h => h))) vfs_nil))
    subst ne28
    refine ⟨_, _, _, rfl, ?_⟩
    exact (ih _ _ e) _ _ _ _ _ _ _ _ _ _ _ (O30.pick [2]).nm rfl rfl k_22 r_22
  · cases e
    exact ⟨_, _, _, _, O.pick [0], rfl, rfl⟩
theorem unify_unknowns_k.all {p : unify_unknowns_k.Pt} {r : ((List ByteArray))} (e : unify_unknowns_k.go p = some r) : unify_unknowns_k.I p r := fixF_ind (β := fun _ => ((List ByteArray))) unify_unknowns_k.mono (I := unify_unknowns_k.I) (fun go ih p r e => match p with
  | .f y_0 a_1 => unify_unknowns_k.step_f go ih y_0 a_1 r e
  | .j1 a_1 y_2 b_15 => unify_unknowns_k.step_j1 go ih a_1 y_2 b_15 r e
  | .j0 a_1 y_2 => unify_unknowns_k.step_j0 go ih a_1 y_2 r e
  | .l0 a_1 a_22 x_23 x_24 => unify_unknowns_k.step_l0 go ih a_1 a_22 x_23 x_24 r e
  ) e
theorem unify_unknowns.walk {W : Nat → Prop} {h m : Heap} {cs_0 : List Value} {A_1 : Option Addr} {n_1 c_1 : Nat} {y_0 : T_api_Type} {a_1 : List ByteArray} (O : Hold W h m h m [rR (aE tell_str) A_1 c_1 a_1]) (e_0 : T_api_Type.E m y_0 cs_0) (ne_1 : n_1 = List.length a_1) {r : (List ByteArray)} (e : unify_unknowns y_0 a_1 = some r) : Run Tryd.prog 50 #[Value.agg cs_0.toArray, Value.slice A_1 n_1 c_1] h (unify_unknowns.post W h m r) := unify_unknowns_k.all (p := .f y_0 a_1) e W h m cs_0 A_1 n_1 c_1 O e_0 ne_1
def unify_Unknowns.post (W : Nat → Prop) (h0 m0 : Heap) (r : (List ByteArray)) (v : Value) (h : Heap) : Prop := ∃ m A0 n0 c0, Hold W h0 m0 h m [rR (aE tell_str) A0 c0 r] ∧ v = .slice A0 n0 c0 ∧ n0 = List.length r
noncomputable def unify_Unknowns (y_0 : T_api_Type) : Option ((List ByteArray)) :=
  Option.bind (unify_unknowns y_0 ([] : List ByteArray)) fun y7 => some (y7)
set_option maxRecDepth 100000 in
theorem unify_Unknowns.walk {W : Nat → Prop} {h m : Heap} {cs_0 : List Value} {y_0 : T_api_Type} (O : Hold W h m h m []) (e_0 : T_api_Type.E m y_0 cs_0) {r : (List ByteArray)} (e : unify_Unknowns y_0 = some r) : Run Tryd.prog 34 #[Value.agg cs_0.toArray] h (unify_Unknowns.post W h m r) := by
  unfold unify_Unknowns at e
  refine f34.run ?_
  unfold f34.runT
  refine O.new fun h1 x2 O3 => ?_
  refine ⟨_, ldAn (Sub.refl _) (O3.all 0 rfl) (T_api_Type.T.len _ _ _ e_0), ?_⟩
  obtain ⟨y7, g8, e⟩ := bind_e e
  have O5 := O3.nil (aE tell_str) none
  have O13 := O5.nm
  obtain ⟨W14, P15, B16, C17⟩ := O13.callC [1]
  refine (unify_unknowns.walk P15 e_0 rfl g8).mono ?_
  rintro _ h9 ⟨m10, A18, n19, c20, Q11, rfl, ne21⟩
  have O23 := Hold.nm (C17 Q11 (vfs_cons (rR_vf (aE_vf (fun _ _ _ _ h => h))) vfs_nil))
  subst ne21
  refine ⟨_, _, _, rfl, ?_⟩
  cases e
  exact ⟨_, _, _, _, O23.pick [2], rfl, rfl⟩
def scheme_Free.post (W : Nat → Prop) (h0 m0 : Heap) (r : (List ByteArray)) (v : Value) (h : Heap) : Prop := ∃ m A0 n0 c0, Hold W h0 m0 h m [rR (aE tell_str) A0 c0 r] ∧ v = .slice A0 n0 c0 ∧ n0 = List.length r
inductive scheme_Free.l0_k.Pt where
  | l0 (y_1 : T_scheme_Scheme) (a_3 : List ByteArray) (a_8 : List ByteArray) (x_9 : Int) (x_10 : Int)
noncomputable def scheme_Free.l0_k.body (go : (p : scheme_Free.l0_k.Pt) → Option ((List ByteArray))) : (p : scheme_Free.l0_k.Pt) → Option ((List ByteArray))
  | .l0 y_1 a_3 a_8 x_9 x_10 => if x_10 < x_9 then (Option.bind (gi a_8 x_10) fun y1 => Option.bind (slices_Contains_6 y_1.Params y1) fun y13 => if y13 = true then ((go (.l0 y_1 a_3 a_8 x_9 (IntKind.wrap .i64 (x_10 + (1 : Int)))))) else (Option.bind (ap 16 a_3 ([y1] : List ByteArray)) fun l24 => (go (.l0 y_1 l24 a_8 x_9 (IntKind.wrap .i64 (x_10 + (1 : Int))))))) else (some (a_3))
theorem scheme_Free.l0_k.mono : MonoF (β := fun _ => ((List ByteArray))) scheme_Free.l0_k.body := fun f g hfg p => match p with
  | .l0 y_1 a_3 a_8 x_9 x_10 => LeO.ite (LeO.bind (LeO.refl _) fun y1 => LeO.bind (LeO.refl _) fun y13 => LeO.ite ((hfg _)) (LeO.bind (LeO.refl _) fun l24 => (hfg _))) (LeO.refl _)
noncomputable def scheme_Free.l0_k.go (p : scheme_Free.l0_k.Pt) : Option ((List ByteArray)) := fixF (β := fun _ => ((List ByteArray))) scheme_Free.l0_k.body p
noncomputable def scheme_Free.l0 (y_1 : T_scheme_Scheme) (a_3 : List ByteArray) (a_8 : List ByteArray) (x_9 : Int) (x_10 : Int) : Option ((List ByteArray)) := scheme_Free.l0_k.go (.l0 y_1 a_3 a_8 x_9 x_10)
theorem scheme_Free.l0_eq (y_1 : T_scheme_Scheme) (a_3 : List ByteArray) (a_8 : List ByteArray) (x_9 : Int) (x_10 : Int) : scheme_Free.l0 y_1 a_3 a_8 x_9 x_10 = if x_10 < x_9 then (Option.bind (gi a_8 x_10) fun y1 => Option.bind (slices_Contains_6 y_1.Params y1) fun y13 => if y13 = true then ((scheme_Free.l0 y_1 a_3 a_8 x_9 (IntKind.wrap .i64 (x_10 + (1 : Int))))) else (Option.bind (ap 16 a_3 ([y1] : List ByteArray)) fun l24 => (scheme_Free.l0 y_1 l24 a_8 x_9 (IntKind.wrap .i64 (x_10 + (1 : Int)))))) else (some (a_3)) := fixF_eq scheme_Free.l0_k.mono _
def scheme_Free.l0_k.I : (p : scheme_Free.l0_k.Pt) → ((List ByteArray)) → Prop
  | .l0 y_1 a_3 a_8 x_9 x_10, r => ∀ (W : Nat → Prop) (h0 m0 h m : Heap) (bk_1 : Nat) (cs_1 : List Value) (A_3 : Option Addr) (n_3 c_3 : Nat) (A_8 : Option Addr) (n_8 c_8 : Nat) (O : Hold W h0 m0 h m [rV bk_1 27 cs_1, rR (aE tell_str) A_3 c_3 a_3, rR (aE tell_str) A_8 c_8 a_8]) (e_1 : T_scheme_Scheme.E m y_1 cs_1) (ne_3 : n_3 = List.length a_3) (ne_8 : n_8 = List.length a_8), f8.l0 (scheme_Free.post W h0 m0 r) (⟨bk_1, 0, none⟩ : Addr) A_3 n_3 c_3 A_8 n_8 c_8 x_9 x_10 h
set_option maxRecDepth 100000 in
theorem scheme_Free.l0_k.step_l0 (go : (p : scheme_Free.l0_k.Pt) → Option ((List ByteArray))) (ih : ∀ p r, go p = some r → scheme_Free.l0_k.I p r) (y_1 : T_scheme_Scheme) (a_3 : List ByteArray) (a_8 : List ByteArray) (x_9 : Int) (x_10 : Int) (r : (List ByteArray)) (e : scheme_Free.l0_k.body go (.l0 y_1 a_3 a_8 x_9 x_10) = some r) : scheme_Free.l0_k.I (.l0 y_1 a_3 a_8 x_9 x_10) r := by
  unfold scheme_Free.l0_k.body at e
  intro W h0 m0 h m bk_1 cs_1 A_3 n_3 c_3 A_8 n_8 c_8 O e_1 ne_3 ne_8
  subst ne_3
  subst ne_8
  refine f8.l0_in ?_
  unfold f8.l0T
  refine split_dec_e e (fun c35 e => ?_) (fun c35 e => ?_)
  · obtain ⟨y1, g2, e⟩ := bind_e e
    refine (O.os 2 rfl).addr rfl g2 fun a3 cs4 ha5 hc6 he7 => ?_
    obtain rfl : cs4 = [(Value.string y1)] := he7
    refine ⟨_, ld0 (Sub.refl _) hc6 rfl, _, rfl, ?_⟩
    obtain ⟨A8, c9, q10, k11, r12⟩ := T_scheme_Scheme.g0 e_1
    refine ⟨_, ld0 (Sub.refl _) (O.all 0 rfl) q10, _, _, _, rfl, ?_⟩
    obtain ⟨y13, g14, e⟩ := bind_e e
    refine (slices_Contains_6.walk (Hold.start (W := No) O.s) rfl k11 r12 g14).mono ?_
    rintro _ h15 ⟨m16, Q17, rfl⟩
    have O19 := Hold.nm (O.retC Q17 vfs_nil)
    refine ⟨_, rfl, ?_⟩
    refine split_not ?_
    refine split_any_e e (fun c34 e => ?_) (fun c34 e => ?_)
    · exact (ih _ _ e) _ _ _ _ _ _ _ _ _ _ _ _ _ (O19.pick [0, 1, 2]).nm e_1 rfl rfl
    · refine O19.new fun h20 x21 O22 => ?_
      obtain ⟨l24, g25, e⟩ := bind_e e
      have O32 := O22.rowE (l := ([y1] : List ByteArray)) 3 rfl tell_str (show CsE _ _ _ _ _ from (CsE.cons (c1 := [(Value.string y1)]) rfl rfl CsE.nil)) rfl
      refine O32.app 1 rfl rfl rfl ((O32.os 3 rfl).srcE rfl) (by decide) g25 fun A26 c27 h28 O29 => ?_
      refine ⟨_, _, _, rfl, ?_⟩
      have O33 := O29.nm
      exact (ih _ _ e) _ _ _ _ _ _ _ _ _ _ _ _ _ (O33.pick [0, 1, 2]).nm e_1 rfl rfl
  · cases e
    exact ⟨_, _, _, _, O.pick [1], rfl, rfl⟩
theorem scheme_Free.l0_k.all {p : scheme_Free.l0_k.Pt} {r : ((List ByteArray))} (e : scheme_Free.l0_k.go p = some r) : scheme_Free.l0_k.I p r := fixF_ind (β := fun _ => ((List ByteArray))) scheme_Free.l0_k.mono (I := scheme_Free.l0_k.I) (fun go ih p r e => match p with
  | .l0 y_1 a_3 a_8 x_9 x_10 => scheme_Free.l0_k.step_l0 go ih y_1 a_3 a_8 x_9 x_10 r e
  ) e
theorem scheme_Free.l0.walk {W : Nat → Prop} {h0 m0 h m : Heap} {bk_1 : Nat} {cs_1 : List Value} {A_3 : Option Addr} {n_3 c_3 : Nat} {A_8 : Option Addr} {n_8 c_8 : Nat} {y_1 : T_scheme_Scheme} {a_3 : List ByteArray} {a_8 : List ByteArray} {x_9 : Int} {x_10 : Int} (O : Hold W h0 m0 h m [rV bk_1 27 cs_1, rR (aE tell_str) A_3 c_3 a_3, rR (aE tell_str) A_8 c_8 a_8]) (e_1 : T_scheme_Scheme.E m y_1 cs_1) (ne_3 : n_3 = List.length a_3) (ne_8 : n_8 = List.length a_8) {r : (List ByteArray)} (e : scheme_Free.l0 y_1 a_3 a_8 x_9 x_10 = some r) : f8.l0 (scheme_Free.post W h0 m0 r) (⟨bk_1, 0, none⟩ : Addr) A_3 n_3 c_3 A_8 n_8 c_8 x_9 x_10 h := scheme_Free.l0_k.all (p := .l0 y_1 a_3 a_8 x_9 x_10) e W h0 m0 h m bk_1 cs_1 A_3 n_3 c_3 A_8 n_8 c_8 O e_1 ne_3 ne_8
noncomputable def scheme_Free (y_0 : T_scheme_Scheme) : Option ((List ByteArray)) :=
  Option.bind (unify_Unknowns y_0.Type_) fun y5 => (scheme_Free.l0 y_0 ([] : List ByteArray) y5 (((List.length y5) : Nat) : Int) (0 : Int))
set_option maxRecDepth 100000 in
theorem scheme_Free.walk {W : Nat → Prop} {h m : Heap} {cs_0 : List Value} {y_0 : T_scheme_Scheme} (O : Hold W h m h m []) (e_0 : T_scheme_Scheme.E m y_0 cs_0) {r : (List ByteArray)} (e : scheme_Free y_0 = some r) : Run Tryd.prog 8 #[Value.agg cs_0.toArray] h (scheme_Free.post W h m r) := by
  unfold scheme_Free at e
  refine f8.run ?_
  unfold f8.runT
  refine O.new fun h1 x2 O3 => ?_
  refine ⟨_, ldAkn (Sub.refl _) (O3.all 0 rfl) 1 3 (le_len (T_scheme_Scheme.T.len _ _ _ e_0) (by decide)), ?_⟩
  obtain ⟨y5, g6, e⟩ := bind_e e
  refine (unify_Unknowns.walk (Hold.start (W := No) O3.s) (T_scheme_Scheme.u1_25 e_0) g6).mono ?_
  rintro _ h7 ⟨m8, A11, n12, c13, Q9, rfl, ne14⟩
  have O16 := Hold.nm (O3.retC Q9 (vfs_cons (rR_vf (aE_vf (fun _ _ _ _ h => h))) vfs_nil))
  subst ne14
  refine ⟨_, _, _, rfl, ?_⟩
  have O17 := O16.nil (aE tell_str) none
  have O19 := O17.nm
  exact scheme_Free.l0.walk (O19.pick [0, 2, 1]).nm e_0 rfl rfl e
def slices_Clone_42.post (W : Nat → Prop) (h0 m0 : Heap) (r : (List T_api_Type)) (v : Value) (h : Heap) : Prop := ∃ m A0 n0 c0, Hold W h0 m0 h m [rR (aE T_api_Type.T) A0 c0 r] ∧ v = .slice A0 n0 c0 ∧ n0 = List.length r
noncomputable def slices_Clone_42 (a0 : List T_api_Type) : Option (List T_api_Type) := ap 48 ([] : List T_api_Type) a0
set_option maxRecDepth 100000 in
theorem slices_Clone_42.walk {W : Nat → Prop} {h m : Heap} {A0 : Option Addr} {n0 c0 : Nat} {a0 : List T_api_Type} (O : Hold W h m h m []) (ne0 : n0 = List.length a0) (k0 : List.length a0 ≤ c0) (r0 : Rd 3 T_api_Type.E m A0 a0) {r : List T_api_Type} (e : slices_Clone_42 a0 = some r) : Run Tryd.prog 42 #[Value.slice A0 n0 c0] h (slices_Clone_42.post W h m r) := by
  unfold slices_Clone_42 at e
  subst ne0
  refine f42.run ?_
  unfold f42.runT
  cases A0 with
  | none =>
    refine split_t ?_
    obtain rfl := Rd.void r0
    obtain rfl : [] = r := by have := (ap_e e).2; simpa using this
    exact ⟨m, none, 0, 0, O.nil (aE T_api_Type.T) none, rfl, rfl⟩
  | some a =>
    refine split_f ?_
    refine O.new fun h1 x1 O1 => ?_
    refine O1.appE0 T_api_Type.T rfl rfl (r0.srcE T_api_Type.T O1.s rfl) (by decide) e fun A4 c4 h4 x4 O4 => ?_
    refine ⟨_, _, _, rfl, ?_⟩
    exact ⟨m, _, _, _, O4.pick [1], rfl, rfl⟩
theorem slices_Clone_42.val (l : List T_api_Type) (h : l.length * 48 ≤ 140737488355328) : slices_Clone_42 l = some l := ap_nil h
def kind_Put.post (W : Nat → Prop) (h0 m0 : Heap) (r : T_api_Type) (v : Value) (h : Heap) : Prop := ∃ m cs0, Hold W h0 m0 h m [] ∧ v = .agg cs0.toArray ∧ T_api_Type.E m r cs0
def kind_Copy.post (W : Nat → Prop) (h0 m0 : Heap) (r : T_api_Type) (v : Value) (h : Heap) : Prop := ∃ m cs0, Hold W h0 m0 h m [] ∧ v = .agg cs0.toArray ∧ T_api_Type.E m r cs0
inductive kind_Put_k.Pt where
  | f_29 (y_0 : T_api_Type) (a_1 : List ByteArray) (a_2 : List T_api_Type)
  | j1_29 (a_1 : List ByteArray) (a_2 : List T_api_Type) (y_3 : T_api_Type) (y_6 : T_api_Type) (x_7 : Int) (b_24 : Bool)
  | j0_29 (a_1 : List ByteArray) (a_2 : List T_api_Type) (y_3 : T_api_Type) (y_6 : T_api_Type)
  | l0_29 (a_1 : List ByteArray) (a_2 : List T_api_Type) (x_3_0 : Int) (s_3_1 : ByteArray) (a_3_2 : (List T_api_Type)) (y_6 : T_api_Type) (x_40 : Int) (x_41 : Int)
  | f_30 (y_0 : T_api_Type)
noncomputable def kind_Put_k.body (go : (p : kind_Put_k.Pt) → Option (T_api_Type)) : (p : kind_Put_k.Pt) → Option (T_api_Type)
  | .f_29 y_0 a_1 a_2 => if y_0.Kind = (5 : Int) then (Option.bind (slices_Index_33 a_1 y_0.Name) fun y9 => if y9 ≥ (0 : Int) then ((go (.j1_29 a_1 a_2 y_0 (T_api_Type.mk (0 : Int) (ByteArray.mk #[]) ([] : List T_api_Type)) y9 (decide (y9 < (((List.length a_2) : Nat) : Int)))))) else ((go (.j1_29 a_1 a_2 y_0 (T_api_Type.mk (0 : Int) (ByteArray.mk #[]) ([] : List T_api_Type)) y9 false)))) else ((go (.j0_29 a_1 a_2 y_0 (T_api_Type.mk (0 : Int) (ByteArray.mk #[]) ([] : List T_api_Type)))))
  | .j1_29 a_1 a_2 y_3 y_6 x_7 b_24 => if b_24 = true then (Option.bind (gi a_2 x_7) fun y1 => Option.bind ((go (.f_30 y1))) fun y8 => some (y8)) else ((go (.j0_29 a_1 a_2 y_3 y_6)))
  | .j0_29 a_1 a_2 y_3 y_6 => Option.bind (slices_Clone_42 y_3.Args) fun y6 => (go (.l0_29 a_1 a_2 y_3.Kind y_3.Name y6 y_6 (((List.length y6) : Nat) : Int) (0 : Int)))
  | .l0_29 a_1 a_2 x_3_0 s_3_1 a_3_2 y_6 x_40 x_41 => if x_41 < x_40 then (Option.bind (gi a_3_2 x_41) fun y1 => Option.bind ((go (.f_29 y1 a_1 a_2))) fun y14 => Option.bind (gi a_3_2 x_41) fun y24 => Option.bind (some (List.set a_3_2 (Int.toNat x_41) y14)) fun l33 => (go (.l0_29 a_1 a_2 x_3_0 s_3_1 l33 y_6 x_40 (IntKind.wrap .i64 (x_41 + (1 : Int)))))) else (some ((T_api_Type.mk x_3_0 s_3_1 a_3_2)))
  | .f_30 y_0 => Option.bind ((go (.f_29 y_0 ([] : List ByteArray) ([] : List T_api_Type)))) fun y9 => some (y9)
theorem kind_Put_k.mono : MonoF (β := fun _ => (T_api_Type)) kind_Put_k.body := fun f g hfg p => match p with
  | .f_29 y_0 a_1 a_2 => LeO.ite (LeO.bind (LeO.refl _) fun y9 => LeO.ite ((hfg _)) ((hfg _))) ((hfg _))
  | .j1_29 a_1 a_2 y_3 y_6 x_7 b_24 => LeO.ite (LeO.bind (LeO.refl _) fun y1 => LeO.bind ((hfg _)) fun y8 => LeO.refl _) ((hfg _))
  | .j0_29 a_1 a_2 y_3 y_6 => LeO.bind (LeO.refl _) fun y6 => (hfg _)
  | .l0_29 a_1 a_2 x_3_0 s_3_1 a_3_2 y_6 x_40 x_41 => LeO.ite (LeO.bind (LeO.refl _) fun y1 => LeO.bind ((hfg _)) fun y14 => LeO.bind (LeO.refl _) fun y24 => LeO.bind (LeO.refl _) fun l33 => (hfg _)) (LeO.refl _)
  | .f_30 y_0 => LeO.bind ((hfg _)) fun y9 => LeO.refl _
noncomputable def kind_Put_k.go (p : kind_Put_k.Pt) : Option (T_api_Type) := fixF (β := fun _ => (T_api_Type)) kind_Put_k.body p
noncomputable def kind_Put (y_0 : T_api_Type) (a_1 : List ByteArray) (a_2 : List T_api_Type) : Option (T_api_Type) := kind_Put_k.go (.f_29 y_0 a_1 a_2)
noncomputable def kind_Put.j1 (a_1 : List ByteArray) (a_2 : List T_api_Type) (y_3 : T_api_Type) (y_6 : T_api_Type) (x_7 : Int) (b_24 : Bool) : Option (T_api_Type) := kind_Put_k.go (.j1_29 a_1 a_2 y_3 y_6 x_7 b_24)
noncomputable def kind_Put.j0 (a_1 : List ByteArray) (a_2 : List T_api_Type) (y_3 : T_api_Type) (y_6 : T_api_Type) : Option (T_api_Type) := kind_Put_k.go (.j0_29 a_1 a_2 y_3 y_6)
noncomputable def kind_Put.l0 (a_1 : List ByteArray) (a_2 : List T_api_Type) (x_3_0 : Int) (s_3_1 : ByteArray) (a_3_2 : (List T_api_Type)) (y_6 : T_api_Type) (x_40 : Int) (x_41 : Int) : Option (T_api_Type) := kind_Put_k.go (.l0_29 a_1 a_2 x_3_0 s_3_1 a_3_2 y_6 x_40 x_41)
noncomputable def kind_Copy (y_0 : T_api_Type) : Option (T_api_Type) := kind_Put_k.go (.f_30 y_0)
theorem kind_Put_eq (y_0 : T_api_Type) (a_1 : List ByteArray) (a_2 : List T_api_Type) : kind_Put y_0 a_1 a_2 = if y_0.Kind = (5 : Int) then (Option.bind (slices_Index_33 a_1 y_0.Name) fun y9 => if y9 ≥ (0 : Int) then ((kind_Put.j1 a_1 a_2 y_0 (T_api_Type.mk (0 : Int) (ByteArray.mk #[]) ([] : List T_api_Type)) y9 (decide (y9 < (((List.length a_2) : Nat) : Int))))) else ((kind_Put.j1 a_1 a_2 y_0 (T_api_Type.mk (0 : Int) (ByteArray.mk #[]) ([] : List T_api_Type)) y9 false))) else ((kind_Put.j0 a_1 a_2 y_0 (T_api_Type.mk (0 : Int) (ByteArray.mk #[]) ([] : List T_api_Type)))) := fixF_eq kind_Put_k.mono _
theorem kind_Put.j1_eq (a_1 : List ByteArray) (a_2 : List T_api_Type) (y_3 : T_api_Type) (y_6 : T_api_Type) (x_7 : Int) (b_24 : Bool) : kind_Put.j1 a_1 a_2 y_3 y_6 x_7 b_24 = if b_24 = true then (Option.bind (gi a_2 x_7) fun y1 => Option.bind ((kind_Copy y1)) fun y8 => some (y8)) else ((kind_Put.j0 a_1 a_2 y_3 y_6)) := fixF_eq kind_Put_k.mono _
theorem kind_Put.j0_eq (a_1 : List ByteArray) (a_2 : List T_api_Type) (y_3 : T_api_Type) (y_6 : T_api_Type) : kind_Put.j0 a_1 a_2 y_3 y_6 = Option.bind (slices_Clone_42 y_3.Args) fun y6 => (kind_Put.l0 a_1 a_2 y_3.Kind y_3.Name y6 y_6 (((List.length y6) : Nat) : Int) (0 : Int)) := fixF_eq kind_Put_k.mono _
theorem kind_Put.l0_eq (a_1 : List ByteArray) (a_2 : List T_api_Type) (x_3_0 : Int) (s_3_1 : ByteArray) (a_3_2 : (List T_api_Type)) (y_6 : T_api_Type) (x_40 : Int) (x_41 : Int) : kind_Put.l0 a_1 a_2 x_3_0 s_3_1 a_3_2 y_6 x_40 x_41 = if x_41 < x_40 then (Option.bind (gi a_3_2 x_41) fun y1 => Option.bind ((kind_Put y1 a_1 a_2)) fun y14 => Option.bind (gi a_3_2 x_41) fun y24 => Option.bind (some (List.set a_3_2 (Int.toNat x_41) y14)) fun l33 => (kind_Put.l0 a_1 a_2 x_3_0 s_3_1 l33 y_6 x_40 (IntKind.wrap .i64 (x_41 + (1 : Int))))) else (some ((T_api_Type.mk x_3_0 s_3_1 a_3_2))) := fixF_eq kind_Put_k.mono _
theorem kind_Copy_eq (y_0 : T_api_Type) : kind_Copy y_0 = Option.bind ((kind_Put y_0 ([] : List ByteArray) ([] : List T_api_Type))) fun y9 => some (y9) := fixF_eq kind_Put_k.mono _
def kind_Put_k.I : (p : kind_Put_k.Pt) → (T_api_Type) → Prop
  | .f_29 y_0 a_1 a_2, r => ∀ (W : Nat → Prop) (h m : Heap) (cs_0 : List Value) (A_1 : Option Addr) (n_1 c_1 : Nat) (A_2 : Option Addr) (n_2 c_2 : Nat) (O : Hold W h m h m []) (e_0 : T_api_Type.E m y_0 cs_0) (ne_1 : n_1 = List.length a_1) (k_1 : List.length a_1 ≤ c_1) (r_1 : Rd 1 eStr m A_1 a_1) (ne_2 : n_2 = List.length a_2) (k_2 : List.length a_2 ≤ c_2) (r_2 : Rd 3 T_api_Type.E m A_2 a_2), Run Tryd.prog 29 #[Value.agg cs_0.toArray, Value.slice A_1 n_1 c_1, Value.slice A_2 n_2 c_2] h (kind_Put.post W h m r)
  | .j1_29 a_1 a_2 y_3 y_6 x_7 b_24, r => ∀ (W : Nat → Prop) (h0 m0 h m : Heap) (A_1 : Option Addr) (n_1 c_1 : Nat) (A_2 : Option Addr) (n_2 c_2 : Nat) (bk_3 : Nat) (cs_3 : List Value) (bk_6 : Nat) (cs_6 : List Value) (O : Hold W h0 m0 h m [rV bk_3 25 cs_3, rV bk_6 25 cs_6]) (ne_1 : n_1 = List.length a_1) (k_1 : List.length a_1 ≤ c_1) (r_1 : Rd 1 eStr m A_1 a_1) (ne_2 : n_2 = List.length a_2) (k_2 : List.length a_2 ≤ c_2) (r_2 : Rd 3 T_api_Type.E m A_2 a_2) (e_3 : T_api_Type.E m y_3 cs_3) (e_6 : T_api_Type.E m y_6 cs_6), f29.j1 (kind_Put.post W h0 m0 r) A_1 n_1 c_1 A_2 n_2 c_2 (⟨bk_3, 0, none⟩ : Addr) (⟨bk_6, 0, none⟩ : Addr) x_7 b_24 h
  | .j0_29 a_1 a_2 y_3 y_6, r => ∀ (W : Nat → Prop) (h0 m0 h m : Heap) (A_1 : Option Addr) (n_1 c_1 : Nat) (A_2 : Option Addr) (n_2 c_2 : Nat) (bk_3 : Nat) (cs_3 : List Value) (bk_6 : Nat) (cs_6 : List Value) (O : Hold W h0 m0 h m [rV bk_3 25 cs_3, rV bk_6 25 cs_6]) (ne_1 : n_1 = List.length a_1) (k_1 : List.length a_1 ≤ c_1) (r_1 : Rd 1 eStr m A_1 a_1) (ne_2 : n_2 = List.length a_2) (k_2 : List.length a_2 ≤ c_2) (r_2 : Rd 3 T_api_Type.E m A_2 a_2) (e_3 : T_api_Type.E m y_3 cs_3) (e_6 : T_api_Type.E m y_6 cs_6), f29.j0 (kind_Put.post W h0 m0 r) A_1 n_1 c_1 A_2 n_2 c_2 (⟨bk_3, 0, none⟩ : Addr) (⟨bk_6, 0, none⟩ : Addr) h
  | .l0_29 a_1 a_2 x_3_0 s_3_1 a_3_2 y_6 x_40 x_41, r => ∀ (W : Nat → Prop) (h0 m0 h m : Heap) (A_1 : Option Addr) (n_1 c_1 : Nat) (A_2 : Option Addr) (n_2 c_2 : Nat) (bk_3 : Nat) (A_3_2_0 : Option Addr) (n_3_2_0 : Nat) (c_3_2_0 : Nat) (bk_6 : Nat) (cs_6 : List Value) (O : Hold W h0 m0 h m [rV bk_3 25 [(Value.int .i64 x_3_0), (Value.string s_3_1), (Value.slice A_3_2_0 n_3_2_0 c_3_2_0)], rR (aE T_api_Type.T) A_3_2_0 c_3_2_0 a_3_2, rV bk_6 25 cs_6]) (ne_1 : n_1 = List.length a_1) (k_1 : List.length a_1 ≤ c_1) (r_1 : Rd 1 eStr m A_1 a_1) (ne_2 : n_2 = List.length a_2) (k_2 : List.length a_2 ≤ c_2) (r_2 : Rd 3 T_api_Type.E m A_2 a_2) (ne_3_2_0 : n_3_2_0 = List.length a_3_2) (e_6 : T_api_Type.E m y_6 cs_6), f29.l0 (kind_Put.post W h0 m0 r) A_1 n_1 c_1 A_2 n_2 c_2 (⟨bk_3, 0, none⟩ : Addr) (⟨bk_6, 0, none⟩ : Addr) A_3_2_0 n_3_2_0 c_3_2_0 x_40 x_41 h
  | .f_30 y_0, r => ∀ (W : Nat → Prop) (h m : Heap) (cs_0 : List Value) (O : Hold W h m h m []) (e_0 : T_api_Type.E m y_0 cs_0), Run Tryd.prog 30 #[Value.agg cs_0.toArray] h (kind_Copy.post W h m r)
set_option maxRecDepth 100000 in
theorem kind_Put_k.step_f_29 (go : (p : kind_Put_k.Pt) → Option (T_api_Type)) (ih : ∀ p r, go p = some r → kind_Put_k.I p r) (y_0 : T_api_Type) (a_1 : List ByteArray) (a_2 : List T_api_Type) (r : T_api_Type) (e : kind_Put_k.body go (.f_29 y_0 a_1 a_2) = some r) : kind_Put_k.I (.f_29 y_0 a_1 a_2) r := by
  unfold kind_Put_k.body at e
  intro W h m cs_0 A_1 n_1 c_1 A_2 n_2 c_2 O e_0 ne_1 k_1 r_1 ne_2 k_2 r_2
  subst ne_1
  subst ne_2
  refine f29.run ?_
  unfold f29.runT
  refine O.new fun h1 x2 O3 => ?_
  refine O3.new fun h5 x6 O7 => ?_
  refine ⟨_, ld0 (Sub.refl _) (O7.all 0 rfl) (T_api_Type.g0 e_0), _, rfl, ?_⟩
  refine split_eq_e e (fun c18 e => ?_) (fun c18 e => ?_)
  · refine ⟨_, ldk (k := 1) (Sub.refl _) (O7.all 0 rfl) (T_api_Type.g1 e_0), _, rfl, ?_⟩
    obtain ⟨y9, g10, e⟩ := bind_e e
    refine (slices_Index_33.walk (Hold.start (W := No) O7.s) rfl k_1 r_1 g10).mono ?_
    rintro _ h11 ⟨m12, Q13, rfl⟩
    have O15 := Hold.nm (O7.retC Q13 vfs_nil)
    refine ⟨_, rfl, ?_⟩
    refine split_dec_e e (fun c16 e => ?_) (fun c16 e => ?_)
    · exact (ih _ _ e) _ _ _ _ _ _ _ _ _ _ _ _ _ _ _ (O15.pick [0, 1]).nm rfl k_1 r_1 rfl k_2 r_2 e_0 (T_api_Type.iff.2 ⟨_, _, rfl, (by exact Nat.le_refl 0), Rd.nil⟩)
    · exact (ih _ _ e) _ _ _ _ _ _ _ _ _ _ _ _ _ _ _ (O15.pick [0, 1]).nm rfl k_1 r_1 rfl k_2 r_2 e_0 (T_api_Type.iff.2 ⟨_, _, rfl, (by exact Nat.le_refl 0), Rd.nil⟩)
  · have O17 := O7.nm
    exact (ih _ _ e) _ _ _ _ _ _ _ _ _ _ _ _ _ _ _ (O17.pick [0, 1]).nm rfl k_1 r_1 rfl k_2 r_2 e_0 (T_api_Type.iff.2 ⟨_, _, rfl, (by exact Nat.le_refl 0), Rd.nil⟩)
set_option maxRecDepth 100000 in
theorem kind_Put_k.step_j1_29 (go : (p : kind_Put_k.Pt) → Option (T_api_Type)) (ih : ∀ p r, go p = some r → kind_Put_k.I p r) (a_1 : List ByteArray) (a_2 : List T_api_Type) (y_3 : T_api_Type) (y_6 : T_api_Type) (x_7 : Int) (b_24 : Bool) (r : T_api_Type) (e : kind_Put_k.body go (.j1_29 a_1 a_2 y_3 y_6 x_7 b_24) = some r) : kind_Put_k.I (.j1_29 a_1 a_2 y_3 y_6 x_7 b_24) r := by
  unfold kind_Put_k.body at e
  intro W h0 m0 h m A_1 n_1 c_1 A_2 n_2 c_2 bk_3 cs_3 bk_6 cs_6 O ne_1 k_1 r_1 ne_2 k_2 r_2 e_3 e_6
  subst ne_1
  subst ne_2
  refine f29.j1_in ?_
  unfold f29.j1T
  refine split_any_e e (fun c21 e => ?_) (fun c21 e => ?_)
  · obtain ⟨y1, g2, e⟩ := bind_e e
    refine r_2.addr rfl g2 fun a3 cs4 ha5 hc6 he7 => ?_
    refine ⟨_, ldAn O.s hc6 rfl, ?_⟩
    obtain ⟨y8, g9, e⟩ := bind_e e
    refine ((ih _ _ g9) _ _ _ _ (Hold.start (W := No) O.s) he7).mono ?_
    rintro _ h10 ⟨m11, cs15, Q12, rfl, he16⟩
    have O17 := Hold.nm (O.ret Q12)
    refine ⟨_, rfl, (T_api_Type.T.len _ _ _ he16), ?_⟩
    refine O17.stA 1 rfl ((T_api_Type.T.len _ _ _ he16).trans ((T_api_Type.T.len _ _ _ e_6)).symm) (T_api_Type.T.flat _ _ _ he16) fun h18 O19 => ?_
    refine ⟨_, ldAn (Sub.refl _) (O19.all 1 rfl) (T_api_Type.T.len _ _ _ he16), ?_⟩
    have O20 := O19.nm
    cases e
    exact ⟨_, _, O20.pick [], rfl, he16⟩
  · exact (ih _ _ e) _ _ _ _ _ _ _ _ _ _ _ _ _ _ _ (O.pick [0, 1]).nm rfl k_1 r_1 rfl k_2 r_2 e_3 e_6
set_option maxRecDepth 100000 in
theorem kind_Put_k.step_j0_29 (go : (p : kind_Put_k.Pt) → Option (T_api_Type)) (ih : ∀ p r, go p = some r → kind_Put_k.I p r) (a_1 : List ByteArray) (a_2 : List T_api_Type) (y_3 : T_api_Type) (y_6 : T_api_Type) (r : T_api_Type) (e : kind_Put_k.body go (.j0_29 a_1 a_2 y_3 y_6) = some r) : kind_Put_k.I (.j0_29 a_1 a_2 y_3 y_6) r := by
  unfold kind_Put_k.body at e
  intro W h0 m0 h m A_1 n_1 c_1 A_2 n_2 c_2 bk_3 cs_3 bk_6 cs_6 O ne_1 k_1 r_1 ne_2 k_2 r_2 e_3 e_6
  subst ne_1
  subst ne_2
  refine f29.j0_in ?_
  unfold f29.j0T
  refine ⟨_, ld0 (Sub.refl _) (O.all 0 rfl) (T_api_Type.g0 e_3), _, rfl, ?_⟩
  refine ⟨_, ldk (k := 1) (Sub.refl _) (O.all 0 rfl) (T_api_Type.g1 e_3), _, rfl, ?_⟩
  obtain ⟨A1, c2, q3, k4, r5⟩ := T_api_Type.g2 e_3
  refine ⟨_, ldk (k := 2) (Sub.refl _) (O.all 0 rfl) q3, _, _, _, rfl, ?_⟩
  obtain ⟨y6, g7, e⟩ := bind_e e
  refine (slices_Clone_42.walk (Hold.start (W := No) O.s) rfl k4 r5 g7).mono ?_
  rintro _ h8 ⟨m9, A12, n13, c14, Q10, rfl, ne15⟩
  have O17 := Hold.nm (O.ret Q10)
  subst ne15
  refine ⟨_, _, _, rfl, ?_⟩
  refine ⟨Q10.S.ext, ?_⟩
  refine ⟨_, rfl, rfl, ?_⟩
  refine O17.stA 0 rfl ((T_api_Type.T.len _ _ _ e_3)).symm (Flats.cons trivial (Flats.cons trivial (Flats.cons trivial Flats.nil))) fun h18 O19 => ?_
  refine ⟨_, ldk (k := 2) (Sub.refl _) (O19.all 0 rfl) rfl, _, _, _, rfl, ?_⟩
  have O20 := O19.nm
  exact (ih _ _ e) _ _ _ _ _ _ _ _ _ _ _ _ _ _ _ _ _ (O20.pick [0, 2, 1]).nm rfl k_1 (r_1.sub tell_str Q10.S.up) rfl k_2 (r_2.sub T_api_Type.T Q10.S.up) rfl (T_api_Type.T.mono _ _ _ _ Q10.S.up e_6)
set_option maxHeartbeats 4000000 in
set_option maxRecDepth 100000 in
theorem kind_Put_k.step_l0_29 (go : (p : kind_Put_k.Pt) → Option (T_api_Type)) (ih : ∀ p r, go p = some r → kind_Put_k.I p r) (a_1 : List ByteArray) (a_2 : List T_api_Type) (x_3_0 : Int) (s_3_1 : ByteArray) (a_3_2 : (List T_api_Type)) (y_6 : T_api_Type) (x_40 : Int) (x_41 : Int) (r : T_api_Type) (e : kind_Put_k.body go (.l0_29 a_1 a_2 x_3_0 s_3_1 a_3_2 y_6 x_40 x_41) = some r) : kind_Put_k.I (.l0_29 a_1 a_2 x_3_0 s_3_1 a_3_2 y_6 x_40 x_41) r := by
  unfold kind_Put_k.body at e
  intro W h0 m0 h m A_1 n_1 c_1 A_2 n_2 c_2 bk_3 A_3_2_0 n_3_2_0 c_3_2_0 bk_6 cs_6 O ne_1 k_1 r_1 ne_2 k_2 r_2 ne_3_2_0 e_6
  subst ne_1
  subst ne_2
  subst ne_3_2_0
  refine f29.l0_in ?_
  unfold f29.l0T
  refine split_dec_e e (fun c88 e => ?_) (fun c88 e => ?_)
  · obtain ⟨y1, g2, e⟩ := bind_e e
    refine (O.os 1 rfl).addr rfl g2 fun a3 cs4 ha5 hc6 he7 => ?_
    refine ⟨_, ldAn (Sub.refl _) hc6 rfl, ?_⟩
    refine O.new fun h8 x9 O10 => ?_
    refine ⟨_, rfl, (T_api_Type.T.len _ _ _ he7), ?_⟩
    refine O10.stA 3 rfl (T_api_Type.T.len _ _ _ he7) (T_api_Type.T.flat _ _ _ he7) fun h12 O13 => ?_
    refine ⟨_, ldAn (Sub.refl _) (O13.all 3 rfl) (T_api_Type.T.len _ _ _ he7), ?_⟩
    obtain ⟨y14, g15, e⟩ := bind_e e
    obtain ⟨y24, g25, e⟩ := bind_e e
    obtain ⟨l33, g34, e⟩ := bind_e e
    refine ⟨?_, ?_⟩
    · refine ⟨_, ldk (k := 2) (Sub.refl _) (O13.all 0 rfl) rfl, _, _, _, rfl, ?_⟩
      refine ⟨Ext.refl _, ?_⟩
      refine ((ih _ _ g15) _ _ _ _ _ _ _ _ _ _ (Hold.start (W := No) O13.s) he7 rfl k_1 r_1 rfl k_2 r_2).mono ?_
      rintro _ h38 ⟨m39, cs43, Q40, rfl, he44⟩
      have O45 := Hold.nm (O13.ret Q40)
      refine (O45.os 1 rfl).addr rfl g25 fun a48 cs49 ha50 hc51 he52 => ?_
      replace g34 := Option.some.inj g34
      refine ⟨_, rfl, (T_api_Type.T.len _ _ _ he44), ?_⟩
      refine O45.elstA 1 rfl g25 ha50 hc51 (y' := y14) he44 (T_api_Type.T.flat _ _ _ he44) g34 fun h53 O54 => ?_
      have O57 := O54.nm
      exact (ih _ _ e) _ _ _ _ _ _ _ _ _ _ _ _ _ _ _ _ _ (O57.pick [0, 1, 2]).nm rfl k_1 (r_1.sub tell_str Q40.S.up) rfl k_2 (r_2.sub T_api_Type.T Q40.S.up) (lset' g34) (T_api_Type.T.mono _ _ _ _ Q40.S.up e_6)
    · refine ((ih _ _ g15) _ _ _ _ _ _ _ _ _ _ (Hold.start (W := No) O13.s) he7 rfl k_1 r_1 rfl k_2 r_2).mono ?_
      rintro _ h60 ⟨m61, cs65, Q62, rfl, he66⟩
      have O67 := Hold.nm (O13.ret Q62)
      refine ⟨_, ldk (k := 2) (Sub.refl _) (O67.all 0 rfl) rfl, _, _, _, rfl, ?_⟩
      refine ⟨Ext.refl _, ?_⟩
      refine (O67.os 1 rfl).addr rfl g25 fun a70 cs71 ha72 hc73 he74 => ?_
      replace g34 := Option.some.inj g34
      refine ⟨_, rfl, (T_api_Type.T.len _ _ _ he66), ?_⟩
      refine O67.elstA 1 rfl g25 ha72 hc73 (y' := y14) he66 (T_api_Type.T.flat _ _ _ he66) g34 fun h75 O76 => ?_
      have O79 := O76.nm
      exact (ih _ _ e) _ _ _ _ _ _ _ _ _ _ _ _ _ _ _ _ _ (O79.pick [0, 1, 2]).nm rfl k_1 (r_1.sub tell_str Q62.S.up) rfl k_2 (r_2.sub T_api_Type.T Q62.S.up) (lset' g34) (T_api_Type.T.mono _ _ _ _ Q62.S.up e_6)
  · refine ⟨_, ldAn (Sub.refl _) (O.all 0 rfl) rfl, ?_⟩
    refine ⟨_, rfl, rfl, ?_⟩
    refine O.stA 2 rfl ((T_api_Type.T.len _ _ _ e_6)).symm (Flats.cons trivial (Flats.cons trivial (Flats.cons trivial Flats.nil))) fun h80 O81 => ?_
    refine ⟨_, ldAn (Sub.refl _) (O81.all 2 rfl) rfl, ?_⟩
    obtain ⟨m82, u83, ⟨r84, k85⟩, O86⟩ := O81.frz 1 rfl
    replace r84 : Rd 3 T_api_Type.E m82 A_3_2_0 a_3_2 := r84
    have O87 := O86.nm
    cases e
    exact ⟨_, _, O87.pick [], rfl, (T_api_Type.iff.2 ⟨_, _, rfl, k85, r84⟩)⟩
set_option maxRecDepth 100000 in
theorem kind_Put_k.step_f_30 (go : (p : kind_Put_k.Pt) → Option (T_api_Type)) (ih : ∀ p r, go p = some r → kind_Put_k.I p r) (y_0 : T_api_Type) (r : T_api_Type) (e : kind_Put_k.body go (.f_30 y_0) = some r) : kind_Put_k.I (.f_30 y_0) r := by
  unfold kind_Put_k.body at e
  intro W h m cs_0 O e_0
  refine f30.run ?_
  unfold f30.runT
  refine O.new fun h1 x2 O3 => ?_
  refine O3.new fun h5 x6 O7 => ?_
  refine ⟨_, ldAn (Sub.refl _) (O7.all 0 rfl) (T_api_Type.T.len _ _ _ e_0), ?_⟩
  obtain ⟨y9, g10, e⟩ := bind_e e
  refine ((ih _ _ g10) _ _ _ _ _ _ _ _ _ _ (Hold.start (W := No) O7.s) e_0 rfl (by exact Nat.le_refl 0) Rd.nil rfl (by exact Nat.le_refl 0) Rd.nil).mono ?_
  rintro _ h11 ⟨m12, cs16, Q13, rfl, he17⟩
  have O18 := Hold.nm (O7.ret Q13)
  refine ⟨_, rfl, (T_api_Type.T.len _ _ _ he17), ?_⟩
  refine O18.stA 1 rfl (T_api_Type.T.len _ _ _ he17) (T_api_Type.T.flat _ _ _ he17) fun h19 O20 => ?_
  refine ⟨_, ldAn (Sub.refl _) (O20.all 1 rfl) (T_api_Type.T.len _ _ _ he17), ?_⟩
  have O21 := O20.nm
  cases e
  exact ⟨_, _, O21.pick [], rfl, he17⟩
theorem kind_Put_k.all {p : kind_Put_k.Pt} {r : (T_api_Type)} (e : kind_Put_k.go p = some r) : kind_Put_k.I p r := fixF_ind (β := fun _ => (T_api_Type)) kind_Put_k.mono (I := kind_Put_k.I) (fun go ih p r e => match p with
  | .f_29 y_0 a_1 a_2 => kind_Put_k.step_f_29 go ih y_0 a_1 a_2 r e
  | .j1_29 a_1 a_2 y_3 y_6 x_7 b_24 => kind_Put_k.step_j1_29 go ih a_1 a_2 y_3 y_6 x_7 b_24 r e
  | .j0_29 a_1 a_2 y_3 y_6 => kind_Put_k.step_j0_29 go ih a_1 a_2 y_3 y_6 r e
  | .l0_29 a_1 a_2 x_3_0 s_3_1 a_3_2 y_6 x_40 x_41 => kind_Put_k.step_l0_29 go ih a_1 a_2 x_3_0 s_3_1 a_3_2 y_6 x_40 x_41 r e
  | .f_30 y_0 => kind_Put_k.step_f_30 go ih y_0 r e
  ) e
theorem kind_Put.walk {W : Nat → Prop} {h m : Heap} {cs_0 : List Value} {A_1 : Option Addr} {n_1 c_1 : Nat} {A_2 : Option Addr} {n_2 c_2 : Nat} {y_0 : T_api_Type} {a_1 : List ByteArray} {a_2 : List T_api_Type} (O : Hold W h m h m []) (e_0 : T_api_Type.E m y_0 cs_0) (ne_1 : n_1 = List.length a_1) (k_1 : List.length a_1 ≤ c_1) (r_1 : Rd 1 eStr m A_1 a_1) (ne_2 : n_2 = List.length a_2) (k_2 : List.length a_2 ≤ c_2) (r_2 : Rd 3 T_api_Type.E m A_2 a_2) {r : T_api_Type} (e : kind_Put y_0 a_1 a_2 = some r) : Run Tryd.prog 29 #[Value.agg cs_0.toArray, Value.slice A_1 n_1 c_1, Value.slice A_2 n_2 c_2] h (kind_Put.post W h m r) := kind_Put_k.all (p := .f_29 y_0 a_1 a_2) e W h m cs_0 A_1 n_1 c_1 A_2 n_2 c_2 O e_0 ne_1 k_1 r_1 ne_2 k_2 r_2
theorem kind_Copy.walk {W : Nat → Prop} {h m : Heap} {cs_0 : List Value} {y_0 : T_api_Type} (O : Hold W h m h m []) (e_0 : T_api_Type.E m y_0 cs_0) {r : T_api_Type} (e : kind_Copy y_0 = some r) : Run Tryd.prog 30 #[Value.agg cs_0.toArray] h (kind_Copy.post W h m r) := kind_Put_k.all (p := .f_30 y_0) e W h m cs_0 O e_0
def scheme_Plain.post (W : Nat → Prop) (h0 m0 : Heap) (r : T_scheme_Scheme) (v : Value) (h : Heap) : Prop := ∃ m A0_0 n0_0 c0_0 A0_3 n0_3 c0_3, Hold W h0 m0 h m [rR (aE tell_str) A0_0 c0_0 r.Params] ∧ v = .agg #[(Value.slice A0_0 n0_0 c0_0), (Value.int .i64 r.Type_.Kind), (Value.string r.Type_.Name), (Value.slice A0_3 n0_3 c0_3)] ∧ n0_0 = List.length r.Params ∧ n0_3 = List.length r.Type_.Args ∧ List.length r.Type_.Args ≤ c0_3 ∧ Rd 3 T_api_Type.E m A0_3 r.Type_.Args
noncomputable def scheme_Plain (y_0 : T_api_Type) : Option (T_scheme_Scheme) :=
  Option.bind (kind_Copy y_0) fun y9 => some ((T_scheme_Scheme.mk ([] : List ByteArray) y9))
set_option maxRecDepth 100000 in
theorem scheme_Plain.walk {W : Nat → Prop} {h m : Heap} {cs_0 : List Value} {y_0 : T_api_Type} (O : Hold W h m h m []) (e_0 : T_api_Type.E m y_0 cs_0) {r : T_scheme_Scheme} (e : scheme_Plain y_0 = some r) : Run Tryd.prog 11 #[Value.agg cs_0.toArray] h (scheme_Plain.post W h m r) := by
  unfold scheme_Plain at e
  refine f11.run ?_
  unfold f11.runT
  refine O.new fun h1 x2 O3 => ?_
  refine O3.new fun h5 x6 O7 => ?_
  refine ⟨_, ldAn (Sub.refl _) (O7.all 0 rfl) (T_api_Type.T.len _ _ _ e_0), ?_⟩
  obtain ⟨y9, g10, e⟩ := bind_e e
  refine (kind_Copy.walk (Hold.start (W := No) O7.s) e_0 g10).mono ?_
  rintro _ h11 ⟨m12, cs16, Q13, rfl, he17⟩
  have O18 := Hold.nm (O7.ret Q13)
  obtain ⟨Ae19_2, ce19_2, rfl, ke19_2, re19_2⟩ := T_api_Type.iff.1 he17
  refine ⟨[(Value.int .i64 y9.Kind), (Value.string y9.Name), (Value.slice Ae19_2 (List.length y9.Args) ce19_2)], rfl, rfl, ?_⟩
  refine ⟨_, rfl, rfl, ?_⟩
  refine O18.stA 1 rfl rfl (Flats.cons trivial (Flats.cons trivial (Flats.cons trivial (Flats.cons trivial Flats.nil)))) fun h20 O21 => ?_
  refine ⟨_, ldAn (Sub.refl _) (O21.all 1 rfl) rfl, ?_⟩
  have O22 := O21.nil (aE tell_str) none
  have O24 := O22.nm
  cases e
  exact ⟨_, _, _, _, _, _, _, O24.pick [2], rfl, rfl, rfl, ke19_2, re19_2⟩
def scheme_Close.post (W : Nat → Prop) (h0 m0 : Heap) (r : T_scheme_Scheme) (v : Value) (h : Heap) : Prop := ∃ m cs0, Hold W h0 m0 h m [] ∧ v = .agg cs0.toArray ∧ T_scheme_Scheme.E m r cs0
inductive scheme_Close.l1_k.Pt where
  | l1 (y_4 : T_scheme_Scheme) (a_5 : List ByteArray) (a_8_0 : (List ByteArray)) (x_8_1 : Int) (s_8_2 : ByteArray) (a_8_3 : (List T_api_Type)) (a_25 : List ByteArray) (x_26 : Int) (x_27 : Int)
noncomputable def scheme_Close.l1_k.body (go : (p : scheme_Close.l1_k.Pt) → Option (T_scheme_Scheme)) : (p : scheme_Close.l1_k.Pt) → Option (T_scheme_Scheme)
  | .l1 y_4 a_5 a_8_0 x_8_1 s_8_2 a_8_3 a_25 x_26 x_27 => if x_27 < x_26 then (Option.bind (gi a_25 x_27) fun y1 => Option.bind (slices_Contains_6 a_5 y1) fun y8 => if y8 = true then ((go (.l1 y_4 a_5 a_8_0 x_8_1 s_8_2 a_8_3 a_25 x_26 (IntKind.wrap .i64 (x_27 + (1 : Int)))))) else (Option.bind (ap 16 a_8_0 ([y1] : List ByteArray)) fun l26 => (go (.l1 y_4 a_5 l26 x_8_1 s_8_2 a_8_3 a_25 x_26 (IntKind.wrap .i64 (x_27 + (1 : Int))))))) else (some ((T_scheme_Scheme.mk a_8_0 (T_api_Type.mk x_8_1 s_8_2 a_8_3))))
theorem scheme_Close.l1_k.mono : MonoF (β := fun _ => (T_scheme_Scheme)) scheme_Close.l1_k.body := fun f g hfg p => match p with
  | .l1 y_4 a_5 a_8_0 x_8_1 s_8_2 a_8_3 a_25 x_26 x_27 => LeO.ite (LeO.bind (LeO.refl _) fun y1 => LeO.bind (LeO.refl _) fun y8 => LeO.ite ((hfg _)) (LeO.bind (LeO.refl _) fun l26 => (hfg _))) (LeO.refl _)
noncomputable def scheme_Close.l1_k.go (p : scheme_Close.l1_k.Pt) : Option (T_scheme_Scheme) := fixF (β := fun _ => (T_scheme_Scheme)) scheme_Close.l1_k.body p
noncomputable def scheme_Close.l1 (y_4 : T_scheme_Scheme) (a_5 : List ByteArray) (a_8_0 : (List ByteArray)) (x_8_1 : Int) (s_8_2 : ByteArray) (a_8_3 : (List T_api_Type)) (a_25 : List ByteArray) (x_26 : Int) (x_27 : Int) : Option (T_scheme_Scheme) := scheme_Close.l1_k.go (.l1 y_4 a_5 a_8_0 x_8_1 s_8_2 a_8_3 a_25 x_26 x_27)
theorem scheme_Close.l1_eq (y_4 : T_scheme_Scheme) (a_5 : List ByteArray) (a_8_0 : (List ByteArray)) (x_8_1 : Int) (s_8_2 : ByteArray) (a_8_3 : (List T_api_Type)) (a_25 : List ByteArray) (x_26 : Int) (x_27 : Int) : scheme_Close.l1 y_4 a_5 a_8_0 x_8_1 s_8_2 a_8_3 a_25 x_26 x_27 = if x_27 < x_26 then (Option.bind (gi a_25 x_27) fun y1 => Option.bind (slices_Contains_6 a_5 y1) fun y8 => if y8 = true then ((scheme_Close.l1 y_4 a_5 a_8_0 x_8_1 s_8_2 a_8_3 a_25 x_26 (IntKind.wrap .i64 (x_27 + (1 : Int))))) else (Option.bind (ap 16 a_8_0 ([y1] : List ByteArray)) fun l26 => (scheme_Close.l1 y_4 a_5 l26 x_8_1 s_8_2 a_8_3 a_25 x_26 (IntKind.wrap .i64 (x_27 + (1 : Int)))))) else (some ((T_scheme_Scheme.mk a_8_0 (T_api_Type.mk x_8_1 s_8_2 a_8_3)))) := fixF_eq scheme_Close.l1_k.mono _
def scheme_Close.l1_k.I : (p : scheme_Close.l1_k.Pt) → (T_scheme_Scheme) → Prop
  | .l1 y_4 a_5 a_8_0 x_8_1 s_8_2 a_8_3 a_25 x_26 x_27, r => ∀ (W : Nat → Prop) (h0 m0 h m : Heap) (bk_4 : Nat) (cs_4 : List Value) (A_5 : Option Addr) (n_5 c_5 : Nat) (bk_8 : Nat) (A_8_0_0 : Option Addr) (n_8_0_0 : Nat) (c_8_0_0 : Nat) (A_8_3_0 : Option Addr) (n_8_3_0 : Nat) (c_8_3_0 : Nat) (A_25 : Option Addr) (n_25 c_25 : Nat) (O : Hold W h0 m0 h m [rV bk_4 27 cs_4, rR (aE tell_str) A_5 c_5 a_5, rV bk_8 27 [(Value.slice A_8_0_0 n_8_0_0 c_8_0_0), (Value.int .i64 x_8_1), (Value.string s_8_2), (Value.slice A_8_3_0 n_8_3_0 c_8_3_0)], rR (aE tell_str) A_8_0_0 c_8_0_0 a_8_0, rR (aE tell_str) A_25 c_25 a_25]) (e_4 : T_scheme_Scheme.E m y_4 cs_4) (ne_5 : n_5 = List.length a_5) (ne_8_0_0 : n_8_0_0 = List.length a_8_0) (ne_8_3_0 : n_8_3_0 = List.length a_8_3) (k_8_3_0 : List.length a_8_3 ≤ c_8_3_0) (r_8_3_0 : Rd 3 T_api_Type.E m A_8_3_0 a_8_3) (ne_25 : n_25 = List.length a_25), f9.l1 (scheme_Close.post W h0 m0 r) (⟨bk_4, 0, none⟩ : Addr) A_5 n_5 c_5 (⟨bk_8, 0, none⟩ : Addr) A_25 n_25 c_25 x_26 x_27 h
set_option maxHeartbeats 4000000 in
set_option maxRecDepth 100000 in
theorem scheme_Close.l1_k.step_l1 (go : (p : scheme_Close.l1_k.Pt) → Option (T_scheme_Scheme)) (ih : ∀ p r, go p = some r → scheme_Close.l1_k.I p r) (y_4 : T_scheme_Scheme) (a_5 : List ByteArray) (a_8_0 : (List ByteArray)) (x_8_1 : Int) (s_8_2 : ByteArray) (a_8_3 : (List T_api_Type)) (a_25 : List ByteArray) (x_26 : Int) (x_27 : Int) (r : T_scheme_Scheme) (e : scheme_Close.l1_k.body go (.l1 y_4 a_5 a_8_0 x_8_1 s_8_2 a_8_3 a_25 x_26 x_27) = some r) : scheme_Close.l1_k.I (.l1 y_4 a_5 a_8_0 x_8_1 s_8_2 a_8_3 a_25 x_26 x_27) r := by
  unfold scheme_Close.l1_k.body at e
  intro W h0 m0 h m bk_4 cs_4 A_5 n_5 c_5 bk_8 A_8_0_0 n_8_0_0 c_8_0_0 A_8_3_0 n_8_3_0 c_8_3_0 A_25 n_25 c_25 O e_4 ne_5 ne_8_0_0 ne_8_3_0 k_8_3_0 r_8_3_0 ne_25
  subst ne_5
  subst ne_8_0_0
  subst ne_8_3_0
  subst ne_25
  refine f9.l1_in ?_
  unfold f9.l1T
  refine split_dec_e e (fun c47 e => ?_) (fun c47 e => ?_)
  · obtain ⟨y1, g2, e⟩ := bind_e e
    refine (O.os 4 rfl).addr rfl g2 fun a3 cs4 ha5 hc6 he7 => ?_
    obtain rfl : cs4 = [(Value.string y1)] := he7
    refine ⟨_, ld0 (Sub.refl _) hc6 rfl, _, rfl, ?_⟩
    obtain ⟨y8, g9, e⟩ := bind_e e
    obtain ⟨m14, u15, s20, ⟨⟨r18, k19⟩, _⟩, B16, C17⟩ := O.lend0 [1]
    replace r18 : Rd 1 eStr m14 A_5 a_5 := r18
    replace k19 : List.length a_5 ≤ c_5 := k19
    refine (slices_Contains_6.walk (Hold.start (W := No) s20) rfl k19 r18 g9).mono ?_
    rintro _ h10 ⟨m11, Q12, rfl⟩
    have O21 := Hold.nm (C17 Q12 vfs_nil)
    refine ⟨_, rfl, ?_⟩
    refine split_not ?_
    refine split_any_e e (fun c38 e => ?_) (fun c38 e => ?_)
    · exact (ih _ _ e) _ _ _ _ _ _ _ _ _ _ _ _ _ _ _ _ _ _ _ _ (O21.pick [0, 1, 2, 3, 4]).nm e_4 rfl rfl rfl k_8_3_0 r_8_3_0 rfl
    · refine ⟨_, ld0 (Sub.refl _) (O21.all 2 rfl) rfl, _, _, _, rfl, ?_⟩
      refine O21.new fun h22 x23 O24 => ?_
      obtain ⟨l26, g27, e⟩ := bind_e e
      have O34 := O24.rowE (l := ([y1] : List ByteArray)) 5 rfl tell_str (show CsE _ _ _ _ _ from (CsE.cons (c1 := [(Value.string y1)]) rfl rfl CsE.nil)) rfl
      refine O34.app 3 rfl rfl rfl ((O34.os 5 rfl).srcE rfl) (by decide) g27 fun A28 c29 h30 O31 => ?_
      refine ⟨_, _, _, rfl, ?_⟩
      refine O31.st0 2 rfl (Nat.le_of_ble_eq_true rfl) trivial fun h35 O36 => ?_
      have O37 := O36.nm
      exact (ih _ _ e) _ _ _ _ _ _ _ _ _ _ _ _ _ _ _ _ _ _ _ _ (O37.pick [0, 1, 2, 3, 4]).nm e_4 rfl rfl rfl k_8_3_0 r_8_3_0 rfl
  · refine ⟨_, ldAn (Sub.refl _) (O.all 2 rfl) rfl, ?_⟩
    refine ⟨_, rfl, rfl, ?_⟩
    refine O.stA 0 rfl ((T_scheme_Scheme.T.len _ _ _ e_4)).symm (Flats.cons trivial (Flats.cons trivial (Flats.cons trivial (Flats.cons trivial Flats.nil)))) fun h39 O40 => ?_
    refine ⟨_, ldAn (Sub.refl _) (O40.all 0 rfl) rfl, ?_⟩
    obtain ⟨m41, u42, ⟨r43, k44⟩, O45⟩ := O40.frz 3 rfl
    replace r43 : Rd 1 eStr m41 A_8_0_0 a_8_0 := r43
    have O46 := O45.nm
    cases e
    exact ⟨_, _, O46.pick [], rfl, (show T_scheme_Scheme.E _ (T_scheme_Scheme.mk a_8_0 (T_api_Type.mk x_8_1 s_8_2 a_8_3)) [(Value.slice A_8_0_0 (List.length a_8_0) c_8_0_0), (Value.int .i64 x_8_1), (Value.string s_8_2), (Value.slice A_8_3_0 (List.length a_8_3) c_8_3_0)] from ⟨_, _, _, _, rfl, k44, r43, k_8_3_0, (r_8_3_0.sub T_api_Type.T u42)⟩)⟩
theorem scheme_Close.l1_k.all {p : scheme_Close.l1_k.Pt} {r : (T_scheme_Scheme)} (e : scheme_Close.l1_k.go p = some r) : scheme_Close.l1_k.I p r := fixF_ind (β := fun _ => (T_scheme_Scheme)) scheme_Close.l1_k.mono (I := scheme_Close.l1_k.I) (fun go ih p r e => match p with
  | .l1 y_4 a_5 a_8_0 x_8_1 s_8_2 a_8_3 a_25 x_26 x_27 => scheme_Close.l1_k.step_l1 go ih y_4 a_5 a_8_0 x_8_1 s_8_2 a_8_3 a_25 x_26 x_27 r e
  ) e
theorem scheme_Close.l1.walk {W : Nat → Prop} {h0 m0 h m : Heap} {bk_4 : Nat} {cs_4 : List Value} {A_5 : Option Addr} {n_5 c_5 : Nat} {bk_8 : Nat} {A_8_0_0 : Option Addr} {n_8_0_0 : Nat} {c_8_0_0 : Nat} {A_8_3_0 : Option Addr} {n_8_3_0 : Nat} {c_8_3_0 : Nat} {A_25 : Option Addr} {n_25 c_25 : Nat} {y_4 : T_scheme_Scheme} {a_5 : List ByteArray} {a_8_0 : (List ByteArray)} {x_8_1 : Int} {s_8_2 : ByteArray} {a_8_3 : (List T_api_Type)} {a_25 : List ByteArray} {x_26 : Int} {x_27 : Int} (O : Hold W h0 m0 h m [rV bk_4 27 cs_4, rR (aE tell_str) A_5 c_5 a_5, rV bk_8 27 [(Value.slice A_8_0_0 n_8_0_0 c_8_0_0), (Value.int .i64 x_8_1), (Value.string s_8_2), (Value.slice A_8_3_0 n_8_3_0 c_8_3_0)], rR (aE tell_str) A_8_0_0 c_8_0_0 a_8_0, rR (aE tell_str) A_25 c_25 a_25]) (e_4 : T_scheme_Scheme.E m y_4 cs_4) (ne_5 : n_5 = List.length a_5) (ne_8_0_0 : n_8_0_0 = List.length a_8_0) (ne_8_3_0 : n_8_3_0 = List.length a_8_3) (k_8_3_0 : List.length a_8_3 ≤ c_8_3_0) (r_8_3_0 : Rd 3 T_api_Type.E m A_8_3_0 a_8_3) (ne_25 : n_25 = List.length a_25) {r : T_scheme_Scheme} (e : scheme_Close.l1 y_4 a_5 a_8_0 x_8_1 s_8_2 a_8_3 a_25 x_26 x_27 = some r) : f9.l1 (scheme_Close.post W h0 m0 r) (⟨bk_4, 0, none⟩ : Addr) A_5 n_5 c_5 (⟨bk_8, 0, none⟩ : Addr) A_25 n_25 c_25 x_26 x_27 h := scheme_Close.l1_k.all (p := .l1 y_4 a_5 a_8_0 x_8_1 s_8_2 a_8_3 a_25 x_26 x_27) e W h0 m0 h m bk_4 cs_4 A_5 n_5 c_5 bk_8 A_8_0_0 n_8_0_0 c_8_0_0 A_8_3_0 n_8_3_0 c_8_3_0 A_25 n_25 c_25 O e_4 ne_5 ne_8_0_0 ne_8_3_0 k_8_3_0 r_8_3_0 ne_25
inductive scheme_Close.l0_k.Pt where
  | l0 (y_3 : T_api_Type) (y_4 : T_scheme_Scheme) (a_5 : List ByteArray) (a_11 : List T_scheme_Scheme) (x_12 : Int) (x_13 : Int)
noncomputable def scheme_Close.l0_k.body (go : (p : scheme_Close.l0_k.Pt) → Option (T_scheme_Scheme)) : (p : scheme_Close.l0_k.Pt) → Option (T_scheme_Scheme)
  | .l0 y_3 y_4 a_5 a_11 x_12 x_13 => if x_13 < x_12 then (Option.bind (gi a_11 x_13) fun y1 => Option.bind (scheme_Free y1) fun y14 => Option.bind (ap 16 a_5 y14) fun l26 => (go (.l0 y_3 y_4 l26 a_11 x_12 (IntKind.wrap .i64 (x_13 + (1 : Int)))))) else (Option.bind (scheme_Plain y_3) fun y35 => Option.bind (unify_Unknowns y_3) fun y50 => (scheme_Close.l1 y_4 a_5 y35.Params y35.Type_.Kind y35.Type_.Name y35.Type_.Args y50 (((List.length y50) : Nat) : Int) (0 : Int)))
theorem scheme_Close.l0_k.mono : MonoF (β := fun _ => (T_scheme_Scheme)) scheme_Close.l0_k.body := fun f g hfg p => match p with
  | .l0 y_3 y_4 a_5 a_11 x_12 x_13 => LeO.ite (LeO.bind (LeO.refl _) fun y1 => LeO.bind (LeO.refl _) fun y14 => LeO.bind (LeO.refl _) fun l26 => (hfg _)) (LeO.bind (LeO.refl _) fun y35 => LeO.bind (LeO.refl _) fun y50 => (LeO.refl _))
noncomputable def scheme_Close.l0_k.go (p : scheme_Close.l0_k.Pt) : Option (T_scheme_Scheme) := fixF (β := fun _ => (T_scheme_Scheme)) scheme_Close.l0_k.body p
noncomputable def scheme_Close.l0 (y_3 : T_api_Type) (y_4 : T_scheme_Scheme) (a_5 : List ByteArray) (a_11 : List T_scheme_Scheme) (x_12 : Int) (x_13 : Int) : Option (T_scheme_Scheme) := scheme_Close.l0_k.go (.l0 y_3 y_4 a_5 a_11 x_12 x_13)
theorem scheme_Close.l0_eq (y_3 : T_api_Type) (y_4 : T_scheme_Scheme) (a_5 : List ByteArray) (a_11 : List T_scheme_Scheme) (x_12 : Int) (x_13 : Int) : scheme_Close.l0 y_3 y_4 a_5 a_11 x_12 x_13 = if x_13 < x_12 then (Option.bind (gi a_11 x_13) fun y1 => Option.bind (scheme_Free y1) fun y14 => Option.bind (ap 16 a_5 y14) fun l26 => (scheme_Close.l0 y_3 y_4 l26 a_11 x_12 (IntKind.wrap .i64 (x_13 + (1 : Int))))) else (Option.bind (scheme_Plain y_3) fun y35 => Option.bind (unify_Unknowns y_3) fun y50 => (scheme_Close.l1 y_4 a_5 y35.Params y35.Type_.Kind y35.Type_.Name y35.Type_.Args y50 (((List.length y50) : Nat) : Int) (0 : Int))) := fixF_eq scheme_Close.l0_k.mono _
def scheme_Close.l0_k.I : (p : scheme_Close.l0_k.Pt) → (T_scheme_Scheme) → Prop
  | .l0 y_3 y_4 a_5 a_11 x_12 x_13, r => ∀ (W : Nat → Prop) (h0 m0 h m : Heap) (bk_3 : Nat) (cs_3 : List Value) (bk_4 : Nat) (cs_4 : List Value) (A_5 : Option Addr) (n_5 c_5 : Nat) (A_11 : Option Addr) (n_11 c_11 : Nat) (O : Hold W h0 m0 h m [rV bk_3 25 cs_3, rV bk_4 27 cs_4, rR (aE tell_str) A_5 c_5 a_5]) (e_3 : T_api_Type.E m y_3 cs_3) (e_4 : T_scheme_Scheme.E m y_4 cs_4) (ne_5 : n_5 = List.length a_5) (ne_11 : n_11 = List.length a_11) (k_11 : List.length a_11 ≤ c_11) (r_11 : Rd 4 T_scheme_Scheme.E m A_11 a_11), f9.l0 (scheme_Close.post W h0 m0 r) (⟨bk_3, 0, none⟩ : Addr) (⟨bk_4, 0, none⟩ : Addr) A_5 n_5 c_5 A_11 n_11 c_11 x_12 x_13 h
set_option maxHeartbeats 4000000 in
set_option maxRecDepth 100000 in
theorem scheme_Close.l0_k.step_l0 (go : (p : scheme_Close.l0_k.Pt) → Option (T_scheme_Scheme)) (ih : ∀ p r, go p = some r → scheme_Close.l0_k.I p r) (y_3 : T_api_Type) (y_4 : T_scheme_Scheme) (a_5 : List ByteArray) (a_11 : List T_scheme_Scheme) (x_12 : Int) (x_13 : Int) (r : T_scheme_Scheme) (e : scheme_Close.l0_k.body go (.l0 y_3 y_4 a_5 a_11 x_12 x_13) = some r) : scheme_Close.l0_k.I (.l0 y_3 y_4 a_5 a_11 x_12 x_13) r := by
  unfold scheme_Close.l0_k.body at e
  intro W h0 m0 h m bk_3 cs_3 bk_4 cs_4 A_5 n_5 c_5 A_11 n_11 c_11 O e_3 e_4 ne_5 ne_11 k_11 r_11
  subst ne_5
  subst ne_11
  refine f9.l0_in ?_
  unfold f9.l0T
  refine split_dec_e e (fun c62 e => ?_) (fun c62 e => ?_)
  · obtain ⟨y1, g2, e⟩ := bind_e e
    refine r_11.addr rfl g2 fun a3 cs4 ha5 hc6 he7 => ?_
    refine ⟨_, ldAn O.s hc6 rfl, ?_⟩
    refine O.new fun h8 x9 O10 => ?_
    refine ⟨_, rfl, (T_scheme_Scheme.T.len _ _ _ he7), ?_⟩
    refine O10.stA 3 rfl (T_scheme_Scheme.T.len _ _ _ he7) (T_scheme_Scheme.T.flat _ _ _ he7) fun h12 O13 => ?_
    refine ⟨_, ldAn (Sub.refl _) (O13.all 3 rfl) (T_scheme_Scheme.T.len _ _ _ he7), ?_⟩
    obtain ⟨y14, g15, e⟩ := bind_e e
    refine (scheme_Free.walk (Hold.start (W := No) O13.s) he7 g15).mono ?_
    rintro _ h16 ⟨m17, A20, n21, c22, Q18, rfl, ne23⟩
    have O25 := Hold.nm (O13.retC Q18 (vfs_cons (rR_vf (aE_vf (fun _ _ _ _ h => h))) vfs_nil))
    subst ne23
    refine ⟨_, _, _, rfl, ?_⟩
    obtain ⟨l26, g27, e⟩ := bind_e e
    refine O25.app 2 rfl rfl rfl ((O25.os 4 rfl).srcE rfl) (by decide) g27 fun A28 c29 h30 O31 => ?_
    refine ⟨_, _, _, rfl, ?_⟩
    have O34 := O31.nm
    exact (ih _ _ e) _ _ _ _ _ _ _ _ _ _ _ _ _ _ _ (O34.pick [0, 1, 2]).nm e_3 e_4 rfl rfl k_11 r_11
  · refine ⟨_, ldAn (Sub.refl _) (O.all 0 rfl) (T_api_Type.T.len _ _ _ e_3), ?_⟩
    obtain ⟨y35, g36, e⟩ := bind_e e
    refine (scheme_Plain.walk (Hold.start (W := No) O.s) e_3 g36).mono ?_
    rintro _ h37 ⟨m38, A_41_0, n_41_0, c_41_0, A_41_3, n_41_3, c_41_3, Q39, rfl, ne_41_0, ne_41_3, k_41_3, r_41_3⟩
    have O43 := Hold.nm (O.ret Q39)
    subst ne_41_0
    subst ne_41_3
    refine O43.new fun h44 x45 O46 => ?_
    refine ⟨_, rfl, rfl, ?_⟩
    refine O46.stA 4 rfl rfl (Flats.cons trivial (Flats.cons trivial (Flats.cons trivial (Flats.cons trivial Flats.nil)))) fun h48 O49 => ?_
    refine ⟨_, ldAn (Sub.refl _) (O49.all 0 rfl) (T_api_Type.T.len _ _ _ e_3), ?_⟩
    obtain ⟨y50, g51, e⟩ := bind_e e
    refine (unify_Unknowns.walk (Hold.start (W := No) O49.s) (T_api_Type.T.mono _ _ _ _ Q39.S.up e_3) g51).mono ?_
    rintro _ h52 ⟨m53, A56, n57, c58, Q54, rfl, ne59⟩
    have O61 := Hold.nm (O49.retC Q54 (vfs_cons (rR_vf (aE_vf (fun _ _ _ _ h => h))) vfs_nil))
    subst ne59
    refine ⟨_, _, _, rfl, ?_⟩
    exact scheme_Close.l1.walk (O61.pick [1, 2, 4, 3, 5]).nm (T_scheme_Scheme.T.mono _ _ _ _ Q39.S.up e_4) rfl rfl rfl k_41_3 r_41_3 rfl e
theorem scheme_Close.l0_k.all {p : scheme_Close.l0_k.Pt} {r : (T_scheme_Scheme)} (e : scheme_Close.l0_k.go p = some r) : scheme_Close.l0_k.I p r := fixF_ind (β := fun _ => (T_scheme_Scheme)) scheme_Close.l0_k.mono (I := scheme_Close.l0_k.I) (fun go ih p r e => match p with
  | .l0 y_3 y_4 a_5 a_11 x_12 x_13 => scheme_Close.l0_k.step_l0 go ih y_3 y_4 a_5 a_11 x_12 x_13 r e
  ) e
theorem scheme_Close.l0.walk {W : Nat → Prop} {h0 m0 h m : Heap} {bk_3 : Nat} {cs_3 : List Value} {bk_4 : Nat} {cs_4 : List Value} {A_5 : Option Addr} {n_5 c_5 : Nat} {A_11 : Option Addr} {n_11 c_11 : Nat} {y_3 : T_api_Type} {y_4 : T_scheme_Scheme} {a_5 : List ByteArray} {a_11 : List T_scheme_Scheme} {x_12 : Int} {x_13 : Int} (O : Hold W h0 m0 h m [rV bk_3 25 cs_3, rV bk_4 27 cs_4, rR (aE tell_str) A_5 c_5 a_5]) (e_3 : T_api_Type.E m y_3 cs_3) (e_4 : T_scheme_Scheme.E m y_4 cs_4) (ne_5 : n_5 = List.length a_5) (ne_11 : n_11 = List.length a_11) (k_11 : List.length a_11 ≤ c_11) (r_11 : Rd 4 T_scheme_Scheme.E m A_11 a_11) {r : T_scheme_Scheme} (e : scheme_Close.l0 y_3 y_4 a_5 a_11 x_12 x_13 = some r) : f9.l0 (scheme_Close.post W h0 m0 r) (⟨bk_3, 0, none⟩ : Addr) (⟨bk_4, 0, none⟩ : Addr) A_5 n_5 c_5 A_11 n_11 c_11 x_12 x_13 h := scheme_Close.l0_k.all (p := .l0 y_3 y_4 a_5 a_11 x_12 x_13) e W h0 m0 h m bk_3 cs_3 bk_4 cs_4 A_5 n_5 c_5 A_11 n_11 c_11 O e_3 e_4 ne_5 ne_11 k_11 r_11
noncomputable def scheme_Close (a_0 : List T_scheme_Scheme) (y_1 : T_api_Type) : Option (T_scheme_Scheme) :=
  (scheme_Close.l0 y_1 (T_scheme_Scheme.mk ([] : List ByteArray) (T_api_Type.mk (0 : Int) (ByteArray.mk #[]) ([] : List T_api_Type))) ([] : List ByteArray) a_0 (((List.length a_0) : Nat) : Int) (0 : Int))
set_option maxRecDepth 100000 in
theorem scheme_Close.walk {W : Nat → Prop} {h m : Heap} {A_0 : Option Addr} {n_0 c_0 : Nat} {cs_1 : List Value} {a_0 : List T_scheme_Scheme} {y_1 : T_api_Type} (O : Hold W h m h m []) (ne_0 : n_0 = List.length a_0) (k_0 : List.length a_0 ≤ c_0) (r_0 : Rd 4 T_scheme_Scheme.E m A_0 a_0) (e_1 : T_api_Type.E m y_1 cs_1) {r : T_scheme_Scheme} (e : scheme_Close a_0 y_1 = some r) : Run Tryd.prog 9 #[Value.slice A_0 n_0 c_0, Value.agg cs_1.toArray] h (scheme_Close.post W h m r) := by
  unfold scheme_Close at e
  subst ne_0
  refine f9.run ?_
  unfold f9.runT
  refine O.new fun h1 x2 O3 => ?_
  refine O3.new fun h5 x6 O7 => ?_
  have O9 := O7.nil (aE tell_str) none
  have O11 := O9.nm
  exact scheme_Close.l0.walk (O11.pick [0, 1, 2]).nm e_1 (show T_scheme_Scheme.E _ (T_scheme_Scheme.mk ([] : List ByteArray) (T_api_Type.mk (0 : Int) (ByteArray.mk #[]) ([] : List T_api_Type))) [(Value.slice none 0 0), (Value.int .i64 (0 : Int)), (Value.string (ByteArray.mk #[])), (Value.slice none 0 0)] from ⟨_, _, _, _, rfl, (by exact Nat.le_refl 0), Rd.nil, (by exact Nat.le_refl 0), Rd.nil⟩) rfl rfl k_0 r_0 e
def strconv_Itoa.post (W : Nat → Prop) (h0 m0 : Heap) (r : ByteArray) (v : Value) (h : Heap) : Prop := ∃ m , Hold W h0 m0 h m [] ∧ v = .string r
noncomputable def strconv_Itoa (x0 : Int) : Option ByteArray := if -9223372036854775808 ≤ x0 ∧ x0 ≤ 9223372036854775807 then some (itoaB x0) else none
set_option maxRecDepth 100000 in
theorem strconv_Itoa.walk {W : Nat → Prop} {h m : Heap} {x0 : Int} (O : Hold W h m h m []) (tab : TB m) {r : ByteArray} (e : strconv_Itoa x0 = some r) : Run Tryd.prog 16 #[Value.int .i64 x0] h (strconv_Itoa.post W h m r) := by
  unfold strconv_Itoa at e
  exact (itoa_run (by kernel_rfl) Tryd.strconv_Itoa O tab e).mono fun v h' hp => hp
def roadref2_nums.post (W : Nat → Prop) (h0 m0 : Heap) (r : ByteArray) (v : Value) (h : Heap) : Prop := ∃ m , Hold W h0 m0 h m [] ∧ v = .string r
inductive roadref2_nums.l0_k.Pt where
  | l0 (s_3 : ByteArray) (a_6 : List Int) (x_7 : Int) (x_8 : Int)
noncomputable def roadref2_nums.l0_k.body (go : (p : roadref2_nums.l0_k.Pt) → Option (ByteArray)) : (p : roadref2_nums.l0_k.Pt) → Option (ByteArray)
  | .l0 s_3 a_6 x_7 x_8 => if x_8 < x_7 then (Option.bind (gi a_6 x_8) fun y1 => Option.bind (strconv_Itoa y1) fun y8 => if ByteArray.size y8 + ByteArray.size (ByteArray.mk #[44]) ≤ 9223372036854775807 then (if ByteArray.size s_3 + ByteArray.size (y8 ++ (ByteArray.mk #[44])) ≤ 9223372036854775807 then ((go (.l0 (s_3 ++ (y8 ++ (ByteArray.mk #[44]))) a_6 x_7 (IntKind.wrap .i64 (x_8 + (1 : Int)))))) else none) else none) else (some (s_3))
theorem roadref2_nums.l0_k.mono : MonoF (β := fun _ => (ByteArray)) roadref2_nums.l0_k.body := fun f g hfg p => match p with
  | .l0 s_3 a_6 x_7 x_8 => LeO.ite (LeO.bind (LeO.refl _) fun y1 => LeO.bind (LeO.refl _) fun y8 => LeO.ite (LeO.ite ((hfg _)) (LeO.refl _)) (LeO.refl _)) (LeO.refl _)
noncomputable def roadref2_nums.l0_k.go (p : roadref2_nums.l0_k.Pt) : Option (ByteArray) := fixF (β := fun _ => (ByteArray)) roadref2_nums.l0_k.body p
noncomputable def roadref2_nums.l0 (s_3 : ByteArray) (a_6 : List Int) (x_7 : Int) (x_8 : Int) : Option (ByteArray) := roadref2_nums.l0_k.go (.l0 s_3 a_6 x_7 x_8)
theorem roadref2_nums.l0_eq (s_3 : ByteArray) (a_6 : List Int) (x_7 : Int) (x_8 : Int) : roadref2_nums.l0 s_3 a_6 x_7 x_8 = if x_8 < x_7 then (Option.bind (gi a_6 x_8) fun y1 => Option.bind (strconv_Itoa y1) fun y8 => if ByteArray.size y8 + ByteArray.size (ByteArray.mk #[44]) ≤ 9223372036854775807 then (if ByteArray.size s_3 + ByteArray.size (y8 ++ (ByteArray.mk #[44])) ≤ 9223372036854775807 then ((roadref2_nums.l0 (s_3 ++ (y8 ++ (ByteArray.mk #[44]))) a_6 x_7 (IntKind.wrap .i64 (x_8 + (1 : Int))))) else none) else none) else (some (s_3)) := fixF_eq roadref2_nums.l0_k.mono _
def roadref2_nums.l0_k.I : (p : roadref2_nums.l0_k.Pt) → (ByteArray) → Prop
  | .l0 s_3 a_6 x_7 x_8, r => ∀ (W : Nat → Prop) (h0 m0 h m : Heap) (A_6 : Option Addr) (n_6 c_6 : Nat) (O : Hold W h0 m0 h m []) (ne_6 : n_6 = List.length a_6) (k_6 : List.length a_6 ≤ c_6) (r_6 : Rd 1 (eInt .i64) m A_6 a_6) (tab : TB m), f35.l0 (roadref2_nums.post W h0 m0 r) s_3 A_6 n_6 c_6 x_7 x_8 h
set_option maxRecDepth 100000 in
theorem roadref2_nums.l0_k.step_l0 (go : (p : roadref2_nums.l0_k.Pt) → Option (ByteArray)) (ih : ∀ p r, go p = some r → roadref2_nums.l0_k.I p r) (s_3 : ByteArray) (a_6 : List Int) (x_7 : Int) (x_8 : Int) (r : ByteArray) (e : roadref2_nums.l0_k.body go (.l0 s_3 a_6 x_7 x_8) = some r) : roadref2_nums.l0_k.I (.l0 s_3 a_6 x_7 x_8) r := by
  unfold roadref2_nums.l0_k.body at e
  intro W h0 m0 h m A_6 n_6 c_6 O ne_6 k_6 r_6 tab
  subst ne_6
  refine f35.l0_in ?_
  unfold f35.l0T
  refine split_dec_e e (fun c17 e => ?_) (fun c17 e => ?_)
  · obtain ⟨y1, g2, e⟩ := bind_e e
    refine r_6.addr rfl g2 fun a3 cs4 ha5 hc6 he7 => ?_
    obtain rfl : cs4 = [(Value.int .i64 y1)] := he7
    refine ⟨_, ld0 O.s hc6 rfl, _, rfl, ?_⟩
    obtain ⟨y8, g9, e⟩ := bind_e e
    refine (strconv_Itoa.walk (Hold.start (W := No) O.s) tab g9).mono ?_
    rintro _ h10 ⟨m11, Q12, rfl⟩
    have O14 := Hold.nm (O.retC Q12 vfs_nil)
    refine ⟨_, rfl, ?_⟩
    obtain ⟨g15, e⟩ := guard_e e
    refine ⟨g15, ?_⟩
    obtain ⟨g16, e⟩ := guard_e e
    refine ⟨g16, ?_⟩
    exact (ih _ _ e) _ _ _ _ _ _ _ _ (O14.pick []).nm rfl k_6 r_6 tab
  · cases e
    exact ⟨_, O.pick [], rfl⟩
theorem roadref2_nums.l0_k.all {p : roadref2_nums.l0_k.Pt} {r : (ByteArray)} (e : roadref2_nums.l0_k.go p = some r) : roadref2_nums.l0_k.I p r := fixF_ind (β := fun _ => (ByteArray)) roadref2_nums.l0_k.mono (I := roadref2_nums.l0_k.I) (fun go ih p r e => match p with
  | .l0 s_3 a_6 x_7 x_8 => roadref2_nums.l0_k.step_l0 go ih s_3 a_6 x_7 x_8 r e
  ) e
theorem roadref2_nums.l0.walk {W : Nat → Prop} {h0 m0 h m : Heap} {A_6 : Option Addr} {n_6 c_6 : Nat} {s_3 : ByteArray} {a_6 : List Int} {x_7 : Int} {x_8 : Int} (O : Hold W h0 m0 h m []) (ne_6 : n_6 = List.length a_6) (k_6 : List.length a_6 ≤ c_6) (r_6 : Rd 1 (eInt .i64) m A_6 a_6) (tab : TB m) {r : ByteArray} (e : roadref2_nums.l0 s_3 a_6 x_7 x_8 = some r) : f35.l0 (roadref2_nums.post W h0 m0 r) s_3 A_6 n_6 c_6 x_7 x_8 h := roadref2_nums.l0_k.all (p := .l0 s_3 a_6 x_7 x_8) e W h0 m0 h m A_6 n_6 c_6 O ne_6 k_6 r_6 tab
noncomputable def roadref2_nums (a_0 : List Int) : Option (ByteArray) :=
  (roadref2_nums.l0 (ByteArray.mk #[]) a_0 (((List.length a_0) : Nat) : Int) (0 : Int))
set_option maxRecDepth 100000 in
theorem roadref2_nums.walk {W : Nat → Prop} {h m : Heap} {A_0 : Option Addr} {n_0 c_0 : Nat} {a_0 : List Int} (O : Hold W h m h m []) (ne_0 : n_0 = List.length a_0) (k_0 : List.length a_0 ≤ c_0) (r_0 : Rd 1 (eInt .i64) m A_0 a_0) (tab : TB m) {r : ByteArray} (e : roadref2_nums a_0 = some r) : Run Tryd.prog 35 #[Value.slice A_0 n_0 c_0] h (roadref2_nums.post W h m r) := by
  unfold roadref2_nums at e
  subst ne_0
  refine f35.run ?_
  unfold f35.runT
  exact roadref2_nums.l0.walk (O.pick []).nm rfl k_0 r_0 tab e
def roadref2_texts.post (W : Nat → Prop) (h0 m0 : Heap) (r : ByteArray) (v : Value) (h : Heap) : Prop := ∃ m , Hold W h0 m0 h m [] ∧ v = .string r
inductive roadref2_texts.l0_k.Pt where
  | l0 (s_3 : ByteArray) (a_6 : List ByteArray) (x_7 : Int) (x_8 : Int)
noncomputable def roadref2_texts.l0_k.body (go : (p : roadref2_texts.l0_k.Pt) → Option (ByteArray)) : (p : roadref2_texts.l0_k.Pt) → Option (ByteArray)
  | .l0 s_3 a_6 x_7 x_8 => if x_8 < x_7 then (Option.bind (gi a_6 x_8) fun y1 => Option.bind (roadref2_nums ([((ByteArray.size y1 : Nat) : Int)] : List Int)) fun y13 => if ByteArray.size y13 + ByteArray.size y1 ≤ 9223372036854775807 then (if ByteArray.size s_3 + ByteArray.size (y13 ++ y1) ≤ 9223372036854775807 then ((go (.l0 (s_3 ++ (y13 ++ y1)) a_6 x_7 (IntKind.wrap .i64 (x_8 + (1 : Int)))))) else none) else none) else (some (s_3))
theorem roadref2_texts.l0_k.mono : MonoF (β := fun _ => (ByteArray)) roadref2_texts.l0_k.body := fun f g hfg p => match p with
  | .l0 s_3 a_6 x_7 x_8 => LeO.ite (LeO.bind (LeO.refl _) fun y1 => LeO.bind (LeO.refl _) fun y13 => LeO.ite (LeO.ite ((hfg _)) (LeO.refl _)) (LeO.refl _)) (LeO.refl _)
noncomputable def roadref2_texts.l0_k.go (p : roadref2_texts.l0_k.Pt) : Option (ByteArray) := fixF (β := fun _ => (ByteArray)) roadref2_texts.l0_k.body p
noncomputable def roadref2_texts.l0 (s_3 : ByteArray) (a_6 : List ByteArray) (x_7 : Int) (x_8 : Int) : Option (ByteArray) := roadref2_texts.l0_k.go (.l0 s_3 a_6 x_7 x_8)
theorem roadref2_texts.l0_eq (s_3 : ByteArray) (a_6 : List ByteArray) (x_7 : Int) (x_8 : Int) : roadref2_texts.l0 s_3 a_6 x_7 x_8 = if x_8 < x_7 then (Option.bind (gi a_6 x_8) fun y1 => Option.bind (roadref2_nums ([((ByteArray.size y1 : Nat) : Int)] : List Int)) fun y13 => if ByteArray.size y13 + ByteArray.size y1 ≤ 9223372036854775807 then (if ByteArray.size s_3 + ByteArray.size (y13 ++ y1) ≤ 9223372036854775807 then ((roadref2_texts.l0 (s_3 ++ (y13 ++ y1)) a_6 x_7 (IntKind.wrap .i64 (x_8 + (1 : Int))))) else none) else none) else (some (s_3)) := fixF_eq roadref2_texts.l0_k.mono _
def roadref2_texts.l0_k.I : (p : roadref2_texts.l0_k.Pt) → (ByteArray) → Prop
  | .l0 s_3 a_6 x_7 x_8, r => ∀ (W : Nat → Prop) (h0 m0 h m : Heap) (A_6 : Option Addr) (n_6 c_6 : Nat) (O : Hold W h0 m0 h m []) (ne_6 : n_6 = List.length a_6) (k_6 : List.length a_6 ≤ c_6) (r_6 : Rd 1 eStr m A_6 a_6) (tab : TB m), f36.l0 (roadref2_texts.post W h0 m0 r) s_3 A_6 n_6 c_6 x_7 x_8 h
set_option maxRecDepth 100000 in
theorem roadref2_texts.l0_k.step_l0 (go : (p : roadref2_texts.l0_k.Pt) → Option (ByteArray)) (ih : ∀ p r, go p = some r → roadref2_texts.l0_k.I p r) (s_3 : ByteArray) (a_6 : List ByteArray) (x_7 : Int) (x_8 : Int) (r : ByteArray) (e : roadref2_texts.l0_k.body go (.l0 s_3 a_6 x_7 x_8) = some r) : roadref2_texts.l0_k.I (.l0 s_3 a_6 x_7 x_8) r := by
  unfold roadref2_texts.l0_k.body at e
  intro W h0 m0 h m A_6 n_6 c_6 O ne_6 k_6 r_6 tab
  subst ne_6
  refine f36.l0_in ?_
  unfold f36.l0T
  refine split_dec_e e (fun c30 e => ?_) (fun c30 e => ?_)
  · obtain ⟨y1, g2, e⟩ := bind_e e
    refine r_6.addr rfl g2 fun a3 cs4 ha5 hc6 he7 => ?_
    obtain rfl : cs4 = [(Value.string y1)] := he7
    refine ⟨_, ld0 O.s hc6 rfl, _, rfl, ?_⟩
    refine O.new fun h8 x9 O10 => ?_
    obtain ⟨y13, g14, e⟩ := bind_e e
    have O12 := O10.rowE (l := ([((ByteArray.size y1 : Nat) : Int)] : List Int)) 0 rfl (tell_int .i64) (show CsE _ _ _ _ _ from (CsE.cons (c1 := [(Value.int .i64 ((ByteArray.size y1 : Nat) : Int))]) rfl rfl CsE.nil)) rfl
    have O19 := O12.nm
    obtain ⟨m20, u21, s26, ⟨⟨r24, k25⟩, _⟩, B22, C23⟩ := O19.lend0 [0]
    replace r24 : Rd 1 (eInt .i64) m20 (some ⟨(Array.size h), 0, none⟩) ([((ByteArray.size y1 : Nat) : Int)] : List Int) := r24
    replace k25 : List.length ([((ByteArray.size y1 : Nat) : Int)] : List Int) ≤ 1 := k25
    refine (roadref2_nums.walk (Hold.start (W := No) s26) rfl k25 r24 (TBg.sub tab u21) g14).mono ?_
    rintro _ h15 ⟨m16, Q17, rfl⟩
    have O27 := Hold.nm (C23 Q17 vfs_nil)
    refine ⟨_, rfl, ?_⟩
    obtain ⟨g28, e⟩ := guard_e e
    refine ⟨g28, ?_⟩
    obtain ⟨g29, e⟩ := guard_e e
    refine ⟨g29, ?_⟩
    exact (ih _ _ e) _ _ _ _ _ _ _ _ (O27.pick []).nm rfl k_6 r_6 tab
  · cases e
    exact ⟨_, O.pick [], rfl⟩
theorem roadref2_texts.l0_k.all {p : roadref2_texts.l0_k.Pt} {r : (ByteArray)} (e : roadref2_texts.l0_k.go p = some r) : roadref2_texts.l0_k.I p r := fixF_ind (β := fun _ => (ByteArray)) roadref2_texts.l0_k.mono (I := roadref2_texts.l0_k.I) (fun go ih p r e => match p with
  | .l0 s_3 a_6 x_7 x_8 => roadref2_texts.l0_k.step_l0 go ih s_3 a_6 x_7 x_8 r e
  ) e
theorem roadref2_texts.l0.walk {W : Nat → Prop} {h0 m0 h m : Heap} {A_6 : Option Addr} {n_6 c_6 : Nat} {s_3 : ByteArray} {a_6 : List ByteArray} {x_7 : Int} {x_8 : Int} (O : Hold W h0 m0 h m []) (ne_6 : n_6 = List.length a_6) (k_6 : List.length a_6 ≤ c_6) (r_6 : Rd 1 eStr m A_6 a_6) (tab : TB m) {r : ByteArray} (e : roadref2_texts.l0 s_3 a_6 x_7 x_8 = some r) : f36.l0 (roadref2_texts.post W h0 m0 r) s_3 A_6 n_6 c_6 x_7 x_8 h := roadref2_texts.l0_k.all (p := .l0 s_3 a_6 x_7 x_8) e W h0 m0 h m A_6 n_6 c_6 O ne_6 k_6 r_6 tab
noncomputable def roadref2_texts (a_0 : List ByteArray) : Option (ByteArray) :=
  (roadref2_texts.l0 (ByteArray.mk #[]) a_0 (((List.length a_0) : Nat) : Int) (0 : Int))
set_option maxRecDepth 100000 in
theorem roadref2_texts.walk {W : Nat → Prop} {h m : Heap} {A_0 : Option Addr} {n_0 c_0 : Nat} {a_0 : List ByteArray} (O : Hold W h m h m []) (ne_0 : n_0 = List.length a_0) (k_0 : List.length a_0 ≤ c_0) (r_0 : Rd 1 eStr m A_0 a_0) (tab : TB m) {r : ByteArray} (e : roadref2_texts a_0 = some r) : Run Tryd.prog 36 #[Value.slice A_0 n_0 c_0] h (roadref2_texts.post W h m r) := by
  unfold roadref2_texts at e
  subst ne_0
  refine f36.run ?_
  unfold f36.runT
  exact roadref2_texts.l0.walk (O.pick []).nm rfl k_0 r_0 tab e
def roadref2_TypeMark.post (W : Nat → Prop) (h0 m0 : Heap) (r : ByteArray) (v : Value) (h : Heap) : Prop := ∃ m , Hold W h0 m0 h m [] ∧ v = .string r
inductive roadref2_TypeMark_k.Pt where
  | f (y_0 : T_api_Type)
  | j0 (y_1 : T_api_Type) (s_3 : ByteArray)
  | l0 (s_3 : ByteArray) (a_19 : List T_api_Type) (x_20 : Int) (x_21 : Int)
noncomputable def roadref2_TypeMark_k.body (go : (p : roadref2_TypeMark_k.Pt) → Option (ByteArray)) : (p : roadref2_TypeMark_k.Pt) → Option (ByteArray)
  | .f y_0 => Option.bind (roadref2_nums ([y_0.Kind, (((List.length y_0.Args) : Nat) : Int)] : List Int)) fun y15 => Option.bind (roadref2_texts ([y_0.Name] : List ByteArray)) fun y35 => if ByteArray.size y15 + ByteArray.size y35 ≤ 9223372036854775807 then ((go (.j0 y_0 (y15 ++ y35)))) else none
  | .j0 y_1 s_3 => (go (.l0 s_3 y_1.Args (((List.length y_1.Args) : Nat) : Int) (0 : Int)))
  | .l0 s_3 a_19 x_20 x_21 => if x_21 < x_20 then (Option.bind (gi a_19 x_21) fun y1 => Option.bind ((go (.f y1))) fun y14 => if ByteArray.size s_3 + ByteArray.size y14 ≤ 9223372036854775807 then ((go (.l0 (s_3 ++ y14) a_19 x_20 (IntKind.wrap .i64 (x_21 + (1 : Int)))))) else none) else (some (s_3))
theorem roadref2_TypeMark_k.mono : MonoF (β := fun _ => (ByteArray)) roadref2_TypeMark_k.body := fun f g hfg p => match p with
  | .f y_0 => LeO.bind (LeO.refl _) fun y15 => LeO.bind (LeO.refl _) fun y35 => LeO.ite ((hfg _)) (LeO.refl _)
  | .j0 y_1 s_3 => (hfg _)
  | .l0 s_3 a_19 x_20 x_21 => LeO.ite (LeO.bind (LeO.refl _) fun y1 => LeO.bind ((hfg _)) fun y14 => LeO.ite ((hfg _)) (LeO.refl _)) (LeO.refl _)
noncomputable def roadref2_TypeMark_k.go (p : roadref2_TypeMark_k.Pt) : Option (ByteArray) := fixF (β := fun _ => (ByteArray)) roadref2_TypeMark_k.body p
noncomputable def roadref2_TypeMark (y_0 : T_api_Type) : Option (ByteArray) := roadref2_TypeMark_k.go (.f y_0)
noncomputable def roadref2_TypeMark.j0 (y_1 : T_api_Type) (s_3 : ByteArray) : Option (ByteArray) := roadref2_TypeMark_k.go (.j0 y_1 s_3)
noncomputable def roadref2_TypeMark.l0 (s_3 : ByteArray) (a_19 : List T_api_Type) (x_20 : Int) (x_21 : Int) : Option (ByteArray) := roadref2_TypeMark_k.go (.l0 s_3 a_19 x_20 x_21)
theorem roadref2_TypeMark_eq (y_0 : T_api_Type) : roadref2_TypeMark y_0 = Option.bind (roadref2_nums ([y_0.Kind, (((List.length y_0.Args) : Nat) : Int)] : List Int)) fun y15 => Option.bind (roadref2_texts ([y_0.Name] : List ByteArray)) fun y35 => if ByteArray.size y15 + ByteArray.size y35 ≤ 9223372036854775807 then ((roadref2_TypeMark.j0 y_0 (y15 ++ y35))) else none := fixF_eq roadref2_TypeMark_k.mono _
theorem roadref2_TypeMark.j0_eq (y_1 : T_api_Type) (s_3 : ByteArray) : roadref2_TypeMark.j0 y_1 s_3 = (roadref2_TypeMark.l0 s_3 y_1.Args (((List.length y_1.Args) : Nat) : Int) (0 : Int)) := fixF_eq roadref2_TypeMark_k.mono _
theorem roadref2_TypeMark.l0_eq (s_3 : ByteArray) (a_19 : List T_api_Type) (x_20 : Int) (x_21 : Int) : roadref2_TypeMark.l0 s_3 a_19 x_20 x_21 = if x_21 < x_20 then (Option.bind (gi a_19 x_21) fun y1 => Option.bind ((roadref2_TypeMark y1)) fun y14 => if ByteArray.size s_3 + ByteArray.size y14 ≤ 9223372036854775807 then ((roadref2_TypeMark.l0 (s_3 ++ y14) a_19 x_20 (IntKind.wrap .i64 (x_21 + (1 : Int))))) else none) else (some (s_3)) := fixF_eq roadref2_TypeMark_k.mono _
def roadref2_TypeMark_k.I : (p : roadref2_TypeMark_k.Pt) → (ByteArray) → Prop
  | .f y_0, r => ∀ (W : Nat → Prop) (h m : Heap) (cs_0 : List Value) (O : Hold W h m h m []) (e_0 : T_api_Type.E m y_0 cs_0) (tab : TB m), Run Tryd.prog 10 #[Value.agg cs_0.toArray] h (roadref2_TypeMark.post W h m r)
  | .j0 y_1 s_3, r => ∀ (W : Nat → Prop) (h0 m0 h m : Heap) (bk_1 : Nat) (cs_1 : List Value) (O : Hold W h0 m0 h m [rV bk_1 25 cs_1]) (e_1 : T_api_Type.E m y_1 cs_1) (tab : TB m), f10.j0 (roadref2_TypeMark.post W h0 m0 r) (⟨bk_1, 0, none⟩ : Addr) s_3 h
  | .l0 s_3 a_19 x_20 x_21, r => ∀ (W : Nat → Prop) (h0 m0 h m : Heap) (A_19 : Option Addr) (n_19 c_19 : Nat) (O : Hold W h0 m0 h m []) (ne_19 : n_19 = List.length a_19) (k_19 : List.length a_19 ≤ c_19) (r_19 : Rd 3 T_api_Type.E m A_19 a_19) (tab : TB m), f10.l0 (roadref2_TypeMark.post W h0 m0 r) s_3 A_19 n_19 c_19 x_20 x_21 h
set_option maxHeartbeats 4000000 in
set_option maxRecDepth 100000 in
theorem roadref2_TypeMark_k.step_f (go : (p : roadref2_TypeMark_k.Pt) → Option (ByteArray)) (ih : ∀ p r, go p = some r → roadref2_TypeMark_k.I p r) (y_0 : T_api_Type) (r : ByteArray) (e : roadref2_TypeMark_k.body go (.f y_0) = some r) : roadref2_TypeMark_k.I (.f y_0) r := by
  unfold roadref2_TypeMark_k.body at e
  intro W h m cs_0 O e_0 tab
  refine f10.run ?_
  unfold f10.runT
  refine O.new fun h1 x2 O3 => ?_
  refine ⟨_, ld0 (Sub.refl _) (O3.all 0 rfl) (T_api_Type.g0 e_0), _, rfl, ?_⟩
  obtain ⟨A5, c6, q7, k8, r9⟩ := T_api_Type.g2 e_0
  refine ⟨_, ldk (k := 2) (Sub.refl _) (O3.all 0 rfl) q7, _, _, _, rfl, ?_⟩
  obtain ⟨y15, g16, e⟩ := bind_e e
  obtain ⟨y35, g36, e⟩ := bind_e e
  refine ⟨?_, ?_⟩
  · refine O3.new fun h51 x52 O53 => ?_
    refine ⟨?_, ?_⟩
    · have O55 := O53.rowE (l := ([y_0.Kind, (((List.length y_0.Args) : Nat) : Int)] : List Int)) 1 rfl (tell_int .i64) (show CsE _ _ _ _ _ from (CsE.cons (c1 := [(Value.int .i64 y_0.Kind)]) rfl rfl (CsE.cons (c1 := [(Value.int .i64 (((List.length y_0.Args) : Nat) : Int))]) rfl rfl CsE.nil))) rfl
      have O62 := O55.nm
      obtain ⟨m63, u64, s69, ⟨⟨r67, k68⟩, _⟩, B65, C66⟩ := O62.lend0 [1]
      replace r67 : Rd 1 (eInt .i64) m63 (some ⟨(Array.size h1), 0, none⟩) ([y_0.Kind, (((List.length y_0.Args) : Nat) : Int)] : List Int) := r67
      replace k68 : List.length ([y_0.Kind, (((List.length y_0.Args) : Nat) : Int)] : List Int) ≤ 2 := k68
      refine (roadref2_nums.walk (Hold.start (W := No) s69) rfl k68 r67 (TBg.sub tab u64) g16).mono ?_
      rintro _ h58 ⟨m59, Q60, rfl⟩
      have O70 := Hold.nm (C66 Q60 vfs_nil)
      refine ⟨_, rfl, ?_⟩
      refine ⟨_, ldk (k := 1) (Sub.refl _) (O70.all 0 rfl) (T_api_Type.g1 e_0), _, rfl, ?_⟩
      refine ⟨Ext.refl _, ?_⟩
      refine O70.new fun h71 x72 O73 => ?_
      refine ⟨x72, ?_⟩
      have O75 := O73.rowE (l := ([y_0.Name] : List ByteArray)) 2 rfl tell_str (show CsE _ _ _ _ _ from (CsE.cons (c1 := [(Value.string y_0.Name)]) rfl rfl CsE.nil)) rfl
      have O82 := O75.nm
      obtain ⟨m83, u84, s89, ⟨⟨r87, k88⟩, _⟩, B85, C86⟩ := O82.lend0 [2]
      replace r87 : Rd 1 eStr m83 (some ⟨(Array.size h58), 0, none⟩) ([y_0.Name] : List ByteArray) := r87
      replace k88 : List.length ([y_0.Name] : List ByteArray) ≤ 1 := k88
      refine (roadref2_texts.walk (Hold.start (W := No) s89) rfl k88 r87 (TBg.sub tab u84) g36).mono ?_
      rintro _ h78 ⟨m79, Q80, rfl⟩
      have O90 := Hold.nm (C86 Q80 vfs_nil)
      refine ⟨_, rfl, ?_⟩
      obtain ⟨g91, e⟩ := guard_e e
      refine ⟨g91, ?_⟩
      exact (ih _ _ e) _ _ _ _ _ _ _ (O90.pick [0]).nm e_0 tab
    · refine ⟨_, ldk (k := 1) (Sub.refl _) (O53.all 0 rfl) (T_api_Type.g1 e_0), _, rfl, ?_⟩
      refine ⟨Ext.refl _, ?_⟩
      refine ⟨?_, ?_⟩
      · have O92 := O53.rowE (l := ([y_0.Kind, (((List.length y_0.Args) : Nat) : Int)] : List Int)) 1 rfl (tell_int .i64) (show CsE _ _ _ _ _ from (CsE.cons (c1 := [(Value.int .i64 y_0.Kind)]) rfl rfl (CsE.cons (c1 := [(Value.int .i64 (((List.length y_0.Args) : Nat) : Int))]) rfl rfl CsE.nil))) rfl
        have O99 := O92.nm
        obtain ⟨m100, u101, s106, ⟨⟨r104, k105⟩, _⟩, B102, C103⟩ := O99.lend0 [1]
        replace r104 : Rd 1 (eInt .i64) m100 (some ⟨(Array.size h1), 0, none⟩) ([y_0.Kind, (((List.length y_0.Args) : Nat) : Int)] : List Int) := r104
        replace k105 : List.length ([y_0.Kind, (((List.length y_0.Args) : Nat) : Int)] : List Int) ≤ 2 := k105
        refine (roadref2_nums.walk (Hold.start (W := No) s106) rfl k105 r104 (TBg.sub tab u101) g16).mono ?_
        rintro _ h95 ⟨m96, Q97, rfl⟩
        have O107 := Hold.nm (C103 Q97 vfs_nil)
        refine ⟨_, rfl, ?_⟩
        refine O107.new fun h108 x109 O110 => ?_
        refine ⟨x109, ?_⟩
        have O112 := O110.rowE (l := ([y_0.Name] : List ByteArray)) 2 rfl tell_str (show CsE _ _ _ _ _ from (CsE.cons (c1 := [(Value.string y_0.Name)]) rfl rfl CsE.nil)) rfl
        have O119 := O112.nm
        obtain ⟨m120, u121, s126, ⟨⟨r124, k125⟩, _⟩, B122, C123⟩ := O119.lend0 [2]
        replace r124 : Rd 1 eStr m120 (some ⟨(Array.size h95), 0, none⟩) ([y_0.Name] : List ByteArray) := r124
        replace k125 : List.length ([y_0.Name] : List ByteArray) ≤ 1 := k125
        refine (roadref2_texts.walk (Hold.start (W := No) s126) rfl k125 r124 (TBg.sub tab u121) g36).mono ?_
        rintro _ h115 ⟨m116, Q117, rfl⟩
        have O127 := Hold.nm (C123 Q117 vfs_nil)
        refine ⟨_, rfl, ?_⟩
        obtain ⟨g128, e⟩ := guard_e e
        refine ⟨g128, ?_⟩
        exact (ih _ _ e) _ _ _ _ _ _ _ (O127.pick [0]).nm e_0 tab
      · refine O53.new fun h129 x130 O131 => ?_
        refine ⟨x130, ?_⟩
        have O133 := O131.rowE (l := ([y_0.Kind, (((List.length y_0.Args) : Nat) : Int)] : List Int)) 1 rfl (tell_int .i64) (show CsE _ _ _ _ _ from (CsE.cons (c1 := [(Value.int .i64 y_0.Kind)]) rfl rfl (CsE.cons (c1 := [(Value.int .i64 (((List.length y_0.Args) : Nat) : Int))]) rfl rfl CsE.nil))) rfl
        have O140 := O133.nm
        obtain ⟨m141, u142, s147, ⟨⟨r145, k146⟩, _⟩, B143, C144⟩ := O140.lend0 [1]
        replace r145 : Rd 1 (eInt .i64) m141 (some ⟨(Array.size h1), 0, none⟩) ([y_0.Kind, (((List.length y_0.Args) : Nat) : Int)] : List Int) := r145
        replace k146 : List.length ([y_0.Kind, (((List.length y_0.Args) : Nat) : Int)] : List Int) ≤ 2 := k146
        refine (roadref2_nums.walk (Hold.start (W := No) s147) rfl k146 r145 (TBg.sub tab u142) g16).mono ?_
        rintro _ h136 ⟨m137, Q138, rfl⟩
        have O148 := Hold.nm (C144 Q138 vfs_nil)
        refine ⟨_, rfl, ?_⟩
        have O149 := O148.rowE (l := ([y_0.Name] : List ByteArray)) 2 rfl tell_str (show CsE _ _ _ _ _ from (CsE.cons (c1 := [(Value.string y_0.Name)]) rfl rfl CsE.nil)) rfl
        have O156 := O149.nm
        obtain ⟨m157, u158, s163, ⟨⟨r161, k162⟩, _⟩, B159, C160⟩ := O156.lend0 [2]
        replace r161 : Rd 1 eStr m157 (some ⟨(Array.size h51), 0, none⟩) ([y_0.Name] : List ByteArray) := r161
        replace k162 : List.length ([y_0.Name] : List ByteArray) ≤ 1 := k162
        refine (roadref2_texts.walk (Hold.start (W := No) s163) rfl k162 r161 (TBg.sub tab u158) g36).mono ?_
        rintro _ h152 ⟨m153, Q154, rfl⟩
        have O164 := Hold.nm (C160 Q154 vfs_nil)
        refine ⟨_, rfl, ?_⟩
        obtain ⟨g165, e⟩ := guard_e e
        refine ⟨g165, ?_⟩
        exact (ih _ _ e) _ _ _ _ _ _ _ (O164.pick [0]).nm e_0 tab
  · refine ⟨_, ldk (k := 1) (Sub.refl _) (O3.all 0 rfl) (T_api_Type.g1 e_0), _, rfl, ?_⟩
    refine ⟨Ext.refl _, ?_⟩
    refine ⟨?_, ?_⟩
    · refine O3.new fun h166 x167 O168 => ?_
      refine ⟨?_, ?_⟩
      · have O170 := O168.rowE (l := ([y_0.Kind, (((List.length y_0.Args) : Nat) : Int)] : List Int)) 1 rfl (tell_int .i64) (show CsE _ _ _ _ _ from (CsE.cons (c1 := [(Value.int .i64 y_0.Kind)]) rfl rfl (CsE.cons (c1 := [(Value.int .i64 (((List.length y_0.Args) : Nat) : Int))]) rfl rfl CsE.nil))) rfl
        have O177 := O170.nm
        obtain ⟨m178, u179, s184, ⟨⟨r182, k183⟩, _⟩, B180, C181⟩ := O177.lend0 [1]
        replace r182 : Rd 1 (eInt .i64) m178 (some ⟨(Array.size h1), 0, none⟩) ([y_0.Kind, (((List.length y_0.Args) : Nat) : Int)] : List Int) := r182
        replace k183 : List.length ([y_0.Kind, (((List.length y_0.Args) : Nat) : Int)] : List Int) ≤ 2 := k183
        refine (roadref2_nums.walk (Hold.start (W := No) s184) rfl k183 r182 (TBg.sub tab u179) g16).mono ?_
        rintro _ h173 ⟨m174, Q175, rfl⟩
        have O185 := Hold.nm (C181 Q175 vfs_nil)
        refine ⟨_, rfl, ?_⟩
        refine O185.new fun h186 x187 O188 => ?_
        refine ⟨x187, ?_⟩
        have O190 := O188.rowE (l := ([y_0.Name] : List ByteArray)) 2 rfl tell_str (show CsE _ _ _ _ _ from (CsE.cons (c1 := [(Value.string y_0.Name)]) rfl rfl CsE.nil)) rfl
        have O197 := O190.nm
        obtain ⟨m198, u199, s204, ⟨⟨r202, k203⟩, _⟩, B200, C201⟩ := O197.lend0 [2]
        replace r202 : Rd 1 eStr m198 (some ⟨(Array.size h173), 0, none⟩) ([y_0.Name] : List ByteArray) := r202
        replace k203 : List.length ([y_0.Name] : List ByteArray) ≤ 1 := k203
        refine (roadref2_texts.walk (Hold.start (W := No) s204) rfl k203 r202 (TBg.sub tab u199) g36).mono ?_
        rintro _ h193 ⟨m194, Q195, rfl⟩
        have O205 := Hold.nm (C201 Q195 vfs_nil)
        refine ⟨_, rfl, ?_⟩
        obtain ⟨g206, e⟩ := guard_e e
        refine ⟨g206, ?_⟩
        exact (ih _ _ e) _ _ _ _ _ _ _ (O205.pick [0]).nm e_0 tab
      · refine O168.new fun h207 x208 O209 => ?_
        refine ⟨x208, ?_⟩
        have O211 := O209.rowE (l := ([y_0.Kind, (((List.length y_0.Args) : Nat) : Int)] : List Int)) 1 rfl (tell_int .i64) (show CsE _ _ _ _ _ from (CsE.cons (c1 := [(Value.int .i64 y_0.Kind)]) rfl rfl (CsE.cons (c1 := [(Value.int .i64 (((List.length y_0.Args) : Nat) : Int))]) rfl rfl CsE.nil))) rfl
        have O218 := O211.nm
        obtain ⟨m219, u220, s225, ⟨⟨r223, k224⟩, _⟩, B221, C222⟩ := O218.lend0 [1]
        replace r223 : Rd 1 (eInt .i64) m219 (some ⟨(Array.size h1), 0, none⟩) ([y_0.Kind, (((List.length y_0.Args) : Nat) : Int)] : List Int) := r223
        replace k224 : List.length ([y_0.Kind, (((List.length y_0.Args) : Nat) : Int)] : List Int) ≤ 2 := k224
        refine (roadref2_nums.walk (Hold.start (W := No) s225) rfl k224 r223 (TBg.sub tab u220) g16).mono ?_
        rintro _ h214 ⟨m215, Q216, rfl⟩
        have O226 := Hold.nm (C222 Q216 vfs_nil)
        refine ⟨_, rfl, ?_⟩
        have O227 := O226.rowE (l := ([y_0.Name] : List ByteArray)) 2 rfl tell_str (show CsE _ _ _ _ _ from (CsE.cons (c1 := [(Value.string y_0.Name)]) rfl rfl CsE.nil)) rfl
        have O234 := O227.nm
        obtain ⟨m235, u236, s241, ⟨⟨r239, k240⟩, _⟩, B237, C238⟩ := O234.lend0 [2]
        replace r239 : Rd 1 eStr m235 (some ⟨(Array.size h166), 0, none⟩) ([y_0.Name] : List ByteArray) := r239
        replace k240 : List.length ([y_0.Name] : List ByteArray) ≤ 1 := k240
        refine (roadref2_texts.walk (Hold.start (W := No) s241) rfl k240 r239 (TBg.sub tab u236) g36).mono ?_
        rintro _ h230 ⟨m231, Q232, rfl⟩
        have O242 := Hold.nm (C238 Q232 vfs_nil)
        refine ⟨_, rfl, ?_⟩
        obtain ⟨g243, e⟩ := guard_e e
        refine ⟨g243, ?_⟩
        exact (ih _ _ e) _ _ _ _ _ _ _ (O242.pick [0]).nm e_0 tab
    · refine O3.new fun h244 x245 O246 => ?_
      refine ⟨x245, ?_⟩
      refine O246.new fun h248 x249 O250 => ?_
      have O252 := O250.rowE (l := ([y_0.Kind, (((List.length y_0.Args) : Nat) : Int)] : List Int)) 2 rfl (tell_int .i64) (show CsE _ _ _ _ _ from (CsE.cons (c1 := [(Value.int .i64 y_0.Kind)]) rfl rfl (CsE.cons (c1 := [(Value.int .i64 (((List.length y_0.Args) : Nat) : Int))]) rfl rfl CsE.nil))) rfl
      have O259 := O252.nm
      obtain ⟨m260, u261, s266, ⟨⟨r264, k265⟩, _⟩, B262, C263⟩ := O259.lend0 [2]
      replace r264 : Rd 1 (eInt .i64) m260 (some ⟨(Array.size h244), 0, none⟩) ([y_0.Kind, (((List.length y_0.Args) : Nat) : Int)] : List Int) := r264
      replace k265 : List.length ([y_0.Kind, (((List.length y_0.Args) : Nat) : Int)] : List Int) ≤ 2 := k265
      refine (roadref2_nums.walk (Hold.start (W := No) s266) rfl k265 r264 (TBg.sub tab u261) g16).mono ?_
      rintro _ h255 ⟨m256, Q257, rfl⟩
      have O267 := Hold.nm (C263 Q257 vfs_nil)
      refine ⟨_, rfl, ?_⟩
      have O268 := O267.rowE (l := ([y_0.Name] : List ByteArray)) 1 rfl tell_str (show CsE _ _ _ _ _ from (CsE.cons (c1 := [(Value.string y_0.Name)]) rfl rfl CsE.nil)) rfl
      have O275 := O268.nm
      obtain ⟨m276, u277, s282, ⟨⟨r280, k281⟩, _⟩, B278, C279⟩ := O275.lend0 [1]
      replace r280 : Rd 1 eStr m276 (some ⟨(Array.size h1), 0, none⟩) ([y_0.Name] : List ByteArray) := r280
      replace k281 : List.length ([y_0.Name] : List ByteArray) ≤ 1 := k281
      refine (roadref2_texts.walk (Hold.start (W := No) s282) rfl k281 r280 (TBg.sub tab u277) g36).mono ?_
      rintro _ h271 ⟨m272, Q273, rfl⟩
      have O283 := Hold.nm (C279 Q273 vfs_nil)
      refine ⟨_, rfl, ?_⟩
      obtain ⟨g284, e⟩ := guard_e e
      refine ⟨g284, ?_⟩
      exact (ih _ _ e) _ _ _ _ _ _ _ (O283.pick [0]).nm e_0 tab
set_option maxRecDepth 100000 in
theorem roadref2_TypeMark_k.step_j0 (go : (p : roadref2_TypeMark_k.Pt) → Option (ByteArray)) (ih : ∀ p r, go p = some r → roadref2_TypeMark_k.I p r) (y_1 : T_api_Type) (s_3 : ByteArray) (r : ByteArray) (e : roadref2_TypeMark_k.body go (.j0 y_1 s_3) = some r) : roadref2_TypeMark_k.I (.j0 y_1 s_3) r := by
  unfold roadref2_TypeMark_k.body at e
  intro W h0 m0 h m bk_1 cs_1 O e_1 tab
  refine f10.j0_in ?_
  unfold f10.j0T
  obtain ⟨A1, c2, q3, k4, r5⟩ := T_api_Type.g2 e_1
  refine ⟨_, ldk (k := 2) (Sub.refl _) (O.all 0 rfl) q3, _, _, _, rfl, ?_⟩
  exact (ih _ _ e) _ _ _ _ _ _ _ _ (O.pick []).nm rfl k4 r5 tab
set_option maxRecDepth 100000 in
theorem roadref2_TypeMark_k.step_l0 (go : (p : roadref2_TypeMark_k.Pt) → Option (ByteArray)) (ih : ∀ p r, go p = some r → roadref2_TypeMark_k.I p r) (s_3 : ByteArray) (a_19 : List T_api_Type) (x_20 : Int) (x_21 : Int) (r : ByteArray) (e : roadref2_TypeMark_k.body go (.l0 s_3 a_19 x_20 x_21) = some r) : roadref2_TypeMark_k.I (.l0 s_3 a_19 x_20 x_21) r := by
  unfold roadref2_TypeMark_k.body at e
  intro W h0 m0 h m A_19 n_19 c_19 O ne_19 k_19 r_19 tab
  subst ne_19
  refine f10.l0_in ?_
  unfold f10.l0T
  refine split_dec_e e (fun c22 e => ?_) (fun c22 e => ?_)
  · obtain ⟨y1, g2, e⟩ := bind_e e
    refine r_19.addr rfl g2 fun a3 cs4 ha5 hc6 he7 => ?_
    refine ⟨_, ldAn O.s hc6 rfl, ?_⟩
    refine O.new fun h8 x9 O10 => ?_
    refine ⟨_, rfl, (T_api_Type.T.len _ _ _ he7), ?_⟩
    refine O10.stA 0 rfl (T_api_Type.T.len _ _ _ he7) (T_api_Type.T.flat _ _ _ he7) fun h12 O13 => ?_
    refine ⟨_, ldAn (Sub.refl _) (O13.all 0 rfl) (T_api_Type.T.len _ _ _ he7), ?_⟩
    obtain ⟨y14, g15, e⟩ := bind_e e
    refine ((ih _ _ g15) _ _ _ _ (Hold.start (W := No) O13.s) he7 tab).mono ?_
    rintro _ h16 ⟨m17, Q18, rfl⟩
    have O20 := Hold.nm (O13.retC Q18 vfs_nil)
    refine ⟨_, rfl, ?_⟩
    obtain ⟨g21, e⟩ := guard_e e
    refine ⟨g21, ?_⟩
    exact (ih _ _ e) _ _ _ _ _ _ _ _ (O20.pick []).nm rfl k_19 r_19 tab
  · cases e
    exact ⟨_, O.pick [], rfl⟩
theorem roadref2_TypeMark_k.all {p : roadref2_TypeMark_k.Pt} {r : (ByteArray)} (e : roadref2_TypeMark_k.go p = some r) : roadref2_TypeMark_k.I p r := fixF_ind (β := fun _ => (ByteArray)) roadref2_TypeMark_k.mono (I := roadref2_TypeMark_k.I) (fun go ih p r e => match p with
  | .f y_0 => roadref2_TypeMark_k.step_f go ih y_0 r e
  | .j0 y_1 s_3 => roadref2_TypeMark_k.step_j0 go ih y_1 s_3 r e
  | .l0 s_3 a_19 x_20 x_21 => roadref2_TypeMark_k.step_l0 go ih s_3 a_19 x_20 x_21 r e
  ) e
theorem roadref2_TypeMark.walk {W : Nat → Prop} {h m : Heap} {cs_0 : List Value} {y_0 : T_api_Type} (O : Hold W h m h m []) (e_0 : T_api_Type.E m y_0 cs_0) (tab : TB m) {r : ByteArray} (e : roadref2_TypeMark y_0 = some r) : Run Tryd.prog 10 #[Value.agg cs_0.toArray] h (roadref2_TypeMark.post W h m r) := roadref2_TypeMark_k.all (p := .f y_0) e W h m cs_0 O e_0 tab
def scheme_Instance.post (W : Nat → Prop) (h0 m0 : Heap) (r : T_api_Type × Int) (v : Value) (h : Heap) : Prop := ∃ m cs0, Hold W h0 m0 h m [] ∧ v = .tuple #[.agg cs0.toArray, .int .i64 r.2] ∧ T_api_Type.E m r.1 cs0
noncomputable def scheme_Instance (y_0 : T_scheme_Scheme) (a_1 : List T_api_Type) : Option (T_api_Type × Int) :=
  if (((List.length a_1) : Nat) : Int) = (((List.length y_0.Params) : Nat) : Int) then (Option.bind (kind_Put y_0.Type_ y_0.Params a_1) fun y22 => some (y22, (0 : Int))) else (some ((T_api_Type.mk (0 : Int) (ByteArray.mk #[]) ([] : List T_api_Type)), (1 : Int)))
set_option maxRecDepth 100000 in
theorem scheme_Instance.walk {W : Nat → Prop} {h m : Heap} {cs_0 : List Value} {A_1 : Option Addr} {n_1 c_1 : Nat} {y_0 : T_scheme_Scheme} {a_1 : List T_api_Type} (O : Hold W h m h m []) (e_0 : T_scheme_Scheme.E m y_0 cs_0) (ne_1 : n_1 = List.length a_1) (k_1 : List.length a_1 ≤ c_1) (r_1 : Rd 3 T_api_Type.E m A_1 a_1) {r : T_api_Type × Int} (e : scheme_Instance y_0 a_1 = some r) : Run Tryd.prog 12 #[Value.agg cs_0.toArray, Value.slice A_1 n_1 c_1] h (scheme_Instance.post W h m r) := by
  unfold scheme_Instance at e
  subst ne_1
  refine f12.run ?_
  unfold f12.runT
  refine O.new fun h1 x2 O3 => ?_
  refine O3.new fun h5 x6 O7 => ?_
  obtain ⟨A9, c10, q11, k12, r13⟩ := T_scheme_Scheme.g0 e_0
  refine ⟨_, ld0 (Sub.refl _) (O7.all 0 rfl) q11, _, _, _, rfl, ?_⟩
  refine split_ne_e e (fun c35 e => ?_) (fun c35 e => ?_)
  · refine ⟨_, rfl, rfl, ?_⟩
    refine O7.stA 1 rfl rfl (Flats.cons trivial (Flats.cons trivial (Flats.cons trivial Flats.nil))) fun h14 O15 => ?_
    refine ⟨_, ldAn (Sub.refl _) (O15.all 1 rfl) rfl, ?_⟩
    have O16 := O15.nm
    cases e
    exact ⟨_, _, O16.pick [], rfl, (T_api_Type.iff.2 ⟨_, _, rfl, (by exact Nat.le_refl 0), Rd.nil⟩)⟩
  · refine ⟨_, ldAkn (Sub.refl _) (O7.all 0 rfl) 1 3 (le_len (T_scheme_Scheme.T.len _ _ _ e_0) (by decide)), ?_⟩
    obtain ⟨A17, c18, q19, k20, r21⟩ := T_scheme_Scheme.g0 e_0
    refine ⟨_, ld0 (Sub.refl _) (O7.all 0 rfl) q19, _, _, _, rfl, ?_⟩
    obtain ⟨y22, g23, e⟩ := bind_e e
    refine (kind_Put.walk (Hold.start (W := No) O7.s) (T_scheme_Scheme.u1_25 e_0) rfl k20 r21 rfl k_1 r_1 g23).mono ?_
    rintro _ h24 ⟨m25, cs29, Q26, rfl, he30⟩
    have O31 := Hold.nm (O7.ret Q26)
    refine ⟨_, rfl, (T_api_Type.T.len _ _ _ he30), ?_⟩
    refine O31.stA 1 rfl (T_api_Type.T.len _ _ _ he30) (T_api_Type.T.flat _ _ _ he30) fun h32 O33 => ?_
    refine ⟨_, ldAn (Sub.refl _) (O33.all 1 rfl) (T_api_Type.T.len _ _ _ he30), ?_⟩
    have O34 := O33.nm
    cases e
    exact ⟨_, _, O34.pick [], rfl, he30⟩
def roadref2_Swap.post (W : Nat → Prop) (h0 m0 : Heap) (r : T_api_Type) (v : Value) (h : Heap) : Prop := ∃ m cs0, Hold W h0 m0 h m [] ∧ v = .agg cs0.toArray ∧ T_api_Type.E m r cs0
inductive roadref2_Swap_k.Pt where
  | f (y_0 : T_api_Type) (a_1 : List ByteArray) (a_2 : List T_api_Type)
  | j1 (a_1 : List ByteArray) (a_2 : List T_api_Type) (y_3 : T_api_Type) (y_6 : T_api_Type) (x_7 : Int) (b_27 : Bool)
  | j0 (a_1 : List ByteArray) (a_2 : List T_api_Type) (y_3 : T_api_Type) (y_6 : T_api_Type)
  | l0 (a_1 : List ByteArray) (a_2 : List T_api_Type) (y_6 : T_api_Type) (x_8_0 : Int) (s_8_1 : ByteArray) (a_8_2 : (List T_api_Type)) (a_39 : List T_api_Type) (x_40 : Int) (x_41 : Int)
noncomputable def roadref2_Swap_k.body (go : (p : roadref2_Swap_k.Pt) → Option (T_api_Type)) : (p : roadref2_Swap_k.Pt) → Option (T_api_Type)
  | .f y_0 a_1 a_2 => Option.bind (slices_Index_33 a_1 y_0.Name) fun y9 => if y_0.Kind = (5 : Int) then (if y9 ≥ (0 : Int) then ((go (.j1 a_1 a_2 y_0 (T_api_Type.mk (0 : Int) (ByteArray.mk #[]) ([] : List T_api_Type)) y9 (decide (y9 < (((List.length a_2) : Nat) : Int)))))) else ((go (.j1 a_1 a_2 y_0 (T_api_Type.mk (0 : Int) (ByteArray.mk #[]) ([] : List T_api_Type)) y9 false)))) else ((go (.j1 a_1 a_2 y_0 (T_api_Type.mk (0 : Int) (ByteArray.mk #[]) ([] : List T_api_Type)) y9 false)))
  | .j1 a_1 a_2 y_3 y_6 x_7 b_27 => if b_27 = true then (Option.bind (gi a_2 x_7) fun y1 => Option.bind ((go (.f y1 ([] : List ByteArray) ([] : List T_api_Type)))) fun y8 => some (y8)) else ((go (.j0 a_1 a_2 y_3 y_6)))
  | .j0 a_1 a_2 y_3 y_6 => (go (.l0 a_1 a_2 y_6 y_3.Kind y_3.Name ([] : List T_api_Type) y_3.Args (((List.length y_3.Args) : Nat) : Int) (0 : Int)))
  | .l0 a_1 a_2 y_6 x_8_0 s_8_1 a_8_2 a_39 x_40 x_41 => if x_41 < x_40 then (Option.bind (gi a_39 x_41) fun y1 => Option.bind ((go (.f y1 a_1 a_2))) fun y14 => Option.bind (ap 48 a_8_2 ([y14] : List T_api_Type)) fun l29 => (go (.l0 a_1 a_2 y_6 x_8_0 s_8_1 l29 a_39 x_40 (IntKind.wrap .i64 (x_41 + (1 : Int)))))) else (some ((T_api_Type.mk x_8_0 s_8_1 a_8_2)))
theorem roadref2_Swap_k.mono : MonoF (β := fun _ => (T_api_Type)) roadref2_Swap_k.body := fun f g hfg p => match p with
  | .f y_0 a_1 a_2 => LeO.bind (LeO.refl _) fun y9 => LeO.ite (LeO.ite ((hfg _)) ((hfg _))) ((hfg _))
  | .j1 a_1 a_2 y_3 y_6 x_7 b_27 => LeO.ite (LeO.bind (LeO.refl _) fun y1 => LeO.bind ((hfg _)) fun y8 => LeO.refl _) ((hfg _))
  | .j0 a_1 a_2 y_3 y_6 => (hfg _)
  | .l0 a_1 a_2 y_6 x_8_0 s_8_1 a_8_2 a_39 x_40 x_41 => LeO.ite (LeO.bind (LeO.refl _) fun y1 => LeO.bind ((hfg _)) fun y14 => LeO.bind (LeO.refl _) fun l29 => (hfg _)) (LeO.refl _)
noncomputable def roadref2_Swap_k.go (p : roadref2_Swap_k.Pt) : Option (T_api_Type) := fixF (β := fun _ => (T_api_Type)) roadref2_Swap_k.body p
noncomputable def roadref2_Swap (y_0 : T_api_Type) (a_1 : List ByteArray) (a_2 : List T_api_Type) : Option (T_api_Type) := roadref2_Swap_k.go (.f y_0 a_1 a_2)
noncomputable def roadref2_Swap.j1 (a_1 : List ByteArray) (a_2 : List T_api_Type) (y_3 : T_api_Type) (y_6 : T_api_Type) (x_7 : Int) (b_27 : Bool) : Option (T_api_Type) := roadref2_Swap_k.go (.j1 a_1 a_2 y_3 y_6 x_7 b_27)
noncomputable def roadref2_Swap.j0 (a_1 : List ByteArray) (a_2 : List T_api_Type) (y_3 : T_api_Type) (y_6 : T_api_Type) : Option (T_api_Type) := roadref2_Swap_k.go (.j0 a_1 a_2 y_3 y_6)
noncomputable def roadref2_Swap.l0 (a_1 : List ByteArray) (a_2 : List T_api_Type) (y_6 : T_api_Type) (x_8_0 : Int) (s_8_1 : ByteArray) (a_8_2 : (List T_api_Type)) (a_39 : List T_api_Type) (x_40 : Int) (x_41 : Int) : Option (T_api_Type) := roadref2_Swap_k.go (.l0 a_1 a_2 y_6 x_8_0 s_8_1 a_8_2 a_39 x_40 x_41)
theorem roadref2_Swap_eq (y_0 : T_api_Type) (a_1 : List ByteArray) (a_2 : List T_api_Type) : roadref2_Swap y_0 a_1 a_2 = Option.bind (slices_Index_33 a_1 y_0.Name) fun y9 => if y_0.Kind = (5 : Int) then (if y9 ≥ (0 : Int) then ((roadref2_Swap.j1 a_1 a_2 y_0 (T_api_Type.mk (0 : Int) (ByteArray.mk #[]) ([] : List T_api_Type)) y9 (decide (y9 < (((List.length a_2) : Nat) : Int))))) else ((roadref2_Swap.j1 a_1 a_2 y_0 (T_api_Type.mk (0 : Int) (ByteArray.mk #[]) ([] : List T_api_Type)) y9 false))) else ((roadref2_Swap.j1 a_1 a_2 y_0 (T_api_Type.mk (0 : Int) (ByteArray.mk #[]) ([] : List T_api_Type)) y9 false)) := fixF_eq roadref2_Swap_k.mono _
theorem roadref2_Swap.j1_eq (a_1 : List ByteArray) (a_2 : List T_api_Type) (y_3 : T_api_Type) (y_6 : T_api_Type) (x_7 : Int) (b_27 : Bool) : roadref2_Swap.j1 a_1 a_2 y_3 y_6 x_7 b_27 = if b_27 = true then (Option.bind (gi a_2 x_7) fun y1 => Option.bind ((roadref2_Swap y1 ([] : List ByteArray) ([] : List T_api_Type))) fun y8 => some (y8)) else ((roadref2_Swap.j0 a_1 a_2 y_3 y_6)) := fixF_eq roadref2_Swap_k.mono _
theorem roadref2_Swap.j0_eq (a_1 : List ByteArray) (a_2 : List T_api_Type) (y_3 : T_api_Type) (y_6 : T_api_Type) : roadref2_Swap.j0 a_1 a_2 y_3 y_6 = (roadref2_Swap.l0 a_1 a_2 y_6 y_3.Kind y_3.Name ([] : List T_api_Type) y_3.Args (((List.length y_3.Args) : Nat) : Int) (0 : Int)) := fixF_eq roadref2_Swap_k.mono _
theorem roadref2_Swap.l0_eq (a_1 : List ByteArray) (a_2 : List T_api_Type) (y_6 : T_api_Type) (x_8_0 : Int) (s_8_1 : ByteArray) (a_8_2 : (List T_api_Type)) (a_39 : List T_api_Type) (x_40 : Int) (x_41 : Int) : roadref2_Swap.l0 a_1 a_2 y_6 x_8_0 s_8_1 a_8_2 a_39 x_40 x_41 = if x_41 < x_40 then (Option.bind (gi a_39 x_41) fun y1 => Option.bind ((roadref2_Swap y1 a_1 a_2)) fun y14 => Option.bind (ap 48 a_8_2 ([y14] : List T_api_Type)) fun l29 => (roadref2_Swap.l0 a_1 a_2 y_6 x_8_0 s_8_1 l29 a_39 x_40 (IntKind.wrap .i64 (x_41 + (1 : Int))))) else (some ((T_api_Type.mk x_8_0 s_8_1 a_8_2))) := fixF_eq roadref2_Swap_k.mono _
def roadref2_Swap_k.I : (p : roadref2_Swap_k.Pt) → (T_api_Type) → Prop
  | .f y_0 a_1 a_2, r => ∀ (W : Nat → Prop) (h m : Heap) (cs_0 : List Value) (A_1 : Option Addr) (n_1 c_1 : Nat) (A_2 : Option Addr) (n_2 c_2 : Nat) (O : Hold W h m h m []) (e_0 : T_api_Type.E m y_0 cs_0) (ne_1 : n_1 = List.length a_1) (k_1 : List.length a_1 ≤ c_1) (r_1 : Rd 1 eStr m A_1 a_1) (ne_2 : n_2 = List.length a_2) (k_2 : List.length a_2 ≤ c_2) (r_2 : Rd 3 T_api_Type.E m A_2 a_2), Run Tryd.prog 13 #[Value.agg cs_0.toArray, Value.slice A_1 n_1 c_1, Value.slice A_2 n_2 c_2] h (roadref2_Swap.post W h m r)
  | .j1 a_1 a_2 y_3 y_6 x_7 b_27, r => ∀ (W : Nat → Prop) (h0 m0 h m : Heap) (A_1 : Option Addr) (n_1 c_1 : Nat) (A_2 : Option Addr) (n_2 c_2 : Nat) (bk_3 : Nat) (cs_3 : List Value) (bk_6 : Nat) (cs_6 : List Value) (O : Hold W h0 m0 h m [rV bk_3 25 cs_3, rV bk_6 25 cs_6]) (ne_1 : n_1 = List.length a_1) (k_1 : List.length a_1 ≤ c_1) (r_1 : Rd 1 eStr m A_1 a_1) (ne_2 : n_2 = List.length a_2) (k_2 : List.length a_2 ≤ c_2) (r_2 : Rd 3 T_api_Type.E m A_2 a_2) (e_3 : T_api_Type.E m y_3 cs_3) (e_6 : T_api_Type.E m y_6 cs_6), f13.j1 (roadref2_Swap.post W h0 m0 r) A_1 n_1 c_1 A_2 n_2 c_2 (⟨bk_3, 0, none⟩ : Addr) (⟨bk_6, 0, none⟩ : Addr) x_7 b_27 h
  | .j0 a_1 a_2 y_3 y_6, r => ∀ (W : Nat → Prop) (h0 m0 h m : Heap) (A_1 : Option Addr) (n_1 c_1 : Nat) (A_2 : Option Addr) (n_2 c_2 : Nat) (bk_3 : Nat) (cs_3 : List Value) (bk_6 : Nat) (cs_6 : List Value) (O : Hold W h0 m0 h m [rV bk_3 25 cs_3, rV bk_6 25 cs_6]) (ne_1 : n_1 = List.length a_1) (k_1 : List.length a_1 ≤ c_1) (r_1 : Rd 1 eStr m A_1 a_1) (ne_2 : n_2 = List.length a_2) (k_2 : List.length a_2 ≤ c_2) (r_2 : Rd 3 T_api_Type.E m A_2 a_2) (e_3 : T_api_Type.E m y_3 cs_3) (e_6 : T_api_Type.E m y_6 cs_6), f13.j0 (roadref2_Swap.post W h0 m0 r) A_1 n_1 c_1 A_2 n_2 c_2 (⟨bk_3, 0, none⟩ : Addr) (⟨bk_6, 0, none⟩ : Addr) h
  | .l0 a_1 a_2 y_6 x_8_0 s_8_1 a_8_2 a_39 x_40 x_41, r => ∀ (W : Nat → Prop) (h0 m0 h m : Heap) (A_1 : Option Addr) (n_1 c_1 : Nat) (A_2 : Option Addr) (n_2 c_2 : Nat) (bk_6 : Nat) (cs_6 : List Value) (bk_8 : Nat) (A_8_2_0 : Option Addr) (n_8_2_0 : Nat) (c_8_2_0 : Nat) (A_39 : Option Addr) (n_39 c_39 : Nat) (O : Hold W h0 m0 h m [rV bk_6 25 cs_6, rV bk_8 25 [(Value.int .i64 x_8_0), (Value.string s_8_1), (Value.slice A_8_2_0 n_8_2_0 c_8_2_0)], rR (aE T_api_Type.T) A_8_2_0 c_8_2_0 a_8_2]) (ne_1 : n_1 = List.length a_1) (k_1 : List.length a_1 ≤ c_1) (r_1 : Rd 1 eStr m A_1 a_1) (ne_2 : n_2 = List.length a_2) (k_2 : List.length a_2 ≤ c_2) (r_2 : Rd 3 T_api_Type.E m A_2 a_2) (e_6 : T_api_Type.E m y_6 cs_6) (ne_8_2_0 : n_8_2_0 = List.length a_8_2) (ne_39 : n_39 = List.length a_39) (k_39 : List.length a_39 ≤ c_39) (r_39 : Rd 3 T_api_Type.E m A_39 a_39), f13.l0 (roadref2_Swap.post W h0 m0 r) A_1 n_1 c_1 A_2 n_2 c_2 (⟨bk_6, 0, none⟩ : Addr) (⟨bk_8, 0, none⟩ : Addr) A_39 n_39 c_39 x_40 x_41 h
set_option maxRecDepth 100000 in
theorem roadref2_Swap_k.step_f (go : (p : roadref2_Swap_k.Pt) → Option (T_api_Type)) (ih : ∀ p r, go p = some r → roadref2_Swap_k.I p r) (y_0 : T_api_Type) (a_1 : List ByteArray) (a_2 : List T_api_Type) (r : T_api_Type) (e : roadref2_Swap_k.body go (.f y_0 a_1 a_2) = some r) : roadref2_Swap_k.I (.f y_0 a_1 a_2) r := by
  unfold roadref2_Swap_k.body at e
  intro W h m cs_0 A_1 n_1 c_1 A_2 n_2 c_2 O e_0 ne_1 k_1 r_1 ne_2 k_2 r_2
  subst ne_1
  subst ne_2
  refine f13.run ?_
  unfold f13.runT
  refine O.new fun h1 x2 O3 => ?_
  refine O3.new fun h5 x6 O7 => ?_
  refine ⟨_, ldk (k := 1) (Sub.refl _) (O7.all 0 rfl) (T_api_Type.g1 e_0), _, rfl, ?_⟩
  obtain ⟨y9, g10, e⟩ := bind_e e
  refine (slices_Index_33.walk (Hold.start (W := No) O7.s) rfl k_1 r_1 g10).mono ?_
  rintro _ h11 ⟨m12, Q13, rfl⟩
  have O15 := Hold.nm (O7.retC Q13 vfs_nil)
  refine ⟨_, rfl, ?_⟩
  refine ⟨_, ld0 (Sub.refl _) (O15.all 0 rfl) (T_api_Type.g0 e_0), _, rfl, ?_⟩
  refine split_eq_e e (fun c17 e => ?_) (fun c17 e => ?_)
  · refine split_dec_e e (fun c16 e => ?_) (fun c16 e => ?_)
    · exact (ih _ _ e) _ _ _ _ _ _ _ _ _ _ _ _ _ _ _ (O15.pick [0, 1]).nm rfl k_1 r_1 rfl k_2 r_2 e_0 (T_api_Type.iff.2 ⟨_, _, rfl, (by exact Nat.le_refl 0), Rd.nil⟩)
    · exact (ih _ _ e) _ _ _ _ _ _ _ _ _ _ _ _ _ _ _ (O15.pick [0, 1]).nm rfl k_1 r_1 rfl k_2 r_2 e_0 (T_api_Type.iff.2 ⟨_, _, rfl, (by exact Nat.le_refl 0), Rd.nil⟩)
  · exact (ih _ _ e) _ _ _ _ _ _ _ _ _ _ _ _ _ _ _ (O15.pick [0, 1]).nm rfl k_1 r_1 rfl k_2 r_2 e_0 (T_api_Type.iff.2 ⟨_, _, rfl, (by exact Nat.le_refl 0), Rd.nil⟩)
set_option maxRecDepth 100000 in
theorem roadref2_Swap_k.step_j1 (go : (p : roadref2_Swap_k.Pt) → Option (T_api_Type)) (ih : ∀ p r, go p = some r → roadref2_Swap_k.I p r) (a_1 : List ByteArray) (a_2 : List T_api_Type) (y_3 : T_api_Type) (y_6 : T_api_Type) (x_7 : Int) (b_27 : Bool) (r : T_api_Type) (e : roadref2_Swap_k.body go (.j1 a_1 a_2 y_3 y_6 x_7 b_27) = some r) : roadref2_Swap_k.I (.j1 a_1 a_2 y_3 y_6 x_7 b_27) r := by
  unfold roadref2_Swap_k.body at e
  intro W h0 m0 h m A_1 n_1 c_1 A_2 n_2 c_2 bk_3 cs_3 bk_6 cs_6 O ne_1 k_1 r_1 ne_2 k_2 r_2 e_3 e_6
  subst ne_1
  subst ne_2
  refine f13.j1_in ?_
  unfold f13.j1T
  refine split_any_e e (fun c21 e => ?_) (fun c21 e => ?_)
  · obtain ⟨y1, g2, e⟩ := bind_e e
    refine r_2.addr rfl g2 fun a3 cs4 ha5 hc6 he7 => ?_
    refine ⟨_, ldAn O.s hc6 rfl, ?_⟩
    obtain ⟨y8, g9, e⟩ := bind_e e
    refine ((ih _ _ g9) _ _ _ _ _ _ _ _ _ _ (Hold.start (W := No) O.s) he7 rfl (by exact Nat.le_refl 0) Rd.nil rfl (by exact Nat.le_refl 0) Rd.nil).mono ?_
    rintro _ h10 ⟨m11, cs15, Q12, rfl, he16⟩
    have O17 := Hold.nm (O.ret Q12)
    refine ⟨_, rfl, (T_api_Type.T.len _ _ _ he16), ?_⟩
    refine O17.stA 1 rfl ((T_api_Type.T.len _ _ _ he16).trans ((T_api_Type.T.len _ _ _ e_6)).symm) (T_api_Type.T.flat _ _ _ he16) fun h18 O19 => ?_
    refine ⟨_, ldAn (Sub.refl _) (O19.all 1 rfl) (T_api_Type.T.len _ _ _ he16), ?_⟩
    have O20 := O19.nm
    cases e
    exact ⟨_, _, O20.pick [], rfl, he16⟩
  · exact (ih _ _ e) _ _ _ _ _ _ _ _ _ _ _ _ _ _ _ (O.pick [0, 1]).nm rfl k_1 r_1 rfl k_2 r_2 e_3 e_6
set_option maxRecDepth 100000 in
theorem roadref2_Swap_k.step_j0 (go : (p : roadref2_Swap_k.Pt) → Option (T_api_Type)) (ih : ∀ p r, go p = some r → roadref2_Swap_k.I p r) (a_1 : List ByteArray) (a_2 : List T_api_Type) (y_3 : T_api_Type) (y_6 : T_api_Type) (r : T_api_Type) (e : roadref2_Swap_k.body go (.j0 a_1 a_2 y_3 y_6) = some r) : roadref2_Swap_k.I (.j0 a_1 a_2 y_3 y_6) r := by
  unfold roadref2_Swap_k.body at e
  intro W h0 m0 h m A_1 n_1 c_1 A_2 n_2 c_2 bk_3 cs_3 bk_6 cs_6 O ne_1 k_1 r_1 ne_2 k_2 r_2 e_3 e_6
  subst ne_1
  subst ne_2
  refine f13.j0_in ?_
  unfold f13.j0T
  refine ⟨_, ld0 (Sub.refl _) (O.all 0 rfl) (T_api_Type.g0 e_3), _, rfl, ?_⟩
  refine ⟨_, ldk (k := 1) (Sub.refl _) (O.all 0 rfl) (T_api_Type.g1 e_3), _, rfl, ?_⟩
  refine O.new fun h1 x2 O3 => ?_
  refine ⟨_, rfl, rfl, ?_⟩
  refine O3.stA 2 rfl rfl (Flats.cons trivial (Flats.cons trivial (Flats.cons trivial Flats.nil))) fun h5 O6 => ?_
  obtain ⟨A7, c8, q9, k10, r11⟩ := T_api_Type.g2 e_3
  refine ⟨_, ldk (k := 2) (Sub.refl _) (O6.all 0 rfl) q9, _, _, _, rfl, ?_⟩
  have O12 := O6.nil (aE T_api_Type.T) none
  have O14 := O12.nm
  exact (ih _ _ e) _ _ _ _ _ _ _ _ _ _ _ _ _ _ _ _ _ _ _ _ (O14.pick [1, 2, 3]).nm rfl k_1 r_1 rfl k_2 r_2 e_6 rfl rfl k10 r11
set_option maxHeartbeats 4000000 in
set_option maxRecDepth 100000 in
theorem roadref2_Swap_k.step_l0 (go : (p : roadref2_Swap_k.Pt) → Option (T_api_Type)) (ih : ∀ p r, go p = some r → roadref2_Swap_k.I p r) (a_1 : List ByteArray) (a_2 : List T_api_Type) (y_6 : T_api_Type) (x_8_0 : Int) (s_8_1 : ByteArray) (a_8_2 : (List T_api_Type)) (a_39 : List T_api_Type) (x_40 : Int) (x_41 : Int) (r : T_api_Type) (e : roadref2_Swap_k.body go (.l0 a_1 a_2 y_6 x_8_0 s_8_1 a_8_2 a_39 x_40 x_41) = some r) : roadref2_Swap_k.I (.l0 a_1 a_2 y_6 x_8_0 s_8_1 a_8_2 a_39 x_40 x_41) r := by
  unfold roadref2_Swap_k.body at e
  intro W h0 m0 h m A_1 n_1 c_1 A_2 n_2 c_2 bk_6 cs_6 bk_8 A_8_2_0 n_8_2_0 c_8_2_0 A_39 n_39 c_39 O ne_1 k_1 r_1 ne_2 k_2 r_2 e_6 ne_8_2_0 ne_39 k_39 r_39
  subst ne_1
  subst ne_2
  subst ne_8_2_0
  subst ne_39
  refine f13.l0_in ?_
  unfold f13.l0T
  refine split_dec_e e (fun c49 e => ?_) (fun c49 e => ?_)
  · obtain ⟨y1, g2, e⟩ := bind_e e
    refine r_39.addr rfl g2 fun a3 cs4 ha5 hc6 he7 => ?_
    refine ⟨_, ldAn O.s hc6 rfl, ?_⟩
    refine O.new fun h8 x9 O10 => ?_
    refine ⟨_, rfl, (T_api_Type.T.len _ _ _ he7), ?_⟩
    refine O10.stA 3 rfl (T_api_Type.T.len _ _ _ he7) (T_api_Type.T.flat _ _ _ he7) fun h12 O13 => ?_
    refine ⟨_, ldk (k := 2) (Sub.refl _) (O13.all 1 rfl) rfl, _, _, _, rfl, ?_⟩
    refine ⟨_, ldAn (Sub.refl _) (O13.all 3 rfl) (T_api_Type.T.len _ _ _ he7), ?_⟩
    obtain ⟨y14, g15, e⟩ := bind_e e
    refine ((ih _ _ g15) _ _ _ _ _ _ _ _ _ _ (Hold.start (W := No) O13.s) he7 rfl k_1 r_1 rfl k_2 r_2).mono ?_
    rintro _ h16 ⟨m17, cs21, Q18, rfl, he22⟩
    have O23 := Hold.nm (O13.ret Q18)
    refine ⟨Q18.S.ext, ?_⟩
    refine ⟨cs21, rfl, (T_api_Type.T.len _ _ _ he22), ?_⟩
    refine O23.new fun h24 x25 O26 => ?_
    have O28 := O26.recell 4 rfl (cs' := cs21 ++ []) rfl
    refine ⟨x25, ?_⟩
    obtain ⟨l29, g30, e⟩ := bind_e e
    have O37 := O28.rowE (l := ([y14] : List T_api_Type)) 4 rfl T_api_Type.T (show CsE _ _ _ _ _ from (CsE.cons he22 (T_api_Type.T.len _ _ _ he22) CsE.nil)) rfl
    refine O37.app 2 rfl rfl rfl ((O37.os 4 rfl).srcE rfl) (by decide) g30 fun A31 c32 h33 O34 => ?_
    refine ⟨_, _, _, rfl, ?_⟩
    refine O34.st 1 rfl 2 (Nat.le_of_ble_eq_true rfl) trivial fun h38 O39 => ?_
    have O40 := O39.nm
    exact (ih _ _ e) _ _ _ _ _ _ _ _ _ _ _ _ _ _ _ _ _ _ _ _ (O40.pick [0, 1, 2]).nm rfl k_1 (r_1.sub tell_str Q18.S.up) rfl k_2 (r_2.sub T_api_Type.T Q18.S.up) (T_api_Type.T.mono _ _ _ _ Q18.S.up e_6) rfl rfl k_39 (r_39.sub T_api_Type.T Q18.S.up)
  · refine ⟨_, ldAn (Sub.refl _) (O.all 1 rfl) rfl, ?_⟩
    refine ⟨_, rfl, rfl, ?_⟩
    refine O.stA 0 rfl ((T_api_Type.T.len _ _ _ e_6)).symm (Flats.cons trivial (Flats.cons trivial (Flats.cons trivial Flats.nil))) fun h41 O42 => ?_
    refine ⟨_, ldAn (Sub.refl _) (O42.all 0 rfl) rfl, ?_⟩
    obtain ⟨m43, u44, ⟨r45, k46⟩, O47⟩ := O42.frz 2 rfl
    replace r45 : Rd 3 T_api_Type.E m43 A_8_2_0 a_8_2 := r45
    have O48 := O47.nm
    cases e
    exact ⟨_, _, O48.pick [], rfl, (T_api_Type.iff.2 ⟨_, _, rfl, k46, r45⟩)⟩
theorem roadref2_Swap_k.all {p : roadref2_Swap_k.Pt} {r : (T_api_Type)} (e : roadref2_Swap_k.go p = some r) : roadref2_Swap_k.I p r := fixF_ind (β := fun _ => (T_api_Type)) roadref2_Swap_k.mono (I := roadref2_Swap_k.I) (fun go ih p r e => match p with
  | .f y_0 a_1 a_2 => roadref2_Swap_k.step_f go ih y_0 a_1 a_2 r e
  | .j1 a_1 a_2 y_3 y_6 x_7 b_27 => roadref2_Swap_k.step_j1 go ih a_1 a_2 y_3 y_6 x_7 b_27 r e
  | .j0 a_1 a_2 y_3 y_6 => roadref2_Swap_k.step_j0 go ih a_1 a_2 y_3 y_6 r e
  | .l0 a_1 a_2 y_6 x_8_0 s_8_1 a_8_2 a_39 x_40 x_41 => roadref2_Swap_k.step_l0 go ih a_1 a_2 y_6 x_8_0 s_8_1 a_8_2 a_39 x_40 x_41 r e
  ) e
theorem roadref2_Swap.walk {W : Nat → Prop} {h m : Heap} {cs_0 : List Value} {A_1 : Option Addr} {n_1 c_1 : Nat} {A_2 : Option Addr} {n_2 c_2 : Nat} {y_0 : T_api_Type} {a_1 : List ByteArray} {a_2 : List T_api_Type} (O : Hold W h m h m []) (e_0 : T_api_Type.E m y_0 cs_0) (ne_1 : n_1 = List.length a_1) (k_1 : List.length a_1 ≤ c_1) (r_1 : Rd 1 eStr m A_1 a_1) (ne_2 : n_2 = List.length a_2) (k_2 : List.length a_2 ≤ c_2) (r_2 : Rd 3 T_api_Type.E m A_2 a_2) {r : T_api_Type} (e : roadref2_Swap y_0 a_1 a_2 = some r) : Run Tryd.prog 13 #[Value.agg cs_0.toArray, Value.slice A_1 n_1 c_1, Value.slice A_2 n_2 c_2] h (roadref2_Swap.post W h m r) := roadref2_Swap_k.all (p := .f y_0 a_1 a_2) e W h m cs_0 A_1 n_1 c_1 A_2 n_2 c_2 O e_0 ne_1 k_1 r_1 ne_2 k_2 r_2
def roadref2_Rest.post (W : Nat → Prop) (h0 m0 : Heap) (r : Int) (v : Value) (h : Heap) : Prop := ∃ m , Hold W h0 m0 h m [] ∧ v = .int .i64 r
noncomputable def roadref2_Rest (x_0 : Int) (x_1 : Int) : Option (Int) :=
  if x_1 ≠ 0 then (if (Int.tmod x_0 x_1) < (0 : Int) then (some ((IntKind.wrap .i64 ((Int.tmod x_0 x_1) + x_1)))) else (some ((Int.tmod x_0 x_1)))) else none
set_option maxRecDepth 100000 in
theorem roadref2_Rest.walk {W : Nat → Prop} {h m : Heap} {x_0 : Int} {x_1 : Int} (O : Hold W h m h m []) {r : Int} (e : roadref2_Rest x_0 x_1 = some r) : Run Tryd.prog 14 #[Value.int .i64 x_0, Value.int .i64 x_1] h (roadref2_Rest.post W h m r) := by
  unfold roadref2_Rest at e
  refine f14.run ?_
  unfold f14.runT
  obtain ⟨g1, e⟩ := guard_e e
  refine ⟨g1, ?_⟩
  refine split_dec_e e (fun c2 e => ?_) (fun c2 e => ?_)
  · cases e
    exact ⟨_, O.pick [], rfl⟩
  · cases e
    exact ⟨_, O.pick [], rfl⟩
def scheme_Name.post (W : Nat → Prop) (h0 m0 : Heap) (r : ByteArray) (v : Value) (h : Heap) : Prop := ∃ m , Hold W h0 m0 h m [] ∧ v = .string r
noncomputable def scheme_Name (x_0 : Int) : Option (ByteArray) :=
  Option.bind (strconv_Itoa x_0) fun y1 => if ByteArray.size (ByteArray.mk #[63]) + ByteArray.size y1 ≤ 9223372036854775807 then (some (((ByteArray.mk #[63]) ++ y1))) else none
set_option maxRecDepth 100000 in
theorem scheme_Name.walk {W : Nat → Prop} {h m : Heap} {x_0 : Int} (O : Hold W h m h m []) (tab : TB m) {r : ByteArray} (e : scheme_Name x_0 = some r) : Run Tryd.prog 17 #[Value.int .i64 x_0] h (scheme_Name.post W h m r) := by
  unfold scheme_Name at e
  refine f17.run ?_
  unfold f17.runT
  obtain ⟨y1, g2, e⟩ := bind_e e
  refine (strconv_Itoa.walk (Hold.start (W := No) O.s) tab g2).mono ?_
  rintro _ h3 ⟨m4, Q5, rfl⟩
  have O7 := Hold.nm (O.retC Q5 vfs_nil)
  refine ⟨_, rfl, ?_⟩
  obtain ⟨g8, e⟩ := guard_e e
  refine ⟨g8, ?_⟩
  cases e
  exact ⟨_, O7.pick [], rfl⟩
def scheme_Fresh.post (W : Nat → Prop) (h0 m0 : Heap) (r : T_api_Type × Int) (v : Value) (h : Heap) : Prop := ∃ m cs0, Hold W h0 m0 h m [] ∧ v = .tuple #[.agg cs0.toArray, .int .i64 r.2] ∧ T_api_Type.E m r.1 cs0
inductive scheme_Fresh.l0_k.Pt where
  | l0 (x_1 : Int) (y_2 : T_scheme_Scheme) (y_4 : T_api_Type) (a_6 : List T_api_Type) (x_10 : Int) (x_11 : Int)
noncomputable def scheme_Fresh.l0_k.body (go : (p : scheme_Fresh.l0_k.Pt) → Option (T_api_Type × Int)) : (p : scheme_Fresh.l0_k.Pt) → Option (T_api_Type × Int)
  | .l0 x_1 y_2 y_4 a_6 x_10 x_11 => if x_11 < x_10 then (Option.bind (scheme_Name (IntKind.wrap .i64 (x_1 + x_11))) fun y1 => Option.bind (ap 48 a_6 ([(T_api_Type.mk (5 : Int) y1 ([] : List T_api_Type))] : List T_api_Type)) fun l12 => (go (.l0 x_1 y_2 y_4 l12 x_10 (IntKind.wrap .i64 (x_11 + (1 : Int)))))) else (Option.bind (kind_Put y_2.Type_ y_2.Params a_6) fun y27 => some (y27, (IntKind.wrap .i64 (x_1 + (((List.length y_2.Params) : Nat) : Int)))))
theorem scheme_Fresh.l0_k.mono : MonoF (β := fun _ => (T_api_Type × Int)) scheme_Fresh.l0_k.body := fun f g hfg p => match p with
  | .l0 x_1 y_2 y_4 a_6 x_10 x_11 => LeO.ite (LeO.bind (LeO.refl _) fun y1 => LeO.bind (LeO.refl _) fun l12 => (hfg _)) (LeO.bind (LeO.refl _) fun y27 => LeO.refl _)
noncomputable def scheme_Fresh.l0_k.go (p : scheme_Fresh.l0_k.Pt) : Option (T_api_Type × Int) := fixF (β := fun _ => (T_api_Type × Int)) scheme_Fresh.l0_k.body p
noncomputable def scheme_Fresh.l0 (x_1 : Int) (y_2 : T_scheme_Scheme) (y_4 : T_api_Type) (a_6 : List T_api_Type) (x_10 : Int) (x_11 : Int) : Option (T_api_Type × Int) := scheme_Fresh.l0_k.go (.l0 x_1 y_2 y_4 a_6 x_10 x_11)
theorem scheme_Fresh.l0_eq (x_1 : Int) (y_2 : T_scheme_Scheme) (y_4 : T_api_Type) (a_6 : List T_api_Type) (x_10 : Int) (x_11 : Int) : scheme_Fresh.l0 x_1 y_2 y_4 a_6 x_10 x_11 = if x_11 < x_10 then (Option.bind (scheme_Name (IntKind.wrap .i64 (x_1 + x_11))) fun y1 => Option.bind (ap 48 a_6 ([(T_api_Type.mk (5 : Int) y1 ([] : List T_api_Type))] : List T_api_Type)) fun l12 => (scheme_Fresh.l0 x_1 y_2 y_4 l12 x_10 (IntKind.wrap .i64 (x_11 + (1 : Int))))) else (Option.bind (kind_Put y_2.Type_ y_2.Params a_6) fun y27 => some (y27, (IntKind.wrap .i64 (x_1 + (((List.length y_2.Params) : Nat) : Int))))) := fixF_eq scheme_Fresh.l0_k.mono _
def scheme_Fresh.l0_k.I : (p : scheme_Fresh.l0_k.Pt) → (T_api_Type × Int) → Prop
  | .l0 x_1 y_2 y_4 a_6 x_10 x_11, r => ∀ (W : Nat → Prop) (h0 m0 h m : Heap) (bk_2 : Nat) (cs_2 : List Value) (bk_4 : Nat) (cs_4 : List Value) (A_6 : Option Addr) (n_6 c_6 : Nat) (O : Hold W h0 m0 h m [rV bk_2 27 cs_2, rV bk_4 25 cs_4, rR (aE T_api_Type.T) A_6 c_6 a_6]) (e_2 : T_scheme_Scheme.E m y_2 cs_2) (e_4 : T_api_Type.E m y_4 cs_4) (ne_6 : n_6 = List.length a_6) (tab : TB m), f15.l0 (scheme_Fresh.post W h0 m0 r) x_1 (⟨bk_2, 0, none⟩ : Addr) (⟨bk_4, 0, none⟩ : Addr) A_6 n_6 c_6 x_10 x_11 h
set_option maxHeartbeats 4000000 in
set_option maxRecDepth 100000 in
theorem scheme_Fresh.l0_k.step_l0 (go : (p : scheme_Fresh.l0_k.Pt) → Option (T_api_Type × Int)) (ih : ∀ p r, go p = some r → scheme_Fresh.l0_k.I p r) (x_1 : Int) (y_2 : T_scheme_Scheme) (y_4 : T_api_Type) (a_6 : List T_api_Type) (x_10 : Int) (x_11 : Int) (r : T_api_Type × Int) (e : scheme_Fresh.l0_k.body go (.l0 x_1 y_2 y_4 a_6 x_10 x_11) = some r) : scheme_Fresh.l0_k.I (.l0 x_1 y_2 y_4 a_6 x_10 x_11) r := by
  unfold scheme_Fresh.l0_k.body at e
  intro W h0 m0 h m bk_2 cs_2 bk_4 cs_4 A_6 n_6 c_6 O e_2 e_4 ne_6 tab
  subst ne_6
  refine f15.l0_in ?_
  unfold f15.l0T
  refine split_dec_e e (fun c110 e => ?_) (fun c110 e => ?_)
  · obtain ⟨y1, g2, e⟩ := bind_e e
    refine (scheme_Name.walk (Hold.start (W := No) O.s) tab g2).mono ?_
    rintro _ h3 ⟨m4, Q5, rfl⟩
    have O7 := Hold.nm (O.retC Q5 vfs_nil)
    refine ⟨_, rfl, ?_⟩
    refine ⟨[(Value.int .i64 (5 : Int)), (Value.string y1), (Value.slice none 0 0)], rfl, rfl, ?_⟩
    refine O7.new fun h8 x9 O10 => ?_
    obtain ⟨l12, g13, e⟩ := bind_e e
    have O20 := O10.rowE (l := ([(T_api_Type.mk (5 : Int) y1 ([] : List T_api_Type))] : List T_api_Type)) 3 rfl T_api_Type.T (show CsE _ _ _ _ _ from (CsE.cons (c1 := [(Value.int .i64 (5 : Int)), (Value.string y1), (Value.slice none 0 0)]) (T_api_Type.iff.2 ⟨_, _, rfl, (by exact Nat.le_refl 0), Rd.nil⟩) rfl CsE.nil)) rfl
    refine O20.app 2 rfl rfl rfl ((O20.os 3 rfl).srcE rfl) (by decide) g13 fun A14 c15 h16 O17 => ?_
    refine ⟨_, _, _, rfl, ?_⟩
    have O21 := O17.nm
    exact (ih _ _ e) _ _ _ _ _ _ _ _ _ _ _ _ (O21.pick [0, 1, 2]).nm e_2 e_4 rfl tab
  · refine ⟨_, ldAkn (Sub.refl _) (O.all 0 rfl) 1 3 (le_len (T_scheme_Scheme.T.len _ _ _ e_2) (by decide)), ?_⟩
    obtain ⟨A22, c23, q24, k25, r26⟩ := T_scheme_Scheme.g0 e_2
    refine ⟨_, ld0 (Sub.refl _) (O.all 0 rfl) q24, _, _, _, rfl, ?_⟩
    obtain ⟨y27, g28, e⟩ := bind_e e
    refine ⟨?_, ?_⟩
    · obtain ⟨m58, u59, s64, ⟨⟨r62, k63⟩, _⟩, B60, C61⟩ := O.lend0 [2]
      replace r62 : Rd 3 T_api_Type.E m58 A_6 a_6 := r62
      replace k63 : List.length a_6 ≤ c_6 := k63
      refine (kind_Put.walk (Hold.start (W := No) s64) (T_api_Type.T.mono _ _ _ _ u59 (T_scheme_Scheme.u1_25 e_2)) rfl k25 (r26.sub tell_str u59) rfl k63 r62 g28).mono ?_
      rintro _ h54 ⟨m55, cs66, Q56, rfl, he67⟩
      have O68 := Hold.nm (B60 Q56)
      refine ⟨?_, ?_⟩
      · obtain ⟨A69, c70, q71, k72, r73⟩ := T_scheme_Scheme.g0 e_2
        refine ⟨_, ld0 (Sub.refl _) (O68.all 0 rfl) q71, _, _, _, rfl, ?_⟩
        refine ⟨Ext.refl _, ?_⟩
        refine ⟨_, rfl, (T_api_Type.T.len _ _ _ he67), ?_⟩
        refine O68.stA 1 rfl ((T_api_Type.T.len _ _ _ he67).trans ((T_api_Type.T.len _ _ _ e_4)).symm) (T_api_Type.T.flat _ _ _ he67) fun h74 O75 => ?_
        refine ⟨_, ldAn (Sub.refl _) (O75.all 1 rfl) (T_api_Type.T.len _ _ _ he67), ?_⟩
        have O76 := O75.nm
        cases e
        exact ⟨_, _, O76.pick [], rfl, he67⟩
      · refine ⟨_, rfl, (T_api_Type.T.len _ _ _ he67), ?_⟩
        refine O68.stA 1 rfl ((T_api_Type.T.len _ _ _ he67).trans ((T_api_Type.T.len _ _ _ e_4)).symm) (T_api_Type.T.flat _ _ _ he67) fun h77 O78 => ?_
        obtain ⟨A79, c80, q81, k82, r83⟩ := T_scheme_Scheme.g0 e_2
        refine ⟨_, ld0 (Sub.refl _) (O78.all 0 rfl) q81, _, _, _, rfl, ?_⟩
        refine ⟨Ext.refl _, ?_⟩
        refine ⟨_, ldAn (Sub.refl _) (O78.all 1 rfl) (T_api_Type.T.len _ _ _ he67), ?_⟩
        have O84 := O78.nm
        cases e
        exact ⟨_, _, O84.pick [], rfl, he67⟩
    · obtain ⟨A85, c86, q87, k88, r89⟩ := T_scheme_Scheme.g0 e_2
      refine ⟨_, ld0 (Sub.refl _) (O.all 0 rfl) q87, _, _, _, rfl, ?_⟩
      refine ⟨Ext.refl _, ?_⟩
      obtain ⟨m96, u97, s102, ⟨⟨r100, k101⟩, _⟩, B98, C99⟩ := O.lend0 [2]
      replace r100 : Rd 3 T_api_Type.E m96 A_6 a_6 := r100
      replace k101 : List.length a_6 ≤ c_6 := k101
      refine (kind_Put.walk (Hold.start (W := No) s102) (T_api_Type.T.mono _ _ _ _ u97 (T_scheme_Scheme.u1_25 e_2)) rfl k25 (r26.sub tell_str u97) rfl k101 r100 g28).mono ?_
      rintro _ h92 ⟨m93, cs104, Q94, rfl, he105⟩
      have O106 := Hold.nm (B98 Q94)
      refine ⟨_, rfl, (T_api_Type.T.len _ _ _ he105), ?_⟩
      refine O106.stA 1 rfl ((T_api_Type.T.len _ _ _ he105).trans ((T_api_Type.T.len _ _ _ e_4)).symm) (T_api_Type.T.flat _ _ _ he105) fun h107 O108 => ?_
      refine ⟨_, ldAn (Sub.refl _) (O108.all 1 rfl) (T_api_Type.T.len _ _ _ he105), ?_⟩
      have O109 := O108.nm
      cases e
      exact ⟨_, _, O109.pick [], rfl, he105⟩
theorem scheme_Fresh.l0_k.all {p : scheme_Fresh.l0_k.Pt} {r : (T_api_Type × Int)} (e : scheme_Fresh.l0_k.go p = some r) : scheme_Fresh.l0_k.I p r := fixF_ind (β := fun _ => (T_api_Type × Int)) scheme_Fresh.l0_k.mono (I := scheme_Fresh.l0_k.I) (fun go ih p r e => match p with
  | .l0 x_1 y_2 y_4 a_6 x_10 x_11 => scheme_Fresh.l0_k.step_l0 go ih x_1 y_2 y_4 a_6 x_10 x_11 r e
  ) e
theorem scheme_Fresh.l0.walk {W : Nat → Prop} {h0 m0 h m : Heap} {bk_2 : Nat} {cs_2 : List Value} {bk_4 : Nat} {cs_4 : List Value} {A_6 : Option Addr} {n_6 c_6 : Nat} {x_1 : Int} {y_2 : T_scheme_Scheme} {y_4 : T_api_Type} {a_6 : List T_api_Type} {x_10 : Int} {x_11 : Int} (O : Hold W h0 m0 h m [rV bk_2 27 cs_2, rV bk_4 25 cs_4, rR (aE T_api_Type.T) A_6 c_6 a_6]) (e_2 : T_scheme_Scheme.E m y_2 cs_2) (e_4 : T_api_Type.E m y_4 cs_4) (ne_6 : n_6 = List.length a_6) (tab : TB m) {r : T_api_Type × Int} (e : scheme_Fresh.l0 x_1 y_2 y_4 a_6 x_10 x_11 = some r) : f15.l0 (scheme_Fresh.post W h0 m0 r) x_1 (⟨bk_2, 0, none⟩ : Addr) (⟨bk_4, 0, none⟩ : Addr) A_6 n_6 c_6 x_10 x_11 h := scheme_Fresh.l0_k.all (p := .l0 x_1 y_2 y_4 a_6 x_10 x_11) e W h0 m0 h m bk_2 cs_2 bk_4 cs_4 A_6 n_6 c_6 O e_2 e_4 ne_6 tab
noncomputable def scheme_Fresh (y_0 : T_scheme_Scheme) (x_1 : Int) : Option (T_api_Type × Int) :=
  (scheme_Fresh.l0 x_1 y_0 (T_api_Type.mk (0 : Int) (ByteArray.mk #[]) ([] : List T_api_Type)) ([] : List T_api_Type) (((List.length y_0.Params) : Nat) : Int) (0 : Int))
set_option maxRecDepth 100000 in
theorem scheme_Fresh.walk {W : Nat → Prop} {h m : Heap} {cs_0 : List Value} {y_0 : T_scheme_Scheme} {x_1 : Int} (O : Hold W h m h m []) (e_0 : T_scheme_Scheme.E m y_0 cs_0) (tab : TB m) {r : T_api_Type × Int} (e : scheme_Fresh y_0 x_1 = some r) : Run Tryd.prog 15 #[Value.agg cs_0.toArray, Value.int .i64 x_1] h (scheme_Fresh.post W h m r) := by
  unfold scheme_Fresh at e
  refine f15.run ?_
  unfold f15.runT
  refine O.new fun h1 x2 O3 => ?_
  refine O3.new fun h5 x6 O7 => ?_
  obtain ⟨A9, c10, q11, k12, r13⟩ := T_scheme_Scheme.g0 e_0
  refine ⟨_, ld0 (Sub.refl _) (O7.all 0 rfl) q11, _, _, _, rfl, ?_⟩
  have O14 := O7.nil (aE T_api_Type.T) none
  have O16 := O14.nm
  exact scheme_Fresh.l0.walk (O16.pick [0, 1, 2]).nm e_0 (T_api_Type.iff.2 ⟨_, _, rfl, (by exact Nat.le_refl 0), Rd.nil⟩) rfl tab e
def slices_EqualFunc_65_s1.post (W : Nat → Prop) (h0 m0 : Heap) (r : Bool) (v : Value) (h : Heap) : Prop := ∃ m , Hold W h0 m0 h m [] ∧ v = .bool r
def tree_SameType.post (W : Nat → Prop) (h0 m0 : Heap) (r : Bool) (v : Value) (h : Heap) : Prop := ∃ m , Hold W h0 m0 h m [] ∧ v = .bool r
inductive tree_SameType_k.Pt where
  | f_52 (y_0 : T_api_Type) (y_1 : T_api_Type)
  | f_1000000 (a_0 : List T_api_Type) (a_1 : List T_api_Type)
  | l0_1000000 (a_1 : List T_api_Type) (a_15 : List T_api_Type) (x_16 : Int) (x_17 : Int)
noncomputable def tree_SameType_k.body (go : (p : tree_SameType_k.Pt) → Option (Bool)) : (p : tree_SameType_k.Pt) → Option (Bool)
  | .f_52 y_0 y_1 => if y_0.Kind = y_1.Kind then (if y_0.Name = y_1.Name then (Option.bind ((go (.f_1000000 y_0.Args y_1.Args))) fun y19 => some (y19)) else (some (false))) else (some (false))
  | .f_1000000 a_0 a_1 => if (((List.length a_0) : Nat) : Int) = (((List.length a_1) : Nat) : Int) then ((go (.l0_1000000 a_1 a_0 (((List.length a_0) : Nat) : Int) (0 : Int)))) else (some (false))
  | .l0_1000000 a_1 a_15 x_16 x_17 => if x_17 < x_16 then (Option.bind (gi a_15 x_17) fun y1 => Option.bind (gi a_1 x_17) fun y14 => Option.bind ((go (.f_52 y1 y14))) fun y27 => if y27 = true then ((go (.l0_1000000 a_1 a_15 x_16 (IntKind.wrap .i64 (x_17 + (1 : Int)))))) else (some (false))) else (some (true))
theorem tree_SameType_k.mono : MonoF (β := fun _ => (Bool)) tree_SameType_k.body := fun f g hfg p => match p with
  | .f_52 y_0 y_1 => LeO.ite (LeO.ite (LeO.bind ((hfg _)) fun y19 => LeO.refl _) (LeO.refl _)) (LeO.refl _)
  | .f_1000000 a_0 a_1 => LeO.ite ((hfg _)) (LeO.refl _)
  | .l0_1000000 a_1 a_15 x_16 x_17 => LeO.ite (LeO.bind (LeO.refl _) fun y1 => LeO.bind (LeO.refl _) fun y14 => LeO.bind ((hfg _)) fun y27 => LeO.ite ((hfg _)) (LeO.refl _)) (LeO.refl _)
noncomputable def tree_SameType_k.go (p : tree_SameType_k.Pt) : Option (Bool) := fixF (β := fun _ => (Bool)) tree_SameType_k.body p
noncomputable def tree_SameType (y_0 : T_api_Type) (y_1 : T_api_Type) : Option (Bool) := tree_SameType_k.go (.f_52 y_0 y_1)
noncomputable def slices_EqualFunc_65_s1 (a_0 : List T_api_Type) (a_1 : List T_api_Type) : Option (Bool) := tree_SameType_k.go (.f_1000000 a_0 a_1)
noncomputable def slices_EqualFunc_65_s1.l0 (a_1 : List T_api_Type) (a_15 : List T_api_Type) (x_16 : Int) (x_17 : Int) : Option (Bool) := tree_SameType_k.go (.l0_1000000 a_1 a_15 x_16 x_17)
theorem tree_SameType_eq (y_0 : T_api_Type) (y_1 : T_api_Type) : tree_SameType y_0 y_1 = if y_0.Kind = y_1.Kind then (if y_0.Name = y_1.Name then (Option.bind ((slices_EqualFunc_65_s1 y_0.Args y_1.Args)) fun y19 => some (y19)) else (some (false))) else (some (false)) := fixF_eq tree_SameType_k.mono _
theorem slices_EqualFunc_65_s1_eq (a_0 : List T_api_Type) (a_1 : List T_api_Type) : slices_EqualFunc_65_s1 a_0 a_1 = if (((List.length a_0) : Nat) : Int) = (((List.length a_1) : Nat) : Int) then ((slices_EqualFunc_65_s1.l0 a_1 a_0 (((List.length a_0) : Nat) : Int) (0 : Int))) else (some (false)) := fixF_eq tree_SameType_k.mono _
theorem slices_EqualFunc_65_s1.l0_eq (a_1 : List T_api_Type) (a_15 : List T_api_Type) (x_16 : Int) (x_17 : Int) : slices_EqualFunc_65_s1.l0 a_1 a_15 x_16 x_17 = if x_17 < x_16 then (Option.bind (gi a_15 x_17) fun y1 => Option.bind (gi a_1 x_17) fun y14 => Option.bind ((tree_SameType y1 y14)) fun y27 => if y27 = true then ((slices_EqualFunc_65_s1.l0 a_1 a_15 x_16 (IntKind.wrap .i64 (x_17 + (1 : Int))))) else (some (false))) else (some (true)) := fixF_eq tree_SameType_k.mono _
def tree_SameType_k.I : (p : tree_SameType_k.Pt) → (Bool) → Prop
  | .f_52 y_0 y_1, r => ∀ (W : Nat → Prop) (h m : Heap) (cs_0 : List Value) (cs_1 : List Value) (O : Hold W h m h m []) (e_0 : T_api_Type.E m y_0 cs_0) (e_1 : T_api_Type.E m y_1 cs_1), Run Tryd.prog 52 #[Value.agg cs_0.toArray, Value.agg cs_1.toArray] h (tree_SameType.post W h m r)
  | .f_1000000 a_0 a_1, r => ∀ (W : Nat → Prop) (h m : Heap) (A_0 : Option Addr) (n_0 c_0 : Nat) (A_1 : Option Addr) (n_1 c_1 : Nat) (O : Hold W h m h m []) (ne_0 : n_0 = List.length a_0) (k_0 : List.length a_0 ≤ c_0) (r_0 : Rd 3 T_api_Type.E m A_0 a_0) (ne_1 : n_1 = List.length a_1) (k_1 : List.length a_1 ≤ c_1) (r_1 : Rd 3 T_api_Type.E m A_1 a_1), Run Tryd.prog 65 #[Value.slice A_0 n_0 c_0, Value.slice A_1 n_1 c_1, (Value.func (.func 52) #[] #[])] h (slices_EqualFunc_65_s1.post W h m r)
  | .l0_1000000 a_1 a_15 x_16 x_17, r => ∀ (W : Nat → Prop) (h0 m0 h m : Heap) (A_1 : Option Addr) (n_1 c_1 : Nat) (A_15 : Option Addr) (n_15 c_15 : Nat) (O : Hold W h0 m0 h m []) (ne_1 : n_1 = List.length a_1) (k_1 : List.length a_1 ≤ c_1) (r_1 : Rd 3 T_api_Type.E m A_1 a_1) (ne_15 : n_15 = List.length a_15) (k_15 : List.length a_15 ≤ c_15) (r_15 : Rd 3 T_api_Type.E m A_15 a_15), f65.l0 (slices_EqualFunc_65_s1.post W h0 m0 r) A_1 n_1 c_1 (Value.func (.func 52) #[] #[]) A_15 n_15 c_15 x_16 x_17 h
set_option maxRecDepth 100000 in
theorem tree_SameType_k.step_f_52 (go : (p : tree_SameType_k.Pt) → Option (Bool)) (ih : ∀ p r, go p = some r → tree_SameType_k.I p r) (y_0 : T_api_Type) (y_1 : T_api_Type) (r : Bool) (e : tree_SameType_k.body go (.f_52 y_0 y_1) = some r) : tree_SameType_k.I (.f_52 y_0 y_1) r := by
  unfold tree_SameType_k.body at e
  intro W h m cs_0 cs_1 O e_0 e_1
  refine f52.run ?_
  unfold f52.runT
  refine O.new fun h1 x2 O3 => ?_
  refine O3.new fun h5 x6 O7 => ?_
  refine ⟨_, ld0 (Sub.refl _) (O7.all 0 rfl) (T_api_Type.g0 e_0), _, rfl, ?_⟩
  refine ⟨_, ld0 (Sub.refl _) (O7.all 1 rfl) (T_api_Type.g0 e_1), _, rfl, ?_⟩
  refine split_eq_e e (fun c29 e => ?_) (fun c29 e => ?_)
  · refine ⟨_, ldk (k := 1) (Sub.refl _) (O7.all 0 rfl) (T_api_Type.g1 e_0), _, rfl, ?_⟩
    refine ⟨_, ldk (k := 1) (Sub.refl _) (O7.all 1 rfl) (T_api_Type.g1 e_1), _, rfl, ?_⟩
    try rw [ba_list y_0.Name y_1.Name]
    refine split_dec_e e (fun c27 e => ?_) (fun c27 e => ?_)
    · obtain ⟨A9, c10, q11, k12, r13⟩ := T_api_Type.g2 e_0
      refine ⟨_, ldk (k := 2) (Sub.refl _) (O7.all 0 rfl) q11, _, _, _, rfl, ?_⟩
      obtain ⟨A14, c15, q16, k17, r18⟩ := T_api_Type.g2 e_1
      refine ⟨_, ldk (k := 2) (Sub.refl _) (O7.all 1 rfl) q16, _, _, _, rfl, ?_⟩
      obtain ⟨y19, g20, e⟩ := bind_e e
      refine ((ih _ _ g20) _ _ _ _ _ _ _ _ _ (Hold.start (W := No) O7.s) rfl k12 r13 rfl k17 r18).mono ?_
      rintro _ h21 ⟨m22, Q23, rfl⟩
      have O25 := Hold.nm (O7.retC Q23 vfs_nil)
      refine ⟨_, rfl, ?_⟩
      cases e
      exact ⟨_, O25.pick [], rfl⟩
    · have O26 := O7.nm
      cases e
      exact ⟨_, O26.pick [], rfl⟩
  · have O28 := O7.nm
    cases e
    exact ⟨_, O28.pick [], rfl⟩
set_option maxRecDepth 100000 in
theorem tree_SameType_k.step_f_1000000 (go : (p : tree_SameType_k.Pt) → Option (Bool)) (ih : ∀ p r, go p = some r → tree_SameType_k.I p r) (a_0 : List T_api_Type) (a_1 : List T_api_Type) (r : Bool) (e : tree_SameType_k.body go (.f_1000000 a_0 a_1) = some r) : tree_SameType_k.I (.f_1000000 a_0 a_1) r := by
  unfold tree_SameType_k.body at e
  intro W h m A_0 n_0 c_0 A_1 n_1 c_1 O ne_0 k_0 r_0 ne_1 k_1 r_1
  subst ne_0
  subst ne_1
  refine f65.run ?_
  unfold f65.runT
  refine split_ne_e e (fun c1 e => ?_) (fun c1 e => ?_)
  · cases e
    exact ⟨_, O.pick [], rfl⟩
  · exact (ih _ _ e) _ _ _ _ _ _ _ _ _ _ _ (O.pick []).nm rfl k_1 r_1 rfl k_0 r_0
set_option maxRecDepth 100000 in
theorem tree_SameType_k.step_l0_1000000 (go : (p : tree_SameType_k.Pt) → Option (Bool)) (ih : ∀ p r, go p = some r → tree_SameType_k.I p r) (a_1 : List T_api_Type) (a_15 : List T_api_Type) (x_16 : Int) (x_17 : Int) (r : Bool) (e : tree_SameType_k.body go (.l0_1000000 a_1 a_15 x_16 x_17) = some r) : tree_SameType_k.I (.l0_1000000 a_1 a_15 x_16 x_17) r := by
  unfold tree_SameType_k.body at e
  intro W h0 m0 h m A_1 n_1 c_1 A_15 n_15 c_15 O ne_1 k_1 r_1 ne_15 k_15 r_15
  subst ne_1
  subst ne_15
  refine f65.l0_in ?_
  unfold f65.l0T
  refine split_dec_e e (fun c35 e => ?_) (fun c35 e => ?_)
  · obtain ⟨y1, g2, e⟩ := bind_e e
    refine r_15.addr rfl g2 fun a3 cs4 ha5 hc6 he7 => ?_
    refine ⟨_, ldAn O.s hc6 rfl, ?_⟩
    refine O.new fun h8 x9 O10 => ?_
    refine ⟨_, rfl, (T_api_Type.T.len _ _ _ he7), ?_⟩
    refine O10.stA 0 rfl (T_api_Type.T.len _ _ _ he7) (T_api_Type.T.flat _ _ _ he7) fun h12 O13 => ?_
    obtain ⟨y14, g15, e⟩ := bind_e e
    refine r_1.addr rfl g15 fun a16 cs17 ha18 hc19 he20 => ?_
    refine ⟨_, ldAn O13.s hc19 rfl, ?_⟩
    refine O13.new fun h21 x22 O23 => ?_
    refine ⟨_, rfl, (T_api_Type.T.len _ _ _ he20), ?_⟩
    refine O23.stA 1 rfl (T_api_Type.T.len _ _ _ he20) (T_api_Type.T.flat _ _ _ he20) fun h25 O26 => ?_
    refine ⟨_, ldAn (Sub.refl _) (O26.all 0 rfl) (T_api_Type.T.len _ _ _ he7), ?_⟩
    refine ⟨_, ldAn (Sub.refl _) (O26.all 1 rfl) (T_api_Type.T.len _ _ _ he20), ?_⟩
    obtain ⟨y27, g28, e⟩ := bind_e e
    refine CallF.of [(Value.agg (List.toArray cs4)), (Value.agg (List.toArray cs17))] f52.ok rfl ?_
    refine ((ih _ _ g28) _ _ _ _ _ (Hold.start (W := No) O26.s) he7 he20).mono ?_
    rintro _ h29 ⟨m30, Q31, rfl⟩
    have O33 := Hold.nm (O26.retC Q31 vfs_nil)
    refine ⟨_, rfl, ?_⟩
    refine split_not ?_
    refine split_any_e e (fun c34 e => ?_) (fun c34 e => ?_)
    · exact (ih _ _ e) _ _ _ _ _ _ _ _ _ _ _ (O33.pick []).nm rfl k_1 r_1 rfl k_15 r_15
    · cases e
      exact ⟨_, O33.pick [], rfl⟩
  · cases e
    exact ⟨_, O.pick [], rfl⟩
theorem tree_SameType_k.all {p : tree_SameType_k.Pt} {r : (Bool)} (e : tree_SameType_k.go p = some r) : tree_SameType_k.I p r := fixF_ind (β := fun _ => (Bool)) tree_SameType_k.mono (I := tree_SameType_k.I) (fun go ih p r e => match p with
  | .f_52 y_0 y_1 => tree_SameType_k.step_f_52 go ih y_0 y_1 r e
  | .f_1000000 a_0 a_1 => tree_SameType_k.step_f_1000000 go ih a_0 a_1 r e
  | .l0_1000000 a_1 a_15 x_16 x_17 => tree_SameType_k.step_l0_1000000 go ih a_1 a_15 x_16 x_17 r e
  ) e
theorem tree_SameType.walk {W : Nat → Prop} {h m : Heap} {cs_0 : List Value} {cs_1 : List Value} {y_0 : T_api_Type} {y_1 : T_api_Type} (O : Hold W h m h m []) (e_0 : T_api_Type.E m y_0 cs_0) (e_1 : T_api_Type.E m y_1 cs_1) {r : Bool} (e : tree_SameType y_0 y_1 = some r) : Run Tryd.prog 52 #[Value.agg cs_0.toArray, Value.agg cs_1.toArray] h (tree_SameType.post W h m r) := tree_SameType_k.all (p := .f_52 y_0 y_1) e W h m cs_0 cs_1 O e_0 e_1
def scheme_match.post (W : Nat → Prop) (bkio3 : Nat) (h0 m0 : Heap) (r : Bool × (List (ByteArray × T_api_Type))) (v : Value) (h : Heap) : Prop := ∃ m , Hold W h0 m0 h m [rM (monoV1 T_api_Type.T) (fun s : ByteArray => Value.string s) bkio3 r.2] ∧ v = .bool r.1
inductive scheme_match_k.Pt where
  | f (a_0 : List ByteArray) (y_1 : T_api_Type) (y_2 : T_api_Type) (es_3 : (List (ByteArray × T_api_Type)))
  | j1 (a_0 : List ByteArray) (es_io3 : (List (ByteArray × T_api_Type))) (y_5 : T_api_Type) (y_6 : T_api_Type) (b_21 : Bool)
  | j0 (a_0 : List ByteArray) (es_io3 : (List (ByteArray × T_api_Type))) (y_5 : T_api_Type) (y_6 : T_api_Type)
  | j2 (a_0 : List ByteArray) (es_io3 : (List (ByteArray × T_api_Type))) (y_5 : T_api_Type) (y_6 : T_api_Type)
  | l0 (a_0 : List ByteArray) (es_io3 : (List (ByteArray × T_api_Type))) (y_6 : T_api_Type) (a_60 : List T_api_Type) (x_61 : Int) (x_62 : Int)
noncomputable def scheme_match_k.body (go : (p : scheme_match_k.Pt) → Option (Bool × (List (ByteArray × T_api_Type)))) : (p : scheme_match_k.Pt) → Option (Bool × (List (ByteArray × T_api_Type)))
  | .f a_0 y_1 y_2 es_3 => if y_1.Kind = (5 : Int) then (Option.bind (slices_Contains_6 a_0 y_1.Name) fun y9 => (go (.j1 a_0 es_3 y_1 y_2 y9))) else ((go (.j1 a_0 es_3 y_1 y_2 false)))
  | .j1 a_0 es_io3 y_5 y_6 b_21 => if b_21 = true then (if (Option.isSome (pget es_io3 y_5.Name)) = true then (Option.bind (tree_SameType (pgd es_io3 y_5.Name (T_api_Type.mk (0 : Int) (ByteArray.mk #[]) ([] : (List T_api_Type)))) y_6) fun y11 => some (y11, es_io3)) else (Option.bind (some (pset es_io3 y_5.Name y_6)) fun l20 => some (true, l20))) else ((go (.j0 a_0 es_io3 y_5 y_6)))
  | .j0 a_0 es_io3 y_5 y_6 => if y_5.Kind = y_6.Kind then (if y_5.Name = y_6.Name then (if (((List.length y_5.Args) : Nat) : Int) = (((List.length y_6.Args) : Nat) : Int) then ((go (.j2 a_0 es_io3 y_5 y_6))) else (some (false, es_io3))) else (some (false, es_io3))) else (some (false, es_io3))
  | .j2 a_0 es_io3 y_5 y_6 => (go (.l0 a_0 es_io3 y_6 y_5.Args (((List.length y_5.Args) : Nat) : Int) (0 : Int)))
  | .l0 a_0 es_io3 y_6 a_60 x_61 x_62 => if x_62 < x_61 then (Option.bind (gi a_60 x_62) fun y1 => Option.bind (gi y_6.Args x_62) fun y19 => Option.bind ((go (.f a_0 y1 y19 es_io3))) fun y26 => if y26.1 = true then ((go (.l0 a_0 y26.2 y_6 a_60 x_61 (IntKind.wrap .i64 (x_62 + (1 : Int)))))) else (some (false, y26.2))) else (some (true, es_io3))
theorem scheme_match_k.mono : MonoF (β := fun _ => (Bool × (List (ByteArray × T_api_Type)))) scheme_match_k.body := fun f g hfg p => match p with
  | .f a_0 y_1 y_2 es_3 => LeO.ite (LeO.bind (LeO.refl _) fun y9 => (hfg _)) ((hfg _))
  | .j1 a_0 es_io3 y_5 y_6 b_21 => LeO.ite (LeO.ite (LeO.bind (LeO.refl _) fun y11 => LeO.refl _) (LeO.bind (LeO.refl _) fun l20 => LeO.refl _)) ((hfg _))
  | .j0 a_0 es_io3 y_5 y_6 => LeO.ite (LeO.ite (LeO.ite ((hfg _)) (LeO.refl _)) (LeO.refl _)) (LeO.refl _)
  | .j2 a_0 es_io3 y_5 y_6 => (hfg _)
  | .l0 a_0 es_io3 y_6 a_60 x_61 x_62 => LeO.ite (LeO.bind (LeO.refl _) fun y1 => LeO.bind (LeO.refl _) fun y19 => LeO.bind ((hfg _)) fun y26 => LeO.ite ((hfg _)) (LeO.refl _)) (LeO.refl _)
noncomputable def scheme_match_k.go (p : scheme_match_k.Pt) : Option (Bool × (List (ByteArray × T_api_Type))) := fixF (β := fun _ => (Bool × (List (ByteArray × T_api_Type)))) scheme_match_k.body p
noncomputable def scheme_match (a_0 : List ByteArray) (y_1 : T_api_Type) (y_2 : T_api_Type) (es_3 : (List (ByteArray × T_api_Type))) : Option (Bool × (List (ByteArray × T_api_Type))) := scheme_match_k.go (.f a_0 y_1 y_2 es_3)
noncomputable def scheme_match.j1 (a_0 : List ByteArray) (es_io3 : (List (ByteArray × T_api_Type))) (y_5 : T_api_Type) (y_6 : T_api_Type) (b_21 : Bool) : Option (Bool × (List (ByteArray × T_api_Type))) := scheme_match_k.go (.j1 a_0 es_io3 y_5 y_6 b_21)
noncomputable def scheme_match.j0 (a_0 : List ByteArray) (es_io3 : (List (ByteArray × T_api_Type))) (y_5 : T_api_Type) (y_6 : T_api_Type) : Option (Bool × (List (ByteArray × T_api_Type))) := scheme_match_k.go (.j0 a_0 es_io3 y_5 y_6)
noncomputable def scheme_match.j2 (a_0 : List ByteArray) (es_io3 : (List (ByteArray × T_api_Type))) (y_5 : T_api_Type) (y_6 : T_api_Type) : Option (Bool × (List (ByteArray × T_api_Type))) := scheme_match_k.go (.j2 a_0 es_io3 y_5 y_6)
noncomputable def scheme_match.l0 (a_0 : List ByteArray) (es_io3 : (List (ByteArray × T_api_Type))) (y_6 : T_api_Type) (a_60 : List T_api_Type) (x_61 : Int) (x_62 : Int) : Option (Bool × (List (ByteArray × T_api_Type))) := scheme_match_k.go (.l0 a_0 es_io3 y_6 a_60 x_61 x_62)
theorem scheme_match_eq (a_0 : List ByteArray) (y_1 : T_api_Type) (y_2 : T_api_Type) (es_3 : (List (ByteArray × T_api_Type))) : scheme_match a_0 y_1 y_2 es_3 = if y_1.Kind = (5 : Int) then (Option.bind (slices_Contains_6 a_0 y_1.Name) fun y9 => (scheme_match.j1 a_0 es_3 y_1 y_2 y9)) else ((scheme_match.j1 a_0 es_3 y_1 y_2 false)) := fixF_eq scheme_match_k.mono _
theorem scheme_match.j1_eq (a_0 : List ByteArray) (es_io3 : (List (ByteArray × T_api_Type))) (y_5 : T_api_Type) (y_6 : T_api_Type) (b_21 : Bool) : scheme_match.j1 a_0 es_io3 y_5 y_6 b_21 = if b_21 = true then (if (Option.isSome (pget es_io3 y_5.Name)) = true then (Option.bind (tree_SameType (pgd es_io3 y_5.Name (T_api_Type.mk (0 : Int) (ByteArray.mk #[]) ([] : (List T_api_Type)))) y_6) fun y11 => some (y11, es_io3)) else (Option.bind (some (pset es_io3 y_5.Name y_6)) fun l20 => some (true, l20))) else ((scheme_match.j0 a_0 es_io3 y_5 y_6)) := fixF_eq scheme_match_k.mono _
theorem scheme_match.j0_eq (a_0 : List ByteArray) (es_io3 : (List (ByteArray × T_api_Type))) (y_5 : T_api_Type) (y_6 : T_api_Type) : scheme_match.j0 a_0 es_io3 y_5 y_6 = if y_5.Kind = y_6.Kind then (if y_5.Name = y_6.Name then (if (((List.length y_5.Args) : Nat) : Int) = (((List.length y_6.Args) : Nat) : Int) then ((scheme_match.j2 a_0 es_io3 y_5 y_6)) else (some (false, es_io3))) else (some (false, es_io3))) else (some (false, es_io3)) := fixF_eq scheme_match_k.mono _
theorem scheme_match.j2_eq (a_0 : List ByteArray) (es_io3 : (List (ByteArray × T_api_Type))) (y_5 : T_api_Type) (y_6 : T_api_Type) : scheme_match.j2 a_0 es_io3 y_5 y_6 = (scheme_match.l0 a_0 es_io3 y_6 y_5.Args (((List.length y_5.Args) : Nat) : Int) (0 : Int)) := fixF_eq scheme_match_k.mono _
theorem scheme_match.l0_eq (a_0 : List ByteArray) (es_io3 : (List (ByteArray × T_api_Type))) (y_6 : T_api_Type) (a_60 : List T_api_Type) (x_61 : Int) (x_62 : Int) : scheme_match.l0 a_0 es_io3 y_6 a_60 x_61 x_62 = if x_62 < x_61 then (Option.bind (gi a_60 x_62) fun y1 => Option.bind (gi y_6.Args x_62) fun y19 => Option.bind ((scheme_match a_0 y1 y19 es_io3)) fun y26 => if y26.1 = true then ((scheme_match.l0 a_0 y26.2 y_6 a_60 x_61 (IntKind.wrap .i64 (x_62 + (1 : Int))))) else (some (false, y26.2))) else (some (true, es_io3)) := fixF_eq scheme_match_k.mono _
def scheme_match_k.I : (p : scheme_match_k.Pt) → (Bool × (List (ByteArray × T_api_Type))) → Prop
  | .f a_0 y_1 y_2 es_3, r => ∀ (W : Nat → Prop) (h m : Heap) (A_0 : Option Addr) (n_0 c_0 : Nat) (cs_1 : List Value) (cs_2 : List Value) (bkio3 : Nat) (O : Hold W h m h m [rM (monoV1 T_api_Type.T) (fun s : ByteArray => Value.string s) bkio3 es_3]) (ne_0 : n_0 = List.length a_0) (k_0 : List.length a_0 ≤ c_0) (r_0 : Rd 1 eStr m A_0 a_0) (e_1 : T_api_Type.E m y_1 cs_1) (e_2 : T_api_Type.E m y_2 cs_2), Run Tryd.prog 38 #[Value.slice A_0 n_0 c_0, Value.agg cs_1.toArray, Value.agg cs_2.toArray, Value.map (some bkio3)] h (scheme_match.post W bkio3 h m r)
  | .j1 a_0 es_io3 y_5 y_6 b_21, r => ∀ (W : Nat → Prop) (h0 m0 h m : Heap) (A_0 : Option Addr) (n_0 c_0 : Nat) (bk_io3 : Nat) (bk_5 : Nat) (cs_5 : List Value) (bk_6 : Nat) (cs_6 : List Value) (O : Hold W h0 m0 h m [rM (monoV1 T_api_Type.T) (fun s : ByteArray => Value.string s) bk_io3 es_io3, rV bk_5 25 cs_5, rV bk_6 25 cs_6]) (ne_0 : n_0 = List.length a_0) (k_0 : List.length a_0 ≤ c_0) (r_0 : Rd 1 eStr m A_0 a_0) (e_5 : T_api_Type.E m y_5 cs_5) (e_6 : T_api_Type.E m y_6 cs_6), f38.j1 (scheme_match.post W bk_io3 h0 m0 r) A_0 n_0 c_0 (Value.map (some bk_io3)) (⟨bk_5, 0, none⟩ : Addr) (⟨bk_6, 0, none⟩ : Addr) b_21 h
  | .j0 a_0 es_io3 y_5 y_6, r => ∀ (W : Nat → Prop) (h0 m0 h m : Heap) (A_0 : Option Addr) (n_0 c_0 : Nat) (bk_io3 : Nat) (bk_5 : Nat) (cs_5 : List Value) (bk_6 : Nat) (cs_6 : List Value) (O : Hold W h0 m0 h m [rM (monoV1 T_api_Type.T) (fun s : ByteArray => Value.string s) bk_io3 es_io3, rV bk_5 25 cs_5, rV bk_6 25 cs_6]) (ne_0 : n_0 = List.length a_0) (k_0 : List.length a_0 ≤ c_0) (r_0 : Rd 1 eStr m A_0 a_0) (e_5 : T_api_Type.E m y_5 cs_5) (e_6 : T_api_Type.E m y_6 cs_6), f38.j0 (scheme_match.post W bk_io3 h0 m0 r) A_0 n_0 c_0 (Value.map (some bk_io3)) (⟨bk_5, 0, none⟩ : Addr) (⟨bk_6, 0, none⟩ : Addr) h
  | .j2 a_0 es_io3 y_5 y_6, r => ∀ (W : Nat → Prop) (h0 m0 h m : Heap) (A_0 : Option Addr) (n_0 c_0 : Nat) (bk_io3 : Nat) (bk_5 : Nat) (cs_5 : List Value) (bk_6 : Nat) (cs_6 : List Value) (O : Hold W h0 m0 h m [rM (monoV1 T_api_Type.T) (fun s : ByteArray => Value.string s) bk_io3 es_io3, rV bk_5 25 cs_5, rV bk_6 25 cs_6]) (ne_0 : n_0 = List.length a_0) (k_0 : List.length a_0 ≤ c_0) (r_0 : Rd 1 eStr m A_0 a_0) (e_5 : T_api_Type.E m y_5 cs_5) (e_6 : T_api_Type.E m y_6 cs_6), f38.j2 (scheme_match.post W bk_io3 h0 m0 r) A_0 n_0 c_0 (Value.map (some bk_io3)) (⟨bk_5, 0, none⟩ : Addr) (⟨bk_6, 0, none⟩ : Addr) h
  | .l0 a_0 es_io3 y_6 a_60 x_61 x_62, r => ∀ (W : Nat → Prop) (h0 m0 h m : Heap) (A_0 : Option Addr) (n_0 c_0 : Nat) (bk_io3 : Nat) (bk_6 : Nat) (cs_6 : List Value) (A_60 : Option Addr) (n_60 c_60 : Nat) (O : Hold W h0 m0 h m [rM (monoV1 T_api_Type.T) (fun s : ByteArray => Value.string s) bk_io3 es_io3, rV bk_6 25 cs_6]) (ne_0 : n_0 = List.length a_0) (k_0 : List.length a_0 ≤ c_0) (r_0 : Rd 1 eStr m A_0 a_0) (e_6 : T_api_Type.E m y_6 cs_6) (ne_60 : n_60 = List.length a_60) (k_60 : List.length a_60 ≤ c_60) (r_60 : Rd 3 T_api_Type.E m A_60 a_60), f38.l0 (scheme_match.post W bk_io3 h0 m0 r) A_0 n_0 c_0 (Value.map (some bk_io3)) (⟨bk_6, 0, none⟩ : Addr) A_60 n_60 c_60 x_61 x_62 h
set_option maxRecDepth 100000 in
theorem scheme_match_k.step_f (go : (p : scheme_match_k.Pt) → Option (Bool × (List (ByteArray × T_api_Type)))) (ih : ∀ p r, go p = some r → scheme_match_k.I p r) (a_0 : List ByteArray) (y_1 : T_api_Type) (y_2 : T_api_Type) (es_3 : (List (ByteArray × T_api_Type))) (r : Bool × (List (ByteArray × T_api_Type))) (e : scheme_match_k.body go (.f a_0 y_1 y_2 es_3) = some r) : scheme_match_k.I (.f a_0 y_1 y_2 es_3) r := by
  unfold scheme_match_k.body at e
  intro W h m A_0 n_0 c_0 cs_1 cs_2 bkio3 O ne_0 k_0 r_0 e_1 e_2
  subst ne_0
  refine f38.run ?_
  unfold f38.runT
  refine O.new fun h1 x2 O3 => ?_
  refine O3.new fun h5 x6 O7 => ?_
  refine ⟨_, ld0 (Sub.refl _) (O7.all 1 rfl) (T_api_Type.g0 e_1), _, rfl, ?_⟩
  refine split_eq_e e (fun c17 e => ?_) (fun c17 e => ?_)
  · refine ⟨_, ldk (k := 1) (Sub.refl _) (O7.all 1 rfl) (T_api_Type.g1 e_1), _, rfl, ?_⟩
    obtain ⟨y9, g10, e⟩ := bind_e e
    refine (slices_Contains_6.walk (Hold.start (W := No) O7.s) rfl k_0 r_0 g10).mono ?_
    rintro _ h11 ⟨m12, Q13, rfl⟩
    have O15 := Hold.nm (O7.retC Q13 vfs_nil)
    refine ⟨_, rfl, ?_⟩
    exact (ih _ _ e) _ _ _ _ _ _ _ _ _ _ _ _ _ (O15.pick [0, 1, 2]).nm rfl k_0 r_0 e_1 e_2
  · have O16 := O7.nm
    exact (ih _ _ e) _ _ _ _ _ _ _ _ _ _ _ _ _ (O16.pick [0, 1, 2]).nm rfl k_0 r_0 e_1 e_2
set_option maxRecDepth 100000 in
theorem scheme_match_k.step_j1 (go : (p : scheme_match_k.Pt) → Option (Bool × (List (ByteArray × T_api_Type)))) (ih : ∀ p r, go p = some r → scheme_match_k.I p r) (a_0 : List ByteArray) (es_io3 : (List (ByteArray × T_api_Type))) (y_5 : T_api_Type) (y_6 : T_api_Type) (b_21 : Bool) (r : Bool × (List (ByteArray × T_api_Type))) (e : scheme_match_k.body go (.j1 a_0 es_io3 y_5 y_6 b_21) = some r) : scheme_match_k.I (.j1 a_0 es_io3 y_5 y_6 b_21) r := by
  unfold scheme_match_k.body at e
  intro W h0 m0 h m A_0 n_0 c_0 bk_io3 bk_5 cs_5 bk_6 cs_6 O ne_0 k_0 r_0 e_5 e_6
  subst ne_0
  refine f38.j1_in ?_
  unfold f38.j1T
  refine split_any_e e (fun c24 e => ?_) (fun c24 e => ?_)
  · refine ⟨_, ldk (k := 1) (Sub.refl _) (O.all 1 rfl) (T_api_Type.g1 e_5), _, rfl, ?_⟩
    refine (O.om 0 rfl).look2 (zv := (T_api_Type.mk (0 : Int) (ByteArray.mk #[]) ([] : (List T_api_Type)))) (z := (Value.agg #[(Value.int .i64 (0 : Int)), (Value.string (ByteArray.mk #[])), (Value.slice none 0 0)])) (keyOk_str (key := 9) (elem := 25) (by kernel_rfl) (by kernel_rfl)) y_5.Name (by kernel_rfl) ⟨[(Value.int .i64 (0 : Int)), (Value.string (ByteArray.mk #[])), (Value.slice none 0 0)], rfl, (T_api_Type.iff.2 ⟨_, _, rfl, (by exact Nat.le_refl 0), Rd.nil⟩)⟩ (fun v1 hv2 => ?_)
    obtain ⟨cs3, rfl, he4⟩ := hv2
    refine ⟨_, _, rfl, ?_⟩
    refine O.new fun h5 x6 O7 => ?_
    refine ⟨_, rfl, (T_api_Type.T.len _ _ _ he4), ?_⟩
    refine O7.stA 3 rfl (T_api_Type.T.len _ _ _ he4) (T_api_Type.T.flat _ _ _ he4) fun h9 O10 => ?_
    refine split_not ?_
    refine split_any_e e (fun c23 e => ?_) (fun c23 e => ?_)
    · refine ⟨_, ldAn (Sub.refl _) (O10.all 3 rfl) (T_api_Type.T.len _ _ _ he4), ?_⟩
      refine ⟨_, ldAn (Sub.refl _) (O10.all 2 rfl) (T_api_Type.T.len _ _ _ e_6), ?_⟩
      obtain ⟨y11, g12, e⟩ := bind_e e
      refine (tree_SameType.walk (Hold.start (W := No) O10.s) he4 e_6 g12).mono ?_
      rintro _ h13 ⟨m14, Q15, rfl⟩
      have O17 := Hold.nm (O10.retC Q15 vfs_nil)
      refine ⟨_, rfl, ?_⟩
      cases e
      exact ⟨_, O17.pick [0], rfl⟩
    · refine ⟨_, ldk (k := 1) (Sub.refl _) (O10.all 1 rfl) (T_api_Type.g1 e_5), _, rfl, ?_⟩
      refine ⟨_, ldAn (Sub.refl _) (O10.all 2 rfl) (T_api_Type.T.len _ _ _ e_6), ?_⟩
      obtain ⟨l20, g21, e⟩ := bind_e e
      replace g21 := Option.some.inj g21
      refine O10.mapUpd (x := y_6) (v := (Value.agg (List.toArray cs_6))) 0 rfl (keyOk_str (key := 9) (elem := 25) (by kernel_rfl) (by kernel_rfl)) y_5.Name (show (eV1 T_api_Type.E) m y_6 (Value.agg (List.toArray cs_6)) from ⟨cs_6, rfl, e_6⟩) g21 fun h18 O19 => ?_
      have O22 := O19.nm
      cases e
      exact ⟨_, O22.pick [0], rfl⟩
  · exact (ih _ _ e) _ _ _ _ _ _ _ _ _ _ _ _ _ (O.pick [0, 1, 2]).nm rfl k_0 r_0 e_5 e_6
set_option maxRecDepth 100000 in
theorem scheme_match_k.step_j0 (go : (p : scheme_match_k.Pt) → Option (Bool × (List (ByteArray × T_api_Type)))) (ih : ∀ p r, go p = some r → scheme_match_k.I p r) (a_0 : List ByteArray) (es_io3 : (List (ByteArray × T_api_Type))) (y_5 : T_api_Type) (y_6 : T_api_Type) (r : Bool × (List (ByteArray × T_api_Type))) (e : scheme_match_k.body go (.j0 a_0 es_io3 y_5 y_6) = some r) : scheme_match_k.I (.j0 a_0 es_io3 y_5 y_6) r := by
  unfold scheme_match_k.body at e
  intro W h0 m0 h m A_0 n_0 c_0 bk_io3 bk_5 cs_5 bk_6 cs_6 O ne_0 k_0 r_0 e_5 e_6
  subst ne_0
  refine f38.j0_in ?_
  unfold f38.j0T
  refine ⟨_, ld0 (Sub.refl _) (O.all 1 rfl) (T_api_Type.g0 e_5), _, rfl, ?_⟩
  refine ⟨_, ld0 (Sub.refl _) (O.all 2 rfl) (T_api_Type.g0 e_6), _, rfl, ?_⟩
  refine split_ne_e e (fun c13 e => ?_) (fun c13 e => ?_)
  · cases e
    exact ⟨_, O.pick [0], rfl⟩
  · refine ⟨_, ldk (k := 1) (Sub.refl _) (O.all 1 rfl) (T_api_Type.g1 e_5), _, rfl, ?_⟩
    refine ⟨_, ldk (k := 1) (Sub.refl _) (O.all 2 rfl) (T_api_Type.g1 e_6), _, rfl, ?_⟩
    try rw [ba_list y_5.Name y_6.Name]
    refine split_not ?_
    refine split_dec_e e (fun c12 e => ?_) (fun c12 e => ?_)
    · obtain ⟨A1, c2, q3, k4, r5⟩ := T_api_Type.g2 e_5
      refine ⟨_, ldk (k := 2) (Sub.refl _) (O.all 1 rfl) q3, _, _, _, rfl, ?_⟩
      obtain ⟨A6, c7, q8, k9, r10⟩ := T_api_Type.g2 e_6
      refine ⟨_, ldk (k := 2) (Sub.refl _) (O.all 2 rfl) q8, _, _, _, rfl, ?_⟩
      refine split_ne_e e (fun c11 e => ?_) (fun c11 e => ?_)
      · cases e
        exact ⟨_, O.pick [0], rfl⟩
      · exact (ih _ _ e) _ _ _ _ _ _ _ _ _ _ _ _ _ (O.pick [0, 1, 2]).nm rfl k_0 r_0 e_5 e_6
    · cases e
      exact ⟨_, O.pick [0], rfl⟩
set_option maxRecDepth 100000 in
theorem scheme_match_k.step_j2 (go : (p : scheme_match_k.Pt) → Option (Bool × (List (ByteArray × T_api_Type)))) (ih : ∀ p r, go p = some r → scheme_match_k.I p r) (a_0 : List ByteArray) (es_io3 : (List (ByteArray × T_api_Type))) (y_5 : T_api_Type) (y_6 : T_api_Type) (r : Bool × (List (ByteArray × T_api_Type))) (e : scheme_match_k.body go (.j2 a_0 es_io3 y_5 y_6) = some r) : scheme_match_k.I (.j2 a_0 es_io3 y_5 y_6) r := by
  unfold scheme_match_k.body at e
  intro W h0 m0 h m A_0 n_0 c_0 bk_io3 bk_5 cs_5 bk_6 cs_6 O ne_0 k_0 r_0 e_5 e_6
  subst ne_0
  refine f38.j2_in ?_
  unfold f38.j2T
  obtain ⟨A1, c2, q3, k4, r5⟩ := T_api_Type.g2 e_5
  refine ⟨_, ldk (k := 2) (Sub.refl _) (O.all 1 rfl) q3, _, _, _, rfl, ?_⟩
  exact (ih _ _ e) _ _ _ _ _ _ _ _ _ _ _ _ _ _ (O.pick [0, 2]).nm rfl k_0 r_0 e_6 rfl k4 r5
set_option maxRecDepth 100000 in
theorem scheme_match_k.step_l0 (go : (p : scheme_match_k.Pt) → Option (Bool × (List (ByteArray × T_api_Type)))) (ih : ∀ p r, go p = some r → scheme_match_k.I p r) (a_0 : List ByteArray) (es_io3 : (List (ByteArray × T_api_Type))) (y_6 : T_api_Type) (a_60 : List T_api_Type) (x_61 : Int) (x_62 : Int) (r : Bool × (List (ByteArray × T_api_Type))) (e : scheme_match_k.body go (.l0 a_0 es_io3 y_6 a_60 x_61 x_62) = some r) : scheme_match_k.I (.l0 a_0 es_io3 y_6 a_60 x_61 x_62) r := by
  unfold scheme_match_k.body at e
  intro W h0 m0 h m A_0 n_0 c_0 bk_io3 bk_6 cs_6 A_60 n_60 c_60 O ne_0 k_0 r_0 e_6 ne_60 k_60 r_60
  subst ne_0
  subst ne_60
  refine f38.l0_in ?_
  unfold f38.l0T
  refine split_dec_e e (fun c39 e => ?_) (fun c39 e => ?_)
  · obtain ⟨y1, g2, e⟩ := bind_e e
    refine r_60.addr rfl g2 fun a3 cs4 ha5 hc6 he7 => ?_
    refine ⟨_, ldAn O.s hc6 rfl, ?_⟩
    refine O.new fun h8 x9 O10 => ?_
    refine ⟨_, rfl, (T_api_Type.T.len _ _ _ he7), ?_⟩
    refine O10.stA 2 rfl (T_api_Type.T.len _ _ _ he7) (T_api_Type.T.flat _ _ _ he7) fun h12 O13 => ?_
    refine ⟨_, ldAn (Sub.refl _) (O13.all 2 rfl) (T_api_Type.T.len _ _ _ he7), ?_⟩
    obtain ⟨A14, c15, q16, k17, r18⟩ := T_api_Type.g2 e_6
    refine ⟨_, ldk (k := 2) (Sub.refl _) (O13.all 1 rfl) q16, _, _, _, rfl, ?_⟩
    obtain ⟨y19, g20, e⟩ := bind_e e
    refine r18.addr rfl g20 fun a21 cs22 ha23 hc24 he25 => ?_
    refine ⟨_, ldAn O13.s hc24 rfl, ?_⟩
    obtain ⟨y26, g27, e⟩ := bind_e e
    have O32 := O13.nm
    obtain ⟨W33, P34, B35, C36⟩ := O32.callC [0]
    refine ((ih _ _ g27) _ _ _ _ _ _ _ _ _ P34 rfl k_0 r_0 he7 he25).mono ?_
    rintro _ h28 ⟨m29, Q30, rfl⟩
    have O37 := Hold.nm (B35 Q30)
    refine ⟨_, rfl, ?_⟩
    refine split_not ?_
    refine split_any_e e (fun c38 e => ?_) (fun c38 e => ?_)
    · exact (ih _ _ e) _ _ _ _ _ _ _ _ _ _ _ _ _ _ (O37.pick [3, 1]).nm rfl k_0 (r_0.sub tell_str Q30.S.up) (T_api_Type.T.mono _ _ _ _ Q30.S.up e_6) rfl k_60 (r_60.sub T_api_Type.T Q30.S.up)
    · cases e
      exact ⟨_, O37.pick [3], rfl⟩
  · cases e
    exact ⟨_, O.pick [0], rfl⟩
theorem scheme_match_k.all {p : scheme_match_k.Pt} {r : (Bool × (List (ByteArray × T_api_Type)))} (e : scheme_match_k.go p = some r) : scheme_match_k.I p r := fixF_ind (β := fun _ => (Bool × (List (ByteArray × T_api_Type)))) scheme_match_k.mono (I := scheme_match_k.I) (fun go ih p r e => match p with
  | .f a_0 y_1 y_2 es_3 => scheme_match_k.step_f go ih a_0 y_1 y_2 es_3 r e
  | .j1 a_0 es_io3 y_5 y_6 b_21 => scheme_match_k.step_j1 go ih a_0 es_io3 y_5 y_6 b_21 r e
  | .j0 a_0 es_io3 y_5 y_6 => scheme_match_k.step_j0 go ih a_0 es_io3 y_5 y_6 r e
  | .j2 a_0 es_io3 y_5 y_6 => scheme_match_k.step_j2 go ih a_0 es_io3 y_5 y_6 r e
  | .l0 a_0 es_io3 y_6 a_60 x_61 x_62 => scheme_match_k.step_l0 go ih a_0 es_io3 y_6 a_60 x_61 x_62 r e
  ) e
theorem scheme_match.walk {W : Nat → Prop} {h m : Heap} {A_0 : Option Addr} {n_0 c_0 : Nat} {cs_1 : List Value} {cs_2 : List Value} {bkio3 : Nat} {a_0 : List ByteArray} {y_1 : T_api_Type} {y_2 : T_api_Type} {es_3 : (List (ByteArray × T_api_Type))} (O : Hold W h m h m [rM (monoV1 T_api_Type.T) (fun s : ByteArray => Value.string s) bkio3 es_3]) (ne_0 : n_0 = List.length a_0) (k_0 : List.length a_0 ≤ c_0) (r_0 : Rd 1 eStr m A_0 a_0) (e_1 : T_api_Type.E m y_1 cs_1) (e_2 : T_api_Type.E m y_2 cs_2) {r : Bool × (List (ByteArray × T_api_Type))} (e : scheme_match a_0 y_1 y_2 es_3 = some r) : Run Tryd.prog 38 #[Value.slice A_0 n_0 c_0, Value.agg cs_1.toArray, Value.agg cs_2.toArray, Value.map (some bkio3)] h (scheme_match.post W bkio3 h m r) := scheme_match_k.all (p := .f a_0 y_1 y_2 es_3) e W h m A_0 n_0 c_0 cs_1 cs_2 bkio3 O ne_0 k_0 r_0 e_1 e_2
def scheme_More.post (W : Nat → Prop) (h0 m0 : Heap) (r : Bool) (v : Value) (h : Heap) : Prop := ∃ m , Hold W h0 m0 h m [] ∧ v = .bool r
noncomputable def scheme_More (y_0 : T_scheme_Scheme) (y_1 : T_api_Type) : Option (Bool) :=
  Option.bind (scheme_match y_0.Params y_0.Type_ y_1 ([] : (List (ByteArray × T_api_Type)))) fun y18 => some (y18.1)
set_option maxRecDepth 100000 in
theorem scheme_More.walk {W : Nat → Prop} {h m : Heap} {cs_0 : List Value} {cs_1 : List Value} {y_0 : T_scheme_Scheme} {y_1 : T_api_Type} (O : Hold W h m h m []) (e_0 : T_scheme_Scheme.E m y_0 cs_0) (e_1 : T_api_Type.E m y_1 cs_1) {r : Bool} (e : scheme_More y_0 y_1 = some r) : Run Tryd.prog 18 #[Value.agg cs_0.toArray, Value.agg cs_1.toArray] h (scheme_More.post W h m r) := by
  unfold scheme_More at e
  refine f18.run ?_
  unfold f18.runT
  refine O.new fun h1 x2 O3 => ?_
  refine O3.new fun h5 x6 O7 => ?_
  refine O7.mkMap (ν := T_api_Type) (monoV1 T_api_Type.T) (fun s : ByteArray => Value.string s) fun h9 x10 O11 => ?_
  obtain ⟨A13, c14, q15, k16, r17⟩ := T_scheme_Scheme.g0 e_0
  refine ⟨_, ld0 (Sub.refl _) (O11.all 0 rfl) q15, _, _, _, rfl, ?_⟩
  refine ⟨_, ldAkn (Sub.refl _) (O11.all 0 rfl) 1 3 (le_len (T_scheme_Scheme.T.len _ _ _ e_0) (by decide)), ?_⟩
  refine ⟨_, ldAn (Sub.refl _) (O11.all 1 rfl) (T_api_Type.T.len _ _ _ e_1), ?_⟩
  obtain ⟨y18, g19, e⟩ := bind_e e
  have O24 := O11.nm
  obtain ⟨W25, P26, B27, C28⟩ := O24.callC [2]
  refine (scheme_match.walk P26 rfl k16 r17 (T_scheme_Scheme.u1_25 e_0) e_1 g19).mono ?_
  rintro _ h20 ⟨m21, Q22, rfl⟩
  have O29 := Hold.nm (B27 Q22)
  refine ⟨_, rfl, ?_⟩
  cases e
  exact ⟨_, O29.pick [], rfl⟩
end Go.Proofs.YtdlihfedhojdgaaDoor.Fw

end
