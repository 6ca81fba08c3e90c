/- Part 3: what the law NamesPlay needs, put together out of texts of this session. -/
import Derived.Lib.LaidTab
import Derived.Lib.ItoaNum
import Derived.Sort.Grow
import Derived.Deep.Draws
import Derived.Lib.Space
import Derived.Lib.Fields
import Derived.Lib.SlTrimSet
import Derived.Lib.Bytealg
import Derived.Below
import Derived.Shelf.Bodies
import Derived.Shelf.Lays
import Derived.Shelf.Small.Strs
import Derived.Shelf.Strings.SlTrimAscii
import Derived.Test.YtaiehkhjmplodaaDoorProg
import Derived.Test.YtaiehkhjmplodaaDoorZNamesPlayb
section
namespace Go.Hw
open Go
section
variable {α β : Type}
theorem ap_of {B : Nat} {l xs : List α} (h : (l.length + xs.length) * B ≤ 140737488355328) : ap B l xs = some (l ++ xs) := by unfold ap; rw [if_pos h]
theorem gi_some {l : List α} {k : Nat} {x : Int} {y : α} (hx : x = k) (h : l[k]? = some y) : gi l x = some y := by subst hx; rw [gi_nat]; exact h
theorem gi_at {l : List α} {k : Nat} (h : k < l.length) : gi l (k : Int) = some l[k] := by rw [gi_nat]; exact List.getElem?_eq_getElem h
theorem w_succ {k : Nat} (h : k < 9223372036854775807) : IntKind.wrap .i64 ((k : Int) + 1) = ((k + 1 : Nat) : Int) := by rw [wrap_in (by omega) (by omega)]; rfl
theorem find_val {f : List α → (α → Option Bool) → Int → Int → Option Int}
   (hf : ∀ a p n i, f a p n i = if i < n then (Option.bind (gi a i) fun y => Option.bind (p y) fun b => if b = true then some i else f a p n (IntKind.wrap .i64 (i + 1))) else some (-1))
   {l : List α} {p : α → Option Bool} (q : α → Bool) (hp : ∀ x ∈ l, p x = some (q x)) (hl : l.length ≤ 4611686018427387904) : f l p (l.length : Int) 0 = some (idxOf q l) := by
 have key : ∀ (d k : Nat), k + d = l.length → (∀ x ∈ l.take k, q x = false) → f l p (l.length : Int) (k : Int) = some (idxOf q l) := by
   intro d
   induction d with
   | zero =>
     intro k hk hn
     rw [hf, if_neg (by omega)]
     have : l.findIdx? q = none := by
       rw [List.findIdx?_eq_none_iff]
       rw [List.take_of_length_le (by omega)] at hn
       exact hn
     simp [idxOf, this]
   | succ d ih =>
     intro k hk hn
     have hlt : k < l.length := by omega
     rw [hf, if_pos (by omega), gi_at hlt, Option.bind_some, hp _ (List.getElem_mem hlt), Option.bind_some]
     by_cases hq : q l[k] = true
     · rw [if_pos hq]
       have : l.findIdx? q = some k := by
         rw [List.findIdx?_eq_some_iff_getElem]
         refine ⟨hlt, hq, fun j hj => ?_⟩
         have := hn l[j] (by rw [List.mem_take_iff_getElem]; exact ⟨j, by omega, rfl⟩)
         simp [this]
       simp [idxOf, this]
     · rw [if_neg hq, w_succ (by omega)]
       refine ih (k + 1) (by omega) (fun x hx => ?_)
       rw [List.take_succ_eq_append_getElem hlt] at hx
       rcases List.mem_append.1 hx with hx | hx
       · exact hn x hx
       · simp at hx; subst hx; simpa using hq
 exact key l.length 0 (by omega) (fun x hx => by simp at hx)
end
section
open Go.RowKit
variable {H : Type} {enc : TypeId × Value → H} {P : Program} {W : World} {N : Nat}
end
end Go.Hw

end
section
set_option linter.unusedVariables false
namespace Go.Hw
open Go
abbrev Foot := Nat → Prop
def U (F G : Foot) : Foot := fun b => F b ∨ G b
section
variable {F G H F' G' : Foot}
theorem U.no_left : U No F = F := funext fun _ => propext ⟨fun h => h.elim (fun h => h.elim) id, .inr⟩
theorem U.no_right : U F No = F := funext fun _ => propext ⟨fun h => h.elim id (fun h => h.elim), .inl⟩
theorem U.assoc : U (U F G) H = U F (U G H) := funext fun _ => propext or_assoc
theorem U.comm : U F G = U G F := funext fun _ => propext or_comm
theorem U.left_comm : U F (U G H) = U G (U F H) := by rw [← U.assoc, U.comm (F := F), U.assoc]
theorem Dj.u (d : Dj F H) (d' : Dj G H) : Dj (U F G) H := fun b h k => h.elim (fun h => d b h k) (fun h => d' b h k)
theorem Dj.ul (d : Dj (U F G) H) : Dj F H := fun b h k => d b (.inl h) k
theorem Dj.ur (d : Dj (U F G) H) : Dj G H := fun b h k => d b (.inr h) k
theorem Dj.u' (d : Dj H F) (d' : Dj H G) : Dj H (U F G) := fun b k h => h.elim (fun h => d b k h) (fun h => d' b k h)
theorem Dj.ul' (d : Dj H (U F G)) : Dj H F := fun b k h => d b k (.inl h)
theorem Dj.ur' (d : Dj H (U F G)) : Dj H G := fun b k h => d b k (.inr h)
theorem Dj.no' : Dj F No := fun _ _ h => h
theorem Dj.mono (d : Dj F G) (h1 : ∀ b, F' b → F b) (h2 : ∀ b, G' b → G b) : Dj F' G' := fun b k l => d b (h1 b k) (h2 b l)
end
structure Res where
 p : Heap → Heap → Foot → Prop
 z : Heap → Prop
 lt : ∀ {h m F}, p h m F → ∀ b, F b → b < h.size
 nl : ∀ {h m F}, p h m F → ∀ b, F b → ¬ Live m b
 fr : ∀ {h m F h' m'}, p h m F → (∀ b, F b → h'[b]? = h[b]?) → Sub m m' → (∀ b, F b → ¬ Live m' b) → p h' m' F
 fz : ∀ {h m F G}, p h m F → Sub m h → (∀ b, F b → G b) → z (addV m h G)
def Res.vf (R : Res) : Prop := ∀ h m m' F, R.p h m F → Sub m' h → (∀ b, F b → ¬ Live m' b) → R.p h m' F
def rE : Res where
 p _ _ F := F = No
 z _ := True
 lt := by rintro h m F rfl b hb; exact hb.elim
 nl := by rintro h m F rfl b hb; exact hb.elim
 fr := fun h _ _ _ => h
 fz := fun _ _ _ => trivial
def Sep : List Res → Heap → Heap → Foot → Prop
 | [], _, _, F => F = No
 | R :: Rs, h, m, F => ∃ F1 F2, R.p h m F1 ∧ Sep Rs h m F2 ∧ Dj F1 F2 ∧ F = U F1 F2
def ZAll (m : Heap) : List Res → Prop
 | [] => True
 | R :: Rs => R.z m ∧ ZAll m Rs
def takeL : List Res → List Nat → List Res
 | _, [] => []
 | Rs, i :: is => (match Rs[i]? with | some R => R | none => rE) :: takeL (Rs.set i rE) is
def dropL : List Res → List Nat → List Res
 | Rs, [] => Rs
 | Rs, i :: is => dropL (Rs.set i rE) is
section
variable {h h' m m' : Heap} {F F1 F2 G : Foot} {Rs Rs' : List Res} {R R' : Res} {k : Nat}
theorem Sep.lt : ∀ {Rs : List Res} {F : Foot}, Sep Rs h m F → ∀ b, F b → b < h.size
 | [], _, hs, b, hb => by rw [show _ = No from hs] at hb; exact hb.elim
 | _ :: _, _, ⟨_, _, h1, h2, _, rfl⟩, b, hb => hb.elim (Res.lt _ h1 b) (Sep.lt h2 b)
theorem Sep.nl : ∀ {Rs : List Res} {F : Foot}, Sep Rs h m F → ∀ b, F b → ¬ Live m b
 | [], _, hs, b, hb => by rw [show _ = No from hs] at hb; exact hb.elim
 | _ :: _, _, ⟨_, _, h1, h2, _, rfl⟩, b, hb => hb.elim (Res.nl _ h1 b) (Sep.nl h2 b)
theorem Sep.fr : ∀ {Rs : List Res} {F : Foot}, Sep Rs h m F → (∀ b, F b → h'[b]? = h[b]?) → Sub m m' → (∀ b, F b → ¬ Live m' b) → Sep Rs h' m' F
 | [], _, hs, _, _, _ => hs
 | _ :: _, _, ⟨F1, F2, h1, h2, h3, rfl⟩, k1, k2, k3 => ⟨F1, F2, Res.fr _ h1 (fun b hb => k1 b (.inl hb)) k2 (fun b hb => k3 b (.inl hb)), Sep.fr h2 (fun b hb => k1 b (.inr hb)) k2 (fun b hb => k3 b (.inr hb)), h3, rfl⟩
theorem Sep.fz : ∀ {Rs : List Res} {F : Foot}, Sep Rs h m F → Sub m h → (∀ b, F b → G b) → ZAll (addV m h G) Rs
 | [], _, _, _, _ => trivial
 | _ :: _, _, ⟨F1, F2, h1, h2, h3, rfl⟩, k1, k2 => ⟨Res.fz _ h1 k1 (fun b hb => k2 b (.inl hb)), Sep.fz h2 k1 (fun b hb => k2 b (.inr hb))⟩
theorem Sep.vf : ∀ {Rs : List Res} {F : Foot}, Sep Rs h m F → (∀ R ∈ Rs, R.vf) → Sub m' h → (∀ b, F b → ¬ Live m' b) → Sep Rs h m' F
 | [], _, hs, _, _, _ => hs
 | R :: Rs, _, ⟨F1, F2, h1, h2, h3, rfl⟩, v, k1, k2 => ⟨F1, F2, v R (List.mem_cons_self ..) _ _ _ _ h1 k1 (fun b hb => k2 b (.inl hb)), Sep.vf h2 (fun R hR => v R (List.mem_cons_of_mem _ hR)) k1 (fun b hb => k2 b (.inr hb)), h3, rfl⟩
theorem Sep.get : ∀ {Rs : List Res} {F : Foot} {k : Nat}, Sep Rs h m F → Rs[k]? = some R → ∃ F1 F2, R.p h m F1 ∧ Sep (Rs.set k rE) h m F2 ∧ Dj F1 F2 ∧ F = U F1 F2
 | [], _, _, _, hk => by cases hk
 | R' :: Rs, _, 0, ⟨F1, F2, h1, h2, h3, e⟩, hk => by
   cases hk
   exact ⟨F1, F2, h1, ⟨No, F2, rfl, h2, .no, U.no_left.symm⟩, h3, e⟩
 | R' :: Rs, _, k + 1, ⟨F1, F2, h1, h2, h3, e⟩, hk => by
   obtain ⟨G1, G2, k1, k2, k3, rfl⟩ := Sep.get h2 (show Rs[k]? = some R by simpa using hk)
   refine ⟨G1, U F1 G2, k1, ⟨F1, G2, h1, k2, h3.ur', rfl⟩, ?_, ?_⟩
   · exact Dj.u' h3.ul'.symm k3
   · rw [e, U.left_comm]
theorem Sep.put : ∀ {Rs : List Res} {F2 : Foot} {k : Nat}, Sep Rs h m F2 → Rs[k]? = some rE → R'.p h m F1 → Dj F1 F2 → Sep (Rs.set k R') h m (U F1 F2)
 | [], _, _, _, hk, _, _ => by cases hk
 | R :: Rs, _, 0, ⟨G1, G2, h1, h2, h3, e⟩, hk, hp, d => by
   cases hk
   have : G1 = No := h1
   subst this
   rw [U.no_left] at e
   subst e
   exact ⟨F1, _, hp, h2, d, rfl⟩
 | R :: Rs, _, k + 1, ⟨G1, G2, h1, h2, h3, e⟩, hk, hp, d => by
   subst e
   have := Sep.put h2 (show Rs[k]? = some rE by simpa using hk) hp d.ur'
   exact ⟨G1, _, h1, this, Dj.u' d.ul'.symm h3, by rw [U.left_comm]⟩
theorem Sep.app : ∀ {Rs : List Res} {F : Foot}, Sep Rs h m F → Sep Rs' h m G → Dj F G → Sep (Rs ++ Rs') h m (U F G)
 | [], _, hs, hs', _ => by rw [show _ = No from hs, U.no_left]; exact hs'
 | R :: Rs, _, ⟨F1, F2, h1, h2, h3, e⟩, hs', d => by
   subst e
   exact ⟨F1, _, h1, Sep.app h2 hs' d.ur, Dj.u' h3 d.ul, U.assoc⟩
theorem Sep.one (hp : R.p h m F) : Sep [R] h m F := ⟨F, No, hp, rfl, .no', U.no_right.symm⟩
theorem set_rE (hk : Rs[k]? = some R) : (Rs.set k rE)[k]? = some rE := by
 have : k < Rs.length := (List.getElem?_eq_some_iff.1 hk).1
 rw [List.getElem?_set_self this]
theorem Sep.part : ∀ (is : List Nat) {Rs : List Res} {F : Foot}, Sep Rs h m F → ∃ F1 F2, Sep (takeL Rs is) h m F1 ∧ Sep (dropL Rs is) h m F2 ∧ Dj F1 F2 ∧ F = U F1 F2
 | [], Rs, F, hs => ⟨No, F, rfl, hs, .no, U.no_left.symm⟩
 | i :: is, Rs, F, hs => by
   cases hi : Rs[i]? with
   | none =>
     have : Rs.set i rE = Rs := List.set_eq_of_length_le (List.getElem?_eq_none_iff.1 hi)
     obtain ⟨F1, F2, h1, h2, h3, h4⟩ := Sep.part is (Rs := Rs.set i rE) (by rw [this]; exact hs)
     refine ⟨F1, F2, ?_, h2, h3, h4⟩
     simp only [takeL, hi]
     exact ⟨No, F1, rfl, h1, .no, U.no_left.symm⟩
   | some R =>
     obtain ⟨G1, G2, k1, k2, k3, rfl⟩ := Sep.get hs hi
     obtain ⟨F1, F2, h1, h2, h3, rfl⟩ := Sep.part is k2
     refine ⟨U G1 F1, F2, ?_, h2, Dj.u k3.ur' h3, U.assoc.symm⟩
     simp only [takeL, hi]
     exact ⟨G1, F1, k1, h1, k3.ul', rfl⟩
end
structure Hold (W : Foot) (h0 m0 h m : Heap) (Rs : List Res) : Prop where
 S : St W h0 m0 h m
 q : ∃ F, Sep Rs h m F ∧ ∀ b, F b → h0.size ≤ b ∨ W b
section
variable {h0 m0 h h' m m' : Heap} {W F F' G : Foot} {Rs Rs' : List Res} {R R' : Res} {k : Nat}
theorem Hold.s (O : Hold W h0 m0 h m Rs) : Sub m h := O.S.s
theorem Hold.up (O : Hold W h0 m0 h m Rs) : Sub m0 m := O.S.up
theorem Hold.start (s : Sub m h) : Hold W h m h m [] := ⟨.refl s, No, rfl, fun _ h => h.elim⟩
theorem St.frame (T : St F h m h' m') (h2 : Dj F G) (h3 : ∀ b, G b → b < h.size) (h4 : ∀ b, G b → ¬ Live m b) : (∀ b, G b → h'[b]? = h[b]?) ∧ ∀ b, G b → ¬ Live m' b :=
 ⟨fun b hb => T.fr b (h3 b hb) (fun hf => h2 b hf hb), fun b hb hl => (T.lv b (h3 b hb) hl).elim (h4 b hb) (fun hf => h2 b hf hb)⟩
theorem Hold.get (O : Hold W h0 m0 h m Rs) (k : Nat) (hk : Rs[k]? = some R) : ∃ F, R.p h m F ∧ (∀ b, F b → h0.size ≤ b ∨ W b) ∧
   ∀ {h' m' : Heap} {R' : Res} {F' : Foot}, St F h m h' m' → R'.p h' m' F' → (∀ b, F' b → F b ∨ h.size ≤ b) → Hold W h0 m0 h' m' (Rs.set k R') := by
 obtain ⟨S, FF, hs, hw⟩ := O
 obtain ⟨F1, F2, h1, h2, h3, rfl⟩ := hs.get hk
 refine ⟨F1, h1, fun b hb => hw b (.inl hb), fun {h' m' R' F'} T hp hn => ?_⟩
 obtain ⟨f1, f2⟩ := T.frame h3 h2.lt h2.nl
 have s2 := Sep.fr h2 f1 T.up f2
 have d : Dj F' F2 := fun b hb hc => (hn b hb).elim (fun hf => h3 b hf hc) (fun hl => by have := h2.lt b hc; omega)
 have := Sep.put s2 (set_rE hk) hp d
 rw [List.set_set] at this
 refine ⟨S.then T (fun b _ hb => hw b (.inl hb)), _, this, fun b hb => hb.elim (fun hb => (hn b hb).elim (fun hf => hw b (.inl hf)) (fun hl => .inl (Nat.le_trans S.size hl))) (fun hb => hw b (.inr hb))⟩
theorem Hold.add (O : Hold W h0 m0 h m Rs) (T : St No h m h' m') (hp : R.p h' m' F') (hn : ∀ b, F' b → h.size ≤ b) : Hold W h0 m0 h' m' (Rs ++ [R]) := by
 obtain ⟨S, F, hs, hw⟩ := O
 obtain ⟨f1, f2⟩ := T.frame (G := F) .no hs.lt hs.nl
 refine ⟨S.grow T, _, (Sep.fr hs f1 T.up f2).app (.one hp) (fun b hb hc => by have := hs.lt b hb; have := hn b hc; omega), fun b hb => hb.elim (hw b) (fun hb => .inl (Nat.le_trans S.size (hn b hb)))⟩
theorem Hold.grow (O : Hold W h0 m0 h m Rs) (T : St No h m h' m') : Hold W h0 m0 h' m' Rs := by
 obtain ⟨S, F, hs, hw⟩ := O
 obtain ⟨f1, f2⟩ := T.frame (G := F) .no hs.lt hs.nl
 exact ⟨S.grow T, F, Sep.fr hs f1 T.up f2, hw⟩
theorem Hold.ext (O : Hold W h0 m0 h m Rs) (e : Ext h h') : Hold W h0 m0 h' m Rs := O.grow (St.of_ext O.s e)
theorem Hold.adds (O : Hold W h0 m0 h m Rs) (hp : R.p h m No) : Hold W h0 m0 h m (Rs ++ [R]) := O.add (.refl O.s) hp (fun _ h => h.elim)
theorem Hold.conv (O : Hold W h0 m0 h m Rs) (k : Nat) (hk : Rs[k]? = some R) (H : ∀ F, R.p h m F → ∃ F', R'.p h m F' ∧ ∀ b, F' b → F b) : Hold W h0 m0 h m (Rs.set k R') := by
 obtain ⟨F, h1, _, h3⟩ := O.get k hk
 obtain ⟨F', h4, h5⟩ := H F h1
 exact h3 (.refl O.s) h4 (fun b hb => .inl (h5 b hb))
theorem Hold.pick (O : Hold W h0 m0 h m Rs) (is : List Nat) : Hold W h0 m0 h m (takeL Rs is) := by
 obtain ⟨S, F, hs, hw⟩ := O
 obtain ⟨F1, F2, h1, h2, h3, rfl⟩ := hs.part is
 exact ⟨S, F1, h1, fun b hb => hw b (.inl hb)⟩
theorem Hold.call (O : Hold W h0 m0 h m Rs) (is : List Nat) : ∃ W', Hold W' h m h m (takeL Rs is) ∧ ∀ {h' m' : Heap} {Rs' : List Res}, Hold W' h m h' m' Rs' → Hold W h0 m0 h' m' (dropL Rs is ++ Rs') := by
 obtain ⟨S, F, hs, hw⟩ := O
 obtain ⟨F1, F2, h1, h2, h3, rfl⟩ := hs.part is
 refine ⟨F1, ⟨.refl S.s, F1, h1, fun b hb => .inr hb⟩, fun {h' m' Rs'} O' => ?_⟩
 obtain ⟨T, F', hs', hw'⟩ := O'
 obtain ⟨f1, f2⟩ := T.frame h3 h2.lt h2.nl
 refine ⟨S.then T (fun b _ hb => hw b (.inl hb)), _, (Sep.fr h2 f1 T.up f2).app hs' (fun b hb hc => (hw' b hc).elim (fun hl => by have := h2.lt b hb; omega) (fun hf => h3 b hf hb)), fun b hb => hb.elim (fun hb => hw b (.inr hb)) (fun hb => (hw' b hb).elim (fun hl => .inl (Nat.le_trans S.size hl)) (fun hf => hw b (.inl hf)))⟩
theorem Hold.callC (O : Hold W h0 m0 h m Rs) (is : List Nat) : ∃ W', Hold W' h m h m (takeL Rs is) ∧
   (∀ {h' m' : Heap} {Rs' : List Res}, Hold W' h m h' m' Rs' → Hold W h0 m0 h' m' (dropL Rs is ++ Rs')) ∧
   (∀ {h' m' : Heap} {Rs' : List Res}, Hold W' h m h' m' Rs' → (∀ R ∈ Rs', R.vf) → Hold W h0 m0 h' m (dropL Rs is ++ Rs')) := by
 obtain ⟨S, F, hs, hw⟩ := O
 obtain ⟨F1, F2, h1, h2, h3, rfl⟩ := hs.part is
 have key : ∀ {h' m' : Heap} {Rs' : List Res}, Hold F1 h m h' m' Rs' → Hold W h0 m0 h' m' (dropL Rs is ++ Rs') := fun {h' m' Rs'} O' => by
   obtain ⟨T, F', hs', hw'⟩ := O'
   obtain ⟨f1, f2⟩ := T.frame h3 h2.lt h2.nl
   exact ⟨S.then T (fun b _ hb => hw b (.inl hb)), _, (Sep.fr h2 f1 T.up f2).app hs' (fun b hb hc => (hw' b hc).elim (fun hl => by have := h2.lt b hb; omega) (fun hf => h3 b hf hb)), fun b hb => hb.elim (fun hb => hw b (.inr hb)) (fun hb => (hw' b hb).elim (fun hl => .inl (Nat.le_trans S.size hl)) (fun hf => hw b (.inl hf)))⟩
 refine ⟨F1, ⟨.refl S.s, F1, h1, fun b hb => .inr hb⟩, key, fun {h' m' Rs'} O' v => key ?_⟩
 obtain ⟨T, F', hs', hw'⟩ := O'
 have T' : St F1 h m h' m := T.unlend S.s h1.nl
 exact ⟨T', F', hs'.vf v T'.s (fun b hb hv => (hw' b hb).elim (fun hl => by have := S.s.lt hv; omega) (fun hf => h1.nl b hf hv)), hw'⟩
theorem Hold.lend (O : Hold W h0 m0 h m Rs) (is ls : List Nat) : ∃ m1 W', Sub m m1 ∧ Hold W' h m1 h m1 (takeL Rs is) ∧ ZAll m1 (takeL (dropL Rs is) ls) ∧
   (∀ {h' m' : Heap} {Rs' : List Res}, Hold W' h m1 h' m' Rs' → Hold W h0 m0 h' m' (dropL (dropL Rs is) ls ++ Rs')) ∧
   (∀ {h' m' : Heap} {Rs' : List Res}, Hold W' h m1 h' m' Rs' → (∀ R ∈ Rs', R.vf) → Hold W h0 m0 h' m (dropL Rs is ++ Rs')) := by
 obtain ⟨S, F, hs, hw⟩ := O
 obtain ⟨F1, F2, h1, h2, h3, rfl⟩ := hs.part is
 obtain ⟨F3, F4, k1, k2, k3, rfl⟩ := h2.part ls
 have hl : ∀ b, Live (addV m h F3) b → Live m b ∨ F3 b := fun b h => (addV_live h).1
 have n1 : ∀ b, F1 b → ¬ Live (addV m h F3) b := fun b hb hv => (hl b hv).elim (h1.nl b hb) (fun hf => h3 b hb (.inl hf))
 have n4 : ∀ b, F4 b → ¬ Live (addV m h F3) b := fun b hb hv => (hl b hv).elim (k2.nl b hb) (fun hf => k3 b hf hb)
 refine ⟨addV m h F3, F1, addV_up S.s, ⟨.refl addV_sub, F1, Sep.fr h1 (fun _ _ => rfl) (addV_up S.s) n1, fun b hb => .inr hb⟩, k1.fz S.s (fun _ h => h), fun {h' m' Rs'} O' => ?_, fun {h' m' Rs'} O' v => ?_⟩
 · obtain ⟨T, F', hs', hw'⟩ := O'
   have k4 := Sep.fr k2 (fun _ _ => rfl) (addV_up S.s) n4
   obtain ⟨f1, f2⟩ := T.frame h3.ur' k2.lt n4
   refine ⟨(S.then (St.settle S.s F3) (fun b _ hb => hw b (.inr (.inl hb)))).then T (fun b _ hb => hw b (.inl hb)), _, (Sep.fr k4 f1 T.up f2).app hs' (fun b hb hc => (hw' b hc).elim (fun hl => by have := k2.lt b hb; omega) (fun hf => h3 b hf (.inr hb))), fun b hb => hb.elim (fun hb => hw b (.inr (.inr hb))) (fun hb => (hw' b hb).elim (fun hl => .inl (Nat.le_trans S.size hl)) (fun hf => hw b (.inl hf)))⟩
 · obtain ⟨T, F', hs', hw'⟩ := O'
   have T' : St F1 h m h' m := T.unlend S.s h1.nl
   obtain ⟨f1, f2⟩ := T'.frame h3 h2.lt h2.nl
   have n' : ∀ b, F' b → ¬ Live m b := fun b hb hv => (hw' b hb).elim (fun hl => by have := S.s.lt hv; omega) (fun hf => h1.nl b hf hv)
   refine ⟨S.then T' (fun b _ hb => hw b (.inl hb)), _, (Sep.fr h2 f1 T'.up f2).app (hs'.vf v T'.s n') (fun b hb hc => (hw' b hc).elim (fun hl => by have := h2.lt b hb; omega) (fun hf => h3 b hf hb)), fun b hb => hb.elim (fun hb => hw b (.inr hb)) (fun hb => (hw' b hb).elim (fun hl => .inl (Nat.le_trans S.size hl)) (fun hf => hw b (.inl hf)))⟩
end
end Go.Hw

end
section
set_option linter.unusedVariables false
namespace Go.Hw
open Go
structure Asn (α : Type) (sz : Nat) where
 p : Heap → Heap → α → List Value → Foot → Prop
 E : Heap → α → List Value → Prop
 T : Tell sz E
 len : ∀ {h m x cs F}, p h m x cs F → cs.length = sz
 flat : ∀ {h m x cs F}, p h m x cs F → ∀ v ∈ cs, Flat v
 lt : ∀ {h m x cs F}, p h m x cs F → ∀ b, F b → b < h.size
 nl : ∀ {h m x cs F}, p h m x cs F → ∀ b, F b → ¬ Live m b
 fr : ∀ {h m x cs F h' m'}, p h m x cs F → (∀ b, F b → h'[b]? = h[b]?) → Sub m m' → (∀ b, F b → ¬ Live m' b) → p h' m' x cs F
 fz : ∀ {h m x cs F G}, p h m x cs F → Sub m h → (∀ b, F b → G b) → E (addV m h G) x cs
def aE {α : Type} {sz : Nat} {E : Heap → α → List Value → Prop} (T : Tell sz E) : Asn α sz where
 p _ m x cs F := E m x cs ∧ F = No
 E := E
 T := T
 len h := T.len _ _ _ h.1
 flat h := T.flat _ _ _ h.1
 lt := by rintro h m x cs F ⟨_, rfl⟩ b hb; exact hb.elim
 nl := by rintro h m x cs F ⟨_, rfl⟩ b hb; exact hb.elim
 fr := fun h _ s _ => ⟨T.mono _ _ _ _ s h.1, h.2⟩
 fz := fun h s _ => T.mono _ _ _ _ (addV_up s) h.1
def Asn.vf {α : Type} {sz : Nat} (a : Asn α sz) : Prop := ∀ h m m' x cs F, a.p h m x cs F → Sub m' h → (∀ b, F b → ¬ Live m' b) → a.p h m' x cs F
theorem aE_vf {α : Type} {sz : Nat} {E : Heap → α → List Value → Prop} {T : Tell sz E} (hE : ∀ m m' x cs, E m x cs → E m' x cs) : (aE T).vf := fun _ _ _ _ _ _ h _ _ => ⟨hE _ _ _ _ h.1, h.2⟩
theorem Blk.fr {h h' : Heap} {b : Nat} {c : List Value} {t : TypeId} (hb : Blk h b c t) (e : h'[b]? = h[b]?) : Blk h' b c t := by unfold Blk at *; rw [e]; exact hb
def rV (b : Nat) (t : TypeId) (cs : List Value) : Res where
 p h m F := Blk h b cs t ∧ ¬ Live m b ∧ F = fb b
 z m := Blk m b cs t
 lt := by rintro h m F ⟨h1, _, rfl⟩ i hi; unfold fb at hi; subst hi; exact h1.lt
 nl := by rintro h m F ⟨h1, h2, rfl⟩ i hi; unfold fb at hi; subst hi; exact h2
 fr := by rintro h m F h' m' ⟨h1, h2, rfl⟩ k1 _ k3; exact ⟨h1.fr (k1 b rfl), k3 b rfl, rfl⟩
 fz := by rintro h m F G ⟨h1, h2, rfl⟩ _ k2; exact h1.settle (k2 b rfl)
theorem rV_vf {b : Nat} {t : TypeId} {cs : List Value} : (rV b t cs).vf := by rintro h m m' F ⟨h1, _, rfl⟩ _ k2; exact ⟨h1, k2 b rfl, rfl⟩
section
variable {α : Type} {sz : Nat}
def CsA (a : Asn α sz) (h m : Heap) : List α → List Value → Foot → Prop
 | [], cs, F => cs = [] ∧ F = No
 | x :: l, cs, F => ∃ c1 c2 F1 F2, cs = c1 ++ c2 ∧ a.p h m x c1 F1 ∧ CsA a h m l c2 F2 ∧ Dj F1 F2 ∧ F = U F1 F2
variable {a : Asn α sz} {h h' m m' : Heap} {l l' : List α} {cs ds : List Value} {F F' F1 F2 G : Foot} {x y : α}
theorem CsA.len : ∀ {l : List α} {cs : List Value} {F : Foot}, CsA a h m l cs F → cs.length = l.length * sz
 | [], _, _, ⟨e, _⟩ => by rw [e]; simp
 | x :: l, _, _, ⟨c1, c2, F1, F2, e, h1, h2, _, _⟩ => by rw [e, List.length_append, CsA.len h2, a.len h1, List.length_cons, Nat.succ_mul, Nat.add_comm]
theorem CsA.flat : ∀ {l : List α} {cs : List Value} {F : Foot}, CsA a h m l cs F → ∀ v ∈ cs, Flat v
 | [], _, _, ⟨e, _⟩ => by rw [e]; exact Flats.nil
 | x :: l, _, _, ⟨c1, c2, F1, F2, e, h1, h2, _, _⟩ => by
   rw [e]; intro v hv
   rcases List.mem_append.1 hv with hv | hv
   · exact a.flat h1 v hv
   · exact CsA.flat h2 v hv
theorem CsA.lt : ∀ {l : List α} {cs : List Value} {F : Foot}, CsA a h m l cs F → ∀ b, F b → b < h.size
 | [], _, _, ⟨_, e⟩, b, hb => by rw [e] at hb; exact hb.elim
 | x :: l, _, _, ⟨c1, c2, F1, F2, _, h1, h2, _, rfl⟩, b, hb => hb.elim (a.lt h1 b) (CsA.lt h2 b)
theorem CsA.nl : ∀ {l : List α} {cs : List Value} {F : Foot}, CsA a h m l cs F → ∀ b, F b → ¬ Live m b
 | [], _, _, ⟨_, e⟩, b, hb => by rw [e] at hb; exact hb.elim
 | x :: l, _, _, ⟨c1, c2, F1, F2, _, h1, h2, _, rfl⟩, b, hb => hb.elim (a.nl h1 b) (CsA.nl h2 b)
theorem CsA.fr : ∀ {l : List α} {cs : List Value} {F : Foot}, CsA a h m l cs F → (∀ b, F b → h'[b]? = h[b]?) → Sub m m' → (∀ b, F b → ¬ Live m' b) → CsA a h' m' l cs F
 | [], _, _, hs, _, _, _ => hs
 | x :: l, _, _, ⟨c1, c2, F1, F2, e, h1, h2, d, rfl⟩, k1, k2, k3 => ⟨c1, c2, F1, F2, e, a.fr h1 (fun b hb => k1 b (.inl hb)) k2 (fun b hb => k3 b (.inl hb)), CsA.fr h2 (fun b hb => k1 b (.inr hb)) k2 (fun b hb => k3 b (.inr hb)), d, rfl⟩
theorem CsA.vf (v : a.vf) : ∀ {l : List α} {cs : List Value} {F : Foot}, CsA a h m l cs F → Sub m' h → (∀ b, F b → ¬ Live m' b) → CsA a h m' l cs F
 | [], _, _, hs, _, _ => hs
 | x :: l, _, _, ⟨c1, c2, F1, F2, e, h1, h2, d, rfl⟩, k1, k2 => ⟨c1, c2, F1, F2, e, v _ _ _ _ _ _ h1 k1 (fun b hb => k2 b (.inl hb)), CsA.vf v h2 k1 (fun b hb => k2 b (.inr hb)), d, rfl⟩
theorem CsA.fz : ∀ {l : List α} {cs : List Value} {F : Foot}, CsA a h m l cs F → Sub m h → (∀ b, F b → G b) → CsE sz a.E (addV m h G) l cs
 | [], _, _, ⟨e, _⟩, _, _ => e
 | x :: l, _, _, ⟨c1, c2, F1, F2, e, h1, h2, d, rfl⟩, k1, k2 => ⟨c1, c2, e, a.len h1, a.fz h1 k1 (fun b hb => k2 b (.inl hb)), CsA.fz h2 k1 (fun b hb => k2 b (.inr hb))⟩
theorem CsA.append : ∀ {l : List α} {cs : List Value} {F : Foot}, CsA a h m l cs F → CsA a h m l' ds F' → Dj F F' → CsA a h m (l ++ l') (cs ++ ds) (U F F')
 | [], _, _, ⟨e, e'⟩, h', _ => by subst e; subst e'; rw [U.no_left]; exact h'
 | x :: l, _, _, ⟨c1, c2, F1, F2, e, h1, h2, d, e'⟩, h', dd => by
   subst e; subst e'
   rw [List.append_assoc]
   exact ⟨c1, _, F1, _, rfl, h1, CsA.append h2 h' dd.ur, Dj.u' d dd.ul, U.assoc⟩
theorem CsE.csa {E : Heap → α → List Value → Prop} {T : Tell sz E} : ∀ {l : List α} {cs : List Value}, CsE sz E m l cs → CsA (aE T) h m l cs No
 | [], _, e => ⟨e, rfl⟩
 | x :: l, _, ⟨c1, c2, e, h1, h2, h3⟩ => ⟨c1, c2, No, No, e, ⟨h2, rfl⟩, CsE.csa h3, .no, U.no_left.symm⟩
theorem CsA.cse {E : Heap → α → List Value → Prop} {T : Tell sz E} : ∀ {l : List α} {cs : List Value} {F : Foot}, CsA (aE T) h m l cs F → CsE sz E m l cs ∧ F = No
 | [], _, _, ⟨e, e'⟩ => ⟨e, e'⟩
 | x :: l, _, _, ⟨c1, c2, F1, F2, e, ⟨h1, h1'⟩, h2, _, e'⟩ => by
   obtain ⟨h3, h3'⟩ := CsA.cse h2
   subst h1'; subst h3'
   exact ⟨⟨c1, c2, e, T.len _ _ _ h1, h1, h3⟩, by rw [e', U.no_left]⟩
end
section
variable {α : Type} {sz : Nat}
def rowP (a : Asn α sz) (A : Option Addr) (c : Nat) (l : List α) (h m : Heap) (F : Foot) : Prop :=
 (l = [] ∧ c = 0 ∧ F = No) ∨ ∃ b t pre cs rest Fe, c ≠ 0 ∧ A = some ⟨b, pre.length, none⟩ ∧ Blk h b (pre ++ cs ++ rest) t ∧ CsA a h m l cs Fe ∧ l.length ≤ c ∧ (c - l.length) * sz ≤ rest.length ∧ ¬ Live m b ∧ ¬ Fe b ∧ F = U (fb b) Fe
def rR (a : Asn α sz) (A : Option Addr) (c : Nat) (l : List α) : Res where
 p := rowP a A c l
 z m := Rd sz a.E m A l ∧ l.length ≤ c
 lt := by
   rintro h m F (⟨_, _, rfl⟩ | ⟨b, t, pre, cs, rest, Fe, k0, k1, k2, k3, k4, k5, k6, k7, rfl⟩) i hi
   · exact hi.elim
   · rcases hi with hi | hi
     · unfold fb at hi; subst hi; exact k2.lt
     · exact k3.lt i hi
 nl := by
   rintro h m F (⟨_, _, rfl⟩ | ⟨b, t, pre, cs, rest, Fe, k0, k1, k2, k3, k4, k5, k6, k7, rfl⟩) i hi
   · exact hi.elim
   · rcases hi with hi | hi
     · unfold fb at hi; subst hi; exact k6
     · exact k3.nl i hi
 fr := by
   rintro h m F h' m' (⟨e1, e2, rfl⟩ | ⟨b, t, pre, cs, rest, Fe, k0, k1, k2, k3, k4, k5, k6, k7, rfl⟩) f1 f2 f3
   · exact .inl ⟨e1, e2, rfl⟩
   · exact .inr ⟨b, t, pre, cs, rest, Fe, k0, k1, k2.fr (f1 b (.inl rfl)), k3.fr (fun i hi => f1 i (.inr hi)) f2 (fun i hi => f3 i (.inr hi)), k4, k5, f3 b (.inl rfl), k7, rfl⟩
 fz := by
   rintro h m F G (⟨e1, e2, rfl⟩ | ⟨b, t, pre, cs, rest, Fe, k0, k1, k2, k3, k4, k5, k6, k7, rfl⟩) f1 f2
   · subst e1; exact ⟨.nil, Nat.zero_le _⟩
   · subst k1
     exact ⟨CsE.rd (k2.settle (f2 b (.inl rfl))) (k3.fz f1 (fun i hi => f2 i (.inr hi))) (fun _ _ h => h), k4⟩
variable {a : Asn α sz} {h h' h0 m m' m0 : Heap} {A : Option Addr} {c n k : Nat} {l l' : List α} {F F' G W : Foot} {x : Int} {y : α} {v : Value} {cs : List Value} {Rs : List Res} {b : Nat} {t : TypeId} {aa : Addr}
variable {E : Heap → α → List Value → Prop} {T : Tell sz E}
theorem rR_vf (v : a.vf) : (rR a A c l).vf := by
 rintro h m m' F (⟨e1, e2, rfl⟩ | ⟨b, t, pre, cs, rest, Fe, k0, k1, k2, k3, k4, k5, k6, k7, rfl⟩) f1 f2
 · exact .inl ⟨e1, e2, rfl⟩
 · exact .inr ⟨b, t, pre, cs, rest, Fe, k0, k1, k2, k3.vf v f1 (fun i hi => f2 i (.inr hi)), k4, k5, f2 b (.inl rfl), k7, rfl⟩
theorem rowP.cap (o : rowP a A c l h m F) : l.length ≤ c := by
 rcases o with ⟨rfl, rfl, _⟩ | ⟨b, t, pre, cs, rest, Fe, k0, k1, k2, k3, k4, _⟩
 · exact Nat.le_refl _
 · exact k4
theorem rowP.os (o : rowP (aE T) A c l h m F) (hw : ∀ b, F b → h0.size ≤ b ∨ W b) : OS W h0 sz E h m A l c ∧ F = fp A c := by
 rcases o with ⟨rfl, rfl, rfl⟩ | ⟨b, t, pre, cs, rest, Fe, k0, k1, k2, k3, k4, k5, k6, k7, rfl⟩
 · exact ⟨.inl ⟨rfl, rfl⟩, funext fun b => propext ⟨fun h => h.elim, fun h => h.1 rfl⟩⟩
 · obtain ⟨k8, rfl⟩ := k3.cse
   refine ⟨.inr ⟨b, t, pre, cs, rest, k1, k2, k8, k4, k5, hw b (.inl rfl), k6⟩, ?_⟩
   rw [U.no_right]
   subst k1
   exact funext fun i => propext ⟨fun hi => ⟨k0, _, rfl, hi.symm⟩, fun ⟨_, a, e, hi⟩ => by cases e; exact hi.symm⟩
theorem OS.rowP (o : OS W h0 sz E h m A l c) : rowP (aE T) A c l h m (fp A c) := by
 by_cases hc : c = 0
 · subst hc
   have := o.cap
   exact .inl ⟨List.length_eq_zero_iff.1 (by omega), rfl, funext fun b => propext ⟨fun h => h.1 rfl, fun h => h.elim⟩⟩
 rcases o with ⟨rfl, rfl⟩ | ⟨b, t, pre, cs, rest, k1, k2, k3, k4, k5, k6, k7⟩
 · exact (hc rfl).elim
 · refine .inr ⟨b, t, pre, cs, rest, No, hc, k1, k2, k3.csa, k4, k5, k7, fun h => h, ?_⟩
   rw [U.no_right]
   subst k1
   exact funext fun i => propext ⟨fun ⟨_, a, e, hi⟩ => by cases e; exact hi.symm, fun hi => ⟨hc, _, rfl, hi.symm⟩⟩
theorem Hold.os (O : Hold W h0 m0 h m Rs) (k : Nat) (hk : Rs[k]? = some (rR (aE T) A c l)) : OS W h0 sz E h m A l c := by
 obtain ⟨F, h1, h2, _⟩ := O.get k hk
 exact (rowP.os h1 h2).1
theorem Hold.ob (O : Hold W h0 m0 h m Rs) (k : Nat) (hk : Rs[k]? = some (rV b t cs)) : OB W h0 h m b cs t := by
 obtain ⟨F, ⟨h1, h3, rfl⟩, h2, _⟩ := O.get k hk
 exact ⟨h1, h2 b rfl, h3⟩
theorem Hold.cap (O : Hold W h0 m0 h m Rs) (k : Nat) (hk : Rs[k]? = some (rR a A c l)) : l.length ≤ c := by
 obtain ⟨F, h1, _⟩ := O.get k hk
 exact rowP.cap h1
theorem Hold.all (O : Hold W h0 m0 h m Rs) (k : Nat) (hk : Rs[k]? = some (rV b t cs)) : cellsH h ⟨b, 0, none⟩ 0 cs.length = some cs := (O.ob k hk).all
theorem Hold.setV (O : Hold W h0 m0 h m Rs) (k : Nat) (hk : Rs[k]? = some (rV b t cs)) {cs' : List Value} (o : OB W h0 h' m b cs' t) (S : St (fb b) h m h' m) : Hold W h0 m0 h' m (Rs.set k (rV b t cs')) := by
 obtain ⟨F, ⟨h1, h3, rfl⟩, h2, h4⟩ := O.get k hk
 exact h4 S ⟨o.1, o.2.2, rfl⟩ (fun _ h => .inl h)
theorem Hold.setR (O : Hold W h0 m0 h m Rs) (k : Nat) (hk : Rs[k]? = some (rR (aE T) A c l)) (o : OS W h0 sz E h' m A l' c) (S : St (fp A c) h m h' m) : Hold W h0 m0 h' m (Rs.set k (rR (aE T) A c l')) := by
 obtain ⟨F, h1, h2, h4⟩ := O.get k hk
 obtain ⟨_, rfl⟩ := rowP.os h1 h2
 exact h4 S o.rowP (fun _ h => .inl h)
variable {K : Heap → Prop}
theorem Hold.new {z : Array Value} (O : Hold W h0 m0 h m Rs) (H : ∀ h', Ext h h' → Hold W h0 m0 h' m (Rs ++ [rV h.size t z.toList]) → K h') : newH h (.cells z t) K :=
 newH_in fun h' hb e hs => H h' e (O.add (St.of_ext O.s e) ⟨hb, St.notLive O.s, rfl⟩ (fun i hi => by unfold fb at hi; omega))
theorem Hold.st (O : Hold W h0 m0 h m Rs) (k : Nat) (hk : Rs[k]? = some (rV b t cs)) (j : Nat) (hj : j < cs.length) (hf : Flat v) (H : ∀ h', Hold W h0 m0 h' m (Rs.set k (rV b t (cs.set j v))) → K h') : ∃ h', st1 h (Addr.add ⟨b, 0, none⟩ j) v = some h' ∧ K h' := by
 obtain ⟨h', h1, h2, h3⟩ := (O.ob k hk).st O.s hj hf
 exact ⟨h', h1, H h' (O.setV k hk h2 h3)⟩
theorem Hold.st0 (O : Hold W h0 m0 h m Rs) (k : Nat) (hk : Rs[k]? = some (rV b t cs)) (hj : 0 < cs.length) (hf : Flat v) (H : ∀ h', Hold W h0 m0 h' m (Rs.set k (rV b t (cs.set 0 v))) → K h') : ∃ h', st1 h ⟨b, 0, none⟩ v = some h' ∧ K h' := O.st k hk 0 hj hf H
theorem Hold.stA (O : Hold W h0 m0 h m Rs) (k : Nat) (hk : Rs[k]? = some (rV b t cs)) {ds : List Value} (hn : ds.length = cs.length) (hf : ∀ v ∈ ds, Flat v) (H : ∀ h', Hold W h0 m0 h' m (Rs.set k (rV b t ds)) → K h') : ∃ h', stH h ⟨b, 0, none⟩ ds 0 = some h' ∧ K h' := by
 obtain ⟨h', h1, h2, h3⟩ := (O.ob k hk).stA O.s ds hn hf
 exact ⟨h', h1, H h' (O.setV k hk h2 h3)⟩
theorem Hold.stAO (O : Hold W h0 m0 h m Rs) (k : Nat) (hk : Rs[k]? = some (rV b t cs)) {ds : List Value} (hn : ds.length = cs.length) (hf : ∀ v ∈ ds, Flat v) (H : ∀ h', St (fun b' => b' = b) h m h' m → Hold W h0 m0 h' m (Rs.set k (rV b t ds)) → K h') : ∃ h', stH h ⟨b, 0, none⟩ ds 0 = some h' ∧ K h' := by
 obtain ⟨h', h1, h2, h3⟩ := (O.ob k hk).stA O.s ds hn hf
 exact ⟨h', h1, H h' h3 (O.setV k hk h2 h3)⟩
theorem Hold.elst (O : Hold W h0 m0 h m Rs) (k : Nat) (hk : Rs[k]? = some (rR (aE T) A c l)) (g : gi l x = some y) (ha : A = some aa) (hc : cellsH h (Addr.add aa (Int.toNat x * sz)) 0 sz = some cs) (j : Nat) (hj : j < sz) {y' : α} (hy : E m y' (cs.set j v)) (hf : Flat v) (e : l.set (Int.toNat x) y' = l')
   (H : ∀ h', Hold W h0 m0 h' m (Rs.set k (rR (aE T) A c l')) → K h') : ∃ h', st1 h (Addr.add (Addr.add aa (Int.toNat x * sz)) j) v = some h' ∧ K h' := by
 subst e
 obtain ⟨h', h1, h2, h3⟩ := (O.os k hk).st1k T O.s g ha hc j hj hy hf
 exact ⟨h', h1, H h' (O.setR k hk h2 h3)⟩
theorem Hold.elst0 (O : Hold W h0 m0 h m Rs) (k : Nat) (hk : Rs[k]? = some (rR (aE T) A c l)) (g : gi l x = some y) (ha : A = some aa) (hc : cellsH h (Addr.add aa (Int.toNat x * sz)) 0 sz = some cs) (hj : 0 < sz) {y' : α} (hy : E m y' (cs.set 0 v)) (hf : Flat v) (e : l.set (Int.toNat x) y' = l')
   (H : ∀ h', Hold W h0 m0 h' m (Rs.set k (rR (aE T) A c l')) → K h') : ∃ h', st1 h (Addr.add aa (Int.toNat x * sz)) v = some h' ∧ K h' := O.elst k hk g ha hc 0 hj hy hf e H
theorem Hold.elstA (O : Hold W h0 m0 h m Rs) (k : Nat) (hk : Rs[k]? = some (rR (aE T) A c l)) (g : gi l x = some y) (ha : A = some aa) (hc : cellsH h (Addr.add aa (Int.toNat x * sz)) 0 sz = some cs) {ds : List Value} {y' : α} (hy : E m y' ds) (hf : ∀ v ∈ ds, Flat v) (e : l.set (Int.toNat x) y' = l')
   (H : ∀ h', Hold W h0 m0 h' m (Rs.set k (rR (aE T) A c l')) → K h') : ∃ h', stH h (Addr.add aa (Int.toNat x * sz)) ds 0 = some h' ∧ K h' := by
 subst e
 obtain ⟨h', h1, h2, h3⟩ := (O.os k hk).stA T O.s g ha hc hy hf
 exact ⟨h', h1, H h' (O.setR k hk h2 h3)⟩
theorem Hold.nil (O : Hold W h0 m0 h m Rs) (a : Asn α sz) (A : Option Addr) : Hold W h0 m0 h m (Rs ++ [rR a A 0 []]) := O.adds (R := rR a A 0 []) (.inl ⟨rfl, rfl, rfl⟩)
theorem Hold.row (O : Hold W h0 m0 h m Rs) (k : Nat) (hk : Rs[k]? = some (rV b t cs)) (a : Asn α sz) (hc : ∃ F, CsA a h m l cs F ∧ F = No) (hn : l.length = c) (h0' : c ≠ 0) : Hold W h0 m0 h m (Rs.set k (rR a (some ⟨b, 0, none⟩) c l)) :=
 O.conv k hk (R' := rR a (some ⟨b, 0, none⟩) c l) fun F hF => by
   obtain ⟨h1, h2, rfl⟩ := hF
   obtain ⟨_, hc, rfl⟩ := hc
   exact ⟨_, .inr ⟨b, t, [], cs, [], No, h0', rfl, by simpa using h1, hc, by omega, by simp [hn], h2, fun h => h, rfl⟩, fun i hi => hi.elim id (fun h => h.elim)⟩
theorem Hold.rowE (O : Hold W h0 m0 h m Rs) (k : Nat) (hk : Rs[k]? = some (rV b t cs)) (T : Tell sz E) (hc : CsE sz E m l cs) (hn : l.length = c) : Hold W h0 m0 h m (Rs.set k (rR (aE T) (some ⟨b, 0, none⟩) c l)) := by
 by_cases h0' : c = 0
 · subst h0'
   refine O.conv k hk (R' := rR (aE T) (some ⟨b, 0, none⟩) 0 l) fun F _ => ⟨No, .inl ⟨List.length_eq_zero_iff.1 hn, rfl, rfl⟩, fun _ h => h.elim⟩
 · exact O.row k hk (aE T) ⟨No, hc.csa, rfl⟩ hn h0'
end
section
variable {α : Type} {sz : Nat} {a : Asn α sz} {h h' h0 m m' m0 : Heap} {A : Option Addr} {c n k : Nat} {l l' xs : List α} {F F' G W : Foot} {x : Int} {y : α} {v X : Value} {cs es : List Value} {Rs : List Res} {b : Nat} {t e : TypeId} {aa : Addr}
variable {E : Heap → α → List Value → Prop} {T : Tell sz E}
theorem rowP.app {bytes : Nat} {z : Array Value} {K : Value → Heap → Prop} {F2 : Foot} (o : rowP a A c l h m F) (s : Sub m h) (hn : n = l.length) (hz : z.size = sz) (h1 : srcCells sz X h = some (xs.length, es)) (h2 : CsA a h m xs es F2) (hd : Dj F F2) (hb0 : 0 < bytes) (g : ap bytes l xs = some l')
   (hk : ∀ A' c' h' F', rowP a A' c' l' h' m F' → St F h m h' m → (∀ b, F' b → F b ∨ F2 b ∨ h.size ≤ b) → K (.slice A' l'.length c') h') : AppW e sz bytes z A n c X h K := by
 subst hn
 obtain ⟨hb, rfl⟩ := ap_e g
 have he := h2.len
 refine ⟨xs.length, es, h1, ?_⟩
 have hpush : ∀ (old : List Value) (Fo : Foot) (hold : oldCells sz A l.length h = some old) (hE : CsA a h m l old Fo) (hFo : ∀ b, Fo b → F b), c < l.length + xs.length →
     ∃ old, oldCells sz A l.length h = some old ∧ ∀ c', l.length + xs.length ≤ c' → K (.slice (some ⟨h.size, 0, none⟩) (l.length + xs.length) c') (h.push (.cells (old.toArray ++ es.toArray ++ zcells z (c' - (l.length + xs.length))) e)) := by
   intro old Fo hold hE hFo hlt
   refine ⟨old, hold, fun c' hc' => ?_⟩
   rw [show (Value.slice (some ⟨h.size, 0, none⟩) (l.length + xs.length) c') = .slice (some ⟨h.size, 0, none⟩) (l ++ xs).length c' by rw [List.length_append]]
   have e1 := Ext.push h (Obj.cells (old.toArray ++ es.toArray ++ zcells z (c' - (l.length + xs.length))) e)
   have S1 := St.of_ext (W := F) s e1
   have hA := hE.append h2 (hd.mono hFo (fun _ h => h))
   have hA' := hA.fr (fun i hi => e1.2 i (hA.lt i hi)) (.refl _) (fun i hi => hA.nl i hi)
   refine hk _ _ _ _ (.inr ⟨h.size, e, [], old ++ es, (zcells z (c' - (l.length + xs.length))).toList, _, by omega, rfl, ?_, hA', by rw [List.length_append]; exact hc', ?_, St.notLive s, fun hf => by have := hA.lt _ hf; omega, rfl⟩) S1 ?_
   · have := Blk.new h (old.toArray ++ es.toArray ++ zcells z (c' - (l.length + xs.length))) e
     simpa using this
   · rw [zc_len, hz, List.length_append]; exact Nat.le_refl _
   · rintro i (hi | hi | hi)
     · unfold fb at hi; exact .inr (.inr (by omega))
     · exact .inl (hFo i hi)
     · exact .inr (.inl hi)
 rcases o with ⟨rfl, rfl, rfl⟩ | ⟨b, t, pre, cs, rest, Fe, k0, rfl, k1, k2, k3, k4, k5, k6, rfl⟩
 · by_cases hx : xs.length = 0
   · have hxs : xs = [] := List.length_eq_zero_iff.1 hx
     subst hxs
     obtain ⟨rfl, rfl⟩ : es = [] ∧ F2 = No := h2
     refine .inl ⟨by simp, ?_⟩
     have fin := hk A 0 h No (.inl ⟨rfl, rfl, rfl⟩) (St.refl s) (fun b hb => .inl hb)
     cases A with
     | none => exact .inl ⟨rfl, fin⟩
     | some a => exact .inr ⟨a, h, rfl, by simp [stH], fin⟩
   · refine .inr ⟨by simp; omega, by simpa using hb, hb0, ?_⟩
     refine hpush [] No ?_ ⟨rfl, rfl⟩ (fun _ h => h) (by simp; omega)
     cases A with
     | none => rfl
     | some a => simp [oldCells, cellsH]
 · have hl := k2.len
   by_cases hle : l.length + xs.length ≤ c
   · refine .inl ⟨hle, .inr ?_⟩
     have hmul : (c - l.length) * sz = xs.length * sz + (c - l.length - xs.length) * sz := by rw [← Nat.add_mul]; congr 1; omega
     have k1' : Blk h b ((pre ++ cs) ++ rest.take (xs.length * sz) ++ rest.drop (xs.length * sz)) t := by rw [List.append_assoc, List.take_append_drop]; exact k1
     obtain ⟨h', s1, b1, o1⟩ := Blk.stH es (a := (⟨b, pre.length, none⟩ : Addr).add (l.length * sz)) (i := 0) k1' (by rw [add_block]) (add_spot _ rfl) (by rw [add_off, List.length_append, hl, Nat.add_zero]) (by rw [List.length_take, he]; omega) (h2.flat)
     refine ⟨_, h', rfl, s1, ?_⟩
     rw [show (Value.slice (some ⟨b, pre.length, none⟩) (l.length + xs.length) c) = .slice (some ⟨b, pre.length, none⟩) (l ++ xs).length c by rw [List.length_append]]
     have S : St (fb b) h m h' m := .only s k5 o1
     have S2 : St (U (fb b) Fe) h m h' m := ⟨S.up, S.s, S.size, fun i hi hn => S.fr i hi (fun h => hn (.inl h)), fun i hi hl => .inl hl⟩
     have hA := k2.append h2 hd.ur
     have nb : ∀ i, U Fe F2 i → i ≠ b := fun i hi e' => by subst e'; exact hi.elim k6 (fun hf => hd i (.inl rfl) hf)
     have hA' := hA.fr (fun i hi => S.fr i (hA.lt i hi) (fun e' => nb i hi e')) (.refl _) (fun i hi => hA.nl i hi)
     refine hk _ _ _ _ (.inr ⟨b, t, pre, cs ++ es, rest.drop (xs.length * sz), _, k0, rfl, by rw [← List.append_assoc pre]; exact b1, hA', by rw [List.length_append]; exact hle, ?_, k5, fun hf => nb b hf rfl, rfl⟩) S2 ?_
     · rw [List.length_drop, List.length_append, show c - (l.length + xs.length) = c - l.length - xs.length by omega]; omega
     · rintro i (hi | hi | hi)
       · exact .inl (.inl hi)
       · exact .inl (.inr hi)
       · exact .inr (.inl hi)
   · refine .inr ⟨by omega, hb, hb0, ?_⟩
     refine hpush cs Fe ?_ k2 (fun _ h => .inr h) (by omega)
     have := k1.cells (a := ⟨b, pre.length, none⟩) rfl rfl (l.length * sz) 0 (by simp [hl])
     simp only [oldCells, this, Nat.add_zero]
     rw [List.append_assoc, List.drop_left, List.take_append_of_le_length (by omega), List.take_of_length_le (by omega)]
variable {K : Value → Heap → Prop} {bytes : Nat} {z : Array Value}
theorem Hold.app (O : Hold W h0 m0 h m Rs) (k : Nat) (hk : Rs[k]? = some (rR (aE T) A c l)) (hn : n = l.length) (hz : z.size = sz) (hs : Src sz E h m X xs) (hb0 : 0 < bytes) (g : ap bytes l xs = some l')
   (H : ∀ A' c' h', Hold W h0 m0 h' m (Rs.set k (rR (aE T) A' c' l')) → K (.slice A' l'.length c') h') : AppW e sz bytes z A n c X h K := by
 obtain ⟨F, h1, h2, h3⟩ := O.get k hk
 obtain ⟨es, s1, s2⟩ := hs
 refine rowP.app h1 O.s hn hz s1 (s2.csa (T := T)) .no' hb0 g fun A' c' h' F' q1 q2 q3 => H A' c' h' (h3 (R' := rR (aE T) A' c' l') q2 q1 fun b hb => ?_)
 rcases q3 b hb with hb | hb | hb
 · exact .inl hb
 · exact hb.elim
 · exact .inr hb
theorem Hold.app0 (O : Hold W h0 m0 h m Rs) (a : Asn α sz) (hn : n = 0) (hz : z.size = sz) (h1 : srcCells sz X h = some (xs.length, es)) (h2 : ∃ F, CsA a h m xs es F ∧ F = No) (hb0 : 0 < bytes) (g : ap bytes ([] : List α) xs = some l')
   (H : ∀ A' c' h', Ext h h' → Hold W h0 m0 h' m (Rs ++ [rR a A' c' l']) → K (.slice A' l'.length c') h') : AppW e sz bytes z A n 0 X h K := by
 obtain ⟨_, h2, rfl⟩ := h2
 refine rowP.app (a := a) (l := []) (F := No) (.inl ⟨rfl, rfl, rfl⟩) O.s hn hz h1 h2 .no' hb0 g fun A' c' h' F' q1 q2 q3 => H A' c' h' q2.ext (O.add q2 q1 fun b hb => ?_)
 rcases q3 b hb with hb | hb | hb
 · exact hb.elim
 · exact hb.elim
 · exact hb
theorem Hold.appE0 (O : Hold W h0 m0 h m Rs) (T : Tell sz E) (hn : n = 0) (hz : z.size = sz) (hs : Src sz E h m X xs) (hb0 : 0 < bytes) (g : ap bytes ([] : List α) xs = some l')
   (H : ∀ A' c' h', Ext h h' → Hold W h0 m0 h' m (Rs ++ [rR (aE T) A' c' l']) → K (.slice A' l'.length c') h') : AppW e sz bytes z A n 0 X h K := by
 obtain ⟨es, s1, s2⟩ := hs
 exact O.app0 (aE T) hn hz s1 ⟨No, s2.csa, rfl⟩ hb0 g H
end
end Go.Hw

end
section
set_option linter.unusedVariables false
namespace Go.Hw
open Go
section
variable {m h : Heap} {a : Addr} {cs ds : List Value} {N n k j : Nat} {v : Value}
theorem ldAn (s : Sub m h) (hc : cellsH m a 0 N = some cs) (hn : N = n) : ldv true n h a = some (.agg cs.toArray) := by subst hn; exact ldA s hc
theorem fld1 (hq : cs[k]? = some v) : fldv false 1 k (.agg cs.toArray) = some v := by simpa [fldv] using hq
theorem lset' {α : Type} {l l' : List α} {i : Nat} {y : α} (g : l.set i y = l') : l.length = l'.length := by rw [← g, List.length_set]
end
section
variable {α : Type} {sz : Nat} {a : Asn α sz} {h h' h0 m m' m0 : Heap} {A Ai : Option Addr} {c ci n k : Nat} {l li : List α} {ll ll' : List (List α)} {W : Foot} {x : Int} {y : α} {v : Value} {cs : List Value} {Rs Rs' : List Res} {b : Nat} {t : TypeId} {aa : Addr} {K : Heap → Prop}
variable {E : Heap → α → List Value → Prop} {T : Tell sz E}
theorem Hold.ret (O : Hold W h0 m0 h m Rs) (Q : Hold No h m h' m' Rs') : Hold W h0 m0 h' m' (Rs ++ Rs') := by
 obtain ⟨W', h1, h2⟩ := O.call []
 simp only [dropL, takeL] at h1 h2
 exact h2 ⟨⟨Q.S.up, Q.S.s, Q.S.size, fun b hb _ => Q.S.fr b hb (fun h => h), fun b hb hl => (Q.S.lv b hb hl).elim .inl (fun h => h.elim)⟩, by
   obtain ⟨F, k1, k2⟩ := Q.q
   exact ⟨F, k1, fun b hb => (k2 b hb).elim .inl (fun h => h.elim)⟩⟩
theorem vfs_nil : ∀ R ∈ ([] : List Res), R.vf := fun _ h => by cases h
theorem vfs_cons {R : Res} (v : R.vf) (w : ∀ R ∈ Rs, R.vf) : ∀ R' ∈ R :: Rs, R'.vf := fun R' h => by
 rcases List.mem_cons.1 h with rfl | h
 · exact v
 · exact w R' h
theorem Hold.retC (O : Hold W h0 m0 h m Rs) (Q : Hold No h m h' m' Rs') (v : ∀ R ∈ Rs', R.vf) : Hold W h0 m0 h' m (Rs ++ Rs') := by
 obtain ⟨m1, W', h1, h2, _, _, h5⟩ := O.lend [] []
 have s1 : Hold No h m h' m Rs' := by
   refine ⟨Q.S.unlend O.s (fun _ h => h.elim), ?_⟩
   obtain ⟨F, k1, k2⟩ := Q.q
   have T := Q.S.unlend O.s (fun _ h => h.elim)
   exact ⟨F, k1.vf v T.s (fun b hb hl => (k2 b hb).elim (fun h => by have := O.s.lt hl; omega) (fun h => h.elim)), k2⟩
 exact O.ret s1
theorem Hold.lend0 (O : Hold W h0 m0 h m Rs) (ls : List Nat) : ∃ m1, Sub m m1 ∧ Sub m1 h ∧ ZAll m1 (takeL Rs ls) ∧
   (∀ {h' m' : Heap} {Rs' : List Res}, Hold No h m1 h' m' Rs' → Hold W h0 m0 h' m' (dropL Rs ls ++ Rs')) ∧
   (∀ {h' m' : Heap} {Rs' : List Res}, Hold No h m1 h' m' Rs' → (∀ R ∈ Rs', R.vf) → Hold W h0 m0 h' m (Rs ++ Rs')) := by
 obtain ⟨m1, W', h1, h2, h3, h4, h5⟩ := O.lend [] ls
 simp only [dropL, takeL] at h2 h3 h4 h5
 have up : ∀ {h' m' : Heap} {Rs' : List Res}, Hold No h m1 h' m' Rs' → Hold W' h m1 h' m' Rs' := fun Q =>
   ⟨⟨Q.S.up, Q.S.s, Q.S.size, fun b hb _ => Q.S.fr b hb (fun h => h), fun b hb hl => (Q.S.lv b hb hl).elim .inl (fun h => h.elim)⟩, by
     obtain ⟨F, k1, k2⟩ := Q.q
     exact ⟨F, k1, fun b hb => (k2 b hb).elim .inl (fun h => h.elim)⟩⟩
 exact ⟨m1, h1, h2.s, h3, fun Q => h4 (up Q), fun Q v => h5 (up Q) v⟩
theorem Hold.recell (O : Hold W h0 m0 h m Rs) (k : Nat) (hk : Rs[k]? = some (rV b t cs)) {cs' : List Value} (e : cs = cs') : Hold W h0 m0 h m (Rs.set k (rV b t cs')) := by
 subst e
 exact O.conv k hk (R' := rV b t cs) fun F hF => ⟨F, hF, fun _ h => h⟩
end
section
variable {κ ν : Type} [DecidableEq κ] {h h' m m' h0 m0 : Heap} {b k : Nat} {W : Foot} {kv : κ → Value} {es : List (κ × ν)} {q : κ} {x zv : ν} {v z : Value} {P : Program} {t elem : TypeId} {EV : Heap → ν → Value → Prop} {M : MonoV EV} {Rs : List Res}
def FM (EV : Heap → ν → Value → Prop) (kv : κ → Value) (m : Heap) (b : Nat) (es : List (κ × ν)) : Prop := ∃ vs, MapB kv m b vs ∧ MR (EV m) es vs
def rM (M : MonoV EV) (kv : κ → Value) (b : Nat) (es : List (κ × ν)) : Res where
 p h m F := (∃ vs, MapB kv h b vs ∧ MR (EV m) es vs) ∧ ¬ Live m b ∧ F = fb b
 z m := FM EV kv m b es
 lt := by rintro h m F ⟨⟨vs, h1, _⟩, _, rfl⟩ i hi; unfold fb at hi; subst hi; exact h1.lt
 nl := by rintro h m F ⟨_, h2, rfl⟩ i hi; unfold fb at hi; subst hi; exact h2
 fr := by
   rintro h m F h' m' ⟨⟨vs, ⟨e, c, h1, h1'⟩, h2⟩, h3, rfl⟩ k1 k2 k3
   exact ⟨⟨vs, ⟨e, c, by rw [k1 b rfl]; exact h1, h1'⟩, h2.sub M k2⟩, k3 b rfl, rfl⟩
 fz := by
   rintro h m F G ⟨⟨vs, h1, h2⟩, h3, rfl⟩ k1 k2
   have hlt := h1.lt
   obtain ⟨e, c, h1, h1'⟩ := h1
   exact ⟨vs, ⟨e, c, by rw [addV_get hlt (.inr (k2 b rfl))]; exact h1, h1'⟩, h2.sub M (addV_up k1)⟩
omit [DecidableEq κ] in
theorem Hold.om (O : Hold W h0 m0 h m Rs) (k : Nat) (hk : Rs[k]? = some (rM M kv b es)) : OM W h0 EV kv h m b es := by
 obtain ⟨F, ⟨⟨vs, h1, h2⟩, h3, rfl⟩, h4, _⟩ := O.get k hk
 exact ⟨vs, h1, h2, h4 b rfl, h3⟩
omit [DecidableEq κ] in
theorem Hold.mkMap {K : Value → Heap → Prop} (O : Hold W h0 m0 h m Rs) (M : MonoV EV) (kv : κ → Value) (H : ∀ h', Ext h h' → Hold W h0 m0 h' m (Rs ++ [rM M kv h.size ([] : List (κ × ν))]) → K (.map (some h.size)) h') : Gen P (Instr.makeMap t none) h K :=
 gen_makeMap (kv := kv) fun h' b e _ => H h' e (O.add (R := rM M kv h.size ([] : List (κ × ν))) (St.of_ext O.s e) ⟨⟨[], b, rfl⟩, St.notLive O.s, rfl⟩ (fun i hi => by unfold fb at hi; omega))
theorem Hold.mapUpd {K : Unit → Heap → Prop} {es' : List (κ × ν)} (O : Hold W h0 m0 h m Rs) (k : Nat) (hk : Rs[k]? = some (rM M kv b es)) (ok : KeyOk P t kv elem) (q : κ) (he : EV m x v) (e : pset es q x = es') (H : ∀ h', Hold W h0 m0 h' m (Rs.set k (rM M kv b es')) → K () h') : Hwp P (Instr.mapUpdate t (.map (some b)) (kv q) v) h K := by
 subst e
 refine (O.om k hk).upd O.s ok q he fun h' o S => H h' ?_
 obtain ⟨F, ⟨_, h3, rfl⟩, h4, h5⟩ := O.get k hk
 obtain ⟨vs, k1, k2, _, k4⟩ := o
 exact h5 (R' := rM M kv b _) S ⟨⟨vs, k1, k2⟩, k4, rfl⟩ (fun _ h => .inl h)
end
end Go.Hw
namespace Go.Hw
end Go.Hw
namespace Go.Hw
open Go
class SetAt (k : Nat) (L : List Res) (r : Res) (out : outParam (List Res)) : Prop where
 eq : L.set k r = out
instance {a r : Res} {l : List Res} : SetAt 0 (a :: l) r (r :: l) := ⟨rfl⟩
instance {k : Nat} {a r : Res} {l o : List Res} [S : SetAt k l r o] : SetAt (k + 1) (a :: l) r (a :: o) := ⟨by rw [List.set_cons_succ, S.eq]⟩
class GetAt (k : Nat) (L : List Res) (r : outParam Res) : Prop where
 eq : L[k]? = some r
instance {a : Res} {l : List Res} : GetAt 0 (a :: l) a := ⟨rfl⟩
instance {k : Nat} {a r : Res} {l : List Res} [S : GetAt k l r] : GetAt (k + 1) (a :: l) r := ⟨by rw [List.getElem?_cons_succ, S.eq]⟩
class Apd (L M : List Res) (out : outParam (List Res)) : Prop where
 eq : L ++ M = out
instance {M : List Res} : Apd [] M M := ⟨rfl⟩
instance {a : Res} {l M o : List Res} [S : Apd l M o] : Apd (a :: l) M (a :: o) := ⟨by rw [List.cons_append, S.eq]⟩
class PickT (L : List Res) (is : List Nat) (T D : outParam (List Res)) : Prop where
 t : takeL L is = T
 d : dropL L is = D
instance {L : List Res} : PickT L [] [] L := ⟨rfl, rfl⟩
instance {L L2 T D : List Res} {i : Nat} {is : List Nat} {r : Res} [G : GetAt i L r] [S : SetAt i L rE L2] [P : PickT L2 is T D] : PickT L (i :: is) (r :: T) D := ⟨by simp only [takeL, G.eq, S.eq, P.t], by simp only [dropL, S.eq, P.d]⟩
class Nm (L : List Res) (out : outParam (List Res)) : Prop where
 eq : L = out
instance : Nm [] [] := ⟨rfl⟩
instance {a : Res} {l : List Res} : Nm (a :: l) (a :: l) := ⟨rfl⟩
instance {L L' o : List Res} {k : Nat} {r : Res} [N : Nm L L'] [S : SetAt k L' r o] : Nm (L.set k r) o := ⟨by rw [N.eq, S.eq]⟩
instance {L L' M M' o : List Res} [N : Nm L L'] [N' : Nm M M'] [S : Apd L' M' o] : Nm (L ++ M) o := ⟨by rw [N.eq, N'.eq, S.eq]⟩
instance {L L' T D : List Res} {is : List Nat} [N : Nm L L'] [S : PickT L' is T D] : Nm (takeL L is) T := ⟨by rw [N.eq, S.t]⟩
instance {L L' T D : List Res} {is : List Nat} [N : Nm L L'] [S : PickT L' is T D] : Nm (dropL L is) D := ⟨by rw [N.eq, S.d]⟩
theorem Hold.nm {W : Foot} {h0 m0 h m : Heap} {Rs Rs' : List Res} (O : Hold W h0 m0 h m Rs) [N : Nm Rs Rs'] : Hold W h0 m0 h m Rs' := N.eq ▸ O
end Go.Hw

end
section
namespace Go.Hw
open Go Go.RowKit
end Go.Hw

end
section
namespace Go.Hw
open Go
end Go.Hw

end
section
set_option linter.unusedVariables false
namespace Go.Hw
open Go
theorem sliceA_zero {A : Option Addr} {c sz : Nat} : sliceA A (Int.toNat (0 : Int)) c sz = A := by
 unfold sliceA
 split
 · rfl
 · cases A with
   | none => rfl
   | some a => simp [Addr.add]
end Go.Hw
namespace Go.Hw
open Go
end Go.Hw
namespace Go.Hw
open Go
end Go.Hw

end
section
set_option linter.unusedVariables false
namespace Go.Hw
open Go
end Go.Hw

end
section
set_option linter.unusedVariables false
namespace Go.Hw
open Go
end Go.Hw

end
section
set_option linter.unusedVariables false
namespace Go.Hw
open Go Go.RowKit
end Go.Hw

end
section
set_option linter.unusedVariables false
namespace Go.Hw
open Go
section
variable {P : Program} {h h' : Heap}
theorem gen_copy {t t' e ty : TypeId} {i : TypeInfo} {a b : Addr} {dn dc sn sc : Nat} {es : List Value} {K : Value → Heap → Prop} (hu : P.underlying t = some (.slice e)) (hi : P.info? e = some i)
   (hs : cellsH h b 0 (Nat.min sn dn * i.size) = some es) (hd : stH h a es 0 = some h') (hk : K (.int .i64 ((Nat.min sn dn : Nat) : Int)) h') : Gen P (Builtin.copy_ #[t, t'] ty #[.slice (some a) dn dc, .slice (some b) sn sc]) h K := by
 unfold Gen Builtin.copy_
 refine hwp_bind (hwp_underlying hu ?_)
 refine hwp_bind (s := Builtin.lenOf (.slice (some b) sn sc)) (hwp_pure ?_)
 refine hwp_bind (hwp_sizeOf hi ?_)
 refine hwp_bind (s := Builtin.firstCells i.size (Nat.min sn dn) (.slice (some b) sn sc)) (hwp_loadCells hs ?_)
 refine hwp_bind (hwp_storeCells a _ 0 hd ?_)
 exact hwp_pure hk
theorem overlaps_apart {tS e : TypeId} {rs : Array TypeId} {i : TypeInfo} {a b : Addr} {la ca lb cb : Nat} {cA : Array Value} {tA : TypeId} {fA : Nat × Nat} {cB : List Value} {tB : TypeId} {K : Value → Heap → Prop} (hu : P.underlying tS = some (.slice e)) (hi : P.info? e = some i)
   (hne : a.block ≠ b.block) (hA : h[a.block]? = some (.cells cA tA fA)) (hA0 : cA.size ≠ 0) (hB : Blk h b.block cB tB) (hk : K (.bool false) h) :
   Hwp P (Extern.SlicesOverlaps.overlaps #[tS, tS] rs #[.slice (some a) la ca, .slice (some b) lb cb]) h K := by
 have hnb : (a.block != b.block) = true := by simpa using hne
 have hnb' : (a.block == b.block) = false := by simpa using hne
 have fB : ∀ o, frozenH h ⟨b.block, o, b.spot⟩ = false := by intro o; unfold frozenH; rw [show h[(⟨b.block, o, b.spot⟩ : Addr).block]? = _ from hB]; simp
 have fB' : ∀ o, frozenH h ⟨b.block, o, none⟩ = false := by intro o; unfold frozenH; rw [show h[(⟨b.block, o, none⟩ : Addr).block]? = _ from hB]; simp
 have sA : shapeH h a.block = some (tA, cA.size) := by unfold shapeH; rw [hA]
 have sB : shapeH h b.block = some (tB, cB.length) := by unfold shapeH; rw [show h[b.block]? = _ from hB]; simp
 unfold Extern.SlicesOverlaps.overlaps
 refine hwp_bind (hwp_underlying hu ?_)
 refine hwp_bind (hwp_sizeOf hi ?_)
 show Hwp P (if la = 0 ∨ lb = 0 ∨ i.size = 0 then _ else _) h K
 by_cases h0 : la = 0 ∨ lb = 0 ∨ i.size = 0
 · rw [if_pos h0]; exact hwp_pure hk
 rw [if_neg h0]
 have fb : frozenH h b = false := fB b.off
 have nv : ∀ (x : Addr) (c : Array Value) (t : TypeId) (K' : Unit → Heap → Prop), shapeH h x.block = some (t, c.size) → K' () h → Hwp P (noView x) h K' := by
   intro x c t K' hs hk'
   unfold noView
   refine hwp_bind (s := viewAt x.block) ?_
   unfold viewAt
   refine hwp_bind (s := shape x.block) ?_
   show Hwp P (if (shapeH h x.block).isSome = true then _ else _) h _
   rw [hs, if_pos (show (some (t, c.size)).isSome = true from rfl)]
   exact hk'
 have st : Hwp P (stringish b) h (fun v h' => v = false ∧ h' = h) := by
   unfold stringish
   refine hwp_bind (s := frozen b) ?_
   show Hwp P (if frozenH h b = true then _ else _) h _
   rw [fb, if_neg (by decide)]
   refine hwp_bind (s := shape b.block) ?_
   show Hwp P (match shapeH h b.block with | some (_, n) => frozen { block := b.block, off := n } | none => pure false) h _
   rw [sB]
   exact ⟨fB' _, rfl⟩
 have sta : ∃ x, Hwp P (stringish a) h (fun v h' => v = x ∧ h' = h) := by
   refine ⟨if frozenH h a = true then true else frozenH h ⟨a.block, cA.size, none⟩, ?_⟩
   unfold stringish
   refine hwp_bind (s := frozen a) ?_
   show Hwp P (if frozenH h a = true then _ else _) h _
   by_cases q : frozenH h a = true
   · rw [if_pos q, if_pos q]; exact ⟨rfl, rfl⟩
   · rw [if_neg q, if_neg q]
     refine hwp_bind (s := shape a.block) ?_
     show Hwp P (match shapeH h a.block with | some (_, n) => frozen { block := a.block, off := n } | none => pure false) h _
     rw [sA]
     exact ⟨rfl, rfl⟩
 obtain ⟨x, sta⟩ := sta
 have my : Hwp P (mayBeOne a b) h (fun v h' => v = false ∧ h' = h) := by
   unfold mayBeOne
   refine hwp_bind (Hwp.mono _ ?_ sta)
   rintro v1 h1 ⟨hv1, hh1⟩
   rw [hv1, hh1]
   clear hv1 hh1
   refine hwp_bind (Hwp.mono _ ?_ st)
   rintro v1 h1 ⟨hv1, hh1⟩
   rw [hv1, hh1]
   clear hv1 hh1
   have nn : ∀ (y : Addr) (K' : Bool → Heap → Prop) (v : Option (TypeId × Nat)), shapeH h y.block = v → K' (v matches some (_, 0)) h → Hwp P (do pure ((← shape y.block) matches some (_, 0)) : Sem Bool) h K' := by
     intro y K' v hv hk'
     refine hwp_bind (s := shape y.block) ?_
     show K' _ h
     rw [hv]; exact hk'
   refine hwp_bind (nn a _ _ sA ?_)
   refine hwp_bind (nn b _ _ sB ?_)
   refine hwp_pure ⟨?_, rfl⟩
   cases hc : cA.size with
   | zero => exact absurd hc hA0
   | succ n => simp
 refine hwp_bind (s := frozen a) ?_
 refine hwp_bind (s := frozen b) ?_
 show Hwp P (if (a.block != b.block && frozenH h a && frozenH h b) = true then _ else _) h _
 rw [fb, Bool.and_false, if_neg (by decide)]
 show Hwp P (if (a.block != b.block) = true then _ else _) h K
 rw [if_pos hnb]
 refine hwp_bind (nv a _ _ _ sA ?_)
 refine hwp_bind (nv b cB.toArray tB _ (by rw [sB]; simp) ?_)
 refine hwp_bind (Hwp.mono _ ?_ my)
 rintro v1 h1 ⟨hv1, hh1⟩
 rw [hv1, hh1]
 show Hwp P (if false = true then _ else _) _ K
 rw [if_neg (by decide)]
 refine hwp_pure ?_
 rw [hnb', Bool.false_and, Bool.false_and]
 exact hk
end
end Go.Hw
namespace Go.Hw
open Go
end Go.Hw
namespace Go.Hw
open Go
end Go.Hw
namespace Go.Hw
open Go
section
variable {κ ν : Type} [DecidableEq κ] {h h' m m' : Heap} {b : Nat} {kv : κ → Value} {es : List (κ × ν)} {vs : List (κ × Value)} {EV : Heap → ν → Value → Prop} {M : MonoV EV} {P : Program} {t elem : TypeId} {z : Value} {zv : ν} {p : Option Nat}
theorem oneCell_map {p : Option Nat} {K : Prop} (h : K) : oneCell (.map p) K := h
omit [DecidableEq κ] in
theorem MR.imp {A B : ν → Value → Prop} (f : ∀ x v, A x v → B x v) : ∀ {es : List (κ × ν)} {vs : List (κ × Value)}, MR A es vs → MR B es vs := by
 intro es
 induction es with
 | nil => intro vs hh; exact hh
 | cons p es ih => rintro vs ⟨v, vs', rfl, h1, h2⟩; exact ⟨v, vs', rfl, f _ _ h1, ih h2⟩
omit [DecidableEq κ] in
theorem rM_vf (hE : ∀ m m' x v, EV m x v → EV m' x v) : (rM M kv b es).vf := by
 rintro h m m' F ⟨⟨vs, h1, h2⟩, _, rfl⟩ _ k2
 exact ⟨⟨vs, h1, h2.imp (fun x v hv => hE _ _ x v hv)⟩, k2 b rfl, rfl⟩
end
end Go.Hw
namespace Go.Hw
open Go
end Go.Hw

end
section
set_option linter.unusedVariables false
namespace Go.Hw
open Go
section
variable {α : Type} {sz : Nat} {E : Heap → α → List Value → Prop} {T : Tell sz E} {m h h' h0 m0 : Heap} {A B : Option Addr} {l vs : List α} {c cB : Nat} {W : Foot} {P : Program} {e t ty : TypeId} {rs : Array TypeId} {i : TypeInfo}
theorem cell_live {a : Addr} {v : Value} (hc : cellH m a = some v) : Live m a.block ∧ ∃ cA t f, m[a.block]? = some (.cells cA t f) ∧ cA.size ≠ 0 := by
 unfold cellH at hc
 split at hc
 · rename_i cA t f hm
   have hsz : cA.size ≠ 0 := by
     intro h0
     split at hc
     · cases hc
     · have := (Array.getElem?_eq_some_iff.1 hc).1; omega
   exact ⟨⟨_, hm, fun hd => by unfold dead at hd; injection hd with h1; subst h1; exact hsz rfl⟩, cA, t, f, hm, hsz⟩
 · cases hc
theorem Rd.live (r : Rd sz E m B vs) (hn : vs ≠ []) (hs : 0 < sz) : ∃ b, B = some b ∧ Live m b.block ∧ ∃ cA t f, m[b.block]? = some (.cells cA t f) ∧ cA.size ≠ 0 := by
 have hl : 0 < vs.length := by cases vs with | nil => exact absurd rfl hn | cons => simp
 obtain ⟨a, cs, hB, hc, _⟩ := r 0 hl
 obtain ⟨n, rfl⟩ : ∃ n, sz = n + 1 := ⟨sz - 1, by omega⟩
 unfold cellsH at hc
 split at hc
 · rename_i v hv
   have := cell_live hv
   rw [add_block, add_block] at this
   exact ⟨a, hB, this⟩
 · cases hc
theorem Only.sub {b : Nat} (s : Sub m h) (hn : ¬ Live m b) (o : Only h h' b) : Sub m h' := fun i o1 j1 j2 => by rw [o.2 i (fun e => hn (e ▸ ⟨o1, j1, j2⟩))]; exact s i o1 j1 j2
theorem St.fpOnly {b : Nat} {o : Nat} (s : Sub m h) (hn : ¬ Live m b) (hc : c ≠ 0) (o' : Only h h' b) : St (fp (some ⟨b, o, none⟩) c) h m h' m :=
 ⟨.refl _, o'.sub s hn, by rw [o'.1]; exact Nat.le_refl _, fun i hi hw => o'.2 i fun e => hw ⟨hc, _, rfl, e.symm⟩, fun i _ hl => .inl hl⟩
theorem src_cells (r : Rd sz E m B vs) (T : Tell sz E) (s : Sub m h) {b : Addr} (hB : B = some b) : ∃ es, cellsH h b 0 (vs.length * sz) = some es ∧ CsE sz E m vs es := by
 subst hB
 obtain ⟨es, h1, h2⟩ := r.srcE (c := 0) T s rfl
 unfold srcCells at h1
 simp only [Option.map_eq_some_iff] at h1
 obtain ⟨l, h3, h4⟩ := h1
 cases h4
 exact ⟨_, h3, h2⟩
def infoB (P : Program) (e : TypeId) (sz : Nat) : Bool := match P.info? e with | some i => i.size == sz | none => false
theorem infoB_e (h : infoB P e sz = true) : ∃ i, P.info? e = some i ∧ i.size = sz := by
 unfold infoB at h
 split at h
 · rename_i i hi; exact ⟨i, hi, beq_iff_eq.1 h⟩
 · cases h
set_option maxHeartbeats 1000000 in
theorem insert_ok {R : Value → Heap → Prop} {x1 : Int} {bytes ov rot : Nat} {z : Array Value} {fn : Func} (O : Hold W h m h m [rR (aE T) A c l]) (r2 : Rd sz E m B vs) (hsz : 0 < sz) (hu : P.underlying t = some (.slice e)) (hinf : infoB P e sz = true) (hz : z.size = sz) (hb0 : 0 < bytes)
   (x1f : P.funcs[ov]? = some fn) (x2f : (fn.name == "runtime.NumGoroutine") = false) (x3f : fn.body.isNone = true) (x4f : Extern.findNext fn = none) (x5f : Extern.find fn = some (Extern.SlicesOverlaps.overlaps #[t, t] rs))
   (g : 0 ≤ x1 ∧ x1 ≤ (l.length : Int)) (gb : (l.length + vs.length) * bytes ≤ 140737488355328) (gn : l.length + vs.length ≤ 4611686018427387904)
   (H : ∀ A' c' h', Hold W h m h' m [rR (aE T) A' c' (l.take x1.toNat ++ vs ++ l.drop x1.toNat)] → R (.slice A' (l.length + vs.length) c') h') :
   0 ≤ x1 ∧ x1 ≤ ((l.length : Nat) : Int) ∧ ((l.length : Nat) : Int) ≤ ((c : Nat) : Int) ∧ (splitB (((vs.length : Nat) : Int) == (0 : Int)) (R (Value.slice A l.length c) h) (splitB (x1 == ((l.length : Nat) : Int)) (AppW e sz bytes z A l.length c (Value.slice B vs.length cB) h fun v1_ h2_ => ∃ A3_, ∃ n3_, ∃ c3_, v1_ = (Value.slice A3_ n3_ c3_) ∧ R (Value.slice A3_ n3_ c3_) h2_) (splitB (decide ((IntKind.wrap .i64 (((l.length : Nat) : Int) + ((vs.length : Nat) : Int))) > ((c : Nat) : Int))) (0 ≤ (0 : Int) ∧ (0 : Int) ≤ x1 ∧ x1 ≤ ((c : Nat) : Int) ∧ (AppZ e sz bytes z (sliceA A (Int.toNat (0 : Int)) c sz) (Int.toNat x1 - Int.toNat (0 : Int)) (c - Int.toNat (0 : Int)) (Value.int .i64 (IntKind.wrap .i64 ((IntKind.wrap .i64 (((l.length : Nat) : Int) + ((vs.length : Nat) : Int))) - x1))) h fun v4_ h5_ => ∃ A6_, ∃ n6_, ∃ c6_, v4_ = (Value.slice A6_ n6_ c6_) ∧ 0 ≤ x1 ∧ x1 ≤ ((n6_ : Nat) : Int) ∧ ((n6_ : Nat) : Int) ≤ ((c6_ : Nat) : Int) ∧ (Gen P (Builtin.copy_ #[t, t] ty #[(Value.slice (sliceA A6_ (Int.toNat x1) c6_ sz) (Int.toNat ((n6_ : Nat) : Int) - Int.toNat x1) (c6_ - Int.toNat x1)), (Value.slice B vs.length cB)]) h5_ fun v7_ h8_ => ∃ x9_, v7_ = (Value.int .i64 x9_) ∧ 0 ≤ (IntKind.wrap .i64 (x1 + ((vs.length : Nat) : Int))) ∧ (IntKind.wrap .i64 (x1 + ((vs.length : Nat) : Int))) ≤ ((n6_ : Nat) : Int) ∧ ((n6_ : Nat) : Int) ≤ ((c6_ : Nat) : Int) ∧ (0 ≤ x1 ∧ x1 ≤ ((l.length : Nat) : Int) ∧ ((l.length : Nat) : Int) ≤ ((c : Nat) : Int) ∧ (Gen P (Builtin.copy_ #[t, t] ty #[(Value.slice (sliceA A6_ (Int.toNat (IntKind.wrap .i64 (x1 + ((vs.length : Nat) : Int)))) c6_ sz) (Int.toNat ((n6_ : Nat) : Int) - Int.toNat (IntKind.wrap .i64 (x1 + ((vs.length : Nat) : Int)))) (c6_ - Int.toNat (IntKind.wrap .i64 (x1 + ((vs.length : Nat) : Int))))), (Value.slice (sliceA A (Int.toNat x1) c sz) (Int.toNat ((l.length : Nat) : Int) - Int.toNat x1) (c - Int.toNat x1))]) h8_ fun v10_ h11_ => ∃ x12_, v10_ = (Value.int .i64 x12_) ∧ R (Value.slice A6_ n6_ c6_) h11_))))) (0 ≤ (0 : Int) ∧ (0 : Int) ≤ (IntKind.wrap .i64 (((l.length : Nat) : Int) + ((vs.length : Nat) : Int))) ∧ (IntKind.wrap .i64 (((l.length : Nat) : Int) + ((vs.length : Nat) : Int))) ≤ ((c : Nat) : Int) ∧ (0 ≤ (IntKind.wrap .i64 (x1 + ((vs.length : Nat) : Int))) ∧ (IntKind.wrap .i64 (x1 + ((vs.length : Nat) : Int))) ≤ (((Int.toNat (IntKind.wrap .i64 (((l.length : Nat) : Int) + ((vs.length : Nat) : Int))) - Int.toNat (0 : Int)) : Nat) : Int) ∧ (((Int.toNat (IntKind.wrap .i64 (((l.length : Nat) : Int) + ((vs.length : Nat) : Int))) - Int.toNat (0 : Int)) : Nat) : Int) ≤ (((c - Int.toNat (0 : Int)) : Nat) : Int) ∧ (ExtF P ov #[(Value.slice B vs.length cB), (Value.slice (sliceA (sliceA A (Int.toNat (0 : Int)) c sz) (Int.toNat (IntKind.wrap .i64 (x1 + ((vs.length : Nat) : Int)))) (c - Int.toNat (0 : Int)) sz) (Int.toNat (((Int.toNat (IntKind.wrap .i64 (((l.length : Nat) : Int) + ((vs.length : Nat) : Int))) - Int.toNat (0 : Int)) : Nat) : Int) - Int.toNat (IntKind.wrap .i64 (x1 + ((vs.length : Nat) : Int)))) ((c - Int.toNat (0 : Int)) - Int.toNat (IntKind.wrap .i64 (x1 + ((vs.length : Nat) : Int)))))] h fun v13_ h14_ => ∃ b15_, v13_ = (Value.bool b15_) ∧ splitB (!b15_) (0 ≤ (IntKind.wrap .i64 (x1 + ((vs.length : Nat) : Int))) ∧ (IntKind.wrap .i64 (x1 + ((vs.length : Nat) : Int))) ≤ (((Int.toNat (IntKind.wrap .i64 (((l.length : Nat) : Int) + ((vs.length : Nat) : Int))) - Int.toNat (0 : Int)) : Nat) : Int) ∧ (((Int.toNat (IntKind.wrap .i64 (((l.length : Nat) : Int) + ((vs.length : Nat) : Int))) - Int.toNat (0 : Int)) : Nat) : Int) ≤ (((c - Int.toNat (0 : Int)) : Nat) : Int) ∧ (0 ≤ x1 ∧ x1 ≤ (((Int.toNat (IntKind.wrap .i64 (((l.length : Nat) : Int) + ((vs.length : Nat) : Int))) - Int.toNat (0 : Int)) : Nat) : Int) ∧ (((Int.toNat (IntKind.wrap .i64 (((l.length : Nat) : Int) + ((vs.length : Nat) : Int))) - Int.toNat (0 : Int)) : Nat) : Int) ≤ (((c - Int.toNat (0 : Int)) : Nat) : Int) ∧ (Gen P (Builtin.copy_ #[t, t] ty #[(Value.slice (sliceA (sliceA A (Int.toNat (0 : Int)) c sz) (Int.toNat (IntKind.wrap .i64 (x1 + ((vs.length : Nat) : Int)))) (c - Int.toNat (0 : Int)) sz) (Int.toNat (((Int.toNat (IntKind.wrap .i64 (((l.length : Nat) : Int) + ((vs.length : Nat) : Int))) - Int.toNat (0 : Int)) : Nat) : Int) - Int.toNat (IntKind.wrap .i64 (x1 + ((vs.length : Nat) : Int)))) ((c - Int.toNat (0 : Int)) - Int.toNat (IntKind.wrap .i64 (x1 + ((vs.length : Nat) : Int))))), (Value.slice (sliceA (sliceA A (Int.toNat (0 : Int)) c sz) (Int.toNat x1) (c - Int.toNat (0 : Int)) sz) (Int.toNat (((Int.toNat (IntKind.wrap .i64 (((l.length : Nat) : Int) + ((vs.length : Nat) : Int))) - Int.toNat (0 : Int)) : Nat) : Int) - Int.toNat x1) ((c - Int.toNat (0 : Int)) - Int.toNat x1))]) h14_ fun v16_ h17_ => ∃ x18_, v16_ = (Value.int .i64 x18_) ∧ 0 ≤ x1 ∧ x1 ≤ (((Int.toNat (IntKind.wrap .i64 (((l.length : Nat) : Int) + ((vs.length : Nat) : Int))) - Int.toNat (0 : Int)) : Nat) : Int) ∧ (((Int.toNat (IntKind.wrap .i64 (((l.length : Nat) : Int) + ((vs.length : Nat) : Int))) - Int.toNat (0 : Int)) : Nat) : Int) ≤ (((c - Int.toNat (0 : Int)) : Nat) : Int) ∧ (Gen P (Builtin.copy_ #[t, t] ty #[(Value.slice (sliceA (sliceA A (Int.toNat (0 : Int)) c sz) (Int.toNat x1) (c - Int.toNat (0 : Int)) sz) (Int.toNat (((Int.toNat (IntKind.wrap .i64 (((l.length : Nat) : Int) + ((vs.length : Nat) : Int))) - Int.toNat (0 : Int)) : Nat) : Int) - Int.toNat x1) ((c - Int.toNat (0 : Int)) - Int.toNat x1)), (Value.slice B vs.length cB)]) h17_ fun v19_ h20_ => ∃ x21_, v19_ = (Value.int .i64 x21_) ∧ R (Value.slice (sliceA A (Int.toNat (0 : Int)) c sz) (Int.toNat (IntKind.wrap .i64 (((l.length : Nat) : Int) + ((vs.length : Nat) : Int))) - Int.toNat (0 : Int)) (c - Int.toNat (0 : Int))) h20_)))) (0 ≤ ((l.length : Nat) : Int) ∧ ((l.length : Nat) : Int) ≤ (((Int.toNat (IntKind.wrap .i64 (((l.length : Nat) : Int) + ((vs.length : Nat) : Int))) - Int.toNat (0 : Int)) : Nat) : Int) ∧ (((Int.toNat (IntKind.wrap .i64 (((l.length : Nat) : Int) + ((vs.length : Nat) : Int))) - Int.toNat (0 : Int)) : Nat) : Int) ≤ (((c - Int.toNat (0 : Int)) : Nat) : Int) ∧ (Gen P (Builtin.copy_ #[t, t] ty #[(Value.slice (sliceA (sliceA A (Int.toNat (0 : Int)) c sz) (Int.toNat ((l.length : Nat) : Int)) (c - Int.toNat (0 : Int)) sz) (Int.toNat (((Int.toNat (IntKind.wrap .i64 (((l.length : Nat) : Int) + ((vs.length : Nat) : Int))) - Int.toNat (0 : Int)) : Nat) : Int) - Int.toNat ((l.length : Nat) : Int)) ((c - Int.toNat (0 : Int)) - Int.toNat ((l.length : Nat) : Int))), (Value.slice B vs.length cB)]) h14_ fun v22_ h23_ => ∃ x24_, v22_ = (Value.int .i64 x24_) ∧ 0 ≤ x1 ∧ x1 ≤ (((Int.toNat (IntKind.wrap .i64 (((l.length : Nat) : Int) + ((vs.length : Nat) : Int))) - Int.toNat (0 : Int)) : Nat) : Int) ∧ (((Int.toNat (IntKind.wrap .i64 (((l.length : Nat) : Int) + ((vs.length : Nat) : Int))) - Int.toNat (0 : Int)) : Nat) : Int) ≤ (((c - Int.toNat (0 : Int)) : Nat) : Int) ∧ (Run P rot #[(Value.slice (sliceA (sliceA A (Int.toNat (0 : Int)) c sz) (Int.toNat x1) (c - Int.toNat (0 : Int)) sz) (Int.toNat (((Int.toNat (IntKind.wrap .i64 (((l.length : Nat) : Int) + ((vs.length : Nat) : Int))) - Int.toNat (0 : Int)) : Nat) : Int) - Int.toNat x1) ((c - Int.toNat (0 : Int)) - Int.toNat x1)), (Value.int .i64 ((vs.length : Nat) : Int))] h23_ fun v25_ h26_ => v25_ = (Value.tuple #[]) ∧ R (Value.slice (sliceA A (Int.toNat (0 : Int)) c sz) (Int.toNat (IntKind.wrap .i64 (((l.length : Nat) : Int) + ((vs.length : Nat) : Int))) - Int.toNat (0 : Int)) (c - Int.toNat (0 : Int))) h26_))))))))) := by
 obtain ⟨i, hi, his⟩ := infoB_e hinf
 obtain ⟨i0, rfl⟩ : ∃ n : Nat, x1 = (n : Int) := ⟨x1.toNat, by omega⟩
 have hil : i0 ≤ l.length := by omega
 have hc := O.cap 0 rfl
 have o := O.os 0 rfl
 have w1 : IntKind.wrap .i64 ((l.length : Int) + (vs.length : Int)) = ((l.length + vs.length : Nat) : Int) := by rw [wrap_in (by omega) (by omega)]; omega
 have w2 : IntKind.wrap .i64 ((i0 : Int) + (vs.length : Int)) = ((i0 + vs.length : Nat) : Int) := by rw [wrap_in (by omega) (by omega)]; omega
 have w3 : IntKind.wrap .i64 (((l.length + vs.length : Nat) : Int) - (i0 : Int)) = ((l.length + vs.length - i0 : Nat) : Int) := by rw [wrap_in (by omega) (by omega)]; omega
 rw [Int.toNat_natCast] at H
 simp only [w1, w2, w3, Int.toNat_natCast, show Int.toNat (0 : Int) = 0 from rfl, Nat.sub_zero]
 have sA0 : sliceA A 0 c sz = A := sliceA_zero
 rw [sA0]
 refine ⟨by omega, by omega, by omega, ?_⟩
 refine split_eq (fun q => ?_) (fun q => ?_)
 · have hv : vs = [] := List.length_eq_zero_iff.1 (by omega)
   subst hv
   refine H A c h ?_
   rw [List.append_nil, List.take_append_drop]
   exact O
 have hvn : vs ≠ [] := by rintro rfl; exact q rfl
 obtain ⟨bv, hB, hlv, cA, tA, fA, hcv, hcs⟩ := r2.live hvn hsz
 refine split_eq (fun q1 => ?_) (fun q1 => ?_)
 · have hi0 : i0 = l.length := by omega
   refine O.app 0 rfl rfl hz (r2.srcE T O.s rfl) hb0 (ap_of gb) fun A' c' h' O' => ?_
   refine ⟨_, _, _, rfl, ?_⟩
   rw [List.length_append]
   refine H A' c' h' ?_
   rw [hi0, List.take_length, List.drop_length, List.append_nil]
   exact O'
 have hlt : i0 < l.length := by omega
 have hAne : c ≠ 0 := by omega
 rcases o with ⟨rfl, hc0⟩ | ⟨b, t0, pre, cs, rest, rfl, k1, k2, k3, k4, k5, k6⟩
 · exact absurd hc0 hAne
 have hcl := k2.len
 have hvb : bv.block ≠ b := fun e => k6 (e ▸ hlv)
 have hA' : (cs.take (i0 * sz)).length = i0 * sz := by rw [List.length_take]; have := Nat.mul_le_mul_right sz hil; omega
 have hB' : (cs.drop (i0 * sz)).length = (l.length - i0) * sz := by rw [List.length_drop, hcl, Nat.sub_mul]
 have hcat : cs.take (i0 * sz) ++ cs.drop (i0 * sz) = cs := List.take_append_drop _ _
 have cA := k2.take i0
 have cB' := k2.drop i0
 have hls : i0 * sz + (l.length - i0) * sz = l.length * sz := by rw [← Nat.add_mul, Nat.add_sub_cancel' hil]
 generalize cs.take (i0 * sz) = csA at *
 generalize cs.drop (i0 * sz) = csB at *
 subst hcat
 have s1 : sliceA (some (⟨b, pre.length, none⟩ : Addr)) i0 c sz = some ((⟨b, pre.length, none⟩ : Addr).add (i0 * sz)) := by unfold sliceA; rw [if_neg (by omega)]; rfl
 refine split_dec (fun q2 => ?_) (fun q2 => ?_)
 · have hm0 : l.length + vs.length - i0 ≠ 0 := by omega
   have him : i0 + (l.length + vs.length - i0) = l.length + vs.length := by omega
   have hle : (l.length + vs.length - i0) * bytes ≤ (l.length + vs.length) * bytes := Nat.mul_le_mul_right _ (by omega)
   rw [s1]
   refine ⟨by decide, by omega, by omega, .i64, l.length + vs.length - i0, rfl, by omega, by omega, .inr ⟨by omega, by rw [him]; exact gb, hb0, by omega, csA, ?_, fun c' hc' => ?_⟩⟩
   · show cellsH h ⟨b, pre.length, none⟩ 0 (i0 * sz) = some csA
     rw [k1.cells rfl rfl _ _ (by simp only [List.length_append]; omega)]
     congr 1
     rw [List.append_assoc, List.append_assoc, Nat.add_zero, List.drop_left, ← hA', List.take_left]
   rw [him] at hc' ⊢
   rw [if_neg (Nat.mul_ne_zero hm0 (by omega))]
   have hZ : (zcells z (l.length + vs.length - i0)).toList.length = (l.length + vs.length - i0) * sz := by rw [zc_len, hz]
   have hZ' : (zcells z (c' - (l.length + vs.length))).toList.length = (c' - (l.length + vs.length)) * sz := by rw [zc_len, hz]
   have kb : Blk (h.push (.cells (csA.toArray ++ (zcells z (l.length + vs.length - i0)).toList.toArray ++ zcells z (c' - (l.length + vs.length))) e)) h.size (csA ++ (zcells z (l.length + vs.length - i0)).toList ++ (zcells z (c' - (l.length + vs.length))).toList) e := by
     have := Blk.new h (csA.toArray ++ (zcells z (l.length + vs.length - i0)).toList.toArray ++ zcells z (c' - (l.length + vs.length))) e
     simpa using this
   have ex := Ext.push h (.cells (csA.toArray ++ (zcells z (l.length + vs.length - i0)).toList.toArray ++ zcells z (c' - (l.length + vs.length))) e)
   generalize (zcells z (l.length + vs.length - i0)).toList = Zl at *
   generalize hZg : (zcells z (c' - (l.length + vs.length))).toList = Zr at *
   generalize h.push (.cells (csA.toArray ++ Zl.toArray ++ zcells z (c' - (l.length + vs.length))) e) = h5 at *
   have sb5 : Sub m h5 := O.s.ext ex
   have n1 : sliceA (some (⟨h.size, 0, none⟩ : Addr)) i0 c' sz = some ((⟨h.size, 0, none⟩ : Addr).add (i0 * sz)) := by unfold sliceA; rw [if_neg (by omega)]; rfl
   have n2 : sliceA (some (⟨h.size, 0, none⟩ : Addr)) (i0 + vs.length) c' sz = some ((⟨h.size, 0, none⟩ : Addr).add ((i0 + vs.length) * sz)) := by unfold sliceA; rw [if_neg (by omega)]; rfl
   refine ⟨_, _, _, rfl, by omega, by omega, by omega, ?_⟩
   subst hB
   rw [n1]
   obtain ⟨csV, v1, v2⟩ := src_cells r2 T sb5 rfl
   have hV := v2.len
   have hmul : (i0 + vs.length) * sz = i0 * sz + vs.length * sz := Nat.add_mul ..
   have hmm : (l.length + vs.length - i0) * sz = vs.length * sz + (l.length - i0) * sz := by rw [← Nat.add_mul]; congr 1; omega
   have e2 : Nat.min vs.length (l.length + vs.length - i0) = vs.length := by show min _ _ = _; omega
   have kb' : Blk h5 h.size (csA ++ Zl.take (vs.length * sz) ++ (Zl.drop (vs.length * sz) ++ Zr)) e := by
     rw [← List.append_assoc, List.append_assoc csA, List.take_append_drop]; exact kb
   obtain ⟨h8, st1, b1, o1⟩ := Blk.stH csV (a := (⟨h.size, 0, none⟩ : Addr).add (i0 * sz)) (i := 0) kb' (by rw [add_block]) (add_spot _ rfl)
     (by rw [add_off]; simp only []; omega) (by rw [List.length_take]; omega) (v2.flat T)
   refine gen_copy hu hi (by rw [e2, his]; exact v1) st1 ?_
   refine ⟨_, rfl, by omega, by omega, by omega, by omega, by omega, by omega, ?_⟩
   rw [n2]
   have e3 : Nat.min (l.length - i0) (l.length + vs.length - (i0 + vs.length)) = l.length - i0 := by show min _ _ = _; omega
   have hbl : b < h.size := k1.lt
   have k8 : Blk h8 b (pre ++ (csA ++ csB) ++ rest) t0 := (k1.ext ex).only o1 (by omega)
   have r8 : cellsH h8 ((⟨b, pre.length, none⟩ : Addr).add (i0 * sz)) 0 (Nat.min (l.length - i0) (l.length + vs.length - (i0 + vs.length)) * i.size) = some csB := by
     rw [e3, his, k8.cells (by rw [add_block]) (add_spot _ rfl) _ _ (by rw [add_off]; simp only [List.length_append]; omega), add_off]
     congr 1
     rw [List.append_assoc, List.append_assoc, Nat.add_zero, ← List.drop_drop, List.drop_left, show i0 * sz = csA.length from hA'.symm, List.drop_left, ← hB', List.take_left]
   have b1' : Blk h8 h.size ((csA ++ csV) ++ Zl.drop (vs.length * sz) ++ Zr) e := by rw [List.append_assoc (csA ++ csV)]; exact b1
   obtain ⟨h11, st2, b2, o2⟩ := Blk.stH csB (a := (⟨h.size, 0, none⟩ : Addr).add ((i0 + vs.length) * sz)) (i := 0) b1' (by rw [add_block]) (add_spot _ rfl)
     (by rw [add_off]; simp only [List.length_append]; omega) (by rw [List.length_drop]; omega) (cB'.flat T)
   refine gen_copy hu hi r8 st2 ?_
   refine ⟨_, rfl, ?_⟩
   have o' : OS No h sz E h11 m (some ⟨h.size, 0, none⟩) (l.take i0 ++ vs ++ l.drop i0) c' := .inr ⟨h.size, e, [], csA ++ csV ++ csB, Zr, rfl, by rw [List.nil_append]; exact b2, (cA.append v2).append cB', by simp only [List.length_append, List.length_take, List.length_drop]; omega, by
     rw [hZ']
     simp only [List.length_append, List.length_take, List.length_drop]
     exact Nat.mul_le_mul_right _ (by omega), .inl (Nat.le_refl _), St.notLive O.s⟩
   exact H _ c' h11 ((O.add (R := rR (aE T) (some ⟨h.size, 0, none⟩) c' (l.take i0 ++ vs ++ l.drop i0)) (St.of_ext O.s ((ex.only o1 (Nat.le_refl _)).only o2 (Nat.le_refl _))) o'.rowP o'.newNo).pick [1])
 · have hnk : l.length + vs.length ≤ c := by omega
   have s2 : sliceA (some (⟨b, pre.length, none⟩ : Addr)) (i0 + vs.length) c sz = some ((⟨b, pre.length, none⟩ : Addr).add ((i0 + vs.length) * sz)) := by unfold sliceA; rw [if_neg (by omega)]; rfl
   rw [s1, s2]
   refine ⟨by decide, by omega, by omega, by omega, by omega, by omega, fn, _, x1f, x2f, x3f, x4f, x5f, ?_⟩
   subst hB
   refine overlaps_apart (cB := pre ++ (csA ++ csB) ++ rest) hu hi (by rw [add_block]; exact hvb) (O.s _ _ hcv (by
     intro hd; unfold dead at hd; injection hd with h1; subst h1; exact hcs rfl)) hcs (by rw [add_block]; exact k1) ?_
   refine ⟨_, rfl, ?_⟩
   refine split_t ?_
   refine ⟨by omega, by omega, by omega, by omega, by omega, by omega, ?_⟩
   have e1 : Nat.min (l.length + vs.length - i0) (l.length + vs.length - (i0 + vs.length)) = l.length - i0 := by show min _ _ = _; omega
   have hrest : vs.length * sz + (c - l.length - vs.length) * sz ≤ rest.length := by
     have : vs.length * sz + (c - l.length - vs.length) * sz = (c - l.length) * sz := by rw [← Nat.add_mul]; congr 1; omega
     omega
   have hmul : (i0 + vs.length) * sz = i0 * sz + vs.length * sz := Nat.add_mul ..
   have r1 : cellsH h ((⟨b, pre.length, none⟩ : Addr).add (i0 * sz)) 0 (Nat.min (l.length + vs.length - i0) (l.length + vs.length - (i0 + vs.length)) * i.size) = some csB := by
     rw [e1, his, k1.cells (by rw [add_block]) (add_spot _ rfl) _ _ (by rw [add_off]; simp only [List.length_append]; omega), add_off]
     congr 1
     rw [List.append_assoc, List.append_assoc, Nat.add_zero, ← List.drop_drop, List.drop_left, show i0 * sz = csA.length from hA'.symm, List.drop_left, ← hB', List.take_left]
   have k1' : Blk h b ((pre ++ csA ++ (csB ++ rest).take (vs.length * sz)) ++ ((csB ++ rest).drop (vs.length * sz)).take csB.length ++ (((csB ++ rest).drop (vs.length * sz)).drop csB.length)) t0 := by
     have : (pre ++ csA ++ (csB ++ rest).take (vs.length * sz)) ++ ((csB ++ rest).drop (vs.length * sz)).take csB.length ++ (((csB ++ rest).drop (vs.length * sz)).drop csB.length) = pre ++ (csA ++ csB) ++ rest := by
       rw [List.append_assoc _ (List.take _ _), List.take_append_drop, List.append_assoc (pre ++ csA), List.take_append_drop]; simp
     rw [this]; exact k1
   have hL : (csB ++ rest).length = csB.length + rest.length := List.length_append
   obtain ⟨h1, st1, b1, o1⟩ := Blk.stH csB (a := (⟨b, pre.length, none⟩ : Addr).add ((i0 + vs.length) * sz)) (i := 0) k1' (by rw [add_block]) (add_spot _ rfl)
     (by rw [add_off]; simp only [List.length_append, List.length_take]; omega) (by rw [List.length_take, List.length_drop]; omega) (cB'.flat T)
   refine gen_copy hu hi r1 st1 ?_
   refine ⟨_, rfl, by omega, by omega, by omega, ?_⟩
   have sb1 : Sub m h1 := o1.sub O.s k6
   obtain ⟨csV, v1, v2⟩ := src_cells r2 T sb1 rfl
   have hV := v2.len
   have e2 : Nat.min vs.length (l.length + vs.length - i0) = vs.length := by show min _ _ = _; omega
   have b1' : Blk h1 b ((pre ++ csA) ++ (csB ++ rest).take (vs.length * sz) ++ (csB ++ (((csB ++ rest).drop (vs.length * sz)).drop csB.length))) t0 := by
     rw [List.append_assoc _ csB] at b1
     exact b1
   obtain ⟨h2, st2, b2, o2⟩ := Blk.stH csV (a := (⟨b, pre.length, none⟩ : Addr).add (i0 * sz)) (i := 0) b1' (by rw [add_block]) (add_spot _ rfl)
     (by rw [add_off]; simp only [List.length_append]; omega) (by rw [List.length_take]; omega) (v2.flat T)
   refine gen_copy hu hi (by rw [e2, his]; exact v1) st2 ?_
   refine ⟨_, rfl, ?_⟩
   refine H _ c h2 ?_
   have := O.setR 0 rfl (l' := l.take i0 ++ vs ++ l.drop i0) (h' := h2) (.inr ⟨b, t0, pre, csA ++ csV ++ csB, ((csB ++ rest).drop (vs.length * sz)).drop csB.length, rfl, ?_, (cA.append v2).append cB', ?_, ?_, k5, k6⟩) (St.fpOnly O.s k6 hAne (o1.trans o2))
   · exact this
   · have e3 : pre ++ (csA ++ csV ++ csB) ++ ((csB ++ rest).drop (vs.length * sz)).drop csB.length = (pre ++ csA) ++ csV ++ (csB ++ (((csB ++ rest).drop (vs.length * sz)).drop csB.length)) := by simp
     rw [e3]; exact b2
   · simp only [List.length_append, List.length_take, List.length_drop]; omega
   · simp only [List.length_append, List.length_take, List.length_drop]
     rw [show c - (min i0 l.length + vs.length + (l.length - i0)) = c - l.length - vs.length by omega]
     omega
end
end Go.Hw

end
section
set_option linter.unusedVariables false
namespace Go.Hw
open Go
section
noncomputable def agreeF {R : Type} (n : Nat) (f : Nat → Option R) : Option R :=
 open Classical in if ∃ r, ∀ j, j < n → f j = some r then f 0 else none
noncomputable def pickF {α R : Type} (left : List α) (over : Option R) (go : α → List α → Option R) : Option R :=
 match left with
 | [] => over
 | _ :: _ => agreeF left.length fun j => (left[j]?).bind fun c => go c (left.eraseIdx j)
variable {α R : Type} {left : List α} {over over' : Option R} {go go' : α → List α → Option R} {r : R}
theorem pick_e (e : pickF left over go = some r) : (left = [] ∧ over = some r) ∨ (left ≠ [] ∧ ∀ (j : Nat) (c : α), left[j]? = some c → go c (left.eraseIdx j) = some r) := by
 cases left with
 | nil => exact .inl ⟨rfl, e⟩
 | cons x l =>
   refine .inr ⟨by simp, fun j c hj => ?_⟩
   unfold pickF agreeF at e
   simp only at e
   split at e
   · rename_i h
     obtain ⟨r', h⟩ := h
     have h0 := h 0 (by simp)
     rw [h0] at e
     cases e
     have := h j (List.getElem?_eq_some_iff.1 hj).1
     rw [hj] at this
     exact this
   · cases e
theorem pick_a (e : pickF left over go = some r) (h : left = []) : over = some r := by
 rcases pick_e e with ⟨_, k⟩ | ⟨k, _⟩
 · exact k
 · exact (k h).elim
theorem pick_b {j : Nat} {c : α} {l2 : List α} (e : pickF left over go = some r) (h : left[j]? = some c) (q : l2 = left.eraseIdx j) : go c l2 = some r := by
 subst q
 rcases pick_e e with ⟨k, _⟩ | ⟨_, k⟩
 · subst k; cases h
 · exact k j c h
theorem pick_nil : pickF [] over go = over := rfl
theorem pick_all (hne : left ≠ []) (h : ∀ (j : Nat) (c : α), left[j]? = some c → go c (left.eraseIdx j) = some r) : pickF left over go = some r := by
 cases left with
 | nil => exact (hne rfl).elim
 | cons x l =>
   unfold pickF agreeF
   simp only
   have h' : ∀ j, j < (x :: l).length → ((x :: l)[j]?).bind (fun c => go c ((x :: l).eraseIdx j)) = some r := fun j hj => by
     rw [List.getElem?_eq_getElem hj]; exact h j _ (List.getElem?_eq_getElem hj)
   rw [if_pos ⟨r, h'⟩]
   exact h' 0 (by simp)
theorem LeO.pick (h : LeO over over') (k : ∀ c l, LeO (go c l) (go' c l)) : LeO (pickF left over go) (pickF left over' go') := by
 cases left with
 | nil => exact h
 | cons x l =>
   intro r e
   rcases pick_e e with ⟨h1, _⟩ | ⟨h1, h2⟩
   · cases h1
   · exact pick_all h1 fun j c hj => k _ _ _ (h2 j c hj)
end
attribute [irreducible] pickF agreeF
section
variable {κ ν : Type} [DecidableEq κ] {h h' m m' h0 m0 : Heap} {b i k : Nat} {W : Foot} {kv : κ → Value} {es left : List (κ × ν)} {q : κ} {x zv : ν} {v z : Value} {P : Program} {t elem : TypeId} {EV : Heap → ν → Value → Prop} {M : MonoV EV} {Rs : List Res}
def rMI (M : MonoV EV) (kv : κ → Value) (b i : Nat) (es left : List (κ × ν)) : Res where
 p h m F := (∃ (e : Array MapEntry) (c : Nat) (seen : Array Nat), h[b]? = some (.map e c) ∧ h[i]? = some (.mapIter (some b) c seen c) ∧ Brn e.toList c ∧
   (∃ vs : List (κ × Value), e.toList.map (fun x => (x.key, x.val)) = vs.map (fun x => (kv x.1, x.2)) ∧ MR (EV m) es vs) ∧
   ∃ vs : List (κ × Value), (e.toList.filter fun x => !seen.contains x.born).map (fun x => (x.key, x.val)) = vs.map (fun x => (kv x.1, x.2)) ∧ MR (EV m) left vs) ∧ ¬ Live m b ∧ ¬ Live m i ∧ b ≠ i ∧ F = U (fb b) (fb i)
 z m := FM EV kv m b es
 lt := by
   rintro h m F ⟨⟨e, c, seen, h1, h2, _⟩, _, _, _, rfl⟩ j hj
   rcases hj with hj | hj
   · unfold fb at hj; subst hj; exact (Array.getElem?_eq_some_iff.1 h1).1
   · unfold fb at hj; subst hj; exact (Array.getElem?_eq_some_iff.1 h2).1
 nl := by
   rintro h m F ⟨_, k1, k2, _, rfl⟩ j hj
   rcases hj with hj | hj
   · unfold fb at hj; subst hj; exact k1
   · unfold fb at hj; subst hj; exact k2
 fr := by
   rintro h m F h' m' ⟨⟨e, c, seen, h1, h2, h3, ⟨vs, h4, h5⟩, us, h6, h7⟩, k1, k2, k3, rfl⟩ q1 q2 q3
   exact ⟨⟨e, c, seen, by rw [q1 b (.inl rfl)]; exact h1, by rw [q1 i (.inr rfl)]; exact h2, h3, ⟨vs, h4, h5.sub M q2⟩, us, h6, h7.sub M q2⟩, q3 b (.inl rfl), q3 i (.inr rfl), k3, rfl⟩
 fz := by
   rintro h m F G ⟨⟨e, c, seen, h1, h2, h3, ⟨vs, h4, h5⟩, us, h6, h7⟩, k1, k2, k3, rfl⟩ q1 q2
   exact ⟨vs, ⟨e, c, by rw [addV_get (Array.getElem?_eq_some_iff.1 h1).1 (.inr (q2 b (.inl rfl)))]; exact h1, h4, h3⟩, h5.sub M (addV_up q1)⟩
omit [DecidableEq κ] in
theorem Hold.itEnd (O : Hold W h0 m0 h m Rs) (k : Nat) (hk : Rs[k]? = some (rMI M kv b i es left)) : Hold W h0 m0 h m (Rs.set k (rM M kv b es)) :=
 O.conv k hk (R' := rM M kv b es) fun F hF => by
   obtain ⟨⟨e, c, seen, h1, h2, h3, ⟨vs, h4, h5⟩, _⟩, k1, k2, k3, rfl⟩ := hF
   exact ⟨fb b, ⟨⟨vs, ⟨e, c, h1, h4, h3⟩, h5⟩, k1, rfl⟩, fun _ h => .inl h⟩
omit [DecidableEq κ] in
theorem Hold.mapRange {key : TypeId} {K : Value → Heap → Prop} (O : Hold W h0 m0 h m Rs) (k : Nat) (hk : Rs[k]? = some (rM M kv b es)) (hu : P.underlying t = some (.map key elem)) (H : ∀ h', Ext h h' → Hold W h0 m0 h' m (Rs.set k (rMI M kv b h.size es es)) → K (.pointer (some ⟨h.size, 0, none⟩)) h') : Gen P (Instr.range t (.map (some b))) h K := by
 obtain ⟨F, ⟨⟨vs, ⟨e, c, h1, h2, h3⟩, h4⟩, k1, rfl⟩, h5, h6⟩ := O.get k hk
 have hlt := (Array.getElem?_eq_some_iff.1 h1).1
 unfold Gen Instr.range
 refine hwp_bind (hwp_underlying hu ?_)
 refine hwp_bind (hwp_bind (hwp_getObj h1 (fun _ _ _ hh => by cases hh) ?_))
 refine hwp_pure (P := P) ?_
 show K (.pointer (some ⟨h.size, 0, none⟩)) (h.push (.mapIter (some b) c #[] c))
 have e1 : Ext h (h.push (.mapIter (some b) c #[] c)) := Ext.push _ _
 have hg : (h.push (.mapIter (some b) c #[] c))[b]? = some (.map e c) := by rw [e1.2 b hlt]; exact h1
 refine H _ e1 ?_
 refine h6 (R' := rMI M kv b h.size es es) (St.of_ext O.s e1) ⟨⟨e, c, #[], hg, by simp, h3, ⟨vs, h2, h4⟩, vs, ?_, h4⟩, k1, St.notLive O.s, by omega, rfl⟩ (fun j hj => ?_)
 · rw [← h2]; congr 1; rw [List.filter_eq_self]; intro a _; simp
 · rcases hj with hj | hj
   · exact .inl hj
   · unfold fb at hj; exact .inr (by omega)
omit [DecidableEq κ] in
theorem MR.at {EV : ν → Value → Prop} {c : κ × ν} : ∀ {es : List (κ × ν)} {vs : List (κ × Value)} {j : Nat}, MR EV es vs → es[j]? = some c → ∃ v, vs[j]? = some (c.1, v) ∧ EV c.2 v ∧ MR EV (es.eraseIdx j) (vs.eraseIdx j) := by
 intro es
 induction es with
 | nil => intro vs j _ hj; cases hj
 | cons p es ih =>
   rintro vs j ⟨v, vs', rfl, h1, h2⟩ hj
   cases j with
   | zero => cases hj; exact ⟨v, rfl, h1, h2⟩
   | succ j =>
     obtain ⟨u, k1, k2, k3⟩ := ih h2 (show es[j]? = some c by simpa using hj)
     exact ⟨u, by simpa using k1, k2, v, _, rfl, h1, k3⟩
theorem erase_filter {l : List MapEntry} (hd : (l.map (·.born)).Pairwise (· < ·)) {j : Nat} {x : MapEntry} (hx : l[j]? = some x) : l.filter (fun y => y.born != x.born) = l.eraseIdx j := by
 induction l generalizing j with
 | nil => cases hx
 | cons y l ih =>
   rw [List.map_cons, List.pairwise_cons] at hd
   cases j with
   | zero =>
     cases hx
     rw [List.filter_cons_of_neg (by simp), List.eraseIdx_cons_zero, List.filter_eq_self]
     intro z hz
     have := hd.1 z.born (List.mem_map.2 ⟨z, hz, rfl⟩)
     simp; omega
   | succ j =>
     have hx' : l[j]? = some x := by simpa using hx
     have := hd.1 x.born (List.mem_map.2 ⟨x, List.mem_of_getElem? hx', rfl⟩)
     rw [List.filter_cons_of_pos (by simp; omega), List.eraseIdx_cons_succ, ih hd.2 hx']
theorem filter_pw {l : List MapEntry} (p : MapEntry → Bool) (hd : (l.map (·.born)).Pairwise (· < ·)) : ((l.filter p).map (·.born)).Pairwise (· < ·) :=
 List.Pairwise.sublist (List.Sublist.map _ (List.filter_sublist)) hd
theorem eraseIdx_map {α β : Type} (f : α → β) : ∀ (l : List α) (j : Nat), (l.eraseIdx j).map f = (l.map f).eraseIdx j
 | [], _ => rfl
 | x :: l, 0 => rfl
 | x :: l, j + 1 => by simp [eraseIdx_map f l j]
theorem find_born {l : List MapEntry} (hd : (l.map (·.born)).Pairwise (· < ·)) {x : MapEntry} (hx : x ∈ l) : l.find? (fun y => y.born == x.born) = some x := by
 induction l with
 | nil => cases hx
 | cons y l ih =>
   rw [List.map_cons, List.pairwise_cons] at hd
   rcases List.mem_cons.1 hx with rfl | hx
   · rw [List.find?_cons_of_pos (by simp)]
   · have := hd.1 x.born (List.mem_map.2 ⟨x, hx, rfl⟩)
     rw [List.find?_cons_of_neg (by simp; omega), ih hd.2 hx]
theorem hwp_mapNext {P : Program} {h : Heap} {n : Nat} {K : Nat → Heap → Prop} (hpos : 0 < n) (H : ∀ j, j < n → K j h) : Hwp P (choose (.mapNext n)) h K := by
 show Hwp P (Sem.choose (.mapNext n) Sem.pure) h K
 unfold Hwp
 by_cases hf : (Question.mapNext n).forced = true
 · rw [if_pos hf]; exact H 0 hpos
 · rw [if_neg hf]; exact fun t => H (t % n) (Nat.mod_lt _ hpos)
omit [DecidableEq κ] in
theorem Hold.mapNext {ty : TypeId} {A : Heap → Prop} {B : Value → Value → Heap → Prop} (O : Hold W h0 m0 h m Rs) (k : Nat) (hk : Rs[k]? = some (rMI M kv b i es left))
   (HA : left = [] → Hold W h0 m0 h m (Rs.set k (rM M kv b es)) → A h)
   (HB : ∀ (j : Nat) (c : κ × ν) (l2 : List (κ × ν)) (v : Value) (h' : Heap), left[j]? = some c → l2 = left.eraseIdx j → EV m c.2 v → Hold W h0 m0 h' m (Rs.set k (rMI M kv b i es l2)) →
     (∀ K : Value → Heap → Prop, K (.tuple #[kv c.1, v]) h' → Gen P (Instr.entry (.pointer (some ⟨i, 0, none⟩))) h' K) → B (kv c.1) v h') :
   NextEv P (.pointer (some ⟨i, 0, none⟩)) ty h A B := by
 obtain ⟨F, ⟨⟨e, c, seen, h1, h2, h3, ⟨vs, h4, h5⟩, us, h6, h7⟩, k1, k2, k3, rfl⟩, h8, h9⟩ := O.get k hk
 unfold NextEv Gen Instr.next
 simp only [pure_bind]
 refine hwp_bind (hwp_getObj h2 (fun _ _ _ hh => by cases hh) ?_)
 simp only
 refine hwp_bind (hwp_getObj h1 (fun _ _ _ hh => by cases hh) ?_)
 simp only
 have hnot : ¬ ((!seen.isEmpty && !e.isEmpty && e.all (fun x => decide (x.born ≥ c))) = true) := by
   intro hh
   simp only [Bool.and_eq_true] at hh
   obtain ⟨⟨_, q1⟩, q2⟩ := hh
   have hne : 0 < e.size := by
     by_cases h0 : e.size = 0
     · have : e.isEmpty = true := by simp [Array.isEmpty, h0]
       rw [this] at q1; cases q1
     · omega
   rw [Array.all_eq_true] at q2
   have q3 := q2 0 hne
   have q4 := h3.2 (e[0]) (by simp)
   simp at q3; omega
 rw [if_neg hnot]
 have hold : ((e.filter fun x => !seen.contains x.born).filter fun x => decide (x.born < c)) = e.filter fun x => !seen.contains x.born := by
   rw [Array.filter_eq_self]
   intro x hx
   have := h3.2 x (by have := (Array.mem_filter.1 hx).1; simpa using this)
   simpa using this
 have hnew : ((e.filter fun x => !seen.contains x.born).filter fun x => decide (x.born ≥ c)) = #[] := by
   rw [Array.filter_eq_empty_iff]
   intro x hx
   have := h3.2 x (by have := (Array.mem_filter.1 hx).1; simpa using this)
   simp; omega
 rw [hold, hnew]
 have hl : (e.filter fun x => !seen.contains x.born).toList = e.toList.filter fun x => !seen.contains x.born := by simp
 generalize hL : (e.filter fun x => !seen.contains x.born) = L at *
 rw [← hl] at h6
 have hlen : L.size = left.length := by
   have a1 := congrArg List.length h6
   rw [List.length_map, List.length_map, h7.len] at a1
   simpa using a1
 by_cases h0 : left = []
 · have hs0 : L = #[] := by
     have : L.size = 0 := by rw [hlen, h0]; rfl
     exact Array.eq_empty_of_size_eq_zero this
   rw [hs0]
   have hcand : (if (#[] : Array MapEntry).isEmpty = true then #[(none : Option MapEntry)] else #[]) ++ ((#[] : Array MapEntry) ++ #[]).map some = #[none] := by simp
   rw [hcand]
   refine hwp_bind (hwp_mapNext (Nat.lt_succ_self 0) fun j hj => ?_)
   obtain rfl : j = 0 := by
     have : j < 1 := hj
     omega
   show Hwp P (pure (Value.tuple #[Value.bool false]) : Sem Value) h _
   refine hwp_pure (P := P) (Or.inl ⟨rfl, HA h0 ?_⟩)
   exact O.itEnd k hk
 · have hpos : 0 < L.size := by rw [hlen]; exact List.length_pos_iff.2 h0
   have hemp : L.isEmpty = false := by
     by_cases h00 : L.isEmpty = true
     · rw [Array.isEmpty_iff] at h00; rw [h00] at hpos; exact absurd hpos (by decide)
     · simpa using h00
   rw [hemp]
   have hcand : (if false = true then #[(none : Option MapEntry)] else #[]) ++ (L ++ #[]).map some = L.map some := by simp
   rw [hcand]
   have key : ∀ j, j < L.size → Hwp P (match (L.map some)[j]? with
       | some (some x) => do setObj i (Obj.mapIter (some b) c (seen.push x.born) c); pure (Value.tuple #[Value.bool true, x.key, x.val])
       | some none => pure (Value.tuple #[Value.bool false])
       | none => stuck "Next: no such candidate") h fun v h' => (v = Value.tuple #[Value.bool false] ∧ A h') ∨ ∃ k u, v = Value.tuple #[Value.bool true, k, u] ∧ B k u h' := by
     intro j hj
     have hx : L[j]? = some L[j] := Array.getElem?_eq_getElem hj
     have hx' : (L.map some)[j]? = some (some L[j]) := by rw [Array.getElem?_map, hx]; rfl
     rw [hx']
     generalize hxx : L[j] = x at *
     have hxl : L.toList[j]? = some x := by rw [Array.getElem?_toList]; exact hx
     obtain ⟨cc, hc⟩ : ∃ cc, left[j]? = some cc := ⟨left[j]'(by omega), List.getElem?_eq_getElem _⟩
     obtain ⟨v, p1, p2, p3⟩ := h7.at hc
     have p4 : (x.key, x.val) = (kv cc.1, v) := by
       have := congrArg (fun l => l[j]?) h6
       simp only [List.getElem?_map, hxl, p1, Option.map_some] at this
       exact Option.some.inj this
     have p5 : x.key = kv cc.1 := congrArg Prod.fst p4
     have p6 : x.val = v := congrArg Prod.snd p4
     have hxe : x ∈ e.toList := by
       have : x ∈ L.toList := List.mem_of_getElem? hxl
       rw [hl] at this
       exact (List.mem_filter.1 this).1
     have hilt := (Array.getElem?_eq_some_iff.1 h2).1
     have o1 : Only h (h.setIfInBounds i (.mapIter (some b) c (seen.push x.born) c)) i := ⟨by simp, fun q hq => by rw [Array.getElem?_setIfInBounds, if_neg (fun hh => hq hh.symm)]⟩
     have hg1 : (h.setIfInBounds i (.mapIter (some b) c (seen.push x.born) c))[i]? = some (.mapIter (some b) c (seen.push x.born) c) := by rw [Array.getElem?_setIfInBounds, if_pos rfl, if_pos hilt]
     have hg2 : (h.setIfInBounds i (.mapIter (some b) c (seen.push x.born) c))[b]? = some (.map e c) := by rw [o1.2 b k3]; exact h1
     refine hwp_bind (hwp_setObj h2 (fun _ _ _ hh => by cases hh) (hwp_pure (P := P) (.inr ⟨x.key, x.val, rfl, ?_⟩)))
     rw [p5, p6]
     have hfil : e.toList.filter (fun y => !(seen.push x.born).contains y.born) = L.toList.eraseIdx j := by
       rw [← erase_filter (by rw [hl]; exact filter_pw _ h3.1) hxl, hl, List.filter_filter]
       refine List.filter_congr fun y _ => ?_
       by_cases hy : y.born = x.born
       · simp [hy]
       · have : seen.contains y.born = (seen.push x.born).contains y.born := by
           rw [Bool.eq_iff_iff]; simp [hy]
         rw [← this]; simp [hy]
     have hSt : St (U (fb b) (fb i)) h m (h.setIfInBounds i (.mapIter (some b) c (seen.push x.born) c)) m := by
       refine ⟨.refl _, fun q o' j1 j2 => ?_, by simp, fun q hq hw => o1.2 q (fun hh => hw (.inr (show fb i q from hh))), fun q _ hl' => .inl hl'⟩
       rw [o1.2 q (fun hh => k2 (hh ▸ ⟨o', j1, j2⟩))]
       exact O.s q o' j1 j2
     refine HB j cc _ v _ hc rfl p2 (h9 (R' := rMI M kv b i es (left.eraseIdx j)) hSt ⟨⟨e, c, seen.push x.born, hg2, hg1, h3, ⟨vs, h4, h5⟩, us.eraseIdx j, ?_, p3⟩, k1, k2, k3, rfl⟩ (fun q hq => .inl hq)) fun K hK => ?_
     · rw [hfil, eraseIdx_map, h6, eraseIdx_map]
     · unfold Gen Instr.entry
       simp only [pure_bind]
       refine hwp_bind (hwp_getObj hg1 (fun _ _ _ hh => by cases hh) ?_)
       simp only
       rw [Array.back?_push]
       simp only
       refine hwp_bind (hwp_getObj hg2 (fun _ _ _ hh => by cases hh) ?_)
       simp only
       rw [if_neg (by simp)]
       have hfind : e.find? (fun y => y.born == x.born) = some x := by
         rw [← Array.find?_toList]
         exact find_born h3.1 hxe
       rw [hfind]
       refine hwp_pure (P := P) ?_
       rw [p5, p6]; exact hK
   refine hwp_bind (hwp_mapNext (by simpa using hpos) fun j hj => key j (by simpa using hj))
end
end Go.Hw
namespace Go.Hw
open Go
end Go.Hw

end
section
set_option linter.unusedVariables false
namespace Go.Hw
open Go
end Go.Hw

end
section
set_option linter.unusedVariables false
namespace Go.Hw
open Go
def bytesI (s : ByteArray) : List Int := s.data.toList.map fun b => ((UInt8.toNat b : Nat) : Int)
theorem bytesI_len (s : ByteArray) : (bytesI s).length = s.size := by rw [bytesI, List.length_map]; rfl
theorem hwp_mark {P : Program} {h : Heap} {b : Nat} {X : Array Value} {e : TypeId} {K : Unit → Heap → Prop} (hb : h[b]? = some (.cells X e (0, 0))) (hk : K () (freezeH h ⟨b, X.size, none⟩ 1)) : Hwp P (markStringish ⟨b, 0, none⟩) h K := by
 unfold markStringish
 refine hwp_bind (show Hwp P (shape b) h _ from ?_)
 show Hwp P (match shapeH h b with | some (_, n) => freeze { block := b, off := n } 1 | _ => pure ()) h K
 have : shapeH h b = some (e, X.size) := by unfold shapeH; rw [hb]
 rw [this]
 exact hk
theorem freeze_push {h : Heap} {X : Array Value} {e : TypeId} : freezeH (h.push (.cells X e (0, 0))) ⟨h.size, X.size, none⟩ 1 = h.push (.cells X e (X.size, X.size + 1)) := by
 unfold freezeH
 rw [if_neg (by decide)]
 apply Array.ext_getElem?
 intro i
 rw [Array.getElem?_modify]
 by_cases hi : i = h.size
 · subst hi; simp
 · rw [if_neg (by simpa using Ne.symm hi), Array.getElem?_push, Array.getElem?_push, if_neg hi, if_neg hi]
theorem gen_s2b {P : Program} {src dst e : TypeId} {u : TypeDesc} {s : ByteArray} {h : Heap} {K : Value → Heap → Prop} (hs : P.underlying src = some u) (hd : P.underlying dst = some (.slice e)) (he : P.underlying e = some (.int .u8))
   (hk : ∀ c n, s.size ≤ c → K (.slice (some ⟨h.size, 0, none⟩) s.size c) (h.push (.cells ((s.data.map fun b => Value.int .u8 b.toNat) ++ Array.replicate (c - s.size) (.int .u8 0)) e (n, n + 1)))) : Gen P (convert src dst (.string s)) h K := by
 unfold Gen convert
 refine hwp_bind (hwp_underlying hs (hwp_bind (hwp_underlying hd ?_)))
 refine hwp_bind (hwp_underlying he ?_)
 unfold Conv.stringToBytes
 have hch : ∀ (f : Nat → Sem Value), (∀ c', s.size ≤ c' → Hwp P (f c') h K) → Hwp P (choose (Question.appendCap s.size 0 e) >>= f) h K := fun f hf => by
   refine hwp_bind ?_
   show (if Question.forced (Question.appendCap s.size 0 e) then _ else _)
   rw [if_neg (by simp [Question.forced])]
   intro t
   exact hf _ (Nat.le_add_right _ _)
 refine hch _ fun c hc => ?_
 show Hwp P (newRow e ((s.data.map fun b => Value.int .u8 b.toNat) ++ Array.replicate (c - s.size) (.int .u8 0)) >>= _) h K
 generalize hX : (s.data.map fun b => Value.int .u8 b.toNat) ++ Array.replicate (c - s.size) (.int .u8 0) = X at *
 refine hwp_bind ?_
 show Hwp P (markStringish ⟨h.size, 0, none⟩ >>= fun _ => _) (h.push (.cells X e (0, 0))) K
 refine hwp_bind (hwp_mark (X := X) (e := e) (by simp) ?_)
 rw [freeze_push]
 have := hk c X.size hc
 rw [hX] at this
 exact this
section
variable {h0 m0 h h' m m' : Heap} {W F F' G : Foot} {Rs Rs' : List Res}
theorem Hold.s2b {P : Program} {src dst e : TypeId} {u : TypeDesc} {s : ByteArray} {K : Value → Heap → Prop} (O : Hold W h0 m0 h m Rs) (hs : P.underlying src = some u) (hd : P.underlying dst = some (.slice e)) (he : P.underlying e = some (.int .u8))
   (H : ∀ h' m' A c, Ext h h' → Sub m m' → Rd 1 (eInt .u8) m' A (bytesI s) → (bytesI s).length ≤ c → Hold W h0 m0 h' m' Rs → K (.slice A (bytesI s).length c) h') : Gen P (convert src dst (.string s)) h K := by
 refine gen_s2b hs hd he fun c n hc => ?_
 generalize hX : (s.data.map fun b => Value.int .u8 b.toNat) ++ Array.replicate (c - s.size) (.int .u8 0) = X
 have e1 : Ext h (h.push (.cells X e (n, n + 1))) := ⟨by simp, fun b hb => by rw [Array.getElem?_push, if_neg (by omega)]⟩
 have s1 : Sub m (h.push (.cells X e (n, n + 1))) := O.s.ext e1
 have hl : ¬ Live m h.size := St.notLive O.s
 have T : St No h m (h.push (.cells X e (n, n + 1))) (addV m (h.push (.cells X e (n, n + 1))) (fb h.size)) :=
   ⟨addV_up s1, addV_sub, e1.1, fun b hb _ => e1.2 b hb, fun b hb hv => (addV_live hv).1.elim .inl (fun hf => by unfold fb at hf; omega)⟩
 rw [← bytesI_len]
 refine H _ _ _ _ e1 (addV_up s1) ?_ (by rw [bytesI_len]; exact hc) (O.grow T)
 intro i hi
 refine ⟨_, _, rfl, ?_, rfl⟩
 have hi' : i < s.data.size := by rw [bytesI_len] at hi; exact hi
 have hb : (addV m (h.push (.cells X e (n, n + 1))) (fb h.size))[h.size]? = some (.cells X e (n, n + 1)) := by
   rw [addV_get (F := fb h.size) (by simp) (.inr rfl)]; simp
 have hx : X[i]? = some (.int .u8 (bytesI s)[i]) := by
   subst hX
   rw [Array.getElem?_append_left (by simpa using hi'), Array.getElem?_map, Array.getElem?_eq_getElem hi']
   simp [bytesI]
 have hc1 : cellH (addV m (h.push (.cells X e (n, n + 1))) (fb h.size)) ((Addr.add ⟨h.size, 0, none⟩ (i * 1)).add 0) = some (.int .u8 (bytesI s)[i]) := by
   unfold cellH
   have hb2 : (addV m (h.push (.cells X e (n, n + 1))) (fb h.size))[((Addr.add ⟨h.size, 0, none⟩ (i * 1)).add 0).block]? = some (.cells X e (n, n + 1)) := by rw [add_block, add_block]; exact hb
   rw [hb2]
   have h1 : ((Addr.add ⟨h.size, 0, none⟩ (i * 1)).add 0).off = i := by rw [add_off, add_off]; simp
   have h2 : ((Addr.add ⟨h.size, 0, none⟩ (i * 1)).add 0).spot = none := add_spot _ (add_spot _ rfl)
   simp only [h1, h2]
   exact hx
 unfold cellsH
 rw [hc1]
 rfl
end
end Go.Hw

end
section
set_option linter.unusedVariables false
namespace Go.Hw
open Go
section
variable {α : Type} {l r s : List α} {a b : Nat}
def Tch (a b : Nat) (l r : List α) : Prop := r.Perm l ∧ ∀ i, (i < a ∨ b ≤ i) → r[i]? = l[i]?
theorem Tch.refl : Tch a b l l := ⟨.refl _, fun _ _ => rfl⟩
theorem Tch.trans (h : Tch a b l r) (k : Tch a b r s) : Tch a b l s := ⟨k.1.trans h.1, fun i hi => (k.2 i hi).trans (h.2 i hi)⟩
theorem Tch.mono {a' b' : Nat} (h : Tch a b l r) (ha : a' ≤ a) (hb : b ≤ b') : Tch a' b' l r := ⟨h.1, fun i hi => h.2 i (by omega)⟩
theorem Tch.len (h : Tch a b l r) : r.length = l.length := h.1.length_eq
theorem Tch.swap {i j : Nat} (hi : i < l.length) (hj : j < l.length) (i1 : a ≤ i) (i2 : i < b) (j1 : a ≤ j) (j2 : j < b) : Tch a b l ((l.set i l[j]).set j l[i]) := by
 refine ⟨List.set_set_perm hi hj, fun k hk => ?_⟩
 rw [List.getElem?_set, List.getElem?_set, if_neg (by omega), if_neg (by omega)]
theorem Tch.seg (h : Tch a b l r) (hab : a ≤ b) (hb : b ≤ l.length) : ((r.drop a).take (b - a)).Perm ((l.drop a).take (b - a)) := by
 have hl := h.len
 have e : ∀ x : List α, x.length = l.length → x = x.take a ++ ((x.drop a).take (b - a) ++ x.drop b) := by
   intro x hx
   have h1 : (x.drop a).drop (b - a) = x.drop b := by rw [List.drop_drop]; congr 1; omega
   rw [← h1, List.take_append_drop, List.take_append_drop]
 have ht : r.take a = l.take a := by
   refine List.ext_getElem? fun i => ?_
   by_cases hi : i < a
   · rw [List.getElem?_take_of_lt hi, List.getElem?_take_of_lt hi, h.2 i (.inl hi)]
   · rw [List.getElem?_eq_none (by rw [List.length_take]; omega), List.getElem?_eq_none (by rw [List.length_take]; omega)]
 have hd : r.drop b = l.drop b := by
   refine List.ext_getElem? fun i => ?_
   rw [List.getElem?_drop, List.getElem?_drop, h.2 _ (.inr (by omega))]
 have hp := h.1
 rw [e r hl, e l rfl, ht, hd] at hp
 exact (List.perm_append_right_iff _).1 ((List.perm_append_left_iff _).1 hp)
theorem seg_mem {x : α} (hb : b ≤ l.length) : x ∈ (l.drop a).take (b - a) ↔ ∃ i, ∃ h : i < l.length, a ≤ i ∧ i < b ∧ l[i] = x := by
 rw [List.mem_iff_getElem]
 constructor
 · rintro ⟨i, hi, he⟩
   rw [List.length_take, List.length_drop] at hi
   refine ⟨a + i, by omega, by omega, by omega, ?_⟩
   rw [List.getElem_take, List.getElem_drop] at he
   exact he
 · rintro ⟨i, h, h1, h2, he⟩
   refine ⟨i - a, by rw [List.length_take, List.length_drop]; omega, ?_⟩
   rw [List.getElem_take, List.getElem_drop]
   simp only [show a + (i - a) = i by omega]
   exact he
theorem Tch.all {P : α → Prop} (h : Tch a b l r) (hab : a ≤ b) (hb : b ≤ l.length) (hP : ∀ i (hi : i < l.length), a ≤ i → i < b → P l[i]) : ∀ i (hi : i < r.length), a ≤ i → i < b → P r[i] := by
 intro i hi h1 h2
 have hm : r[i] ∈ (r.drop a).take (b - a) := (seg_mem (by rw [h.len]; exact hb)).2 ⟨i, hi, h1, h2, rfl⟩
 obtain ⟨j, hj, j1, j2, he⟩ := (seg_mem hb).1 ((h.seg hab hb).mem_iff.1 hm)
 rw [← he]
 exact hP j hj j1 j2
theorem Tch.at (h : Tch a b l r) {i : Nat} (hi : i < l.length) (ho : i < a ∨ b ≤ i) : r[i]'(by rw [h.len]; exact hi) = l[i] := by
 have := h.2 i ho
 rw [List.getElem?_eq_getElem (by rw [h.len]; exact hi), List.getElem?_eq_getElem hi] at this
 exact Option.some.inj this
end
structure Ord3 {α : Type} [LE α] (lt : α → α → Bool) : Prop where
 no : ∀ {x y : α}, lt x y = false → y ≤ x
 yes : ∀ {x y : α}, lt x y = true → x ≤ y
 tr : ∀ {x y z : α}, x ≤ y → y ≤ z → x ≤ z
 nn : ∀ {x y : α}, y ≤ x → lt x y = false
theorem Ord3.rf {α : Type} [LE α] {lt : α → α → Bool} (od : Ord3 lt) (x : α) : x ≤ x := by
 cases h : lt x x
 · exact od.no h
 · exact od.yes h
section
variable {α : Type} [LE α]
def Srt {α : Type} [LE α] (a b : Nat) (l : List α) : Prop := ∀ i j (hi : i < l.length) (hj : j < l.length), a ≤ i → i < j → j < b → l[i] ≤ l[j]
theorem Srt.all {l : List α} (h : Srt 0 l.length l) : l.Pairwise (· ≤ ·) := List.pairwise_iff_getElem.2 fun i j hi hj hij => h i j hi hj (Nat.zero_le _) hij hj
omit [LE α] in
theorem swap_txt {β : Type} {l : List α} {i j : Nat} {K : List α → Option β} (hi : i < l.length) (hj : j < l.length) :
   ((gi l (j : Int)).bind fun y1 => (gi l (i : Int)).bind fun y8 => (gi l (i : Int)).bind fun _ => (some (l.set (Int.toNat (i : Int)) y1)).bind fun l24 => (gi l24 (j : Int)).bind fun _ => (some (l24.set (Int.toNat (j : Int)) y8)).bind K) = K ((l.set i l[j]).set j l[i]) := by
 rw [gi_at hj, Option.bind_some, gi_at hi, Option.bind_some, Option.bind_some, Option.bind_some, gi_at (by rw [List.length_set]; exact hj), Option.bind_some, Option.bind_some]
 rfl
theorem insert_in {f0 : List α → Int → Int → Int → Option (List α)} {f1 : List α → Int → Int → Int → Int → Option (List α)} {less : α → α → Option Bool} {lt : α → α → Bool} (od : Ord3 lt) (hl : ∀ x y, less x y = some (lt x y))
   (e1 : ∀ l a b i j, f1 l a b i j = if j > a then ((gi l j).bind fun y1 => (gi l (IntKind.wrap .i64 (j - 1))).bind fun y8 => (less y1 y8).bind fun c => if c = true then ((gi l (IntKind.wrap .i64 (j - 1))).bind fun y1 => (gi l j).bind fun y8 => (gi l j).bind fun _ => (some (l.set (Int.toNat j) y1)).bind fun l24 => (gi l24 (IntKind.wrap .i64 (j - 1))).bind fun _ => (some (l24.set (Int.toNat (IntKind.wrap .i64 (j - 1))) y8)).bind fun l35 => f1 l35 a b i (IntKind.wrap .i64 (j - 1))) else f0 l a b (IntKind.wrap .i64 (i + 1))) else f0 l a b (IntKind.wrap .i64 (i + 1)))
   {a b i : Nat} : ∀ (d j : Nat) (l : List α), a + d = j → j ≤ i → i < l.length → l.length ≤ 4611686018427387904 →
     (∀ p q (hp : p < l.length) (hq : q < l.length), a ≤ p → p < q → q ≤ i → p ≠ j → q ≠ j → l[p] ≤ l[q]) → (∀ q (hj : j < l.length) (hq : q < l.length), j < q → q ≤ i → l[j] ≤ l[q]) →
     ∃ r, Tch a (i + 1) l r ∧ Srt a (i + 1) r ∧ f1 l (a : Int) (b : Int) (i : Int) (j : Int) = f0 r (a : Int) (b : Int) ((i + 1 : Nat) : Int) := by
 intro d
 induction d with
 | zero =>
   intro j l hj hji hil hlen h1 h2
   refine ⟨l, .refl, fun p q hp hq hap hpq hqi => ?_, by rw [e1, if_neg (by omega), w_succ (by omega)]⟩
   by_cases e : p = j
   · subst e; exact h2 q hp hq hpq (by omega)
   · exact h1 p q hp hq hap hpq (by omega) e (by omega)
 | succ d ih =>
   intro j l hj hji hil hlen h1 h2
   have hjl : j < l.length := by omega
   have hw : IntKind.wrap .i64 ((j : Int) - 1) = ((j - 1 : Nat) : Int) := by rw [wrap_in (by omega) (by omega)]; omega
   rw [e1, if_pos (by omega), hw, swap_txt (i := j) (j := j - 1) hjl (by omega), gi_at hjl, Option.bind_some, gi_at (show j - 1 < l.length by omega), Option.bind_some, hl, Option.bind_some]
   by_cases g : lt l[j] l[j - 1] = true
   · rw [if_pos g]
     have hL : ((l.set j l[j - 1]).set (j - 1) l[j]).length = l.length := by rw [List.length_set, List.length_set]
     have gt : ∀ q (hq : q < ((l.set j l[j - 1]).set (j - 1) l[j]).length), ((l.set j l[j - 1]).set (j - 1) l[j])[q] = if q = j - 1 then l[j] else if q = j then l[j - 1] else l[q]'(by omega) := by
       intro q hq
       rw [List.getElem_set, List.getElem_set]
       by_cases c1 : q = j - 1
       · rw [if_pos (show j - 1 = q from c1.symm), if_pos (show q = j - 1 from c1)]
       · rw [if_neg (show ¬ j - 1 = q from fun e => c1 e.symm), if_neg (show ¬ q = j - 1 from c1)]
         by_cases c2 : q = j
         · rw [if_pos (show j = q from c2.symm), if_pos (show q = j from c2)]
         · rw [if_neg (show ¬ j = q from fun e => c2 e.symm), if_neg (show ¬ q = j from c2)]
     have n1 : ∀ p q (hp : p < ((l.set j l[j - 1]).set (j - 1) l[j]).length) (hq : q < ((l.set j l[j - 1]).set (j - 1) l[j]).length), a ≤ p → p < q → q ≤ i → p ≠ j - 1 → q ≠ j - 1 → ((l.set j l[j - 1]).set (j - 1) l[j])[p] ≤ ((l.set j l[j - 1]).set (j - 1) l[j])[q] := by
       intro p q hp hq hap hpq hqi hpj hqj
       rw [gt p hp, gt q hq, if_neg hpj, if_neg hqj]
       by_cases c1 : p = j
       · rw [if_pos c1, if_neg (by omega)]
         exact h1 (j - 1) q (by omega) (by omega) (by omega) (by omega) hqi (by omega) (by omega)
       · rw [if_neg c1]
         by_cases c2 : q = j
         · rw [if_pos c2]
           exact h1 p (j - 1) (by omega) (by omega) hap (by omega) (by omega) (by omega) (by omega)
         · rw [if_neg c2]
           exact h1 p q (by omega) (by omega) hap hpq hqi c1 c2
     have n2 : ∀ q (hj' : j - 1 < ((l.set j l[j - 1]).set (j - 1) l[j]).length) (hq : q < ((l.set j l[j - 1]).set (j - 1) l[j]).length), j - 1 < q → q ≤ i → ((l.set j l[j - 1]).set (j - 1) l[j])[j - 1] ≤ ((l.set j l[j - 1]).set (j - 1) l[j])[q] := by
       intro q hj' hq hjq hqi
       rw [gt (j - 1) hj', gt q hq, if_pos rfl, if_neg (by omega)]
       by_cases c : q = j
       · rw [if_pos c]; exact od.yes g
       · rw [if_neg c]
         exact h2 q hjl (by omega) (by omega) hqi
     obtain ⟨r, t1, t2, t3⟩ := ih (j - 1) ((l.set j l[j - 1]).set (j - 1) l[j]) (by omega) (by omega) (by omega) (by omega) n1 n2
     exact ⟨r, (Tch.swap (i := j) (j := j - 1) hjl (by omega) (by omega) (by omega) (by omega) (by omega)).trans t1, t2, t3⟩
   · rw [if_neg g, w_succ (by omega)]
     refine ⟨l, .refl, fun p q hp hq hap hpq hqi => ?_, rfl⟩
     by_cases c1 : p = j
     · subst c1; exact h2 q hp hq hpq (by omega)
     · by_cases c2 : q = j
       · subst c2
         by_cases c3 : p = q - 1
         · subst c3; exact od.no (Bool.eq_false_iff.2 g)
         · have := h1 p (q - 1) hp (by omega) hap (by omega) (by omega) (by omega) (by omega); exact od.tr this (od.no (Bool.eq_false_iff.2 g))
       · exact h1 p q hp hq hap hpq (by omega) c1 c2
theorem insertion_val {f0 : List α → Int → Int → Int → Option (List α)} {f1 : List α → Int → Int → Int → Int → Option (List α)} {less : α → α → Option Bool} {lt : α → α → Bool} (od : Ord3 lt) (hl : ∀ x y, less x y = some (lt x y))
   (e0 : ∀ l a b i, f0 l a b i = if i < b then f1 l a b i i else some l)
   (e1 : ∀ l a b i j, f1 l a b i j = if j > a then ((gi l j).bind fun y1 => (gi l (IntKind.wrap .i64 (j - 1))).bind fun y8 => (less y1 y8).bind fun c => if c = true then ((gi l (IntKind.wrap .i64 (j - 1))).bind fun y1 => (gi l j).bind fun y8 => (gi l j).bind fun _ => (some (l.set (Int.toNat j) y1)).bind fun l24 => (gi l24 (IntKind.wrap .i64 (j - 1))).bind fun _ => (some (l24.set (Int.toNat (IntKind.wrap .i64 (j - 1))) y8)).bind fun l35 => f1 l35 a b i (IntKind.wrap .i64 (j - 1))) else f0 l a b (IntKind.wrap .i64 (i + 1))) else f0 l a b (IntKind.wrap .i64 (i + 1)))
   {a b : Nat} : ∀ (d i : Nat) (l : List α), i + d = b → a ≤ i → b ≤ l.length → l.length ≤ 4611686018427387904 → Srt a i l → ∃ r, Tch a b l r ∧ Srt a b r ∧ f0 l (a : Int) (b : Int) (i : Int) = some r := by
 intro d
 induction d with
 | zero =>
   intro i l hi hai hb hlen hs
   have : i = b := by omega
   subst this
   exact ⟨l, .refl, hs, by rw [e0, if_neg (by omega)]⟩
 | succ d ih =>
   intro i l hi hai hb hlen hs
   obtain ⟨r, t1, t2, t3⟩ := insert_in (b := b) od hl e1 (i - a) i l (by omega) (Nat.le_refl _) (by omega) hlen (fun p q hp hq hap hpq hqi hpj hqj => hs p q hp hq hap hpq (by omega)) (fun q _ hq hjq hqi => absurd hjq (by omega))
   obtain ⟨s, u1, u2, u3⟩ := ih (i + 1) r (by omega) (by omega) (by rw [t1.len]; exact hb) (by rw [t1.len]; exact hlen) t2
   exact ⟨s, (t1.mono (Nat.le_refl _) (by omega)).trans u1, u2, by rw [e0, if_pos (by omega), t3, u3]⟩
def Heap2 (a lo hi x : Nat) (l : List α) : Prop := ∀ k c (hk : a + k < l.length) (hc : a + c < l.length), lo ≤ k → (c = 2 * k + 1 ∨ c = 2 * k + 2) → c < hi → k ≠ x → l[a + c] ≤ l[a + k]
theorem sift_val {f : List α → Int → Int → Int → Option (List α)} {J1 : List α → Int → Int → Int → Int → Bool → Option (List α)} {J0 : List α → Int → Int → Int → Int → Option (List α)} {less : α → α → Option Bool} {lt : α → α → Bool} (od : Ord3 lt) (hl : ∀ x y, less x y = some (lt x y))
   (e : ∀ l hi a x, f l hi a x = if IntKind.wrap .i64 (IntKind.wrap .i64 (2 * x) + 1) ≥ hi then some l else if IntKind.wrap .i64 (IntKind.wrap .i64 (IntKind.wrap .i64 (2 * x) + 1) + 1) < hi then (gi l (IntKind.wrap .i64 (a + IntKind.wrap .i64 (IntKind.wrap .i64 (2 * x) + 1)))).bind fun y1 => (gi l (IntKind.wrap .i64 (IntKind.wrap .i64 (a + IntKind.wrap .i64 (IntKind.wrap .i64 (2 * x) + 1)) + 1))).bind fun y8 => (less y1 y8).bind fun c => J1 l hi a x (IntKind.wrap .i64 (IntKind.wrap .i64 (2 * x) + 1)) c else J1 l hi a x (IntKind.wrap .i64 (IntKind.wrap .i64 (2 * x) + 1)) false)
   (e1 : ∀ l hi a x c b, J1 l hi a x c b = if b = true then J0 l hi a x (IntKind.wrap .i64 (c + 1)) else J0 l hi a x c)
   (e0 : ∀ l hi a x c, J0 l hi a x c = (gi l (IntKind.wrap .i64 (a + x))).bind fun y1 => (gi l (IntKind.wrap .i64 (a + c))).bind fun y8 => (less y1 y8).bind fun q => if q = true then ((gi l (IntKind.wrap .i64 (a + c))).bind fun y1 => (gi l (IntKind.wrap .i64 (a + x))).bind fun y8 => (gi l (IntKind.wrap .i64 (a + x))).bind fun _ => (some (l.set (Int.toNat (IntKind.wrap .i64 (a + x))) y1)).bind fun l24 => (gi l24 (IntKind.wrap .i64 (a + c))).bind fun _ => (some (l24.set (Int.toNat (IntKind.wrap .i64 (a + c))) y8)).bind fun l35 => f l35 hi a c) else some l)
   {a lo hi : Nat} : ∀ (d x : Nat) (l : List α), hi ≤ x + d → lo ≤ x → x < hi → a + hi ≤ l.length → l.length ≤ 1000000000000000000 → Heap2 a lo hi x l →
     (∀ p c (hp : a + p < l.length) (hc : a + c < l.length), lo ≤ p → (x = 2 * p + 1 ∨ x = 2 * p + 2) → (c = 2 * x + 1 ∨ c = 2 * x + 2) → c < hi → l[a + c] ≤ l[a + p]) →
     ∃ r, Tch (a + lo) (a + hi) l r ∧ Heap2 a lo hi hi r ∧ f l (hi : Int) (a : Int) (x : Int) = some r := by
 intro d
 induction d with
 | zero => intro x l h1 h2 h3; omega
 | succ d ih =>
   intro x l h1 h2 h3 hb hlen H HP
   have w1 : IntKind.wrap .i64 (2 * (x : Int)) = ((2 * x : Nat) : Int) := by rw [wrap_in (by omega) (by omega)]; omega
   have w2 : IntKind.wrap .i64 (((2 * x : Nat) : Int) + 1) = ((2 * x + 1 : Nat) : Int) := w_succ (by omega)
   have w3 : IntKind.wrap .i64 (((2 * x + 1 : Nat) : Int) + 1) = ((2 * x + 2 : Nat) : Int) := w_succ (by omega)
   rw [e, w1, w2, w3]
   by_cases g1 : hi ≤ 2 * x + 1
   · rw [if_pos (by omega)]
     refine ⟨l, .refl, fun k c hk hc hlk hkc hch _ => ?_, rfl⟩
     by_cases q : k = x
     · omega
     · exact H k c hk hc hlk hkc hch q
   · rw [if_neg (by omega)]
     have ax : a + x < l.length := by omega
     -- the greater child
     have main : ∀ ch (hch : ch < hi) (ach : a + ch < l.length), (ch = 2 * x + 1 ∨ ch = 2 * x + 2) → (∀ c (hc : a + c < l.length), (c = 2 * x + 1 ∨ c = 2 * x + 2) → c < hi → l[a + c] ≤ l[a + ch]) →
         ∃ r, Tch (a + lo) (a + hi) l r ∧ Heap2 a lo hi hi r ∧ J0 l (hi : Int) (a : Int) (x : Int) (ch : Int) = some r := by
       intro ch hch ach hcc hmax
       have v1 : IntKind.wrap .i64 ((a : Int) + (x : Int)) = ((a + x : Nat) : Int) := by rw [wrap_in (by omega) (by omega)]; omega
       have v2 : IntKind.wrap .i64 ((a : Int) + (ch : Int)) = ((a + ch : Nat) : Int) := by rw [wrap_in (by omega) (by omega)]; omega
       rw [e0, v1, v2, swap_txt (i := a + x) (j := a + ch) ax ach, gi_at ax, Option.bind_some, gi_at ach, Option.bind_some, hl, Option.bind_some]
       by_cases g : lt l[a + x] l[a + ch] = true
       · rw [if_pos g]
         have hL : ((l.set (a + x) l[a + ch]).set (a + ch) l[a + x]).length = l.length := by rw [List.length_set, List.length_set]
         have gt : ∀ q (hq : a + q < ((l.set (a + x) l[a + ch]).set (a + ch) l[a + x]).length), ((l.set (a + x) l[a + ch]).set (a + ch) l[a + x])[a + q] = if q = ch then l[a + x] else if q = x then l[a + ch] else l[a + q]'(by omega) := by
           intro q hq
           rw [List.getElem_set, List.getElem_set]
           by_cases c1 : q = ch
           · rw [if_pos (show a + ch = a + q by omega), if_pos (show q = ch from c1)]
           · rw [if_neg (show ¬ a + ch = a + q by omega), if_neg (show ¬ q = ch from c1)]
             by_cases c2 : q = x
             · rw [if_pos (show a + x = a + q by omega), if_pos (show q = x from c2)]
             · rw [if_neg (show ¬ a + x = a + q by omega), if_neg (show ¬ q = x from c2)]
         have n1 : Heap2 a lo hi ch ((l.set (a + x) l[a + ch]).set (a + ch) l[a + x]) := by
           intro k c hk hc hlk hkc hchi hne
           rw [gt c hc, gt k hk, if_neg hne]
           by_cases k1 : k = x
           · subst k1
             rw [if_pos rfl]
             by_cases c1 : c = ch
             · rw [if_pos c1]; exact od.yes g
             · rw [if_neg c1, if_neg (by omega)]; exact hmax c (by omega) hkc hchi
           · rw [if_neg k1]
             by_cases c1 : c = ch
             · omega
             · rw [if_neg c1]
               by_cases c2 : c = x
               · rw [if_pos c2]
                 exact HP k ch (by omega) ach hlk (by omega) hcc hch
               · rw [if_neg c2]; exact H k c (by omega) (by omega) hlk hkc hchi k1
         have n2 : ∀ p c (hp : a + p < ((l.set (a + x) l[a + ch]).set (a + ch) l[a + x]).length) (hc : a + c < ((l.set (a + x) l[a + ch]).set (a + ch) l[a + x]).length), lo ≤ p → (ch = 2 * p + 1 ∨ ch = 2 * p + 2) → (c = 2 * ch + 1 ∨ c = 2 * ch + 2) → c < hi → ((l.set (a + x) l[a + ch]).set (a + ch) l[a + x])[a + c] ≤ ((l.set (a + x) l[a + ch]).set (a + ch) l[a + x])[a + p] := by
           intro p c hp hc hlp hpc hcc' hchi
           have : p = x := by omega
           rw [gt c hc, gt p hp, if_neg (by omega), if_neg (by omega), if_neg (by omega), if_pos this]
           exact H ch c ach (by omega) (by omega) hcc' hchi (by omega)
         obtain ⟨r, t1, t2, t3⟩ := ih ch _ (by omega) (by omega) hch (by omega) (by omega) n1 n2
         exact ⟨r, (Tch.swap (i := a + x) (j := a + ch) ax ach (by omega) (by omega) (by omega) (by omega)).trans t1, t2, t3⟩
       · rw [if_neg g]
         refine ⟨l, .refl, fun k c hk hc hlk hkc hchi _ => ?_, rfl⟩
         by_cases q : k = x
         · subst q; exact od.tr (hmax c hc hkc hchi) (od.no (Bool.eq_false_iff.2 g))
         · exact H k c hk hc hlk hkc hchi q
     have v3 : IntKind.wrap .i64 ((a : Int) + ((2 * x + 1 : Nat) : Int)) = ((a + (2 * x + 1) : Nat) : Int) := by rw [wrap_in (by omega) (by omega)]; omega
     have v4 : IntKind.wrap .i64 (((a + (2 * x + 1) : Nat) : Int) + 1) = ((a + (2 * x + 2) : Nat) : Int) := by rw [w_succ (by omega)]; rfl
     by_cases g2 : 2 * x + 2 < hi
     · rw [if_pos (by omega), v3, v4, gi_at (show a + (2 * x + 1) < l.length by omega), Option.bind_some, gi_at (show a + (2 * x + 2) < l.length by omega), Option.bind_some, hl, Option.bind_some, e1]
       by_cases g3 : lt l[a + (2 * x + 1)] l[a + (2 * x + 2)] = true
       · rw [if_pos g3, w3]
         refine main (2 * x + 2) g2 (by omega) (.inr rfl) fun c hc hcc _ => ?_
         rcases hcc with rfl | rfl
         · exact od.yes g3
         · exact od.rf _
       · rw [if_neg g3]
         refine main (2 * x + 1) (by omega) (by omega) (.inl rfl) fun c hc hcc _ => ?_
         rcases hcc with rfl | rfl
         · exact od.rf _
         · exact od.no (Bool.eq_false_iff.2 g3)
     · rw [if_neg (by omega), e1, if_neg (by decide)]
       refine main (2 * x + 1) (by omega) (by omega) (.inl rfl) fun c hc hcc hchi => ?_
       rcases hcc with rfl | rfl
       · exact od.rf _
       · omega
theorem heap_max {lt : α → α → Bool} (od : Ord3 lt) {a m : Nat} {l : List α} (H : Heap2 a 0 m m l) (hb : a + m ≤ l.length) (hm : 0 < m) : ∀ (n k : Nat), k ≤ n → (hk : k < m) → l[a + k]'(by omega) ≤ l[a]'(by omega) := by
 intro n
 induction n with
 | zero => intro k hn hk; have : k = 0 := by omega
           subst this; exact od.rf _
 | succ n ih =>
   intro k hn hk
   by_cases h0 : k = 0
   · subst h0; exact od.rf _
   · have h1 := H ((k - 1) / 2) k (by omega) (by omega) (Nat.zero_le _) (by omega) hk (by omega)
     have h2 := ih ((k - 1) / 2) (by omega) (by omega)
     exact od.tr h1 h2
theorem heap_build {f0 : List α → Int → Int → Int → Int → Option (List α)} {sift : List α → Int → Int → Int → Option (List α)} {E : List α → Option (List α)} {a hi : Nat}
   (hs : ∀ (l : List α) (lo x : Nat), a + hi ≤ l.length → l.length ≤ 1000000000000000000 → lo ≤ x → x < hi → Heap2 a lo hi x l → (∀ p, lo ≤ p → ¬ (x = 2 * p + 1 ∨ x = 2 * p + 2)) → ∃ r, Tch (a + lo) (a + hi) l r ∧ Heap2 a lo hi hi r ∧ sift l (x : Int) (hi : Int) (a : Int) = some r)
   (e : ∀ l (i : Int), f0 l (a : Int) 0 (hi : Int) i = if i ≥ 0 then (sift l i (hi : Int) (a : Int)).bind fun y => f0 y (a : Int) 0 (hi : Int) (IntKind.wrap .i64 (i - 1)) else E l) :
   ∀ (n : Nat) (l : List α), n ≤ hi → a + hi ≤ l.length → l.length ≤ 1000000000000000000 → Heap2 a n hi hi l → ∃ r, Tch a (a + hi) l r ∧ Heap2 a 0 hi hi r ∧ f0 l (a : Int) 0 (hi : Int) ((n : Int) - 1) = E r := by
 intro n
 induction n with
 | zero => intro l h1 h2 h3 H; exact ⟨l, .refl, H, by rw [e, if_neg (by omega)]⟩
 | succ n ih =>
   intro l h1 h2 h3 H
   obtain ⟨r, t1, t2, t3⟩ := hs l n n h2 h3 (Nat.le_refl _) (by omega) (fun k c hk hc hlk hkc hch hne => H k c hk hc (by omega) hkc hch (by omega)) (fun p hp => by omega)
   obtain ⟨s, u1, u2, u3⟩ := ih r (by omega) (by rw [t1.len]; exact h2) (by rw [t1.len]; exact h3) t2
   refine ⟨s, (t1.mono (by omega) (Nat.le_refl _)).trans u1, u2, ?_⟩
   rw [e, if_pos (by omega), show ((n + 1 : Nat) : Int) - 1 = (n : Int) by omega, t3, Option.bind_some, wrap_in (by omega) (by omega)]
   exact u3
theorem heap_down {lt : α → α → Bool} (od : Ord3 lt) {f1 : List α → Int → Int → Int → Option (List α)} {sift : List α → Int → Int → Int → Option (List α)} {a hi : Nat}
   (hs : ∀ (l : List α) (m : Nat), m ≤ hi → a + hi ≤ l.length → l.length ≤ 1000000000000000000 → Heap2 a 0 m 0 l → ∃ r, Tch a (a + m) l r ∧ Heap2 a 0 m m r ∧ sift l 0 (m : Int) (a : Int) = some r)
   (e : ∀ l (i : Int), f1 l (a : Int) 0 i = if i ≥ 0 then ((gi l (IntKind.wrap .i64 ((a : Int) + i))).bind fun y1 => (gi l (a : Int)).bind fun y8 => (gi l (a : Int)).bind fun _ => (some (l.set (Int.toNat (a : Int)) y1)).bind fun l24 => (gi l24 (IntKind.wrap .i64 ((a : Int) + i))).bind fun _ => (some (l24.set (Int.toNat (IntKind.wrap .i64 ((a : Int) + i))) y8)).bind fun l35 => (sift l35 0 i (a : Int)).bind fun y => f1 y (a : Int) 0 (IntKind.wrap .i64 (i - 1))) else some l) :
   ∀ (m : Nat) (l : List α), m ≤ hi → a + hi ≤ l.length → l.length ≤ 1000000000000000000 → Heap2 a 0 m m l → Srt (a + m) (a + hi) l → (∀ u v (hu : a + u < l.length) (hv : a + v < l.length), u < m → m ≤ v → v < hi → l[a + u] ≤ l[a + v]) →
     ∃ r, Tch a (a + hi) l r ∧ Srt a (a + hi) r ∧ f1 l (a : Int) 0 ((m : Int) - 1) = some r := by
 intro m
 induction m with
 | zero => intro l h1 h2 h3 H S B; exact ⟨l, .refl, S, by rw [e, if_neg (by omega)]⟩
 | succ m ih =>
   intro l h1 h2 h3 H S B
   have ha : a < l.length := by omega
   have hm : a + m < l.length := by omega
   have w1 : IntKind.wrap .i64 ((a : Int) + (m : Int)) = ((a + m : Nat) : Int) := by rw [wrap_in (by omega) (by omega)]; omega
   rw [show ((m + 1 : Nat) : Int) - 1 = (m : Int) by omega]
   have et : f1 l (a : Int) 0 (m : Int) = (sift ((l.set a l[a + m]).set (a + m) l[a]) 0 (m : Int) (a : Int)).bind fun y => f1 y (a : Int) 0 ((m : Int) - 1) := by
     rw [e, if_pos (by omega), w1, swap_txt (i := a) (j := a + m) ha hm, wrap_in (n := (m : Int) - 1) (by omega) (by omega)]
   have hL : ((l.set a l[a + m]).set (a + m) l[a]).length = l.length := by rw [List.length_set, List.length_set]
   have gt : ∀ q (hq : a + q < ((l.set a l[a + m]).set (a + m) l[a]).length), ((l.set a l[a + m]).set (a + m) l[a])[a + q] = if q = m then l[a] else if q = 0 then l[a + m] else l[a + q]'(by omega) := by
     intro q hq
     rw [List.getElem_set, List.getElem_set]
     by_cases c1 : q = m
     · rw [if_pos (show a + m = a + q by omega), if_pos (show q = m from c1)]
     · rw [if_neg (show ¬ a + m = a + q by omega), if_neg (show ¬ q = m from c1)]
       by_cases c2 : q = 0
       · rw [if_pos (show a = a + q by omega), if_pos (show q = 0 from c2)]
       · rw [if_neg (show ¬ a = a + q by omega), if_neg (show ¬ q = 0 from c2)]
   have mx := heap_max od H (by omega) (by omega) m
   obtain ⟨r, t1, t2, t3⟩ := hs ((l.set a l[a + m]).set (a + m) l[a]) m (by omega) (by omega) (by omega) (fun k c hk hc hlk hkc hch hne => by
     rw [gt c hc, gt k hk, if_neg (by omega), if_neg (by omega), if_neg (by omega), if_neg hne]
     exact H k c (by omega) (by omega) hlk hkc (by omega) (by omega))
   have hr : r.length = l.length := t1.len.trans hL
   have out : ∀ v (hv : a + v < r.length), m ≤ v → r[a + v] = if v = m then l[a] else l[a + v]'(by omega) := by
     intro v hv hmv
     rw [t1.at (i := a + v) (by omega) (.inr (by omega)), gt v (by omega)]
     by_cases c : v = m
     · rw [if_pos c, if_pos c]
     · rw [if_neg c, if_neg c, if_neg (by omega)]
   have low : ∀ u (hu : a + u < r.length), u < m → r[a + u] ≤ l[a] ∧ ∀ v (hv : a + v < l.length), m + 1 ≤ v → v < hi → r[a + u] ≤ l[a + v] := by
     intro u hu hum
     refine t1.all (P := fun x => x ≤ l[a] ∧ ∀ v (hv : a + v < l.length), m + 1 ≤ v → v < hi → x ≤ l[a + v]) (by omega) (by omega) (fun i hi1 hi2 hi3 => ?_) (a + u) hu (by omega) (by omega)
     obtain ⟨q, rfl⟩ : ∃ q, i = a + q := ⟨i - a, by omega⟩
     rw [gt q hi1, if_neg (by omega)]
     by_cases c : q = 0
     · rw [if_pos c]
       exact ⟨heap_max od H (by omega) (by omega) m m (Nat.le_refl _) (by omega), fun v hv h1' h2' => B m v hm hv (by omega) h1' h2'⟩
     · rw [if_neg c]
       exact ⟨heap_max od H (by omega) (by omega) q q (Nat.le_refl _) (by omega), fun v hv h1' h2' => B q v (by omega) hv (by omega) h1' h2'⟩
   obtain ⟨s, u1, u2, u3⟩ := ih r (by omega) (by omega) (by omega) t2 (fun p q hp hq hap hpq hqh => by
     obtain ⟨p', rfl⟩ : ∃ p', p = a + p' := ⟨p - a, by omega⟩
     obtain ⟨q', rfl⟩ : ∃ q', q = a + q' := ⟨q - a, by omega⟩
     rw [out p' hp (by omega), out q' hq (by omega), if_neg (show ¬ q' = m by omega)]
     by_cases c : p' = m
     · rw [if_pos c]
       have := B 0 q' (by omega) (by omega) (by omega) (by omega) (by omega)
       simpa using this
     · rw [if_neg c]
       exact S (a + p') (a + q') (by omega) (by omega) (by omega) hpq hqh) (fun u v hu hv hum hmv hvh => by
     rw [out v hv hmv]
     by_cases c : v = m
     · rw [if_pos c]; exact (low u hu hum).1
     · rw [if_neg c]; exact (low u hu hum).2 v (by omega) (by omega) hvh)
   refine ⟨s, (((Tch.swap (i := a) (j := a + m) (a := a) (b := a + hi) ha hm (Nat.le_refl _) (by omega) (by omega) (by omega))).trans (t1.mono (Nat.le_refl _) (by omega))).trans u1, u2, ?_⟩
   rw [et, t3, Option.bind_some]
   exact u3
end
end Go.Hw

end
section
set_option linter.unusedVariables false
namespace Go.Hw
open Go
section
variable {α : Type} {l : List α} {a b i j : Nat}
def swp (l : List α) (i j : Nat) (hi : i < l.length) (hj : j < l.length) : List α := (l.set i l[j]).set j l[i]
theorem swp_len {hi : i < l.length} {hj : j < l.length} : (swp l i j hi hj).length = l.length := by unfold swp; rw [List.length_set, List.length_set]
theorem swp_get {hi : i < l.length} {hj : j < l.length} (q : Nat) (hq : q < (swp l i j hi hj).length) : (swp l i j hi hj)[q] = if q = j then l[i] else if q = i then l[j] else l[q]'(by rw [← swp_len (hi := hi) (hj := hj)]; exact hq) := by
 have hq' : q < ((l.set i l[j]).set j l[i]).length := hq
 show ((l.set i l[j]).set j l[i])[q]'hq' = _
 rw [List.getElem_set, List.getElem_set]
 by_cases c1 : q = j
 · rw [if_pos c1.symm, if_pos c1]
 · rw [if_neg (fun e => c1 e.symm), if_neg c1]
   by_cases c2 : q = i
   · rw [if_pos c2.symm, if_pos c2]
   · rw [if_neg (fun e => c2 e.symm), if_neg c2]
theorem swp_tch {hi : i < l.length} {hj : j < l.length} (i1 : a ≤ i) (i2 : i < b) (j1 : a ≤ j) (j2 : j < b) : Tch a b l (swp l i j hi hj) := Tch.swap hi hj i1 i2 j1 j2
theorem swp_txt {β : Type} {K : List α → Option β} (hi : i < l.length) (hj : j < l.length) {x y : Int} (hx : x = (i : Int)) (hy : y = (j : Int)) :
   ((gi l y).bind fun y1 => (gi l x).bind fun y8 => (gi l x).bind fun _ => (some (l.set (Int.toNat x) y1)).bind fun l24 => (gi l24 y).bind fun _ => (some (l24.set (Int.toNat y) y8)).bind K) = K (swp l i j hi hj) := by subst hx; subst hy; exact swap_txt hi hj
end
section
variable {α : Type} {a b : Nat}
theorem rev_val {f : List α → Int → Int → Option (List α)}
   (e : ∀ l x y, f l x y = if x < y then ((gi l y).bind fun y1 => (gi l x).bind fun y8 => (gi l x).bind fun _ => (some (l.set (Int.toNat x) y1)).bind fun l24 => (gi l24 y).bind fun _ => (some (l24.set (Int.toNat y) y8)).bind fun l35 => f l35 (IntKind.wrap .i64 (x + 1)) (IntKind.wrap .i64 (y - 1))) else some l) :
   ∀ (d i j : Nat) (l : List α), j ≤ i + d → a ≤ i → j < b → b ≤ l.length → l.length ≤ 1000000000000000000 → ∃ r, Tch a b l r ∧ f l (i : Int) (j : Int) = some r := by
 intro d
 induction d with
 | zero => intro i j l h1 h2 h3 h4 h5; exact ⟨l, .refl, by rw [e, if_neg (by omega)]⟩
 | succ d ih =>
   intro i j l h1 h2 h3 h4 h5
   rw [e]
   by_cases c : i < j
   · rw [if_pos (by omega), swp_txt (i := i) (j := j) (by omega) (by omega) rfl rfl, w_succ (by omega), wrap_in (by omega) (by omega), show (j : Int) - 1 = ((j - 1 : Nat) : Int) by omega]
     obtain ⟨r, t1, t2⟩ := ih (i + 1) (j - 1) (swp l i j (by omega) (by omega)) (by omega) (by omega) (by omega) (by rw [swp_len]; exact h4) (by rw [swp_len]; exact h5)
     exact ⟨r, (swp_tch (by omega) (by omega) (by omega) (by omega)).trans t1, t2⟩
   · rw [if_neg (by omega)]; exact ⟨l, .refl, rfl⟩
end
theorem u64_in' {n : Int} (h0 : 0 ≤ n) (h1 : n ≤ 18446744073709551615) : IntKind.wrap .u64 n = n := by
 have : n % 18446744073709551616 = n := Int.emod_eq_of_lt h0 (by omega)
 simp [IntKind.wrap, IntKind.bits, IntKind.signed, this]
theorem u8_small {n : Nat} (h : n < 256) : IntKind.wrap .u8 (n : Int) = n := by simp [IntKind.wrap, IntKind.bits, IntKind.signed]; omega
theorem and_bd (y : Int) {z : Nat} (hz : z < 9223372036854775808) : ∃ k : Nat, k ≤ z ∧ bitsI .and .u64 y (z : Int) = (k : Int) := by
 refine ⟨(BitVec.ofInt 64 y &&& BitVec.ofInt 64 (z : Int)).toNat, ?_, ?_⟩
 · rw [BitVec.toNat_and]
   have : (BitVec.ofInt 64 (z : Int)).toNat = z := by rw [BitVec.toNat_ofInt]; omega
   rw [this]; exact Nat.and_le_right
 · show IntKind.wrap .u64 (((BitVec.ofInt 64 y &&& BitVec.ofInt 64 (z : Int)).toNat : Nat) : Int) = _
   exact u64_in' (by omega) (by have := (BitVec.ofInt 64 y &&& BitVec.ofInt 64 (z : Int)).isLt; omega)
theorem shr_nat {x s : Nat} (hs : s ≤ 64) : shrI .u64 (x : Int) (s : Int) = ((x / 2 ^ s : Nat) : Int) := by
 unfold shrI
 rw [show Int.toNat (s : Int) = s from rfl, show min s (IntKind.bits .u64) = s from Nat.min_eq_left hs]
 have : ((2 : Int) ^ s) = ((2 ^ s : Nat) : Int) := by push_cast; rfl
 rw [this, Int.fdiv_eq_ediv_of_nonneg _ (Int.natCast_nonneg _)]
 exact (Int.natCast_ediv x (2 ^ s)).symm
def len8 : ByteArray := ByteArray.mk #[0, 1, 2, 2, 3, 3, 3, 3, 4, 4, 4, 4, 4, 4, 4, 4, 5, 5, 5, 5, 5, 5, 5, 5, 5, 5, 5, 5, 5, 5, 5, 5, 6, 6, 6, 6, 6, 6, 6, 6, 6, 6, 6, 6, 6, 6, 6, 6, 6, 6, 6, 6, 6, 6, 6, 6, 6, 6, 6, 6, 6, 6, 6, 6, 7, 7, 7, 7, 7, 7, 7, 7, 7, 7, 7, 7, 7, 7, 7, 7, 7, 7, 7, 7, 7, 7, 7, 7, 7, 7, 7, 7, 7, 7, 7, 7, 7, 7, 7, 7, 7, 7, 7, 7, 7, 7, 7, 7, 7, 7, 7, 7, 7, 7, 7, 7, 7, 7, 7, 7, 7, 7, 7, 7, 7, 7, 7, 7, 8, 8, 8, 8, 8, 8, 8, 8, 8, 8, 8, 8, 8, 8, 8, 8, 8, 8, 8, 8, 8, 8, 8, 8, 8, 8, 8, 8, 8, 8, 8, 8, 8, 8, 8, 8, 8, 8, 8, 8, 8, 8, 8, 8, 8, 8, 8, 8, 8, 8, 8, 8, 8, 8, 8, 8, 8, 8, 8, 8, 8, 8, 8, 8, 8, 8, 8, 8, 8, 8, 8, 8, 8, 8, 8, 8, 8, 8, 8, 8, 8, 8, 8, 8, 8, 8, 8, 8, 8, 8, 8, 8, 8, 8, 8, 8, 8, 8, 8, 8, 8, 8, 8, 8, 8, 8, 8, 8, 8, 8, 8, 8, 8, 8, 8, 8, 8, 8, 8, 8, 8, 8, 8, 8, 8, 8, 8, 8]
def len8ok (x : Nat) : Bool := match gb len8 (x : Int) with | some t => decide (0 ≤ t ∧ t ≤ 8 ∧ 2 ^ t.toNat ≤ 2 * x + (if x = 0 then 1 else 0)) | none => false
theorem len8_all : (List.range 256).all len8ok = true := by decide +kernel
theorem len8_at {x : Nat} (h : x < 256) : ∃ t : Nat, gb len8 (x : Int) = some (t : Int) ∧ t ≤ 8 ∧ (1 ≤ x → 2 ^ t ≤ 2 * x) := by
 have h1 := List.all_eq_true.1 len8_all x (List.mem_range.2 h)
 unfold len8ok at h1
 cases hg : gb len8 (x : Int) with
 | none => rw [hg] at h1; cases h1
 | some t =>
   rw [hg] at h1
   have h2 := of_decide_eq_true h1
   refine ⟨t.toNat, ?_, by omega, fun hx => ?_⟩
   · rw [Int.toNat_of_nonneg h2.1]
   · have := h2.2.2; rw [if_neg (by omega)] at this; exact this
theorem len_val {j0 j1 j2 : Int → Int → Option Int} {F : Int → Option Int}
   (e : ∀ x, F x = if x ≥ (4294967296 : Int) then j0 (shrI .u64 x (32 : Int)) (32 : Int) else j0 x (0 : Int))
   (e0 : ∀ x n, j0 x n = if x ≥ (65536 : Int) then j1 (shrI .u64 x (16 : Int)) (IntKind.wrap .i64 (n + (16 : Int))) else j1 x n)
   (e1 : ∀ x n, j1 x n = if x ≥ (256 : Int) then j2 (shrI .u64 x (8 : Int)) (IntKind.wrap .i64 (n + (8 : Int))) else j2 x n)
   (e2 : ∀ x n, j2 x n = Option.bind (gb len8 (IntKind.wrap .u8 x)) fun y1 => some (IntKind.wrap .i64 (n + IntKind.wrap .i64 y1)))
   (x : Nat) (hx : x < 18446744073709551616) : ∃ k : Nat, F (x : Int) = some (k : Int) ∧ k ≤ 64 ∧ (1 ≤ x → 2 ^ k ≤ 2 * x) := by
 have s2 : ∀ (y n : Nat), y < 256 → n ≤ 56 → ∃ k : Nat, j2 (y : Int) (n : Int) = some (k : Int) ∧ k ≤ n + 8 ∧ (1 ≤ y → 2 ^ k ≤ 2 ^ n * (2 * y)) := by
   intro y n hy hn
   obtain ⟨t, t1, t2, t3⟩ := len8_at hy
   refine ⟨n + t, ?_, by omega, fun h => ?_⟩
   · rw [e2, u8_small hy, t1, Option.bind_some, wrap_in (n := (t : Int)) (by omega) (by omega), wrap_in (by omega) (by omega)]; rfl
   · rw [Nat.pow_add]; exact Nat.mul_le_mul_left _ (t3 h)
 have s1 : ∀ (y n : Nat), y < 65536 → n ≤ 48 → ∃ k : Nat, j1 (y : Int) (n : Int) = some (k : Int) ∧ k ≤ n + 16 ∧ (1 ≤ y → 2 ^ k ≤ 2 ^ n * (2 * y)) := by
   intro y n hy hn
   rw [e1]
   by_cases c : 256 ≤ y
   · rw [if_pos (by omega), show (8 : Int) = ((8 : Nat) : Int) from rfl, shr_nat (by omega), wrap_in (by omega) (by omega), show (n : Int) + ((8 : Nat) : Int) = ((n + 8 : Nat) : Int) from rfl]
     obtain ⟨k, k1, k2, k3⟩ := s2 (y / 2 ^ 8) (n + 8) (by omega) (by omega)
     refine ⟨k, k1, by omega, fun h => Nat.le_trans (k3 (by omega)) ?_⟩
     rw [Nat.pow_add, Nat.mul_assoc]
     exact Nat.mul_le_mul_left _ (by omega)
   · rw [if_neg (by omega)]
     obtain ⟨k, k1, k2, k3⟩ := s2 y n (by omega) (by omega)
     exact ⟨k, k1, by omega, k3⟩
 have s0 : ∀ (y n : Nat), y < 4294967296 → n ≤ 32 → ∃ k : Nat, j0 (y : Int) (n : Int) = some (k : Int) ∧ k ≤ n + 32 ∧ (1 ≤ y → 2 ^ k ≤ 2 ^ n * (2 * y)) := by
   intro y n hy hn
   rw [e0]
   by_cases c : 65536 ≤ y
   · rw [if_pos (by omega), show (16 : Int) = ((16 : Nat) : Int) from rfl, shr_nat (by omega), wrap_in (by omega) (by omega), show (n : Int) + ((16 : Nat) : Int) = ((n + 16 : Nat) : Int) from rfl]
     obtain ⟨k, k1, k2, k3⟩ := s1 (y / 2 ^ 16) (n + 16) (by omega) (by omega)
     refine ⟨k, k1, by omega, fun h => Nat.le_trans (k3 (by omega)) ?_⟩
     rw [Nat.pow_add, Nat.mul_assoc]
     exact Nat.mul_le_mul_left _ (by omega)
   · rw [if_neg (by omega)]
     obtain ⟨k, k1, k2, k3⟩ := s1 y n (by omega) (by omega)
     exact ⟨k, k1, by omega, k3⟩
 rw [e]
 by_cases c : 4294967296 ≤ x
 · rw [if_pos (by omega), show (32 : Int) = ((32 : Nat) : Int) from rfl, shr_nat (by omega)]
   obtain ⟨k, k1, k2, k3⟩ := s0 (x / 2 ^ 32) 32 (by omega) (by omega)
   exact ⟨k, k1, by omega, fun h => Nat.le_trans (k3 (by omega)) (by omega)⟩
 · rw [if_neg (by omega)]
   obtain ⟨k, k1, k2, k3⟩ := s0 x 0 (by omega) (by omega)
   exact ⟨k, k1, by omega, fun h => Nat.le_trans (k3 h) (by omega)⟩
theorem shl_one {k : Nat} (h : 2 ^ k ≤ 9223372036854775808) : shlI .u64 (1 : Int) (k : Int) = ((2 ^ k : Nat) : Int) := by
 have hk : k ≤ 63 := by
   rcases Nat.lt_or_ge 63 k with h' | h'
   · have := Nat.pow_le_pow_right (n := 2) (by omega) (show 64 ≤ k from h'); omega
   · exact h'
 unfold shlI
 rw [show Int.toNat (k : Int) = k from rfl, show min k (IntKind.bits .u64) = k from Nat.min_eq_left (by show k ≤ 64; omega)]
 have : ((1 : Int) * 2 ^ k) = ((2 ^ k : Nat) : Int) := by push_cast; omega
 rw [this]
 exact u64_in' (Int.natCast_nonneg _) (by omega)
section
variable {α : Type}
theorem brk_val {F : List α → Int → Int → Int → Int → Int → Option (List α)} {J : List α → Int → Int → Int → Int → Int → Int → Option (List α)} {nx : Int → Option (Int × Int)} (hn : ∀ y, ∃ p, nx y = some p)
   (e0 : ∀ l a n y m i, F l a n y m i = if i ≤ IntKind.wrap .i64 (IntKind.wrap .i64 (a + IntKind.wrap .i64 (IntKind.wrap .i64 (Int.tdiv n 4) * 2)) + 1) then (nx y).bind fun y1 => if IntKind.wrap .i64 (bitsI .and .u64 y1.1 (IntKind.wrap .u64 (m - 1))) ≥ n then J l a n y1.2 m i (IntKind.wrap .i64 (IntKind.wrap .i64 (bitsI .and .u64 y1.1 (IntKind.wrap .u64 (m - 1))) - n)) else J l a n y1.2 m i (IntKind.wrap .i64 (bitsI .and .u64 y1.1 (IntKind.wrap .u64 (m - 1)))) else some l)
   (e1 : ∀ l a n y m i o, J l a n y m i o = (gi l (IntKind.wrap .i64 (a + o))).bind fun y1 => (gi l i).bind fun y8 => (gi l i).bind fun _ => (some (l.set (Int.toNat i) y1)).bind fun l24 => (gi l24 (IntKind.wrap .i64 (a + o))).bind fun _ => (some (l24.set (Int.toNat (IntKind.wrap .i64 (a + o))) y8)).bind fun l35 => F l35 a n y m (IntKind.wrap .i64 (i + 1)))
   {a n m : Nat} (hm1 : 1 ≤ m) (hm2 : m ≤ 2 * n) (hn8 : 8 ≤ n) : ∀ (d i : Nat) (l : List α) (y : Int), i + d = a + n / 4 * 2 + 2 → a ≤ i → a + n ≤ l.length → l.length ≤ 1000000000000000000 → ∃ r, Tch a (a + n) l r ∧ F l (a : Int) (n : Int) y (m : Int) (i : Int) = some r := by
 intro d
 have w4 : Int.tdiv (n : Int) 4 = ((n / 4 : Nat) : Int) := by rw [Int.tdiv_eq_ediv_of_nonneg (by omega)]; omega
 induction d with
 | zero =>
   intro i l y h1 h2 h3 h4
   refine ⟨l, .refl, ?_⟩
   rw [e0, w4, wrap_in (n := ((n / 4 : Nat) : Int)) (by omega) (by omega), wrap_in (n := ((n / 4 : Nat) : Int) * 2) (by omega) (by omega), wrap_in (n := (a : Int) + ((n / 4 : Nat) : Int) * 2) (by omega) (by omega), wrap_in (by omega) (by omega), if_neg (by omega)]
 | succ d ih =>
   intro i l y h1 h2 h3 h4
   rw [e0, w4, wrap_in (n := ((n / 4 : Nat) : Int)) (by omega) (by omega), wrap_in (n := ((n / 4 : Nat) : Int) * 2) (by omega) (by omega), wrap_in (n := (a : Int) + ((n / 4 : Nat) : Int) * 2) (by omega) (by omega), wrap_in (n := (a : Int) + ((n / 4 : Nat) : Int) * 2 + 1) (by omega) (by omega), if_pos (by omega)]
   obtain ⟨p, hp⟩ := hn y
   rw [hp, Option.bind_some, u64_in' (n := (m : Int) - 1) (by omega) (by omega), show (m : Int) - 1 = ((m - 1 : Nat) : Int) by omega]
   obtain ⟨k, k1, k2⟩ := and_bd p.1 (z := m - 1) (by omega)
   rw [k2, wrap_in (n := (k : Int)) (by omega) (by omega)]
   have step : ∀ (o : Nat), o < n → ∃ r, Tch a (a + n) l r ∧ J l (a : Int) (n : Int) p.2 (m : Int) (i : Int) (o : Int) = some r := by
     intro o ho
     rw [e1, wrap_in (n := (a : Int) + (o : Int)) (by omega) (by omega), swp_txt (i := i) (j := a + o) (by omega) (by omega) rfl (by omega), w_succ (by omega)]
     obtain ⟨r, t1, t2⟩ := ih (i + 1) (swp l i (a + o) (by omega) (by omega)) p.2 (by omega) (by omega) (by rw [swp_len]; exact h3) (by rw [swp_len]; exact h4)
     exact ⟨r, (swp_tch (by omega) (by omega) (by omega) (by omega)).trans t1, t2⟩
   by_cases c : n ≤ k
   · rw [if_pos (by omega), wrap_in (by omega) (by omega), show (k : Int) - (n : Int) = ((k - n : Nat) : Int) by omega]
     exact step _ (by omega)
   · rw [if_neg (by omega)]
     exact step _ (by omega)
end
end Go.Hw

end
section
set_option linter.unusedVariables false
namespace Go.Hw
open Go
section
variable {α : Type} [LE α] {lt : α → α → Bool} {less : α → α → Option Bool}
theorem heapSort_val (od : Ord3 lt) (hl : ∀ x y, less x y = some (lt x y)) {f : List α → Int → Int → Int → Option (List α)} {J1 : List α → Int → Int → Int → Int → Bool → Option (List α)} {J0 : List α → Int → Int → Int → Int → Option (List α)}
   (e : ∀ l hi a x, f l hi a x = if IntKind.wrap .i64 (IntKind.wrap .i64 (2 * x) + 1) ≥ hi then some l else if IntKind.wrap .i64 (IntKind.wrap .i64 (IntKind.wrap .i64 (2 * x) + 1) + 1) < hi then (gi l (IntKind.wrap .i64 (a + IntKind.wrap .i64 (IntKind.wrap .i64 (2 * x) + 1)))).bind fun y1 => (gi l (IntKind.wrap .i64 (IntKind.wrap .i64 (a + IntKind.wrap .i64 (IntKind.wrap .i64 (2 * x) + 1)) + 1))).bind fun y8 => (less y1 y8).bind fun c => J1 l hi a x (IntKind.wrap .i64 (IntKind.wrap .i64 (2 * x) + 1)) c else J1 l hi a x (IntKind.wrap .i64 (IntKind.wrap .i64 (2 * x) + 1)) false)
   (e1 : ∀ l hi a x c b, J1 l hi a x c b = if b = true then J0 l hi a x (IntKind.wrap .i64 (c + 1)) else J0 l hi a x c)
   (e0 : ∀ l hi a x c, J0 l hi a x c = (gi l (IntKind.wrap .i64 (a + x))).bind fun y1 => (gi l (IntKind.wrap .i64 (a + c))).bind fun y8 => (less y1 y8).bind fun q => if q = true then ((gi l (IntKind.wrap .i64 (a + c))).bind fun y1 => (gi l (IntKind.wrap .i64 (a + x))).bind fun y8 => (gi l (IntKind.wrap .i64 (a + x))).bind fun _ => (some (l.set (Int.toNat (IntKind.wrap .i64 (a + x))) y1)).bind fun l24 => (gi l24 (IntKind.wrap .i64 (a + c))).bind fun _ => (some (l24.set (Int.toNat (IntKind.wrap .i64 (a + c))) y8)).bind fun l35 => f l35 hi a c) else some l)
   {G : List α → Int → Int → Int → Option (List α)} {f0 : List α → Int → Int → Int → Int → Option (List α)} {f1 : List α → Int → Int → Int → Option (List α)} {H : List α → Int → Int → Option (List α)}
   (eG : ∀ l lo hi a, G l lo hi a = f l hi a lo)
   (h0 : ∀ l a lo hi i, f0 l a lo hi i = if i ≥ 0 then (G l i hi a).bind fun y1 => f0 y1 a lo hi (IntKind.wrap .i64 (i - 1)) else f1 l a lo (IntKind.wrap .i64 (hi - 1)))
   (h1 : ∀ l a lo i, f1 l a lo i = if i ≥ 0 then ((gi l (IntKind.wrap .i64 (a + i))).bind fun y1 => (gi l a).bind fun y8 => (gi l a).bind fun _ => (some (l.set (Int.toNat a) y1)).bind fun l24 => (gi l24 (IntKind.wrap .i64 (a + i))).bind fun _ => (some (l24.set (Int.toNat (IntKind.wrap .i64 (a + i))) y8)).bind fun l35 => (G l35 lo i a).bind fun y => f1 y a lo (IntKind.wrap .i64 (i - 1))) else some l)
   (hH : ∀ l a b, H l a b = f0 l a 0 (IntKind.wrap .i64 (b - a)) (IntKind.wrap .i64 (Int.tdiv (IntKind.wrap .i64 (IntKind.wrap .i64 (b - a) - 1)) 2)))
   {a b : Nat} {l : List α} (hab : a < b) (hb : b ≤ l.length) (hlen : l.length ≤ 1000000000000000000) : ∃ r, Tch a b l r ∧ Srt a b r ∧ H l (a : Int) (b : Int) = some r := by
 obtain ⟨m, rfl⟩ : ∃ m, b = a + m := ⟨b - a, by omega⟩
 have sv : ∀ (l : List α) (lo hi x : Nat), hi ≤ m → a + hi ≤ l.length → l.length ≤ 1000000000000000000 → lo ≤ x → x < hi → Heap2 a lo hi x l → (∀ p c (hp : a + p < l.length) (hc : a + c < l.length), lo ≤ p → (x = 2 * p + 1 ∨ x = 2 * p + 2) → (c = 2 * x + 1 ∨ c = 2 * x + 2) → c < hi → l[a + c] ≤ l[a + p]) → ∃ r, Tch (a + lo) (a + hi) l r ∧ Heap2 a lo hi hi r ∧ f l (hi : Int) (a : Int) (x : Int) = some r :=
   fun l lo hi x g1 g2 g3 g4 g5 g6 g7 => sift_val od hl e e1 e0 (a := a) (lo := lo) (hi := hi) hi x l (by omega) g4 g5 g2 g3 g6 g7
 have e2 : ∀ x : List α, f1 x (a : Int) 0 (IntKind.wrap .i64 ((m : Int) - 1)) = f1 x (a : Int) 0 ((m : Int) - 1) := fun x => by rw [wrap_in (by omega) (by omega)]
 obtain ⟨r, t1, t2, t3⟩ := heap_build (a := a) (hi := m) (f0 := f0) (sift := G) (E := fun l => f1 l (a : Int) 0 ((m : Int) - 1)) (fun l lo x g1 g2 g3 g4 g5 g6 => by
   rw [eG]
   exact sv l lo m x (Nat.le_refl _) g1 g2 g3 g4 g5 (fun p c hp hc hlp hpx => absurd hpx (g6 p hlp))) (fun l i => by rw [h0, e2]) ((m - 1) / 2 + 1) l (by omega) hb hlen (fun k c hk hc hlk hkc hch _ => by omega)
 have w2 : Int.tdiv ((m : Int) - 1) 2 = (((m - 1) / 2 + 1 : Nat) : Int) - 1 := by rw [Int.tdiv_eq_ediv_of_nonneg (by omega)]; omega
 obtain ⟨s, u1, u2, u3⟩ := heap_down od (a := a) (hi := m) (f1 := f1) (sift := G) (fun l k g1 g2 g3 g4 => by
   rw [eG]
   by_cases hk : k = 0
   · subst hk
     refine ⟨l, .refl, g4, ?_⟩
     rw [e, if_pos (by decide)]
   · have hr := sv l 0 k 0 g1 (by omega) g3 (Nat.le_refl _) (by omega) g4 (fun p c hp hc _ hpx => by omega)
     simpa using hr) (fun l i => h1 l (a : Int) 0 i) m r (Nat.le_refl _) (by rw [t1.len]; exact hb) (by rw [t1.len]; exact hlen) t2 (fun i j hi hj g1 g2 g3 => by omega) (fun u v hu hv g1 g2 g3 => by omega)
 refine ⟨s, t1.trans u1, u2, ?_⟩
 rw [hH, wrap_in (n := ((a + m : Nat) : Int) - (a : Int)) (by omega) (by omega), show ((a + m : Nat) : Int) - (a : Int) = (m : Int) by omega, wrap_in (n := (m : Int) - 1) (by omega) (by omega), w2, wrap_in (by omega) (by omega), t3, u3]
def InR (a b : Nat) (x : Int) : Prop := ∃ k : Nat, x = (k : Int) ∧ a ≤ k ∧ k < b
theorem InR.of {a b k : Nat} (h1 : a ≤ k) (h2 : k < b) : InR a b (k : Int) := ⟨k, rfl, h1, h2⟩
omit [LE α] in
theorem order2_val (hl : ∀ x y, less x y = some (lt x y)) {o : List α → Int → Int → Int → Option (Int × Int × Int)}
   (e : ∀ l x1 x2 y3, o l x1 x2 y3 = (gi l x2).bind fun y1 => (gi l x1).bind fun y8 => (less y1 y8).bind fun y15 => if y15 = true then some (x2, x1, IntKind.wrap .i64 (y3 + 1)) else some (x1, x2, y3))
   {a b : Nat} {l : List α} (hb : b ≤ l.length) {x1 x2 y : Int} (h1 : InR a b x1) (h2 : InR a b x2) : ∃ u v w, o l x1 x2 y = some (u, v, w) ∧ InR a b u ∧ InR a b v := by
 obtain ⟨i, rfl, i1, i2⟩ := h1
 obtain ⟨j, rfl, j1, j2⟩ := h2
 rw [e, gi_at (show j < l.length by omega), Option.bind_some, gi_at (show i < l.length by omega), Option.bind_some, hl, Option.bind_some]
 split
 · exact ⟨_, _, _, rfl, .of j1 j2, .of i1 i2⟩
 · exact ⟨_, _, _, rfl, .of i1 i2, .of j1 j2⟩
omit [LE α] in
theorem median_val (hl : ∀ x y, less x y = some (lt x y)) {o : List α → Int → Int → Int → Option (Int × Int × Int)}
   (e : ∀ l x1 x2 y3, o l x1 x2 y3 = (gi l x2).bind fun y1 => (gi l x1).bind fun y8 => (less y1 y8).bind fun y15 => if y15 = true then some (x2, x1, IntKind.wrap .i64 (y3 + 1)) else some (x1, x2, y3))
   {md : List α → Int → Int → Int → Int → Option (Int × Int)} (em : ∀ l x1 x2 x3 y4, md l x1 x2 x3 y4 = (o l x1 x2 y4).bind fun y1 => (o l y1.2.1 x3 y1.2.2).bind fun y15 => (o l y1.1 y15.1 y15.2.2).bind fun y29 => some (y29.2.1, y29.2.2))
   {a b : Nat} {l : List α} (hb : b ≤ l.length) {x1 x2 x3 y : Int} (h1 : InR a b x1) (h2 : InR a b x2) (h3 : InR a b x3) : ∃ u w, md l x1 x2 x3 y = some (u, w) ∧ InR a b u := by
 obtain ⟨u, v, w, q1, q2, q3⟩ := order2_val hl e hb (y := y) h1 h2
 obtain ⟨u', v', w', q4, q5, q6⟩ := order2_val hl e hb (y := w) q3 h3
 obtain ⟨u'', v'', w'', q7, q8, q9⟩ := order2_val hl e hb (y := w') q2 q5
 exact ⟨v'', w'', by rw [em, q1, Option.bind_some, q4, Option.bind_some, q7, Option.bind_some], q9⟩
omit [LE α] in
theorem choose_val (hl : ∀ x y, less x y = some (lt x y)) {o : List α → Int → Int → Int → Option (Int × Int × Int)}
   (e : ∀ l x1 x2 y3, o l x1 x2 y3 = (gi l x2).bind fun y1 => (gi l x1).bind fun y8 => (less y1 y8).bind fun y15 => if y15 = true then some (x2, x1, IntKind.wrap .i64 (y3 + 1)) else some (x1, x2, y3))
   {md : List α → Int → Int → Int → Int → Option (Int × Int)} (em : ∀ l x1 x2 x3 y4, md l x1 x2 x3 y4 = (o l x1 x2 y4).bind fun y1 => (o l y1.2.1 x3 y1.2.2).bind fun y15 => (o l y1.1 y15.1 y15.2.2).bind fun y29 => some (y29.2.1, y29.2.2))
   {ma : List α → Int → Int → Option (Int × Int)} (ea : ∀ l x y, ma l x y = (md l (IntKind.wrap .i64 (x - 1)) x (IntKind.wrap .i64 (x + 1)) y).bind fun y1 => some (y1.1, y1.2))
   {j0 : Int → Int → Option (Int × Int)} (e0 : ∀ y x, j0 y x = if y = 0 then some (x, 1) else if y = 12 then some (x, 2) else some (x, 0))
   {j1 : List α → Int → Int → Int → Int → Option (Int × Int)} (e1 : ∀ l y x1 x2 x3, j1 l y x1 x2 x3 = (md l x1 x2 x3 y).bind fun y1 => j0 y1.2 y1.1)
   {ch : List α → Int → Int → Option (Int × Int)} (ec : ∀ l a b, ch l a b = if IntKind.wrap .i64 (b - a) ≥ 8 then (if IntKind.wrap .i64 (b - a) ≥ 50 then (ma l (IntKind.wrap .i64 (a + IntKind.wrap .i64 (IntKind.wrap .i64 (Int.tdiv (IntKind.wrap .i64 (b - a)) 4) * 1))) 0).bind fun y5 => (ma l (IntKind.wrap .i64 (a + IntKind.wrap .i64 (IntKind.wrap .i64 (Int.tdiv (IntKind.wrap .i64 (b - a)) 4) * 2))) y5.2).bind fun y20 => (ma l (IntKind.wrap .i64 (a + IntKind.wrap .i64 (IntKind.wrap .i64 (Int.tdiv (IntKind.wrap .i64 (b - a)) 4) * 3))) y20.2).bind fun y34 => j1 l y34.2 y5.1 y20.1 y34.1 else j1 l 0 (IntKind.wrap .i64 (a + IntKind.wrap .i64 (IntKind.wrap .i64 (Int.tdiv (IntKind.wrap .i64 (b - a)) 4) * 1))) (IntKind.wrap .i64 (a + IntKind.wrap .i64 (IntKind.wrap .i64 (Int.tdiv (IntKind.wrap .i64 (b - a)) 4) * 2))) (IntKind.wrap .i64 (a + IntKind.wrap .i64 (IntKind.wrap .i64 (Int.tdiv (IntKind.wrap .i64 (b - a)) 4) * 3)))) else j0 0 (IntKind.wrap .i64 (a + IntKind.wrap .i64 (IntKind.wrap .i64 (Int.tdiv (IntKind.wrap .i64 (b - a)) 4) * 2))))
   {a b : Nat} {l : List α} (hab : a + 12 < b) (hb : b ≤ l.length) (hlen : l.length ≤ 1000000000000000000) : ∃ u w, ch l (a : Int) (b : Int) = some (u, w) ∧ InR a b u := by
 have hj0 : ∀ y x, InR a b x → ∃ u w, j0 y x = some (u, w) ∧ InR a b u := by
   intro y x hx
   rw [e0]
   split
   · exact ⟨_, _, rfl, hx⟩
   · split
     · exact ⟨_, _, rfl, hx⟩
     · exact ⟨_, _, rfl, hx⟩
 have hj1 : ∀ y x1 x2 x3, InR a b x1 → InR a b x2 → InR a b x3 → ∃ u w, j1 l y x1 x2 x3 = some (u, w) ∧ InR a b u := by
   intro y x1 x2 x3 g1 g2 g3
   obtain ⟨u, w, q1, q2⟩ := median_val hl e em hb (y := y) g1 g2 g3
   rw [e1, q1, Option.bind_some]
   exact hj0 _ _ q2
 have hma : ∀ (k : Nat) y, a + 1 ≤ k → k + 1 < b → ∃ u w, ma l (k : Int) y = some (u, w) ∧ InR a b u := by
   intro k y g1 g2
   obtain ⟨u, w, q1, q2⟩ := median_val hl e em hb (y := y) (InR.of (k := k - 1) (show a ≤ k - 1 by omega) (by omega)) (InR.of (k := k) (show a ≤ k by omega) (by omega)) (InR.of (k := k + 1) (show a ≤ k + 1 by omega) g2)
   refine ⟨u, w, ?_, q2⟩
   rw [ea, wrap_in (n := (k : Int) - 1) (by omega) (by omega), show (k : Int) - 1 = ((k - 1 : Nat) : Int) by omega, w_succ (by omega), q1, Option.bind_some]
 have w4 : Int.tdiv ((b - a : Nat) : Int) 4 = (((b - a) / 4 : Nat) : Int) := by rw [Int.tdiv_eq_ediv_of_nonneg (by omega)]; omega
 rw [ec, wrap_in (n := (b : Int) - (a : Int)) (by omega) (by omega), show (b : Int) - (a : Int) = ((b - a : Nat) : Int) by omega, w4, if_pos (by omega), wrap_in (n := (((b - a) / 4 : Nat) : Int)) (by omega) (by omega)]
 rw [wrap_in (n := (((b - a) / 4 : Nat) : Int) * 1) (by omega) (by omega), wrap_in (n := (((b - a) / 4 : Nat) : Int) * 2) (by omega) (by omega), wrap_in (n := (((b - a) / 4 : Nat) : Int) * 3) (by omega) (by omega)]
 rw [wrap_in (n := (a : Int) + (((b - a) / 4 : Nat) : Int) * 1) (by omega) (by omega), wrap_in (n := (a : Int) + (((b - a) / 4 : Nat) : Int) * 2) (by omega) (by omega), wrap_in (n := (a : Int) + (((b - a) / 4 : Nat) : Int) * 3) (by omega) (by omega)]
 rw [show (a : Int) + (((b - a) / 4 : Nat) : Int) * 1 = ((a + (b - a) / 4 : Nat) : Int) by omega, show (a : Int) + (((b - a) / 4 : Nat) : Int) * 2 = ((a + (b - a) / 4 * 2 : Nat) : Int) by omega, show (a : Int) + (((b - a) / 4 : Nat) : Int) * 3 = ((a + (b - a) / 4 * 3 : Nat) : Int) by omega]
 by_cases c : 50 ≤ b - a
 · rw [if_pos (by omega)]
   obtain ⟨u1, w1, q1, q2⟩ := hma (a + (b - a) / 4) 0 (by omega) (by omega)
   rw [q1, Option.bind_some]
   obtain ⟨u2, w2, q3, q4⟩ := hma (a + (b - a) / 4 * 2) w1 (by omega) (by omega)
   rw [q3, Option.bind_some]
   obtain ⟨u3, w3, q5, q6⟩ := hma (a + (b - a) / 4 * 3) w2 (by omega) (by omega)
   rw [q5, Option.bind_some]
   exact hj1 _ _ _ _ q2 q4 q6
 · rw [if_neg (by omega)]
   exact hj1 _ _ _ _ (.of (by omega) (by omega)) (.of (by omega) (by omega)) (.of (by omega) (by omega))
def Pre (a b : Nat) (l : List α) : Prop := ∀ i (h0 : a - 1 < l.length) (hi : i < l.length), 0 < a → a ≤ i → i < b → l[a - 1] ≤ l[i]
theorem Pre.tch {a b : Nat} {l r : List α} (h : Pre a b l) (t : Tch a b l r) (hab : a ≤ b) (hb : b ≤ l.length) : Pre a b r := by
 intro i h0 hi h1 h2 h3
 have hl := t.len
 rw [t.at (i := a - 1) (by omega) (.inl (by omega))]
 exact t.all (P := fun x => l[a - 1]'(by omega) ≤ x) hab hb (fun j hj j1 j2 => h j (by omega) hj h1 j1 j2) i hi h2 h3
theorem Srt.keep {a b c d : Nat} {l r : List α} (h : Srt a b l) (t : Tch c d l r) (hd : b ≤ c ∨ d ≤ a) : Srt a b r := by
 intro i j hi hj h1 h2 h3
 have hl := t.len
 rw [t.at (i := i) (by omega) (by omega), t.at (i := j) (by omega) (by omega)]
 exact h i j _ _ h1 h2 h3
end
end Go.Hw

end
section
set_option linter.unusedVariables false
namespace Go.Hw
open Go
section
variable {α : Type} [LE α] {lt : α → α → Bool} {less : α → α → Option Bool}
theorem pins_down (od : Ord3 lt) (hl : ∀ x y, less x y = some (lt x y)) {β : Type} {F : List α → Int → Option β} {E : List α → Option β}
   (e : ∀ l j, F l j = if j ≥ 1 then (gi l j).bind fun y1 => (gi l (IntKind.wrap .i64 (j - 1))).bind fun y8 => (less y1 y8).bind fun c => if c = true then ((gi l (IntKind.wrap .i64 (j - 1))).bind fun y1 => (gi l j).bind fun y8 => (gi l j).bind fun _ => (some (l.set (Int.toNat j) y1)).bind fun l24 => (gi l24 (IntKind.wrap .i64 (j - 1))).bind fun _ => (some (l24.set (Int.toNat (IntKind.wrap .i64 (j - 1))) y8)).bind fun l35 => F l35 (IntKind.wrap .i64 (j - 1))) else E l else E l)
   {a i : Nat} : ∀ (d j : Nat) (l : List α), a + d = j → j < i → i ≤ l.length → l.length ≤ 1000000000000000000 → Pre a i l →
     (∀ p q (hp : p < l.length) (hq : q < l.length), a ≤ p → p < q → q < i → p ≠ j → q ≠ j → l[p] ≤ l[q]) → (∀ q (hj : j < l.length) (hq : q < l.length), j < q → q < i → l[j] ≤ l[q]) →
     ∃ r, Tch a i l r ∧ Srt a i r ∧ F l (j : Int) = E r := by
 intro d
 induction d with
 | zero =>
   intro j l hj hji hil hlen hpre h1 h2
   have hs : Srt a i l := by
     intro p q hp hq hap hpq hqi
     by_cases c : p = j
     · subst c; exact h2 q hp hq hpq hqi
     · exact h1 p q hp hq hap hpq hqi c (by omega)
   refine ⟨l, .refl, hs, ?_⟩
   rw [e]
   by_cases c : 1 ≤ j
   · have hw : IntKind.wrap .i64 ((j : Int) - 1) = ((j - 1 : Nat) : Int) := by rw [wrap_in (by omega) (by omega)]; omega
     rw [if_pos (by omega), hw, gi_at (show j < l.length by omega), Option.bind_some, gi_at (show j - 1 < l.length by omega), Option.bind_some, hl, Option.bind_some, if_neg]
     have : j = a := by omega
     subst this
     rw [od.nn (hpre j (by omega) (by omega) (by omega) (Nat.le_refl _) hji)]
     decide
   · rw [if_neg (by omega)]
 | succ d ih =>
   intro j l hj hji hil hlen hpre h1 h2
   have hjl : j < l.length := by omega
   have hw : IntKind.wrap .i64 ((j : Int) - 1) = ((j - 1 : Nat) : Int) := by rw [wrap_in (by omega) (by omega)]; omega
   rw [e, if_pos (by omega), hw, swp_txt (i := j) (j := j - 1) hjl (by omega) rfl rfl, gi_at hjl, Option.bind_some, gi_at (show j - 1 < l.length by omega), Option.bind_some, hl, Option.bind_some]
   by_cases g : lt l[j] l[j - 1] = true
   · rw [if_pos g]
     have hT : Tch a i l (swp l j (j - 1) hjl (by omega)) := swp_tch (by omega) (by omega) (by omega) (by omega)
     obtain ⟨r, t1, t2, t3⟩ := ih (j - 1) (swp l j (j - 1) hjl (by omega)) (by omega) (by omega) (by rw [swp_len]; exact hil) (by rw [swp_len]; exact hlen) (hpre.tch hT (by omega) hil) (fun p q hp hq hap hpq hqi hpj hqj => by
       rw [swp_get p hp, swp_get q hq, if_neg hpj, if_neg hqj]
       by_cases c1 : p = j
       · rw [if_pos c1, if_neg (by omega)]
         exact h1 (j - 1) q (by omega) (by rw [swp_len] at hq; exact hq) (by omega) (by omega) hqi (by omega) (by omega)
       · rw [if_neg c1]
         by_cases c2 : q = j
         · rw [if_pos c2]
           exact h1 p (j - 1) (by rw [swp_len] at hp; exact hp) (by omega) hap (by omega) (by omega) (by omega) (by omega)
         · rw [if_neg c2]
           exact h1 p q _ _ hap hpq hqi c1 c2) (fun q hj' hq hjq hqi => by
       rw [swp_get (j - 1) hj', swp_get q hq, if_pos rfl, if_neg (by omega)]
       by_cases c : q = j
       · rw [if_pos c]; exact od.yes g
       · rw [if_neg c]
         exact h2 q hjl (by rw [swp_len] at hq; exact hq) (by omega) hqi)
     exact ⟨r, hT.trans t1, t2, t3⟩
   · rw [if_neg g]
     refine ⟨l, .refl, fun p q hp hq hap hpq hqi => ?_, rfl⟩
     have gg : l[j - 1] ≤ l[j] := od.no (Bool.eq_false_iff.2 g)
     by_cases c1 : p = j
     · subst c1; exact h2 q hp hq hpq hqi
     · by_cases c2 : q = j
       · subst c2
         by_cases c3 : p = q - 1
         · subst c3; exact gg
         · exact od.tr (h1 p (q - 1) hp (by omega) hap (by omega) (by omega) (by omega) (by omega)) gg
       · exact h1 p q hp hq hap hpq hqi c1 c2
omit [LE α] in
theorem pins_up (hl : ∀ x y, less x y = some (lt x y)) {β : Type} {F : List α → Int → Option β} {E : List α → Option β} {b : Nat}
   (e : ∀ l j, F l j = if j < (b : Int) then (gi l j).bind fun y1 => (gi l (IntKind.wrap .i64 (j - 1))).bind fun y8 => (less y1 y8).bind fun c => if c = true then ((gi l (IntKind.wrap .i64 (j - 1))).bind fun y1 => (gi l j).bind fun y8 => (gi l j).bind fun _ => (some (l.set (Int.toNat j) y1)).bind fun l24 => (gi l24 (IntKind.wrap .i64 (j - 1))).bind fun _ => (some (l24.set (Int.toNat (IntKind.wrap .i64 (j - 1))) y8)).bind fun l35 => F l35 (IntKind.wrap .i64 (j + 1))) else E l else E l)
   {i : Nat} : ∀ (d j : Nat) (l : List α), j + d = b → i < j → b ≤ l.length → l.length ≤ 1000000000000000000 → ∃ r, Tch i b l r ∧ F l (j : Int) = E r := by
 intro d
 induction d with
 | zero => intro j l h1 h2 h3 h4; exact ⟨l, .refl, by rw [e, if_neg (by omega)]⟩
 | succ d ih =>
   intro j l h1 h2 h3 h4
   have hjl : j < l.length := by omega
   have hw : IntKind.wrap .i64 ((j : Int) - 1) = ((j - 1 : Nat) : Int) := by rw [wrap_in (by omega) (by omega)]; omega
   rw [e, if_pos (by omega), hw, swp_txt (i := j) (j := j - 1) hjl (by omega) rfl rfl, gi_at hjl, Option.bind_some, gi_at (show j - 1 < l.length by omega), Option.bind_some, hl, Option.bind_some]
   split
   · rw [w_succ (by omega)]
     obtain ⟨r, t1, t2⟩ := ih (j + 1) (swp l j (j - 1) hjl (by omega)) (by omega) (by omega) (by rw [swp_len]; exact h3) (by rw [swp_len]; exact h4)
     exact ⟨r, (swp_tch (by omega) (by omega) (by omega) (by omega)).trans t1, t2⟩
   · exact ⟨l, .refl, rfl⟩
theorem pins_scan (od : Ord3 lt) (hl : ∀ x y, less x y = some (lt x y)) {β : Type} {F : Int → Option β} {E : Int → Option β} {l : List α} {b : Nat}
   (e : ∀ i, F i = if i < (b : Int) then (gi l i).bind fun y1 => (gi l (IntKind.wrap .i64 (i - 1))).bind fun y8 => (less y1 y8).bind fun c => if c = true then E i else F (IntKind.wrap .i64 (i + 1)) else E i)
   {a : Nat} (hb : b ≤ l.length) (hlen : l.length ≤ 1000000000000000000) : ∀ (d i : Nat), i + d = b → a + 1 ≤ i → Srt a i l → ∃ i', i ≤ i' ∧ i' ≤ b ∧ Srt a i' l ∧ F (i : Int) = E (i' : Int) := by
 intro d
 induction d with
 | zero => intro i h1 h2 h3; exact ⟨i, Nat.le_refl _, by omega, h3, by rw [e, if_neg (by omega)]⟩
 | succ d ih =>
   intro i h1 h2 h3
   have hw : IntKind.wrap .i64 ((i : Int) - 1) = ((i - 1 : Nat) : Int) := by rw [wrap_in (by omega) (by omega)]; omega
   rw [e, if_pos (by omega), hw, gi_at (show i < l.length by omega), Option.bind_some, gi_at (show i - 1 < l.length by omega), Option.bind_some, hl, Option.bind_some]
   by_cases g : lt l[i] l[i - 1] = true
   · rw [if_pos g]; exact ⟨i, Nat.le_refl _, by omega, h3, rfl⟩
   · rw [if_neg g, w_succ (by omega)]
     have gg : l[i - 1] ≤ l[i] := od.no (Bool.eq_false_iff.2 g)
     obtain ⟨i', k1, k2, k3, k4⟩ := ih (i + 1) (by omega) (by omega) (fun p q hp hq hap hpq hqi => by
       by_cases c : q = i
       · subst c
         by_cases c2 : p = q - 1
         · subst c2; exact gg
         · exact od.tr (h3 p (q - 1) hp (by omega) hap (by omega) (by omega)) gg
       · exact h3 p q hp hq hap hpq (by omega))
     exact ⟨i', by omega, k2, k3, k4⟩
theorem pins_val (od : Ord3 lt) (hl : ∀ x y, less x y = some (lt x y)) {l0 l1 j0 j1 j2 j3 : List α → Int → Int → Int → Int → Option (Bool × List α)} {l2 l3 : List α → Int → Int → Int → Int → Int → Option (Bool × List α)} {P : List α → Int → Int → Option (Bool × List α)}
   (e0 : ∀ l a b i s, l0 l a b i s = if s < 5 then l1 l a b i s else some (false, l))
   (e1 : ∀ l a b i s, l1 l a b i s = if i < b then (gi l i).bind fun y1 => (gi l (IntKind.wrap .i64 (i - 1))).bind fun y8 => (less y1 y8).bind fun c => if c = true then j1 l a b i s else j2 l a b i s else j1 l a b i s)
   (f2 : ∀ l a b i s, j2 l a b i s = l1 l a b (IntKind.wrap .i64 (i + 1)) s)
   (f1 : ∀ l a b i s, j1 l a b i s = if i = b then some (true, l) else if IntKind.wrap .i64 (b - a) < 50 then some (false, l) else ((gi l (IntKind.wrap .i64 (i - 1))).bind fun y1 => (gi l i).bind fun y8 => (gi l i).bind fun _ => (some (l.set (Int.toNat i) y1)).bind fun l24 => (gi l24 (IntKind.wrap .i64 (i - 1))).bind fun _ => (some (l24.set (Int.toNat (IntKind.wrap .i64 (i - 1))) y8)).bind fun l35 => if IntKind.wrap .i64 (i - a) ≥ 2 then l2 l35 a b i s (IntKind.wrap .i64 (i - 1)) else j3 l35 a b i s))
   (e2 : ∀ l a b i s j, l2 l a b i s j = if j ≥ 1 then (gi l j).bind fun y1 => (gi l (IntKind.wrap .i64 (j - 1))).bind fun y8 => (less y1 y8).bind fun c => if c = true then ((gi l (IntKind.wrap .i64 (j - 1))).bind fun y1 => (gi l j).bind fun y8 => (gi l j).bind fun _ => (some (l.set (Int.toNat j) y1)).bind fun l24 => (gi l24 (IntKind.wrap .i64 (j - 1))).bind fun _ => (some (l24.set (Int.toNat (IntKind.wrap .i64 (j - 1))) y8)).bind fun l35 => l2 l35 a b i s (IntKind.wrap .i64 (j - 1))) else j3 l a b i s else j3 l a b i s)
   (f3 : ∀ l a b i s, j3 l a b i s = if IntKind.wrap .i64 (b - i) ≥ 2 then l3 l a b i s (IntKind.wrap .i64 (i + 1)) else j0 l a b i s)
   (e3 : ∀ l a b i s j, l3 l a b i s j = if j < b then (gi l j).bind fun y1 => (gi l (IntKind.wrap .i64 (j - 1))).bind fun y8 => (less y1 y8).bind fun c => if c = true then ((gi l (IntKind.wrap .i64 (j - 1))).bind fun y1 => (gi l j).bind fun y8 => (gi l j).bind fun _ => (some (l.set (Int.toNat j) y1)).bind fun l24 => (gi l24 (IntKind.wrap .i64 (j - 1))).bind fun _ => (some (l24.set (Int.toNat (IntKind.wrap .i64 (j - 1))) y8)).bind fun l35 => l3 l35 a b i s (IntKind.wrap .i64 (j + 1))) else j0 l a b i s else j0 l a b i s)
   (f0 : ∀ l a b i s, j0 l a b i s = l0 l a b i (IntKind.wrap .i64 (s + 1)))
   (eP : ∀ l a b, P l a b = l0 l a b (IntKind.wrap .i64 (a + 1)) 0)
   {a b : Nat} {l : List α} (hab : a < b) (hb : b ≤ l.length) (hlen : l.length ≤ 1000000000000000000) (hpre : Pre a b l) : ∃ t r, Tch a b l r ∧ (t = true → Srt a b r) ∧ P l (a : Int) (b : Int) = some (t, r) := by
 have main : ∀ (d s i : Nat) (l : List α), s + d = 5 → a + 1 ≤ i → i ≤ b → b ≤ l.length → l.length ≤ 1000000000000000000 → Pre a b l → Srt a i l → ∃ t r, Tch a b l r ∧ (t = true → Srt a b r) ∧ l0 l (a : Int) (b : Int) (i : Int) (s : Int) = some (t, r) := by
   intro d
   induction d with
   | zero => intro s i l h1 h2 h3 h4 h5 h6 h7; exact ⟨false, l, .refl, nofun, by rw [e0, if_neg (by omega)]⟩
   | succ d ih =>
     intro s i l h1 h2 h3 h4 h5 h6 h7
     obtain ⟨k, k1, k2, k3, k4⟩ := pins_scan od hl (F := fun i => l1 l (a : Int) (b : Int) i (s : Int)) (E := fun i => j1 l (a : Int) (b : Int) i (s : Int)) (b := b) (fun i => by rw [e1]; simp only [f2]) h4 h5 (b - i) i (by omega) h2 h7
     rw [e0, if_pos (by omega)]
     rw [k4, f1]
     by_cases c : k = b
     · subst c; exact ⟨true, l, .refl, fun _ => k3, by rw [if_pos rfl]⟩
     rw [if_neg (by omega)]
     by_cases c2 : b - a < 50
     · exact ⟨false, l, .refl, nofun, by rw [if_pos (by rw [wrap_in (by omega) (by omega)]; omega)]⟩
     rw [if_neg (by rw [wrap_in (by omega) (by omega)]; omega)]
     have hk : k < l.length := by omega
     have hw : IntKind.wrap .i64 ((k : Int) - 1) = ((k - 1 : Nat) : Int) := by rw [wrap_in (by omega) (by omega)]; omega
     rw [hw, swp_txt (i := k) (j := k - 1) hk (by omega) rfl rfl]
     have T1 : Tch a b l (swp l k (k - 1) hk (by omega)) := swp_tch (by omega) (by omega) (by omega) (by omega)
     have L1 : (swp l k (k - 1) hk (by omega)).length = l.length := swp_len
     have P1 := h6.tch T1 (by omega) h4
     -- what goes up
     have up : ∀ r : List α, Tch a b l r → Srt a k r → ∃ t r', Tch a b l r' ∧ (t = true → Srt a b r') ∧ j3 r (a : Int) (b : Int) (k : Int) (s : Int) = some (t, r') := by
       intro r T S
       have hr := T.len
       rw [f3]
       have fin : ∀ r' : List α, Tch a b l r' → Srt a k r' → ∃ t r'', Tch a b l r'' ∧ (t = true → Srt a b r'') ∧ j0 r' (a : Int) (b : Int) (k : Int) (s : Int) = some (t, r'') := by
         intro r' T' S'
         have hr' := T'.len
         obtain ⟨t, r'', q1, q2, q3⟩ := ih (s + 1) k r' (by omega) (by omega) (by omega) (by omega) (by omega) (h6.tch T' (by omega) h4) S'
         exact ⟨t, r'', T'.trans q1, q2, by rw [f0, w_succ (by omega), q3]⟩
       by_cases c3 : 2 ≤ b - k
       · rw [if_pos (by rw [wrap_in (by omega) (by omega)]; omega), w_succ (by omega)]
         obtain ⟨r', q1, q2⟩ := pins_up (i := k) hl (F := fun l j => l3 l (a : Int) (b : Int) (k : Int) (s : Int) j) (E := fun l => j0 l (a : Int) (b : Int) (k : Int) (s : Int)) (b := b) (fun l j => e3 l a b k s j) (b - (k + 1)) (k + 1) r (by omega) (by omega) (by omega) (by omega)
         obtain ⟨t, r'', u1, u2, u3⟩ := fin r' (T.trans (q1.mono (by omega) (Nat.le_refl _))) (S.keep q1 (.inl (Nat.le_refl _)))
         exact ⟨t, r'', u1, u2, by rw [q2, u3]⟩
       · rw [if_neg (by rw [wrap_in (by omega) (by omega)]; omega)]
         exact fin r T S
     by_cases c4 : 2 ≤ k - a
     · rw [if_pos (by rw [wrap_in (by omega) (by omega)]; omega)]
       obtain ⟨r, q1, q2, q3⟩ := pins_down od hl (F := fun l j => l2 l (a : Int) (b : Int) (k : Int) (s : Int) j) (E := fun l => j3 l (a : Int) (b : Int) (k : Int) (s : Int)) (fun l j => e2 l a b k s j) (a := a) (i := k) (k - 1 - a) (k - 1) (swp l k (k - 1) hk (by omega)) (by omega) (by omega) (by omega) (by omega) (fun i x0 x1 x2 x3 x4 => P1 i x0 x1 x2 x3 (by omega)) (fun p q hp hq hap hpq hqi hpj hqj => by
         rw [swp_get p hp, swp_get q hq, if_neg hpj, if_neg hqj, if_neg (by omega), if_neg (by omega)]
         exact k3 p q _ _ hap hpq (by omega)) (fun q hj hq hjq hqi => by omega)
       obtain ⟨t, r', u1, u2, u3⟩ := up r (T1.trans (q1.mono (Nat.le_refl _) (by omega))) q2
       exact ⟨t, r', u1, u2, by rw [q3, u3]⟩
     · rw [if_neg (by rw [wrap_in (by omega) (by omega)]; omega)]
       exact up _ T1 (fun p q hp hq hap hpq hqi => by omega)
 rw [eP, w_succ (by omega)]
 exact main 5 0 (a + 1) l (by omega) (Nat.le_refl _) (by omega) hb hlen hpre (fun p q hp hq hap hpq hqi => by omega)
omit [LE α] in
theorem scan_up {β : Type} {g Eg : Nat → β} {C : Nat → Bool} {n : Nat} (e : ∀ i, i < n → g i = if C i = true then g (i + 1) else Eg i) (e' : ∀ i, i = n → g i = Eg i) : ∀ (d i : Nat), i + d = n → ∃ k, i ≤ k ∧ k ≤ n ∧ (∀ q, i ≤ q → q < k → C q = true) ∧ (k < n → C k = false) ∧ g i = Eg k := by
 intro d
 induction d with
 | zero => intro i h; exact ⟨i, Nat.le_refl _, by omega, fun q h1 h2 => by omega, fun h => by omega, e' i (by omega)⟩
 | succ d ih =>
   intro i h
   rw [e i (by omega)]
   by_cases c : C i = true
   · rw [if_pos c]
     obtain ⟨k, k1, k2, k3, k4, k5⟩ := ih (i + 1) (by omega)
     exact ⟨k, by omega, k2, fun q h1 h2 => by
       by_cases hq : q = i
       · subst hq; exact c
       · exact k3 q (by omega) h2, k4, k5⟩
   · rw [if_neg c]; exact ⟨i, Nat.le_refl _, by omega, fun q h1 h2 => by omega, fun _ => Bool.eq_false_iff.2 c, rfl⟩
theorem scan_dn {β : Type} {g Eg : Nat → β} {C : Nat → Bool} {n top : Nat} (e : ∀ j, n < j → j ≤ top → g j = if C (j - 1) = true then g (j - 1) else Eg j) (e' : ∀ j, j = n → g j = Eg j) : ∀ (d j : Nat), n + d = j → j ≤ top → ∃ k, n ≤ k ∧ k ≤ j ∧ (∀ q, k ≤ q → q < j → C q = true) ∧ (n < k → C (k - 1) = false) ∧ g j = Eg k := by
 intro d
 induction d with
 | zero => intro j h ht; exact ⟨j, by omega, Nat.le_refl _, fun q h1 h2 => by omega, fun h => by omega, e' j (by omega)⟩
 | succ d ih =>
   intro j h ht
   rw [e j (by omega) ht]
   by_cases c : C (j - 1) = true
   · rw [if_pos c]
     obtain ⟨k, k1, k2, k3, k4, k5⟩ := ih (j - 1) (by omega) (by omega)
     exact ⟨k, k1, by omega, fun q h1 h2 => by
       by_cases hq : q = j - 1
       · subst hq; exact c
       · exact k3 q h1 (by omega), k4, k5⟩
   · rw [if_neg c]; exact ⟨j, by omega, Nat.le_refl _, fun q h1 h2 => by omega, fun _ => Bool.eq_false_iff.2 c, rfl⟩
def Inv (a b i j : Nat) (l : List α) : Prop := ∀ k (ha : a < l.length) (hk : k < l.length), (a < k → k < i → l[k] ≤ l[a]) ∧ (j ≤ k → k < b → l[a] ≤ l[k])
theorem Inv.swap {a b i j : Nat} {l : List α} (h : Inv a b i (j + 1) l) (hai : a < i) (hij : i ≤ j) (hjb : j < b) (hb : b ≤ l.length) (h1 : l[j] ≤ l[a]) (h2 : l[a] ≤ l[i]) : Inv a b (i + 1) j (swp l i j (by omega) (by omega)) := by
 intro k ha hk
 have hl : (swp l i j (by omega) (by omega)).length = l.length := swp_len
 rw [swp_get k hk, swp_get a ha, if_neg (show ¬ a = j by omega), if_neg (show ¬ a = i by omega)]
 refine ⟨fun g1 g2 => ?_, fun g1 g2 => ?_⟩
 · by_cases c1 : k = j
   · have : i = j := by omega
     subst this; rw [if_pos c1]; exact h1
   · rw [if_neg c1]
     by_cases c2 : k = i
     · rw [if_pos c2]; exact h1
     · rw [if_neg c2]; exact (h k (by omega) (by omega)).1 g1 (by omega)
 · by_cases c1 : k = j
   · rw [if_pos c1]; exact h2
   · rw [if_neg c1, if_neg (by omega)]; exact (h k (by omega) (by omega)).2 (by omega) g2
def Cut (a b m : Nat) (l r : List α) : Prop := Tch a b l r ∧ a ≤ m ∧ m < b ∧ ∀ k (hm : m < r.length) (hk : k < r.length), (a ≤ k → k < m → r[k] ≤ r[m]) ∧ (m < k → k < b → r[m] ≤ r[k])
theorem Inv.cut {a b j : Nat} {l0 l : List α} (h : Inv a b (j + 1) (j + 1) l) (haj : a ≤ j) (hjb : j < b) (hb : b ≤ l.length) (T : Tch a b l0 l) : Cut a b j l0 (swp l j a (by omega) (by omega)) := by
 have hl : (swp l j a (by omega) (by omega)).length = l.length := swp_len
 refine ⟨T.trans (swp_tch (by omega) (by omega) (by omega) (by omega)), haj, hjb, fun k hm hk => ?_⟩
 have hrj : (swp l j a (by omega) (by omega))[j] = l[a] := by
   rw [swp_get j hm]
   by_cases c : j = a
   · subst c; rw [if_pos rfl]
   · rw [if_neg c, if_pos rfl]
 rw [hrj, swp_get k hk]
 refine ⟨fun g1 g2 => ?_, fun g1 g2 => ?_⟩
 · by_cases c1 : k = a
   · rw [if_pos c1]; exact (h j (by omega) (by omega)).1 (by omega) (by omega)
   · rw [if_neg c1, if_neg (by omega)]; exact (h k (by omega) (by omega)).1 (by omega) (by omega)
 · rw [if_neg (by omega), if_neg (by omega)]; exact (h k (by omega) (by omega)).2 (by omega) g2
theorem part_val (od : Ord3 lt) (hl : ∀ x y, less x y = some (lt x y)) {k0 kj2 kj0 k1 kj3 J1 l2 l3 j7 j5 l4 j8 j6 : List α → Int → Int → Int → Option (Int × Bool × List α)} {j4 : List α → Int → Int → Option (Int × Bool × List α)} {P : List α → Int → Int → Int → Option (Int × Bool × List α)}
   (eP : ∀ l a b p, P l a b p = (gi l p).bind fun y1 => (gi l a).bind fun y8 => (gi l a).bind fun _ => (some (l.set (Int.toNat a) y1)).bind fun l24 => (gi l24 p).bind fun _ => (some (l24.set (Int.toNat p) y8)).bind fun l35 => k0 l35 a (IntKind.wrap .i64 (a + 1)) (IntKind.wrap .i64 (b - 1)))
   (e0 : ∀ l a i j, k0 l a i j = if i ≤ j then (gi l i).bind fun y1 => (gi l a).bind fun y8 => (less y1 y8).bind fun c => if c = true then kj2 l a i j else kj0 l a i j else kj0 l a i j)
   (f2 : ∀ l a i j, kj2 l a i j = k0 l a (IntKind.wrap .i64 (i + 1)) j)
   (f0 : ∀ l a i j, kj0 l a i j = k1 l a i j)
   (e1 : ∀ l a i j, k1 l a i j = if i ≤ j then (gi l j).bind fun y1 => (gi l a).bind fun y8 => (less y1 y8).bind fun c => if c = true then J1 l a i j else kj3 l a i j else J1 l a i j)
   (f3 : ∀ l a i j, kj3 l a i j = k1 l a i (IntKind.wrap .i64 (j - 1)))
   (f1 : ∀ l a i j, J1 l a i j = if i > j then ((gi l a).bind fun y1 => (gi l j).bind fun y8 => (gi l j).bind fun _ => (some (l.set (Int.toNat j) y1)).bind fun l24 => (gi l24 a).bind fun _ => (some (l24.set (Int.toNat a) y8)).bind fun l35 => some (j, true, l35)) else ((gi l j).bind fun y1 => (gi l i).bind fun y8 => (gi l i).bind fun _ => (some (l.set (Int.toNat i) y1)).bind fun l24 => (gi l24 j).bind fun _ => (some (l24.set (Int.toNat j) y8)).bind fun l35 => l2 l35 a (IntKind.wrap .i64 (i + 1)) (IntKind.wrap .i64 (j - 1))))
   (e2 : ∀ l a i j, l2 l a i j = l3 l a i j)
   (e3 : ∀ l a i j, l3 l a i j = if i ≤ j then (gi l i).bind fun y1 => (gi l a).bind fun y8 => (less y1 y8).bind fun c => if c = true then j7 l a i j else j5 l a i j else j5 l a i j)
   (f7 : ∀ l a i j, j7 l a i j = l3 l a (IntKind.wrap .i64 (i + 1)) j)
   (f5 : ∀ l a i j, j5 l a i j = l4 l a i j)
   (e4 : ∀ l a i j, l4 l a i j = if i ≤ j then (gi l j).bind fun y1 => (gi l a).bind fun y8 => (less y1 y8).bind fun c => if c = true then j6 l a i j else j8 l a i j else j6 l a i j)
   (f8 : ∀ l a i j, j8 l a i j = l4 l a i (IntKind.wrap .i64 (j - 1)))
   (f6 : ∀ l a i j, j6 l a i j = if i > j then j4 l a j else ((gi l j).bind fun y1 => (gi l i).bind fun y8 => (gi l i).bind fun _ => (some (l.set (Int.toNat i) y1)).bind fun l24 => (gi l24 j).bind fun _ => (some (l24.set (Int.toNat j) y8)).bind fun l35 => l2 l35 a (IntKind.wrap .i64 (i + 1)) (IntKind.wrap .i64 (j - 1))))
   (f4 : ∀ l a j, j4 l a j = (gi l a).bind fun y1 => (gi l j).bind fun y8 => (gi l j).bind fun _ => (some (l.set (Int.toNat j) y1)).bind fun l24 => (gi l24 a).bind fun _ => (some (l24.set (Int.toNat a) y8)).bind fun l35 => some (j, false, l35))
   {a b p : Nat} {l : List α} (hap : a ≤ p) (hpb : p < b) (hb : b ≤ l.length) (hlen : l.length ≤ 1000000000000000000) : ∃ (m : Nat) (t : Bool) (r : List α), Cut a b m l r ∧ P l (a : Int) (b : Int) (p : Int) = some ((m : Int), t, r) := by
 -- both ways, from i up and from j down
 have both : ∀ {U V W : List α → Int → Int → Int → Option (Int × Bool × List α)}
     (eU : ∀ l a i j, U l a i j = if i ≤ j then (gi l i).bind fun y1 => (gi l a).bind fun y8 => (less y1 y8).bind fun c => if c = true then U l a (IntKind.wrap .i64 (i + 1)) j else V l a i j else V l a i j)
     (eV : ∀ l a i j, V l a i j = if i ≤ j then (gi l j).bind fun y1 => (gi l a).bind fun y8 => (less y1 y8).bind fun c => if c = true then W l a i j else V l a i (IntKind.wrap .i64 (j - 1)) else W l a i j)
     (l : List α) (i j : Nat), a < i → i ≤ j → j ≤ b → b ≤ l.length → l.length ≤ 1000000000000000000 → Inv a b i j l →
     ∃ i' j', i ≤ i' ∧ j' ≤ j ∧ i' ≤ j' ∧ Inv a b i' j' l ∧ (i' < j' → i' + 1 < j' ∧ ∃ (h : j' - 1 < l.length) (h' : i' < l.length) (ha : a < l.length), l[j' - 1] ≤ l[a] ∧ l[a] ≤ l[i']) ∧ U l (a : Int) (i : Int) ((j : Int) - 1) = W l (a : Int) (i' : Int) ((j' : Int) - 1) := by
   intro U V W eU eV l i j h1 h2 h3 h4 h5 hI
   obtain ⟨i', k1, k2, k3, k4, k5⟩ := scan_up (g := fun i => U l (a : Int) (i : Int) ((j : Int) - 1)) (Eg := fun i => V l (a : Int) (i : Int) ((j : Int) - 1)) (C := fun i => match l[i]?, l[a]? with | some x, some y => lt x y | _, _ => false) (n := j) (fun i hi => by
     rw [eU, if_pos (by omega), gi_at (show i < l.length by omega), Option.bind_some, gi_at (show a < l.length by omega), Option.bind_some, hl, Option.bind_some, w_succ (by omega), List.getElem?_eq_getElem (show i < l.length by omega), List.getElem?_eq_getElem (show a < l.length by omega)]) (fun i hi => by rw [eU, if_neg (by omega)]) (j - i) i (by omega)
   obtain ⟨j', m1, m2, m3, m4, m5⟩ := scan_dn (g := fun j => V l (a : Int) (i' : Int) ((j : Int) - 1)) (Eg := fun j => W l (a : Int) (i' : Int) ((j : Int) - 1)) (C := fun i => match l[i]?, l[a]? with | some x, some y => !lt x y | _, _ => false) (n := i') (top := j) (fun q hq hqj => by
       rw [eV, if_pos (by omega), show (q : Int) - 1 = ((q - 1 : Nat) : Int) by omega, gi_at (show q - 1 < l.length by omega), Option.bind_some, gi_at (show a < l.length by omega), Option.bind_some, hl, Option.bind_some, wrap_in (by omega) (by omega), List.getElem?_eq_getElem (show q - 1 < l.length by omega), List.getElem?_eq_getElem (show a < l.length by omega)]
       by_cases hc : lt l[q - 1] l[a] = true
       · rw [if_pos hc, if_neg (by simp [hc])]
       · rw [if_neg hc, if_pos (by simp [hc])]) (fun i hi => by rw [eV, if_neg (by omega)]) (j - i') j (by omega) (Nat.le_refl _)
   refine ⟨i', j', k1, m2, m1, fun k ha hk => ⟨fun g1 g2 => ?_, fun g1 g2 => ?_⟩, fun hlt => ⟨?_, by omega, by omega, by omega, ?_, ?_⟩, by rw [k5, m5]⟩
   · by_cases c : k < i
     · exact (hI k ha hk).1 g1 c
     · have := k3 k (by omega) g2
       simp only [List.getElem?_eq_getElem hk, List.getElem?_eq_getElem ha] at this
       exact od.yes this
   · by_cases c : j ≤ k
     · exact (hI k ha hk).2 c g2
     · have := m3 k g1 (by omega)
       simp only [List.getElem?_eq_getElem hk, List.getElem?_eq_getElem ha] at this
       exact od.no (by simpa using this)
   · rcases Nat.lt_or_ge (i' + 1) j' with h | h
     · exact h
     · have e1 := m4 hlt
       rw [show j' - 1 = i' by omega] at e1
       have e2 := k4 (by omega)
       simp only [List.getElem?_eq_getElem (show i' < l.length by omega), List.getElem?_eq_getElem (show a < l.length by omega)] at e1 e2
       rw [e2] at e1; cases e1
   · have := m4 hlt
     simp only [List.getElem?_eq_getElem (show j' - 1 < l.length by omega), List.getElem?_eq_getElem (show a < l.length by omega)] at this
     exact od.yes (by simpa using this)
   · have := k4 (by omega)
     simp only [List.getElem?_eq_getElem (show i' < l.length by omega), List.getElem?_eq_getElem (show a < l.length by omega)] at this
     exact od.no this
 have loop : ∀ (d i j : Nat) (x : List α), j ≤ i + d → a < i → i ≤ j → j ≤ b → Tch a b l x → Inv a b i j x → ∃ (m : Nat) (t : Bool) (r : List α), Cut a b m l r ∧ l2 x (a : Int) (i : Int) ((j : Int) - 1) = some ((m : Int), t, r) := by
   intro d
   induction d with
   | zero =>
     intro i j x h1 h2 h3 h4 T hI
     have hx := T.len
     have : i = j := by omega
     subst this
     refine ⟨i - 1, false, _, Inv.cut (j := i - 1) (by rw [show i - 1 + 1 = i by omega]; exact hI) (by omega) (by omega) (by omega) T, ?_⟩
     rw [e2, e3, if_neg (by omega), f5, e4, if_neg (by omega), f6, if_pos (by omega), f4, show (i : Int) - 1 = ((i - 1 : Nat) : Int) by omega, swp_txt (i := i - 1) (j := a) (by omega) (by omega) rfl rfl]
   | succ d ih =>
     intro i j x h1 h2 h3 h4 T hI
     have hx := T.len
     obtain ⟨i', j', k1, k2, k3, k4, k5, k6⟩ := both (U := l3) (V := l4) (W := j6) (fun l a i j => by rw [e3]; simp only [f7, f5]) (fun l a i j => by rw [e4]; simp only [f8]) x i j h2 h3 h4 (by omega) (by omega) hI
     rw [e2, k6, f6]
     by_cases c : i' = j'
     · subst c
       refine ⟨i' - 1, false, _, Inv.cut (j := i' - 1) (by rw [show i' - 1 + 1 = i' by omega]; exact k4) (by omega) (by omega) (by omega) T, ?_⟩
       rw [if_pos (by omega), f4, show (i' : Int) - 1 = ((i' - 1 : Nat) : Int) by omega, swp_txt (i := i' - 1) (j := a) (by omega) (by omega) rfl rfl]
     · obtain ⟨q0, q1, q2, q3, q4, q5⟩ := k5 (by omega)
       rw [if_neg (by omega), show (j' : Int) - 1 = ((j' - 1 : Nat) : Int) by omega, swp_txt (i := i') (j := j' - 1) (by omega) (by omega) rfl rfl, w_succ (by omega), wrap_in (by omega) (by omega)]
       have hI' := Inv.swap (j := j' - 1) (by rw [show j' - 1 + 1 = j' by omega]; exact k4) (by omega) (by omega) (by omega) (by omega) q4 q5
       exact ih (i' + 1) (j' - 1) _ (by omega) (by omega) (by omega) (by omega) (T.trans (swp_tch (by omega) (by omega) (by omega) (by omega))) hI'
 have T0 : Tch a b l (swp l a p (by omega) (by omega)) := swp_tch (by omega) (by omega) (by omega) (by omega)
 have L0 : (swp l a p (by omega) (by omega)).length = l.length := swp_len
 rw [eP, swp_txt (i := a) (j := p) (by omega) (by omega) rfl rfl, w_succ (by omega), wrap_in (by omega) (by omega)]
 obtain ⟨i', j', k1', k2, k3, k4, k5, k6⟩ := both (U := k0) (V := k1) (W := J1) (fun l a i j => by rw [e0]; simp only [f2, f0]) (fun l a i j => by rw [e1]; simp only [f3]) (swp l a p (by omega) (by omega)) (a + 1) b (by omega) (by omega) (Nat.le_refl _) (by omega) (by omega) (fun k ha hk => ⟨fun g1 g2 => by omega, fun g1 g2 => by omega⟩)
 rw [k6, f1]
 by_cases c : i' = j'
 · subst c
   refine ⟨i' - 1, true, _, Inv.cut (j := i' - 1) (by rw [show i' - 1 + 1 = i' by omega]; exact k4) (by omega) (by omega) (by omega) T0, ?_⟩
   rw [if_pos (by omega), show (i' : Int) - 1 = ((i' - 1 : Nat) : Int) by omega, swp_txt (i := i' - 1) (j := a) (by omega) (by omega) rfl rfl]
 · obtain ⟨q0, q1, q2, q3, q4, q5⟩ := k5 (by omega)
   rw [if_neg (by omega), show (j' : Int) - 1 = ((j' - 1 : Nat) : Int) by omega, swp_txt (i := i') (j := j' - 1) (by omega) (by omega) rfl rfl, w_succ (by omega), wrap_in (by omega) (by omega)]
   have hI' := Inv.swap (j := j' - 1) (by rw [show j' - 1 + 1 = j' by omega]; exact k4) (by omega) (by omega) (by omega) (by omega) q4 q5
   exact loop (j' + b) (i' + 1) (j' - 1) _ (by omega) (by omega) (by omega) (by omega) (T0.trans (swp_tch (by omega) (by omega) (by omega) (by omega))) hI'
theorem parte_val (od : Ord3 lt) (hl : ∀ x y, less x y = some (lt x y)) {l0 l1 j0 j2 l2 j3 j1 : List α → Int → Int → Int → Option (Int × List α)} {P : List α → Int → Int → Int → Option (Int × List α)}
   (eP : ∀ l a b p, P l a b p = (gi l p).bind fun y1 => (gi l a).bind fun y8 => (gi l a).bind fun _ => (some (l.set (Int.toNat a) y1)).bind fun l24 => (gi l24 p).bind fun _ => (some (l24.set (Int.toNat p) y8)).bind fun l35 => l0 l35 a (IntKind.wrap .i64 (a + 1)) (IntKind.wrap .i64 (b - 1)))
   (e0 : ∀ l a i j, l0 l a i j = l1 l a i j)
   (e1 : ∀ l a i j, l1 l a i j = if i ≤ j then (gi l a).bind fun y1 => (gi l i).bind fun y8 => (less y1 y8).bind fun c => if c = true then j0 l a i j else j2 l a i j else j0 l a i j)
   (f2 : ∀ l a i j, j2 l a i j = l1 l a (IntKind.wrap .i64 (i + 1)) j)
   (f0 : ∀ l a i j, j0 l a i j = l2 l a i j)
   (e2 : ∀ l a i j, l2 l a i j = if i ≤ j then (gi l a).bind fun y1 => (gi l j).bind fun y8 => (less y1 y8).bind fun c => if c = true then j3 l a i j else j1 l a i j else j1 l a i j)
   (f3 : ∀ l a i j, j3 l a i j = l2 l a i (IntKind.wrap .i64 (j - 1)))
   (f1 : ∀ l a i j, j1 l a i j = if i > j then some (i, l) else ((gi l j).bind fun y1 => (gi l i).bind fun y8 => (gi l i).bind fun _ => (some (l.set (Int.toNat i) y1)).bind fun l24 => (gi l24 j).bind fun _ => (some (l24.set (Int.toNat j) y8)).bind fun l35 => l0 l35 a (IntKind.wrap .i64 (i + 1)) (IntKind.wrap .i64 (j - 1))))
   {a b p : Nat} {l : List α} (hap : a ≤ p) (hpb : p < b) (hb : b ≤ l.length) (hlen : l.length ≤ 1000000000000000000) : ∃ (m : Nat) (r : List α), Tch a b l r ∧ a < m ∧ m ≤ b ∧ Inv a b m m r ∧ r[a]? = l[p]? ∧ P l (a : Int) (b : Int) (p : Int) = some ((m : Int), r) := by
 have loop : ∀ (d i j : Nat) (x : List α), j ≤ i + d → a < i → i ≤ j → j ≤ b → Tch a b l x → Inv a b i j x → x[a]? = l[p]? → ∃ (m : Nat) (r : List α), Tch a b l r ∧ a < m ∧ m ≤ b ∧ Inv a b m m r ∧ r[a]? = l[p]? ∧ l0 x (a : Int) (i : Int) ((j : Int) - 1) = some ((m : Int), r) := by
   intro d
   induction d with
   | zero =>
     intro i j x h1 h2 h3 h4 T hI hA
     have : i = j := by omega
     subst this
     refine ⟨i, x, T, h2, h4, hI, hA, ?_⟩
     rw [e0, e1, if_neg (by omega), f0, e2, if_neg (by omega), f1, if_pos (by omega)]
   | succ d ih =>
     intro i j x h1 h2 h3 h4 T hI hA
     have hx := T.len
     obtain ⟨i', k1, k2, k3, k4, k5⟩ := scan_up (g := fun i => l1 x (a : Int) (i : Int) ((j : Int) - 1)) (Eg := fun i => l2 x (a : Int) (i : Int) ((j : Int) - 1)) (C := fun i => match x[i]?, x[a]? with | some u, some y => !lt y u | _, _ => false) (n := j) (fun i hi => by
       rw [e1, if_pos (by omega), gi_at (show a < x.length by omega), Option.bind_some, gi_at (show i < x.length by omega), Option.bind_some, hl, Option.bind_some, f2, f0, w_succ (by omega), List.getElem?_eq_getElem (show i < x.length by omega), List.getElem?_eq_getElem (show a < x.length by omega)]
       by_cases hc : lt x[a] x[i] = true
       · rw [if_pos hc, if_neg (by simp [hc])]
       · rw [if_neg hc, if_pos (by simp [hc])]) (fun i hi => by rw [e1, if_neg (by omega), f0]) (j - i) i (by omega)
     obtain ⟨j', m1, m2, m3, m4, m5⟩ := scan_dn (g := fun j => l2 x (a : Int) (i' : Int) ((j : Int) - 1)) (Eg := fun j => j1 x (a : Int) (i' : Int) ((j : Int) - 1)) (C := fun i => match x[i]?, x[a]? with | some u, some y => lt y u | _, _ => false) (n := i') (top := j) (fun q hq hqj => by
       rw [e2, if_pos (by omega), show (q : Int) - 1 = ((q - 1 : Nat) : Int) by omega, gi_at (show a < x.length by omega), Option.bind_some, gi_at (show q - 1 < x.length by omega), Option.bind_some, hl, Option.bind_some, f3, wrap_in (by omega) (by omega), List.getElem?_eq_getElem (show q - 1 < x.length by omega), List.getElem?_eq_getElem (show a < x.length by omega)]) (fun i hi => by rw [e2, if_neg (by omega)]) (j - i') j (by omega) (Nat.le_refl _)
     have ha : a < x.length := by omega
     have hI' : Inv a b i' j' x := fun k ha hk => ⟨fun g1 g2 => by
       by_cases c : k < i
       · exact (hI k ha hk).1 g1 c
       · have := k3 k (by omega) g2
         simp only [List.getElem?_eq_getElem hk, List.getElem?_eq_getElem ha] at this
         exact od.no (by simpa using this), fun g1 g2 => by
       by_cases c : j ≤ k
       · exact (hI k ha hk).2 c g2
       · have := m3 k g1 (by omega)
         simp only [List.getElem?_eq_getElem hk, List.getElem?_eq_getElem ha] at this
         exact od.yes this⟩
     rw [e0, k5, m5, f1]
     by_cases c : i' = j'
     · subst c
       exact ⟨i', x, T, by omega, by omega, hI', hA, by rw [if_pos (by omega)]⟩
     · have q1 := k4 (by omega)
       have q2 := m4 (by omega)
       have hlt : i' + 1 < j' := by
         rcases Nat.lt_or_ge (i' + 1) j' with h | h
         · exact h
         · rw [show j' - 1 = i' by omega] at q2
           simp only [List.getElem?_eq_getElem (show i' < x.length by omega), List.getElem?_eq_getElem ha] at q1 q2
           rw [q2] at q1; cases q1
       simp only [List.getElem?_eq_getElem (show i' < x.length by omega), List.getElem?_eq_getElem ha] at q1
       simp only [List.getElem?_eq_getElem (show j' - 1 < x.length by omega), List.getElem?_eq_getElem ha] at q2
       rw [if_neg (by omega), show (j' : Int) - 1 = ((j' - 1 : Nat) : Int) by omega, swp_txt (i := i') (j := j' - 1) (by omega) (by omega) rfl rfl, w_succ (by omega), wrap_in (by omega) (by omega)]
       have hI2 := Inv.swap (j := j' - 1) (by rw [show j' - 1 + 1 = j' by omega]; exact hI') (by omega) (by omega) (by omega) (by omega) (od.no q2) (od.yes (by simpa using q1))
       exact ih (i' + 1) (j' - 1) _ (by omega) (by omega) (by omega) (by omega) (T.trans (swp_tch (by omega) (by omega) (by omega) (by omega))) hI2 (by rw [(swp_tch (a := i') (b := j') (l := x) (i := i') (j := j' - 1) (by omega) (by omega) (by omega) (by omega)).2 a (.inl (by omega))]; exact hA)
 have T0 : Tch a b l (swp l a p (by omega) (by omega)) := swp_tch (by omega) (by omega) (by omega) (by omega)
 rw [eP, swp_txt (i := a) (j := p) (by omega) (by omega) rfl rfl, w_succ (by omega), wrap_in (by omega) (by omega)]
 exact loop b (a + 1) b _ (by omega) (by omega) (by omega) (Nat.le_refl _) T0 (fun k ha hk => ⟨fun g1 g2 => by omega, fun g1 g2 => by omega⟩) (by
   have ha : a < (swp l a p (by omega) (by omega)).length := by rw [swp_len]; omega
   rw [List.getElem?_eq_getElem ha, List.getElem?_eq_getElem (show p < l.length by omega), swp_get a ha]
   by_cases c : a = p
   · subst c; rw [if_pos rfl]
   · rw [if_neg c, if_pos rfl])
theorem pdq_val (od : Ord3 lt) (hl : ∀ x y, less x y = some (lt x y)) {f : List α → Int → Int → Int → Option (List α)} {l0 : List α → Int → Int → Int → Bool → Bool → Option (List α)} {j0 : List α → Int → Int → Int → Bool → Bool → Int → Option (List α)} {j1 : List α → Int → Int → Int → Bool → Bool → Int → Int → Int → Option (List α)} {j3 j5 : List α → Int → Int → Int → Bool → Bool → Int → Int → Bool → Option (List α)} {j2 : List α → Int → Int → Int → Bool → Bool → Int → Int → Option (List α)} {j4 : List α → Int → Int → Int → Int → Int → Option (List α)}
   {ins heap brk rev : List α → Int → Int → Option (List α)} {cho : List α → Int → Int → Option (Int × Int)} {pi : List α → Int → Int → Option (Bool × List α)} {pe : List α → Int → Int → Int → Option (Int × List α)} {pt : List α → Int → Int → Int → Option (Int × Bool × List α)}
   (hins : ∀ {a b : Nat} {l : List α}, b ≤ l.length → l.length ≤ 1000000000000000000 → a ≤ b → ∃ r, Tch a b l r ∧ Srt a b r ∧ ins l (a : Int) (b : Int) = some r)
   (hheap : ∀ {a b : Nat} {l : List α}, a < b → b ≤ l.length → l.length ≤ 1000000000000000000 → ∃ r, Tch a b l r ∧ Srt a b r ∧ heap l (a : Int) (b : Int) = some r)
   (hbrk : ∀ {a b : Nat} {l : List α}, a + 12 < b → b ≤ l.length → l.length ≤ 1000000000000000000 → ∃ r, Tch a b l r ∧ brk l (a : Int) (b : Int) = some r)
   (hrev : ∀ {a b : Nat} {l : List α}, a + 12 < b → b ≤ l.length → l.length ≤ 1000000000000000000 → ∃ r, Tch a b l r ∧ rev l (a : Int) (b : Int) = some r)
   (hcho : ∀ {a b : Nat} {l : List α}, a + 12 < b → b ≤ l.length → l.length ≤ 1000000000000000000 → ∃ u w, cho l (a : Int) (b : Int) = some (u, w) ∧ InR a b u)
   (hpi : ∀ {a b : Nat} {l : List α}, a < b → b ≤ l.length → l.length ≤ 1000000000000000000 → Pre a b l → ∃ t r, Tch a b l r ∧ (t = true → Srt a b r) ∧ pi l (a : Int) (b : Int) = some (t, r))
   (hpe : ∀ {a b p : Nat} {l : List α}, a ≤ p → p < b → b ≤ l.length → l.length ≤ 1000000000000000000 → ∃ (m : Nat) (r : List α), Tch a b l r ∧ a < m ∧ m ≤ b ∧ Inv a b m m r ∧ r[a]? = l[p]? ∧ pe l (a : Int) (b : Int) (p : Int) = some ((m : Int), r))
   (hpt : ∀ {a b p : Nat} {l : List α}, a ≤ p → p < b → b ≤ l.length → l.length ≤ 1000000000000000000 → ∃ (m : Nat) (t : Bool) (r : List α), Cut a b m l r ∧ pt l (a : Int) (b : Int) (p : Int) = some ((m : Int), t, r))
   (ef : ∀ l a b lim, f l a b lim = l0 l a b lim true true)
   (e0 : ∀ l a b lim b8 b9, l0 l a b lim b8 b9 = if IntKind.wrap .i64 (b - a) ≤ 12 then (ins l a b).bind fun y1 => some y1 else if lim = 0 then (heap l a b).bind fun y => some y else if b8 = true then j0 l a b lim b8 b9 (IntKind.wrap .i64 (b - a)) else (brk l a b).bind fun y => j0 y a b (IntKind.wrap .i64 (lim - 1)) b8 b9 (IntKind.wrap .i64 (b - a)))
   (g0 : ∀ l a b lim b8 b9 n, j0 l a b lim b8 b9 n = (cho l a b).bind fun y1 => if y1.2 = 2 then (rev l a b).bind fun y15 => j1 y15 a b lim b8 b9 n (IntKind.wrap .i64 (IntKind.wrap .i64 (b - 1) - IntKind.wrap .i64 (y1.1 - a))) 1 else j1 l a b lim b8 b9 n y1.1 y1.2)
   (g1 : ∀ l a b lim b8 b9 n p h, j1 l a b lim b8 b9 n p h = if b8 = true then (if b9 = true then j3 l a b lim b8 b9 n p (h == 1) else j3 l a b lim b8 b9 n p false) else j3 l a b lim b8 b9 n p false)
   (g3 : ∀ l a b lim b8 b9 n p c, j3 l a b lim b8 b9 n p c = if c = true then (pi l a b).bind fun y1 => if y1.1 = true then some y1.2 else j2 y1.2 a b lim b8 b9 n p else j2 l a b lim b8 b9 n p)
   (g2 : ∀ l a b lim b8 b9 n p, j2 l a b lim b8 b9 n p = if a > 0 then (gi l (IntKind.wrap .i64 (a - 1))).bind fun y1 => (gi l p).bind fun y8 => (less y1 y8).bind fun c => j5 l a b lim b8 b9 n p (!c) else j5 l a b lim b8 b9 n p false)
   (g5 : ∀ l a b lim b8 b9 n p c, j5 l a b lim b8 b9 n p c = if c = true then (pe l a b p).bind fun y1 => l0 y1.2 y1.1 b lim b8 b9 else j4 l a b lim n p)
   (g4 : ∀ l a b lim n p, j4 l a b lim n p = (pt l a b p).bind fun y1 => if IntKind.wrap .i64 (y1.1 - a) < IntKind.wrap .i64 (b - y1.1) then (f y1.2.2 a y1.1 lim).bind fun y13 => l0 y13 (IntKind.wrap .i64 (y1.1 + 1)) b lim (decide (IntKind.wrap .i64 (y1.1 - a) ≥ IntKind.wrap .i64 (Int.tdiv n 8))) y1.2.1 else (f y1.2.2 (IntKind.wrap .i64 (y1.1 + 1)) b lim).bind fun y25 => l0 y25 a y1.1 lim (decide (IntKind.wrap .i64 (b - y1.1) ≥ IntKind.wrap .i64 (Int.tdiv n 8))) y1.2.1) :
   ∀ (n : Nat) (a b : Nat) (l : List α) (lim : Int) (b8 b9 : Bool), b ≤ a + n → a ≤ b → b ≤ l.length → l.length ≤ 1000000000000000000 → Pre a b l → ∃ r, Tch a b l r ∧ Srt a b r ∧ l0 l (a : Int) (b : Int) lim b8 b9 = some r := by
 intro n
 induction n with
 | zero =>
   intro a b l lim b8 b9 h1 h2 h3 h4 h5
   obtain ⟨r, t1, t2, t3⟩ := hins h3 h4 h2
   exact ⟨r, t1, t2, by rw [e0, if_pos (by rw [wrap_in (by omega) (by omega)]; omega), t3, Option.bind_some]⟩
 | succ n ih =>
   intro a b l lim b8 b9 h1 h2 h3 h4 h5
   rw [e0]
   by_cases c1 : b - a ≤ 12
   · obtain ⟨r, t1, t2, t3⟩ := hins h3 h4 h2
     exact ⟨r, t1, t2, by rw [if_pos (by rw [wrap_in (by omega) (by omega)]; omega), t3, Option.bind_some]⟩
   rw [if_neg (by rw [wrap_in (by omega) (by omega)]; omega)]
   by_cases c2 : lim = 0
   · obtain ⟨r, t1, t2, t3⟩ := hheap (show a < b by omega) h3 h4
     exact ⟨r, t1, t2, by rw [if_pos c2, t3, Option.bind_some]⟩
   rw [if_neg c2]
   -- j4
   have J4 : ∀ (x : List α) (lim : Int) (q : Nat) (y : Int), Tch a b l x → a ≤ q → q < b → ∃ r, Tch a b l r ∧ Srt a b r ∧ j4 x (a : Int) (b : Int) lim y (q : Int) = some r := by
     intro x lim q y T q1 q2
     have hx := T.len
     have hP := h5.tch T h2 h3
     obtain ⟨m, t, r, ⟨C1, C2, C3, C4⟩, p2⟩ := hpt q1 q2 (show b ≤ x.length by omega) (show x.length ≤ _ by omega)
     have hr := C1.len
     have hPr := hP.tch C1 h2 (by omega)
     rw [g4, p2, Option.bind_some]
     dsimp only
     rw [w_succ (k := m) (by omega), wrap_in (n := (m : Int) - (a : Int)) (by omega) (by omega), wrap_in (n := (b : Int) - (m : Int)) (by omega) (by omega)]
     have hml : m < r.length := by omega
     have PL : Pre a m r := fun i w1 w2 w3 w4 w5 => hPr i w1 w2 w3 w4 (by omega)
     have PR : Pre (m + 1) b r := fun i w1 w2 w3 w4 w5 => (C4 i hml w2).2 (by omega) w5
     -- what is put together
     have glue : ∀ u v : List α, Tch a m r u → Srt a m u → Tch (m + 1) b u v → Srt (m + 1) b v → Tch a b l v ∧ Srt a b v := by
       intro u v U1 U2 V1 V2
       have hu := U1.len
       have hv := V1.len
       refine ⟨(T.trans C1).trans ((U1.mono (Nat.le_refl _) (by omega)).trans (V1.mono (by omega) (Nat.le_refl _))), ?_⟩
       have S1 : Srt a m v := U2.keep V1 (.inl (by omega))
       have em : v[m]'(by omega) = r[m] := by
         rw [V1.at (i := m) (by omega) (.inl (by omega)), U1.at (i := m) hml (.inr (Nat.le_refl _))]
       have lo : ∀ i (hi : i < v.length), a ≤ i → i < m → v[i] ≤ r[m] := by
         intro i hi i1 i2
         rw [V1.at (i := i) (by omega) (.inl (by omega))]
         exact U1.all (P := fun z => z ≤ r[m]) C2 (by omega) (fun j hj j1 j2 => (C4 j hml hj).1 j1 j2) i (by omega) i1 i2
       have hi_ : ∀ i (hi : i < v.length), m < i → i < b → r[m] ≤ v[i] := by
         intro i hi i1 i2
         refine V1.all (P := fun z => r[m] ≤ z) (by omega) (by omega) (fun j hj j1 j2 => ?_) i hi (by omega) i2
         rw [U1.at (i := j) (by omega) (.inr (by omega))]
         exact (C4 j hml (by omega)).2 (by omega) j2
       intro i j hi hj k1 k2 k3
       by_cases w1 : j < m
       · exact S1 i j hi hj k1 k2 w1
       by_cases w2 : j = m
       · subst w2; rw [em]; exact lo i hi k1 k2
       by_cases w3 : i < m
       · exact od.tr (lo i hi k1 w3) (hi_ j hj (by omega) k3)
       by_cases w4 : i = m
       · subst w4; rw [em]; exact hi_ j hj k2 k3
       · exact V2 i j hi hj (by omega) k2 k3
     by_cases c : m - a < b - m
     · rw [if_pos (by omega)]
       obtain ⟨u, U1, U2, U3⟩ := ih a m r lim true true (by omega) C2 (by omega) (by omega) PL
       have hu := U1.len
       obtain ⟨v, V1, V2, V3⟩ := ih (m + 1) b u lim (decide ((m : Int) - (a : Int) ≥ IntKind.wrap .i64 (Int.tdiv y 8))) t (by omega) (by omega) (by omega) (by omega) (fun i w1 w2 w3 w4 w5 => by
         rw [U1.at (i := m + 1 - 1) (by omega) (.inr (by omega)), U1.at (i := i) (by omega) (.inr (by omega))]
         exact PR i _ _ w3 w4 w5)
       obtain ⟨R1, R2⟩ := glue u v U1 U2 V1 V2
       exact ⟨v, R1, R2, by rw [ef, U3, Option.bind_some, V3]⟩
     · rw [if_neg (by omega)]
       obtain ⟨v, V1, V2, V3⟩ := ih (m + 1) b r lim true true (by omega) (by omega) (by omega) (by omega) PR
       have hv := V1.len
       obtain ⟨u, U1, U2, U3⟩ := ih a m v lim (decide ((b : Int) - (m : Int) ≥ IntKind.wrap .i64 (Int.tdiv y 8))) t (by omega) C2 (by omega) (by omega) (fun i w1 w2 w3 w4 w5 => by
         rw [V1.at (i := a - 1) (by omega) (.inl (by omega)), V1.at (i := i) (by omega) (.inl (by omega))]
         exact PL i _ _ w3 w4 w5)
       have hu := U1.len
       refine ⟨u, (T.trans C1).trans ((V1.mono (by omega) (Nat.le_refl _)).trans (U1.mono (Nat.le_refl _) (by omega))), ?_, by rw [ef, V3, Option.bind_some, U3]⟩
       have S1 : Srt (m + 1) b u := V2.keep U1 (.inr (by omega))
       have em : u[m]'(by omega) = r[m] := by
         rw [U1.at (i := m) (by omega) (.inr (Nat.le_refl _)), V1.at (i := m) hml (.inl (by omega))]
       have lo : ∀ i (hi : i < u.length), a ≤ i → i < m → u[i] ≤ r[m] := by
         intro i hi i1 i2
         refine U1.all (P := fun z => z ≤ r[m]) C2 (by omega) (fun j hj j1 j2 => ?_) i hi i1 i2
         rw [V1.at (i := j) (by omega) (.inl (by omega))]
         exact (C4 j hml (by omega)).1 j1 j2
       have hi_ : ∀ i (hi : i < u.length), m < i → i < b → r[m] ≤ u[i] := by
         intro i hi i1 i2
         rw [U1.at (i := i) (by omega) (.inr (by omega))]
         exact V1.all (P := fun z => r[m] ≤ z) (by omega) (by omega) (fun j hj j1 j2 => (C4 j hml hj).2 (by omega) j2) i (by omega) (by omega) i2
       intro i j hi hj k1 k2 k3
       by_cases w1 : j < m
       · exact U2 i j hi hj k1 k2 w1
       by_cases w2 : j = m
       · subst w2; rw [em]; exact lo i hi k1 k2
       by_cases w3 : i < m
       · exact od.tr (lo i hi k1 w3) (hi_ j hj (by omega) k3)
       by_cases w4 : i = m
       · subst w4; rw [em]; exact hi_ j hj k2 k3
       · exact S1 i j hi hj (by omega) k2 k3
   have J2 : ∀ (x : List α) (lim : Int) (q : Nat) (y : Int), Tch a b l x → a ≤ q → q < b → ∃ r, Tch a b l r ∧ Srt a b r ∧ j2 x (a : Int) (b : Int) lim b8 b9 y (q : Int) = some r := by
     intro x lim q y T q1 q2
     have hx := T.len
     have hP := h5.tch T h2 h3
     rw [g2]
     by_cases ca : 0 < a
     · rw [if_pos (by omega), wrap_in (by omega) (by omega), show (a : Int) - 1 = ((a - 1 : Nat) : Int) by omega, gi_at (show a - 1 < x.length by omega), Option.bind_some, gi_at (show q < x.length by omega), Option.bind_some, hl, Option.bind_some, g5]
       by_cases cl : lt x[a - 1] x[q] = true
       · rw [if_neg (by simp [cl])]; exact J4 x lim q y T q1 q2
       · rw [if_pos (by simp [cl])]
         have ge := od.no (Bool.eq_false_iff.2 cl)
         obtain ⟨m, r, E1, E2, E3, E4, E6, E5⟩ := hpe q1 q2 (show b ≤ x.length by omega) (show x.length ≤ _ by omega)
         have hr := E1.len
         have har : a < r.length := by omega
         have ra : r[a] = x[q] := by rw [List.getElem?_eq_getElem har, List.getElem?_eq_getElem (show q < x.length by omega)] at E6; exact Option.some.inj E6
         rw [E5, Option.bind_some]
         dsimp only
         -- all of it is not less than the element at a
         have all : ∀ i (hi : i < r.length), a ≤ i → i < b → r[a] ≤ r[i] := fun i hi i1 i2 => by
           rw [ra]
           exact E1.all (P := fun z => x[q] ≤ z) h2 (by omega) (fun j hj j1 j2 => od.tr ge (hP j (by omega) hj ca j1 j2)) i hi i1 i2
         have low : ∀ i (hi : i < r.length), a ≤ i → i < m → r[i] ≤ r[a] := fun i hi i1 i2 => by
           by_cases c : i = a
           · subst c; exact od.rf _
           · exact (E4 i har hi).1 (by omega) i2
         obtain ⟨s, S1, S2, S3⟩ := ih m b r lim b8 b9 (by omega) E3 (by omega) (by omega) (fun i w1 w2 w3 w4 w5 => od.tr (low (m - 1) w1 (by omega) (by omega)) (all i w2 (by omega) w5))
         have hs := S1.len
         refine ⟨s, (T.trans E1).trans (S1.mono (by omega) (Nat.le_refl _)), ?_, S3⟩
         intro i j hi hj k1 k2 k3
         by_cases w1 : m ≤ i
         · exact S2 i j hi hj w1 k2 k3
         · rw [S1.at (i := i) (by omega) (.inl (by omega))]
           refine od.tr (low i (by omega) k1 (by omega)) ?_
           by_cases w2 : m ≤ j
           · exact S1.all (P := fun z => r[a] ≤ z) E3 (by omega) (fun j hj j1 j2 => all j hj (by omega) j2) j hj w2 k3
           · rw [S1.at (i := j) (by omega) (.inl (by omega))]; exact all j (by omega) (by omega) k3
     · rw [if_neg (by omega), g5, if_neg (by decide)]; exact J4 x lim q y T q1 q2
   have J3 : ∀ (x : List α) (lim : Int) (q : Nat) (y : Int) (c : Bool), Tch a b l x → a ≤ q → q < b → ∃ r, Tch a b l r ∧ Srt a b r ∧ j3 x (a : Int) (b : Int) lim b8 b9 y (q : Int) c = some r := by
     intro x lim q y c T q1 q2
     have hx := T.len
     rw [g3]
     by_cases cc : c = true
     · rw [if_pos cc]
       obtain ⟨t, r, R1, R2, R3⟩ := hpi (show a < b by omega) (show b ≤ x.length by omega) (show x.length ≤ _ by omega) (h5.tch T h2 h3)
       rw [R3, Option.bind_some]
       dsimp only
       by_cases ct : t = true
       · rw [if_pos ct]; exact ⟨r, T.trans R1, R2 ct, rfl⟩
       · rw [if_neg ct]; exact J2 r lim q y (T.trans R1) q1 q2
     · rw [if_neg cc]; exact J2 x lim q y T q1 q2
   have J1 : ∀ (x : List α) (lim : Int) (q : Nat) (y h : Int), Tch a b l x → a ≤ q → q < b → ∃ r, Tch a b l r ∧ Srt a b r ∧ j1 x (a : Int) (b : Int) lim b8 b9 y (q : Int) h = some r := by
     intro x lim q y h T q1 q2
     rw [g1]
     split
     · split
       · exact J3 x lim q y _ T q1 q2
       · exact J3 x lim q y _ T q1 q2
     · exact J3 x lim q y _ T q1 q2
   have J0 : ∀ (x : List α) (lim : Int) (y : Int), Tch a b l x → ∃ r, Tch a b l r ∧ Srt a b r ∧ j0 x (a : Int) (b : Int) lim b8 b9 y = some r := by
     intro x lim y T
     have hx := T.len
     obtain ⟨u, w, c5, ⟨q, rfl, q1, q2⟩⟩ := hcho (show a + 12 < b by omega) (show b ≤ x.length by omega) (show x.length ≤ _ by omega)
     rw [g0, c5, Option.bind_some]
     dsimp only
     split
     · obtain ⟨r, R1, R2⟩ := hrev (show a + 12 < b by omega) (show b ≤ x.length by omega) (show x.length ≤ _ by omega)
       rw [R2, Option.bind_some, wrap_in (n := (b : Int) - 1) (by omega) (by omega), wrap_in (n := (q : Int) - (a : Int)) (by omega) (by omega), wrap_in (by omega) (by omega), show (b : Int) - 1 - ((q : Int) - (a : Int)) = ((b - 1 - (q - a) : Nat) : Int) by omega]
       exact J1 r lim _ y 1 (T.trans R1) (by omega) (by omega)
     · exact J1 x lim q y w T q1 q2
   split
   · exact J0 l lim _ .refl
   · obtain ⟨r, R1, R2⟩ := hbrk (show a + 12 < b by omega) h3 h4
     rw [R2, Option.bind_some]
     exact J0 r _ _ R1
end
theorem bl_asym : ∀ {a b : List UInt8}, Op.bytesLess a b = true → Op.bytesLess b a = false
 | _, [], h => by unfold Op.bytesLess at h; cases h
 | [], y :: b, _ => by unfold Op.bytesLess; rfl
 | x :: a, y :: b, h => by
   unfold Op.bytesLess at h ⊢
   simp only [Bool.or_eq_true, Bool.and_eq_true, decide_eq_true_eq, beq_iff_eq] at h
   rcases h with h | ⟨rfl, h⟩
   · have h1 : ¬ y < x := UInt8.not_lt.2 (UInt8.le_of_lt h)
     have h2 : y ≠ x := fun e => by subst e; exact UInt8.lt_irrefl _ h
     simp [h1, h2]
   · have h1 : ¬ x < x := UInt8.lt_irrefl x
     simp [h1, bl_asym h]
theorem bl_anti : ∀ {a b : List UInt8}, Op.bytesLess a b = false → Op.bytesLess b a = false → a = b
 | [], [], _, _ => rfl
 | [], y :: b, h, _ => by unfold Op.bytesLess at h; cases h
 | x :: a, [], _, h => by unfold Op.bytesLess at h; cases h
 | x :: a, y :: b, h, k => by
   unfold Op.bytesLess at h k
   simp only [Bool.or_eq_false_iff, decide_eq_false_iff_not] at h k
   have e : x = y := UInt8.le_antisymm (UInt8.not_lt.1 k.1) (UInt8.not_lt.1 h.1)
   subst e
   have h2 := h.2; have k2 := k.2
   simp only [BEq.rfl, Bool.true_and] at h2 k2
   rw [bl_anti h2 k2]
theorem bl_tr : ∀ {a b c : List UInt8}, Op.bytesLess b a = false → Op.bytesLess c b = false → Op.bytesLess c a = false
 | [], _, _, _, _ => by unfold Op.bytesLess; rfl
 | x :: a, [], _, h, _ => by unfold Op.bytesLess at h; cases h
 | x :: a, y :: b, [], _, k => by unfold Op.bytesLess at k; cases k
 | x :: a, y :: b, z :: c, h, k => by
   unfold Op.bytesLess at h k ⊢
   simp only [Bool.or_eq_false_iff, decide_eq_false_iff_not] at h k ⊢
   have h1 := UInt8.not_lt.1 h.1
   have k1 := UInt8.not_lt.1 k.1
   refine ⟨UInt8.not_lt.2 (UInt8.le_trans h1 k1), ?_⟩
   by_cases e : z = x
   · subst e
     have e2 : z = y := UInt8.le_antisymm h1 k1
     subst e2
     have h2 := h.2; have k2 := k.2
     simp only [BEq.rfl, Bool.true_and] at h2 k2 ⊢
     exact bl_tr h2 k2
   · simp [e]
instance leBA : LE ByteArray := ⟨fun x y => Op.bytesLess y.toList x.toList = false⟩
theorem ord3_str : Ord3 (fun x y : ByteArray => Op.bytesLess x.toList y.toList) where
 no h := h
 yes h := bl_asym h
 tr h k := bl_tr h k
 nn h := h
theorem ba_anti (x y : ByteArray) (h : x ≤ y) (k : y ≤ x) : x = y := ba_toList (bl_anti k h)
end Go.Hw

end
section
set_option linter.unusedVariables false
namespace Go.Hw
open Go
end Go.Hw

end
section
set_option linter.unusedVariables false
namespace Go.Hw
open Go
def ascii (s : ByteArray) : Bool := s.data.toList.all fun b => decide (b.toNat < 128)
theorem ascii_at {s : ByteArray} (h : ascii s = true) : ∀ (j : Nat) b, s.data.toList[j]? = some b → b.toNat < 128 := fun j b hb => by
 unfold ascii at h
 rw [List.all_eq_true] at h
 exact of_decide_eq_true (h b (List.mem_of_getElem? hb))
def trimB (s c : ByteArray) : ByteArray := ⟨(Lib.trimS s.data.toList c.data.toList).toArray⟩
def ibyteB (s : ByteArray) (c : Int) : Int := Lib.indexByte s.data.toList c.toNat.toUInt8
def cmpB (a b : ByteArray) : Int := Lib.compareBytes a.data.toList b.data.toList
theorem cmp_ext {P : Program} {k : Nat} {W : Foot} {h m : Heap} {a b : ByteArray} {r : Int} {fn : Func} (O : Hold W h m h m [])
   (x1 : P.funcs[k]? = some fn) (x2 : (fn.name == "runtime.NumGoroutine") = false) (x3 : fn.body.isNone = true) (x4 : Extern.findNext fn = none) (x5 : Extern.find fn = some Extern.BytealgCompare.compare)
   (e : some (cmpB a b) = some r) : ExtF P k #[Value.string a, Value.string b] h fun v h' => ∃ m', Hold W h m h' m' [] ∧ v = Value.int .i64 r := by
 cases e
 refine ⟨fn, _, x1, x2, x3, x4, x5, ?_⟩
 show ∃ m', Hold W h m h m' [] ∧ goInt (Extern.BytealgCompare.cmp a b) = Value.int .i64 _
 rw [Lib.cmp_eq]
 exact ⟨m, O, rfl⟩
theorem ibyte_ext {P : Program} {k : Nat} {W : Foot} {h m : Heap} {s : ByteArray} {x r : Int} {fn : Func} (O : Hold W h m h m [])
   (x1 : P.funcs[k]? = some fn) (x2 : (fn.name == "runtime.NumGoroutine") = false) (x3 : fn.body.isNone = true) (x4 : Extern.findNext fn = none) (x5 : Extern.find fn = some Extern.BytealgIndexByte.indexByte)
   (e : some (ibyteB s x) = some r) : ExtF P k #[Value.string s, Value.int .u8 x] h fun v h' => ∃ m', Hold W h m h' m' [] ∧ v = Value.int .i64 r := by
 cases e
 refine ⟨fn, _, x1, x2, x3, x4, x5, ?_⟩
 have e : ibyteB s x = firstIdx s x.toNat.toUInt8 := (Lib.firstIdx_eq s _).symm
 rw [e]
 unfold firstIdx
 show Hwp P (match (List.range s.size).find? fun i => s[i]! == x.toNat.toUInt8 with | some i => Pure.pure (goInt i) | none => Pure.pure (goInt (-1))) h _
 cases (List.range s.size).find? fun i => s[i]! == x.toNat.toUInt8 <;> exact ⟨m, O, rfl⟩
theorem trim_run {P : Program} {k : Nat} {W : Foot} {h m : Heap} {s t r : ByteArray}
   (c : ∀ (s t : ByteArray) (w : World) (_ : s.size ≤ 9223372036854775807) (_ : t.size < 4294967281) (_ : ∀ (j : Nat) b, t.data.toList[j]? = some b → b.toNat < 128), Calls P k #[.string s, .string t] w fun e w' => e = .returned (.string ⟨(Lib.trimS s.data.toList t.data.toList).toArray⟩) ∧ Go.RowKit.Below w.heap.size w w')
   (O : Hold W h m h m []) (e : (if s.size ≤ 9223372036854775807 ∧ t.size < 4294967281 ∧ ascii t = true then some (trimB s t) else none) = some r) : Run P k #[Value.string s, Value.string t] h fun v h' => ∃ m', Hold W h m h' m' [] ∧ v = .string r := by
 obtain ⟨g1, e⟩ := guard_e e
 cases e
 intro w hw
 subst hw
 refine (c s t w g1.1 g1.2.1 (ascii_at g1.2.2)).mono fun e w' he => ?_
 obtain ⟨rfl, b⟩ := he
 exact ⟨_, rfl, ⟨m, O.ext ⟨b.size, b.block⟩, rfl⟩, ⟨b.tape, b.os, b.output⟩⟩
end Go.Hw

end
section
namespace Go.Proofs
open Go.Shelf
def Tryd.lays160_ren : Go.Shelf.Ren := ⟨fun | 160 => 32 | 232 => 42 | 231 => 41 | 227 => 43 | 234 => 45 | 233 => 44 | 236 => 47 | 235 => 46 | 228 => 54 | 271 => 57 | 151 => 56 | 197 => 55 | 120 => 67 | 152 => 66 | 260 => 65 | 137 => 81 | 119 => 82 | 224 => 60 | 225 => 59 | 217 => 58 | 266 => 68 | n => n, fun | 9 => 9 | 4 => 4 | 3 => 3 | 5 => 5 | 117 => 83 | 116 => 82 | 0 => 0 | 124 => 86 | 21 => 21 | 105 => 89 | 46 => 55 | 119 => 111 | 139 => 114 | 138 => 113 | n => n, fun | 3 => 1 | 4 => 2 | n => n⟩
theorem Tryd.lays160 : Go.Proofs.Lays.n160 Tryd.prog Tryd.lays160_ren := {
 mixed := by kernel_rfl
 f119 := Tryd.func82.trans (congrArg some (by kernel_rfl))
 f120 := Tryd.func67.trans (congrArg some (by kernel_rfl))
 f137 := Tryd.func81.trans (congrArg some (by kernel_rfl))
 f151 := Tryd.func56.trans (congrArg some (by kernel_rfl))
 f152 := Tryd.func66.trans (congrArg some (by kernel_rfl))
 f160 := Tryd.func32.trans (congrArg some (by kernel_rfl))
 f197 := Tryd.func55.trans (congrArg some (by kernel_rfl))
 f217 := Tryd.func58.trans (congrArg some (by kernel_rfl))
 f224 := Tryd.func60.trans (congrArg some (by kernel_rfl))
 f225 := Tryd.func59.trans (congrArg some (by kernel_rfl))
 f227 := Tryd.func43.trans (congrArg some (by kernel_rfl))
 f228 := Tryd.func54.trans (congrArg some (by kernel_rfl))
 f231 := Tryd.func41.trans (congrArg some (by kernel_rfl))
 f232 := Tryd.func42.trans (congrArg some (by kernel_rfl))
 f233 := Tryd.func44.trans (congrArg some (by kernel_rfl))
 f234 := Tryd.func45.trans (congrArg some (by kernel_rfl))
 f235 := Tryd.func46.trans (congrArg some (by kernel_rfl))
 f236 := Tryd.func47.trans (congrArg some (by kernel_rfl))
 f260 := Tryd.func65.trans (congrArg some (by kernel_rfl))
 f266 := Tryd.func68.trans (congrArg some (by kernel_rfl))
 f271 := Tryd.func57.trans (congrArg some (by kernel_rfl))
 t0 := Tryd.underlying0
 a0 := Tryd.isAgg0
 z0 := Tryd.sizeOf0
 v0 := Tryd.zeroValue0
 t3 := Tryd.underlying3
 a3 := Tryd.isAgg3
 z3 := Tryd.sizeOf3
 v3 := Tryd.zeroValue3
 t4 := Tryd.underlying4
 a4 := Tryd.isAgg4
 z4 := Tryd.sizeOf4
 v4 := Tryd.zeroValue4
 t5 := Tryd.underlying5
 a5 := Tryd.isAgg5
 z5 := Tryd.sizeOf5
 v5 := Tryd.zeroValue5
 t9 := Tryd.underlying9
 a9 := Tryd.isAgg9
 z9 := Tryd.sizeOf9
 v9 := Tryd.zeroValue9
 t21 := Tryd.underlying21
 a21 := Tryd.isAgg21
 z21 := Tryd.sizeOf21
 v21 := Tryd.zeroValue21
 t46 := Tryd.underlying55
 a46 := Tryd.isAgg55
 z46 := Tryd.sizeOf55
 v46 := Tryd.zeroValue55
 t105 := Tryd.underlying89
 a105 := Tryd.isAgg89
 z105 := Tryd.sizeOf89
 v105 := Tryd.zeroValue89
 t116 := Tryd.underlying82
 a116 := Tryd.isAgg82
 z116 := Tryd.sizeOf82
 t117 := Tryd.underlying83
 a117 := Tryd.isAgg83
 z117 := Tryd.sizeOf83
 v117 := Tryd.zeroValue83
 t119 := Tryd.underlying111
 a119 := Tryd.isAgg111
 z119 := Tryd.sizeOf111
 t124 := Tryd.underlying86
 a124 := Tryd.isAgg86
 z124 := Tryd.sizeOf86
 v124 := Tryd.zeroValue86
 t138 := Tryd.underlying113
 a138 := Tryd.isAgg113
 z138 := Tryd.sizeOf113
 v138 := Tryd.zeroValue113
 t139 := Tryd.underlying114
 a139 := Tryd.isAgg114
 z139 := Tryd.sizeOf114
 v139 := Tryd.zeroValue114
 g3 := by kernel_rfl
 g4 := by kernel_rfl }
theorem Tryd.strings_Trim (s t : ByteArray) (w : World) (hs : s.size ≤ 9223372036854775807) (ht : t.size < 4294967281) (ha : ∀ (j : Nat) b, t.data.toList[j]? = some b → b.toNat < 128) :
   Calls Tryd.prog 32 #[.string s, .string t] w fun e w' => e = .returned (.string ⟨(Lib.trimS s.data.toList t.data.toList).toArray⟩) ∧ Go.RowKit.Below w.heap.size w w' := Any.strings_Trim_laid Tryd.lays160 (by kernel_rfl) s t w hs ht ha
end Go.Proofs

end
