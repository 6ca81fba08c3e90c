/- Part 5: what the law NamesPlay needs, put together out of texts of this session. -/
import Derived.Test.YtaiehkhjmplodaaDoorZNamesPlayd
section
namespace Go.Proofs.YtaiehkhjmplodaaDoor.Fw
open Go Go.Hw Go.Proofs
set_option linter.unusedVariables false
set_option maxRecDepth 100000
set_option synthInstance.maxHeartbeats 400000
set_option synthInstance.maxSize 1000
def sq75.post (W : Nat → Prop) (Asl0 : Option Addr) (nsl0 csl0 : Nat) (h0 m0 : Heap) (r : Bool × (List ByteArray)) (v : Value) (h : Heap) : Prop := ∃ m , Hold W h0 m0 h m [rR (aE tell_str) Asl0 csl0 r.2] ∧ v = .bool r.1 ∧ nsl0 = List.length r.2
inductive sq75.l0_k.Pt where
 | l0 (a_0 : List ByteArray) (x_1 : Int) (x_2 : Int) (x_7 : Int) (x_8 : Int)
 | l1 (a_0 : List ByteArray) (x_1 : Int) (x_2 : Int) (x_7 : Int) (x_8 : Int)
 | j2 (a_0 : List ByteArray) (x_1 : Int) (x_2 : Int) (x_7 : Int) (x_8 : Int)
 | j1 (a_0 : List ByteArray) (x_1 : Int) (x_2 : Int) (x_7 : Int) (x_8 : Int)
 | l2 (a_0 : List ByteArray) (x_1 : Int) (x_2 : Int) (x_7 : Int) (x_8 : Int) (x_9 : Int)
 | j3 (a_0 : List ByteArray) (x_1 : Int) (x_2 : Int) (x_7 : Int) (x_8 : Int)
 | l3 (a_0 : List ByteArray) (x_1 : Int) (x_2 : Int) (x_7 : Int) (x_8 : Int) (x_10 : Int)
 | j0 (a_0 : List ByteArray) (x_1 : Int) (x_2 : Int) (x_7 : Int) (x_8 : Int)
noncomputable def sq75.l0_k.body (go : (p : sq75.l0_k.Pt) → Option (Bool × (List ByteArray))) : (p : sq75.l0_k.Pt) → Option (Bool × (List ByteArray))
 | .l0 a_0 x_1 x_2 x_7 x_8 => if x_8 < (5 : Int) then ((go (.l1 a_0 x_1 x_2 x_7 x_8))) else (some (false, a_0))
 | .l1 a_0 x_1 x_2 x_7 x_8 => if x_7 < x_2 then (Option.bind (gi a_0 x_7) fun y1 => Option.bind (gi a_0 (IntKind.wrap .i64 (x_7 - (1 : Int)))) fun y8 => Option.bind (cmp_Less_76 y1 y8) fun y15 => if y15 = true then ((go (.j1 a_0 x_1 x_2 x_7 x_8))) else ((go (.j2 a_0 x_1 x_2 x_7 x_8)))) else ((go (.j1 a_0 x_1 x_2 x_7 x_8)))
 | .j2 a_0 x_1 x_2 x_7 x_8 => (go (.l1 a_0 x_1 x_2 (IntKind.wrap .i64 (x_7 + (1 : Int))) x_8))
 | .j1 a_0 x_1 x_2 x_7 x_8 => if x_7 = x_2 then (some (true, a_0)) else (if (IntKind.wrap .i64 (x_2 - x_1)) < (50 : Int) then (some (false, a_0)) else (Option.bind (gi a_0 (IntKind.wrap .i64 (x_7 - (1 : Int)))) fun y1 => Option.bind (gi a_0 x_7) fun y8 => Option.bind (gi a_0 x_7) fun y15 => Option.bind (some (List.set a_0 (Int.toNat x_7) y1)) fun l24 => Option.bind (gi l24 (IntKind.wrap .i64 (x_7 - (1 : Int)))) fun y26 => Option.bind (some (List.set l24 (Int.toNat (IntKind.wrap .i64 (x_7 - (1 : Int)))) y8)) fun l35 => if (IntKind.wrap .i64 (x_7 - x_1)) ≥ (2 : Int) then ((go (.l2 l35 x_1 x_2 x_7 x_8 (IntKind.wrap .i64 (x_7 - (1 : Int)))))) else ((go (.j3 l35 x_1 x_2 x_7 x_8)))))
 | .l2 a_0 x_1 x_2 x_7 x_8 x_9 => if x_9 ≥ (1 : Int) then (Option.bind (gi a_0 x_9) fun y1 => Option.bind (gi a_0 (IntKind.wrap .i64 (x_9 - (1 : Int)))) fun y8 => Option.bind (cmp_Less_76 y1 y8) fun y15 => if y15 = true then (Option.bind (gi a_0 (IntKind.wrap .i64 (x_9 - (1 : Int)))) fun y22 => Option.bind (gi a_0 x_9) fun y29 => Option.bind (gi a_0 x_9) fun y36 => Option.bind (some (List.set a_0 (Int.toNat x_9) y22)) fun l45 => Option.bind (gi l45 (IntKind.wrap .i64 (x_9 - (1 : Int)))) fun y47 => Option.bind (some (List.set l45 (Int.toNat (IntKind.wrap .i64 (x_9 - (1 : Int)))) y29)) fun l56 => (go (.l2 l56 x_1 x_2 x_7 x_8 (IntKind.wrap .i64 (x_9 - (1 : Int)))))) else ((go (.j3 a_0 x_1 x_2 x_7 x_8)))) else ((go (.j3 a_0 x_1 x_2 x_7 x_8)))
 | .j3 a_0 x_1 x_2 x_7 x_8 => if (IntKind.wrap .i64 (x_2 - x_7)) ≥ (2 : Int) then ((go (.l3 a_0 x_1 x_2 x_7 x_8 (IntKind.wrap .i64 (x_7 + (1 : Int)))))) else ((go (.j0 a_0 x_1 x_2 x_7 x_8)))
 | .l3 a_0 x_1 x_2 x_7 x_8 x_10 => if x_10 < x_2 then (Option.bind (gi a_0 x_10) fun y1 => Option.bind (gi a_0 (IntKind.wrap .i64 (x_10 - (1 : Int)))) fun y8 => Option.bind (cmp_Less_76 y1 y8) fun y15 => if y15 = true then (Option.bind (gi a_0 (IntKind.wrap .i64 (x_10 - (1 : Int)))) fun y22 => Option.bind (gi a_0 x_10) fun y29 => Option.bind (gi a_0 x_10) fun y36 => Option.bind (some (List.set a_0 (Int.toNat x_10) y22)) fun l45 => Option.bind (gi l45 (IntKind.wrap .i64 (x_10 - (1 : Int)))) fun y47 => Option.bind (some (List.set l45 (Int.toNat (IntKind.wrap .i64 (x_10 - (1 : Int)))) y29)) fun l56 => (go (.l3 l56 x_1 x_2 x_7 x_8 (IntKind.wrap .i64 (x_10 + (1 : Int)))))) else ((go (.j0 a_0 x_1 x_2 x_7 x_8)))) else ((go (.j0 a_0 x_1 x_2 x_7 x_8)))
 | .j0 a_0 x_1 x_2 x_7 x_8 => (go (.l0 a_0 x_1 x_2 x_7 (IntKind.wrap .i64 (x_8 + (1 : Int)))))
attribute [local irreducible] cmp_Less_76 in
theorem sq75.l0_k.mono : MonoF (β := fun _ => (Bool × (List ByteArray))) sq75.l0_k.body := fun f g hfg p => match p with
 | .l0 a_0 x_1 x_2 x_7 x_8 => LeO.ite ((hfg _)) (LeO.refl _)
 | .l1 a_0 x_1 x_2 x_7 x_8 => LeO.ite (LeO.bind (LeO.refl _) fun y1 => LeO.bind (LeO.refl _) fun y8 => LeO.bind (LeO.refl _) fun y15 => LeO.ite ((hfg _)) ((hfg _))) ((hfg _))
 | .j2 a_0 x_1 x_2 x_7 x_8 => (hfg _)
 | .j1 a_0 x_1 x_2 x_7 x_8 => LeO.ite (LeO.refl _) (LeO.ite (LeO.refl _) (LeO.bind (LeO.refl _) fun y1 => LeO.bind (LeO.refl _) fun y8 => LeO.bind (LeO.refl _) fun y15 => LeO.bind (LeO.refl _) fun l24 => LeO.bind (LeO.refl _) fun y26 => LeO.bind (LeO.refl _) fun l35 => LeO.ite ((hfg _)) ((hfg _))))
 | .l2 a_0 x_1 x_2 x_7 x_8 x_9 => LeO.ite (LeO.bind (LeO.refl _) fun y1 => LeO.bind (LeO.refl _) fun y8 => LeO.bind (LeO.refl _) fun y15 => LeO.ite (LeO.bind (LeO.refl _) fun y22 => LeO.bind (LeO.refl _) fun y29 => LeO.bind (LeO.refl _) fun y36 => LeO.bind (LeO.refl _) fun l45 => LeO.bind (LeO.refl _) fun y47 => LeO.bind (LeO.refl _) fun l56 => (hfg _)) ((hfg _))) ((hfg _))
 | .j3 a_0 x_1 x_2 x_7 x_8 => LeO.ite ((hfg _)) ((hfg _))
 | .l3 a_0 x_1 x_2 x_7 x_8 x_10 => LeO.ite (LeO.bind (LeO.refl _) fun y1 => LeO.bind (LeO.refl _) fun y8 => LeO.bind (LeO.refl _) fun y15 => LeO.ite (LeO.bind (LeO.refl _) fun y22 => LeO.bind (LeO.refl _) fun y29 => LeO.bind (LeO.refl _) fun y36 => LeO.bind (LeO.refl _) fun l45 => LeO.bind (LeO.refl _) fun y47 => LeO.bind (LeO.refl _) fun l56 => (hfg _)) ((hfg _))) ((hfg _))
 | .j0 a_0 x_1 x_2 x_7 x_8 => (hfg _)
noncomputable def sq75.l0_k.go (p : sq75.l0_k.Pt) : Option (Bool × (List ByteArray)) := fixF (β := fun _ => (Bool × (List ByteArray))) sq75.l0_k.body p
noncomputable def sq75.l0 (a_0 x_1 x_2 x_7 x_8) := sq75.l0_k.go (.l0 a_0 x_1 x_2 x_7 x_8)
noncomputable def sq75.l1 (a_0 x_1 x_2 x_7 x_8) := sq75.l0_k.go (.l1 a_0 x_1 x_2 x_7 x_8)
noncomputable def sq75.j2 (a_0 x_1 x_2 x_7 x_8) := sq75.l0_k.go (.j2 a_0 x_1 x_2 x_7 x_8)
noncomputable def sq75.j1 (a_0 x_1 x_2 x_7 x_8) := sq75.l0_k.go (.j1 a_0 x_1 x_2 x_7 x_8)
noncomputable def sq75.l2 (a_0 x_1 x_2 x_7 x_8 x_9) := sq75.l0_k.go (.l2 a_0 x_1 x_2 x_7 x_8 x_9)
noncomputable def sq75.j3 (a_0 x_1 x_2 x_7 x_8) := sq75.l0_k.go (.j3 a_0 x_1 x_2 x_7 x_8)
noncomputable def sq75.l3 (a_0 x_1 x_2 x_7 x_8 x_10) := sq75.l0_k.go (.l3 a_0 x_1 x_2 x_7 x_8 x_10)
noncomputable def sq75.j0 (a_0 x_1 x_2 x_7 x_8) := sq75.l0_k.go (.j0 a_0 x_1 x_2 x_7 x_8)
theorem sq75.l0_eq (a_0 x_1 x_2 x_7 x_8) : sq75.l0 a_0 x_1 x_2 x_7 x_8 = if x_8 < (5 : Int) then ((sq75.l1 a_0 x_1 x_2 x_7 x_8)) else (some (false, a_0)) := fixF_eq sq75.l0_k.mono _
theorem sq75.l1_eq (a_0 x_1 x_2 x_7 x_8) : sq75.l1 a_0 x_1 x_2 x_7 x_8 = if x_7 < x_2 then (Option.bind (gi a_0 x_7) fun y1 => Option.bind (gi a_0 (IntKind.wrap .i64 (x_7 - (1 : Int)))) fun y8 => Option.bind (cmp_Less_76 y1 y8) fun y15 => if y15 = true then ((sq75.j1 a_0 x_1 x_2 x_7 x_8)) else ((sq75.j2 a_0 x_1 x_2 x_7 x_8))) else ((sq75.j1 a_0 x_1 x_2 x_7 x_8)) := fixF_eq sq75.l0_k.mono _
theorem sq75.j2_eq (a_0 x_1 x_2 x_7 x_8) : sq75.j2 a_0 x_1 x_2 x_7 x_8 = (sq75.l1 a_0 x_1 x_2 (IntKind.wrap .i64 (x_7 + (1 : Int))) x_8) := fixF_eq sq75.l0_k.mono _
theorem sq75.j1_eq (a_0 x_1 x_2 x_7 x_8) : sq75.j1 a_0 x_1 x_2 x_7 x_8 = if x_7 = x_2 then (some (true, a_0)) else (if (IntKind.wrap .i64 (x_2 - x_1)) < (50 : Int) then (some (false, a_0)) else (Option.bind (gi a_0 (IntKind.wrap .i64 (x_7 - (1 : Int)))) fun y1 => Option.bind (gi a_0 x_7) fun y8 => Option.bind (gi a_0 x_7) fun y15 => Option.bind (some (List.set a_0 (Int.toNat x_7) y1)) fun l24 => Option.bind (gi l24 (IntKind.wrap .i64 (x_7 - (1 : Int)))) fun y26 => Option.bind (some (List.set l24 (Int.toNat (IntKind.wrap .i64 (x_7 - (1 : Int)))) y8)) fun l35 => if (IntKind.wrap .i64 (x_7 - x_1)) ≥ (2 : Int) then ((sq75.l2 l35 x_1 x_2 x_7 x_8 (IntKind.wrap .i64 (x_7 - (1 : Int))))) else ((sq75.j3 l35 x_1 x_2 x_7 x_8)))) := fixF_eq sq75.l0_k.mono _
theorem sq75.l2_eq (a_0 x_1 x_2 x_7 x_8 x_9) : sq75.l2 a_0 x_1 x_2 x_7 x_8 x_9 = if x_9 ≥ (1 : Int) then (Option.bind (gi a_0 x_9) fun y1 => Option.bind (gi a_0 (IntKind.wrap .i64 (x_9 - (1 : Int)))) fun y8 => Option.bind (cmp_Less_76 y1 y8) fun y15 => if y15 = true then (Option.bind (gi a_0 (IntKind.wrap .i64 (x_9 - (1 : Int)))) fun y22 => Option.bind (gi a_0 x_9) fun y29 => Option.bind (gi a_0 x_9) fun y36 => Option.bind (some (List.set a_0 (Int.toNat x_9) y22)) fun l45 => Option.bind (gi l45 (IntKind.wrap .i64 (x_9 - (1 : Int)))) fun y47 => Option.bind (some (List.set l45 (Int.toNat (IntKind.wrap .i64 (x_9 - (1 : Int)))) y29)) fun l56 => (sq75.l2 l56 x_1 x_2 x_7 x_8 (IntKind.wrap .i64 (x_9 - (1 : Int))))) else ((sq75.j3 a_0 x_1 x_2 x_7 x_8))) else ((sq75.j3 a_0 x_1 x_2 x_7 x_8)) := fixF_eq sq75.l0_k.mono _
theorem sq75.j3_eq (a_0 x_1 x_2 x_7 x_8) : sq75.j3 a_0 x_1 x_2 x_7 x_8 = if (IntKind.wrap .i64 (x_2 - x_7)) ≥ (2 : Int) then ((sq75.l3 a_0 x_1 x_2 x_7 x_8 (IntKind.wrap .i64 (x_7 + (1 : Int))))) else ((sq75.j0 a_0 x_1 x_2 x_7 x_8)) := fixF_eq sq75.l0_k.mono _
theorem sq75.l3_eq (a_0 x_1 x_2 x_7 x_8 x_10) : sq75.l3 a_0 x_1 x_2 x_7 x_8 x_10 = if x_10 < x_2 then (Option.bind (gi a_0 x_10) fun y1 => Option.bind (gi a_0 (IntKind.wrap .i64 (x_10 - (1 : Int)))) fun y8 => Option.bind (cmp_Less_76 y1 y8) fun y15 => if y15 = true then (Option.bind (gi a_0 (IntKind.wrap .i64 (x_10 - (1 : Int)))) fun y22 => Option.bind (gi a_0 x_10) fun y29 => Option.bind (gi a_0 x_10) fun y36 => Option.bind (some (List.set a_0 (Int.toNat x_10) y22)) fun l45 => Option.bind (gi l45 (IntKind.wrap .i64 (x_10 - (1 : Int)))) fun y47 => Option.bind (some (List.set l45 (Int.toNat (IntKind.wrap .i64 (x_10 - (1 : Int)))) y29)) fun l56 => (sq75.l3 l56 x_1 x_2 x_7 x_8 (IntKind.wrap .i64 (x_10 + (1 : Int))))) else ((sq75.j0 a_0 x_1 x_2 x_7 x_8))) else ((sq75.j0 a_0 x_1 x_2 x_7 x_8)) := fixF_eq sq75.l0_k.mono _
theorem sq75.j0_eq (a_0 x_1 x_2 x_7 x_8) : sq75.j0 a_0 x_1 x_2 x_7 x_8 = (sq75.l0 a_0 x_1 x_2 x_7 (IntKind.wrap .i64 (x_8 + (1 : Int)))) := fixF_eq sq75.l0_k.mono _
def sq75.l0_k.I : (p : sq75.l0_k.Pt) → (Bool × (List ByteArray)) → Prop
 | .l0 a_0 x_1 x_2 x_7 x_8, r => ∀ {W h0 m0 h m A_0 n_0 c_0} (O : Hold W h0 m0 h m [rR (aE tell_str) A_0 c_0 a_0]) (ne_0 : n_0 = List.length a_0), f75.l0 (sq75.post W A_0 n_0 c_0 h0 m0 r) A_0 n_0 c_0 x_1 x_2 x_7 x_8 h
 | .l1 a_0 x_1 x_2 x_7 x_8, r => ∀ {W h0 m0 h m A_0 n_0 c_0} (O : Hold W h0 m0 h m [rR (aE tell_str) A_0 c_0 a_0]) (ne_0 : n_0 = List.length a_0), f75.l1 (sq75.post W A_0 n_0 c_0 h0 m0 r) A_0 n_0 c_0 x_1 x_2 x_7 x_8 h
 | .j2 a_0 x_1 x_2 x_7 x_8, r => ∀ {W h0 m0 h m A_0 n_0 c_0} (O : Hold W h0 m0 h m [rR (aE tell_str) A_0 c_0 a_0]) (ne_0 : n_0 = List.length a_0), f75.j2 (sq75.post W A_0 n_0 c_0 h0 m0 r) A_0 n_0 c_0 x_1 x_2 x_7 x_8 h
 | .j1 a_0 x_1 x_2 x_7 x_8, r => ∀ {W h0 m0 h m A_0 n_0 c_0} (O : Hold W h0 m0 h m [rR (aE tell_str) A_0 c_0 a_0]) (ne_0 : n_0 = List.length a_0), f75.j1 (sq75.post W A_0 n_0 c_0 h0 m0 r) A_0 n_0 c_0 x_1 x_2 x_7 x_8 h
 | .l2 a_0 x_1 x_2 x_7 x_8 x_9, r => ∀ {W h0 m0 h m A_0 n_0 c_0} (O : Hold W h0 m0 h m [rR (aE tell_str) A_0 c_0 a_0]) (ne_0 : n_0 = List.length a_0), f75.l2 (sq75.post W A_0 n_0 c_0 h0 m0 r) A_0 n_0 c_0 x_1 x_2 x_7 x_8 x_9 h
 | .j3 a_0 x_1 x_2 x_7 x_8, r => ∀ {W h0 m0 h m A_0 n_0 c_0} (O : Hold W h0 m0 h m [rR (aE tell_str) A_0 c_0 a_0]) (ne_0 : n_0 = List.length a_0), f75.j3 (sq75.post W A_0 n_0 c_0 h0 m0 r) A_0 n_0 c_0 x_1 x_2 x_7 x_8 h
 | .l3 a_0 x_1 x_2 x_7 x_8 x_10, r => ∀ {W h0 m0 h m A_0 n_0 c_0} (O : Hold W h0 m0 h m [rR (aE tell_str) A_0 c_0 a_0]) (ne_0 : n_0 = List.length a_0), f75.l3 (sq75.post W A_0 n_0 c_0 h0 m0 r) A_0 n_0 c_0 x_1 x_2 x_7 x_8 x_10 h
 | .j0 a_0 x_1 x_2 x_7 x_8, r => ∀ {W h0 m0 h m A_0 n_0 c_0} (O : Hold W h0 m0 h m [rR (aE tell_str) A_0 c_0 a_0]) (ne_0 : n_0 = List.length a_0), f75.j0 (sq75.post W A_0 n_0 c_0 h0 m0 r) A_0 n_0 c_0 x_1 x_2 x_7 x_8 h
theorem sq75.l0_k.step_l0 (go : (p : sq75.l0_k.Pt) → Option (Bool × (List ByteArray))) (ih : ∀ p r, go p = some r → sq75.l0_k.I p r) (a_0 x_1 x_2 x_7 x_8) (r) (e : sq75.l0_k.body go (.l0 a_0 x_1 x_2 x_7 x_8) = some r) : sq75.l0_k.I (.l0 a_0 x_1 x_2 x_7 x_8) r := by
 unfold sq75.l0_k.body at e
 intro W h0 m0 h m A_0 n_0 c_0 O ne_0
 subst ne_0
 refine f75.l0_in ?_
 unfold f75.l0T
 refine split_dec_e e (fun c1 e => ?_) (fun c1 e => ?_)
 · exact (ih _ _ e) (O.pick [0]).nm rfl
 · cases e
   exact ⟨_, O.pick [0], rfl, rfl⟩
theorem sq75.l0_k.step_l1 (go : (p : sq75.l0_k.Pt) → Option (Bool × (List ByteArray))) (ih : ∀ p r, go p = some r → sq75.l0_k.I p r) (a_0 x_1 x_2 x_7 x_8) (r) (e : sq75.l0_k.body go (.l1 a_0 x_1 x_2 x_7 x_8) = some r) : sq75.l0_k.I (.l1 a_0 x_1 x_2 x_7 x_8) r := by
 unfold sq75.l0_k.body at e
 intro W h0 m0 h m A_0 n_0 c_0 O ne_0
 subst ne_0
 refine f75.l1_in ?_
 unfold f75.l1T
 refine split_dec_e e (fun c23 e => ?_) (fun c23 e => ?_)
 · obtain ⟨y1, g2, e⟩ := bind_e e
   refine (O.os 0 rfl).addr rfl g2 fun a3 cs4 ha5 hc6 he7 => ?_
   obtain rfl : cs4 = [(Value.string y1)] := he7
   obtain ⟨y8, g9, e⟩ := bind_e e
   refine (O.os 0 rfl).addr rfl g9 fun a10 cs11 ha12 hc13 he14 => ?_
   obtain rfl : cs11 = [(Value.string y8)] := he14
   refine ⟨_, ld0 (Sub.refl _) hc6 rfl, _, rfl, ?_⟩
   refine ⟨_, ld0 (Sub.refl _) hc13 rfl, _, rfl, ?_⟩
   obtain ⟨y15, g16, e⟩ := bind_e e
   refine (cmp_Less_76.walk (Hold.start (W := No) O.s)  g16).mono ?_
   rintro _ h17 ⟨m18, Q19, rfl⟩
   have O21 := Hold.nm (O.retC Q19 vfs_nil)
   refine ⟨_, rfl, ?_⟩
   refine split_not ?_
   refine split_any_e e (fun c22 e => ?_) (fun c22 e => ?_)
   · exact (ih _ _ e) (O21.pick [0]).nm rfl
   · exact (ih _ _ e) (O21.pick [0]).nm rfl
 · exact (ih _ _ e) (O.pick [0]).nm rfl
theorem sq75.l0_k.step_j2 (go : (p : sq75.l0_k.Pt) → Option (Bool × (List ByteArray))) (ih : ∀ p r, go p = some r → sq75.l0_k.I p r) (a_0 x_1 x_2 x_7 x_8) (r) (e : sq75.l0_k.body go (.j2 a_0 x_1 x_2 x_7 x_8) = some r) : sq75.l0_k.I (.j2 a_0 x_1 x_2 x_7 x_8) r := by
 unfold sq75.l0_k.body at e
 intro W h0 m0 h m A_0 n_0 c_0 O ne_0
 subst ne_0
 refine f75.j2_in ?_
 unfold f75.j2T
 exact (ih _ _ e) (O.pick [0]).nm rfl
set_option maxHeartbeats 4000000 in
theorem sq75.l0_k.step_j1 (go : (p : sq75.l0_k.Pt) → Option (Bool × (List ByteArray))) (ih : ∀ p r, go p = some r → sq75.l0_k.I p r) (a_0 x_1 x_2 x_7 x_8) (r) (e : sq75.l0_k.body go (.j1 a_0 x_1 x_2 x_7 x_8) = some r) : sq75.l0_k.I (.j1 a_0 x_1 x_2 x_7 x_8) r := by
 unfold sq75.l0_k.body at e
 intro W h0 m0 h m A_0 n_0 c_0 O ne_0
 subst ne_0
 refine f75.j1_in ?_
 unfold f75.j1T
 refine split_eq_e e (fun c41 e => ?_) (fun c41 e => ?_)
 · cases e
   exact ⟨_, O.pick [0], rfl, rfl⟩
 · refine split_dec_e e (fun c40 e => ?_) (fun c40 e => ?_)
   · cases e
     exact ⟨_, O.pick [0], rfl, rfl⟩
   · obtain ⟨y1, g2, e⟩ := bind_e e
     refine (O.os 0 rfl).addr rfl g2 fun a3 cs4 ha5 hc6 he7 => ?_
     obtain rfl : cs4 = [(Value.string y1)] := he7
     obtain ⟨y8, g9, e⟩ := bind_e e
     refine (O.os 0 rfl).addr rfl g9 fun a10 cs11 ha12 hc13 he14 => ?_
     obtain rfl : cs11 = [(Value.string y8)] := he14
     refine ⟨_, ld0 (Sub.refl _) hc6 rfl, _, rfl, ?_⟩
     refine ⟨_, ld0 (Sub.refl _) hc13 rfl, _, rfl, ?_⟩
     obtain ⟨y15, g16, e⟩ := bind_e e
     refine (O.os 0 rfl).addr rfl g16 fun a17 cs18 ha19 hc20 he21 => ?_
     obtain rfl : cs18 = [(Value.string y15)] := he21
     obtain ⟨l24, g25, e⟩ := bind_e e
     replace g25 := Option.some.inj g25
     refine O.elst0 0 rfl g16 ha19 hc20 (by decide) (y' := y1) rfl trivial g25 fun h22 O23 => ?_
     obtain ⟨y26, g27, e⟩ := bind_e e
     refine (O23.os 0 rfl).addr (lset' g25) g27 fun a28 cs29 ha30 hc31 he32 => ?_
     obtain rfl : cs29 = [(Value.string y26)] := he32
     obtain ⟨l35, g36, e⟩ := bind_e e
     replace g36 := Option.some.inj g36
     refine O23.elst0 0 rfl g27 ha30 hc31 (by decide) (y' := y8) rfl trivial g36 fun h33 O34 => ?_
     refine split_dec_e e (fun c39 e => ?_) (fun c39 e => ?_)
     · have O37 := O34.nm
       exact (ih _ _ e) (O37.pick [0]).nm ((lset' g25).trans (lset' g36))
     · have O38 := O34.nm
       exact (ih _ _ e) (O38.pick [0]).nm ((lset' g25).trans (lset' g36))
set_option maxHeartbeats 4000000 in
theorem sq75.l0_k.step_l2 (go : (p : sq75.l0_k.Pt) → Option (Bool × (List ByteArray))) (ih : ∀ p r, go p = some r → sq75.l0_k.I p r) (a_0 x_1 x_2 x_7 x_8 x_9) (r) (e : sq75.l0_k.body go (.l2 a_0 x_1 x_2 x_7 x_8 x_9) = some r) : sq75.l0_k.I (.l2 a_0 x_1 x_2 x_7 x_8 x_9) r := by
 unfold sq75.l0_k.body at e
 intro W h0 m0 h m A_0 n_0 c_0 O ne_0
 subst ne_0
 refine f75.l2_in ?_
 unfold f75.l2T
 refine split_dec_e e (fun c60 e => ?_) (fun c60 e => ?_)
 · obtain ⟨y1, g2, e⟩ := bind_e e
   refine (O.os 0 rfl).addr rfl g2 fun a3 cs4 ha5 hc6 he7 => ?_
   obtain rfl : cs4 = [(Value.string y1)] := he7
   obtain ⟨y8, g9, e⟩ := bind_e e
   refine (O.os 0 rfl).addr rfl g9 fun a10 cs11 ha12 hc13 he14 => ?_
   obtain rfl : cs11 = [(Value.string y8)] := he14
   refine ⟨_, ld0 (Sub.refl _) hc6 rfl, _, rfl, ?_⟩
   refine ⟨_, ld0 (Sub.refl _) hc13 rfl, _, rfl, ?_⟩
   obtain ⟨y15, g16, e⟩ := bind_e e
   refine (cmp_Less_76.walk (Hold.start (W := No) O.s)  g16).mono ?_
   rintro _ h17 ⟨m18, Q19, rfl⟩
   have O21 := Hold.nm (O.retC Q19 vfs_nil)
   refine ⟨_, rfl, ?_⟩
   refine split_not ?_
   refine split_any_e e (fun c59 e => ?_) (fun c59 e => ?_)
   · obtain ⟨y22, g23, e⟩ := bind_e e
     refine (O21.os 0 rfl).addr rfl g23 fun a24 cs25 ha26 hc27 he28 => ?_
     obtain rfl : cs25 = [(Value.string y22)] := he28
     obtain ⟨y29, g30, e⟩ := bind_e e
     refine (O21.os 0 rfl).addr rfl g30 fun a31 cs32 ha33 hc34 he35 => ?_
     obtain rfl : cs32 = [(Value.string y29)] := he35
     refine ⟨_, ld0 (Sub.refl _) hc27 rfl, _, rfl, ?_⟩
     refine ⟨_, ld0 (Sub.refl _) hc34 rfl, _, rfl, ?_⟩
     obtain ⟨y36, g37, e⟩ := bind_e e
     refine (O21.os 0 rfl).addr rfl g37 fun a38 cs39 ha40 hc41 he42 => ?_
     obtain rfl : cs39 = [(Value.string y36)] := he42
     obtain ⟨l45, g46, e⟩ := bind_e e
     replace g46 := Option.some.inj g46
     refine O21.elst0 0 rfl g37 ha40 hc41 (by decide) (y' := y22) rfl trivial g46 fun h43 O44 => ?_
     obtain ⟨y47, g48, e⟩ := bind_e e
     refine (O44.os 0 rfl).addr (lset' g46) g48 fun a49 cs50 ha51 hc52 he53 => ?_
     obtain rfl : cs50 = [(Value.string y47)] := he53
     obtain ⟨l56, g57, e⟩ := bind_e e
     replace g57 := Option.some.inj g57
     refine O44.elst0 0 rfl g48 ha51 hc52 (by decide) (y' := y29) rfl trivial g57 fun h54 O55 => ?_
     have O58 := O55.nm
     exact (ih _ _ e) (O58.pick [0]).nm ((lset' g46).trans (lset' g57))
   · exact (ih _ _ e) (O21.pick [0]).nm rfl
 · exact (ih _ _ e) (O.pick [0]).nm rfl
theorem sq75.l0_k.step_j3 (go : (p : sq75.l0_k.Pt) → Option (Bool × (List ByteArray))) (ih : ∀ p r, go p = some r → sq75.l0_k.I p r) (a_0 x_1 x_2 x_7 x_8) (r) (e : sq75.l0_k.body go (.j3 a_0 x_1 x_2 x_7 x_8) = some r) : sq75.l0_k.I (.j3 a_0 x_1 x_2 x_7 x_8) r := by
 unfold sq75.l0_k.body at e
 intro W h0 m0 h m A_0 n_0 c_0 O ne_0
 subst ne_0
 refine f75.j3_in ?_
 unfold f75.j3T
 refine split_dec_e e (fun c1 e => ?_) (fun c1 e => ?_)
 · exact (ih _ _ e) (O.pick [0]).nm rfl
 · exact (ih _ _ e) (O.pick [0]).nm rfl
set_option maxHeartbeats 4000000 in
theorem sq75.l0_k.step_l3 (go : (p : sq75.l0_k.Pt) → Option (Bool × (List ByteArray))) (ih : ∀ p r, go p = some r → sq75.l0_k.I p r) (a_0 x_1 x_2 x_7 x_8 x_10) (r) (e : sq75.l0_k.body go (.l3 a_0 x_1 x_2 x_7 x_8 x_10) = some r) : sq75.l0_k.I (.l3 a_0 x_1 x_2 x_7 x_8 x_10) r := by
 unfold sq75.l0_k.body at e
 intro W h0 m0 h m A_0 n_0 c_0 O ne_0
 subst ne_0
 refine f75.l3_in ?_
 unfold f75.l3T
 refine split_dec_e e (fun c60 e => ?_) (fun c60 e => ?_)
 · obtain ⟨y1, g2, e⟩ := bind_e e
   refine (O.os 0 rfl).addr rfl g2 fun a3 cs4 ha5 hc6 he7 => ?_
   obtain rfl : cs4 = [(Value.string y1)] := he7
   obtain ⟨y8, g9, e⟩ := bind_e e
   refine (O.os 0 rfl).addr rfl g9 fun a10 cs11 ha12 hc13 he14 => ?_
   obtain rfl : cs11 = [(Value.string y8)] := he14
   refine ⟨_, ld0 (Sub.refl _) hc6 rfl, _, rfl, ?_⟩
   refine ⟨_, ld0 (Sub.refl _) hc13 rfl, _, rfl, ?_⟩
   obtain ⟨y15, g16, e⟩ := bind_e e
   refine (cmp_Less_76.walk (Hold.start (W := No) O.s)  g16).mono ?_
   rintro _ h17 ⟨m18, Q19, rfl⟩
   have O21 := Hold.nm (O.retC Q19 vfs_nil)
   refine ⟨_, rfl, ?_⟩
   refine split_not ?_
   refine split_any_e e (fun c59 e => ?_) (fun c59 e => ?_)
   · obtain ⟨y22, g23, e⟩ := bind_e e
     refine (O21.os 0 rfl).addr rfl g23 fun a24 cs25 ha26 hc27 he28 => ?_
     obtain rfl : cs25 = [(Value.string y22)] := he28
     obtain ⟨y29, g30, e⟩ := bind_e e
     refine (O21.os 0 rfl).addr rfl g30 fun a31 cs32 ha33 hc34 he35 => ?_
     obtain rfl : cs32 = [(Value.string y29)] := he35
     refine ⟨_, ld0 (Sub.refl _) hc27 rfl, _, rfl, ?_⟩
     refine ⟨_, ld0 (Sub.refl _) hc34 rfl, _, rfl, ?_⟩
     obtain ⟨y36, g37, e⟩ := bind_e e
     refine (O21.os 0 rfl).addr rfl g37 fun a38 cs39 ha40 hc41 he42 => ?_
     obtain rfl : cs39 = [(Value.string y36)] := he42
     obtain ⟨l45, g46, e⟩ := bind_e e
     replace g46 := Option.some.inj g46
     refine O21.elst0 0 rfl g37 ha40 hc41 (by decide) (y' := y22) rfl trivial g46 fun h43 O44 => ?_
     obtain ⟨y47, g48, e⟩ := bind_e e
     refine (O44.os 0 rfl).addr (lset' g46) g48 fun a49 cs50 ha51 hc52 he53 => ?_
     obtain rfl : cs50 = [(Value.string y47)] := he53
     obtain ⟨l56, g57, e⟩ := bind_e e
     replace g57 := Option.some.inj g57
     refine O44.elst0 0 rfl g48 ha51 hc52 (by decide) (y' := y29) rfl trivial g57 fun h54 O55 => ?_
     have O58 := O55.nm
     exact (ih _ _ e) (O58.pick [0]).nm ((lset' g46).trans (lset' g57))
   · exact (ih _ _ e) (O21.pick [0]).nm rfl
 · exact (ih _ _ e) (O.pick [0]).nm rfl
theorem sq75.l0_k.step_j0 (go : (p : sq75.l0_k.Pt) → Option (Bool × (List ByteArray))) (ih : ∀ p r, go p = some r → sq75.l0_k.I p r) (a_0 x_1 x_2 x_7 x_8) (r) (e : sq75.l0_k.body go (.j0 a_0 x_1 x_2 x_7 x_8) = some r) : sq75.l0_k.I (.j0 a_0 x_1 x_2 x_7 x_8) r := by
 unfold sq75.l0_k.body at e
 intro W h0 m0 h m A_0 n_0 c_0 O ne_0
 subst ne_0
 refine f75.j0_in ?_
 unfold f75.j0T
 exact (ih _ _ e) (O.pick [0]).nm rfl
theorem sq75.l0_k.all {p : sq75.l0_k.Pt} {r : (Bool × (List ByteArray))} (e : sq75.l0_k.go p = some r) : sq75.l0_k.I p r := fixF_ind (β := fun _ => (Bool × (List ByteArray))) sq75.l0_k.mono (I := sq75.l0_k.I) (fun go ih p r e => match p with
 | .l0 a_0 x_1 x_2 x_7 x_8 => sq75.l0_k.step_l0 go ih a_0 x_1 x_2 x_7 x_8 r e
 | .l1 a_0 x_1 x_2 x_7 x_8 => sq75.l0_k.step_l1 go ih a_0 x_1 x_2 x_7 x_8 r e
 | .j2 a_0 x_1 x_2 x_7 x_8 => sq75.l0_k.step_j2 go ih a_0 x_1 x_2 x_7 x_8 r e
 | .j1 a_0 x_1 x_2 x_7 x_8 => sq75.l0_k.step_j1 go ih a_0 x_1 x_2 x_7 x_8 r e
 | .l2 a_0 x_1 x_2 x_7 x_8 x_9 => sq75.l0_k.step_l2 go ih a_0 x_1 x_2 x_7 x_8 x_9 r e
 | .j3 a_0 x_1 x_2 x_7 x_8 => sq75.l0_k.step_j3 go ih a_0 x_1 x_2 x_7 x_8 r e
 | .l3 a_0 x_1 x_2 x_7 x_8 x_10 => sq75.l0_k.step_l3 go ih a_0 x_1 x_2 x_7 x_8 x_10 r e
 | .j0 a_0 x_1 x_2 x_7 x_8 => sq75.l0_k.step_j0 go ih a_0 x_1 x_2 x_7 x_8 r e
 ) e
noncomputable def sq75 (a_0 : List ByteArray) (x_1 : Int) (x_2 : Int) : Option (Bool × (List ByteArray)) :=
 (sq75.l0 a_0 x_1 x_2 (IntKind.wrap .i64 (x_1 + (1 : Int))) (0 : Int))
theorem sq75.walk {W h m A_0 n_0 c_0 a_0 x_1 x_2} (O : Hold W h m h m [rR (aE tell_str) A_0 c_0 a_0]) (ne_0 : n_0 = List.length a_0) {r} (e : sq75 a_0 x_1 x_2 = some r) : Run Tryd.prog 75 #[Value.slice A_0 n_0 c_0, Value.int .i64 x_1, Value.int .i64 x_2] h (sq75.post W A_0 n_0 c_0 h m r) := by
 unfold sq75 at e
 subst ne_0
 refine f75.run ?_
 unfold f75.runT
 exact (sq75.l0_k.all e) (O.pick [0]).nm rfl
def sq77.post (W : Nat → Prop) (Asl0 : Option Addr) (nsl0 csl0 : Nat) (h0 m0 : Heap) (r : Int × (List ByteArray)) (v : Value) (h : Heap) : Prop := ∃ m , Hold W h0 m0 h m [rR (aE tell_str) Asl0 csl0 r.2] ∧ v = .int .i64 r.1 ∧ nsl0 = List.length r.2
inductive sq77.l0_k.Pt where
 | l0 (a_0 : List ByteArray) (x_1 : Int) (x_9 : Int) (x_10 : Int)
 | l1 (a_0 : List ByteArray) (x_1 : Int) (x_9 : Int) (x_10 : Int)
 | j2 (a_0 : List ByteArray) (x_1 : Int) (x_9 : Int) (x_10 : Int)
 | j0 (a_0 : List ByteArray) (x_1 : Int) (x_9 : Int) (x_10 : Int)
 | l2 (a_0 : List ByteArray) (x_1 : Int) (x_9 : Int) (x_10 : Int)
 | j3 (a_0 : List ByteArray) (x_1 : Int) (x_9 : Int) (x_10 : Int)
 | j1 (a_0 : List ByteArray) (x_1 : Int) (x_9 : Int) (x_10 : Int)
noncomputable def sq77.l0_k.body (go : (p : sq77.l0_k.Pt) → Option (Int × (List ByteArray))) : (p : sq77.l0_k.Pt) → Option (Int × (List ByteArray))
 | .l0 a_0 x_1 x_9 x_10 => (go (.l1 a_0 x_1 x_9 x_10))
 | .l1 a_0 x_1 x_9 x_10 => if x_9 ≤ x_10 then (Option.bind (gi a_0 x_1) fun y1 => Option.bind (gi a_0 x_9) fun y8 => Option.bind (cmp_Less_76 y1 y8) fun y15 => if y15 = true then ((go (.j0 a_0 x_1 x_9 x_10))) else ((go (.j2 a_0 x_1 x_9 x_10)))) else ((go (.j0 a_0 x_1 x_9 x_10)))
 | .j2 a_0 x_1 x_9 x_10 => (go (.l1 a_0 x_1 (IntKind.wrap .i64 (x_9 + (1 : Int))) x_10))
 | .j0 a_0 x_1 x_9 x_10 => (go (.l2 a_0 x_1 x_9 x_10))
 | .l2 a_0 x_1 x_9 x_10 => if x_9 ≤ x_10 then (Option.bind (gi a_0 x_1) fun y1 => Option.bind (gi a_0 x_10) fun y8 => Option.bind (cmp_Less_76 y1 y8) fun y15 => if y15 = true then ((go (.j3 a_0 x_1 x_9 x_10))) else ((go (.j1 a_0 x_1 x_9 x_10)))) else ((go (.j1 a_0 x_1 x_9 x_10)))
 | .j3 a_0 x_1 x_9 x_10 => (go (.l2 a_0 x_1 x_9 (IntKind.wrap .i64 (x_10 - (1 : Int)))))
 | .j1 a_0 x_1 x_9 x_10 => if x_9 > x_10 then (some (x_9, a_0)) else (Option.bind (gi a_0 x_10) fun y1 => Option.bind (gi a_0 x_9) fun y8 => Option.bind (gi a_0 x_9) fun y15 => Option.bind (some (List.set a_0 (Int.toNat x_9) y1)) fun l24 => Option.bind (gi l24 x_10) fun y26 => Option.bind (some (List.set l24 (Int.toNat x_10) y8)) fun l35 => (go (.l0 l35 x_1 (IntKind.wrap .i64 (x_9 + (1 : Int))) (IntKind.wrap .i64 (x_10 - (1 : Int))))))
attribute [local irreducible] cmp_Less_76 in
theorem sq77.l0_k.mono : MonoF (β := fun _ => (Int × (List ByteArray))) sq77.l0_k.body := fun f g hfg p => match p with
 | .l0 a_0 x_1 x_9 x_10 => (hfg _)
 | .l1 a_0 x_1 x_9 x_10 => LeO.ite (LeO.bind (LeO.refl _) fun y1 => LeO.bind (LeO.refl _) fun y8 => LeO.bind (LeO.refl _) fun y15 => LeO.ite ((hfg _)) ((hfg _))) ((hfg _))
 | .j2 a_0 x_1 x_9 x_10 => (hfg _)
 | .j0 a_0 x_1 x_9 x_10 => (hfg _)
 | .l2 a_0 x_1 x_9 x_10 => LeO.ite (LeO.bind (LeO.refl _) fun y1 => LeO.bind (LeO.refl _) fun y8 => LeO.bind (LeO.refl _) fun y15 => LeO.ite ((hfg _)) ((hfg _))) ((hfg _))
 | .j3 a_0 x_1 x_9 x_10 => (hfg _)
 | .j1 a_0 x_1 x_9 x_10 => LeO.ite (LeO.refl _) (LeO.bind (LeO.refl _) fun y1 => LeO.bind (LeO.refl _) fun y8 => LeO.bind (LeO.refl _) fun y15 => LeO.bind (LeO.refl _) fun l24 => LeO.bind (LeO.refl _) fun y26 => LeO.bind (LeO.refl _) fun l35 => (hfg _))
noncomputable def sq77.l0_k.go (p : sq77.l0_k.Pt) : Option (Int × (List ByteArray)) := fixF (β := fun _ => (Int × (List ByteArray))) sq77.l0_k.body p
noncomputable def sq77.l0 (a_0 x_1 x_9 x_10) := sq77.l0_k.go (.l0 a_0 x_1 x_9 x_10)
noncomputable def sq77.l1 (a_0 x_1 x_9 x_10) := sq77.l0_k.go (.l1 a_0 x_1 x_9 x_10)
noncomputable def sq77.j2 (a_0 x_1 x_9 x_10) := sq77.l0_k.go (.j2 a_0 x_1 x_9 x_10)
noncomputable def sq77.j0 (a_0 x_1 x_9 x_10) := sq77.l0_k.go (.j0 a_0 x_1 x_9 x_10)
noncomputable def sq77.l2 (a_0 x_1 x_9 x_10) := sq77.l0_k.go (.l2 a_0 x_1 x_9 x_10)
noncomputable def sq77.j3 (a_0 x_1 x_9 x_10) := sq77.l0_k.go (.j3 a_0 x_1 x_9 x_10)
noncomputable def sq77.j1 (a_0 x_1 x_9 x_10) := sq77.l0_k.go (.j1 a_0 x_1 x_9 x_10)
theorem sq77.l0_eq (a_0 x_1 x_9 x_10) : sq77.l0 a_0 x_1 x_9 x_10 = (sq77.l1 a_0 x_1 x_9 x_10) := fixF_eq sq77.l0_k.mono _
theorem sq77.l1_eq (a_0 x_1 x_9 x_10) : sq77.l1 a_0 x_1 x_9 x_10 = if x_9 ≤ x_10 then (Option.bind (gi a_0 x_1) fun y1 => Option.bind (gi a_0 x_9) fun y8 => Option.bind (cmp_Less_76 y1 y8) fun y15 => if y15 = true then ((sq77.j0 a_0 x_1 x_9 x_10)) else ((sq77.j2 a_0 x_1 x_9 x_10))) else ((sq77.j0 a_0 x_1 x_9 x_10)) := fixF_eq sq77.l0_k.mono _
theorem sq77.j2_eq (a_0 x_1 x_9 x_10) : sq77.j2 a_0 x_1 x_9 x_10 = (sq77.l1 a_0 x_1 (IntKind.wrap .i64 (x_9 + (1 : Int))) x_10) := fixF_eq sq77.l0_k.mono _
theorem sq77.j0_eq (a_0 x_1 x_9 x_10) : sq77.j0 a_0 x_1 x_9 x_10 = (sq77.l2 a_0 x_1 x_9 x_10) := fixF_eq sq77.l0_k.mono _
theorem sq77.l2_eq (a_0 x_1 x_9 x_10) : sq77.l2 a_0 x_1 x_9 x_10 = if x_9 ≤ x_10 then (Option.bind (gi a_0 x_1) fun y1 => Option.bind (gi a_0 x_10) fun y8 => Option.bind (cmp_Less_76 y1 y8) fun y15 => if y15 = true then ((sq77.j3 a_0 x_1 x_9 x_10)) else ((sq77.j1 a_0 x_1 x_9 x_10))) else ((sq77.j1 a_0 x_1 x_9 x_10)) := fixF_eq sq77.l0_k.mono _
theorem sq77.j3_eq (a_0 x_1 x_9 x_10) : sq77.j3 a_0 x_1 x_9 x_10 = (sq77.l2 a_0 x_1 x_9 (IntKind.wrap .i64 (x_10 - (1 : Int)))) := fixF_eq sq77.l0_k.mono _
theorem sq77.j1_eq (a_0 x_1 x_9 x_10) : sq77.j1 a_0 x_1 x_9 x_10 = if x_9 > x_10 then (some (x_9, a_0)) else (Option.bind (gi a_0 x_10) fun y1 => Option.bind (gi a_0 x_9) fun y8 => Option.bind (gi a_0 x_9) fun y15 => Option.bind (some (List.set a_0 (Int.toNat x_9) y1)) fun l24 => Option.bind (gi l24 x_10) fun y26 => Option.bind (some (List.set l24 (Int.toNat x_10) y8)) fun l35 => (sq77.l0 l35 x_1 (IntKind.wrap .i64 (x_9 + (1 : Int))) (IntKind.wrap .i64 (x_10 - (1 : Int))))) := fixF_eq sq77.l0_k.mono _
def sq77.l0_k.I : (p : sq77.l0_k.Pt) → (Int × (List ByteArray)) → Prop
 | .l0 a_0 x_1 x_9 x_10, r => ∀ {W h0 m0 h m A_0 n_0 c_0} (O : Hold W h0 m0 h m [rR (aE tell_str) A_0 c_0 a_0]) (ne_0 : n_0 = List.length a_0), f77.l0 (sq77.post W A_0 n_0 c_0 h0 m0 r) A_0 n_0 c_0 x_1 x_9 x_10 h
 | .l1 a_0 x_1 x_9 x_10, r => ∀ {W h0 m0 h m A_0 n_0 c_0} (O : Hold W h0 m0 h m [rR (aE tell_str) A_0 c_0 a_0]) (ne_0 : n_0 = List.length a_0), f77.l1 (sq77.post W A_0 n_0 c_0 h0 m0 r) A_0 n_0 c_0 x_1 x_9 x_10 h
 | .j2 a_0 x_1 x_9 x_10, r => ∀ {W h0 m0 h m A_0 n_0 c_0} (O : Hold W h0 m0 h m [rR (aE tell_str) A_0 c_0 a_0]) (ne_0 : n_0 = List.length a_0), f77.j2 (sq77.post W A_0 n_0 c_0 h0 m0 r) A_0 n_0 c_0 x_1 x_9 x_10 h
 | .j0 a_0 x_1 x_9 x_10, r => ∀ {W h0 m0 h m A_0 n_0 c_0} (O : Hold W h0 m0 h m [rR (aE tell_str) A_0 c_0 a_0]) (ne_0 : n_0 = List.length a_0), f77.j0 (sq77.post W A_0 n_0 c_0 h0 m0 r) A_0 n_0 c_0 x_1 x_9 x_10 h
 | .l2 a_0 x_1 x_9 x_10, r => ∀ {W h0 m0 h m A_0 n_0 c_0} (O : Hold W h0 m0 h m [rR (aE tell_str) A_0 c_0 a_0]) (ne_0 : n_0 = List.length a_0), f77.l2 (sq77.post W A_0 n_0 c_0 h0 m0 r) A_0 n_0 c_0 x_1 x_9 x_10 h
 | .j3 a_0 x_1 x_9 x_10, r => ∀ {W h0 m0 h m A_0 n_0 c_0} (O : Hold W h0 m0 h m [rR (aE tell_str) A_0 c_0 a_0]) (ne_0 : n_0 = List.length a_0), f77.j3 (sq77.post W A_0 n_0 c_0 h0 m0 r) A_0 n_0 c_0 x_1 x_9 x_10 h
 | .j1 a_0 x_1 x_9 x_10, r => ∀ {W h0 m0 h m A_0 n_0 c_0} (O : Hold W h0 m0 h m [rR (aE tell_str) A_0 c_0 a_0]) (ne_0 : n_0 = List.length a_0), f77.j1 (sq77.post W A_0 n_0 c_0 h0 m0 r) A_0 n_0 c_0 x_1 x_9 x_10 h
theorem sq77.l0_k.step_l0 (go : (p : sq77.l0_k.Pt) → Option (Int × (List ByteArray))) (ih : ∀ p r, go p = some r → sq77.l0_k.I p r) (a_0 x_1 x_9 x_10) (r) (e : sq77.l0_k.body go (.l0 a_0 x_1 x_9 x_10) = some r) : sq77.l0_k.I (.l0 a_0 x_1 x_9 x_10) r := by
 unfold sq77.l0_k.body at e
 intro W h0 m0 h m A_0 n_0 c_0 O ne_0
 subst ne_0
 refine f77.l0_in ?_
 unfold f77.l0T
 exact (ih _ _ e) (O.pick [0]).nm rfl
theorem sq77.l0_k.step_l1 (go : (p : sq77.l0_k.Pt) → Option (Int × (List ByteArray))) (ih : ∀ p r, go p = some r → sq77.l0_k.I p r) (a_0 x_1 x_9 x_10) (r) (e : sq77.l0_k.body go (.l1 a_0 x_1 x_9 x_10) = some r) : sq77.l0_k.I (.l1 a_0 x_1 x_9 x_10) r := by
 unfold sq77.l0_k.body at e
 intro W h0 m0 h m A_0 n_0 c_0 O ne_0
 subst ne_0
 refine f77.l1_in ?_
 unfold f77.l1T
 refine split_dec_e e (fun c23 e => ?_) (fun c23 e => ?_)
 · obtain ⟨y1, g2, e⟩ := bind_e e
   refine (O.os 0 rfl).addr rfl g2 fun a3 cs4 ha5 hc6 he7 => ?_
   obtain rfl : cs4 = [(Value.string y1)] := he7
   obtain ⟨y8, g9, e⟩ := bind_e e
   refine (O.os 0 rfl).addr rfl g9 fun a10 cs11 ha12 hc13 he14 => ?_
   obtain rfl : cs11 = [(Value.string y8)] := he14
   refine ⟨_, ld0 (Sub.refl _) hc6 rfl, _, rfl, ?_⟩
   refine ⟨_, ld0 (Sub.refl _) hc13 rfl, _, rfl, ?_⟩
   obtain ⟨y15, g16, e⟩ := bind_e e
   refine (cmp_Less_76.walk (Hold.start (W := No) O.s)  g16).mono ?_
   rintro _ h17 ⟨m18, Q19, rfl⟩
   have O21 := Hold.nm (O.retC Q19 vfs_nil)
   refine ⟨_, rfl, ?_⟩
   refine split_not ?_
   refine split_any_e e (fun c22 e => ?_) (fun c22 e => ?_)
   · exact (ih _ _ e) (O21.pick [0]).nm rfl
   · exact (ih _ _ e) (O21.pick [0]).nm rfl
 · exact (ih _ _ e) (O.pick [0]).nm rfl
theorem sq77.l0_k.step_j2 (go : (p : sq77.l0_k.Pt) → Option (Int × (List ByteArray))) (ih : ∀ p r, go p = some r → sq77.l0_k.I p r) (a_0 x_1 x_9 x_10) (r) (e : sq77.l0_k.body go (.j2 a_0 x_1 x_9 x_10) = some r) : sq77.l0_k.I (.j2 a_0 x_1 x_9 x_10) r := by
 unfold sq77.l0_k.body at e
 intro W h0 m0 h m A_0 n_0 c_0 O ne_0
 subst ne_0
 refine f77.j2_in ?_
 unfold f77.j2T
 exact (ih _ _ e) (O.pick [0]).nm rfl
theorem sq77.l0_k.step_j0 (go : (p : sq77.l0_k.Pt) → Option (Int × (List ByteArray))) (ih : ∀ p r, go p = some r → sq77.l0_k.I p r) (a_0 x_1 x_9 x_10) (r) (e : sq77.l0_k.body go (.j0 a_0 x_1 x_9 x_10) = some r) : sq77.l0_k.I (.j0 a_0 x_1 x_9 x_10) r := by
 unfold sq77.l0_k.body at e
 intro W h0 m0 h m A_0 n_0 c_0 O ne_0
 subst ne_0
 refine f77.j0_in ?_
 unfold f77.j0T
 exact (ih _ _ e) (O.pick [0]).nm rfl
theorem sq77.l0_k.step_l2 (go : (p : sq77.l0_k.Pt) → Option (Int × (List ByteArray))) (ih : ∀ p r, go p = some r → sq77.l0_k.I p r) (a_0 x_1 x_9 x_10) (r) (e : sq77.l0_k.body go (.l2 a_0 x_1 x_9 x_10) = some r) : sq77.l0_k.I (.l2 a_0 x_1 x_9 x_10) r := by
 unfold sq77.l0_k.body at e
 intro W h0 m0 h m A_0 n_0 c_0 O ne_0
 subst ne_0
 refine f77.l2_in ?_
 unfold f77.l2T
 refine split_dec_e e (fun c23 e => ?_) (fun c23 e => ?_)
 · obtain ⟨y1, g2, e⟩ := bind_e e
   refine (O.os 0 rfl).addr rfl g2 fun a3 cs4 ha5 hc6 he7 => ?_
   obtain rfl : cs4 = [(Value.string y1)] := he7
   obtain ⟨y8, g9, e⟩ := bind_e e
   refine (O.os 0 rfl).addr rfl g9 fun a10 cs11 ha12 hc13 he14 => ?_
   obtain rfl : cs11 = [(Value.string y8)] := he14
   refine ⟨_, ld0 (Sub.refl _) hc6 rfl, _, rfl, ?_⟩
   refine ⟨_, ld0 (Sub.refl _) hc13 rfl, _, rfl, ?_⟩
   obtain ⟨y15, g16, e⟩ := bind_e e
   refine (cmp_Less_76.walk (Hold.start (W := No) O.s)  g16).mono ?_
   rintro _ h17 ⟨m18, Q19, rfl⟩
   have O21 := Hold.nm (O.retC Q19 vfs_nil)
   refine ⟨_, rfl, ?_⟩
   refine split_any_e e (fun c22 e => ?_) (fun c22 e => ?_)
   · exact (ih _ _ e) (O21.pick [0]).nm rfl
   · exact (ih _ _ e) (O21.pick [0]).nm rfl
 · exact (ih _ _ e) (O.pick [0]).nm rfl
theorem sq77.l0_k.step_j3 (go : (p : sq77.l0_k.Pt) → Option (Int × (List ByteArray))) (ih : ∀ p r, go p = some r → sq77.l0_k.I p r) (a_0 x_1 x_9 x_10) (r) (e : sq77.l0_k.body go (.j3 a_0 x_1 x_9 x_10) = some r) : sq77.l0_k.I (.j3 a_0 x_1 x_9 x_10) r := by
 unfold sq77.l0_k.body at e
 intro W h0 m0 h m A_0 n_0 c_0 O ne_0
 subst ne_0
 refine f77.j3_in ?_
 unfold f77.j3T
 exact (ih _ _ e) (O.pick [0]).nm rfl
theorem sq77.l0_k.step_j1 (go : (p : sq77.l0_k.Pt) → Option (Int × (List ByteArray))) (ih : ∀ p r, go p = some r → sq77.l0_k.I p r) (a_0 x_1 x_9 x_10) (r) (e : sq77.l0_k.body go (.j1 a_0 x_1 x_9 x_10) = some r) : sq77.l0_k.I (.j1 a_0 x_1 x_9 x_10) r := by
 unfold sq77.l0_k.body at e
 intro W h0 m0 h m A_0 n_0 c_0 O ne_0
 subst ne_0
 refine f77.j1_in ?_
 unfold f77.j1T
 refine split_dec_e e (fun c38 e => ?_) (fun c38 e => ?_)
 · cases e
   exact ⟨_, O.pick [0], rfl, rfl⟩
 · obtain ⟨y1, g2, e⟩ := bind_e e
   refine (O.os 0 rfl).addr rfl g2 fun a3 cs4 ha5 hc6 he7 => ?_
   obtain rfl : cs4 = [(Value.string y1)] := he7
   obtain ⟨y8, g9, e⟩ := bind_e e
   refine (O.os 0 rfl).addr rfl g9 fun a10 cs11 ha12 hc13 he14 => ?_
   obtain rfl : cs11 = [(Value.string y8)] := he14
   refine ⟨_, ld0 (Sub.refl _) hc6 rfl, _, rfl, ?_⟩
   refine ⟨_, ld0 (Sub.refl _) hc13 rfl, _, rfl, ?_⟩
   obtain ⟨y15, g16, e⟩ := bind_e e
   refine (O.os 0 rfl).addr rfl g16 fun a17 cs18 ha19 hc20 he21 => ?_
   obtain rfl : cs18 = [(Value.string y15)] := he21
   obtain ⟨l24, g25, e⟩ := bind_e e
   replace g25 := Option.some.inj g25
   refine O.elst0 0 rfl g16 ha19 hc20 (by decide) (y' := y1) rfl trivial g25 fun h22 O23 => ?_
   obtain ⟨y26, g27, e⟩ := bind_e e
   refine (O23.os 0 rfl).addr (lset' g25) g27 fun a28 cs29 ha30 hc31 he32 => ?_
   obtain rfl : cs29 = [(Value.string y26)] := he32
   obtain ⟨l35, g36, e⟩ := bind_e e
   replace g36 := Option.some.inj g36
   refine O23.elst0 0 rfl g27 ha30 hc31 (by decide) (y' := y8) rfl trivial g36 fun h33 O34 => ?_
   have O37 := O34.nm
   exact (ih _ _ e) (O37.pick [0]).nm ((lset' g25).trans (lset' g36))
theorem sq77.l0_k.all {p : sq77.l0_k.Pt} {r : (Int × (List ByteArray))} (e : sq77.l0_k.go p = some r) : sq77.l0_k.I p r := fixF_ind (β := fun _ => (Int × (List ByteArray))) sq77.l0_k.mono (I := sq77.l0_k.I) (fun go ih p r e => match p with
 | .l0 a_0 x_1 x_9 x_10 => sq77.l0_k.step_l0 go ih a_0 x_1 x_9 x_10 r e
 | .l1 a_0 x_1 x_9 x_10 => sq77.l0_k.step_l1 go ih a_0 x_1 x_9 x_10 r e
 | .j2 a_0 x_1 x_9 x_10 => sq77.l0_k.step_j2 go ih a_0 x_1 x_9 x_10 r e
 | .j0 a_0 x_1 x_9 x_10 => sq77.l0_k.step_j0 go ih a_0 x_1 x_9 x_10 r e
 | .l2 a_0 x_1 x_9 x_10 => sq77.l0_k.step_l2 go ih a_0 x_1 x_9 x_10 r e
 | .j3 a_0 x_1 x_9 x_10 => sq77.l0_k.step_j3 go ih a_0 x_1 x_9 x_10 r e
 | .j1 a_0 x_1 x_9 x_10 => sq77.l0_k.step_j1 go ih a_0 x_1 x_9 x_10 r e
 ) e
noncomputable def sq77 (a_0 : List ByteArray) (x_1 : Int) (x_2 : Int) (x_3 : Int) : Option (Int × (List ByteArray)) :=
 Option.bind (gi a_0 x_3) fun y1 => Option.bind (gi a_0 x_1) fun y8 => Option.bind (gi a_0 x_1) fun y15 => Option.bind (some (List.set a_0 (Int.toNat x_1) y1)) fun l24 => Option.bind (gi l24 x_3) fun y26 => Option.bind (some (List.set l24 (Int.toNat x_3) y8)) fun l35 => (sq77.l0 l35 x_1 (IntKind.wrap .i64 (x_1 + (1 : Int))) (IntKind.wrap .i64 (x_2 - (1 : Int))))
theorem sq77.walk {W h m A_0 n_0 c_0 a_0 x_1 x_2 x_3} (O : Hold W h m h m [rR (aE tell_str) A_0 c_0 a_0]) (ne_0 : n_0 = List.length a_0) {r} (e : sq77 a_0 x_1 x_2 x_3 = some r) : Run Tryd.prog 77 #[Value.slice A_0 n_0 c_0, Value.int .i64 x_1, Value.int .i64 x_2, Value.int .i64 x_3] h (sq77.post W A_0 n_0 c_0 h m r) := by
 unfold sq77 at e
 subst ne_0
 refine f77.run ?_
 unfold f77.runT
 obtain ⟨y1, g2, e⟩ := bind_e e
 refine (O.os 0 rfl).addr rfl g2 fun a3 cs4 ha5 hc6 he7 => ?_
 obtain rfl : cs4 = [(Value.string y1)] := he7
 obtain ⟨y8, g9, e⟩ := bind_e e
 refine (O.os 0 rfl).addr rfl g9 fun a10 cs11 ha12 hc13 he14 => ?_
 obtain rfl : cs11 = [(Value.string y8)] := he14
 refine ⟨_, ld0 (Sub.refl _) hc6 rfl, _, rfl, ?_⟩
 refine ⟨_, ld0 (Sub.refl _) hc13 rfl, _, rfl, ?_⟩
 obtain ⟨y15, g16, e⟩ := bind_e e
 refine (O.os 0 rfl).addr rfl g16 fun a17 cs18 ha19 hc20 he21 => ?_
 obtain rfl : cs18 = [(Value.string y15)] := he21
 obtain ⟨l24, g25, e⟩ := bind_e e
 replace g25 := Option.some.inj g25
 refine O.elst0 0 rfl g16 ha19 hc20 (by decide) (y' := y1) rfl trivial g25 fun h22 O23 => ?_
 obtain ⟨y26, g27, e⟩ := bind_e e
 refine (O23.os 0 rfl).addr (lset' g25) g27 fun a28 cs29 ha30 hc31 he32 => ?_
 obtain rfl : cs29 = [(Value.string y26)] := he32
 obtain ⟨l35, g36, e⟩ := bind_e e
 replace g36 := Option.some.inj g36
 refine O23.elst0 0 rfl g27 ha30 hc31 (by decide) (y' := y8) rfl trivial g36 fun h33 O34 => ?_
 have O37 := O34.nm
 exact (sq77.l0_k.all e) (O37.pick [0]).nm ((lset' g25).trans (lset' g36))
def sq78.post (W : Nat → Prop) (Asl0 : Option Addr) (nsl0 csl0 : Nat) (h0 m0 : Heap) (r : Int × Bool × (List ByteArray)) (v : Value) (h : Heap) : Prop := ∃ m , Hold W h0 m0 h m [rR (aE tell_str) Asl0 csl0 r.2.2] ∧ v = .tuple #[.int .i64 r.1, .bool r.2.1] ∧ nsl0 = List.length r.2.2
noncomputable def sq78.j4 (a_0 : List ByteArray) (x_1 : Int) (x_11 : Int) : Option (Int × Bool × (List ByteArray)) :=
 Option.bind (gi a_0 x_1) fun y1 => Option.bind (gi a_0 x_11) fun y8 => Option.bind (gi a_0 x_11) fun y15 => Option.bind (some (List.set a_0 (Int.toNat x_11) y1)) fun l24 => Option.bind (gi l24 x_1) fun y26 => Option.bind (some (List.set l24 (Int.toNat x_1) y8)) fun l35 => some (x_11, false, l35)
theorem sq78.j4.walk {W h0 m0 h m A_0 n_0 c_0 a_0 x_1 x_11} (O : Hold W h0 m0 h m [rR (aE tell_str) A_0 c_0 a_0]) (ne_0 : n_0 = List.length a_0) {r} (e : sq78.j4 a_0 x_1 x_11 = some r) : f78.j4 (sq78.post W A_0 n_0 c_0 h0 m0 r) A_0 n_0 c_0 x_1 x_11 h := by
 unfold sq78.j4 at e
 subst ne_0
 refine f78.j4_in ?_
 unfold f78.j4T
 obtain ⟨y1, g2, e⟩ := bind_e e
 refine (O.os 0 rfl).addr rfl g2 fun a3 cs4 ha5 hc6 he7 => ?_
 obtain rfl : cs4 = [(Value.string y1)] := he7
 obtain ⟨y8, g9, e⟩ := bind_e e
 refine (O.os 0 rfl).addr rfl g9 fun a10 cs11 ha12 hc13 he14 => ?_
 obtain rfl : cs11 = [(Value.string y8)] := he14
 refine ⟨_, ld0 (Sub.refl _) hc6 rfl, _, rfl, ?_⟩
 refine ⟨_, ld0 (Sub.refl _) hc13 rfl, _, rfl, ?_⟩
 obtain ⟨y15, g16, e⟩ := bind_e e
 refine (O.os 0 rfl).addr rfl g16 fun a17 cs18 ha19 hc20 he21 => ?_
 obtain rfl : cs18 = [(Value.string y15)] := he21
 obtain ⟨l24, g25, e⟩ := bind_e e
 replace g25 := Option.some.inj g25
 refine O.elst0 0 rfl g16 ha19 hc20 (by decide) (y' := y1) rfl trivial g25 fun h22 O23 => ?_
 obtain ⟨y26, g27, e⟩ := bind_e e
 refine (O23.os 0 rfl).addr (lset' g25) g27 fun a28 cs29 ha30 hc31 he32 => ?_
 obtain rfl : cs29 = [(Value.string y26)] := he32
 obtain ⟨l35, g36, e⟩ := bind_e e
 replace g36 := Option.some.inj g36
 refine O23.elst0 0 rfl g27 ha30 hc31 (by decide) (y' := y8) rfl trivial g36 fun h33 O34 => ?_
 have O37 := O34.nm
 cases e
 exact ⟨_, O37.pick [0], rfl, ((lset' g25).trans (lset' g36))⟩
inductive sq78.l2_k.Pt where
 | l2 (a_0 : List ByteArray) (x_1 : Int) (x_10 : Int) (x_11 : Int)
 | l3 (a_0 : List ByteArray) (x_1 : Int) (x_10 : Int) (x_11 : Int)
 | j7 (a_0 : List ByteArray) (x_1 : Int) (x_10 : Int) (x_11 : Int)
 | j5 (a_0 : List ByteArray) (x_1 : Int) (x_10 : Int) (x_11 : Int)
 | l4 (a_0 : List ByteArray) (x_1 : Int) (x_10 : Int) (x_11 : Int)
 | j8 (a_0 : List ByteArray) (x_1 : Int) (x_10 : Int) (x_11 : Int)
 | j6 (a_0 : List ByteArray) (x_1 : Int) (x_10 : Int) (x_11 : Int)
noncomputable def sq78.l2_k.body (go : (p : sq78.l2_k.Pt) → Option (Int × Bool × (List ByteArray))) : (p : sq78.l2_k.Pt) → Option (Int × Bool × (List ByteArray))
 | .l2 a_0 x_1 x_10 x_11 => (go (.l3 a_0 x_1 x_10 x_11))
 | .l3 a_0 x_1 x_10 x_11 => if x_10 ≤ x_11 then (Option.bind (gi a_0 x_10) fun y1 => Option.bind (gi a_0 x_1) fun y8 => Option.bind (cmp_Less_76 y1 y8) fun y15 => if y15 = true then ((go (.j7 a_0 x_1 x_10 x_11))) else ((go (.j5 a_0 x_1 x_10 x_11)))) else ((go (.j5 a_0 x_1 x_10 x_11)))
 | .j7 a_0 x_1 x_10 x_11 => (go (.l3 a_0 x_1 (IntKind.wrap .i64 (x_10 + (1 : Int))) x_11))
 | .j5 a_0 x_1 x_10 x_11 => (go (.l4 a_0 x_1 x_10 x_11))
 | .l4 a_0 x_1 x_10 x_11 => if x_10 ≤ x_11 then (Option.bind (gi a_0 x_11) fun y1 => Option.bind (gi a_0 x_1) fun y8 => Option.bind (cmp_Less_76 y1 y8) fun y15 => if y15 = true then ((go (.j6 a_0 x_1 x_10 x_11))) else ((go (.j8 a_0 x_1 x_10 x_11)))) else ((go (.j6 a_0 x_1 x_10 x_11)))
 | .j8 a_0 x_1 x_10 x_11 => (go (.l4 a_0 x_1 x_10 (IntKind.wrap .i64 (x_11 - (1 : Int)))))
 | .j6 a_0 x_1 x_10 x_11 => if x_10 > x_11 then ((sq78.j4 a_0 x_1 x_11)) else (Option.bind (gi a_0 x_11) fun y1 => Option.bind (gi a_0 x_10) fun y8 => Option.bind (gi a_0 x_10) fun y15 => Option.bind (some (List.set a_0 (Int.toNat x_10) y1)) fun l24 => Option.bind (gi l24 x_11) fun y26 => Option.bind (some (List.set l24 (Int.toNat x_11) y8)) fun l35 => (go (.l2 l35 x_1 (IntKind.wrap .i64 (x_10 + (1 : Int))) (IntKind.wrap .i64 (x_11 - (1 : Int))))))
attribute [local irreducible] cmp_Less_76 in
theorem sq78.l2_k.mono : MonoF (β := fun _ => (Int × Bool × (List ByteArray))) sq78.l2_k.body := fun f g hfg p => match p with
 | .l2 a_0 x_1 x_10 x_11 => (hfg _)
 | .l3 a_0 x_1 x_10 x_11 => LeO.ite (LeO.bind (LeO.refl _) fun y1 => LeO.bind (LeO.refl _) fun y8 => LeO.bind (LeO.refl _) fun y15 => LeO.ite ((hfg _)) ((hfg _))) ((hfg _))
 | .j7 a_0 x_1 x_10 x_11 => (hfg _)
 | .j5 a_0 x_1 x_10 x_11 => (hfg _)
 | .l4 a_0 x_1 x_10 x_11 => LeO.ite (LeO.bind (LeO.refl _) fun y1 => LeO.bind (LeO.refl _) fun y8 => LeO.bind (LeO.refl _) fun y15 => LeO.ite ((hfg _)) ((hfg _))) ((hfg _))
 | .j8 a_0 x_1 x_10 x_11 => (hfg _)
 | .j6 a_0 x_1 x_10 x_11 => LeO.ite ((LeO.refl _)) (LeO.bind (LeO.refl _) fun y1 => LeO.bind (LeO.refl _) fun y8 => LeO.bind (LeO.refl _) fun y15 => LeO.bind (LeO.refl _) fun l24 => LeO.bind (LeO.refl _) fun y26 => LeO.bind (LeO.refl _) fun l35 => (hfg _))
noncomputable def sq78.l2_k.go (p : sq78.l2_k.Pt) : Option (Int × Bool × (List ByteArray)) := fixF (β := fun _ => (Int × Bool × (List ByteArray))) sq78.l2_k.body p
noncomputable def sq78.l2 (a_0 x_1 x_10 x_11) := sq78.l2_k.go (.l2 a_0 x_1 x_10 x_11)
noncomputable def sq78.l3 (a_0 x_1 x_10 x_11) := sq78.l2_k.go (.l3 a_0 x_1 x_10 x_11)
noncomputable def sq78.j7 (a_0 x_1 x_10 x_11) := sq78.l2_k.go (.j7 a_0 x_1 x_10 x_11)
noncomputable def sq78.j5 (a_0 x_1 x_10 x_11) := sq78.l2_k.go (.j5 a_0 x_1 x_10 x_11)
noncomputable def sq78.l4 (a_0 x_1 x_10 x_11) := sq78.l2_k.go (.l4 a_0 x_1 x_10 x_11)
noncomputable def sq78.j8 (a_0 x_1 x_10 x_11) := sq78.l2_k.go (.j8 a_0 x_1 x_10 x_11)
noncomputable def sq78.j6 (a_0 x_1 x_10 x_11) := sq78.l2_k.go (.j6 a_0 x_1 x_10 x_11)
theorem sq78.l2_eq (a_0 x_1 x_10 x_11) : sq78.l2 a_0 x_1 x_10 x_11 = (sq78.l3 a_0 x_1 x_10 x_11) := fixF_eq sq78.l2_k.mono _
theorem sq78.l3_eq (a_0 x_1 x_10 x_11) : sq78.l3 a_0 x_1 x_10 x_11 = if x_10 ≤ x_11 then (Option.bind (gi a_0 x_10) fun y1 => Option.bind (gi a_0 x_1) fun y8 => Option.bind (cmp_Less_76 y1 y8) fun y15 => if y15 = true then ((sq78.j7 a_0 x_1 x_10 x_11)) else ((sq78.j5 a_0 x_1 x_10 x_11))) else ((sq78.j5 a_0 x_1 x_10 x_11)) := fixF_eq sq78.l2_k.mono _
theorem sq78.j7_eq (a_0 x_1 x_10 x_11) : sq78.j7 a_0 x_1 x_10 x_11 = (sq78.l3 a_0 x_1 (IntKind.wrap .i64 (x_10 + (1 : Int))) x_11) := fixF_eq sq78.l2_k.mono _
theorem sq78.j5_eq (a_0 x_1 x_10 x_11) : sq78.j5 a_0 x_1 x_10 x_11 = (sq78.l4 a_0 x_1 x_10 x_11) := fixF_eq sq78.l2_k.mono _
theorem sq78.l4_eq (a_0 x_1 x_10 x_11) : sq78.l4 a_0 x_1 x_10 x_11 = if x_10 ≤ x_11 then (Option.bind (gi a_0 x_11) fun y1 => Option.bind (gi a_0 x_1) fun y8 => Option.bind (cmp_Less_76 y1 y8) fun y15 => if y15 = true then ((sq78.j6 a_0 x_1 x_10 x_11)) else ((sq78.j8 a_0 x_1 x_10 x_11))) else ((sq78.j6 a_0 x_1 x_10 x_11)) := fixF_eq sq78.l2_k.mono _
theorem sq78.j8_eq (a_0 x_1 x_10 x_11) : sq78.j8 a_0 x_1 x_10 x_11 = (sq78.l4 a_0 x_1 x_10 (IntKind.wrap .i64 (x_11 - (1 : Int)))) := fixF_eq sq78.l2_k.mono _
theorem sq78.j6_eq (a_0 x_1 x_10 x_11) : sq78.j6 a_0 x_1 x_10 x_11 = if x_10 > x_11 then ((sq78.j4 a_0 x_1 x_11)) else (Option.bind (gi a_0 x_11) fun y1 => Option.bind (gi a_0 x_10) fun y8 => Option.bind (gi a_0 x_10) fun y15 => Option.bind (some (List.set a_0 (Int.toNat x_10) y1)) fun l24 => Option.bind (gi l24 x_11) fun y26 => Option.bind (some (List.set l24 (Int.toNat x_11) y8)) fun l35 => (sq78.l2 l35 x_1 (IntKind.wrap .i64 (x_10 + (1 : Int))) (IntKind.wrap .i64 (x_11 - (1 : Int))))) := fixF_eq sq78.l2_k.mono _
def sq78.l2_k.I : (p : sq78.l2_k.Pt) → (Int × Bool × (List ByteArray)) → Prop
 | .l2 a_0 x_1 x_10 x_11, r => ∀ {W h0 m0 h m A_0 n_0 c_0} (O : Hold W h0 m0 h m [rR (aE tell_str) A_0 c_0 a_0]) (ne_0 : n_0 = List.length a_0), f78.l2 (sq78.post W A_0 n_0 c_0 h0 m0 r) A_0 n_0 c_0 x_1 x_10 x_11 h
 | .l3 a_0 x_1 x_10 x_11, r => ∀ {W h0 m0 h m A_0 n_0 c_0} (O : Hold W h0 m0 h m [rR (aE tell_str) A_0 c_0 a_0]) (ne_0 : n_0 = List.length a_0), f78.l3 (sq78.post W A_0 n_0 c_0 h0 m0 r) A_0 n_0 c_0 x_1 x_10 x_11 h
 | .j7 a_0 x_1 x_10 x_11, r => ∀ {W h0 m0 h m A_0 n_0 c_0} (O : Hold W h0 m0 h m [rR (aE tell_str) A_0 c_0 a_0]) (ne_0 : n_0 = List.length a_0), f78.j7 (sq78.post W A_0 n_0 c_0 h0 m0 r) A_0 n_0 c_0 x_1 x_10 x_11 h
 | .j5 a_0 x_1 x_10 x_11, r => ∀ {W h0 m0 h m A_0 n_0 c_0} (O : Hold W h0 m0 h m [rR (aE tell_str) A_0 c_0 a_0]) (ne_0 : n_0 = List.length a_0), f78.j5 (sq78.post W A_0 n_0 c_0 h0 m0 r) A_0 n_0 c_0 x_1 x_10 x_11 h
 | .l4 a_0 x_1 x_10 x_11, r => ∀ {W h0 m0 h m A_0 n_0 c_0} (O : Hold W h0 m0 h m [rR (aE tell_str) A_0 c_0 a_0]) (ne_0 : n_0 = List.length a_0), f78.l4 (sq78.post W A_0 n_0 c_0 h0 m0 r) A_0 n_0 c_0 x_1 x_10 x_11 h
 | .j8 a_0 x_1 x_10 x_11, r => ∀ {W h0 m0 h m A_0 n_0 c_0} (O : Hold W h0 m0 h m [rR (aE tell_str) A_0 c_0 a_0]) (ne_0 : n_0 = List.length a_0), f78.j8 (sq78.post W A_0 n_0 c_0 h0 m0 r) A_0 n_0 c_0 x_1 x_10 x_11 h
 | .j6 a_0 x_1 x_10 x_11, r => ∀ {W h0 m0 h m A_0 n_0 c_0} (O : Hold W h0 m0 h m [rR (aE tell_str) A_0 c_0 a_0]) (ne_0 : n_0 = List.length a_0), f78.j6 (sq78.post W A_0 n_0 c_0 h0 m0 r) A_0 n_0 c_0 x_1 x_10 x_11 h
theorem sq78.l2_k.step_l2 (go : (p : sq78.l2_k.Pt) → Option (Int × Bool × (List ByteArray))) (ih : ∀ p r, go p = some r → sq78.l2_k.I p r) (a_0 x_1 x_10 x_11) (r) (e : sq78.l2_k.body go (.l2 a_0 x_1 x_10 x_11) = some r) : sq78.l2_k.I (.l2 a_0 x_1 x_10 x_11) r := by
 unfold sq78.l2_k.body at e
 intro W h0 m0 h m A_0 n_0 c_0 O ne_0
 subst ne_0
 refine f78.l2_in ?_
 unfold f78.l2T
 exact (ih _ _ e) (O.pick [0]).nm rfl
theorem sq78.l2_k.step_l3 (go : (p : sq78.l2_k.Pt) → Option (Int × Bool × (List ByteArray))) (ih : ∀ p r, go p = some r → sq78.l2_k.I p r) (a_0 x_1 x_10 x_11) (r) (e : sq78.l2_k.body go (.l3 a_0 x_1 x_10 x_11) = some r) : sq78.l2_k.I (.l3 a_0 x_1 x_10 x_11) r := by
 unfold sq78.l2_k.body at e
 intro W h0 m0 h m A_0 n_0 c_0 O ne_0
 subst ne_0
 refine f78.l3_in ?_
 unfold f78.l3T
 refine split_dec_e e (fun c23 e => ?_) (fun c23 e => ?_)
 · obtain ⟨y1, g2, e⟩ := bind_e e
   refine (O.os 0 rfl).addr rfl g2 fun a3 cs4 ha5 hc6 he7 => ?_
   obtain rfl : cs4 = [(Value.string y1)] := he7
   obtain ⟨y8, g9, e⟩ := bind_e e
   refine (O.os 0 rfl).addr rfl g9 fun a10 cs11 ha12 hc13 he14 => ?_
   obtain rfl : cs11 = [(Value.string y8)] := he14
   refine ⟨_, ld0 (Sub.refl _) hc6 rfl, _, rfl, ?_⟩
   refine ⟨_, ld0 (Sub.refl _) hc13 rfl, _, rfl, ?_⟩
   obtain ⟨y15, g16, e⟩ := bind_e e
   refine (cmp_Less_76.walk (Hold.start (W := No) O.s)  g16).mono ?_
   rintro _ h17 ⟨m18, Q19, rfl⟩
   have O21 := Hold.nm (O.retC Q19 vfs_nil)
   refine ⟨_, rfl, ?_⟩
   refine split_any_e e (fun c22 e => ?_) (fun c22 e => ?_)
   · exact (ih _ _ e) (O21.pick [0]).nm rfl
   · exact (ih _ _ e) (O21.pick [0]).nm rfl
 · exact (ih _ _ e) (O.pick [0]).nm rfl
theorem sq78.l2_k.step_j7 (go : (p : sq78.l2_k.Pt) → Option (Int × Bool × (List ByteArray))) (ih : ∀ p r, go p = some r → sq78.l2_k.I p r) (a_0 x_1 x_10 x_11) (r) (e : sq78.l2_k.body go (.j7 a_0 x_1 x_10 x_11) = some r) : sq78.l2_k.I (.j7 a_0 x_1 x_10 x_11) r := by
 unfold sq78.l2_k.body at e
 intro W h0 m0 h m A_0 n_0 c_0 O ne_0
 subst ne_0
 refine f78.j7_in ?_
 unfold f78.j7T
 exact (ih _ _ e) (O.pick [0]).nm rfl
theorem sq78.l2_k.step_j5 (go : (p : sq78.l2_k.Pt) → Option (Int × Bool × (List ByteArray))) (ih : ∀ p r, go p = some r → sq78.l2_k.I p r) (a_0 x_1 x_10 x_11) (r) (e : sq78.l2_k.body go (.j5 a_0 x_1 x_10 x_11) = some r) : sq78.l2_k.I (.j5 a_0 x_1 x_10 x_11) r := by
 unfold sq78.l2_k.body at e
 intro W h0 m0 h m A_0 n_0 c_0 O ne_0
 subst ne_0
 refine f78.j5_in ?_
 unfold f78.j5T
 exact (ih _ _ e) (O.pick [0]).nm rfl
theorem sq78.l2_k.step_l4 (go : (p : sq78.l2_k.Pt) → Option (Int × Bool × (List ByteArray))) (ih : ∀ p r, go p = some r → sq78.l2_k.I p r) (a_0 x_1 x_10 x_11) (r) (e : sq78.l2_k.body go (.l4 a_0 x_1 x_10 x_11) = some r) : sq78.l2_k.I (.l4 a_0 x_1 x_10 x_11) r := by
 unfold sq78.l2_k.body at e
 intro W h0 m0 h m A_0 n_0 c_0 O ne_0
 subst ne_0
 refine f78.l4_in ?_
 unfold f78.l4T
 refine split_dec_e e (fun c23 e => ?_) (fun c23 e => ?_)
 · obtain ⟨y1, g2, e⟩ := bind_e e
   refine (O.os 0 rfl).addr rfl g2 fun a3 cs4 ha5 hc6 he7 => ?_
   obtain rfl : cs4 = [(Value.string y1)] := he7
   obtain ⟨y8, g9, e⟩ := bind_e e
   refine (O.os 0 rfl).addr rfl g9 fun a10 cs11 ha12 hc13 he14 => ?_
   obtain rfl : cs11 = [(Value.string y8)] := he14
   refine ⟨_, ld0 (Sub.refl _) hc6 rfl, _, rfl, ?_⟩
   refine ⟨_, ld0 (Sub.refl _) hc13 rfl, _, rfl, ?_⟩
   obtain ⟨y15, g16, e⟩ := bind_e e
   refine (cmp_Less_76.walk (Hold.start (W := No) O.s)  g16).mono ?_
   rintro _ h17 ⟨m18, Q19, rfl⟩
   have O21 := Hold.nm (O.retC Q19 vfs_nil)
   refine ⟨_, rfl, ?_⟩
   refine split_not ?_
   refine split_any_e e (fun c22 e => ?_) (fun c22 e => ?_)
   · exact (ih _ _ e) (O21.pick [0]).nm rfl
   · exact (ih _ _ e) (O21.pick [0]).nm rfl
 · exact (ih _ _ e) (O.pick [0]).nm rfl
theorem sq78.l2_k.step_j8 (go : (p : sq78.l2_k.Pt) → Option (Int × Bool × (List ByteArray))) (ih : ∀ p r, go p = some r → sq78.l2_k.I p r) (a_0 x_1 x_10 x_11) (r) (e : sq78.l2_k.body go (.j8 a_0 x_1 x_10 x_11) = some r) : sq78.l2_k.I (.j8 a_0 x_1 x_10 x_11) r := by
 unfold sq78.l2_k.body at e
 intro W h0 m0 h m A_0 n_0 c_0 O ne_0
 subst ne_0
 refine f78.j8_in ?_
 unfold f78.j8T
 exact (ih _ _ e) (O.pick [0]).nm rfl
theorem sq78.l2_k.step_j6 (go : (p : sq78.l2_k.Pt) → Option (Int × Bool × (List ByteArray))) (ih : ∀ p r, go p = some r → sq78.l2_k.I p r) (a_0 x_1 x_10 x_11) (r) (e : sq78.l2_k.body go (.j6 a_0 x_1 x_10 x_11) = some r) : sq78.l2_k.I (.j6 a_0 x_1 x_10 x_11) r := by
 unfold sq78.l2_k.body at e
 intro W h0 m0 h m A_0 n_0 c_0 O ne_0
 subst ne_0
 refine f78.j6_in ?_
 unfold f78.j6T
 refine split_dec_e e (fun c38 e => ?_) (fun c38 e => ?_)
 · exact sq78.j4.walk (O.pick [0]).nm rfl e
 · obtain ⟨y1, g2, e⟩ := bind_e e
   refine (O.os 0 rfl).addr rfl g2 fun a3 cs4 ha5 hc6 he7 => ?_
   obtain rfl : cs4 = [(Value.string y1)] := he7
   obtain ⟨y8, g9, e⟩ := bind_e e
   refine (O.os 0 rfl).addr rfl g9 fun a10 cs11 ha12 hc13 he14 => ?_
   obtain rfl : cs11 = [(Value.string y8)] := he14
   refine ⟨_, ld0 (Sub.refl _) hc6 rfl, _, rfl, ?_⟩
   refine ⟨_, ld0 (Sub.refl _) hc13 rfl, _, rfl, ?_⟩
   obtain ⟨y15, g16, e⟩ := bind_e e
   refine (O.os 0 rfl).addr rfl g16 fun a17 cs18 ha19 hc20 he21 => ?_
   obtain rfl : cs18 = [(Value.string y15)] := he21
   obtain ⟨l24, g25, e⟩ := bind_e e
   replace g25 := Option.some.inj g25
   refine O.elst0 0 rfl g16 ha19 hc20 (by decide) (y' := y1) rfl trivial g25 fun h22 O23 => ?_
   obtain ⟨y26, g27, e⟩ := bind_e e
   refine (O23.os 0 rfl).addr (lset' g25) g27 fun a28 cs29 ha30 hc31 he32 => ?_
   obtain rfl : cs29 = [(Value.string y26)] := he32
   obtain ⟨l35, g36, e⟩ := bind_e e
   replace g36 := Option.some.inj g36
   refine O23.elst0 0 rfl g27 ha30 hc31 (by decide) (y' := y8) rfl trivial g36 fun h33 O34 => ?_
   have O37 := O34.nm
   exact (ih _ _ e) (O37.pick [0]).nm ((lset' g25).trans (lset' g36))
theorem sq78.l2_k.all {p : sq78.l2_k.Pt} {r : (Int × Bool × (List ByteArray))} (e : sq78.l2_k.go p = some r) : sq78.l2_k.I p r := fixF_ind (β := fun _ => (Int × Bool × (List ByteArray))) sq78.l2_k.mono (I := sq78.l2_k.I) (fun go ih p r e => match p with
 | .l2 a_0 x_1 x_10 x_11 => sq78.l2_k.step_l2 go ih a_0 x_1 x_10 x_11 r e
 | .l3 a_0 x_1 x_10 x_11 => sq78.l2_k.step_l3 go ih a_0 x_1 x_10 x_11 r e
 | .j7 a_0 x_1 x_10 x_11 => sq78.l2_k.step_j7 go ih a_0 x_1 x_10 x_11 r e
 | .j5 a_0 x_1 x_10 x_11 => sq78.l2_k.step_j5 go ih a_0 x_1 x_10 x_11 r e
 | .l4 a_0 x_1 x_10 x_11 => sq78.l2_k.step_l4 go ih a_0 x_1 x_10 x_11 r e
 | .j8 a_0 x_1 x_10 x_11 => sq78.l2_k.step_j8 go ih a_0 x_1 x_10 x_11 r e
 | .j6 a_0 x_1 x_10 x_11 => sq78.l2_k.step_j6 go ih a_0 x_1 x_10 x_11 r e
 ) e
noncomputable def sq78.j1 (a_0 : List ByteArray) (x_1 : Int) (x_10 : Int) (x_11 : Int) : Option (Int × Bool × (List ByteArray)) :=
 if x_10 > x_11 then (Option.bind (gi a_0 x_1) fun y1 => Option.bind (gi a_0 x_11) fun y8 => Option.bind (gi a_0 x_11) fun y15 => Option.bind (some (List.set a_0 (Int.toNat x_11) y1)) fun l24 => Option.bind (gi l24 x_1) fun y26 => Option.bind (some (List.set l24 (Int.toNat x_1) y8)) fun l35 => some (x_11, true, l35)) else (Option.bind (gi a_0 x_11) fun y38 => Option.bind (gi a_0 x_10) fun y45 => Option.bind (gi a_0 x_10) fun y52 => Option.bind (some (List.set a_0 (Int.toNat x_10) y38)) fun l61 => Option.bind (gi l61 x_11) fun y63 => Option.bind (some (List.set l61 (Int.toNat x_11) y45)) fun l72 => (sq78.l2 l72 x_1 (IntKind.wrap .i64 (x_10 + (1 : Int))) (IntKind.wrap .i64 (x_11 - (1 : Int)))))
set_option maxHeartbeats 4000000 in
theorem sq78.j1.walk {W h0 m0 h m A_0 n_0 c_0 a_0 x_1 x_10 x_11} (O : Hold W h0 m0 h m [rR (aE tell_str) A_0 c_0 a_0]) (ne_0 : n_0 = List.length a_0) {r} (e : sq78.j1 a_0 x_1 x_10 x_11 = some r) : f78.j1 (sq78.post W A_0 n_0 c_0 h0 m0 r) A_0 n_0 c_0 x_1 x_10 x_11 h := by
 unfold sq78.j1 at e
 subst ne_0
 refine f78.j1_in ?_
 unfold f78.j1T
 refine split_dec_e e (fun c75 e => ?_) (fun c75 e => ?_)
 · obtain ⟨y1, g2, e⟩ := bind_e e
   refine (O.os 0 rfl).addr rfl g2 fun a3 cs4 ha5 hc6 he7 => ?_
   obtain rfl : cs4 = [(Value.string y1)] := he7
   obtain ⟨y8, g9, e⟩ := bind_e e
   refine (O.os 0 rfl).addr rfl g9 fun a10 cs11 ha12 hc13 he14 => ?_
   obtain rfl : cs11 = [(Value.string y8)] := he14
   refine ⟨_, ld0 (Sub.refl _) hc6 rfl, _, rfl, ?_⟩
   refine ⟨_, ld0 (Sub.refl _) hc13 rfl, _, rfl, ?_⟩
   obtain ⟨y15, g16, e⟩ := bind_e e
   refine (O.os 0 rfl).addr rfl g16 fun a17 cs18 ha19 hc20 he21 => ?_
   obtain rfl : cs18 = [(Value.string y15)] := he21
   obtain ⟨l24, g25, e⟩ := bind_e e
   replace g25 := Option.some.inj g25
   refine O.elst0 0 rfl g16 ha19 hc20 (by decide) (y' := y1) rfl trivial g25 fun h22 O23 => ?_
   obtain ⟨y26, g27, e⟩ := bind_e e
   refine (O23.os 0 rfl).addr (lset' g25) g27 fun a28 cs29 ha30 hc31 he32 => ?_
   obtain rfl : cs29 = [(Value.string y26)] := he32
   obtain ⟨l35, g36, e⟩ := bind_e e
   replace g36 := Option.some.inj g36
   refine O23.elst0 0 rfl g27 ha30 hc31 (by decide) (y' := y8) rfl trivial g36 fun h33 O34 => ?_
   have O37 := O34.nm
   cases e
   exact ⟨_, O37.pick [0], rfl, ((lset' g25).trans (lset' g36))⟩
 · obtain ⟨y38, g39, e⟩ := bind_e e
   refine (O.os 0 rfl).addr rfl g39 fun a40 cs41 ha42 hc43 he44 => ?_
   obtain rfl : cs41 = [(Value.string y38)] := he44
   obtain ⟨y45, g46, e⟩ := bind_e e
   refine (O.os 0 rfl).addr rfl g46 fun a47 cs48 ha49 hc50 he51 => ?_
   obtain rfl : cs48 = [(Value.string y45)] := he51
   refine ⟨_, ld0 (Sub.refl _) hc43 rfl, _, rfl, ?_⟩
   refine ⟨_, ld0 (Sub.refl _) hc50 rfl, _, rfl, ?_⟩
   obtain ⟨y52, g53, e⟩ := bind_e e
   refine (O.os 0 rfl).addr rfl g53 fun a54 cs55 ha56 hc57 he58 => ?_
   obtain rfl : cs55 = [(Value.string y52)] := he58
   obtain ⟨l61, g62, e⟩ := bind_e e
   replace g62 := Option.some.inj g62
   refine O.elst0 0 rfl g53 ha56 hc57 (by decide) (y' := y38) rfl trivial g62 fun h59 O60 => ?_
   obtain ⟨y63, g64, e⟩ := bind_e e
   refine (O60.os 0 rfl).addr (lset' g62) g64 fun a65 cs66 ha67 hc68 he69 => ?_
   obtain rfl : cs66 = [(Value.string y63)] := he69
   obtain ⟨l72, g73, e⟩ := bind_e e
   replace g73 := Option.some.inj g73
   refine O60.elst0 0 rfl g64 ha67 hc68 (by decide) (y' := y45) rfl trivial g73 fun h70 O71 => ?_
   have O74 := O71.nm
   exact (sq78.l2_k.all e) (O74.pick [0]).nm ((lset' g62).trans (lset' g73))
inductive sq78.l1_k.Pt where
 | l1 (a_0 : List ByteArray) (x_1 : Int) (x_10 : Int) (x_11 : Int)
 | j3 (a_0 : List ByteArray) (x_1 : Int) (x_10 : Int) (x_11 : Int)
noncomputable def sq78.l1_k.body (go : (p : sq78.l1_k.Pt) → Option (Int × Bool × (List ByteArray))) : (p : sq78.l1_k.Pt) → Option (Int × Bool × (List ByteArray))
 | .l1 a_0 x_1 x_10 x_11 => if x_10 ≤ x_11 then (Option.bind (gi a_0 x_11) fun y1 => Option.bind (gi a_0 x_1) fun y8 => Option.bind (cmp_Less_76 y1 y8) fun y15 => if y15 = true then ((sq78.j1 a_0 x_1 x_10 x_11)) else ((go (.j3 a_0 x_1 x_10 x_11)))) else ((sq78.j1 a_0 x_1 x_10 x_11))
 | .j3 a_0 x_1 x_10 x_11 => (go (.l1 a_0 x_1 x_10 (IntKind.wrap .i64 (x_11 - (1 : Int)))))
attribute [local irreducible] cmp_Less_76 in
theorem sq78.l1_k.mono : MonoF (β := fun _ => (Int × Bool × (List ByteArray))) sq78.l1_k.body := fun f g hfg p => match p with
 | .l1 a_0 x_1 x_10 x_11 => LeO.ite (LeO.bind (LeO.refl _) fun y1 => LeO.bind (LeO.refl _) fun y8 => LeO.bind (LeO.refl _) fun y15 => LeO.ite ((LeO.refl _)) ((hfg _))) ((LeO.refl _))
 | .j3 a_0 x_1 x_10 x_11 => (hfg _)
noncomputable def sq78.l1_k.go (p : sq78.l1_k.Pt) : Option (Int × Bool × (List ByteArray)) := fixF (β := fun _ => (Int × Bool × (List ByteArray))) sq78.l1_k.body p
noncomputable def sq78.l1 (a_0 x_1 x_10 x_11) := sq78.l1_k.go (.l1 a_0 x_1 x_10 x_11)
noncomputable def sq78.j3 (a_0 x_1 x_10 x_11) := sq78.l1_k.go (.j3 a_0 x_1 x_10 x_11)
theorem sq78.l1_eq (a_0 x_1 x_10 x_11) : sq78.l1 a_0 x_1 x_10 x_11 = if x_10 ≤ x_11 then (Option.bind (gi a_0 x_11) fun y1 => Option.bind (gi a_0 x_1) fun y8 => Option.bind (cmp_Less_76 y1 y8) fun y15 => if y15 = true then ((sq78.j1 a_0 x_1 x_10 x_11)) else ((sq78.j3 a_0 x_1 x_10 x_11))) else ((sq78.j1 a_0 x_1 x_10 x_11)) := fixF_eq sq78.l1_k.mono _
theorem sq78.j3_eq (a_0 x_1 x_10 x_11) : sq78.j3 a_0 x_1 x_10 x_11 = (sq78.l1 a_0 x_1 x_10 (IntKind.wrap .i64 (x_11 - (1 : Int)))) := fixF_eq sq78.l1_k.mono _
def sq78.l1_k.I : (p : sq78.l1_k.Pt) → (Int × Bool × (List ByteArray)) → Prop
 | .l1 a_0 x_1 x_10 x_11, r => ∀ {W h0 m0 h m A_0 n_0 c_0} (O : Hold W h0 m0 h m [rR (aE tell_str) A_0 c_0 a_0]) (ne_0 : n_0 = List.length a_0), f78.l1 (sq78.post W A_0 n_0 c_0 h0 m0 r) A_0 n_0 c_0 x_1 x_10 x_11 h
 | .j3 a_0 x_1 x_10 x_11, r => ∀ {W h0 m0 h m A_0 n_0 c_0} (O : Hold W h0 m0 h m [rR (aE tell_str) A_0 c_0 a_0]) (ne_0 : n_0 = List.length a_0), f78.j3 (sq78.post W A_0 n_0 c_0 h0 m0 r) A_0 n_0 c_0 x_1 x_10 x_11 h
theorem sq78.l1_k.step_l1 (go : (p : sq78.l1_k.Pt) → Option (Int × Bool × (List ByteArray))) (ih : ∀ p r, go p = some r → sq78.l1_k.I p r) (a_0 x_1 x_10 x_11) (r) (e : sq78.l1_k.body go (.l1 a_0 x_1 x_10 x_11) = some r) : sq78.l1_k.I (.l1 a_0 x_1 x_10 x_11) r := by
 unfold sq78.l1_k.body at e
 intro W h0 m0 h m A_0 n_0 c_0 O ne_0
 subst ne_0
 refine f78.l1_in ?_
 unfold f78.l1T
 refine split_dec_e e (fun c23 e => ?_) (fun c23 e => ?_)
 · obtain ⟨y1, g2, e⟩ := bind_e e
   refine (O.os 0 rfl).addr rfl g2 fun a3 cs4 ha5 hc6 he7 => ?_
   obtain rfl : cs4 = [(Value.string y1)] := he7
   obtain ⟨y8, g9, e⟩ := bind_e e
   refine (O.os 0 rfl).addr rfl g9 fun a10 cs11 ha12 hc13 he14 => ?_
   obtain rfl : cs11 = [(Value.string y8)] := he14
   refine ⟨_, ld0 (Sub.refl _) hc6 rfl, _, rfl, ?_⟩
   refine ⟨_, ld0 (Sub.refl _) hc13 rfl, _, rfl, ?_⟩
   obtain ⟨y15, g16, e⟩ := bind_e e
   refine (cmp_Less_76.walk (Hold.start (W := No) O.s)  g16).mono ?_
   rintro _ h17 ⟨m18, Q19, rfl⟩
   have O21 := Hold.nm (O.retC Q19 vfs_nil)
   refine ⟨_, rfl, ?_⟩
   refine split_not ?_
   refine split_any_e e (fun c22 e => ?_) (fun c22 e => ?_)
   · exact sq78.j1.walk (O21.pick [0]).nm rfl e
   · exact (ih _ _ e) (O21.pick [0]).nm rfl
 · exact sq78.j1.walk (O.pick [0]).nm rfl e
theorem sq78.l1_k.step_j3 (go : (p : sq78.l1_k.Pt) → Option (Int × Bool × (List ByteArray))) (ih : ∀ p r, go p = some r → sq78.l1_k.I p r) (a_0 x_1 x_10 x_11) (r) (e : sq78.l1_k.body go (.j3 a_0 x_1 x_10 x_11) = some r) : sq78.l1_k.I (.j3 a_0 x_1 x_10 x_11) r := by
 unfold sq78.l1_k.body at e
 intro W h0 m0 h m A_0 n_0 c_0 O ne_0
 subst ne_0
 refine f78.j3_in ?_
 unfold f78.j3T
 exact (ih _ _ e) (O.pick [0]).nm rfl
theorem sq78.l1_k.all {p : sq78.l1_k.Pt} {r : (Int × Bool × (List ByteArray))} (e : sq78.l1_k.go p = some r) : sq78.l1_k.I p r := fixF_ind (β := fun _ => (Int × Bool × (List ByteArray))) sq78.l1_k.mono (I := sq78.l1_k.I) (fun go ih p r e => match p with
 | .l1 a_0 x_1 x_10 x_11 => sq78.l1_k.step_l1 go ih a_0 x_1 x_10 x_11 r e
 | .j3 a_0 x_1 x_10 x_11 => sq78.l1_k.step_j3 go ih a_0 x_1 x_10 x_11 r e
 ) e
noncomputable def sq78.j0 (a_0 : List ByteArray) (x_1 : Int) (x_10 : Int) (x_11 : Int) : Option (Int × Bool × (List ByteArray)) :=
 (sq78.l1 a_0 x_1 x_10 x_11)
theorem sq78.j0.walk {W h0 m0 h m A_0 n_0 c_0 a_0 x_1 x_10 x_11} (O : Hold W h0 m0 h m [rR (aE tell_str) A_0 c_0 a_0]) (ne_0 : n_0 = List.length a_0) {r} (e : sq78.j0 a_0 x_1 x_10 x_11 = some r) : f78.j0 (sq78.post W A_0 n_0 c_0 h0 m0 r) A_0 n_0 c_0 x_1 x_10 x_11 h := by
 unfold sq78.j0 at e
 subst ne_0
 refine f78.j0_in ?_
 unfold f78.j0T
 exact (sq78.l1_k.all e) (O.pick [0]).nm rfl
inductive sq78.l0_k.Pt where
 | l0 (a_0 : List ByteArray) (x_1 : Int) (x_10 : Int) (x_11 : Int)
 | j2 (a_0 : List ByteArray) (x_1 : Int) (x_10 : Int) (x_11 : Int)
noncomputable def sq78.l0_k.body (go : (p : sq78.l0_k.Pt) → Option (Int × Bool × (List ByteArray))) : (p : sq78.l0_k.Pt) → Option (Int × Bool × (List ByteArray))
 | .l0 a_0 x_1 x_10 x_11 => if x_10 ≤ x_11 then (Option.bind (gi a_0 x_10) fun y1 => Option.bind (gi a_0 x_1) fun y8 => Option.bind (cmp_Less_76 y1 y8) fun y15 => if y15 = true then ((go (.j2 a_0 x_1 x_10 x_11))) else ((sq78.j0 a_0 x_1 x_10 x_11))) else ((sq78.j0 a_0 x_1 x_10 x_11))
 | .j2 a_0 x_1 x_10 x_11 => (go (.l0 a_0 x_1 (IntKind.wrap .i64 (x_10 + (1 : Int))) x_11))
attribute [local irreducible] cmp_Less_76 in
theorem sq78.l0_k.mono : MonoF (β := fun _ => (Int × Bool × (List ByteArray))) sq78.l0_k.body := fun f g hfg p => match p with
 | .l0 a_0 x_1 x_10 x_11 => LeO.ite (LeO.bind (LeO.refl _) fun y1 => LeO.bind (LeO.refl _) fun y8 => LeO.bind (LeO.refl _) fun y15 => LeO.ite ((hfg _)) ((LeO.refl _))) ((LeO.refl _))
 | .j2 a_0 x_1 x_10 x_11 => (hfg _)
noncomputable def sq78.l0_k.go (p : sq78.l0_k.Pt) : Option (Int × Bool × (List ByteArray)) := fixF (β := fun _ => (Int × Bool × (List ByteArray))) sq78.l0_k.body p
noncomputable def sq78.l0 (a_0 x_1 x_10 x_11) := sq78.l0_k.go (.l0 a_0 x_1 x_10 x_11)
noncomputable def sq78.j2 (a_0 x_1 x_10 x_11) := sq78.l0_k.go (.j2 a_0 x_1 x_10 x_11)
theorem sq78.l0_eq (a_0 x_1 x_10 x_11) : sq78.l0 a_0 x_1 x_10 x_11 = if x_10 ≤ x_11 then (Option.bind (gi a_0 x_10) fun y1 => Option.bind (gi a_0 x_1) fun y8 => Option.bind (cmp_Less_76 y1 y8) fun y15 => if y15 = true then ((sq78.j2 a_0 x_1 x_10 x_11)) else ((sq78.j0 a_0 x_1 x_10 x_11))) else ((sq78.j0 a_0 x_1 x_10 x_11)) := fixF_eq sq78.l0_k.mono _
theorem sq78.j2_eq (a_0 x_1 x_10 x_11) : sq78.j2 a_0 x_1 x_10 x_11 = (sq78.l0 a_0 x_1 (IntKind.wrap .i64 (x_10 + (1 : Int))) x_11) := fixF_eq sq78.l0_k.mono _
def sq78.l0_k.I : (p : sq78.l0_k.Pt) → (Int × Bool × (List ByteArray)) → Prop
 | .l0 a_0 x_1 x_10 x_11, r => ∀ {W h0 m0 h m A_0 n_0 c_0} (O : Hold W h0 m0 h m [rR (aE tell_str) A_0 c_0 a_0]) (ne_0 : n_0 = List.length a_0), f78.l0 (sq78.post W A_0 n_0 c_0 h0 m0 r) A_0 n_0 c_0 x_1 x_10 x_11 h
 | .j2 a_0 x_1 x_10 x_11, r => ∀ {W h0 m0 h m A_0 n_0 c_0} (O : Hold W h0 m0 h m [rR (aE tell_str) A_0 c_0 a_0]) (ne_0 : n_0 = List.length a_0), f78.j2 (sq78.post W A_0 n_0 c_0 h0 m0 r) A_0 n_0 c_0 x_1 x_10 x_11 h
theorem sq78.l0_k.step_l0 (go : (p : sq78.l0_k.Pt) → Option (Int × Bool × (List ByteArray))) (ih : ∀ p r, go p = some r → sq78.l0_k.I p r) (a_0 x_1 x_10 x_11) (r) (e : sq78.l0_k.body go (.l0 a_0 x_1 x_10 x_11) = some r) : sq78.l0_k.I (.l0 a_0 x_1 x_10 x_11) r := by
 unfold sq78.l0_k.body at e
 intro W h0 m0 h m A_0 n_0 c_0 O ne_0
 subst ne_0
 refine f78.l0_in ?_
 unfold f78.l0T
 refine split_dec_e e (fun c23 e => ?_) (fun c23 e => ?_)
 · obtain ⟨y1, g2, e⟩ := bind_e e
   refine (O.os 0 rfl).addr rfl g2 fun a3 cs4 ha5 hc6 he7 => ?_
   obtain rfl : cs4 = [(Value.string y1)] := he7
   obtain ⟨y8, g9, e⟩ := bind_e e
   refine (O.os 0 rfl).addr rfl g9 fun a10 cs11 ha12 hc13 he14 => ?_
   obtain rfl : cs11 = [(Value.string y8)] := he14
   refine ⟨_, ld0 (Sub.refl _) hc6 rfl, _, rfl, ?_⟩
   refine ⟨_, ld0 (Sub.refl _) hc13 rfl, _, rfl, ?_⟩
   obtain ⟨y15, g16, e⟩ := bind_e e
   refine (cmp_Less_76.walk (Hold.start (W := No) O.s)  g16).mono ?_
   rintro _ h17 ⟨m18, Q19, rfl⟩
   have O21 := Hold.nm (O.retC Q19 vfs_nil)
   refine ⟨_, rfl, ?_⟩
   refine split_any_e e (fun c22 e => ?_) (fun c22 e => ?_)
   · exact (ih _ _ e) (O21.pick [0]).nm rfl
   · exact sq78.j0.walk (O21.pick [0]).nm rfl e
 · exact sq78.j0.walk (O.pick [0]).nm rfl e
theorem sq78.l0_k.step_j2 (go : (p : sq78.l0_k.Pt) → Option (Int × Bool × (List ByteArray))) (ih : ∀ p r, go p = some r → sq78.l0_k.I p r) (a_0 x_1 x_10 x_11) (r) (e : sq78.l0_k.body go (.j2 a_0 x_1 x_10 x_11) = some r) : sq78.l0_k.I (.j2 a_0 x_1 x_10 x_11) r := by
 unfold sq78.l0_k.body at e
 intro W h0 m0 h m A_0 n_0 c_0 O ne_0
 subst ne_0
 refine f78.j2_in ?_
 unfold f78.j2T
 exact (ih _ _ e) (O.pick [0]).nm rfl
theorem sq78.l0_k.all {p : sq78.l0_k.Pt} {r : (Int × Bool × (List ByteArray))} (e : sq78.l0_k.go p = some r) : sq78.l0_k.I p r := fixF_ind (β := fun _ => (Int × Bool × (List ByteArray))) sq78.l0_k.mono (I := sq78.l0_k.I) (fun go ih p r e => match p with
 | .l0 a_0 x_1 x_10 x_11 => sq78.l0_k.step_l0 go ih a_0 x_1 x_10 x_11 r e
 | .j2 a_0 x_1 x_10 x_11 => sq78.l0_k.step_j2 go ih a_0 x_1 x_10 x_11 r e
 ) e
noncomputable def sq78 (a_0 : List ByteArray) (x_1 : Int) (x_2 : Int) (x_3 : Int) : Option (Int × Bool × (List ByteArray)) :=
 Option.bind (gi a_0 x_3) fun y1 => Option.bind (gi a_0 x_1) fun y8 => Option.bind (gi a_0 x_1) fun y15 => Option.bind (some (List.set a_0 (Int.toNat x_1) y1)) fun l24 => Option.bind (gi l24 x_3) fun y26 => Option.bind (some (List.set l24 (Int.toNat x_3) y8)) fun l35 => (sq78.l0 l35 x_1 (IntKind.wrap .i64 (x_1 + (1 : Int))) (IntKind.wrap .i64 (x_2 - (1 : Int))))
theorem sq78.walk {W h m A_0 n_0 c_0 a_0 x_1 x_2 x_3} (O : Hold W h m h m [rR (aE tell_str) A_0 c_0 a_0]) (ne_0 : n_0 = List.length a_0) {r} (e : sq78 a_0 x_1 x_2 x_3 = some r) : Run Tryd.prog 78 #[Value.slice A_0 n_0 c_0, Value.int .i64 x_1, Value.int .i64 x_2, Value.int .i64 x_3] h (sq78.post W A_0 n_0 c_0 h m r) := by
 unfold sq78 at e
 subst ne_0
 refine f78.run ?_
 unfold f78.runT
 obtain ⟨y1, g2, e⟩ := bind_e e
 refine (O.os 0 rfl).addr rfl g2 fun a3 cs4 ha5 hc6 he7 => ?_
 obtain rfl : cs4 = [(Value.string y1)] := he7
 obtain ⟨y8, g9, e⟩ := bind_e e
 refine (O.os 0 rfl).addr rfl g9 fun a10 cs11 ha12 hc13 he14 => ?_
 obtain rfl : cs11 = [(Value.string y8)] := he14
 refine ⟨_, ld0 (Sub.refl _) hc6 rfl, _, rfl, ?_⟩
 refine ⟨_, ld0 (Sub.refl _) hc13 rfl, _, rfl, ?_⟩
 obtain ⟨y15, g16, e⟩ := bind_e e
 refine (O.os 0 rfl).addr rfl g16 fun a17 cs18 ha19 hc20 he21 => ?_
 obtain rfl : cs18 = [(Value.string y15)] := he21
 obtain ⟨l24, g25, e⟩ := bind_e e
 replace g25 := Option.some.inj g25
 refine O.elst0 0 rfl g16 ha19 hc20 (by decide) (y' := y1) rfl trivial g25 fun h22 O23 => ?_
 obtain ⟨y26, g27, e⟩ := bind_e e
 refine (O23.os 0 rfl).addr (lset' g25) g27 fun a28 cs29 ha30 hc31 he32 => ?_
 obtain rfl : cs29 = [(Value.string y26)] := he32
 obtain ⟨l35, g36, e⟩ := bind_e e
 replace g36 := Option.some.inj g36
 refine O23.elst0 0 rfl g27 ha30 hc31 (by decide) (y' := y8) rfl trivial g36 fun h33 O34 => ?_
 have O37 := O34.nm
 exact (sq78.l0_k.all e) (O37.pick [0]).nm ((lset' g25).trans (lset' g36))
def sq63.post (W : Nat → Prop) (Asl0 : Option Addr) (nsl0 csl0 : Nat) (h0 m0 : Heap) (r : (List ByteArray)) (v : Value) (h : Heap) : Prop := ∃ m , Hold W h0 m0 h m [rR (aE tell_str) Asl0 csl0 r] ∧ v = .tuple #[] ∧ nsl0 = List.length r
inductive sq63_k.Pt where
 | f (a_0 : List ByteArray) (x_1 : Int) (x_2 : Int) (x_3 : Int)
 | l0 (a_0 : List ByteArray) (x_1 : Int) (x_2 : Int) (x_3 : Int) (b_8 : Bool) (b_9 : Bool)
 | j0 (a_0 : List ByteArray) (x_1 : Int) (x_2 : Int) (x_3 : Int) (b_8 : Bool) (b_9 : Bool) (x_10 : Int)
 | j1 (a_0 : List ByteArray) (x_1 : Int) (x_2 : Int) (x_3 : Int) (b_8 : Bool) (b_9 : Bool) (x_10 : Int) (x_11 : Int) (x_12 : Int)
 | j3 (a_0 : List ByteArray) (x_1 : Int) (x_2 : Int) (x_3 : Int) (b_8 : Bool) (b_9 : Bool) (x_10 : Int) (x_11 : Int) (b_68 : Bool)
 | j2 (a_0 : List ByteArray) (x_1 : Int) (x_2 : Int) (x_3 : Int) (b_8 : Bool) (b_9 : Bool) (x_10 : Int) (x_11 : Int)
 | j5 (a_0 : List ByteArray) (x_1 : Int) (x_2 : Int) (x_3 : Int) (b_8 : Bool) (b_9 : Bool) (x_10 : Int) (x_11 : Int) (b_87 : Bool)
 | j4 (a_0 : List ByteArray) (x_1 : Int) (x_2 : Int) (x_3 : Int) (x_10 : Int) (x_11 : Int)
noncomputable def sq63_k.body (go : (p : sq63_k.Pt) → Option ((List ByteArray))) : (p : sq63_k.Pt) → Option ((List ByteArray))
 | .f a_0 x_1 x_2 x_3 => (go (.l0 a_0 x_1 x_2 x_3 true true))
 | .l0 a_0 x_1 x_2 x_3 b_8 b_9 => if (IntKind.wrap .i64 (x_2 - x_1)) ≤ (12 : Int) then (Option.bind (sq70 a_0 x_1 x_2) fun y1 => some (y1)) else (if x_3 = (0 : Int) then (Option.bind (sq71 a_0 x_1 x_2) fun y13 => some (y13)) else (if b_8 = true then ((go (.j0 a_0 x_1 x_2 x_3 b_8 b_9 (IntKind.wrap .i64 (x_2 - x_1))))) else (Option.bind (sq72 a_0 x_1 x_2) fun y25 => (go (.j0 y25 x_1 x_2 (IntKind.wrap .i64 (x_3 - (1 : Int))) b_8 b_9 (IntKind.wrap .i64 (x_2 - x_1)))))))
 | .j0 a_0 x_1 x_2 x_3 b_8 b_9 x_10 => Option.bind (sq73 a_0 x_1 x_2) fun y1 => if y1.2 = (2 : Int) then (Option.bind (sq74 a_0 x_1 x_2) fun y15 => (go (.j1 y15 x_1 x_2 x_3 b_8 b_9 x_10 (IntKind.wrap .i64 ((IntKind.wrap .i64 (x_2 - (1 : Int))) - (IntKind.wrap .i64 (y1.1 - x_1)))) (1 : Int)))) else ((go (.j1 a_0 x_1 x_2 x_3 b_8 b_9 x_10 y1.1 y1.2)))
 | .j1 a_0 x_1 x_2 x_3 b_8 b_9 x_10 x_11 x_12 => if b_8 = true then (if b_9 = true then ((go (.j3 a_0 x_1 x_2 x_3 b_8 b_9 x_10 x_11 (x_12 == (1 : Int))))) else ((go (.j3 a_0 x_1 x_2 x_3 b_8 b_9 x_10 x_11 false)))) else ((go (.j3 a_0 x_1 x_2 x_3 b_8 b_9 x_10 x_11 false)))
 | .j3 a_0 x_1 x_2 x_3 b_8 b_9 x_10 x_11 b_68 => if b_68 = true then (Option.bind (sq75 a_0 x_1 x_2) fun y1 => if y1.1 = true then (some (y1.2)) else ((go (.j2 y1.2 x_1 x_2 x_3 b_8 b_9 x_10 x_11)))) else ((go (.j2 a_0 x_1 x_2 x_3 b_8 b_9 x_10 x_11)))
 | .j2 a_0 x_1 x_2 x_3 b_8 b_9 x_10 x_11 => if x_1 > (0 : Int) then (Option.bind (gi a_0 (IntKind.wrap .i64 (x_1 - (1 : Int)))) fun y1 => Option.bind (gi a_0 x_11) fun y8 => Option.bind (cmp_Less_76 y1 y8) fun y15 => (go (.j5 a_0 x_1 x_2 x_3 b_8 b_9 x_10 x_11 (!y15)))) else ((go (.j5 a_0 x_1 x_2 x_3 b_8 b_9 x_10 x_11 false)))
 | .j5 a_0 x_1 x_2 x_3 b_8 b_9 x_10 x_11 b_87 => if b_87 = true then (Option.bind (sq77 a_0 x_1 x_2 x_11) fun y1 => (go (.l0 y1.2 y1.1 x_2 x_3 b_8 b_9))) else ((go (.j4 a_0 x_1 x_2 x_3 x_10 x_11)))
 | .j4 a_0 x_1 x_2 x_3 x_10 x_11 => Option.bind (sq78 a_0 x_1 x_2 x_11) fun y1 => if (IntKind.wrap .i64 (y1.1 - x_1)) < (IntKind.wrap .i64 (x_2 - y1.1)) then (Option.bind ((go (.f y1.2.2 x_1 y1.1 x_3))) fun y13 => (go (.l0 y13 (IntKind.wrap .i64 (y1.1 + (1 : Int))) x_2 x_3 (decide ((IntKind.wrap .i64 (y1.1 - x_1)) ≥ (IntKind.wrap .i64 (Int.tdiv x_10 (8 : Int))))) y1.2.1))) else (Option.bind ((go (.f y1.2.2 (IntKind.wrap .i64 (y1.1 + (1 : Int))) x_2 x_3))) fun y25 => (go (.l0 y25 x_1 y1.1 x_3 (decide ((IntKind.wrap .i64 (x_2 - y1.1)) ≥ (IntKind.wrap .i64 (Int.tdiv x_10 (8 : Int))))) y1.2.1)))
attribute [local irreducible] cmp_Less_76 in
theorem sq63_k.mono : MonoF (β := fun _ => ((List ByteArray))) sq63_k.body := fun f g hfg p => match p with
 | .f a_0 x_1 x_2 x_3 => (hfg _)
 | .l0 a_0 x_1 x_2 x_3 b_8 b_9 => LeO.ite (LeO.bind (LeO.refl _) fun y1 => LeO.refl _) (LeO.ite (LeO.bind (LeO.refl _) fun y13 => LeO.refl _) (LeO.ite ((hfg _)) (LeO.bind (LeO.refl _) fun y25 => (hfg _))))
 | .j0 a_0 x_1 x_2 x_3 b_8 b_9 x_10 => LeO.bind (LeO.refl _) fun y1 => LeO.ite (LeO.bind (LeO.refl _) fun y15 => (hfg _)) ((hfg _))
 | .j1 a_0 x_1 x_2 x_3 b_8 b_9 x_10 x_11 x_12 => LeO.ite (LeO.ite ((hfg _)) ((hfg _))) ((hfg _))
 | .j3 a_0 x_1 x_2 x_3 b_8 b_9 x_10 x_11 b_68 => LeO.ite (LeO.bind (LeO.refl _) fun y1 => LeO.ite (LeO.refl _) ((hfg _))) ((hfg _))
 | .j2 a_0 x_1 x_2 x_3 b_8 b_9 x_10 x_11 => LeO.ite (LeO.bind (LeO.refl _) fun y1 => LeO.bind (LeO.refl _) fun y8 => LeO.bind (LeO.refl _) fun y15 => (hfg _)) ((hfg _))
 | .j5 a_0 x_1 x_2 x_3 b_8 b_9 x_10 x_11 b_87 => LeO.ite (LeO.bind (LeO.refl _) fun y1 => (hfg _)) ((hfg _))
 | .j4 a_0 x_1 x_2 x_3 x_10 x_11 => LeO.bind (LeO.refl _) fun y1 => LeO.ite (LeO.bind ((hfg _)) fun y13 => (hfg _)) (LeO.bind ((hfg _)) fun y25 => (hfg _))
noncomputable def sq63_k.go (p : sq63_k.Pt) : Option ((List ByteArray)) := fixF (β := fun _ => ((List ByteArray))) sq63_k.body p
noncomputable def sq63 (a_0 x_1 x_2 x_3) := sq63_k.go (.f a_0 x_1 x_2 x_3)
noncomputable def sq63.l0 (a_0 x_1 x_2 x_3 b_8 b_9) := sq63_k.go (.l0 a_0 x_1 x_2 x_3 b_8 b_9)
noncomputable def sq63.j0 (a_0 x_1 x_2 x_3 b_8 b_9 x_10) := sq63_k.go (.j0 a_0 x_1 x_2 x_3 b_8 b_9 x_10)
noncomputable def sq63.j1 (a_0 x_1 x_2 x_3 b_8 b_9 x_10 x_11 x_12) := sq63_k.go (.j1 a_0 x_1 x_2 x_3 b_8 b_9 x_10 x_11 x_12)
noncomputable def sq63.j3 (a_0 x_1 x_2 x_3 b_8 b_9 x_10 x_11 b_68) := sq63_k.go (.j3 a_0 x_1 x_2 x_3 b_8 b_9 x_10 x_11 b_68)
noncomputable def sq63.j2 (a_0 x_1 x_2 x_3 b_8 b_9 x_10 x_11) := sq63_k.go (.j2 a_0 x_1 x_2 x_3 b_8 b_9 x_10 x_11)
noncomputable def sq63.j5 (a_0 x_1 x_2 x_3 b_8 b_9 x_10 x_11 b_87) := sq63_k.go (.j5 a_0 x_1 x_2 x_3 b_8 b_9 x_10 x_11 b_87)
noncomputable def sq63.j4 (a_0 x_1 x_2 x_3 x_10 x_11) := sq63_k.go (.j4 a_0 x_1 x_2 x_3 x_10 x_11)
theorem sq63_eq (a_0 x_1 x_2 x_3) : sq63 a_0 x_1 x_2 x_3 = (sq63.l0 a_0 x_1 x_2 x_3 true true) := fixF_eq sq63_k.mono _
theorem sq63.l0_eq (a_0 x_1 x_2 x_3 b_8 b_9) : sq63.l0 a_0 x_1 x_2 x_3 b_8 b_9 = if (IntKind.wrap .i64 (x_2 - x_1)) ≤ (12 : Int) then (Option.bind (sq70 a_0 x_1 x_2) fun y1 => some (y1)) else (if x_3 = (0 : Int) then (Option.bind (sq71 a_0 x_1 x_2) fun y13 => some (y13)) else (if b_8 = true then ((sq63.j0 a_0 x_1 x_2 x_3 b_8 b_9 (IntKind.wrap .i64 (x_2 - x_1)))) else (Option.bind (sq72 a_0 x_1 x_2) fun y25 => (sq63.j0 y25 x_1 x_2 (IntKind.wrap .i64 (x_3 - (1 : Int))) b_8 b_9 (IntKind.wrap .i64 (x_2 - x_1)))))) := fixF_eq sq63_k.mono _
theorem sq63.j0_eq (a_0 x_1 x_2 x_3 b_8 b_9 x_10) : sq63.j0 a_0 x_1 x_2 x_3 b_8 b_9 x_10 = Option.bind (sq73 a_0 x_1 x_2) fun y1 => if y1.2 = (2 : Int) then (Option.bind (sq74 a_0 x_1 x_2) fun y15 => (sq63.j1 y15 x_1 x_2 x_3 b_8 b_9 x_10 (IntKind.wrap .i64 ((IntKind.wrap .i64 (x_2 - (1 : Int))) - (IntKind.wrap .i64 (y1.1 - x_1)))) (1 : Int))) else ((sq63.j1 a_0 x_1 x_2 x_3 b_8 b_9 x_10 y1.1 y1.2)) := fixF_eq sq63_k.mono _
theorem sq63.j1_eq (a_0 x_1 x_2 x_3 b_8 b_9 x_10 x_11 x_12) : sq63.j1 a_0 x_1 x_2 x_3 b_8 b_9 x_10 x_11 x_12 = if b_8 = true then (if b_9 = true then ((sq63.j3 a_0 x_1 x_2 x_3 b_8 b_9 x_10 x_11 (x_12 == (1 : Int)))) else ((sq63.j3 a_0 x_1 x_2 x_3 b_8 b_9 x_10 x_11 false))) else ((sq63.j3 a_0 x_1 x_2 x_3 b_8 b_9 x_10 x_11 false)) := fixF_eq sq63_k.mono _
theorem sq63.j3_eq (a_0 x_1 x_2 x_3 b_8 b_9 x_10 x_11 b_68) : sq63.j3 a_0 x_1 x_2 x_3 b_8 b_9 x_10 x_11 b_68 = if b_68 = true then (Option.bind (sq75 a_0 x_1 x_2) fun y1 => if y1.1 = true then (some (y1.2)) else ((sq63.j2 y1.2 x_1 x_2 x_3 b_8 b_9 x_10 x_11))) else ((sq63.j2 a_0 x_1 x_2 x_3 b_8 b_9 x_10 x_11)) := fixF_eq sq63_k.mono _
theorem sq63.j2_eq (a_0 x_1 x_2 x_3 b_8 b_9 x_10 x_11) : sq63.j2 a_0 x_1 x_2 x_3 b_8 b_9 x_10 x_11 = if x_1 > (0 : Int) then (Option.bind (gi a_0 (IntKind.wrap .i64 (x_1 - (1 : Int)))) fun y1 => Option.bind (gi a_0 x_11) fun y8 => Option.bind (cmp_Less_76 y1 y8) fun y15 => (sq63.j5 a_0 x_1 x_2 x_3 b_8 b_9 x_10 x_11 (!y15))) else ((sq63.j5 a_0 x_1 x_2 x_3 b_8 b_9 x_10 x_11 false)) := fixF_eq sq63_k.mono _
theorem sq63.j5_eq (a_0 x_1 x_2 x_3 b_8 b_9 x_10 x_11 b_87) : sq63.j5 a_0 x_1 x_2 x_3 b_8 b_9 x_10 x_11 b_87 = if b_87 = true then (Option.bind (sq77 a_0 x_1 x_2 x_11) fun y1 => (sq63.l0 y1.2 y1.1 x_2 x_3 b_8 b_9)) else ((sq63.j4 a_0 x_1 x_2 x_3 x_10 x_11)) := fixF_eq sq63_k.mono _
theorem sq63.j4_eq (a_0 x_1 x_2 x_3 x_10 x_11) : sq63.j4 a_0 x_1 x_2 x_3 x_10 x_11 = Option.bind (sq78 a_0 x_1 x_2 x_11) fun y1 => if (IntKind.wrap .i64 (y1.1 - x_1)) < (IntKind.wrap .i64 (x_2 - y1.1)) then (Option.bind ((sq63 y1.2.2 x_1 y1.1 x_3)) fun y13 => (sq63.l0 y13 (IntKind.wrap .i64 (y1.1 + (1 : Int))) x_2 x_3 (decide ((IntKind.wrap .i64 (y1.1 - x_1)) ≥ (IntKind.wrap .i64 (Int.tdiv x_10 (8 : Int))))) y1.2.1)) else (Option.bind ((sq63 y1.2.2 (IntKind.wrap .i64 (y1.1 + (1 : Int))) x_2 x_3)) fun y25 => (sq63.l0 y25 x_1 y1.1 x_3 (decide ((IntKind.wrap .i64 (x_2 - y1.1)) ≥ (IntKind.wrap .i64 (Int.tdiv x_10 (8 : Int))))) y1.2.1)) := fixF_eq sq63_k.mono _
def sq63_k.I : (p : sq63_k.Pt) → ((List ByteArray)) → Prop
 | .f a_0 x_1 x_2 x_3, r => ∀ {W h m A_0 n_0 c_0} (O : Hold W h m h m [rR (aE tell_str) A_0 c_0 a_0]) (ne_0 : n_0 = List.length a_0), Run Tryd.prog 63 #[Value.slice A_0 n_0 c_0, Value.int .i64 x_1, Value.int .i64 x_2, Value.int .i64 x_3] h (sq63.post W A_0 n_0 c_0 h m r)
 | .l0 a_0 x_1 x_2 x_3 b_8 b_9, r => ∀ {W h0 m0 h m A_0 n_0 c_0} (O : Hold W h0 m0 h m [rR (aE tell_str) A_0 c_0 a_0]) (ne_0 : n_0 = List.length a_0), f63.l0 (sq63.post W A_0 n_0 c_0 h0 m0 r) A_0 n_0 c_0 x_1 x_2 x_3 b_8 b_9 h
 | .j0 a_0 x_1 x_2 x_3 b_8 b_9 x_10, r => ∀ {W h0 m0 h m A_0 n_0 c_0} (O : Hold W h0 m0 h m [rR (aE tell_str) A_0 c_0 a_0]) (ne_0 : n_0 = List.length a_0), f63.j0 (sq63.post W A_0 n_0 c_0 h0 m0 r) A_0 n_0 c_0 x_1 x_2 x_3 b_8 b_9 x_10 h
 | .j1 a_0 x_1 x_2 x_3 b_8 b_9 x_10 x_11 x_12, r => ∀ {W h0 m0 h m A_0 n_0 c_0} (O : Hold W h0 m0 h m [rR (aE tell_str) A_0 c_0 a_0]) (ne_0 : n_0 = List.length a_0), f63.j1 (sq63.post W A_0 n_0 c_0 h0 m0 r) A_0 n_0 c_0 x_1 x_2 x_3 b_8 b_9 x_10 x_11 x_12 h
 | .j3 a_0 x_1 x_2 x_3 b_8 b_9 x_10 x_11 b_68, r => ∀ {W h0 m0 h m A_0 n_0 c_0} (O : Hold W h0 m0 h m [rR (aE tell_str) A_0 c_0 a_0]) (ne_0 : n_0 = List.length a_0), f63.j3 (sq63.post W A_0 n_0 c_0 h0 m0 r) A_0 n_0 c_0 x_1 x_2 x_3 b_8 b_9 x_10 x_11 b_68 h
 | .j2 a_0 x_1 x_2 x_3 b_8 b_9 x_10 x_11, r => ∀ {W h0 m0 h m A_0 n_0 c_0} (O : Hold W h0 m0 h m [rR (aE tell_str) A_0 c_0 a_0]) (ne_0 : n_0 = List.length a_0), f63.j2 (sq63.post W A_0 n_0 c_0 h0 m0 r) A_0 n_0 c_0 x_1 x_2 x_3 b_8 b_9 x_10 x_11 h
 | .j5 a_0 x_1 x_2 x_3 b_8 b_9 x_10 x_11 b_87, r => ∀ {W h0 m0 h m A_0 n_0 c_0} (O : Hold W h0 m0 h m [rR (aE tell_str) A_0 c_0 a_0]) (ne_0 : n_0 = List.length a_0), f63.j5 (sq63.post W A_0 n_0 c_0 h0 m0 r) A_0 n_0 c_0 x_1 x_2 x_3 b_8 b_9 x_10 x_11 b_87 h
 | .j4 a_0 x_1 x_2 x_3 x_10 x_11, r => ∀ {W h0 m0 h m A_0 n_0 c_0} (O : Hold W h0 m0 h m [rR (aE tell_str) A_0 c_0 a_0]) (ne_0 : n_0 = List.length a_0), f63.j4 (sq63.post W A_0 n_0 c_0 h0 m0 r) A_0 n_0 c_0 x_1 x_2 x_3 x_10 x_11 h
theorem sq63_k.step_f (go : (p : sq63_k.Pt) → Option ((List ByteArray))) (ih : ∀ p r, go p = some r → sq63_k.I p r) (a_0 x_1 x_2 x_3) (r) (e : sq63_k.body go (.f a_0 x_1 x_2 x_3) = some r) : sq63_k.I (.f a_0 x_1 x_2 x_3) r := by
 unfold sq63_k.body at e
 intro W h m A_0 n_0 c_0 O ne_0
 subst ne_0
 refine f63.run ?_
 unfold f63.runT
 exact (ih _ _ e) (O.pick [0]).nm rfl
theorem sq63_k.step_l0 (go : (p : sq63_k.Pt) → Option ((List ByteArray))) (ih : ∀ p r, go p = some r → sq63_k.I p r) (a_0 x_1 x_2 x_3 b_8 b_9) (r) (e : sq63_k.body go (.l0 a_0 x_1 x_2 x_3 b_8 b_9) = some r) : sq63_k.I (.l0 a_0 x_1 x_2 x_3 b_8 b_9) r := by
 unfold sq63_k.body at e
 intro W h0 m0 h m A_0 n_0 c_0 O ne_0
 subst ne_0
 refine f63.l0_in ?_
 unfold f63.l0T
 refine split_dec_e e (fun c39 e => ?_) (fun c39 e => ?_)
 · obtain ⟨y1, g2, e⟩ := bind_e e
   obtain ⟨W7, P8, B9, C10⟩ := O.callC [0]
   refine (sq70.walk P8 rfl g2).mono ?_
   rintro _ h3 ⟨m4, Q5, rfl, hl11⟩
   have O12 := Hold.nm (C10 Q5 (vfs_cons (rR_vf (aE_vf (fun _ _ _ _ h => h))) vfs_nil))
   refine ⟨rfl, ?_⟩
   cases e
   exact ⟨_, O12.pick [1], rfl, hl11⟩
 · refine split_eq_e e (fun c38 e => ?_) (fun c38 e => ?_)
   · obtain ⟨y13, g14, e⟩ := bind_e e
     obtain ⟨W19, P20, B21, C22⟩ := O.callC [0]
     refine (sq71.walk P20 rfl g14).mono ?_
     rintro _ h15 ⟨m16, Q17, rfl, hl23⟩
     have O24 := Hold.nm (C22 Q17 (vfs_cons (rR_vf (aE_vf (fun _ _ _ _ h => h))) vfs_nil))
     refine ⟨rfl, ?_⟩
     cases e
     exact ⟨_, O24.pick [1], rfl, hl23⟩
   · refine split_not ?_
     refine split_any_e e (fun c37 e => ?_) (fun c37 e => ?_)
     · exact (ih _ _ e) (O.pick [0]).nm rfl
     · obtain ⟨y25, g26, e⟩ := bind_e e
       obtain ⟨W31, P32, B33, C34⟩ := O.callC [0]
       refine (sq72.walk P32 rfl g26).mono ?_
       rintro _ h27 ⟨m28, Q29, rfl, hl35⟩
       have O36 := Hold.nm (C34 Q29 (vfs_cons (rR_vf (aE_vf (fun _ _ _ _ h => h))) vfs_nil))
       refine ⟨rfl, ?_⟩
       exact (ih _ _ e) (O36.pick [1]).nm hl35
theorem sq63_k.step_j0 (go : (p : sq63_k.Pt) → Option ((List ByteArray))) (ih : ∀ p r, go p = some r → sq63_k.I p r) (a_0 x_1 x_2 x_3 b_8 b_9 x_10) (r) (e : sq63_k.body go (.j0 a_0 x_1 x_2 x_3 b_8 b_9 x_10) = some r) : sq63_k.I (.j0 a_0 x_1 x_2 x_3 b_8 b_9 x_10) r := by
 unfold sq63_k.body at e
 intro W h0 m0 h m A_0 n_0 c_0 O ne_0
 subst ne_0
 refine f63.j0_in ?_
 unfold f63.j0T
 obtain ⟨y1, g2, e⟩ := bind_e e
 obtain ⟨m7, u8, s13, ⟨⟨r11, k12⟩, _⟩, B9, C10⟩ := O.lend0 [0]
 replace r11 : Rd 1 eStr m7 A_0 a_0 := r11
 replace k12 : List.length a_0 ≤ c_0 := k12
 refine (sq73.walk (Hold.start (W := No) s13) rfl k12 r11 g2).mono ?_
 rintro _ h3 ⟨m4, Q5, rfl⟩
 have O14 := Hold.nm (C10 Q5 vfs_nil)
 refine ⟨_, _, rfl, ?_⟩
 refine split_eq_e e (fun c27 e => ?_) (fun c27 e => ?_)
 · obtain ⟨y15, g16, e⟩ := bind_e e
   obtain ⟨W21, P22, B23, C24⟩ := O14.callC [0]
   refine (sq74.walk P22 rfl g16).mono ?_
   rintro _ h17 ⟨m18, Q19, rfl, hl25⟩
   have O26 := Hold.nm (C24 Q19 (vfs_cons (rR_vf (aE_vf (fun _ _ _ _ h => h))) vfs_nil))
   refine ⟨rfl, ?_⟩
   exact (ih _ _ e) (O26.pick [1]).nm hl25
 · exact (ih _ _ e) (O14.pick [0]).nm rfl
theorem sq63_k.step_j1 (go : (p : sq63_k.Pt) → Option ((List ByteArray))) (ih : ∀ p r, go p = some r → sq63_k.I p r) (a_0 x_1 x_2 x_3 b_8 b_9 x_10 x_11 x_12) (r) (e : sq63_k.body go (.j1 a_0 x_1 x_2 x_3 b_8 b_9 x_10 x_11 x_12) = some r) : sq63_k.I (.j1 a_0 x_1 x_2 x_3 b_8 b_9 x_10 x_11 x_12) r := by
 unfold sq63_k.body at e
 intro W h0 m0 h m A_0 n_0 c_0 O ne_0
 subst ne_0
 refine f63.j1_in ?_
 unfold f63.j1T
 refine split_any_e e (fun c2 e => ?_) (fun c2 e => ?_)
 · refine split_any_e e (fun c1 e => ?_) (fun c1 e => ?_)
   · exact (ih _ _ e) (O.pick [0]).nm rfl
   · exact (ih _ _ e) (O.pick [0]).nm rfl
 · exact (ih _ _ e) (O.pick [0]).nm rfl
theorem sq63_k.step_j3 (go : (p : sq63_k.Pt) → Option ((List ByteArray))) (ih : ∀ p r, go p = some r → sq63_k.I p r) (a_0 x_1 x_2 x_3 b_8 b_9 x_10 x_11 b_68) (r) (e : sq63_k.body go (.j3 a_0 x_1 x_2 x_3 b_8 b_9 x_10 x_11 b_68) = some r) : sq63_k.I (.j3 a_0 x_1 x_2 x_3 b_8 b_9 x_10 x_11 b_68) r := by
 unfold sq63_k.body at e
 intro W h0 m0 h m A_0 n_0 c_0 O ne_0
 subst ne_0
 refine f63.j3_in ?_
 unfold f63.j3T
 refine split_any_e e (fun c14 e => ?_) (fun c14 e => ?_)
 · obtain ⟨y1, g2, e⟩ := bind_e e
   obtain ⟨W7, P8, B9, C10⟩ := O.callC [0]
   refine (sq75.walk P8 rfl g2).mono ?_
   rintro _ h3 ⟨m4, Q5, rfl, hl11⟩
   have O12 := Hold.nm (C10 Q5 (vfs_cons (rR_vf (aE_vf (fun _ _ _ _ h => h))) vfs_nil))
   refine ⟨_, rfl, ?_⟩
   refine split_any_e e (fun c13 e => ?_) (fun c13 e => ?_)
   · cases e
     exact ⟨_, O12.pick [1], rfl, hl11⟩
   · exact (ih _ _ e) (O12.pick [1]).nm hl11
 · exact (ih _ _ e) (O.pick [0]).nm rfl
theorem sq63_k.step_j2 (go : (p : sq63_k.Pt) → Option ((List ByteArray))) (ih : ∀ p r, go p = some r → sq63_k.I p r) (a_0 x_1 x_2 x_3 b_8 b_9 x_10 x_11) (r) (e : sq63_k.body go (.j2 a_0 x_1 x_2 x_3 b_8 b_9 x_10 x_11) = some r) : sq63_k.I (.j2 a_0 x_1 x_2 x_3 b_8 b_9 x_10 x_11) r := by
 unfold sq63_k.body at e
 intro W h0 m0 h m A_0 n_0 c_0 O ne_0
 subst ne_0
 refine f63.j2_in ?_
 unfold f63.j2T
 refine split_dec_e e (fun c22 e => ?_) (fun c22 e => ?_)
 · obtain ⟨y1, g2, e⟩ := bind_e e
   refine (O.os 0 rfl).addr rfl g2 fun a3 cs4 ha5 hc6 he7 => ?_
   obtain rfl : cs4 = [(Value.string y1)] := he7
   obtain ⟨y8, g9, e⟩ := bind_e e
   refine (O.os 0 rfl).addr rfl g9 fun a10 cs11 ha12 hc13 he14 => ?_
   obtain rfl : cs11 = [(Value.string y8)] := he14
   refine ⟨_, ld0 (Sub.refl _) hc6 rfl, _, rfl, ?_⟩
   refine ⟨_, ld0 (Sub.refl _) hc13 rfl, _, rfl, ?_⟩
   obtain ⟨y15, g16, e⟩ := bind_e e
   refine (cmp_Less_76.walk (Hold.start (W := No) O.s)  g16).mono ?_
   rintro _ h17 ⟨m18, Q19, rfl⟩
   have O21 := Hold.nm (O.retC Q19 vfs_nil)
   refine ⟨_, rfl, ?_⟩
   exact (ih _ _ e) (O21.pick [0]).nm rfl
 · exact (ih _ _ e) (O.pick [0]).nm rfl
theorem sq63_k.step_j5 (go : (p : sq63_k.Pt) → Option ((List ByteArray))) (ih : ∀ p r, go p = some r → sq63_k.I p r) (a_0 x_1 x_2 x_3 b_8 b_9 x_10 x_11 b_87) (r) (e : sq63_k.body go (.j5 a_0 x_1 x_2 x_3 b_8 b_9 x_10 x_11 b_87) = some r) : sq63_k.I (.j5 a_0 x_1 x_2 x_3 b_8 b_9 x_10 x_11 b_87) r := by
 unfold sq63_k.body at e
 intro W h0 m0 h m A_0 n_0 c_0 O ne_0
 subst ne_0
 refine f63.j5_in ?_
 unfold f63.j5T
 refine split_any_e e (fun c13 e => ?_) (fun c13 e => ?_)
 · obtain ⟨y1, g2, e⟩ := bind_e e
   obtain ⟨W7, P8, B9, C10⟩ := O.callC [0]
   refine (sq77.walk P8 rfl g2).mono ?_
   rintro _ h3 ⟨m4, Q5, rfl, hl11⟩
   have O12 := Hold.nm (C10 Q5 (vfs_cons (rR_vf (aE_vf (fun _ _ _ _ h => h))) vfs_nil))
   refine ⟨_, rfl, ?_⟩
   exact (ih _ _ e) (O12.pick [1]).nm hl11
 · exact (ih _ _ e) (O.pick [0]).nm rfl
theorem sq63_k.step_j4 (go : (p : sq63_k.Pt) → Option ((List ByteArray))) (ih : ∀ p r, go p = some r → sq63_k.I p r) (a_0 x_1 x_2 x_3 x_10 x_11) (r) (e : sq63_k.body go (.j4 a_0 x_1 x_2 x_3 x_10 x_11) = some r) : sq63_k.I (.j4 a_0 x_1 x_2 x_3 x_10 x_11) r := by
 unfold sq63_k.body at e
 intro W h0 m0 h m A_0 n_0 c_0 O ne_0
 subst ne_0
 refine f63.j4_in ?_
 unfold f63.j4T
 obtain ⟨y1, g2, e⟩ := bind_e e
 obtain ⟨W7, P8, B9, C10⟩ := O.callC [0]
 refine (sq78.walk P8 rfl g2).mono ?_
 rintro _ h3 ⟨m4, Q5, rfl, hl11⟩
 have O12 := Hold.nm (C10 Q5 (vfs_cons (rR_vf (aE_vf (fun _ _ _ _ h => h))) vfs_nil))
 refine ⟨_, _, rfl, ?_⟩
 refine ⟨by decide, ?_⟩
 refine split_dec_e e (fun c37 e => ?_) (fun c37 e => ?_)
 · obtain ⟨y13, g14, e⟩ := bind_e e
   obtain ⟨W19, P20, B21, C22⟩ := O12.callC [1]
   refine ((ih _ _ g14) P20 hl11).mono ?_
   rintro _ h15 ⟨m16, Q17, rfl, hl23⟩
   have O24 := Hold.nm (C22 Q17 (vfs_cons (rR_vf (aE_vf (fun _ _ _ _ h => h))) vfs_nil))
   refine ⟨rfl, ?_⟩
   exact (ih _ _ e) (O24.pick [2]).nm hl23
 · obtain ⟨y25, g26, e⟩ := bind_e e
   obtain ⟨W31, P32, B33, C34⟩ := O12.callC [1]
   refine ((ih _ _ g26) P32 hl11).mono ?_
   rintro _ h27 ⟨m28, Q29, rfl, hl35⟩
   have O36 := Hold.nm (C34 Q29 (vfs_cons (rR_vf (aE_vf (fun _ _ _ _ h => h))) vfs_nil))
   refine ⟨rfl, ?_⟩
   exact (ih _ _ e) (O36.pick [2]).nm hl35
theorem sq63_k.all {p : sq63_k.Pt} {r : ((List ByteArray))} (e : sq63_k.go p = some r) : sq63_k.I p r := fixF_ind (β := fun _ => ((List ByteArray))) sq63_k.mono (I := sq63_k.I) (fun go ih p r e => match p with
 | .f a_0 x_1 x_2 x_3 => sq63_k.step_f go ih a_0 x_1 x_2 x_3 r e
 | .l0 a_0 x_1 x_2 x_3 b_8 b_9 => sq63_k.step_l0 go ih a_0 x_1 x_2 x_3 b_8 b_9 r e
 | .j0 a_0 x_1 x_2 x_3 b_8 b_9 x_10 => sq63_k.step_j0 go ih a_0 x_1 x_2 x_3 b_8 b_9 x_10 r e
 | .j1 a_0 x_1 x_2 x_3 b_8 b_9 x_10 x_11 x_12 => sq63_k.step_j1 go ih a_0 x_1 x_2 x_3 b_8 b_9 x_10 x_11 x_12 r e
 | .j3 a_0 x_1 x_2 x_3 b_8 b_9 x_10 x_11 b_68 => sq63_k.step_j3 go ih a_0 x_1 x_2 x_3 b_8 b_9 x_10 x_11 b_68 r e
 | .j2 a_0 x_1 x_2 x_3 b_8 b_9 x_10 x_11 => sq63_k.step_j2 go ih a_0 x_1 x_2 x_3 b_8 b_9 x_10 x_11 r e
 | .j5 a_0 x_1 x_2 x_3 b_8 b_9 x_10 x_11 b_87 => sq63_k.step_j5 go ih a_0 x_1 x_2 x_3 b_8 b_9 x_10 x_11 b_87 r e
 | .j4 a_0 x_1 x_2 x_3 x_10 x_11 => sq63_k.step_j4 go ih a_0 x_1 x_2 x_3 x_10 x_11 r e
 ) e
theorem sq63.walk {W h m A_0 n_0 c_0 a_0 x_1 x_2 x_3} (O : Hold W h m h m [rR (aE tell_str) A_0 c_0 a_0]) (ne_0 : n_0 = List.length a_0) {r} (e : sq63 a_0 x_1 x_2 x_3 = some r) : Run Tryd.prog 63 #[Value.slice A_0 n_0 c_0, Value.int .i64 x_1, Value.int .i64 x_2, Value.int .i64 x_3] h (sq63.post W A_0 n_0 c_0 h m r) := sq63_k.all (p := .f a_0 x_1 x_2 x_3) e O ne_0
def slices_Sort_53.post (W : Nat → Prop) (Asl0 : Option Addr) (nsl0 csl0 : Nat) (h0 m0 : Heap) (r : (List ByteArray)) (v : Value) (h : Heap) : Prop := ∃ m , Hold W h0 m0 h m [rR (aE tell_str) Asl0 csl0 r] ∧ v = .tuple #[] ∧ nsl0 = List.length r
noncomputable def slices_Sort_53 (a_0 : List ByteArray) : Option ((List ByteArray)) :=
 Option.bind (math_bits_Len (IntKind.wrap .u64 (((List.length a_0) : Nat) : Int))) fun y1 => Option.bind (sq63 a_0 (0 : Int) (((List.length a_0) : Nat) : Int) y1) fun y8 => some (y8)
theorem slices_Sort_53.walk {W h m A_0 n_0 c_0 a_0} (O : Hold W h m h m [rR (aE tell_str) A_0 c_0 a_0]) (ne_0 : n_0 = List.length a_0) {r} (e : slices_Sort_53 a_0 = some r) : Run Tryd.prog 53 #[Value.slice A_0 n_0 c_0] h (slices_Sort_53.post W A_0 n_0 c_0 h m r) := by
 unfold slices_Sort_53 at e
 subst ne_0
 refine f53.run ?_
 unfold f53.runT
 obtain ⟨y1, g2, e⟩ := bind_e e
 refine (math_bits_Len.walk (Hold.start (W := No) O.s)  g2).mono ?_
 rintro _ h3 ⟨m4, Q5, rfl⟩
 have O7 := Hold.nm (O.retC Q5 vfs_nil)
 refine ⟨_, rfl, ?_⟩
 obtain ⟨y8, g9, e⟩ := bind_e e
 obtain ⟨W14, P15, B16, C17⟩ := O7.callC [0]
 refine (sq63.walk P15 rfl g9).mono ?_
 rintro _ h10 ⟨m11, Q12, rfl, hl18⟩
 have O19 := Hold.nm (C17 Q12 (vfs_cons (rR_vf (aE_vf (fun _ _ _ _ h => h))) vfs_nil))
 refine ⟨rfl, ?_⟩
 cases e
 exact ⟨_, O19.pick [1], rfl, hl18⟩
theorem slices_Sort_53.val (l : List ByteArray) (hn : l.length ≤ 1000000000000000000) : ∃ r, slices_Sort_53 l = some r ∧ r.Perm l ∧ r.Pairwise (· ≤ ·) := by
 have hl : ∀ x y : ByteArray, cmp_Less_76 x y = some (Op.bytesLess (ByteArray.toList x) (ByteArray.toList y)) := fun x y => by unfold cmp_Less_76 cmp_isNaN_88; rw [Option.bind_some, if_neg (by simp)]
 have hlen : ∀ x : Nat, x < 18446744073709551616 → ∃ k : Nat, math_bits_Len (x : Int) = some (k : Int) ∧ k ≤ 64 ∧ (1 ≤ x → 2 ^ k ≤ 2 * x) := by
   intro x hx
   obtain ⟨k, k1, k2⟩ := len_val (F := math_bits_Len64) (j0 := math_bits_Len64.j0) (j1 := math_bits_Len64.j1) (j2 := math_bits_Len64.j2) (fun x => rfl) (fun x n => rfl) (fun x n => rfl) (fun x n => rfl) x hx
   exact ⟨k, by unfold math_bits_Len; rw [k1, Option.bind_some], k2⟩
 have hu : ∀ x : Nat, x ≤ 1000000000000000000 → IntKind.wrap .u64 (x : Int) = x := fun x h => u64_in' (by omega) (by omega)
 have P := pdq_val (lt := fun x y : ByteArray => Op.bytesLess (ByteArray.toList x) (ByteArray.toList y)) ord3_str hl (f := sq63) (l0 := sq63.l0) (j0 := sq63.j0) (j1 := sq63.j1) (j2 := sq63.j2) (j3 := sq63.j3) (j4 := sq63.j4) (j5 := sq63.j5)
   (ins := sq70) (heap := sq71) (brk := sq72) (rev := sq74) (cho := sq73) (pi := sq75) (pe := sq77) (pt := sq78)
   (fun {a b l} h1 h2 h3 => by
     unfold sq70
     by_cases c : a = b
     · subst c
       exact ⟨l, .refl, fun i j _ _ k1 k2 k3 => by omega, by rw [w_succ (by omega), sq70.l0_eq, if_neg (by omega)]⟩
     · rw [w_succ (by omega)]
       exact insertion_val ord3_str hl (f0 := sq70.l0) (f1 := sq70.l1) (fun l a b i => sq70.l0_eq l a b i) (fun l a b i j => by rw [sq70.l1_eq]; simp only [sq70.j1_eq, sq70.j0_eq]) (b - (a + 1)) (a + 1) l (by omega) (by omega) h1 (by omega) (fun i j _ _ k1 k2 k3 => by omega))
   (fun {a b l} h1 h2 h3 => heapSort_val ord3_str hl (f := sq83.l0) (J1 := sq83.j1) (J0 := sq83.j0) (fun l hi a x => sq83.l0_eq l hi a x) (fun l hi a x c b => sq83.j1_eq l hi a x c b) (fun l hi a x c => sq83.j0_eq l hi a x c) (G := sq83) (H := sq71) (f0 := sq71.l0) (f1 := sq71.l1) (fun l lo hi a => rfl) (fun l a lo hi i => sq71.l0_eq l a lo hi i) (fun l a lo i => sq71.l1_eq l a lo i) (fun l a b => rfl) h1 h2 h3)
   (fun {a b l} h1 h2 h3 => by
     obtain ⟨n, rfl⟩ : ∃ n, b = a + n := ⟨b - a, by omega⟩
     unfold sq72
     have w1 : IntKind.wrap .i64 (((a + n : Nat) : Int) - (a : Int)) = (n : Int) := by rw [wrap_in (by omega) (by omega)]; omega
     have w2 : Int.tdiv (n : Int) 4 = ((n / 4 : Nat) : Int) := by rw [Int.tdiv_eq_ediv_of_nonneg (by omega)]; omega
     rw [w1, if_pos (by omega)]
     unfold slices_nextPowerOfTwo
     obtain ⟨k, k1, k2, k3⟩ := hlen n (by omega)
     have k4 := k3 (by omega)
     rw [hu n (by omega), k1, Option.bind_some, if_pos (by omega), Option.bind_some, shl_one (by omega), w2, wrap_in (n := ((n / 4 : Nat) : Int)) (by omega) (by omega), wrap_in (n := ((n / 4 : Nat) : Int) * 2) (by omega) (by omega), wrap_in (n := (a : Int) + ((n / 4 : Nat) : Int) * 2) (by omega) (by omega), wrap_in (by omega) (by omega), show (a : Int) + ((n / 4 : Nat) : Int) * 2 - 1 = ((a + n / 4 * 2 - 1 : Nat) : Int) by omega]
     exact brk_val (F := sq72.l0) (J := sq72.j1) (nx := slices_xorshift_Next) (fun y => ⟨_, rfl⟩) (fun l a n y m i => sq72.l0_eq l a n y m i) (fun l a n y m i o => by rw [sq72.j1_eq]; simp only [sq72.j0_eq]) (Nat.one_le_two_pow) k4 (by omega) 3 (a + n / 4 * 2 - 1) l _ (by omega) (by omega) (by omega) (by omega))
   (fun {a b l} h1 h2 h3 => by
     unfold sq74
     rw [wrap_in (by omega) (by omega), show (b : Int) - 1 = ((b - 1 : Nat) : Int) by omega]
     exact rev_val (f := sq74.l0) (fun l x y => sq74.l0_eq l x y) b a (b - 1) l (by omega) (Nat.le_refl _) (by omega) h2 h3)
   (fun {a b l} h1 h2 h3 => choose_val hl (o := sq89) (fun l x1 x2 y3 => rfl) (md := sq87) (fun l x1 x2 x3 y4 => rfl) (ma := sq86) (fun l x y => rfl) (j0 := sq73.j0) (fun y x => rfl) (j1 := sq73.j1) (fun l y x1 x2 x3 => rfl) (ch := sq73) (fun l a b => rfl) h1 h2 h3)
   (fun {a b l} h1 h2 h3 h4 => pins_val ord3_str hl (l0 := sq75.l0) (l1 := sq75.l1) (l2 := sq75.l2) (l3 := sq75.l3) (j0 := sq75.j0) (j1 := sq75.j1) (j2 := sq75.j2) (j3 := sq75.j3) (P := sq75)
     (fun l a b i s => sq75.l0_eq l a b i s) (fun l a b i s => sq75.l1_eq l a b i s) (fun l a b i s => sq75.j2_eq l a b i s) (fun l a b i s => sq75.j1_eq l a b i s) (fun l a b i s j => sq75.l2_eq l a b i s j) (fun l a b i s => sq75.j3_eq l a b i s) (fun l a b i s j => sq75.l3_eq l a b i s j) (fun l a b i s => sq75.j0_eq l a b i s) (fun l a b => rfl) h1 h2 h3 h4)
   (fun {a b p l} h1 h2 h3 h4 => parte_val ord3_str hl (l0 := sq77.l0) (l1 := sq77.l1) (l2 := sq77.l2) (j0 := sq77.j0) (j1 := sq77.j1) (j2 := sq77.j2) (j3 := sq77.j3) (P := sq77)
     (fun l a b p => rfl) (fun l a i j => sq77.l0_eq l a i j) (fun l a i j => sq77.l1_eq l a i j) (fun l a i j => sq77.j2_eq l a i j) (fun l a i j => sq77.j0_eq l a i j) (fun l a i j => sq77.l2_eq l a i j) (fun l a i j => sq77.j3_eq l a i j) (fun l a i j => sq77.j1_eq l a i j) h1 h2 h3 h4)
   (fun {a b p l} h1 h2 h3 h4 => part_val ord3_str hl (k0 := sq78.l0) (kj2 := sq78.j2) (kj0 := sq78.j0) (k1 := sq78.l1) (kj3 := sq78.j3) (J1 := sq78.j1) (l2 := sq78.l2) (l3 := sq78.l3) (j7 := sq78.j7) (j5 := sq78.j5) (l4 := sq78.l4) (j8 := sq78.j8) (j6 := sq78.j6) (j4 := sq78.j4) (P := sq78)
     (fun l a b p => rfl) (fun l a i j => sq78.l0_eq l a i j) (fun l a i j => sq78.j2_eq l a i j) (fun l a i j => rfl) (fun l a i j => sq78.l1_eq l a i j) (fun l a i j => sq78.j3_eq l a i j) (fun l a i j => rfl) (fun l a i j => sq78.l2_eq l a i j) (fun l a i j => sq78.l3_eq l a i j) (fun l a i j => sq78.j7_eq l a i j) (fun l a i j => sq78.j5_eq l a i j) (fun l a i j => sq78.l4_eq l a i j) (fun l a i j => sq78.j8_eq l a i j) (fun l a i j => sq78.j6_eq l a i j) (fun l a j => rfl) h1 h2 h3 h4)
   (fun l a b lim => sq63_eq l a b lim) (fun l a b lim b8 b9 => sq63.l0_eq l a b lim b8 b9) (fun l a b lim b8 b9 n => sq63.j0_eq l a b lim b8 b9 n) (fun l a b lim b8 b9 n p h => sq63.j1_eq l a b lim b8 b9 n p h) (fun l a b lim b8 b9 n p c => sq63.j3_eq l a b lim b8 b9 n p c) (fun l a b lim b8 b9 n p => sq63.j2_eq l a b lim b8 b9 n p) (fun l a b lim b8 b9 n p c => sq63.j5_eq l a b lim b8 b9 n p c) (fun l a b lim n p => sq63.j4_eq l a b lim n p)
 obtain ⟨k, k1, _⟩ := hlen l.length (by omega)
 obtain ⟨r, t1, t2, t3⟩ := P l.length 0 l.length l (k : Int) true true (by omega) (by omega) (Nat.le_refl _) hn (fun i h0 hi h => by omega)
 refine ⟨r, ?_, t1.1, Srt.all (by rw [t1.len]; exact t2)⟩
 unfold slices_Sort_53
 rw [hu _ hn, k1, Option.bind_some, sq63_eq]
 rw [show (0 : Int) = ((0 : Nat) : Int) from rfl, t3, Option.bind_some]
def sort_Strings.post (W : Nat → Prop) (Asl0 : Option Addr) (nsl0 csl0 : Nat) (h0 m0 : Heap) (r : (List ByteArray)) (v : Value) (h : Heap) : Prop := ∃ m , Hold W h0 m0 h m [rR (aE tell_str) Asl0 csl0 r] ∧ v = .tuple #[] ∧ nsl0 = List.length r
noncomputable def sort_Strings (a_0 : List ByteArray) : Option ((List ByteArray)) :=
 Option.bind (slices_Sort_53 a_0) fun y1 => some (y1)
theorem sort_Strings.walk {W h m A_0 n_0 c_0 a_0} (O : Hold W h m h m [rR (aE tell_str) A_0 c_0 a_0]) (ne_0 : n_0 = List.length a_0) {r} (e : sort_Strings a_0 = some r) : Run Tryd.prog 40 #[Value.slice A_0 n_0 c_0] h (sort_Strings.post W A_0 n_0 c_0 h m r) := by
 unfold sort_Strings at e
 subst ne_0
 refine f40.run ?_
 unfold f40.runT
 obtain ⟨y1, g2, e⟩ := bind_e e
 obtain ⟨W7, P8, B9, C10⟩ := O.callC [0]
 refine (slices_Sort_53.walk P8 rfl g2).mono ?_
 rintro _ h3 ⟨m4, Q5, rfl, hl11⟩
 have O12 := Hold.nm (C10 Q5 (vfs_cons (rR_vf (aE_vf (fun _ _ _ _ h => h))) vfs_nil))
 refine ⟨rfl, ?_⟩
 cases e
 exact ⟨_, O12.pick [1], rfl, hl11⟩
def roadref4_Names_Sorted.post (W : Nat → Prop) (bkio0 : Nat) (h0 m0 : Heap) (r : (List ByteArray) × T_roadref4_Names) (v : Value) (h : Heap) : Prop := ∃ m A0 n0 c0 bio0_2, Hold W h0 m0 h m [rR (aE tell_str) A0 c0 r.1, rV bkio0 38 [(Value.int .i64 r.2.Node), (Value.int .i64 r.2.Count), (Value.map (some bio0_2))], rM (monoV1 T_roadref4_Meaning.T) (fun s : ByteArray => Value.string s) bio0_2 r.2.Rows] ∧ v = .slice A0 n0 c0 ∧ n0 = List.length r.1
inductive roadref4_Names_Sorted.l0_k.Pt where
 | l0 (a_3 : List ByteArray) (x_io0_0 : Int) (x_io0_1 : Int) (a_io0_2 : (List (ByteArray × T_roadref4_Meaning))) (left_9 : (List (ByteArray × T_roadref4_Meaning)))
noncomputable def roadref4_Names_Sorted.l0_k.body (go : (p : roadref4_Names_Sorted.l0_k.Pt) → Option ((List ByteArray) × T_roadref4_Names)) : (p : roadref4_Names_Sorted.l0_k.Pt) → Option ((List ByteArray) × T_roadref4_Names)
 | .l0 a_3 x_io0_0 x_io0_1 a_io0_2 left_9 => pickF left_9 (Option.bind (sort_Strings a_3) fun y13 => some (y13, (T_roadref4_Names.mk x_io0_0 x_io0_1 a_io0_2))) fun z4 l10 => Option.bind (ap 16 a_3 ([z4.1] : List ByteArray)) fun l32 => (go (.l0 l32 x_io0_0 x_io0_1 a_io0_2 l10))
theorem roadref4_Names_Sorted.l0_k.mono : MonoF (β := fun _ => ((List ByteArray) × T_roadref4_Names)) roadref4_Names_Sorted.l0_k.body := fun f g hfg p => match p with
 | .l0 a_3 x_io0_0 x_io0_1 a_io0_2 left_9 => LeO.pick (LeO.bind (LeO.refl _) fun y13 => LeO.refl _) fun z4 l10 => LeO.bind (LeO.refl _) fun l32 => (hfg _)
noncomputable def roadref4_Names_Sorted.l0_k.go (p : roadref4_Names_Sorted.l0_k.Pt) : Option ((List ByteArray) × T_roadref4_Names) := fixF (β := fun _ => ((List ByteArray) × T_roadref4_Names)) roadref4_Names_Sorted.l0_k.body p
noncomputable def roadref4_Names_Sorted.l0 (a_3 x_io0_0 x_io0_1 a_io0_2 left_9) := roadref4_Names_Sorted.l0_k.go (.l0 a_3 x_io0_0 x_io0_1 a_io0_2 left_9)
theorem roadref4_Names_Sorted.l0_eq (a_3 x_io0_0 x_io0_1 a_io0_2 left_9) : roadref4_Names_Sorted.l0 a_3 x_io0_0 x_io0_1 a_io0_2 left_9 = pickF left_9 (Option.bind (sort_Strings a_3) fun y13 => some (y13, (T_roadref4_Names.mk x_io0_0 x_io0_1 a_io0_2))) fun z4 l10 => Option.bind (ap 16 a_3 ([z4.1] : List ByteArray)) fun l32 => (roadref4_Names_Sorted.l0 l32 x_io0_0 x_io0_1 a_io0_2 l10) := fixF_eq roadref4_Names_Sorted.l0_k.mono _
def roadref4_Names_Sorted.l0_k.I : (p : roadref4_Names_Sorted.l0_k.Pt) → ((List ByteArray) × T_roadref4_Names) → Prop
 | .l0 a_3 x_io0_0 x_io0_1 a_io0_2 left_9, r => ∀ {W h0 m0 h m A_3 n_3 c_3 it_9 bk_io0 b_io0_2_0} (O : Hold W h0 m0 h m [rR (aE tell_str) A_3 c_3 a_3, rV bk_io0 38 [(Value.int .i64 x_io0_0), (Value.int .i64 x_io0_1), (Value.map (some b_io0_2_0))], rMI (monoV1 T_roadref4_Meaning.T) (fun s : ByteArray => Value.string s) b_io0_2_0 it_9 a_io0_2 left_9]) (ne_3 : n_3 = List.length a_3), f29.l0 (roadref4_Names_Sorted.post W bk_io0 h0 m0 r) A_3 n_3 c_3 (Value.pointer (some ⟨it_9, 0, none⟩)) h
theorem roadref4_Names_Sorted.l0_k.step_l0 (go : (p : roadref4_Names_Sorted.l0_k.Pt) → Option ((List ByteArray) × T_roadref4_Names)) (ih : ∀ p r, go p = some r → roadref4_Names_Sorted.l0_k.I p r) (a_3 x_io0_0 x_io0_1 a_io0_2 left_9) (r) (e : roadref4_Names_Sorted.l0_k.body go (.l0 a_3 x_io0_0 x_io0_1 a_io0_2 left_9) = some r) : roadref4_Names_Sorted.l0_k.I (.l0 a_3 x_io0_0 x_io0_1 a_io0_2 left_9) r := by
 unfold roadref4_Names_Sorted.l0_k.body at e
 intro W h0 m0 h m A_3 n_3 c_3 it_9 bk_io0 b_io0_2_0 O ne_3
 subst ne_3
 refine f29.l0_in ?_
 unfold f29.l0T
 refine O.mapNext 2 rfl (fun w12 O1 => ?_) (fun j3 z4 l10 v5 h6 g7 q11 hv8 O2 hn9 => ?_)
 · replace e := pick_a e w12
   obtain ⟨y13, g14, e⟩ := bind_e e
   have O19 := O1.nm
   obtain ⟨W20, P21, B22, C23⟩ := O19.callC [0]
   refine (sort_Strings.walk P21 rfl g14).mono ?_
   rintro _ h15 ⟨m16, Q17, rfl, hl24⟩
   have O25 := Hold.nm (C23 Q17 (vfs_cons (rR_vf (aE_vf (fun _ _ _ _ h => h))) vfs_nil))
   refine ⟨rfl, ?_⟩
   cases e
   exact ⟨_, _, _, _, _, O25.pick [3, 1, 2], rfl, hl24⟩
 · replace e := pick_b e g7 q11
   refine hn9 _ ?_
   obtain ⟨cs26, rfl, he27⟩ := hv8
   refine ⟨_, _, rfl, ?_⟩
   refine O2.new fun h28 x29 O30 => ?_
   obtain ⟨l32, g33, e⟩ := bind_e e
   have O40 := O30.rowE (l := ([z4.1] : List ByteArray)) 3 rfl tell_str (show CsE _ _ _ _ _ from (CsE.cons (c1 := [(Value.string z4.1)]) rfl rfl CsE.nil)) rfl
   refine O40.app 0 rfl rfl rfl ((O40.os 3 rfl).srcE rfl) (by decide) g33 fun A34 c35 h36 O37 => ?_
   refine ⟨_, _, _, rfl, ?_⟩
   have O41 := O37.nm
   exact (ih _ _ e) (O41.pick [0, 1, 2]).nm rfl
theorem roadref4_Names_Sorted.l0_k.all {p : roadref4_Names_Sorted.l0_k.Pt} {r : ((List ByteArray) × T_roadref4_Names)} (e : roadref4_Names_Sorted.l0_k.go p = some r) : roadref4_Names_Sorted.l0_k.I p r := fixF_ind (β := fun _ => ((List ByteArray) × T_roadref4_Names)) roadref4_Names_Sorted.l0_k.mono (I := roadref4_Names_Sorted.l0_k.I) (fun go ih p r e => match p with
 | .l0 a_3 x_io0_0 x_io0_1 a_io0_2 left_9 => roadref4_Names_Sorted.l0_k.step_l0 go ih a_3 x_io0_0 x_io0_1 a_io0_2 left_9 r e
 ) e
noncomputable def roadref4_Names_Sorted (y_0 : T_roadref4_Names) : Option ((List ByteArray) × T_roadref4_Names) :=
 (roadref4_Names_Sorted.l0 ([] : List ByteArray) y_0.Node y_0.Count y_0.Rows y_0.Rows)
theorem roadref4_Names_Sorted.walk {W h m bkio0 b_0_2 y_0} (O : Hold W h m h m [rV bkio0 38 [(Value.int .i64 y_0.Node), (Value.int .i64 y_0.Count), (Value.map (some b_0_2))], rM (monoV1 T_roadref4_Meaning.T) (fun s : ByteArray => Value.string s) b_0_2 y_0.Rows]) {r} (e : roadref4_Names_Sorted y_0 = some r) : Run Tryd.prog 29 #[Value.pointer (some ⟨bkio0, 0, none⟩)] h (roadref4_Names_Sorted.post W bkio0 h m r) := by
 unfold roadref4_Names_Sorted at e
 refine f29.run ?_
 unfold f29.runT
 refine ⟨_, ldk (k := 2) (Sub.refl _) (O.all 0 rfl) rfl, ?_⟩
 refine O.mapRange (key := 9) (elem := 43) 1 rfl (by kernel_rfl) fun h1 x2 O3 => ?_
 have O4 := O3.nil (aE tell_str) none
 have O6 := O4.nm
 exact (roadref4_Names_Sorted.l0_k.all e) (O6.pick [2, 0, 1]).nm rfl
def slices_Equal_30.post (W : Nat → Prop) (h0 m0 : Heap) (r : Bool) (v : Value) (h : Heap) : Prop := ∃ m , Hold W h0 m0 h m [] ∧ v = .bool r
inductive slices_Equal_30.l0_k.Pt where
 | l0 (a_0 : List T_names_Name) (a_1 : List T_names_Name) (x_12 : Int) (x_13 : Int)
noncomputable def slices_Equal_30.l0_k.body (go : (p : slices_Equal_30.l0_k.Pt) → Option (Bool)) : (p : slices_Equal_30.l0_k.Pt) → Option (Bool)
 | .l0 a_0 a_1 x_12 x_13 => if x_13 < x_12 then (Option.bind (gi a_0 x_13) fun y1 => Option.bind (gi a_1 x_13) fun y8 => if ((y1.Name == y8.Name) && ((y1.Ref == y8.Ref) && true)) = true then ((go (.l0 a_0 a_1 x_12 (IntKind.wrap .i64 (x_13 + (1 : Int)))))) else (some (false))) else (some (true))
theorem slices_Equal_30.l0_k.mono : MonoF (β := fun _ => (Bool)) slices_Equal_30.l0_k.body := fun f g hfg p => match p with
 | .l0 a_0 a_1 x_12 x_13 => LeO.ite (LeO.bind (LeO.refl _) fun y1 => LeO.bind (LeO.refl _) fun y8 => LeO.ite ((hfg _)) (LeO.refl _)) (LeO.refl _)
noncomputable def slices_Equal_30.l0_k.go (p : slices_Equal_30.l0_k.Pt) : Option (Bool) := fixF (β := fun _ => (Bool)) slices_Equal_30.l0_k.body p
noncomputable def slices_Equal_30.l0 (a_0 a_1 x_12 x_13) := slices_Equal_30.l0_k.go (.l0 a_0 a_1 x_12 x_13)
theorem slices_Equal_30.l0_eq (a_0 a_1 x_12 x_13) : slices_Equal_30.l0 a_0 a_1 x_12 x_13 = if x_13 < x_12 then (Option.bind (gi a_0 x_13) fun y1 => Option.bind (gi a_1 x_13) fun y8 => if ((y1.Name == y8.Name) && ((y1.Ref == y8.Ref) && true)) = true then ((slices_Equal_30.l0 a_0 a_1 x_12 (IntKind.wrap .i64 (x_13 + (1 : Int))))) else (some (false))) else (some (true)) := fixF_eq slices_Equal_30.l0_k.mono _
def slices_Equal_30.l0_k.I : (p : slices_Equal_30.l0_k.Pt) → (Bool) → Prop
 | .l0 a_0 a_1 x_12 x_13, r => ∀ {W h0 m0 h m A_0 n_0 c_0 A_1 n_1 c_1} (O : Hold W h0 m0 h m []) (ne_0 : n_0 = List.length a_0) (k_0 : List.length a_0 ≤ c_0) (r_0 : Rd 2 T_names_Name.E m A_0 a_0) (ne_1 : n_1 = List.length a_1) (k_1 : List.length a_1 ≤ c_1) (r_1 : Rd 2 T_names_Name.E m A_1 a_1), f30.l0 (slices_Equal_30.post W h0 m0 r) A_0 n_0 c_0 A_1 n_1 c_1 x_12 x_13 h
theorem slices_Equal_30.l0_k.step_l0 (go : (p : slices_Equal_30.l0_k.Pt) → Option (Bool)) (ih : ∀ p r, go p = some r → slices_Equal_30.l0_k.I p r) (a_0 a_1 x_12 x_13) (r) (e : slices_Equal_30.l0_k.body go (.l0 a_0 a_1 x_12 x_13) = some r) : slices_Equal_30.l0_k.I (.l0 a_0 a_1 x_12 x_13) r := by
 unfold slices_Equal_30.l0_k.body at e
 intro W h0 m0 h m A_0 n_0 c_0 A_1 n_1 c_1 O ne_0 k_0 r_0 ne_1 k_1 r_1
 subst ne_0
 subst ne_1
 refine f30.l0_in ?_
 unfold f30.l0T
 refine split_dec_e e (fun c18 e => ?_) (fun c18 e => ?_)
 · obtain ⟨y1, g2, e⟩ := bind_e e
   refine r_0.addr rfl g2 fun a3 cs4 ha5 hc6 he7 => ?_
   obtain ⟨y8, g9, e⟩ := bind_e e
   refine r_1.addr rfl g9 fun a10 cs11 ha12 hc13 he14 => ?_
   refine ⟨_, ldAn O.s hc6 rfl, ?_⟩
   refine ⟨_, ldAn O.s hc13 rfl, ?_⟩
   obtain rfl : cs4 = [(Value.string y1.Name), (Value.int .i64 y1.Ref)] := he7
   obtain rfl : cs11 = [(Value.string y8.Name), (Value.int .i64 y8.Ref)] := he14
   refine gen_neq (b := ((y1.Name == y8.Name) && ((y1.Ref == y8.Ref) && true))) (by kernel_rfl) ?_
   refine ⟨_, rfl, ?_⟩
   refine split_not ?_
   refine split_any_e e (fun c17 e => ?_) (fun c17 e => ?_)
   · exact (ih _ _ e) (O.pick []).nm rfl k_0 r_0 rfl k_1 r_1
   · cases e
     exact ⟨_, O.pick [], rfl⟩
 · cases e
   exact ⟨_, O.pick [], rfl⟩
theorem slices_Equal_30.l0_k.all {p : slices_Equal_30.l0_k.Pt} {r : (Bool)} (e : slices_Equal_30.l0_k.go p = some r) : slices_Equal_30.l0_k.I p r := fixF_ind (β := fun _ => (Bool)) slices_Equal_30.l0_k.mono (I := slices_Equal_30.l0_k.I) (fun go ih p r e => match p with
 | .l0 a_0 a_1 x_12 x_13 => slices_Equal_30.l0_k.step_l0 go ih a_0 a_1 x_12 x_13 r e
 ) e
noncomputable def slices_Equal_30 (a_0 : List T_names_Name) (a_1 : List T_names_Name) : Option (Bool) :=
 if (((List.length a_0) : Nat) : Int) = (((List.length a_1) : Nat) : Int) then ((slices_Equal_30.l0 a_0 a_1 (((List.length a_0) : Nat) : Int) (0 : Int))) else (some (false))
theorem slices_Equal_30.walk {W h m A_0 n_0 c_0 A_1 n_1 c_1 a_0 a_1} (O : Hold W h m h m []) (ne_0 : n_0 = List.length a_0) (k_0 : List.length a_0 ≤ c_0) (r_0 : Rd 2 T_names_Name.E m A_0 a_0) (ne_1 : n_1 = List.length a_1) (k_1 : List.length a_1 ≤ c_1) (r_1 : Rd 2 T_names_Name.E m A_1 a_1) {r} (e : slices_Equal_30 a_0 a_1 = some r) : Run Tryd.prog 30 #[Value.slice A_0 n_0 c_0, Value.slice A_1 n_1 c_1] h (slices_Equal_30.post W h m r) := by
 unfold slices_Equal_30 at e
 subst ne_0
 subst ne_1
 refine f30.run ?_
 unfold f30.runT
 refine split_ne_e e (fun c1 e => ?_) (fun c1 e => ?_)
 · cases e
   exact ⟨_, O.pick [], rfl⟩
 · exact (slices_Equal_30.l0_k.all e) (O.pick []).nm rfl k_0 r_0 rfl k_1 r_1
def names_Names_All.post (W : Nat → Prop) (h0 m0 : Heap) (r : (List T_names_Name)) (v : Value) (h : Heap) : Prop := ∃ m A0 n0 c0, Hold W h0 m0 h m [rR (aE T_names_Name.T) A0 c0 r] ∧ v = .slice A0 n0 c0 ∧ n0 = List.length r
inductive names_Names_All.l0_k.Pt where
 | l0 (a_3 : List T_names_Name) (a_9 : List T_names_Row) (x_10 : Int) (x_11 : Int)
noncomputable def names_Names_All.l0_k.body (go : (p : names_Names_All.l0_k.Pt) → Option ((List T_names_Name))) : (p : names_Names_All.l0_k.Pt) → Option ((List T_names_Name))
 | .l0 a_3 a_9 x_10 x_11 => if x_11 < x_10 then (Option.bind (gi a_9 x_11) fun y1 => if y1.Ref > (0 : Int) then (Option.bind (ap 24 a_3 ([(T_names_Name.mk y1.Name y1.Ref)] : List T_names_Name)) fun l18 => (go (.l0 l18 a_9 x_10 (IntKind.wrap .i64 (x_11 + (1 : Int)))))) else ((go (.l0 a_3 a_9 x_10 (IntKind.wrap .i64 (x_11 + (1 : Int))))))) else (some (a_3))
theorem names_Names_All.l0_k.mono : MonoF (β := fun _ => ((List T_names_Name))) names_Names_All.l0_k.body := fun f g hfg p => match p with
 | .l0 a_3 a_9 x_10 x_11 => LeO.ite (LeO.bind (LeO.refl _) fun y1 => LeO.ite (LeO.bind (LeO.refl _) fun l18 => (hfg _)) ((hfg _))) (LeO.refl _)
noncomputable def names_Names_All.l0_k.go (p : names_Names_All.l0_k.Pt) : Option ((List T_names_Name)) := fixF (β := fun _ => ((List T_names_Name))) names_Names_All.l0_k.body p
noncomputable def names_Names_All.l0 (a_3 a_9 x_10 x_11) := names_Names_All.l0_k.go (.l0 a_3 a_9 x_10 x_11)
theorem names_Names_All.l0_eq (a_3 a_9 x_10 x_11) : names_Names_All.l0 a_3 a_9 x_10 x_11 = if x_11 < x_10 then (Option.bind (gi a_9 x_11) fun y1 => if y1.Ref > (0 : Int) then (Option.bind (ap 24 a_3 ([(T_names_Name.mk y1.Name y1.Ref)] : List T_names_Name)) fun l18 => (names_Names_All.l0 l18 a_9 x_10 (IntKind.wrap .i64 (x_11 + (1 : Int))))) else ((names_Names_All.l0 a_3 a_9 x_10 (IntKind.wrap .i64 (x_11 + (1 : Int)))))) else (some (a_3)) := fixF_eq names_Names_All.l0_k.mono _
def names_Names_All.l0_k.I : (p : names_Names_All.l0_k.Pt) → ((List T_names_Name)) → Prop
 | .l0 a_3 a_9 x_10 x_11, r => ∀ {W h0 m0 h m A_3 n_3 c_3 A_9 n_9 c_9} (O : Hold W h0 m0 h m [rR (aE T_names_Name.T) A_3 c_3 a_3]) (ne_3 : n_3 = List.length a_3) (ne_9 : n_9 = List.length a_9) (k_9 : List.length a_9 ≤ c_9) (r_9 : Rd 4 T_names_Row.E m A_9 a_9), f31.l0 (names_Names_All.post W h0 m0 r) A_3 n_3 c_3 A_9 n_9 c_9 x_10 x_11 h
theorem names_Names_All.l0_k.step_l0 (go : (p : names_Names_All.l0_k.Pt) → Option ((List T_names_Name))) (ih : ∀ p r, go p = some r → names_Names_All.l0_k.I p r) (a_3 a_9 x_10 x_11) (r) (e : names_Names_All.l0_k.body go (.l0 a_3 a_9 x_10 x_11) = some r) : names_Names_All.l0_k.I (.l0 a_3 a_9 x_10 x_11) r := by
 unfold names_Names_All.l0_k.body at e
 intro W h0 m0 h m A_3 n_3 c_3 A_9 n_9 c_9 O ne_3 ne_9 k_9 r_9
 subst ne_3
 subst ne_9
 refine f31.l0_in ?_
 unfold f31.l0T
 refine split_dec_e e (fun c30 e => ?_) (fun c30 e => ?_)
 · obtain ⟨y1, g2, e⟩ := bind_e e
   refine r_9.addr rfl g2 fun a3 cs4 ha5 hc6 he7 => ?_
   refine ⟨_, ldAn O.s hc6 rfl, ?_⟩
   refine O.new fun h8 x9 O10 => ?_
   refine ⟨_, rfl, (T_names_Row.T.len _ _ _ he7), ?_⟩
   refine O10.stA 1 rfl (T_names_Row.T.len _ _ _ he7) (T_names_Row.T.flat _ _ _ he7) fun h12 O13 => ?_
   refine ⟨_, ldk (k := 1) (Sub.refl _) (O13.all 1 rfl) (T_names_Row.g1 he7), _, rfl, ?_⟩
   refine split_dec_e e (fun c29 e => ?_) (fun c29 e => ?_)
   · refine ⟨_, ld0 (Sub.refl _) (O13.all 1 rfl) (T_names_Row.g0 he7), _, rfl, ?_⟩
     refine ⟨_, ldk (k := 1) (Sub.refl _) (O13.all 1 rfl) (T_names_Row.g1 he7), _, rfl, ?_⟩
     refine ⟨[(Value.string y1.Name), (Value.int .i64 y1.Ref)], rfl, rfl, ?_⟩
     refine O13.new fun h14 x15 O16 => ?_
     obtain ⟨l18, g19, e⟩ := bind_e e
     have O26 := O16.rowE (l := ([(T_names_Name.mk y1.Name y1.Ref)] : List T_names_Name)) 2 rfl T_names_Name.T (show CsE _ _ _ _ _ from (CsE.cons (c1 := [(Value.string y1.Name), (Value.int .i64 y1.Ref)]) (show T_names_Name.E _ (T_names_Name.mk y1.Name y1.Ref) [(Value.string y1.Name), (Value.int .i64 y1.Ref)] from rfl) rfl CsE.nil)) rfl
     refine O26.app 0 rfl rfl rfl ((O26.os 2 rfl).srcE rfl) (by decide) g19 fun A20 c21 h22 O23 => ?_
     refine ⟨_, _, _, rfl, ?_⟩
     have O27 := O23.nm
     exact (ih _ _ e) (O27.pick [0]).nm rfl rfl k_9 r_9
   · have O28 := O13.nm
     exact (ih _ _ e) (O28.pick [0]).nm rfl rfl k_9 r_9
 · cases e
   exact ⟨_, _, _, _, O.pick [0], rfl, rfl⟩
theorem names_Names_All.l0_k.all {p : names_Names_All.l0_k.Pt} {r : ((List T_names_Name))} (e : names_Names_All.l0_k.go p = some r) : names_Names_All.l0_k.I p r := fixF_ind (β := fun _ => ((List T_names_Name))) names_Names_All.l0_k.mono (I := names_Names_All.l0_k.I) (fun go ih p r e => match p with
 | .l0 a_3 a_9 x_10 x_11 => names_Names_All.l0_k.step_l0 go ih a_3 a_9 x_10 x_11 r e
 ) e
noncomputable def names_Names_All (y_0 : T_names_Names) : Option ((List T_names_Name)) :=
 (names_Names_All.l0 ([] : List T_names_Name) y_0.rows_ (((List.length y_0.rows_) : Nat) : Int) (0 : Int))
theorem names_Names_All.walk {W h m bk_0 y_0} (O : Hold W h m h m []) (v_0 : VB T_names_Names.E m bk_0 y_0) {r} (e : names_Names_All y_0 = some r) : Run Tryd.prog 31 #[Value.pointer (some ⟨bk_0, 0, none⟩)] h (names_Names_All.post W h m r) := by
 unfold names_Names_All at e
 obtain ⟨cs_0, t_0, hb_0, nn_0, e_0⟩ := id v_0
 refine f31.run ?_
 unfold f31.runT
 obtain ⟨A1, c2, q3, k4, r5⟩ := T_names_Names.g2 e_0
 refine ⟨_, ldk (k := 2) O.s (Blk.all' hb_0) q3, _, _, _, rfl, ?_⟩
 have O6 := O.nil (aE T_names_Name.T) none
 have O8 := O6.nm
 exact (names_Names_All.l0_k.all e) (O8.pick [0]).nm rfl rfl k4 r5
def roadlaw4_namesTell.post (W : Nat → Prop) (bkio1 : Nat) (h0 m0 : Heap) (r : Bool × T_roadref4_Names) (v : Value) (h : Heap) : Prop := ∃ m bio1_2, Hold W h0 m0 h m [rV bkio1 38 [(Value.int .i64 r.2.Node), (Value.int .i64 r.2.Count), (Value.map (some bio1_2))], rM (monoV1 T_roadref4_Meaning.T) (fun s : ByteArray => Value.string s) bio1_2 r.2.Rows] ∧ v = .bool r.1
noncomputable def roadlaw4_namesTell.j0 (y_0 : T_names_Names) (a_7 : List T_names_Row) (a_8 : List T_names_Name) (x_12 : Int) (x_13 : Int) (x_14 : Int) (x_15 : Int) (x_io1_0 : Int) (x_io1_1 : Int) (a_io1_2 : (List (ByteArray × T_roadref4_Meaning))) : Option (Bool × T_roadref4_Names) :=
 if x_12 = x_15 then (if x_13 = x_14 then (Option.bind (names_Names_State y_0) fun y1 => Option.bind (slices_Equal_6 y1 a_7) fun y13 => if y13 = true then (Option.bind (names_Names_All y_0) fun y29 => Option.bind (slices_Equal_30 y29 a_8) fun y41 => some (y41, (T_roadref4_Names.mk x_io1_0 x_io1_1 a_io1_2))) else (some (false, (T_roadref4_Names.mk x_io1_0 x_io1_1 a_io1_2)))) else (some (false, (T_roadref4_Names.mk x_io1_0 x_io1_1 a_io1_2)))) else (some (false, (T_roadref4_Names.mk x_io1_0 x_io1_1 a_io1_2)))
set_option maxHeartbeats 4000000 in
theorem roadlaw4_namesTell.j0.walk {W h0 m0 h m bk_0 A_7 n_7 c_7 A_8 n_8 c_8 bk_io1 b_io1_2_0 y_0 a_7 a_8 x_12 x_13 x_14 x_15 x_io1_0 x_io1_1 a_io1_2} (O : Hold W h0 m0 h m [rR (aE T_names_Row.T) A_7 c_7 a_7, rR (aE T_names_Name.T) A_8 c_8 a_8, rV bk_io1 38 [(Value.int .i64 x_io1_0), (Value.int .i64 x_io1_1), (Value.map (some b_io1_2_0))], rM (monoV1 T_roadref4_Meaning.T) (fun s : ByteArray => Value.string s) b_io1_2_0 a_io1_2]) (v_0 : VB T_names_Names.E m bk_0 y_0) (ne_7 : n_7 = List.length a_7) (ne_8 : n_8 = List.length a_8) {r} (e : roadlaw4_namesTell.j0 y_0 a_7 a_8 x_12 x_13 x_14 x_15 x_io1_0 x_io1_1 a_io1_2 = some r) : f15.j0 (roadlaw4_namesTell.post W bk_io1 h0 m0 r) (⟨bk_0, 0, none⟩ : Addr) A_7 n_7 c_7 A_8 n_8 c_8 x_12 x_13 x_14 x_15 h := by
 unfold roadlaw4_namesTell.j0 at e
 obtain ⟨cs_0, t_0, hb_0, nn_0, e_0⟩ := id v_0
 subst ne_7
 subst ne_8
 refine f15.j0_in ?_
 unfold f15.j0T
 refine split_eq_e e (fun c59 e => ?_) (fun c59 e => ?_)
 · refine split_eq_e e (fun c58 e => ?_) (fun c58 e => ?_)
   · obtain ⟨y1, g2, e⟩ := bind_e e
     refine (names_Names_State.walk (Hold.start (W := No) O.s) v_0 g2).mono ?_
     rintro _ h3 ⟨m4, A7, n8, c9, Q5, rfl, ne10⟩
     have O12 := Hold.nm (O.retC Q5 (vfs_cons (rR_vf (aE_vf (fun _ _ _ _ h => T_names_Row.keep h))) vfs_nil))
     subst ne10
     refine ⟨_, _, _, rfl, ?_⟩
     obtain ⟨y13, g14, e⟩ := bind_e e
     obtain ⟨m19, u20, s27, ⟨⟨r23, k24⟩, ⟨r25, k26⟩, _⟩, B21, C22⟩ := O12.lend0 [4, 0]
     replace r23 : Rd 4 T_names_Row.E m19 A7 y1 := r23
     replace k24 : List.length y1 ≤ c9 := k24
     replace r25 : Rd 4 T_names_Row.E m19 A_7 a_7 := r25
     replace k26 : List.length a_7 ≤ c_7 := k26
     refine (slices_Equal_6.walk (Hold.start (W := No) s27) rfl k24 r23 rfl k26 r25 g14).mono ?_
     rintro _ h15 ⟨m16, Q17, rfl⟩
     have O28 := Hold.nm (C22 Q17 vfs_nil)
     refine ⟨_, rfl, ?_⟩
     refine split_any_e e (fun c57 e => ?_) (fun c57 e => ?_)
     · obtain ⟨y29, g30, e⟩ := bind_e e
       refine (names_Names_All.walk (Hold.start (W := No) O28.s) v_0 g30).mono ?_
       rintro _ h31 ⟨m32, A35, n36, c37, Q33, rfl, ne38⟩
       have O40 := Hold.nm (O28.retC Q33 (vfs_cons (rR_vf (aE_vf (fun _ _ _ _ h => T_names_Name.keep h))) vfs_nil))
       subst ne38
       refine ⟨_, _, _, rfl, ?_⟩
       obtain ⟨y41, g42, e⟩ := bind_e e
       obtain ⟨m47, u48, s55, ⟨⟨r51, k52⟩, ⟨r53, k54⟩, _⟩, B49, C50⟩ := O40.lend0 [5, 1]
       replace r51 : Rd 2 T_names_Name.E m47 A35 y29 := r51
       replace k52 : List.length y29 ≤ c37 := k52
       replace r53 : Rd 2 T_names_Name.E m47 A_8 a_8 := r53
       replace k54 : List.length a_8 ≤ c_8 := k54
       refine (slices_Equal_30.walk (Hold.start (W := No) s55) rfl k52 r51 rfl k54 r53 g42).mono ?_
       rintro _ h43 ⟨m44, Q45, rfl⟩
       have O56 := Hold.nm (C50 Q45 vfs_nil)
       refine ⟨_, rfl, ?_⟩
       cases e
       exact ⟨_, _, O56.pick [2, 3], rfl⟩
     · cases e
       exact ⟨_, _, O28.pick [2, 3], rfl⟩
   · cases e
     exact ⟨_, _, O.pick [2, 3], rfl⟩
 · cases e
   exact ⟨_, _, O.pick [2, 3], rfl⟩
inductive roadlaw4_namesTell.l0_k.Pt where
 | l0 (y_0 : T_names_Names) (x_io1_0 : Int) (x_io1_1 : Int) (a_io1_2 : (List (ByteArray × T_roadref4_Meaning))) (s_2 : ByteArray) (a_7 : List T_names_Row) (a_8 : List T_names_Name) (a_17 : List ByteArray) (x_18 : Int) (x_19 : Int)
noncomputable def roadlaw4_namesTell.l0_k.body (go : (p : roadlaw4_namesTell.l0_k.Pt) → Option (Bool × T_roadref4_Names)) : (p : roadlaw4_namesTell.l0_k.Pt) → Option (Bool × T_roadref4_Names)
 | .l0 y_0 x_io1_0 x_io1_1 a_io1_2 s_2 a_7 a_8 a_17 x_18 x_19 => if x_19 < x_18 then (Option.bind (gi a_17 x_19) fun y1 => Option.bind (ap 40 a_7 ([(T_names_Row.mk y1 ((pgd a_io1_2 y1 (T_roadref4_Meaning.mk (0 : Int) (0 : Int) (0 : Int))).Ref) ((pgd a_io1_2 y1 (T_roadref4_Meaning.mk (0 : Int) (0 : Int) (0 : Int))).Count) ((pgd a_io1_2 y1 (T_roadref4_Meaning.mk (0 : Int) (0 : Int) (0 : Int))).Node))] : List T_names_Row)) fun l22 => if ((pgd a_io1_2 y1 (T_roadref4_Meaning.mk (0 : Int) (0 : Int) (0 : Int))).Ref) > (0 : Int) then (Option.bind (ap 24 a_8 ([(T_names_Name.mk y1 ((pgd a_io1_2 y1 (T_roadref4_Meaning.mk (0 : Int) (0 : Int) (0 : Int))).Ref))] : List T_names_Name)) fun l36 => (go (.l0 y_0 x_io1_0 x_io1_1 a_io1_2 s_2 l22 l36 a_17 x_18 (IntKind.wrap .i64 (x_19 + (1 : Int)))))) else ((go (.l0 y_0 x_io1_0 x_io1_1 a_io1_2 s_2 l22 a_8 a_17 x_18 (IntKind.wrap .i64 (x_19 + (1 : Int))))))) else (Option.bind (names_Names_Find y_0 s_2) fun y47 => Option.bind (roadref4_Word s_2) fun y58 => if y58 = true then (if ((pgd a_io1_2 s_2 (T_roadref4_Meaning.mk (0 : Int) (0 : Int) (0 : Int))).Ref) = (0 : Int) then ((roadlaw4_namesTell.j0 y_0 a_7 a_8 y47.1 y47.2 (4 : Int) ((pgd a_io1_2 s_2 (T_roadref4_Meaning.mk (0 : Int) (0 : Int) (0 : Int))).Ref) x_io1_0 x_io1_1 a_io1_2)) else ((roadlaw4_namesTell.j0 y_0 a_7 a_8 y47.1 y47.2 (0 : Int) ((pgd a_io1_2 s_2 (T_roadref4_Meaning.mk (0 : Int) (0 : Int) (0 : Int))).Ref) x_io1_0 x_io1_1 a_io1_2))) else ((roadlaw4_namesTell.j0 y_0 a_7 a_8 y47.1 y47.2 (3 : Int) ((pgd a_io1_2 s_2 (T_roadref4_Meaning.mk (0 : Int) (0 : Int) (0 : Int))).Ref) x_io1_0 x_io1_1 a_io1_2)))
theorem roadlaw4_namesTell.l0_k.mono : MonoF (β := fun _ => (Bool × T_roadref4_Names)) roadlaw4_namesTell.l0_k.body := fun f g hfg p => match p with
 | .l0 y_0 x_io1_0 x_io1_1 a_io1_2 s_2 a_7 a_8 a_17 x_18 x_19 => LeO.ite (LeO.bind (LeO.refl _) fun y1 => LeO.bind (LeO.refl _) fun l22 => LeO.ite (LeO.bind (LeO.refl _) fun l36 => (hfg _)) ((hfg _))) (LeO.bind (LeO.refl _) fun y47 => LeO.bind (LeO.refl _) fun y58 => LeO.ite (LeO.ite ((LeO.refl _)) ((LeO.refl _))) ((LeO.refl _)))
noncomputable def roadlaw4_namesTell.l0_k.go (p : roadlaw4_namesTell.l0_k.Pt) : Option (Bool × T_roadref4_Names) := fixF (β := fun _ => (Bool × T_roadref4_Names)) roadlaw4_namesTell.l0_k.body p
noncomputable def roadlaw4_namesTell.l0 (y_0 x_io1_0 x_io1_1 a_io1_2 s_2 a_7 a_8 a_17 x_18 x_19) := roadlaw4_namesTell.l0_k.go (.l0 y_0 x_io1_0 x_io1_1 a_io1_2 s_2 a_7 a_8 a_17 x_18 x_19)
theorem roadlaw4_namesTell.l0_eq (y_0 x_io1_0 x_io1_1 a_io1_2 s_2 a_7 a_8 a_17 x_18 x_19) : roadlaw4_namesTell.l0 y_0 x_io1_0 x_io1_1 a_io1_2 s_2 a_7 a_8 a_17 x_18 x_19 = if x_19 < x_18 then (Option.bind (gi a_17 x_19) fun y1 => Option.bind (ap 40 a_7 ([(T_names_Row.mk y1 ((pgd a_io1_2 y1 (T_roadref4_Meaning.mk (0 : Int) (0 : Int) (0 : Int))).Ref) ((pgd a_io1_2 y1 (T_roadref4_Meaning.mk (0 : Int) (0 : Int) (0 : Int))).Count) ((pgd a_io1_2 y1 (T_roadref4_Meaning.mk (0 : Int) (0 : Int) (0 : Int))).Node))] : List T_names_Row)) fun l22 => if ((pgd a_io1_2 y1 (T_roadref4_Meaning.mk (0 : Int) (0 : Int) (0 : Int))).Ref) > (0 : Int) then (Option.bind (ap 24 a_8 ([(T_names_Name.mk y1 ((pgd a_io1_2 y1 (T_roadref4_Meaning.mk (0 : Int) (0 : Int) (0 : Int))).Ref))] : List T_names_Name)) fun l36 => (roadlaw4_namesTell.l0 y_0 x_io1_0 x_io1_1 a_io1_2 s_2 l22 l36 a_17 x_18 (IntKind.wrap .i64 (x_19 + (1 : Int))))) else ((roadlaw4_namesTell.l0 y_0 x_io1_0 x_io1_1 a_io1_2 s_2 l22 a_8 a_17 x_18 (IntKind.wrap .i64 (x_19 + (1 : Int)))))) else (Option.bind (names_Names_Find y_0 s_2) fun y47 => Option.bind (roadref4_Word s_2) fun y58 => if y58 = true then (if ((pgd a_io1_2 s_2 (T_roadref4_Meaning.mk (0 : Int) (0 : Int) (0 : Int))).Ref) = (0 : Int) then ((roadlaw4_namesTell.j0 y_0 a_7 a_8 y47.1 y47.2 (4 : Int) ((pgd a_io1_2 s_2 (T_roadref4_Meaning.mk (0 : Int) (0 : Int) (0 : Int))).Ref) x_io1_0 x_io1_1 a_io1_2)) else ((roadlaw4_namesTell.j0 y_0 a_7 a_8 y47.1 y47.2 (0 : Int) ((pgd a_io1_2 s_2 (T_roadref4_Meaning.mk (0 : Int) (0 : Int) (0 : Int))).Ref) x_io1_0 x_io1_1 a_io1_2))) else ((roadlaw4_namesTell.j0 y_0 a_7 a_8 y47.1 y47.2 (3 : Int) ((pgd a_io1_2 s_2 (T_roadref4_Meaning.mk (0 : Int) (0 : Int) (0 : Int))).Ref) x_io1_0 x_io1_1 a_io1_2))) := fixF_eq roadlaw4_namesTell.l0_k.mono _
def roadlaw4_namesTell.l0_k.I : (p : roadlaw4_namesTell.l0_k.Pt) → (Bool × T_roadref4_Names) → Prop
 | .l0 y_0 x_io1_0 x_io1_1 a_io1_2 s_2 a_7 a_8 a_17 x_18 x_19, r => ∀ {W h0 m0 h m bk_0 bk_io1 b_io1_2_0 A_7 n_7 c_7 A_8 n_8 c_8 A_17 n_17 c_17} (O : Hold W h0 m0 h m [rV bk_io1 38 [(Value.int .i64 x_io1_0), (Value.int .i64 x_io1_1), (Value.map (some b_io1_2_0))], rM (monoV1 T_roadref4_Meaning.T) (fun s : ByteArray => Value.string s) b_io1_2_0 a_io1_2, rR (aE T_names_Row.T) A_7 c_7 a_7, rR (aE T_names_Name.T) A_8 c_8 a_8, rR (aE tell_str) A_17 c_17 a_17]) (v_0 : VB T_names_Names.E m bk_0 y_0) (ne_7 : n_7 = List.length a_7) (ne_8 : n_8 = List.length a_8) (ne_17 : n_17 = List.length a_17), f15.l0 (roadlaw4_namesTell.post W bk_io1 h0 m0 r) (⟨bk_0, 0, none⟩ : Addr) (⟨bk_io1, 0, none⟩ : Addr) s_2 A_7 n_7 c_7 A_8 n_8 c_8 A_17 n_17 c_17 x_18 x_19 h
set_option maxHeartbeats 4000000 in
theorem roadlaw4_namesTell.l0_k.step_l0 (go : (p : roadlaw4_namesTell.l0_k.Pt) → Option (Bool × T_roadref4_Names)) (ih : ∀ p r, go p = some r → roadlaw4_namesTell.l0_k.I p r) (y_0 x_io1_0 x_io1_1 a_io1_2 s_2 a_7 a_8 a_17 x_18 x_19) (r) (e : roadlaw4_namesTell.l0_k.body go (.l0 y_0 x_io1_0 x_io1_1 a_io1_2 s_2 a_7 a_8 a_17 x_18 x_19) = some r) : roadlaw4_namesTell.l0_k.I (.l0 y_0 x_io1_0 x_io1_1 a_io1_2 s_2 a_7 a_8 a_17 x_18 x_19) r := by
 unfold roadlaw4_namesTell.l0_k.body at e
 intro W h0 m0 h m bk_0 bk_io1 b_io1_2_0 A_7 n_7 c_7 A_8 n_8 c_8 A_17 n_17 c_17 O v_0 ne_7 ne_8 ne_17
 obtain ⟨cs_0, t_0, hb_0, nn_0, e_0⟩ := id v_0
 subst ne_7
 subst ne_8
 subst ne_17
 refine f15.l0_in ?_
 unfold f15.l0T
 refine split_dec_e e (fun c67 e => ?_) (fun c67 e => ?_)
 · obtain ⟨y1, g2, e⟩ := bind_e e
   refine (O.os 4 rfl).addr rfl g2 fun a3 cs4 ha5 hc6 he7 => ?_
   obtain rfl : cs4 = [(Value.string y1)] := he7
   refine ⟨_, ld0 (Sub.refl _) hc6 rfl, _, rfl, ?_⟩
   refine ⟨_, ldk (k := 2) (Sub.refl _) (O.all 0 rfl) rfl, ?_⟩
   refine (O.om 1 rfl).look (zv := (T_roadref4_Meaning.mk (0 : Int) (0 : Int) (0 : Int))) (z := (Value.agg #[(Value.int .i64 (0 : Int)), (Value.int .i64 (0 : Int)), (Value.int .i64 (0 : Int))])) (keyOk_str (key := 9) (elem := 43) (by kernel_rfl) (by kernel_rfl)) y1 (by kernel_rfl) ⟨[(Value.int .i64 (0 : Int)), (Value.int .i64 (0 : Int)), (Value.int .i64 (0 : Int))], rfl, (show T_roadref4_Meaning.E _ (T_roadref4_Meaning.mk (0 : Int) (0 : Int) (0 : Int)) [(Value.int .i64 (0 : Int)), (Value.int .i64 (0 : Int)), (Value.int .i64 (0 : Int))] from rfl)⟩ (fun v8 hv9 => ?_)
   obtain ⟨cs10, rfl, he11⟩ := hv9
   refine O.new fun h12 x13 O14 => ?_
   refine ⟨_, rfl, (T_roadref4_Meaning.T.len _ _ _ he11), ?_⟩
   refine O14.stA 5 rfl (T_roadref4_Meaning.T.len _ _ _ he11) (T_roadref4_Meaning.T.flat _ _ _ he11) fun h16 O17 => ?_
   refine ⟨_, ld0 (Sub.refl _) (O17.all 5 rfl) (T_roadref4_Meaning.g0 he11), _, rfl, ?_⟩
   refine ⟨_, ldk (k := 1) (Sub.refl _) (O17.all 5 rfl) (T_roadref4_Meaning.g1 he11), _, rfl, ?_⟩
   refine ⟨_, ldk (k := 2) (Sub.refl _) (O17.all 5 rfl) (T_roadref4_Meaning.g2 he11), _, rfl, ?_⟩
   refine ⟨[(Value.string y1), (Value.int .i64 ((pgd a_io1_2 y1 (T_roadref4_Meaning.mk (0 : Int) (0 : Int) (0 : Int))).Ref)), (Value.int .i64 ((pgd a_io1_2 y1 (T_roadref4_Meaning.mk (0 : Int) (0 : Int) (0 : Int))).Count)), (Value.int .i64 ((pgd a_io1_2 y1 (T_roadref4_Meaning.mk (0 : Int) (0 : Int) (0 : Int))).Node))], rfl, rfl, ?_⟩
   refine O17.new fun h18 x19 O20 => ?_
   obtain ⟨l22, g23, e⟩ := bind_e e
   have O30 := O20.rowE (l := ([(T_names_Row.mk y1 ((pgd a_io1_2 y1 (T_roadref4_Meaning.mk (0 : Int) (0 : Int) (0 : Int))).Ref) ((pgd a_io1_2 y1 (T_roadref4_Meaning.mk (0 : Int) (0 : Int) (0 : Int))).Count) ((pgd a_io1_2 y1 (T_roadref4_Meaning.mk (0 : Int) (0 : Int) (0 : Int))).Node))] : List T_names_Row)) 6 rfl T_names_Row.T (show CsE _ _ _ _ _ from (CsE.cons (c1 := [(Value.string y1), (Value.int .i64 ((pgd a_io1_2 y1 (T_roadref4_Meaning.mk (0 : Int) (0 : Int) (0 : Int))).Ref)), (Value.int .i64 ((pgd a_io1_2 y1 (T_roadref4_Meaning.mk (0 : Int) (0 : Int) (0 : Int))).Count)), (Value.int .i64 ((pgd a_io1_2 y1 (T_roadref4_Meaning.mk (0 : Int) (0 : Int) (0 : Int))).Node))]) (show T_names_Row.E _ (T_names_Row.mk y1 ((pgd a_io1_2 y1 (T_roadref4_Meaning.mk (0 : Int) (0 : Int) (0 : Int))).Ref) ((pgd a_io1_2 y1 (T_roadref4_Meaning.mk (0 : Int) (0 : Int) (0 : Int))).Count) ((pgd a_io1_2 y1 (T_roadref4_Meaning.mk (0 : Int) (0 : Int) (0 : Int))).Node)) [(Value.string y1), (Value.int .i64 ((pgd a_io1_2 y1 (T_roadref4_Meaning.mk (0 : Int) (0 : Int) (0 : Int))).Ref)), (Value.int .i64 ((pgd a_io1_2 y1 (T_roadref4_Meaning.mk (0 : Int) (0 : Int) (0 : Int))).Count)), (Value.int .i64 ((pgd a_io1_2 y1 (T_roadref4_Meaning.mk (0 : Int) (0 : Int) (0 : Int))).Node))] from rfl) rfl CsE.nil)) rfl
   refine O30.app 2 rfl rfl rfl ((O30.os 6 rfl).srcE rfl) (by decide) g23 fun A24 c25 h26 O27 => ?_
   refine ⟨_, _, _, rfl, ?_⟩
   have O31 := O27.nm
   refine ⟨_, ld0 (Sub.refl _) (O31.all 5 rfl) (T_roadref4_Meaning.g0 he11), _, rfl, ?_⟩
   refine split_dec_e e (fun c46 e => ?_) (fun c46 e => ?_)
   · refine ⟨_, ld0 (Sub.refl _) (O31.all 5 rfl) (T_roadref4_Meaning.g0 he11), _, rfl, ?_⟩
     refine ⟨[(Value.string y1), (Value.int .i64 ((pgd a_io1_2 y1 (T_roadref4_Meaning.mk (0 : Int) (0 : Int) (0 : Int))).Ref))], rfl, rfl, ?_⟩
     refine O31.new fun h32 x33 O34 => ?_
     obtain ⟨l36, g37, e⟩ := bind_e e
     have O44 := O34.rowE (l := ([(T_names_Name.mk y1 ((pgd a_io1_2 y1 (T_roadref4_Meaning.mk (0 : Int) (0 : Int) (0 : Int))).Ref))] : List T_names_Name)) 7 rfl T_names_Name.T (show CsE _ _ _ _ _ from (CsE.cons (c1 := [(Value.string y1), (Value.int .i64 ((pgd a_io1_2 y1 (T_roadref4_Meaning.mk (0 : Int) (0 : Int) (0 : Int))).Ref))]) (show T_names_Name.E _ (T_names_Name.mk y1 ((pgd a_io1_2 y1 (T_roadref4_Meaning.mk (0 : Int) (0 : Int) (0 : Int))).Ref)) [(Value.string y1), (Value.int .i64 ((pgd a_io1_2 y1 (T_roadref4_Meaning.mk (0 : Int) (0 : Int) (0 : Int))).Ref))] from rfl) rfl CsE.nil)) rfl
     refine O44.app 3 rfl rfl rfl ((O44.os 7 rfl).srcE rfl) (by decide) g37 fun A38 c39 h40 O41 => ?_
     refine ⟨_, _, _, rfl, ?_⟩
     have O45 := O41.nm
     exact (ih _ _ e) (O45.pick [0, 1, 2, 3, 4]).nm v_0 rfl rfl rfl
   · exact (ih _ _ e) (O31.pick [0, 1, 2, 3, 4]).nm v_0 rfl rfl rfl
 · obtain ⟨y47, g48, e⟩ := bind_e e
   refine (names_Names_Find.walk (Hold.start (W := No) O.s) v_0 g48).mono ?_
   rintro _ h49 ⟨m50, Q51, rfl⟩
   have O53 := Hold.nm (O.retC Q51 vfs_nil)
   refine ⟨_, _, rfl, ?_⟩
   refine ⟨_, ldk (k := 2) (Sub.refl _) (O53.all 0 rfl) rfl, ?_⟩
   refine (O53.om 1 rfl).look (zv := (T_roadref4_Meaning.mk (0 : Int) (0 : Int) (0 : Int))) (z := (Value.agg #[(Value.int .i64 (0 : Int)), (Value.int .i64 (0 : Int)), (Value.int .i64 (0 : Int))])) (keyOk_str (key := 9) (elem := 43) (by kernel_rfl) (by kernel_rfl)) s_2 (by kernel_rfl) ⟨[(Value.int .i64 (0 : Int)), (Value.int .i64 (0 : Int)), (Value.int .i64 (0 : Int))], rfl, (show T_roadref4_Meaning.E _ (T_roadref4_Meaning.mk (0 : Int) (0 : Int) (0 : Int)) [(Value.int .i64 (0 : Int)), (Value.int .i64 (0 : Int)), (Value.int .i64 (0 : Int))] from rfl)⟩ (fun v54 hv55 => ?_)
   obtain ⟨cs56, rfl, he57⟩ := hv55
   refine ⟨_, fld1 (T_roadref4_Meaning.g0 he57), _, rfl, ?_⟩
   obtain ⟨y58, g59, e⟩ := bind_e e
   refine (roadref4_Word.walk (Hold.start (W := No) O53.s)  g59).mono ?_
   rintro _ h60 ⟨m61, Q62, rfl⟩
   have O64 := Hold.nm (O53.retC Q62 vfs_nil)
   refine ⟨_, rfl, ?_⟩
   refine split_not ?_
   refine split_any_e e (fun c66 e => ?_) (fun c66 e => ?_)
   · refine split_eq_e e (fun c65 e => ?_) (fun c65 e => ?_)
     · exact roadlaw4_namesTell.j0.walk (O64.pick [2, 3, 0, 1]).nm v_0 rfl rfl e
     · exact roadlaw4_namesTell.j0.walk (O64.pick [2, 3, 0, 1]).nm v_0 rfl rfl e
   · exact roadlaw4_namesTell.j0.walk (O64.pick [2, 3, 0, 1]).nm v_0 rfl rfl e
theorem roadlaw4_namesTell.l0_k.all {p : roadlaw4_namesTell.l0_k.Pt} {r : (Bool × T_roadref4_Names)} (e : roadlaw4_namesTell.l0_k.go p = some r) : roadlaw4_namesTell.l0_k.I p r := fixF_ind (β := fun _ => (Bool × T_roadref4_Names)) roadlaw4_namesTell.l0_k.mono (I := roadlaw4_namesTell.l0_k.I) (fun go ih p r e => match p with
 | .l0 y_0 x_io1_0 x_io1_1 a_io1_2 s_2 a_7 a_8 a_17 x_18 x_19 => roadlaw4_namesTell.l0_k.step_l0 go ih y_0 x_io1_0 x_io1_1 a_io1_2 s_2 a_7 a_8 a_17 x_18 x_19 r e
 ) e
noncomputable def roadlaw4_namesTell (y_0 : T_names_Names) (y_1 : T_roadref4_Names) (s_2 : ByteArray) : Option (Bool × T_roadref4_Names) :=
 Option.bind (roadref4_Names_Sorted (T_roadref4_Names.mk y_1.Node y_1.Count y_1.Rows)) fun y1 => (roadlaw4_namesTell.l0 y_0 y1.2.Node y1.2.Count y1.2.Rows s_2 ([] : List T_names_Row) ([] : List T_names_Name) y1.1 (((List.length y1.1) : Nat) : Int) (0 : Int))
theorem roadlaw4_namesTell.walk {W h m bk_0 bkio1 b_1_2 y_0 y_1 s_2} (O : Hold W h m h m [rV bkio1 38 [(Value.int .i64 y_1.Node), (Value.int .i64 y_1.Count), (Value.map (some b_1_2))], rM (monoV1 T_roadref4_Meaning.T) (fun s : ByteArray => Value.string s) b_1_2 y_1.Rows]) (v_0 : VB T_names_Names.E m bk_0 y_0) {r} (e : roadlaw4_namesTell y_0 y_1 s_2 = some r) : Run Tryd.prog 15 #[Value.pointer (some ⟨bk_0, 0, none⟩), Value.pointer (some ⟨bkio1, 0, none⟩), Value.string s_2] h (roadlaw4_namesTell.post W bkio1 h m r) := by
 unfold roadlaw4_namesTell at e
 obtain ⟨cs_0, t_0, hb_0, nn_0, e_0⟩ := id v_0
 refine f15.run ?_
 unfold f15.runT
 obtain ⟨y1, g2, e⟩ := bind_e e
 obtain ⟨W7, P8, B9, C10⟩ := O.callC [0, 1]
 refine (roadref4_Names_Sorted.walk (y_0 := (T_roadref4_Names.mk y_1.Node y_1.Count y_1.Rows)) P8  g2).mono ?_
 rintro _ h3 ⟨m4, A11, n12, c13, b_16_2, Q5, rfl, ne14⟩
 have O18 := Hold.nm (C10 Q5 (vfs_cons (rR_vf (aE_vf (fun _ _ _ _ h => h))) (vfs_cons rV_vf (vfs_cons (rM_vf (fun _ _ _ _ h => h)) vfs_nil))))
 subst ne14
 refine ⟨_, _, _, rfl, ?_⟩
 have O19 := O18.nil (aE T_names_Row.T) none
 have O21 := O19.nil (aE T_names_Name.T) none
 have O23 := O21.nm
 exact (roadlaw4_namesTell.l0_k.all e) (O23.pick [3, 4, 5, 6, 2]).nm v_0 rfl rfl rfl
def roadlaw4_NamesPlay.post (W : Nat → Prop) (h0 m0 : Heap) (r : Bool) (v : Value) (h : Heap) : Prop := ∃ m , Hold W h0 m0 h m [] ∧ v = .bool r
inductive roadlaw4_NamesPlay.l0_k.Pt where
 | l0 (x_0 : Int) (a_2 : List ByteArray) (a_3 : List (List T_names_Row)) (x_11_0 : Int) (x_11_1 : Int) (a_11_2 : (List T_names_Row)) (x_13_0 : Int) (x_13_1 : Int) (a_13_2 : (List (ByteArray × T_roadref4_Meaning))) (a_74 : List (List Int)) (x_75 : Int) (x_76 : Int)
 | j5 (x_0 : Int) (a_2 : List ByteArray) (a_3 : List (List T_names_Row)) (x_11_0 : Int) (x_11_1 : Int) (a_11_2 : (List T_names_Row)) (x_13_0 : Int) (x_13_1 : Int) (a_13_2 : (List (ByteArray × T_roadref4_Meaning))) (a_15 : List Int) (s_16 : ByteArray) (x_17 : Int) (y_18 : T_roadref4_Meaning) (b_19 : Bool) (a_74 : List (List Int)) (x_75 : Int) (x_76 : Int) (x_96 : Int) (b_97 : Bool)
 | j6 (x_0 : Int) (a_2 : List ByteArray) (a_3 : List (List T_names_Row)) (x_11_0 : Int) (x_11_1 : Int) (a_11_2 : (List T_names_Row)) (x_13_0 : Int) (x_13_1 : Int) (a_13_2 : (List (ByteArray × T_roadref4_Meaning))) (a_15 : List Int) (s_16 : ByteArray) (x_17 : Int) (y_18 : T_roadref4_Meaning) (b_19 : Bool) (x_20 : Int) (x_21 : Int) (a_74 : List (List Int)) (x_75 : Int) (x_76 : Int)
 | j8 (x_0 : Int) (a_2 : List ByteArray) (a_3 : List (List T_names_Row)) (x_11_0 : Int) (x_11_1 : Int) (a_11_2 : (List T_names_Row)) (x_13_0 : Int) (x_13_1 : Int) (a_13_2 : (List (ByteArray × T_roadref4_Meaning))) (a_15 : List Int) (s_16 : ByteArray) (x_17 : Int) (y_18 : T_roadref4_Meaning) (b_19 : Bool) (x_20 : Int) (x_21 : Int) (a_74 : List (List Int)) (x_75 : Int) (x_76 : Int) (b_133 : Bool)
 | j9 (x_0 : Int) (a_2 : List ByteArray) (a_3 : List (List T_names_Row)) (x_11_0 : Int) (x_11_1 : Int) (a_11_2 : (List T_names_Row)) (x_13_0 : Int) (x_13_1 : Int) (a_13_2 : (List (ByteArray × T_roadref4_Meaning))) (s_16 : ByteArray) (x_17 : Int) (b_19 : Bool) (x_20 : Int) (x_21 : Int) (a_74 : List (List Int)) (x_75 : Int) (x_76 : Int) (b_141 : Bool)
 | j10 (x_0 : Int) (a_2 : List ByteArray) (a_3 : List (List T_names_Row)) (x_11_0 : Int) (x_11_1 : Int) (a_11_2 : (List T_names_Row)) (x_13_0 : Int) (x_13_1 : Int) (a_13_2 : (List (ByteArray × T_roadref4_Meaning))) (s_16 : ByteArray) (x_17 : Int) (x_20 : Int) (x_21 : Int) (a_74 : List (List Int)) (x_75 : Int) (x_76 : Int) (b_150 : Bool)
 | j7 (x_0 : Int) (a_2 : List ByteArray) (a_3 : List (List T_names_Row)) (x_11_0 : Int) (x_11_1 : Int) (a_11_2 : (List T_names_Row)) (x_13_0 : Int) (x_13_1 : Int) (a_13_2 : (List (ByteArray × T_roadref4_Meaning))) (s_16 : ByteArray) (x_20 : Int) (x_21 : Int) (a_74 : List (List Int)) (x_75 : Int) (x_76 : Int)
 | j4 (x_0 : Int) (a_2 : List ByteArray) (a_3 : List (List T_names_Row)) (x_11_0 : Int) (x_11_1 : Int) (a_11_2 : (List T_names_Row)) (x_13_0 : Int) (x_13_1 : Int) (a_13_2 : (List (ByteArray × T_roadref4_Meaning))) (s_16 : ByteArray) (a_74 : List (List Int)) (x_75 : Int) (x_76 : Int)
noncomputable def roadlaw4_NamesPlay.l0_k.body (go : (p : roadlaw4_NamesPlay.l0_k.Pt) → Option (Bool)) : (p : roadlaw4_NamesPlay.l0_k.Pt) → Option (Bool)
 | .l0 x_0 a_2 a_3 x_11_0 x_11_1 a_11_2 x_13_0 x_13_1 a_13_2 a_74 x_75 x_76 => if x_76 < x_75 then (Option.bind (gi a_74 x_76) fun y1 => Option.bind (roadlaw4_at y1 (1 : Int)) fun y8 => Option.bind (roadlaw4_pick_8 a_2 y8) fun y15 => Option.bind (roadlaw4_at y1 (2 : Int)) fun y22 => Option.bind (roadlaw4_at y1 (0 : Int)) fun y39 => if y39 = (1 : Int) then ((go (.j5 x_0 a_2 a_3 x_11_0 x_11_1 a_11_2 x_13_0 x_13_1 a_13_2 y1 y15 y22 (pgd a_13_2 y15 (T_roadref4_Meaning.mk (0 : Int) (0 : Int) (0 : Int))) (Option.isSome (pget a_13_2 y15)) a_74 x_75 x_76 y39 (y39 == (1 : Int))))) else ((go (.j5 x_0 a_2 a_3 x_11_0 x_11_1 a_11_2 x_13_0 x_13_1 a_13_2 y1 y15 y22 (pgd a_13_2 y15 (T_roadref4_Meaning.mk (0 : Int) (0 : Int) (0 : Int))) (Option.isSome (pget a_13_2 y15)) a_74 x_75 x_76 y39 (y39 == (2 : Int)))))) else (some (true))
 | .j5 x_0 a_2 a_3 x_11_0 x_11_1 a_11_2 x_13_0 x_13_1 a_13_2 a_15 s_16 x_17 y_18 b_19 a_74 x_75 x_76 x_96 b_97 => if b_97 = true then (Option.bind (roadlaw4_at a_15 (0 : Int)) fun y1 => if y1 = (1 : Int) then (Option.bind (names_Names_Set (T_names_Names.mk x_11_0 x_11_1 a_11_2) s_16 x_17) fun y8 => (go (.j6 x_0 a_2 a_3 y8.2.node_ y8.2.count_ y8.2.rows_ x_13_0 x_13_1 a_13_2 a_15 s_16 x_17 y_18 b_19 y8.1 (0 : Int) a_74 x_75 x_76))) else (Option.bind (names_Names_Drop (T_names_Names.mk x_11_0 x_11_1 a_11_2) s_16) fun y21 => (go (.j6 x_0 a_2 a_3 y21.2.node_ y21.2.count_ y21.2.rows_ x_13_0 x_13_1 a_13_2 a_15 s_16 (0 : Int) y_18 b_19 y21.1 (0 : Int) a_74 x_75 x_76)))) else (if x_96 = (3 : Int) then (Option.bind (roadlaw4_at a_15 (1 : Int)) fun y35 => Option.bind (roadlaw4_pick_12 a_3 y35) fun y42 => Option.bind (names_Names_Merge (T_names_Names.mk x_11_0 x_11_1 a_11_2) y42) fun y55 => Option.bind (roadlaw4_merged (T_roadref4_Names.mk x_13_0 x_13_1 a_13_2) y42) fun y68 => if y55.1 = y68.1 then ((go (.j4 x_0 a_2 a_3 y55.2.node_ y55.2.count_ y55.2.rows_ y68.2.Node y68.2.Count y68.2.Rows s_16 a_74 x_75 x_76))) else (some (false))) else ((go (.j4 x_0 a_2 a_3 x_11_0 x_11_1 a_11_2 x_13_0 x_13_1 a_13_2 s_16 a_74 x_75 x_76))))
 | .j6 x_0 a_2 a_3 x_11_0 x_11_1 a_11_2 x_13_0 x_13_1 a_13_2 a_15 s_16 x_17 y_18 b_19 x_20 x_21 a_74 x_75 x_76 => Option.bind (roadref4_Word s_16) fun y1 => if y1 = true then (Option.bind (roadlaw4_at a_15 (0 : Int)) fun y8 => if y8 = (1 : Int) then ((go (.j8 x_0 a_2 a_3 x_11_0 x_11_1 a_11_2 x_13_0 x_13_1 a_13_2 a_15 s_16 x_17 y_18 b_19 x_20 x_21 a_74 x_75 x_76 (decide (x_17 < (1 : Int)))))) else ((go (.j8 x_0 a_2 a_3 x_11_0 x_11_1 a_11_2 x_13_0 x_13_1 a_13_2 a_15 s_16 x_17 y_18 b_19 x_20 x_21 a_74 x_75 x_76 false)))) else ((go (.j7 x_0 a_2 a_3 x_11_0 x_11_1 a_11_2 x_13_0 x_13_1 a_13_2 s_16 x_20 (3 : Int) a_74 x_75 x_76)))
 | .j8 x_0 a_2 a_3 x_11_0 x_11_1 a_11_2 x_13_0 x_13_1 a_13_2 a_15 s_16 x_17 y_18 b_19 x_20 x_21 a_74 x_75 x_76 b_133 => if b_133 = true then ((go (.j7 x_0 a_2 a_3 x_11_0 x_11_1 a_11_2 x_13_0 x_13_1 a_13_2 s_16 x_20 (1 : Int) a_74 x_75 x_76))) else (Option.bind (roadlaw4_at a_15 (0 : Int)) fun y1 => if y1 = (2 : Int) then ((go (.j9 x_0 a_2 a_3 x_11_0 x_11_1 a_11_2 x_13_0 x_13_1 a_13_2 s_16 x_17 b_19 x_20 x_21 a_74 x_75 x_76 (y_18.Ref == (0 : Int))))) else ((go (.j9 x_0 a_2 a_3 x_11_0 x_11_1 a_11_2 x_13_0 x_13_1 a_13_2 s_16 x_17 b_19 x_20 x_21 a_74 x_75 x_76 false))))
 | .j9 x_0 a_2 a_3 x_11_0 x_11_1 a_11_2 x_13_0 x_13_1 a_13_2 s_16 x_17 b_19 x_20 x_21 a_74 x_75 x_76 b_141 => if b_141 = true then ((go (.j7 x_0 a_2 a_3 x_11_0 x_11_1 a_11_2 x_13_0 x_13_1 a_13_2 s_16 x_20 (4 : Int) a_74 x_75 x_76))) else (if b_19 = true then ((go (.j10 x_0 a_2 a_3 x_11_0 x_11_1 a_11_2 x_13_0 x_13_1 a_13_2 s_16 x_17 x_20 x_21 a_74 x_75 x_76 false))) else ((go (.j10 x_0 a_2 a_3 x_11_0 x_11_1 a_11_2 x_13_0 x_13_1 a_13_2 s_16 x_17 x_20 x_21 a_74 x_75 x_76 (((List.length a_13_2 : Nat) : Int) == (60 : Int))))))
 | .j10 x_0 a_2 a_3 x_11_0 x_11_1 a_11_2 x_13_0 x_13_1 a_13_2 s_16 x_17 x_20 x_21 a_74 x_75 x_76 b_150 => if b_150 = true then ((go (.j7 x_0 a_2 a_3 x_11_0 x_11_1 a_11_2 x_13_0 x_13_1 a_13_2 s_16 x_20 (6 : Int) a_74 x_75 x_76))) else (if x_13_1 = (1099511627776 : Int) then ((go (.j7 x_0 a_2 a_3 x_11_0 x_11_1 a_11_2 x_13_0 x_13_1 a_13_2 s_16 x_20 (2 : Int) a_74 x_75 x_76))) else (Option.bind (some (pset a_13_2 s_16 (T_roadref4_Meaning.mk x_17 (IntKind.wrap .i64 (x_13_1 + (1 : Int))) x_0))) fun l5 => (go (.j7 x_0 a_2 a_3 x_11_0 x_11_1 a_11_2 x_13_0 (IntKind.wrap .i64 (x_13_1 + (1 : Int))) l5 s_16 x_20 x_21 a_74 x_75 x_76))))
 | .j7 x_0 a_2 a_3 x_11_0 x_11_1 a_11_2 x_13_0 x_13_1 a_13_2 s_16 x_20 x_21 a_74 x_75 x_76 => if x_20 = x_21 then ((go (.j4 x_0 a_2 a_3 x_11_0 x_11_1 a_11_2 x_13_0 x_13_1 a_13_2 s_16 a_74 x_75 x_76))) else (some (false))
 | .j4 x_0 a_2 a_3 x_11_0 x_11_1 a_11_2 x_13_0 x_13_1 a_13_2 s_16 a_74 x_75 x_76 => Option.bind (roadlaw4_namesTell (T_names_Names.mk x_11_0 x_11_1 a_11_2) (T_roadref4_Names.mk x_13_0 x_13_1 a_13_2) s_16) fun y1 => if y1.1 = true then ((go (.l0 x_0 a_2 a_3 x_11_0 x_11_1 a_11_2 y1.2.Node y1.2.Count y1.2.Rows a_74 x_75 (IntKind.wrap .i64 (x_76 + (1 : Int)))))) else (some (false))
theorem roadlaw4_NamesPlay.l0_k.mono : MonoF (β := fun _ => (Bool)) roadlaw4_NamesPlay.l0_k.body := fun f g hfg p => match p with
 | .l0 x_0 a_2 a_3 x_11_0 x_11_1 a_11_2 x_13_0 x_13_1 a_13_2 a_74 x_75 x_76 => LeO.ite (LeO.bind (LeO.refl _) fun y1 => LeO.bind (LeO.refl _) fun y8 => LeO.bind (LeO.refl _) fun y15 => LeO.bind (LeO.refl _) fun y22 => LeO.bind (LeO.refl _) fun y39 => LeO.ite ((hfg _)) ((hfg _))) (LeO.refl _)
 | .j5 x_0 a_2 a_3 x_11_0 x_11_1 a_11_2 x_13_0 x_13_1 a_13_2 a_15 s_16 x_17 y_18 b_19 a_74 x_75 x_76 x_96 b_97 => LeO.ite (LeO.bind (LeO.refl _) fun y1 => LeO.ite (LeO.bind (LeO.refl _) fun y8 => (hfg _)) (LeO.bind (LeO.refl _) fun y21 => (hfg _))) (LeO.ite (LeO.bind (LeO.refl _) fun y35 => LeO.bind (LeO.refl _) fun y42 => LeO.bind (LeO.refl _) fun y55 => LeO.bind (LeO.refl _) fun y68 => LeO.ite ((hfg _)) (LeO.refl _)) ((hfg _)))
 | .j6 x_0 a_2 a_3 x_11_0 x_11_1 a_11_2 x_13_0 x_13_1 a_13_2 a_15 s_16 x_17 y_18 b_19 x_20 x_21 a_74 x_75 x_76 => LeO.bind (LeO.refl _) fun y1 => LeO.ite (LeO.bind (LeO.refl _) fun y8 => LeO.ite ((hfg _)) ((hfg _))) ((hfg _))
 | .j8 x_0 a_2 a_3 x_11_0 x_11_1 a_11_2 x_13_0 x_13_1 a_13_2 a_15 s_16 x_17 y_18 b_19 x_20 x_21 a_74 x_75 x_76 b_133 => LeO.ite ((hfg _)) (LeO.bind (LeO.refl _) fun y1 => LeO.ite ((hfg _)) ((hfg _)))
 | .j9 x_0 a_2 a_3 x_11_0 x_11_1 a_11_2 x_13_0 x_13_1 a_13_2 s_16 x_17 b_19 x_20 x_21 a_74 x_75 x_76 b_141 => LeO.ite ((hfg _)) (LeO.ite ((hfg _)) ((hfg _)))
 | .j10 x_0 a_2 a_3 x_11_0 x_11_1 a_11_2 x_13_0 x_13_1 a_13_2 s_16 x_17 x_20 x_21 a_74 x_75 x_76 b_150 => LeO.ite ((hfg _)) (LeO.ite ((hfg _)) (LeO.bind (LeO.refl _) fun l5 => (hfg _)))
 | .j7 x_0 a_2 a_3 x_11_0 x_11_1 a_11_2 x_13_0 x_13_1 a_13_2 s_16 x_20 x_21 a_74 x_75 x_76 => LeO.ite ((hfg _)) (LeO.refl _)
 | .j4 x_0 a_2 a_3 x_11_0 x_11_1 a_11_2 x_13_0 x_13_1 a_13_2 s_16 a_74 x_75 x_76 => LeO.bind (LeO.refl _) fun y1 => LeO.ite ((hfg _)) (LeO.refl _)
noncomputable def roadlaw4_NamesPlay.l0_k.go (p : roadlaw4_NamesPlay.l0_k.Pt) : Option (Bool) := fixF (β := fun _ => (Bool)) roadlaw4_NamesPlay.l0_k.body p
noncomputable def roadlaw4_NamesPlay.l0 (x_0 a_2 a_3 x_11_0 x_11_1 a_11_2 x_13_0 x_13_1 a_13_2 a_74 x_75 x_76) := roadlaw4_NamesPlay.l0_k.go (.l0 x_0 a_2 a_3 x_11_0 x_11_1 a_11_2 x_13_0 x_13_1 a_13_2 a_74 x_75 x_76)
noncomputable def roadlaw4_NamesPlay.j5 (x_0 a_2 a_3 x_11_0 x_11_1 a_11_2 x_13_0 x_13_1 a_13_2 a_15 s_16 x_17 y_18 b_19 a_74 x_75 x_76 x_96 b_97) := roadlaw4_NamesPlay.l0_k.go (.j5 x_0 a_2 a_3 x_11_0 x_11_1 a_11_2 x_13_0 x_13_1 a_13_2 a_15 s_16 x_17 y_18 b_19 a_74 x_75 x_76 x_96 b_97)
noncomputable def roadlaw4_NamesPlay.j6 (x_0 a_2 a_3 x_11_0 x_11_1 a_11_2 x_13_0 x_13_1 a_13_2 a_15 s_16 x_17 y_18 b_19 x_20 x_21 a_74 x_75 x_76) := roadlaw4_NamesPlay.l0_k.go (.j6 x_0 a_2 a_3 x_11_0 x_11_1 a_11_2 x_13_0 x_13_1 a_13_2 a_15 s_16 x_17 y_18 b_19 x_20 x_21 a_74 x_75 x_76)
noncomputable def roadlaw4_NamesPlay.j8 (x_0 a_2 a_3 x_11_0 x_11_1 a_11_2 x_13_0 x_13_1 a_13_2 a_15 s_16 x_17 y_18 b_19 x_20 x_21 a_74 x_75 x_76 b_133) := roadlaw4_NamesPlay.l0_k.go (.j8 x_0 a_2 a_3 x_11_0 x_11_1 a_11_2 x_13_0 x_13_1 a_13_2 a_15 s_16 x_17 y_18 b_19 x_20 x_21 a_74 x_75 x_76 b_133)
noncomputable def roadlaw4_NamesPlay.j9 (x_0 a_2 a_3 x_11_0 x_11_1 a_11_2 x_13_0 x_13_1 a_13_2 s_16 x_17 b_19 x_20 x_21 a_74 x_75 x_76 b_141) := roadlaw4_NamesPlay.l0_k.go (.j9 x_0 a_2 a_3 x_11_0 x_11_1 a_11_2 x_13_0 x_13_1 a_13_2 s_16 x_17 b_19 x_20 x_21 a_74 x_75 x_76 b_141)
noncomputable def roadlaw4_NamesPlay.j10 (x_0 a_2 a_3 x_11_0 x_11_1 a_11_2 x_13_0 x_13_1 a_13_2 s_16 x_17 x_20 x_21 a_74 x_75 x_76 b_150) := roadlaw4_NamesPlay.l0_k.go (.j10 x_0 a_2 a_3 x_11_0 x_11_1 a_11_2 x_13_0 x_13_1 a_13_2 s_16 x_17 x_20 x_21 a_74 x_75 x_76 b_150)
noncomputable def roadlaw4_NamesPlay.j7 (x_0 a_2 a_3 x_11_0 x_11_1 a_11_2 x_13_0 x_13_1 a_13_2 s_16 x_20 x_21 a_74 x_75 x_76) := roadlaw4_NamesPlay.l0_k.go (.j7 x_0 a_2 a_3 x_11_0 x_11_1 a_11_2 x_13_0 x_13_1 a_13_2 s_16 x_20 x_21 a_74 x_75 x_76)
noncomputable def roadlaw4_NamesPlay.j4 (x_0 a_2 a_3 x_11_0 x_11_1 a_11_2 x_13_0 x_13_1 a_13_2 s_16 a_74 x_75 x_76) := roadlaw4_NamesPlay.l0_k.go (.j4 x_0 a_2 a_3 x_11_0 x_11_1 a_11_2 x_13_0 x_13_1 a_13_2 s_16 a_74 x_75 x_76)
theorem roadlaw4_NamesPlay.l0_eq (x_0 a_2 a_3 x_11_0 x_11_1 a_11_2 x_13_0 x_13_1 a_13_2 a_74 x_75 x_76) : roadlaw4_NamesPlay.l0 x_0 a_2 a_3 x_11_0 x_11_1 a_11_2 x_13_0 x_13_1 a_13_2 a_74 x_75 x_76 = if x_76 < x_75 then (Option.bind (gi a_74 x_76) fun y1 => Option.bind (roadlaw4_at y1 (1 : Int)) fun y8 => Option.bind (roadlaw4_pick_8 a_2 y8) fun y15 => Option.bind (roadlaw4_at y1 (2 : Int)) fun y22 => Option.bind (roadlaw4_at y1 (0 : Int)) fun y39 => if y39 = (1 : Int) then ((roadlaw4_NamesPlay.j5 x_0 a_2 a_3 x_11_0 x_11_1 a_11_2 x_13_0 x_13_1 a_13_2 y1 y15 y22 (pgd a_13_2 y15 (T_roadref4_Meaning.mk (0 : Int) (0 : Int) (0 : Int))) (Option.isSome (pget a_13_2 y15)) a_74 x_75 x_76 y39 (y39 == (1 : Int)))) else ((roadlaw4_NamesPlay.j5 x_0 a_2 a_3 x_11_0 x_11_1 a_11_2 x_13_0 x_13_1 a_13_2 y1 y15 y22 (pgd a_13_2 y15 (T_roadref4_Meaning.mk (0 : Int) (0 : Int) (0 : Int))) (Option.isSome (pget a_13_2 y15)) a_74 x_75 x_76 y39 (y39 == (2 : Int))))) else (some (true)) := fixF_eq roadlaw4_NamesPlay.l0_k.mono _
theorem roadlaw4_NamesPlay.j5_eq (x_0 a_2 a_3 x_11_0 x_11_1 a_11_2 x_13_0 x_13_1 a_13_2 a_15 s_16 x_17 y_18 b_19 a_74 x_75 x_76 x_96 b_97) : roadlaw4_NamesPlay.j5 x_0 a_2 a_3 x_11_0 x_11_1 a_11_2 x_13_0 x_13_1 a_13_2 a_15 s_16 x_17 y_18 b_19 a_74 x_75 x_76 x_96 b_97 = if b_97 = true then (Option.bind (roadlaw4_at a_15 (0 : Int)) fun y1 => if y1 = (1 : Int) then (Option.bind (names_Names_Set (T_names_Names.mk x_11_0 x_11_1 a_11_2) s_16 x_17) fun y8 => (roadlaw4_NamesPlay.j6 x_0 a_2 a_3 y8.2.node_ y8.2.count_ y8.2.rows_ x_13_0 x_13_1 a_13_2 a_15 s_16 x_17 y_18 b_19 y8.1 (0 : Int) a_74 x_75 x_76)) else (Option.bind (names_Names_Drop (T_names_Names.mk x_11_0 x_11_1 a_11_2) s_16) fun y21 => (roadlaw4_NamesPlay.j6 x_0 a_2 a_3 y21.2.node_ y21.2.count_ y21.2.rows_ x_13_0 x_13_1 a_13_2 a_15 s_16 (0 : Int) y_18 b_19 y21.1 (0 : Int) a_74 x_75 x_76))) else (if x_96 = (3 : Int) then (Option.bind (roadlaw4_at a_15 (1 : Int)) fun y35 => Option.bind (roadlaw4_pick_12 a_3 y35) fun y42 => Option.bind (names_Names_Merge (T_names_Names.mk x_11_0 x_11_1 a_11_2) y42) fun y55 => Option.bind (roadlaw4_merged (T_roadref4_Names.mk x_13_0 x_13_1 a_13_2) y42) fun y68 => if y55.1 = y68.1 then ((roadlaw4_NamesPlay.j4 x_0 a_2 a_3 y55.2.node_ y55.2.count_ y55.2.rows_ y68.2.Node y68.2.Count y68.2.Rows s_16 a_74 x_75 x_76)) else (some (false))) else ((roadlaw4_NamesPlay.j4 x_0 a_2 a_3 x_11_0 x_11_1 a_11_2 x_13_0 x_13_1 a_13_2 s_16 a_74 x_75 x_76))) := fixF_eq roadlaw4_NamesPlay.l0_k.mono _
theorem roadlaw4_NamesPlay.j6_eq (x_0 a_2 a_3 x_11_0 x_11_1 a_11_2 x_13_0 x_13_1 a_13_2 a_15 s_16 x_17 y_18 b_19 x_20 x_21 a_74 x_75 x_76) : roadlaw4_NamesPlay.j6 x_0 a_2 a_3 x_11_0 x_11_1 a_11_2 x_13_0 x_13_1 a_13_2 a_15 s_16 x_17 y_18 b_19 x_20 x_21 a_74 x_75 x_76 = Option.bind (roadref4_Word s_16) fun y1 => if y1 = true then (Option.bind (roadlaw4_at a_15 (0 : Int)) fun y8 => if y8 = (1 : Int) then ((roadlaw4_NamesPlay.j8 x_0 a_2 a_3 x_11_0 x_11_1 a_11_2 x_13_0 x_13_1 a_13_2 a_15 s_16 x_17 y_18 b_19 x_20 x_21 a_74 x_75 x_76 (decide (x_17 < (1 : Int))))) else ((roadlaw4_NamesPlay.j8 x_0 a_2 a_3 x_11_0 x_11_1 a_11_2 x_13_0 x_13_1 a_13_2 a_15 s_16 x_17 y_18 b_19 x_20 x_21 a_74 x_75 x_76 false))) else ((roadlaw4_NamesPlay.j7 x_0 a_2 a_3 x_11_0 x_11_1 a_11_2 x_13_0 x_13_1 a_13_2 s_16 x_20 (3 : Int) a_74 x_75 x_76)) := fixF_eq roadlaw4_NamesPlay.l0_k.mono _
theorem roadlaw4_NamesPlay.j8_eq (x_0 a_2 a_3 x_11_0 x_11_1 a_11_2 x_13_0 x_13_1 a_13_2 a_15 s_16 x_17 y_18 b_19 x_20 x_21 a_74 x_75 x_76 b_133) : roadlaw4_NamesPlay.j8 x_0 a_2 a_3 x_11_0 x_11_1 a_11_2 x_13_0 x_13_1 a_13_2 a_15 s_16 x_17 y_18 b_19 x_20 x_21 a_74 x_75 x_76 b_133 = if b_133 = true then ((roadlaw4_NamesPlay.j7 x_0 a_2 a_3 x_11_0 x_11_1 a_11_2 x_13_0 x_13_1 a_13_2 s_16 x_20 (1 : Int) a_74 x_75 x_76)) else (Option.bind (roadlaw4_at a_15 (0 : Int)) fun y1 => if y1 = (2 : Int) then ((roadlaw4_NamesPlay.j9 x_0 a_2 a_3 x_11_0 x_11_1 a_11_2 x_13_0 x_13_1 a_13_2 s_16 x_17 b_19 x_20 x_21 a_74 x_75 x_76 (y_18.Ref == (0 : Int)))) else ((roadlaw4_NamesPlay.j9 x_0 a_2 a_3 x_11_0 x_11_1 a_11_2 x_13_0 x_13_1 a_13_2 s_16 x_17 b_19 x_20 x_21 a_74 x_75 x_76 false))) := fixF_eq roadlaw4_NamesPlay.l0_k.mono _
theorem roadlaw4_NamesPlay.j9_eq (x_0 a_2 a_3 x_11_0 x_11_1 a_11_2 x_13_0 x_13_1 a_13_2 s_16 x_17 b_19 x_20 x_21 a_74 x_75 x_76 b_141) : roadlaw4_NamesPlay.j9 x_0 a_2 a_3 x_11_0 x_11_1 a_11_2 x_13_0 x_13_1 a_13_2 s_16 x_17 b_19 x_20 x_21 a_74 x_75 x_76 b_141 = if b_141 = true then ((roadlaw4_NamesPlay.j7 x_0 a_2 a_3 x_11_0 x_11_1 a_11_2 x_13_0 x_13_1 a_13_2 s_16 x_20 (4 : Int) a_74 x_75 x_76)) else (if b_19 = true then ((roadlaw4_NamesPlay.j10 x_0 a_2 a_3 x_11_0 x_11_1 a_11_2 x_13_0 x_13_1 a_13_2 s_16 x_17 x_20 x_21 a_74 x_75 x_76 false)) else ((roadlaw4_NamesPlay.j10 x_0 a_2 a_3 x_11_0 x_11_1 a_11_2 x_13_0 x_13_1 a_13_2 s_16 x_17 x_20 x_21 a_74 x_75 x_76 (((List.length a_13_2 : Nat) : Int) == (60 : Int))))) := fixF_eq roadlaw4_NamesPlay.l0_k.mono _
theorem roadlaw4_NamesPlay.j10_eq (x_0 a_2 a_3 x_11_0 x_11_1 a_11_2 x_13_0 x_13_1 a_13_2 s_16 x_17 x_20 x_21 a_74 x_75 x_76 b_150) : roadlaw4_NamesPlay.j10 x_0 a_2 a_3 x_11_0 x_11_1 a_11_2 x_13_0 x_13_1 a_13_2 s_16 x_17 x_20 x_21 a_74 x_75 x_76 b_150 = if b_150 = true then ((roadlaw4_NamesPlay.j7 x_0 a_2 a_3 x_11_0 x_11_1 a_11_2 x_13_0 x_13_1 a_13_2 s_16 x_20 (6 : Int) a_74 x_75 x_76)) else (if x_13_1 = (1099511627776 : Int) then ((roadlaw4_NamesPlay.j7 x_0 a_2 a_3 x_11_0 x_11_1 a_11_2 x_13_0 x_13_1 a_13_2 s_16 x_20 (2 : Int) a_74 x_75 x_76)) else (Option.bind (some (pset a_13_2 s_16 (T_roadref4_Meaning.mk x_17 (IntKind.wrap .i64 (x_13_1 + (1 : Int))) x_0))) fun l5 => (roadlaw4_NamesPlay.j7 x_0 a_2 a_3 x_11_0 x_11_1 a_11_2 x_13_0 (IntKind.wrap .i64 (x_13_1 + (1 : Int))) l5 s_16 x_20 x_21 a_74 x_75 x_76))) := fixF_eq roadlaw4_NamesPlay.l0_k.mono _
theorem roadlaw4_NamesPlay.j7_eq (x_0 a_2 a_3 x_11_0 x_11_1 a_11_2 x_13_0 x_13_1 a_13_2 s_16 x_20 x_21 a_74 x_75 x_76) : roadlaw4_NamesPlay.j7 x_0 a_2 a_3 x_11_0 x_11_1 a_11_2 x_13_0 x_13_1 a_13_2 s_16 x_20 x_21 a_74 x_75 x_76 = if x_20 = x_21 then ((roadlaw4_NamesPlay.j4 x_0 a_2 a_3 x_11_0 x_11_1 a_11_2 x_13_0 x_13_1 a_13_2 s_16 a_74 x_75 x_76)) else (some (false)) := fixF_eq roadlaw4_NamesPlay.l0_k.mono _
theorem roadlaw4_NamesPlay.j4_eq (x_0 a_2 a_3 x_11_0 x_11_1 a_11_2 x_13_0 x_13_1 a_13_2 s_16 a_74 x_75 x_76) : roadlaw4_NamesPlay.j4 x_0 a_2 a_3 x_11_0 x_11_1 a_11_2 x_13_0 x_13_1 a_13_2 s_16 a_74 x_75 x_76 = Option.bind (roadlaw4_namesTell (T_names_Names.mk x_11_0 x_11_1 a_11_2) (T_roadref4_Names.mk x_13_0 x_13_1 a_13_2) s_16) fun y1 => if y1.1 = true then ((roadlaw4_NamesPlay.l0 x_0 a_2 a_3 x_11_0 x_11_1 a_11_2 y1.2.Node y1.2.Count y1.2.Rows a_74 x_75 (IntKind.wrap .i64 (x_76 + (1 : Int))))) else (some (false)) := fixF_eq roadlaw4_NamesPlay.l0_k.mono _
def roadlaw4_NamesPlay.l0_k.I : (p : roadlaw4_NamesPlay.l0_k.Pt) → (Bool) → Prop
 | .l0 x_0 a_2 a_3 x_11_0 x_11_1 a_11_2 x_13_0 x_13_1 a_13_2 a_74 x_75 x_76, r => ∀ {W h0 m0 h m A_2 n_2 c_2 A_3 n_3 c_3 bk_11 A_11_2_0 n_11_2_0 c_11_2_0 bk_13 b_13_2_0 A_74 n_74 c_74} (O : Hold W h0 m0 h m [rV bk_11 53 [(Value.int .i64 x_11_0), (Value.int .i64 x_11_1), (Value.slice A_11_2_0 n_11_2_0 c_11_2_0)], rR (aE T_names_Row.T) A_11_2_0 c_11_2_0 a_11_2, rV bk_13 38 [(Value.int .i64 x_13_0), (Value.int .i64 x_13_1), (Value.map (some b_13_2_0))], rM (monoV1 T_roadref4_Meaning.T) (fun s : ByteArray => Value.string s) b_13_2_0 a_13_2]) (ne_2 : n_2 = List.length a_2) (k_2 : List.length a_2 ≤ c_2) (r_2 : Rd 1 eStr m A_2 a_2) (ne_3 : n_3 = List.length a_3) (k_3 : List.length a_3 ≤ c_3) (r_3 : Rd 1 (eRow 4 T_names_Row.E) m A_3 a_3) (ne_11_2_0 : n_11_2_0 = List.length a_11_2) (ne_74 : n_74 = List.length a_74) (k_74 : List.length a_74 ≤ c_74) (r_74 : Rd 1 (eRow 1 (eInt .i64)) m A_74 a_74), f3.l0 (roadlaw4_NamesPlay.post W h0 m0 r) x_0 A_2 n_2 c_2 A_3 n_3 c_3 (some (⟨bk_11, 0, none⟩ : Addr)) (⟨bk_13, 0, none⟩ : Addr) A_74 n_74 c_74 x_75 x_76 h
 | .j5 x_0 a_2 a_3 x_11_0 x_11_1 a_11_2 x_13_0 x_13_1 a_13_2 a_15 s_16 x_17 y_18 b_19 a_74 x_75 x_76 x_96 b_97, r => ∀ {W h0 m0 h m A_2 n_2 c_2 A_3 n_3 c_3 bk_11 A_11_2_0 n_11_2_0 c_11_2_0 bk_13 b_13_2_0 A_15 n_15 c_15 bk_18 cs_18 A_74 n_74 c_74} (O : Hold W h0 m0 h m [rV bk_11 53 [(Value.int .i64 x_11_0), (Value.int .i64 x_11_1), (Value.slice A_11_2_0 n_11_2_0 c_11_2_0)], rR (aE T_names_Row.T) A_11_2_0 c_11_2_0 a_11_2, rV bk_13 38 [(Value.int .i64 x_13_0), (Value.int .i64 x_13_1), (Value.map (some b_13_2_0))], rM (monoV1 T_roadref4_Meaning.T) (fun s : ByteArray => Value.string s) b_13_2_0 a_13_2, rV bk_18 43 cs_18]) (ne_2 : n_2 = List.length a_2) (k_2 : List.length a_2 ≤ c_2) (r_2 : Rd 1 eStr m A_2 a_2) (ne_3 : n_3 = List.length a_3) (k_3 : List.length a_3 ≤ c_3) (r_3 : Rd 1 (eRow 4 T_names_Row.E) m A_3 a_3) (ne_11_2_0 : n_11_2_0 = List.length a_11_2) (ne_15 : n_15 = List.length a_15) (k_15 : List.length a_15 ≤ c_15) (r_15 : Rd 1 (eInt .i64) m A_15 a_15) (e_18 : T_roadref4_Meaning.E m y_18 cs_18) (ne_74 : n_74 = List.length a_74) (k_74 : List.length a_74 ≤ c_74) (r_74 : Rd 1 (eRow 1 (eInt .i64)) m A_74 a_74), f3.j5 (roadlaw4_NamesPlay.post W h0 m0 r) x_0 A_2 n_2 c_2 A_3 n_3 c_3 (some (⟨bk_11, 0, none⟩ : Addr)) (⟨bk_13, 0, none⟩ : Addr) A_15 n_15 c_15 s_16 x_17 (⟨bk_18, 0, none⟩ : Addr) b_19 A_74 n_74 c_74 x_75 x_76 x_96 b_97 h
 | .j6 x_0 a_2 a_3 x_11_0 x_11_1 a_11_2 x_13_0 x_13_1 a_13_2 a_15 s_16 x_17 y_18 b_19 x_20 x_21 a_74 x_75 x_76, r => ∀ {W h0 m0 h m A_2 n_2 c_2 A_3 n_3 c_3 bk_11 A_11_2_0 n_11_2_0 c_11_2_0 bk_13 b_13_2_0 A_15 n_15 c_15 bk_18 cs_18 A_74 n_74 c_74} (O : Hold W h0 m0 h m [rV bk_11 53 [(Value.int .i64 x_11_0), (Value.int .i64 x_11_1), (Value.slice A_11_2_0 n_11_2_0 c_11_2_0)], rR (aE T_names_Row.T) A_11_2_0 c_11_2_0 a_11_2, rV bk_13 38 [(Value.int .i64 x_13_0), (Value.int .i64 x_13_1), (Value.map (some b_13_2_0))], rM (monoV1 T_roadref4_Meaning.T) (fun s : ByteArray => Value.string s) b_13_2_0 a_13_2, rV bk_18 43 cs_18]) (ne_2 : n_2 = List.length a_2) (k_2 : List.length a_2 ≤ c_2) (r_2 : Rd 1 eStr m A_2 a_2) (ne_3 : n_3 = List.length a_3) (k_3 : List.length a_3 ≤ c_3) (r_3 : Rd 1 (eRow 4 T_names_Row.E) m A_3 a_3) (ne_11_2_0 : n_11_2_0 = List.length a_11_2) (ne_15 : n_15 = List.length a_15) (k_15 : List.length a_15 ≤ c_15) (r_15 : Rd 1 (eInt .i64) m A_15 a_15) (e_18 : T_roadref4_Meaning.E m y_18 cs_18) (ne_74 : n_74 = List.length a_74) (k_74 : List.length a_74 ≤ c_74) (r_74 : Rd 1 (eRow 1 (eInt .i64)) m A_74 a_74), f3.j6 (roadlaw4_NamesPlay.post W h0 m0 r) x_0 A_2 n_2 c_2 A_3 n_3 c_3 (some (⟨bk_11, 0, none⟩ : Addr)) (⟨bk_13, 0, none⟩ : Addr) A_15 n_15 c_15 s_16 x_17 (⟨bk_18, 0, none⟩ : Addr) b_19 x_20 x_21 A_74 n_74 c_74 x_75 x_76 h
 | .j8 x_0 a_2 a_3 x_11_0 x_11_1 a_11_2 x_13_0 x_13_1 a_13_2 a_15 s_16 x_17 y_18 b_19 x_20 x_21 a_74 x_75 x_76 b_133, r => ∀ {W h0 m0 h m A_2 n_2 c_2 A_3 n_3 c_3 bk_11 A_11_2_0 n_11_2_0 c_11_2_0 bk_13 b_13_2_0 A_15 n_15 c_15 bk_18 cs_18 A_74 n_74 c_74} (O : Hold W h0 m0 h m [rV bk_11 53 [(Value.int .i64 x_11_0), (Value.int .i64 x_11_1), (Value.slice A_11_2_0 n_11_2_0 c_11_2_0)], rR (aE T_names_Row.T) A_11_2_0 c_11_2_0 a_11_2, rV bk_13 38 [(Value.int .i64 x_13_0), (Value.int .i64 x_13_1), (Value.map (some b_13_2_0))], rM (monoV1 T_roadref4_Meaning.T) (fun s : ByteArray => Value.string s) b_13_2_0 a_13_2, rV bk_18 43 cs_18]) (ne_2 : n_2 = List.length a_2) (k_2 : List.length a_2 ≤ c_2) (r_2 : Rd 1 eStr m A_2 a_2) (ne_3 : n_3 = List.length a_3) (k_3 : List.length a_3 ≤ c_3) (r_3 : Rd 1 (eRow 4 T_names_Row.E) m A_3 a_3) (ne_11_2_0 : n_11_2_0 = List.length a_11_2) (ne_15 : n_15 = List.length a_15) (k_15 : List.length a_15 ≤ c_15) (r_15 : Rd 1 (eInt .i64) m A_15 a_15) (e_18 : T_roadref4_Meaning.E m y_18 cs_18) (ne_74 : n_74 = List.length a_74) (k_74 : List.length a_74 ≤ c_74) (r_74 : Rd 1 (eRow 1 (eInt .i64)) m A_74 a_74), f3.j8 (roadlaw4_NamesPlay.post W h0 m0 r) x_0 A_2 n_2 c_2 A_3 n_3 c_3 (some (⟨bk_11, 0, none⟩ : Addr)) (⟨bk_13, 0, none⟩ : Addr) A_15 n_15 c_15 s_16 x_17 (⟨bk_18, 0, none⟩ : Addr) b_19 x_20 x_21 A_74 n_74 c_74 x_75 x_76 b_133 h
 | .j9 x_0 a_2 a_3 x_11_0 x_11_1 a_11_2 x_13_0 x_13_1 a_13_2 s_16 x_17 b_19 x_20 x_21 a_74 x_75 x_76 b_141, r => ∀ {W h0 m0 h m A_2 n_2 c_2 A_3 n_3 c_3 bk_11 A_11_2_0 n_11_2_0 c_11_2_0 bk_13 b_13_2_0 A_74 n_74 c_74} (O : Hold W h0 m0 h m [rV bk_11 53 [(Value.int .i64 x_11_0), (Value.int .i64 x_11_1), (Value.slice A_11_2_0 n_11_2_0 c_11_2_0)], rR (aE T_names_Row.T) A_11_2_0 c_11_2_0 a_11_2, rV bk_13 38 [(Value.int .i64 x_13_0), (Value.int .i64 x_13_1), (Value.map (some b_13_2_0))], rM (monoV1 T_roadref4_Meaning.T) (fun s : ByteArray => Value.string s) b_13_2_0 a_13_2]) (ne_2 : n_2 = List.length a_2) (k_2 : List.length a_2 ≤ c_2) (r_2 : Rd 1 eStr m A_2 a_2) (ne_3 : n_3 = List.length a_3) (k_3 : List.length a_3 ≤ c_3) (r_3 : Rd 1 (eRow 4 T_names_Row.E) m A_3 a_3) (ne_11_2_0 : n_11_2_0 = List.length a_11_2) (ne_74 : n_74 = List.length a_74) (k_74 : List.length a_74 ≤ c_74) (r_74 : Rd 1 (eRow 1 (eInt .i64)) m A_74 a_74), f3.j9 (roadlaw4_NamesPlay.post W h0 m0 r) x_0 A_2 n_2 c_2 A_3 n_3 c_3 (some (⟨bk_11, 0, none⟩ : Addr)) (⟨bk_13, 0, none⟩ : Addr) s_16 x_17 b_19 x_20 x_21 A_74 n_74 c_74 x_75 x_76 b_141 h
 | .j10 x_0 a_2 a_3 x_11_0 x_11_1 a_11_2 x_13_0 x_13_1 a_13_2 s_16 x_17 x_20 x_21 a_74 x_75 x_76 b_150, r => ∀ {W h0 m0 h m A_2 n_2 c_2 A_3 n_3 c_3 bk_11 A_11_2_0 n_11_2_0 c_11_2_0 bk_13 b_13_2_0 A_74 n_74 c_74} (O : Hold W h0 m0 h m [rV bk_11 53 [(Value.int .i64 x_11_0), (Value.int .i64 x_11_1), (Value.slice A_11_2_0 n_11_2_0 c_11_2_0)], rR (aE T_names_Row.T) A_11_2_0 c_11_2_0 a_11_2, rV bk_13 38 [(Value.int .i64 x_13_0), (Value.int .i64 x_13_1), (Value.map (some b_13_2_0))], rM (monoV1 T_roadref4_Meaning.T) (fun s : ByteArray => Value.string s) b_13_2_0 a_13_2]) (ne_2 : n_2 = List.length a_2) (k_2 : List.length a_2 ≤ c_2) (r_2 : Rd 1 eStr m A_2 a_2) (ne_3 : n_3 = List.length a_3) (k_3 : List.length a_3 ≤ c_3) (r_3 : Rd 1 (eRow 4 T_names_Row.E) m A_3 a_3) (ne_11_2_0 : n_11_2_0 = List.length a_11_2) (ne_74 : n_74 = List.length a_74) (k_74 : List.length a_74 ≤ c_74) (r_74 : Rd 1 (eRow 1 (eInt .i64)) m A_74 a_74), f3.j10 (roadlaw4_NamesPlay.post W h0 m0 r) x_0 A_2 n_2 c_2 A_3 n_3 c_3 (some (⟨bk_11, 0, none⟩ : Addr)) (⟨bk_13, 0, none⟩ : Addr) s_16 x_17 x_20 x_21 A_74 n_74 c_74 x_75 x_76 b_150 h
 | .j7 x_0 a_2 a_3 x_11_0 x_11_1 a_11_2 x_13_0 x_13_1 a_13_2 s_16 x_20 x_21 a_74 x_75 x_76, r => ∀ {W h0 m0 h m A_2 n_2 c_2 A_3 n_3 c_3 bk_11 A_11_2_0 n_11_2_0 c_11_2_0 bk_13 b_13_2_0 A_74 n_74 c_74} (O : Hold W h0 m0 h m [rV bk_11 53 [(Value.int .i64 x_11_0), (Value.int .i64 x_11_1), (Value.slice A_11_2_0 n_11_2_0 c_11_2_0)], rR (aE T_names_Row.T) A_11_2_0 c_11_2_0 a_11_2, rV bk_13 38 [(Value.int .i64 x_13_0), (Value.int .i64 x_13_1), (Value.map (some b_13_2_0))], rM (monoV1 T_roadref4_Meaning.T) (fun s : ByteArray => Value.string s) b_13_2_0 a_13_2]) (ne_2 : n_2 = List.length a_2) (k_2 : List.length a_2 ≤ c_2) (r_2 : Rd 1 eStr m A_2 a_2) (ne_3 : n_3 = List.length a_3) (k_3 : List.length a_3 ≤ c_3) (r_3 : Rd 1 (eRow 4 T_names_Row.E) m A_3 a_3) (ne_11_2_0 : n_11_2_0 = List.length a_11_2) (ne_74 : n_74 = List.length a_74) (k_74 : List.length a_74 ≤ c_74) (r_74 : Rd 1 (eRow 1 (eInt .i64)) m A_74 a_74), f3.j7 (roadlaw4_NamesPlay.post W h0 m0 r) x_0 A_2 n_2 c_2 A_3 n_3 c_3 (some (⟨bk_11, 0, none⟩ : Addr)) (⟨bk_13, 0, none⟩ : Addr) s_16 x_20 x_21 A_74 n_74 c_74 x_75 x_76 h
 | .j4 x_0 a_2 a_3 x_11_0 x_11_1 a_11_2 x_13_0 x_13_1 a_13_2 s_16 a_74 x_75 x_76, r => ∀ {W h0 m0 h m A_2 n_2 c_2 A_3 n_3 c_3 bk_11 A_11_2_0 n_11_2_0 c_11_2_0 bk_13 b_13_2_0 A_74 n_74 c_74} (O : Hold W h0 m0 h m [rV bk_11 53 [(Value.int .i64 x_11_0), (Value.int .i64 x_11_1), (Value.slice A_11_2_0 n_11_2_0 c_11_2_0)], rR (aE T_names_Row.T) A_11_2_0 c_11_2_0 a_11_2, rV bk_13 38 [(Value.int .i64 x_13_0), (Value.int .i64 x_13_1), (Value.map (some b_13_2_0))], rM (monoV1 T_roadref4_Meaning.T) (fun s : ByteArray => Value.string s) b_13_2_0 a_13_2]) (ne_2 : n_2 = List.length a_2) (k_2 : List.length a_2 ≤ c_2) (r_2 : Rd 1 eStr m A_2 a_2) (ne_3 : n_3 = List.length a_3) (k_3 : List.length a_3 ≤ c_3) (r_3 : Rd 1 (eRow 4 T_names_Row.E) m A_3 a_3) (ne_11_2_0 : n_11_2_0 = List.length a_11_2) (ne_74 : n_74 = List.length a_74) (k_74 : List.length a_74 ≤ c_74) (r_74 : Rd 1 (eRow 1 (eInt .i64)) m A_74 a_74), f3.j4 (roadlaw4_NamesPlay.post W h0 m0 r) x_0 A_2 n_2 c_2 A_3 n_3 c_3 (some (⟨bk_11, 0, none⟩ : Addr)) (⟨bk_13, 0, none⟩ : Addr) s_16 A_74 n_74 c_74 x_75 x_76 h
set_option maxHeartbeats 4000000 in
theorem roadlaw4_NamesPlay.l0_k.step_l0 (go : (p : roadlaw4_NamesPlay.l0_k.Pt) → Option (Bool)) (ih : ∀ p r, go p = some r → roadlaw4_NamesPlay.l0_k.I p r) (x_0 a_2 a_3 x_11_0 x_11_1 a_11_2 x_13_0 x_13_1 a_13_2 a_74 x_75 x_76) (r) (e : roadlaw4_NamesPlay.l0_k.body go (.l0 x_0 a_2 a_3 x_11_0 x_11_1 a_11_2 x_13_0 x_13_1 a_13_2 a_74 x_75 x_76) = some r) : roadlaw4_NamesPlay.l0_k.I (.l0 x_0 a_2 a_3 x_11_0 x_11_1 a_11_2 x_13_0 x_13_1 a_13_2 a_74 x_75 x_76) r := by
 unfold roadlaw4_NamesPlay.l0_k.body at e
 intro W h0 m0 h m A_2 n_2 c_2 A_3 n_3 c_3 bk_11 A_11_2_0 n_11_2_0 c_11_2_0 bk_13 b_13_2_0 A_74 n_74 c_74 O ne_2 k_2 r_2 ne_3 k_3 r_3 ne_11_2_0 ne_74 k_74 r_74
 subst ne_2
 subst ne_3
 subst ne_11_2_0
 subst ne_74
 refine f3.l0_in ?_
 unfold f3.l0T
 refine split_dec_e e (fun c47 e => ?_) (fun c47 e => ?_)
 · obtain ⟨y1, g2, e⟩ := bind_e e
   refine r_74.addr rfl g2 fun a3 cs4 ha5 hc6 he7 => ?_
   obtain ⟨Acs4_0, ccs4_0, rfl, kcs4_0, rcs4_0⟩ := id he7
   refine ⟨_, ld0 O.s hc6 rfl, _, _, _, rfl, ?_⟩
   obtain ⟨y8, g9, e⟩ := bind_e e
   refine (roadlaw4_at.walk (Hold.start (W := No) O.s) rfl kcs4_0 rcs4_0 g9).mono ?_
   rintro _ h10 ⟨m11, Q12, rfl⟩
   have O14 := Hold.nm (O.retC Q12 vfs_nil)
   refine ⟨_, rfl, ?_⟩
   obtain ⟨y15, g16, e⟩ := bind_e e
   refine (roadlaw4_pick_8.walk (Hold.start (W := No) O14.s) rfl k_2 r_2 g16).mono ?_
   rintro _ h17 ⟨m18, Q19, rfl⟩
   have O21 := Hold.nm (O14.retC Q19 vfs_nil)
   refine ⟨_, rfl, ?_⟩
   obtain ⟨y22, g23, e⟩ := bind_e e
   refine (roadlaw4_at.walk (Hold.start (W := No) O21.s) rfl kcs4_0 rcs4_0 g23).mono ?_
   rintro _ h24 ⟨m25, Q26, rfl⟩
   have O28 := Hold.nm (O21.retC Q26 vfs_nil)
   refine ⟨_, rfl, ?_⟩
   refine ⟨_, ldk (k := 2) (Sub.refl _) (O28.all 2 rfl) rfl, ?_⟩
   refine (O28.om 3 rfl).look2 (zv := (T_roadref4_Meaning.mk (0 : Int) (0 : Int) (0 : Int))) (z := (Value.agg #[(Value.int .i64 (0 : Int)), (Value.int .i64 (0 : Int)), (Value.int .i64 (0 : Int))])) (keyOk_str (key := 9) (elem := 43) (by kernel_rfl) (by kernel_rfl)) y15 (by kernel_rfl) ⟨[(Value.int .i64 (0 : Int)), (Value.int .i64 (0 : Int)), (Value.int .i64 (0 : Int))], rfl, (show T_roadref4_Meaning.E _ (T_roadref4_Meaning.mk (0 : Int) (0 : Int) (0 : Int)) [(Value.int .i64 (0 : Int)), (Value.int .i64 (0 : Int)), (Value.int .i64 (0 : Int))] from rfl)⟩ (fun v29 hv30 => ?_)
   obtain ⟨cs31, rfl, he32⟩ := hv30
   refine ⟨_, _, rfl, ?_⟩
   refine O28.new fun h33 x34 O35 => ?_
   refine ⟨_, rfl, (T_roadref4_Meaning.T.len _ _ _ he32), ?_⟩
   refine O35.stA 4 rfl (T_roadref4_Meaning.T.len _ _ _ he32) (T_roadref4_Meaning.T.flat _ _ _ he32) fun h37 O38 => ?_
   obtain ⟨y39, g40, e⟩ := bind_e e
   refine (roadlaw4_at.walk (Hold.start (W := No) O38.s) rfl kcs4_0 rcs4_0 g40).mono ?_
   rintro _ h41 ⟨m42, Q43, rfl⟩
   have O45 := Hold.nm (O38.retC Q43 vfs_nil)
   refine ⟨_, rfl, ?_⟩
   refine split_eq_e e (fun c46 e => ?_) (fun c46 e => ?_)
   · exact (ih _ _ e) (O45.pick [0, 1, 2, 3, 4]).nm rfl k_2 r_2 rfl k_3 r_3 rfl rfl kcs4_0 rcs4_0 he32 rfl k_74 r_74
   · exact (ih _ _ e) (O45.pick [0, 1, 2, 3, 4]).nm rfl k_2 r_2 rfl k_3 r_3 rfl rfl kcs4_0 rcs4_0 he32 rfl k_74 r_74
 · cases e
   exact ⟨_, O.pick [], rfl⟩
set_option maxHeartbeats 4000000 in
theorem roadlaw4_NamesPlay.l0_k.step_j5 (go : (p : roadlaw4_NamesPlay.l0_k.Pt) → Option (Bool)) (ih : ∀ p r, go p = some r → roadlaw4_NamesPlay.l0_k.I p r) (x_0 a_2 a_3 x_11_0 x_11_1 a_11_2 x_13_0 x_13_1 a_13_2 a_15 s_16 x_17 y_18 b_19 a_74 x_75 x_76 x_96 b_97) (r) (e : roadlaw4_NamesPlay.l0_k.body go (.j5 x_0 a_2 a_3 x_11_0 x_11_1 a_11_2 x_13_0 x_13_1 a_13_2 a_15 s_16 x_17 y_18 b_19 a_74 x_75 x_76 x_96 b_97) = some r) : roadlaw4_NamesPlay.l0_k.I (.j5 x_0 a_2 a_3 x_11_0 x_11_1 a_11_2 x_13_0 x_13_1 a_13_2 a_15 s_16 x_17 y_18 b_19 a_74 x_75 x_76 x_96 b_97) r := by
 unfold roadlaw4_NamesPlay.l0_k.body at e
 intro W h0 m0 h m A_2 n_2 c_2 A_3 n_3 c_3 bk_11 A_11_2_0 n_11_2_0 c_11_2_0 bk_13 b_13_2_0 A_15 n_15 c_15 bk_18 cs_18 A_74 n_74 c_74 O ne_2 k_2 r_2 ne_3 k_3 r_3 ne_11_2_0 ne_15 k_15 r_15 e_18 ne_74 k_74 r_74
 subst ne_2
 subst ne_3
 subst ne_11_2_0
 subst ne_15
 subst ne_74
 refine f3.j5_in ?_
 unfold f3.j5T
 refine split_any_e e (fun c83 e => ?_) (fun c83 e => ?_)
 · obtain ⟨y1, g2, e⟩ := bind_e e
   refine (roadlaw4_at.walk (Hold.start (W := No) O.s) rfl k_15 r_15 g2).mono ?_
   rintro _ h3 ⟨m4, Q5, rfl⟩
   have O7 := Hold.nm (O.retC Q5 vfs_nil)
   refine ⟨_, rfl, ?_⟩
   refine split_eq_e e (fun c34 e => ?_) (fun c34 e => ?_)
   · obtain ⟨y8, g9, e⟩ := bind_e e
     obtain ⟨W14, P15, B16, C17⟩ := O7.callC [0, 1]
     refine (names_Names_Set.walk (y_0 := (T_names_Names.mk x_11_0 x_11_1 a_11_2)) P15 rfl g9).mono ?_
     rintro _ h10 ⟨m11, A_18_2, n_18_2, c_18_2, Q12, rfl, ne_18_2⟩
     have O20 := Hold.nm (C17 Q12 (vfs_cons rV_vf (vfs_cons (rR_vf (aE_vf (fun _ _ _ _ h => T_names_Row.keep h))) vfs_nil)))
     subst ne_18_2
     refine ⟨_, rfl, ?_⟩
     exact (ih _ _ e) (O20.pick [5, 6, 2, 3, 4]).nm rfl k_2 r_2 rfl k_3 r_3 rfl rfl k_15 r_15 e_18 rfl k_74 r_74
   · obtain ⟨y21, g22, e⟩ := bind_e e
     obtain ⟨W27, P28, B29, C30⟩ := O7.callC [0, 1]
     refine (names_Names_Drop.walk (y_0 := (T_names_Names.mk x_11_0 x_11_1 a_11_2)) P28 rfl g22).mono ?_
     rintro _ h23 ⟨m24, A_31_2, n_31_2, c_31_2, Q25, rfl, ne_31_2⟩
     have O33 := Hold.nm (C30 Q25 (vfs_cons rV_vf (vfs_cons (rR_vf (aE_vf (fun _ _ _ _ h => T_names_Row.keep h))) vfs_nil)))
     subst ne_31_2
     refine ⟨_, rfl, ?_⟩
     exact (ih _ _ e) (O33.pick [5, 6, 2, 3, 4]).nm rfl k_2 r_2 rfl k_3 r_3 rfl rfl k_15 r_15 e_18 rfl k_74 r_74
 · refine split_eq_e e (fun c82 e => ?_) (fun c82 e => ?_)
   · obtain ⟨y35, g36, e⟩ := bind_e e
     refine (roadlaw4_at.walk (Hold.start (W := No) O.s) rfl k_15 r_15 g36).mono ?_
     rintro _ h37 ⟨m38, Q39, rfl⟩
     have O41 := Hold.nm (O.retC Q39 vfs_nil)
     refine ⟨_, rfl, ?_⟩
     obtain ⟨y42, g43, e⟩ := bind_e e
     refine (roadlaw4_pick_12.walk (Hold.start (W := No) O41.s) rfl k_3 r_3 g43).mono ?_
     rintro _ h44 ⟨m45, A48, n49, c50, Q46, rfl, ne51, k52, r53⟩
     have O54 := Hold.nm (O41.ret Q46)
     subst ne51
     refine ⟨_, _, _, rfl, ?_⟩
     obtain ⟨y55, g56, e⟩ := bind_e e
     obtain ⟨W61, P62, B63, C64⟩ := O54.callC [0, 1]
     refine (names_Names_Merge.walk (y_0 := (T_names_Names.mk x_11_0 x_11_1 a_11_2)) P62 rfl rfl k52 r53 g56).mono ?_
     rintro _ h57 ⟨m58, A_65_2, n_65_2, c_65_2, Q59, rfl, ne_65_2⟩
     have O67 := Hold.nm (C64 Q59 (vfs_cons rV_vf (vfs_cons (rR_vf (aE_vf (fun _ _ _ _ h => T_names_Row.keep h))) vfs_nil)))
     subst ne_65_2
     refine ⟨_, rfl, ?_⟩
     obtain ⟨y68, g69, e⟩ := bind_e e
     obtain ⟨W74, P75, B76, C77⟩ := O67.callC [2, 3]
     refine (roadlaw4_merged.walk (y_0 := (T_roadref4_Names.mk x_13_0 x_13_1 a_13_2)) P75 rfl k52 r53 g69).mono ?_
     rintro _ h70 ⟨m71, b_78_2, Q72, rfl⟩
     have O80 := Hold.nm (C77 Q72 (vfs_cons rV_vf (vfs_cons (rM_vf (fun _ _ _ _ h => h)) vfs_nil)))
     refine ⟨_, rfl, ?_⟩
     refine split_ne_e e (fun c81 e => ?_) (fun c81 e => ?_)
     · cases e
       exact ⟨_, O80.pick [], rfl⟩
     · exact (ih _ _ e) (O80.pick [5, 6, 7, 8]).nm rfl k_2 (r_2.sub tell_str Q46.S.up) rfl k_3 (r_3.sub (tell_row T_names_Row.T) Q46.S.up) rfl rfl k_74 (r_74.sub (tell_row (tell_int .i64)) Q46.S.up)
   · exact (ih _ _ e) (O.pick [0, 1, 2, 3]).nm rfl k_2 r_2 rfl k_3 r_3 rfl rfl k_74 r_74
theorem roadlaw4_NamesPlay.l0_k.step_j6 (go : (p : roadlaw4_NamesPlay.l0_k.Pt) → Option (Bool)) (ih : ∀ p r, go p = some r → roadlaw4_NamesPlay.l0_k.I p r) (x_0 a_2 a_3 x_11_0 x_11_1 a_11_2 x_13_0 x_13_1 a_13_2 a_15 s_16 x_17 y_18 b_19 x_20 x_21 a_74 x_75 x_76) (r) (e : roadlaw4_NamesPlay.l0_k.body go (.j6 x_0 a_2 a_3 x_11_0 x_11_1 a_11_2 x_13_0 x_13_1 a_13_2 a_15 s_16 x_17 y_18 b_19 x_20 x_21 a_74 x_75 x_76) = some r) : roadlaw4_NamesPlay.l0_k.I (.j6 x_0 a_2 a_3 x_11_0 x_11_1 a_11_2 x_13_0 x_13_1 a_13_2 a_15 s_16 x_17 y_18 b_19 x_20 x_21 a_74 x_75 x_76) r := by
 unfold roadlaw4_NamesPlay.l0_k.body at e
 intro W h0 m0 h m A_2 n_2 c_2 A_3 n_3 c_3 bk_11 A_11_2_0 n_11_2_0 c_11_2_0 bk_13 b_13_2_0 A_15 n_15 c_15 bk_18 cs_18 A_74 n_74 c_74 O ne_2 k_2 r_2 ne_3 k_3 r_3 ne_11_2_0 ne_15 k_15 r_15 e_18 ne_74 k_74 r_74
 subst ne_2
 subst ne_3
 subst ne_11_2_0
 subst ne_15
 subst ne_74
 refine f3.j6_in ?_
 unfold f3.j6T
 obtain ⟨y1, g2, e⟩ := bind_e e
 refine (roadref4_Word.walk (Hold.start (W := No) O.s)  g2).mono ?_
 rintro _ h3 ⟨m4, Q5, rfl⟩
 have O7 := Hold.nm (O.retC Q5 vfs_nil)
 refine ⟨_, rfl, ?_⟩
 refine split_not ?_
 refine split_any_e e (fun c16 e => ?_) (fun c16 e => ?_)
 · obtain ⟨y8, g9, e⟩ := bind_e e
   refine (roadlaw4_at.walk (Hold.start (W := No) O7.s) rfl k_15 r_15 g9).mono ?_
   rintro _ h10 ⟨m11, Q12, rfl⟩
   have O14 := Hold.nm (O7.retC Q12 vfs_nil)
   refine ⟨_, rfl, ?_⟩
   refine split_eq_e e (fun c15 e => ?_) (fun c15 e => ?_)
   · exact (ih _ _ e) (O14.pick [0, 1, 2, 3, 4]).nm rfl k_2 r_2 rfl k_3 r_3 rfl rfl k_15 r_15 e_18 rfl k_74 r_74
   · exact (ih _ _ e) (O14.pick [0, 1, 2, 3, 4]).nm rfl k_2 r_2 rfl k_3 r_3 rfl rfl k_15 r_15 e_18 rfl k_74 r_74
 · exact (ih _ _ e) (O7.pick [0, 1, 2, 3]).nm rfl k_2 r_2 rfl k_3 r_3 rfl rfl k_74 r_74
theorem roadlaw4_NamesPlay.l0_k.step_j8 (go : (p : roadlaw4_NamesPlay.l0_k.Pt) → Option (Bool)) (ih : ∀ p r, go p = some r → roadlaw4_NamesPlay.l0_k.I p r) (x_0 a_2 a_3 x_11_0 x_11_1 a_11_2 x_13_0 x_13_1 a_13_2 a_15 s_16 x_17 y_18 b_19 x_20 x_21 a_74 x_75 x_76 b_133) (r) (e : roadlaw4_NamesPlay.l0_k.body go (.j8 x_0 a_2 a_3 x_11_0 x_11_1 a_11_2 x_13_0 x_13_1 a_13_2 a_15 s_16 x_17 y_18 b_19 x_20 x_21 a_74 x_75 x_76 b_133) = some r) : roadlaw4_NamesPlay.l0_k.I (.j8 x_0 a_2 a_3 x_11_0 x_11_1 a_11_2 x_13_0 x_13_1 a_13_2 a_15 s_16 x_17 y_18 b_19 x_20 x_21 a_74 x_75 x_76 b_133) r := by
 unfold roadlaw4_NamesPlay.l0_k.body at e
 intro W h0 m0 h m A_2 n_2 c_2 A_3 n_3 c_3 bk_11 A_11_2_0 n_11_2_0 c_11_2_0 bk_13 b_13_2_0 A_15 n_15 c_15 bk_18 cs_18 A_74 n_74 c_74 O ne_2 k_2 r_2 ne_3 k_3 r_3 ne_11_2_0 ne_15 k_15 r_15 e_18 ne_74 k_74 r_74
 subst ne_2
 subst ne_3
 subst ne_11_2_0
 subst ne_15
 subst ne_74
 refine f3.j8_in ?_
 unfold f3.j8T
 refine split_any_e e (fun c9 e => ?_) (fun c9 e => ?_)
 · exact (ih _ _ e) (O.pick [0, 1, 2, 3]).nm rfl k_2 r_2 rfl k_3 r_3 rfl rfl k_74 r_74
 · obtain ⟨y1, g2, e⟩ := bind_e e
   refine (roadlaw4_at.walk (Hold.start (W := No) O.s) rfl k_15 r_15 g2).mono ?_
   rintro _ h3 ⟨m4, Q5, rfl⟩
   have O7 := Hold.nm (O.retC Q5 vfs_nil)
   refine ⟨_, rfl, ?_⟩
   refine split_eq_e e (fun c8 e => ?_) (fun c8 e => ?_)
   · refine ⟨_, ld0 (Sub.refl _) (O7.all 4 rfl) (T_roadref4_Meaning.g0 e_18), _, rfl, ?_⟩
     exact (ih _ _ e) (O7.pick [0, 1, 2, 3]).nm rfl k_2 r_2 rfl k_3 r_3 rfl rfl k_74 r_74
   · exact (ih _ _ e) (O7.pick [0, 1, 2, 3]).nm rfl k_2 r_2 rfl k_3 r_3 rfl rfl k_74 r_74
theorem roadlaw4_NamesPlay.l0_k.step_j9 (go : (p : roadlaw4_NamesPlay.l0_k.Pt) → Option (Bool)) (ih : ∀ p r, go p = some r → roadlaw4_NamesPlay.l0_k.I p r) (x_0 a_2 a_3 x_11_0 x_11_1 a_11_2 x_13_0 x_13_1 a_13_2 s_16 x_17 b_19 x_20 x_21 a_74 x_75 x_76 b_141) (r) (e : roadlaw4_NamesPlay.l0_k.body go (.j9 x_0 a_2 a_3 x_11_0 x_11_1 a_11_2 x_13_0 x_13_1 a_13_2 s_16 x_17 b_19 x_20 x_21 a_74 x_75 x_76 b_141) = some r) : roadlaw4_NamesPlay.l0_k.I (.j9 x_0 a_2 a_3 x_11_0 x_11_1 a_11_2 x_13_0 x_13_1 a_13_2 s_16 x_17 b_19 x_20 x_21 a_74 x_75 x_76 b_141) r := by
 unfold roadlaw4_NamesPlay.l0_k.body at e
 intro W h0 m0 h m A_2 n_2 c_2 A_3 n_3 c_3 bk_11 A_11_2_0 n_11_2_0 c_11_2_0 bk_13 b_13_2_0 A_74 n_74 c_74 O ne_2 k_2 r_2 ne_3 k_3 r_3 ne_11_2_0 ne_74 k_74 r_74
 subst ne_2
 subst ne_3
 subst ne_11_2_0
 subst ne_74
 refine f3.j9_in ?_
 unfold f3.j9T
 refine split_any_e e (fun c2 e => ?_) (fun c2 e => ?_)
 · exact (ih _ _ e) (O.pick [0, 1, 2, 3]).nm rfl k_2 r_2 rfl k_3 r_3 rfl rfl k_74 r_74
 · refine split_not ?_
   refine split_any_e e (fun c1 e => ?_) (fun c1 e => ?_)
   · exact (ih _ _ e) (O.pick [0, 1, 2, 3]).nm rfl k_2 r_2 rfl k_3 r_3 rfl rfl k_74 r_74
   · refine ⟨_, ldk (k := 2) (Sub.refl _) (O.all 2 rfl) rfl, ?_⟩
     refine OM.len (t := 36) (key := 9) (elem := 43) (O.om 3 rfl) rfl (by kernel_rfl) ?_
     refine ⟨_, rfl, ?_⟩
     exact (ih _ _ e) (O.pick [0, 1, 2, 3]).nm rfl k_2 r_2 rfl k_3 r_3 rfl rfl k_74 r_74
theorem roadlaw4_NamesPlay.l0_k.step_j10 (go : (p : roadlaw4_NamesPlay.l0_k.Pt) → Option (Bool)) (ih : ∀ p r, go p = some r → roadlaw4_NamesPlay.l0_k.I p r) (x_0 a_2 a_3 x_11_0 x_11_1 a_11_2 x_13_0 x_13_1 a_13_2 s_16 x_17 x_20 x_21 a_74 x_75 x_76 b_150) (r) (e : roadlaw4_NamesPlay.l0_k.body go (.j10 x_0 a_2 a_3 x_11_0 x_11_1 a_11_2 x_13_0 x_13_1 a_13_2 s_16 x_17 x_20 x_21 a_74 x_75 x_76 b_150) = some r) : roadlaw4_NamesPlay.l0_k.I (.j10 x_0 a_2 a_3 x_11_0 x_11_1 a_11_2 x_13_0 x_13_1 a_13_2 s_16 x_17 x_20 x_21 a_74 x_75 x_76 b_150) r := by
 unfold roadlaw4_NamesPlay.l0_k.body at e
 intro W h0 m0 h m A_2 n_2 c_2 A_3 n_3 c_3 bk_11 A_11_2_0 n_11_2_0 c_11_2_0 bk_13 b_13_2_0 A_74 n_74 c_74 O ne_2 k_2 r_2 ne_3 k_3 r_3 ne_11_2_0 ne_74 k_74 r_74
 subst ne_2
 subst ne_3
 subst ne_11_2_0
 subst ne_74
 refine f3.j10_in ?_
 unfold f3.j10T
 refine split_any_e e (fun c9 e => ?_) (fun c9 e => ?_)
 · exact (ih _ _ e) (O.pick [0, 1, 2, 3]).nm rfl k_2 r_2 rfl k_3 r_3 rfl rfl k_74 r_74
 · refine ⟨_, ldk (k := 1) (Sub.refl _) (O.all 2 rfl) rfl, _, rfl, ?_⟩
   refine split_eq_e e (fun c8 e => ?_) (fun c8 e => ?_)
   · exact (ih _ _ e) (O.pick [0, 1, 2, 3]).nm rfl k_2 r_2 rfl k_3 r_3 rfl rfl k_74 r_74
   · refine ⟨_, ldk (k := 1) (Sub.refl _) (O.all 2 rfl) rfl, _, rfl, ?_⟩
     refine O.st 2 rfl 1 (Nat.le_of_ble_eq_true rfl) trivial fun h1 O2 => ?_
     refine ⟨_, ldk (k := 2) (Sub.refl _) (O2.all 2 rfl) rfl, ?_⟩
     refine ⟨_, ldk (k := 1) (Sub.refl _) (O2.all 2 rfl) rfl, _, rfl, ?_⟩
     refine ⟨(Ext.refl _), ?_⟩
     obtain ⟨l5, g6, e⟩ := bind_e e
     replace g6 := Option.some.inj g6
     refine O2.mapUpd (x := (T_roadref4_Meaning.mk x_17 (IntKind.wrap .i64 (x_13_1 + (1 : Int))) x_0)) (v := (Value.agg #[(Value.int .i64 x_17), (Value.int .i64 (IntKind.wrap .i64 (x_13_1 + (1 : Int)))), (Value.int .i64 x_0)])) 3 rfl (keyOk_str (key := 9) (elem := 43) (by kernel_rfl) (by kernel_rfl)) s_16 (show (eV1 T_roadref4_Meaning.E) m (T_roadref4_Meaning.mk x_17 (IntKind.wrap .i64 (x_13_1 + (1 : Int))) x_0) (Value.agg #[(Value.int .i64 x_17), (Value.int .i64 (IntKind.wrap .i64 (x_13_1 + (1 : Int)))), (Value.int .i64 x_0)]) from ⟨[(Value.int .i64 x_17), (Value.int .i64 (IntKind.wrap .i64 (x_13_1 + (1 : Int)))), (Value.int .i64 x_0)], rfl, (show T_roadref4_Meaning.E _ (T_roadref4_Meaning.mk x_17 (IntKind.wrap .i64 (x_13_1 + (1 : Int))) x_0) [(Value.int .i64 x_17), (Value.int .i64 (IntKind.wrap .i64 (x_13_1 + (1 : Int)))), (Value.int .i64 x_0)] from rfl)⟩) g6 fun h3 O4 => ?_
     have O7 := O4.nm
     exact (ih _ _ e) (O7.pick [0, 1, 2, 3]).nm rfl k_2 r_2 rfl k_3 r_3 rfl rfl k_74 r_74
theorem roadlaw4_NamesPlay.l0_k.step_j7 (go : (p : roadlaw4_NamesPlay.l0_k.Pt) → Option (Bool)) (ih : ∀ p r, go p = some r → roadlaw4_NamesPlay.l0_k.I p r) (x_0 a_2 a_3 x_11_0 x_11_1 a_11_2 x_13_0 x_13_1 a_13_2 s_16 x_20 x_21 a_74 x_75 x_76) (r) (e : roadlaw4_NamesPlay.l0_k.body go (.j7 x_0 a_2 a_3 x_11_0 x_11_1 a_11_2 x_13_0 x_13_1 a_13_2 s_16 x_20 x_21 a_74 x_75 x_76) = some r) : roadlaw4_NamesPlay.l0_k.I (.j7 x_0 a_2 a_3 x_11_0 x_11_1 a_11_2 x_13_0 x_13_1 a_13_2 s_16 x_20 x_21 a_74 x_75 x_76) r := by
 unfold roadlaw4_NamesPlay.l0_k.body at e
 intro W h0 m0 h m A_2 n_2 c_2 A_3 n_3 c_3 bk_11 A_11_2_0 n_11_2_0 c_11_2_0 bk_13 b_13_2_0 A_74 n_74 c_74 O ne_2 k_2 r_2 ne_3 k_3 r_3 ne_11_2_0 ne_74 k_74 r_74
 subst ne_2
 subst ne_3
 subst ne_11_2_0
 subst ne_74
 refine f3.j7_in ?_
 unfold f3.j7T
 refine split_ne_e e (fun c1 e => ?_) (fun c1 e => ?_)
 · cases e
   exact ⟨_, O.pick [], rfl⟩
 · exact (ih _ _ e) (O.pick [0, 1, 2, 3]).nm rfl k_2 r_2 rfl k_3 r_3 rfl rfl k_74 r_74
theorem roadlaw4_NamesPlay.l0_k.step_j4 (go : (p : roadlaw4_NamesPlay.l0_k.Pt) → Option (Bool)) (ih : ∀ p r, go p = some r → roadlaw4_NamesPlay.l0_k.I p r) (x_0 a_2 a_3 x_11_0 x_11_1 a_11_2 x_13_0 x_13_1 a_13_2 s_16 a_74 x_75 x_76) (r) (e : roadlaw4_NamesPlay.l0_k.body go (.j4 x_0 a_2 a_3 x_11_0 x_11_1 a_11_2 x_13_0 x_13_1 a_13_2 s_16 a_74 x_75 x_76) = some r) : roadlaw4_NamesPlay.l0_k.I (.j4 x_0 a_2 a_3 x_11_0 x_11_1 a_11_2 x_13_0 x_13_1 a_13_2 s_16 a_74 x_75 x_76) r := by
 unfold roadlaw4_NamesPlay.l0_k.body at e
 intro W h0 m0 h m A_2 n_2 c_2 A_3 n_3 c_3 bk_11 A_11_2_0 n_11_2_0 c_11_2_0 bk_13 b_13_2_0 A_74 n_74 c_74 O ne_2 k_2 r_2 ne_3 k_3 r_3 ne_11_2_0 ne_74 k_74 r_74
 subst ne_2
 subst ne_3
 subst ne_11_2_0
 subst ne_74
 refine f3.j4_in ?_
 unfold f3.j4T
 obtain ⟨y1, g2, e⟩ := bind_e e
 obtain ⟨m7, W14, u8, P15, ⟨⟨r11, k12⟩, hb13, _⟩, B9, C10⟩ := O.lend [2, 3] [1, 0]
 replace r11 : Rd 4 T_names_Row.E m7 A_11_2_0 a_11_2 := r11
 replace k12 : List.length a_11_2 ≤ c_11_2_0 := k12
 refine (roadlaw4_namesTell.walk (y_1 := (T_roadref4_Names.mk x_13_0 x_13_1 a_13_2)) P15 ⟨_, _, hb13, nn, (show T_names_Names.E _ (T_names_Names.mk x_11_0 x_11_1 a_11_2) [(Value.int .i64 x_11_0), (Value.int .i64 x_11_1), (Value.slice A_11_2_0 (List.length a_11_2) c_11_2_0)] from ⟨_, _, rfl, k12, r11⟩)⟩ g2).mono ?_
 rintro _ h3 ⟨m4, b_16_2, Q5, rfl⟩
 have O18 := Hold.nm (C10 Q5 (vfs_cons rV_vf (vfs_cons (rM_vf (fun _ _ _ _ h => h)) vfs_nil)))
 refine ⟨_, rfl, ?_⟩
 refine split_not ?_
 refine split_any_e e (fun c19 e => ?_) (fun c19 e => ?_)
 · exact (ih _ _ e) (O18.pick [0, 1, 4, 5]).nm rfl k_2 r_2 rfl k_3 r_3 rfl rfl k_74 r_74
 · cases e
   exact ⟨_, O18.pick [], rfl⟩
theorem roadlaw4_NamesPlay.l0_k.all {p : roadlaw4_NamesPlay.l0_k.Pt} {r : (Bool)} (e : roadlaw4_NamesPlay.l0_k.go p = some r) : roadlaw4_NamesPlay.l0_k.I p r := fixF_ind (β := fun _ => (Bool)) roadlaw4_NamesPlay.l0_k.mono (I := roadlaw4_NamesPlay.l0_k.I) (fun go ih p r e => match p with
 | .l0 x_0 a_2 a_3 x_11_0 x_11_1 a_11_2 x_13_0 x_13_1 a_13_2 a_74 x_75 x_76 => roadlaw4_NamesPlay.l0_k.step_l0 go ih x_0 a_2 a_3 x_11_0 x_11_1 a_11_2 x_13_0 x_13_1 a_13_2 a_74 x_75 x_76 r e
 | .j5 x_0 a_2 a_3 x_11_0 x_11_1 a_11_2 x_13_0 x_13_1 a_13_2 a_15 s_16 x_17 y_18 b_19 a_74 x_75 x_76 x_96 b_97 => roadlaw4_NamesPlay.l0_k.step_j5 go ih x_0 a_2 a_3 x_11_0 x_11_1 a_11_2 x_13_0 x_13_1 a_13_2 a_15 s_16 x_17 y_18 b_19 a_74 x_75 x_76 x_96 b_97 r e
 | .j6 x_0 a_2 a_3 x_11_0 x_11_1 a_11_2 x_13_0 x_13_1 a_13_2 a_15 s_16 x_17 y_18 b_19 x_20 x_21 a_74 x_75 x_76 => roadlaw4_NamesPlay.l0_k.step_j6 go ih x_0 a_2 a_3 x_11_0 x_11_1 a_11_2 x_13_0 x_13_1 a_13_2 a_15 s_16 x_17 y_18 b_19 x_20 x_21 a_74 x_75 x_76 r e
 | .j8 x_0 a_2 a_3 x_11_0 x_11_1 a_11_2 x_13_0 x_13_1 a_13_2 a_15 s_16 x_17 y_18 b_19 x_20 x_21 a_74 x_75 x_76 b_133 => roadlaw4_NamesPlay.l0_k.step_j8 go ih x_0 a_2 a_3 x_11_0 x_11_1 a_11_2 x_13_0 x_13_1 a_13_2 a_15 s_16 x_17 y_18 b_19 x_20 x_21 a_74 x_75 x_76 b_133 r e
 | .j9 x_0 a_2 a_3 x_11_0 x_11_1 a_11_2 x_13_0 x_13_1 a_13_2 s_16 x_17 b_19 x_20 x_21 a_74 x_75 x_76 b_141 => roadlaw4_NamesPlay.l0_k.step_j9 go ih x_0 a_2 a_3 x_11_0 x_11_1 a_11_2 x_13_0 x_13_1 a_13_2 s_16 x_17 b_19 x_20 x_21 a_74 x_75 x_76 b_141 r e
 | .j10 x_0 a_2 a_3 x_11_0 x_11_1 a_11_2 x_13_0 x_13_1 a_13_2 s_16 x_17 x_20 x_21 a_74 x_75 x_76 b_150 => roadlaw4_NamesPlay.l0_k.step_j10 go ih x_0 a_2 a_3 x_11_0 x_11_1 a_11_2 x_13_0 x_13_1 a_13_2 s_16 x_17 x_20 x_21 a_74 x_75 x_76 b_150 r e
 | .j7 x_0 a_2 a_3 x_11_0 x_11_1 a_11_2 x_13_0 x_13_1 a_13_2 s_16 x_20 x_21 a_74 x_75 x_76 => roadlaw4_NamesPlay.l0_k.step_j7 go ih x_0 a_2 a_3 x_11_0 x_11_1 a_11_2 x_13_0 x_13_1 a_13_2 s_16 x_20 x_21 a_74 x_75 x_76 r e
 | .j4 x_0 a_2 a_3 x_11_0 x_11_1 a_11_2 x_13_0 x_13_1 a_13_2 s_16 a_74 x_75 x_76 => roadlaw4_NamesPlay.l0_k.step_j4 go ih x_0 a_2 a_3 x_11_0 x_11_1 a_11_2 x_13_0 x_13_1 a_13_2 s_16 a_74 x_75 x_76 r e
 ) e
noncomputable def roadlaw4_NamesPlay.j3 (x_0 : Int) (a_1 : List (List Int)) (a_2 : List ByteArray) (a_3 : List (List T_names_Row)) (x_11_0 : Int) (x_11_1 : Int) (a_11_2 : (List T_names_Row)) : Option (Bool) :=
 (roadlaw4_NamesPlay.l0 x_0 a_2 a_3 x_11_0 x_11_1 a_11_2 x_0 (0 : Int) ([] : (List (ByteArray × T_roadref4_Meaning))) a_1 (((List.length a_1) : Nat) : Int) (0 : Int))
theorem roadlaw4_NamesPlay.j3.walk {W h0 m0 h m A_1 n_1 c_1 A_2 n_2 c_2 A_3 n_3 c_3 bk_11 A_11_2_0 n_11_2_0 c_11_2_0 x_0 a_1 a_2 a_3 x_11_0 x_11_1 a_11_2} (O : Hold W h0 m0 h m [rV bk_11 53 [(Value.int .i64 x_11_0), (Value.int .i64 x_11_1), (Value.slice A_11_2_0 n_11_2_0 c_11_2_0)], rR (aE T_names_Row.T) A_11_2_0 c_11_2_0 a_11_2]) (ne_1 : n_1 = List.length a_1) (k_1 : List.length a_1 ≤ c_1) (r_1 : Rd 1 (eRow 1 (eInt .i64)) m A_1 a_1) (ne_2 : n_2 = List.length a_2) (k_2 : List.length a_2 ≤ c_2) (r_2 : Rd 1 eStr m A_2 a_2) (ne_3 : n_3 = List.length a_3) (k_3 : List.length a_3 ≤ c_3) (r_3 : Rd 1 (eRow 4 T_names_Row.E) m A_3 a_3) (ne_11_2_0 : n_11_2_0 = List.length a_11_2) {r} (e : roadlaw4_NamesPlay.j3 x_0 a_1 a_2 a_3 x_11_0 x_11_1 a_11_2 = some r) : f3.j3 (roadlaw4_NamesPlay.post W h0 m0 r) x_0 A_1 n_1 c_1 A_2 n_2 c_2 A_3 n_3 c_3 (some (⟨bk_11, 0, none⟩ : Addr)) h := by
 unfold roadlaw4_NamesPlay.j3 at e
 subst ne_1
 subst ne_2
 subst ne_3
 subst ne_11_2_0
 refine f3.j3_in ?_
 unfold f3.j3T
 refine O.mkMap (ν := T_roadref4_Meaning) (monoV1 T_roadref4_Meaning.T) (fun s : ByteArray => Value.string s) fun h1 x2 O3 => ?_
 refine oneCell_map ?_
 refine O3.new fun h5 x6 O7 => ?_
 have O9 := O7.nm
 exact (roadlaw4_NamesPlay.l0_k.all e) (O9.pick [0, 1, 3, 2]).nm rfl k_2 r_2 rfl k_3 r_3 rfl rfl k_1 r_1
noncomputable def roadlaw4_NamesPlay.j1 (x_0 : Int) (a_1 : List (List Int)) (a_2 : List ByteArray) (a_3 : List (List T_names_Row)) (x_11_0 : Int) (x_11_1 : Int) (a_11_2 : (List T_names_Row)) (x_12 : Int) : Option (Bool) :=
 if x_12 = (0 : Int) then ((roadlaw4_NamesPlay.j3 x_0 a_1 a_2 a_3 x_11_0 x_11_1 a_11_2)) else (some (false))
theorem roadlaw4_NamesPlay.j1.walk {W h0 m0 h m A_1 n_1 c_1 A_2 n_2 c_2 A_3 n_3 c_3 bk_11 A_11_2_0 n_11_2_0 c_11_2_0 x_0 a_1 a_2 a_3 x_11_0 x_11_1 a_11_2 x_12} (O : Hold W h0 m0 h m [rV bk_11 53 [(Value.int .i64 x_11_0), (Value.int .i64 x_11_1), (Value.slice A_11_2_0 n_11_2_0 c_11_2_0)], rR (aE T_names_Row.T) A_11_2_0 c_11_2_0 a_11_2]) (ne_1 : n_1 = List.length a_1) (k_1 : List.length a_1 ≤ c_1) (r_1 : Rd 1 (eRow 1 (eInt .i64)) m A_1 a_1) (ne_2 : n_2 = List.length a_2) (k_2 : List.length a_2 ≤ c_2) (r_2 : Rd 1 eStr m A_2 a_2) (ne_3 : n_3 = List.length a_3) (k_3 : List.length a_3 ≤ c_3) (r_3 : Rd 1 (eRow 4 T_names_Row.E) m A_3 a_3) (ne_11_2_0 : n_11_2_0 = List.length a_11_2) {r} (e : roadlaw4_NamesPlay.j1 x_0 a_1 a_2 a_3 x_11_0 x_11_1 a_11_2 x_12 = some r) : f3.j1 (roadlaw4_NamesPlay.post W h0 m0 r) x_0 A_1 n_1 c_1 A_2 n_2 c_2 A_3 n_3 c_3 (some (⟨bk_11, 0, none⟩ : Addr)) x_12 h := by
 unfold roadlaw4_NamesPlay.j1 at e
 subst ne_1
 subst ne_2
 subst ne_3
 subst ne_11_2_0
 refine f3.j1_in ?_
 unfold f3.j1T
 refine split_ne_e e (fun c1 e => ?_) (fun c1 e => ?_)
 · cases e
   exact ⟨_, O.pick [], rfl⟩
 · refine split_f ?_
   exact roadlaw4_NamesPlay.j3.walk (O.pick [0, 1]).nm rfl k_1 r_1 rfl k_2 r_2 rfl k_3 r_3 rfl e
noncomputable def roadlaw4_NamesPlay.j2 (x_0 : Int) (a_1 : List (List Int)) (a_2 : List ByteArray) (a_3 : List (List T_names_Row)) (x_11_0 : Int) (x_11_1 : Int) (a_11_2 : (List T_names_Row)) (x_12 : Int) (b_57 : Bool) : Option (Bool) :=
 if b_57 = true then (if x_12 = (1 : Int) then (some (false)) else (some (false))) else ((roadlaw4_NamesPlay.j1 x_0 a_1 a_2 a_3 x_11_0 x_11_1 a_11_2 x_12))
theorem roadlaw4_NamesPlay.j2.walk {W h0 m0 h m A_1 n_1 c_1 A_2 n_2 c_2 A_3 n_3 c_3 bk_11 A_11_2_0 n_11_2_0 c_11_2_0 x_0 a_1 a_2 a_3 x_11_0 x_11_1 a_11_2 x_12 b_57} (O : Hold W h0 m0 h m [rV bk_11 53 [(Value.int .i64 x_11_0), (Value.int .i64 x_11_1), (Value.slice A_11_2_0 n_11_2_0 c_11_2_0)], rR (aE T_names_Row.T) A_11_2_0 c_11_2_0 a_11_2]) (ne_1 : n_1 = List.length a_1) (k_1 : List.length a_1 ≤ c_1) (r_1 : Rd 1 (eRow 1 (eInt .i64)) m A_1 a_1) (ne_2 : n_2 = List.length a_2) (k_2 : List.length a_2 ≤ c_2) (r_2 : Rd 1 eStr m A_2 a_2) (ne_3 : n_3 = List.length a_3) (k_3 : List.length a_3 ≤ c_3) (r_3 : Rd 1 (eRow 4 T_names_Row.E) m A_3 a_3) (ne_11_2_0 : n_11_2_0 = List.length a_11_2) {r} (e : roadlaw4_NamesPlay.j2 x_0 a_1 a_2 a_3 x_11_0 x_11_1 a_11_2 x_12 b_57 = some r) : f3.j2 (roadlaw4_NamesPlay.post W h0 m0 r) x_0 A_1 n_1 c_1 A_2 n_2 c_2 A_3 n_3 c_3 (some (⟨bk_11, 0, none⟩ : Addr)) x_12 b_57 h := by
 unfold roadlaw4_NamesPlay.j2 at e
 subst ne_1
 subst ne_2
 subst ne_3
 subst ne_11_2_0
 refine f3.j2_in ?_
 unfold f3.j2T
 refine split_any_e e (fun c2 e => ?_) (fun c2 e => ?_)
 · refine split_eq_e e (fun c1 e => ?_) (fun c1 e => ?_)
   · cases e
     exact ⟨_, O.pick [], rfl⟩
   · cases e
     exact ⟨_, O.pick [], rfl⟩
 · exact roadlaw4_NamesPlay.j1.walk (O.pick [0, 1]).nm rfl k_1 r_1 rfl k_2 r_2 rfl k_3 r_3 rfl e
noncomputable def roadlaw4_NamesPlay.j1_n11 (x_0 : Int) (a_1 : List (List Int)) (a_2 : List ByteArray) (a_3 : List (List T_names_Row)) (x_12 : Int) : Option (Bool) :=
 if x_12 = (0 : Int) then (some (false)) else (some (false))
theorem roadlaw4_NamesPlay.j1_n11.walk {W h0 m0 h m A_1 n_1 c_1 A_2 n_2 c_2 A_3 n_3 c_3 x_0 a_1 a_2 a_3 x_12} (O : Hold W h0 m0 h m []) (ne_1 : n_1 = List.length a_1) (k_1 : List.length a_1 ≤ c_1) (r_1 : Rd 1 (eRow 1 (eInt .i64)) m A_1 a_1) (ne_2 : n_2 = List.length a_2) (k_2 : List.length a_2 ≤ c_2) (r_2 : Rd 1 eStr m A_2 a_2) (ne_3 : n_3 = List.length a_3) (k_3 : List.length a_3 ≤ c_3) (r_3 : Rd 1 (eRow 4 T_names_Row.E) m A_3 a_3) {r} (e : roadlaw4_NamesPlay.j1_n11 x_0 a_1 a_2 a_3 x_12 = some r) : f3.j1 (roadlaw4_NamesPlay.post W h0 m0 r) x_0 A_1 n_1 c_1 A_2 n_2 c_2 A_3 n_3 c_3 none x_12 h := by
 unfold roadlaw4_NamesPlay.j1_n11 at e
 subst ne_1
 subst ne_2
 subst ne_3
 refine f3.j1_in ?_
 unfold f3.j1T
 refine split_ne_e e (fun c1 e => ?_) (fun c1 e => ?_)
 · cases e
   exact ⟨_, O.pick [], rfl⟩
 · refine split_t ?_
   cases e
   exact ⟨_, O.pick [], rfl⟩
noncomputable def roadlaw4_NamesPlay.j2_n11 (x_0 : Int) (a_1 : List (List Int)) (a_2 : List ByteArray) (a_3 : List (List T_names_Row)) (x_12 : Int) (b_57 : Bool) : Option (Bool) :=
 if b_57 = true then (if x_12 = (1 : Int) then (some (true)) else (some (false))) else ((roadlaw4_NamesPlay.j1_n11 x_0 a_1 a_2 a_3 x_12))
theorem roadlaw4_NamesPlay.j2_n11.walk {W h0 m0 h m A_1 n_1 c_1 A_2 n_2 c_2 A_3 n_3 c_3 x_0 a_1 a_2 a_3 x_12 b_57} (O : Hold W h0 m0 h m []) (ne_1 : n_1 = List.length a_1) (k_1 : List.length a_1 ≤ c_1) (r_1 : Rd 1 (eRow 1 (eInt .i64)) m A_1 a_1) (ne_2 : n_2 = List.length a_2) (k_2 : List.length a_2 ≤ c_2) (r_2 : Rd 1 eStr m A_2 a_2) (ne_3 : n_3 = List.length a_3) (k_3 : List.length a_3 ≤ c_3) (r_3 : Rd 1 (eRow 4 T_names_Row.E) m A_3 a_3) {r} (e : roadlaw4_NamesPlay.j2_n11 x_0 a_1 a_2 a_3 x_12 b_57 = some r) : f3.j2 (roadlaw4_NamesPlay.post W h0 m0 r) x_0 A_1 n_1 c_1 A_2 n_2 c_2 A_3 n_3 c_3 none x_12 b_57 h := by
 unfold roadlaw4_NamesPlay.j2_n11 at e
 subst ne_1
 subst ne_2
 subst ne_3
 refine f3.j2_in ?_
 unfold f3.j2T
 refine split_any_e e (fun c2 e => ?_) (fun c2 e => ?_)
 · refine split_eq_e e (fun c1 e => ?_) (fun c1 e => ?_)
   · cases e
     exact ⟨_, O.pick [], rfl⟩
   · cases e
     exact ⟨_, O.pick [], rfl⟩
 · exact roadlaw4_NamesPlay.j1_n11.walk (O.pick []).nm rfl k_1 r_1 rfl k_2 r_2 rfl k_3 r_3 e
noncomputable def roadlaw4_NamesPlay.j0 (x_0 : Int) (a_1 : List (List Int)) (a_2 : List ByteArray) (a_3 : List (List T_names_Row)) : Option (Bool) :=
 Option.bind (names_New x_0) fun y1 => Option.elim y1.1 (if x_0 < (1 : Int) then ((roadlaw4_NamesPlay.j2_n11 x_0 a_1 a_2 a_3 y1.2 true)) else ((roadlaw4_NamesPlay.j2_n11 x_0 a_1 a_2 a_3 y1.2 (decide (x_0 > (8 : Int)))))) fun z12 => if x_0 < (1 : Int) then ((roadlaw4_NamesPlay.j2 x_0 a_1 a_2 a_3 z12.node_ z12.count_ z12.rows_ y1.2 true)) else ((roadlaw4_NamesPlay.j2 x_0 a_1 a_2 a_3 z12.node_ z12.count_ z12.rows_ y1.2 (decide (x_0 > (8 : Int)))))
theorem roadlaw4_NamesPlay.j0.walk {W h0 m0 h m A_1 n_1 c_1 A_2 n_2 c_2 A_3 n_3 c_3 x_0 a_1 a_2 a_3} (O : Hold W h0 m0 h m []) (ne_1 : n_1 = List.length a_1) (k_1 : List.length a_1 ≤ c_1) (r_1 : Rd 1 (eRow 1 (eInt .i64)) m A_1 a_1) (ne_2 : n_2 = List.length a_2) (k_2 : List.length a_2 ≤ c_2) (r_2 : Rd 1 eStr m A_2 a_2) (ne_3 : n_3 = List.length a_3) (k_3 : List.length a_3 ≤ c_3) (r_3 : Rd 1 (eRow 4 T_names_Row.E) m A_3 a_3) {r} (e : roadlaw4_NamesPlay.j0 x_0 a_1 a_2 a_3 = some r) : f3.j0 (roadlaw4_NamesPlay.post W h0 m0 r) x_0 A_1 n_1 c_1 A_2 n_2 c_2 A_3 n_3 c_3 h := by
 unfold roadlaw4_NamesPlay.j0 at e
 subst ne_1
 subst ne_2
 subst ne_3
 refine f3.j0_in ?_
 unfold f3.j0T
 obtain ⟨y1, g2, e⟩ := bind_e e
 refine (names_New.walk (Hold.start (W := No) O.s)  g2).mono ?_
 rintro _ h3 ⟨m4, p7, u9, s10, rfl, hp8⟩
 rcases hp8 with ⟨q11, rfl, Q14⟩ | ⟨z12, b13, A_19_2, n_19_2, c_19_2, q11, rfl, Q15, ne_19_2⟩
 · have e := elim_none_e e q11
   have O16 := Hold.nm (O.retC Q14 vfs_nil)
   refine ⟨_, _, rfl, ?_⟩
   refine split_dec_e e (fun c17 e => ?_) (fun c17 e => ?_)
   · exact roadlaw4_NamesPlay.j2_n11.walk (O16.pick []).nm rfl k_1 r_1 rfl k_2 r_2 rfl k_3 r_3 e
   · exact roadlaw4_NamesPlay.j2_n11.walk (O16.pick []).nm rfl k_1 r_1 rfl k_2 r_2 rfl k_3 r_3 e
 · have e := elim_some_e e q11
   have O21 := Hold.nm (O.retC Q15 (vfs_cons rV_vf (vfs_cons (rR_vf (aE_vf (fun _ _ _ _ h => T_names_Row.keep h))) vfs_nil)))
   subst ne_19_2
   refine ⟨_, _, rfl, ?_⟩
   refine split_dec_e e (fun c22 e => ?_) (fun c22 e => ?_)
   · exact roadlaw4_NamesPlay.j2.walk (O21.pick [0, 1]).nm rfl k_1 r_1 rfl k_2 r_2 rfl k_3 r_3 rfl e
   · exact roadlaw4_NamesPlay.j2.walk (O21.pick [0, 1]).nm rfl k_1 r_1 rfl k_2 r_2 rfl k_3 r_3 rfl e
noncomputable def roadlaw4_NamesPlay (x_0 : Int) (a_1 : List (List Int)) (a_2 : List ByteArray) (a_3 : List (List T_names_Row)) : Option (Bool) :=
 Option.bind (names_New (2 : Int)) fun y1 => Option.elim y1.1 (if y1.2 = (0 : Int) then (some (false)) else (some (false))) fun z12 => if y1.2 = (0 : Int) then (Option.bind (names_Names_Set z12 (ByteArray.mk #[97]) (5 : Int)) fun y22 => if y22.1 = (0 : Int) then (Option.bind (names_Names_State y22.2) fun y35 => Option.bind (slices_Equal_6 y35 ([(T_names_Row.mk (ByteArray.mk #[97]) (5 : Int) (1 : Int) (2 : Int))] : List T_names_Row)) fun y60 => if y60 = true then ((roadlaw4_NamesPlay.j0 x_0 a_1 a_2 a_3)) else (some (false))) else (some (false))) else (some (false))
set_option maxHeartbeats 4000000 in
theorem roadlaw4_NamesPlay.walk {W h m A_1 n_1 c_1 A_2 n_2 c_2 A_3 n_3 c_3 x_0 a_1 a_2 a_3} (O : Hold W h m h m []) (ne_1 : n_1 = List.length a_1) (k_1 : List.length a_1 ≤ c_1) (r_1 : Rd 1 (eRow 1 (eInt .i64)) m A_1 a_1) (ne_2 : n_2 = List.length a_2) (k_2 : List.length a_2 ≤ c_2) (r_2 : Rd 1 eStr m A_2 a_2) (ne_3 : n_3 = List.length a_3) (k_3 : List.length a_3 ≤ c_3) (r_3 : Rd 1 (eRow 4 T_names_Row.E) m A_3 a_3) {r} (e : roadlaw4_NamesPlay x_0 a_1 a_2 a_3 = some r) : Run Tryd.prog 3 #[Value.int .i64 x_0, Value.slice A_1 n_1 c_1, Value.slice A_2 n_2 c_2, Value.slice A_3 n_3 c_3] h (roadlaw4_NamesPlay.post W h m r) := by
 unfold roadlaw4_NamesPlay at e
 subst ne_1
 subst ne_2
 subst ne_3
 refine f3.run ?_
 unfold f3.runT
 obtain ⟨y1, g2, e⟩ := bind_e e
 refine (names_New.walk (Hold.start (W := No) O.s)  g2).mono ?_
 rintro _ h3 ⟨m4, p7, u9, s10, rfl, hp8⟩
 rcases hp8 with ⟨q11, rfl, Q14⟩ | ⟨z12, b13, A_19_2, n_19_2, c_19_2, q11, rfl, Q15, ne_19_2⟩
 · have e := elim_none_e e q11
   have O16 := Hold.nm (O.retC Q14 vfs_nil)
   refine ⟨_, _, rfl, ?_⟩
   refine split_ne_e e (fun c17 e => ?_) (fun c17 e => ?_)
   · cases e
     exact ⟨_, O16.pick [], rfl⟩
   · refine split_t ?_
     cases e
     exact ⟨_, O16.pick [], rfl⟩
 · have e := elim_some_e e q11
   have O21 := Hold.nm (O.retC Q15 (vfs_cons rV_vf (vfs_cons (rR_vf (aE_vf (fun _ _ _ _ h => T_names_Row.keep h))) vfs_nil)))
   subst ne_19_2
   refine ⟨_, _, rfl, ?_⟩
   refine split_ne_e e (fun c79 e => ?_) (fun c79 e => ?_)
   · cases e
     exact ⟨_, O21.pick [], rfl⟩
   · refine split_f ?_
     obtain ⟨y22, g23, e⟩ := bind_e e
     obtain ⟨W28, P29, B30, C31⟩ := O21.callC [0, 1]
     refine (names_Names_Set.walk (y_0 := z12) P29 rfl g23).mono ?_
     rintro _ h24 ⟨m25, A_32_2, n_32_2, c_32_2, Q26, rfl, ne_32_2⟩
     have O34 := Hold.nm (C31 Q26 (vfs_cons rV_vf (vfs_cons (rR_vf (aE_vf (fun _ _ _ _ h => T_names_Row.keep h))) vfs_nil)))
     subst ne_32_2
     refine ⟨_, rfl, ?_⟩
     refine split_ne_e e (fun c78 e => ?_) (fun c78 e => ?_)
     · cases e
       exact ⟨_, O34.pick [], rfl⟩
     · obtain ⟨y35, g36, e⟩ := bind_e e
       obtain ⟨m41, u42, s48, ⟨⟨r45, k46⟩, hb47, _⟩, B43, C44⟩ := O34.lend0 [3, 2]
       replace r45 : Rd 4 T_names_Row.E m41 A_32_2 y22.2.rows_ := r45
       replace k46 : List.length y22.2.rows_ ≤ c_32_2 := k46
       refine (names_Names_State.walk (Hold.start (W := No) s48) ⟨_, _, hb47, nn, (show T_names_Names.E _ y22.2 [(Value.int .i64 y22.2.node_), (Value.int .i64 y22.2.count_), (Value.slice A_32_2 (List.length y22.2.rows_) c_32_2)] from ⟨_, _, rfl, k46, r45⟩)⟩ g36).mono ?_
       rintro _ h37 ⟨m38, A49, n50, c51, Q39, rfl, ne52⟩
       have O54 := Hold.nm (C44 Q39 (vfs_cons (rR_vf (aE_vf (fun _ _ _ _ h => T_names_Row.keep h))) vfs_nil))
       subst ne52
       refine ⟨_, _, _, rfl, ?_⟩
       refine ⟨[(Value.string (ByteArray.mk #[97])), (Value.int .i64 (5 : Int)), (Value.int .i64 (1 : Int)), (Value.int .i64 (2 : Int))], rfl, rfl, ?_⟩
       refine O54.new fun h55 x56 O57 => ?_
       obtain ⟨y60, g61, e⟩ := bind_e e
       have O59 := O57.rowE (l := ([(T_names_Row.mk (ByteArray.mk #[97]) (5 : Int) (1 : Int) (2 : Int))] : List T_names_Row)) 5 rfl T_names_Row.T (show CsE _ _ _ _ _ from (CsE.cons (c1 := [(Value.string (ByteArray.mk #[97])), (Value.int .i64 (5 : Int)), (Value.int .i64 (1 : Int)), (Value.int .i64 (2 : Int))]) (show T_names_Row.E _ (T_names_Row.mk (ByteArray.mk #[97]) (5 : Int) (1 : Int) (2 : Int)) [(Value.string (ByteArray.mk #[97])), (Value.int .i64 (5 : Int)), (Value.int .i64 (1 : Int)), (Value.int .i64 (2 : Int))] from rfl) rfl CsE.nil)) rfl
       have O66 := O59.nm
       obtain ⟨m67, u68, s75, ⟨⟨r71, k72⟩, ⟨r73, k74⟩, _⟩, B69, C70⟩ := O66.lend0 [4, 5]
       replace r71 : Rd 4 T_names_Row.E m67 A49 y35 := r71
       replace k72 : List.length y35 ≤ c51 := k72
       replace r73 : Rd 4 T_names_Row.E m67 (some ⟨(Array.size h37), 0, none⟩) ([(T_names_Row.mk (ByteArray.mk #[97]) (5 : Int) (1 : Int) (2 : Int))] : List T_names_Row) := r73
       replace k74 : List.length ([(T_names_Row.mk (ByteArray.mk #[97]) (5 : Int) (1 : Int) (2 : Int))] : List T_names_Row) ≤ 1 := k74
       refine (slices_Equal_6.walk (Hold.start (W := No) s75) rfl k72 r71 rfl k74 r73 g61).mono ?_
       rintro _ h62 ⟨m63, Q64, rfl⟩
       have O76 := Hold.nm (C70 Q64 vfs_nil)
       refine ⟨_, rfl, ?_⟩
       refine split_not ?_
       refine split_any_e e (fun c77 e => ?_) (fun c77 e => ?_)
       · exact roadlaw4_NamesPlay.j0.walk (O76.pick []).nm rfl k_1 r_1 rfl k_2 r_2 rfl k_3 r_3 e
       · cases e
         exact ⟨_, O76.pick [], rfl⟩
end Go.Proofs.YtaiehkhjmplodaaDoor.Fw

end
