/- Data of the given program, and pure functions of its functions, with the walks. Printed by a program of this session. -/
import Derived.Test.YtilmfjdagnbbaabLfEffectSays0
namespace Go.Proofs.Ytilmfjdagnbbaab.Fw
open Go Go.Hw Go.Proofs
set_option linter.unusedVariables false

/-! ### 87 roadstead/effect.once -/
def effect_once.post (W : Nat → Prop) (h0 m0 : Heap) (r : Int) (v : Value) (h : Heap) : Prop := ∃ m , St W h0 m0 h m ∧ v = .int .i64 r
inductive effect_once.l0_k.Pt where
  | l0 (a2 : List Int) (x3 : Int) (y5 : T_api_Expr) (x9 : Int) (a15 : List T_api_Func) (x16 : Int) (x17 : Int)
noncomputable def effect_once.l0_k.body (go : (p : effect_once.l0_k.Pt) → Option (Int)) : (p : effect_once.l0_k.Pt) → Option (Int)
  | .l0 a2 x3 y5 x9 a15 x16 x17 => if x17 < x16 then (Option.bind (gi a15 x17) fun y38 => Option.bind (effect_Calls y5) fun y61 => Option.bind (slices_Contains_92 y61 y38.Name) fun y80 => if y80 = true then (Option.bind (gi a2 x17) fun y96 => (go (.l0 a2 x3 y5 (bitsI .or .i64 x9 y96) a15 x16 (IntKind.wrap .i64 (x17 + (1 : Int)))))) else ((go (.l0 a2 x3 y5 x9 a15 x16 (IntKind.wrap .i64 (x17 + (1 : Int))))))) else (Option.bind (effect_applies y5) fun y104 => if y104 = true then (some ((bitsI .or .i64 x9 x3))) else (some (x9)))
theorem effect_once.l0_k.mono : MonoF (β := fun _ => (Int)) effect_once.l0_k.body := fun f g hfg p => match p with
  | .l0 a2 x3 y5 x9 a15 x16 x17 => LeO.ite (LeO.bind (LeO.refl _) fun y38 => LeO.bind (LeO.refl _) fun y61 => LeO.bind (LeO.refl _) fun y80 => LeO.ite (LeO.bind (LeO.refl _) fun y96 => (hfg _)) ((hfg _))) (LeO.bind (LeO.refl _) fun y104 => LeO.ite (LeO.refl _) (LeO.refl _))
noncomputable def effect_once.l0_k.go (p : effect_once.l0_k.Pt) : Option (Int) := fixF (β := fun _ => (Int)) effect_once.l0_k.body p
noncomputable def effect_once.l0 (a2 : List Int) (x3 : Int) (y5 : T_api_Expr) (x9 : Int) (a15 : List T_api_Func) (x16 : Int) (x17 : Int) : Option (Int) := effect_once.l0_k.go (.l0 a2 x3 y5 x9 a15 x16 x17)
theorem effect_once.l0_eq (a2 : List Int) (x3 : Int) (y5 : T_api_Expr) (x9 : Int) (a15 : List T_api_Func) (x16 : Int) (x17 : Int) : effect_once.l0 a2 x3 y5 x9 a15 x16 x17 = if x17 < x16 then (Option.bind (gi a15 x17) fun y38 => Option.bind (effect_Calls y5) fun y61 => Option.bind (slices_Contains_92 y61 y38.Name) fun y80 => if y80 = true then (Option.bind (gi a2 x17) fun y96 => (effect_once.l0 a2 x3 y5 (bitsI .or .i64 x9 y96) a15 x16 (IntKind.wrap .i64 (x17 + (1 : Int))))) else ((effect_once.l0 a2 x3 y5 x9 a15 x16 (IntKind.wrap .i64 (x17 + (1 : Int)))))) else (Option.bind (effect_applies y5) fun y104 => if y104 = true then (some ((bitsI .or .i64 x9 x3))) else (some (x9))) := fixF_eq effect_once.l0_k.mono _
def effect_once.l0_k.I : (p : effect_once.l0_k.Pt) → (Int) → Prop
  | .l0 a2 x3 y5 x9 a15 x16 x17, r => ∀ (h0 m0 h m : Heap) (A2 : Option Addr) (n2 c2 : Nat) (bk5 : Nat) (cs5 : List Value) (A15 : Option Addr) (n15 c15 : Nat) (S : St No h0 m0 h m) (ne2 : n2 = List.length a2) (k2 : List.length a2 ≤ c2) (r2 : Rd 1 (eInt .i64) m A2 a2) (o5 : OB No h0 h m bk5 cs5 71) (e5 : T_api_Expr.E m y5 cs5) (ne15 : n15 = List.length a15) (o15 : OS No h0 15 T_api_Func.E h m A15 a15 c15) (d0_1 : Dj (fb bk5) (fp A15 c15)), f87.l0 (effect_once.post No h0 m0 r) A2 n2 c2 x3 (⟨bk5, 0, none⟩ : Addr) x9 A15 n15 c15 x16 x17 h
set_option maxRecDepth 100000 in
theorem effect_once.l0_k.step_l0 (go : (p : effect_once.l0_k.Pt) → Option (Int)) (ih : ∀ p r, go p = some r → effect_once.l0_k.I p r) (a2 : List Int) (x3 : Int) (y5 : T_api_Expr) (x9 : Int) (a15 : List T_api_Func) (x16 : Int) (x17 : Int) (r : Int) (e : effect_once.l0_k.body go (.l0 a2 x3 y5 x9 a15 x16 x17) = some r) : effect_once.l0_k.I (.l0 a2 x3 y5 x9 a15 x16 x17) r := by
  unfold effect_once.l0_k.body at e
  intro h0 m0 h m A2 n2 c2 bk5 cs5 A15 n15 c15 S ne2 k2 r2 o5 e5 ne15 o15 d0_1
  subst ne2
  obtain ⟨Ae5_3, ce5_3, Ae5_4, ce5_4, Ae5_5, ce5_5, Ae5_6, ce5_6, rfl, ke5_3, re5_3, ke5_4, re5_4, ke5_5, re5_5, ke5_6, re5_6⟩ := T_api_Expr.iff.1 e5
  subst ne15
  refine f87.l0_in ?_
  unfold f87.l0T
  refine split_dec_e e (fun c113 e => ?_) (fun c113 e => ?_)
  · obtain ⟨y38, g39, e⟩ := bind_e e
    refine o15.addr rfl g39 fun a40 cs41 ha42 hc43 he44 => ?_
    obtain ⟨Aa40_1, ca40_1, Aa40_2, ca40_2, Aa40_3, ca40_3, Aa40_6, ca40_6, Aa40_10, ca40_10, Aa40_11, ca40_11, Aa40_12, ca40_12, Aa40_13, ca40_13, rfl, ka40_1, ra40_1, ka40_2, ra40_2, ka40_3, ra40_3, ka40_6, ra40_6, ka40_10, ra40_10, ka40_11, ra40_11, ka40_12, ra40_12, ka40_13, ra40_13⟩ := he44
    refine ⟨_, ldA (Sub.refl _) hc43, ?_⟩
    refine new_in S fun h45 o46 x47 => ?_
    have d50 : Dj (fb bk5) (fb (Array.size h)) := Dj.new o5.lt
    have d51 : Dj (fp A15 c15) (fb (Array.size h)) := Dj.new o15.lt
    have o52 := o5.ext x47
    have o53 := o15.ext T_api_Func.T S.s x47
    have S48 := S.ext' x47
    have o46 : OB _ _ h45 _ (Array.size h) [(Value.string (ByteArray.mk #[])), (Value.slice none 0 0), (Value.slice none 0 0), (Value.slice none 0 0), (Value.int .i64 (0 : Int)), (Value.string (ByteArray.mk #[])), (Value.slice none 0 0), (Value.int .i64 (0 : Int)), (Value.int .i64 (0 : Int)), (Value.string (ByteArray.mk #[])), (Value.slice none 0 0), (Value.slice none 0 0), (Value.slice none 0 0), (Value.slice none 0 0), (Value.int .i64 (0 : Int))] 73 := o46
    obtain ⟨h54, w55, o56, t57⟩ := o46.stA S48.s [(Value.string y38.Name), (Value.slice Aa40_1 (List.length y38.Params) ca40_1), (Value.slice Aa40_2 (List.length y38.Names) ca40_2), (Value.slice Aa40_3 (List.length y38.Types) ca40_3), (Value.int .i64 y38.Out.Kind), (Value.string y38.Out.Name), (Value.slice Aa40_6 (List.length y38.Out.Args) ca40_6), (Value.int .i64 y38.Body.Kind), (Value.int .i64 y38.Body.Num), (Value.string y38.Body.Text), (Value.slice Aa40_10 (List.length y38.Body.Names) ca40_10), (Value.slice Aa40_11 (List.length y38.Body.Types) ca40_11), (Value.slice Aa40_12 (List.length y38.Body.Args) ca40_12), (Value.slice Aa40_13 (List.length y38.Body.Arms) ca40_13), (Value.int .i64 y38.Body.At)] rfl (Flats.cons trivial (Flats.cons trivial (Flats.cons trivial (Flats.cons trivial (Flats.cons trivial (Flats.cons trivial (Flats.cons trivial (Flats.cons trivial (Flats.cons trivial (Flats.cons trivial (Flats.cons trivial (Flats.cons trivial (Flats.cons trivial (Flats.cons trivial (Flats.cons trivial Flats.nil)))))))))))))))
    refine ⟨[(Value.string y38.Name), (Value.slice Aa40_1 (List.length y38.Params) ca40_1), (Value.slice Aa40_2 (List.length y38.Names) ca40_2), (Value.slice Aa40_3 (List.length y38.Types) ca40_3), (Value.int .i64 y38.Out.Kind), (Value.string y38.Out.Name), (Value.slice Aa40_6 (List.length y38.Out.Args) ca40_6), (Value.int .i64 y38.Body.Kind), (Value.int .i64 y38.Body.Num), (Value.string y38.Body.Text), (Value.slice Aa40_10 (List.length y38.Body.Names) ca40_10), (Value.slice Aa40_11 (List.length y38.Body.Types) ca40_11), (Value.slice Aa40_12 (List.length y38.Body.Args) ca40_12), (Value.slice Aa40_13 (List.length y38.Body.Arms) ca40_13), (Value.int .i64 y38.Body.At)], rfl, rfl, h54, w55, ?_⟩
    have o56 : OB _ _ h54 _ (Array.size h) [(Value.string y38.Name), (Value.slice Aa40_1 (List.length y38.Params) ca40_1), (Value.slice Aa40_2 (List.length y38.Names) ca40_2), (Value.slice Aa40_3 (List.length y38.Types) ca40_3), (Value.int .i64 y38.Out.Kind), (Value.string y38.Out.Name), (Value.slice Aa40_6 (List.length y38.Out.Args) ca40_6), (Value.int .i64 y38.Body.Kind), (Value.int .i64 y38.Body.Num), (Value.string y38.Body.Text), (Value.slice Aa40_10 (List.length y38.Body.Names) ca40_10), (Value.slice Aa40_11 (List.length y38.Body.Types) ca40_11), (Value.slice Aa40_12 (List.length y38.Body.Args) ca40_12), (Value.slice Aa40_13 (List.length y38.Body.Arms) ca40_13), (Value.int .i64 y38.Body.At)] 73 := o56
    have S58 := S48.then t57 (fun i _ hi => o46.wr i hi)
    have o59 := o52.step t57 (d50).symm
    have o60 := o53.step T_api_Func.T t57 (d51).symm
    refine ⟨_, ldA (Sub.refl _) o59.all, ?_⟩
    refine ⟨_, ld0 (Sub.refl _) o56.all rfl, _, rfl, ?_⟩
    obtain ⟨y61, g62, e⟩ := bind_e e
    refine (effect_Calls.walk S58.s (T_api_Expr.iff.2 ⟨_, _, _, _, _, _, _, _, rfl, ke5_3, re5_3, ke5_4, re5_4, ke5_5, re5_5, ke5_6, re5_6⟩) g62).mono ?_
    rintro _ h63 ⟨m64, A66, n67, c68, T65, rfl, ne69, o70⟩
    subst ne69
    have S72 := S58.grow T65
    have o73 := o59.step T65 Dj.no
    have o74 := o60.step T_api_Func.T T65 Dj.no
    have o75 := o56.step T65 Dj.no
    have d77 : Dj (fb bk5) (fp A66 c68) := fun i h1 h2 => absurd (o59.lt i h1) (Nat.not_lt.2 ((o70.new i h2).elim (fun h => h.elim) id))
    have d78 : Dj (fp A15 c15) (fp A66 c68) := fun i h1 h2 => absurd (o60.lt i h1) (Nat.not_lt.2 ((o70.new i h2).elim (fun h => h.elim) id))
    have d79 : Dj (fb (Array.size h)) (fp A66 c68) := fun i h1 h2 => absurd (o56.lt i h1) (Nat.not_lt.2 ((o70.new i h2).elim (fun h => h.elim) id))
    have o76 := o70.take S58 (fun _ h => h.elim)
    refine ⟨_, _, _, rfl, ?_⟩
    refine ⟨T65.ext, ?_⟩
    obtain ⟨y80, g81, e⟩ := bind_e e
    obtain ⟨m85, L86, u87, s88, t89⟩ := St.lend S72.s (fp A66 c68)
    refine (slices_Contains_92.walk s88 rfl o76.cap (o76.lent tell_str S72.s L86 (fun _ h => h)) g81).mono ?_
    rintro _ h82 ⟨m83, T84, rfl⟩
    have T90 := T84.unlend S72.s (fun _ h => h.elim)
    have S91 := S72.grow T90
    have o92 := o73.step T90 Dj.no
    have o93 := o74.step T_api_Func.T T90 Dj.no
    have o94 := o75.step T90 Dj.no
    have o95 := o76.step tell_str T90 Dj.no
    refine ⟨_, rfl, ?_⟩
    refine split_any_e e (fun c103 e => ?_) (fun c103 e => ?_)
    · obtain ⟨y96, g97, e⟩ := bind_e e
      refine (r2.sub (tell_int .i64) T65.up).addr rfl g97 fun a98 cs99 ha100 hc101 he102 => ?_
      obtain rfl : cs99 = [(Value.int .i64 y96)] := he102
      refine ⟨_, ld0 S91.s hc101 rfl, _, rfl, ?_⟩
      exact (ih _ _ e) _ _ _ _ _ _ _ _ _ _ _ _ S91 rfl k2 (r2.sub (tell_int .i64) T65.up) o92 (T_api_Expr.iff.2 ⟨_, _, _, _, _, _, _, _, rfl, ke5_3, (re5_3.sub tell_str T65.up), ke5_4, (re5_4.sub T_api_Type.T T65.up), ke5_5, (re5_5.sub T_api_Expr.T T65.up), ke5_6, (re5_6.sub T_api_Arm.T T65.up)⟩) rfl o93 d0_1
    · exact (ih _ _ e) _ _ _ _ _ _ _ _ _ _ _ _ S91 rfl k2 (r2.sub (tell_int .i64) T65.up) o92 (T_api_Expr.iff.2 ⟨_, _, _, _, _, _, _, _, rfl, ke5_3, (re5_3.sub tell_str T65.up), ke5_4, (re5_4.sub T_api_Type.T T65.up), ke5_5, (re5_5.sub T_api_Expr.T T65.up), ke5_6, (re5_6.sub T_api_Arm.T T65.up)⟩) rfl o93 d0_1
  · refine ⟨_, ldA (Sub.refl _) o5.all, ?_⟩
    obtain ⟨y104, g105, e⟩ := bind_e e
    refine (effect_applies.walk S.s (T_api_Expr.iff.2 ⟨_, _, _, _, _, _, _, _, rfl, ke5_3, re5_3, ke5_4, re5_4, ke5_5, re5_5, ke5_6, re5_6⟩) g105).mono ?_
    rintro _ h106 ⟨m107, T108, rfl⟩
    have S109 := S.grow T108
    have o110 := o5.step T108 Dj.no
    have o111 := o15.step T_api_Func.T T108 Dj.no
    refine ⟨_, rfl, ?_⟩
    refine split_any_e e (fun c112 e => ?_) (fun c112 e => ?_)
    · cases e
      exact ⟨_, S109, rfl⟩
    · cases e
      exact ⟨_, S109, rfl⟩
theorem effect_once.l0_k.all {p : effect_once.l0_k.Pt} {r : (Int)} (e : effect_once.l0_k.go p = some r) : effect_once.l0_k.I p r := fixF_ind (β := fun _ => (Int)) effect_once.l0_k.mono (I := effect_once.l0_k.I) (fun go ih p r e => match p with
  | .l0 a2 x3 y5 x9 a15 x16 x17 => effect_once.l0_k.step_l0 go ih a2 x3 y5 x9 a15 x16 x17 r e
  ) e
theorem effect_once.l0.walk {h0 m0 h m : Heap} {A2 : Option Addr} {n2 c2 : Nat} {bk5 : Nat} {cs5 : List Value} {A15 : Option Addr} {n15 c15 : Nat} {a2 : List Int} {x3 : Int} {y5 : T_api_Expr} {x9 : Int} {a15 : List T_api_Func} {x16 : Int} {x17 : Int} (S : St No h0 m0 h m) (ne2 : n2 = List.length a2) (k2 : List.length a2 ≤ c2) (r2 : Rd 1 (eInt .i64) m A2 a2) (o5 : OB No h0 h m bk5 cs5 71) (e5 : T_api_Expr.E m y5 cs5) (ne15 : n15 = List.length a15) (o15 : OS No h0 15 T_api_Func.E h m A15 a15 c15) (d0_1 : Dj (fb bk5) (fp A15 c15)) {r : Int} (e : effect_once.l0 a2 x3 y5 x9 a15 x16 x17 = some r) : f87.l0 (effect_once.post No h0 m0 r) A2 n2 c2 x3 (⟨bk5, 0, none⟩ : Addr) x9 A15 n15 c15 x16 x17 h := effect_once.l0_k.all (p := .l0 a2 x3 y5 x9 a15 x16 x17) e h0 m0 h m A2 n2 c2 bk5 cs5 A15 n15 c15 S ne2 k2 r2 o5 e5 ne15 o15 d0_1

noncomputable def effect_once (y0 : T_api_Program) (y1 : T_api_Expr) (a2 : List Int) (x3 : Int) : Option (Int) :=
  Option.bind (effect_Own y1) fun y13 => Option.bind (effect_Funs y0) fun y21 => (effect_once.l0 a2 x3 y1 y13 y21 (((List.length y21) : Nat) : Int) (0 : Int))
set_option maxRecDepth 100000 in
theorem effect_once.walk {h m : Heap} {cs0 : List Value} {cs1 : List Value} {A2 : Option Addr} {n2 c2 : Nat} {y0 : T_api_Program} {y1 : T_api_Expr} {a2 : List Int} {x3 : Int} (s : Sub m h) (e0 : T_api_Program.E m y0 cs0) (e1 : T_api_Expr.E m y1 cs1) (ne2 : n2 = List.length a2) (k2 : List.length a2 ≤ c2) (r2 : Rd 1 (eInt .i64) m A2 a2) {r : Int} (e : effect_once y0 y1 a2 x3 = some r) : Run Try.prog 87 #[Value.agg cs0.toArray, Value.agg cs1.toArray, Value.slice A2 n2 c2, Value.int .i64 x3] h (effect_once.post No h m r) := by
  unfold effect_once at e
  obtain ⟨Ae0_2, ce0_2, Ae0_3, ce0_3, Ae0_4, ce0_4, Ae0_5, ce0_5, Ae0_6, ce0_6, Ae0_7, ce0_7, rfl, ke0_2, re0_2, ke0_3, re0_3, ke0_4, re0_4, ke0_5, re0_5, ke0_6, re0_6, ke0_7, re0_7⟩ := e0
  obtain ⟨Ae1_3, ce1_3, Ae1_4, ce1_4, Ae1_5, ce1_5, Ae1_6, ce1_6, rfl, ke1_3, re1_3, ke1_4, re1_4, ke1_5, re1_5, ke1_6, re1_6⟩ := T_api_Expr.iff.1 e1
  subst ne2
  have S : St No h m h m := .refl s
  refine f87.run ?_
  unfold f87.runT
  refine new_in S fun h1 o2 x3 => ?_
  have S4 := S.ext' x3
  have o2 : OB _ _ h1 _ (Array.size h) [(Value.string y0.Name), (Value.int .i64 y0.Version), (Value.slice Ae0_2 (List.length y0.Uses) ce0_2), (Value.slice Ae0_3 (List.length y0.Datas) ce0_3), (Value.slice Ae0_4 (List.length y0.Traits) ce0_4), (Value.slice Ae0_5 (List.length y0.Impls) ce0_5), (Value.slice Ae0_6 (List.length y0.Funcs) ce0_6), (Value.slice Ae0_7 (List.length y0.Actors) ce0_7)] 53 := o2
  refine new_in S4 fun h6 o7 x8 => ?_
  have d11 : Dj (fb (Array.size h)) (fb (Array.size h1)) := Dj.new o2.lt
  have o12 := o2.ext x8
  have S9 := S4.ext' x8
  have o7 : OB _ _ h6 _ (Array.size h1) [(Value.int .i64 y1.Kind), (Value.int .i64 y1.Num), (Value.string y1.Text), (Value.slice Ae1_3 (List.length y1.Names) ce1_3), (Value.slice Ae1_4 (List.length y1.Types) ce1_4), (Value.slice Ae1_5 (List.length y1.Args) ce1_5), (Value.slice Ae1_6 (List.length y1.Arms) ce1_6), (Value.int .i64 y1.At)] 71 := o7
  refine ⟨_, ldA (Sub.refl _) o7.all, ?_⟩
  obtain ⟨y13, g14, e⟩ := bind_e e
  refine (effect_Own.walk S9.s (T_api_Expr.iff.2 ⟨_, _, _, _, _, _, _, _, rfl, ke1_3, re1_3, ke1_4, re1_4, ke1_5, re1_5, ke1_6, re1_6⟩) g14).mono ?_
  rintro _ h15 ⟨m16, T17, rfl⟩
  have S18 := S9.grow T17
  have o19 := o12.step T17 Dj.no
  have o20 := o7.step T17 Dj.no
  refine ⟨_, rfl, ?_⟩
  refine ⟨_, ldA (Sub.refl _) o19.all, ?_⟩
  obtain ⟨y21, g22, e⟩ := bind_e e
  refine (effect_Funs.walk S18.s (show T_api_Program.E _ y0 [(Value.string y0.Name), (Value.int .i64 y0.Version), (Value.slice Ae0_2 (List.length y0.Uses) ce0_2), (Value.slice Ae0_3 (List.length y0.Datas) ce0_3), (Value.slice Ae0_4 (List.length y0.Traits) ce0_4), (Value.slice Ae0_5 (List.length y0.Impls) ce0_5), (Value.slice Ae0_6 (List.length y0.Funcs) ce0_6), (Value.slice Ae0_7 (List.length y0.Actors) ce0_7)] from ⟨_, _, _, _, _, _, _, _, _, _, _, _, rfl, ke0_2, (re0_2.sub T_api_Use.T T17.up), ke0_3, (re0_3.sub T_api_Data.T T17.up), ke0_4, (re0_4.sub T_api_Trait.T T17.up), ke0_5, (re0_5.sub T_api_Impl.T T17.up), ke0_6, (re0_6.sub T_api_Func.T T17.up), ke0_7, (re0_7.sub T_api_Actor.T T17.up)⟩) g22).mono ?_
  rintro _ h23 ⟨m24, A26, n27, c28, T25, rfl, ne29, o30⟩
  subst ne29
  have S32 := S18.grow T25
  have o33 := o19.step T25 Dj.no
  have o34 := o20.step T25 Dj.no
  have d36 : Dj (fb (Array.size h)) (fp A26 c28) := fun i h1 h2 => absurd (o19.lt i h1) (Nat.not_lt.2 ((o30.new i h2).elim (fun h => h.elim) id))
  have d37 : Dj (fb (Array.size h1)) (fp A26 c28) := fun i h1 h2 => absurd (o20.lt i h1) (Nat.not_lt.2 ((o30.new i h2).elim (fun h => h.elim) id))
  have o35 := o30.take S18 (fun _ h => h.elim)
  refine ⟨_, _, _, rfl, ?_⟩
  exact effect_once.l0.walk S32 rfl k2 (r2.sub (tell_int .i64) (T17.up.trans T25.up)) o34 (T_api_Expr.iff.2 ⟨_, _, _, _, _, _, _, _, rfl, ke1_3, (re1_3.sub tell_str (T17.up.trans T25.up)), ke1_4, (re1_4.sub T_api_Type.T (T17.up.trans T25.up)), ke1_5, (re1_5.sub T_api_Expr.T (T17.up.trans T25.up)), ke1_6, (re1_6.sub T_api_Arm.T (T17.up.trans T25.up))⟩) rfl o35 d37 e

/-! ### 88 roadstead/tree.Bodies -/
def tree_Bodies.post (W : Nat → Prop) (h0 m0 : Heap) (r : (List T_api_Expr)) (v : Value) (h : Heap) : Prop := ∃ m A0 n0 c0, St W h0 m0 h m ∧ v = .slice A0 n0 c0 ∧ n0 = r.length ∧ OS W h0 8 T_api_Expr.E h m A0 r c0
inductive tree_Bodies.l2_k.Pt where
  | l2 (a3 : List T_api_Expr) (a47 : List T_api_Actor) (x48 : Int) (x49 : Int)
noncomputable def tree_Bodies.l2_k.body (go : (p : tree_Bodies.l2_k.Pt) → Option ((List T_api_Expr))) : (p : tree_Bodies.l2_k.Pt) → Option ((List T_api_Expr))
  | .l2 a3 a47 x48 x49 => if x49 < x48 then (Option.bind (gi a47 x49) fun y136 => Option.bind (ap 136 a3 ([y136.Body] : List T_api_Expr)) fun l166 => (go (.l2 l166 a47 x48 (IntKind.wrap .i64 (x49 + (1 : Int)))))) else (some (a3))
theorem tree_Bodies.l2_k.mono : MonoF (β := fun _ => ((List T_api_Expr))) tree_Bodies.l2_k.body := fun f g hfg p => match p with
  | .l2 a3 a47 x48 x49 => LeO.ite (LeO.bind (LeO.refl _) fun y136 => LeO.bind (LeO.refl _) fun l166 => (hfg _)) (LeO.refl _)
noncomputable def tree_Bodies.l2_k.go (p : tree_Bodies.l2_k.Pt) : Option ((List T_api_Expr)) := fixF (β := fun _ => ((List T_api_Expr))) tree_Bodies.l2_k.body p
noncomputable def tree_Bodies.l2 (a3 : List T_api_Expr) (a47 : List T_api_Actor) (x48 : Int) (x49 : Int) : Option ((List T_api_Expr)) := tree_Bodies.l2_k.go (.l2 a3 a47 x48 x49)
theorem tree_Bodies.l2_eq (a3 : List T_api_Expr) (a47 : List T_api_Actor) (x48 : Int) (x49 : Int) : tree_Bodies.l2 a3 a47 x48 x49 = if x49 < x48 then (Option.bind (gi a47 x49) fun y136 => Option.bind (ap 136 a3 ([y136.Body] : List T_api_Expr)) fun l166 => (tree_Bodies.l2 l166 a47 x48 (IntKind.wrap .i64 (x49 + (1 : Int))))) else (some (a3)) := fixF_eq tree_Bodies.l2_k.mono _
def tree_Bodies.l2_k.I : (p : tree_Bodies.l2_k.Pt) → ((List T_api_Expr)) → Prop
  | .l2 a3 a47 x48 x49, r => ∀ (h0 m0 h m : Heap) (A3 : Option Addr) (n3 c3 : Nat) (A47 : Option Addr) (n47 c47 : Nat) (S : St No h0 m0 h m) (ne3 : n3 = List.length a3) (o3 : OS No h0 8 T_api_Expr.E h m A3 a3 c3) (ne47 : n47 = List.length a47) (k47 : List.length a47 ≤ c47) (r47 : Rd 14 T_api_Actor.E m A47 a47), f88.l2 (tree_Bodies.post No h0 m0 r) A3 n3 c3 A47 n47 c47 x48 x49 h
set_option maxRecDepth 100000 in
theorem tree_Bodies.l2_k.step_l2 (go : (p : tree_Bodies.l2_k.Pt) → Option ((List T_api_Expr))) (ih : ∀ p r, go p = some r → tree_Bodies.l2_k.I p r) (a3 : List T_api_Expr) (a47 : List T_api_Actor) (x48 : Int) (x49 : Int) (r : (List T_api_Expr)) (e : tree_Bodies.l2_k.body go (.l2 a3 a47 x48 x49) = some r) : tree_Bodies.l2_k.I (.l2 a3 a47 x48 x49) r := by
  unfold tree_Bodies.l2_k.body at e
  intro h0 m0 h m A3 n3 c3 A47 n47 c47 S ne3 o3 ne47 k47 r47
  subst ne3
  subst ne47
  refine f88.l2_in ?_
  unfold f88.l2T
  refine split_dec_e e (fun c180 e => ?_) (fun c180 e => ?_)
  · obtain ⟨y136, g137, e⟩ := bind_e e
    refine r47.addr rfl g137 fun a138 cs139 ha140 hc141 he142 => ?_
    obtain ⟨Aa138_1, ca138_1, Aa138_2, ca138_2, Aa138_5, ca138_5, Aa138_9, ca138_9, Aa138_10, ca138_10, Aa138_11, ca138_11, Aa138_12, ca138_12, rfl, ka138_1, ra138_1, ka138_2, ra138_2, ka138_5, ra138_5, ka138_9, ra138_9, ka138_10, ra138_10, ka138_11, ra138_11, ka138_12, ra138_12⟩ := he142
    refine ⟨_, ldA S.s hc141, ?_⟩
    refine new_in S fun h143 o144 x145 => ?_
    have d148 : Dj (fp A3 c3) (fb (Array.size h)) := Dj.new o3.lt
    have o149 := o3.ext T_api_Expr.T S.s x145
    have S146 := S.ext' x145
    have o144 : OB _ _ h143 _ (Array.size h) [(Value.string (ByteArray.mk #[])), (Value.slice none 0 0), (Value.slice none 0 0), (Value.int .i64 (0 : Int)), (Value.string (ByteArray.mk #[])), (Value.slice none 0 0), (Value.int .i64 (0 : Int)), (Value.int .i64 (0 : Int)), (Value.string (ByteArray.mk #[])), (Value.slice none 0 0), (Value.slice none 0 0), (Value.slice none 0 0), (Value.slice none 0 0), (Value.int .i64 (0 : Int))] 186 := o144
    obtain ⟨h150, w151, o152, t153⟩ := o144.stA S146.s [(Value.string y136.Name), (Value.slice Aa138_1 (List.length y136.Names) ca138_1), (Value.slice Aa138_2 (List.length y136.Types) ca138_2), (Value.int .i64 y136.Msg.Kind), (Value.string y136.Msg.Name), (Value.slice Aa138_5 (List.length y136.Msg.Args) ca138_5), (Value.int .i64 y136.Body.Kind), (Value.int .i64 y136.Body.Num), (Value.string y136.Body.Text), (Value.slice Aa138_9 (List.length y136.Body.Names) ca138_9), (Value.slice Aa138_10 (List.length y136.Body.Types) ca138_10), (Value.slice Aa138_11 (List.length y136.Body.Args) ca138_11), (Value.slice Aa138_12 (List.length y136.Body.Arms) ca138_12), (Value.int .i64 y136.Body.At)] rfl (Flats.cons trivial (Flats.cons trivial (Flats.cons trivial (Flats.cons trivial (Flats.cons trivial (Flats.cons trivial (Flats.cons trivial (Flats.cons trivial (Flats.cons trivial (Flats.cons trivial (Flats.cons trivial (Flats.cons trivial (Flats.cons trivial (Flats.cons trivial Flats.nil))))))))))))))
    refine ⟨[(Value.string y136.Name), (Value.slice Aa138_1 (List.length y136.Names) ca138_1), (Value.slice Aa138_2 (List.length y136.Types) ca138_2), (Value.int .i64 y136.Msg.Kind), (Value.string y136.Msg.Name), (Value.slice Aa138_5 (List.length y136.Msg.Args) ca138_5), (Value.int .i64 y136.Body.Kind), (Value.int .i64 y136.Body.Num), (Value.string y136.Body.Text), (Value.slice Aa138_9 (List.length y136.Body.Names) ca138_9), (Value.slice Aa138_10 (List.length y136.Body.Types) ca138_10), (Value.slice Aa138_11 (List.length y136.Body.Args) ca138_11), (Value.slice Aa138_12 (List.length y136.Body.Arms) ca138_12), (Value.int .i64 y136.Body.At)], rfl, rfl, h150, w151, ?_⟩
    have o152 : OB _ _ h150 _ (Array.size h) [(Value.string y136.Name), (Value.slice Aa138_1 (List.length y136.Names) ca138_1), (Value.slice Aa138_2 (List.length y136.Types) ca138_2), (Value.int .i64 y136.Msg.Kind), (Value.string y136.Msg.Name), (Value.slice Aa138_5 (List.length y136.Msg.Args) ca138_5), (Value.int .i64 y136.Body.Kind), (Value.int .i64 y136.Body.Num), (Value.string y136.Body.Text), (Value.slice Aa138_9 (List.length y136.Body.Names) ca138_9), (Value.slice Aa138_10 (List.length y136.Body.Types) ca138_10), (Value.slice Aa138_11 (List.length y136.Body.Args) ca138_11), (Value.slice Aa138_12 (List.length y136.Body.Arms) ca138_12), (Value.int .i64 y136.Body.At)] 186 := o152
    have S154 := S146.then t153 (fun i _ hi => o144.wr i hi)
    have o155 := o149.step T_api_Expr.T t153 (d148).symm
    refine ⟨(Value.agg #[(Value.int .i64 y136.Body.Kind), (Value.int .i64 y136.Body.Num), (Value.string y136.Body.Text), (Value.slice Aa138_9 (List.length y136.Body.Names) ca138_9), (Value.slice Aa138_10 (List.length y136.Body.Types) ca138_10), (Value.slice Aa138_11 (List.length y136.Body.Args) ca138_11), (Value.slice Aa138_12 (List.length y136.Body.Arms) ca138_12), (Value.int .i64 y136.Body.At)]), ldAk (k := 6) (j := 8) (Sub.refl _) o152.all (Nat.le_of_ble_eq_true rfl), ?_⟩
    refine ⟨[(Value.int .i64 y136.Body.Kind), (Value.int .i64 y136.Body.Num), (Value.string y136.Body.Text), (Value.slice Aa138_9 (List.length y136.Body.Names) ca138_9), (Value.slice Aa138_10 (List.length y136.Body.Types) ca138_10), (Value.slice Aa138_11 (List.length y136.Body.Args) ca138_11), (Value.slice Aa138_12 (List.length y136.Body.Arms) ca138_12), (Value.int .i64 y136.Body.At)], rfl, rfl, ?_⟩
    refine new_in S154 fun h156 o157 x158 => ?_
    have d161 : Dj (fp A3 c3) (fb (Array.size h150)) := Dj.new o155.lt
    have d162 : Dj (fb (Array.size h)) (fb (Array.size h150)) := Dj.new o152.lt
    have o163 := o155.ext T_api_Expr.T S154.s x158
    have o164 := o152.ext x158
    have S159 := S154.ext' x158
    have o157 : OB _ _ h156 _ (Array.size h150) [(Value.int .i64 y136.Body.Kind), (Value.int .i64 y136.Body.Num), (Value.string y136.Body.Text), (Value.slice Aa138_9 (List.length y136.Body.Names) ca138_9), (Value.slice Aa138_10 (List.length y136.Body.Types) ca138_10), (Value.slice Aa138_11 (List.length y136.Body.Args) ca138_11), (Value.slice Aa138_12 (List.length y136.Body.Arms) ca138_12), (Value.int .i64 y136.Body.At)] 71 := o157
    have o165 : OS _ _ 8 T_api_Expr.E h156 m (some ⟨(Array.size h150), 0, none⟩) ([y136.Body] : List T_api_Expr) 1 := OB.row o157 (CsE.cons (c1 := [(Value.int .i64 y136.Body.Kind), (Value.int .i64 y136.Body.Num), (Value.string y136.Body.Text), (Value.slice Aa138_9 (List.length y136.Body.Names) ca138_9), (Value.slice Aa138_10 (List.length y136.Body.Types) ca138_10), (Value.slice Aa138_11 (List.length y136.Body.Args) ca138_11), (Value.slice Aa138_12 (List.length y136.Body.Arms) ca138_12), (Value.int .i64 y136.Body.At)]) (T_api_Expr.iff.2 ⟨_, _, _, _, _, _, _, _, rfl, ka138_9, ra138_9, ka138_10, ra138_10, ka138_11, ra138_11, ka138_12, ra138_12⟩) rfl CsE.nil) rfl
    obtain ⟨l166, g167, e⟩ := bind_e e
    refine o163.app T_api_Expr.T S159 rfl rfl (o165.srcE rfl) (by decide) g167 fun A168 c169 h170 o171 t172 n173 => ?_
    refine ⟨_, _, _, rfl, ?_⟩
    have d175 : Dj (fb (Array.size h)) (fp A168 c169) := Dj.app (d148).symm o164.lt n173
    have d176 : Dj (fp (some ⟨(Array.size h150), 0, none⟩) 1) (fp A168 c169) := Dj.app ((d161.row)).symm o165.lt n173
    have S177 := S159.then t172 (fun i _ hi => o163.wr i hi)
    have o178 := o164.step t172 d148
    have o179 := o165.step T_api_Expr.T t172 (d161.row)
    exact (ih _ _ e) _ _ _ _ _ _ _ _ _ _ S177 rfl o171 rfl k47 r47
  · cases e
    exact ⟨_, _, _, _, S, rfl, rfl, o3⟩
theorem tree_Bodies.l2_k.all {p : tree_Bodies.l2_k.Pt} {r : ((List T_api_Expr))} (e : tree_Bodies.l2_k.go p = some r) : tree_Bodies.l2_k.I p r := fixF_ind (β := fun _ => ((List T_api_Expr))) tree_Bodies.l2_k.mono (I := tree_Bodies.l2_k.I) (fun go ih p r e => match p with
  | .l2 a3 a47 x48 x49 => tree_Bodies.l2_k.step_l2 go ih a3 a47 x48 x49 r e
  ) e
theorem tree_Bodies.l2.walk {h0 m0 h m : Heap} {A3 : Option Addr} {n3 c3 : Nat} {A47 : Option Addr} {n47 c47 : Nat} {a3 : List T_api_Expr} {a47 : List T_api_Actor} {x48 : Int} {x49 : Int} (S : St No h0 m0 h m) (ne3 : n3 = List.length a3) (o3 : OS No h0 8 T_api_Expr.E h m A3 a3 c3) (ne47 : n47 = List.length a47) (k47 : List.length a47 ≤ c47) (r47 : Rd 14 T_api_Actor.E m A47 a47) {r : (List T_api_Expr)} (e : tree_Bodies.l2 a3 a47 x48 x49 = some r) : f88.l2 (tree_Bodies.post No h0 m0 r) A3 n3 c3 A47 n47 c47 x48 x49 h := tree_Bodies.l2_k.all (p := .l2 a3 a47 x48 x49) e h0 m0 h m A3 n3 c3 A47 n47 c47 S ne3 o3 ne47 k47 r47

inductive tree_Bodies.l1_k.Pt where
  | l1 (y1 : T_api_Program) (a3 : List T_api_Expr) (a34 : List T_api_Func) (x35 : Int) (x36 : Int)
noncomputable def tree_Bodies.l1_k.body (go : (p : tree_Bodies.l1_k.Pt) → Option ((List T_api_Expr))) : (p : tree_Bodies.l1_k.Pt) → Option ((List T_api_Expr))
  | .l1 y1 a3 a34 x35 x36 => if x36 < x35 then (Option.bind (gi a34 x36) fun y84 => Option.bind (ap 136 a3 ([y84.Body] : List T_api_Expr)) fun l119 => (go (.l1 y1 l119 a34 x35 (IntKind.wrap .i64 (x36 + (1 : Int)))))) else ((tree_Bodies.l2 a3 y1.Actors (((List.length y1.Actors) : Nat) : Int) (0 : Int)))
theorem tree_Bodies.l1_k.mono : MonoF (β := fun _ => ((List T_api_Expr))) tree_Bodies.l1_k.body := fun f g hfg p => match p with
  | .l1 y1 a3 a34 x35 x36 => LeO.ite (LeO.bind (LeO.refl _) fun y84 => LeO.bind (LeO.refl _) fun l119 => (hfg _)) ((LeO.refl _))
noncomputable def tree_Bodies.l1_k.go (p : tree_Bodies.l1_k.Pt) : Option ((List T_api_Expr)) := fixF (β := fun _ => ((List T_api_Expr))) tree_Bodies.l1_k.body p
noncomputable def tree_Bodies.l1 (y1 : T_api_Program) (a3 : List T_api_Expr) (a34 : List T_api_Func) (x35 : Int) (x36 : Int) : Option ((List T_api_Expr)) := tree_Bodies.l1_k.go (.l1 y1 a3 a34 x35 x36)
theorem tree_Bodies.l1_eq (y1 : T_api_Program) (a3 : List T_api_Expr) (a34 : List T_api_Func) (x35 : Int) (x36 : Int) : tree_Bodies.l1 y1 a3 a34 x35 x36 = if x36 < x35 then (Option.bind (gi a34 x36) fun y84 => Option.bind (ap 136 a3 ([y84.Body] : List T_api_Expr)) fun l119 => (tree_Bodies.l1 y1 l119 a34 x35 (IntKind.wrap .i64 (x36 + (1 : Int))))) else ((tree_Bodies.l2 a3 y1.Actors (((List.length y1.Actors) : Nat) : Int) (0 : Int))) := fixF_eq tree_Bodies.l1_k.mono _
def tree_Bodies.l1_k.I : (p : tree_Bodies.l1_k.Pt) → ((List T_api_Expr)) → Prop
  | .l1 y1 a3 a34 x35 x36, r => ∀ (h0 m0 h m : Heap) (bk1 : Nat) (cs1 : List Value) (A3 : Option Addr) (n3 c3 : Nat) (A34 : Option Addr) (n34 c34 : Nat) (S : St No h0 m0 h m) (o1 : OB No h0 h m bk1 cs1 53) (e1 : T_api_Program.E m y1 cs1) (ne3 : n3 = List.length a3) (o3 : OS No h0 8 T_api_Expr.E h m A3 a3 c3) (ne34 : n34 = List.length a34) (k34 : List.length a34 ≤ c34) (r34 : Rd 15 T_api_Func.E m A34 a34) (d0_1 : Dj (fb bk1) (fp A3 c3)), f88.l1 (tree_Bodies.post No h0 m0 r) (⟨bk1, 0, none⟩ : Addr) A3 n3 c3 A34 n34 c34 x35 x36 h
set_option maxRecDepth 100000 in
theorem tree_Bodies.l1_k.step_l1 (go : (p : tree_Bodies.l1_k.Pt) → Option ((List T_api_Expr))) (ih : ∀ p r, go p = some r → tree_Bodies.l1_k.I p r) (y1 : T_api_Program) (a3 : List T_api_Expr) (a34 : List T_api_Func) (x35 : Int) (x36 : Int) (r : (List T_api_Expr)) (e : tree_Bodies.l1_k.body go (.l1 y1 a3 a34 x35 x36) = some r) : tree_Bodies.l1_k.I (.l1 y1 a3 a34 x35 x36) r := by
  unfold tree_Bodies.l1_k.body at e
  intro h0 m0 h m bk1 cs1 A3 n3 c3 A34 n34 c34 S o1 e1 ne3 o3 ne34 k34 r34 d0_1
  obtain ⟨Ae1_2, ce1_2, Ae1_3, ce1_3, Ae1_4, ce1_4, Ae1_5, ce1_5, Ae1_6, ce1_6, Ae1_7, ce1_7, rfl, ke1_2, re1_2, ke1_3, re1_3, ke1_4, re1_4, ke1_5, re1_5, ke1_6, re1_6, ke1_7, re1_7⟩ := e1
  subst ne3
  subst ne34
  refine f88.l1_in ?_
  unfold f88.l1T
  refine split_dec_e e (fun c135 e => ?_) (fun c135 e => ?_)
  · obtain ⟨y84, g85, e⟩ := bind_e e
    refine r34.addr rfl g85 fun a86 cs87 ha88 hc89 he90 => ?_
    obtain ⟨Aa86_1, ca86_1, Aa86_2, ca86_2, Aa86_3, ca86_3, Aa86_6, ca86_6, Aa86_10, ca86_10, Aa86_11, ca86_11, Aa86_12, ca86_12, Aa86_13, ca86_13, rfl, ka86_1, ra86_1, ka86_2, ra86_2, ka86_3, ra86_3, ka86_6, ra86_6, ka86_10, ra86_10, ka86_11, ra86_11, ka86_12, ra86_12, ka86_13, ra86_13⟩ := he90
    refine ⟨_, ldA S.s hc89, ?_⟩
    refine new_in S fun h91 o92 x93 => ?_
    have d96 : Dj (fb bk1) (fb (Array.size h)) := Dj.new o1.lt
    have d97 : Dj (fp A3 c3) (fb (Array.size h)) := Dj.new o3.lt
    have o98 := o1.ext x93
    have o99 := o3.ext T_api_Expr.T S.s x93
    have S94 := S.ext' x93
    have o92 : OB _ _ h91 _ (Array.size h) [(Value.string (ByteArray.mk #[])), (Value.slice none 0 0), (Value.slice none 0 0), (Value.slice none 0 0), (Value.int .i64 (0 : Int)), (Value.string (ByteArray.mk #[])), (Value.slice none 0 0), (Value.int .i64 (0 : Int)), (Value.int .i64 (0 : Int)), (Value.string (ByteArray.mk #[])), (Value.slice none 0 0), (Value.slice none 0 0), (Value.slice none 0 0), (Value.slice none 0 0), (Value.int .i64 (0 : Int))] 73 := o92
    obtain ⟨h100, w101, o102, t103⟩ := o92.stA S94.s [(Value.string y84.Name), (Value.slice Aa86_1 (List.length y84.Params) ca86_1), (Value.slice Aa86_2 (List.length y84.Names) ca86_2), (Value.slice Aa86_3 (List.length y84.Types) ca86_3), (Value.int .i64 y84.Out.Kind), (Value.string y84.Out.Name), (Value.slice Aa86_6 (List.length y84.Out.Args) ca86_6), (Value.int .i64 y84.Body.Kind), (Value.int .i64 y84.Body.Num), (Value.string y84.Body.Text), (Value.slice Aa86_10 (List.length y84.Body.Names) ca86_10), (Value.slice Aa86_11 (List.length y84.Body.Types) ca86_11), (Value.slice Aa86_12 (List.length y84.Body.Args) ca86_12), (Value.slice Aa86_13 (List.length y84.Body.Arms) ca86_13), (Value.int .i64 y84.Body.At)] rfl (Flats.cons trivial (Flats.cons trivial (Flats.cons trivial (Flats.cons trivial (Flats.cons trivial (Flats.cons trivial (Flats.cons trivial (Flats.cons trivial (Flats.cons trivial (Flats.cons trivial (Flats.cons trivial (Flats.cons trivial (Flats.cons trivial (Flats.cons trivial (Flats.cons trivial Flats.nil)))))))))))))))
    refine ⟨[(Value.string y84.Name), (Value.slice Aa86_1 (List.length y84.Params) ca86_1), (Value.slice Aa86_2 (List.length y84.Names) ca86_2), (Value.slice Aa86_3 (List.length y84.Types) ca86_3), (Value.int .i64 y84.Out.Kind), (Value.string y84.Out.Name), (Value.slice Aa86_6 (List.length y84.Out.Args) ca86_6), (Value.int .i64 y84.Body.Kind), (Value.int .i64 y84.Body.Num), (Value.string y84.Body.Text), (Value.slice Aa86_10 (List.length y84.Body.Names) ca86_10), (Value.slice Aa86_11 (List.length y84.Body.Types) ca86_11), (Value.slice Aa86_12 (List.length y84.Body.Args) ca86_12), (Value.slice Aa86_13 (List.length y84.Body.Arms) ca86_13), (Value.int .i64 y84.Body.At)], rfl, rfl, h100, w101, ?_⟩
    have o102 : OB _ _ h100 _ (Array.size h) [(Value.string y84.Name), (Value.slice Aa86_1 (List.length y84.Params) ca86_1), (Value.slice Aa86_2 (List.length y84.Names) ca86_2), (Value.slice Aa86_3 (List.length y84.Types) ca86_3), (Value.int .i64 y84.Out.Kind), (Value.string y84.Out.Name), (Value.slice Aa86_6 (List.length y84.Out.Args) ca86_6), (Value.int .i64 y84.Body.Kind), (Value.int .i64 y84.Body.Num), (Value.string y84.Body.Text), (Value.slice Aa86_10 (List.length y84.Body.Names) ca86_10), (Value.slice Aa86_11 (List.length y84.Body.Types) ca86_11), (Value.slice Aa86_12 (List.length y84.Body.Args) ca86_12), (Value.slice Aa86_13 (List.length y84.Body.Arms) ca86_13), (Value.int .i64 y84.Body.At)] 73 := o102
    have S104 := S94.then t103 (fun i _ hi => o92.wr i hi)
    have o105 := o98.step t103 (d96).symm
    have o106 := o99.step T_api_Expr.T t103 (d97).symm
    refine ⟨(Value.agg #[(Value.int .i64 y84.Body.Kind), (Value.int .i64 y84.Body.Num), (Value.string y84.Body.Text), (Value.slice Aa86_10 (List.length y84.Body.Names) ca86_10), (Value.slice Aa86_11 (List.length y84.Body.Types) ca86_11), (Value.slice Aa86_12 (List.length y84.Body.Args) ca86_12), (Value.slice Aa86_13 (List.length y84.Body.Arms) ca86_13), (Value.int .i64 y84.Body.At)]), ldAk (k := 7) (j := 8) (Sub.refl _) o102.all (Nat.le_of_ble_eq_true rfl), ?_⟩
    refine ⟨[(Value.int .i64 y84.Body.Kind), (Value.int .i64 y84.Body.Num), (Value.string y84.Body.Text), (Value.slice Aa86_10 (List.length y84.Body.Names) ca86_10), (Value.slice Aa86_11 (List.length y84.Body.Types) ca86_11), (Value.slice Aa86_12 (List.length y84.Body.Args) ca86_12), (Value.slice Aa86_13 (List.length y84.Body.Arms) ca86_13), (Value.int .i64 y84.Body.At)], rfl, rfl, ?_⟩
    refine new_in S104 fun h107 o108 x109 => ?_
    have d112 : Dj (fb bk1) (fb (Array.size h100)) := Dj.new o105.lt
    have d113 : Dj (fp A3 c3) (fb (Array.size h100)) := Dj.new o106.lt
    have d114 : Dj (fb (Array.size h)) (fb (Array.size h100)) := Dj.new o102.lt
    have o115 := o105.ext x109
    have o116 := o106.ext T_api_Expr.T S104.s x109
    have o117 := o102.ext x109
    have S110 := S104.ext' x109
    have o108 : OB _ _ h107 _ (Array.size h100) [(Value.int .i64 y84.Body.Kind), (Value.int .i64 y84.Body.Num), (Value.string y84.Body.Text), (Value.slice Aa86_10 (List.length y84.Body.Names) ca86_10), (Value.slice Aa86_11 (List.length y84.Body.Types) ca86_11), (Value.slice Aa86_12 (List.length y84.Body.Args) ca86_12), (Value.slice Aa86_13 (List.length y84.Body.Arms) ca86_13), (Value.int .i64 y84.Body.At)] 71 := o108
    have o118 : OS _ _ 8 T_api_Expr.E h107 m (some ⟨(Array.size h100), 0, none⟩) ([y84.Body] : List T_api_Expr) 1 := OB.row o108 (CsE.cons (c1 := [(Value.int .i64 y84.Body.Kind), (Value.int .i64 y84.Body.Num), (Value.string y84.Body.Text), (Value.slice Aa86_10 (List.length y84.Body.Names) ca86_10), (Value.slice Aa86_11 (List.length y84.Body.Types) ca86_11), (Value.slice Aa86_12 (List.length y84.Body.Args) ca86_12), (Value.slice Aa86_13 (List.length y84.Body.Arms) ca86_13), (Value.int .i64 y84.Body.At)]) (T_api_Expr.iff.2 ⟨_, _, _, _, _, _, _, _, rfl, ka86_10, ra86_10, ka86_11, ra86_11, ka86_12, ra86_12, ka86_13, ra86_13⟩) rfl CsE.nil) rfl
    obtain ⟨l119, g120, e⟩ := bind_e e
    refine o116.app T_api_Expr.T S110 rfl rfl (o118.srcE rfl) (by decide) g120 fun A121 c122 h123 o124 t125 n126 => ?_
    refine ⟨_, _, _, rfl, ?_⟩
    have d128 : Dj (fb bk1) (fp A121 c122) := Dj.app d0_1 o115.lt n126
    have d129 : Dj (fb (Array.size h)) (fp A121 c122) := Dj.app (d97).symm o117.lt n126
    have d130 : Dj (fp (some ⟨(Array.size h100), 0, none⟩) 1) (fp A121 c122) := Dj.app ((d113.row)).symm o118.lt n126
    have S131 := S110.then t125 (fun i _ hi => o116.wr i hi)
    have o132 := o115.step t125 (d0_1).symm
    have o133 := o117.step t125 d97
    have o134 := o118.step T_api_Expr.T t125 (d113.row)
    exact (ih _ _ e) _ _ _ _ _ _ _ _ _ _ _ _ S131 o132 (show T_api_Program.E _ y1 [(Value.string y1.Name), (Value.int .i64 y1.Version), (Value.slice Ae1_2 (List.length y1.Uses) ce1_2), (Value.slice Ae1_3 (List.length y1.Datas) ce1_3), (Value.slice Ae1_4 (List.length y1.Traits) ce1_4), (Value.slice Ae1_5 (List.length y1.Impls) ce1_5), (Value.slice Ae1_6 (List.length y1.Funcs) ce1_6), (Value.slice Ae1_7 (List.length y1.Actors) ce1_7)] from ⟨_, _, _, _, _, _, _, _, _, _, _, _, rfl, ke1_2, re1_2, ke1_3, re1_3, ke1_4, re1_4, ke1_5, re1_5, ke1_6, re1_6, ke1_7, re1_7⟩) rfl o124 rfl k34 r34 d128
  · refine ⟨_, ldk (k := 7) (Sub.refl _) o1.all rfl, _, _, _, rfl, ?_⟩
    exact tree_Bodies.l2.walk S rfl o3 rfl ke1_7 re1_7 e
theorem tree_Bodies.l1_k.all {p : tree_Bodies.l1_k.Pt} {r : ((List T_api_Expr))} (e : tree_Bodies.l1_k.go p = some r) : tree_Bodies.l1_k.I p r := fixF_ind (β := fun _ => ((List T_api_Expr))) tree_Bodies.l1_k.mono (I := tree_Bodies.l1_k.I) (fun go ih p r e => match p with
  | .l1 y1 a3 a34 x35 x36 => tree_Bodies.l1_k.step_l1 go ih y1 a3 a34 x35 x36 r e
  ) e
theorem tree_Bodies.l1.walk {h0 m0 h m : Heap} {bk1 : Nat} {cs1 : List Value} {A3 : Option Addr} {n3 c3 : Nat} {A34 : Option Addr} {n34 c34 : Nat} {y1 : T_api_Program} {a3 : List T_api_Expr} {a34 : List T_api_Func} {x35 : Int} {x36 : Int} (S : St No h0 m0 h m) (o1 : OB No h0 h m bk1 cs1 53) (e1 : T_api_Program.E m y1 cs1) (ne3 : n3 = List.length a3) (o3 : OS No h0 8 T_api_Expr.E h m A3 a3 c3) (ne34 : n34 = List.length a34) (k34 : List.length a34 ≤ c34) (r34 : Rd 15 T_api_Func.E m A34 a34) (d0_1 : Dj (fb bk1) (fp A3 c3)) {r : (List T_api_Expr)} (e : tree_Bodies.l1 y1 a3 a34 x35 x36 = some r) : f88.l1 (tree_Bodies.post No h0 m0 r) (⟨bk1, 0, none⟩ : Addr) A3 n3 c3 A34 n34 c34 x35 x36 h := tree_Bodies.l1_k.all (p := .l1 y1 a3 a34 x35 x36) e h0 m0 h m bk1 cs1 A3 n3 c3 A34 n34 c34 S o1 e1 ne3 o3 ne34 k34 r34 d0_1

inductive tree_Bodies.l0_k.Pt where
  | l0 (y1 : T_api_Program) (a3 : List T_api_Expr) (a13 : List T_api_Impl) (x14 : Int) (x15 : Int)
  | l3 (y1 : T_api_Program) (a3 : List T_api_Expr) (a13 : List T_api_Impl) (x14 : Int) (x15 : Int) (a20 : List T_api_Func) (x21 : Int) (x22 : Int)
noncomputable def tree_Bodies.l0_k.body (go : (p : tree_Bodies.l0_k.Pt) → Option ((List T_api_Expr))) : (p : tree_Bodies.l0_k.Pt) → Option ((List T_api_Expr))
  | .l0 y1 a3 a13 x14 x15 => if x15 < x14 then (Option.bind (gi a13 x15) fun y8 => (go (.l3 y1 a3 a13 x14 x15 y8.Funcs (((List.length y8.Funcs) : Nat) : Int) (0 : Int)))) else ((tree_Bodies.l1 y1 a3 y1.Funcs (((List.length y1.Funcs) : Nat) : Int) (0 : Int)))
  | .l3 y1 a3 a13 x14 x15 a20 x21 x22 => if x22 < x21 then (Option.bind (gi a20 x22) fun y32 => Option.bind (ap 136 a3 ([y32.Body] : List T_api_Expr)) fun l67 => (go (.l3 y1 l67 a13 x14 x15 a20 x21 (IntKind.wrap .i64 (x22 + (1 : Int)))))) else ((go (.l0 y1 a3 a13 x14 (IntKind.wrap .i64 (x15 + (1 : Int))))))
theorem tree_Bodies.l0_k.mono : MonoF (β := fun _ => ((List T_api_Expr))) tree_Bodies.l0_k.body := fun f g hfg p => match p with
  | .l0 y1 a3 a13 x14 x15 => LeO.ite (LeO.bind (LeO.refl _) fun y8 => (hfg _)) ((LeO.refl _))
  | .l3 y1 a3 a13 x14 x15 a20 x21 x22 => LeO.ite (LeO.bind (LeO.refl _) fun y32 => LeO.bind (LeO.refl _) fun l67 => (hfg _)) ((hfg _))
noncomputable def tree_Bodies.l0_k.go (p : tree_Bodies.l0_k.Pt) : Option ((List T_api_Expr)) := fixF (β := fun _ => ((List T_api_Expr))) tree_Bodies.l0_k.body p
noncomputable def tree_Bodies.l0 (y1 : T_api_Program) (a3 : List T_api_Expr) (a13 : List T_api_Impl) (x14 : Int) (x15 : Int) : Option ((List T_api_Expr)) := tree_Bodies.l0_k.go (.l0 y1 a3 a13 x14 x15)
noncomputable def tree_Bodies.l3 (y1 : T_api_Program) (a3 : List T_api_Expr) (a13 : List T_api_Impl) (x14 : Int) (x15 : Int) (a20 : List T_api_Func) (x21 : Int) (x22 : Int) : Option ((List T_api_Expr)) := tree_Bodies.l0_k.go (.l3 y1 a3 a13 x14 x15 a20 x21 x22)
theorem tree_Bodies.l0_eq (y1 : T_api_Program) (a3 : List T_api_Expr) (a13 : List T_api_Impl) (x14 : Int) (x15 : Int) : tree_Bodies.l0 y1 a3 a13 x14 x15 = if x15 < x14 then (Option.bind (gi a13 x15) fun y8 => (tree_Bodies.l3 y1 a3 a13 x14 x15 y8.Funcs (((List.length y8.Funcs) : Nat) : Int) (0 : Int))) else ((tree_Bodies.l1 y1 a3 y1.Funcs (((List.length y1.Funcs) : Nat) : Int) (0 : Int))) := fixF_eq tree_Bodies.l0_k.mono _
theorem tree_Bodies.l3_eq (y1 : T_api_Program) (a3 : List T_api_Expr) (a13 : List T_api_Impl) (x14 : Int) (x15 : Int) (a20 : List T_api_Func) (x21 : Int) (x22 : Int) : tree_Bodies.l3 y1 a3 a13 x14 x15 a20 x21 x22 = if x22 < x21 then (Option.bind (gi a20 x22) fun y32 => Option.bind (ap 136 a3 ([y32.Body] : List T_api_Expr)) fun l67 => (tree_Bodies.l3 y1 l67 a13 x14 x15 a20 x21 (IntKind.wrap .i64 (x22 + (1 : Int))))) else ((tree_Bodies.l0 y1 a3 a13 x14 (IntKind.wrap .i64 (x15 + (1 : Int))))) := fixF_eq tree_Bodies.l0_k.mono _
def tree_Bodies.l0_k.I : (p : tree_Bodies.l0_k.Pt) → ((List T_api_Expr)) → Prop
  | .l0 y1 a3 a13 x14 x15, r => ∀ (h0 m0 h m : Heap) (bk1 : Nat) (cs1 : List Value) (A3 : Option Addr) (n3 c3 : Nat) (A13 : Option Addr) (n13 c13 : Nat) (S : St No h0 m0 h m) (o1 : OB No h0 h m bk1 cs1 53) (e1 : T_api_Program.E m y1 cs1) (ne3 : n3 = List.length a3) (o3 : OS No h0 8 T_api_Expr.E h m A3 a3 c3) (ne13 : n13 = List.length a13) (k13 : List.length a13 ≤ c13) (r13 : Rd 3 T_api_Impl.E m A13 a13) (d0_1 : Dj (fb bk1) (fp A3 c3)), f88.l0 (tree_Bodies.post No h0 m0 r) (⟨bk1, 0, none⟩ : Addr) A3 n3 c3 A13 n13 c13 x14 x15 h
  | .l3 y1 a3 a13 x14 x15 a20 x21 x22, r => ∀ (h0 m0 h m : Heap) (bk1 : Nat) (cs1 : List Value) (A3 : Option Addr) (n3 c3 : Nat) (A13 : Option Addr) (n13 c13 : Nat) (A20 : Option Addr) (n20 c20 : Nat) (S : St No h0 m0 h m) (o1 : OB No h0 h m bk1 cs1 53) (e1 : T_api_Program.E m y1 cs1) (ne3 : n3 = List.length a3) (o3 : OS No h0 8 T_api_Expr.E h m A3 a3 c3) (ne13 : n13 = List.length a13) (k13 : List.length a13 ≤ c13) (r13 : Rd 3 T_api_Impl.E m A13 a13) (ne20 : n20 = List.length a20) (k20 : List.length a20 ≤ c20) (r20 : Rd 15 T_api_Func.E m A20 a20) (d0_1 : Dj (fb bk1) (fp A3 c3)), f88.l3 (tree_Bodies.post No h0 m0 r) (⟨bk1, 0, none⟩ : Addr) A3 n3 c3 A13 n13 c13 x14 x15 A20 n20 c20 x21 x22 h
set_option maxRecDepth 100000 in
theorem tree_Bodies.l0_k.step_l0 (go : (p : tree_Bodies.l0_k.Pt) → Option ((List T_api_Expr))) (ih : ∀ p r, go p = some r → tree_Bodies.l0_k.I p r) (y1 : T_api_Program) (a3 : List T_api_Expr) (a13 : List T_api_Impl) (x14 : Int) (x15 : Int) (r : (List T_api_Expr)) (e : tree_Bodies.l0_k.body go (.l0 y1 a3 a13 x14 x15) = some r) : tree_Bodies.l0_k.I (.l0 y1 a3 a13 x14 x15) r := by
  unfold tree_Bodies.l0_k.body at e
  intro h0 m0 h m bk1 cs1 A3 n3 c3 A13 n13 c13 S o1 e1 ne3 o3 ne13 k13 r13 d0_1
  obtain ⟨Ae1_2, ce1_2, Ae1_3, ce1_3, Ae1_4, ce1_4, Ae1_5, ce1_5, Ae1_6, ce1_6, Ae1_7, ce1_7, rfl, ke1_2, re1_2, ke1_3, re1_3, ke1_4, re1_4, ke1_5, re1_5, ke1_6, re1_6, ke1_7, re1_7⟩ := e1
  subst ne3
  subst ne13
  refine f88.l0_in ?_
  unfold f88.l0T
  refine split_dec_e e (fun c31 e => ?_) (fun c31 e => ?_)
  · obtain ⟨y8, g9, e⟩ := bind_e e
    refine r13.addr rfl g9 fun a10 cs11 ha12 hc13 he14 => ?_
    obtain ⟨Aa10_2, ca10_2, rfl, ka10_2, ra10_2⟩ := he14
    refine ⟨_, ldA S.s hc13, ?_⟩
    refine new_in S fun h15 o16 x17 => ?_
    have d20 : Dj (fb bk1) (fb (Array.size h)) := Dj.new o1.lt
    have d21 : Dj (fp A3 c3) (fb (Array.size h)) := Dj.new o3.lt
    have o22 := o1.ext x17
    have o23 := o3.ext T_api_Expr.T S.s x17
    have S18 := S.ext' x17
    have o16 : OB _ _ h15 _ (Array.size h) [(Value.string (ByteArray.mk #[])), (Value.string (ByteArray.mk #[])), (Value.slice none 0 0)] 181 := o16
    obtain ⟨h24, w25, o26, t27⟩ := o16.stA S18.s [(Value.string y8.Trait), (Value.string y8.For), (Value.slice Aa10_2 (List.length y8.Funcs) ca10_2)] rfl (Flats.cons trivial (Flats.cons trivial (Flats.cons trivial Flats.nil)))
    refine ⟨[(Value.string y8.Trait), (Value.string y8.For), (Value.slice Aa10_2 (List.length y8.Funcs) ca10_2)], rfl, rfl, h24, w25, ?_⟩
    have o26 : OB _ _ h24 _ (Array.size h) [(Value.string y8.Trait), (Value.string y8.For), (Value.slice Aa10_2 (List.length y8.Funcs) ca10_2)] 181 := o26
    have S28 := S18.then t27 (fun i _ hi => o16.wr i hi)
    have o29 := o22.step t27 (d20).symm
    have o30 := o23.step T_api_Expr.T t27 (d21).symm
    refine ⟨_, ldk (k := 2) (Sub.refl _) o26.all rfl, _, _, _, rfl, ?_⟩
    exact (ih _ _ e) _ _ _ _ _ _ _ _ _ _ _ _ _ _ _ S28 o29 (show T_api_Program.E _ y1 [(Value.string y1.Name), (Value.int .i64 y1.Version), (Value.slice Ae1_2 (List.length y1.Uses) ce1_2), (Value.slice Ae1_3 (List.length y1.Datas) ce1_3), (Value.slice Ae1_4 (List.length y1.Traits) ce1_4), (Value.slice Ae1_5 (List.length y1.Impls) ce1_5), (Value.slice Ae1_6 (List.length y1.Funcs) ce1_6), (Value.slice Ae1_7 (List.length y1.Actors) ce1_7)] from ⟨_, _, _, _, _, _, _, _, _, _, _, _, rfl, ke1_2, re1_2, ke1_3, re1_3, ke1_4, re1_4, ke1_5, re1_5, ke1_6, re1_6, ke1_7, re1_7⟩) rfl o30 rfl k13 r13 rfl ka10_2 ra10_2 d0_1
  · refine ⟨_, ldk (k := 6) (Sub.refl _) o1.all rfl, _, _, _, rfl, ?_⟩
    exact tree_Bodies.l1.walk S o1 (show T_api_Program.E _ y1 [(Value.string y1.Name), (Value.int .i64 y1.Version), (Value.slice Ae1_2 (List.length y1.Uses) ce1_2), (Value.slice Ae1_3 (List.length y1.Datas) ce1_3), (Value.slice Ae1_4 (List.length y1.Traits) ce1_4), (Value.slice Ae1_5 (List.length y1.Impls) ce1_5), (Value.slice Ae1_6 (List.length y1.Funcs) ce1_6), (Value.slice Ae1_7 (List.length y1.Actors) ce1_7)] from ⟨_, _, _, _, _, _, _, _, _, _, _, _, rfl, ke1_2, re1_2, ke1_3, re1_3, ke1_4, re1_4, ke1_5, re1_5, ke1_6, re1_6, ke1_7, re1_7⟩) rfl o3 rfl ke1_6 re1_6 d0_1 e
set_option maxRecDepth 100000 in
theorem tree_Bodies.l0_k.step_l3 (go : (p : tree_Bodies.l0_k.Pt) → Option ((List T_api_Expr))) (ih : ∀ p r, go p = some r → tree_Bodies.l0_k.I p r) (y1 : T_api_Program) (a3 : List T_api_Expr) (a13 : List T_api_Impl) (x14 : Int) (x15 : Int) (a20 : List T_api_Func) (x21 : Int) (x22 : Int) (r : (List T_api_Expr)) (e : tree_Bodies.l0_k.body go (.l3 y1 a3 a13 x14 x15 a20 x21 x22) = some r) : tree_Bodies.l0_k.I (.l3 y1 a3 a13 x14 x15 a20 x21 x22) r := by
  unfold tree_Bodies.l0_k.body at e
  intro h0 m0 h m bk1 cs1 A3 n3 c3 A13 n13 c13 A20 n20 c20 S o1 e1 ne3 o3 ne13 k13 r13 ne20 k20 r20 d0_1
  obtain ⟨Ae1_2, ce1_2, Ae1_3, ce1_3, Ae1_4, ce1_4, Ae1_5, ce1_5, Ae1_6, ce1_6, Ae1_7, ce1_7, rfl, ke1_2, re1_2, ke1_3, re1_3, ke1_4, re1_4, ke1_5, re1_5, ke1_6, re1_6, ke1_7, re1_7⟩ := e1
  subst ne3
  subst ne13
  subst ne20
  refine f88.l3_in ?_
  unfold f88.l3T
  refine split_dec_e e (fun c83 e => ?_) (fun c83 e => ?_)
  · obtain ⟨y32, g33, e⟩ := bind_e e
    refine r20.addr rfl g33 fun a34 cs35 ha36 hc37 he38 => ?_
    obtain ⟨Aa34_1, ca34_1, Aa34_2, ca34_2, Aa34_3, ca34_3, Aa34_6, ca34_6, Aa34_10, ca34_10, Aa34_11, ca34_11, Aa34_12, ca34_12, Aa34_13, ca34_13, rfl, ka34_1, ra34_1, ka34_2, ra34_2, ka34_3, ra34_3, ka34_6, ra34_6, ka34_10, ra34_10, ka34_11, ra34_11, ka34_12, ra34_12, ka34_13, ra34_13⟩ := he38
    refine ⟨_, ldA S.s hc37, ?_⟩
    refine new_in S fun h39 o40 x41 => ?_
    have d44 : Dj (fb bk1) (fb (Array.size h)) := Dj.new o1.lt
    have d45 : Dj (fp A3 c3) (fb (Array.size h)) := Dj.new o3.lt
    have o46 := o1.ext x41
    have o47 := o3.ext T_api_Expr.T S.s x41
    have S42 := S.ext' x41
    have o40 : OB _ _ h39 _ (Array.size h) [(Value.string (ByteArray.mk #[])), (Value.slice none 0 0), (Value.slice none 0 0), (Value.slice none 0 0), (Value.int .i64 (0 : Int)), (Value.string (ByteArray.mk #[])), (Value.slice none 0 0), (Value.int .i64 (0 : Int)), (Value.int .i64 (0 : Int)), (Value.string (ByteArray.mk #[])), (Value.slice none 0 0), (Value.slice none 0 0), (Value.slice none 0 0), (Value.slice none 0 0), (Value.int .i64 (0 : Int))] 73 := o40
    obtain ⟨h48, w49, o50, t51⟩ := o40.stA S42.s [(Value.string y32.Name), (Value.slice Aa34_1 (List.length y32.Params) ca34_1), (Value.slice Aa34_2 (List.length y32.Names) ca34_2), (Value.slice Aa34_3 (List.length y32.Types) ca34_3), (Value.int .i64 y32.Out.Kind), (Value.string y32.Out.Name), (Value.slice Aa34_6 (List.length y32.Out.Args) ca34_6), (Value.int .i64 y32.Body.Kind), (Value.int .i64 y32.Body.Num), (Value.string y32.Body.Text), (Value.slice Aa34_10 (List.length y32.Body.Names) ca34_10), (Value.slice Aa34_11 (List.length y32.Body.Types) ca34_11), (Value.slice Aa34_12 (List.length y32.Body.Args) ca34_12), (Value.slice Aa34_13 (List.length y32.Body.Arms) ca34_13), (Value.int .i64 y32.Body.At)] rfl (Flats.cons trivial (Flats.cons trivial (Flats.cons trivial (Flats.cons trivial (Flats.cons trivial (Flats.cons trivial (Flats.cons trivial (Flats.cons trivial (Flats.cons trivial (Flats.cons trivial (Flats.cons trivial (Flats.cons trivial (Flats.cons trivial (Flats.cons trivial (Flats.cons trivial Flats.nil)))))))))))))))
    refine ⟨[(Value.string y32.Name), (Value.slice Aa34_1 (List.length y32.Params) ca34_1), (Value.slice Aa34_2 (List.length y32.Names) ca34_2), (Value.slice Aa34_3 (List.length y32.Types) ca34_3), (Value.int .i64 y32.Out.Kind), (Value.string y32.Out.Name), (Value.slice Aa34_6 (List.length y32.Out.Args) ca34_6), (Value.int .i64 y32.Body.Kind), (Value.int .i64 y32.Body.Num), (Value.string y32.Body.Text), (Value.slice Aa34_10 (List.length y32.Body.Names) ca34_10), (Value.slice Aa34_11 (List.length y32.Body.Types) ca34_11), (Value.slice Aa34_12 (List.length y32.Body.Args) ca34_12), (Value.slice Aa34_13 (List.length y32.Body.Arms) ca34_13), (Value.int .i64 y32.Body.At)], rfl, rfl, h48, w49, ?_⟩
    have o50 : OB _ _ h48 _ (Array.size h) [(Value.string y32.Name), (Value.slice Aa34_1 (List.length y32.Params) ca34_1), (Value.slice Aa34_2 (List.length y32.Names) ca34_2), (Value.slice Aa34_3 (List.length y32.Types) ca34_3), (Value.int .i64 y32.Out.Kind), (Value.string y32.Out.Name), (Value.slice Aa34_6 (List.length y32.Out.Args) ca34_6), (Value.int .i64 y32.Body.Kind), (Value.int .i64 y32.Body.Num), (Value.string y32.Body.Text), (Value.slice Aa34_10 (List.length y32.Body.Names) ca34_10), (Value.slice Aa34_11 (List.length y32.Body.Types) ca34_11), (Value.slice Aa34_12 (List.length y32.Body.Args) ca34_12), (Value.slice Aa34_13 (List.length y32.Body.Arms) ca34_13), (Value.int .i64 y32.Body.At)] 73 := o50
    have S52 := S42.then t51 (fun i _ hi => o40.wr i hi)
    have o53 := o46.step t51 (d44).symm
    have o54 := o47.step T_api_Expr.T t51 (d45).symm
    refine ⟨(Value.agg #[(Value.int .i64 y32.Body.Kind), (Value.int .i64 y32.Body.Num), (Value.string y32.Body.Text), (Value.slice Aa34_10 (List.length y32.Body.Names) ca34_10), (Value.slice Aa34_11 (List.length y32.Body.Types) ca34_11), (Value.slice Aa34_12 (List.length y32.Body.Args) ca34_12), (Value.slice Aa34_13 (List.length y32.Body.Arms) ca34_13), (Value.int .i64 y32.Body.At)]), ldAk (k := 7) (j := 8) (Sub.refl _) o50.all (Nat.le_of_ble_eq_true rfl), ?_⟩
    refine ⟨[(Value.int .i64 y32.Body.Kind), (Value.int .i64 y32.Body.Num), (Value.string y32.Body.Text), (Value.slice Aa34_10 (List.length y32.Body.Names) ca34_10), (Value.slice Aa34_11 (List.length y32.Body.Types) ca34_11), (Value.slice Aa34_12 (List.length y32.Body.Args) ca34_12), (Value.slice Aa34_13 (List.length y32.Body.Arms) ca34_13), (Value.int .i64 y32.Body.At)], rfl, rfl, ?_⟩
    refine new_in S52 fun h55 o56 x57 => ?_
    have d60 : Dj (fb bk1) (fb (Array.size h48)) := Dj.new o53.lt
    have d61 : Dj (fp A3 c3) (fb (Array.size h48)) := Dj.new o54.lt
    have d62 : Dj (fb (Array.size h)) (fb (Array.size h48)) := Dj.new o50.lt
    have o63 := o53.ext x57
    have o64 := o54.ext T_api_Expr.T S52.s x57
    have o65 := o50.ext x57
    have S58 := S52.ext' x57
    have o56 : OB _ _ h55 _ (Array.size h48) [(Value.int .i64 y32.Body.Kind), (Value.int .i64 y32.Body.Num), (Value.string y32.Body.Text), (Value.slice Aa34_10 (List.length y32.Body.Names) ca34_10), (Value.slice Aa34_11 (List.length y32.Body.Types) ca34_11), (Value.slice Aa34_12 (List.length y32.Body.Args) ca34_12), (Value.slice Aa34_13 (List.length y32.Body.Arms) ca34_13), (Value.int .i64 y32.Body.At)] 71 := o56
    have o66 : OS _ _ 8 T_api_Expr.E h55 m (some ⟨(Array.size h48), 0, none⟩) ([y32.Body] : List T_api_Expr) 1 := OB.row o56 (CsE.cons (c1 := [(Value.int .i64 y32.Body.Kind), (Value.int .i64 y32.Body.Num), (Value.string y32.Body.Text), (Value.slice Aa34_10 (List.length y32.Body.Names) ca34_10), (Value.slice Aa34_11 (List.length y32.Body.Types) ca34_11), (Value.slice Aa34_12 (List.length y32.Body.Args) ca34_12), (Value.slice Aa34_13 (List.length y32.Body.Arms) ca34_13), (Value.int .i64 y32.Body.At)]) (T_api_Expr.iff.2 ⟨_, _, _, _, _, _, _, _, rfl, ka34_10, ra34_10, ka34_11, ra34_11, ka34_12, ra34_12, ka34_13, ra34_13⟩) rfl CsE.nil) rfl
    obtain ⟨l67, g68, e⟩ := bind_e e
    refine o64.app T_api_Expr.T S58 rfl rfl (o66.srcE rfl) (by decide) g68 fun A69 c70 h71 o72 t73 n74 => ?_
    refine ⟨_, _, _, rfl, ?_⟩
    have d76 : Dj (fb bk1) (fp A69 c70) := Dj.app d0_1 o63.lt n74
    have d77 : Dj (fb (Array.size h)) (fp A69 c70) := Dj.app (d45).symm o65.lt n74
    have d78 : Dj (fp (some ⟨(Array.size h48), 0, none⟩) 1) (fp A69 c70) := Dj.app ((d61.row)).symm o66.lt n74
    have S79 := S58.then t73 (fun i _ hi => o64.wr i hi)
    have o80 := o63.step t73 (d0_1).symm
    have o81 := o65.step t73 d45
    have o82 := o66.step T_api_Expr.T t73 (d61.row)
    exact (ih _ _ e) _ _ _ _ _ _ _ _ _ _ _ _ _ _ _ S79 o80 (show T_api_Program.E _ y1 [(Value.string y1.Name), (Value.int .i64 y1.Version), (Value.slice Ae1_2 (List.length y1.Uses) ce1_2), (Value.slice Ae1_3 (List.length y1.Datas) ce1_3), (Value.slice Ae1_4 (List.length y1.Traits) ce1_4), (Value.slice Ae1_5 (List.length y1.Impls) ce1_5), (Value.slice Ae1_6 (List.length y1.Funcs) ce1_6), (Value.slice Ae1_7 (List.length y1.Actors) ce1_7)] from ⟨_, _, _, _, _, _, _, _, _, _, _, _, rfl, ke1_2, re1_2, ke1_3, re1_3, ke1_4, re1_4, ke1_5, re1_5, ke1_6, re1_6, ke1_7, re1_7⟩) rfl o72 rfl k13 r13 rfl k20 r20 d76
  · exact (ih _ _ e) _ _ _ _ _ _ _ _ _ _ _ _ S o1 (show T_api_Program.E _ y1 [(Value.string y1.Name), (Value.int .i64 y1.Version), (Value.slice Ae1_2 (List.length y1.Uses) ce1_2), (Value.slice Ae1_3 (List.length y1.Datas) ce1_3), (Value.slice Ae1_4 (List.length y1.Traits) ce1_4), (Value.slice Ae1_5 (List.length y1.Impls) ce1_5), (Value.slice Ae1_6 (List.length y1.Funcs) ce1_6), (Value.slice Ae1_7 (List.length y1.Actors) ce1_7)] from ⟨_, _, _, _, _, _, _, _, _, _, _, _, rfl, ke1_2, re1_2, ke1_3, re1_3, ke1_4, re1_4, ke1_5, re1_5, ke1_6, re1_6, ke1_7, re1_7⟩) rfl o3 rfl k13 r13 d0_1
theorem tree_Bodies.l0_k.all {p : tree_Bodies.l0_k.Pt} {r : ((List T_api_Expr))} (e : tree_Bodies.l0_k.go p = some r) : tree_Bodies.l0_k.I p r := fixF_ind (β := fun _ => ((List T_api_Expr))) tree_Bodies.l0_k.mono (I := tree_Bodies.l0_k.I) (fun go ih p r e => match p with
  | .l0 y1 a3 a13 x14 x15 => tree_Bodies.l0_k.step_l0 go ih y1 a3 a13 x14 x15 r e
  | .l3 y1 a3 a13 x14 x15 a20 x21 x22 => tree_Bodies.l0_k.step_l3 go ih y1 a3 a13 x14 x15 a20 x21 x22 r e
  ) e
theorem tree_Bodies.l0.walk {h0 m0 h m : Heap} {bk1 : Nat} {cs1 : List Value} {A3 : Option Addr} {n3 c3 : Nat} {A13 : Option Addr} {n13 c13 : Nat} {y1 : T_api_Program} {a3 : List T_api_Expr} {a13 : List T_api_Impl} {x14 : Int} {x15 : Int} (S : St No h0 m0 h m) (o1 : OB No h0 h m bk1 cs1 53) (e1 : T_api_Program.E m y1 cs1) (ne3 : n3 = List.length a3) (o3 : OS No h0 8 T_api_Expr.E h m A3 a3 c3) (ne13 : n13 = List.length a13) (k13 : List.length a13 ≤ c13) (r13 : Rd 3 T_api_Impl.E m A13 a13) (d0_1 : Dj (fb bk1) (fp A3 c3)) {r : (List T_api_Expr)} (e : tree_Bodies.l0 y1 a3 a13 x14 x15 = some r) : f88.l0 (tree_Bodies.post No h0 m0 r) (⟨bk1, 0, none⟩ : Addr) A3 n3 c3 A13 n13 c13 x14 x15 h := tree_Bodies.l0_k.all (p := .l0 y1 a3 a13 x14 x15) e h0 m0 h m bk1 cs1 A3 n3 c3 A13 n13 c13 S o1 e1 ne3 o3 ne13 k13 r13 d0_1
theorem tree_Bodies.l3.walk {h0 m0 h m : Heap} {bk1 : Nat} {cs1 : List Value} {A3 : Option Addr} {n3 c3 : Nat} {A13 : Option Addr} {n13 c13 : Nat} {A20 : Option Addr} {n20 c20 : Nat} {y1 : T_api_Program} {a3 : List T_api_Expr} {a13 : List T_api_Impl} {x14 : Int} {x15 : Int} {a20 : List T_api_Func} {x21 : Int} {x22 : Int} (S : St No h0 m0 h m) (o1 : OB No h0 h m bk1 cs1 53) (e1 : T_api_Program.E m y1 cs1) (ne3 : n3 = List.length a3) (o3 : OS No h0 8 T_api_Expr.E h m A3 a3 c3) (ne13 : n13 = List.length a13) (k13 : List.length a13 ≤ c13) (r13 : Rd 3 T_api_Impl.E m A13 a13) (ne20 : n20 = List.length a20) (k20 : List.length a20 ≤ c20) (r20 : Rd 15 T_api_Func.E m A20 a20) (d0_1 : Dj (fb bk1) (fp A3 c3)) {r : (List T_api_Expr)} (e : tree_Bodies.l3 y1 a3 a13 x14 x15 a20 x21 x22 = some r) : f88.l3 (tree_Bodies.post No h0 m0 r) (⟨bk1, 0, none⟩ : Addr) A3 n3 c3 A13 n13 c13 x14 x15 A20 n20 c20 x21 x22 h := tree_Bodies.l0_k.all (p := .l3 y1 a3 a13 x14 x15 a20 x21 x22) e h0 m0 h m bk1 cs1 A3 n3 c3 A13 n13 c13 A20 n20 c20 S o1 e1 ne3 o3 ne13 k13 r13 ne20 k20 r20 d0_1

noncomputable def tree_Bodies (y0 : T_api_Program) : Option ((List T_api_Expr)) :=
  (tree_Bodies.l0 y0 ([] : List T_api_Expr) y0.Impls (((List.length y0.Impls) : Nat) : Int) (0 : Int))
set_option maxRecDepth 100000 in
theorem tree_Bodies.walk {h m : Heap} {cs0 : List Value} {y0 : T_api_Program} (s : Sub m h) (e0 : T_api_Program.E m y0 cs0) {r : (List T_api_Expr)} (e : tree_Bodies y0 = some r) : Run Try.prog 88 #[Value.agg cs0.toArray] h (tree_Bodies.post No h m r) := by
  unfold tree_Bodies at e
  obtain ⟨Ae0_2, ce0_2, Ae0_3, ce0_3, Ae0_4, ce0_4, Ae0_5, ce0_5, Ae0_6, ce0_6, Ae0_7, ce0_7, rfl, ke0_2, re0_2, ke0_3, re0_3, ke0_4, re0_4, ke0_5, re0_5, ke0_6, re0_6, ke0_7, re0_7⟩ := e0
  have S : St No h m h m := .refl s
  refine f88.run ?_
  unfold f88.runT
  refine new_in S fun h1 o2 x3 => ?_
  have S4 := S.ext' x3
  have o2 : OB _ _ h1 _ (Array.size h) [(Value.string y0.Name), (Value.int .i64 y0.Version), (Value.slice Ae0_2 (List.length y0.Uses) ce0_2), (Value.slice Ae0_3 (List.length y0.Datas) ce0_3), (Value.slice Ae0_4 (List.length y0.Traits) ce0_4), (Value.slice Ae0_5 (List.length y0.Impls) ce0_5), (Value.slice Ae0_6 (List.length y0.Funcs) ce0_6), (Value.slice Ae0_7 (List.length y0.Actors) ce0_7)] 53 := o2
  refine ⟨_, ldk (k := 5) (Sub.refl _) o2.all rfl, _, _, _, rfl, ?_⟩
  have o7 : OS No h 8 T_api_Expr.E h1 m none ([] : List T_api_Expr) 0 := .inl ⟨rfl, rfl⟩
  exact tree_Bodies.l0.walk S4 o2 (show T_api_Program.E _ y0 [(Value.string y0.Name), (Value.int .i64 y0.Version), (Value.slice Ae0_2 (List.length y0.Uses) ce0_2), (Value.slice Ae0_3 (List.length y0.Datas) ce0_3), (Value.slice Ae0_4 (List.length y0.Traits) ce0_4), (Value.slice Ae0_5 (List.length y0.Impls) ce0_5), (Value.slice Ae0_6 (List.length y0.Funcs) ce0_6), (Value.slice Ae0_7 (List.length y0.Actors) ce0_7)] from ⟨_, _, _, _, _, _, _, _, _, _, _, _, rfl, ke0_2, re0_2, ke0_3, re0_3, ke0_4, re0_4, ke0_5, re0_5, ke0_6, re0_6, ke0_7, re0_7⟩) rfl o7 rfl ke0_5 re0_5 (show Dj (fb (Array.size h)) (fp none 0) from Dj.nil) e

/-! ### 28 roadstead/effect.Least -/
def effect_Least.post (W : Nat → Prop) (h0 m0 : Heap) (r : (List Int) × Int) (v : Value) (h : Heap) : Prop := ∃ m A0 n0 c0, St W h0 m0 h m ∧ v = .tuple #[.slice A0 n0 c0, .int .i64 r.2] ∧ n0 = r.1.length ∧ OS W h0 1 (eInt .i64) h m A0 r.1 c0
inductive effect_Least.l0_k.Pt where
  | l0 (y1 : T_api_Program) (a4 : List T_api_Func) (a5 : List Int) (x6 : Int)
  | l1 (y1 : T_api_Program) (a4 : List T_api_Func) (a5 : List Int) (x6 : Int) (a7 : List Int) (x8 : Int) (x25 : Int) (x26 : Int)
  | l2 (y1 : T_api_Program) (a4 : List T_api_Func) (a5 : List Int) (x6 : Int) (a7 : List Int) (x8 : Int) (a42 : List T_api_Expr) (x43 : Int) (x44 : Int)
  | l3 (y1 : T_api_Program) (a4 : List T_api_Func) (a5 : List Int) (x6 : Int) (a7 : List Int) (x8 : Int) (a42 : List T_api_Expr) (x43 : Int) (x44 : Int) (a49 : List T_api_Expr) (x50 : Int) (x51 : Int)
  | j1 (y1 : T_api_Program) (a4 : List T_api_Func) (a5 : List Int) (x6 : Int) (a7 : List Int) (x8 : Int) (b74 : Bool)
  | j0 (y1 : T_api_Program) (a4 : List T_api_Func) (a7 : List Int) (x8 : Int)
noncomputable def effect_Least.l0_k.body (go : (p : effect_Least.l0_k.Pt) → Option ((List Int) × Int)) : (p : effect_Least.l0_k.Pt) → Option ((List Int) × Int)
  | .l0 y1 a4 a5 x6 => Option.bind (mks 8 (((List.length a4) : Nat) : Int) (0 : Int)) fun l34 => (go (.l1 y1 a4 a5 x6 l34 x6 (((List.length a4) : Nat) : Int) (0 : Int)))
  | .l1 y1 a4 a5 x6 a7 x8 x25 x26 => if x26 < x25 then (Option.bind (gi a4 x26) fun y49 => Option.bind (effect_once y1 y49.Body a5 x6) fun y78 => Option.bind (gi a7 x26) fun y95 => Option.bind (some (List.set a7 (Int.toNat x26) y78)) fun l106 => (go (.l1 y1 a4 a5 x6 l106 x8 x25 (IntKind.wrap .i64 (x26 + (1 : Int)))))) else (Option.bind (tree_Bodies y1) fun y113 => (go (.l2 y1 a4 a5 x6 a7 x8 y113 (((List.length y113) : Nat) : Int) (0 : Int))))
  | .l2 y1 a4 a5 x6 a7 x8 a42 x43 x44 => if x44 < x43 then (Option.bind (gi a42 x44) fun y135 => Option.bind (tree_Walk y135) fun y167 => (go (.l3 y1 a4 a5 x6 a7 x8 a42 x43 x44 y167 (((List.length y167) : Nat) : Int) (0 : Int)))) else (if x8 = x6 then (Option.bind (slices_Equal_62 a7 a5) fun y192 => (go (.j1 y1 a4 a5 x6 a7 x8 y192))) else ((go (.j1 y1 a4 a5 x6 a7 x8 false))))
  | .l3 y1 a4 a5 x6 a7 x8 a42 x43 x44 a49 x50 x51 => if x51 < x50 then (Option.bind (gi a49 x51) fun y211 => if y211.Kind = (10 : Int) then (Option.bind (effect_once y1 y211 a5 x6) fun y246 => (go (.l3 y1 a4 a5 x6 a7 (bitsI .or .i64 x8 y246) a42 x43 x44 a49 x50 (IntKind.wrap .i64 (x51 + (1 : Int)))))) else ((go (.l3 y1 a4 a5 x6 a7 x8 a42 x43 x44 a49 x50 (IntKind.wrap .i64 (x51 + (1 : Int))))))) else ((go (.l2 y1 a4 a5 x6 a7 x8 a42 x43 (IntKind.wrap .i64 (x44 + (1 : Int))))))
  | .j1 y1 a4 a5 x6 a7 x8 b74 => if b74 = true then (some (a5, x6)) else ((go (.j0 y1 a4 a7 x8)))
  | .j0 y1 a4 a7 x8 => (go (.l0 y1 a4 a7 x8))
theorem effect_Least.l0_k.mono : MonoF (β := fun _ => ((List Int) × Int)) effect_Least.l0_k.body := fun f g hfg p => match p with
  | .l0 y1 a4 a5 x6 => LeO.bind (LeO.refl _) fun l34 => (hfg _)
  | .l1 y1 a4 a5 x6 a7 x8 x25 x26 => LeO.ite (LeO.bind (LeO.refl _) fun y49 => LeO.bind (LeO.refl _) fun y78 => LeO.bind (LeO.refl _) fun y95 => LeO.bind (LeO.refl _) fun l106 => (hfg _)) (LeO.bind (LeO.refl _) fun y113 => (hfg _))
  | .l2 y1 a4 a5 x6 a7 x8 a42 x43 x44 => LeO.ite (LeO.bind (LeO.refl _) fun y135 => LeO.bind (LeO.refl _) fun y167 => (hfg _)) (LeO.ite (LeO.bind (LeO.refl _) fun y192 => (hfg _)) ((hfg _)))
  | .l3 y1 a4 a5 x6 a7 x8 a42 x43 x44 a49 x50 x51 => LeO.ite (LeO.bind (LeO.refl _) fun y211 => LeO.ite (LeO.bind (LeO.refl _) fun y246 => (hfg _)) ((hfg _))) ((hfg _))
  | .j1 y1 a4 a5 x6 a7 x8 b74 => LeO.ite (LeO.refl _) ((hfg _))
  | .j0 y1 a4 a7 x8 => (hfg _)
noncomputable def effect_Least.l0_k.go (p : effect_Least.l0_k.Pt) : Option ((List Int) × Int) := fixF (β := fun _ => ((List Int) × Int)) effect_Least.l0_k.body p
noncomputable def effect_Least.l0 (y1 : T_api_Program) (a4 : List T_api_Func) (a5 : List Int) (x6 : Int) : Option ((List Int) × Int) := effect_Least.l0_k.go (.l0 y1 a4 a5 x6)
noncomputable def effect_Least.l1 (y1 : T_api_Program) (a4 : List T_api_Func) (a5 : List Int) (x6 : Int) (a7 : List Int) (x8 : Int) (x25 : Int) (x26 : Int) : Option ((List Int) × Int) := effect_Least.l0_k.go (.l1 y1 a4 a5 x6 a7 x8 x25 x26)
noncomputable def effect_Least.l2 (y1 : T_api_Program) (a4 : List T_api_Func) (a5 : List Int) (x6 : Int) (a7 : List Int) (x8 : Int) (a42 : List T_api_Expr) (x43 : Int) (x44 : Int) : Option ((List Int) × Int) := effect_Least.l0_k.go (.l2 y1 a4 a5 x6 a7 x8 a42 x43 x44)
noncomputable def effect_Least.l3 (y1 : T_api_Program) (a4 : List T_api_Func) (a5 : List Int) (x6 : Int) (a7 : List Int) (x8 : Int) (a42 : List T_api_Expr) (x43 : Int) (x44 : Int) (a49 : List T_api_Expr) (x50 : Int) (x51 : Int) : Option ((List Int) × Int) := effect_Least.l0_k.go (.l3 y1 a4 a5 x6 a7 x8 a42 x43 x44 a49 x50 x51)
noncomputable def effect_Least.j1 (y1 : T_api_Program) (a4 : List T_api_Func) (a5 : List Int) (x6 : Int) (a7 : List Int) (x8 : Int) (b74 : Bool) : Option ((List Int) × Int) := effect_Least.l0_k.go (.j1 y1 a4 a5 x6 a7 x8 b74)
noncomputable def effect_Least.j0 (y1 : T_api_Program) (a4 : List T_api_Func) (a7 : List Int) (x8 : Int) : Option ((List Int) × Int) := effect_Least.l0_k.go (.j0 y1 a4 a7 x8)
theorem effect_Least.l0_eq (y1 : T_api_Program) (a4 : List T_api_Func) (a5 : List Int) (x6 : Int) : effect_Least.l0 y1 a4 a5 x6 = Option.bind (mks 8 (((List.length a4) : Nat) : Int) (0 : Int)) fun l34 => (effect_Least.l1 y1 a4 a5 x6 l34 x6 (((List.length a4) : Nat) : Int) (0 : Int)) := fixF_eq effect_Least.l0_k.mono _
theorem effect_Least.l1_eq (y1 : T_api_Program) (a4 : List T_api_Func) (a5 : List Int) (x6 : Int) (a7 : List Int) (x8 : Int) (x25 : Int) (x26 : Int) : effect_Least.l1 y1 a4 a5 x6 a7 x8 x25 x26 = if x26 < x25 then (Option.bind (gi a4 x26) fun y49 => Option.bind (effect_once y1 y49.Body a5 x6) fun y78 => Option.bind (gi a7 x26) fun y95 => Option.bind (some (List.set a7 (Int.toNat x26) y78)) fun l106 => (effect_Least.l1 y1 a4 a5 x6 l106 x8 x25 (IntKind.wrap .i64 (x26 + (1 : Int))))) else (Option.bind (tree_Bodies y1) fun y113 => (effect_Least.l2 y1 a4 a5 x6 a7 x8 y113 (((List.length y113) : Nat) : Int) (0 : Int))) := fixF_eq effect_Least.l0_k.mono _
theorem effect_Least.l2_eq (y1 : T_api_Program) (a4 : List T_api_Func) (a5 : List Int) (x6 : Int) (a7 : List Int) (x8 : Int) (a42 : List T_api_Expr) (x43 : Int) (x44 : Int) : effect_Least.l2 y1 a4 a5 x6 a7 x8 a42 x43 x44 = if x44 < x43 then (Option.bind (gi a42 x44) fun y135 => Option.bind (tree_Walk y135) fun y167 => (effect_Least.l3 y1 a4 a5 x6 a7 x8 a42 x43 x44 y167 (((List.length y167) : Nat) : Int) (0 : Int))) else (if x8 = x6 then (Option.bind (slices_Equal_62 a7 a5) fun y192 => (effect_Least.j1 y1 a4 a5 x6 a7 x8 y192)) else ((effect_Least.j1 y1 a4 a5 x6 a7 x8 false))) := fixF_eq effect_Least.l0_k.mono _
theorem effect_Least.l3_eq (y1 : T_api_Program) (a4 : List T_api_Func) (a5 : List Int) (x6 : Int) (a7 : List Int) (x8 : Int) (a42 : List T_api_Expr) (x43 : Int) (x44 : Int) (a49 : List T_api_Expr) (x50 : Int) (x51 : Int) : effect_Least.l3 y1 a4 a5 x6 a7 x8 a42 x43 x44 a49 x50 x51 = if x51 < x50 then (Option.bind (gi a49 x51) fun y211 => if y211.Kind = (10 : Int) then (Option.bind (effect_once y1 y211 a5 x6) fun y246 => (effect_Least.l3 y1 a4 a5 x6 a7 (bitsI .or .i64 x8 y246) a42 x43 x44 a49 x50 (IntKind.wrap .i64 (x51 + (1 : Int))))) else ((effect_Least.l3 y1 a4 a5 x6 a7 x8 a42 x43 x44 a49 x50 (IntKind.wrap .i64 (x51 + (1 : Int)))))) else ((effect_Least.l2 y1 a4 a5 x6 a7 x8 a42 x43 (IntKind.wrap .i64 (x44 + (1 : Int))))) := fixF_eq effect_Least.l0_k.mono _
theorem effect_Least.j1_eq (y1 : T_api_Program) (a4 : List T_api_Func) (a5 : List Int) (x6 : Int) (a7 : List Int) (x8 : Int) (b74 : Bool) : effect_Least.j1 y1 a4 a5 x6 a7 x8 b74 = if b74 = true then (some (a5, x6)) else ((effect_Least.j0 y1 a4 a7 x8)) := fixF_eq effect_Least.l0_k.mono _
theorem effect_Least.j0_eq (y1 : T_api_Program) (a4 : List T_api_Func) (a7 : List Int) (x8 : Int) : effect_Least.j0 y1 a4 a7 x8 = (effect_Least.l0 y1 a4 a7 x8) := fixF_eq effect_Least.l0_k.mono _
def effect_Least.l0_k.I : (p : effect_Least.l0_k.Pt) → ((List Int) × Int) → Prop
  | .l0 y1 a4 a5 x6, r => ∀ (h0 m0 h m : Heap) (bk1 : Nat) (cs1 : List Value) (A4 : Option Addr) (n4 c4 : Nat) (A5 : Option Addr) (n5 c5 : Nat) (S : St No h0 m0 h m) (o1 : OB No h0 h m bk1 cs1 53) (e1 : T_api_Program.E m y1 cs1) (ne4 : n4 = List.length a4) (o4 : OS No h0 15 T_api_Func.E h m A4 a4 c4) (ne5 : n5 = List.length a5) (o5 : OS No h0 1 (eInt .i64) h m A5 a5 c5) (d0_1 : Dj (fb bk1) (fp A4 c4)) (d0_2 : Dj (fb bk1) (fp A5 c5)) (d1_2 : Dj (fp A4 c4) (fp A5 c5)), f28.l0 (effect_Least.post No h0 m0 r) (⟨bk1, 0, none⟩ : Addr) A4 n4 c4 A5 n5 c5 x6 h
  | .l1 y1 a4 a5 x6 a7 x8 x25 x26, r => ∀ (h0 m0 h m : Heap) (bk1 : Nat) (cs1 : List Value) (A4 : Option Addr) (n4 c4 : Nat) (A5 : Option Addr) (n5 c5 : Nat) (A7 : Option Addr) (n7 c7 : Nat) (S : St No h0 m0 h m) (o1 : OB No h0 h m bk1 cs1 53) (e1 : T_api_Program.E m y1 cs1) (ne4 : n4 = List.length a4) (o4 : OS No h0 15 T_api_Func.E h m A4 a4 c4) (ne5 : n5 = List.length a5) (o5 : OS No h0 1 (eInt .i64) h m A5 a5 c5) (ne7 : n7 = List.length a7) (o7 : OS No h0 1 (eInt .i64) h m A7 a7 c7) (d0_1 : Dj (fb bk1) (fp A4 c4)) (d0_2 : Dj (fb bk1) (fp A5 c5)) (d0_3 : Dj (fb bk1) (fp A7 c7)) (d1_2 : Dj (fp A4 c4) (fp A5 c5)) (d1_3 : Dj (fp A4 c4) (fp A7 c7)) (d2_3 : Dj (fp A5 c5) (fp A7 c7)), f28.l1 (effect_Least.post No h0 m0 r) (⟨bk1, 0, none⟩ : Addr) A4 n4 c4 A5 n5 c5 x6 A7 n7 c7 x8 A4 n4 c4 x25 x26 h
  | .l2 y1 a4 a5 x6 a7 x8 a42 x43 x44, r => ∀ (h0 m0 h m : Heap) (bk1 : Nat) (cs1 : List Value) (A4 : Option Addr) (n4 c4 : Nat) (A5 : Option Addr) (n5 c5 : Nat) (A7 : Option Addr) (n7 c7 : Nat) (A42 : Option Addr) (n42 c42 : Nat) (S : St No h0 m0 h m) (o1 : OB No h0 h m bk1 cs1 53) (e1 : T_api_Program.E m y1 cs1) (ne4 : n4 = List.length a4) (o4 : OS No h0 15 T_api_Func.E h m A4 a4 c4) (ne5 : n5 = List.length a5) (o5 : OS No h0 1 (eInt .i64) h m A5 a5 c5) (ne7 : n7 = List.length a7) (o7 : OS No h0 1 (eInt .i64) h m A7 a7 c7) (ne42 : n42 = List.length a42) (o42 : OS No h0 8 T_api_Expr.E h m A42 a42 c42) (d0_1 : Dj (fb bk1) (fp A4 c4)) (d0_2 : Dj (fb bk1) (fp A5 c5)) (d0_3 : Dj (fb bk1) (fp A7 c7)) (d0_4 : Dj (fb bk1) (fp A42 c42)) (d1_2 : Dj (fp A4 c4) (fp A5 c5)) (d1_3 : Dj (fp A4 c4) (fp A7 c7)) (d1_4 : Dj (fp A4 c4) (fp A42 c42)) (d2_3 : Dj (fp A5 c5) (fp A7 c7)) (d2_4 : Dj (fp A5 c5) (fp A42 c42)) (d3_4 : Dj (fp A7 c7) (fp A42 c42)), f28.l2 (effect_Least.post No h0 m0 r) (⟨bk1, 0, none⟩ : Addr) A4 n4 c4 A5 n5 c5 x6 A7 n7 c7 x8 A42 n42 c42 x43 x44 h
  | .l3 y1 a4 a5 x6 a7 x8 a42 x43 x44 a49 x50 x51, r => ∀ (h0 m0 h m : Heap) (bk1 : Nat) (cs1 : List Value) (A4 : Option Addr) (n4 c4 : Nat) (A5 : Option Addr) (n5 c5 : Nat) (A7 : Option Addr) (n7 c7 : Nat) (A42 : Option Addr) (n42 c42 : Nat) (A49 : Option Addr) (n49 c49 : Nat) (S : St No h0 m0 h m) (o1 : OB No h0 h m bk1 cs1 53) (e1 : T_api_Program.E m y1 cs1) (ne4 : n4 = List.length a4) (o4 : OS No h0 15 T_api_Func.E h m A4 a4 c4) (ne5 : n5 = List.length a5) (o5 : OS No h0 1 (eInt .i64) h m A5 a5 c5) (ne7 : n7 = List.length a7) (o7 : OS No h0 1 (eInt .i64) h m A7 a7 c7) (ne42 : n42 = List.length a42) (o42 : OS No h0 8 T_api_Expr.E h m A42 a42 c42) (ne49 : n49 = List.length a49) (o49 : OS No h0 8 T_api_Expr.E h m A49 a49 c49) (d0_1 : Dj (fb bk1) (fp A4 c4)) (d0_2 : Dj (fb bk1) (fp A5 c5)) (d0_3 : Dj (fb bk1) (fp A7 c7)) (d0_4 : Dj (fb bk1) (fp A42 c42)) (d0_5 : Dj (fb bk1) (fp A49 c49)) (d1_2 : Dj (fp A4 c4) (fp A5 c5)) (d1_3 : Dj (fp A4 c4) (fp A7 c7)) (d1_4 : Dj (fp A4 c4) (fp A42 c42)) (d1_5 : Dj (fp A4 c4) (fp A49 c49)) (d2_3 : Dj (fp A5 c5) (fp A7 c7)) (d2_4 : Dj (fp A5 c5) (fp A42 c42)) (d2_5 : Dj (fp A5 c5) (fp A49 c49)) (d3_4 : Dj (fp A7 c7) (fp A42 c42)) (d3_5 : Dj (fp A7 c7) (fp A49 c49)) (d4_5 : Dj (fp A42 c42) (fp A49 c49)), f28.l3 (effect_Least.post No h0 m0 r) (⟨bk1, 0, none⟩ : Addr) A4 n4 c4 A5 n5 c5 x6 A7 n7 c7 x8 A42 n42 c42 x43 x44 A49 n49 c49 x50 x51 h
  | .j1 y1 a4 a5 x6 a7 x8 b74, r => ∀ (h0 m0 h m : Heap) (bk1 : Nat) (cs1 : List Value) (A4 : Option Addr) (n4 c4 : Nat) (A5 : Option Addr) (n5 c5 : Nat) (A7 : Option Addr) (n7 c7 : Nat) (S : St No h0 m0 h m) (o1 : OB No h0 h m bk1 cs1 53) (e1 : T_api_Program.E m y1 cs1) (ne4 : n4 = List.length a4) (o4 : OS No h0 15 T_api_Func.E h m A4 a4 c4) (ne5 : n5 = List.length a5) (o5 : OS No h0 1 (eInt .i64) h m A5 a5 c5) (ne7 : n7 = List.length a7) (o7 : OS No h0 1 (eInt .i64) h m A7 a7 c7) (d0_1 : Dj (fb bk1) (fp A4 c4)) (d0_2 : Dj (fb bk1) (fp A5 c5)) (d0_3 : Dj (fb bk1) (fp A7 c7)) (d1_2 : Dj (fp A4 c4) (fp A5 c5)) (d1_3 : Dj (fp A4 c4) (fp A7 c7)) (d2_3 : Dj (fp A5 c5) (fp A7 c7)), f28.j1 (effect_Least.post No h0 m0 r) (⟨bk1, 0, none⟩ : Addr) A4 n4 c4 A5 n5 c5 x6 A7 n7 c7 x8 b74 h
  | .j0 y1 a4 a7 x8, r => ∀ (h0 m0 h m : Heap) (bk1 : Nat) (cs1 : List Value) (A4 : Option Addr) (n4 c4 : Nat) (A7 : Option Addr) (n7 c7 : Nat) (S : St No h0 m0 h m) (o1 : OB No h0 h m bk1 cs1 53) (e1 : T_api_Program.E m y1 cs1) (ne4 : n4 = List.length a4) (o4 : OS No h0 15 T_api_Func.E h m A4 a4 c4) (ne7 : n7 = List.length a7) (o7 : OS No h0 1 (eInt .i64) h m A7 a7 c7) (d0_1 : Dj (fb bk1) (fp A4 c4)) (d0_2 : Dj (fb bk1) (fp A7 c7)) (d1_2 : Dj (fp A4 c4) (fp A7 c7)), f28.j0 (effect_Least.post No h0 m0 r) (⟨bk1, 0, none⟩ : Addr) A4 n4 c4 A7 n7 c7 x8 h
set_option maxRecDepth 100000 in
theorem effect_Least.l0_k.step_l0 (go : (p : effect_Least.l0_k.Pt) → Option ((List Int) × Int)) (ih : ∀ p r, go p = some r → effect_Least.l0_k.I p r) (y1 : T_api_Program) (a4 : List T_api_Func) (a5 : List Int) (x6 : Int) (r : (List Int) × Int) (e : effect_Least.l0_k.body go (.l0 y1 a4 a5 x6) = some r) : effect_Least.l0_k.I (.l0 y1 a4 a5 x6) r := by
  unfold effect_Least.l0_k.body at e
  intro h0 m0 h m bk1 cs1 A4 n4 c4 A5 n5 c5 S o1 e1 ne4 o4 ne5 o5 d0_1 d0_2 d1_2
  obtain ⟨Ae1_2, ce1_2, Ae1_3, ce1_3, Ae1_4, ce1_4, Ae1_5, ce1_5, Ae1_6, ce1_6, Ae1_7, ce1_7, rfl, ke1_2, re1_2, ke1_3, re1_3, ke1_4, re1_4, ke1_5, re1_5, ke1_6, re1_6, ke1_7, re1_7⟩ := e1
  subst ne4
  subst ne5
  refine f28.l0_in ?_
  unfold f28.l0T
  obtain ⟨l34, g35, e⟩ := bind_e e
  have q36 := mks_e g35
  refine ⟨q36.1, Int.le_refl _, q36.2.1, q36.2.2.1, ?_⟩
  refine new_in S fun h37 o38 x39 => ?_
  have d42 : Dj (fb bk1) (fb (Array.size h)) := Dj.new o1.lt
  have d43 : Dj (fp A4 c4) (fb (Array.size h)) := Dj.new o4.lt
  have d44 : Dj (fp A5 c5) (fb (Array.size h)) := Dj.new o5.lt
  have o45 := o1.ext x39
  have o46 := o4.ext T_api_Func.T S.s x39
  have o47 := o5.ext (tell_int .i64) S.s x39
  have S40 := S.ext' x39
  have o48 := OB.made (tell_int .i64) o38 g35 rfl
  rw [q36.2.2.2.1] at o48
  try rw [q36.2.2.2.1]
  exact (ih _ _ e) _ _ _ _ _ _ _ _ _ _ _ _ _ _ _ S40 o45 (show T_api_Program.E _ y1 [(Value.string y1.Name), (Value.int .i64 y1.Version), (Value.slice Ae1_2 (List.length y1.Uses) ce1_2), (Value.slice Ae1_3 (List.length y1.Datas) ce1_3), (Value.slice Ae1_4 (List.length y1.Traits) ce1_4), (Value.slice Ae1_5 (List.length y1.Impls) ce1_5), (Value.slice Ae1_6 (List.length y1.Funcs) ce1_6), (Value.slice Ae1_7 (List.length y1.Actors) ce1_7)] from ⟨_, _, _, _, _, _, _, _, _, _, _, _, rfl, ke1_2, re1_2, ke1_3, re1_3, ke1_4, re1_4, ke1_5, re1_5, ke1_6, re1_6, ke1_7, re1_7⟩) rfl o46 rfl o47 rfl o48 d0_1 d0_2 (d42.row) d1_2 (d43.row) (d44.row)
set_option maxRecDepth 100000 in
theorem effect_Least.l0_k.step_l1 (go : (p : effect_Least.l0_k.Pt) → Option ((List Int) × Int)) (ih : ∀ p r, go p = some r → effect_Least.l0_k.I p r) (y1 : T_api_Program) (a4 : List T_api_Func) (a5 : List Int) (x6 : Int) (a7 : List Int) (x8 : Int) (x25 : Int) (x26 : Int) (r : (List Int) × Int) (e : effect_Least.l0_k.body go (.l1 y1 a4 a5 x6 a7 x8 x25 x26) = some r) : effect_Least.l0_k.I (.l1 y1 a4 a5 x6 a7 x8 x25 x26) r := by
  unfold effect_Least.l0_k.body at e
  intro h0 m0 h m bk1 cs1 A4 n4 c4 A5 n5 c5 A7 n7 c7 S o1 e1 ne4 o4 ne5 o5 ne7 o7 d0_1 d0_2 d0_3 d1_2 d1_3 d2_3
  obtain ⟨Ae1_2, ce1_2, Ae1_3, ce1_3, Ae1_4, ce1_4, Ae1_5, ce1_5, Ae1_6, ce1_6, Ae1_7, ce1_7, rfl, ke1_2, re1_2, ke1_3, re1_3, ke1_4, re1_4, ke1_5, re1_5, ke1_6, re1_6, ke1_7, re1_7⟩ := e1
  subst ne4
  subst ne5
  subst ne7
  refine f28.l1_in ?_
  unfold f28.l1T
  refine split_dec_e e (fun c134 e => ?_) (fun c134 e => ?_)
  · obtain ⟨y49, g50, e⟩ := bind_e e
    refine o4.addr rfl g50 fun a51 cs52 ha53 hc54 he55 => ?_
    obtain ⟨Aa51_1, ca51_1, Aa51_2, ca51_2, Aa51_3, ca51_3, Aa51_6, ca51_6, Aa51_10, ca51_10, Aa51_11, ca51_11, Aa51_12, ca51_12, Aa51_13, ca51_13, rfl, ka51_1, ra51_1, ka51_2, ra51_2, ka51_3, ra51_3, ka51_6, ra51_6, ka51_10, ra51_10, ka51_11, ra51_11, ka51_12, ra51_12, ka51_13, ra51_13⟩ := he55
    refine ⟨_, ldA (Sub.refl _) hc54, ?_⟩
    refine new_in S fun h56 o57 x58 => ?_
    have d61 : Dj (fb bk1) (fb (Array.size h)) := Dj.new o1.lt
    have d62 : Dj (fp A4 c4) (fb (Array.size h)) := Dj.new o4.lt
    have d63 : Dj (fp A5 c5) (fb (Array.size h)) := Dj.new o5.lt
    have d64 : Dj (fp A7 c7) (fb (Array.size h)) := Dj.new o7.lt
    have o65 := o1.ext x58
    have o66 := o4.ext T_api_Func.T S.s x58
    have o67 := o5.ext (tell_int .i64) S.s x58
    have o68 := o7.ext (tell_int .i64) S.s x58
    have S59 := S.ext' x58
    have o57 : OB _ _ h56 _ (Array.size h) [(Value.string (ByteArray.mk #[])), (Value.slice none 0 0), (Value.slice none 0 0), (Value.slice none 0 0), (Value.int .i64 (0 : Int)), (Value.string (ByteArray.mk #[])), (Value.slice none 0 0), (Value.int .i64 (0 : Int)), (Value.int .i64 (0 : Int)), (Value.string (ByteArray.mk #[])), (Value.slice none 0 0), (Value.slice none 0 0), (Value.slice none 0 0), (Value.slice none 0 0), (Value.int .i64 (0 : Int))] 73 := o57
    obtain ⟨h69, w70, o71, t72⟩ := o57.stA S59.s [(Value.string y49.Name), (Value.slice Aa51_1 (List.length y49.Params) ca51_1), (Value.slice Aa51_2 (List.length y49.Names) ca51_2), (Value.slice Aa51_3 (List.length y49.Types) ca51_3), (Value.int .i64 y49.Out.Kind), (Value.string y49.Out.Name), (Value.slice Aa51_6 (List.length y49.Out.Args) ca51_6), (Value.int .i64 y49.Body.Kind), (Value.int .i64 y49.Body.Num), (Value.string y49.Body.Text), (Value.slice Aa51_10 (List.length y49.Body.Names) ca51_10), (Value.slice Aa51_11 (List.length y49.Body.Types) ca51_11), (Value.slice Aa51_12 (List.length y49.Body.Args) ca51_12), (Value.slice Aa51_13 (List.length y49.Body.Arms) ca51_13), (Value.int .i64 y49.Body.At)] rfl (Flats.cons trivial (Flats.cons trivial (Flats.cons trivial (Flats.cons trivial (Flats.cons trivial (Flats.cons trivial (Flats.cons trivial (Flats.cons trivial (Flats.cons trivial (Flats.cons trivial (Flats.cons trivial (Flats.cons trivial (Flats.cons trivial (Flats.cons trivial (Flats.cons trivial Flats.nil)))))))))))))))
    refine ⟨[(Value.string y49.Name), (Value.slice Aa51_1 (List.length y49.Params) ca51_1), (Value.slice Aa51_2 (List.length y49.Names) ca51_2), (Value.slice Aa51_3 (List.length y49.Types) ca51_3), (Value.int .i64 y49.Out.Kind), (Value.string y49.Out.Name), (Value.slice Aa51_6 (List.length y49.Out.Args) ca51_6), (Value.int .i64 y49.Body.Kind), (Value.int .i64 y49.Body.Num), (Value.string y49.Body.Text), (Value.slice Aa51_10 (List.length y49.Body.Names) ca51_10), (Value.slice Aa51_11 (List.length y49.Body.Types) ca51_11), (Value.slice Aa51_12 (List.length y49.Body.Args) ca51_12), (Value.slice Aa51_13 (List.length y49.Body.Arms) ca51_13), (Value.int .i64 y49.Body.At)], rfl, rfl, h69, w70, ?_⟩
    have o71 : OB _ _ h69 _ (Array.size h) [(Value.string y49.Name), (Value.slice Aa51_1 (List.length y49.Params) ca51_1), (Value.slice Aa51_2 (List.length y49.Names) ca51_2), (Value.slice Aa51_3 (List.length y49.Types) ca51_3), (Value.int .i64 y49.Out.Kind), (Value.string y49.Out.Name), (Value.slice Aa51_6 (List.length y49.Out.Args) ca51_6), (Value.int .i64 y49.Body.Kind), (Value.int .i64 y49.Body.Num), (Value.string y49.Body.Text), (Value.slice Aa51_10 (List.length y49.Body.Names) ca51_10), (Value.slice Aa51_11 (List.length y49.Body.Types) ca51_11), (Value.slice Aa51_12 (List.length y49.Body.Args) ca51_12), (Value.slice Aa51_13 (List.length y49.Body.Arms) ca51_13), (Value.int .i64 y49.Body.At)] 73 := o71
    have S73 := S59.then t72 (fun i _ hi => o57.wr i hi)
    have o74 := o65.step t72 (d61).symm
    have o75 := o66.step T_api_Func.T t72 (d62).symm
    have o76 := o67.step (tell_int .i64) t72 (d63).symm
    have o77 := o68.step (tell_int .i64) t72 (d64).symm
    refine ⟨_, ldA (Sub.refl _) o74.all, ?_⟩
    refine ⟨(Value.agg #[(Value.int .i64 y49.Body.Kind), (Value.int .i64 y49.Body.Num), (Value.string y49.Body.Text), (Value.slice Aa51_10 (List.length y49.Body.Names) ca51_10), (Value.slice Aa51_11 (List.length y49.Body.Types) ca51_11), (Value.slice Aa51_12 (List.length y49.Body.Args) ca51_12), (Value.slice Aa51_13 (List.length y49.Body.Arms) ca51_13), (Value.int .i64 y49.Body.At)]), ldAk (k := 7) (j := 8) (Sub.refl _) o71.all (Nat.le_of_ble_eq_true rfl), ?_⟩
    obtain ⟨y78, g79, e⟩ := bind_e e
    obtain ⟨m83, L84, u85, s86, t87⟩ := St.lend S73.s (fp A5 c5)
    refine (effect_once.walk s86 (show T_api_Program.E _ y1 [(Value.string y1.Name), (Value.int .i64 y1.Version), (Value.slice Ae1_2 (List.length y1.Uses) ce1_2), (Value.slice Ae1_3 (List.length y1.Datas) ce1_3), (Value.slice Ae1_4 (List.length y1.Traits) ce1_4), (Value.slice Ae1_5 (List.length y1.Impls) ce1_5), (Value.slice Ae1_6 (List.length y1.Funcs) ce1_6), (Value.slice Ae1_7 (List.length y1.Actors) ce1_7)] from ⟨_, _, _, _, _, _, _, _, _, _, _, _, rfl, ke1_2, (re1_2.sub T_api_Use.T u85), ke1_3, (re1_3.sub T_api_Data.T u85), ke1_4, (re1_4.sub T_api_Trait.T u85), ke1_5, (re1_5.sub T_api_Impl.T u85), ke1_6, (re1_6.sub T_api_Func.T u85), ke1_7, (re1_7.sub T_api_Actor.T u85)⟩) (T_api_Expr.iff.2 ⟨_, _, _, _, _, _, _, _, rfl, ka51_10, (ra51_10.sub tell_str u85), ka51_11, (ra51_11.sub T_api_Type.T u85), ka51_12, (ra51_12.sub T_api_Expr.T u85), ka51_13, (ra51_13.sub T_api_Arm.T u85)⟩) rfl o76.cap (o76.lent (tell_int .i64) S73.s L84 (fun _ h => h)) g79).mono ?_
    rintro _ h80 ⟨m81, T82, rfl⟩
    have T88 := T82.unlend S73.s (fun _ h => h.elim)
    have S89 := S73.grow T88
    have o90 := o74.step T88 Dj.no
    have o91 := o75.step T_api_Func.T T88 Dj.no
    have o92 := o76.step (tell_int .i64) T88 Dj.no
    have o93 := o77.step (tell_int .i64) T88 Dj.no
    have o94 := o71.step T88 Dj.no
    refine ⟨_, rfl, ?_⟩
    obtain ⟨y95, g96, e⟩ := bind_e e
    refine o93.addr rfl g96 fun a97 cs98 ha99 hc100 he101 => ?_
    obtain rfl : cs98 = [(Value.int .i64 y95)] := he101
    obtain ⟨l106, g107, e⟩ := bind_e e
    obtain ⟨h102, w103, o104, t105⟩ := o93.st10 (y' := y78) (v := (Value.int .i64 y78)) (tell_int .i64) S89.s g96 ha99 hc100 (by decide) rfl trivial
    have g107 := Option.some.inj g107
    rw [g107] at o104
    refine ⟨h102, w103, ?_⟩
    have S108 := S89.then t105 (fun i _ hi => o93.wr i hi)
    have o109 := o90.step t105 (d0_3).symm
    have o110 := o91.step T_api_Func.T t105 (d1_3).symm
    have o111 := o92.step (tell_int .i64) t105 (d2_3).symm
    have o112 := o94.step t105 d64
    exact (ih _ _ e) _ _ _ _ _ _ _ _ _ _ _ _ _ _ _ S108 o109 (show T_api_Program.E _ y1 [(Value.string y1.Name), (Value.int .i64 y1.Version), (Value.slice Ae1_2 (List.length y1.Uses) ce1_2), (Value.slice Ae1_3 (List.length y1.Datas) ce1_3), (Value.slice Ae1_4 (List.length y1.Traits) ce1_4), (Value.slice Ae1_5 (List.length y1.Impls) ce1_5), (Value.slice Ae1_6 (List.length y1.Funcs) ce1_6), (Value.slice Ae1_7 (List.length y1.Actors) ce1_7)] from ⟨_, _, _, _, _, _, _, _, _, _, _, _, rfl, ke1_2, re1_2, ke1_3, re1_3, ke1_4, re1_4, ke1_5, re1_5, ke1_6, re1_6, ke1_7, re1_7⟩) rfl o110 rfl o111 (by rw [← g107, List.length_set]) o104 d0_1 d0_2 d0_3 d1_2 d1_3 d2_3
  · refine ⟨_, ldA (Sub.refl _) o1.all, ?_⟩
    obtain ⟨y113, g114, e⟩ := bind_e e
    refine (tree_Bodies.walk S.s (show T_api_Program.E _ y1 [(Value.string y1.Name), (Value.int .i64 y1.Version), (Value.slice Ae1_2 (List.length y1.Uses) ce1_2), (Value.slice Ae1_3 (List.length y1.Datas) ce1_3), (Value.slice Ae1_4 (List.length y1.Traits) ce1_4), (Value.slice Ae1_5 (List.length y1.Impls) ce1_5), (Value.slice Ae1_6 (List.length y1.Funcs) ce1_6), (Value.slice Ae1_7 (List.length y1.Actors) ce1_7)] from ⟨_, _, _, _, _, _, _, _, _, _, _, _, rfl, ke1_2, re1_2, ke1_3, re1_3, ke1_4, re1_4, ke1_5, re1_5, ke1_6, re1_6, ke1_7, re1_7⟩) g114).mono ?_
    rintro _ h115 ⟨m116, A118, n119, c120, T117, rfl, ne121, o122⟩
    subst ne121
    have S124 := S.grow T117
    have o125 := o1.step T117 Dj.no
    have o126 := o4.step T_api_Func.T T117 Dj.no
    have o127 := o5.step (tell_int .i64) T117 Dj.no
    have o128 := o7.step (tell_int .i64) T117 Dj.no
    have d130 : Dj (fb bk1) (fp A118 c120) := fun i h1 h2 => absurd (o1.lt i h1) (Nat.not_lt.2 ((o122.new i h2).elim (fun h => h.elim) id))
    have d131 : Dj (fp A4 c4) (fp A118 c120) := fun i h1 h2 => absurd (o4.lt i h1) (Nat.not_lt.2 ((o122.new i h2).elim (fun h => h.elim) id))
    have d132 : Dj (fp A5 c5) (fp A118 c120) := fun i h1 h2 => absurd (o5.lt i h1) (Nat.not_lt.2 ((o122.new i h2).elim (fun h => h.elim) id))
    have d133 : Dj (fp A7 c7) (fp A118 c120) := fun i h1 h2 => absurd (o7.lt i h1) (Nat.not_lt.2 ((o122.new i h2).elim (fun h => h.elim) id))
    have o129 := o122.take S (fun _ h => h.elim)
    refine ⟨_, _, _, rfl, ?_⟩
    exact (ih _ _ e) _ _ _ _ _ _ _ _ _ _ _ _ _ _ _ _ _ _ S124 o125 (show T_api_Program.E _ y1 [(Value.string y1.Name), (Value.int .i64 y1.Version), (Value.slice Ae1_2 (List.length y1.Uses) ce1_2), (Value.slice Ae1_3 (List.length y1.Datas) ce1_3), (Value.slice Ae1_4 (List.length y1.Traits) ce1_4), (Value.slice Ae1_5 (List.length y1.Impls) ce1_5), (Value.slice Ae1_6 (List.length y1.Funcs) ce1_6), (Value.slice Ae1_7 (List.length y1.Actors) ce1_7)] from ⟨_, _, _, _, _, _, _, _, _, _, _, _, rfl, ke1_2, (re1_2.sub T_api_Use.T T117.up), ke1_3, (re1_3.sub T_api_Data.T T117.up), ke1_4, (re1_4.sub T_api_Trait.T T117.up), ke1_5, (re1_5.sub T_api_Impl.T T117.up), ke1_6, (re1_6.sub T_api_Func.T T117.up), ke1_7, (re1_7.sub T_api_Actor.T T117.up)⟩) rfl o126 rfl o127 rfl o128 rfl o129 d0_1 d0_2 d0_3 d130 d1_2 d1_3 d131 d2_3 d132 d133
set_option maxRecDepth 100000 in
theorem effect_Least.l0_k.step_l2 (go : (p : effect_Least.l0_k.Pt) → Option ((List Int) × Int)) (ih : ∀ p r, go p = some r → effect_Least.l0_k.I p r) (y1 : T_api_Program) (a4 : List T_api_Func) (a5 : List Int) (x6 : Int) (a7 : List Int) (x8 : Int) (a42 : List T_api_Expr) (x43 : Int) (x44 : Int) (r : (List Int) × Int) (e : effect_Least.l0_k.body go (.l2 y1 a4 a5 x6 a7 x8 a42 x43 x44) = some r) : effect_Least.l0_k.I (.l2 y1 a4 a5 x6 a7 x8 a42 x43 x44) r := by
  unfold effect_Least.l0_k.body at e
  intro h0 m0 h m bk1 cs1 A4 n4 c4 A5 n5 c5 A7 n7 c7 A42 n42 c42 S o1 e1 ne4 o4 ne5 o5 ne7 o7 ne42 o42 d0_1 d0_2 d0_3 d0_4 d1_2 d1_3 d1_4 d2_3 d2_4 d3_4
  obtain ⟨Ae1_2, ce1_2, Ae1_3, ce1_3, Ae1_4, ce1_4, Ae1_5, ce1_5, Ae1_6, ce1_6, Ae1_7, ce1_7, rfl, ke1_2, re1_2, ke1_3, re1_3, ke1_4, re1_4, ke1_5, re1_5, ke1_6, re1_6, ke1_7, re1_7⟩ := e1
  subst ne4
  subst ne5
  subst ne7
  subst ne42
  refine f28.l2_in ?_
  unfold f28.l2T
  refine split_dec_e e (fun c210 e => ?_) (fun c210 e => ?_)
  · obtain ⟨y135, g136, e⟩ := bind_e e
    refine o42.addr rfl g136 fun a137 cs138 ha139 hc140 he141 => ?_
    obtain ⟨Aa137_3, ca137_3, Aa137_4, ca137_4, Aa137_5, ca137_5, Aa137_6, ca137_6, rfl, ka137_3, ra137_3, ka137_4, ra137_4, ka137_5, ra137_5, ka137_6, ra137_6⟩ := T_api_Expr.iff.1 he141
    refine ⟨_, ldA (Sub.refl _) hc140, ?_⟩
    refine new_in S fun h142 o143 x144 => ?_
    have d147 : Dj (fb bk1) (fb (Array.size h)) := Dj.new o1.lt
    have d148 : Dj (fp A4 c4) (fb (Array.size h)) := Dj.new o4.lt
    have d149 : Dj (fp A5 c5) (fb (Array.size h)) := Dj.new o5.lt
    have d150 : Dj (fp A7 c7) (fb (Array.size h)) := Dj.new o7.lt
    have d151 : Dj (fp A42 c42) (fb (Array.size h)) := Dj.new o42.lt
    have o152 := o1.ext x144
    have o153 := o4.ext T_api_Func.T S.s x144
    have o154 := o5.ext (tell_int .i64) S.s x144
    have o155 := o7.ext (tell_int .i64) S.s x144
    have o156 := o42.ext T_api_Expr.T S.s x144
    have S145 := S.ext' x144
    have o143 : OB _ _ h142 _ (Array.size h) [(Value.int .i64 (0 : Int)), (Value.int .i64 (0 : Int)), (Value.string (ByteArray.mk #[])), (Value.slice none 0 0), (Value.slice none 0 0), (Value.slice none 0 0), (Value.slice none 0 0), (Value.int .i64 (0 : Int))] 71 := o143
    obtain ⟨h157, w158, o159, t160⟩ := o143.stA S145.s [(Value.int .i64 y135.Kind), (Value.int .i64 y135.Num), (Value.string y135.Text), (Value.slice Aa137_3 (List.length y135.Names) ca137_3), (Value.slice Aa137_4 (List.length y135.Types) ca137_4), (Value.slice Aa137_5 (List.length y135.Args) ca137_5), (Value.slice Aa137_6 (List.length y135.Arms) ca137_6), (Value.int .i64 y135.At)] rfl (Flats.cons trivial (Flats.cons trivial (Flats.cons trivial (Flats.cons trivial (Flats.cons trivial (Flats.cons trivial (Flats.cons trivial (Flats.cons trivial Flats.nil))))))))
    refine ⟨[(Value.int .i64 y135.Kind), (Value.int .i64 y135.Num), (Value.string y135.Text), (Value.slice Aa137_3 (List.length y135.Names) ca137_3), (Value.slice Aa137_4 (List.length y135.Types) ca137_4), (Value.slice Aa137_5 (List.length y135.Args) ca137_5), (Value.slice Aa137_6 (List.length y135.Arms) ca137_6), (Value.int .i64 y135.At)], rfl, rfl, h157, w158, ?_⟩
    have o159 : OB _ _ h157 _ (Array.size h) [(Value.int .i64 y135.Kind), (Value.int .i64 y135.Num), (Value.string y135.Text), (Value.slice Aa137_3 (List.length y135.Names) ca137_3), (Value.slice Aa137_4 (List.length y135.Types) ca137_4), (Value.slice Aa137_5 (List.length y135.Args) ca137_5), (Value.slice Aa137_6 (List.length y135.Arms) ca137_6), (Value.int .i64 y135.At)] 71 := o159
    have S161 := S145.then t160 (fun i _ hi => o143.wr i hi)
    have o162 := o152.step t160 (d147).symm
    have o163 := o153.step T_api_Func.T t160 (d148).symm
    have o164 := o154.step (tell_int .i64) t160 (d149).symm
    have o165 := o155.step (tell_int .i64) t160 (d150).symm
    have o166 := o156.step T_api_Expr.T t160 (d151).symm
    refine ⟨_, ldA (Sub.refl _) o159.all, ?_⟩
    obtain ⟨y167, g168, e⟩ := bind_e e
    refine (tree_Walk.walk S161.s (T_api_Expr.iff.2 ⟨_, _, _, _, _, _, _, _, rfl, ka137_3, ra137_3, ka137_4, ra137_4, ka137_5, ra137_5, ka137_6, ra137_6⟩) g168).mono ?_
    rintro _ h169 ⟨m170, A172, n173, c174, T171, rfl, ne175, o176⟩
    subst ne175
    have S178 := S161.grow T171
    have o179 := o162.step T171 Dj.no
    have o180 := o163.step T_api_Func.T T171 Dj.no
    have o181 := o164.step (tell_int .i64) T171 Dj.no
    have o182 := o165.step (tell_int .i64) T171 Dj.no
    have o183 := o166.step T_api_Expr.T T171 Dj.no
    have o184 := o159.step T171 Dj.no
    have d186 : Dj (fb bk1) (fp A172 c174) := fun i h1 h2 => absurd (o162.lt i h1) (Nat.not_lt.2 ((o176.new i h2).elim (fun h => h.elim) id))
    have d187 : Dj (fp A4 c4) (fp A172 c174) := fun i h1 h2 => absurd (o163.lt i h1) (Nat.not_lt.2 ((o176.new i h2).elim (fun h => h.elim) id))
    have d188 : Dj (fp A5 c5) (fp A172 c174) := fun i h1 h2 => absurd (o164.lt i h1) (Nat.not_lt.2 ((o176.new i h2).elim (fun h => h.elim) id))
    have d189 : Dj (fp A7 c7) (fp A172 c174) := fun i h1 h2 => absurd (o165.lt i h1) (Nat.not_lt.2 ((o176.new i h2).elim (fun h => h.elim) id))
    have d190 : Dj (fp A42 c42) (fp A172 c174) := fun i h1 h2 => absurd (o166.lt i h1) (Nat.not_lt.2 ((o176.new i h2).elim (fun h => h.elim) id))
    have d191 : Dj (fb (Array.size h)) (fp A172 c174) := fun i h1 h2 => absurd (o159.lt i h1) (Nat.not_lt.2 ((o176.new i h2).elim (fun h => h.elim) id))
    have o185 := o176.take S161 (fun _ h => h.elim)
    refine ⟨_, _, _, rfl, ?_⟩
    exact (ih _ _ e) _ _ _ _ _ _ _ _ _ _ _ _ _ _ _ _ _ _ _ _ _ S178 o179 (show T_api_Program.E _ y1 [(Value.string y1.Name), (Value.int .i64 y1.Version), (Value.slice Ae1_2 (List.length y1.Uses) ce1_2), (Value.slice Ae1_3 (List.length y1.Datas) ce1_3), (Value.slice Ae1_4 (List.length y1.Traits) ce1_4), (Value.slice Ae1_5 (List.length y1.Impls) ce1_5), (Value.slice Ae1_6 (List.length y1.Funcs) ce1_6), (Value.slice Ae1_7 (List.length y1.Actors) ce1_7)] from ⟨_, _, _, _, _, _, _, _, _, _, _, _, rfl, ke1_2, (re1_2.sub T_api_Use.T T171.up), ke1_3, (re1_3.sub T_api_Data.T T171.up), ke1_4, (re1_4.sub T_api_Trait.T T171.up), ke1_5, (re1_5.sub T_api_Impl.T T171.up), ke1_6, (re1_6.sub T_api_Func.T T171.up), ke1_7, (re1_7.sub T_api_Actor.T T171.up)⟩) rfl o180 rfl o181 rfl o182 rfl o183 rfl o185 d0_1 d0_2 d0_3 d0_4 d186 d1_2 d1_3 d1_4 d187 d2_3 d2_4 d188 d3_4 d189 d190
  · refine split_eq_e e (fun c209 e => ?_) (fun c209 e => ?_)
    · obtain ⟨y192, g193, e⟩ := bind_e e
      obtain ⟨m197, L198, u199, s200, t201⟩ := St.lend S.s (fun i => (fp A7 c7) i ∨ (fp A5 c5) i)
      refine (slices_Equal_62.walk s200 rfl o7.cap (o7.lent (tell_int .i64) S.s L198 (fun _ h => (.inl h))) rfl o5.cap (o5.lent (tell_int .i64) S.s L198 (fun _ h => (.inr h))) g193).mono ?_
      rintro _ h194 ⟨m195, T196, rfl⟩
      have T202 := T196.unlend S.s (fun _ h => h.elim)
      have S203 := S.grow T202
      have o204 := o1.step T202 Dj.no
      have o205 := o4.step T_api_Func.T T202 Dj.no
      have o206 := o5.step (tell_int .i64) T202 Dj.no
      have o207 := o7.step (tell_int .i64) T202 Dj.no
      have o208 := o42.step T_api_Expr.T T202 Dj.no
      refine ⟨_, rfl, ?_⟩
      exact (ih _ _ e) _ _ _ _ _ _ _ _ _ _ _ _ _ _ _ S203 o204 (show T_api_Program.E _ y1 [(Value.string y1.Name), (Value.int .i64 y1.Version), (Value.slice Ae1_2 (List.length y1.Uses) ce1_2), (Value.slice Ae1_3 (List.length y1.Datas) ce1_3), (Value.slice Ae1_4 (List.length y1.Traits) ce1_4), (Value.slice Ae1_5 (List.length y1.Impls) ce1_5), (Value.slice Ae1_6 (List.length y1.Funcs) ce1_6), (Value.slice Ae1_7 (List.length y1.Actors) ce1_7)] from ⟨_, _, _, _, _, _, _, _, _, _, _, _, rfl, ke1_2, re1_2, ke1_3, re1_3, ke1_4, re1_4, ke1_5, re1_5, ke1_6, re1_6, ke1_7, re1_7⟩) rfl o205 rfl o206 rfl o207 d0_1 d0_2 d0_3 d1_2 d1_3 d2_3
    · exact (ih _ _ e) _ _ _ _ _ _ _ _ _ _ _ _ _ _ _ S o1 (show T_api_Program.E _ y1 [(Value.string y1.Name), (Value.int .i64 y1.Version), (Value.slice Ae1_2 (List.length y1.Uses) ce1_2), (Value.slice Ae1_3 (List.length y1.Datas) ce1_3), (Value.slice Ae1_4 (List.length y1.Traits) ce1_4), (Value.slice Ae1_5 (List.length y1.Impls) ce1_5), (Value.slice Ae1_6 (List.length y1.Funcs) ce1_6), (Value.slice Ae1_7 (List.length y1.Actors) ce1_7)] from ⟨_, _, _, _, _, _, _, _, _, _, _, _, rfl, ke1_2, re1_2, ke1_3, re1_3, ke1_4, re1_4, ke1_5, re1_5, ke1_6, re1_6, ke1_7, re1_7⟩) rfl o4 rfl o5 rfl o7 d0_1 d0_2 d0_3 d1_2 d1_3 d2_3
set_option maxRecDepth 100000 in
theorem effect_Least.l0_k.step_l3 (go : (p : effect_Least.l0_k.Pt) → Option ((List Int) × Int)) (ih : ∀ p r, go p = some r → effect_Least.l0_k.I p r) (y1 : T_api_Program) (a4 : List T_api_Func) (a5 : List Int) (x6 : Int) (a7 : List Int) (x8 : Int) (a42 : List T_api_Expr) (x43 : Int) (x44 : Int) (a49 : List T_api_Expr) (x50 : Int) (x51 : Int) (r : (List Int) × Int) (e : effect_Least.l0_k.body go (.l3 y1 a4 a5 x6 a7 x8 a42 x43 x44 a49 x50 x51) = some r) : effect_Least.l0_k.I (.l3 y1 a4 a5 x6 a7 x8 a42 x43 x44 a49 x50 x51) r := by
  unfold effect_Least.l0_k.body at e
  intro h0 m0 h m bk1 cs1 A4 n4 c4 A5 n5 c5 A7 n7 c7 A42 n42 c42 A49 n49 c49 S o1 e1 ne4 o4 ne5 o5 ne7 o7 ne42 o42 ne49 o49 d0_1 d0_2 d0_3 d0_4 d0_5 d1_2 d1_3 d1_4 d1_5 d2_3 d2_4 d2_5 d3_4 d3_5 d4_5
  obtain ⟨Ae1_2, ce1_2, Ae1_3, ce1_3, Ae1_4, ce1_4, Ae1_5, ce1_5, Ae1_6, ce1_6, Ae1_7, ce1_7, rfl, ke1_2, re1_2, ke1_3, re1_3, ke1_4, re1_4, ke1_5, re1_5, ke1_6, re1_6, ke1_7, re1_7⟩ := e1
  subst ne4
  subst ne5
  subst ne7
  subst ne42
  subst ne49
  refine f28.l3_in ?_
  unfold f28.l3T
  refine split_dec_e e (fun c266 e => ?_) (fun c266 e => ?_)
  · obtain ⟨y211, g212, e⟩ := bind_e e
    refine o49.addr rfl g212 fun a213 cs214 ha215 hc216 he217 => ?_
    obtain ⟨Aa213_3, ca213_3, Aa213_4, ca213_4, Aa213_5, ca213_5, Aa213_6, ca213_6, rfl, ka213_3, ra213_3, ka213_4, ra213_4, ka213_5, ra213_5, ka213_6, ra213_6⟩ := T_api_Expr.iff.1 he217
    refine ⟨_, ldA (Sub.refl _) hc216, ?_⟩
    refine new_in S fun h218 o219 x220 => ?_
    have d223 : Dj (fb bk1) (fb (Array.size h)) := Dj.new o1.lt
    have d224 : Dj (fp A4 c4) (fb (Array.size h)) := Dj.new o4.lt
    have d225 : Dj (fp A5 c5) (fb (Array.size h)) := Dj.new o5.lt
    have d226 : Dj (fp A7 c7) (fb (Array.size h)) := Dj.new o7.lt
    have d227 : Dj (fp A42 c42) (fb (Array.size h)) := Dj.new o42.lt
    have d228 : Dj (fp A49 c49) (fb (Array.size h)) := Dj.new o49.lt
    have o229 := o1.ext x220
    have o230 := o4.ext T_api_Func.T S.s x220
    have o231 := o5.ext (tell_int .i64) S.s x220
    have o232 := o7.ext (tell_int .i64) S.s x220
    have o233 := o42.ext T_api_Expr.T S.s x220
    have o234 := o49.ext T_api_Expr.T S.s x220
    have S221 := S.ext' x220
    have o219 : OB _ _ h218 _ (Array.size h) [(Value.int .i64 (0 : Int)), (Value.int .i64 (0 : Int)), (Value.string (ByteArray.mk #[])), (Value.slice none 0 0), (Value.slice none 0 0), (Value.slice none 0 0), (Value.slice none 0 0), (Value.int .i64 (0 : Int))] 71 := o219
    obtain ⟨h235, w236, o237, t238⟩ := o219.stA S221.s [(Value.int .i64 y211.Kind), (Value.int .i64 y211.Num), (Value.string y211.Text), (Value.slice Aa213_3 (List.length y211.Names) ca213_3), (Value.slice Aa213_4 (List.length y211.Types) ca213_4), (Value.slice Aa213_5 (List.length y211.Args) ca213_5), (Value.slice Aa213_6 (List.length y211.Arms) ca213_6), (Value.int .i64 y211.At)] rfl (Flats.cons trivial (Flats.cons trivial (Flats.cons trivial (Flats.cons trivial (Flats.cons trivial (Flats.cons trivial (Flats.cons trivial (Flats.cons trivial Flats.nil))))))))
    refine ⟨[(Value.int .i64 y211.Kind), (Value.int .i64 y211.Num), (Value.string y211.Text), (Value.slice Aa213_3 (List.length y211.Names) ca213_3), (Value.slice Aa213_4 (List.length y211.Types) ca213_4), (Value.slice Aa213_5 (List.length y211.Args) ca213_5), (Value.slice Aa213_6 (List.length y211.Arms) ca213_6), (Value.int .i64 y211.At)], rfl, rfl, h235, w236, ?_⟩
    have o237 : OB _ _ h235 _ (Array.size h) [(Value.int .i64 y211.Kind), (Value.int .i64 y211.Num), (Value.string y211.Text), (Value.slice Aa213_3 (List.length y211.Names) ca213_3), (Value.slice Aa213_4 (List.length y211.Types) ca213_4), (Value.slice Aa213_5 (List.length y211.Args) ca213_5), (Value.slice Aa213_6 (List.length y211.Arms) ca213_6), (Value.int .i64 y211.At)] 71 := o237
    have S239 := S221.then t238 (fun i _ hi => o219.wr i hi)
    have o240 := o229.step t238 (d223).symm
    have o241 := o230.step T_api_Func.T t238 (d224).symm
    have o242 := o231.step (tell_int .i64) t238 (d225).symm
    have o243 := o232.step (tell_int .i64) t238 (d226).symm
    have o244 := o233.step T_api_Expr.T t238 (d227).symm
    have o245 := o234.step T_api_Expr.T t238 (d228).symm
    refine ⟨_, ld0 (Sub.refl _) o237.all rfl, _, rfl, ?_⟩
    refine split_eq_e e (fun c265 e => ?_) (fun c265 e => ?_)
    · refine ⟨_, ldA (Sub.refl _) o240.all, ?_⟩
      refine ⟨_, ldA (Sub.refl _) o237.all, ?_⟩
      obtain ⟨y246, g247, e⟩ := bind_e e
      obtain ⟨m251, L252, u253, s254, t255⟩ := St.lend S239.s (fp A5 c5)
      refine (effect_once.walk s254 (show T_api_Program.E _ y1 [(Value.string y1.Name), (Value.int .i64 y1.Version), (Value.slice Ae1_2 (List.length y1.Uses) ce1_2), (Value.slice Ae1_3 (List.length y1.Datas) ce1_3), (Value.slice Ae1_4 (List.length y1.Traits) ce1_4), (Value.slice Ae1_5 (List.length y1.Impls) ce1_5), (Value.slice Ae1_6 (List.length y1.Funcs) ce1_6), (Value.slice Ae1_7 (List.length y1.Actors) ce1_7)] from ⟨_, _, _, _, _, _, _, _, _, _, _, _, rfl, ke1_2, (re1_2.sub T_api_Use.T u253), ke1_3, (re1_3.sub T_api_Data.T u253), ke1_4, (re1_4.sub T_api_Trait.T u253), ke1_5, (re1_5.sub T_api_Impl.T u253), ke1_6, (re1_6.sub T_api_Func.T u253), ke1_7, (re1_7.sub T_api_Actor.T u253)⟩) (T_api_Expr.iff.2 ⟨_, _, _, _, _, _, _, _, rfl, ka213_3, (ra213_3.sub tell_str u253), ka213_4, (ra213_4.sub T_api_Type.T u253), ka213_5, (ra213_5.sub T_api_Expr.T u253), ka213_6, (ra213_6.sub T_api_Arm.T u253)⟩) rfl o242.cap (o242.lent (tell_int .i64) S239.s L252 (fun _ h => h)) g247).mono ?_
      rintro _ h248 ⟨m249, T250, rfl⟩
      have T256 := T250.unlend S239.s (fun _ h => h.elim)
      have S257 := S239.grow T256
      have o258 := o240.step T256 Dj.no
      have o259 := o241.step T_api_Func.T T256 Dj.no
      have o260 := o242.step (tell_int .i64) T256 Dj.no
      have o261 := o243.step (tell_int .i64) T256 Dj.no
      have o262 := o244.step T_api_Expr.T T256 Dj.no
      have o263 := o245.step T_api_Expr.T T256 Dj.no
      have o264 := o237.step T256 Dj.no
      refine ⟨_, rfl, ?_⟩
      exact (ih _ _ e) _ _ _ _ _ _ _ _ _ _ _ _ _ _ _ _ _ _ _ _ _ S257 o258 (show T_api_Program.E _ y1 [(Value.string y1.Name), (Value.int .i64 y1.Version), (Value.slice Ae1_2 (List.length y1.Uses) ce1_2), (Value.slice Ae1_3 (List.length y1.Datas) ce1_3), (Value.slice Ae1_4 (List.length y1.Traits) ce1_4), (Value.slice Ae1_5 (List.length y1.Impls) ce1_5), (Value.slice Ae1_6 (List.length y1.Funcs) ce1_6), (Value.slice Ae1_7 (List.length y1.Actors) ce1_7)] from ⟨_, _, _, _, _, _, _, _, _, _, _, _, rfl, ke1_2, re1_2, ke1_3, re1_3, ke1_4, re1_4, ke1_5, re1_5, ke1_6, re1_6, ke1_7, re1_7⟩) rfl o259 rfl o260 rfl o261 rfl o262 rfl o263 d0_1 d0_2 d0_3 d0_4 d0_5 d1_2 d1_3 d1_4 d1_5 d2_3 d2_4 d2_5 d3_4 d3_5 d4_5
    · exact (ih _ _ e) _ _ _ _ _ _ _ _ _ _ _ _ _ _ _ _ _ _ _ _ _ S239 o240 (show T_api_Program.E _ y1 [(Value.string y1.Name), (Value.int .i64 y1.Version), (Value.slice Ae1_2 (List.length y1.Uses) ce1_2), (Value.slice Ae1_3 (List.length y1.Datas) ce1_3), (Value.slice Ae1_4 (List.length y1.Traits) ce1_4), (Value.slice Ae1_5 (List.length y1.Impls) ce1_5), (Value.slice Ae1_6 (List.length y1.Funcs) ce1_6), (Value.slice Ae1_7 (List.length y1.Actors) ce1_7)] from ⟨_, _, _, _, _, _, _, _, _, _, _, _, rfl, ke1_2, re1_2, ke1_3, re1_3, ke1_4, re1_4, ke1_5, re1_5, ke1_6, re1_6, ke1_7, re1_7⟩) rfl o241 rfl o242 rfl o243 rfl o244 rfl o245 d0_1 d0_2 d0_3 d0_4 d0_5 d1_2 d1_3 d1_4 d1_5 d2_3 d2_4 d2_5 d3_4 d3_5 d4_5
  · exact (ih _ _ e) _ _ _ _ _ _ _ _ _ _ _ _ _ _ _ _ _ _ S o1 (show T_api_Program.E _ y1 [(Value.string y1.Name), (Value.int .i64 y1.Version), (Value.slice Ae1_2 (List.length y1.Uses) ce1_2), (Value.slice Ae1_3 (List.length y1.Datas) ce1_3), (Value.slice Ae1_4 (List.length y1.Traits) ce1_4), (Value.slice Ae1_5 (List.length y1.Impls) ce1_5), (Value.slice Ae1_6 (List.length y1.Funcs) ce1_6), (Value.slice Ae1_7 (List.length y1.Actors) ce1_7)] from ⟨_, _, _, _, _, _, _, _, _, _, _, _, rfl, ke1_2, re1_2, ke1_3, re1_3, ke1_4, re1_4, ke1_5, re1_5, ke1_6, re1_6, ke1_7, re1_7⟩) rfl o4 rfl o5 rfl o7 rfl o42 d0_1 d0_2 d0_3 d0_4 d1_2 d1_3 d1_4 d2_3 d2_4 d3_4
set_option maxRecDepth 100000 in
theorem effect_Least.l0_k.step_j1 (go : (p : effect_Least.l0_k.Pt) → Option ((List Int) × Int)) (ih : ∀ p r, go p = some r → effect_Least.l0_k.I p r) (y1 : T_api_Program) (a4 : List T_api_Func) (a5 : List Int) (x6 : Int) (a7 : List Int) (x8 : Int) (b74 : Bool) (r : (List Int) × Int) (e : effect_Least.l0_k.body go (.j1 y1 a4 a5 x6 a7 x8 b74) = some r) : effect_Least.l0_k.I (.j1 y1 a4 a5 x6 a7 x8 b74) r := by
  unfold effect_Least.l0_k.body at e
  intro h0 m0 h m bk1 cs1 A4 n4 c4 A5 n5 c5 A7 n7 c7 S o1 e1 ne4 o4 ne5 o5 ne7 o7 d0_1 d0_2 d0_3 d1_2 d1_3 d2_3
  obtain ⟨Ae1_2, ce1_2, Ae1_3, ce1_3, Ae1_4, ce1_4, Ae1_5, ce1_5, Ae1_6, ce1_6, Ae1_7, ce1_7, rfl, ke1_2, re1_2, ke1_3, re1_3, ke1_4, re1_4, ke1_5, re1_5, ke1_6, re1_6, ke1_7, re1_7⟩ := e1
  subst ne4
  subst ne5
  subst ne7
  refine f28.j1_in ?_
  unfold f28.j1T
  refine split_any_e e (fun c267 e => ?_) (fun c267 e => ?_)
  · cases e
    exact ⟨_, _, _, _, S, rfl, rfl, o5⟩
  · exact (ih _ _ e) _ _ _ _ _ _ _ _ _ _ _ _ S o1 (show T_api_Program.E _ y1 [(Value.string y1.Name), (Value.int .i64 y1.Version), (Value.slice Ae1_2 (List.length y1.Uses) ce1_2), (Value.slice Ae1_3 (List.length y1.Datas) ce1_3), (Value.slice Ae1_4 (List.length y1.Traits) ce1_4), (Value.slice Ae1_5 (List.length y1.Impls) ce1_5), (Value.slice Ae1_6 (List.length y1.Funcs) ce1_6), (Value.slice Ae1_7 (List.length y1.Actors) ce1_7)] from ⟨_, _, _, _, _, _, _, _, _, _, _, _, rfl, ke1_2, re1_2, ke1_3, re1_3, ke1_4, re1_4, ke1_5, re1_5, ke1_6, re1_6, ke1_7, re1_7⟩) rfl o4 rfl o7 d0_1 d0_3 d1_3
set_option maxRecDepth 100000 in
theorem effect_Least.l0_k.step_j0 (go : (p : effect_Least.l0_k.Pt) → Option ((List Int) × Int)) (ih : ∀ p r, go p = some r → effect_Least.l0_k.I p r) (y1 : T_api_Program) (a4 : List T_api_Func) (a7 : List Int) (x8 : Int) (r : (List Int) × Int) (e : effect_Least.l0_k.body go (.j0 y1 a4 a7 x8) = some r) : effect_Least.l0_k.I (.j0 y1 a4 a7 x8) r := by
  unfold effect_Least.l0_k.body at e
  intro h0 m0 h m bk1 cs1 A4 n4 c4 A7 n7 c7 S o1 e1 ne4 o4 ne7 o7 d0_1 d0_2 d1_2
  obtain ⟨Ae1_2, ce1_2, Ae1_3, ce1_3, Ae1_4, ce1_4, Ae1_5, ce1_5, Ae1_6, ce1_6, Ae1_7, ce1_7, rfl, ke1_2, re1_2, ke1_3, re1_3, ke1_4, re1_4, ke1_5, re1_5, ke1_6, re1_6, ke1_7, re1_7⟩ := e1
  subst ne4
  subst ne7
  refine f28.j0_in ?_
  unfold f28.j0T
  exact (ih _ _ e) _ _ _ _ _ _ _ _ _ _ _ _ S o1 (show T_api_Program.E _ y1 [(Value.string y1.Name), (Value.int .i64 y1.Version), (Value.slice Ae1_2 (List.length y1.Uses) ce1_2), (Value.slice Ae1_3 (List.length y1.Datas) ce1_3), (Value.slice Ae1_4 (List.length y1.Traits) ce1_4), (Value.slice Ae1_5 (List.length y1.Impls) ce1_5), (Value.slice Ae1_6 (List.length y1.Funcs) ce1_6), (Value.slice Ae1_7 (List.length y1.Actors) ce1_7)] from ⟨_, _, _, _, _, _, _, _, _, _, _, _, rfl, ke1_2, re1_2, ke1_3, re1_3, ke1_4, re1_4, ke1_5, re1_5, ke1_6, re1_6, ke1_7, re1_7⟩) rfl o4 rfl o7 d0_1 d0_2 d1_2
theorem effect_Least.l0_k.all {p : effect_Least.l0_k.Pt} {r : ((List Int) × Int)} (e : effect_Least.l0_k.go p = some r) : effect_Least.l0_k.I p r := fixF_ind (β := fun _ => ((List Int) × Int)) effect_Least.l0_k.mono (I := effect_Least.l0_k.I) (fun go ih p r e => match p with
  | .l0 y1 a4 a5 x6 => effect_Least.l0_k.step_l0 go ih y1 a4 a5 x6 r e
  | .l1 y1 a4 a5 x6 a7 x8 x25 x26 => effect_Least.l0_k.step_l1 go ih y1 a4 a5 x6 a7 x8 x25 x26 r e
  | .l2 y1 a4 a5 x6 a7 x8 a42 x43 x44 => effect_Least.l0_k.step_l2 go ih y1 a4 a5 x6 a7 x8 a42 x43 x44 r e
  | .l3 y1 a4 a5 x6 a7 x8 a42 x43 x44 a49 x50 x51 => effect_Least.l0_k.step_l3 go ih y1 a4 a5 x6 a7 x8 a42 x43 x44 a49 x50 x51 r e
  | .j1 y1 a4 a5 x6 a7 x8 b74 => effect_Least.l0_k.step_j1 go ih y1 a4 a5 x6 a7 x8 b74 r e
  | .j0 y1 a4 a7 x8 => effect_Least.l0_k.step_j0 go ih y1 a4 a7 x8 r e
  ) e
theorem effect_Least.l0.walk {h0 m0 h m : Heap} {bk1 : Nat} {cs1 : List Value} {A4 : Option Addr} {n4 c4 : Nat} {A5 : Option Addr} {n5 c5 : Nat} {y1 : T_api_Program} {a4 : List T_api_Func} {a5 : List Int} {x6 : Int} (S : St No h0 m0 h m) (o1 : OB No h0 h m bk1 cs1 53) (e1 : T_api_Program.E m y1 cs1) (ne4 : n4 = List.length a4) (o4 : OS No h0 15 T_api_Func.E h m A4 a4 c4) (ne5 : n5 = List.length a5) (o5 : OS No h0 1 (eInt .i64) h m A5 a5 c5) (d0_1 : Dj (fb bk1) (fp A4 c4)) (d0_2 : Dj (fb bk1) (fp A5 c5)) (d1_2 : Dj (fp A4 c4) (fp A5 c5)) {r : (List Int) × Int} (e : effect_Least.l0 y1 a4 a5 x6 = some r) : f28.l0 (effect_Least.post No h0 m0 r) (⟨bk1, 0, none⟩ : Addr) A4 n4 c4 A5 n5 c5 x6 h := effect_Least.l0_k.all (p := .l0 y1 a4 a5 x6) e h0 m0 h m bk1 cs1 A4 n4 c4 A5 n5 c5 S o1 e1 ne4 o4 ne5 o5 d0_1 d0_2 d1_2
theorem effect_Least.l1.walk {h0 m0 h m : Heap} {bk1 : Nat} {cs1 : List Value} {A4 : Option Addr} {n4 c4 : Nat} {A5 : Option Addr} {n5 c5 : Nat} {A7 : Option Addr} {n7 c7 : Nat} {y1 : T_api_Program} {a4 : List T_api_Func} {a5 : List Int} {x6 : Int} {a7 : List Int} {x8 : Int} {x25 : Int} {x26 : Int} (S : St No h0 m0 h m) (o1 : OB No h0 h m bk1 cs1 53) (e1 : T_api_Program.E m y1 cs1) (ne4 : n4 = List.length a4) (o4 : OS No h0 15 T_api_Func.E h m A4 a4 c4) (ne5 : n5 = List.length a5) (o5 : OS No h0 1 (eInt .i64) h m A5 a5 c5) (ne7 : n7 = List.length a7) (o7 : OS No h0 1 (eInt .i64) h m A7 a7 c7) (d0_1 : Dj (fb bk1) (fp A4 c4)) (d0_2 : Dj (fb bk1) (fp A5 c5)) (d0_3 : Dj (fb bk1) (fp A7 c7)) (d1_2 : Dj (fp A4 c4) (fp A5 c5)) (d1_3 : Dj (fp A4 c4) (fp A7 c7)) (d2_3 : Dj (fp A5 c5) (fp A7 c7)) {r : (List Int) × Int} (e : effect_Least.l1 y1 a4 a5 x6 a7 x8 x25 x26 = some r) : f28.l1 (effect_Least.post No h0 m0 r) (⟨bk1, 0, none⟩ : Addr) A4 n4 c4 A5 n5 c5 x6 A7 n7 c7 x8 A4 n4 c4 x25 x26 h := effect_Least.l0_k.all (p := .l1 y1 a4 a5 x6 a7 x8 x25 x26) e h0 m0 h m bk1 cs1 A4 n4 c4 A5 n5 c5 A7 n7 c7 S o1 e1 ne4 o4 ne5 o5 ne7 o7 d0_1 d0_2 d0_3 d1_2 d1_3 d2_3
theorem effect_Least.l2.walk {h0 m0 h m : Heap} {bk1 : Nat} {cs1 : List Value} {A4 : Option Addr} {n4 c4 : Nat} {A5 : Option Addr} {n5 c5 : Nat} {A7 : Option Addr} {n7 c7 : Nat} {A42 : Option Addr} {n42 c42 : Nat} {y1 : T_api_Program} {a4 : List T_api_Func} {a5 : List Int} {x6 : Int} {a7 : List Int} {x8 : Int} {a42 : List T_api_Expr} {x43 : Int} {x44 : Int} (S : St No h0 m0 h m) (o1 : OB No h0 h m bk1 cs1 53) (e1 : T_api_Program.E m y1 cs1) (ne4 : n4 = List.length a4) (o4 : OS No h0 15 T_api_Func.E h m A4 a4 c4) (ne5 : n5 = List.length a5) (o5 : OS No h0 1 (eInt .i64) h m A5 a5 c5) (ne7 : n7 = List.length a7) (o7 : OS No h0 1 (eInt .i64) h m A7 a7 c7) (ne42 : n42 = List.length a42) (o42 : OS No h0 8 T_api_Expr.E h m A42 a42 c42) (d0_1 : Dj (fb bk1) (fp A4 c4)) (d0_2 : Dj (fb bk1) (fp A5 c5)) (d0_3 : Dj (fb bk1) (fp A7 c7)) (d0_4 : Dj (fb bk1) (fp A42 c42)) (d1_2 : Dj (fp A4 c4) (fp A5 c5)) (d1_3 : Dj (fp A4 c4) (fp A7 c7)) (d1_4 : Dj (fp A4 c4) (fp A42 c42)) (d2_3 : Dj (fp A5 c5) (fp A7 c7)) (d2_4 : Dj (fp A5 c5) (fp A42 c42)) (d3_4 : Dj (fp A7 c7) (fp A42 c42)) {r : (List Int) × Int} (e : effect_Least.l2 y1 a4 a5 x6 a7 x8 a42 x43 x44 = some r) : f28.l2 (effect_Least.post No h0 m0 r) (⟨bk1, 0, none⟩ : Addr) A4 n4 c4 A5 n5 c5 x6 A7 n7 c7 x8 A42 n42 c42 x43 x44 h := effect_Least.l0_k.all (p := .l2 y1 a4 a5 x6 a7 x8 a42 x43 x44) e h0 m0 h m bk1 cs1 A4 n4 c4 A5 n5 c5 A7 n7 c7 A42 n42 c42 S o1 e1 ne4 o4 ne5 o5 ne7 o7 ne42 o42 d0_1 d0_2 d0_3 d0_4 d1_2 d1_3 d1_4 d2_3 d2_4 d3_4
theorem effect_Least.l3.walk {h0 m0 h m : Heap} {bk1 : Nat} {cs1 : List Value} {A4 : Option Addr} {n4 c4 : Nat} {A5 : Option Addr} {n5 c5 : Nat} {A7 : Option Addr} {n7 c7 : Nat} {A42 : Option Addr} {n42 c42 : Nat} {A49 : Option Addr} {n49 c49 : Nat} {y1 : T_api_Program} {a4 : List T_api_Func} {a5 : List Int} {x6 : Int} {a7 : List Int} {x8 : Int} {a42 : List T_api_Expr} {x43 : Int} {x44 : Int} {a49 : List T_api_Expr} {x50 : Int} {x51 : Int} (S : St No h0 m0 h m) (o1 : OB No h0 h m bk1 cs1 53) (e1 : T_api_Program.E m y1 cs1) (ne4 : n4 = List.length a4) (o4 : OS No h0 15 T_api_Func.E h m A4 a4 c4) (ne5 : n5 = List.length a5) (o5 : OS No h0 1 (eInt .i64) h m A5 a5 c5) (ne7 : n7 = List.length a7) (o7 : OS No h0 1 (eInt .i64) h m A7 a7 c7) (ne42 : n42 = List.length a42) (o42 : OS No h0 8 T_api_Expr.E h m A42 a42 c42) (ne49 : n49 = List.length a49) (o49 : OS No h0 8 T_api_Expr.E h m A49 a49 c49) (d0_1 : Dj (fb bk1) (fp A4 c4)) (d0_2 : Dj (fb bk1) (fp A5 c5)) (d0_3 : Dj (fb bk1) (fp A7 c7)) (d0_4 : Dj (fb bk1) (fp A42 c42)) (d0_5 : Dj (fb bk1) (fp A49 c49)) (d1_2 : Dj (fp A4 c4) (fp A5 c5)) (d1_3 : Dj (fp A4 c4) (fp A7 c7)) (d1_4 : Dj (fp A4 c4) (fp A42 c42)) (d1_5 : Dj (fp A4 c4) (fp A49 c49)) (d2_3 : Dj (fp A5 c5) (fp A7 c7)) (d2_4 : Dj (fp A5 c5) (fp A42 c42)) (d2_5 : Dj (fp A5 c5) (fp A49 c49)) (d3_4 : Dj (fp A7 c7) (fp A42 c42)) (d3_5 : Dj (fp A7 c7) (fp A49 c49)) (d4_5 : Dj (fp A42 c42) (fp A49 c49)) {r : (List Int) × Int} (e : effect_Least.l3 y1 a4 a5 x6 a7 x8 a42 x43 x44 a49 x50 x51 = some r) : f28.l3 (effect_Least.post No h0 m0 r) (⟨bk1, 0, none⟩ : Addr) A4 n4 c4 A5 n5 c5 x6 A7 n7 c7 x8 A42 n42 c42 x43 x44 A49 n49 c49 x50 x51 h := effect_Least.l0_k.all (p := .l3 y1 a4 a5 x6 a7 x8 a42 x43 x44 a49 x50 x51) e h0 m0 h m bk1 cs1 A4 n4 c4 A5 n5 c5 A7 n7 c7 A42 n42 c42 A49 n49 c49 S o1 e1 ne4 o4 ne5 o5 ne7 o7 ne42 o42 ne49 o49 d0_1 d0_2 d0_3 d0_4 d0_5 d1_2 d1_3 d1_4 d1_5 d2_3 d2_4 d2_5 d3_4 d3_5 d4_5
theorem effect_Least.j1.walk {h0 m0 h m : Heap} {bk1 : Nat} {cs1 : List Value} {A4 : Option Addr} {n4 c4 : Nat} {A5 : Option Addr} {n5 c5 : Nat} {A7 : Option Addr} {n7 c7 : Nat} {y1 : T_api_Program} {a4 : List T_api_Func} {a5 : List Int} {x6 : Int} {a7 : List Int} {x8 : Int} {b74 : Bool} (S : St No h0 m0 h m) (o1 : OB No h0 h m bk1 cs1 53) (e1 : T_api_Program.E m y1 cs1) (ne4 : n4 = List.length a4) (o4 : OS No h0 15 T_api_Func.E h m A4 a4 c4) (ne5 : n5 = List.length a5) (o5 : OS No h0 1 (eInt .i64) h m A5 a5 c5) (ne7 : n7 = List.length a7) (o7 : OS No h0 1 (eInt .i64) h m A7 a7 c7) (d0_1 : Dj (fb bk1) (fp A4 c4)) (d0_2 : Dj (fb bk1) (fp A5 c5)) (d0_3 : Dj (fb bk1) (fp A7 c7)) (d1_2 : Dj (fp A4 c4) (fp A5 c5)) (d1_3 : Dj (fp A4 c4) (fp A7 c7)) (d2_3 : Dj (fp A5 c5) (fp A7 c7)) {r : (List Int) × Int} (e : effect_Least.j1 y1 a4 a5 x6 a7 x8 b74 = some r) : f28.j1 (effect_Least.post No h0 m0 r) (⟨bk1, 0, none⟩ : Addr) A4 n4 c4 A5 n5 c5 x6 A7 n7 c7 x8 b74 h := effect_Least.l0_k.all (p := .j1 y1 a4 a5 x6 a7 x8 b74) e h0 m0 h m bk1 cs1 A4 n4 c4 A5 n5 c5 A7 n7 c7 S o1 e1 ne4 o4 ne5 o5 ne7 o7 d0_1 d0_2 d0_3 d1_2 d1_3 d2_3
theorem effect_Least.j0.walk {h0 m0 h m : Heap} {bk1 : Nat} {cs1 : List Value} {A4 : Option Addr} {n4 c4 : Nat} {A7 : Option Addr} {n7 c7 : Nat} {y1 : T_api_Program} {a4 : List T_api_Func} {a7 : List Int} {x8 : Int} (S : St No h0 m0 h m) (o1 : OB No h0 h m bk1 cs1 53) (e1 : T_api_Program.E m y1 cs1) (ne4 : n4 = List.length a4) (o4 : OS No h0 15 T_api_Func.E h m A4 a4 c4) (ne7 : n7 = List.length a7) (o7 : OS No h0 1 (eInt .i64) h m A7 a7 c7) (d0_1 : Dj (fb bk1) (fp A4 c4)) (d0_2 : Dj (fb bk1) (fp A7 c7)) (d1_2 : Dj (fp A4 c4) (fp A7 c7)) {r : (List Int) × Int} (e : effect_Least.j0 y1 a4 a7 x8 = some r) : f28.j0 (effect_Least.post No h0 m0 r) (⟨bk1, 0, none⟩ : Addr) A4 n4 c4 A7 n7 c7 x8 h := effect_Least.l0_k.all (p := .j0 y1 a4 a7 x8) e h0 m0 h m bk1 cs1 A4 n4 c4 A7 n7 c7 S o1 e1 ne4 o4 ne7 o7 d0_1 d0_2 d1_2

noncomputable def effect_Least (y0 : T_api_Program) : Option ((List Int) × Int) :=
  Option.bind (effect_Funs y0) fun y6 => Option.bind (mks 8 (((List.length y6) : Nat) : Int) (0 : Int)) fun l21 => (effect_Least.l0 y0 y6 l21 (0 : Int))
set_option maxRecDepth 100000 in
theorem effect_Least.walk {h m : Heap} {cs0 : List Value} {y0 : T_api_Program} (s : Sub m h) (e0 : T_api_Program.E m y0 cs0) {r : (List Int) × Int} (e : effect_Least y0 = some r) : Run Try.prog 28 #[Value.agg cs0.toArray] h (effect_Least.post No h m r) := by
  unfold effect_Least at e
  obtain ⟨Ae0_2, ce0_2, Ae0_3, ce0_3, Ae0_4, ce0_4, Ae0_5, ce0_5, Ae0_6, ce0_6, Ae0_7, ce0_7, rfl, ke0_2, re0_2, ke0_3, re0_3, ke0_4, re0_4, ke0_5, re0_5, ke0_6, re0_6, ke0_7, re0_7⟩ := e0
  have S : St No h m h m := .refl s
  refine f28.run ?_
  unfold f28.runT
  refine new_in S fun h1 o2 x3 => ?_
  have S4 := S.ext' x3
  have o2 : OB _ _ h1 _ (Array.size h) [(Value.string y0.Name), (Value.int .i64 y0.Version), (Value.slice Ae0_2 (List.length y0.Uses) ce0_2), (Value.slice Ae0_3 (List.length y0.Datas) ce0_3), (Value.slice Ae0_4 (List.length y0.Traits) ce0_4), (Value.slice Ae0_5 (List.length y0.Impls) ce0_5), (Value.slice Ae0_6 (List.length y0.Funcs) ce0_6), (Value.slice Ae0_7 (List.length y0.Actors) ce0_7)] 53 := o2
  refine ⟨_, ldA (Sub.refl _) o2.all, ?_⟩
  obtain ⟨y6, g7, e⟩ := bind_e e
  refine (effect_Funs.walk S4.s (show T_api_Program.E _ y0 [(Value.string y0.Name), (Value.int .i64 y0.Version), (Value.slice Ae0_2 (List.length y0.Uses) ce0_2), (Value.slice Ae0_3 (List.length y0.Datas) ce0_3), (Value.slice Ae0_4 (List.length y0.Traits) ce0_4), (Value.slice Ae0_5 (List.length y0.Impls) ce0_5), (Value.slice Ae0_6 (List.length y0.Funcs) ce0_6), (Value.slice Ae0_7 (List.length y0.Actors) ce0_7)] from ⟨_, _, _, _, _, _, _, _, _, _, _, _, rfl, ke0_2, re0_2, ke0_3, re0_3, ke0_4, re0_4, ke0_5, re0_5, ke0_6, re0_6, ke0_7, re0_7⟩) g7).mono ?_
  rintro _ h8 ⟨m9, A11, n12, c13, T10, rfl, ne14, o15⟩
  subst ne14
  have S17 := S4.grow T10
  have o18 := o2.step T10 Dj.no
  have d20 : Dj (fb (Array.size h)) (fp A11 c13) := fun i h1 h2 => absurd (o2.lt i h1) (Nat.not_lt.2 ((o15.new i h2).elim (fun h => h.elim) id))
  have o19 := o15.take S4 (fun _ h => h.elim)
  refine ⟨_, _, _, rfl, ?_⟩
  obtain ⟨l21, g22, e⟩ := bind_e e
  have q23 := mks_e g22
  refine ⟨q23.1, Int.le_refl _, q23.2.1, q23.2.2.1, ?_⟩
  refine new_in S17 fun h24 o25 x26 => ?_
  have d29 : Dj (fb (Array.size h)) (fb (Array.size h8)) := Dj.new o18.lt
  have d30 : Dj (fp A11 c13) (fb (Array.size h8)) := Dj.new o19.lt
  have o31 := o18.ext x26
  have o32 := o19.ext T_api_Func.T S17.s x26
  have S27 := S17.ext' x26
  have o33 := OB.made (tell_int .i64) o25 g22 rfl
  rw [q23.2.2.2.1] at o33
  try rw [q23.2.2.2.1]
  exact effect_Least.l0.walk S27 o31 (show T_api_Program.E _ y0 [(Value.string y0.Name), (Value.int .i64 y0.Version), (Value.slice Ae0_2 (List.length y0.Uses) ce0_2), (Value.slice Ae0_3 (List.length y0.Datas) ce0_3), (Value.slice Ae0_4 (List.length y0.Traits) ce0_4), (Value.slice Ae0_5 (List.length y0.Impls) ce0_5), (Value.slice Ae0_6 (List.length y0.Funcs) ce0_6), (Value.slice Ae0_7 (List.length y0.Actors) ce0_7)] from ⟨_, _, _, _, _, _, _, _, _, _, _, _, rfl, ke0_2, (re0_2.sub T_api_Use.T T10.up), ke0_3, (re0_3.sub T_api_Data.T T10.up), ke0_4, (re0_4.sub T_api_Trait.T T10.up), ke0_5, (re0_5.sub T_api_Impl.T T10.up), ke0_6, (re0_6.sub T_api_Func.T T10.up), ke0_7, (re0_7.sub T_api_Actor.T T10.up)⟩) rfl o32 rfl o33 d20 (d29.row) (d30.row) e

/-! ### 26 roadstead/effect.Program -/
def effect_Program.post (W : Nat → Prop) (h0 m0 : Heap) (r : Int × Int) (v : Value) (h : Heap) : Prop := ∃ m , St W h0 m0 h m ∧ v = .tuple #[.int .i64 r.1, .int .i64 r.2]
inductive effect_Program.l0_k.Pt where
  | l0 (a4 : List Int) (x6 : Int) (a17 : List T_api_Impl) (x18 : Int) (x19 : Int)
  | l1 (a4 : List Int) (x6 : Int) (a17 : List T_api_Impl) (x18 : Int) (x19 : Int) (a24 : List T_api_Func) (x25 : Int) (x26 : Int)
noncomputable def effect_Program.l0_k.body (go : (p : effect_Program.l0_k.Pt) → Option (Int × Int)) : (p : effect_Program.l0_k.Pt) → Option (Int × Int)
  | .l0 a4 x6 a17 x18 x19 => if x19 < x18 then (Option.bind (gi a17 x19) fun y21 => (go (.l1 a4 x6 a17 x18 x19 y21.Funcs (((List.length y21.Funcs) : Nat) : Int) (0 : Int)))) else (some ((0 : Int), (0 : Int)))
  | .l1 a4 x6 a17 x18 x19 a24 x25 x26 => if x26 < x25 then (Option.bind (gi a24 x26) fun y42 => Option.bind (gi a4 x6) fun y62 => if (bitsI .and .i64 y62 (47 : Int)) = (0 : Int) then ((go (.l1 a4 (IntKind.wrap .i64 (x6 + (1 : Int))) a17 x18 x19 a24 x25 (IntKind.wrap .i64 (x26 + (1 : Int)))))) else (some ((15 : Int), y42.Body.At))) else ((go (.l0 a4 x6 a17 x18 (IntKind.wrap .i64 (x19 + (1 : Int))))))
theorem effect_Program.l0_k.mono : MonoF (β := fun _ => (Int × Int)) effect_Program.l0_k.body := fun f g hfg p => match p with
  | .l0 a4 x6 a17 x18 x19 => LeO.ite (LeO.bind (LeO.refl _) fun y21 => (hfg _)) (LeO.refl _)
  | .l1 a4 x6 a17 x18 x19 a24 x25 x26 => LeO.ite (LeO.bind (LeO.refl _) fun y42 => LeO.bind (LeO.refl _) fun y62 => LeO.ite ((hfg _)) (LeO.refl _)) ((hfg _))
noncomputable def effect_Program.l0_k.go (p : effect_Program.l0_k.Pt) : Option (Int × Int) := fixF (β := fun _ => (Int × Int)) effect_Program.l0_k.body p
noncomputable def effect_Program.l0 (a4 : List Int) (x6 : Int) (a17 : List T_api_Impl) (x18 : Int) (x19 : Int) : Option (Int × Int) := effect_Program.l0_k.go (.l0 a4 x6 a17 x18 x19)
noncomputable def effect_Program.l1 (a4 : List Int) (x6 : Int) (a17 : List T_api_Impl) (x18 : Int) (x19 : Int) (a24 : List T_api_Func) (x25 : Int) (x26 : Int) : Option (Int × Int) := effect_Program.l0_k.go (.l1 a4 x6 a17 x18 x19 a24 x25 x26)
theorem effect_Program.l0_eq (a4 : List Int) (x6 : Int) (a17 : List T_api_Impl) (x18 : Int) (x19 : Int) : effect_Program.l0 a4 x6 a17 x18 x19 = if x19 < x18 then (Option.bind (gi a17 x19) fun y21 => (effect_Program.l1 a4 x6 a17 x18 x19 y21.Funcs (((List.length y21.Funcs) : Nat) : Int) (0 : Int))) else (some ((0 : Int), (0 : Int))) := fixF_eq effect_Program.l0_k.mono _
theorem effect_Program.l1_eq (a4 : List Int) (x6 : Int) (a17 : List T_api_Impl) (x18 : Int) (x19 : Int) (a24 : List T_api_Func) (x25 : Int) (x26 : Int) : effect_Program.l1 a4 x6 a17 x18 x19 a24 x25 x26 = if x26 < x25 then (Option.bind (gi a24 x26) fun y42 => Option.bind (gi a4 x6) fun y62 => if (bitsI .and .i64 y62 (47 : Int)) = (0 : Int) then ((effect_Program.l1 a4 (IntKind.wrap .i64 (x6 + (1 : Int))) a17 x18 x19 a24 x25 (IntKind.wrap .i64 (x26 + (1 : Int))))) else (some ((15 : Int), y42.Body.At))) else ((effect_Program.l0 a4 x6 a17 x18 (IntKind.wrap .i64 (x19 + (1 : Int))))) := fixF_eq effect_Program.l0_k.mono _
def effect_Program.l0_k.I : (p : effect_Program.l0_k.Pt) → (Int × Int) → Prop
  | .l0 a4 x6 a17 x18 x19, r => ∀ (h0 m0 h m : Heap) (A4 : Option Addr) (n4 c4 : Nat) (A17 : Option Addr) (n17 c17 : Nat) (S : St No h0 m0 h m) (ne4 : n4 = List.length a4) (o4 : OS No h0 1 (eInt .i64) h m A4 a4 c4) (ne17 : n17 = List.length a17) (k17 : List.length a17 ≤ c17) (r17 : Rd 3 T_api_Impl.E m A17 a17), f26.l0 (effect_Program.post No h0 m0 r) A4 n4 c4 x6 A17 n17 c17 x18 x19 h
  | .l1 a4 x6 a17 x18 x19 a24 x25 x26, r => ∀ (h0 m0 h m : Heap) (A4 : Option Addr) (n4 c4 : Nat) (A17 : Option Addr) (n17 c17 : Nat) (A24 : Option Addr) (n24 c24 : Nat) (S : St No h0 m0 h m) (ne4 : n4 = List.length a4) (o4 : OS No h0 1 (eInt .i64) h m A4 a4 c4) (ne17 : n17 = List.length a17) (k17 : List.length a17 ≤ c17) (r17 : Rd 3 T_api_Impl.E m A17 a17) (ne24 : n24 = List.length a24) (k24 : List.length a24 ≤ c24) (r24 : Rd 15 T_api_Func.E m A24 a24), f26.l1 (effect_Program.post No h0 m0 r) A4 n4 c4 x6 A17 n17 c17 x18 x19 A24 n24 c24 x25 x26 h
set_option maxRecDepth 100000 in
theorem effect_Program.l0_k.step_l0 (go : (p : effect_Program.l0_k.Pt) → Option (Int × Int)) (ih : ∀ p r, go p = some r → effect_Program.l0_k.I p r) (a4 : List Int) (x6 : Int) (a17 : List T_api_Impl) (x18 : Int) (x19 : Int) (r : Int × Int) (e : effect_Program.l0_k.body go (.l0 a4 x6 a17 x18 x19) = some r) : effect_Program.l0_k.I (.l0 a4 x6 a17 x18 x19) r := by
  unfold effect_Program.l0_k.body at e
  intro h0 m0 h m A4 n4 c4 A17 n17 c17 S ne4 o4 ne17 k17 r17
  subst ne4
  subst ne17
  refine f26.l0_in ?_
  unfold f26.l0T
  refine split_dec_e e (fun c41 e => ?_) (fun c41 e => ?_)
  · obtain ⟨y21, g22, e⟩ := bind_e e
    refine r17.addr rfl g22 fun a23 cs24 ha25 hc26 he27 => ?_
    obtain ⟨Aa23_2, ca23_2, rfl, ka23_2, ra23_2⟩ := he27
    refine ⟨_, ldA S.s hc26, ?_⟩
    refine new_in S fun h28 o29 x30 => ?_
    have d33 : Dj (fp A4 c4) (fb (Array.size h)) := Dj.new o4.lt
    have o34 := o4.ext (tell_int .i64) S.s x30
    have S31 := S.ext' x30
    have o29 : OB _ _ h28 _ (Array.size h) [(Value.string (ByteArray.mk #[])), (Value.string (ByteArray.mk #[])), (Value.slice none 0 0)] 181 := o29
    obtain ⟨h35, w36, o37, t38⟩ := o29.stA S31.s [(Value.string y21.Trait), (Value.string y21.For), (Value.slice Aa23_2 (List.length y21.Funcs) ca23_2)] rfl (Flats.cons trivial (Flats.cons trivial (Flats.cons trivial Flats.nil)))
    refine ⟨[(Value.string y21.Trait), (Value.string y21.For), (Value.slice Aa23_2 (List.length y21.Funcs) ca23_2)], rfl, rfl, h35, w36, ?_⟩
    have o37 : OB _ _ h35 _ (Array.size h) [(Value.string y21.Trait), (Value.string y21.For), (Value.slice Aa23_2 (List.length y21.Funcs) ca23_2)] 181 := o37
    have S39 := S31.then t38 (fun i _ hi => o29.wr i hi)
    have o40 := o34.step (tell_int .i64) t38 (d33).symm
    refine ⟨_, ldk (k := 2) (Sub.refl _) o37.all rfl, _, _, _, rfl, ?_⟩
    exact (ih _ _ e) _ _ _ _ _ _ _ _ _ _ _ _ _ S39 rfl o40 rfl k17 r17 rfl ka23_2 ra23_2
  · cases e
    exact ⟨_, S, rfl⟩
set_option maxRecDepth 100000 in
theorem effect_Program.l0_k.step_l1 (go : (p : effect_Program.l0_k.Pt) → Option (Int × Int)) (ih : ∀ p r, go p = some r → effect_Program.l0_k.I p r) (a4 : List Int) (x6 : Int) (a17 : List T_api_Impl) (x18 : Int) (x19 : Int) (a24 : List T_api_Func) (x25 : Int) (x26 : Int) (r : Int × Int) (e : effect_Program.l0_k.body go (.l1 a4 x6 a17 x18 x19 a24 x25 x26) = some r) : effect_Program.l0_k.I (.l1 a4 x6 a17 x18 x19 a24 x25 x26) r := by
  unfold effect_Program.l0_k.body at e
  intro h0 m0 h m A4 n4 c4 A17 n17 c17 A24 n24 c24 S ne4 o4 ne17 k17 r17 ne24 k24 r24
  subst ne4
  subst ne17
  subst ne24
  refine f26.l1_in ?_
  unfold f26.l1T
  refine split_dec_e e (fun c70 e => ?_) (fun c70 e => ?_)
  · obtain ⟨y42, g43, e⟩ := bind_e e
    refine r24.addr rfl g43 fun a44 cs45 ha46 hc47 he48 => ?_
    obtain ⟨Aa44_1, ca44_1, Aa44_2, ca44_2, Aa44_3, ca44_3, Aa44_6, ca44_6, Aa44_10, ca44_10, Aa44_11, ca44_11, Aa44_12, ca44_12, Aa44_13, ca44_13, rfl, ka44_1, ra44_1, ka44_2, ra44_2, ka44_3, ra44_3, ka44_6, ra44_6, ka44_10, ra44_10, ka44_11, ra44_11, ka44_12, ra44_12, ka44_13, ra44_13⟩ := he48
    refine ⟨_, ldA S.s hc47, ?_⟩
    refine new_in S fun h49 o50 x51 => ?_
    have d54 : Dj (fp A4 c4) (fb (Array.size h)) := Dj.new o4.lt
    have o55 := o4.ext (tell_int .i64) S.s x51
    have S52 := S.ext' x51
    have o50 : OB _ _ h49 _ (Array.size h) [(Value.string (ByteArray.mk #[])), (Value.slice none 0 0), (Value.slice none 0 0), (Value.slice none 0 0), (Value.int .i64 (0 : Int)), (Value.string (ByteArray.mk #[])), (Value.slice none 0 0), (Value.int .i64 (0 : Int)), (Value.int .i64 (0 : Int)), (Value.string (ByteArray.mk #[])), (Value.slice none 0 0), (Value.slice none 0 0), (Value.slice none 0 0), (Value.slice none 0 0), (Value.int .i64 (0 : Int))] 73 := o50
    obtain ⟨h56, w57, o58, t59⟩ := o50.stA S52.s [(Value.string y42.Name), (Value.slice Aa44_1 (List.length y42.Params) ca44_1), (Value.slice Aa44_2 (List.length y42.Names) ca44_2), (Value.slice Aa44_3 (List.length y42.Types) ca44_3), (Value.int .i64 y42.Out.Kind), (Value.string y42.Out.Name), (Value.slice Aa44_6 (List.length y42.Out.Args) ca44_6), (Value.int .i64 y42.Body.Kind), (Value.int .i64 y42.Body.Num), (Value.string y42.Body.Text), (Value.slice Aa44_10 (List.length y42.Body.Names) ca44_10), (Value.slice Aa44_11 (List.length y42.Body.Types) ca44_11), (Value.slice Aa44_12 (List.length y42.Body.Args) ca44_12), (Value.slice Aa44_13 (List.length y42.Body.Arms) ca44_13), (Value.int .i64 y42.Body.At)] rfl (Flats.cons trivial (Flats.cons trivial (Flats.cons trivial (Flats.cons trivial (Flats.cons trivial (Flats.cons trivial (Flats.cons trivial (Flats.cons trivial (Flats.cons trivial (Flats.cons trivial (Flats.cons trivial (Flats.cons trivial (Flats.cons trivial (Flats.cons trivial (Flats.cons trivial Flats.nil)))))))))))))))
    refine ⟨[(Value.string y42.Name), (Value.slice Aa44_1 (List.length y42.Params) ca44_1), (Value.slice Aa44_2 (List.length y42.Names) ca44_2), (Value.slice Aa44_3 (List.length y42.Types) ca44_3), (Value.int .i64 y42.Out.Kind), (Value.string y42.Out.Name), (Value.slice Aa44_6 (List.length y42.Out.Args) ca44_6), (Value.int .i64 y42.Body.Kind), (Value.int .i64 y42.Body.Num), (Value.string y42.Body.Text), (Value.slice Aa44_10 (List.length y42.Body.Names) ca44_10), (Value.slice Aa44_11 (List.length y42.Body.Types) ca44_11), (Value.slice Aa44_12 (List.length y42.Body.Args) ca44_12), (Value.slice Aa44_13 (List.length y42.Body.Arms) ca44_13), (Value.int .i64 y42.Body.At)], rfl, rfl, h56, w57, ?_⟩
    have o58 : OB _ _ h56 _ (Array.size h) [(Value.string y42.Name), (Value.slice Aa44_1 (List.length y42.Params) ca44_1), (Value.slice Aa44_2 (List.length y42.Names) ca44_2), (Value.slice Aa44_3 (List.length y42.Types) ca44_3), (Value.int .i64 y42.Out.Kind), (Value.string y42.Out.Name), (Value.slice Aa44_6 (List.length y42.Out.Args) ca44_6), (Value.int .i64 y42.Body.Kind), (Value.int .i64 y42.Body.Num), (Value.string y42.Body.Text), (Value.slice Aa44_10 (List.length y42.Body.Names) ca44_10), (Value.slice Aa44_11 (List.length y42.Body.Types) ca44_11), (Value.slice Aa44_12 (List.length y42.Body.Args) ca44_12), (Value.slice Aa44_13 (List.length y42.Body.Arms) ca44_13), (Value.int .i64 y42.Body.At)] 73 := o58
    have S60 := S52.then t59 (fun i _ hi => o50.wr i hi)
    have o61 := o55.step (tell_int .i64) t59 (d54).symm
    obtain ⟨y62, g63, e⟩ := bind_e e
    refine o61.addr rfl g63 fun a64 cs65 ha66 hc67 he68 => ?_
    obtain rfl : cs65 = [(Value.int .i64 y62)] := he68
    refine ⟨_, ld0 (Sub.refl _) hc67 rfl, _, rfl, ?_⟩
    refine split_ne_e e (fun c69 e => ?_) (fun c69 e => ?_)
    · refine ⟨_, ldk (k := 14) (Sub.refl _) o58.all rfl, _, rfl, ?_⟩
      cases e
      exact ⟨_, S60, rfl⟩
    · exact (ih _ _ e) _ _ _ _ _ _ _ _ _ _ _ _ _ S60 rfl o61 rfl k17 r17 rfl k24 r24
  · exact (ih _ _ e) _ _ _ _ _ _ _ _ _ _ S rfl o4 rfl k17 r17
theorem effect_Program.l0_k.all {p : effect_Program.l0_k.Pt} {r : (Int × Int)} (e : effect_Program.l0_k.go p = some r) : effect_Program.l0_k.I p r := fixF_ind (β := fun _ => (Int × Int)) effect_Program.l0_k.mono (I := effect_Program.l0_k.I) (fun go ih p r e => match p with
  | .l0 a4 x6 a17 x18 x19 => effect_Program.l0_k.step_l0 go ih a4 x6 a17 x18 x19 r e
  | .l1 a4 x6 a17 x18 x19 a24 x25 x26 => effect_Program.l0_k.step_l1 go ih a4 x6 a17 x18 x19 a24 x25 x26 r e
  ) e
theorem effect_Program.l0.walk {h0 m0 h m : Heap} {A4 : Option Addr} {n4 c4 : Nat} {A17 : Option Addr} {n17 c17 : Nat} {a4 : List Int} {x6 : Int} {a17 : List T_api_Impl} {x18 : Int} {x19 : Int} (S : St No h0 m0 h m) (ne4 : n4 = List.length a4) (o4 : OS No h0 1 (eInt .i64) h m A4 a4 c4) (ne17 : n17 = List.length a17) (k17 : List.length a17 ≤ c17) (r17 : Rd 3 T_api_Impl.E m A17 a17) {r : Int × Int} (e : effect_Program.l0 a4 x6 a17 x18 x19 = some r) : f26.l0 (effect_Program.post No h0 m0 r) A4 n4 c4 x6 A17 n17 c17 x18 x19 h := effect_Program.l0_k.all (p := .l0 a4 x6 a17 x18 x19) e h0 m0 h m A4 n4 c4 A17 n17 c17 S ne4 o4 ne17 k17 r17
theorem effect_Program.l1.walk {h0 m0 h m : Heap} {A4 : Option Addr} {n4 c4 : Nat} {A17 : Option Addr} {n17 c17 : Nat} {A24 : Option Addr} {n24 c24 : Nat} {a4 : List Int} {x6 : Int} {a17 : List T_api_Impl} {x18 : Int} {x19 : Int} {a24 : List T_api_Func} {x25 : Int} {x26 : Int} (S : St No h0 m0 h m) (ne4 : n4 = List.length a4) (o4 : OS No h0 1 (eInt .i64) h m A4 a4 c4) (ne17 : n17 = List.length a17) (k17 : List.length a17 ≤ c17) (r17 : Rd 3 T_api_Impl.E m A17 a17) (ne24 : n24 = List.length a24) (k24 : List.length a24 ≤ c24) (r24 : Rd 15 T_api_Func.E m A24 a24) {r : Int × Int} (e : effect_Program.l1 a4 x6 a17 x18 x19 a24 x25 x26 = some r) : f26.l1 (effect_Program.post No h0 m0 r) A4 n4 c4 x6 A17 n17 c17 x18 x19 A24 n24 c24 x25 x26 h := effect_Program.l0_k.all (p := .l1 a4 x6 a17 x18 x19 a24 x25 x26) e h0 m0 h m A4 n4 c4 A17 n17 c17 A24 n24 c24 S ne4 o4 ne17 k17 r17 ne24 k24 r24

noncomputable def effect_Program (y0 : T_api_Program) : Option (Int × Int) :=
  Option.bind (effect_Least y0) fun y6 => (effect_Program.l0 y6.1 (0 : Int) y0.Impls (((List.length y0.Impls) : Nat) : Int) (0 : Int))
set_option maxRecDepth 100000 in
theorem effect_Program.walk {h m : Heap} {cs0 : List Value} {y0 : T_api_Program} (s : Sub m h) (e0 : T_api_Program.E m y0 cs0) {r : Int × Int} (e : effect_Program y0 = some r) : Run Try.prog 26 #[Value.agg cs0.toArray] h (effect_Program.post No h m r) := by
  unfold effect_Program at e
  obtain ⟨Ae0_2, ce0_2, Ae0_3, ce0_3, Ae0_4, ce0_4, Ae0_5, ce0_5, Ae0_6, ce0_6, Ae0_7, ce0_7, rfl, ke0_2, re0_2, ke0_3, re0_3, ke0_4, re0_4, ke0_5, re0_5, ke0_6, re0_6, ke0_7, re0_7⟩ := e0
  have S : St No h m h m := .refl s
  refine f26.run ?_
  unfold f26.runT
  refine new_in S fun h1 o2 x3 => ?_
  have S4 := S.ext' x3
  have o2 : OB _ _ h1 _ (Array.size h) [(Value.string y0.Name), (Value.int .i64 y0.Version), (Value.slice Ae0_2 (List.length y0.Uses) ce0_2), (Value.slice Ae0_3 (List.length y0.Datas) ce0_3), (Value.slice Ae0_4 (List.length y0.Traits) ce0_4), (Value.slice Ae0_5 (List.length y0.Impls) ce0_5), (Value.slice Ae0_6 (List.length y0.Funcs) ce0_6), (Value.slice Ae0_7 (List.length y0.Actors) ce0_7)] 53 := o2
  refine ⟨_, ldA (Sub.refl _) o2.all, ?_⟩
  obtain ⟨y6, g7, e⟩ := bind_e e
  refine (effect_Least.walk S4.s (show T_api_Program.E _ y0 [(Value.string y0.Name), (Value.int .i64 y0.Version), (Value.slice Ae0_2 (List.length y0.Uses) ce0_2), (Value.slice Ae0_3 (List.length y0.Datas) ce0_3), (Value.slice Ae0_4 (List.length y0.Traits) ce0_4), (Value.slice Ae0_5 (List.length y0.Impls) ce0_5), (Value.slice Ae0_6 (List.length y0.Funcs) ce0_6), (Value.slice Ae0_7 (List.length y0.Actors) ce0_7)] from ⟨_, _, _, _, _, _, _, _, _, _, _, _, rfl, ke0_2, re0_2, ke0_3, re0_3, ke0_4, re0_4, ke0_5, re0_5, ke0_6, re0_6, ke0_7, re0_7⟩) g7).mono ?_
  rintro _ h8 ⟨m9, A11, n12, c13, T10, rfl, ne14, o15⟩
  subst ne14
  have S17 := S4.grow T10
  have o18 := o2.step T10 Dj.no
  have d20 : Dj (fb (Array.size h)) (fp A11 c13) := fun i h1 h2 => absurd (o2.lt i h1) (Nat.not_lt.2 ((o15.new i h2).elim (fun h => h.elim) id))
  have o19 := o15.take S4 (fun _ h => h.elim)
  refine ⟨_, _, _, _, rfl, ?_⟩
  refine ⟨_, ldk (k := 5) (Sub.refl _) o18.all rfl, _, _, _, rfl, ?_⟩
  exact effect_Program.l0.walk S17 rfl o19 rfl ke0_5 (re0_5.sub T_api_Impl.T T10.up) e

/-! ### 35 roadstead/roadref2.OwnOf -/
def roadref2_OwnOf.post (W : Nat → Prop) (h0 m0 : Heap) (r : Int) (v : Value) (h : Heap) : Prop := ∃ m , St W h0 m0 h m ∧ v = .int .i64 r
inductive roadref2_OwnOf.l0_k.Pt where
  | l0 (x3 : Int) (a7 : List T_api_Expr) (x8 : Int) (x9 : Int)
noncomputable def roadref2_OwnOf.l0_k.body (go : (p : roadref2_OwnOf.l0_k.Pt) → Option (Int)) : (p : roadref2_OwnOf.l0_k.Pt) → Option (Int)
  | .l0 x3 a7 x8 x9 => if x9 < x8 then (Option.bind (gi a7 x9) fun y21 => Option.bind (some (pset ([] : (List (Int × Int))) (20 : Int) (1 : Int))) fun l53 => Option.bind (some (pset l53 (15 : Int) (2 : Int))) fun l61 => Option.bind (some (pset l61 (14 : Int) (4 : Int))) fun l69 => Option.bind (some (pset l69 (18 : Int) (8 : Int))) fun l77 => Option.bind (some (pset l77 (19 : Int) (16 : Int))) fun l85 => Option.bind (some (pset l85 (24 : Int) (32 : Int))) fun l93 => Option.bind (some (pset l93 (25 : Int) (32 : Int))) fun l101 => Option.bind (some (pset l101 (21 : Int) (64 : Int))) fun l109 => Option.bind (some (pset l109 (22 : Int) (64 : Int))) fun l117 => Option.bind (some (pset l117 (23 : Int) (64 : Int))) fun l125 => (go (.l0 (bitsI .or .i64 x3 (pgd l125 y21.Kind (0 : Int))) a7 x8 (IntKind.wrap .i64 (x9 + (1 : Int)))))) else (some (x3))
theorem roadref2_OwnOf.l0_k.mono : MonoF (β := fun _ => (Int)) roadref2_OwnOf.l0_k.body := fun f g hfg p => match p with
  | .l0 x3 a7 x8 x9 => LeO.ite (LeO.bind (LeO.refl _) fun y21 => LeO.bind (LeO.refl _) fun l53 => LeO.bind (LeO.refl _) fun l61 => LeO.bind (LeO.refl _) fun l69 => LeO.bind (LeO.refl _) fun l77 => LeO.bind (LeO.refl _) fun l85 => LeO.bind (LeO.refl _) fun l93 => LeO.bind (LeO.refl _) fun l101 => LeO.bind (LeO.refl _) fun l109 => LeO.bind (LeO.refl _) fun l117 => LeO.bind (LeO.refl _) fun l125 => (hfg _)) (LeO.refl _)
noncomputable def roadref2_OwnOf.l0_k.go (p : roadref2_OwnOf.l0_k.Pt) : Option (Int) := fixF (β := fun _ => (Int)) roadref2_OwnOf.l0_k.body p
noncomputable def roadref2_OwnOf.l0 (x3 : Int) (a7 : List T_api_Expr) (x8 : Int) (x9 : Int) : Option (Int) := roadref2_OwnOf.l0_k.go (.l0 x3 a7 x8 x9)
theorem roadref2_OwnOf.l0_eq (x3 : Int) (a7 : List T_api_Expr) (x8 : Int) (x9 : Int) : roadref2_OwnOf.l0 x3 a7 x8 x9 = if x9 < x8 then (Option.bind (gi a7 x9) fun y21 => Option.bind (some (pset ([] : (List (Int × Int))) (20 : Int) (1 : Int))) fun l53 => Option.bind (some (pset l53 (15 : Int) (2 : Int))) fun l61 => Option.bind (some (pset l61 (14 : Int) (4 : Int))) fun l69 => Option.bind (some (pset l69 (18 : Int) (8 : Int))) fun l77 => Option.bind (some (pset l77 (19 : Int) (16 : Int))) fun l85 => Option.bind (some (pset l85 (24 : Int) (32 : Int))) fun l93 => Option.bind (some (pset l93 (25 : Int) (32 : Int))) fun l101 => Option.bind (some (pset l101 (21 : Int) (64 : Int))) fun l109 => Option.bind (some (pset l109 (22 : Int) (64 : Int))) fun l117 => Option.bind (some (pset l117 (23 : Int) (64 : Int))) fun l125 => (roadref2_OwnOf.l0 (bitsI .or .i64 x3 (pgd l125 y21.Kind (0 : Int))) a7 x8 (IntKind.wrap .i64 (x9 + (1 : Int))))) else (some (x3)) := fixF_eq roadref2_OwnOf.l0_k.mono _
def roadref2_OwnOf.l0_k.I : (p : roadref2_OwnOf.l0_k.Pt) → (Int) → Prop
  | .l0 x3 a7 x8 x9, r => ∀ (h0 m0 h m : Heap) (A7 : Option Addr) (n7 c7 : Nat) (S : St No h0 m0 h m) (ne7 : n7 = List.length a7) (o7 : OS No h0 8 T_api_Expr.E h m A7 a7 c7), f35.l0 (roadref2_OwnOf.post No h0 m0 r) x3 A7 n7 c7 x8 x9 h
set_option maxRecDepth 100000 in
theorem roadref2_OwnOf.l0_k.step_l0 (go : (p : roadref2_OwnOf.l0_k.Pt) → Option (Int)) (ih : ∀ p r, go p = some r → roadref2_OwnOf.l0_k.I p r) (x3 : Int) (a7 : List T_api_Expr) (x8 : Int) (x9 : Int) (r : Int) (e : roadref2_OwnOf.l0_k.body go (.l0 x3 a7 x8 x9) = some r) : roadref2_OwnOf.l0_k.I (.l0 x3 a7 x8 x9) r := by
  unfold roadref2_OwnOf.l0_k.body at e
  intro h0 m0 h m A7 n7 c7 S ne7 o7
  subst ne7
  refine f35.l0_in ?_
  unfold f35.l0T
  refine split_dec_e e (fun c132 e => ?_) (fun c132 e => ?_)
  · obtain ⟨y21, g22, e⟩ := bind_e e
    refine o7.addr rfl g22 fun a23 cs24 ha25 hc26 he27 => ?_
    obtain ⟨Aa23_3, ca23_3, Aa23_4, ca23_4, Aa23_5, ca23_5, Aa23_6, ca23_6, rfl, ka23_3, ra23_3, ka23_4, ra23_4, ka23_5, ra23_5, ka23_6, ra23_6⟩ := T_api_Expr.iff.1 he27
    refine ⟨_, ldA (Sub.refl _) hc26, ?_⟩
    refine new_in S fun h28 o29 x30 => ?_
    have d33 : Dj (fp A7 c7) (fb (Array.size h)) := Dj.new o7.lt
    have o34 := o7.ext T_api_Expr.T S.s x30
    have S31 := S.ext' x30
    have o29 : OB _ _ h28 _ (Array.size h) [(Value.int .i64 (0 : Int)), (Value.int .i64 (0 : Int)), (Value.string (ByteArray.mk #[])), (Value.slice none 0 0), (Value.slice none 0 0), (Value.slice none 0 0), (Value.slice none 0 0), (Value.int .i64 (0 : Int))] 71 := o29
    obtain ⟨h35, w36, o37, t38⟩ := o29.stA S31.s [(Value.int .i64 y21.Kind), (Value.int .i64 y21.Num), (Value.string y21.Text), (Value.slice Aa23_3 (List.length y21.Names) ca23_3), (Value.slice Aa23_4 (List.length y21.Types) ca23_4), (Value.slice Aa23_5 (List.length y21.Args) ca23_5), (Value.slice Aa23_6 (List.length y21.Arms) ca23_6), (Value.int .i64 y21.At)] rfl (Flats.cons trivial (Flats.cons trivial (Flats.cons trivial (Flats.cons trivial (Flats.cons trivial (Flats.cons trivial (Flats.cons trivial (Flats.cons trivial Flats.nil))))))))
    refine ⟨[(Value.int .i64 y21.Kind), (Value.int .i64 y21.Num), (Value.string y21.Text), (Value.slice Aa23_3 (List.length y21.Names) ca23_3), (Value.slice Aa23_4 (List.length y21.Types) ca23_4), (Value.slice Aa23_5 (List.length y21.Args) ca23_5), (Value.slice Aa23_6 (List.length y21.Arms) ca23_6), (Value.int .i64 y21.At)], rfl, rfl, h35, w36, ?_⟩
    have o37 : OB _ _ h35 _ (Array.size h) [(Value.int .i64 y21.Kind), (Value.int .i64 y21.Num), (Value.string y21.Text), (Value.slice Aa23_3 (List.length y21.Names) ca23_3), (Value.slice Aa23_4 (List.length y21.Types) ca23_4), (Value.slice Aa23_5 (List.length y21.Args) ca23_5), (Value.slice Aa23_6 (List.length y21.Arms) ca23_6), (Value.int .i64 y21.At)] 71 := o37
    have S39 := S31.then t38 (fun i _ hi => o29.wr i hi)
    have o40 := o34.step T_api_Expr.T t38 (d33).symm
    refine OM.made (ν := Int) (EV := (eV0 (eInt .i64))) (kv := (fun n : Int => Value.int .i64 n)) S39 fun h41 o42 x43 => ?_
    have d45 : Dj (fp A7 c7) (fb (Array.size h35)) := Dj.new o40.lt
    have d46 : Dj (fb (Array.size h)) (fb (Array.size h35)) := Dj.new o37.lt
    have o48 := o40.ext T_api_Expr.T S39.s x43
    have o49 := o37.ext x43
    have S47 := S39.ext' x43
    obtain ⟨l53, g54, e⟩ := bind_e e
    refine OM.upd (x := (1 : Int)) (v := (Value.int .i64 (1 : Int))) o42 S47.s (keyOk_int (key := 3) (elem := 3) (by kernel_rfl) (by kernel_rfl)) (20 : Int) (show (eV0 (eInt .i64)) m (1 : Int) (Value.int .i64 (1 : Int)) from rfl) fun h50 o51 t52 => ?_
    have g54 := Option.some.inj g54
    rw [g54] at o51
    have S55 := S47.then t52 (fun i _ hi => o42.wr i hi)
    have o56 := o48.step T_api_Expr.T t52 (d45).symm
    have o57 := o49.step t52 (d46).symm
    obtain ⟨l61, g62, e⟩ := bind_e e
    refine OM.upd (x := (2 : Int)) (v := (Value.int .i64 (2 : Int))) o51 S55.s (keyOk_int (key := 3) (elem := 3) (by kernel_rfl) (by kernel_rfl)) (15 : Int) (show (eV0 (eInt .i64)) m (2 : Int) (Value.int .i64 (2 : Int)) from rfl) fun h58 o59 t60 => ?_
    have g62 := Option.some.inj g62
    rw [g62] at o59
    have S63 := S55.then t60 (fun i _ hi => o51.wr i hi)
    have o64 := o56.step T_api_Expr.T t60 (d45).symm
    have o65 := o57.step t60 (d46).symm
    obtain ⟨l69, g70, e⟩ := bind_e e
    refine OM.upd (x := (4 : Int)) (v := (Value.int .i64 (4 : Int))) o59 S63.s (keyOk_int (key := 3) (elem := 3) (by kernel_rfl) (by kernel_rfl)) (14 : Int) (show (eV0 (eInt .i64)) m (4 : Int) (Value.int .i64 (4 : Int)) from rfl) fun h66 o67 t68 => ?_
    have g70 := Option.some.inj g70
    rw [g70] at o67
    have S71 := S63.then t68 (fun i _ hi => o59.wr i hi)
    have o72 := o64.step T_api_Expr.T t68 (d45).symm
    have o73 := o65.step t68 (d46).symm
    obtain ⟨l77, g78, e⟩ := bind_e e
    refine OM.upd (x := (8 : Int)) (v := (Value.int .i64 (8 : Int))) o67 S71.s (keyOk_int (key := 3) (elem := 3) (by kernel_rfl) (by kernel_rfl)) (18 : Int) (show (eV0 (eInt .i64)) m (8 : Int) (Value.int .i64 (8 : Int)) from rfl) fun h74 o75 t76 => ?_
    have g78 := Option.some.inj g78
    rw [g78] at o75
    have S79 := S71.then t76 (fun i _ hi => o67.wr i hi)
    have o80 := o72.step T_api_Expr.T t76 (d45).symm
    have o81 := o73.step t76 (d46).symm
    obtain ⟨l85, g86, e⟩ := bind_e e
    refine OM.upd (x := (16 : Int)) (v := (Value.int .i64 (16 : Int))) o75 S79.s (keyOk_int (key := 3) (elem := 3) (by kernel_rfl) (by kernel_rfl)) (19 : Int) (show (eV0 (eInt .i64)) m (16 : Int) (Value.int .i64 (16 : Int)) from rfl) fun h82 o83 t84 => ?_
    have g86 := Option.some.inj g86
    rw [g86] at o83
    have S87 := S79.then t84 (fun i _ hi => o75.wr i hi)
    have o88 := o80.step T_api_Expr.T t84 (d45).symm
    have o89 := o81.step t84 (d46).symm
    obtain ⟨l93, g94, e⟩ := bind_e e
    refine OM.upd (x := (32 : Int)) (v := (Value.int .i64 (32 : Int))) o83 S87.s (keyOk_int (key := 3) (elem := 3) (by kernel_rfl) (by kernel_rfl)) (24 : Int) (show (eV0 (eInt .i64)) m (32 : Int) (Value.int .i64 (32 : Int)) from rfl) fun h90 o91 t92 => ?_
    have g94 := Option.some.inj g94
    rw [g94] at o91
    have S95 := S87.then t92 (fun i _ hi => o83.wr i hi)
    have o96 := o88.step T_api_Expr.T t92 (d45).symm
    have o97 := o89.step t92 (d46).symm
    obtain ⟨l101, g102, e⟩ := bind_e e
    refine OM.upd (x := (32 : Int)) (v := (Value.int .i64 (32 : Int))) o91 S95.s (keyOk_int (key := 3) (elem := 3) (by kernel_rfl) (by kernel_rfl)) (25 : Int) (show (eV0 (eInt .i64)) m (32 : Int) (Value.int .i64 (32 : Int)) from rfl) fun h98 o99 t100 => ?_
    have g102 := Option.some.inj g102
    rw [g102] at o99
    have S103 := S95.then t100 (fun i _ hi => o91.wr i hi)
    have o104 := o96.step T_api_Expr.T t100 (d45).symm
    have o105 := o97.step t100 (d46).symm
    obtain ⟨l109, g110, e⟩ := bind_e e
    refine OM.upd (x := (64 : Int)) (v := (Value.int .i64 (64 : Int))) o99 S103.s (keyOk_int (key := 3) (elem := 3) (by kernel_rfl) (by kernel_rfl)) (21 : Int) (show (eV0 (eInt .i64)) m (64 : Int) (Value.int .i64 (64 : Int)) from rfl) fun h106 o107 t108 => ?_
    have g110 := Option.some.inj g110
    rw [g110] at o107
    have S111 := S103.then t108 (fun i _ hi => o99.wr i hi)
    have o112 := o104.step T_api_Expr.T t108 (d45).symm
    have o113 := o105.step t108 (d46).symm
    obtain ⟨l117, g118, e⟩ := bind_e e
    refine OM.upd (x := (64 : Int)) (v := (Value.int .i64 (64 : Int))) o107 S111.s (keyOk_int (key := 3) (elem := 3) (by kernel_rfl) (by kernel_rfl)) (22 : Int) (show (eV0 (eInt .i64)) m (64 : Int) (Value.int .i64 (64 : Int)) from rfl) fun h114 o115 t116 => ?_
    have g118 := Option.some.inj g118
    rw [g118] at o115
    have S119 := S111.then t116 (fun i _ hi => o107.wr i hi)
    have o120 := o112.step T_api_Expr.T t116 (d45).symm
    have o121 := o113.step t116 (d46).symm
    obtain ⟨l125, g126, e⟩ := bind_e e
    refine OM.upd (x := (64 : Int)) (v := (Value.int .i64 (64 : Int))) o115 S119.s (keyOk_int (key := 3) (elem := 3) (by kernel_rfl) (by kernel_rfl)) (23 : Int) (show (eV0 (eInt .i64)) m (64 : Int) (Value.int .i64 (64 : Int)) from rfl) fun h122 o123 t124 => ?_
    have g126 := Option.some.inj g126
    rw [g126] at o123
    have S127 := S119.then t124 (fun i _ hi => o115.wr i hi)
    have o128 := o120.step T_api_Expr.T t124 (d45).symm
    have o129 := o121.step t124 (d46).symm
    refine ⟨_, ld0 (Sub.refl _) o129.all rfl, _, rfl, ?_⟩
    refine OM.look (zv := (0 : Int)) (z := (Value.int .i64 (0 : Int))) o123 (keyOk_int (key := 3) (elem := 3) (by kernel_rfl) (by kernel_rfl)) y21.Kind (by kernel_rfl) rfl (fun v130 hv131 => ?_)
    obtain rfl : v130 = (Value.int .i64 (pgd l125 y21.Kind (0 : Int))) := (List.cons.inj (show [v130] = [(Value.int .i64 (pgd l125 y21.Kind (0 : Int)))] from hv131)).1
    refine ⟨_, rfl, ?_⟩
    exact (ih _ _ e) _ _ _ _ _ _ _ S127 rfl o128
  · cases e
    exact ⟨_, S, rfl⟩
theorem roadref2_OwnOf.l0_k.all {p : roadref2_OwnOf.l0_k.Pt} {r : (Int)} (e : roadref2_OwnOf.l0_k.go p = some r) : roadref2_OwnOf.l0_k.I p r := fixF_ind (β := fun _ => (Int)) roadref2_OwnOf.l0_k.mono (I := roadref2_OwnOf.l0_k.I) (fun go ih p r e => match p with
  | .l0 x3 a7 x8 x9 => roadref2_OwnOf.l0_k.step_l0 go ih x3 a7 x8 x9 r e
  ) e
theorem roadref2_OwnOf.l0.walk {h0 m0 h m : Heap} {A7 : Option Addr} {n7 c7 : Nat} {x3 : Int} {a7 : List T_api_Expr} {x8 : Int} {x9 : Int} (S : St No h0 m0 h m) (ne7 : n7 = List.length a7) (o7 : OS No h0 8 T_api_Expr.E h m A7 a7 c7) {r : Int} (e : roadref2_OwnOf.l0 x3 a7 x8 x9 = some r) : f35.l0 (roadref2_OwnOf.post No h0 m0 r) x3 A7 n7 c7 x8 x9 h := roadref2_OwnOf.l0_k.all (p := .l0 x3 a7 x8 x9) e h0 m0 h m A7 n7 c7 S ne7 o7

noncomputable def roadref2_OwnOf (y0 : T_api_Expr) : Option (Int) :=
  Option.bind (roadref2_All y0) fun y6 => (roadref2_OwnOf.l0 (0 : Int) y6 (((List.length y6) : Nat) : Int) (0 : Int))
set_option maxRecDepth 100000 in
theorem roadref2_OwnOf.walk {h m : Heap} {cs0 : List Value} {y0 : T_api_Expr} (s : Sub m h) (e0 : T_api_Expr.E m y0 cs0) {r : Int} (e : roadref2_OwnOf y0 = some r) : Run Try.prog 35 #[Value.agg cs0.toArray] h (roadref2_OwnOf.post No h m r) := by
  unfold roadref2_OwnOf at e
  obtain ⟨Ae0_3, ce0_3, Ae0_4, ce0_4, Ae0_5, ce0_5, Ae0_6, ce0_6, rfl, ke0_3, re0_3, ke0_4, re0_4, ke0_5, re0_5, ke0_6, re0_6⟩ := T_api_Expr.iff.1 e0
  have S : St No h m h m := .refl s
  refine f35.run ?_
  unfold f35.runT
  refine new_in S fun h1 o2 x3 => ?_
  have S4 := S.ext' x3
  have o2 : OB _ _ h1 _ (Array.size h) [(Value.int .i64 y0.Kind), (Value.int .i64 y0.Num), (Value.string y0.Text), (Value.slice Ae0_3 (List.length y0.Names) ce0_3), (Value.slice Ae0_4 (List.length y0.Types) ce0_4), (Value.slice Ae0_5 (List.length y0.Args) ce0_5), (Value.slice Ae0_6 (List.length y0.Arms) ce0_6), (Value.int .i64 y0.At)] 71 := o2
  refine ⟨_, ldA (Sub.refl _) o2.all, ?_⟩
  obtain ⟨y6, g7, e⟩ := bind_e e
  refine (roadref2_All.walk S4.s (T_api_Expr.iff.2 ⟨_, _, _, _, _, _, _, _, rfl, ke0_3, re0_3, ke0_4, re0_4, ke0_5, re0_5, ke0_6, re0_6⟩) g7).mono ?_
  rintro _ h8 ⟨m9, A11, n12, c13, T10, rfl, ne14, o15⟩
  subst ne14
  have S17 := S4.grow T10
  have o18 := o2.step T10 Dj.no
  have d20 : Dj (fb (Array.size h)) (fp A11 c13) := fun i h1 h2 => absurd (o2.lt i h1) (Nat.not_lt.2 ((o15.new i h2).elim (fun h => h.elim) id))
  have o19 := o15.take S4 (fun _ h => h.elim)
  refine ⟨_, _, _, rfl, ?_⟩
  exact roadref2_OwnOf.l0.walk S17 rfl o19 e

/-! ### 91 roadstead/roadref2.led -/
def roadref2_led.post (W : Nat → Prop) (h0 m0 : Heap) (r : (List T_api_Expr)) (v : Value) (h : Heap) : Prop := ∃ m A0 n0 c0, St W h0 m0 h m ∧ v = .slice A0 n0 c0 ∧ n0 = r.length ∧ OS W h0 8 T_api_Expr.E h m A0 r c0
inductive roadref2_led.l0_k.Pt where
  | l0 (y2 : T_api_Program) (a5 : List T_api_Expr) (a6 : List ByteArray) (b7 : Bool) (x8 : Int)
  | l1 (y2 : T_api_Program) (a5 : List T_api_Expr) (a6 : List ByteArray) (b7 : Bool) (x8 : Int) (a29 : List T_api_Expr) (x30 : Int) (x31 : Int)
  | j1 (y2 : T_api_Program) (a5 : List T_api_Expr) (a6 : List ByteArray) (b7 : Bool) (x8 : Int) (y10 : T_api_Expr) (a29 : List T_api_Expr) (x30 : Int) (x31 : Int) (b41 : Bool)
  | l3 (y2 : T_api_Program) (a5 : List T_api_Expr) (a6 : List ByteArray) (b7 : Bool) (x8 : Int) (y10 : T_api_Expr) (a29 : List T_api_Expr) (x30 : Int) (x31 : Int) (a43 : List T_api_Expr) (x44 : Int) (x45 : Int)
  | l4 (y2 : T_api_Program) (a5 : List T_api_Expr) (a6 : List ByteArray) (b7 : Bool) (x8 : Int) (y10 : T_api_Expr) (a29 : List T_api_Expr) (x30 : Int) (x31 : Int) (a43 : List T_api_Expr) (x44 : Int) (x45 : Int) (a50 : List T_api_Expr) (x51 : Int) (x52 : Int)
  | j0 (y2 : T_api_Program) (a5 : List T_api_Expr) (a6 : List ByteArray) (b7 : Bool) (x8 : Int) (y10 : T_api_Expr) (a29 : List T_api_Expr) (x30 : Int) (x31 : Int)
  | j2 (y2 : T_api_Program) (a5 : List T_api_Expr) (a6 : List ByteArray) (b7 : Bool) (x8 : Int) (y10 : T_api_Expr) (a29 : List T_api_Expr) (x30 : Int) (x31 : Int)
  | l2 (y2 : T_api_Program) (a5 : List T_api_Expr) (a6 : List ByteArray) (b7 : Bool) (x8 : Int) (y10 : T_api_Expr) (a29 : List T_api_Expr) (x30 : Int) (x31 : Int) (a80 : List T_api_Func) (x81 : Int) (x82 : Int)
noncomputable def roadref2_led.l0_k.body (go : (p : roadref2_led.l0_k.Pt) → Option ((List T_api_Expr))) : (p : roadref2_led.l0_k.Pt) → Option ((List T_api_Expr))
  | .l0 y2 a5 a6 b7 x8 => if x8 < (((List.length a5) : Nat) : Int) then (Option.bind (gi a5 x8) fun y25 => Option.bind (roadref2_All y25) fun y32 => (go (.l1 y2 a5 a6 b7 x8 y32 (((List.length y32) : Nat) : Int) (0 : Int)))) else (some (a5))
  | .l1 y2 a5 a6 b7 x8 a29 x30 x31 => if x31 < x30 then (Option.bind (gi a29 x31) fun y52 => if y52.Kind = (11 : Int) then ((go (.j1 y2 a5 a6 b7 x8 y52 a29 x30 x31 (!b7)))) else ((go (.j1 y2 a5 a6 b7 x8 y52 a29 x30 x31 false)))) else ((go (.l0 y2 a5 a6 b7 (IntKind.wrap .i64 (x8 + (1 : Int))))))
  | .j1 y2 a5 a6 b7 x8 y10 a29 x30 x31 b41 => if b41 = true then (Option.bind (roadref2_BodiesOf y2) fun y83 => (go (.l3 y2 a5 a6 true x8 y10 a29 x30 x31 y83 (((List.length y83) : Nat) : Int) (0 : Int)))) else ((go (.j0 y2 a5 a6 b7 x8 y10 a29 x30 x31)))
  | .l3 y2 a5 a6 b7 x8 y10 a29 x30 x31 a43 x44 x45 => if x45 < x44 then (Option.bind (gi a43 x45) fun y107 => Option.bind (roadref2_All y107) fun y142 => (go (.l4 y2 a5 a6 b7 x8 y10 a29 x30 x31 a43 x44 x45 y142 (((List.length y142) : Nat) : Int) (0 : Int)))) else ((go (.j0 y2 a5 a6 b7 x8 y10 a29 x30 x31)))
  | .l4 y2 a5 a6 b7 x8 y10 a29 x30 x31 a43 x44 x45 a50 x51 x52 => if x52 < x51 then (Option.bind (gi a50 x52) fun y189 => if y189.Kind = (10 : Int) then (Option.bind (ap 136 a5 ([y189] : List T_api_Expr)) fun l249 => (go (.l4 y2 l249 a6 b7 x8 y10 a29 x30 x31 a43 x44 x45 a50 x51 (IntKind.wrap .i64 (x52 + (1 : Int)))))) else ((go (.l4 y2 a5 a6 b7 x8 y10 a29 x30 x31 a43 x44 x45 a50 x51 (IntKind.wrap .i64 (x52 + (1 : Int))))))) else ((go (.l3 y2 a5 a6 b7 x8 y10 a29 x30 x31 a43 x44 (IntKind.wrap .i64 (x45 + (1 : Int))))))
  | .j0 y2 a5 a6 b7 x8 y10 a29 x30 x31 => if y10.Kind = (9 : Int) then (Option.bind (slices_Contains_92 a6 y10.Text) fun y170 => if y170 = true then ((go (.l1 y2 a5 a6 b7 x8 a29 x30 (IntKind.wrap .i64 (x31 + (1 : Int)))))) else ((go (.j2 y2 a5 a6 b7 x8 y10 a29 x30 x31)))) else ((go (.l1 y2 a5 a6 b7 x8 a29 x30 (IntKind.wrap .i64 (x31 + (1 : Int))))))
  | .j2 y2 a5 a6 b7 x8 y10 a29 x30 x31 => Option.bind (ap 16 a6 ([y10.Text] : List ByteArray)) fun l293 => Option.bind (roadref2_FunsOf y2) fun y313 => (go (.l2 y2 a5 l293 b7 x8 y10 a29 x30 x31 y313 (((List.length y313) : Nat) : Int) (0 : Int)))
  | .l2 y2 a5 a6 b7 x8 y10 a29 x30 x31 a80 x81 x82 => if x82 < x81 then (Option.bind (gi a80 x82) fun y336 => if y336.Name = y10.Text then (Option.bind (ap 136 a5 ([y336.Body] : List T_api_Expr)) fun l391 => (go (.l2 y2 l391 a6 b7 x8 y10 a29 x30 x31 a80 x81 (IntKind.wrap .i64 (x82 + (1 : Int)))))) else ((go (.l2 y2 a5 a6 b7 x8 y10 a29 x30 x31 a80 x81 (IntKind.wrap .i64 (x82 + (1 : Int))))))) else ((go (.l1 y2 a5 a6 b7 x8 a29 x30 (IntKind.wrap .i64 (x31 + (1 : Int))))))
theorem roadref2_led.l0_k.mono : MonoF (β := fun _ => ((List T_api_Expr))) roadref2_led.l0_k.body := fun f g hfg p => match p with
  | .l0 y2 a5 a6 b7 x8 => LeO.ite (LeO.bind (LeO.refl _) fun y25 => LeO.bind (LeO.refl _) fun y32 => (hfg _)) (LeO.refl _)
  | .l1 y2 a5 a6 b7 x8 a29 x30 x31 => LeO.ite (LeO.bind (LeO.refl _) fun y52 => LeO.ite ((hfg _)) ((hfg _))) ((hfg _))
  | .j1 y2 a5 a6 b7 x8 y10 a29 x30 x31 b41 => LeO.ite (LeO.bind (LeO.refl _) fun y83 => (hfg _)) ((hfg _))
  | .l3 y2 a5 a6 b7 x8 y10 a29 x30 x31 a43 x44 x45 => LeO.ite (LeO.bind (LeO.refl _) fun y107 => LeO.bind (LeO.refl _) fun y142 => (hfg _)) ((hfg _))
  | .l4 y2 a5 a6 b7 x8 y10 a29 x30 x31 a43 x44 x45 a50 x51 x52 => LeO.ite (LeO.bind (LeO.refl _) fun y189 => LeO.ite (LeO.bind (LeO.refl _) fun l249 => (hfg _)) ((hfg _))) ((hfg _))
  | .j0 y2 a5 a6 b7 x8 y10 a29 x30 x31 => LeO.ite (LeO.bind (LeO.refl _) fun y170 => LeO.ite ((hfg _)) ((hfg _))) ((hfg _))
  | .j2 y2 a5 a6 b7 x8 y10 a29 x30 x31 => LeO.bind (LeO.refl _) fun l293 => LeO.bind (LeO.refl _) fun y313 => (hfg _)
  | .l2 y2 a5 a6 b7 x8 y10 a29 x30 x31 a80 x81 x82 => LeO.ite (LeO.bind (LeO.refl _) fun y336 => LeO.ite (LeO.bind (LeO.refl _) fun l391 => (hfg _)) ((hfg _))) ((hfg _))
noncomputable def roadref2_led.l0_k.go (p : roadref2_led.l0_k.Pt) : Option ((List T_api_Expr)) := fixF (β := fun _ => ((List T_api_Expr))) roadref2_led.l0_k.body p
noncomputable def roadref2_led.l0 (y2 : T_api_Program) (a5 : List T_api_Expr) (a6 : List ByteArray) (b7 : Bool) (x8 : Int) : Option ((List T_api_Expr)) := roadref2_led.l0_k.go (.l0 y2 a5 a6 b7 x8)
noncomputable def roadref2_led.l1 (y2 : T_api_Program) (a5 : List T_api_Expr) (a6 : List ByteArray) (b7 : Bool) (x8 : Int) (a29 : List T_api_Expr) (x30 : Int) (x31 : Int) : Option ((List T_api_Expr)) := roadref2_led.l0_k.go (.l1 y2 a5 a6 b7 x8 a29 x30 x31)
noncomputable def roadref2_led.j1 (y2 : T_api_Program) (a5 : List T_api_Expr) (a6 : List ByteArray) (b7 : Bool) (x8 : Int) (y10 : T_api_Expr) (a29 : List T_api_Expr) (x30 : Int) (x31 : Int) (b41 : Bool) : Option ((List T_api_Expr)) := roadref2_led.l0_k.go (.j1 y2 a5 a6 b7 x8 y10 a29 x30 x31 b41)
noncomputable def roadref2_led.l3 (y2 : T_api_Program) (a5 : List T_api_Expr) (a6 : List ByteArray) (b7 : Bool) (x8 : Int) (y10 : T_api_Expr) (a29 : List T_api_Expr) (x30 : Int) (x31 : Int) (a43 : List T_api_Expr) (x44 : Int) (x45 : Int) : Option ((List T_api_Expr)) := roadref2_led.l0_k.go (.l3 y2 a5 a6 b7 x8 y10 a29 x30 x31 a43 x44 x45)
noncomputable def roadref2_led.l4 (y2 : T_api_Program) (a5 : List T_api_Expr) (a6 : List ByteArray) (b7 : Bool) (x8 : Int) (y10 : T_api_Expr) (a29 : List T_api_Expr) (x30 : Int) (x31 : Int) (a43 : List T_api_Expr) (x44 : Int) (x45 : Int) (a50 : List T_api_Expr) (x51 : Int) (x52 : Int) : Option ((List T_api_Expr)) := roadref2_led.l0_k.go (.l4 y2 a5 a6 b7 x8 y10 a29 x30 x31 a43 x44 x45 a50 x51 x52)
noncomputable def roadref2_led.j0 (y2 : T_api_Program) (a5 : List T_api_Expr) (a6 : List ByteArray) (b7 : Bool) (x8 : Int) (y10 : T_api_Expr) (a29 : List T_api_Expr) (x30 : Int) (x31 : Int) : Option ((List T_api_Expr)) := roadref2_led.l0_k.go (.j0 y2 a5 a6 b7 x8 y10 a29 x30 x31)
noncomputable def roadref2_led.j2 (y2 : T_api_Program) (a5 : List T_api_Expr) (a6 : List ByteArray) (b7 : Bool) (x8 : Int) (y10 : T_api_Expr) (a29 : List T_api_Expr) (x30 : Int) (x31 : Int) : Option ((List T_api_Expr)) := roadref2_led.l0_k.go (.j2 y2 a5 a6 b7 x8 y10 a29 x30 x31)
noncomputable def roadref2_led.l2 (y2 : T_api_Program) (a5 : List T_api_Expr) (a6 : List ByteArray) (b7 : Bool) (x8 : Int) (y10 : T_api_Expr) (a29 : List T_api_Expr) (x30 : Int) (x31 : Int) (a80 : List T_api_Func) (x81 : Int) (x82 : Int) : Option ((List T_api_Expr)) := roadref2_led.l0_k.go (.l2 y2 a5 a6 b7 x8 y10 a29 x30 x31 a80 x81 x82)
theorem roadref2_led.l0_eq (y2 : T_api_Program) (a5 : List T_api_Expr) (a6 : List ByteArray) (b7 : Bool) (x8 : Int) : roadref2_led.l0 y2 a5 a6 b7 x8 = if x8 < (((List.length a5) : Nat) : Int) then (Option.bind (gi a5 x8) fun y25 => Option.bind (roadref2_All y25) fun y32 => (roadref2_led.l1 y2 a5 a6 b7 x8 y32 (((List.length y32) : Nat) : Int) (0 : Int))) else (some (a5)) := fixF_eq roadref2_led.l0_k.mono _
theorem roadref2_led.l1_eq (y2 : T_api_Program) (a5 : List T_api_Expr) (a6 : List ByteArray) (b7 : Bool) (x8 : Int) (a29 : List T_api_Expr) (x30 : Int) (x31 : Int) : roadref2_led.l1 y2 a5 a6 b7 x8 a29 x30 x31 = if x31 < x30 then (Option.bind (gi a29 x31) fun y52 => if y52.Kind = (11 : Int) then ((roadref2_led.j1 y2 a5 a6 b7 x8 y52 a29 x30 x31 (!b7))) else ((roadref2_led.j1 y2 a5 a6 b7 x8 y52 a29 x30 x31 false))) else ((roadref2_led.l0 y2 a5 a6 b7 (IntKind.wrap .i64 (x8 + (1 : Int))))) := fixF_eq roadref2_led.l0_k.mono _
theorem roadref2_led.j1_eq (y2 : T_api_Program) (a5 : List T_api_Expr) (a6 : List ByteArray) (b7 : Bool) (x8 : Int) (y10 : T_api_Expr) (a29 : List T_api_Expr) (x30 : Int) (x31 : Int) (b41 : Bool) : roadref2_led.j1 y2 a5 a6 b7 x8 y10 a29 x30 x31 b41 = if b41 = true then (Option.bind (roadref2_BodiesOf y2) fun y83 => (roadref2_led.l3 y2 a5 a6 true x8 y10 a29 x30 x31 y83 (((List.length y83) : Nat) : Int) (0 : Int))) else ((roadref2_led.j0 y2 a5 a6 b7 x8 y10 a29 x30 x31)) := fixF_eq roadref2_led.l0_k.mono _
theorem roadref2_led.l3_eq (y2 : T_api_Program) (a5 : List T_api_Expr) (a6 : List ByteArray) (b7 : Bool) (x8 : Int) (y10 : T_api_Expr) (a29 : List T_api_Expr) (x30 : Int) (x31 : Int) (a43 : List T_api_Expr) (x44 : Int) (x45 : Int) : roadref2_led.l3 y2 a5 a6 b7 x8 y10 a29 x30 x31 a43 x44 x45 = if x45 < x44 then (Option.bind (gi a43 x45) fun y107 => Option.bind (roadref2_All y107) fun y142 => (roadref2_led.l4 y2 a5 a6 b7 x8 y10 a29 x30 x31 a43 x44 x45 y142 (((List.length y142) : Nat) : Int) (0 : Int))) else ((roadref2_led.j0 y2 a5 a6 b7 x8 y10 a29 x30 x31)) := fixF_eq roadref2_led.l0_k.mono _
theorem roadref2_led.l4_eq (y2 : T_api_Program) (a5 : List T_api_Expr) (a6 : List ByteArray) (b7 : Bool) (x8 : Int) (y10 : T_api_Expr) (a29 : List T_api_Expr) (x30 : Int) (x31 : Int) (a43 : List T_api_Expr) (x44 : Int) (x45 : Int) (a50 : List T_api_Expr) (x51 : Int) (x52 : Int) : roadref2_led.l4 y2 a5 a6 b7 x8 y10 a29 x30 x31 a43 x44 x45 a50 x51 x52 = if x52 < x51 then (Option.bind (gi a50 x52) fun y189 => if y189.Kind = (10 : Int) then (Option.bind (ap 136 a5 ([y189] : List T_api_Expr)) fun l249 => (roadref2_led.l4 y2 l249 a6 b7 x8 y10 a29 x30 x31 a43 x44 x45 a50 x51 (IntKind.wrap .i64 (x52 + (1 : Int))))) else ((roadref2_led.l4 y2 a5 a6 b7 x8 y10 a29 x30 x31 a43 x44 x45 a50 x51 (IntKind.wrap .i64 (x52 + (1 : Int)))))) else ((roadref2_led.l3 y2 a5 a6 b7 x8 y10 a29 x30 x31 a43 x44 (IntKind.wrap .i64 (x45 + (1 : Int))))) := fixF_eq roadref2_led.l0_k.mono _
theorem roadref2_led.j0_eq (y2 : T_api_Program) (a5 : List T_api_Expr) (a6 : List ByteArray) (b7 : Bool) (x8 : Int) (y10 : T_api_Expr) (a29 : List T_api_Expr) (x30 : Int) (x31 : Int) : roadref2_led.j0 y2 a5 a6 b7 x8 y10 a29 x30 x31 = if y10.Kind = (9 : Int) then (Option.bind (slices_Contains_92 a6 y10.Text) fun y170 => if y170 = true then ((roadref2_led.l1 y2 a5 a6 b7 x8 a29 x30 (IntKind.wrap .i64 (x31 + (1 : Int))))) else ((roadref2_led.j2 y2 a5 a6 b7 x8 y10 a29 x30 x31))) else ((roadref2_led.l1 y2 a5 a6 b7 x8 a29 x30 (IntKind.wrap .i64 (x31 + (1 : Int))))) := fixF_eq roadref2_led.l0_k.mono _
theorem roadref2_led.j2_eq (y2 : T_api_Program) (a5 : List T_api_Expr) (a6 : List ByteArray) (b7 : Bool) (x8 : Int) (y10 : T_api_Expr) (a29 : List T_api_Expr) (x30 : Int) (x31 : Int) : roadref2_led.j2 y2 a5 a6 b7 x8 y10 a29 x30 x31 = Option.bind (ap 16 a6 ([y10.Text] : List ByteArray)) fun l293 => Option.bind (roadref2_FunsOf y2) fun y313 => (roadref2_led.l2 y2 a5 l293 b7 x8 y10 a29 x30 x31 y313 (((List.length y313) : Nat) : Int) (0 : Int)) := fixF_eq roadref2_led.l0_k.mono _
theorem roadref2_led.l2_eq (y2 : T_api_Program) (a5 : List T_api_Expr) (a6 : List ByteArray) (b7 : Bool) (x8 : Int) (y10 : T_api_Expr) (a29 : List T_api_Expr) (x30 : Int) (x31 : Int) (a80 : List T_api_Func) (x81 : Int) (x82 : Int) : roadref2_led.l2 y2 a5 a6 b7 x8 y10 a29 x30 x31 a80 x81 x82 = if x82 < x81 then (Option.bind (gi a80 x82) fun y336 => if y336.Name = y10.Text then (Option.bind (ap 136 a5 ([y336.Body] : List T_api_Expr)) fun l391 => (roadref2_led.l2 y2 l391 a6 b7 x8 y10 a29 x30 x31 a80 x81 (IntKind.wrap .i64 (x82 + (1 : Int))))) else ((roadref2_led.l2 y2 a5 a6 b7 x8 y10 a29 x30 x31 a80 x81 (IntKind.wrap .i64 (x82 + (1 : Int)))))) else ((roadref2_led.l1 y2 a5 a6 b7 x8 a29 x30 (IntKind.wrap .i64 (x31 + (1 : Int))))) := fixF_eq roadref2_led.l0_k.mono _
def roadref2_led.l0_k.I : (p : roadref2_led.l0_k.Pt) → ((List T_api_Expr)) → Prop
  | .l0 y2 a5 a6 b7 x8, r => ∀ (h0 m0 h m : Heap) (bk2 : Nat) (cs2 : List Value) (A5 : Option Addr) (n5 c5 : Nat) (A6 : Option Addr) (n6 c6 : Nat) (S : St No h0 m0 h m) (o2 : OB No h0 h m bk2 cs2 53) (e2 : T_api_Program.E m y2 cs2) (ne5 : n5 = List.length a5) (o5 : OS No h0 8 T_api_Expr.E h m A5 a5 c5) (ne6 : n6 = List.length a6) (o6 : OS No h0 1 eStr h m A6 a6 c6) (d0_1 : Dj (fb bk2) (fp A5 c5)) (d0_2 : Dj (fb bk2) (fp A6 c6)) (d1_2 : Dj (fp A5 c5) (fp A6 c6)), f91.l0 (roadref2_led.post No h0 m0 r) (⟨bk2, 0, none⟩ : Addr) A5 n5 c5 A6 n6 c6 b7 x8 h
  | .l1 y2 a5 a6 b7 x8 a29 x30 x31, r => ∀ (h0 m0 h m : Heap) (bk2 : Nat) (cs2 : List Value) (A5 : Option Addr) (n5 c5 : Nat) (A6 : Option Addr) (n6 c6 : Nat) (A29 : Option Addr) (n29 c29 : Nat) (S : St No h0 m0 h m) (o2 : OB No h0 h m bk2 cs2 53) (e2 : T_api_Program.E m y2 cs2) (ne5 : n5 = List.length a5) (o5 : OS No h0 8 T_api_Expr.E h m A5 a5 c5) (ne6 : n6 = List.length a6) (o6 : OS No h0 1 eStr h m A6 a6 c6) (ne29 : n29 = List.length a29) (o29 : OS No h0 8 T_api_Expr.E h m A29 a29 c29) (d0_1 : Dj (fb bk2) (fp A5 c5)) (d0_2 : Dj (fb bk2) (fp A6 c6)) (d0_3 : Dj (fb bk2) (fp A29 c29)) (d1_2 : Dj (fp A5 c5) (fp A6 c6)) (d1_3 : Dj (fp A5 c5) (fp A29 c29)) (d2_3 : Dj (fp A6 c6) (fp A29 c29)), f91.l1 (roadref2_led.post No h0 m0 r) (⟨bk2, 0, none⟩ : Addr) A5 n5 c5 A6 n6 c6 b7 x8 A29 n29 c29 x30 x31 h
  | .j1 y2 a5 a6 b7 x8 y10 a29 x30 x31 b41, r => ∀ (h0 m0 h m : Heap) (bk2 : Nat) (cs2 : List Value) (A5 : Option Addr) (n5 c5 : Nat) (A6 : Option Addr) (n6 c6 : Nat) (bk10 : Nat) (cs10 : List Value) (A29 : Option Addr) (n29 c29 : Nat) (S : St No h0 m0 h m) (o2 : OB No h0 h m bk2 cs2 53) (e2 : T_api_Program.E m y2 cs2) (ne5 : n5 = List.length a5) (o5 : OS No h0 8 T_api_Expr.E h m A5 a5 c5) (ne6 : n6 = List.length a6) (o6 : OS No h0 1 eStr h m A6 a6 c6) (o10 : OB No h0 h m bk10 cs10 71) (e10 : T_api_Expr.E m y10 cs10) (ne29 : n29 = List.length a29) (o29 : OS No h0 8 T_api_Expr.E h m A29 a29 c29) (d0_1 : Dj (fb bk2) (fp A5 c5)) (d0_2 : Dj (fb bk2) (fp A6 c6)) (d0_3 : Dj (fb bk2) (fb bk10)) (d0_4 : Dj (fb bk2) (fp A29 c29)) (d1_2 : Dj (fp A5 c5) (fp A6 c6)) (d1_3 : Dj (fp A5 c5) (fb bk10)) (d1_4 : Dj (fp A5 c5) (fp A29 c29)) (d2_3 : Dj (fp A6 c6) (fb bk10)) (d2_4 : Dj (fp A6 c6) (fp A29 c29)) (d3_4 : Dj (fb bk10) (fp A29 c29)), f91.j1 (roadref2_led.post No h0 m0 r) (⟨bk2, 0, none⟩ : Addr) A5 n5 c5 A6 n6 c6 b7 x8 (⟨bk10, 0, none⟩ : Addr) A29 n29 c29 x30 x31 b41 h
  | .l3 y2 a5 a6 b7 x8 y10 a29 x30 x31 a43 x44 x45, r => ∀ (h0 m0 h m : Heap) (bk2 : Nat) (cs2 : List Value) (A5 : Option Addr) (n5 c5 : Nat) (A6 : Option Addr) (n6 c6 : Nat) (bk10 : Nat) (cs10 : List Value) (A29 : Option Addr) (n29 c29 : Nat) (A43 : Option Addr) (n43 c43 : Nat) (S : St No h0 m0 h m) (o2 : OB No h0 h m bk2 cs2 53) (e2 : T_api_Program.E m y2 cs2) (ne5 : n5 = List.length a5) (o5 : OS No h0 8 T_api_Expr.E h m A5 a5 c5) (ne6 : n6 = List.length a6) (o6 : OS No h0 1 eStr h m A6 a6 c6) (o10 : OB No h0 h m bk10 cs10 71) (e10 : T_api_Expr.E m y10 cs10) (ne29 : n29 = List.length a29) (o29 : OS No h0 8 T_api_Expr.E h m A29 a29 c29) (ne43 : n43 = List.length a43) (o43 : OS No h0 8 T_api_Expr.E h m A43 a43 c43) (d0_1 : Dj (fb bk2) (fp A5 c5)) (d0_2 : Dj (fb bk2) (fp A6 c6)) (d0_3 : Dj (fb bk2) (fb bk10)) (d0_4 : Dj (fb bk2) (fp A29 c29)) (d0_5 : Dj (fb bk2) (fp A43 c43)) (d1_2 : Dj (fp A5 c5) (fp A6 c6)) (d1_3 : Dj (fp A5 c5) (fb bk10)) (d1_4 : Dj (fp A5 c5) (fp A29 c29)) (d1_5 : Dj (fp A5 c5) (fp A43 c43)) (d2_3 : Dj (fp A6 c6) (fb bk10)) (d2_4 : Dj (fp A6 c6) (fp A29 c29)) (d2_5 : Dj (fp A6 c6) (fp A43 c43)) (d3_4 : Dj (fb bk10) (fp A29 c29)) (d3_5 : Dj (fb bk10) (fp A43 c43)) (d4_5 : Dj (fp A29 c29) (fp A43 c43)), f91.l3 (roadref2_led.post No h0 m0 r) (⟨bk2, 0, none⟩ : Addr) A5 n5 c5 A6 n6 c6 b7 x8 (⟨bk10, 0, none⟩ : Addr) A29 n29 c29 x30 x31 A43 n43 c43 x44 x45 h
  | .l4 y2 a5 a6 b7 x8 y10 a29 x30 x31 a43 x44 x45 a50 x51 x52, r => ∀ (h0 m0 h m : Heap) (bk2 : Nat) (cs2 : List Value) (A5 : Option Addr) (n5 c5 : Nat) (A6 : Option Addr) (n6 c6 : Nat) (bk10 : Nat) (cs10 : List Value) (A29 : Option Addr) (n29 c29 : Nat) (A43 : Option Addr) (n43 c43 : Nat) (A50 : Option Addr) (n50 c50 : Nat) (S : St No h0 m0 h m) (o2 : OB No h0 h m bk2 cs2 53) (e2 : T_api_Program.E m y2 cs2) (ne5 : n5 = List.length a5) (o5 : OS No h0 8 T_api_Expr.E h m A5 a5 c5) (ne6 : n6 = List.length a6) (o6 : OS No h0 1 eStr h m A6 a6 c6) (o10 : OB No h0 h m bk10 cs10 71) (e10 : T_api_Expr.E m y10 cs10) (ne29 : n29 = List.length a29) (o29 : OS No h0 8 T_api_Expr.E h m A29 a29 c29) (ne43 : n43 = List.length a43) (o43 : OS No h0 8 T_api_Expr.E h m A43 a43 c43) (ne50 : n50 = List.length a50) (o50 : OS No h0 8 T_api_Expr.E h m A50 a50 c50) (d0_1 : Dj (fb bk2) (fp A5 c5)) (d0_2 : Dj (fb bk2) (fp A6 c6)) (d0_3 : Dj (fb bk2) (fb bk10)) (d0_4 : Dj (fb bk2) (fp A29 c29)) (d0_5 : Dj (fb bk2) (fp A43 c43)) (d0_6 : Dj (fb bk2) (fp A50 c50)) (d1_2 : Dj (fp A5 c5) (fp A6 c6)) (d1_3 : Dj (fp A5 c5) (fb bk10)) (d1_4 : Dj (fp A5 c5) (fp A29 c29)) (d1_5 : Dj (fp A5 c5) (fp A43 c43)) (d1_6 : Dj (fp A5 c5) (fp A50 c50)) (d2_3 : Dj (fp A6 c6) (fb bk10)) (d2_4 : Dj (fp A6 c6) (fp A29 c29)) (d2_5 : Dj (fp A6 c6) (fp A43 c43)) (d2_6 : Dj (fp A6 c6) (fp A50 c50)) (d3_4 : Dj (fb bk10) (fp A29 c29)) (d3_5 : Dj (fb bk10) (fp A43 c43)) (d3_6 : Dj (fb bk10) (fp A50 c50)) (d4_5 : Dj (fp A29 c29) (fp A43 c43)) (d4_6 : Dj (fp A29 c29) (fp A50 c50)) (d5_6 : Dj (fp A43 c43) (fp A50 c50)), f91.l4 (roadref2_led.post No h0 m0 r) (⟨bk2, 0, none⟩ : Addr) A5 n5 c5 A6 n6 c6 b7 x8 (⟨bk10, 0, none⟩ : Addr) A29 n29 c29 x30 x31 A43 n43 c43 x44 x45 A50 n50 c50 x51 x52 h
  | .j0 y2 a5 a6 b7 x8 y10 a29 x30 x31, r => ∀ (h0 m0 h m : Heap) (bk2 : Nat) (cs2 : List Value) (A5 : Option Addr) (n5 c5 : Nat) (A6 : Option Addr) (n6 c6 : Nat) (bk10 : Nat) (cs10 : List Value) (A29 : Option Addr) (n29 c29 : Nat) (S : St No h0 m0 h m) (o2 : OB No h0 h m bk2 cs2 53) (e2 : T_api_Program.E m y2 cs2) (ne5 : n5 = List.length a5) (o5 : OS No h0 8 T_api_Expr.E h m A5 a5 c5) (ne6 : n6 = List.length a6) (o6 : OS No h0 1 eStr h m A6 a6 c6) (o10 : OB No h0 h m bk10 cs10 71) (e10 : T_api_Expr.E m y10 cs10) (ne29 : n29 = List.length a29) (o29 : OS No h0 8 T_api_Expr.E h m A29 a29 c29) (d0_1 : Dj (fb bk2) (fp A5 c5)) (d0_2 : Dj (fb bk2) (fp A6 c6)) (d0_3 : Dj (fb bk2) (fb bk10)) (d0_4 : Dj (fb bk2) (fp A29 c29)) (d1_2 : Dj (fp A5 c5) (fp A6 c6)) (d1_3 : Dj (fp A5 c5) (fb bk10)) (d1_4 : Dj (fp A5 c5) (fp A29 c29)) (d2_3 : Dj (fp A6 c6) (fb bk10)) (d2_4 : Dj (fp A6 c6) (fp A29 c29)) (d3_4 : Dj (fb bk10) (fp A29 c29)), f91.j0 (roadref2_led.post No h0 m0 r) (⟨bk2, 0, none⟩ : Addr) A5 n5 c5 A6 n6 c6 b7 x8 (⟨bk10, 0, none⟩ : Addr) A29 n29 c29 x30 x31 h
  | .j2 y2 a5 a6 b7 x8 y10 a29 x30 x31, r => ∀ (h0 m0 h m : Heap) (bk2 : Nat) (cs2 : List Value) (A5 : Option Addr) (n5 c5 : Nat) (A6 : Option Addr) (n6 c6 : Nat) (bk10 : Nat) (cs10 : List Value) (A29 : Option Addr) (n29 c29 : Nat) (S : St No h0 m0 h m) (o2 : OB No h0 h m bk2 cs2 53) (e2 : T_api_Program.E m y2 cs2) (ne5 : n5 = List.length a5) (o5 : OS No h0 8 T_api_Expr.E h m A5 a5 c5) (ne6 : n6 = List.length a6) (o6 : OS No h0 1 eStr h m A6 a6 c6) (o10 : OB No h0 h m bk10 cs10 71) (e10 : T_api_Expr.E m y10 cs10) (ne29 : n29 = List.length a29) (o29 : OS No h0 8 T_api_Expr.E h m A29 a29 c29) (d0_1 : Dj (fb bk2) (fp A5 c5)) (d0_2 : Dj (fb bk2) (fp A6 c6)) (d0_3 : Dj (fb bk2) (fb bk10)) (d0_4 : Dj (fb bk2) (fp A29 c29)) (d1_2 : Dj (fp A5 c5) (fp A6 c6)) (d1_3 : Dj (fp A5 c5) (fb bk10)) (d1_4 : Dj (fp A5 c5) (fp A29 c29)) (d2_3 : Dj (fp A6 c6) (fb bk10)) (d2_4 : Dj (fp A6 c6) (fp A29 c29)) (d3_4 : Dj (fb bk10) (fp A29 c29)), f91.j2 (roadref2_led.post No h0 m0 r) (⟨bk2, 0, none⟩ : Addr) A5 n5 c5 A6 n6 c6 b7 x8 (⟨bk10, 0, none⟩ : Addr) A29 n29 c29 x30 x31 h
  | .l2 y2 a5 a6 b7 x8 y10 a29 x30 x31 a80 x81 x82, r => ∀ (h0 m0 h m : Heap) (bk2 : Nat) (cs2 : List Value) (A5 : Option Addr) (n5 c5 : Nat) (A6 : Option Addr) (n6 c6 : Nat) (bk10 : Nat) (cs10 : List Value) (A29 : Option Addr) (n29 c29 : Nat) (A80 : Option Addr) (n80 c80 : Nat) (S : St No h0 m0 h m) (o2 : OB No h0 h m bk2 cs2 53) (e2 : T_api_Program.E m y2 cs2) (ne5 : n5 = List.length a5) (o5 : OS No h0 8 T_api_Expr.E h m A5 a5 c5) (ne6 : n6 = List.length a6) (o6 : OS No h0 1 eStr h m A6 a6 c6) (o10 : OB No h0 h m bk10 cs10 71) (e10 : T_api_Expr.E m y10 cs10) (ne29 : n29 = List.length a29) (o29 : OS No h0 8 T_api_Expr.E h m A29 a29 c29) (ne80 : n80 = List.length a80) (o80 : OS No h0 15 T_api_Func.E h m A80 a80 c80) (d0_1 : Dj (fb bk2) (fp A5 c5)) (d0_2 : Dj (fb bk2) (fp A6 c6)) (d0_3 : Dj (fb bk2) (fb bk10)) (d0_4 : Dj (fb bk2) (fp A29 c29)) (d0_5 : Dj (fb bk2) (fp A80 c80)) (d1_2 : Dj (fp A5 c5) (fp A6 c6)) (d1_3 : Dj (fp A5 c5) (fb bk10)) (d1_4 : Dj (fp A5 c5) (fp A29 c29)) (d1_5 : Dj (fp A5 c5) (fp A80 c80)) (d2_3 : Dj (fp A6 c6) (fb bk10)) (d2_4 : Dj (fp A6 c6) (fp A29 c29)) (d2_5 : Dj (fp A6 c6) (fp A80 c80)) (d3_4 : Dj (fb bk10) (fp A29 c29)) (d3_5 : Dj (fb bk10) (fp A80 c80)) (d4_5 : Dj (fp A29 c29) (fp A80 c80)), f91.l2 (roadref2_led.post No h0 m0 r) (⟨bk2, 0, none⟩ : Addr) A5 n5 c5 A6 n6 c6 b7 x8 (⟨bk10, 0, none⟩ : Addr) A29 n29 c29 x30 x31 A80 n80 c80 x81 x82 h
set_option maxRecDepth 100000 in
theorem roadref2_led.l0_k.step_l0 (go : (p : roadref2_led.l0_k.Pt) → Option ((List T_api_Expr))) (ih : ∀ p r, go p = some r → roadref2_led.l0_k.I p r) (y2 : T_api_Program) (a5 : List T_api_Expr) (a6 : List ByteArray) (b7 : Bool) (x8 : Int) (r : (List T_api_Expr)) (e : roadref2_led.l0_k.body go (.l0 y2 a5 a6 b7 x8) = some r) : roadref2_led.l0_k.I (.l0 y2 a5 a6 b7 x8) r := by
  unfold roadref2_led.l0_k.body at e
  intro h0 m0 h m bk2 cs2 A5 n5 c5 A6 n6 c6 S o2 e2 ne5 o5 ne6 o6 d0_1 d0_2 d1_2
  obtain ⟨Ae2_2, ce2_2, Ae2_3, ce2_3, Ae2_4, ce2_4, Ae2_5, ce2_5, Ae2_6, ce2_6, Ae2_7, ce2_7, rfl, ke2_2, re2_2, ke2_3, re2_3, ke2_4, re2_4, ke2_5, re2_5, ke2_6, re2_6, ke2_7, re2_7⟩ := e2
  subst ne5
  subst ne6
  refine f91.l0_in ?_
  unfold f91.l0T
  refine split_dec_e e (fun c51 e => ?_) (fun c51 e => ?_)
  · obtain ⟨y25, g26, e⟩ := bind_e e
    refine o5.addr rfl g26 fun a27 cs28 ha29 hc30 he31 => ?_
    obtain ⟨Aa27_3, ca27_3, Aa27_4, ca27_4, Aa27_5, ca27_5, Aa27_6, ca27_6, rfl, ka27_3, ra27_3, ka27_4, ra27_4, ka27_5, ra27_5, ka27_6, ra27_6⟩ := T_api_Expr.iff.1 he31
    refine ⟨_, ldA (Sub.refl _) hc30, ?_⟩
    obtain ⟨y32, g33, e⟩ := bind_e e
    refine (roadref2_All.walk S.s (T_api_Expr.iff.2 ⟨_, _, _, _, _, _, _, _, rfl, ka27_3, ra27_3, ka27_4, ra27_4, ka27_5, ra27_5, ka27_6, ra27_6⟩) g33).mono ?_
    rintro _ h34 ⟨m35, A37, n38, c39, T36, rfl, ne40, o41⟩
    subst ne40
    have S43 := S.grow T36
    have o44 := o2.step T36 Dj.no
    have o45 := o5.step T_api_Expr.T T36 Dj.no
    have o46 := o6.step tell_str T36 Dj.no
    have d48 : Dj (fb bk2) (fp A37 c39) := fun i h1 h2 => absurd (o2.lt i h1) (Nat.not_lt.2 ((o41.new i h2).elim (fun h => h.elim) id))
    have d49 : Dj (fp A5 c5) (fp A37 c39) := fun i h1 h2 => absurd (o5.lt i h1) (Nat.not_lt.2 ((o41.new i h2).elim (fun h => h.elim) id))
    have d50 : Dj (fp A6 c6) (fp A37 c39) := fun i h1 h2 => absurd (o6.lt i h1) (Nat.not_lt.2 ((o41.new i h2).elim (fun h => h.elim) id))
    have o47 := o41.take S (fun _ h => h.elim)
    refine ⟨_, _, _, rfl, ?_⟩
    exact (ih _ _ e) _ _ _ _ _ _ _ _ _ _ _ _ _ _ _ S43 o44 (show T_api_Program.E _ y2 [(Value.string y2.Name), (Value.int .i64 y2.Version), (Value.slice Ae2_2 (List.length y2.Uses) ce2_2), (Value.slice Ae2_3 (List.length y2.Datas) ce2_3), (Value.slice Ae2_4 (List.length y2.Traits) ce2_4), (Value.slice Ae2_5 (List.length y2.Impls) ce2_5), (Value.slice Ae2_6 (List.length y2.Funcs) ce2_6), (Value.slice Ae2_7 (List.length y2.Actors) ce2_7)] from ⟨_, _, _, _, _, _, _, _, _, _, _, _, rfl, ke2_2, (re2_2.sub T_api_Use.T T36.up), ke2_3, (re2_3.sub T_api_Data.T T36.up), ke2_4, (re2_4.sub T_api_Trait.T T36.up), ke2_5, (re2_5.sub T_api_Impl.T T36.up), ke2_6, (re2_6.sub T_api_Func.T T36.up), ke2_7, (re2_7.sub T_api_Actor.T T36.up)⟩) rfl o45 rfl o46 rfl o47 d0_1 d0_2 d48 d1_2 d49 d50
  · cases e
    exact ⟨_, _, _, _, S, rfl, rfl, o5⟩
set_option maxRecDepth 100000 in
theorem roadref2_led.l0_k.step_l1 (go : (p : roadref2_led.l0_k.Pt) → Option ((List T_api_Expr))) (ih : ∀ p r, go p = some r → roadref2_led.l0_k.I p r) (y2 : T_api_Program) (a5 : List T_api_Expr) (a6 : List ByteArray) (b7 : Bool) (x8 : Int) (a29 : List T_api_Expr) (x30 : Int) (x31 : Int) (r : (List T_api_Expr)) (e : roadref2_led.l0_k.body go (.l1 y2 a5 a6 b7 x8 a29 x30 x31) = some r) : roadref2_led.l0_k.I (.l1 y2 a5 a6 b7 x8 a29 x30 x31) r := by
  unfold roadref2_led.l0_k.body at e
  intro h0 m0 h m bk2 cs2 A5 n5 c5 A6 n6 c6 A29 n29 c29 S o2 e2 ne5 o5 ne6 o6 ne29 o29 d0_1 d0_2 d0_3 d1_2 d1_3 d2_3
  obtain ⟨Ae2_2, ce2_2, Ae2_3, ce2_3, Ae2_4, ce2_4, Ae2_5, ce2_5, Ae2_6, ce2_6, Ae2_7, ce2_7, rfl, ke2_2, re2_2, ke2_3, re2_3, ke2_4, re2_4, ke2_5, re2_5, ke2_6, re2_6, ke2_7, re2_7⟩ := e2
  subst ne5
  subst ne6
  subst ne29
  refine f91.l1_in ?_
  unfold f91.l1T
  refine split_dec_e e (fun c82 e => ?_) (fun c82 e => ?_)
  · obtain ⟨y52, g53, e⟩ := bind_e e
    refine o29.addr rfl g53 fun a54 cs55 ha56 hc57 he58 => ?_
    obtain ⟨Aa54_3, ca54_3, Aa54_4, ca54_4, Aa54_5, ca54_5, Aa54_6, ca54_6, rfl, ka54_3, ra54_3, ka54_4, ra54_4, ka54_5, ra54_5, ka54_6, ra54_6⟩ := T_api_Expr.iff.1 he58
    refine ⟨_, ldA (Sub.refl _) hc57, ?_⟩
    refine new_in S fun h59 o60 x61 => ?_
    have d64 : Dj (fb bk2) (fb (Array.size h)) := Dj.new o2.lt
    have d65 : Dj (fp A5 c5) (fb (Array.size h)) := Dj.new o5.lt
    have d66 : Dj (fp A6 c6) (fb (Array.size h)) := Dj.new o6.lt
    have d67 : Dj (fp A29 c29) (fb (Array.size h)) := Dj.new o29.lt
    have o68 := o2.ext x61
    have o69 := o5.ext T_api_Expr.T S.s x61
    have o70 := o6.ext tell_str S.s x61
    have o71 := o29.ext T_api_Expr.T S.s x61
    have S62 := S.ext' x61
    have o60 : OB _ _ h59 _ (Array.size h) [(Value.int .i64 (0 : Int)), (Value.int .i64 (0 : Int)), (Value.string (ByteArray.mk #[])), (Value.slice none 0 0), (Value.slice none 0 0), (Value.slice none 0 0), (Value.slice none 0 0), (Value.int .i64 (0 : Int))] 71 := o60
    obtain ⟨h72, w73, o74, t75⟩ := o60.stA S62.s [(Value.int .i64 y52.Kind), (Value.int .i64 y52.Num), (Value.string y52.Text), (Value.slice Aa54_3 (List.length y52.Names) ca54_3), (Value.slice Aa54_4 (List.length y52.Types) ca54_4), (Value.slice Aa54_5 (List.length y52.Args) ca54_5), (Value.slice Aa54_6 (List.length y52.Arms) ca54_6), (Value.int .i64 y52.At)] rfl (Flats.cons trivial (Flats.cons trivial (Flats.cons trivial (Flats.cons trivial (Flats.cons trivial (Flats.cons trivial (Flats.cons trivial (Flats.cons trivial Flats.nil))))))))
    refine ⟨[(Value.int .i64 y52.Kind), (Value.int .i64 y52.Num), (Value.string y52.Text), (Value.slice Aa54_3 (List.length y52.Names) ca54_3), (Value.slice Aa54_4 (List.length y52.Types) ca54_4), (Value.slice Aa54_5 (List.length y52.Args) ca54_5), (Value.slice Aa54_6 (List.length y52.Arms) ca54_6), (Value.int .i64 y52.At)], rfl, rfl, h72, w73, ?_⟩
    have o74 : OB _ _ h72 _ (Array.size h) [(Value.int .i64 y52.Kind), (Value.int .i64 y52.Num), (Value.string y52.Text), (Value.slice Aa54_3 (List.length y52.Names) ca54_3), (Value.slice Aa54_4 (List.length y52.Types) ca54_4), (Value.slice Aa54_5 (List.length y52.Args) ca54_5), (Value.slice Aa54_6 (List.length y52.Arms) ca54_6), (Value.int .i64 y52.At)] 71 := o74
    have S76 := S62.then t75 (fun i _ hi => o60.wr i hi)
    have o77 := o68.step t75 (d64).symm
    have o78 := o69.step T_api_Expr.T t75 (d65).symm
    have o79 := o70.step tell_str t75 (d66).symm
    have o80 := o71.step T_api_Expr.T t75 (d67).symm
    refine ⟨_, ld0 (Sub.refl _) o74.all rfl, _, rfl, ?_⟩
    refine split_eq_e e (fun c81 e => ?_) (fun c81 e => ?_)
    · exact (ih _ _ e) _ _ _ _ _ _ _ _ _ _ _ _ _ _ _ _ _ S76 o77 (show T_api_Program.E _ y2 [(Value.string y2.Name), (Value.int .i64 y2.Version), (Value.slice Ae2_2 (List.length y2.Uses) ce2_2), (Value.slice Ae2_3 (List.length y2.Datas) ce2_3), (Value.slice Ae2_4 (List.length y2.Traits) ce2_4), (Value.slice Ae2_5 (List.length y2.Impls) ce2_5), (Value.slice Ae2_6 (List.length y2.Funcs) ce2_6), (Value.slice Ae2_7 (List.length y2.Actors) ce2_7)] from ⟨_, _, _, _, _, _, _, _, _, _, _, _, rfl, ke2_2, re2_2, ke2_3, re2_3, ke2_4, re2_4, ke2_5, re2_5, ke2_6, re2_6, ke2_7, re2_7⟩) rfl o78 rfl o79 o74 (T_api_Expr.iff.2 ⟨_, _, _, _, _, _, _, _, rfl, ka54_3, ra54_3, ka54_4, ra54_4, ka54_5, ra54_5, ka54_6, ra54_6⟩) rfl o80 d0_1 d0_2 d64 d0_3 d1_2 d65 d1_3 d66 d2_3 (d67).symm
    · exact (ih _ _ e) _ _ _ _ _ _ _ _ _ _ _ _ _ _ _ _ _ S76 o77 (show T_api_Program.E _ y2 [(Value.string y2.Name), (Value.int .i64 y2.Version), (Value.slice Ae2_2 (List.length y2.Uses) ce2_2), (Value.slice Ae2_3 (List.length y2.Datas) ce2_3), (Value.slice Ae2_4 (List.length y2.Traits) ce2_4), (Value.slice Ae2_5 (List.length y2.Impls) ce2_5), (Value.slice Ae2_6 (List.length y2.Funcs) ce2_6), (Value.slice Ae2_7 (List.length y2.Actors) ce2_7)] from ⟨_, _, _, _, _, _, _, _, _, _, _, _, rfl, ke2_2, re2_2, ke2_3, re2_3, ke2_4, re2_4, ke2_5, re2_5, ke2_6, re2_6, ke2_7, re2_7⟩) rfl o78 rfl o79 o74 (T_api_Expr.iff.2 ⟨_, _, _, _, _, _, _, _, rfl, ka54_3, ra54_3, ka54_4, ra54_4, ka54_5, ra54_5, ka54_6, ra54_6⟩) rfl o80 d0_1 d0_2 d64 d0_3 d1_2 d65 d1_3 d66 d2_3 (d67).symm
  · exact (ih _ _ e) _ _ _ _ _ _ _ _ _ _ _ _ S o2 (show T_api_Program.E _ y2 [(Value.string y2.Name), (Value.int .i64 y2.Version), (Value.slice Ae2_2 (List.length y2.Uses) ce2_2), (Value.slice Ae2_3 (List.length y2.Datas) ce2_3), (Value.slice Ae2_4 (List.length y2.Traits) ce2_4), (Value.slice Ae2_5 (List.length y2.Impls) ce2_5), (Value.slice Ae2_6 (List.length y2.Funcs) ce2_6), (Value.slice Ae2_7 (List.length y2.Actors) ce2_7)] from ⟨_, _, _, _, _, _, _, _, _, _, _, _, rfl, ke2_2, re2_2, ke2_3, re2_3, ke2_4, re2_4, ke2_5, re2_5, ke2_6, re2_6, ke2_7, re2_7⟩) rfl o5 rfl o6 d0_1 d0_2 d1_2
set_option maxRecDepth 100000 in
theorem roadref2_led.l0_k.step_j1 (go : (p : roadref2_led.l0_k.Pt) → Option ((List T_api_Expr))) (ih : ∀ p r, go p = some r → roadref2_led.l0_k.I p r) (y2 : T_api_Program) (a5 : List T_api_Expr) (a6 : List ByteArray) (b7 : Bool) (x8 : Int) (y10 : T_api_Expr) (a29 : List T_api_Expr) (x30 : Int) (x31 : Int) (b41 : Bool) (r : (List T_api_Expr)) (e : roadref2_led.l0_k.body go (.j1 y2 a5 a6 b7 x8 y10 a29 x30 x31 b41) = some r) : roadref2_led.l0_k.I (.j1 y2 a5 a6 b7 x8 y10 a29 x30 x31 b41) r := by
  unfold roadref2_led.l0_k.body at e
  intro h0 m0 h m bk2 cs2 A5 n5 c5 A6 n6 c6 bk10 cs10 A29 n29 c29 S o2 e2 ne5 o5 ne6 o6 o10 e10 ne29 o29 d0_1 d0_2 d0_3 d0_4 d1_2 d1_3 d1_4 d2_3 d2_4 d3_4
  obtain ⟨Ae2_2, ce2_2, Ae2_3, ce2_3, Ae2_4, ce2_4, Ae2_5, ce2_5, Ae2_6, ce2_6, Ae2_7, ce2_7, rfl, ke2_2, re2_2, ke2_3, re2_3, ke2_4, re2_4, ke2_5, re2_5, ke2_6, re2_6, ke2_7, re2_7⟩ := e2
  subst ne5
  subst ne6
  obtain ⟨Ae10_3, ce10_3, Ae10_4, ce10_4, Ae10_5, ce10_5, Ae10_6, ce10_6, rfl, ke10_3, re10_3, ke10_4, re10_4, ke10_5, re10_5, ke10_6, re10_6⟩ := T_api_Expr.iff.1 e10
  subst ne29
  refine f91.j1_in ?_
  unfold f91.j1T
  refine split_any_e e (fun c106 e => ?_) (fun c106 e => ?_)
  · refine ⟨_, ldA (Sub.refl _) o2.all, ?_⟩
    obtain ⟨y83, g84, e⟩ := bind_e e
    refine (roadref2_BodiesOf.walk S.s (show T_api_Program.E _ y2 [(Value.string y2.Name), (Value.int .i64 y2.Version), (Value.slice Ae2_2 (List.length y2.Uses) ce2_2), (Value.slice Ae2_3 (List.length y2.Datas) ce2_3), (Value.slice Ae2_4 (List.length y2.Traits) ce2_4), (Value.slice Ae2_5 (List.length y2.Impls) ce2_5), (Value.slice Ae2_6 (List.length y2.Funcs) ce2_6), (Value.slice Ae2_7 (List.length y2.Actors) ce2_7)] from ⟨_, _, _, _, _, _, _, _, _, _, _, _, rfl, ke2_2, re2_2, ke2_3, re2_3, ke2_4, re2_4, ke2_5, re2_5, ke2_6, re2_6, ke2_7, re2_7⟩) g84).mono ?_
    rintro _ h85 ⟨m86, A88, n89, c90, T87, rfl, ne91, o92⟩
    subst ne91
    have S94 := S.grow T87
    have o95 := o2.step T87 Dj.no
    have o96 := o5.step T_api_Expr.T T87 Dj.no
    have o97 := o6.step tell_str T87 Dj.no
    have o98 := o10.step T87 Dj.no
    have o99 := o29.step T_api_Expr.T T87 Dj.no
    have d101 : Dj (fb bk2) (fp A88 c90) := fun i h1 h2 => absurd (o2.lt i h1) (Nat.not_lt.2 ((o92.new i h2).elim (fun h => h.elim) id))
    have d102 : Dj (fp A5 c5) (fp A88 c90) := fun i h1 h2 => absurd (o5.lt i h1) (Nat.not_lt.2 ((o92.new i h2).elim (fun h => h.elim) id))
    have d103 : Dj (fp A6 c6) (fp A88 c90) := fun i h1 h2 => absurd (o6.lt i h1) (Nat.not_lt.2 ((o92.new i h2).elim (fun h => h.elim) id))
    have d104 : Dj (fb bk10) (fp A88 c90) := fun i h1 h2 => absurd (o10.lt i h1) (Nat.not_lt.2 ((o92.new i h2).elim (fun h => h.elim) id))
    have d105 : Dj (fp A29 c29) (fp A88 c90) := fun i h1 h2 => absurd (o29.lt i h1) (Nat.not_lt.2 ((o92.new i h2).elim (fun h => h.elim) id))
    have o100 := o92.take S (fun _ h => h.elim)
    refine ⟨_, _, _, rfl, ?_⟩
    exact (ih _ _ e) _ _ _ _ _ _ _ _ _ _ _ _ _ _ _ _ _ _ _ _ S94 o95 (show T_api_Program.E _ y2 [(Value.string y2.Name), (Value.int .i64 y2.Version), (Value.slice Ae2_2 (List.length y2.Uses) ce2_2), (Value.slice Ae2_3 (List.length y2.Datas) ce2_3), (Value.slice Ae2_4 (List.length y2.Traits) ce2_4), (Value.slice Ae2_5 (List.length y2.Impls) ce2_5), (Value.slice Ae2_6 (List.length y2.Funcs) ce2_6), (Value.slice Ae2_7 (List.length y2.Actors) ce2_7)] from ⟨_, _, _, _, _, _, _, _, _, _, _, _, rfl, ke2_2, (re2_2.sub T_api_Use.T T87.up), ke2_3, (re2_3.sub T_api_Data.T T87.up), ke2_4, (re2_4.sub T_api_Trait.T T87.up), ke2_5, (re2_5.sub T_api_Impl.T T87.up), ke2_6, (re2_6.sub T_api_Func.T T87.up), ke2_7, (re2_7.sub T_api_Actor.T T87.up)⟩) rfl o96 rfl o97 o98 (T_api_Expr.iff.2 ⟨_, _, _, _, _, _, _, _, rfl, ke10_3, (re10_3.sub tell_str T87.up), ke10_4, (re10_4.sub T_api_Type.T T87.up), ke10_5, (re10_5.sub T_api_Expr.T T87.up), ke10_6, (re10_6.sub T_api_Arm.T T87.up)⟩) rfl o99 rfl o100 d0_1 d0_2 d0_3 d0_4 d101 d1_2 d1_3 d1_4 d102 d2_3 d2_4 d103 d3_4 d104 d105
  · exact (ih _ _ e) _ _ _ _ _ _ _ _ _ _ _ _ _ _ _ _ _ S o2 (show T_api_Program.E _ y2 [(Value.string y2.Name), (Value.int .i64 y2.Version), (Value.slice Ae2_2 (List.length y2.Uses) ce2_2), (Value.slice Ae2_3 (List.length y2.Datas) ce2_3), (Value.slice Ae2_4 (List.length y2.Traits) ce2_4), (Value.slice Ae2_5 (List.length y2.Impls) ce2_5), (Value.slice Ae2_6 (List.length y2.Funcs) ce2_6), (Value.slice Ae2_7 (List.length y2.Actors) ce2_7)] from ⟨_, _, _, _, _, _, _, _, _, _, _, _, rfl, ke2_2, re2_2, ke2_3, re2_3, ke2_4, re2_4, ke2_5, re2_5, ke2_6, re2_6, ke2_7, re2_7⟩) rfl o5 rfl o6 o10 (T_api_Expr.iff.2 ⟨_, _, _, _, _, _, _, _, rfl, ke10_3, re10_3, ke10_4, re10_4, ke10_5, re10_5, ke10_6, re10_6⟩) rfl o29 d0_1 d0_2 d0_3 d0_4 d1_2 d1_3 d1_4 d2_3 d2_4 d3_4
set_option maxRecDepth 100000 in
theorem roadref2_led.l0_k.step_l3 (go : (p : roadref2_led.l0_k.Pt) → Option ((List T_api_Expr))) (ih : ∀ p r, go p = some r → roadref2_led.l0_k.I p r) (y2 : T_api_Program) (a5 : List T_api_Expr) (a6 : List ByteArray) (b7 : Bool) (x8 : Int) (y10 : T_api_Expr) (a29 : List T_api_Expr) (x30 : Int) (x31 : Int) (a43 : List T_api_Expr) (x44 : Int) (x45 : Int) (r : (List T_api_Expr)) (e : roadref2_led.l0_k.body go (.l3 y2 a5 a6 b7 x8 y10 a29 x30 x31 a43 x44 x45) = some r) : roadref2_led.l0_k.I (.l3 y2 a5 a6 b7 x8 y10 a29 x30 x31 a43 x44 x45) r := by
  unfold roadref2_led.l0_k.body at e
  intro h0 m0 h m bk2 cs2 A5 n5 c5 A6 n6 c6 bk10 cs10 A29 n29 c29 A43 n43 c43 S o2 e2 ne5 o5 ne6 o6 o10 e10 ne29 o29 ne43 o43 d0_1 d0_2 d0_3 d0_4 d0_5 d1_2 d1_3 d1_4 d1_5 d2_3 d2_4 d2_5 d3_4 d3_5 d4_5
  obtain ⟨Ae2_2, ce2_2, Ae2_3, ce2_3, Ae2_4, ce2_4, Ae2_5, ce2_5, Ae2_6, ce2_6, Ae2_7, ce2_7, rfl, ke2_2, re2_2, ke2_3, re2_3, ke2_4, re2_4, ke2_5, re2_5, ke2_6, re2_6, ke2_7, re2_7⟩ := e2
  subst ne5
  subst ne6
  obtain ⟨Ae10_3, ce10_3, Ae10_4, ce10_4, Ae10_5, ce10_5, Ae10_6, ce10_6, rfl, ke10_3, re10_3, ke10_4, re10_4, ke10_5, re10_5, ke10_6, re10_6⟩ := T_api_Expr.iff.1 e10
  subst ne29
  subst ne43
  refine f91.l3_in ?_
  unfold f91.l3T
  refine split_dec_e e (fun c169 e => ?_) (fun c169 e => ?_)
  · obtain ⟨y107, g108, e⟩ := bind_e e
    refine o43.addr rfl g108 fun a109 cs110 ha111 hc112 he113 => ?_
    obtain ⟨Aa109_3, ca109_3, Aa109_4, ca109_4, Aa109_5, ca109_5, Aa109_6, ca109_6, rfl, ka109_3, ra109_3, ka109_4, ra109_4, ka109_5, ra109_5, ka109_6, ra109_6⟩ := T_api_Expr.iff.1 he113
    refine ⟨_, ldA (Sub.refl _) hc112, ?_⟩
    refine new_in S fun h114 o115 x116 => ?_
    have d119 : Dj (fb bk2) (fb (Array.size h)) := Dj.new o2.lt
    have d120 : Dj (fp A5 c5) (fb (Array.size h)) := Dj.new o5.lt
    have d121 : Dj (fp A6 c6) (fb (Array.size h)) := Dj.new o6.lt
    have d122 : Dj (fb bk10) (fb (Array.size h)) := Dj.new o10.lt
    have d123 : Dj (fp A29 c29) (fb (Array.size h)) := Dj.new o29.lt
    have d124 : Dj (fp A43 c43) (fb (Array.size h)) := Dj.new o43.lt
    have o125 := o2.ext x116
    have o126 := o5.ext T_api_Expr.T S.s x116
    have o127 := o6.ext tell_str S.s x116
    have o128 := o10.ext x116
    have o129 := o29.ext T_api_Expr.T S.s x116
    have o130 := o43.ext T_api_Expr.T S.s x116
    have S117 := S.ext' x116
    have o115 : OB _ _ h114 _ (Array.size h) [(Value.int .i64 (0 : Int)), (Value.int .i64 (0 : Int)), (Value.string (ByteArray.mk #[])), (Value.slice none 0 0), (Value.slice none 0 0), (Value.slice none 0 0), (Value.slice none 0 0), (Value.int .i64 (0 : Int))] 71 := o115
    obtain ⟨h131, w132, o133, t134⟩ := o115.stA S117.s [(Value.int .i64 y107.Kind), (Value.int .i64 y107.Num), (Value.string y107.Text), (Value.slice Aa109_3 (List.length y107.Names) ca109_3), (Value.slice Aa109_4 (List.length y107.Types) ca109_4), (Value.slice Aa109_5 (List.length y107.Args) ca109_5), (Value.slice Aa109_6 (List.length y107.Arms) ca109_6), (Value.int .i64 y107.At)] rfl (Flats.cons trivial (Flats.cons trivial (Flats.cons trivial (Flats.cons trivial (Flats.cons trivial (Flats.cons trivial (Flats.cons trivial (Flats.cons trivial Flats.nil))))))))
    refine ⟨[(Value.int .i64 y107.Kind), (Value.int .i64 y107.Num), (Value.string y107.Text), (Value.slice Aa109_3 (List.length y107.Names) ca109_3), (Value.slice Aa109_4 (List.length y107.Types) ca109_4), (Value.slice Aa109_5 (List.length y107.Args) ca109_5), (Value.slice Aa109_6 (List.length y107.Arms) ca109_6), (Value.int .i64 y107.At)], rfl, rfl, h131, w132, ?_⟩
    have o133 : OB _ _ h131 _ (Array.size h) [(Value.int .i64 y107.Kind), (Value.int .i64 y107.Num), (Value.string y107.Text), (Value.slice Aa109_3 (List.length y107.Names) ca109_3), (Value.slice Aa109_4 (List.length y107.Types) ca109_4), (Value.slice Aa109_5 (List.length y107.Args) ca109_5), (Value.slice Aa109_6 (List.length y107.Arms) ca109_6), (Value.int .i64 y107.At)] 71 := o133
    have S135 := S117.then t134 (fun i _ hi => o115.wr i hi)
    have o136 := o125.step t134 (d119).symm
    have o137 := o126.step T_api_Expr.T t134 (d120).symm
    have o138 := o127.step tell_str t134 (d121).symm
    have o139 := o128.step t134 (d122).symm
    have o140 := o129.step T_api_Expr.T t134 (d123).symm
    have o141 := o130.step T_api_Expr.T t134 (d124).symm
    refine ⟨_, ldA (Sub.refl _) o133.all, ?_⟩
    obtain ⟨y142, g143, e⟩ := bind_e e
    refine (roadref2_All.walk S135.s (T_api_Expr.iff.2 ⟨_, _, _, _, _, _, _, _, rfl, ka109_3, ra109_3, ka109_4, ra109_4, ka109_5, ra109_5, ka109_6, ra109_6⟩) g143).mono ?_
    rintro _ h144 ⟨m145, A147, n148, c149, T146, rfl, ne150, o151⟩
    subst ne150
    have S153 := S135.grow T146
    have o154 := o136.step T146 Dj.no
    have o155 := o137.step T_api_Expr.T T146 Dj.no
    have o156 := o138.step tell_str T146 Dj.no
    have o157 := o139.step T146 Dj.no
    have o158 := o140.step T_api_Expr.T T146 Dj.no
    have o159 := o141.step T_api_Expr.T T146 Dj.no
    have o160 := o133.step T146 Dj.no
    have d162 : Dj (fb bk2) (fp A147 c149) := fun i h1 h2 => absurd (o136.lt i h1) (Nat.not_lt.2 ((o151.new i h2).elim (fun h => h.elim) id))
    have d163 : Dj (fp A5 c5) (fp A147 c149) := fun i h1 h2 => absurd (o137.lt i h1) (Nat.not_lt.2 ((o151.new i h2).elim (fun h => h.elim) id))
    have d164 : Dj (fp A6 c6) (fp A147 c149) := fun i h1 h2 => absurd (o138.lt i h1) (Nat.not_lt.2 ((o151.new i h2).elim (fun h => h.elim) id))
    have d165 : Dj (fb bk10) (fp A147 c149) := fun i h1 h2 => absurd (o139.lt i h1) (Nat.not_lt.2 ((o151.new i h2).elim (fun h => h.elim) id))
    have d166 : Dj (fp A29 c29) (fp A147 c149) := fun i h1 h2 => absurd (o140.lt i h1) (Nat.not_lt.2 ((o151.new i h2).elim (fun h => h.elim) id))
    have d167 : Dj (fp A43 c43) (fp A147 c149) := fun i h1 h2 => absurd (o141.lt i h1) (Nat.not_lt.2 ((o151.new i h2).elim (fun h => h.elim) id))
    have d168 : Dj (fb (Array.size h)) (fp A147 c149) := fun i h1 h2 => absurd (o133.lt i h1) (Nat.not_lt.2 ((o151.new i h2).elim (fun h => h.elim) id))
    have o161 := o151.take S135 (fun _ h => h.elim)
    refine ⟨_, _, _, rfl, ?_⟩
    exact (ih _ _ e) _ _ _ _ _ _ _ _ _ _ _ _ _ _ _ _ _ _ _ _ _ _ _ S153 o154 (show T_api_Program.E _ y2 [(Value.string y2.Name), (Value.int .i64 y2.Version), (Value.slice Ae2_2 (List.length y2.Uses) ce2_2), (Value.slice Ae2_3 (List.length y2.Datas) ce2_3), (Value.slice Ae2_4 (List.length y2.Traits) ce2_4), (Value.slice Ae2_5 (List.length y2.Impls) ce2_5), (Value.slice Ae2_6 (List.length y2.Funcs) ce2_6), (Value.slice Ae2_7 (List.length y2.Actors) ce2_7)] from ⟨_, _, _, _, _, _, _, _, _, _, _, _, rfl, ke2_2, (re2_2.sub T_api_Use.T T146.up), ke2_3, (re2_3.sub T_api_Data.T T146.up), ke2_4, (re2_4.sub T_api_Trait.T T146.up), ke2_5, (re2_5.sub T_api_Impl.T T146.up), ke2_6, (re2_6.sub T_api_Func.T T146.up), ke2_7, (re2_7.sub T_api_Actor.T T146.up)⟩) rfl o155 rfl o156 o157 (T_api_Expr.iff.2 ⟨_, _, _, _, _, _, _, _, rfl, ke10_3, (re10_3.sub tell_str T146.up), ke10_4, (re10_4.sub T_api_Type.T T146.up), ke10_5, (re10_5.sub T_api_Expr.T T146.up), ke10_6, (re10_6.sub T_api_Arm.T T146.up)⟩) rfl o158 rfl o159 rfl o161 d0_1 d0_2 d0_3 d0_4 d0_5 d162 d1_2 d1_3 d1_4 d1_5 d163 d2_3 d2_4 d2_5 d164 d3_4 d3_5 d165 d4_5 d166 d167
  · exact (ih _ _ e) _ _ _ _ _ _ _ _ _ _ _ _ _ _ _ _ _ S o2 (show T_api_Program.E _ y2 [(Value.string y2.Name), (Value.int .i64 y2.Version), (Value.slice Ae2_2 (List.length y2.Uses) ce2_2), (Value.slice Ae2_3 (List.length y2.Datas) ce2_3), (Value.slice Ae2_4 (List.length y2.Traits) ce2_4), (Value.slice Ae2_5 (List.length y2.Impls) ce2_5), (Value.slice Ae2_6 (List.length y2.Funcs) ce2_6), (Value.slice Ae2_7 (List.length y2.Actors) ce2_7)] from ⟨_, _, _, _, _, _, _, _, _, _, _, _, rfl, ke2_2, re2_2, ke2_3, re2_3, ke2_4, re2_4, ke2_5, re2_5, ke2_6, re2_6, ke2_7, re2_7⟩) rfl o5 rfl o6 o10 (T_api_Expr.iff.2 ⟨_, _, _, _, _, _, _, _, rfl, ke10_3, re10_3, ke10_4, re10_4, ke10_5, re10_5, ke10_6, re10_6⟩) rfl o29 d0_1 d0_2 d0_3 d0_4 d1_2 d1_3 d1_4 d2_3 d2_4 d3_4
set_option maxRecDepth 100000 in
theorem roadref2_led.l0_k.step_l4 (go : (p : roadref2_led.l0_k.Pt) → Option ((List T_api_Expr))) (ih : ∀ p r, go p = some r → roadref2_led.l0_k.I p r) (y2 : T_api_Program) (a5 : List T_api_Expr) (a6 : List ByteArray) (b7 : Bool) (x8 : Int) (y10 : T_api_Expr) (a29 : List T_api_Expr) (x30 : Int) (x31 : Int) (a43 : List T_api_Expr) (x44 : Int) (x45 : Int) (a50 : List T_api_Expr) (x51 : Int) (x52 : Int) (r : (List T_api_Expr)) (e : roadref2_led.l0_k.body go (.l4 y2 a5 a6 b7 x8 y10 a29 x30 x31 a43 x44 x45 a50 x51 x52) = some r) : roadref2_led.l0_k.I (.l4 y2 a5 a6 b7 x8 y10 a29 x30 x31 a43 x44 x45 a50 x51 x52) r := by
  unfold roadref2_led.l0_k.body at e
  intro h0 m0 h m bk2 cs2 A5 n5 c5 A6 n6 c6 bk10 cs10 A29 n29 c29 A43 n43 c43 A50 n50 c50 S o2 e2 ne5 o5 ne6 o6 o10 e10 ne29 o29 ne43 o43 ne50 o50 d0_1 d0_2 d0_3 d0_4 d0_5 d0_6 d1_2 d1_3 d1_4 d1_5 d1_6 d2_3 d2_4 d2_5 d2_6 d3_4 d3_5 d3_6 d4_5 d4_6 d5_6
  obtain ⟨Ae2_2, ce2_2, Ae2_3, ce2_3, Ae2_4, ce2_4, Ae2_5, ce2_5, Ae2_6, ce2_6, Ae2_7, ce2_7, rfl, ke2_2, re2_2, ke2_3, re2_3, ke2_4, re2_4, ke2_5, re2_5, ke2_6, re2_6, ke2_7, re2_7⟩ := e2
  subst ne5
  subst ne6
  obtain ⟨Ae10_3, ce10_3, Ae10_4, ce10_4, Ae10_5, ce10_5, Ae10_6, ce10_6, rfl, ke10_3, re10_3, ke10_4, re10_4, ke10_5, re10_5, ke10_6, re10_6⟩ := T_api_Expr.iff.1 e10
  subst ne29
  subst ne43
  subst ne50
  refine f91.l4_in ?_
  unfold f91.l4T
  refine split_dec_e e (fun c276 e => ?_) (fun c276 e => ?_)
  · obtain ⟨y189, g190, e⟩ := bind_e e
    refine o50.addr rfl g190 fun a191 cs192 ha193 hc194 he195 => ?_
    obtain ⟨Aa191_3, ca191_3, Aa191_4, ca191_4, Aa191_5, ca191_5, Aa191_6, ca191_6, rfl, ka191_3, ra191_3, ka191_4, ra191_4, ka191_5, ra191_5, ka191_6, ra191_6⟩ := T_api_Expr.iff.1 he195
    refine ⟨_, ldA (Sub.refl _) hc194, ?_⟩
    refine new_in S fun h196 o197 x198 => ?_
    have d201 : Dj (fb bk2) (fb (Array.size h)) := Dj.new o2.lt
    have d202 : Dj (fp A5 c5) (fb (Array.size h)) := Dj.new o5.lt
    have d203 : Dj (fp A6 c6) (fb (Array.size h)) := Dj.new o6.lt
    have d204 : Dj (fb bk10) (fb (Array.size h)) := Dj.new o10.lt
    have d205 : Dj (fp A29 c29) (fb (Array.size h)) := Dj.new o29.lt
    have d206 : Dj (fp A43 c43) (fb (Array.size h)) := Dj.new o43.lt
    have d207 : Dj (fp A50 c50) (fb (Array.size h)) := Dj.new o50.lt
    have o208 := o2.ext x198
    have o209 := o5.ext T_api_Expr.T S.s x198
    have o210 := o6.ext tell_str S.s x198
    have o211 := o10.ext x198
    have o212 := o29.ext T_api_Expr.T S.s x198
    have o213 := o43.ext T_api_Expr.T S.s x198
    have o214 := o50.ext T_api_Expr.T S.s x198
    have S199 := S.ext' x198
    have o197 : OB _ _ h196 _ (Array.size h) [(Value.int .i64 (0 : Int)), (Value.int .i64 (0 : Int)), (Value.string (ByteArray.mk #[])), (Value.slice none 0 0), (Value.slice none 0 0), (Value.slice none 0 0), (Value.slice none 0 0), (Value.int .i64 (0 : Int))] 71 := o197
    obtain ⟨h215, w216, o217, t218⟩ := o197.stA S199.s [(Value.int .i64 y189.Kind), (Value.int .i64 y189.Num), (Value.string y189.Text), (Value.slice Aa191_3 (List.length y189.Names) ca191_3), (Value.slice Aa191_4 (List.length y189.Types) ca191_4), (Value.slice Aa191_5 (List.length y189.Args) ca191_5), (Value.slice Aa191_6 (List.length y189.Arms) ca191_6), (Value.int .i64 y189.At)] rfl (Flats.cons trivial (Flats.cons trivial (Flats.cons trivial (Flats.cons trivial (Flats.cons trivial (Flats.cons trivial (Flats.cons trivial (Flats.cons trivial Flats.nil))))))))
    refine ⟨[(Value.int .i64 y189.Kind), (Value.int .i64 y189.Num), (Value.string y189.Text), (Value.slice Aa191_3 (List.length y189.Names) ca191_3), (Value.slice Aa191_4 (List.length y189.Types) ca191_4), (Value.slice Aa191_5 (List.length y189.Args) ca191_5), (Value.slice Aa191_6 (List.length y189.Arms) ca191_6), (Value.int .i64 y189.At)], rfl, rfl, h215, w216, ?_⟩
    have o217 : OB _ _ h215 _ (Array.size h) [(Value.int .i64 y189.Kind), (Value.int .i64 y189.Num), (Value.string y189.Text), (Value.slice Aa191_3 (List.length y189.Names) ca191_3), (Value.slice Aa191_4 (List.length y189.Types) ca191_4), (Value.slice Aa191_5 (List.length y189.Args) ca191_5), (Value.slice Aa191_6 (List.length y189.Arms) ca191_6), (Value.int .i64 y189.At)] 71 := o217
    have S219 := S199.then t218 (fun i _ hi => o197.wr i hi)
    have o220 := o208.step t218 (d201).symm
    have o221 := o209.step T_api_Expr.T t218 (d202).symm
    have o222 := o210.step tell_str t218 (d203).symm
    have o223 := o211.step t218 (d204).symm
    have o224 := o212.step T_api_Expr.T t218 (d205).symm
    have o225 := o213.step T_api_Expr.T t218 (d206).symm
    have o226 := o214.step T_api_Expr.T t218 (d207).symm
    refine ⟨_, ld0 (Sub.refl _) o217.all rfl, _, rfl, ?_⟩
    refine split_eq_e e (fun c275 e => ?_) (fun c275 e => ?_)
    · refine ⟨_, ldA (Sub.refl _) o217.all, ?_⟩
      refine ⟨[(Value.int .i64 y189.Kind), (Value.int .i64 y189.Num), (Value.string y189.Text), (Value.slice Aa191_3 (List.length y189.Names) ca191_3), (Value.slice Aa191_4 (List.length y189.Types) ca191_4), (Value.slice Aa191_5 (List.length y189.Args) ca191_5), (Value.slice Aa191_6 (List.length y189.Arms) ca191_6), (Value.int .i64 y189.At)], rfl, rfl, ?_⟩
      refine new_in S219 fun h227 o228 x229 => ?_
      have d232 : Dj (fb bk2) (fb (Array.size h215)) := Dj.new o220.lt
      have d233 : Dj (fp A5 c5) (fb (Array.size h215)) := Dj.new o221.lt
      have d234 : Dj (fp A6 c6) (fb (Array.size h215)) := Dj.new o222.lt
      have d235 : Dj (fb bk10) (fb (Array.size h215)) := Dj.new o223.lt
      have d236 : Dj (fp A29 c29) (fb (Array.size h215)) := Dj.new o224.lt
      have d237 : Dj (fp A43 c43) (fb (Array.size h215)) := Dj.new o225.lt
      have d238 : Dj (fp A50 c50) (fb (Array.size h215)) := Dj.new o226.lt
      have d239 : Dj (fb (Array.size h)) (fb (Array.size h215)) := Dj.new o217.lt
      have o240 := o220.ext x229
      have o241 := o221.ext T_api_Expr.T S219.s x229
      have o242 := o222.ext tell_str S219.s x229
      have o243 := o223.ext x229
      have o244 := o224.ext T_api_Expr.T S219.s x229
      have o245 := o225.ext T_api_Expr.T S219.s x229
      have o246 := o226.ext T_api_Expr.T S219.s x229
      have o247 := o217.ext x229
      have S230 := S219.ext' x229
      have o228 : OB _ _ h227 _ (Array.size h215) [(Value.int .i64 y189.Kind), (Value.int .i64 y189.Num), (Value.string y189.Text), (Value.slice Aa191_3 (List.length y189.Names) ca191_3), (Value.slice Aa191_4 (List.length y189.Types) ca191_4), (Value.slice Aa191_5 (List.length y189.Args) ca191_5), (Value.slice Aa191_6 (List.length y189.Arms) ca191_6), (Value.int .i64 y189.At)] 71 := o228
      have o248 : OS _ _ 8 T_api_Expr.E h227 m (some ⟨(Array.size h215), 0, none⟩) ([y189] : List T_api_Expr) 1 := OB.row o228 (CsE.cons (c1 := [(Value.int .i64 y189.Kind), (Value.int .i64 y189.Num), (Value.string y189.Text), (Value.slice Aa191_3 (List.length y189.Names) ca191_3), (Value.slice Aa191_4 (List.length y189.Types) ca191_4), (Value.slice Aa191_5 (List.length y189.Args) ca191_5), (Value.slice Aa191_6 (List.length y189.Arms) ca191_6), (Value.int .i64 y189.At)]) (T_api_Expr.iff.2 ⟨_, _, _, _, _, _, _, _, rfl, ka191_3, ra191_3, ka191_4, ra191_4, ka191_5, ra191_5, ka191_6, ra191_6⟩) rfl CsE.nil) rfl
      obtain ⟨l249, g250, e⟩ := bind_e e
      refine o241.app T_api_Expr.T S230 rfl rfl (o248.srcE rfl) (by decide) g250 fun A251 c252 h253 o254 t255 n256 => ?_
      refine ⟨_, _, _, rfl, ?_⟩
      have d258 : Dj (fb bk2) (fp A251 c252) := Dj.app d0_1 o240.lt n256
      have d259 : Dj (fp A6 c6) (fp A251 c252) := Dj.app (d1_2).symm o242.lt n256
      have d260 : Dj (fb bk10) (fp A251 c252) := Dj.app (d1_3).symm o243.lt n256
      have d261 : Dj (fp A29 c29) (fp A251 c252) := Dj.app (d1_4).symm o244.lt n256
      have d262 : Dj (fp A43 c43) (fp A251 c252) := Dj.app (d1_5).symm o245.lt n256
      have d263 : Dj (fp A50 c50) (fp A251 c252) := Dj.app (d1_6).symm o246.lt n256
      have d264 : Dj (fb (Array.size h)) (fp A251 c252) := Dj.app (d202).symm o247.lt n256
      have d265 : Dj (fp (some ⟨(Array.size h215), 0, none⟩) 1) (fp A251 c252) := Dj.app ((d233.row)).symm o248.lt n256
      have S266 := S230.then t255 (fun i _ hi => o241.wr i hi)
      have o267 := o240.step t255 (d0_1).symm
      have o268 := o242.step tell_str t255 d1_2
      have o269 := o243.step t255 d1_3
      have o270 := o244.step T_api_Expr.T t255 d1_4
      have o271 := o245.step T_api_Expr.T t255 d1_5
      have o272 := o246.step T_api_Expr.T t255 d1_6
      have o273 := o247.step t255 d202
      have o274 := o248.step T_api_Expr.T t255 (d233.row)
      exact (ih _ _ e) _ _ _ _ _ _ _ _ _ _ _ _ _ _ _ _ _ _ _ _ _ _ _ S266 o267 (show T_api_Program.E _ y2 [(Value.string y2.Name), (Value.int .i64 y2.Version), (Value.slice Ae2_2 (List.length y2.Uses) ce2_2), (Value.slice Ae2_3 (List.length y2.Datas) ce2_3), (Value.slice Ae2_4 (List.length y2.Traits) ce2_4), (Value.slice Ae2_5 (List.length y2.Impls) ce2_5), (Value.slice Ae2_6 (List.length y2.Funcs) ce2_6), (Value.slice Ae2_7 (List.length y2.Actors) ce2_7)] from ⟨_, _, _, _, _, _, _, _, _, _, _, _, rfl, ke2_2, re2_2, ke2_3, re2_3, ke2_4, re2_4, ke2_5, re2_5, ke2_6, re2_6, ke2_7, re2_7⟩) rfl o254 rfl o268 o269 (T_api_Expr.iff.2 ⟨_, _, _, _, _, _, _, _, rfl, ke10_3, re10_3, ke10_4, re10_4, ke10_5, re10_5, ke10_6, re10_6⟩) rfl o270 rfl o271 rfl o272 d258 d0_2 d0_3 d0_4 d0_5 d0_6 (d259).symm (d260).symm (d261).symm (d262).symm (d263).symm d2_3 d2_4 d2_5 d2_6 d3_4 d3_5 d3_6 d4_5 d4_6 d5_6
    · exact (ih _ _ e) _ _ _ _ _ _ _ _ _ _ _ _ _ _ _ _ _ _ _ _ _ _ _ S219 o220 (show T_api_Program.E _ y2 [(Value.string y2.Name), (Value.int .i64 y2.Version), (Value.slice Ae2_2 (List.length y2.Uses) ce2_2), (Value.slice Ae2_3 (List.length y2.Datas) ce2_3), (Value.slice Ae2_4 (List.length y2.Traits) ce2_4), (Value.slice Ae2_5 (List.length y2.Impls) ce2_5), (Value.slice Ae2_6 (List.length y2.Funcs) ce2_6), (Value.slice Ae2_7 (List.length y2.Actors) ce2_7)] from ⟨_, _, _, _, _, _, _, _, _, _, _, _, rfl, ke2_2, re2_2, ke2_3, re2_3, ke2_4, re2_4, ke2_5, re2_5, ke2_6, re2_6, ke2_7, re2_7⟩) rfl o221 rfl o222 o223 (T_api_Expr.iff.2 ⟨_, _, _, _, _, _, _, _, rfl, ke10_3, re10_3, ke10_4, re10_4, ke10_5, re10_5, ke10_6, re10_6⟩) rfl o224 rfl o225 rfl o226 d0_1 d0_2 d0_3 d0_4 d0_5 d0_6 d1_2 d1_3 d1_4 d1_5 d1_6 d2_3 d2_4 d2_5 d2_6 d3_4 d3_5 d3_6 d4_5 d4_6 d5_6
  · exact (ih _ _ e) _ _ _ _ _ _ _ _ _ _ _ _ _ _ _ _ _ _ _ _ S o2 (show T_api_Program.E _ y2 [(Value.string y2.Name), (Value.int .i64 y2.Version), (Value.slice Ae2_2 (List.length y2.Uses) ce2_2), (Value.slice Ae2_3 (List.length y2.Datas) ce2_3), (Value.slice Ae2_4 (List.length y2.Traits) ce2_4), (Value.slice Ae2_5 (List.length y2.Impls) ce2_5), (Value.slice Ae2_6 (List.length y2.Funcs) ce2_6), (Value.slice Ae2_7 (List.length y2.Actors) ce2_7)] from ⟨_, _, _, _, _, _, _, _, _, _, _, _, rfl, ke2_2, re2_2, ke2_3, re2_3, ke2_4, re2_4, ke2_5, re2_5, ke2_6, re2_6, ke2_7, re2_7⟩) rfl o5 rfl o6 o10 (T_api_Expr.iff.2 ⟨_, _, _, _, _, _, _, _, rfl, ke10_3, re10_3, ke10_4, re10_4, ke10_5, re10_5, ke10_6, re10_6⟩) rfl o29 rfl o43 d0_1 d0_2 d0_3 d0_4 d0_5 d1_2 d1_3 d1_4 d1_5 d2_3 d2_4 d2_5 d3_4 d3_5 d4_5
set_option maxRecDepth 100000 in
theorem roadref2_led.l0_k.step_j0 (go : (p : roadref2_led.l0_k.Pt) → Option ((List T_api_Expr))) (ih : ∀ p r, go p = some r → roadref2_led.l0_k.I p r) (y2 : T_api_Program) (a5 : List T_api_Expr) (a6 : List ByteArray) (b7 : Bool) (x8 : Int) (y10 : T_api_Expr) (a29 : List T_api_Expr) (x30 : Int) (x31 : Int) (r : (List T_api_Expr)) (e : roadref2_led.l0_k.body go (.j0 y2 a5 a6 b7 x8 y10 a29 x30 x31) = some r) : roadref2_led.l0_k.I (.j0 y2 a5 a6 b7 x8 y10 a29 x30 x31) r := by
  unfold roadref2_led.l0_k.body at e
  intro h0 m0 h m bk2 cs2 A5 n5 c5 A6 n6 c6 bk10 cs10 A29 n29 c29 S o2 e2 ne5 o5 ne6 o6 o10 e10 ne29 o29 d0_1 d0_2 d0_3 d0_4 d1_2 d1_3 d1_4 d2_3 d2_4 d3_4
  obtain ⟨Ae2_2, ce2_2, Ae2_3, ce2_3, Ae2_4, ce2_4, Ae2_5, ce2_5, Ae2_6, ce2_6, Ae2_7, ce2_7, rfl, ke2_2, re2_2, ke2_3, re2_3, ke2_4, re2_4, ke2_5, re2_5, ke2_6, re2_6, ke2_7, re2_7⟩ := e2
  subst ne5
  subst ne6
  obtain ⟨Ae10_3, ce10_3, Ae10_4, ce10_4, Ae10_5, ce10_5, Ae10_6, ce10_6, rfl, ke10_3, re10_3, ke10_4, re10_4, ke10_5, re10_5, ke10_6, re10_6⟩ := T_api_Expr.iff.1 e10
  subst ne29
  refine f91.j0_in ?_
  unfold f91.j0T
  refine ⟨_, ld0 (Sub.refl _) o10.all rfl, _, rfl, ?_⟩
  refine split_ne_e e (fun c188 e => ?_) (fun c188 e => ?_)
  · exact (ih _ _ e) _ _ _ _ _ _ _ _ _ _ _ _ _ _ _ S o2 (show T_api_Program.E _ y2 [(Value.string y2.Name), (Value.int .i64 y2.Version), (Value.slice Ae2_2 (List.length y2.Uses) ce2_2), (Value.slice Ae2_3 (List.length y2.Datas) ce2_3), (Value.slice Ae2_4 (List.length y2.Traits) ce2_4), (Value.slice Ae2_5 (List.length y2.Impls) ce2_5), (Value.slice Ae2_6 (List.length y2.Funcs) ce2_6), (Value.slice Ae2_7 (List.length y2.Actors) ce2_7)] from ⟨_, _, _, _, _, _, _, _, _, _, _, _, rfl, ke2_2, re2_2, ke2_3, re2_3, ke2_4, re2_4, ke2_5, re2_5, ke2_6, re2_6, ke2_7, re2_7⟩) rfl o5 rfl o6 rfl o29 d0_1 d0_2 d0_4 d1_2 d1_4 d2_4
  · refine ⟨_, ldk (k := 2) (Sub.refl _) o10.all rfl, _, rfl, ?_⟩
    obtain ⟨y170, g171, e⟩ := bind_e e
    obtain ⟨m175, L176, u177, s178, t179⟩ := St.lend S.s (fp A6 c6)
    refine (slices_Contains_92.walk s178 rfl o6.cap (o6.lent tell_str S.s L176 (fun _ h => h)) g171).mono ?_
    rintro _ h172 ⟨m173, T174, rfl⟩
    have T180 := T174.unlend S.s (fun _ h => h.elim)
    have S181 := S.grow T180
    have o182 := o2.step T180 Dj.no
    have o183 := o5.step T_api_Expr.T T180 Dj.no
    have o184 := o6.step tell_str T180 Dj.no
    have o185 := o10.step T180 Dj.no
    have o186 := o29.step T_api_Expr.T T180 Dj.no
    refine ⟨_, rfl, ?_⟩
    refine split_any_e e (fun c187 e => ?_) (fun c187 e => ?_)
    · exact (ih _ _ e) _ _ _ _ _ _ _ _ _ _ _ _ _ _ _ S181 o182 (show T_api_Program.E _ y2 [(Value.string y2.Name), (Value.int .i64 y2.Version), (Value.slice Ae2_2 (List.length y2.Uses) ce2_2), (Value.slice Ae2_3 (List.length y2.Datas) ce2_3), (Value.slice Ae2_4 (List.length y2.Traits) ce2_4), (Value.slice Ae2_5 (List.length y2.Impls) ce2_5), (Value.slice Ae2_6 (List.length y2.Funcs) ce2_6), (Value.slice Ae2_7 (List.length y2.Actors) ce2_7)] from ⟨_, _, _, _, _, _, _, _, _, _, _, _, rfl, ke2_2, re2_2, ke2_3, re2_3, ke2_4, re2_4, ke2_5, re2_5, ke2_6, re2_6, ke2_7, re2_7⟩) rfl o183 rfl o184 rfl o186 d0_1 d0_2 d0_4 d1_2 d1_4 d2_4
    · exact (ih _ _ e) _ _ _ _ _ _ _ _ _ _ _ _ _ _ _ _ _ S181 o182 (show T_api_Program.E _ y2 [(Value.string y2.Name), (Value.int .i64 y2.Version), (Value.slice Ae2_2 (List.length y2.Uses) ce2_2), (Value.slice Ae2_3 (List.length y2.Datas) ce2_3), (Value.slice Ae2_4 (List.length y2.Traits) ce2_4), (Value.slice Ae2_5 (List.length y2.Impls) ce2_5), (Value.slice Ae2_6 (List.length y2.Funcs) ce2_6), (Value.slice Ae2_7 (List.length y2.Actors) ce2_7)] from ⟨_, _, _, _, _, _, _, _, _, _, _, _, rfl, ke2_2, re2_2, ke2_3, re2_3, ke2_4, re2_4, ke2_5, re2_5, ke2_6, re2_6, ke2_7, re2_7⟩) rfl o183 rfl o184 o185 (T_api_Expr.iff.2 ⟨_, _, _, _, _, _, _, _, rfl, ke10_3, re10_3, ke10_4, re10_4, ke10_5, re10_5, ke10_6, re10_6⟩) rfl o186 d0_1 d0_2 d0_3 d0_4 d1_2 d1_3 d1_4 d2_3 d2_4 d3_4
set_option maxRecDepth 100000 in
theorem roadref2_led.l0_k.step_j2 (go : (p : roadref2_led.l0_k.Pt) → Option ((List T_api_Expr))) (ih : ∀ p r, go p = some r → roadref2_led.l0_k.I p r) (y2 : T_api_Program) (a5 : List T_api_Expr) (a6 : List ByteArray) (b7 : Bool) (x8 : Int) (y10 : T_api_Expr) (a29 : List T_api_Expr) (x30 : Int) (x31 : Int) (r : (List T_api_Expr)) (e : roadref2_led.l0_k.body go (.j2 y2 a5 a6 b7 x8 y10 a29 x30 x31) = some r) : roadref2_led.l0_k.I (.j2 y2 a5 a6 b7 x8 y10 a29 x30 x31) r := by
  unfold roadref2_led.l0_k.body at e
  intro h0 m0 h m bk2 cs2 A5 n5 c5 A6 n6 c6 bk10 cs10 A29 n29 c29 S o2 e2 ne5 o5 ne6 o6 o10 e10 ne29 o29 d0_1 d0_2 d0_3 d0_4 d1_2 d1_3 d1_4 d2_3 d2_4 d3_4
  obtain ⟨Ae2_2, ce2_2, Ae2_3, ce2_3, Ae2_4, ce2_4, Ae2_5, ce2_5, Ae2_6, ce2_6, Ae2_7, ce2_7, rfl, ke2_2, re2_2, ke2_3, re2_3, ke2_4, re2_4, ke2_5, re2_5, ke2_6, re2_6, ke2_7, re2_7⟩ := e2
  subst ne5
  subst ne6
  obtain ⟨Ae10_3, ce10_3, Ae10_4, ce10_4, Ae10_5, ce10_5, Ae10_6, ce10_6, rfl, ke10_3, re10_3, ke10_4, re10_4, ke10_5, re10_5, ke10_6, re10_6⟩ := T_api_Expr.iff.1 e10
  subst ne29
  refine f91.j2_in ?_
  unfold f91.j2T
  refine ⟨_, ldk (k := 2) (Sub.refl _) o10.all rfl, _, rfl, ?_⟩
  refine new_in S fun h277 o278 x279 => ?_
  have d282 : Dj (fb bk2) (fb (Array.size h)) := Dj.new o2.lt
  have d283 : Dj (fp A5 c5) (fb (Array.size h)) := Dj.new o5.lt
  have d284 : Dj (fp A6 c6) (fb (Array.size h)) := Dj.new o6.lt
  have d285 : Dj (fb bk10) (fb (Array.size h)) := Dj.new o10.lt
  have d286 : Dj (fp A29 c29) (fb (Array.size h)) := Dj.new o29.lt
  have o287 := o2.ext x279
  have o288 := o5.ext T_api_Expr.T S.s x279
  have o289 := o6.ext tell_str S.s x279
  have o290 := o10.ext x279
  have o291 := o29.ext T_api_Expr.T S.s x279
  have S280 := S.ext' x279
  have o278 : OB _ _ h277 _ (Array.size h) [(Value.string y10.Text)] 9 := o278
  have o292 : OS _ _ 1 eStr h277 m (some ⟨(Array.size h), 0, none⟩) ([y10.Text] : List ByteArray) 1 := OB.row o278 (CsE.cons (c1 := [(Value.string y10.Text)]) rfl rfl CsE.nil) rfl
  obtain ⟨l293, g294, e⟩ := bind_e e
  refine o289.app tell_str S280 rfl rfl (o292.srcE rfl) (by decide) g294 fun A295 c296 h297 o298 t299 n300 => ?_
  refine ⟨_, _, _, rfl, ?_⟩
  have d302 : Dj (fb bk2) (fp A295 c296) := Dj.app d0_2 o287.lt n300
  have d303 : Dj (fp A5 c5) (fp A295 c296) := Dj.app d1_2 o288.lt n300
  have d304 : Dj (fb bk10) (fp A295 c296) := Dj.app (d2_3).symm o290.lt n300
  have d305 : Dj (fp A29 c29) (fp A295 c296) := Dj.app (d2_4).symm o291.lt n300
  have d306 : Dj (fp (some ⟨(Array.size h), 0, none⟩) 1) (fp A295 c296) := Dj.app ((d284.row)).symm o292.lt n300
  have S307 := S280.then t299 (fun i _ hi => o289.wr i hi)
  have o308 := o287.step t299 (d0_2).symm
  have o309 := o288.step T_api_Expr.T t299 (d1_2).symm
  have o310 := o290.step t299 d2_3
  have o311 := o291.step T_api_Expr.T t299 d2_4
  have o312 := o292.step tell_str t299 (d284.row)
  refine ⟨_, ldA (Sub.refl _) o308.all, ?_⟩
  obtain ⟨y313, g314, e⟩ := bind_e e
  refine (roadref2_FunsOf.walk S307.s (show T_api_Program.E _ y2 [(Value.string y2.Name), (Value.int .i64 y2.Version), (Value.slice Ae2_2 (List.length y2.Uses) ce2_2), (Value.slice Ae2_3 (List.length y2.Datas) ce2_3), (Value.slice Ae2_4 (List.length y2.Traits) ce2_4), (Value.slice Ae2_5 (List.length y2.Impls) ce2_5), (Value.slice Ae2_6 (List.length y2.Funcs) ce2_6), (Value.slice Ae2_7 (List.length y2.Actors) ce2_7)] from ⟨_, _, _, _, _, _, _, _, _, _, _, _, rfl, ke2_2, re2_2, ke2_3, re2_3, ke2_4, re2_4, ke2_5, re2_5, ke2_6, re2_6, ke2_7, re2_7⟩) g314).mono ?_
  rintro _ h315 ⟨m316, A318, n319, c320, T317, rfl, ne321, o322⟩
  subst ne321
  have S324 := S307.grow T317
  have o325 := o308.step T317 Dj.no
  have o326 := o309.step T_api_Expr.T T317 Dj.no
  have o327 := o310.step T317 Dj.no
  have o328 := o311.step T_api_Expr.T T317 Dj.no
  have o329 := o298.step tell_str T317 Dj.no
  have d331 : Dj (fb bk2) (fp A318 c320) := fun i h1 h2 => absurd (o308.lt i h1) (Nat.not_lt.2 ((o322.new i h2).elim (fun h => h.elim) id))
  have d332 : Dj (fp A5 c5) (fp A318 c320) := fun i h1 h2 => absurd (o309.lt i h1) (Nat.not_lt.2 ((o322.new i h2).elim (fun h => h.elim) id))
  have d333 : Dj (fb bk10) (fp A318 c320) := fun i h1 h2 => absurd (o310.lt i h1) (Nat.not_lt.2 ((o322.new i h2).elim (fun h => h.elim) id))
  have d334 : Dj (fp A29 c29) (fp A318 c320) := fun i h1 h2 => absurd (o311.lt i h1) (Nat.not_lt.2 ((o322.new i h2).elim (fun h => h.elim) id))
  have d335 : Dj (fp A295 c296) (fp A318 c320) := fun i h1 h2 => absurd (o298.lt i h1) (Nat.not_lt.2 ((o322.new i h2).elim (fun h => h.elim) id))
  have o330 := o322.take S307 (fun _ h => h.elim)
  refine ⟨_, _, _, rfl, ?_⟩
  exact (ih _ _ e) _ _ _ _ _ _ _ _ _ _ _ _ _ _ _ _ _ _ _ _ S324 o325 (show T_api_Program.E _ y2 [(Value.string y2.Name), (Value.int .i64 y2.Version), (Value.slice Ae2_2 (List.length y2.Uses) ce2_2), (Value.slice Ae2_3 (List.length y2.Datas) ce2_3), (Value.slice Ae2_4 (List.length y2.Traits) ce2_4), (Value.slice Ae2_5 (List.length y2.Impls) ce2_5), (Value.slice Ae2_6 (List.length y2.Funcs) ce2_6), (Value.slice Ae2_7 (List.length y2.Actors) ce2_7)] from ⟨_, _, _, _, _, _, _, _, _, _, _, _, rfl, ke2_2, (re2_2.sub T_api_Use.T T317.up), ke2_3, (re2_3.sub T_api_Data.T T317.up), ke2_4, (re2_4.sub T_api_Trait.T T317.up), ke2_5, (re2_5.sub T_api_Impl.T T317.up), ke2_6, (re2_6.sub T_api_Func.T T317.up), ke2_7, (re2_7.sub T_api_Actor.T T317.up)⟩) rfl o326 rfl o329 o327 (T_api_Expr.iff.2 ⟨_, _, _, _, _, _, _, _, rfl, ke10_3, (re10_3.sub tell_str T317.up), ke10_4, (re10_4.sub T_api_Type.T T317.up), ke10_5, (re10_5.sub T_api_Expr.T T317.up), ke10_6, (re10_6.sub T_api_Arm.T T317.up)⟩) rfl o328 rfl o330 d0_1 d302 d0_3 d0_4 d331 d303 d1_3 d1_4 d332 (d304).symm (d305).symm d335 d3_4 d333 d334
set_option maxRecDepth 100000 in
theorem roadref2_led.l0_k.step_l2 (go : (p : roadref2_led.l0_k.Pt) → Option ((List T_api_Expr))) (ih : ∀ p r, go p = some r → roadref2_led.l0_k.I p r) (y2 : T_api_Program) (a5 : List T_api_Expr) (a6 : List ByteArray) (b7 : Bool) (x8 : Int) (y10 : T_api_Expr) (a29 : List T_api_Expr) (x30 : Int) (x31 : Int) (a80 : List T_api_Func) (x81 : Int) (x82 : Int) (r : (List T_api_Expr)) (e : roadref2_led.l0_k.body go (.l2 y2 a5 a6 b7 x8 y10 a29 x30 x31 a80 x81 x82) = some r) : roadref2_led.l0_k.I (.l2 y2 a5 a6 b7 x8 y10 a29 x30 x31 a80 x81 x82) r := by
  unfold roadref2_led.l0_k.body at e
  intro h0 m0 h m bk2 cs2 A5 n5 c5 A6 n6 c6 bk10 cs10 A29 n29 c29 A80 n80 c80 S o2 e2 ne5 o5 ne6 o6 o10 e10 ne29 o29 ne80 o80 d0_1 d0_2 d0_3 d0_4 d0_5 d1_2 d1_3 d1_4 d1_5 d2_3 d2_4 d2_5 d3_4 d3_5 d4_5
  obtain ⟨Ae2_2, ce2_2, Ae2_3, ce2_3, Ae2_4, ce2_4, Ae2_5, ce2_5, Ae2_6, ce2_6, Ae2_7, ce2_7, rfl, ke2_2, re2_2, ke2_3, re2_3, ke2_4, re2_4, ke2_5, re2_5, ke2_6, re2_6, ke2_7, re2_7⟩ := e2
  subst ne5
  subst ne6
  obtain ⟨Ae10_3, ce10_3, Ae10_4, ce10_4, Ae10_5, ce10_5, Ae10_6, ce10_6, rfl, ke10_3, re10_3, ke10_4, re10_4, ke10_5, re10_5, ke10_6, re10_6⟩ := T_api_Expr.iff.1 e10
  subst ne29
  subst ne80
  refine f91.l2_in ?_
  unfold f91.l2T
  refine split_dec_e e (fun c416 e => ?_) (fun c416 e => ?_)
  · obtain ⟨y336, g337, e⟩ := bind_e e
    refine o80.addr rfl g337 fun a338 cs339 ha340 hc341 he342 => ?_
    obtain ⟨Aa338_1, ca338_1, Aa338_2, ca338_2, Aa338_3, ca338_3, Aa338_6, ca338_6, Aa338_10, ca338_10, Aa338_11, ca338_11, Aa338_12, ca338_12, Aa338_13, ca338_13, rfl, ka338_1, ra338_1, ka338_2, ra338_2, ka338_3, ra338_3, ka338_6, ra338_6, ka338_10, ra338_10, ka338_11, ra338_11, ka338_12, ra338_12, ka338_13, ra338_13⟩ := he342
    refine ⟨_, ldA (Sub.refl _) hc341, ?_⟩
    refine new_in S fun h343 o344 x345 => ?_
    have d348 : Dj (fb bk2) (fb (Array.size h)) := Dj.new o2.lt
    have d349 : Dj (fp A5 c5) (fb (Array.size h)) := Dj.new o5.lt
    have d350 : Dj (fp A6 c6) (fb (Array.size h)) := Dj.new o6.lt
    have d351 : Dj (fb bk10) (fb (Array.size h)) := Dj.new o10.lt
    have d352 : Dj (fp A29 c29) (fb (Array.size h)) := Dj.new o29.lt
    have d353 : Dj (fp A80 c80) (fb (Array.size h)) := Dj.new o80.lt
    have o354 := o2.ext x345
    have o355 := o5.ext T_api_Expr.T S.s x345
    have o356 := o6.ext tell_str S.s x345
    have o357 := o10.ext x345
    have o358 := o29.ext T_api_Expr.T S.s x345
    have o359 := o80.ext T_api_Func.T S.s x345
    have S346 := S.ext' x345
    have o344 : OB _ _ h343 _ (Array.size h) [(Value.string (ByteArray.mk #[])), (Value.slice none 0 0), (Value.slice none 0 0), (Value.slice none 0 0), (Value.int .i64 (0 : Int)), (Value.string (ByteArray.mk #[])), (Value.slice none 0 0), (Value.int .i64 (0 : Int)), (Value.int .i64 (0 : Int)), (Value.string (ByteArray.mk #[])), (Value.slice none 0 0), (Value.slice none 0 0), (Value.slice none 0 0), (Value.slice none 0 0), (Value.int .i64 (0 : Int))] 73 := o344
    obtain ⟨h360, w361, o362, t363⟩ := o344.stA S346.s [(Value.string y336.Name), (Value.slice Aa338_1 (List.length y336.Params) ca338_1), (Value.slice Aa338_2 (List.length y336.Names) ca338_2), (Value.slice Aa338_3 (List.length y336.Types) ca338_3), (Value.int .i64 y336.Out.Kind), (Value.string y336.Out.Name), (Value.slice Aa338_6 (List.length y336.Out.Args) ca338_6), (Value.int .i64 y336.Body.Kind), (Value.int .i64 y336.Body.Num), (Value.string y336.Body.Text), (Value.slice Aa338_10 (List.length y336.Body.Names) ca338_10), (Value.slice Aa338_11 (List.length y336.Body.Types) ca338_11), (Value.slice Aa338_12 (List.length y336.Body.Args) ca338_12), (Value.slice Aa338_13 (List.length y336.Body.Arms) ca338_13), (Value.int .i64 y336.Body.At)] rfl (Flats.cons trivial (Flats.cons trivial (Flats.cons trivial (Flats.cons trivial (Flats.cons trivial (Flats.cons trivial (Flats.cons trivial (Flats.cons trivial (Flats.cons trivial (Flats.cons trivial (Flats.cons trivial (Flats.cons trivial (Flats.cons trivial (Flats.cons trivial (Flats.cons trivial Flats.nil)))))))))))))))
    refine ⟨[(Value.string y336.Name), (Value.slice Aa338_1 (List.length y336.Params) ca338_1), (Value.slice Aa338_2 (List.length y336.Names) ca338_2), (Value.slice Aa338_3 (List.length y336.Types) ca338_3), (Value.int .i64 y336.Out.Kind), (Value.string y336.Out.Name), (Value.slice Aa338_6 (List.length y336.Out.Args) ca338_6), (Value.int .i64 y336.Body.Kind), (Value.int .i64 y336.Body.Num), (Value.string y336.Body.Text), (Value.slice Aa338_10 (List.length y336.Body.Names) ca338_10), (Value.slice Aa338_11 (List.length y336.Body.Types) ca338_11), (Value.slice Aa338_12 (List.length y336.Body.Args) ca338_12), (Value.slice Aa338_13 (List.length y336.Body.Arms) ca338_13), (Value.int .i64 y336.Body.At)], rfl, rfl, h360, w361, ?_⟩
    have o362 : OB _ _ h360 _ (Array.size h) [(Value.string y336.Name), (Value.slice Aa338_1 (List.length y336.Params) ca338_1), (Value.slice Aa338_2 (List.length y336.Names) ca338_2), (Value.slice Aa338_3 (List.length y336.Types) ca338_3), (Value.int .i64 y336.Out.Kind), (Value.string y336.Out.Name), (Value.slice Aa338_6 (List.length y336.Out.Args) ca338_6), (Value.int .i64 y336.Body.Kind), (Value.int .i64 y336.Body.Num), (Value.string y336.Body.Text), (Value.slice Aa338_10 (List.length y336.Body.Names) ca338_10), (Value.slice Aa338_11 (List.length y336.Body.Types) ca338_11), (Value.slice Aa338_12 (List.length y336.Body.Args) ca338_12), (Value.slice Aa338_13 (List.length y336.Body.Arms) ca338_13), (Value.int .i64 y336.Body.At)] 73 := o362
    have S364 := S346.then t363 (fun i _ hi => o344.wr i hi)
    have o365 := o354.step t363 (d348).symm
    have o366 := o355.step T_api_Expr.T t363 (d349).symm
    have o367 := o356.step tell_str t363 (d350).symm
    have o368 := o357.step t363 (d351).symm
    have o369 := o358.step T_api_Expr.T t363 (d352).symm
    have o370 := o359.step T_api_Func.T t363 (d353).symm
    refine ⟨_, ld0 (Sub.refl _) o362.all rfl, _, rfl, ?_⟩
    refine ⟨_, ldk (k := 2) (Sub.refl _) o368.all rfl, _, rfl, ?_⟩
    try rw [ba_list y336.Name y10.Text]
    refine split_dec_e e (fun c415 e => ?_) (fun c415 e => ?_)
    · refine ⟨(Value.agg #[(Value.int .i64 y336.Body.Kind), (Value.int .i64 y336.Body.Num), (Value.string y336.Body.Text), (Value.slice Aa338_10 (List.length y336.Body.Names) ca338_10), (Value.slice Aa338_11 (List.length y336.Body.Types) ca338_11), (Value.slice Aa338_12 (List.length y336.Body.Args) ca338_12), (Value.slice Aa338_13 (List.length y336.Body.Arms) ca338_13), (Value.int .i64 y336.Body.At)]), ldAk (k := 7) (j := 8) (Sub.refl _) o362.all (Nat.le_of_ble_eq_true rfl), ?_⟩
      refine ⟨[(Value.int .i64 y336.Body.Kind), (Value.int .i64 y336.Body.Num), (Value.string y336.Body.Text), (Value.slice Aa338_10 (List.length y336.Body.Names) ca338_10), (Value.slice Aa338_11 (List.length y336.Body.Types) ca338_11), (Value.slice Aa338_12 (List.length y336.Body.Args) ca338_12), (Value.slice Aa338_13 (List.length y336.Body.Arms) ca338_13), (Value.int .i64 y336.Body.At)], rfl, rfl, ?_⟩
      refine new_in S364 fun h371 o372 x373 => ?_
      have d376 : Dj (fb bk2) (fb (Array.size h360)) := Dj.new o365.lt
      have d377 : Dj (fp A5 c5) (fb (Array.size h360)) := Dj.new o366.lt
      have d378 : Dj (fp A6 c6) (fb (Array.size h360)) := Dj.new o367.lt
      have d379 : Dj (fb bk10) (fb (Array.size h360)) := Dj.new o368.lt
      have d380 : Dj (fp A29 c29) (fb (Array.size h360)) := Dj.new o369.lt
      have d381 : Dj (fp A80 c80) (fb (Array.size h360)) := Dj.new o370.lt
      have d382 : Dj (fb (Array.size h)) (fb (Array.size h360)) := Dj.new o362.lt
      have o383 := o365.ext x373
      have o384 := o366.ext T_api_Expr.T S364.s x373
      have o385 := o367.ext tell_str S364.s x373
      have o386 := o368.ext x373
      have o387 := o369.ext T_api_Expr.T S364.s x373
      have o388 := o370.ext T_api_Func.T S364.s x373
      have o389 := o362.ext x373
      have S374 := S364.ext' x373
      have o372 : OB _ _ h371 _ (Array.size h360) [(Value.int .i64 y336.Body.Kind), (Value.int .i64 y336.Body.Num), (Value.string y336.Body.Text), (Value.slice Aa338_10 (List.length y336.Body.Names) ca338_10), (Value.slice Aa338_11 (List.length y336.Body.Types) ca338_11), (Value.slice Aa338_12 (List.length y336.Body.Args) ca338_12), (Value.slice Aa338_13 (List.length y336.Body.Arms) ca338_13), (Value.int .i64 y336.Body.At)] 71 := o372
      have o390 : OS _ _ 8 T_api_Expr.E h371 m (some ⟨(Array.size h360), 0, none⟩) ([y336.Body] : List T_api_Expr) 1 := OB.row o372 (CsE.cons (c1 := [(Value.int .i64 y336.Body.Kind), (Value.int .i64 y336.Body.Num), (Value.string y336.Body.Text), (Value.slice Aa338_10 (List.length y336.Body.Names) ca338_10), (Value.slice Aa338_11 (List.length y336.Body.Types) ca338_11), (Value.slice Aa338_12 (List.length y336.Body.Args) ca338_12), (Value.slice Aa338_13 (List.length y336.Body.Arms) ca338_13), (Value.int .i64 y336.Body.At)]) (T_api_Expr.iff.2 ⟨_, _, _, _, _, _, _, _, rfl, ka338_10, ra338_10, ka338_11, ra338_11, ka338_12, ra338_12, ka338_13, ra338_13⟩) rfl CsE.nil) rfl
      obtain ⟨l391, g392, e⟩ := bind_e e
      refine o384.app T_api_Expr.T S374 rfl rfl (o390.srcE rfl) (by decide) g392 fun A393 c394 h395 o396 t397 n398 => ?_
      refine ⟨_, _, _, rfl, ?_⟩
      have d400 : Dj (fb bk2) (fp A393 c394) := Dj.app d0_1 o383.lt n398
      have d401 : Dj (fp A6 c6) (fp A393 c394) := Dj.app (d1_2).symm o385.lt n398
      have d402 : Dj (fb bk10) (fp A393 c394) := Dj.app (d1_3).symm o386.lt n398
      have d403 : Dj (fp A29 c29) (fp A393 c394) := Dj.app (d1_4).symm o387.lt n398
      have d404 : Dj (fp A80 c80) (fp A393 c394) := Dj.app (d1_5).symm o388.lt n398
      have d405 : Dj (fb (Array.size h)) (fp A393 c394) := Dj.app (d349).symm o389.lt n398
      have d406 : Dj (fp (some ⟨(Array.size h360), 0, none⟩) 1) (fp A393 c394) := Dj.app ((d377.row)).symm o390.lt n398
      have S407 := S374.then t397 (fun i _ hi => o384.wr i hi)
      have o408 := o383.step t397 (d0_1).symm
      have o409 := o385.step tell_str t397 d1_2
      have o410 := o386.step t397 d1_3
      have o411 := o387.step T_api_Expr.T t397 d1_4
      have o412 := o388.step T_api_Func.T t397 d1_5
      have o413 := o389.step t397 d349
      have o414 := o390.step T_api_Expr.T t397 (d377.row)
      exact (ih _ _ e) _ _ _ _ _ _ _ _ _ _ _ _ _ _ _ _ _ _ _ _ S407 o408 (show T_api_Program.E _ y2 [(Value.string y2.Name), (Value.int .i64 y2.Version), (Value.slice Ae2_2 (List.length y2.Uses) ce2_2), (Value.slice Ae2_3 (List.length y2.Datas) ce2_3), (Value.slice Ae2_4 (List.length y2.Traits) ce2_4), (Value.slice Ae2_5 (List.length y2.Impls) ce2_5), (Value.slice Ae2_6 (List.length y2.Funcs) ce2_6), (Value.slice Ae2_7 (List.length y2.Actors) ce2_7)] from ⟨_, _, _, _, _, _, _, _, _, _, _, _, rfl, ke2_2, re2_2, ke2_3, re2_3, ke2_4, re2_4, ke2_5, re2_5, ke2_6, re2_6, ke2_7, re2_7⟩) rfl o396 rfl o409 o410 (T_api_Expr.iff.2 ⟨_, _, _, _, _, _, _, _, rfl, ke10_3, re10_3, ke10_4, re10_4, ke10_5, re10_5, ke10_6, re10_6⟩) rfl o411 rfl o412 d400 d0_2 d0_3 d0_4 d0_5 (d401).symm (d402).symm (d403).symm (d404).symm d2_3 d2_4 d2_5 d3_4 d3_5 d4_5
    · exact (ih _ _ e) _ _ _ _ _ _ _ _ _ _ _ _ _ _ _ _ _ _ _ _ S364 o365 (show T_api_Program.E _ y2 [(Value.string y2.Name), (Value.int .i64 y2.Version), (Value.slice Ae2_2 (List.length y2.Uses) ce2_2), (Value.slice Ae2_3 (List.length y2.Datas) ce2_3), (Value.slice Ae2_4 (List.length y2.Traits) ce2_4), (Value.slice Ae2_5 (List.length y2.Impls) ce2_5), (Value.slice Ae2_6 (List.length y2.Funcs) ce2_6), (Value.slice Ae2_7 (List.length y2.Actors) ce2_7)] from ⟨_, _, _, _, _, _, _, _, _, _, _, _, rfl, ke2_2, re2_2, ke2_3, re2_3, ke2_4, re2_4, ke2_5, re2_5, ke2_6, re2_6, ke2_7, re2_7⟩) rfl o366 rfl o367 o368 (T_api_Expr.iff.2 ⟨_, _, _, _, _, _, _, _, rfl, ke10_3, re10_3, ke10_4, re10_4, ke10_5, re10_5, ke10_6, re10_6⟩) rfl o369 rfl o370 d0_1 d0_2 d0_3 d0_4 d0_5 d1_2 d1_3 d1_4 d1_5 d2_3 d2_4 d2_5 d3_4 d3_5 d4_5
  · exact (ih _ _ e) _ _ _ _ _ _ _ _ _ _ _ _ _ _ _ S o2 (show T_api_Program.E _ y2 [(Value.string y2.Name), (Value.int .i64 y2.Version), (Value.slice Ae2_2 (List.length y2.Uses) ce2_2), (Value.slice Ae2_3 (List.length y2.Datas) ce2_3), (Value.slice Ae2_4 (List.length y2.Traits) ce2_4), (Value.slice Ae2_5 (List.length y2.Impls) ce2_5), (Value.slice Ae2_6 (List.length y2.Funcs) ce2_6), (Value.slice Ae2_7 (List.length y2.Actors) ce2_7)] from ⟨_, _, _, _, _, _, _, _, _, _, _, _, rfl, ke2_2, re2_2, ke2_3, re2_3, ke2_4, re2_4, ke2_5, re2_5, ke2_6, re2_6, ke2_7, re2_7⟩) rfl o5 rfl o6 rfl o29 d0_1 d0_2 d0_4 d1_2 d1_4 d2_4
theorem roadref2_led.l0_k.all {p : roadref2_led.l0_k.Pt} {r : ((List T_api_Expr))} (e : roadref2_led.l0_k.go p = some r) : roadref2_led.l0_k.I p r := fixF_ind (β := fun _ => ((List T_api_Expr))) roadref2_led.l0_k.mono (I := roadref2_led.l0_k.I) (fun go ih p r e => match p with
  | .l0 y2 a5 a6 b7 x8 => roadref2_led.l0_k.step_l0 go ih y2 a5 a6 b7 x8 r e
  | .l1 y2 a5 a6 b7 x8 a29 x30 x31 => roadref2_led.l0_k.step_l1 go ih y2 a5 a6 b7 x8 a29 x30 x31 r e
  | .j1 y2 a5 a6 b7 x8 y10 a29 x30 x31 b41 => roadref2_led.l0_k.step_j1 go ih y2 a5 a6 b7 x8 y10 a29 x30 x31 b41 r e
  | .l3 y2 a5 a6 b7 x8 y10 a29 x30 x31 a43 x44 x45 => roadref2_led.l0_k.step_l3 go ih y2 a5 a6 b7 x8 y10 a29 x30 x31 a43 x44 x45 r e
  | .l4 y2 a5 a6 b7 x8 y10 a29 x30 x31 a43 x44 x45 a50 x51 x52 => roadref2_led.l0_k.step_l4 go ih y2 a5 a6 b7 x8 y10 a29 x30 x31 a43 x44 x45 a50 x51 x52 r e
  | .j0 y2 a5 a6 b7 x8 y10 a29 x30 x31 => roadref2_led.l0_k.step_j0 go ih y2 a5 a6 b7 x8 y10 a29 x30 x31 r e
  | .j2 y2 a5 a6 b7 x8 y10 a29 x30 x31 => roadref2_led.l0_k.step_j2 go ih y2 a5 a6 b7 x8 y10 a29 x30 x31 r e
  | .l2 y2 a5 a6 b7 x8 y10 a29 x30 x31 a80 x81 x82 => roadref2_led.l0_k.step_l2 go ih y2 a5 a6 b7 x8 y10 a29 x30 x31 a80 x81 x82 r e
  ) e
theorem roadref2_led.l0.walk {h0 m0 h m : Heap} {bk2 : Nat} {cs2 : List Value} {A5 : Option Addr} {n5 c5 : Nat} {A6 : Option Addr} {n6 c6 : Nat} {y2 : T_api_Program} {a5 : List T_api_Expr} {a6 : List ByteArray} {b7 : Bool} {x8 : Int} (S : St No h0 m0 h m) (o2 : OB No h0 h m bk2 cs2 53) (e2 : T_api_Program.E m y2 cs2) (ne5 : n5 = List.length a5) (o5 : OS No h0 8 T_api_Expr.E h m A5 a5 c5) (ne6 : n6 = List.length a6) (o6 : OS No h0 1 eStr h m A6 a6 c6) (d0_1 : Dj (fb bk2) (fp A5 c5)) (d0_2 : Dj (fb bk2) (fp A6 c6)) (d1_2 : Dj (fp A5 c5) (fp A6 c6)) {r : (List T_api_Expr)} (e : roadref2_led.l0 y2 a5 a6 b7 x8 = some r) : f91.l0 (roadref2_led.post No h0 m0 r) (⟨bk2, 0, none⟩ : Addr) A5 n5 c5 A6 n6 c6 b7 x8 h := roadref2_led.l0_k.all (p := .l0 y2 a5 a6 b7 x8) e h0 m0 h m bk2 cs2 A5 n5 c5 A6 n6 c6 S o2 e2 ne5 o5 ne6 o6 d0_1 d0_2 d1_2
theorem roadref2_led.l1.walk {h0 m0 h m : Heap} {bk2 : Nat} {cs2 : List Value} {A5 : Option Addr} {n5 c5 : Nat} {A6 : Option Addr} {n6 c6 : Nat} {A29 : Option Addr} {n29 c29 : Nat} {y2 : T_api_Program} {a5 : List T_api_Expr} {a6 : List ByteArray} {b7 : Bool} {x8 : Int} {a29 : List T_api_Expr} {x30 : Int} {x31 : Int} (S : St No h0 m0 h m) (o2 : OB No h0 h m bk2 cs2 53) (e2 : T_api_Program.E m y2 cs2) (ne5 : n5 = List.length a5) (o5 : OS No h0 8 T_api_Expr.E h m A5 a5 c5) (ne6 : n6 = List.length a6) (o6 : OS No h0 1 eStr h m A6 a6 c6) (ne29 : n29 = List.length a29) (o29 : OS No h0 8 T_api_Expr.E h m A29 a29 c29) (d0_1 : Dj (fb bk2) (fp A5 c5)) (d0_2 : Dj (fb bk2) (fp A6 c6)) (d0_3 : Dj (fb bk2) (fp A29 c29)) (d1_2 : Dj (fp A5 c5) (fp A6 c6)) (d1_3 : Dj (fp A5 c5) (fp A29 c29)) (d2_3 : Dj (fp A6 c6) (fp A29 c29)) {r : (List T_api_Expr)} (e : roadref2_led.l1 y2 a5 a6 b7 x8 a29 x30 x31 = some r) : f91.l1 (roadref2_led.post No h0 m0 r) (⟨bk2, 0, none⟩ : Addr) A5 n5 c5 A6 n6 c6 b7 x8 A29 n29 c29 x30 x31 h := roadref2_led.l0_k.all (p := .l1 y2 a5 a6 b7 x8 a29 x30 x31) e h0 m0 h m bk2 cs2 A5 n5 c5 A6 n6 c6 A29 n29 c29 S o2 e2 ne5 o5 ne6 o6 ne29 o29 d0_1 d0_2 d0_3 d1_2 d1_3 d2_3
theorem roadref2_led.j1.walk {h0 m0 h m : Heap} {bk2 : Nat} {cs2 : List Value} {A5 : Option Addr} {n5 c5 : Nat} {A6 : Option Addr} {n6 c6 : Nat} {bk10 : Nat} {cs10 : List Value} {A29 : Option Addr} {n29 c29 : Nat} {y2 : T_api_Program} {a5 : List T_api_Expr} {a6 : List ByteArray} {b7 : Bool} {x8 : Int} {y10 : T_api_Expr} {a29 : List T_api_Expr} {x30 : Int} {x31 : Int} {b41 : Bool} (S : St No h0 m0 h m) (o2 : OB No h0 h m bk2 cs2 53) (e2 : T_api_Program.E m y2 cs2) (ne5 : n5 = List.length a5) (o5 : OS No h0 8 T_api_Expr.E h m A5 a5 c5) (ne6 : n6 = List.length a6) (o6 : OS No h0 1 eStr h m A6 a6 c6) (o10 : OB No h0 h m bk10 cs10 71) (e10 : T_api_Expr.E m y10 cs10) (ne29 : n29 = List.length a29) (o29 : OS No h0 8 T_api_Expr.E h m A29 a29 c29) (d0_1 : Dj (fb bk2) (fp A5 c5)) (d0_2 : Dj (fb bk2) (fp A6 c6)) (d0_3 : Dj (fb bk2) (fb bk10)) (d0_4 : Dj (fb bk2) (fp A29 c29)) (d1_2 : Dj (fp A5 c5) (fp A6 c6)) (d1_3 : Dj (fp A5 c5) (fb bk10)) (d1_4 : Dj (fp A5 c5) (fp A29 c29)) (d2_3 : Dj (fp A6 c6) (fb bk10)) (d2_4 : Dj (fp A6 c6) (fp A29 c29)) (d3_4 : Dj (fb bk10) (fp A29 c29)) {r : (List T_api_Expr)} (e : roadref2_led.j1 y2 a5 a6 b7 x8 y10 a29 x30 x31 b41 = some r) : f91.j1 (roadref2_led.post No h0 m0 r) (⟨bk2, 0, none⟩ : Addr) A5 n5 c5 A6 n6 c6 b7 x8 (⟨bk10, 0, none⟩ : Addr) A29 n29 c29 x30 x31 b41 h := roadref2_led.l0_k.all (p := .j1 y2 a5 a6 b7 x8 y10 a29 x30 x31 b41) e h0 m0 h m bk2 cs2 A5 n5 c5 A6 n6 c6 bk10 cs10 A29 n29 c29 S o2 e2 ne5 o5 ne6 o6 o10 e10 ne29 o29 d0_1 d0_2 d0_3 d0_4 d1_2 d1_3 d1_4 d2_3 d2_4 d3_4
theorem roadref2_led.l3.walk {h0 m0 h m : Heap} {bk2 : Nat} {cs2 : List Value} {A5 : Option Addr} {n5 c5 : Nat} {A6 : Option Addr} {n6 c6 : Nat} {bk10 : Nat} {cs10 : List Value} {A29 : Option Addr} {n29 c29 : Nat} {A43 : Option Addr} {n43 c43 : Nat} {y2 : T_api_Program} {a5 : List T_api_Expr} {a6 : List ByteArray} {b7 : Bool} {x8 : Int} {y10 : T_api_Expr} {a29 : List T_api_Expr} {x30 : Int} {x31 : Int} {a43 : List T_api_Expr} {x44 : Int} {x45 : Int} (S : St No h0 m0 h m) (o2 : OB No h0 h m bk2 cs2 53) (e2 : T_api_Program.E m y2 cs2) (ne5 : n5 = List.length a5) (o5 : OS No h0 8 T_api_Expr.E h m A5 a5 c5) (ne6 : n6 = List.length a6) (o6 : OS No h0 1 eStr h m A6 a6 c6) (o10 : OB No h0 h m bk10 cs10 71) (e10 : T_api_Expr.E m y10 cs10) (ne29 : n29 = List.length a29) (o29 : OS No h0 8 T_api_Expr.E h m A29 a29 c29) (ne43 : n43 = List.length a43) (o43 : OS No h0 8 T_api_Expr.E h m A43 a43 c43) (d0_1 : Dj (fb bk2) (fp A5 c5)) (d0_2 : Dj (fb bk2) (fp A6 c6)) (d0_3 : Dj (fb bk2) (fb bk10)) (d0_4 : Dj (fb bk2) (fp A29 c29)) (d0_5 : Dj (fb bk2) (fp A43 c43)) (d1_2 : Dj (fp A5 c5) (fp A6 c6)) (d1_3 : Dj (fp A5 c5) (fb bk10)) (d1_4 : Dj (fp A5 c5) (fp A29 c29)) (d1_5 : Dj (fp A5 c5) (fp A43 c43)) (d2_3 : Dj (fp A6 c6) (fb bk10)) (d2_4 : Dj (fp A6 c6) (fp A29 c29)) (d2_5 : Dj (fp A6 c6) (fp A43 c43)) (d3_4 : Dj (fb bk10) (fp A29 c29)) (d3_5 : Dj (fb bk10) (fp A43 c43)) (d4_5 : Dj (fp A29 c29) (fp A43 c43)) {r : (List T_api_Expr)} (e : roadref2_led.l3 y2 a5 a6 b7 x8 y10 a29 x30 x31 a43 x44 x45 = some r) : f91.l3 (roadref2_led.post No h0 m0 r) (⟨bk2, 0, none⟩ : Addr) A5 n5 c5 A6 n6 c6 b7 x8 (⟨bk10, 0, none⟩ : Addr) A29 n29 c29 x30 x31 A43 n43 c43 x44 x45 h := roadref2_led.l0_k.all (p := .l3 y2 a5 a6 b7 x8 y10 a29 x30 x31 a43 x44 x45) e h0 m0 h m bk2 cs2 A5 n5 c5 A6 n6 c6 bk10 cs10 A29 n29 c29 A43 n43 c43 S o2 e2 ne5 o5 ne6 o6 o10 e10 ne29 o29 ne43 o43 d0_1 d0_2 d0_3 d0_4 d0_5 d1_2 d1_3 d1_4 d1_5 d2_3 d2_4 d2_5 d3_4 d3_5 d4_5
theorem roadref2_led.l4.walk {h0 m0 h m : Heap} {bk2 : Nat} {cs2 : List Value} {A5 : Option Addr} {n5 c5 : Nat} {A6 : Option Addr} {n6 c6 : Nat} {bk10 : Nat} {cs10 : List Value} {A29 : Option Addr} {n29 c29 : Nat} {A43 : Option Addr} {n43 c43 : Nat} {A50 : Option Addr} {n50 c50 : Nat} {y2 : T_api_Program} {a5 : List T_api_Expr} {a6 : List ByteArray} {b7 : Bool} {x8 : Int} {y10 : T_api_Expr} {a29 : List T_api_Expr} {x30 : Int} {x31 : Int} {a43 : List T_api_Expr} {x44 : Int} {x45 : Int} {a50 : List T_api_Expr} {x51 : Int} {x52 : Int} (S : St No h0 m0 h m) (o2 : OB No h0 h m bk2 cs2 53) (e2 : T_api_Program.E m y2 cs2) (ne5 : n5 = List.length a5) (o5 : OS No h0 8 T_api_Expr.E h m A5 a5 c5) (ne6 : n6 = List.length a6) (o6 : OS No h0 1 eStr h m A6 a6 c6) (o10 : OB No h0 h m bk10 cs10 71) (e10 : T_api_Expr.E m y10 cs10) (ne29 : n29 = List.length a29) (o29 : OS No h0 8 T_api_Expr.E h m A29 a29 c29) (ne43 : n43 = List.length a43) (o43 : OS No h0 8 T_api_Expr.E h m A43 a43 c43) (ne50 : n50 = List.length a50) (o50 : OS No h0 8 T_api_Expr.E h m A50 a50 c50) (d0_1 : Dj (fb bk2) (fp A5 c5)) (d0_2 : Dj (fb bk2) (fp A6 c6)) (d0_3 : Dj (fb bk2) (fb bk10)) (d0_4 : Dj (fb bk2) (fp A29 c29)) (d0_5 : Dj (fb bk2) (fp A43 c43)) (d0_6 : Dj (fb bk2) (fp A50 c50)) (d1_2 : Dj (fp A5 c5) (fp A6 c6)) (d1_3 : Dj (fp A5 c5) (fb bk10)) (d1_4 : Dj (fp A5 c5) (fp A29 c29)) (d1_5 : Dj (fp A5 c5) (fp A43 c43)) (d1_6 : Dj (fp A5 c5) (fp A50 c50)) (d2_3 : Dj (fp A6 c6) (fb bk10)) (d2_4 : Dj (fp A6 c6) (fp A29 c29)) (d2_5 : Dj (fp A6 c6) (fp A43 c43)) (d2_6 : Dj (fp A6 c6) (fp A50 c50)) (d3_4 : Dj (fb bk10) (fp A29 c29)) (d3_5 : Dj (fb bk10) (fp A43 c43)) (d3_6 : Dj (fb bk10) (fp A50 c50)) (d4_5 : Dj (fp A29 c29) (fp A43 c43)) (d4_6 : Dj (fp A29 c29) (fp A50 c50)) (d5_6 : Dj (fp A43 c43) (fp A50 c50)) {r : (List T_api_Expr)} (e : roadref2_led.l4 y2 a5 a6 b7 x8 y10 a29 x30 x31 a43 x44 x45 a50 x51 x52 = some r) : f91.l4 (roadref2_led.post No h0 m0 r) (⟨bk2, 0, none⟩ : Addr) A5 n5 c5 A6 n6 c6 b7 x8 (⟨bk10, 0, none⟩ : Addr) A29 n29 c29 x30 x31 A43 n43 c43 x44 x45 A50 n50 c50 x51 x52 h := roadref2_led.l0_k.all (p := .l4 y2 a5 a6 b7 x8 y10 a29 x30 x31 a43 x44 x45 a50 x51 x52) e h0 m0 h m bk2 cs2 A5 n5 c5 A6 n6 c6 bk10 cs10 A29 n29 c29 A43 n43 c43 A50 n50 c50 S o2 e2 ne5 o5 ne6 o6 o10 e10 ne29 o29 ne43 o43 ne50 o50 d0_1 d0_2 d0_3 d0_4 d0_5 d0_6 d1_2 d1_3 d1_4 d1_5 d1_6 d2_3 d2_4 d2_5 d2_6 d3_4 d3_5 d3_6 d4_5 d4_6 d5_6
theorem roadref2_led.j0.walk {h0 m0 h m : Heap} {bk2 : Nat} {cs2 : List Value} {A5 : Option Addr} {n5 c5 : Nat} {A6 : Option Addr} {n6 c6 : Nat} {bk10 : Nat} {cs10 : List Value} {A29 : Option Addr} {n29 c29 : Nat} {y2 : T_api_Program} {a5 : List T_api_Expr} {a6 : List ByteArray} {b7 : Bool} {x8 : Int} {y10 : T_api_Expr} {a29 : List T_api_Expr} {x30 : Int} {x31 : Int} (S : St No h0 m0 h m) (o2 : OB No h0 h m bk2 cs2 53) (e2 : T_api_Program.E m y2 cs2) (ne5 : n5 = List.length a5) (o5 : OS No h0 8 T_api_Expr.E h m A5 a5 c5) (ne6 : n6 = List.length a6) (o6 : OS No h0 1 eStr h m A6 a6 c6) (o10 : OB No h0 h m bk10 cs10 71) (e10 : T_api_Expr.E m y10 cs10) (ne29 : n29 = List.length a29) (o29 : OS No h0 8 T_api_Expr.E h m A29 a29 c29) (d0_1 : Dj (fb bk2) (fp A5 c5)) (d0_2 : Dj (fb bk2) (fp A6 c6)) (d0_3 : Dj (fb bk2) (fb bk10)) (d0_4 : Dj (fb bk2) (fp A29 c29)) (d1_2 : Dj (fp A5 c5) (fp A6 c6)) (d1_3 : Dj (fp A5 c5) (fb bk10)) (d1_4 : Dj (fp A5 c5) (fp A29 c29)) (d2_3 : Dj (fp A6 c6) (fb bk10)) (d2_4 : Dj (fp A6 c6) (fp A29 c29)) (d3_4 : Dj (fb bk10) (fp A29 c29)) {r : (List T_api_Expr)} (e : roadref2_led.j0 y2 a5 a6 b7 x8 y10 a29 x30 x31 = some r) : f91.j0 (roadref2_led.post No h0 m0 r) (⟨bk2, 0, none⟩ : Addr) A5 n5 c5 A6 n6 c6 b7 x8 (⟨bk10, 0, none⟩ : Addr) A29 n29 c29 x30 x31 h := roadref2_led.l0_k.all (p := .j0 y2 a5 a6 b7 x8 y10 a29 x30 x31) e h0 m0 h m bk2 cs2 A5 n5 c5 A6 n6 c6 bk10 cs10 A29 n29 c29 S o2 e2 ne5 o5 ne6 o6 o10 e10 ne29 o29 d0_1 d0_2 d0_3 d0_4 d1_2 d1_3 d1_4 d2_3 d2_4 d3_4
theorem roadref2_led.j2.walk {h0 m0 h m : Heap} {bk2 : Nat} {cs2 : List Value} {A5 : Option Addr} {n5 c5 : Nat} {A6 : Option Addr} {n6 c6 : Nat} {bk10 : Nat} {cs10 : List Value} {A29 : Option Addr} {n29 c29 : Nat} {y2 : T_api_Program} {a5 : List T_api_Expr} {a6 : List ByteArray} {b7 : Bool} {x8 : Int} {y10 : T_api_Expr} {a29 : List T_api_Expr} {x30 : Int} {x31 : Int} (S : St No h0 m0 h m) (o2 : OB No h0 h m bk2 cs2 53) (e2 : T_api_Program.E m y2 cs2) (ne5 : n5 = List.length a5) (o5 : OS No h0 8 T_api_Expr.E h m A5 a5 c5) (ne6 : n6 = List.length a6) (o6 : OS No h0 1 eStr h m A6 a6 c6) (o10 : OB No h0 h m bk10 cs10 71) (e10 : T_api_Expr.E m y10 cs10) (ne29 : n29 = List.length a29) (o29 : OS No h0 8 T_api_Expr.E h m A29 a29 c29) (d0_1 : Dj (fb bk2) (fp A5 c5)) (d0_2 : Dj (fb bk2) (fp A6 c6)) (d0_3 : Dj (fb bk2) (fb bk10)) (d0_4 : Dj (fb bk2) (fp A29 c29)) (d1_2 : Dj (fp A5 c5) (fp A6 c6)) (d1_3 : Dj (fp A5 c5) (fb bk10)) (d1_4 : Dj (fp A5 c5) (fp A29 c29)) (d2_3 : Dj (fp A6 c6) (fb bk10)) (d2_4 : Dj (fp A6 c6) (fp A29 c29)) (d3_4 : Dj (fb bk10) (fp A29 c29)) {r : (List T_api_Expr)} (e : roadref2_led.j2 y2 a5 a6 b7 x8 y10 a29 x30 x31 = some r) : f91.j2 (roadref2_led.post No h0 m0 r) (⟨bk2, 0, none⟩ : Addr) A5 n5 c5 A6 n6 c6 b7 x8 (⟨bk10, 0, none⟩ : Addr) A29 n29 c29 x30 x31 h := roadref2_led.l0_k.all (p := .j2 y2 a5 a6 b7 x8 y10 a29 x30 x31) e h0 m0 h m bk2 cs2 A5 n5 c5 A6 n6 c6 bk10 cs10 A29 n29 c29 S o2 e2 ne5 o5 ne6 o6 o10 e10 ne29 o29 d0_1 d0_2 d0_3 d0_4 d1_2 d1_3 d1_4 d2_3 d2_4 d3_4
theorem roadref2_led.l2.walk {h0 m0 h m : Heap} {bk2 : Nat} {cs2 : List Value} {A5 : Option Addr} {n5 c5 : Nat} {A6 : Option Addr} {n6 c6 : Nat} {bk10 : Nat} {cs10 : List Value} {A29 : Option Addr} {n29 c29 : Nat} {A80 : Option Addr} {n80 c80 : Nat} {y2 : T_api_Program} {a5 : List T_api_Expr} {a6 : List ByteArray} {b7 : Bool} {x8 : Int} {y10 : T_api_Expr} {a29 : List T_api_Expr} {x30 : Int} {x31 : Int} {a80 : List T_api_Func} {x81 : Int} {x82 : Int} (S : St No h0 m0 h m) (o2 : OB No h0 h m bk2 cs2 53) (e2 : T_api_Program.E m y2 cs2) (ne5 : n5 = List.length a5) (o5 : OS No h0 8 T_api_Expr.E h m A5 a5 c5) (ne6 : n6 = List.length a6) (o6 : OS No h0 1 eStr h m A6 a6 c6) (o10 : OB No h0 h m bk10 cs10 71) (e10 : T_api_Expr.E m y10 cs10) (ne29 : n29 = List.length a29) (o29 : OS No h0 8 T_api_Expr.E h m A29 a29 c29) (ne80 : n80 = List.length a80) (o80 : OS No h0 15 T_api_Func.E h m A80 a80 c80) (d0_1 : Dj (fb bk2) (fp A5 c5)) (d0_2 : Dj (fb bk2) (fp A6 c6)) (d0_3 : Dj (fb bk2) (fb bk10)) (d0_4 : Dj (fb bk2) (fp A29 c29)) (d0_5 : Dj (fb bk2) (fp A80 c80)) (d1_2 : Dj (fp A5 c5) (fp A6 c6)) (d1_3 : Dj (fp A5 c5) (fb bk10)) (d1_4 : Dj (fp A5 c5) (fp A29 c29)) (d1_5 : Dj (fp A5 c5) (fp A80 c80)) (d2_3 : Dj (fp A6 c6) (fb bk10)) (d2_4 : Dj (fp A6 c6) (fp A29 c29)) (d2_5 : Dj (fp A6 c6) (fp A80 c80)) (d3_4 : Dj (fb bk10) (fp A29 c29)) (d3_5 : Dj (fb bk10) (fp A80 c80)) (d4_5 : Dj (fp A29 c29) (fp A80 c80)) {r : (List T_api_Expr)} (e : roadref2_led.l2 y2 a5 a6 b7 x8 y10 a29 x30 x31 a80 x81 x82 = some r) : f91.l2 (roadref2_led.post No h0 m0 r) (⟨bk2, 0, none⟩ : Addr) A5 n5 c5 A6 n6 c6 b7 x8 (⟨bk10, 0, none⟩ : Addr) A29 n29 c29 x30 x31 A80 n80 c80 x81 x82 h := roadref2_led.l0_k.all (p := .l2 y2 a5 a6 b7 x8 y10 a29 x30 x31 a80 x81 x82) e h0 m0 h m bk2 cs2 A5 n5 c5 A6 n6 c6 bk10 cs10 A29 n29 c29 A80 n80 c80 S o2 e2 ne5 o5 ne6 o6 o10 e10 ne29 o29 ne80 o80 d0_1 d0_2 d0_3 d0_4 d0_5 d1_2 d1_3 d1_4 d1_5 d2_3 d2_4 d2_5 d3_4 d3_5 d4_5

noncomputable def roadref2_led (y0 : T_api_Program) (y1 : T_api_Expr) : Option ((List T_api_Expr)) :=
  (roadref2_led.l0 y0 ([y1] : List T_api_Expr) ([] : List ByteArray) false (0 : Int))
set_option maxRecDepth 100000 in
theorem roadref2_led.walk {h m : Heap} {cs0 : List Value} {cs1 : List Value} {y0 : T_api_Program} {y1 : T_api_Expr} (s : Sub m h) (e0 : T_api_Program.E m y0 cs0) (e1 : T_api_Expr.E m y1 cs1) {r : (List T_api_Expr)} (e : roadref2_led y0 y1 = some r) : Run Try.prog 91 #[Value.agg cs0.toArray, Value.agg cs1.toArray] h (roadref2_led.post No h m r) := by
  unfold roadref2_led at e
  obtain ⟨Ae0_2, ce0_2, Ae0_3, ce0_3, Ae0_4, ce0_4, Ae0_5, ce0_5, Ae0_6, ce0_6, Ae0_7, ce0_7, rfl, ke0_2, re0_2, ke0_3, re0_3, ke0_4, re0_4, ke0_5, re0_5, ke0_6, re0_6, ke0_7, re0_7⟩ := e0
  obtain ⟨Ae1_3, ce1_3, Ae1_4, ce1_4, Ae1_5, ce1_5, Ae1_6, ce1_6, rfl, ke1_3, re1_3, ke1_4, re1_4, ke1_5, re1_5, ke1_6, re1_6⟩ := T_api_Expr.iff.1 e1
  have S : St No h m h m := .refl s
  refine f91.run ?_
  unfold f91.runT
  refine new_in S fun h1 o2 x3 => ?_
  have S4 := S.ext' x3
  have o2 : OB _ _ h1 _ (Array.size h) [(Value.string y0.Name), (Value.int .i64 y0.Version), (Value.slice Ae0_2 (List.length y0.Uses) ce0_2), (Value.slice Ae0_3 (List.length y0.Datas) ce0_3), (Value.slice Ae0_4 (List.length y0.Traits) ce0_4), (Value.slice Ae0_5 (List.length y0.Impls) ce0_5), (Value.slice Ae0_6 (List.length y0.Funcs) ce0_6), (Value.slice Ae0_7 (List.length y0.Actors) ce0_7)] 53 := o2
  refine new_in S4 fun h6 o7 x8 => ?_
  have d11 : Dj (fb (Array.size h)) (fb (Array.size h1)) := Dj.new o2.lt
  have o12 := o2.ext x8
  have S9 := S4.ext' x8
  have o7 : OB _ _ h6 _ (Array.size h1) [(Value.int .i64 y1.Kind), (Value.int .i64 y1.Num), (Value.string y1.Text), (Value.slice Ae1_3 (List.length y1.Names) ce1_3), (Value.slice Ae1_4 (List.length y1.Types) ce1_4), (Value.slice Ae1_5 (List.length y1.Args) ce1_5), (Value.slice Ae1_6 (List.length y1.Arms) ce1_6), (Value.int .i64 y1.At)] 71 := o7
  refine ⟨_, ldA (Sub.refl _) o7.all, ?_⟩
  refine ⟨[(Value.int .i64 y1.Kind), (Value.int .i64 y1.Num), (Value.string y1.Text), (Value.slice Ae1_3 (List.length y1.Names) ce1_3), (Value.slice Ae1_4 (List.length y1.Types) ce1_4), (Value.slice Ae1_5 (List.length y1.Args) ce1_5), (Value.slice Ae1_6 (List.length y1.Arms) ce1_6), (Value.int .i64 y1.At)], rfl, rfl, ?_⟩
  refine new_in S9 fun h13 o14 x15 => ?_
  have d18 : Dj (fb (Array.size h)) (fb (Array.size h6)) := Dj.new o12.lt
  have d19 : Dj (fb (Array.size h1)) (fb (Array.size h6)) := Dj.new o7.lt
  have o20 := o12.ext x15
  have o21 := o7.ext x15
  have S16 := S9.ext' x15
  have o14 : OB _ _ h13 _ (Array.size h6) [(Value.int .i64 y1.Kind), (Value.int .i64 y1.Num), (Value.string y1.Text), (Value.slice Ae1_3 (List.length y1.Names) ce1_3), (Value.slice Ae1_4 (List.length y1.Types) ce1_4), (Value.slice Ae1_5 (List.length y1.Args) ce1_5), (Value.slice Ae1_6 (List.length y1.Arms) ce1_6), (Value.int .i64 y1.At)] 71 := o14
  have o22 : OS _ _ 8 T_api_Expr.E h13 m (some ⟨(Array.size h6), 0, none⟩) ([y1] : List T_api_Expr) 1 := OB.row o14 (CsE.cons (c1 := [(Value.int .i64 y1.Kind), (Value.int .i64 y1.Num), (Value.string y1.Text), (Value.slice Ae1_3 (List.length y1.Names) ce1_3), (Value.slice Ae1_4 (List.length y1.Types) ce1_4), (Value.slice Ae1_5 (List.length y1.Args) ce1_5), (Value.slice Ae1_6 (List.length y1.Arms) ce1_6), (Value.int .i64 y1.At)]) (T_api_Expr.iff.2 ⟨_, _, _, _, _, _, _, _, rfl, ke1_3, re1_3, ke1_4, re1_4, ke1_5, re1_5, ke1_6, re1_6⟩) rfl CsE.nil) rfl
  have o24 : OS No h 1 eStr h13 m none ([] : List ByteArray) 0 := .inl ⟨rfl, rfl⟩
  exact roadref2_led.l0.walk S16 o20 (show T_api_Program.E _ y0 [(Value.string y0.Name), (Value.int .i64 y0.Version), (Value.slice Ae0_2 (List.length y0.Uses) ce0_2), (Value.slice Ae0_3 (List.length y0.Datas) ce0_3), (Value.slice Ae0_4 (List.length y0.Traits) ce0_4), (Value.slice Ae0_5 (List.length y0.Impls) ce0_5), (Value.slice Ae0_6 (List.length y0.Funcs) ce0_6), (Value.slice Ae0_7 (List.length y0.Actors) ce0_7)] from ⟨_, _, _, _, _, _, _, _, _, _, _, _, rfl, ke0_2, re0_2, ke0_3, re0_3, ke0_4, re0_4, ke0_5, re0_5, ke0_6, re0_6, ke0_7, re0_7⟩) rfl o22 rfl o24 (d18.row) (show Dj (fb (Array.size h)) (fp none 0) from Dj.nil) (show Dj (fp (some ⟨(Array.size h6), 0, none⟩) 1) (fp none 0) from Dj.nil) e

end Go.Proofs.Ytilmfjdagnbbaab.Fw
