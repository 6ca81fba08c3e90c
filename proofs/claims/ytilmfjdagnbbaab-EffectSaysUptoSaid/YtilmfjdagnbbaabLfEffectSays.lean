/- Data of the given program, and pure functions of its functions, with the walks. Printed by a program of this session. -/
import Derived.Test.YtilmfjdagnbbaabLfEffectSays1
namespace Go.Proofs.Ytilmfjdagnbbaab.Fw
open Go Go.Hw Go.Proofs
set_option linter.unusedVariables false

/-! ### 32 roadstead/roadref2.DoesOf -/
def roadref2_DoesOf.post (W : Nat → Prop) (h0 m0 : Heap) (r : Int) (v : Value) (h : Heap) : Prop := ∃ m , St W h0 m0 h m ∧ v = .int .i64 r
inductive roadref2_DoesOf.l0_k.Pt where
  | l0 (x5 : Int) (a10 : List T_api_Expr) (x11 : Int) (x12 : Int)
noncomputable def roadref2_DoesOf.l0_k.body (go : (p : roadref2_DoesOf.l0_k.Pt) → Option (Int)) : (p : roadref2_DoesOf.l0_k.Pt) → Option (Int)
  | .l0 x5 a10 x11 x12 => if x12 < x11 then (Option.bind (gi a10 x12) fun y30 => Option.bind (roadref2_OwnOf y30) fun y50 => (go (.l0 (bitsI .or .i64 x5 y50) a10 x11 (IntKind.wrap .i64 (x12 + (1 : Int)))))) else (some (x5))
theorem roadref2_DoesOf.l0_k.mono : MonoF (β := fun _ => (Int)) roadref2_DoesOf.l0_k.body := fun f g hfg p => match p with
  | .l0 x5 a10 x11 x12 => LeO.ite (LeO.bind (LeO.refl _) fun y30 => LeO.bind (LeO.refl _) fun y50 => (hfg _)) (LeO.refl _)
noncomputable def roadref2_DoesOf.l0_k.go (p : roadref2_DoesOf.l0_k.Pt) : Option (Int) := fixF (β := fun _ => (Int)) roadref2_DoesOf.l0_k.body p
noncomputable def roadref2_DoesOf.l0 (x5 : Int) (a10 : List T_api_Expr) (x11 : Int) (x12 : Int) : Option (Int) := roadref2_DoesOf.l0_k.go (.l0 x5 a10 x11 x12)
theorem roadref2_DoesOf.l0_eq (x5 : Int) (a10 : List T_api_Expr) (x11 : Int) (x12 : Int) : roadref2_DoesOf.l0 x5 a10 x11 x12 = if x12 < x11 then (Option.bind (gi a10 x12) fun y30 => Option.bind (roadref2_OwnOf y30) fun y50 => (roadref2_DoesOf.l0 (bitsI .or .i64 x5 y50) a10 x11 (IntKind.wrap .i64 (x12 + (1 : Int))))) else (some (x5)) := fixF_eq roadref2_DoesOf.l0_k.mono _
def roadref2_DoesOf.l0_k.I : (p : roadref2_DoesOf.l0_k.Pt) → (Int) → Prop
  | .l0 x5 a10 x11 x12, r => ∀ (h0 m0 h m : Heap) (A10 : Option Addr) (n10 c10 : Nat) (S : St No h0 m0 h m) (ne10 : n10 = List.length a10) (o10 : OS No h0 8 T_api_Expr.E h m A10 a10 c10), f32.l0 (roadref2_DoesOf.post No h0 m0 r) x5 A10 n10 c10 x11 x12 h
set_option maxRecDepth 100000 in
theorem roadref2_DoesOf.l0_k.step_l0 (go : (p : roadref2_DoesOf.l0_k.Pt) → Option (Int)) (ih : ∀ p r, go p = some r → roadref2_DoesOf.l0_k.I p r) (x5 : Int) (a10 : List T_api_Expr) (x11 : Int) (x12 : Int) (r : Int) (e : roadref2_DoesOf.l0_k.body go (.l0 x5 a10 x11 x12) = some r) : roadref2_DoesOf.l0_k.I (.l0 x5 a10 x11 x12) r := by
  unfold roadref2_DoesOf.l0_k.body at e
  intro h0 m0 h m A10 n10 c10 S ne10 o10
  subst ne10
  refine f32.l0_in ?_
  unfold f32.l0T
  refine split_dec_e e (fun c58 e => ?_) (fun c58 e => ?_)
  · obtain ⟨y30, g31, e⟩ := bind_e e
    refine o10.addr rfl g31 fun a32 cs33 ha34 hc35 he36 => ?_
    obtain ⟨Aa32_3, ca32_3, Aa32_4, ca32_4, Aa32_5, ca32_5, Aa32_6, ca32_6, rfl, ka32_3, ra32_3, ka32_4, ra32_4, ka32_5, ra32_5, ka32_6, ra32_6⟩ := T_api_Expr.iff.1 he36
    refine ⟨_, ldA (Sub.refl _) hc35, ?_⟩
    refine new_in S fun h37 o38 x39 => ?_
    have d42 : Dj (fp A10 c10) (fb (Array.size h)) := Dj.new o10.lt
    have o43 := o10.ext T_api_Expr.T S.s x39
    have S40 := S.ext' x39
    have o38 : OB _ _ h37 _ (Array.size h) [(Value.int .i64 (0 : Int)), (Value.int .i64 (0 : Int)), (Value.string (ByteArray.mk #[])), (Value.slice none 0 0), (Value.slice none 0 0), (Value.slice none 0 0), (Value.slice none 0 0), (Value.int .i64 (0 : Int))] 71 := o38
    obtain ⟨h44, w45, o46, t47⟩ := o38.stA S40.s [(Value.int .i64 y30.Kind), (Value.int .i64 y30.Num), (Value.string y30.Text), (Value.slice Aa32_3 (List.length y30.Names) ca32_3), (Value.slice Aa32_4 (List.length y30.Types) ca32_4), (Value.slice Aa32_5 (List.length y30.Args) ca32_5), (Value.slice Aa32_6 (List.length y30.Arms) ca32_6), (Value.int .i64 y30.At)] rfl (Flats.cons trivial (Flats.cons trivial (Flats.cons trivial (Flats.cons trivial (Flats.cons trivial (Flats.cons trivial (Flats.cons trivial (Flats.cons trivial Flats.nil))))))))
    refine ⟨[(Value.int .i64 y30.Kind), (Value.int .i64 y30.Num), (Value.string y30.Text), (Value.slice Aa32_3 (List.length y30.Names) ca32_3), (Value.slice Aa32_4 (List.length y30.Types) ca32_4), (Value.slice Aa32_5 (List.length y30.Args) ca32_5), (Value.slice Aa32_6 (List.length y30.Arms) ca32_6), (Value.int .i64 y30.At)], rfl, rfl, h44, w45, ?_⟩
    have o46 : OB _ _ h44 _ (Array.size h) [(Value.int .i64 y30.Kind), (Value.int .i64 y30.Num), (Value.string y30.Text), (Value.slice Aa32_3 (List.length y30.Names) ca32_3), (Value.slice Aa32_4 (List.length y30.Types) ca32_4), (Value.slice Aa32_5 (List.length y30.Args) ca32_5), (Value.slice Aa32_6 (List.length y30.Arms) ca32_6), (Value.int .i64 y30.At)] 71 := o46
    have S48 := S40.then t47 (fun i _ hi => o38.wr i hi)
    have o49 := o43.step T_api_Expr.T t47 (d42).symm
    refine ⟨_, ldA (Sub.refl _) o46.all, ?_⟩
    obtain ⟨y50, g51, e⟩ := bind_e e
    refine (roadref2_OwnOf.walk S48.s (T_api_Expr.iff.2 ⟨_, _, _, _, _, _, _, _, rfl, ka32_3, ra32_3, ka32_4, ra32_4, ka32_5, ra32_5, ka32_6, ra32_6⟩) g51).mono ?_
    rintro _ h52 ⟨m53, T54, rfl⟩
    have S55 := S48.grow T54
    have o56 := o49.step T_api_Expr.T T54 Dj.no
    have o57 := o46.step T54 Dj.no
    refine ⟨_, rfl, ?_⟩
    exact (ih _ _ e) _ _ _ _ _ _ _ S55 rfl o56
  · cases e
    exact ⟨_, S, rfl⟩
theorem roadref2_DoesOf.l0_k.all {p : roadref2_DoesOf.l0_k.Pt} {r : (Int)} (e : roadref2_DoesOf.l0_k.go p = some r) : roadref2_DoesOf.l0_k.I p r := fixF_ind (β := fun _ => (Int)) roadref2_DoesOf.l0_k.mono (I := roadref2_DoesOf.l0_k.I) (fun go ih p r e => match p with
  | .l0 x5 a10 x11 x12 => roadref2_DoesOf.l0_k.step_l0 go ih x5 a10 x11 x12 r e
  ) e
theorem roadref2_DoesOf.l0.walk {h0 m0 h m : Heap} {A10 : Option Addr} {n10 c10 : Nat} {x5 : Int} {a10 : List T_api_Expr} {x11 : Int} {x12 : Int} (S : St No h0 m0 h m) (ne10 : n10 = List.length a10) (o10 : OS No h0 8 T_api_Expr.E h m A10 a10 c10) {r : Int} (e : roadref2_DoesOf.l0 x5 a10 x11 x12 = some r) : f32.l0 (roadref2_DoesOf.post No h0 m0 r) x5 A10 n10 c10 x11 x12 h := roadref2_DoesOf.l0_k.all (p := .l0 x5 a10 x11 x12) e h0 m0 h m A10 n10 c10 S ne10 o10

noncomputable def roadref2_DoesOf (y0 : T_api_Program) (y1 : T_api_Expr) : Option (Int) :=
  Option.bind (roadref2_led y0 y1) fun y13 => (roadref2_DoesOf.l0 (0 : Int) y13 (((List.length y13) : Nat) : Int) (0 : Int))
set_option maxRecDepth 100000 in
theorem roadref2_DoesOf.walk {h m : Heap} {cs0 : List Value} {cs1 : List Value} {y0 : T_api_Program} {y1 : T_api_Expr} (s : Sub m h) (e0 : T_api_Program.E m y0 cs0) (e1 : T_api_Expr.E m y1 cs1) {r : Int} (e : roadref2_DoesOf y0 y1 = some r) : Run Try.prog 32 #[Value.agg cs0.toArray, Value.agg cs1.toArray] h (roadref2_DoesOf.post No h m r) := by
  unfold roadref2_DoesOf at e
  obtain ⟨Ae0_2, ce0_2, Ae0_3, ce0_3, Ae0_4, ce0_4, Ae0_5, ce0_5, Ae0_6, ce0_6, Ae0_7, ce0_7, rfl, ke0_2, re0_2, ke0_3, re0_3, ke0_4, re0_4, ke0_5, re0_5, ke0_6, re0_6, ke0_7, re0_7⟩ := e0
  obtain ⟨Ae1_3, ce1_3, Ae1_4, ce1_4, Ae1_5, ce1_5, Ae1_6, ce1_6, rfl, ke1_3, re1_3, ke1_4, re1_4, ke1_5, re1_5, ke1_6, re1_6⟩ := T_api_Expr.iff.1 e1
  have S : St No h m h m := .refl s
  refine f32.run ?_
  unfold f32.runT
  refine new_in S fun h1 o2 x3 => ?_
  have S4 := S.ext' x3
  have o2 : OB _ _ h1 _ (Array.size h) [(Value.string y0.Name), (Value.int .i64 y0.Version), (Value.slice Ae0_2 (List.length y0.Uses) ce0_2), (Value.slice Ae0_3 (List.length y0.Datas) ce0_3), (Value.slice Ae0_4 (List.length y0.Traits) ce0_4), (Value.slice Ae0_5 (List.length y0.Impls) ce0_5), (Value.slice Ae0_6 (List.length y0.Funcs) ce0_6), (Value.slice Ae0_7 (List.length y0.Actors) ce0_7)] 53 := o2
  refine new_in S4 fun h6 o7 x8 => ?_
  have d11 : Dj (fb (Array.size h)) (fb (Array.size h1)) := Dj.new o2.lt
  have o12 := o2.ext x8
  have S9 := S4.ext' x8
  have o7 : OB _ _ h6 _ (Array.size h1) [(Value.int .i64 y1.Kind), (Value.int .i64 y1.Num), (Value.string y1.Text), (Value.slice Ae1_3 (List.length y1.Names) ce1_3), (Value.slice Ae1_4 (List.length y1.Types) ce1_4), (Value.slice Ae1_5 (List.length y1.Args) ce1_5), (Value.slice Ae1_6 (List.length y1.Arms) ce1_6), (Value.int .i64 y1.At)] 71 := o7
  refine ⟨_, ldA (Sub.refl _) o12.all, ?_⟩
  refine ⟨_, ldA (Sub.refl _) o7.all, ?_⟩
  obtain ⟨y13, g14, e⟩ := bind_e e
  refine (roadref2_led.walk S9.s (show T_api_Program.E _ y0 [(Value.string y0.Name), (Value.int .i64 y0.Version), (Value.slice Ae0_2 (List.length y0.Uses) ce0_2), (Value.slice Ae0_3 (List.length y0.Datas) ce0_3), (Value.slice Ae0_4 (List.length y0.Traits) ce0_4), (Value.slice Ae0_5 (List.length y0.Impls) ce0_5), (Value.slice Ae0_6 (List.length y0.Funcs) ce0_6), (Value.slice Ae0_7 (List.length y0.Actors) ce0_7)] from ⟨_, _, _, _, _, _, _, _, _, _, _, _, rfl, ke0_2, re0_2, ke0_3, re0_3, ke0_4, re0_4, ke0_5, re0_5, ke0_6, re0_6, ke0_7, re0_7⟩) (T_api_Expr.iff.2 ⟨_, _, _, _, _, _, _, _, rfl, ke1_3, re1_3, ke1_4, re1_4, ke1_5, re1_5, ke1_6, re1_6⟩) g14).mono ?_
  rintro _ h15 ⟨m16, A18, n19, c20, T17, rfl, ne21, o22⟩
  subst ne21
  have S24 := S9.grow T17
  have o25 := o12.step T17 Dj.no
  have o26 := o7.step T17 Dj.no
  have d28 : Dj (fb (Array.size h)) (fp A18 c20) := fun i h1 h2 => absurd (o12.lt i h1) (Nat.not_lt.2 ((o22.new i h2).elim (fun h => h.elim) id))
  have d29 : Dj (fb (Array.size h1)) (fp A18 c20) := fun i h1 h2 => absurd (o7.lt i h1) (Nat.not_lt.2 ((o22.new i h2).elim (fun h => h.elim) id))
  have o27 := o22.take S9 (fun _ h => h.elim)
  refine ⟨_, _, _, rfl, ?_⟩
  exact roadref2_DoesOf.l0.walk S24 rfl o27 e

/-! ### 27 roadstead/roadref2.EffectsOf -/
def roadref2_EffectsOf.post (W : Nat → Prop) (h0 m0 : Heap) (r : T_roadref2_Wrong) (v : Value) (h : Heap) : Prop := ∃ m cs0, St W h0 m0 h m ∧ v = .agg cs0.toArray ∧ T_roadref2_Wrong.E m r cs0
inductive roadref2_EffectsOf.l0_k.Pt where
  | l0 (y1 : T_api_Program) (y2 : T_roadref2_Wrong) (a8 : List T_api_Impl) (x9 : Int) (x10 : Int)
  | l1 (y1 : T_api_Program) (y2 : T_roadref2_Wrong) (a8 : List T_api_Impl) (x9 : Int) (x10 : Int) (a15 : List T_api_Func) (x16 : Int) (x17 : Int)
noncomputable def roadref2_EffectsOf.l0_k.body (go : (p : roadref2_EffectsOf.l0_k.Pt) → Option (T_roadref2_Wrong)) : (p : roadref2_EffectsOf.l0_k.Pt) → Option (T_roadref2_Wrong)
  | .l0 y1 y2 a8 x9 x10 => if x10 < x9 then (Option.bind (gi a8 x10) fun y13 => (go (.l1 y1 y2 a8 x9 x10 y13.Funcs (((List.length y13.Funcs) : Nat) : Int) (0 : Int)))) else (some ((T_roadref2_Wrong.mk (0 : Int) (0 : Int))))
  | .l1 y1 y2 a8 x9 x10 a15 x16 x17 => if x17 < x16 then (Option.bind (gi a15 x17) fun y43 => Option.bind (roadref2_DoesOf y1 y43.Body) fun y66 => if (bitsI .and .i64 y66 (47 : Int)) = (0 : Int) then ((go (.l1 y1 y2 a8 x9 x10 a15 x16 (IntKind.wrap .i64 (x17 + (1 : Int)))))) else (some ((T_roadref2_Wrong.mk (15 : Int) y43.Body.At)))) else ((go (.l0 y1 y2 a8 x9 (IntKind.wrap .i64 (x10 + (1 : Int))))))
theorem roadref2_EffectsOf.l0_k.mono : MonoF (β := fun _ => (T_roadref2_Wrong)) roadref2_EffectsOf.l0_k.body := fun f g hfg p => match p with
  | .l0 y1 y2 a8 x9 x10 => LeO.ite (LeO.bind (LeO.refl _) fun y13 => (hfg _)) (LeO.refl _)
  | .l1 y1 y2 a8 x9 x10 a15 x16 x17 => LeO.ite (LeO.bind (LeO.refl _) fun y43 => LeO.bind (LeO.refl _) fun y66 => LeO.ite ((hfg _)) (LeO.refl _)) ((hfg _))
noncomputable def roadref2_EffectsOf.l0_k.go (p : roadref2_EffectsOf.l0_k.Pt) : Option (T_roadref2_Wrong) := fixF (β := fun _ => (T_roadref2_Wrong)) roadref2_EffectsOf.l0_k.body p
noncomputable def roadref2_EffectsOf.l0 (y1 : T_api_Program) (y2 : T_roadref2_Wrong) (a8 : List T_api_Impl) (x9 : Int) (x10 : Int) : Option (T_roadref2_Wrong) := roadref2_EffectsOf.l0_k.go (.l0 y1 y2 a8 x9 x10)
noncomputable def roadref2_EffectsOf.l1 (y1 : T_api_Program) (y2 : T_roadref2_Wrong) (a8 : List T_api_Impl) (x9 : Int) (x10 : Int) (a15 : List T_api_Func) (x16 : Int) (x17 : Int) : Option (T_roadref2_Wrong) := roadref2_EffectsOf.l0_k.go (.l1 y1 y2 a8 x9 x10 a15 x16 x17)
theorem roadref2_EffectsOf.l0_eq (y1 : T_api_Program) (y2 : T_roadref2_Wrong) (a8 : List T_api_Impl) (x9 : Int) (x10 : Int) : roadref2_EffectsOf.l0 y1 y2 a8 x9 x10 = if x10 < x9 then (Option.bind (gi a8 x10) fun y13 => (roadref2_EffectsOf.l1 y1 y2 a8 x9 x10 y13.Funcs (((List.length y13.Funcs) : Nat) : Int) (0 : Int))) else (some ((T_roadref2_Wrong.mk (0 : Int) (0 : Int)))) := fixF_eq roadref2_EffectsOf.l0_k.mono _
theorem roadref2_EffectsOf.l1_eq (y1 : T_api_Program) (y2 : T_roadref2_Wrong) (a8 : List T_api_Impl) (x9 : Int) (x10 : Int) (a15 : List T_api_Func) (x16 : Int) (x17 : Int) : roadref2_EffectsOf.l1 y1 y2 a8 x9 x10 a15 x16 x17 = if x17 < x16 then (Option.bind (gi a15 x17) fun y43 => Option.bind (roadref2_DoesOf y1 y43.Body) fun y66 => if (bitsI .and .i64 y66 (47 : Int)) = (0 : Int) then ((roadref2_EffectsOf.l1 y1 y2 a8 x9 x10 a15 x16 (IntKind.wrap .i64 (x17 + (1 : Int))))) else (some ((T_roadref2_Wrong.mk (15 : Int) y43.Body.At)))) else ((roadref2_EffectsOf.l0 y1 y2 a8 x9 (IntKind.wrap .i64 (x10 + (1 : Int))))) := fixF_eq roadref2_EffectsOf.l0_k.mono _
def roadref2_EffectsOf.l0_k.I : (p : roadref2_EffectsOf.l0_k.Pt) → (T_roadref2_Wrong) → Prop
  | .l0 y1 y2 a8 x9 x10, r => ∀ (h0 m0 h m : Heap) (bk1 : Nat) (cs1 : List Value) (bk2 : Nat) (cs2 : List Value) (A8 : Option Addr) (n8 c8 : Nat) (S : St No h0 m0 h m) (o1 : OB No h0 h m bk1 cs1 53) (e1 : T_api_Program.E m y1 cs1) (o2 : OB No h0 h m bk2 cs2 58) (e2 : T_roadref2_Wrong.E m y2 cs2) (ne8 : n8 = List.length a8) (k8 : List.length a8 ≤ c8) (r8 : Rd 3 T_api_Impl.E m A8 a8) (d0_1 : Dj (fb bk1) (fb bk2)), f27.l0 (roadref2_EffectsOf.post No h0 m0 r) (⟨bk1, 0, none⟩ : Addr) (⟨bk2, 0, none⟩ : Addr) A8 n8 c8 x9 x10 h
  | .l1 y1 y2 a8 x9 x10 a15 x16 x17, r => ∀ (h0 m0 h m : Heap) (bk1 : Nat) (cs1 : List Value) (bk2 : Nat) (cs2 : List Value) (A8 : Option Addr) (n8 c8 : Nat) (A15 : Option Addr) (n15 c15 : Nat) (S : St No h0 m0 h m) (o1 : OB No h0 h m bk1 cs1 53) (e1 : T_api_Program.E m y1 cs1) (o2 : OB No h0 h m bk2 cs2 58) (e2 : T_roadref2_Wrong.E m y2 cs2) (ne8 : n8 = List.length a8) (k8 : List.length a8 ≤ c8) (r8 : Rd 3 T_api_Impl.E m A8 a8) (ne15 : n15 = List.length a15) (k15 : List.length a15 ≤ c15) (r15 : Rd 15 T_api_Func.E m A15 a15) (d0_1 : Dj (fb bk1) (fb bk2)), f27.l1 (roadref2_EffectsOf.post No h0 m0 r) (⟨bk1, 0, none⟩ : Addr) (⟨bk2, 0, none⟩ : Addr) A8 n8 c8 x9 x10 A15 n15 c15 x16 x17 h
set_option maxRecDepth 100000 in
theorem roadref2_EffectsOf.l0_k.step_l0 (go : (p : roadref2_EffectsOf.l0_k.Pt) → Option (T_roadref2_Wrong)) (ih : ∀ p r, go p = some r → roadref2_EffectsOf.l0_k.I p r) (y1 : T_api_Program) (y2 : T_roadref2_Wrong) (a8 : List T_api_Impl) (x9 : Int) (x10 : Int) (r : T_roadref2_Wrong) (e : roadref2_EffectsOf.l0_k.body go (.l0 y1 y2 a8 x9 x10) = some r) : roadref2_EffectsOf.l0_k.I (.l0 y1 y2 a8 x9 x10) r := by
  unfold roadref2_EffectsOf.l0_k.body at e
  intro h0 m0 h m bk1 cs1 bk2 cs2 A8 n8 c8 S o1 e1 o2 e2 ne8 k8 r8 d0_1
  obtain ⟨Ae1_2, ce1_2, Ae1_3, ce1_3, Ae1_4, ce1_4, Ae1_5, ce1_5, Ae1_6, ce1_6, Ae1_7, ce1_7, rfl, ke1_2, re1_2, ke1_3, re1_3, ke1_4, re1_4, ke1_5, re1_5, ke1_6, re1_6, ke1_7, re1_7⟩ := e1
  obtain rfl : cs2 = [(Value.int .i64 y2.E_), (Value.int .i64 y2.At)] := e2
  subst ne8
  refine f27.l0_in ?_
  unfold f27.l0T
  refine split_dec_e e (fun c42 e => ?_) (fun c42 e => ?_)
  · obtain ⟨y13, g14, e⟩ := bind_e e
    refine r8.addr rfl g14 fun a15 cs16 ha17 hc18 he19 => ?_
    obtain ⟨Aa15_2, ca15_2, rfl, ka15_2, ra15_2⟩ := he19
    refine ⟨_, ldA S.s hc18, ?_⟩
    refine new_in S fun h20 o21 x22 => ?_
    have d25 : Dj (fb bk1) (fb (Array.size h)) := Dj.new o1.lt
    have d26 : Dj (fb bk2) (fb (Array.size h)) := Dj.new o2.lt
    have o27 := o1.ext x22
    have o28 := o2.ext x22
    have S23 := S.ext' x22
    have o21 : OB _ _ h20 _ (Array.size h) [(Value.string (ByteArray.mk #[])), (Value.string (ByteArray.mk #[])), (Value.slice none 0 0)] 181 := o21
    obtain ⟨h29, w30, o31, t32⟩ := o21.stA S23.s [(Value.string y13.Trait), (Value.string y13.For), (Value.slice Aa15_2 (List.length y13.Funcs) ca15_2)] rfl (Flats.cons trivial (Flats.cons trivial (Flats.cons trivial Flats.nil)))
    refine ⟨[(Value.string y13.Trait), (Value.string y13.For), (Value.slice Aa15_2 (List.length y13.Funcs) ca15_2)], rfl, rfl, h29, w30, ?_⟩
    have o31 : OB _ _ h29 _ (Array.size h) [(Value.string y13.Trait), (Value.string y13.For), (Value.slice Aa15_2 (List.length y13.Funcs) ca15_2)] 181 := o31
    have S33 := S23.then t32 (fun i _ hi => o21.wr i hi)
    have o34 := o27.step t32 (d25).symm
    have o35 := o28.step t32 (d26).symm
    refine ⟨_, ldk (k := 2) (Sub.refl _) o31.all rfl, _, _, _, rfl, ?_⟩
    exact (ih _ _ e) _ _ _ _ _ _ _ _ _ _ _ _ _ _ S33 o34 (show T_api_Program.E _ y1 [(Value.string y1.Name), (Value.int .i64 y1.Version), (Value.slice Ae1_2 (List.length y1.Uses) ce1_2), (Value.slice Ae1_3 (List.length y1.Datas) ce1_3), (Value.slice Ae1_4 (List.length y1.Traits) ce1_4), (Value.slice Ae1_5 (List.length y1.Impls) ce1_5), (Value.slice Ae1_6 (List.length y1.Funcs) ce1_6), (Value.slice Ae1_7 (List.length y1.Actors) ce1_7)] from ⟨_, _, _, _, _, _, _, _, _, _, _, _, rfl, ke1_2, re1_2, ke1_3, re1_3, ke1_4, re1_4, ke1_5, re1_5, ke1_6, re1_6, ke1_7, re1_7⟩) o35 (show T_roadref2_Wrong.E _ y2 [(Value.int .i64 y2.E_), (Value.int .i64 y2.At)] from rfl) rfl k8 r8 rfl ka15_2 ra15_2 d0_1
  · obtain ⟨h36, w37, o38, t39⟩ := o2.stA S.s [(Value.int .i64 (0 : Int)), (Value.int .i64 (0 : Int))] rfl (Flats.cons trivial (Flats.cons trivial Flats.nil))
    refine ⟨[(Value.int .i64 (0 : Int)), (Value.int .i64 (0 : Int))], rfl, rfl, h36, w37, ?_⟩
    have o38 : OB _ _ h36 _ bk2 [(Value.int .i64 (0 : Int)), (Value.int .i64 (0 : Int))] 58 := o38
    have S40 := S.then t39 (fun i _ hi => o2.wr i hi)
    have o41 := o1.step t39 (d0_1).symm
    refine ⟨_, ldA (Sub.refl _) o38.all, ?_⟩
    cases e
    exact ⟨_, _, S40, rfl, (show T_roadref2_Wrong.E _ (T_roadref2_Wrong.mk (0 : Int) (0 : Int)) [(Value.int .i64 (0 : Int)), (Value.int .i64 (0 : Int))] from rfl)⟩
set_option maxRecDepth 100000 in
theorem roadref2_EffectsOf.l0_k.step_l1 (go : (p : roadref2_EffectsOf.l0_k.Pt) → Option (T_roadref2_Wrong)) (ih : ∀ p r, go p = some r → roadref2_EffectsOf.l0_k.I p r) (y1 : T_api_Program) (y2 : T_roadref2_Wrong) (a8 : List T_api_Impl) (x9 : Int) (x10 : Int) (a15 : List T_api_Func) (x16 : Int) (x17 : Int) (r : T_roadref2_Wrong) (e : roadref2_EffectsOf.l0_k.body go (.l1 y1 y2 a8 x9 x10 a15 x16 x17) = some r) : roadref2_EffectsOf.l0_k.I (.l1 y1 y2 a8 x9 x10 a15 x16 x17) r := by
  unfold roadref2_EffectsOf.l0_k.body at e
  intro h0 m0 h m bk1 cs1 bk2 cs2 A8 n8 c8 A15 n15 c15 S o1 e1 o2 e2 ne8 k8 r8 ne15 k15 r15 d0_1
  obtain ⟨Ae1_2, ce1_2, Ae1_3, ce1_3, Ae1_4, ce1_4, Ae1_5, ce1_5, Ae1_6, ce1_6, Ae1_7, ce1_7, rfl, ke1_2, re1_2, ke1_3, re1_3, ke1_4, re1_4, ke1_5, re1_5, ke1_6, re1_6, ke1_7, re1_7⟩ := e1
  obtain rfl : cs2 = [(Value.int .i64 y2.E_), (Value.int .i64 y2.At)] := e2
  subst ne8
  subst ne15
  refine f27.l1_in ?_
  unfold f27.l1T
  refine split_dec_e e (fun c83 e => ?_) (fun c83 e => ?_)
  · obtain ⟨y43, g44, e⟩ := bind_e e
    refine r15.addr rfl g44 fun a45 cs46 ha47 hc48 he49 => ?_
    obtain ⟨Aa45_1, ca45_1, Aa45_2, ca45_2, Aa45_3, ca45_3, Aa45_6, ca45_6, Aa45_10, ca45_10, Aa45_11, ca45_11, Aa45_12, ca45_12, Aa45_13, ca45_13, rfl, ka45_1, ra45_1, ka45_2, ra45_2, ka45_3, ra45_3, ka45_6, ra45_6, ka45_10, ra45_10, ka45_11, ra45_11, ka45_12, ra45_12, ka45_13, ra45_13⟩ := he49
    refine ⟨_, ldA S.s hc48, ?_⟩
    refine new_in S fun h50 o51 x52 => ?_
    have d55 : Dj (fb bk1) (fb (Array.size h)) := Dj.new o1.lt
    have d56 : Dj (fb bk2) (fb (Array.size h)) := Dj.new o2.lt
    have o57 := o1.ext x52
    have o58 := o2.ext x52
    have S53 := S.ext' x52
    have o51 : OB _ _ h50 _ (Array.size h) [(Value.string (ByteArray.mk #[])), (Value.slice none 0 0), (Value.slice none 0 0), (Value.slice none 0 0), (Value.int .i64 (0 : Int)), (Value.string (ByteArray.mk #[])), (Value.slice none 0 0), (Value.int .i64 (0 : Int)), (Value.int .i64 (0 : Int)), (Value.string (ByteArray.mk #[])), (Value.slice none 0 0), (Value.slice none 0 0), (Value.slice none 0 0), (Value.slice none 0 0), (Value.int .i64 (0 : Int))] 73 := o51
    obtain ⟨h59, w60, o61, t62⟩ := o51.stA S53.s [(Value.string y43.Name), (Value.slice Aa45_1 (List.length y43.Params) ca45_1), (Value.slice Aa45_2 (List.length y43.Names) ca45_2), (Value.slice Aa45_3 (List.length y43.Types) ca45_3), (Value.int .i64 y43.Out.Kind), (Value.string y43.Out.Name), (Value.slice Aa45_6 (List.length y43.Out.Args) ca45_6), (Value.int .i64 y43.Body.Kind), (Value.int .i64 y43.Body.Num), (Value.string y43.Body.Text), (Value.slice Aa45_10 (List.length y43.Body.Names) ca45_10), (Value.slice Aa45_11 (List.length y43.Body.Types) ca45_11), (Value.slice Aa45_12 (List.length y43.Body.Args) ca45_12), (Value.slice Aa45_13 (List.length y43.Body.Arms) ca45_13), (Value.int .i64 y43.Body.At)] rfl (Flats.cons trivial (Flats.cons trivial (Flats.cons trivial (Flats.cons trivial (Flats.cons trivial (Flats.cons trivial (Flats.cons trivial (Flats.cons trivial (Flats.cons trivial (Flats.cons trivial (Flats.cons trivial (Flats.cons trivial (Flats.cons trivial (Flats.cons trivial (Flats.cons trivial Flats.nil)))))))))))))))
    refine ⟨[(Value.string y43.Name), (Value.slice Aa45_1 (List.length y43.Params) ca45_1), (Value.slice Aa45_2 (List.length y43.Names) ca45_2), (Value.slice Aa45_3 (List.length y43.Types) ca45_3), (Value.int .i64 y43.Out.Kind), (Value.string y43.Out.Name), (Value.slice Aa45_6 (List.length y43.Out.Args) ca45_6), (Value.int .i64 y43.Body.Kind), (Value.int .i64 y43.Body.Num), (Value.string y43.Body.Text), (Value.slice Aa45_10 (List.length y43.Body.Names) ca45_10), (Value.slice Aa45_11 (List.length y43.Body.Types) ca45_11), (Value.slice Aa45_12 (List.length y43.Body.Args) ca45_12), (Value.slice Aa45_13 (List.length y43.Body.Arms) ca45_13), (Value.int .i64 y43.Body.At)], rfl, rfl, h59, w60, ?_⟩
    have o61 : OB _ _ h59 _ (Array.size h) [(Value.string y43.Name), (Value.slice Aa45_1 (List.length y43.Params) ca45_1), (Value.slice Aa45_2 (List.length y43.Names) ca45_2), (Value.slice Aa45_3 (List.length y43.Types) ca45_3), (Value.int .i64 y43.Out.Kind), (Value.string y43.Out.Name), (Value.slice Aa45_6 (List.length y43.Out.Args) ca45_6), (Value.int .i64 y43.Body.Kind), (Value.int .i64 y43.Body.Num), (Value.string y43.Body.Text), (Value.slice Aa45_10 (List.length y43.Body.Names) ca45_10), (Value.slice Aa45_11 (List.length y43.Body.Types) ca45_11), (Value.slice Aa45_12 (List.length y43.Body.Args) ca45_12), (Value.slice Aa45_13 (List.length y43.Body.Arms) ca45_13), (Value.int .i64 y43.Body.At)] 73 := o61
    have S63 := S53.then t62 (fun i _ hi => o51.wr i hi)
    have o64 := o57.step t62 (d55).symm
    have o65 := o58.step t62 (d56).symm
    refine ⟨_, ldA (Sub.refl _) o64.all, ?_⟩
    refine ⟨(Value.agg #[(Value.int .i64 y43.Body.Kind), (Value.int .i64 y43.Body.Num), (Value.string y43.Body.Text), (Value.slice Aa45_10 (List.length y43.Body.Names) ca45_10), (Value.slice Aa45_11 (List.length y43.Body.Types) ca45_11), (Value.slice Aa45_12 (List.length y43.Body.Args) ca45_12), (Value.slice Aa45_13 (List.length y43.Body.Arms) ca45_13), (Value.int .i64 y43.Body.At)]), ldAk (k := 7) (j := 8) (Sub.refl _) o61.all (Nat.le_of_ble_eq_true rfl), ?_⟩
    obtain ⟨y66, g67, e⟩ := bind_e e
    refine (roadref2_DoesOf.walk S63.s (show T_api_Program.E _ y1 [(Value.string y1.Name), (Value.int .i64 y1.Version), (Value.slice Ae1_2 (List.length y1.Uses) ce1_2), (Value.slice Ae1_3 (List.length y1.Datas) ce1_3), (Value.slice Ae1_4 (List.length y1.Traits) ce1_4), (Value.slice Ae1_5 (List.length y1.Impls) ce1_5), (Value.slice Ae1_6 (List.length y1.Funcs) ce1_6), (Value.slice Ae1_7 (List.length y1.Actors) ce1_7)] from ⟨_, _, _, _, _, _, _, _, _, _, _, _, rfl, ke1_2, re1_2, ke1_3, re1_3, ke1_4, re1_4, ke1_5, re1_5, ke1_6, re1_6, ke1_7, re1_7⟩) (T_api_Expr.iff.2 ⟨_, _, _, _, _, _, _, _, rfl, ka45_10, ra45_10, ka45_11, ra45_11, ka45_12, ra45_12, ka45_13, ra45_13⟩) g67).mono ?_
    rintro _ h68 ⟨m69, T70, rfl⟩
    have S71 := S63.grow T70
    have o72 := o64.step T70 Dj.no
    have o73 := o65.step T70 Dj.no
    have o74 := o61.step T70 Dj.no
    refine ⟨_, rfl, ?_⟩
    refine split_ne_e e (fun c82 e => ?_) (fun c82 e => ?_)
    · refine ⟨_, ldk (k := 14) (Sub.refl _) o74.all rfl, _, rfl, ?_⟩
      obtain ⟨h75, w76, o77, t78⟩ := o73.stA S71.s [(Value.int .i64 (15 : Int)), (Value.int .i64 y43.Body.At)] rfl (Flats.cons trivial (Flats.cons trivial Flats.nil))
      refine ⟨[(Value.int .i64 (15 : Int)), (Value.int .i64 y43.Body.At)], rfl, rfl, h75, w76, ?_⟩
      have o77 : OB _ _ h75 _ bk2 [(Value.int .i64 (15 : Int)), (Value.int .i64 y43.Body.At)] 58 := o77
      have S79 := S71.then t78 (fun i _ hi => o73.wr i hi)
      have o80 := o72.step t78 (d0_1).symm
      have o81 := o74.step t78 d56
      refine ⟨_, ldA (Sub.refl _) o77.all, ?_⟩
      cases e
      exact ⟨_, _, S79, rfl, (show T_roadref2_Wrong.E _ (T_roadref2_Wrong.mk (15 : Int) y43.Body.At) [(Value.int .i64 (15 : Int)), (Value.int .i64 y43.Body.At)] from rfl)⟩
    · exact (ih _ _ e) _ _ _ _ _ _ _ _ _ _ _ _ _ _ S71 o72 (show T_api_Program.E _ y1 [(Value.string y1.Name), (Value.int .i64 y1.Version), (Value.slice Ae1_2 (List.length y1.Uses) ce1_2), (Value.slice Ae1_3 (List.length y1.Datas) ce1_3), (Value.slice Ae1_4 (List.length y1.Traits) ce1_4), (Value.slice Ae1_5 (List.length y1.Impls) ce1_5), (Value.slice Ae1_6 (List.length y1.Funcs) ce1_6), (Value.slice Ae1_7 (List.length y1.Actors) ce1_7)] from ⟨_, _, _, _, _, _, _, _, _, _, _, _, rfl, ke1_2, (re1_2.sub T_api_Use.T T70.up), ke1_3, (re1_3.sub T_api_Data.T T70.up), ke1_4, (re1_4.sub T_api_Trait.T T70.up), ke1_5, (re1_5.sub T_api_Impl.T T70.up), ke1_6, (re1_6.sub T_api_Func.T T70.up), ke1_7, (re1_7.sub T_api_Actor.T T70.up)⟩) o73 (show T_roadref2_Wrong.E _ y2 [(Value.int .i64 y2.E_), (Value.int .i64 y2.At)] from rfl) rfl k8 (r8.sub T_api_Impl.T T70.up) rfl k15 (r15.sub T_api_Func.T T70.up) d0_1
  · exact (ih _ _ e) _ _ _ _ _ _ _ _ _ _ _ S o1 (show T_api_Program.E _ y1 [(Value.string y1.Name), (Value.int .i64 y1.Version), (Value.slice Ae1_2 (List.length y1.Uses) ce1_2), (Value.slice Ae1_3 (List.length y1.Datas) ce1_3), (Value.slice Ae1_4 (List.length y1.Traits) ce1_4), (Value.slice Ae1_5 (List.length y1.Impls) ce1_5), (Value.slice Ae1_6 (List.length y1.Funcs) ce1_6), (Value.slice Ae1_7 (List.length y1.Actors) ce1_7)] from ⟨_, _, _, _, _, _, _, _, _, _, _, _, rfl, ke1_2, re1_2, ke1_3, re1_3, ke1_4, re1_4, ke1_5, re1_5, ke1_6, re1_6, ke1_7, re1_7⟩) o2 (show T_roadref2_Wrong.E _ y2 [(Value.int .i64 y2.E_), (Value.int .i64 y2.At)] from rfl) rfl k8 r8 d0_1
theorem roadref2_EffectsOf.l0_k.all {p : roadref2_EffectsOf.l0_k.Pt} {r : (T_roadref2_Wrong)} (e : roadref2_EffectsOf.l0_k.go p = some r) : roadref2_EffectsOf.l0_k.I p r := fixF_ind (β := fun _ => (T_roadref2_Wrong)) roadref2_EffectsOf.l0_k.mono (I := roadref2_EffectsOf.l0_k.I) (fun go ih p r e => match p with
  | .l0 y1 y2 a8 x9 x10 => roadref2_EffectsOf.l0_k.step_l0 go ih y1 y2 a8 x9 x10 r e
  | .l1 y1 y2 a8 x9 x10 a15 x16 x17 => roadref2_EffectsOf.l0_k.step_l1 go ih y1 y2 a8 x9 x10 a15 x16 x17 r e
  ) e
theorem roadref2_EffectsOf.l0.walk {h0 m0 h m : Heap} {bk1 : Nat} {cs1 : List Value} {bk2 : Nat} {cs2 : List Value} {A8 : Option Addr} {n8 c8 : Nat} {y1 : T_api_Program} {y2 : T_roadref2_Wrong} {a8 : List T_api_Impl} {x9 : Int} {x10 : Int} (S : St No h0 m0 h m) (o1 : OB No h0 h m bk1 cs1 53) (e1 : T_api_Program.E m y1 cs1) (o2 : OB No h0 h m bk2 cs2 58) (e2 : T_roadref2_Wrong.E m y2 cs2) (ne8 : n8 = List.length a8) (k8 : List.length a8 ≤ c8) (r8 : Rd 3 T_api_Impl.E m A8 a8) (d0_1 : Dj (fb bk1) (fb bk2)) {r : T_roadref2_Wrong} (e : roadref2_EffectsOf.l0 y1 y2 a8 x9 x10 = some r) : f27.l0 (roadref2_EffectsOf.post No h0 m0 r) (⟨bk1, 0, none⟩ : Addr) (⟨bk2, 0, none⟩ : Addr) A8 n8 c8 x9 x10 h := roadref2_EffectsOf.l0_k.all (p := .l0 y1 y2 a8 x9 x10) e h0 m0 h m bk1 cs1 bk2 cs2 A8 n8 c8 S o1 e1 o2 e2 ne8 k8 r8 d0_1
theorem roadref2_EffectsOf.l1.walk {h0 m0 h m : Heap} {bk1 : Nat} {cs1 : List Value} {bk2 : Nat} {cs2 : List Value} {A8 : Option Addr} {n8 c8 : Nat} {A15 : Option Addr} {n15 c15 : Nat} {y1 : T_api_Program} {y2 : T_roadref2_Wrong} {a8 : List T_api_Impl} {x9 : Int} {x10 : Int} {a15 : List T_api_Func} {x16 : Int} {x17 : Int} (S : St No h0 m0 h m) (o1 : OB No h0 h m bk1 cs1 53) (e1 : T_api_Program.E m y1 cs1) (o2 : OB No h0 h m bk2 cs2 58) (e2 : T_roadref2_Wrong.E m y2 cs2) (ne8 : n8 = List.length a8) (k8 : List.length a8 ≤ c8) (r8 : Rd 3 T_api_Impl.E m A8 a8) (ne15 : n15 = List.length a15) (k15 : List.length a15 ≤ c15) (r15 : Rd 15 T_api_Func.E m A15 a15) (d0_1 : Dj (fb bk1) (fb bk2)) {r : T_roadref2_Wrong} (e : roadref2_EffectsOf.l1 y1 y2 a8 x9 x10 a15 x16 x17 = some r) : f27.l1 (roadref2_EffectsOf.post No h0 m0 r) (⟨bk1, 0, none⟩ : Addr) (⟨bk2, 0, none⟩ : Addr) A8 n8 c8 x9 x10 A15 n15 c15 x16 x17 h := roadref2_EffectsOf.l0_k.all (p := .l1 y1 y2 a8 x9 x10 a15 x16 x17) e h0 m0 h m bk1 cs1 bk2 cs2 A8 n8 c8 A15 n15 c15 S o1 e1 o2 e2 ne8 k8 r8 ne15 k15 r15 d0_1

noncomputable def roadref2_EffectsOf (y0 : T_api_Program) : Option (T_roadref2_Wrong) :=
  (roadref2_EffectsOf.l0 y0 (T_roadref2_Wrong.mk (0 : Int) (0 : Int)) y0.Impls (((List.length y0.Impls) : Nat) : Int) (0 : Int))
set_option maxRecDepth 100000 in
theorem roadref2_EffectsOf.walk {h m : Heap} {cs0 : List Value} {y0 : T_api_Program} (s : Sub m h) (e0 : T_api_Program.E m y0 cs0) {r : T_roadref2_Wrong} (e : roadref2_EffectsOf y0 = some r) : Run Try.prog 27 #[Value.agg cs0.toArray] h (roadref2_EffectsOf.post No h m r) := by
  unfold roadref2_EffectsOf at e
  obtain ⟨Ae0_2, ce0_2, Ae0_3, ce0_3, Ae0_4, ce0_4, Ae0_5, ce0_5, Ae0_6, ce0_6, Ae0_7, ce0_7, rfl, ke0_2, re0_2, ke0_3, re0_3, ke0_4, re0_4, ke0_5, re0_5, ke0_6, re0_6, ke0_7, re0_7⟩ := e0
  have S : St No h m h m := .refl s
  refine f27.run ?_
  unfold f27.runT
  refine new_in S fun h1 o2 x3 => ?_
  have S4 := S.ext' x3
  have o2 : OB _ _ h1 _ (Array.size h) [(Value.string y0.Name), (Value.int .i64 y0.Version), (Value.slice Ae0_2 (List.length y0.Uses) ce0_2), (Value.slice Ae0_3 (List.length y0.Datas) ce0_3), (Value.slice Ae0_4 (List.length y0.Traits) ce0_4), (Value.slice Ae0_5 (List.length y0.Impls) ce0_5), (Value.slice Ae0_6 (List.length y0.Funcs) ce0_6), (Value.slice Ae0_7 (List.length y0.Actors) ce0_7)] 53 := o2
  refine new_in S4 fun h6 o7 x8 => ?_
  have d11 : Dj (fb (Array.size h)) (fb (Array.size h1)) := Dj.new o2.lt
  have o12 := o2.ext x8
  have S9 := S4.ext' x8
  have o7 : OB _ _ h6 _ (Array.size h1) [(Value.int .i64 (0 : Int)), (Value.int .i64 (0 : Int))] 58 := o7
  refine ⟨_, ldk (k := 5) (Sub.refl _) o12.all rfl, _, _, _, rfl, ?_⟩
  exact roadref2_EffectsOf.l0.walk S9 o12 (show T_api_Program.E _ y0 [(Value.string y0.Name), (Value.int .i64 y0.Version), (Value.slice Ae0_2 (List.length y0.Uses) ce0_2), (Value.slice Ae0_3 (List.length y0.Datas) ce0_3), (Value.slice Ae0_4 (List.length y0.Traits) ce0_4), (Value.slice Ae0_5 (List.length y0.Impls) ce0_5), (Value.slice Ae0_6 (List.length y0.Funcs) ce0_6), (Value.slice Ae0_7 (List.length y0.Actors) ce0_7)] from ⟨_, _, _, _, _, _, _, _, _, _, _, _, rfl, ke0_2, re0_2, ke0_3, re0_3, ke0_4, re0_4, ke0_5, re0_5, ke0_6, re0_6, ke0_7, re0_7⟩) o7 (show T_roadref2_Wrong.E _ (T_roadref2_Wrong.mk (0 : Int) (0 : Int)) [(Value.int .i64 (0 : Int)), (Value.int .i64 (0 : Int))] from rfl) rfl ke0_5 re0_5 d11 e

/-! ### 30 roadstead/roadref2.AnyOf -/
def roadref2_AnyOf.post (W : Nat → Prop) (h0 m0 : Heap) (r : Int) (v : Value) (h : Heap) : Prop := ∃ m , St W h0 m0 h m ∧ v = .int .i64 r
inductive roadref2_AnyOf.l0_k.Pt where
  | l0 (y1 : T_api_Program) (x3 : Int) (a9 : List T_api_Expr) (x10 : Int) (x11 : Int)
  | l1 (y1 : T_api_Program) (x3 : Int) (a9 : List T_api_Expr) (x10 : Int) (x11 : Int) (a16 : List T_api_Expr) (x17 : Int) (x18 : Int)
noncomputable def roadref2_AnyOf.l0_k.body (go : (p : roadref2_AnyOf.l0_k.Pt) → Option (Int)) : (p : roadref2_AnyOf.l0_k.Pt) → Option (Int)
  | .l0 y1 x3 a9 x10 x11 => if x11 < x10 then (Option.bind (gi a9 x11) fun y21 => Option.bind (roadref2_All y21) fun y44 => (go (.l1 y1 x3 a9 x10 x11 y44 (((List.length y44) : Nat) : Int) (0 : Int)))) else (some (x3))
  | .l1 y1 x3 a9 x10 x11 a16 x17 x18 => if x18 < x17 then (Option.bind (gi a16 x18) fun y64 => if y64.Kind = (10 : Int) then (Option.bind (roadref2_DoesOf y1 y64) fun y90 => (go (.l1 y1 (bitsI .or .i64 x3 y90) a9 x10 x11 a16 x17 (IntKind.wrap .i64 (x18 + (1 : Int)))))) else ((go (.l1 y1 x3 a9 x10 x11 a16 x17 (IntKind.wrap .i64 (x18 + (1 : Int))))))) else ((go (.l0 y1 x3 a9 x10 (IntKind.wrap .i64 (x11 + (1 : Int))))))
theorem roadref2_AnyOf.l0_k.mono : MonoF (β := fun _ => (Int)) roadref2_AnyOf.l0_k.body := fun f g hfg p => match p with
  | .l0 y1 x3 a9 x10 x11 => LeO.ite (LeO.bind (LeO.refl _) fun y21 => LeO.bind (LeO.refl _) fun y44 => (hfg _)) (LeO.refl _)
  | .l1 y1 x3 a9 x10 x11 a16 x17 x18 => LeO.ite (LeO.bind (LeO.refl _) fun y64 => LeO.ite (LeO.bind (LeO.refl _) fun y90 => (hfg _)) ((hfg _))) ((hfg _))
noncomputable def roadref2_AnyOf.l0_k.go (p : roadref2_AnyOf.l0_k.Pt) : Option (Int) := fixF (β := fun _ => (Int)) roadref2_AnyOf.l0_k.body p
noncomputable def roadref2_AnyOf.l0 (y1 : T_api_Program) (x3 : Int) (a9 : List T_api_Expr) (x10 : Int) (x11 : Int) : Option (Int) := roadref2_AnyOf.l0_k.go (.l0 y1 x3 a9 x10 x11)
noncomputable def roadref2_AnyOf.l1 (y1 : T_api_Program) (x3 : Int) (a9 : List T_api_Expr) (x10 : Int) (x11 : Int) (a16 : List T_api_Expr) (x17 : Int) (x18 : Int) : Option (Int) := roadref2_AnyOf.l0_k.go (.l1 y1 x3 a9 x10 x11 a16 x17 x18)
theorem roadref2_AnyOf.l0_eq (y1 : T_api_Program) (x3 : Int) (a9 : List T_api_Expr) (x10 : Int) (x11 : Int) : roadref2_AnyOf.l0 y1 x3 a9 x10 x11 = if x11 < x10 then (Option.bind (gi a9 x11) fun y21 => Option.bind (roadref2_All y21) fun y44 => (roadref2_AnyOf.l1 y1 x3 a9 x10 x11 y44 (((List.length y44) : Nat) : Int) (0 : Int))) else (some (x3)) := fixF_eq roadref2_AnyOf.l0_k.mono _
theorem roadref2_AnyOf.l1_eq (y1 : T_api_Program) (x3 : Int) (a9 : List T_api_Expr) (x10 : Int) (x11 : Int) (a16 : List T_api_Expr) (x17 : Int) (x18 : Int) : roadref2_AnyOf.l1 y1 x3 a9 x10 x11 a16 x17 x18 = if x18 < x17 then (Option.bind (gi a16 x18) fun y64 => if y64.Kind = (10 : Int) then (Option.bind (roadref2_DoesOf y1 y64) fun y90 => (roadref2_AnyOf.l1 y1 (bitsI .or .i64 x3 y90) a9 x10 x11 a16 x17 (IntKind.wrap .i64 (x18 + (1 : Int))))) else ((roadref2_AnyOf.l1 y1 x3 a9 x10 x11 a16 x17 (IntKind.wrap .i64 (x18 + (1 : Int)))))) else ((roadref2_AnyOf.l0 y1 x3 a9 x10 (IntKind.wrap .i64 (x11 + (1 : Int))))) := fixF_eq roadref2_AnyOf.l0_k.mono _
def roadref2_AnyOf.l0_k.I : (p : roadref2_AnyOf.l0_k.Pt) → (Int) → Prop
  | .l0 y1 x3 a9 x10 x11, r => ∀ (h0 m0 h m : Heap) (bk1 : Nat) (cs1 : List Value) (A9 : Option Addr) (n9 c9 : Nat) (S : St No h0 m0 h m) (o1 : OB No h0 h m bk1 cs1 53) (e1 : T_api_Program.E m y1 cs1) (ne9 : n9 = List.length a9) (o9 : OS No h0 8 T_api_Expr.E h m A9 a9 c9) (d0_1 : Dj (fb bk1) (fp A9 c9)), f30.l0 (roadref2_AnyOf.post No h0 m0 r) (⟨bk1, 0, none⟩ : Addr) x3 A9 n9 c9 x10 x11 h
  | .l1 y1 x3 a9 x10 x11 a16 x17 x18, r => ∀ (h0 m0 h m : Heap) (bk1 : Nat) (cs1 : List Value) (A9 : Option Addr) (n9 c9 : Nat) (A16 : Option Addr) (n16 c16 : Nat) (S : St No h0 m0 h m) (o1 : OB No h0 h m bk1 cs1 53) (e1 : T_api_Program.E m y1 cs1) (ne9 : n9 = List.length a9) (o9 : OS No h0 8 T_api_Expr.E h m A9 a9 c9) (ne16 : n16 = List.length a16) (o16 : OS No h0 8 T_api_Expr.E h m A16 a16 c16) (d0_1 : Dj (fb bk1) (fp A9 c9)) (d0_2 : Dj (fb bk1) (fp A16 c16)) (d1_2 : Dj (fp A9 c9) (fp A16 c16)), f30.l1 (roadref2_AnyOf.post No h0 m0 r) (⟨bk1, 0, none⟩ : Addr) x3 A9 n9 c9 x10 x11 A16 n16 c16 x17 x18 h
set_option maxRecDepth 100000 in
theorem roadref2_AnyOf.l0_k.step_l0 (go : (p : roadref2_AnyOf.l0_k.Pt) → Option (Int)) (ih : ∀ p r, go p = some r → roadref2_AnyOf.l0_k.I p r) (y1 : T_api_Program) (x3 : Int) (a9 : List T_api_Expr) (x10 : Int) (x11 : Int) (r : Int) (e : roadref2_AnyOf.l0_k.body go (.l0 y1 x3 a9 x10 x11) = some r) : roadref2_AnyOf.l0_k.I (.l0 y1 x3 a9 x10 x11) r := by
  unfold roadref2_AnyOf.l0_k.body at e
  intro h0 m0 h m bk1 cs1 A9 n9 c9 S o1 e1 ne9 o9 d0_1
  obtain ⟨Ae1_2, ce1_2, Ae1_3, ce1_3, Ae1_4, ce1_4, Ae1_5, ce1_5, Ae1_6, ce1_6, Ae1_7, ce1_7, rfl, ke1_2, re1_2, ke1_3, re1_3, ke1_4, re1_4, ke1_5, re1_5, ke1_6, re1_6, ke1_7, re1_7⟩ := e1
  subst ne9
  refine f30.l0_in ?_
  unfold f30.l0T
  refine split_dec_e e (fun c63 e => ?_) (fun c63 e => ?_)
  · obtain ⟨y21, g22, e⟩ := bind_e e
    refine o9.addr rfl g22 fun a23 cs24 ha25 hc26 he27 => ?_
    obtain ⟨Aa23_3, ca23_3, Aa23_4, ca23_4, Aa23_5, ca23_5, Aa23_6, ca23_6, rfl, ka23_3, ra23_3, ka23_4, ra23_4, ka23_5, ra23_5, ka23_6, ra23_6⟩ := T_api_Expr.iff.1 he27
    refine ⟨_, ldA (Sub.refl _) hc26, ?_⟩
    refine new_in S fun h28 o29 x30 => ?_
    have d33 : Dj (fb bk1) (fb (Array.size h)) := Dj.new o1.lt
    have d34 : Dj (fp A9 c9) (fb (Array.size h)) := Dj.new o9.lt
    have o35 := o1.ext x30
    have o36 := o9.ext T_api_Expr.T S.s x30
    have S31 := S.ext' x30
    have o29 : OB _ _ h28 _ (Array.size h) [(Value.int .i64 (0 : Int)), (Value.int .i64 (0 : Int)), (Value.string (ByteArray.mk #[])), (Value.slice none 0 0), (Value.slice none 0 0), (Value.slice none 0 0), (Value.slice none 0 0), (Value.int .i64 (0 : Int))] 71 := o29
    obtain ⟨h37, w38, o39, t40⟩ := o29.stA S31.s [(Value.int .i64 y21.Kind), (Value.int .i64 y21.Num), (Value.string y21.Text), (Value.slice Aa23_3 (List.length y21.Names) ca23_3), (Value.slice Aa23_4 (List.length y21.Types) ca23_4), (Value.slice Aa23_5 (List.length y21.Args) ca23_5), (Value.slice Aa23_6 (List.length y21.Arms) ca23_6), (Value.int .i64 y21.At)] rfl (Flats.cons trivial (Flats.cons trivial (Flats.cons trivial (Flats.cons trivial (Flats.cons trivial (Flats.cons trivial (Flats.cons trivial (Flats.cons trivial Flats.nil))))))))
    refine ⟨[(Value.int .i64 y21.Kind), (Value.int .i64 y21.Num), (Value.string y21.Text), (Value.slice Aa23_3 (List.length y21.Names) ca23_3), (Value.slice Aa23_4 (List.length y21.Types) ca23_4), (Value.slice Aa23_5 (List.length y21.Args) ca23_5), (Value.slice Aa23_6 (List.length y21.Arms) ca23_6), (Value.int .i64 y21.At)], rfl, rfl, h37, w38, ?_⟩
    have o39 : OB _ _ h37 _ (Array.size h) [(Value.int .i64 y21.Kind), (Value.int .i64 y21.Num), (Value.string y21.Text), (Value.slice Aa23_3 (List.length y21.Names) ca23_3), (Value.slice Aa23_4 (List.length y21.Types) ca23_4), (Value.slice Aa23_5 (List.length y21.Args) ca23_5), (Value.slice Aa23_6 (List.length y21.Arms) ca23_6), (Value.int .i64 y21.At)] 71 := o39
    have S41 := S31.then t40 (fun i _ hi => o29.wr i hi)
    have o42 := o35.step t40 (d33).symm
    have o43 := o36.step T_api_Expr.T t40 (d34).symm
    refine ⟨_, ldA (Sub.refl _) o39.all, ?_⟩
    obtain ⟨y44, g45, e⟩ := bind_e e
    refine (roadref2_All.walk S41.s (T_api_Expr.iff.2 ⟨_, _, _, _, _, _, _, _, rfl, ka23_3, ra23_3, ka23_4, ra23_4, ka23_5, ra23_5, ka23_6, ra23_6⟩) g45).mono ?_
    rintro _ h46 ⟨m47, A49, n50, c51, T48, rfl, ne52, o53⟩
    subst ne52
    have S55 := S41.grow T48
    have o56 := o42.step T48 Dj.no
    have o57 := o43.step T_api_Expr.T T48 Dj.no
    have o58 := o39.step T48 Dj.no
    have d60 : Dj (fb bk1) (fp A49 c51) := fun i h1 h2 => absurd (o42.lt i h1) (Nat.not_lt.2 ((o53.new i h2).elim (fun h => h.elim) id))
    have d61 : Dj (fp A9 c9) (fp A49 c51) := fun i h1 h2 => absurd (o43.lt i h1) (Nat.not_lt.2 ((o53.new i h2).elim (fun h => h.elim) id))
    have d62 : Dj (fb (Array.size h)) (fp A49 c51) := fun i h1 h2 => absurd (o39.lt i h1) (Nat.not_lt.2 ((o53.new i h2).elim (fun h => h.elim) id))
    have o59 := o53.take S41 (fun _ h => h.elim)
    refine ⟨_, _, _, rfl, ?_⟩
    exact (ih _ _ e) _ _ _ _ _ _ _ _ _ _ _ _ S55 o56 (show T_api_Program.E _ y1 [(Value.string y1.Name), (Value.int .i64 y1.Version), (Value.slice Ae1_2 (List.length y1.Uses) ce1_2), (Value.slice Ae1_3 (List.length y1.Datas) ce1_3), (Value.slice Ae1_4 (List.length y1.Traits) ce1_4), (Value.slice Ae1_5 (List.length y1.Impls) ce1_5), (Value.slice Ae1_6 (List.length y1.Funcs) ce1_6), (Value.slice Ae1_7 (List.length y1.Actors) ce1_7)] from ⟨_, _, _, _, _, _, _, _, _, _, _, _, rfl, ke1_2, (re1_2.sub T_api_Use.T T48.up), ke1_3, (re1_3.sub T_api_Data.T T48.up), ke1_4, (re1_4.sub T_api_Trait.T T48.up), ke1_5, (re1_5.sub T_api_Impl.T T48.up), ke1_6, (re1_6.sub T_api_Func.T T48.up), ke1_7, (re1_7.sub T_api_Actor.T T48.up)⟩) rfl o57 rfl o59 d0_1 d60 d61
  · cases e
    exact ⟨_, S, rfl⟩
set_option maxRecDepth 100000 in
theorem roadref2_AnyOf.l0_k.step_l1 (go : (p : roadref2_AnyOf.l0_k.Pt) → Option (Int)) (ih : ∀ p r, go p = some r → roadref2_AnyOf.l0_k.I p r) (y1 : T_api_Program) (x3 : Int) (a9 : List T_api_Expr) (x10 : Int) (x11 : Int) (a16 : List T_api_Expr) (x17 : Int) (x18 : Int) (r : Int) (e : roadref2_AnyOf.l0_k.body go (.l1 y1 x3 a9 x10 x11 a16 x17 x18) = some r) : roadref2_AnyOf.l0_k.I (.l1 y1 x3 a9 x10 x11 a16 x17 x18) r := by
  unfold roadref2_AnyOf.l0_k.body at e
  intro h0 m0 h m bk1 cs1 A9 n9 c9 A16 n16 c16 S o1 e1 ne9 o9 ne16 o16 d0_1 d0_2 d1_2
  obtain ⟨Ae1_2, ce1_2, Ae1_3, ce1_3, Ae1_4, ce1_4, Ae1_5, ce1_5, Ae1_6, ce1_6, Ae1_7, ce1_7, rfl, ke1_2, re1_2, ke1_3, re1_3, ke1_4, re1_4, ke1_5, re1_5, ke1_6, re1_6, ke1_7, re1_7⟩ := e1
  subst ne9
  subst ne16
  refine f30.l1_in ?_
  unfold f30.l1T
  refine split_dec_e e (fun c101 e => ?_) (fun c101 e => ?_)
  · obtain ⟨y64, g65, e⟩ := bind_e e
    refine o16.addr rfl g65 fun a66 cs67 ha68 hc69 he70 => ?_
    obtain ⟨Aa66_3, ca66_3, Aa66_4, ca66_4, Aa66_5, ca66_5, Aa66_6, ca66_6, rfl, ka66_3, ra66_3, ka66_4, ra66_4, ka66_5, ra66_5, ka66_6, ra66_6⟩ := T_api_Expr.iff.1 he70
    refine ⟨_, ldA (Sub.refl _) hc69, ?_⟩
    refine new_in S fun h71 o72 x73 => ?_
    have d76 : Dj (fb bk1) (fb (Array.size h)) := Dj.new o1.lt
    have d77 : Dj (fp A9 c9) (fb (Array.size h)) := Dj.new o9.lt
    have d78 : Dj (fp A16 c16) (fb (Array.size h)) := Dj.new o16.lt
    have o79 := o1.ext x73
    have o80 := o9.ext T_api_Expr.T S.s x73
    have o81 := o16.ext T_api_Expr.T S.s x73
    have S74 := S.ext' x73
    have o72 : OB _ _ h71 _ (Array.size h) [(Value.int .i64 (0 : Int)), (Value.int .i64 (0 : Int)), (Value.string (ByteArray.mk #[])), (Value.slice none 0 0), (Value.slice none 0 0), (Value.slice none 0 0), (Value.slice none 0 0), (Value.int .i64 (0 : Int))] 71 := o72
    obtain ⟨h82, w83, o84, t85⟩ := o72.stA S74.s [(Value.int .i64 y64.Kind), (Value.int .i64 y64.Num), (Value.string y64.Text), (Value.slice Aa66_3 (List.length y64.Names) ca66_3), (Value.slice Aa66_4 (List.length y64.Types) ca66_4), (Value.slice Aa66_5 (List.length y64.Args) ca66_5), (Value.slice Aa66_6 (List.length y64.Arms) ca66_6), (Value.int .i64 y64.At)] rfl (Flats.cons trivial (Flats.cons trivial (Flats.cons trivial (Flats.cons trivial (Flats.cons trivial (Flats.cons trivial (Flats.cons trivial (Flats.cons trivial Flats.nil))))))))
    refine ⟨[(Value.int .i64 y64.Kind), (Value.int .i64 y64.Num), (Value.string y64.Text), (Value.slice Aa66_3 (List.length y64.Names) ca66_3), (Value.slice Aa66_4 (List.length y64.Types) ca66_4), (Value.slice Aa66_5 (List.length y64.Args) ca66_5), (Value.slice Aa66_6 (List.length y64.Arms) ca66_6), (Value.int .i64 y64.At)], rfl, rfl, h82, w83, ?_⟩
    have o84 : OB _ _ h82 _ (Array.size h) [(Value.int .i64 y64.Kind), (Value.int .i64 y64.Num), (Value.string y64.Text), (Value.slice Aa66_3 (List.length y64.Names) ca66_3), (Value.slice Aa66_4 (List.length y64.Types) ca66_4), (Value.slice Aa66_5 (List.length y64.Args) ca66_5), (Value.slice Aa66_6 (List.length y64.Arms) ca66_6), (Value.int .i64 y64.At)] 71 := o84
    have S86 := S74.then t85 (fun i _ hi => o72.wr i hi)
    have o87 := o79.step t85 (d76).symm
    have o88 := o80.step T_api_Expr.T t85 (d77).symm
    have o89 := o81.step T_api_Expr.T t85 (d78).symm
    refine ⟨_, ld0 (Sub.refl _) o84.all rfl, _, rfl, ?_⟩
    refine split_eq_e e (fun c100 e => ?_) (fun c100 e => ?_)
    · refine ⟨_, ldA (Sub.refl _) o87.all, ?_⟩
      refine ⟨_, ldA (Sub.refl _) o84.all, ?_⟩
      obtain ⟨y90, g91, e⟩ := bind_e e
      refine (roadref2_DoesOf.walk S86.s (show T_api_Program.E _ y1 [(Value.string y1.Name), (Value.int .i64 y1.Version), (Value.slice Ae1_2 (List.length y1.Uses) ce1_2), (Value.slice Ae1_3 (List.length y1.Datas) ce1_3), (Value.slice Ae1_4 (List.length y1.Traits) ce1_4), (Value.slice Ae1_5 (List.length y1.Impls) ce1_5), (Value.slice Ae1_6 (List.length y1.Funcs) ce1_6), (Value.slice Ae1_7 (List.length y1.Actors) ce1_7)] from ⟨_, _, _, _, _, _, _, _, _, _, _, _, rfl, ke1_2, re1_2, ke1_3, re1_3, ke1_4, re1_4, ke1_5, re1_5, ke1_6, re1_6, ke1_7, re1_7⟩) (T_api_Expr.iff.2 ⟨_, _, _, _, _, _, _, _, rfl, ka66_3, ra66_3, ka66_4, ra66_4, ka66_5, ra66_5, ka66_6, ra66_6⟩) g91).mono ?_
      rintro _ h92 ⟨m93, T94, rfl⟩
      have S95 := S86.grow T94
      have o96 := o87.step T94 Dj.no
      have o97 := o88.step T_api_Expr.T T94 Dj.no
      have o98 := o89.step T_api_Expr.T T94 Dj.no
      have o99 := o84.step T94 Dj.no
      refine ⟨_, rfl, ?_⟩
      exact (ih _ _ e) _ _ _ _ _ _ _ _ _ _ _ _ S95 o96 (show T_api_Program.E _ y1 [(Value.string y1.Name), (Value.int .i64 y1.Version), (Value.slice Ae1_2 (List.length y1.Uses) ce1_2), (Value.slice Ae1_3 (List.length y1.Datas) ce1_3), (Value.slice Ae1_4 (List.length y1.Traits) ce1_4), (Value.slice Ae1_5 (List.length y1.Impls) ce1_5), (Value.slice Ae1_6 (List.length y1.Funcs) ce1_6), (Value.slice Ae1_7 (List.length y1.Actors) ce1_7)] from ⟨_, _, _, _, _, _, _, _, _, _, _, _, rfl, ke1_2, (re1_2.sub T_api_Use.T T94.up), ke1_3, (re1_3.sub T_api_Data.T T94.up), ke1_4, (re1_4.sub T_api_Trait.T T94.up), ke1_5, (re1_5.sub T_api_Impl.T T94.up), ke1_6, (re1_6.sub T_api_Func.T T94.up), ke1_7, (re1_7.sub T_api_Actor.T T94.up)⟩) rfl o97 rfl o98 d0_1 d0_2 d1_2
    · exact (ih _ _ e) _ _ _ _ _ _ _ _ _ _ _ _ S86 o87 (show T_api_Program.E _ y1 [(Value.string y1.Name), (Value.int .i64 y1.Version), (Value.slice Ae1_2 (List.length y1.Uses) ce1_2), (Value.slice Ae1_3 (List.length y1.Datas) ce1_3), (Value.slice Ae1_4 (List.length y1.Traits) ce1_4), (Value.slice Ae1_5 (List.length y1.Impls) ce1_5), (Value.slice Ae1_6 (List.length y1.Funcs) ce1_6), (Value.slice Ae1_7 (List.length y1.Actors) ce1_7)] from ⟨_, _, _, _, _, _, _, _, _, _, _, _, rfl, ke1_2, re1_2, ke1_3, re1_3, ke1_4, re1_4, ke1_5, re1_5, ke1_6, re1_6, ke1_7, re1_7⟩) rfl o88 rfl o89 d0_1 d0_2 d1_2
  · exact (ih _ _ e) _ _ _ _ _ _ _ _ _ S o1 (show T_api_Program.E _ y1 [(Value.string y1.Name), (Value.int .i64 y1.Version), (Value.slice Ae1_2 (List.length y1.Uses) ce1_2), (Value.slice Ae1_3 (List.length y1.Datas) ce1_3), (Value.slice Ae1_4 (List.length y1.Traits) ce1_4), (Value.slice Ae1_5 (List.length y1.Impls) ce1_5), (Value.slice Ae1_6 (List.length y1.Funcs) ce1_6), (Value.slice Ae1_7 (List.length y1.Actors) ce1_7)] from ⟨_, _, _, _, _, _, _, _, _, _, _, _, rfl, ke1_2, re1_2, ke1_3, re1_3, ke1_4, re1_4, ke1_5, re1_5, ke1_6, re1_6, ke1_7, re1_7⟩) rfl o9 d0_1
theorem roadref2_AnyOf.l0_k.all {p : roadref2_AnyOf.l0_k.Pt} {r : (Int)} (e : roadref2_AnyOf.l0_k.go p = some r) : roadref2_AnyOf.l0_k.I p r := fixF_ind (β := fun _ => (Int)) roadref2_AnyOf.l0_k.mono (I := roadref2_AnyOf.l0_k.I) (fun go ih p r e => match p with
  | .l0 y1 x3 a9 x10 x11 => roadref2_AnyOf.l0_k.step_l0 go ih y1 x3 a9 x10 x11 r e
  | .l1 y1 x3 a9 x10 x11 a16 x17 x18 => roadref2_AnyOf.l0_k.step_l1 go ih y1 x3 a9 x10 x11 a16 x17 x18 r e
  ) e
theorem roadref2_AnyOf.l0.walk {h0 m0 h m : Heap} {bk1 : Nat} {cs1 : List Value} {A9 : Option Addr} {n9 c9 : Nat} {y1 : T_api_Program} {x3 : Int} {a9 : List T_api_Expr} {x10 : Int} {x11 : Int} (S : St No h0 m0 h m) (o1 : OB No h0 h m bk1 cs1 53) (e1 : T_api_Program.E m y1 cs1) (ne9 : n9 = List.length a9) (o9 : OS No h0 8 T_api_Expr.E h m A9 a9 c9) (d0_1 : Dj (fb bk1) (fp A9 c9)) {r : Int} (e : roadref2_AnyOf.l0 y1 x3 a9 x10 x11 = some r) : f30.l0 (roadref2_AnyOf.post No h0 m0 r) (⟨bk1, 0, none⟩ : Addr) x3 A9 n9 c9 x10 x11 h := roadref2_AnyOf.l0_k.all (p := .l0 y1 x3 a9 x10 x11) e h0 m0 h m bk1 cs1 A9 n9 c9 S o1 e1 ne9 o9 d0_1
theorem roadref2_AnyOf.l1.walk {h0 m0 h m : Heap} {bk1 : Nat} {cs1 : List Value} {A9 : Option Addr} {n9 c9 : Nat} {A16 : Option Addr} {n16 c16 : Nat} {y1 : T_api_Program} {x3 : Int} {a9 : List T_api_Expr} {x10 : Int} {x11 : Int} {a16 : List T_api_Expr} {x17 : Int} {x18 : Int} (S : St No h0 m0 h m) (o1 : OB No h0 h m bk1 cs1 53) (e1 : T_api_Program.E m y1 cs1) (ne9 : n9 = List.length a9) (o9 : OS No h0 8 T_api_Expr.E h m A9 a9 c9) (ne16 : n16 = List.length a16) (o16 : OS No h0 8 T_api_Expr.E h m A16 a16 c16) (d0_1 : Dj (fb bk1) (fp A9 c9)) (d0_2 : Dj (fb bk1) (fp A16 c16)) (d1_2 : Dj (fp A9 c9) (fp A16 c16)) {r : Int} (e : roadref2_AnyOf.l1 y1 x3 a9 x10 x11 a16 x17 x18 = some r) : f30.l1 (roadref2_AnyOf.post No h0 m0 r) (⟨bk1, 0, none⟩ : Addr) x3 A9 n9 c9 x10 x11 A16 n16 c16 x17 x18 h := roadref2_AnyOf.l0_k.all (p := .l1 y1 x3 a9 x10 x11 a16 x17 x18) e h0 m0 h m bk1 cs1 A9 n9 c9 A16 n16 c16 S o1 e1 ne9 o9 ne16 o16 d0_1 d0_2 d1_2

noncomputable def roadref2_AnyOf (y0 : T_api_Program) : Option (Int) :=
  Option.bind (roadref2_BodiesOf y0) fun y6 => (roadref2_AnyOf.l0 y0 (0 : Int) y6 (((List.length y6) : Nat) : Int) (0 : Int))
set_option maxRecDepth 100000 in
theorem roadref2_AnyOf.walk {h m : Heap} {cs0 : List Value} {y0 : T_api_Program} (s : Sub m h) (e0 : T_api_Program.E m y0 cs0) {r : Int} (e : roadref2_AnyOf y0 = some r) : Run Try.prog 30 #[Value.agg cs0.toArray] h (roadref2_AnyOf.post No h m r) := by
  unfold roadref2_AnyOf at e
  obtain ⟨Ae0_2, ce0_2, Ae0_3, ce0_3, Ae0_4, ce0_4, Ae0_5, ce0_5, Ae0_6, ce0_6, Ae0_7, ce0_7, rfl, ke0_2, re0_2, ke0_3, re0_3, ke0_4, re0_4, ke0_5, re0_5, ke0_6, re0_6, ke0_7, re0_7⟩ := e0
  have S : St No h m h m := .refl s
  refine f30.run ?_
  unfold f30.runT
  refine new_in S fun h1 o2 x3 => ?_
  have S4 := S.ext' x3
  have o2 : OB _ _ h1 _ (Array.size h) [(Value.string y0.Name), (Value.int .i64 y0.Version), (Value.slice Ae0_2 (List.length y0.Uses) ce0_2), (Value.slice Ae0_3 (List.length y0.Datas) ce0_3), (Value.slice Ae0_4 (List.length y0.Traits) ce0_4), (Value.slice Ae0_5 (List.length y0.Impls) ce0_5), (Value.slice Ae0_6 (List.length y0.Funcs) ce0_6), (Value.slice Ae0_7 (List.length y0.Actors) ce0_7)] 53 := o2
  refine ⟨_, ldA (Sub.refl _) o2.all, ?_⟩
  obtain ⟨y6, g7, e⟩ := bind_e e
  refine (roadref2_BodiesOf.walk S4.s (show T_api_Program.E _ y0 [(Value.string y0.Name), (Value.int .i64 y0.Version), (Value.slice Ae0_2 (List.length y0.Uses) ce0_2), (Value.slice Ae0_3 (List.length y0.Datas) ce0_3), (Value.slice Ae0_4 (List.length y0.Traits) ce0_4), (Value.slice Ae0_5 (List.length y0.Impls) ce0_5), (Value.slice Ae0_6 (List.length y0.Funcs) ce0_6), (Value.slice Ae0_7 (List.length y0.Actors) ce0_7)] from ⟨_, _, _, _, _, _, _, _, _, _, _, _, rfl, ke0_2, re0_2, ke0_3, re0_3, ke0_4, re0_4, ke0_5, re0_5, ke0_6, re0_6, ke0_7, re0_7⟩) g7).mono ?_
  rintro _ h8 ⟨m9, A11, n12, c13, T10, rfl, ne14, o15⟩
  subst ne14
  have S17 := S4.grow T10
  have o18 := o2.step T10 Dj.no
  have d20 : Dj (fb (Array.size h)) (fp A11 c13) := fun i h1 h2 => absurd (o2.lt i h1) (Nat.not_lt.2 ((o15.new i h2).elim (fun h => h.elim) id))
  have o19 := o15.take S4 (fun _ h => h.elim)
  refine ⟨_, _, _, rfl, ?_⟩
  exact roadref2_AnyOf.l0.walk S17 o18 (show T_api_Program.E _ y0 [(Value.string y0.Name), (Value.int .i64 y0.Version), (Value.slice Ae0_2 (List.length y0.Uses) ce0_2), (Value.slice Ae0_3 (List.length y0.Datas) ce0_3), (Value.slice Ae0_4 (List.length y0.Traits) ce0_4), (Value.slice Ae0_5 (List.length y0.Impls) ce0_5), (Value.slice Ae0_6 (List.length y0.Funcs) ce0_6), (Value.slice Ae0_7 (List.length y0.Actors) ce0_7)] from ⟨_, _, _, _, _, _, _, _, _, _, _, _, rfl, ke0_2, (re0_2.sub T_api_Use.T T10.up), ke0_3, (re0_3.sub T_api_Data.T T10.up), ke0_4, (re0_4.sub T_api_Trait.T T10.up), ke0_5, (re0_5.sub T_api_Impl.T T10.up), ke0_6, (re0_6.sub T_api_Func.T T10.up), ke0_7, (re0_7.sub T_api_Actor.T T10.up)⟩) rfl o19 d20 e

/-! ### 36 roadstead/effect.Body -/
def effect_Body.post (W : Nat → Prop) (h0 m0 : Heap) (r : Int) (v : Value) (h : Heap) : Prop := ∃ m , St W h0 m0 h m ∧ v = .int .i64 r
noncomputable def effect_Body (y0 : T_api_Program) (y1 : T_api_Expr) : Option (Int) :=
  Option.bind (effect_Least y0) fun y13 => Option.bind (effect_once y0 y1 y13.1 y13.2) fun y30 => some (y30)
set_option maxRecDepth 100000 in
theorem effect_Body.walk {h m : Heap} {cs0 : List Value} {cs1 : List Value} {y0 : T_api_Program} {y1 : T_api_Expr} (s : Sub m h) (e0 : T_api_Program.E m y0 cs0) (e1 : T_api_Expr.E m y1 cs1) {r : Int} (e : effect_Body y0 y1 = some r) : Run Try.prog 36 #[Value.agg cs0.toArray, Value.agg cs1.toArray] h (effect_Body.post No h m r) := by
  unfold effect_Body at e
  obtain ⟨Ae0_2, ce0_2, Ae0_3, ce0_3, Ae0_4, ce0_4, Ae0_5, ce0_5, Ae0_6, ce0_6, Ae0_7, ce0_7, rfl, ke0_2, re0_2, ke0_3, re0_3, ke0_4, re0_4, ke0_5, re0_5, ke0_6, re0_6, ke0_7, re0_7⟩ := e0
  obtain ⟨Ae1_3, ce1_3, Ae1_4, ce1_4, Ae1_5, ce1_5, Ae1_6, ce1_6, rfl, ke1_3, re1_3, ke1_4, re1_4, ke1_5, re1_5, ke1_6, re1_6⟩ := T_api_Expr.iff.1 e1
  have S : St No h m h m := .refl s
  refine f36.run ?_
  unfold f36.runT
  refine new_in S fun h1 o2 x3 => ?_
  have S4 := S.ext' x3
  have o2 : OB _ _ h1 _ (Array.size h) [(Value.string y0.Name), (Value.int .i64 y0.Version), (Value.slice Ae0_2 (List.length y0.Uses) ce0_2), (Value.slice Ae0_3 (List.length y0.Datas) ce0_3), (Value.slice Ae0_4 (List.length y0.Traits) ce0_4), (Value.slice Ae0_5 (List.length y0.Impls) ce0_5), (Value.slice Ae0_6 (List.length y0.Funcs) ce0_6), (Value.slice Ae0_7 (List.length y0.Actors) ce0_7)] 53 := o2
  refine new_in S4 fun h6 o7 x8 => ?_
  have d11 : Dj (fb (Array.size h)) (fb (Array.size h1)) := Dj.new o2.lt
  have o12 := o2.ext x8
  have S9 := S4.ext' x8
  have o7 : OB _ _ h6 _ (Array.size h1) [(Value.int .i64 y1.Kind), (Value.int .i64 y1.Num), (Value.string y1.Text), (Value.slice Ae1_3 (List.length y1.Names) ce1_3), (Value.slice Ae1_4 (List.length y1.Types) ce1_4), (Value.slice Ae1_5 (List.length y1.Args) ce1_5), (Value.slice Ae1_6 (List.length y1.Arms) ce1_6), (Value.int .i64 y1.At)] 71 := o7
  refine ⟨_, ldA (Sub.refl _) o12.all, ?_⟩
  obtain ⟨y13, g14, e⟩ := bind_e e
  refine (effect_Least.walk S9.s (show T_api_Program.E _ y0 [(Value.string y0.Name), (Value.int .i64 y0.Version), (Value.slice Ae0_2 (List.length y0.Uses) ce0_2), (Value.slice Ae0_3 (List.length y0.Datas) ce0_3), (Value.slice Ae0_4 (List.length y0.Traits) ce0_4), (Value.slice Ae0_5 (List.length y0.Impls) ce0_5), (Value.slice Ae0_6 (List.length y0.Funcs) ce0_6), (Value.slice Ae0_7 (List.length y0.Actors) ce0_7)] from ⟨_, _, _, _, _, _, _, _, _, _, _, _, rfl, ke0_2, re0_2, ke0_3, re0_3, ke0_4, re0_4, ke0_5, re0_5, ke0_6, re0_6, ke0_7, re0_7⟩) g14).mono ?_
  rintro _ h15 ⟨m16, A18, n19, c20, T17, rfl, ne21, o22⟩
  subst ne21
  have S24 := S9.grow T17
  have o25 := o12.step T17 Dj.no
  have o26 := o7.step T17 Dj.no
  have d28 : Dj (fb (Array.size h)) (fp A18 c20) := fun i h1 h2 => absurd (o12.lt i h1) (Nat.not_lt.2 ((o22.new i h2).elim (fun h => h.elim) id))
  have d29 : Dj (fb (Array.size h1)) (fp A18 c20) := fun i h1 h2 => absurd (o7.lt i h1) (Nat.not_lt.2 ((o22.new i h2).elim (fun h => h.elim) id))
  have o27 := o22.take S9 (fun _ h => h.elim)
  refine ⟨_, _, _, _, rfl, ?_⟩
  refine ⟨_, ldA (Sub.refl _) o25.all, ?_⟩
  refine ⟨_, ldA (Sub.refl _) o26.all, ?_⟩
  obtain ⟨y30, g31, e⟩ := bind_e e
  obtain ⟨m35, L36, u37, s38, t39⟩ := St.lend S24.s (fp A18 c20)
  refine (effect_once.walk s38 (show T_api_Program.E _ y0 [(Value.string y0.Name), (Value.int .i64 y0.Version), (Value.slice Ae0_2 (List.length y0.Uses) ce0_2), (Value.slice Ae0_3 (List.length y0.Datas) ce0_3), (Value.slice Ae0_4 (List.length y0.Traits) ce0_4), (Value.slice Ae0_5 (List.length y0.Impls) ce0_5), (Value.slice Ae0_6 (List.length y0.Funcs) ce0_6), (Value.slice Ae0_7 (List.length y0.Actors) ce0_7)] from ⟨_, _, _, _, _, _, _, _, _, _, _, _, rfl, ke0_2, (re0_2.sub T_api_Use.T (T17.up.trans u37)), ke0_3, (re0_3.sub T_api_Data.T (T17.up.trans u37)), ke0_4, (re0_4.sub T_api_Trait.T (T17.up.trans u37)), ke0_5, (re0_5.sub T_api_Impl.T (T17.up.trans u37)), ke0_6, (re0_6.sub T_api_Func.T (T17.up.trans u37)), ke0_7, (re0_7.sub T_api_Actor.T (T17.up.trans u37))⟩) (T_api_Expr.iff.2 ⟨_, _, _, _, _, _, _, _, rfl, ke1_3, (re1_3.sub tell_str (T17.up.trans u37)), ke1_4, (re1_4.sub T_api_Type.T (T17.up.trans u37)), ke1_5, (re1_5.sub T_api_Expr.T (T17.up.trans u37)), ke1_6, (re1_6.sub T_api_Arm.T (T17.up.trans u37))⟩) rfl o27.cap (o27.lent (tell_int .i64) S24.s L36 (fun _ h => h)) g31).mono ?_
  rintro _ h32 ⟨m33, T34, rfl⟩
  have T40 := T34.unlend S24.s (fun _ h => h.elim)
  have S41 := S24.grow T40
  have o42 := o25.step T40 Dj.no
  have o43 := o26.step T40 Dj.no
  have o44 := o27.step (tell_int .i64) T40 Dj.no
  refine ⟨_, rfl, ?_⟩
  cases e
  exact ⟨_, S41, rfl⟩

/-! ### 37 slices.Equal[[]string,string] -/
def slices_Equal_37.post (W : Nat → Prop) (h0 m0 : Heap) (r : Bool) (v : Value) (h : Heap) : Prop := ∃ m , St W h0 m0 h m ∧ v = .bool r
inductive slices_Equal_37.l0_k.Pt where
  | l0 (a0 : List ByteArray) (a1 : List ByteArray) (x12 : Int) (x13 : Int)
noncomputable def slices_Equal_37.l0_k.body (go : (p : slices_Equal_37.l0_k.Pt) → Option (Bool)) : (p : slices_Equal_37.l0_k.Pt) → Option (Bool)
  | .l0 a0 a1 x12 x13 => if x13 < x12 then (Option.bind (gi a0 x13) fun y2 => Option.bind (gi a1 x13) fun y9 => if y2 = y9 then ((go (.l0 a0 a1 x12 (IntKind.wrap .i64 (x13 + (1 : Int)))))) else (some (false))) else (some (true))
theorem slices_Equal_37.l0_k.mono : MonoF (β := fun _ => (Bool)) slices_Equal_37.l0_k.body := fun f g hfg p => match p with
  | .l0 a0 a1 x12 x13 => LeO.ite (LeO.bind (LeO.refl _) fun y2 => LeO.bind (LeO.refl _) fun y9 => LeO.ite ((hfg _)) (LeO.refl _)) (LeO.refl _)
noncomputable def slices_Equal_37.l0_k.go (p : slices_Equal_37.l0_k.Pt) : Option (Bool) := fixF (β := fun _ => (Bool)) slices_Equal_37.l0_k.body p
noncomputable def slices_Equal_37.l0 (a0 : List ByteArray) (a1 : List ByteArray) (x12 : Int) (x13 : Int) : Option (Bool) := slices_Equal_37.l0_k.go (.l0 a0 a1 x12 x13)
theorem slices_Equal_37.l0_eq (a0 : List ByteArray) (a1 : List ByteArray) (x12 : Int) (x13 : Int) : slices_Equal_37.l0 a0 a1 x12 x13 = if x13 < x12 then (Option.bind (gi a0 x13) fun y2 => Option.bind (gi a1 x13) fun y9 => if y2 = y9 then ((slices_Equal_37.l0 a0 a1 x12 (IntKind.wrap .i64 (x13 + (1 : Int))))) else (some (false))) else (some (true)) := fixF_eq slices_Equal_37.l0_k.mono _
def slices_Equal_37.l0_k.I : (p : slices_Equal_37.l0_k.Pt) → (Bool) → Prop
  | .l0 a0 a1 x12 x13, r => ∀ (h0 m0 h m : Heap) (A0 : Option Addr) (n0 c0 : Nat) (A1 : Option Addr) (n1 c1 : Nat) (S : St No h0 m0 h m) (ne0 : n0 = List.length a0) (k0 : List.length a0 ≤ c0) (r0 : Rd 1 eStr m A0 a0) (ne1 : n1 = List.length a1) (k1 : List.length a1 ≤ c1) (r1 : Rd 1 eStr m A1 a1), f37.l0 (slices_Equal_37.post No h0 m0 r) A0 n0 c0 A1 n1 c1 x12 x13 h
set_option maxRecDepth 100000 in
theorem slices_Equal_37.l0_k.step_l0 (go : (p : slices_Equal_37.l0_k.Pt) → Option (Bool)) (ih : ∀ p r, go p = some r → slices_Equal_37.l0_k.I p r) (a0 : List ByteArray) (a1 : List ByteArray) (x12 : Int) (x13 : Int) (r : Bool) (e : slices_Equal_37.l0_k.body go (.l0 a0 a1 x12 x13) = some r) : slices_Equal_37.l0_k.I (.l0 a0 a1 x12 x13) r := by
  unfold slices_Equal_37.l0_k.body at e
  intro h0 m0 h m A0 n0 c0 A1 n1 c1 S ne0 k0 r0 ne1 k1 r1
  subst ne0
  subst ne1
  refine f37.l0_in ?_
  unfold f37.l0T
  refine split_dec_e e (fun c17 e => ?_) (fun c17 e => ?_)
  · obtain ⟨y2, g3, e⟩ := bind_e e
    refine r0.addr rfl g3 fun a4 cs5 ha6 hc7 he8 => ?_
    obtain rfl : cs5 = [(Value.string y2)] := he8
    obtain ⟨y9, g10, e⟩ := bind_e e
    refine r1.addr rfl g10 fun a11 cs12 ha13 hc14 he15 => ?_
    obtain rfl : cs12 = [(Value.string y9)] := he15
    refine ⟨_, ld0 S.s hc7 rfl, _, rfl, ?_⟩
    refine ⟨_, ld0 S.s hc14 rfl, _, rfl, ?_⟩
    try rw [ba_list y2 y9]
    refine split_not ?_
    refine split_dec_e e (fun c16 e => ?_) (fun c16 e => ?_)
    · exact (ih _ _ e) _ _ _ _ _ _ _ _ _ _ S rfl k0 r0 rfl k1 r1
    · cases e
      exact ⟨_, S, rfl⟩
  · cases e
    exact ⟨_, S, rfl⟩
theorem slices_Equal_37.l0_k.all {p : slices_Equal_37.l0_k.Pt} {r : (Bool)} (e : slices_Equal_37.l0_k.go p = some r) : slices_Equal_37.l0_k.I p r := fixF_ind (β := fun _ => (Bool)) slices_Equal_37.l0_k.mono (I := slices_Equal_37.l0_k.I) (fun go ih p r e => match p with
  | .l0 a0 a1 x12 x13 => slices_Equal_37.l0_k.step_l0 go ih a0 a1 x12 x13 r e
  ) e
theorem slices_Equal_37.l0.walk {h0 m0 h m : Heap} {A0 : Option Addr} {n0 c0 : Nat} {A1 : Option Addr} {n1 c1 : Nat} {a0 : List ByteArray} {a1 : List ByteArray} {x12 : Int} {x13 : Int} (S : St No h0 m0 h m) (ne0 : n0 = List.length a0) (k0 : List.length a0 ≤ c0) (r0 : Rd 1 eStr m A0 a0) (ne1 : n1 = List.length a1) (k1 : List.length a1 ≤ c1) (r1 : Rd 1 eStr m A1 a1) {r : Bool} (e : slices_Equal_37.l0 a0 a1 x12 x13 = some r) : f37.l0 (slices_Equal_37.post No h0 m0 r) A0 n0 c0 A1 n1 c1 x12 x13 h := slices_Equal_37.l0_k.all (p := .l0 a0 a1 x12 x13) e h0 m0 h m A0 n0 c0 A1 n1 c1 S ne0 k0 r0 ne1 k1 r1

noncomputable def slices_Equal_37 (a0 : List ByteArray) (a1 : List ByteArray) : Option (Bool) :=
  if (((List.length a0) : Nat) : Int) = (((List.length a1) : Nat) : Int) then ((slices_Equal_37.l0 a0 a1 (((List.length a0) : Nat) : Int) (0 : Int))) else (some (false))
set_option maxRecDepth 100000 in
theorem slices_Equal_37.walk {h m : Heap} {A0 : Option Addr} {n0 c0 : Nat} {A1 : Option Addr} {n1 c1 : Nat} {a0 : List ByteArray} {a1 : List ByteArray} (s : Sub m h) (ne0 : n0 = List.length a0) (k0 : List.length a0 ≤ c0) (r0 : Rd 1 eStr m A0 a0) (ne1 : n1 = List.length a1) (k1 : List.length a1 ≤ c1) (r1 : Rd 1 eStr m A1 a1) {r : Bool} (e : slices_Equal_37 a0 a1 = some r) : Run Try.prog 37 #[Value.slice A0 n0 c0, Value.slice A1 n1 c1] h (slices_Equal_37.post No h m r) := by
  unfold slices_Equal_37 at e
  subst ne0
  subst ne1
  have S : St No h m h m := .refl s
  refine f37.run ?_
  unfold f37.runT
  refine split_ne_e e (fun c1 e => ?_) (fun c1 e => ?_)
  · cases e
    exact ⟨_, S, rfl⟩
  · exact slices_Equal_37.l0.walk S rfl k0 r0 rfl k1 r1 e
theorem slices_Equal_37.val (l m : List ByteArray) (hl : l.length ≤ 4611686018427387904) : ∃ b, slices_Equal_37 l m = some b ∧ (b = true ↔ l = m) := equal_val (R := fun x y => x = y) (fun a b n i => slices_Equal_37.l0_eq a b n i) (fun _ _ => rfl) (fun _ _ => Iff.rfl) l m hl

/-! ### 39 roadstead/roadref2.CallsOf -/
def roadref2_CallsOf.post (W : Nat → Prop) (h0 m0 : Heap) (r : (List ByteArray)) (v : Value) (h : Heap) : Prop := ∃ m A0 n0 c0, St W h0 m0 h m ∧ v = .slice A0 n0 c0 ∧ n0 = r.length ∧ OS W h0 1 eStr h m A0 r c0
inductive roadref2_CallsOf.l0_k.Pt where
  | l0 (a3 : List ByteArray) (a7 : List T_api_Expr) (x8 : Int) (x9 : Int)
  | j0 (a3 : List ByteArray) (y5 : T_api_Expr) (a7 : List T_api_Expr) (x8 : Int) (x9 : Int) (b22 : Bool)
noncomputable def roadref2_CallsOf.l0_k.body (go : (p : roadref2_CallsOf.l0_k.Pt) → Option ((List ByteArray))) : (p : roadref2_CallsOf.l0_k.Pt) → Option ((List ByteArray))
  | .l0 a3 a7 x8 x9 => if x9 < x8 then (Option.bind (gi a7 x9) fun y23 => if y23.Kind = (9 : Int) then (Option.bind (slices_Contains_92 a3 y23.Text) fun y46 => (go (.j0 a3 y23 a7 x8 x9 (!y46)))) else ((go (.j0 a3 y23 a7 x8 x9 false)))) else (some (a3))
  | .j0 a3 y5 a7 x8 x9 b22 => if b22 = true then (Option.bind (ap 16 a3 ([y5.Text] : List ByteArray)) fun l75 => (go (.l0 l75 a7 x8 (IntKind.wrap .i64 (x9 + (1 : Int)))))) else ((go (.l0 a3 a7 x8 (IntKind.wrap .i64 (x9 + (1 : Int))))))
theorem roadref2_CallsOf.l0_k.mono : MonoF (β := fun _ => ((List ByteArray))) roadref2_CallsOf.l0_k.body := fun f g hfg p => match p with
  | .l0 a3 a7 x8 x9 => LeO.ite (LeO.bind (LeO.refl _) fun y23 => LeO.ite (LeO.bind (LeO.refl _) fun y46 => (hfg _)) ((hfg _))) (LeO.refl _)
  | .j0 a3 y5 a7 x8 x9 b22 => LeO.ite (LeO.bind (LeO.refl _) fun l75 => (hfg _)) ((hfg _))
noncomputable def roadref2_CallsOf.l0_k.go (p : roadref2_CallsOf.l0_k.Pt) : Option ((List ByteArray)) := fixF (β := fun _ => ((List ByteArray))) roadref2_CallsOf.l0_k.body p
noncomputable def roadref2_CallsOf.l0 (a3 : List ByteArray) (a7 : List T_api_Expr) (x8 : Int) (x9 : Int) : Option ((List ByteArray)) := roadref2_CallsOf.l0_k.go (.l0 a3 a7 x8 x9)
noncomputable def roadref2_CallsOf.j0 (a3 : List ByteArray) (y5 : T_api_Expr) (a7 : List T_api_Expr) (x8 : Int) (x9 : Int) (b22 : Bool) : Option ((List ByteArray)) := roadref2_CallsOf.l0_k.go (.j0 a3 y5 a7 x8 x9 b22)
theorem roadref2_CallsOf.l0_eq (a3 : List ByteArray) (a7 : List T_api_Expr) (x8 : Int) (x9 : Int) : roadref2_CallsOf.l0 a3 a7 x8 x9 = if x9 < x8 then (Option.bind (gi a7 x9) fun y23 => if y23.Kind = (9 : Int) then (Option.bind (slices_Contains_92 a3 y23.Text) fun y46 => (roadref2_CallsOf.j0 a3 y23 a7 x8 x9 (!y46))) else ((roadref2_CallsOf.j0 a3 y23 a7 x8 x9 false))) else (some (a3)) := fixF_eq roadref2_CallsOf.l0_k.mono _
theorem roadref2_CallsOf.j0_eq (a3 : List ByteArray) (y5 : T_api_Expr) (a7 : List T_api_Expr) (x8 : Int) (x9 : Int) (b22 : Bool) : roadref2_CallsOf.j0 a3 y5 a7 x8 x9 b22 = if b22 = true then (Option.bind (ap 16 a3 ([y5.Text] : List ByteArray)) fun l75 => (roadref2_CallsOf.l0 l75 a7 x8 (IntKind.wrap .i64 (x9 + (1 : Int))))) else ((roadref2_CallsOf.l0 a3 a7 x8 (IntKind.wrap .i64 (x9 + (1 : Int))))) := fixF_eq roadref2_CallsOf.l0_k.mono _
def roadref2_CallsOf.l0_k.I : (p : roadref2_CallsOf.l0_k.Pt) → ((List ByteArray)) → Prop
  | .l0 a3 a7 x8 x9, r => ∀ (h0 m0 h m : Heap) (A3 : Option Addr) (n3 c3 : Nat) (A7 : Option Addr) (n7 c7 : Nat) (S : St No h0 m0 h m) (ne3 : n3 = List.length a3) (o3 : OS No h0 1 eStr h m A3 a3 c3) (ne7 : n7 = List.length a7) (o7 : OS No h0 8 T_api_Expr.E h m A7 a7 c7) (d0_1 : Dj (fp A3 c3) (fp A7 c7)), f39.l0 (roadref2_CallsOf.post No h0 m0 r) A3 n3 c3 A7 n7 c7 x8 x9 h
  | .j0 a3 y5 a7 x8 x9 b22, r => ∀ (h0 m0 h m : Heap) (A3 : Option Addr) (n3 c3 : Nat) (bk5 : Nat) (cs5 : List Value) (A7 : Option Addr) (n7 c7 : Nat) (S : St No h0 m0 h m) (ne3 : n3 = List.length a3) (o3 : OS No h0 1 eStr h m A3 a3 c3) (o5 : OB No h0 h m bk5 cs5 71) (e5 : T_api_Expr.E m y5 cs5) (ne7 : n7 = List.length a7) (o7 : OS No h0 8 T_api_Expr.E h m A7 a7 c7) (d0_1 : Dj (fp A3 c3) (fb bk5)) (d0_2 : Dj (fp A3 c3) (fp A7 c7)) (d1_2 : Dj (fb bk5) (fp A7 c7)), f39.j0 (roadref2_CallsOf.post No h0 m0 r) A3 n3 c3 (⟨bk5, 0, none⟩ : Addr) A7 n7 c7 x8 x9 b22 h
set_option maxRecDepth 100000 in
theorem roadref2_CallsOf.l0_k.step_l0 (go : (p : roadref2_CallsOf.l0_k.Pt) → Option ((List ByteArray))) (ih : ∀ p r, go p = some r → roadref2_CallsOf.l0_k.I p r) (a3 : List ByteArray) (a7 : List T_api_Expr) (x8 : Int) (x9 : Int) (r : (List ByteArray)) (e : roadref2_CallsOf.l0_k.body go (.l0 a3 a7 x8 x9) = some r) : roadref2_CallsOf.l0_k.I (.l0 a3 a7 x8 x9) r := by
  unfold roadref2_CallsOf.l0_k.body at e
  intro h0 m0 h m A3 n3 c3 A7 n7 c7 S ne3 o3 ne7 o7 d0_1
  subst ne3
  subst ne7
  refine f39.l0_in ?_
  unfold f39.l0T
  refine split_dec_e e (fun c62 e => ?_) (fun c62 e => ?_)
  · obtain ⟨y23, g24, e⟩ := bind_e e
    refine o7.addr rfl g24 fun a25 cs26 ha27 hc28 he29 => ?_
    obtain ⟨Aa25_3, ca25_3, Aa25_4, ca25_4, Aa25_5, ca25_5, Aa25_6, ca25_6, rfl, ka25_3, ra25_3, ka25_4, ra25_4, ka25_5, ra25_5, ka25_6, ra25_6⟩ := T_api_Expr.iff.1 he29
    refine ⟨_, ldA (Sub.refl _) hc28, ?_⟩
    refine new_in S fun h30 o31 x32 => ?_
    have d35 : Dj (fp A3 c3) (fb (Array.size h)) := Dj.new o3.lt
    have d36 : Dj (fp A7 c7) (fb (Array.size h)) := Dj.new o7.lt
    have o37 := o3.ext tell_str S.s x32
    have o38 := o7.ext T_api_Expr.T S.s x32
    have S33 := S.ext' x32
    have o31 : OB _ _ h30 _ (Array.size h) [(Value.int .i64 (0 : Int)), (Value.int .i64 (0 : Int)), (Value.string (ByteArray.mk #[])), (Value.slice none 0 0), (Value.slice none 0 0), (Value.slice none 0 0), (Value.slice none 0 0), (Value.int .i64 (0 : Int))] 71 := o31
    obtain ⟨h39, w40, o41, t42⟩ := o31.stA S33.s [(Value.int .i64 y23.Kind), (Value.int .i64 y23.Num), (Value.string y23.Text), (Value.slice Aa25_3 (List.length y23.Names) ca25_3), (Value.slice Aa25_4 (List.length y23.Types) ca25_4), (Value.slice Aa25_5 (List.length y23.Args) ca25_5), (Value.slice Aa25_6 (List.length y23.Arms) ca25_6), (Value.int .i64 y23.At)] rfl (Flats.cons trivial (Flats.cons trivial (Flats.cons trivial (Flats.cons trivial (Flats.cons trivial (Flats.cons trivial (Flats.cons trivial (Flats.cons trivial Flats.nil))))))))
    refine ⟨[(Value.int .i64 y23.Kind), (Value.int .i64 y23.Num), (Value.string y23.Text), (Value.slice Aa25_3 (List.length y23.Names) ca25_3), (Value.slice Aa25_4 (List.length y23.Types) ca25_4), (Value.slice Aa25_5 (List.length y23.Args) ca25_5), (Value.slice Aa25_6 (List.length y23.Arms) ca25_6), (Value.int .i64 y23.At)], rfl, rfl, h39, w40, ?_⟩
    have o41 : OB _ _ h39 _ (Array.size h) [(Value.int .i64 y23.Kind), (Value.int .i64 y23.Num), (Value.string y23.Text), (Value.slice Aa25_3 (List.length y23.Names) ca25_3), (Value.slice Aa25_4 (List.length y23.Types) ca25_4), (Value.slice Aa25_5 (List.length y23.Args) ca25_5), (Value.slice Aa25_6 (List.length y23.Arms) ca25_6), (Value.int .i64 y23.At)] 71 := o41
    have S43 := S33.then t42 (fun i _ hi => o31.wr i hi)
    have o44 := o37.step tell_str t42 (d35).symm
    have o45 := o38.step T_api_Expr.T t42 (d36).symm
    refine ⟨_, ld0 (Sub.refl _) o41.all rfl, _, rfl, ?_⟩
    refine split_eq_e e (fun c61 e => ?_) (fun c61 e => ?_)
    · refine ⟨_, ldk (k := 2) (Sub.refl _) o41.all rfl, _, rfl, ?_⟩
      obtain ⟨y46, g47, e⟩ := bind_e e
      obtain ⟨m51, L52, u53, s54, t55⟩ := St.lend S43.s (fp A3 c3)
      refine (slices_Contains_92.walk s54 rfl o44.cap (o44.lent tell_str S43.s L52 (fun _ h => h)) g47).mono ?_
      rintro _ h48 ⟨m49, T50, rfl⟩
      have T56 := T50.unlend S43.s (fun _ h => h.elim)
      have S57 := S43.grow T56
      have o58 := o44.step tell_str T56 Dj.no
      have o59 := o45.step T_api_Expr.T T56 Dj.no
      have o60 := o41.step T56 Dj.no
      refine ⟨_, rfl, ?_⟩
      exact (ih _ _ e) _ _ _ _ _ _ _ _ _ _ _ _ S57 rfl o58 o60 (T_api_Expr.iff.2 ⟨_, _, _, _, _, _, _, _, rfl, ka25_3, ra25_3, ka25_4, ra25_4, ka25_5, ra25_5, ka25_6, ra25_6⟩) rfl o59 d35 d0_1 (d36).symm
    · exact (ih _ _ e) _ _ _ _ _ _ _ _ _ _ _ _ S43 rfl o44 o41 (T_api_Expr.iff.2 ⟨_, _, _, _, _, _, _, _, rfl, ka25_3, ra25_3, ka25_4, ra25_4, ka25_5, ra25_5, ka25_6, ra25_6⟩) rfl o45 d35 d0_1 (d36).symm
  · cases e
    exact ⟨_, _, _, _, S, rfl, rfl, o3⟩
set_option maxRecDepth 100000 in
theorem roadref2_CallsOf.l0_k.step_j0 (go : (p : roadref2_CallsOf.l0_k.Pt) → Option ((List ByteArray))) (ih : ∀ p r, go p = some r → roadref2_CallsOf.l0_k.I p r) (a3 : List ByteArray) (y5 : T_api_Expr) (a7 : List T_api_Expr) (x8 : Int) (x9 : Int) (b22 : Bool) (r : (List ByteArray)) (e : roadref2_CallsOf.l0_k.body go (.j0 a3 y5 a7 x8 x9 b22) = some r) : roadref2_CallsOf.l0_k.I (.j0 a3 y5 a7 x8 x9 b22) r := by
  unfold roadref2_CallsOf.l0_k.body at e
  intro h0 m0 h m A3 n3 c3 bk5 cs5 A7 n7 c7 S ne3 o3 o5 e5 ne7 o7 d0_1 d0_2 d1_2
  subst ne3
  obtain ⟨Ae5_3, ce5_3, Ae5_4, ce5_4, Ae5_5, ce5_5, Ae5_6, ce5_6, rfl, ke5_3, re5_3, ke5_4, re5_4, ke5_5, re5_5, ke5_6, re5_6⟩ := T_api_Expr.iff.1 e5
  subst ne7
  refine f39.j0_in ?_
  unfold f39.j0T
  refine split_any_e e (fun c91 e => ?_) (fun c91 e => ?_)
  · refine ⟨_, ldk (k := 2) (Sub.refl _) o5.all rfl, _, rfl, ?_⟩
    refine new_in S fun h63 o64 x65 => ?_
    have d68 : Dj (fp A3 c3) (fb (Array.size h)) := Dj.new o3.lt
    have d69 : Dj (fb bk5) (fb (Array.size h)) := Dj.new o5.lt
    have d70 : Dj (fp A7 c7) (fb (Array.size h)) := Dj.new o7.lt
    have o71 := o3.ext tell_str S.s x65
    have o72 := o5.ext x65
    have o73 := o7.ext T_api_Expr.T S.s x65
    have S66 := S.ext' x65
    have o64 : OB _ _ h63 _ (Array.size h) [(Value.string y5.Text)] 9 := o64
    have o74 : OS _ _ 1 eStr h63 m (some ⟨(Array.size h), 0, none⟩) ([y5.Text] : List ByteArray) 1 := OB.row o64 (CsE.cons (c1 := [(Value.string y5.Text)]) rfl rfl CsE.nil) rfl
    obtain ⟨l75, g76, e⟩ := bind_e e
    refine o71.app tell_str S66 rfl rfl (o74.srcE rfl) (by decide) g76 fun A77 c78 h79 o80 t81 n82 => ?_
    refine ⟨_, _, _, rfl, ?_⟩
    have d84 : Dj (fb bk5) (fp A77 c78) := Dj.app (d0_1).symm o72.lt n82
    have d85 : Dj (fp A7 c7) (fp A77 c78) := Dj.app (d0_2).symm o73.lt n82
    have d86 : Dj (fp (some ⟨(Array.size h), 0, none⟩) 1) (fp A77 c78) := Dj.app ((d68.row)).symm o74.lt n82
    have S87 := S66.then t81 (fun i _ hi => o71.wr i hi)
    have o88 := o72.step t81 d0_1
    have o89 := o73.step T_api_Expr.T t81 d0_2
    have o90 := o74.step tell_str t81 (d68.row)
    exact (ih _ _ e) _ _ _ _ _ _ _ _ _ _ S87 rfl o80 rfl o89 (d85).symm
  · exact (ih _ _ e) _ _ _ _ _ _ _ _ _ _ S rfl o3 rfl o7 d0_2
theorem roadref2_CallsOf.l0_k.all {p : roadref2_CallsOf.l0_k.Pt} {r : ((List ByteArray))} (e : roadref2_CallsOf.l0_k.go p = some r) : roadref2_CallsOf.l0_k.I p r := fixF_ind (β := fun _ => ((List ByteArray))) roadref2_CallsOf.l0_k.mono (I := roadref2_CallsOf.l0_k.I) (fun go ih p r e => match p with
  | .l0 a3 a7 x8 x9 => roadref2_CallsOf.l0_k.step_l0 go ih a3 a7 x8 x9 r e
  | .j0 a3 y5 a7 x8 x9 b22 => roadref2_CallsOf.l0_k.step_j0 go ih a3 y5 a7 x8 x9 b22 r e
  ) e
theorem roadref2_CallsOf.l0.walk {h0 m0 h m : Heap} {A3 : Option Addr} {n3 c3 : Nat} {A7 : Option Addr} {n7 c7 : Nat} {a3 : List ByteArray} {a7 : List T_api_Expr} {x8 : Int} {x9 : Int} (S : St No h0 m0 h m) (ne3 : n3 = List.length a3) (o3 : OS No h0 1 eStr h m A3 a3 c3) (ne7 : n7 = List.length a7) (o7 : OS No h0 8 T_api_Expr.E h m A7 a7 c7) (d0_1 : Dj (fp A3 c3) (fp A7 c7)) {r : (List ByteArray)} (e : roadref2_CallsOf.l0 a3 a7 x8 x9 = some r) : f39.l0 (roadref2_CallsOf.post No h0 m0 r) A3 n3 c3 A7 n7 c7 x8 x9 h := roadref2_CallsOf.l0_k.all (p := .l0 a3 a7 x8 x9) e h0 m0 h m A3 n3 c3 A7 n7 c7 S ne3 o3 ne7 o7 d0_1
theorem roadref2_CallsOf.j0.walk {h0 m0 h m : Heap} {A3 : Option Addr} {n3 c3 : Nat} {bk5 : Nat} {cs5 : List Value} {A7 : Option Addr} {n7 c7 : Nat} {a3 : List ByteArray} {y5 : T_api_Expr} {a7 : List T_api_Expr} {x8 : Int} {x9 : Int} {b22 : Bool} (S : St No h0 m0 h m) (ne3 : n3 = List.length a3) (o3 : OS No h0 1 eStr h m A3 a3 c3) (o5 : OB No h0 h m bk5 cs5 71) (e5 : T_api_Expr.E m y5 cs5) (ne7 : n7 = List.length a7) (o7 : OS No h0 8 T_api_Expr.E h m A7 a7 c7) (d0_1 : Dj (fp A3 c3) (fb bk5)) (d0_2 : Dj (fp A3 c3) (fp A7 c7)) (d1_2 : Dj (fb bk5) (fp A7 c7)) {r : (List ByteArray)} (e : roadref2_CallsOf.j0 a3 y5 a7 x8 x9 b22 = some r) : f39.j0 (roadref2_CallsOf.post No h0 m0 r) A3 n3 c3 (⟨bk5, 0, none⟩ : Addr) A7 n7 c7 x8 x9 b22 h := roadref2_CallsOf.l0_k.all (p := .j0 a3 y5 a7 x8 x9 b22) e h0 m0 h m A3 n3 c3 bk5 cs5 A7 n7 c7 S ne3 o3 o5 e5 ne7 o7 d0_1 d0_2 d1_2

noncomputable def roadref2_CallsOf (y0 : T_api_Expr) : Option ((List ByteArray)) :=
  Option.bind (roadref2_All y0) fun y6 => (roadref2_CallsOf.l0 ([] : List ByteArray) y6 (((List.length y6) : Nat) : Int) (0 : Int))
set_option maxRecDepth 100000 in
theorem roadref2_CallsOf.walk {h m : Heap} {cs0 : List Value} {y0 : T_api_Expr} (s : Sub m h) (e0 : T_api_Expr.E m y0 cs0) {r : (List ByteArray)} (e : roadref2_CallsOf y0 = some r) : Run Try.prog 39 #[Value.agg cs0.toArray] h (roadref2_CallsOf.post No h m r) := by
  unfold roadref2_CallsOf at e
  obtain ⟨Ae0_3, ce0_3, Ae0_4, ce0_4, Ae0_5, ce0_5, Ae0_6, ce0_6, rfl, ke0_3, re0_3, ke0_4, re0_4, ke0_5, re0_5, ke0_6, re0_6⟩ := T_api_Expr.iff.1 e0
  have S : St No h m h m := .refl s
  refine f39.run ?_
  unfold f39.runT
  refine new_in S fun h1 o2 x3 => ?_
  have S4 := S.ext' x3
  have o2 : OB _ _ h1 _ (Array.size h) [(Value.int .i64 y0.Kind), (Value.int .i64 y0.Num), (Value.string y0.Text), (Value.slice Ae0_3 (List.length y0.Names) ce0_3), (Value.slice Ae0_4 (List.length y0.Types) ce0_4), (Value.slice Ae0_5 (List.length y0.Args) ce0_5), (Value.slice Ae0_6 (List.length y0.Arms) ce0_6), (Value.int .i64 y0.At)] 71 := o2
  refine ⟨_, ldA (Sub.refl _) o2.all, ?_⟩
  obtain ⟨y6, g7, e⟩ := bind_e e
  refine (roadref2_All.walk S4.s (T_api_Expr.iff.2 ⟨_, _, _, _, _, _, _, _, rfl, ke0_3, re0_3, ke0_4, re0_4, ke0_5, re0_5, ke0_6, re0_6⟩) g7).mono ?_
  rintro _ h8 ⟨m9, A11, n12, c13, T10, rfl, ne14, o15⟩
  subst ne14
  have S17 := S4.grow T10
  have o18 := o2.step T10 Dj.no
  have d20 : Dj (fb (Array.size h)) (fp A11 c13) := fun i h1 h2 => absurd (o2.lt i h1) (Nat.not_lt.2 ((o15.new i h2).elim (fun h => h.elim) id))
  have o19 := o15.take S4 (fun _ h => h.elim)
  refine ⟨_, _, _, rfl, ?_⟩
  have o22 : OS No h 1 eStr h8 m9 none ([] : List ByteArray) 0 := .inl ⟨rfl, rfl⟩
  exact roadref2_CallsOf.l0.walk S17 rfl o22 rfl o19 ((show Dj (fp A11 c13) (fp none 0) from Dj.nil)).symm e

/-! ### 4 roadstead/roadlaw2.EffectSays -/
def roadlaw2_EffectSays.post (W : Nat → Prop) (h0 m0 : Heap) (r : Bool) (v : Value) (h : Heap) : Prop := ∃ m , St W h0 m0 h m ∧ v = .bool r
inductive roadlaw2_EffectSays.l1_k.Pt where
  | l1 (y1 : T_api_Program) (a90 : List T_api_Expr) (x91 : Int) (x92 : Int)
noncomputable def roadlaw2_EffectSays.l1_k.body (go : (p : roadlaw2_EffectSays.l1_k.Pt) → Option (Bool)) : (p : roadlaw2_EffectSays.l1_k.Pt) → Option (Bool)
  | .l1 y1 a90 x91 x92 => if x92 < x91 then (Option.bind (gi a90 x92) fun y212 => Option.bind (effect_Own y212) fun y235 => Option.bind (roadref2_OwnOf y212) fun y244 => if y235 = y244 then (Option.bind (effect_Body y1 y212) fun y253 => Option.bind (roadref2_DoesOf y1 y212) fun y262 => if y253 = y262 then (Option.bind (effect_Calls y212) fun y271 => Option.bind (roadref2_CallsOf y212) fun y290 => Option.bind (slices_Equal_37 y271 y290) fun y311 => if y311 = true then ((go (.l1 y1 a90 x91 (IntKind.wrap .i64 (x92 + (1 : Int)))))) else (some (false))) else (some (false))) else (some (false))) else (Option.bind (effect_Own (T_api_Expr.mk (20 : Int) (0 : Int) (ByteArray.mk #[]) ([] : (List ByteArray)) ([] : (List T_api_Type)) ([(T_api_Expr.mk (2 : Int) (0 : Int) (ByteArray.mk #[]) ([] : (List ByteArray)) ([] : (List T_api_Type)) ([] : (List T_api_Expr)) ([] : (List T_api_Arm)) (0 : Int))] : List T_api_Expr) ([] : (List T_api_Arm)) (0 : Int))) fun y351 => some ((y351 == (1 : Int))))
theorem roadlaw2_EffectSays.l1_k.mono : MonoF (β := fun _ => (Bool)) roadlaw2_EffectSays.l1_k.body := fun f g hfg p => match p with
  | .l1 y1 a90 x91 x92 => LeO.ite (LeO.bind (LeO.refl _) fun y212 => LeO.bind (LeO.refl _) fun y235 => LeO.bind (LeO.refl _) fun y244 => LeO.ite (LeO.bind (LeO.refl _) fun y253 => LeO.bind (LeO.refl _) fun y262 => LeO.ite (LeO.bind (LeO.refl _) fun y271 => LeO.bind (LeO.refl _) fun y290 => LeO.bind (LeO.refl _) fun y311 => LeO.ite ((hfg _)) (LeO.refl _)) (LeO.refl _)) (LeO.refl _)) (LeO.bind (LeO.refl _) fun y351 => LeO.refl _)
noncomputable def roadlaw2_EffectSays.l1_k.go (p : roadlaw2_EffectSays.l1_k.Pt) : Option (Bool) := fixF (β := fun _ => (Bool)) roadlaw2_EffectSays.l1_k.body p
noncomputable def roadlaw2_EffectSays.l1 (y1 : T_api_Program) (a90 : List T_api_Expr) (x91 : Int) (x92 : Int) : Option (Bool) := roadlaw2_EffectSays.l1_k.go (.l1 y1 a90 x91 x92)
theorem roadlaw2_EffectSays.l1_eq (y1 : T_api_Program) (a90 : List T_api_Expr) (x91 : Int) (x92 : Int) : roadlaw2_EffectSays.l1 y1 a90 x91 x92 = if x92 < x91 then (Option.bind (gi a90 x92) fun y212 => Option.bind (effect_Own y212) fun y235 => Option.bind (roadref2_OwnOf y212) fun y244 => if y235 = y244 then (Option.bind (effect_Body y1 y212) fun y253 => Option.bind (roadref2_DoesOf y1 y212) fun y262 => if y253 = y262 then (Option.bind (effect_Calls y212) fun y271 => Option.bind (roadref2_CallsOf y212) fun y290 => Option.bind (slices_Equal_37 y271 y290) fun y311 => if y311 = true then ((roadlaw2_EffectSays.l1 y1 a90 x91 (IntKind.wrap .i64 (x92 + (1 : Int))))) else (some (false))) else (some (false))) else (some (false))) else (Option.bind (effect_Own (T_api_Expr.mk (20 : Int) (0 : Int) (ByteArray.mk #[]) ([] : (List ByteArray)) ([] : (List T_api_Type)) ([(T_api_Expr.mk (2 : Int) (0 : Int) (ByteArray.mk #[]) ([] : (List ByteArray)) ([] : (List T_api_Type)) ([] : (List T_api_Expr)) ([] : (List T_api_Arm)) (0 : Int))] : List T_api_Expr) ([] : (List T_api_Arm)) (0 : Int))) fun y351 => some ((y351 == (1 : Int)))) := fixF_eq roadlaw2_EffectSays.l1_k.mono _
def roadlaw2_EffectSays.l1_k.I : (p : roadlaw2_EffectSays.l1_k.Pt) → (Bool) → Prop
  | .l1 y1 a90 x91 x92, r => ∀ (h0 m0 h m : Heap) (bk1 : Nat) (cs1 : List Value) (A90 : Option Addr) (n90 c90 : Nat) (S : St No h0 m0 h m) (o1 : OB No h0 h m bk1 cs1 53) (e1 : T_api_Program.E m y1 cs1) (ne90 : n90 = List.length a90) (o90 : OS No h0 8 T_api_Expr.E h m A90 a90 c90) (d0_1 : Dj (fb bk1) (fp A90 c90)), f4.l1 (roadlaw2_EffectSays.post No h0 m0 r) (⟨bk1, 0, none⟩ : Addr) A90 n90 c90 x91 x92 h
set_option maxRecDepth 100000 in
theorem roadlaw2_EffectSays.l1_k.step_l1 (go : (p : roadlaw2_EffectSays.l1_k.Pt) → Option (Bool)) (ih : ∀ p r, go p = some r → roadlaw2_EffectSays.l1_k.I p r) (y1 : T_api_Program) (a90 : List T_api_Expr) (x91 : Int) (x92 : Int) (r : Bool) (e : roadlaw2_EffectSays.l1_k.body go (.l1 y1 a90 x91 x92) = some r) : roadlaw2_EffectSays.l1_k.I (.l1 y1 a90 x91 x92) r := by
  unfold roadlaw2_EffectSays.l1_k.body at e
  intro h0 m0 h m bk1 cs1 A90 n90 c90 S o1 e1 ne90 o90 d0_1
  obtain ⟨Ae1_2, ce1_2, Ae1_3, ce1_3, Ae1_4, ce1_4, Ae1_5, ce1_5, Ae1_6, ce1_6, Ae1_7, ce1_7, rfl, ke1_2, re1_2, ke1_3, re1_3, ke1_4, re1_4, ke1_5, re1_5, ke1_6, re1_6, ke1_7, re1_7⟩ := e1
  subst ne90
  refine f4.l1_in ?_
  unfold f4.l1T
  refine split_dec_e e (fun c359 e => ?_) (fun c359 e => ?_)
  · obtain ⟨y212, g213, e⟩ := bind_e e
    refine o90.addr rfl g213 fun a214 cs215 ha216 hc217 he218 => ?_
    obtain ⟨Aa214_3, ca214_3, Aa214_4, ca214_4, Aa214_5, ca214_5, Aa214_6, ca214_6, rfl, ka214_3, ra214_3, ka214_4, ra214_4, ka214_5, ra214_5, ka214_6, ra214_6⟩ := T_api_Expr.iff.1 he218
    refine ⟨_, ldA (Sub.refl _) hc217, ?_⟩
    refine new_in S fun h219 o220 x221 => ?_
    have d224 : Dj (fb bk1) (fb (Array.size h)) := Dj.new o1.lt
    have d225 : Dj (fp A90 c90) (fb (Array.size h)) := Dj.new o90.lt
    have o226 := o1.ext x221
    have o227 := o90.ext T_api_Expr.T S.s x221
    have S222 := S.ext' x221
    have o220 : OB _ _ h219 _ (Array.size h) [(Value.int .i64 (0 : Int)), (Value.int .i64 (0 : Int)), (Value.string (ByteArray.mk #[])), (Value.slice none 0 0), (Value.slice none 0 0), (Value.slice none 0 0), (Value.slice none 0 0), (Value.int .i64 (0 : Int))] 71 := o220
    obtain ⟨h228, w229, o230, t231⟩ := o220.stA S222.s [(Value.int .i64 y212.Kind), (Value.int .i64 y212.Num), (Value.string y212.Text), (Value.slice Aa214_3 (List.length y212.Names) ca214_3), (Value.slice Aa214_4 (List.length y212.Types) ca214_4), (Value.slice Aa214_5 (List.length y212.Args) ca214_5), (Value.slice Aa214_6 (List.length y212.Arms) ca214_6), (Value.int .i64 y212.At)] rfl (Flats.cons trivial (Flats.cons trivial (Flats.cons trivial (Flats.cons trivial (Flats.cons trivial (Flats.cons trivial (Flats.cons trivial (Flats.cons trivial Flats.nil))))))))
    refine ⟨[(Value.int .i64 y212.Kind), (Value.int .i64 y212.Num), (Value.string y212.Text), (Value.slice Aa214_3 (List.length y212.Names) ca214_3), (Value.slice Aa214_4 (List.length y212.Types) ca214_4), (Value.slice Aa214_5 (List.length y212.Args) ca214_5), (Value.slice Aa214_6 (List.length y212.Arms) ca214_6), (Value.int .i64 y212.At)], rfl, rfl, h228, w229, ?_⟩
    have o230 : OB _ _ h228 _ (Array.size h) [(Value.int .i64 y212.Kind), (Value.int .i64 y212.Num), (Value.string y212.Text), (Value.slice Aa214_3 (List.length y212.Names) ca214_3), (Value.slice Aa214_4 (List.length y212.Types) ca214_4), (Value.slice Aa214_5 (List.length y212.Args) ca214_5), (Value.slice Aa214_6 (List.length y212.Arms) ca214_6), (Value.int .i64 y212.At)] 71 := o230
    have S232 := S222.then t231 (fun i _ hi => o220.wr i hi)
    have o233 := o226.step t231 (d224).symm
    have o234 := o227.step T_api_Expr.T t231 (d225).symm
    refine ⟨_, ldA (Sub.refl _) o230.all, ?_⟩
    refine ⟨_, ldA (Sub.refl _) o230.all, ?_⟩
    obtain ⟨y235, g236, e⟩ := bind_e e
    refine (effect_Own.walk S232.s (T_api_Expr.iff.2 ⟨_, _, _, _, _, _, _, _, rfl, ka214_3, ra214_3, ka214_4, ra214_4, ka214_5, ra214_5, ka214_6, ra214_6⟩) g236).mono ?_
    rintro _ h237 ⟨m238, T239, rfl⟩
    have S240 := S232.grow T239
    have o241 := o233.step T239 Dj.no
    have o242 := o234.step T_api_Expr.T T239 Dj.no
    have o243 := o230.step T239 Dj.no
    refine ⟨_, rfl, ?_⟩
    refine ⟨T239.ext, ?_⟩
    obtain ⟨y244, g245, e⟩ := bind_e e
    refine (roadref2_OwnOf.walk S240.s (T_api_Expr.iff.2 ⟨_, _, _, _, _, _, _, _, rfl, ka214_3, (ra214_3.sub tell_str T239.up), ka214_4, (ra214_4.sub T_api_Type.T T239.up), ka214_5, (ra214_5.sub T_api_Expr.T T239.up), ka214_6, (ra214_6.sub T_api_Arm.T T239.up)⟩) g245).mono ?_
    rintro _ h246 ⟨m247, T248, rfl⟩
    have S249 := S240.grow T248
    have o250 := o241.step T248 Dj.no
    have o251 := o242.step T_api_Expr.T T248 Dj.no
    have o252 := o243.step T248 Dj.no
    refine ⟨_, rfl, ?_⟩
    refine ⟨T248.ext, ?_⟩
    refine split_ne_e e (fun c330 e => ?_) (fun c330 e => ?_)
    · refine ⟨Ext.refl _, ?_⟩
      refine ⟨Ext.refl _, ?_⟩
      refine ⟨Ext.refl _, ?_⟩
      cases e
      exact ⟨_, S249, rfl⟩
    · refine ⟨_, ldA (Sub.refl _) o250.all, ?_⟩
      refine ⟨_, ldA (Sub.refl _) o252.all, ?_⟩
      refine ⟨_, ldA (Sub.refl _) o250.all, ?_⟩
      refine ⟨_, ldA (Sub.refl _) o252.all, ?_⟩
      obtain ⟨y253, g254, e⟩ := bind_e e
      refine (effect_Body.walk S249.s (show T_api_Program.E _ y1 [(Value.string y1.Name), (Value.int .i64 y1.Version), (Value.slice Ae1_2 (List.length y1.Uses) ce1_2), (Value.slice Ae1_3 (List.length y1.Datas) ce1_3), (Value.slice Ae1_4 (List.length y1.Traits) ce1_4), (Value.slice Ae1_5 (List.length y1.Impls) ce1_5), (Value.slice Ae1_6 (List.length y1.Funcs) ce1_6), (Value.slice Ae1_7 (List.length y1.Actors) ce1_7)] from ⟨_, _, _, _, _, _, _, _, _, _, _, _, rfl, ke1_2, (re1_2.sub T_api_Use.T (T239.up.trans T248.up)), ke1_3, (re1_3.sub T_api_Data.T (T239.up.trans T248.up)), ke1_4, (re1_4.sub T_api_Trait.T (T239.up.trans T248.up)), ke1_5, (re1_5.sub T_api_Impl.T (T239.up.trans T248.up)), ke1_6, (re1_6.sub T_api_Func.T (T239.up.trans T248.up)), ke1_7, (re1_7.sub T_api_Actor.T (T239.up.trans T248.up))⟩) (T_api_Expr.iff.2 ⟨_, _, _, _, _, _, _, _, rfl, ka214_3, (ra214_3.sub tell_str (T239.up.trans T248.up)), ka214_4, (ra214_4.sub T_api_Type.T (T239.up.trans T248.up)), ka214_5, (ra214_5.sub T_api_Expr.T (T239.up.trans T248.up)), ka214_6, (ra214_6.sub T_api_Arm.T (T239.up.trans T248.up))⟩) g254).mono ?_
      rintro _ h255 ⟨m256, T257, rfl⟩
      have S258 := S249.grow T257
      have o259 := o250.step T257 Dj.no
      have o260 := o251.step T_api_Expr.T T257 Dj.no
      have o261 := o252.step T257 Dj.no
      refine ⟨_, rfl, ?_⟩
      refine ⟨T257.ext, ?_⟩
      obtain ⟨y262, g263, e⟩ := bind_e e
      refine (roadref2_DoesOf.walk S258.s (show T_api_Program.E _ y1 [(Value.string y1.Name), (Value.int .i64 y1.Version), (Value.slice Ae1_2 (List.length y1.Uses) ce1_2), (Value.slice Ae1_3 (List.length y1.Datas) ce1_3), (Value.slice Ae1_4 (List.length y1.Traits) ce1_4), (Value.slice Ae1_5 (List.length y1.Impls) ce1_5), (Value.slice Ae1_6 (List.length y1.Funcs) ce1_6), (Value.slice Ae1_7 (List.length y1.Actors) ce1_7)] from ⟨_, _, _, _, _, _, _, _, _, _, _, _, rfl, ke1_2, (re1_2.sub T_api_Use.T (T239.up.trans (T248.up.trans T257.up))), ke1_3, (re1_3.sub T_api_Data.T (T239.up.trans (T248.up.trans T257.up))), ke1_4, (re1_4.sub T_api_Trait.T (T239.up.trans (T248.up.trans T257.up))), ke1_5, (re1_5.sub T_api_Impl.T (T239.up.trans (T248.up.trans T257.up))), ke1_6, (re1_6.sub T_api_Func.T (T239.up.trans (T248.up.trans T257.up))), ke1_7, (re1_7.sub T_api_Actor.T (T239.up.trans (T248.up.trans T257.up)))⟩) (T_api_Expr.iff.2 ⟨_, _, _, _, _, _, _, _, rfl, ka214_3, (ra214_3.sub tell_str (T239.up.trans (T248.up.trans T257.up))), ka214_4, (ra214_4.sub T_api_Type.T (T239.up.trans (T248.up.trans T257.up))), ka214_5, (ra214_5.sub T_api_Expr.T (T239.up.trans (T248.up.trans T257.up))), ka214_6, (ra214_6.sub T_api_Arm.T (T239.up.trans (T248.up.trans T257.up)))⟩) g263).mono ?_
      rintro _ h264 ⟨m265, T266, rfl⟩
      have S267 := S258.grow T266
      have o268 := o259.step T266 Dj.no
      have o269 := o260.step T_api_Expr.T T266 Dj.no
      have o270 := o261.step T266 Dj.no
      refine ⟨_, rfl, ?_⟩
      refine ⟨T266.ext, ?_⟩
      refine split_ne_e e (fun c329 e => ?_) (fun c329 e => ?_)
      · refine ⟨Ext.refl _, ?_⟩
        cases e
        exact ⟨_, S267, rfl⟩
      · refine ⟨_, ldA (Sub.refl _) o270.all, ?_⟩
        refine ⟨_, ldA (Sub.refl _) o270.all, ?_⟩
        obtain ⟨y271, g272, e⟩ := bind_e e
        refine (effect_Calls.walk S267.s (T_api_Expr.iff.2 ⟨_, _, _, _, _, _, _, _, rfl, ka214_3, (ra214_3.sub tell_str (T239.up.trans (T248.up.trans (T257.up.trans T266.up)))), ka214_4, (ra214_4.sub T_api_Type.T (T239.up.trans (T248.up.trans (T257.up.trans T266.up)))), ka214_5, (ra214_5.sub T_api_Expr.T (T239.up.trans (T248.up.trans (T257.up.trans T266.up)))), ka214_6, (ra214_6.sub T_api_Arm.T (T239.up.trans (T248.up.trans (T257.up.trans T266.up))))⟩) g272).mono ?_
        rintro _ h273 ⟨m274, A276, n277, c278, T275, rfl, ne279, o280⟩
        subst ne279
        have S282 := S267.grow T275
        have o283 := o268.step T275 Dj.no
        have o284 := o269.step T_api_Expr.T T275 Dj.no
        have o285 := o270.step T275 Dj.no
        have d287 : Dj (fb bk1) (fp A276 c278) := fun i h1 h2 => absurd (o268.lt i h1) (Nat.not_lt.2 ((o280.new i h2).elim (fun h => h.elim) id))
        have d288 : Dj (fp A90 c90) (fp A276 c278) := fun i h1 h2 => absurd (o269.lt i h1) (Nat.not_lt.2 ((o280.new i h2).elim (fun h => h.elim) id))
        have d289 : Dj (fb (Array.size h)) (fp A276 c278) := fun i h1 h2 => absurd (o270.lt i h1) (Nat.not_lt.2 ((o280.new i h2).elim (fun h => h.elim) id))
        have o286 := o280.take S267 (fun _ h => h.elim)
        refine ⟨_, _, _, rfl, ?_⟩
        refine ⟨T275.ext, ?_⟩
        obtain ⟨y290, g291, e⟩ := bind_e e
        refine (roadref2_CallsOf.walk S282.s (T_api_Expr.iff.2 ⟨_, _, _, _, _, _, _, _, rfl, ka214_3, (ra214_3.sub tell_str (T239.up.trans (T248.up.trans (T257.up.trans (T266.up.trans T275.up))))), ka214_4, (ra214_4.sub T_api_Type.T (T239.up.trans (T248.up.trans (T257.up.trans (T266.up.trans T275.up))))), ka214_5, (ra214_5.sub T_api_Expr.T (T239.up.trans (T248.up.trans (T257.up.trans (T266.up.trans T275.up))))), ka214_6, (ra214_6.sub T_api_Arm.T (T239.up.trans (T248.up.trans (T257.up.trans (T266.up.trans T275.up)))))⟩) g291).mono ?_
        rintro _ h292 ⟨m293, A295, n296, c297, T294, rfl, ne298, o299⟩
        subst ne298
        have S301 := S282.grow T294
        have o302 := o283.step T294 Dj.no
        have o303 := o284.step T_api_Expr.T T294 Dj.no
        have o304 := o285.step T294 Dj.no
        have o305 := o286.step tell_str T294 Dj.no
        have d307 : Dj (fb bk1) (fp A295 c297) := fun i h1 h2 => absurd (o283.lt i h1) (Nat.not_lt.2 ((o299.new i h2).elim (fun h => h.elim) id))
        have d308 : Dj (fp A90 c90) (fp A295 c297) := fun i h1 h2 => absurd (o284.lt i h1) (Nat.not_lt.2 ((o299.new i h2).elim (fun h => h.elim) id))
        have d309 : Dj (fb (Array.size h)) (fp A295 c297) := fun i h1 h2 => absurd (o285.lt i h1) (Nat.not_lt.2 ((o299.new i h2).elim (fun h => h.elim) id))
        have d310 : Dj (fp A276 c278) (fp A295 c297) := fun i h1 h2 => absurd (o286.lt i h1) (Nat.not_lt.2 ((o299.new i h2).elim (fun h => h.elim) id))
        have o306 := o299.take S282 (fun _ h => h.elim)
        refine ⟨_, _, _, rfl, ?_⟩
        obtain ⟨y311, g312, e⟩ := bind_e e
        obtain ⟨m316, L317, u318, s319, t320⟩ := St.lend S301.s (fun i => (fp A276 c278) i ∨ (fp A295 c297) i)
        refine (slices_Equal_37.walk s319 rfl o305.cap (o305.lent tell_str S301.s L317 (fun _ h => (.inl h))) rfl o306.cap (o306.lent tell_str S301.s L317 (fun _ h => (.inr h))) g312).mono ?_
        rintro _ h313 ⟨m314, T315, rfl⟩
        have T321 := T315.unlend S301.s (fun _ h => h.elim)
        have S322 := S301.grow T321
        have o323 := o302.step T321 Dj.no
        have o324 := o303.step T_api_Expr.T T321 Dj.no
        have o325 := o304.step T321 Dj.no
        have o326 := o305.step tell_str T321 Dj.no
        have o327 := o306.step tell_str T321 Dj.no
        refine ⟨_, rfl, ?_⟩
        refine split_not ?_
        refine split_any_e e (fun c328 e => ?_) (fun c328 e => ?_)
        · exact (ih _ _ e) _ _ _ _ _ _ _ _ _ S322 o323 (show T_api_Program.E _ y1 [(Value.string y1.Name), (Value.int .i64 y1.Version), (Value.slice Ae1_2 (List.length y1.Uses) ce1_2), (Value.slice Ae1_3 (List.length y1.Datas) ce1_3), (Value.slice Ae1_4 (List.length y1.Traits) ce1_4), (Value.slice Ae1_5 (List.length y1.Impls) ce1_5), (Value.slice Ae1_6 (List.length y1.Funcs) ce1_6), (Value.slice Ae1_7 (List.length y1.Actors) ce1_7)] from ⟨_, _, _, _, _, _, _, _, _, _, _, _, rfl, ke1_2, (re1_2.sub T_api_Use.T (T239.up.trans (T248.up.trans (T257.up.trans (T266.up.trans (T275.up.trans T294.up)))))), ke1_3, (re1_3.sub T_api_Data.T (T239.up.trans (T248.up.trans (T257.up.trans (T266.up.trans (T275.up.trans T294.up)))))), ke1_4, (re1_4.sub T_api_Trait.T (T239.up.trans (T248.up.trans (T257.up.trans (T266.up.trans (T275.up.trans T294.up)))))), ke1_5, (re1_5.sub T_api_Impl.T (T239.up.trans (T248.up.trans (T257.up.trans (T266.up.trans (T275.up.trans T294.up)))))), ke1_6, (re1_6.sub T_api_Func.T (T239.up.trans (T248.up.trans (T257.up.trans (T266.up.trans (T275.up.trans T294.up)))))), ke1_7, (re1_7.sub T_api_Actor.T (T239.up.trans (T248.up.trans (T257.up.trans (T266.up.trans (T275.up.trans T294.up))))))⟩) rfl o324 d0_1
        · cases e
          exact ⟨_, S322, rfl⟩
  · refine ⟨[(Value.int .i64 (2 : Int)), (Value.int .i64 (0 : Int)), (Value.string (ByteArray.mk #[])), (Value.slice none 0 0), (Value.slice none 0 0), (Value.slice none 0 0), (Value.slice none 0 0), (Value.int .i64 (0 : Int))], rfl, rfl, ?_⟩
    refine new_in S fun h331 o332 x333 => ?_
    have d336 : Dj (fb bk1) (fb (Array.size h)) := Dj.new o1.lt
    have d337 : Dj (fp A90 c90) (fb (Array.size h)) := Dj.new o90.lt
    have o338 := o1.ext x333
    have o339 := o90.ext T_api_Expr.T S.s x333
    have S334 := S.ext' x333
    have o332 : OB _ _ h331 _ (Array.size h) [(Value.int .i64 (2 : Int)), (Value.int .i64 (0 : Int)), (Value.string (ByteArray.mk #[])), (Value.slice none 0 0), (Value.slice none 0 0), (Value.slice none 0 0), (Value.slice none 0 0), (Value.int .i64 (0 : Int))] 71 := o332
    have o340 : OS _ _ 8 T_api_Expr.E h331 m (some ⟨(Array.size h), 0, none⟩) ([(T_api_Expr.mk (2 : Int) (0 : Int) (ByteArray.mk #[]) ([] : (List ByteArray)) ([] : (List T_api_Type)) ([] : (List T_api_Expr)) ([] : (List T_api_Arm)) (0 : Int))] : List T_api_Expr) 1 := OB.row o332 (CsE.cons (c1 := [(Value.int .i64 (2 : Int)), (Value.int .i64 (0 : Int)), (Value.string (ByteArray.mk #[])), (Value.slice none 0 0), (Value.slice none 0 0), (Value.slice none 0 0), (Value.slice none 0 0), (Value.int .i64 (0 : Int))]) (T_api_Expr.iff.2 ⟨_, _, _, _, _, _, _, _, rfl, (Nat.le_refl 0), Rd.nil, (Nat.le_refl 0), Rd.nil, (Nat.le_refl 0), Rd.nil, (Nat.le_refl 0), Rd.nil⟩) rfl CsE.nil) rfl
    obtain ⟨y351, g352, e⟩ := bind_e e
    obtain ⟨m345, L344, u341, s342, t343⟩ := St.lend S334.s (fp (some ⟨(Array.size h), 0, none⟩) 1)
    have r346 : Rd 8 T_api_Expr.E m345 (some ⟨(Array.size h), 0, none⟩) ([(T_api_Expr.mk (2 : Int) (0 : Int) (ByteArray.mk #[]) ([] : (List ByteArray)) ([] : (List T_api_Type)) ([] : (List T_api_Expr)) ([] : (List T_api_Arm)) (0 : Int))] : List T_api_Expr) := o340.lent T_api_Expr.T S334.s L344 (fun _ h => h)
    have k347 := o340.cap
    have S348 := S334.then t343 (fun i _ hi => o340.wr i hi)
    have o349 := o338.step t343 ((d336.row)).symm
    have o350 := o339.step T_api_Expr.T t343 ((d337.row)).symm
    refine (effect_Own.walk S348.s (T_api_Expr.iff.2 ⟨_, _, _, _, _, _, _, _, rfl, (Nat.le_refl 0), Rd.nil, (Nat.le_refl 0), Rd.nil, k347, r346, (Nat.le_refl 0), Rd.nil⟩) g352).mono ?_
    rintro _ h353 ⟨m354, T355, rfl⟩
    have S356 := S348.grow T355
    have o357 := o349.step T355 Dj.no
    have o358 := o350.step T_api_Expr.T T355 Dj.no
    refine ⟨_, rfl, ?_⟩
    cases e
    exact ⟨_, S356, rfl⟩
theorem roadlaw2_EffectSays.l1_k.all {p : roadlaw2_EffectSays.l1_k.Pt} {r : (Bool)} (e : roadlaw2_EffectSays.l1_k.go p = some r) : roadlaw2_EffectSays.l1_k.I p r := fixF_ind (β := fun _ => (Bool)) roadlaw2_EffectSays.l1_k.mono (I := roadlaw2_EffectSays.l1_k.I) (fun go ih p r e => match p with
  | .l1 y1 a90 x91 x92 => roadlaw2_EffectSays.l1_k.step_l1 go ih y1 a90 x91 x92 r e
  ) e
theorem roadlaw2_EffectSays.l1.walk {h0 m0 h m : Heap} {bk1 : Nat} {cs1 : List Value} {A90 : Option Addr} {n90 c90 : Nat} {y1 : T_api_Program} {a90 : List T_api_Expr} {x91 : Int} {x92 : Int} (S : St No h0 m0 h m) (o1 : OB No h0 h m bk1 cs1 53) (e1 : T_api_Program.E m y1 cs1) (ne90 : n90 = List.length a90) (o90 : OS No h0 8 T_api_Expr.E h m A90 a90 c90) (d0_1 : Dj (fb bk1) (fp A90 c90)) {r : Bool} (e : roadlaw2_EffectSays.l1 y1 a90 x91 x92 = some r) : f4.l1 (roadlaw2_EffectSays.post No h0 m0 r) (⟨bk1, 0, none⟩ : Addr) A90 n90 c90 x91 x92 h := roadlaw2_EffectSays.l1_k.all (p := .l1 y1 a90 x91 x92) e h0 m0 h m bk1 cs1 A90 n90 c90 S o1 e1 ne90 o90 d0_1

inductive roadlaw2_EffectSays.l0_k.Pt where
  | l0 (y1 : T_api_Program) (a6 : List Int) (a8 : List T_api_Func) (a62 : List T_api_Func) (x63 : Int) (x64 : Int)
noncomputable def roadlaw2_EffectSays.l0_k.body (go : (p : roadlaw2_EffectSays.l0_k.Pt) → Option (Bool)) : (p : roadlaw2_EffectSays.l0_k.Pt) → Option (Bool)
  | .l0 y1 a6 a8 a62 x63 x64 => if x64 < x63 then (Option.bind (gi a62 x64) fun y134 => Option.bind (gi a6 x64) fun y163 => Option.bind (roadref2_DoesOf y1 y134.Body) fun y170 => if y163 = y170 then (Option.bind (gi a8 x64) fun y181 => if y181.Name = y134.Name then ((go (.l0 y1 a6 a8 a62 x63 (IntKind.wrap .i64 (x64 + (1 : Int)))))) else (some (false))) else (some (false))) else (Option.bind (roadref2_BodiesOf y1) fun y190 => (roadlaw2_EffectSays.l1 y1 y190 (((List.length y190) : Nat) : Int) (0 : Int)))
theorem roadlaw2_EffectSays.l0_k.mono : MonoF (β := fun _ => (Bool)) roadlaw2_EffectSays.l0_k.body := fun f g hfg p => match p with
  | .l0 y1 a6 a8 a62 x63 x64 => LeO.ite (LeO.bind (LeO.refl _) fun y134 => LeO.bind (LeO.refl _) fun y163 => LeO.bind (LeO.refl _) fun y170 => LeO.ite (LeO.bind (LeO.refl _) fun y181 => LeO.ite ((hfg _)) (LeO.refl _)) (LeO.refl _)) (LeO.bind (LeO.refl _) fun y190 => (LeO.refl _))
noncomputable def roadlaw2_EffectSays.l0_k.go (p : roadlaw2_EffectSays.l0_k.Pt) : Option (Bool) := fixF (β := fun _ => (Bool)) roadlaw2_EffectSays.l0_k.body p
noncomputable def roadlaw2_EffectSays.l0 (y1 : T_api_Program) (a6 : List Int) (a8 : List T_api_Func) (a62 : List T_api_Func) (x63 : Int) (x64 : Int) : Option (Bool) := roadlaw2_EffectSays.l0_k.go (.l0 y1 a6 a8 a62 x63 x64)
theorem roadlaw2_EffectSays.l0_eq (y1 : T_api_Program) (a6 : List Int) (a8 : List T_api_Func) (a62 : List T_api_Func) (x63 : Int) (x64 : Int) : roadlaw2_EffectSays.l0 y1 a6 a8 a62 x63 x64 = if x64 < x63 then (Option.bind (gi a62 x64) fun y134 => Option.bind (gi a6 x64) fun y163 => Option.bind (roadref2_DoesOf y1 y134.Body) fun y170 => if y163 = y170 then (Option.bind (gi a8 x64) fun y181 => if y181.Name = y134.Name then ((roadlaw2_EffectSays.l0 y1 a6 a8 a62 x63 (IntKind.wrap .i64 (x64 + (1 : Int))))) else (some (false))) else (some (false))) else (Option.bind (roadref2_BodiesOf y1) fun y190 => (roadlaw2_EffectSays.l1 y1 y190 (((List.length y190) : Nat) : Int) (0 : Int))) := fixF_eq roadlaw2_EffectSays.l0_k.mono _
def roadlaw2_EffectSays.l0_k.I : (p : roadlaw2_EffectSays.l0_k.Pt) → (Bool) → Prop
  | .l0 y1 a6 a8 a62 x63 x64, r => ∀ (h0 m0 h m : Heap) (bk1 : Nat) (cs1 : List Value) (A6 : Option Addr) (n6 c6 : Nat) (A8 : Option Addr) (n8 c8 : Nat) (A62 : Option Addr) (n62 c62 : Nat) (S : St No h0 m0 h m) (o1 : OB No h0 h m bk1 cs1 53) (e1 : T_api_Program.E m y1 cs1) (ne6 : n6 = List.length a6) (o6 : OS No h0 1 (eInt .i64) h m A6 a6 c6) (ne8 : n8 = List.length a8) (o8 : OS No h0 15 T_api_Func.E h m A8 a8 c8) (ne62 : n62 = List.length a62) (o62 : OS No h0 15 T_api_Func.E h m A62 a62 c62) (d0_1 : Dj (fb bk1) (fp A6 c6)) (d0_2 : Dj (fb bk1) (fp A8 c8)) (d0_3 : Dj (fb bk1) (fp A62 c62)) (d1_2 : Dj (fp A6 c6) (fp A8 c8)) (d1_3 : Dj (fp A6 c6) (fp A62 c62)) (d2_3 : Dj (fp A8 c8) (fp A62 c62)), f4.l0 (roadlaw2_EffectSays.post No h0 m0 r) (⟨bk1, 0, none⟩ : Addr) A6 n6 c6 A8 n8 c8 A62 n62 c62 x63 x64 h
set_option maxRecDepth 100000 in
theorem roadlaw2_EffectSays.l0_k.step_l0 (go : (p : roadlaw2_EffectSays.l0_k.Pt) → Option (Bool)) (ih : ∀ p r, go p = some r → roadlaw2_EffectSays.l0_k.I p r) (y1 : T_api_Program) (a6 : List Int) (a8 : List T_api_Func) (a62 : List T_api_Func) (x63 : Int) (x64 : Int) (r : Bool) (e : roadlaw2_EffectSays.l0_k.body go (.l0 y1 a6 a8 a62 x63 x64) = some r) : roadlaw2_EffectSays.l0_k.I (.l0 y1 a6 a8 a62 x63 x64) r := by
  unfold roadlaw2_EffectSays.l0_k.body at e
  intro h0 m0 h m bk1 cs1 A6 n6 c6 A8 n8 c8 A62 n62 c62 S o1 e1 ne6 o6 ne8 o8 ne62 o62 d0_1 d0_2 d0_3 d1_2 d1_3 d2_3
  obtain ⟨Ae1_2, ce1_2, Ae1_3, ce1_3, Ae1_4, ce1_4, Ae1_5, ce1_5, Ae1_6, ce1_6, Ae1_7, ce1_7, rfl, ke1_2, re1_2, ke1_3, re1_3, ke1_4, re1_4, ke1_5, re1_5, ke1_6, re1_6, ke1_7, re1_7⟩ := e1
  subst ne6
  subst ne8
  subst ne62
  refine f4.l0_in ?_
  unfold f4.l0T
  refine split_dec_e e (fun c211 e => ?_) (fun c211 e => ?_)
  · obtain ⟨y134, g135, e⟩ := bind_e e
    refine o62.addr rfl g135 fun a136 cs137 ha138 hc139 he140 => ?_
    obtain ⟨Aa136_1, ca136_1, Aa136_2, ca136_2, Aa136_3, ca136_3, Aa136_6, ca136_6, Aa136_10, ca136_10, Aa136_11, ca136_11, Aa136_12, ca136_12, Aa136_13, ca136_13, rfl, ka136_1, ra136_1, ka136_2, ra136_2, ka136_3, ra136_3, ka136_6, ra136_6, ka136_10, ra136_10, ka136_11, ra136_11, ka136_12, ra136_12, ka136_13, ra136_13⟩ := he140
    refine ⟨_, ldA (Sub.refl _) hc139, ?_⟩
    refine new_in S fun h141 o142 x143 => ?_
    have d146 : Dj (fb bk1) (fb (Array.size h)) := Dj.new o1.lt
    have d147 : Dj (fp A6 c6) (fb (Array.size h)) := Dj.new o6.lt
    have d148 : Dj (fp A8 c8) (fb (Array.size h)) := Dj.new o8.lt
    have d149 : Dj (fp A62 c62) (fb (Array.size h)) := Dj.new o62.lt
    have o150 := o1.ext x143
    have o151 := o6.ext (tell_int .i64) S.s x143
    have o152 := o8.ext T_api_Func.T S.s x143
    have o153 := o62.ext T_api_Func.T S.s x143
    have S144 := S.ext' x143
    have o142 : OB _ _ h141 _ (Array.size h) [(Value.string (ByteArray.mk #[])), (Value.slice none 0 0), (Value.slice none 0 0), (Value.slice none 0 0), (Value.int .i64 (0 : Int)), (Value.string (ByteArray.mk #[])), (Value.slice none 0 0), (Value.int .i64 (0 : Int)), (Value.int .i64 (0 : Int)), (Value.string (ByteArray.mk #[])), (Value.slice none 0 0), (Value.slice none 0 0), (Value.slice none 0 0), (Value.slice none 0 0), (Value.int .i64 (0 : Int))] 73 := o142
    obtain ⟨h154, w155, o156, t157⟩ := o142.stA S144.s [(Value.string y134.Name), (Value.slice Aa136_1 (List.length y134.Params) ca136_1), (Value.slice Aa136_2 (List.length y134.Names) ca136_2), (Value.slice Aa136_3 (List.length y134.Types) ca136_3), (Value.int .i64 y134.Out.Kind), (Value.string y134.Out.Name), (Value.slice Aa136_6 (List.length y134.Out.Args) ca136_6), (Value.int .i64 y134.Body.Kind), (Value.int .i64 y134.Body.Num), (Value.string y134.Body.Text), (Value.slice Aa136_10 (List.length y134.Body.Names) ca136_10), (Value.slice Aa136_11 (List.length y134.Body.Types) ca136_11), (Value.slice Aa136_12 (List.length y134.Body.Args) ca136_12), (Value.slice Aa136_13 (List.length y134.Body.Arms) ca136_13), (Value.int .i64 y134.Body.At)] rfl (Flats.cons trivial (Flats.cons trivial (Flats.cons trivial (Flats.cons trivial (Flats.cons trivial (Flats.cons trivial (Flats.cons trivial (Flats.cons trivial (Flats.cons trivial (Flats.cons trivial (Flats.cons trivial (Flats.cons trivial (Flats.cons trivial (Flats.cons trivial (Flats.cons trivial Flats.nil)))))))))))))))
    refine ⟨[(Value.string y134.Name), (Value.slice Aa136_1 (List.length y134.Params) ca136_1), (Value.slice Aa136_2 (List.length y134.Names) ca136_2), (Value.slice Aa136_3 (List.length y134.Types) ca136_3), (Value.int .i64 y134.Out.Kind), (Value.string y134.Out.Name), (Value.slice Aa136_6 (List.length y134.Out.Args) ca136_6), (Value.int .i64 y134.Body.Kind), (Value.int .i64 y134.Body.Num), (Value.string y134.Body.Text), (Value.slice Aa136_10 (List.length y134.Body.Names) ca136_10), (Value.slice Aa136_11 (List.length y134.Body.Types) ca136_11), (Value.slice Aa136_12 (List.length y134.Body.Args) ca136_12), (Value.slice Aa136_13 (List.length y134.Body.Arms) ca136_13), (Value.int .i64 y134.Body.At)], rfl, rfl, h154, w155, ?_⟩
    have o156 : OB _ _ h154 _ (Array.size h) [(Value.string y134.Name), (Value.slice Aa136_1 (List.length y134.Params) ca136_1), (Value.slice Aa136_2 (List.length y134.Names) ca136_2), (Value.slice Aa136_3 (List.length y134.Types) ca136_3), (Value.int .i64 y134.Out.Kind), (Value.string y134.Out.Name), (Value.slice Aa136_6 (List.length y134.Out.Args) ca136_6), (Value.int .i64 y134.Body.Kind), (Value.int .i64 y134.Body.Num), (Value.string y134.Body.Text), (Value.slice Aa136_10 (List.length y134.Body.Names) ca136_10), (Value.slice Aa136_11 (List.length y134.Body.Types) ca136_11), (Value.slice Aa136_12 (List.length y134.Body.Args) ca136_12), (Value.slice Aa136_13 (List.length y134.Body.Arms) ca136_13), (Value.int .i64 y134.Body.At)] 73 := o156
    have S158 := S144.then t157 (fun i _ hi => o142.wr i hi)
    have o159 := o150.step t157 (d146).symm
    have o160 := o151.step (tell_int .i64) t157 (d147).symm
    have o161 := o152.step T_api_Func.T t157 (d148).symm
    have o162 := o153.step T_api_Func.T t157 (d149).symm
    obtain ⟨y163, g164, e⟩ := bind_e e
    refine o160.addr rfl g164 fun a165 cs166 ha167 hc168 he169 => ?_
    obtain rfl : cs166 = [(Value.int .i64 y163)] := he169
    refine ⟨_, ld0 (Sub.refl _) hc168 rfl, _, rfl, ?_⟩
    refine ⟨_, ldA (Sub.refl _) o159.all, ?_⟩
    refine ⟨(Value.agg #[(Value.int .i64 y134.Body.Kind), (Value.int .i64 y134.Body.Num), (Value.string y134.Body.Text), (Value.slice Aa136_10 (List.length y134.Body.Names) ca136_10), (Value.slice Aa136_11 (List.length y134.Body.Types) ca136_11), (Value.slice Aa136_12 (List.length y134.Body.Args) ca136_12), (Value.slice Aa136_13 (List.length y134.Body.Arms) ca136_13), (Value.int .i64 y134.Body.At)]), ldAk (k := 7) (j := 8) (Sub.refl _) o156.all (Nat.le_of_ble_eq_true rfl), ?_⟩
    obtain ⟨y170, g171, e⟩ := bind_e e
    refine (roadref2_DoesOf.walk S158.s (show T_api_Program.E _ y1 [(Value.string y1.Name), (Value.int .i64 y1.Version), (Value.slice Ae1_2 (List.length y1.Uses) ce1_2), (Value.slice Ae1_3 (List.length y1.Datas) ce1_3), (Value.slice Ae1_4 (List.length y1.Traits) ce1_4), (Value.slice Ae1_5 (List.length y1.Impls) ce1_5), (Value.slice Ae1_6 (List.length y1.Funcs) ce1_6), (Value.slice Ae1_7 (List.length y1.Actors) ce1_7)] from ⟨_, _, _, _, _, _, _, _, _, _, _, _, rfl, ke1_2, re1_2, ke1_3, re1_3, ke1_4, re1_4, ke1_5, re1_5, ke1_6, re1_6, ke1_7, re1_7⟩) (T_api_Expr.iff.2 ⟨_, _, _, _, _, _, _, _, rfl, ka136_10, ra136_10, ka136_11, ra136_11, ka136_12, ra136_12, ka136_13, ra136_13⟩) g171).mono ?_
    rintro _ h172 ⟨m173, T174, rfl⟩
    have S175 := S158.grow T174
    have o176 := o159.step T174 Dj.no
    have o177 := o160.step (tell_int .i64) T174 Dj.no
    have o178 := o161.step T_api_Func.T T174 Dj.no
    have o179 := o162.step T_api_Func.T T174 Dj.no
    have o180 := o156.step T174 Dj.no
    refine ⟨_, rfl, ?_⟩
    refine ⟨T174.ext, ?_⟩
    refine split_ne_e e (fun c189 e => ?_) (fun c189 e => ?_)
    · cases e
      exact ⟨_, S175, rfl⟩
    · obtain ⟨y181, g182, e⟩ := bind_e e
      refine o178.addr rfl g182 fun a183 cs184 ha185 hc186 he187 => ?_
      obtain ⟨Aa183_1, ca183_1, Aa183_2, ca183_2, Aa183_3, ca183_3, Aa183_6, ca183_6, Aa183_10, ca183_10, Aa183_11, ca183_11, Aa183_12, ca183_12, Aa183_13, ca183_13, rfl, ka183_1, ra183_1, ka183_2, ra183_2, ka183_3, ra183_3, ka183_6, ra183_6, ka183_10, ra183_10, ka183_11, ra183_11, ka183_12, ra183_12, ka183_13, ra183_13⟩ := he187
      refine ⟨_, ld0 (Sub.refl _) hc186 rfl, _, rfl, ?_⟩
      refine ⟨_, ld0 (Sub.refl _) o180.all rfl, _, rfl, ?_⟩
      try rw [ba_list y181.Name y134.Name]
      refine split_not ?_
      refine split_dec_e e (fun c188 e => ?_) (fun c188 e => ?_)
      · exact (ih _ _ e) _ _ _ _ _ _ _ _ _ _ _ _ _ _ _ S175 o176 (show T_api_Program.E _ y1 [(Value.string y1.Name), (Value.int .i64 y1.Version), (Value.slice Ae1_2 (List.length y1.Uses) ce1_2), (Value.slice Ae1_3 (List.length y1.Datas) ce1_3), (Value.slice Ae1_4 (List.length y1.Traits) ce1_4), (Value.slice Ae1_5 (List.length y1.Impls) ce1_5), (Value.slice Ae1_6 (List.length y1.Funcs) ce1_6), (Value.slice Ae1_7 (List.length y1.Actors) ce1_7)] from ⟨_, _, _, _, _, _, _, _, _, _, _, _, rfl, ke1_2, (re1_2.sub T_api_Use.T T174.up), ke1_3, (re1_3.sub T_api_Data.T T174.up), ke1_4, (re1_4.sub T_api_Trait.T T174.up), ke1_5, (re1_5.sub T_api_Impl.T T174.up), ke1_6, (re1_6.sub T_api_Func.T T174.up), ke1_7, (re1_7.sub T_api_Actor.T T174.up)⟩) rfl o177 rfl o178 rfl o179 d0_1 d0_2 d0_3 d1_2 d1_3 d2_3
      · cases e
        exact ⟨_, S175, rfl⟩
  · refine ⟨_, ldA (Sub.refl _) o1.all, ?_⟩
    obtain ⟨y190, g191, e⟩ := bind_e e
    refine (roadref2_BodiesOf.walk S.s (show T_api_Program.E _ y1 [(Value.string y1.Name), (Value.int .i64 y1.Version), (Value.slice Ae1_2 (List.length y1.Uses) ce1_2), (Value.slice Ae1_3 (List.length y1.Datas) ce1_3), (Value.slice Ae1_4 (List.length y1.Traits) ce1_4), (Value.slice Ae1_5 (List.length y1.Impls) ce1_5), (Value.slice Ae1_6 (List.length y1.Funcs) ce1_6), (Value.slice Ae1_7 (List.length y1.Actors) ce1_7)] from ⟨_, _, _, _, _, _, _, _, _, _, _, _, rfl, ke1_2, re1_2, ke1_3, re1_3, ke1_4, re1_4, ke1_5, re1_5, ke1_6, re1_6, ke1_7, re1_7⟩) g191).mono ?_
    rintro _ h192 ⟨m193, A195, n196, c197, T194, rfl, ne198, o199⟩
    subst ne198
    have S201 := S.grow T194
    have o202 := o1.step T194 Dj.no
    have o203 := o6.step (tell_int .i64) T194 Dj.no
    have o204 := o8.step T_api_Func.T T194 Dj.no
    have o205 := o62.step T_api_Func.T T194 Dj.no
    have d207 : Dj (fb bk1) (fp A195 c197) := fun i h1 h2 => absurd (o1.lt i h1) (Nat.not_lt.2 ((o199.new i h2).elim (fun h => h.elim) id))
    have d208 : Dj (fp A6 c6) (fp A195 c197) := fun i h1 h2 => absurd (o6.lt i h1) (Nat.not_lt.2 ((o199.new i h2).elim (fun h => h.elim) id))
    have d209 : Dj (fp A8 c8) (fp A195 c197) := fun i h1 h2 => absurd (o8.lt i h1) (Nat.not_lt.2 ((o199.new i h2).elim (fun h => h.elim) id))
    have d210 : Dj (fp A62 c62) (fp A195 c197) := fun i h1 h2 => absurd (o62.lt i h1) (Nat.not_lt.2 ((o199.new i h2).elim (fun h => h.elim) id))
    have o206 := o199.take S (fun _ h => h.elim)
    refine ⟨_, _, _, rfl, ?_⟩
    exact roadlaw2_EffectSays.l1.walk S201 o202 (show T_api_Program.E _ y1 [(Value.string y1.Name), (Value.int .i64 y1.Version), (Value.slice Ae1_2 (List.length y1.Uses) ce1_2), (Value.slice Ae1_3 (List.length y1.Datas) ce1_3), (Value.slice Ae1_4 (List.length y1.Traits) ce1_4), (Value.slice Ae1_5 (List.length y1.Impls) ce1_5), (Value.slice Ae1_6 (List.length y1.Funcs) ce1_6), (Value.slice Ae1_7 (List.length y1.Actors) ce1_7)] from ⟨_, _, _, _, _, _, _, _, _, _, _, _, rfl, ke1_2, (re1_2.sub T_api_Use.T T194.up), ke1_3, (re1_3.sub T_api_Data.T T194.up), ke1_4, (re1_4.sub T_api_Trait.T T194.up), ke1_5, (re1_5.sub T_api_Impl.T T194.up), ke1_6, (re1_6.sub T_api_Func.T T194.up), ke1_7, (re1_7.sub T_api_Actor.T T194.up)⟩) rfl o206 d207 e
theorem roadlaw2_EffectSays.l0_k.all {p : roadlaw2_EffectSays.l0_k.Pt} {r : (Bool)} (e : roadlaw2_EffectSays.l0_k.go p = some r) : roadlaw2_EffectSays.l0_k.I p r := fixF_ind (β := fun _ => (Bool)) roadlaw2_EffectSays.l0_k.mono (I := roadlaw2_EffectSays.l0_k.I) (fun go ih p r e => match p with
  | .l0 y1 a6 a8 a62 x63 x64 => roadlaw2_EffectSays.l0_k.step_l0 go ih y1 a6 a8 a62 x63 x64 r e
  ) e
theorem roadlaw2_EffectSays.l0.walk {h0 m0 h m : Heap} {bk1 : Nat} {cs1 : List Value} {A6 : Option Addr} {n6 c6 : Nat} {A8 : Option Addr} {n8 c8 : Nat} {A62 : Option Addr} {n62 c62 : Nat} {y1 : T_api_Program} {a6 : List Int} {a8 : List T_api_Func} {a62 : List T_api_Func} {x63 : Int} {x64 : Int} (S : St No h0 m0 h m) (o1 : OB No h0 h m bk1 cs1 53) (e1 : T_api_Program.E m y1 cs1) (ne6 : n6 = List.length a6) (o6 : OS No h0 1 (eInt .i64) h m A6 a6 c6) (ne8 : n8 = List.length a8) (o8 : OS No h0 15 T_api_Func.E h m A8 a8 c8) (ne62 : n62 = List.length a62) (o62 : OS No h0 15 T_api_Func.E h m A62 a62 c62) (d0_1 : Dj (fb bk1) (fp A6 c6)) (d0_2 : Dj (fb bk1) (fp A8 c8)) (d0_3 : Dj (fb bk1) (fp A62 c62)) (d1_2 : Dj (fp A6 c6) (fp A8 c8)) (d1_3 : Dj (fp A6 c6) (fp A62 c62)) (d2_3 : Dj (fp A8 c8) (fp A62 c62)) {r : Bool} (e : roadlaw2_EffectSays.l0 y1 a6 a8 a62 x63 x64 = some r) : f4.l0 (roadlaw2_EffectSays.post No h0 m0 r) (⟨bk1, 0, none⟩ : Addr) A6 n6 c6 A8 n8 c8 A62 n62 c62 x63 x64 h := roadlaw2_EffectSays.l0_k.all (p := .l0 y1 a6 a8 a62 x63 x64) e h0 m0 h m bk1 cs1 A6 n6 c6 A8 n8 c8 A62 n62 c62 S o1 e1 ne6 o6 ne8 o8 ne62 o62 d0_1 d0_2 d0_3 d1_2 d1_3 d2_3

noncomputable def roadlaw2_EffectSays.j0 (y1 : T_api_Program) (a6 : List Int) (a8 : List T_api_Func) : Option (Bool) :=
  Option.bind (roadref2_FunsOf y1) fun y115 => (roadlaw2_EffectSays.l0 y1 a6 a8 y115 (((List.length y115) : Nat) : Int) (0 : Int))
set_option maxRecDepth 100000 in
theorem roadlaw2_EffectSays.j0.walk {h0 m0 h m : Heap} {bk1 : Nat} {cs1 : List Value} {A6 : Option Addr} {n6 c6 : Nat} {A8 : Option Addr} {n8 c8 : Nat} {y1 : T_api_Program} {a6 : List Int} {a8 : List T_api_Func} (S : St No h0 m0 h m) (o1 : OB No h0 h m bk1 cs1 53) (e1 : T_api_Program.E m y1 cs1) (ne6 : n6 = List.length a6) (o6 : OS No h0 1 (eInt .i64) h m A6 a6 c6) (ne8 : n8 = List.length a8) (o8 : OS No h0 15 T_api_Func.E h m A8 a8 c8) (d0_1 : Dj (fb bk1) (fp A6 c6)) (d0_2 : Dj (fb bk1) (fp A8 c8)) (d1_2 : Dj (fp A6 c6) (fp A8 c8)) {r : Bool} (e : roadlaw2_EffectSays.j0 y1 a6 a8 = some r) : f4.j0 (roadlaw2_EffectSays.post No h0 m0 r) (⟨bk1, 0, none⟩ : Addr) A6 n6 c6 A8 n8 c8 h := by
  unfold roadlaw2_EffectSays.j0 at e
  obtain ⟨Ae1_2, ce1_2, Ae1_3, ce1_3, Ae1_4, ce1_4, Ae1_5, ce1_5, Ae1_6, ce1_6, Ae1_7, ce1_7, rfl, ke1_2, re1_2, ke1_3, re1_3, ke1_4, re1_4, ke1_5, re1_5, ke1_6, re1_6, ke1_7, re1_7⟩ := e1
  subst ne6
  subst ne8
  refine f4.j0_in ?_
  unfold f4.j0T
  refine ⟨_, ldA (Sub.refl _) o1.all, ?_⟩
  obtain ⟨y115, g116, e⟩ := bind_e e
  refine (roadref2_FunsOf.walk S.s (show T_api_Program.E _ y1 [(Value.string y1.Name), (Value.int .i64 y1.Version), (Value.slice Ae1_2 (List.length y1.Uses) ce1_2), (Value.slice Ae1_3 (List.length y1.Datas) ce1_3), (Value.slice Ae1_4 (List.length y1.Traits) ce1_4), (Value.slice Ae1_5 (List.length y1.Impls) ce1_5), (Value.slice Ae1_6 (List.length y1.Funcs) ce1_6), (Value.slice Ae1_7 (List.length y1.Actors) ce1_7)] from ⟨_, _, _, _, _, _, _, _, _, _, _, _, rfl, ke1_2, re1_2, ke1_3, re1_3, ke1_4, re1_4, ke1_5, re1_5, ke1_6, re1_6, ke1_7, re1_7⟩) g116).mono ?_
  rintro _ h117 ⟨m118, A120, n121, c122, T119, rfl, ne123, o124⟩
  subst ne123
  have S126 := S.grow T119
  have o127 := o1.step T119 Dj.no
  have o128 := o6.step (tell_int .i64) T119 Dj.no
  have o129 := o8.step T_api_Func.T T119 Dj.no
  have d131 : Dj (fb bk1) (fp A120 c122) := fun i h1 h2 => absurd (o1.lt i h1) (Nat.not_lt.2 ((o124.new i h2).elim (fun h => h.elim) id))
  have d132 : Dj (fp A6 c6) (fp A120 c122) := fun i h1 h2 => absurd (o6.lt i h1) (Nat.not_lt.2 ((o124.new i h2).elim (fun h => h.elim) id))
  have d133 : Dj (fp A8 c8) (fp A120 c122) := fun i h1 h2 => absurd (o8.lt i h1) (Nat.not_lt.2 ((o124.new i h2).elim (fun h => h.elim) id))
  have o130 := o124.take S (fun _ h => h.elim)
  refine ⟨_, _, _, rfl, ?_⟩
  exact roadlaw2_EffectSays.l0.walk S126 o127 (show T_api_Program.E _ y1 [(Value.string y1.Name), (Value.int .i64 y1.Version), (Value.slice Ae1_2 (List.length y1.Uses) ce1_2), (Value.slice Ae1_3 (List.length y1.Datas) ce1_3), (Value.slice Ae1_4 (List.length y1.Traits) ce1_4), (Value.slice Ae1_5 (List.length y1.Impls) ce1_5), (Value.slice Ae1_6 (List.length y1.Funcs) ce1_6), (Value.slice Ae1_7 (List.length y1.Actors) ce1_7)] from ⟨_, _, _, _, _, _, _, _, _, _, _, _, rfl, ke1_2, (re1_2.sub T_api_Use.T T119.up), ke1_3, (re1_3.sub T_api_Data.T T119.up), ke1_4, (re1_4.sub T_api_Trait.T T119.up), ke1_5, (re1_5.sub T_api_Impl.T T119.up), ke1_6, (re1_6.sub T_api_Func.T T119.up), ke1_7, (re1_7.sub T_api_Actor.T T119.up)⟩) rfl o128 rfl o129 rfl o130 d0_1 d0_2 d131 d1_2 d132 d133 e

noncomputable def roadlaw2_EffectSays (y0 : T_api_Program) : Option (Bool) :=
  Option.bind (roadlaw2_small y0) fun y6 => if y6 = true then (Option.bind (effect_Program y0) fun y13 => Option.bind (roadref2_EffectsOf y0) fun y20 => Option.bind (effect_Least y0) fun y42 => Option.bind (effect_Funs y0) fun y59 => if y13.1 = y20.E_ then (if y13.2 = y20.At then (Option.bind (roadref2_AnyOf y0) fun y78 => if y42.2 = y78 then (Option.bind (roadref2_FunsOf y0) fun y88 => if (((List.length y42.1) : Nat) : Int) = (((List.length y88) : Nat) : Int) then (if (((List.length y59) : Nat) : Int) = (((List.length y42.1) : Nat) : Int) then ((roadlaw2_EffectSays.j0 y0 y42.1 y59)) else (some (false))) else (some (false))) else (some (false))) else (some (false))) else (some (false))) else (some (true))
set_option maxRecDepth 100000 in
theorem roadlaw2_EffectSays.walk {h m : Heap} {cs0 : List Value} {y0 : T_api_Program} (s : Sub m h) (e0 : T_api_Program.E m y0 cs0) {r : Bool} (e : roadlaw2_EffectSays y0 = some r) : Run Try.prog 4 #[Value.agg cs0.toArray] h (roadlaw2_EffectSays.post No h m r) := by
  unfold roadlaw2_EffectSays at e
  obtain ⟨Ae0_2, ce0_2, Ae0_3, ce0_3, Ae0_4, ce0_4, Ae0_5, ce0_5, Ae0_6, ce0_6, Ae0_7, ce0_7, rfl, ke0_2, re0_2, ke0_3, re0_3, ke0_4, re0_4, ke0_5, re0_5, ke0_6, re0_6, ke0_7, re0_7⟩ := e0
  have S : St No h m h m := .refl s
  refine f4.run ?_
  unfold f4.runT
  refine new_in S fun h1 o2 x3 => ?_
  have S4 := S.ext' x3
  have o2 : OB _ _ h1 _ (Array.size h) [(Value.string y0.Name), (Value.int .i64 y0.Version), (Value.slice Ae0_2 (List.length y0.Uses) ce0_2), (Value.slice Ae0_3 (List.length y0.Datas) ce0_3), (Value.slice Ae0_4 (List.length y0.Traits) ce0_4), (Value.slice Ae0_5 (List.length y0.Impls) ce0_5), (Value.slice Ae0_6 (List.length y0.Funcs) ce0_6), (Value.slice Ae0_7 (List.length y0.Actors) ce0_7)] 53 := o2
  refine ⟨_, ldA (Sub.refl _) o2.all, ?_⟩
  obtain ⟨y6, g7, e⟩ := bind_e e
  refine (roadlaw2_small.walk S4.s (show T_api_Program.E _ y0 [(Value.string y0.Name), (Value.int .i64 y0.Version), (Value.slice Ae0_2 (List.length y0.Uses) ce0_2), (Value.slice Ae0_3 (List.length y0.Datas) ce0_3), (Value.slice Ae0_4 (List.length y0.Traits) ce0_4), (Value.slice Ae0_5 (List.length y0.Impls) ce0_5), (Value.slice Ae0_6 (List.length y0.Funcs) ce0_6), (Value.slice Ae0_7 (List.length y0.Actors) ce0_7)] from ⟨_, _, _, _, _, _, _, _, _, _, _, _, rfl, ke0_2, re0_2, ke0_3, re0_3, ke0_4, re0_4, ke0_5, re0_5, ke0_6, re0_6, ke0_7, re0_7⟩) g7).mono ?_
  rintro _ h8 ⟨m9, T10, rfl⟩
  have S11 := S4.grow T10
  have o12 := o2.step T10 Dj.no
  refine ⟨_, rfl, ?_⟩
  refine split_not ?_
  refine split_any_e e (fun c114 e => ?_) (fun c114 e => ?_)
  · refine ⟨_, ldA (Sub.refl _) o12.all, ?_⟩
    obtain ⟨y13, g14, e⟩ := bind_e e
    refine (effect_Program.walk S11.s (show T_api_Program.E _ y0 [(Value.string y0.Name), (Value.int .i64 y0.Version), (Value.slice Ae0_2 (List.length y0.Uses) ce0_2), (Value.slice Ae0_3 (List.length y0.Datas) ce0_3), (Value.slice Ae0_4 (List.length y0.Traits) ce0_4), (Value.slice Ae0_5 (List.length y0.Impls) ce0_5), (Value.slice Ae0_6 (List.length y0.Funcs) ce0_6), (Value.slice Ae0_7 (List.length y0.Actors) ce0_7)] from ⟨_, _, _, _, _, _, _, _, _, _, _, _, rfl, ke0_2, (re0_2.sub T_api_Use.T T10.up), ke0_3, (re0_3.sub T_api_Data.T T10.up), ke0_4, (re0_4.sub T_api_Trait.T T10.up), ke0_5, (re0_5.sub T_api_Impl.T T10.up), ke0_6, (re0_6.sub T_api_Func.T T10.up), ke0_7, (re0_7.sub T_api_Actor.T T10.up)⟩) g14).mono ?_
    rintro _ h15 ⟨m16, T17, rfl⟩
    have S18 := S11.grow T17
    have o19 := o12.step T17 Dj.no
    refine ⟨_, _, rfl, ?_⟩
    refine ⟨_, ldA (Sub.refl _) o19.all, ?_⟩
    obtain ⟨y20, g21, e⟩ := bind_e e
    refine (roadref2_EffectsOf.walk S18.s (show T_api_Program.E _ y0 [(Value.string y0.Name), (Value.int .i64 y0.Version), (Value.slice Ae0_2 (List.length y0.Uses) ce0_2), (Value.slice Ae0_3 (List.length y0.Datas) ce0_3), (Value.slice Ae0_4 (List.length y0.Traits) ce0_4), (Value.slice Ae0_5 (List.length y0.Impls) ce0_5), (Value.slice Ae0_6 (List.length y0.Funcs) ce0_6), (Value.slice Ae0_7 (List.length y0.Actors) ce0_7)] from ⟨_, _, _, _, _, _, _, _, _, _, _, _, rfl, ke0_2, (re0_2.sub T_api_Use.T (T10.up.trans T17.up)), ke0_3, (re0_3.sub T_api_Data.T (T10.up.trans T17.up)), ke0_4, (re0_4.sub T_api_Trait.T (T10.up.trans T17.up)), ke0_5, (re0_5.sub T_api_Impl.T (T10.up.trans T17.up)), ke0_6, (re0_6.sub T_api_Func.T (T10.up.trans T17.up)), ke0_7, (re0_7.sub T_api_Actor.T (T10.up.trans T17.up))⟩) g21).mono ?_
    rintro _ h22 ⟨m23, cs25, T24, rfl, he26⟩
    obtain rfl : cs25 = [(Value.int .i64 y20.E_), (Value.int .i64 y20.At)] := he26
    have S27 := S18.grow T24
    have o28 := o19.step T24 Dj.no
    refine new_in S27 fun h29 o30 x31 => ?_
    have d34 : Dj (fb (Array.size h)) (fb (Array.size h22)) := Dj.new o28.lt
    have o35 := o28.ext x31
    have S32 := S27.ext' x31
    have o30 : OB _ _ h29 _ (Array.size h22) [(Value.int .i64 (0 : Int)), (Value.int .i64 (0 : Int))] 58 := o30
    obtain ⟨h36, w37, o38, t39⟩ := o30.stA S32.s [(Value.int .i64 y20.E_), (Value.int .i64 y20.At)] rfl (Flats.cons trivial (Flats.cons trivial Flats.nil))
    refine ⟨[(Value.int .i64 y20.E_), (Value.int .i64 y20.At)], rfl, rfl, h36, w37, ?_⟩
    have o38 : OB _ _ h36 _ (Array.size h22) [(Value.int .i64 y20.E_), (Value.int .i64 y20.At)] 58 := o38
    have S40 := S32.then t39 (fun i _ hi => o30.wr i hi)
    have o41 := o35.step t39 (d34).symm
    refine ⟨_, ldA (Sub.refl _) o41.all, ?_⟩
    obtain ⟨y42, g43, e⟩ := bind_e e
    refine (effect_Least.walk S40.s (show T_api_Program.E _ y0 [(Value.string y0.Name), (Value.int .i64 y0.Version), (Value.slice Ae0_2 (List.length y0.Uses) ce0_2), (Value.slice Ae0_3 (List.length y0.Datas) ce0_3), (Value.slice Ae0_4 (List.length y0.Traits) ce0_4), (Value.slice Ae0_5 (List.length y0.Impls) ce0_5), (Value.slice Ae0_6 (List.length y0.Funcs) ce0_6), (Value.slice Ae0_7 (List.length y0.Actors) ce0_7)] from ⟨_, _, _, _, _, _, _, _, _, _, _, _, rfl, ke0_2, (re0_2.sub T_api_Use.T (T10.up.trans (T17.up.trans T24.up))), ke0_3, (re0_3.sub T_api_Data.T (T10.up.trans (T17.up.trans T24.up))), ke0_4, (re0_4.sub T_api_Trait.T (T10.up.trans (T17.up.trans T24.up))), ke0_5, (re0_5.sub T_api_Impl.T (T10.up.trans (T17.up.trans T24.up))), ke0_6, (re0_6.sub T_api_Func.T (T10.up.trans (T17.up.trans T24.up))), ke0_7, (re0_7.sub T_api_Actor.T (T10.up.trans (T17.up.trans T24.up)))⟩) g43).mono ?_
    rintro _ h44 ⟨m45, A47, n48, c49, T46, rfl, ne50, o51⟩
    subst ne50
    have S53 := S40.grow T46
    have o54 := o41.step T46 Dj.no
    have o55 := o38.step T46 Dj.no
    have d57 : Dj (fb (Array.size h)) (fp A47 c49) := fun i h1 h2 => absurd (o41.lt i h1) (Nat.not_lt.2 ((o51.new i h2).elim (fun h => h.elim) id))
    have d58 : Dj (fb (Array.size h22)) (fp A47 c49) := fun i h1 h2 => absurd (o38.lt i h1) (Nat.not_lt.2 ((o51.new i h2).elim (fun h => h.elim) id))
    have o56 := o51.take S40 (fun _ h => h.elim)
    refine ⟨_, _, _, _, rfl, ?_⟩
    refine ⟨_, ldA (Sub.refl _) o54.all, ?_⟩
    obtain ⟨y59, g60, e⟩ := bind_e e
    refine (effect_Funs.walk S53.s (show T_api_Program.E _ y0 [(Value.string y0.Name), (Value.int .i64 y0.Version), (Value.slice Ae0_2 (List.length y0.Uses) ce0_2), (Value.slice Ae0_3 (List.length y0.Datas) ce0_3), (Value.slice Ae0_4 (List.length y0.Traits) ce0_4), (Value.slice Ae0_5 (List.length y0.Impls) ce0_5), (Value.slice Ae0_6 (List.length y0.Funcs) ce0_6), (Value.slice Ae0_7 (List.length y0.Actors) ce0_7)] from ⟨_, _, _, _, _, _, _, _, _, _, _, _, rfl, ke0_2, (re0_2.sub T_api_Use.T (T10.up.trans (T17.up.trans (T24.up.trans T46.up)))), ke0_3, (re0_3.sub T_api_Data.T (T10.up.trans (T17.up.trans (T24.up.trans T46.up)))), ke0_4, (re0_4.sub T_api_Trait.T (T10.up.trans (T17.up.trans (T24.up.trans T46.up)))), ke0_5, (re0_5.sub T_api_Impl.T (T10.up.trans (T17.up.trans (T24.up.trans T46.up)))), ke0_6, (re0_6.sub T_api_Func.T (T10.up.trans (T17.up.trans (T24.up.trans T46.up)))), ke0_7, (re0_7.sub T_api_Actor.T (T10.up.trans (T17.up.trans (T24.up.trans T46.up))))⟩) g60).mono ?_
    rintro _ h61 ⟨m62, A64, n65, c66, T63, rfl, ne67, o68⟩
    subst ne67
    have S70 := S53.grow T63
    have o71 := o54.step T63 Dj.no
    have o72 := o55.step T63 Dj.no
    have o73 := o56.step (tell_int .i64) T63 Dj.no
    have d75 : Dj (fb (Array.size h)) (fp A64 c66) := fun i h1 h2 => absurd (o54.lt i h1) (Nat.not_lt.2 ((o68.new i h2).elim (fun h => h.elim) id))
    have d76 : Dj (fb (Array.size h22)) (fp A64 c66) := fun i h1 h2 => absurd (o55.lt i h1) (Nat.not_lt.2 ((o68.new i h2).elim (fun h => h.elim) id))
    have d77 : Dj (fp A47 c49) (fp A64 c66) := fun i h1 h2 => absurd (o56.lt i h1) (Nat.not_lt.2 ((o68.new i h2).elim (fun h => h.elim) id))
    have o74 := o68.take S53 (fun _ h => h.elim)
    refine ⟨_, _, _, rfl, ?_⟩
    refine ⟨_, ld0 (Sub.refl _) o72.all rfl, _, rfl, ?_⟩
    refine split_ne_e e (fun c113 e => ?_) (fun c113 e => ?_)
    · cases e
      exact ⟨_, S70, rfl⟩
    · refine ⟨_, ldk (k := 1) (Sub.refl _) o72.all rfl, _, rfl, ?_⟩
      refine split_ne_e e (fun c112 e => ?_) (fun c112 e => ?_)
      · cases e
        exact ⟨_, S70, rfl⟩
      · refine ⟨_, ldA (Sub.refl _) o71.all, ?_⟩
        obtain ⟨y78, g79, e⟩ := bind_e e
        refine (roadref2_AnyOf.walk S70.s (show T_api_Program.E _ y0 [(Value.string y0.Name), (Value.int .i64 y0.Version), (Value.slice Ae0_2 (List.length y0.Uses) ce0_2), (Value.slice Ae0_3 (List.length y0.Datas) ce0_3), (Value.slice Ae0_4 (List.length y0.Traits) ce0_4), (Value.slice Ae0_5 (List.length y0.Impls) ce0_5), (Value.slice Ae0_6 (List.length y0.Funcs) ce0_6), (Value.slice Ae0_7 (List.length y0.Actors) ce0_7)] from ⟨_, _, _, _, _, _, _, _, _, _, _, _, rfl, ke0_2, (re0_2.sub T_api_Use.T (T10.up.trans (T17.up.trans (T24.up.trans (T46.up.trans T63.up))))), ke0_3, (re0_3.sub T_api_Data.T (T10.up.trans (T17.up.trans (T24.up.trans (T46.up.trans T63.up))))), ke0_4, (re0_4.sub T_api_Trait.T (T10.up.trans (T17.up.trans (T24.up.trans (T46.up.trans T63.up))))), ke0_5, (re0_5.sub T_api_Impl.T (T10.up.trans (T17.up.trans (T24.up.trans (T46.up.trans T63.up))))), ke0_6, (re0_6.sub T_api_Func.T (T10.up.trans (T17.up.trans (T24.up.trans (T46.up.trans T63.up))))), ke0_7, (re0_7.sub T_api_Actor.T (T10.up.trans (T17.up.trans (T24.up.trans (T46.up.trans T63.up)))))⟩) g79).mono ?_
        rintro _ h80 ⟨m81, T82, rfl⟩
        have S83 := S70.grow T82
        have o84 := o71.step T82 Dj.no
        have o85 := o72.step T82 Dj.no
        have o86 := o73.step (tell_int .i64) T82 Dj.no
        have o87 := o74.step T_api_Func.T T82 Dj.no
        refine ⟨_, rfl, ?_⟩
        refine split_ne_e e (fun c111 e => ?_) (fun c111 e => ?_)
        · cases e
          exact ⟨_, S83, rfl⟩
        · refine ⟨_, ldA (Sub.refl _) o84.all, ?_⟩
          obtain ⟨y88, g89, e⟩ := bind_e e
          refine (roadref2_FunsOf.walk S83.s (show T_api_Program.E _ y0 [(Value.string y0.Name), (Value.int .i64 y0.Version), (Value.slice Ae0_2 (List.length y0.Uses) ce0_2), (Value.slice Ae0_3 (List.length y0.Datas) ce0_3), (Value.slice Ae0_4 (List.length y0.Traits) ce0_4), (Value.slice Ae0_5 (List.length y0.Impls) ce0_5), (Value.slice Ae0_6 (List.length y0.Funcs) ce0_6), (Value.slice Ae0_7 (List.length y0.Actors) ce0_7)] from ⟨_, _, _, _, _, _, _, _, _, _, _, _, rfl, ke0_2, (re0_2.sub T_api_Use.T (T10.up.trans (T17.up.trans (T24.up.trans (T46.up.trans (T63.up.trans T82.up)))))), ke0_3, (re0_3.sub T_api_Data.T (T10.up.trans (T17.up.trans (T24.up.trans (T46.up.trans (T63.up.trans T82.up)))))), ke0_4, (re0_4.sub T_api_Trait.T (T10.up.trans (T17.up.trans (T24.up.trans (T46.up.trans (T63.up.trans T82.up)))))), ke0_5, (re0_5.sub T_api_Impl.T (T10.up.trans (T17.up.trans (T24.up.trans (T46.up.trans (T63.up.trans T82.up)))))), ke0_6, (re0_6.sub T_api_Func.T (T10.up.trans (T17.up.trans (T24.up.trans (T46.up.trans (T63.up.trans T82.up)))))), ke0_7, (re0_7.sub T_api_Actor.T (T10.up.trans (T17.up.trans (T24.up.trans (T46.up.trans (T63.up.trans T82.up))))))⟩) g89).mono ?_
          rintro _ h90 ⟨m91, A93, n94, c95, T92, rfl, ne96, o97⟩
          subst ne96
          have S99 := S83.grow T92
          have o100 := o84.step T92 Dj.no
          have o101 := o85.step T92 Dj.no
          have o102 := o86.step (tell_int .i64) T92 Dj.no
          have o103 := o87.step T_api_Func.T T92 Dj.no
          have d105 : Dj (fb (Array.size h)) (fp A93 c95) := fun i h1 h2 => absurd (o84.lt i h1) (Nat.not_lt.2 ((o97.new i h2).elim (fun h => h.elim) id))
          have d106 : Dj (fb (Array.size h22)) (fp A93 c95) := fun i h1 h2 => absurd (o85.lt i h1) (Nat.not_lt.2 ((o97.new i h2).elim (fun h => h.elim) id))
          have d107 : Dj (fp A47 c49) (fp A93 c95) := fun i h1 h2 => absurd (o86.lt i h1) (Nat.not_lt.2 ((o97.new i h2).elim (fun h => h.elim) id))
          have d108 : Dj (fp A64 c66) (fp A93 c95) := fun i h1 h2 => absurd (o87.lt i h1) (Nat.not_lt.2 ((o97.new i h2).elim (fun h => h.elim) id))
          have o104 := o97.take S83 (fun _ h => h.elim)
          refine ⟨_, _, _, rfl, ?_⟩
          refine split_ne_e e (fun c110 e => ?_) (fun c110 e => ?_)
          · cases e
            exact ⟨_, S99, rfl⟩
          · refine split_ne_e e (fun c109 e => ?_) (fun c109 e => ?_)
            · cases e
              exact ⟨_, S99, rfl⟩
            · exact roadlaw2_EffectSays.j0.walk S99 o100 (show T_api_Program.E _ y0 [(Value.string y0.Name), (Value.int .i64 y0.Version), (Value.slice Ae0_2 (List.length y0.Uses) ce0_2), (Value.slice Ae0_3 (List.length y0.Datas) ce0_3), (Value.slice Ae0_4 (List.length y0.Traits) ce0_4), (Value.slice Ae0_5 (List.length y0.Impls) ce0_5), (Value.slice Ae0_6 (List.length y0.Funcs) ce0_6), (Value.slice Ae0_7 (List.length y0.Actors) ce0_7)] from ⟨_, _, _, _, _, _, _, _, _, _, _, _, rfl, ke0_2, (re0_2.sub T_api_Use.T (T10.up.trans (T17.up.trans (T24.up.trans (T46.up.trans (T63.up.trans (T82.up.trans T92.up))))))), ke0_3, (re0_3.sub T_api_Data.T (T10.up.trans (T17.up.trans (T24.up.trans (T46.up.trans (T63.up.trans (T82.up.trans T92.up))))))), ke0_4, (re0_4.sub T_api_Trait.T (T10.up.trans (T17.up.trans (T24.up.trans (T46.up.trans (T63.up.trans (T82.up.trans T92.up))))))), ke0_5, (re0_5.sub T_api_Impl.T (T10.up.trans (T17.up.trans (T24.up.trans (T46.up.trans (T63.up.trans (T82.up.trans T92.up))))))), ke0_6, (re0_6.sub T_api_Func.T (T10.up.trans (T17.up.trans (T24.up.trans (T46.up.trans (T63.up.trans (T82.up.trans T92.up))))))), ke0_7, (re0_7.sub T_api_Actor.T (T10.up.trans (T17.up.trans (T24.up.trans (T46.up.trans (T63.up.trans (T82.up.trans T92.up)))))))⟩) rfl o102 rfl o103 d57 d75 d77 e
  · cases e
    exact ⟨_, S11, rfl⟩

end Go.Proofs.Ytilmfjdagnbbaab.Fw
