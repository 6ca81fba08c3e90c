/- Data of the given program, and pure functions of its functions, with the walks. Printed by a program of this session. -/
import Derived.Test.YtilmfjdagnbbaabLfHeapBuilds0
namespace Go.Proofs.Ytilmfjdagnbbaab.Fw
open Go Go.Hw Go.Proofs
set_option linter.unusedVariables false

/-! ### 103 roadstead/roadref3.ObjectAt -/
def roadref3_ObjectAt.post (W : Nat → Prop) (h0 m0 : Heap) (r : T_heap_Object × Bool) (v : Value) (h : Heap) : Prop := ∃ m cs0, St W h0 m0 h m ∧ v = .tuple #[.agg cs0.toArray, .bool r.2] ∧ T_heap_Object.E m r.1 cs0
inductive roadref3_ObjectAt.l1_k.Pt where
  | l1 (a0 : List Int) (x1 : Int) (y4 : T_heap_Object) (y6 : T_heap_Object) (a125 : List Int) (x126 : Int) (x127 : Int)
noncomputable def roadref3_ObjectAt.l1_k.body (go : (p : roadref3_ObjectAt.l1_k.Pt) → Option (T_heap_Object × Bool)) : (p : roadref3_ObjectAt.l1_k.Pt) → Option (T_heap_Object × Bool)
  | .l1 a0 x1 y4 y6 a125 x126 x127 => if x127 < x126 then (Option.bind (gi a125 x127) fun y205 => Option.bind (gi a0 (IntKind.wrap .i64 (x1 + x127))) fun y212 => if y212 = y205 then ((go (.l1 a0 x1 y4 y6 a125 x126 (IntKind.wrap .i64 (x127 + (1 : Int)))))) else (some ((T_heap_Object.mk (0 : Int) (0 : Int) (0 : Int) (ByteArray.mk #[]) ([] : List Int)), false))) else (some (y6, true))
theorem roadref3_ObjectAt.l1_k.mono : MonoF (β := fun _ => (T_heap_Object × Bool)) roadref3_ObjectAt.l1_k.body := fun f g hfg p => match p with
  | .l1 a0 x1 y4 y6 a125 x126 x127 => LeO.ite (LeO.bind (LeO.refl _) fun y205 => LeO.bind (LeO.refl _) fun y212 => LeO.ite ((hfg _)) (LeO.refl _)) (LeO.refl _)
noncomputable def roadref3_ObjectAt.l1_k.go (p : roadref3_ObjectAt.l1_k.Pt) : Option (T_heap_Object × Bool) := fixF (β := fun _ => (T_heap_Object × Bool)) roadref3_ObjectAt.l1_k.body p
noncomputable def roadref3_ObjectAt.l1 (a0 : List Int) (x1 : Int) (y4 : T_heap_Object) (y6 : T_heap_Object) (a125 : List Int) (x126 : Int) (x127 : Int) : Option (T_heap_Object × Bool) := roadref3_ObjectAt.l1_k.go (.l1 a0 x1 y4 y6 a125 x126 x127)
theorem roadref3_ObjectAt.l1_eq (a0 : List Int) (x1 : Int) (y4 : T_heap_Object) (y6 : T_heap_Object) (a125 : List Int) (x126 : Int) (x127 : Int) : roadref3_ObjectAt.l1 a0 x1 y4 y6 a125 x126 x127 = if x127 < x126 then (Option.bind (gi a125 x127) fun y205 => Option.bind (gi a0 (IntKind.wrap .i64 (x1 + x127))) fun y212 => if y212 = y205 then ((roadref3_ObjectAt.l1 a0 x1 y4 y6 a125 x126 (IntKind.wrap .i64 (x127 + (1 : Int))))) else (some ((T_heap_Object.mk (0 : Int) (0 : Int) (0 : Int) (ByteArray.mk #[]) ([] : List Int)), false))) else (some (y6, true)) := fixF_eq roadref3_ObjectAt.l1_k.mono _
def roadref3_ObjectAt.l1_k.I : (p : roadref3_ObjectAt.l1_k.Pt) → (T_heap_Object × Bool) → Prop
  | .l1 a0 x1 y4 y6 a125 x126 x127, r => ∀ (h0 m0 h m : Heap) (A0 : Option Addr) (n0 c0 : Nat) (bk4 : Nat) (cs4 : List Value) (bk6 : Nat) (cs6 : List Value) (A125 : Option Addr) (n125 c125 : Nat) (S : St No h0 m0 h m) (ne0 : n0 = List.length a0) (k0 : List.length a0 ≤ c0) (r0 : Rd 1 (eInt .u64) m A0 a0) (o4 : OB No h0 h m bk4 cs4 202) (e4 : T_heap_Object.E m y4 cs4) (o6 : OB No h0 h m bk6 cs6 202) (e6 : T_heap_Object.E m y6 cs6) (ne125 : n125 = List.length a125) (o125 : OS No h0 1 (eInt .u64) h m A125 a125 c125) (d0_1 : Dj (fb bk4) (fb bk6)) (d0_2 : Dj (fb bk4) (fp A125 c125)) (d1_2 : Dj (fb bk6) (fp A125 c125)), f103.l1 (roadref3_ObjectAt.post No h0 m0 r) A0 n0 c0 x1 (⟨bk4, 0, none⟩ : Addr) (⟨bk6, 0, none⟩ : Addr) A125 n125 c125 x126 x127 h
set_option maxRecDepth 100000 in
theorem roadref3_ObjectAt.l1_k.step_l1 (go : (p : roadref3_ObjectAt.l1_k.Pt) → Option (T_heap_Object × Bool)) (ih : ∀ p r, go p = some r → roadref3_ObjectAt.l1_k.I p r) (a0 : List Int) (x1 : Int) (y4 : T_heap_Object) (y6 : T_heap_Object) (a125 : List Int) (x126 : Int) (x127 : Int) (r : T_heap_Object × Bool) (e : roadref3_ObjectAt.l1_k.body go (.l1 a0 x1 y4 y6 a125 x126 x127) = some r) : roadref3_ObjectAt.l1_k.I (.l1 a0 x1 y4 y6 a125 x126 x127) r := by
  unfold roadref3_ObjectAt.l1_k.body at e
  intro h0 m0 h m A0 n0 c0 bk4 cs4 bk6 cs6 A125 n125 c125 S ne0 k0 r0 o4 e4 o6 e6 ne125 o125 d0_1 d0_2 d1_2
  subst ne0
  obtain ⟨Ae4_4, ce4_4, rfl, ke4_4, re4_4⟩ := e4
  obtain ⟨Ae6_4, ce6_4, rfl, ke6_4, re6_4⟩ := e6
  subst ne125
  refine f103.l1_in ?_
  unfold f103.l1T
  refine split_dec_e e (fun c234 e => ?_) (fun c234 e => ?_)
  · obtain ⟨y205, g206, e⟩ := bind_e e
    refine o125.addr rfl g206 fun a207 cs208 ha209 hc210 he211 => ?_
    obtain rfl : cs208 = [(Value.int .u64 y205)] := he211
    refine ⟨_, ld0 (Sub.refl _) hc210 rfl, _, rfl, ?_⟩
    obtain ⟨y212, g213, e⟩ := bind_e e
    refine r0.addr rfl g213 fun a214 cs215 ha216 hc217 he218 => ?_
    obtain rfl : cs215 = [(Value.int .u64 y212)] := he218
    refine ⟨_, ld0 S.s hc217 rfl, _, rfl, ?_⟩
    refine split_ne_e e (fun c226 e => ?_) (fun c226 e => ?_)
    · obtain ⟨h219, w220, o221, t222⟩ := o4.stA S.s [(Value.int .i64 (0 : Int)), (Value.int .i64 (0 : Int)), (Value.int .i64 (0 : Int)), (Value.string (ByteArray.mk #[])), (Value.slice none 0 0)] rfl (Flats.cons trivial (Flats.cons trivial (Flats.cons trivial (Flats.cons trivial (Flats.cons trivial Flats.nil)))))
      refine ⟨[(Value.int .i64 (0 : Int)), (Value.int .i64 (0 : Int)), (Value.int .i64 (0 : Int)), (Value.string (ByteArray.mk #[])), (Value.slice none 0 0)], rfl, rfl, h219, w220, ?_⟩
      have o221 : OB _ _ h219 _ bk4 [(Value.int .i64 (0 : Int)), (Value.int .i64 (0 : Int)), (Value.int .i64 (0 : Int)), (Value.string (ByteArray.mk #[])), (Value.slice none 0 0)] 202 := o221
      have S223 := S.then t222 (fun i _ hi => o4.wr i hi)
      have o224 := o6.step t222 d0_1
      have o225 := o125.step (tell_int .u64) t222 d0_2
      refine ⟨_, ldA (Sub.refl _) o221.all, ?_⟩
      cases e
      exact ⟨_, _, S223, rfl, (show T_heap_Object.E _ (T_heap_Object.mk (0 : Int) (0 : Int) (0 : Int) (ByteArray.mk #[]) ([] : List Int)) [(Value.int .i64 (0 : Int)), (Value.int .i64 (0 : Int)), (Value.int .i64 (0 : Int)), (Value.string (ByteArray.mk #[])), (Value.slice none 0 0)] from ⟨_, _, rfl, (Nat.le_refl 0), Rd.nil⟩)⟩
    · exact (ih _ _ e) _ _ _ _ _ _ _ _ _ _ _ _ _ _ S rfl k0 r0 o4 (show T_heap_Object.E _ y4 [(Value.int .i64 y4.At), (Value.int .i64 y4.Kind), (Value.int .i64 y4.Num), (Value.string y4.Text), (Value.slice Ae4_4 (List.length y4.Parts) ce4_4)] from ⟨_, _, rfl, ke4_4, re4_4⟩) o6 (show T_heap_Object.E _ y6 [(Value.int .i64 y6.At), (Value.int .i64 y6.Kind), (Value.int .i64 y6.Num), (Value.string y6.Text), (Value.slice Ae6_4 (List.length y6.Parts) ce6_4)] from ⟨_, _, rfl, ke6_4, re6_4⟩) rfl o125 d0_1 d0_2 d1_2
  · refine ⟨_, ldA (Sub.refl _) o6.all, ?_⟩
    obtain ⟨h227, w228, o229, t230⟩ := o4.stA S.s [(Value.int .i64 y6.At), (Value.int .i64 y6.Kind), (Value.int .i64 y6.Num), (Value.string y6.Text), (Value.slice Ae6_4 (List.length y6.Parts) ce6_4)] rfl (Flats.cons trivial (Flats.cons trivial (Flats.cons trivial (Flats.cons trivial (Flats.cons trivial Flats.nil)))))
    refine ⟨[(Value.int .i64 y6.At), (Value.int .i64 y6.Kind), (Value.int .i64 y6.Num), (Value.string y6.Text), (Value.slice Ae6_4 (List.length y6.Parts) ce6_4)], rfl, rfl, h227, w228, ?_⟩
    have o229 : OB _ _ h227 _ bk4 [(Value.int .i64 y6.At), (Value.int .i64 y6.Kind), (Value.int .i64 y6.Num), (Value.string y6.Text), (Value.slice Ae6_4 (List.length y6.Parts) ce6_4)] 202 := o229
    have S231 := S.then t230 (fun i _ hi => o4.wr i hi)
    have o232 := o6.step t230 d0_1
    have o233 := o125.step (tell_int .u64) t230 d0_2
    refine ⟨_, ldA (Sub.refl _) o229.all, ?_⟩
    cases e
    exact ⟨_, _, S231, rfl, (show T_heap_Object.E _ y6 [(Value.int .i64 y6.At), (Value.int .i64 y6.Kind), (Value.int .i64 y6.Num), (Value.string y6.Text), (Value.slice Ae6_4 (List.length y6.Parts) ce6_4)] from ⟨_, _, rfl, ke6_4, re6_4⟩)⟩
theorem roadref3_ObjectAt.l1_k.all {p : roadref3_ObjectAt.l1_k.Pt} {r : (T_heap_Object × Bool)} (e : roadref3_ObjectAt.l1_k.go p = some r) : roadref3_ObjectAt.l1_k.I p r := fixF_ind (β := fun _ => (T_heap_Object × Bool)) roadref3_ObjectAt.l1_k.mono (I := roadref3_ObjectAt.l1_k.I) (fun go ih p r e => match p with
  | .l1 a0 x1 y4 y6 a125 x126 x127 => roadref3_ObjectAt.l1_k.step_l1 go ih a0 x1 y4 y6 a125 x126 x127 r e
  ) e
theorem roadref3_ObjectAt.l1.walk {h0 m0 h m : Heap} {A0 : Option Addr} {n0 c0 : Nat} {bk4 : Nat} {cs4 : List Value} {bk6 : Nat} {cs6 : List Value} {A125 : Option Addr} {n125 c125 : Nat} {a0 : List Int} {x1 : Int} {y4 : T_heap_Object} {y6 : T_heap_Object} {a125 : List Int} {x126 : Int} {x127 : Int} (S : St No h0 m0 h m) (ne0 : n0 = List.length a0) (k0 : List.length a0 ≤ c0) (r0 : Rd 1 (eInt .u64) m A0 a0) (o4 : OB No h0 h m bk4 cs4 202) (e4 : T_heap_Object.E m y4 cs4) (o6 : OB No h0 h m bk6 cs6 202) (e6 : T_heap_Object.E m y6 cs6) (ne125 : n125 = List.length a125) (o125 : OS No h0 1 (eInt .u64) h m A125 a125 c125) (d0_1 : Dj (fb bk4) (fb bk6)) (d0_2 : Dj (fb bk4) (fp A125 c125)) (d1_2 : Dj (fb bk6) (fp A125 c125)) {r : T_heap_Object × Bool} (e : roadref3_ObjectAt.l1 a0 x1 y4 y6 a125 x126 x127 = some r) : f103.l1 (roadref3_ObjectAt.post No h0 m0 r) A0 n0 c0 x1 (⟨bk4, 0, none⟩ : Addr) (⟨bk6, 0, none⟩ : Addr) A125 n125 c125 x126 x127 h := roadref3_ObjectAt.l1_k.all (p := .l1 a0 x1 y4 y6 a125 x126 x127) e h0 m0 h m A0 n0 c0 bk4 cs4 bk6 cs6 A125 n125 c125 S ne0 k0 r0 o4 e4 o6 e6 ne125 o125 d0_1 d0_2 d1_2

inductive roadref3_ObjectAt.l0_k.Pt where
  | l0 (a0 : List Int) (x1 : Int) (y4 : T_heap_Object) (x6_0 : Int) (x6_1 : Int) (x6_2 : Int) (s6_3 : ByteArray) (a6_4 : List Int) (x8 : Int) (a9 : List Int) (x10 : Int) (x84 : Int) (x85 : Int)
  | l2 (a0 : List Int) (x1 : Int) (y4 : T_heap_Object) (x6_0 : Int) (x6_1 : Int) (x6_2 : Int) (s6_3 : ByteArray) (a6_4 : List Int) (x8 : Int) (a9 : List Int) (x10 : Int) (x12 : Int) (x84 : Int) (x85 : Int) (x94 : Int) (x95 : Int)
noncomputable def roadref3_ObjectAt.l0_k.body (go : (p : roadref3_ObjectAt.l0_k.Pt) → Option (T_heap_Object × Bool)) : (p : roadref3_ObjectAt.l0_k.Pt) → Option (T_heap_Object × Bool)
  | .l0 a0 x1 y4 x6_0 x6_1 x6_2 s6_3 a6_4 x8 a9 x10 x84 x85 => if x85 < x84 then (Option.bind (gi a9 (IntKind.wrap .i64 (Int.tdiv x85 (8 : Int)))) fun y107 => (go (.l2 a0 x1 y4 x6_0 x6_1 x6_2 s6_3 a6_4 x8 a9 x10 y107 x84 x85 (Int.tmod x85 (8 : Int)) (0 : Int)))) else (Option.bind (sls a9 x10 (IntKind.wrap .i64 (x10 + x8))) fun l114 => Option.bind (ap 8 a6_4 l114) fun l119 => Option.bind (roadref3_ObjectIs (T_heap_Object.mk x6_0 x6_1 x6_2 s6_3 l119)) fun y150 => if y150 = true then (Option.bind (roadref3_ObjectWords (T_heap_Object.mk x6_0 x6_1 x6_2 s6_3 l119)) fun y158 => (roadref3_ObjectAt.l1 a0 x1 y4 (T_heap_Object.mk x6_0 x6_1 x6_2 s6_3 l119) y158 (((List.length y158) : Nat) : Int) (0 : Int))) else (some ((T_heap_Object.mk (0 : Int) (0 : Int) (0 : Int) (ByteArray.mk #[]) ([] : List Int)), false)))
  | .l2 a0 x1 y4 x6_0 x6_1 x6_2 s6_3 a6_4 x8 a9 x10 x12 x84 x85 x94 x95 => if x95 < x94 then ((go (.l2 a0 x1 y4 x6_0 x6_1 x6_2 s6_3 a6_4 x8 a9 x10 (IntKind.wrap .u64 (Int.tdiv x12 (256 : Int))) x84 x85 x94 (IntKind.wrap .i64 (x95 + (1 : Int)))))) else (if ByteArray.size s6_3 + ByteArray.size (bytesOf ([(IntKind.wrap .u8 (Int.tmod x12 (256 : Int)))] : List Int)) ≤ 9223372036854775807 then ((go (.l0 a0 x1 y4 x6_0 x6_1 x6_2 (s6_3 ++ (bytesOf ([(IntKind.wrap .u8 (Int.tmod x12 (256 : Int)))] : List Int))) a6_4 x8 a9 x10 x84 (IntKind.wrap .i64 (x85 + (1 : Int)))))) else none)
theorem roadref3_ObjectAt.l0_k.mono : MonoF (β := fun _ => (T_heap_Object × Bool)) roadref3_ObjectAt.l0_k.body := fun f g hfg p => match p with
  | .l0 a0 x1 y4 x6_0 x6_1 x6_2 s6_3 a6_4 x8 a9 x10 x84 x85 => LeO.ite (LeO.bind (LeO.refl _) fun y107 => (hfg _)) (LeO.bind (LeO.refl _) fun l114 => LeO.bind (LeO.refl _) fun l119 => LeO.bind (LeO.refl _) fun y150 => LeO.ite (LeO.bind (LeO.refl _) fun y158 => (LeO.refl _)) (LeO.refl _))
  | .l2 a0 x1 y4 x6_0 x6_1 x6_2 s6_3 a6_4 x8 a9 x10 x12 x84 x85 x94 x95 => LeO.ite ((hfg _)) (LeO.ite ((hfg _)) (LeO.refl _))
noncomputable def roadref3_ObjectAt.l0_k.go (p : roadref3_ObjectAt.l0_k.Pt) : Option (T_heap_Object × Bool) := fixF (β := fun _ => (T_heap_Object × Bool)) roadref3_ObjectAt.l0_k.body p
noncomputable def roadref3_ObjectAt.l0 (a0 : List Int) (x1 : Int) (y4 : T_heap_Object) (x6_0 : Int) (x6_1 : Int) (x6_2 : Int) (s6_3 : ByteArray) (a6_4 : List Int) (x8 : Int) (a9 : List Int) (x10 : Int) (x84 : Int) (x85 : Int) : Option (T_heap_Object × Bool) := roadref3_ObjectAt.l0_k.go (.l0 a0 x1 y4 x6_0 x6_1 x6_2 s6_3 a6_4 x8 a9 x10 x84 x85)
noncomputable def roadref3_ObjectAt.l2 (a0 : List Int) (x1 : Int) (y4 : T_heap_Object) (x6_0 : Int) (x6_1 : Int) (x6_2 : Int) (s6_3 : ByteArray) (a6_4 : List Int) (x8 : Int) (a9 : List Int) (x10 : Int) (x12 : Int) (x84 : Int) (x85 : Int) (x94 : Int) (x95 : Int) : Option (T_heap_Object × Bool) := roadref3_ObjectAt.l0_k.go (.l2 a0 x1 y4 x6_0 x6_1 x6_2 s6_3 a6_4 x8 a9 x10 x12 x84 x85 x94 x95)
theorem roadref3_ObjectAt.l0_eq (a0 : List Int) (x1 : Int) (y4 : T_heap_Object) (x6_0 : Int) (x6_1 : Int) (x6_2 : Int) (s6_3 : ByteArray) (a6_4 : List Int) (x8 : Int) (a9 : List Int) (x10 : Int) (x84 : Int) (x85 : Int) : roadref3_ObjectAt.l0 a0 x1 y4 x6_0 x6_1 x6_2 s6_3 a6_4 x8 a9 x10 x84 x85 = if x85 < x84 then (Option.bind (gi a9 (IntKind.wrap .i64 (Int.tdiv x85 (8 : Int)))) fun y107 => (roadref3_ObjectAt.l2 a0 x1 y4 x6_0 x6_1 x6_2 s6_3 a6_4 x8 a9 x10 y107 x84 x85 (Int.tmod x85 (8 : Int)) (0 : Int))) else (Option.bind (sls a9 x10 (IntKind.wrap .i64 (x10 + x8))) fun l114 => Option.bind (ap 8 a6_4 l114) fun l119 => Option.bind (roadref3_ObjectIs (T_heap_Object.mk x6_0 x6_1 x6_2 s6_3 l119)) fun y150 => if y150 = true then (Option.bind (roadref3_ObjectWords (T_heap_Object.mk x6_0 x6_1 x6_2 s6_3 l119)) fun y158 => (roadref3_ObjectAt.l1 a0 x1 y4 (T_heap_Object.mk x6_0 x6_1 x6_2 s6_3 l119) y158 (((List.length y158) : Nat) : Int) (0 : Int))) else (some ((T_heap_Object.mk (0 : Int) (0 : Int) (0 : Int) (ByteArray.mk #[]) ([] : List Int)), false))) := fixF_eq roadref3_ObjectAt.l0_k.mono _
theorem roadref3_ObjectAt.l2_eq (a0 : List Int) (x1 : Int) (y4 : T_heap_Object) (x6_0 : Int) (x6_1 : Int) (x6_2 : Int) (s6_3 : ByteArray) (a6_4 : List Int) (x8 : Int) (a9 : List Int) (x10 : Int) (x12 : Int) (x84 : Int) (x85 : Int) (x94 : Int) (x95 : Int) : roadref3_ObjectAt.l2 a0 x1 y4 x6_0 x6_1 x6_2 s6_3 a6_4 x8 a9 x10 x12 x84 x85 x94 x95 = if x95 < x94 then ((roadref3_ObjectAt.l2 a0 x1 y4 x6_0 x6_1 x6_2 s6_3 a6_4 x8 a9 x10 (IntKind.wrap .u64 (Int.tdiv x12 (256 : Int))) x84 x85 x94 (IntKind.wrap .i64 (x95 + (1 : Int))))) else (if ByteArray.size s6_3 + ByteArray.size (bytesOf ([(IntKind.wrap .u8 (Int.tmod x12 (256 : Int)))] : List Int)) ≤ 9223372036854775807 then ((roadref3_ObjectAt.l0 a0 x1 y4 x6_0 x6_1 x6_2 (s6_3 ++ (bytesOf ([(IntKind.wrap .u8 (Int.tmod x12 (256 : Int)))] : List Int))) a6_4 x8 a9 x10 x84 (IntKind.wrap .i64 (x85 + (1 : Int))))) else none) := fixF_eq roadref3_ObjectAt.l0_k.mono _
def roadref3_ObjectAt.l0_k.I : (p : roadref3_ObjectAt.l0_k.Pt) → (T_heap_Object × Bool) → Prop
  | .l0 a0 x1 y4 x6_0 x6_1 x6_2 s6_3 a6_4 x8 a9 x10 x84 x85, r => ∀ (h0 m0 h m : Heap) (A0 : Option Addr) (n0 c0 : Nat) (bk4 : Nat) (cs4 : List Value) (bk6 : Nat) (A6_4 : Option Addr) (n6_4 c6_4 : Nat) (A9 : Option Addr) (n9 c9 : Nat) (S : St No h0 m0 h m) (ne0 : n0 = List.length a0) (k0 : List.length a0 ≤ c0) (r0 : Rd 1 (eInt .u64) m A0 a0) (o4 : OB No h0 h m bk4 cs4 202) (e4 : T_heap_Object.E m y4 cs4) (o6 : OB No h0 h m bk6 [(Value.int .i64 x6_0), (Value.int .i64 x6_1), (Value.int .i64 x6_2), (Value.string s6_3), (Value.slice A6_4 n6_4 c6_4)] 202) (ne6_4 : n6_4 = List.length a6_4) (o6_4 : OS No h0 1 (eInt .u64) h m A6_4 a6_4 c6_4) (ne9 : n9 = List.length a9) (k9 : List.length a9 ≤ c9) (r9 : Rd 1 (eInt .u64) m A9 a9) (d0_1 : Dj (fb bk4) (fb bk6)) (d0_2 : Dj (fb bk4) (fp A6_4 c6_4)) (d1_2 : Dj (fb bk6) (fp A6_4 c6_4)), f103.l0 (roadref3_ObjectAt.post No h0 m0 r) A0 n0 c0 x1 (⟨bk4, 0, none⟩ : Addr) (⟨bk6, 0, none⟩ : Addr) x8 A9 n9 c9 x10 x84 x85 h
  | .l2 a0 x1 y4 x6_0 x6_1 x6_2 s6_3 a6_4 x8 a9 x10 x12 x84 x85 x94 x95, r => ∀ (h0 m0 h m : Heap) (A0 : Option Addr) (n0 c0 : Nat) (bk4 : Nat) (cs4 : List Value) (bk6 : Nat) (A6_4 : Option Addr) (n6_4 c6_4 : Nat) (A9 : Option Addr) (n9 c9 : Nat) (S : St No h0 m0 h m) (ne0 : n0 = List.length a0) (k0 : List.length a0 ≤ c0) (r0 : Rd 1 (eInt .u64) m A0 a0) (o4 : OB No h0 h m bk4 cs4 202) (e4 : T_heap_Object.E m y4 cs4) (o6 : OB No h0 h m bk6 [(Value.int .i64 x6_0), (Value.int .i64 x6_1), (Value.int .i64 x6_2), (Value.string s6_3), (Value.slice A6_4 n6_4 c6_4)] 202) (ne6_4 : n6_4 = List.length a6_4) (o6_4 : OS No h0 1 (eInt .u64) h m A6_4 a6_4 c6_4) (ne9 : n9 = List.length a9) (k9 : List.length a9 ≤ c9) (r9 : Rd 1 (eInt .u64) m A9 a9) (d0_1 : Dj (fb bk4) (fb bk6)) (d0_2 : Dj (fb bk4) (fp A6_4 c6_4)) (d1_2 : Dj (fb bk6) (fp A6_4 c6_4)), f103.l2 (roadref3_ObjectAt.post No h0 m0 r) A0 n0 c0 x1 (⟨bk4, 0, none⟩ : Addr) (⟨bk6, 0, none⟩ : Addr) x8 A9 n9 c9 x10 x12 x84 x85 x94 x95 h
set_option maxRecDepth 100000 in
theorem roadref3_ObjectAt.l0_k.step_l0 (go : (p : roadref3_ObjectAt.l0_k.Pt) → Option (T_heap_Object × Bool)) (ih : ∀ p r, go p = some r → roadref3_ObjectAt.l0_k.I p r) (a0 : List Int) (x1 : Int) (y4 : T_heap_Object) (x6_0 : Int) (x6_1 : Int) (x6_2 : Int) (s6_3 : ByteArray) (a6_4 : List Int) (x8 : Int) (a9 : List Int) (x10 : Int) (x84 : Int) (x85 : Int) (r : T_heap_Object × Bool) (e : roadref3_ObjectAt.l0_k.body go (.l0 a0 x1 y4 x6_0 x6_1 x6_2 s6_3 a6_4 x8 a9 x10 x84 x85) = some r) : roadref3_ObjectAt.l0_k.I (.l0 a0 x1 y4 x6_0 x6_1 x6_2 s6_3 a6_4 x8 a9 x10 x84 x85) r := by
  unfold roadref3_ObjectAt.l0_k.body at e
  intro h0 m0 h m A0 n0 c0 bk4 cs4 bk6 A6_4 n6_4 c6_4 A9 n9 c9 S ne0 k0 r0 o4 e4 o6 ne6_4 o6_4 ne9 k9 r9 d0_1 d0_2 d1_2
  subst ne0
  obtain ⟨Ae4_4, ce4_4, rfl, ke4_4, re4_4⟩ := e4
  subst ne6_4
  subst ne9
  refine f103.l0_in ?_
  unfold f103.l0T
  refine split_dec_e e (fun c182 e => ?_) (fun c182 e => ?_)
  · refine ⟨by decide, ?_⟩
    obtain ⟨y107, g108, e⟩ := bind_e e
    refine r9.addr rfl g108 fun a109 cs110 ha111 hc112 he113 => ?_
    obtain rfl : cs110 = [(Value.int .u64 y107)] := he113
    refine ⟨_, ld0 S.s hc112 rfl, _, rfl, ?_⟩
    refine ⟨by decide, ?_⟩
    exact (ih _ _ e) _ _ _ _ _ _ _ _ _ _ _ _ _ _ _ _ S rfl k0 r0 o4 (show T_heap_Object.E _ y4 [(Value.int .i64 y4.At), (Value.int .i64 y4.Kind), (Value.int .i64 y4.Num), (Value.string y4.Text), (Value.slice Ae4_4 (List.length y4.Parts) ce4_4)] from ⟨_, _, rfl, ke4_4, re4_4⟩) o6 rfl o6_4 rfl k9 r9 d0_1 d0_2 d1_2
  · obtain ⟨l114, g115, e⟩ := bind_e e
    have q116 := sls_e g115
    refine ⟨q116.1, q116.2.1, cap_in q116.2.2.1 k9, ?_⟩
    try rw [q116.2.2.2.1]
    have k117 : List.length l114 ≤ (c9 - Int.toNat x10) := sls_cap g115 k9
    have r118 := r9.sls g115 (le_mx q116.2.2.1 k9)
    refine ⟨_, ldk (k := 4) (Sub.refl _) o6.all rfl, _, _, _, rfl, ?_⟩
    obtain ⟨l119, g120, e⟩ := bind_e e
    refine o6_4.app (tell_int .u64) S rfl rfl (Rd.srcE r118 (tell_int .u64) S.s rfl) (by decide) g120 fun A121 c122 h123 o124 t125 n126 => ?_
    refine ⟨_, _, _, rfl, ?_⟩
    have d128 : Dj (fb bk4) (fp A121 c122) := Dj.app d0_2 o4.lt n126
    have d129 : Dj (fb bk6) (fp A121 c122) := Dj.app d1_2 o6.lt n126
    have S130 := S.then t125 (fun i _ hi => o6_4.wr i hi)
    have o131 := o4.step t125 (d0_2).symm
    have o132 := o6.step t125 (d1_2).symm
    obtain ⟨h133, w134, o135, t136⟩ := o132.st (k := 4) S130.s (v := (Value.slice A121 (List.length l119) c122)) (Nat.le_of_ble_eq_true rfl) trivial
    refine ⟨h133, w134, ?_⟩
    have o135 : OB _ _ h133 _ bk6 [(Value.int .i64 x6_0), (Value.int .i64 x6_1), (Value.int .i64 x6_2), (Value.string s6_3), (Value.slice A121 (List.length l119) c122)] 202 := o135
    have S137 := S130.then t136 (fun i _ hi => o132.wr i hi)
    have o138 := o131.step t136 (d0_1).symm
    have o139 := o124.step (tell_int .u64) t136 d129
    refine ⟨_, ldA (Sub.refl _) o135.all, ?_⟩
    obtain ⟨y150, g151, e⟩ := bind_e e
    obtain ⟨m144, L143, u140, s141, t142⟩ := St.lend S137.s (fp A121 c122)
    have r145 : Rd 1 (eInt .u64) m144 A121 l119 := o139.lent (tell_int .u64) S137.s L143 (fun _ h => h)
    have k146 := o139.cap
    have S147 := S137.then t142 (fun i _ hi => o139.wr i hi)
    have o148 := o138.step t142 (d128).symm
    have o149 := o135.step t142 (d129).symm
    refine (roadref3_ObjectIs.walk S147.s (show T_heap_Object.E _ (T_heap_Object.mk x6_0 x6_1 x6_2 s6_3 l119) [(Value.int .i64 x6_0), (Value.int .i64 x6_1), (Value.int .i64 x6_2), (Value.string s6_3), (Value.slice A121 (List.length l119) c122)] from ⟨_, _, rfl, k146, r145⟩) g151).mono ?_
    rintro _ h152 ⟨m153, T154, rfl⟩
    have S155 := S147.grow T154
    have o156 := o148.step T154 Dj.no
    have o157 := o149.step T154 Dj.no
    refine ⟨_, rfl, ?_⟩
    refine split_not ?_
    refine split_any_e e (fun c181 e => ?_) (fun c181 e => ?_)
    · refine ⟨_, ldA (Sub.refl _) o157.all, ?_⟩
      obtain ⟨y158, g159, e⟩ := bind_e e
      refine (roadref3_ObjectWords.walk S155.s (show T_heap_Object.E _ (T_heap_Object.mk x6_0 x6_1 x6_2 s6_3 l119) [(Value.int .i64 x6_0), (Value.int .i64 x6_1), (Value.int .i64 x6_2), (Value.string s6_3), (Value.slice A121 (List.length l119) c122)] from ⟨_, _, rfl, k146, (r145.sub (tell_int .u64) T154.up)⟩) g159).mono ?_
      rintro _ h160 ⟨m161, A163, n164, c165, T162, rfl, ne166, o167⟩
      subst ne166
      have S169 := S155.grow T162
      have o170 := o156.step T162 Dj.no
      have o171 := o157.step T162 Dj.no
      have d173 : Dj (fb bk4) (fp A163 c165) := fun i h1 h2 => absurd (o156.lt i h1) (Nat.not_lt.2 ((o167.new i h2).elim (fun h => h.elim) id))
      have d174 : Dj (fb bk6) (fp A163 c165) := fun i h1 h2 => absurd (o157.lt i h1) (Nat.not_lt.2 ((o167.new i h2).elim (fun h => h.elim) id))
      have o172 := o167.take S155 (fun _ h => h.elim)
      refine ⟨_, _, _, rfl, ?_⟩
      exact roadref3_ObjectAt.l1.walk S169 rfl k0 (r0.sub (tell_int .u64) (t142.up.trans (T154.up.trans T162.up))) o170 (show T_heap_Object.E _ y4 [(Value.int .i64 y4.At), (Value.int .i64 y4.Kind), (Value.int .i64 y4.Num), (Value.string y4.Text), (Value.slice Ae4_4 (List.length y4.Parts) ce4_4)] from ⟨_, _, rfl, ke4_4, (re4_4.sub (tell_int .u64) (t142.up.trans (T154.up.trans T162.up)))⟩) o171 (show T_heap_Object.E _ (T_heap_Object.mk x6_0 x6_1 x6_2 s6_3 l119) [(Value.int .i64 x6_0), (Value.int .i64 x6_1), (Value.int .i64 x6_2), (Value.string s6_3), (Value.slice A121 (List.length l119) c122)] from ⟨_, _, rfl, k146, (r145.sub (tell_int .u64) (T154.up.trans T162.up))⟩) rfl o172 d0_1 d173 d174 e
    · obtain ⟨h175, w176, o177, t178⟩ := o156.stA S155.s [(Value.int .i64 (0 : Int)), (Value.int .i64 (0 : Int)), (Value.int .i64 (0 : Int)), (Value.string (ByteArray.mk #[])), (Value.slice none 0 0)] rfl (Flats.cons trivial (Flats.cons trivial (Flats.cons trivial (Flats.cons trivial (Flats.cons trivial Flats.nil)))))
      refine ⟨[(Value.int .i64 (0 : Int)), (Value.int .i64 (0 : Int)), (Value.int .i64 (0 : Int)), (Value.string (ByteArray.mk #[])), (Value.slice none 0 0)], rfl, rfl, h175, w176, ?_⟩
      have o177 : OB _ _ h175 _ bk4 [(Value.int .i64 (0 : Int)), (Value.int .i64 (0 : Int)), (Value.int .i64 (0 : Int)), (Value.string (ByteArray.mk #[])), (Value.slice none 0 0)] 202 := o177
      have S179 := S155.then t178 (fun i _ hi => o156.wr i hi)
      have o180 := o157.step t178 d0_1
      refine ⟨_, ldA (Sub.refl _) o177.all, ?_⟩
      cases e
      exact ⟨_, _, S179, rfl, (show T_heap_Object.E _ (T_heap_Object.mk (0 : Int) (0 : Int) (0 : Int) (ByteArray.mk #[]) ([] : List Int)) [(Value.int .i64 (0 : Int)), (Value.int .i64 (0 : Int)), (Value.int .i64 (0 : Int)), (Value.string (ByteArray.mk #[])), (Value.slice none 0 0)] from ⟨_, _, rfl, (Nat.le_refl 0), Rd.nil⟩)⟩
set_option maxRecDepth 100000 in
theorem roadref3_ObjectAt.l0_k.step_l2 (go : (p : roadref3_ObjectAt.l0_k.Pt) → Option (T_heap_Object × Bool)) (ih : ∀ p r, go p = some r → roadref3_ObjectAt.l0_k.I p r) (a0 : List Int) (x1 : Int) (y4 : T_heap_Object) (x6_0 : Int) (x6_1 : Int) (x6_2 : Int) (s6_3 : ByteArray) (a6_4 : List Int) (x8 : Int) (a9 : List Int) (x10 : Int) (x12 : Int) (x84 : Int) (x85 : Int) (x94 : Int) (x95 : Int) (r : T_heap_Object × Bool) (e : roadref3_ObjectAt.l0_k.body go (.l2 a0 x1 y4 x6_0 x6_1 x6_2 s6_3 a6_4 x8 a9 x10 x12 x84 x85 x94 x95) = some r) : roadref3_ObjectAt.l0_k.I (.l2 a0 x1 y4 x6_0 x6_1 x6_2 s6_3 a6_4 x8 a9 x10 x12 x84 x85 x94 x95) r := by
  unfold roadref3_ObjectAt.l0_k.body at e
  intro h0 m0 h m A0 n0 c0 bk4 cs4 bk6 A6_4 n6_4 c6_4 A9 n9 c9 S ne0 k0 r0 o4 e4 o6 ne6_4 o6_4 ne9 k9 r9 d0_1 d0_2 d1_2
  subst ne0
  obtain ⟨Ae4_4, ce4_4, rfl, ke4_4, re4_4⟩ := e4
  subst ne6_4
  subst ne9
  refine f103.l2_in ?_
  unfold f103.l2T
  refine split_dec_e e (fun c204 e => ?_) (fun c204 e => ?_)
  · refine ⟨by decide, ?_⟩
    exact (ih _ _ e) _ _ _ _ _ _ _ _ _ _ _ _ _ _ _ _ S rfl k0 r0 o4 (show T_heap_Object.E _ y4 [(Value.int .i64 y4.At), (Value.int .i64 y4.Kind), (Value.int .i64 y4.Num), (Value.string y4.Text), (Value.slice Ae4_4 (List.length y4.Parts) ce4_4)] from ⟨_, _, rfl, ke4_4, re4_4⟩) o6 rfl o6_4 rfl k9 r9 d0_1 d0_2 d1_2
  · refine ⟨_, ldk (k := 3) (Sub.refl _) o6.all rfl, _, rfl, ?_⟩
    refine ⟨by decide, ?_⟩
    refine new_in S fun h183 o184 x185 => ?_
    have d188 : Dj (fb bk4) (fb (Array.size h)) := Dj.new o4.lt
    have d189 : Dj (fp A6_4 c6_4) (fb (Array.size h)) := Dj.new o6_4.lt
    have d190 : Dj (fb bk6) (fb (Array.size h)) := Dj.new o6.lt
    have o191 := o4.ext x185
    have o192 := o6_4.ext (tell_int .u64) S.s x185
    have o193 := o6.ext x185
    have S186 := S.ext' x185
    have o184 : OB _ _ h183 _ (Array.size h) [(Value.int .u8 (IntKind.wrap .u8 (Int.tmod x12 (256 : Int))))] 5 := o184
    have o194 : OS _ _ 1 (eInt .u8) h183 m (some ⟨(Array.size h), 0, none⟩) ([(IntKind.wrap .u8 (Int.tmod x12 (256 : Int)))] : List Int) 1 := OB.row o184 (CsE.cons (c1 := [(Value.int .u8 (IntKind.wrap .u8 (Int.tmod x12 (256 : Int))))]) rfl rfl CsE.nil) rfl
    refine gen_b2s' (e := 5) (by kernel_rfl) (by kernel_rfl) (by kernel_rfl) (o194.rd (tell_int .u8) S186.s) rfl ?_
    refine ⟨_, rfl, ?_⟩
    obtain ⟨g195, e⟩ := guard_e e
    refine ⟨g195, ?_⟩
    obtain ⟨h196, w197, o198, t199⟩ := o193.st (k := 3) S186.s (v := (Value.string (s6_3 ++ (bytesOf ([(IntKind.wrap .u8 (Int.tmod x12 (256 : Int)))] : List Int))))) (Nat.le_of_ble_eq_true rfl) trivial
    refine ⟨h196, w197, ?_⟩
    have o198 : OB _ _ h196 _ bk6 [(Value.int .i64 x6_0), (Value.int .i64 x6_1), (Value.int .i64 x6_2), (Value.string (s6_3 ++ (bytesOf ([(IntKind.wrap .u8 (Int.tmod x12 (256 : Int)))] : List Int)))), (Value.slice A6_4 (List.length a6_4) c6_4)] 202 := o198
    have S200 := S186.then t199 (fun i _ hi => o193.wr i hi)
    have o201 := o191.step t199 (d0_1).symm
    have o202 := o192.step (tell_int .u64) t199 d1_2
    have o203 := o194.step (tell_int .u8) t199 (d190.row)
    exact (ih _ _ e) _ _ _ _ _ _ _ _ _ _ _ _ _ _ _ _ S200 rfl k0 r0 o201 (show T_heap_Object.E _ y4 [(Value.int .i64 y4.At), (Value.int .i64 y4.Kind), (Value.int .i64 y4.Num), (Value.string y4.Text), (Value.slice Ae4_4 (List.length y4.Parts) ce4_4)] from ⟨_, _, rfl, ke4_4, re4_4⟩) o198 rfl o202 rfl k9 r9 d0_1 d0_2 d1_2
theorem roadref3_ObjectAt.l0_k.all {p : roadref3_ObjectAt.l0_k.Pt} {r : (T_heap_Object × Bool)} (e : roadref3_ObjectAt.l0_k.go p = some r) : roadref3_ObjectAt.l0_k.I p r := fixF_ind (β := fun _ => (T_heap_Object × Bool)) roadref3_ObjectAt.l0_k.mono (I := roadref3_ObjectAt.l0_k.I) (fun go ih p r e => match p with
  | .l0 a0 x1 y4 x6_0 x6_1 x6_2 s6_3 a6_4 x8 a9 x10 x84 x85 => roadref3_ObjectAt.l0_k.step_l0 go ih a0 x1 y4 x6_0 x6_1 x6_2 s6_3 a6_4 x8 a9 x10 x84 x85 r e
  | .l2 a0 x1 y4 x6_0 x6_1 x6_2 s6_3 a6_4 x8 a9 x10 x12 x84 x85 x94 x95 => roadref3_ObjectAt.l0_k.step_l2 go ih a0 x1 y4 x6_0 x6_1 x6_2 s6_3 a6_4 x8 a9 x10 x12 x84 x85 x94 x95 r e
  ) e
theorem roadref3_ObjectAt.l0.walk {h0 m0 h m : Heap} {A0 : Option Addr} {n0 c0 : Nat} {bk4 : Nat} {cs4 : List Value} {bk6 : Nat} {A6_4 : Option Addr} {n6_4 c6_4 : Nat} {A9 : Option Addr} {n9 c9 : Nat} {a0 : List Int} {x1 : Int} {y4 : T_heap_Object} {x6_0 : Int} {x6_1 : Int} {x6_2 : Int} {s6_3 : ByteArray} {a6_4 : List Int} {x8 : Int} {a9 : List Int} {x10 : Int} {x84 : Int} {x85 : Int} (S : St No h0 m0 h m) (ne0 : n0 = List.length a0) (k0 : List.length a0 ≤ c0) (r0 : Rd 1 (eInt .u64) m A0 a0) (o4 : OB No h0 h m bk4 cs4 202) (e4 : T_heap_Object.E m y4 cs4) (o6 : OB No h0 h m bk6 [(Value.int .i64 x6_0), (Value.int .i64 x6_1), (Value.int .i64 x6_2), (Value.string s6_3), (Value.slice A6_4 n6_4 c6_4)] 202) (ne6_4 : n6_4 = List.length a6_4) (o6_4 : OS No h0 1 (eInt .u64) h m A6_4 a6_4 c6_4) (ne9 : n9 = List.length a9) (k9 : List.length a9 ≤ c9) (r9 : Rd 1 (eInt .u64) m A9 a9) (d0_1 : Dj (fb bk4) (fb bk6)) (d0_2 : Dj (fb bk4) (fp A6_4 c6_4)) (d1_2 : Dj (fb bk6) (fp A6_4 c6_4)) {r : T_heap_Object × Bool} (e : roadref3_ObjectAt.l0 a0 x1 y4 x6_0 x6_1 x6_2 s6_3 a6_4 x8 a9 x10 x84 x85 = some r) : f103.l0 (roadref3_ObjectAt.post No h0 m0 r) A0 n0 c0 x1 (⟨bk4, 0, none⟩ : Addr) (⟨bk6, 0, none⟩ : Addr) x8 A9 n9 c9 x10 x84 x85 h := roadref3_ObjectAt.l0_k.all (p := .l0 a0 x1 y4 x6_0 x6_1 x6_2 s6_3 a6_4 x8 a9 x10 x84 x85) e h0 m0 h m A0 n0 c0 bk4 cs4 bk6 A6_4 n6_4 c6_4 A9 n9 c9 S ne0 k0 r0 o4 e4 o6 ne6_4 o6_4 ne9 k9 r9 d0_1 d0_2 d1_2
theorem roadref3_ObjectAt.l2.walk {h0 m0 h m : Heap} {A0 : Option Addr} {n0 c0 : Nat} {bk4 : Nat} {cs4 : List Value} {bk6 : Nat} {A6_4 : Option Addr} {n6_4 c6_4 : Nat} {A9 : Option Addr} {n9 c9 : Nat} {a0 : List Int} {x1 : Int} {y4 : T_heap_Object} {x6_0 : Int} {x6_1 : Int} {x6_2 : Int} {s6_3 : ByteArray} {a6_4 : List Int} {x8 : Int} {a9 : List Int} {x10 : Int} {x12 : Int} {x84 : Int} {x85 : Int} {x94 : Int} {x95 : Int} (S : St No h0 m0 h m) (ne0 : n0 = List.length a0) (k0 : List.length a0 ≤ c0) (r0 : Rd 1 (eInt .u64) m A0 a0) (o4 : OB No h0 h m bk4 cs4 202) (e4 : T_heap_Object.E m y4 cs4) (o6 : OB No h0 h m bk6 [(Value.int .i64 x6_0), (Value.int .i64 x6_1), (Value.int .i64 x6_2), (Value.string s6_3), (Value.slice A6_4 n6_4 c6_4)] 202) (ne6_4 : n6_4 = List.length a6_4) (o6_4 : OS No h0 1 (eInt .u64) h m A6_4 a6_4 c6_4) (ne9 : n9 = List.length a9) (k9 : List.length a9 ≤ c9) (r9 : Rd 1 (eInt .u64) m A9 a9) (d0_1 : Dj (fb bk4) (fb bk6)) (d0_2 : Dj (fb bk4) (fp A6_4 c6_4)) (d1_2 : Dj (fb bk6) (fp A6_4 c6_4)) {r : T_heap_Object × Bool} (e : roadref3_ObjectAt.l2 a0 x1 y4 x6_0 x6_1 x6_2 s6_3 a6_4 x8 a9 x10 x12 x84 x85 x94 x95 = some r) : f103.l2 (roadref3_ObjectAt.post No h0 m0 r) A0 n0 c0 x1 (⟨bk4, 0, none⟩ : Addr) (⟨bk6, 0, none⟩ : Addr) x8 A9 n9 c9 x10 x12 x84 x85 x94 x95 h := roadref3_ObjectAt.l0_k.all (p := .l2 a0 x1 y4 x6_0 x6_1 x6_2 s6_3 a6_4 x8 a9 x10 x12 x84 x85 x94 x95) e h0 m0 h m A0 n0 c0 bk4 cs4 bk6 A6_4 n6_4 c6_4 A9 n9 c9 S ne0 k0 r0 o4 e4 o6 ne6_4 o6_4 ne9 k9 r9 d0_1 d0_2 d1_2

noncomputable def roadref3_ObjectAt.j2 (a0 : List Int) (x1 : Int) (y4 : T_heap_Object) (x6_0 : Int) (x6_1 : Int) (x6_2 : Int) (s6_3 : ByteArray) (a6_4 : List Int) (x7 : Int) (x8 : Int) (a9 : List Int) : Option (T_heap_Object × Bool) :=
  if (((List.length a9) : Nat) : Int) < (IntKind.wrap .i64 ((IntKind.wrap .i64 (Int.tdiv (IntKind.wrap .i64 (x7 + (7 : Int))) (8 : Int))) + x8)) then (some ((T_heap_Object.mk (0 : Int) (0 : Int) (0 : Int) (ByteArray.mk #[]) ([] : List Int)), false)) else ((roadref3_ObjectAt.l0 a0 x1 y4 x6_0 x6_1 x6_2 s6_3 a6_4 x8 a9 (IntKind.wrap .i64 (Int.tdiv (IntKind.wrap .i64 (x7 + (7 : Int))) (8 : Int))) x7 (0 : Int)))
set_option maxRecDepth 100000 in
theorem roadref3_ObjectAt.j2.walk {h0 m0 h m : Heap} {A0 : Option Addr} {n0 c0 : Nat} {bk4 : Nat} {cs4 : List Value} {bk6 : Nat} {A6_4 : Option Addr} {n6_4 c6_4 : Nat} {A9 : Option Addr} {n9 c9 : Nat} {a0 : List Int} {x1 : Int} {y4 : T_heap_Object} {x6_0 : Int} {x6_1 : Int} {x6_2 : Int} {s6_3 : ByteArray} {a6_4 : List Int} {x7 : Int} {x8 : Int} {a9 : List Int} (S : St No h0 m0 h m) (ne0 : n0 = List.length a0) (k0 : List.length a0 ≤ c0) (r0 : Rd 1 (eInt .u64) m A0 a0) (o4 : OB No h0 h m bk4 cs4 202) (e4 : T_heap_Object.E m y4 cs4) (o6 : OB No h0 h m bk6 [(Value.int .i64 x6_0), (Value.int .i64 x6_1), (Value.int .i64 x6_2), (Value.string s6_3), (Value.slice A6_4 n6_4 c6_4)] 202) (ne6_4 : n6_4 = List.length a6_4) (o6_4 : OS No h0 1 (eInt .u64) h m A6_4 a6_4 c6_4) (ne9 : n9 = List.length a9) (k9 : List.length a9 ≤ c9) (r9 : Rd 1 (eInt .u64) m A9 a9) (d0_1 : Dj (fb bk4) (fb bk6)) (d0_2 : Dj (fb bk4) (fp A6_4 c6_4)) (d1_2 : Dj (fb bk6) (fp A6_4 c6_4)) {r : T_heap_Object × Bool} (e : roadref3_ObjectAt.j2 a0 x1 y4 x6_0 x6_1 x6_2 s6_3 a6_4 x7 x8 a9 = some r) : f103.j2 (roadref3_ObjectAt.post No h0 m0 r) A0 n0 c0 x1 (⟨bk4, 0, none⟩ : Addr) (⟨bk6, 0, none⟩ : Addr) x7 x8 A9 n9 c9 h := by
  unfold roadref3_ObjectAt.j2 at e
  subst ne0
  obtain ⟨Ae4_4, ce4_4, rfl, ke4_4, re4_4⟩ := e4
  subst ne6_4
  subst ne9
  refine f103.j2_in ?_
  unfold f103.j2T
  refine ⟨by decide, ?_⟩
  refine split_dec_e e (fun c106 e => ?_) (fun c106 e => ?_)
  · obtain ⟨h99, w100, o101, t102⟩ := o4.stA S.s [(Value.int .i64 (0 : Int)), (Value.int .i64 (0 : Int)), (Value.int .i64 (0 : Int)), (Value.string (ByteArray.mk #[])), (Value.slice none 0 0)] rfl (Flats.cons trivial (Flats.cons trivial (Flats.cons trivial (Flats.cons trivial (Flats.cons trivial Flats.nil)))))
    refine ⟨[(Value.int .i64 (0 : Int)), (Value.int .i64 (0 : Int)), (Value.int .i64 (0 : Int)), (Value.string (ByteArray.mk #[])), (Value.slice none 0 0)], rfl, rfl, h99, w100, ?_⟩
    have o101 : OB _ _ h99 _ bk4 [(Value.int .i64 (0 : Int)), (Value.int .i64 (0 : Int)), (Value.int .i64 (0 : Int)), (Value.string (ByteArray.mk #[])), (Value.slice none 0 0)] 202 := o101
    have S103 := S.then t102 (fun i _ hi => o4.wr i hi)
    have o104 := o6_4.step (tell_int .u64) t102 d0_2
    have o105 := o6.step t102 d0_1
    refine ⟨_, ldA (Sub.refl _) o101.all, ?_⟩
    cases e
    exact ⟨_, _, S103, rfl, (show T_heap_Object.E _ (T_heap_Object.mk (0 : Int) (0 : Int) (0 : Int) (ByteArray.mk #[]) ([] : List Int)) [(Value.int .i64 (0 : Int)), (Value.int .i64 (0 : Int)), (Value.int .i64 (0 : Int)), (Value.string (ByteArray.mk #[])), (Value.slice none 0 0)] from ⟨_, _, rfl, (Nat.le_refl 0), Rd.nil⟩)⟩
  · exact roadref3_ObjectAt.l0.walk S rfl k0 r0 o4 (show T_heap_Object.E _ y4 [(Value.int .i64 y4.At), (Value.int .i64 y4.Kind), (Value.int .i64 y4.Num), (Value.string y4.Text), (Value.slice Ae4_4 (List.length y4.Parts) ce4_4)] from ⟨_, _, rfl, ke4_4, re4_4⟩) o6 rfl o6_4 rfl k9 r9 d0_1 d0_2 d1_2 e

noncomputable def roadref3_ObjectAt.j3 (a0 : List Int) (x1 : Int) (y4 : T_heap_Object) (x6_0 : Int) (x6_1 : Int) (x6_2 : Int) (s6_3 : ByteArray) (a6_4 : List Int) (x7 : Int) (x8 : Int) (a9 : List Int) (b62 : Bool) : Option (T_heap_Object × Bool) :=
  if b62 = true then (if (((List.length a9) : Nat) : Int) = (0 : Int) then (some ((T_heap_Object.mk (0 : Int) (0 : Int) (0 : Int) (ByteArray.mk #[]) ([] : List Int)), false)) else (Option.bind (gi a9 (0 : Int)) fun y78 => Option.bind (sls a9 (1 : Int) (((List.length a9) : Nat) : Int)) fun l85 => (roadref3_ObjectAt.j2 a0 x1 y4 x6_0 x6_1 (IntKind.wrap .i64 y78) s6_3 a6_4 x7 x8 l85))) else ((roadref3_ObjectAt.j2 a0 x1 y4 x6_0 x6_1 x6_2 s6_3 a6_4 x7 x8 a9))
set_option maxRecDepth 100000 in
theorem roadref3_ObjectAt.j3.walk {h0 m0 h m : Heap} {A0 : Option Addr} {n0 c0 : Nat} {bk4 : Nat} {cs4 : List Value} {bk6 : Nat} {A6_4 : Option Addr} {n6_4 c6_4 : Nat} {A9 : Option Addr} {n9 c9 : Nat} {a0 : List Int} {x1 : Int} {y4 : T_heap_Object} {x6_0 : Int} {x6_1 : Int} {x6_2 : Int} {s6_3 : ByteArray} {a6_4 : List Int} {x7 : Int} {x8 : Int} {a9 : List Int} {b62 : Bool} (S : St No h0 m0 h m) (ne0 : n0 = List.length a0) (k0 : List.length a0 ≤ c0) (r0 : Rd 1 (eInt .u64) m A0 a0) (o4 : OB No h0 h m bk4 cs4 202) (e4 : T_heap_Object.E m y4 cs4) (o6 : OB No h0 h m bk6 [(Value.int .i64 x6_0), (Value.int .i64 x6_1), (Value.int .i64 x6_2), (Value.string s6_3), (Value.slice A6_4 n6_4 c6_4)] 202) (ne6_4 : n6_4 = List.length a6_4) (o6_4 : OS No h0 1 (eInt .u64) h m A6_4 a6_4 c6_4) (ne9 : n9 = List.length a9) (k9 : List.length a9 ≤ c9) (r9 : Rd 1 (eInt .u64) m A9 a9) (d0_1 : Dj (fb bk4) (fb bk6)) (d0_2 : Dj (fb bk4) (fp A6_4 c6_4)) (d1_2 : Dj (fb bk6) (fp A6_4 c6_4)) {r : T_heap_Object × Bool} (e : roadref3_ObjectAt.j3 a0 x1 y4 x6_0 x6_1 x6_2 s6_3 a6_4 x7 x8 a9 b62 = some r) : f103.j3 (roadref3_ObjectAt.post No h0 m0 r) A0 n0 c0 x1 (⟨bk4, 0, none⟩ : Addr) (⟨bk6, 0, none⟩ : Addr) x7 x8 A9 n9 c9 b62 h := by
  unfold roadref3_ObjectAt.j3 at e
  subst ne0
  obtain ⟨Ae4_4, ce4_4, rfl, ke4_4, re4_4⟩ := e4
  subst ne6_4
  subst ne9
  refine f103.j3_in ?_
  unfold f103.j3T
  refine split_any_e e (fun c98 e => ?_) (fun c98 e => ?_)
  · refine split_eq_e e (fun c97 e => ?_) (fun c97 e => ?_)
    · obtain ⟨h71, w72, o73, t74⟩ := o4.stA S.s [(Value.int .i64 (0 : Int)), (Value.int .i64 (0 : Int)), (Value.int .i64 (0 : Int)), (Value.string (ByteArray.mk #[])), (Value.slice none 0 0)] rfl (Flats.cons trivial (Flats.cons trivial (Flats.cons trivial (Flats.cons trivial (Flats.cons trivial Flats.nil)))))
      refine ⟨[(Value.int .i64 (0 : Int)), (Value.int .i64 (0 : Int)), (Value.int .i64 (0 : Int)), (Value.string (ByteArray.mk #[])), (Value.slice none 0 0)], rfl, rfl, h71, w72, ?_⟩
      have o73 : OB _ _ h71 _ bk4 [(Value.int .i64 (0 : Int)), (Value.int .i64 (0 : Int)), (Value.int .i64 (0 : Int)), (Value.string (ByteArray.mk #[])), (Value.slice none 0 0)] 202 := o73
      have S75 := S.then t74 (fun i _ hi => o4.wr i hi)
      have o76 := o6_4.step (tell_int .u64) t74 d0_2
      have o77 := o6.step t74 d0_1
      refine ⟨_, ldA (Sub.refl _) o73.all, ?_⟩
      cases e
      exact ⟨_, _, S75, rfl, (show T_heap_Object.E _ (T_heap_Object.mk (0 : Int) (0 : Int) (0 : Int) (ByteArray.mk #[]) ([] : List Int)) [(Value.int .i64 (0 : Int)), (Value.int .i64 (0 : Int)), (Value.int .i64 (0 : Int)), (Value.string (ByteArray.mk #[])), (Value.slice none 0 0)] from ⟨_, _, rfl, (Nat.le_refl 0), Rd.nil⟩)⟩
    · obtain ⟨y78, g79, e⟩ := bind_e e
      refine r9.addr rfl g79 fun a80 cs81 ha82 hc83 he84 => ?_
      obtain rfl : cs81 = [(Value.int .u64 y78)] := he84
      obtain ⟨l85, g86, e⟩ := bind_e e
      have q87 := sls_e g86
      refine ⟨q87.1, q87.2.1, cap_in q87.2.2.1 k9, ?_⟩
      try rw [q87.2.2.2.1]
      have k88 : List.length l85 ≤ (c9 - Int.toNat (1 : Int)) := sls_cap g86 k9
      have r89 := r9.sls g86 (le_mx q87.2.2.1 k9)
      refine ⟨_, ld0 S.s hc83 rfl, _, rfl, ?_⟩
      obtain ⟨h90, w91, o92, t93⟩ := o6.st (k := 2) S.s (v := (Value.int .i64 (IntKind.wrap .i64 y78))) (Nat.le_of_ble_eq_true rfl) trivial
      refine ⟨h90, w91, ?_⟩
      have o92 : OB _ _ h90 _ bk6 [(Value.int .i64 x6_0), (Value.int .i64 x6_1), (Value.int .i64 (IntKind.wrap .i64 y78)), (Value.string s6_3), (Value.slice A6_4 (List.length a6_4) c6_4)] 202 := o92
      have S94 := S.then t93 (fun i _ hi => o6.wr i hi)
      have o95 := o4.step t93 (d0_1).symm
      have o96 := o6_4.step (tell_int .u64) t93 d1_2
      exact roadref3_ObjectAt.j2.walk S94 rfl k0 r0 o95 (show T_heap_Object.E _ y4 [(Value.int .i64 y4.At), (Value.int .i64 y4.Kind), (Value.int .i64 y4.Num), (Value.string y4.Text), (Value.slice Ae4_4 (List.length y4.Parts) ce4_4)] from ⟨_, _, rfl, ke4_4, re4_4⟩) o92 rfl o96 rfl k88 r89 d0_1 d0_2 d1_2 e
  · exact roadref3_ObjectAt.j2.walk S rfl k0 r0 o4 (show T_heap_Object.E _ y4 [(Value.int .i64 y4.At), (Value.int .i64 y4.Kind), (Value.int .i64 y4.Num), (Value.string y4.Text), (Value.slice Ae4_4 (List.length y4.Parts) ce4_4)] from ⟨_, _, rfl, ke4_4, re4_4⟩) o6 rfl o6_4 rfl k9 r9 d0_1 d0_2 d1_2 e

noncomputable def roadref3_ObjectAt.j0 (a0 : List Int) (x1 : Int) (y4 : T_heap_Object) : Option (T_heap_Object × Bool) :=
  Option.bind (gi a0 x1) fun y27 => Option.bind (gi a0 x1) fun y47 => Option.bind (gi a0 x1) fun y54 => Option.bind (sls a0 (IntKind.wrap .i64 (x1 + (1 : Int))) (((List.length a0) : Nat) : Int)) fun l61 => if (IntKind.wrap .i64 (Int.tmod y27 (256 : Int))) = (1 : Int) then ((roadref3_ObjectAt.j3 a0 x1 y4 x1 (IntKind.wrap .i64 (Int.tmod y27 (256 : Int))) (0 : Int) (ByteArray.mk #[]) ([] : List Int) (IntKind.wrap .i64 (Int.tmod (IntKind.wrap .u64 (Int.tdiv y47 (256 : Int))) (4096 : Int))) (IntKind.wrap .i64 (IntKind.wrap .u64 (Int.tdiv y54 (1048576 : Int)))) l61 true)) else ((roadref3_ObjectAt.j3 a0 x1 y4 x1 (IntKind.wrap .i64 (Int.tmod y27 (256 : Int))) (0 : Int) (ByteArray.mk #[]) ([] : List Int) (IntKind.wrap .i64 (Int.tmod (IntKind.wrap .u64 (Int.tdiv y47 (256 : Int))) (4096 : Int))) (IntKind.wrap .i64 (IntKind.wrap .u64 (Int.tdiv y54 (1048576 : Int)))) l61 ((IntKind.wrap .i64 (Int.tmod y27 (256 : Int))) == (4 : Int))))
set_option maxRecDepth 100000 in
theorem roadref3_ObjectAt.j0.walk {h0 m0 h m : Heap} {A0 : Option Addr} {n0 c0 : Nat} {bk4 : Nat} {cs4 : List Value} {a0 : List Int} {x1 : Int} {y4 : T_heap_Object} (S : St No h0 m0 h m) (ne0 : n0 = List.length a0) (k0 : List.length a0 ≤ c0) (r0 : Rd 1 (eInt .u64) m A0 a0) (o4 : OB No h0 h m bk4 cs4 202) (e4 : T_heap_Object.E m y4 cs4) {r : T_heap_Object × Bool} (e : roadref3_ObjectAt.j0 a0 x1 y4 = some r) : f103.j0 (roadref3_ObjectAt.post No h0 m0 r) A0 n0 c0 x1 (⟨bk4, 0, none⟩ : Addr) h := by
  unfold roadref3_ObjectAt.j0 at e
  subst ne0
  obtain ⟨Ae4_4, ce4_4, rfl, ke4_4, re4_4⟩ := e4
  refine f103.j0_in ?_
  unfold f103.j0T
  obtain ⟨y27, g28, e⟩ := bind_e e
  refine r0.addr rfl g28 fun a29 cs30 ha31 hc32 he33 => ?_
  obtain rfl : cs30 = [(Value.int .u64 y27)] := he33
  refine ⟨_, ld0 S.s hc32 rfl, _, rfl, ?_⟩
  refine ⟨by decide, ?_⟩
  refine new_in S fun h34 o35 x36 => ?_
  have d39 : Dj (fb bk4) (fb (Array.size h)) := Dj.new o4.lt
  have o40 := o4.ext x36
  have S37 := S.ext' x36
  have o35 : OB _ _ h34 _ (Array.size h) [(Value.int .i64 (0 : Int)), (Value.int .i64 (0 : Int)), (Value.int .i64 (0 : Int)), (Value.string (ByteArray.mk #[])), (Value.slice none 0 0)] 202 := o35
  obtain ⟨h41, w42, o43, t44⟩ := o35.stA S37.s [(Value.int .i64 x1), (Value.int .i64 (IntKind.wrap .i64 (Int.tmod y27 (256 : Int)))), (Value.int .i64 (0 : Int)), (Value.string (ByteArray.mk #[])), (Value.slice none 0 0)] rfl (Flats.cons trivial (Flats.cons trivial (Flats.cons trivial (Flats.cons trivial (Flats.cons trivial Flats.nil)))))
  refine ⟨[(Value.int .i64 x1), (Value.int .i64 (IntKind.wrap .i64 (Int.tmod y27 (256 : Int)))), (Value.int .i64 (0 : Int)), (Value.string (ByteArray.mk #[])), (Value.slice none 0 0)], rfl, rfl, h41, w42, ?_⟩
  have o43 : OB _ _ h41 _ (Array.size h) [(Value.int .i64 x1), (Value.int .i64 (IntKind.wrap .i64 (Int.tmod y27 (256 : Int)))), (Value.int .i64 (0 : Int)), (Value.string (ByteArray.mk #[])), (Value.slice none 0 0)] 202 := o43
  have S45 := S37.then t44 (fun i _ hi => o35.wr i hi)
  have o46 := o40.step t44 (d39).symm
  obtain ⟨y47, g48, e⟩ := bind_e e
  refine r0.addr rfl g48 fun a49 cs50 ha51 hc52 he53 => ?_
  obtain rfl : cs50 = [(Value.int .u64 y47)] := he53
  obtain ⟨y54, g55, e⟩ := bind_e e
  refine r0.addr rfl g55 fun a56 cs57 ha58 hc59 he60 => ?_
  obtain rfl : cs57 = [(Value.int .u64 y54)] := he60
  refine ⟨_, ld0 S45.s hc52 rfl, _, rfl, ?_⟩
  refine ⟨by decide, ?_⟩
  refine ⟨by decide, ?_⟩
  refine ⟨_, ld0 S45.s hc59 rfl, _, rfl, ?_⟩
  refine ⟨by decide, ?_⟩
  obtain ⟨l61, g62, e⟩ := bind_e e
  have q63 := sls_e g62
  refine ⟨q63.1, q63.2.1, cap_in q63.2.2.1 k0, ?_⟩
  try rw [q63.2.2.2.1]
  have k64 : List.length l61 ≤ (c0 - Int.toNat (IntKind.wrap .i64 (x1 + (1 : Int)))) := sls_cap g62 k0
  have r65 := r0.sls g62 (le_mx q63.2.2.1 k0)
  refine ⟨_, ldk (k := 1) (Sub.refl _) o43.all rfl, _, rfl, ?_⟩
  refine split_eq_e e (fun c70 e => ?_) (fun c70 e => ?_)
  · have o67 : OS No h0 1 (eInt .u64) h41 m none ([] : List Int) 0 := .inl ⟨rfl, rfl⟩
    exact roadref3_ObjectAt.j3.walk S45 rfl k0 r0 o46 (show T_heap_Object.E _ y4 [(Value.int .i64 y4.At), (Value.int .i64 y4.Kind), (Value.int .i64 y4.Num), (Value.string y4.Text), (Value.slice Ae4_4 (List.length y4.Parts) ce4_4)] from ⟨_, _, rfl, ke4_4, re4_4⟩) o43 rfl o67 rfl k64 r65 d39 (show Dj (fb bk4) (fp none 0) from Dj.nil) (show Dj (fb (Array.size h)) (fp none 0) from Dj.nil) e
  · refine ⟨_, ldk (k := 1) (Sub.refl _) o43.all rfl, _, rfl, ?_⟩
    have o69 : OS No h0 1 (eInt .u64) h41 m none ([] : List Int) 0 := .inl ⟨rfl, rfl⟩
    exact roadref3_ObjectAt.j3.walk S45 rfl k0 r0 o46 (show T_heap_Object.E _ y4 [(Value.int .i64 y4.At), (Value.int .i64 y4.Kind), (Value.int .i64 y4.Num), (Value.string y4.Text), (Value.slice Ae4_4 (List.length y4.Parts) ce4_4)] from ⟨_, _, rfl, ke4_4, re4_4⟩) o43 rfl o69 rfl k64 r65 d39 (show Dj (fb bk4) (fp none 0) from Dj.nil) (show Dj (fb (Array.size h)) (fp none 0) from Dj.nil) e

noncomputable def roadref3_ObjectAt.j1 (a0 : List Int) (x1 : Int) (y4 : T_heap_Object) (b28 : Bool) : Option (T_heap_Object × Bool) :=
  if b28 = true then (some ((T_heap_Object.mk (0 : Int) (0 : Int) (0 : Int) (ByteArray.mk #[]) ([] : List Int)), false)) else ((roadref3_ObjectAt.j0 a0 x1 y4))
set_option maxRecDepth 100000 in
theorem roadref3_ObjectAt.j1.walk {h0 m0 h m : Heap} {A0 : Option Addr} {n0 c0 : Nat} {bk4 : Nat} {cs4 : List Value} {a0 : List Int} {x1 : Int} {y4 : T_heap_Object} {b28 : Bool} (S : St No h0 m0 h m) (ne0 : n0 = List.length a0) (k0 : List.length a0 ≤ c0) (r0 : Rd 1 (eInt .u64) m A0 a0) (o4 : OB No h0 h m bk4 cs4 202) (e4 : T_heap_Object.E m y4 cs4) {r : T_heap_Object × Bool} (e : roadref3_ObjectAt.j1 a0 x1 y4 b28 = some r) : f103.j1 (roadref3_ObjectAt.post No h0 m0 r) A0 n0 c0 x1 (⟨bk4, 0, none⟩ : Addr) b28 h := by
  unfold roadref3_ObjectAt.j1 at e
  subst ne0
  obtain ⟨Ae4_4, ce4_4, rfl, ke4_4, re4_4⟩ := e4
  refine f103.j1_in ?_
  unfold f103.j1T
  refine split_any_e e (fun c26 e => ?_) (fun c26 e => ?_)
  · obtain ⟨h21, w22, o23, t24⟩ := o4.stA S.s [(Value.int .i64 (0 : Int)), (Value.int .i64 (0 : Int)), (Value.int .i64 (0 : Int)), (Value.string (ByteArray.mk #[])), (Value.slice none 0 0)] rfl (Flats.cons trivial (Flats.cons trivial (Flats.cons trivial (Flats.cons trivial (Flats.cons trivial Flats.nil)))))
    refine ⟨[(Value.int .i64 (0 : Int)), (Value.int .i64 (0 : Int)), (Value.int .i64 (0 : Int)), (Value.string (ByteArray.mk #[])), (Value.slice none 0 0)], rfl, rfl, h21, w22, ?_⟩
    have o23 : OB _ _ h21 _ bk4 [(Value.int .i64 (0 : Int)), (Value.int .i64 (0 : Int)), (Value.int .i64 (0 : Int)), (Value.string (ByteArray.mk #[])), (Value.slice none 0 0)] 202 := o23
    have S25 := S.then t24 (fun i _ hi => o4.wr i hi)
    refine ⟨_, ldA (Sub.refl _) o23.all, ?_⟩
    cases e
    exact ⟨_, _, S25, rfl, (show T_heap_Object.E _ (T_heap_Object.mk (0 : Int) (0 : Int) (0 : Int) (ByteArray.mk #[]) ([] : List Int)) [(Value.int .i64 (0 : Int)), (Value.int .i64 (0 : Int)), (Value.int .i64 (0 : Int)), (Value.string (ByteArray.mk #[])), (Value.slice none 0 0)] from ⟨_, _, rfl, (Nat.le_refl 0), Rd.nil⟩)⟩
  · exact roadref3_ObjectAt.j0.walk S rfl k0 r0 o4 (show T_heap_Object.E _ y4 [(Value.int .i64 y4.At), (Value.int .i64 y4.Kind), (Value.int .i64 y4.Num), (Value.string y4.Text), (Value.slice Ae4_4 (List.length y4.Parts) ce4_4)] from ⟨_, _, rfl, ke4_4, re4_4⟩) e

noncomputable def roadref3_ObjectAt (a0 : List Int) (x1 : Int) : Option (T_heap_Object × Bool) :=
  Option.bind (roadref3_In x1 (0 : Int) (IntKind.wrap .i64 ((((List.length a0) : Nat) : Int) - (1 : Int)))) fun y6 => if y6 = true then (Option.bind (gi a0 x1) fun y13 => (roadref3_ObjectAt.j1 a0 x1 (T_heap_Object.mk (0 : Int) (0 : Int) (0 : Int) (ByteArray.mk #[]) ([] : List Int)) (decide ((IntKind.wrap .u64 (Int.tdiv y13 (4294967296 : Int))) > (0 : Int))))) else ((roadref3_ObjectAt.j1 a0 x1 (T_heap_Object.mk (0 : Int) (0 : Int) (0 : Int) (ByteArray.mk #[]) ([] : List Int)) true))
set_option maxRecDepth 100000 in
theorem roadref3_ObjectAt.walk {h m : Heap} {A0 : Option Addr} {n0 c0 : Nat} {a0 : List Int} {x1 : Int} (s : Sub m h) (ne0 : n0 = List.length a0) (k0 : List.length a0 ≤ c0) (r0 : Rd 1 (eInt .u64) m A0 a0) {r : T_heap_Object × Bool} (e : roadref3_ObjectAt a0 x1 = some r) : Run Try.prog 103 #[Value.slice A0 n0 c0, Value.int .i64 x1] h (roadref3_ObjectAt.post No h m r) := by
  unfold roadref3_ObjectAt at e
  subst ne0
  have S : St No h m h m := .refl s
  refine f103.run ?_
  unfold f103.runT
  refine new_in S fun h1 o2 x3 => ?_
  have S4 := S.ext' x3
  have o2 : OB _ _ h1 _ (Array.size h) [(Value.int .i64 (0 : Int)), (Value.int .i64 (0 : Int)), (Value.int .i64 (0 : Int)), (Value.string (ByteArray.mk #[])), (Value.slice none 0 0)] 202 := o2
  obtain ⟨y6, g7, e⟩ := bind_e e
  refine (roadref3_In.walk S4.s  g7).mono ?_
  rintro _ h8 ⟨m9, T10, rfl⟩
  have S11 := S4.grow T10
  have o12 := o2.step T10 Dj.no
  refine ⟨_, rfl, ?_⟩
  refine split_not ?_
  refine split_any_e e (fun c20 e => ?_) (fun c20 e => ?_)
  · obtain ⟨y13, g14, e⟩ := bind_e e
    refine (r0.sub (tell_int .u64) T10.up).addr rfl g14 fun a15 cs16 ha17 hc18 he19 => ?_
    obtain rfl : cs16 = [(Value.int .u64 y13)] := he19
    refine ⟨_, ld0 S11.s hc18 rfl, _, rfl, ?_⟩
    refine ⟨by decide, ?_⟩
    exact roadref3_ObjectAt.j1.walk S11 rfl k0 (r0.sub (tell_int .u64) T10.up) o12 (show T_heap_Object.E _ (T_heap_Object.mk (0 : Int) (0 : Int) (0 : Int) (ByteArray.mk #[]) ([] : List Int)) [(Value.int .i64 (0 : Int)), (Value.int .i64 (0 : Int)), (Value.int .i64 (0 : Int)), (Value.string (ByteArray.mk #[])), (Value.slice none 0 0)] from ⟨_, _, rfl, (Nat.le_refl 0), Rd.nil⟩) e
  · exact roadref3_ObjectAt.j1.walk S11 rfl k0 (r0.sub (tell_int .u64) T10.up) o12 (show T_heap_Object.E _ (T_heap_Object.mk (0 : Int) (0 : Int) (0 : Int) (ByteArray.mk #[]) ([] : List Int)) [(Value.int .i64 (0 : Int)), (Value.int .i64 (0 : Int)), (Value.int .i64 (0 : Int)), (Value.string (ByteArray.mk #[])), (Value.slice none 0 0)] from ⟨_, _, rfl, (Nat.le_refl 0), Rd.nil⟩) e

/-! ### 106 roadstead/roadref3.TagWord -/
def roadref3_TagWord.post (W : Nat → Prop) (h0 m0 : Heap) (r : Int) (v : Value) (h : Heap) : Prop := ∃ m , St W h0 m0 h m ∧ v = .int .u64 r
noncomputable def roadref3_TagWord (x0 : Int) (x1 : Int) : Option (Int) :=
  some ((IntKind.wrap .u64 ((IntKind.wrap .u64 ((8 : Int) * (IntKind.wrap .u64 x1))) + (IntKind.wrap .u64 x0))))
set_option maxRecDepth 100000 in
theorem roadref3_TagWord.walk {h m : Heap} {x0 : Int} {x1 : Int} (s : Sub m h)  {r : Int} (e : roadref3_TagWord x0 x1 = some r) : Run Try.prog 106 #[Value.int .i64 x0, Value.int .i64 x1] h (roadref3_TagWord.post No h m r) := by
  unfold roadref3_TagWord at e
  have S : St No h m h m := .refl s
  refine f106.run ?_
  unfold f106.runT
  cases e
  exact ⟨_, S, rfl⟩

/-! ### 145 roadstead/roadref3.TagFits -/
def roadref3_TagFits.post (W : Nat → Prop) (h0 m0 : Heap) (r : Bool) (v : Value) (h : Heap) : Prop := ∃ m , St W h0 m0 h m ∧ v = .bool r
noncomputable def roadref3_TagFits.j0 (x0 : Int) (x1 : Int) (x5 : Int) (x6 : Int) : Option (Bool) :=
  Option.bind (roadref3_In x0 (0 : Int) (4 : Int)) fun y4 => if y4 = true then (Option.bind (roadref3_In x1 x5 x6) fun y10 => some (y10)) else (some (false))
set_option maxRecDepth 100000 in
theorem roadref3_TagFits.j0.walk {h0 m0 h m : Heap} {x0 : Int} {x1 : Int} {x5 : Int} {x6 : Int} (S : St No h0 m0 h m)  {r : Bool} (e : roadref3_TagFits.j0 x0 x1 x5 x6 = some r) : f145.j0 (roadref3_TagFits.post No h0 m0 r) x0 x1 x5 x6 h := by
  unfold roadref3_TagFits.j0 at e
  refine f145.j0_in ?_
  unfold f145.j0T
  obtain ⟨y4, g5, e⟩ := bind_e e
  refine (roadref3_In.walk S.s  g5).mono ?_
  rintro _ h6 ⟨m7, T8, rfl⟩
  have S9 := S.grow T8
  refine ⟨_, rfl, ?_⟩
  refine split_any_e e (fun c16 e => ?_) (fun c16 e => ?_)
  · obtain ⟨y10, g11, e⟩ := bind_e e
    refine (roadref3_In.walk S9.s  g11).mono ?_
    rintro _ h12 ⟨m13, T14, rfl⟩
    have S15 := S9.grow T14
    refine ⟨_, rfl, ?_⟩
    cases e
    exact ⟨_, S15, rfl⟩
  · cases e
    exact ⟨_, S9, rfl⟩

noncomputable def roadref3_TagFits (x0 : Int) (x1 : Int) : Option (Bool) :=
  if x0 = (0 : Int) then ((roadref3_TagFits.j0 x0 x1 (0 : Int) (0 : Int))) else (if x0 = (1 : Int) then ((roadref3_TagFits.j0 x0 x1 (-1152921504606846976 : Int) (1152921504606846975 : Int))) else (if x0 = (2 : Int) then ((roadref3_TagFits.j0 x0 x1 (0 : Int) (1 : Int))) else ((roadref3_TagFits.j0 x0 x1 (0 : Int) (1152921504606846975 : Int)))))
set_option maxRecDepth 100000 in
theorem roadref3_TagFits.walk {h m : Heap} {x0 : Int} {x1 : Int} (s : Sub m h)  {r : Bool} (e : roadref3_TagFits x0 x1 = some r) : Run Try.prog 145 #[Value.int .i64 x0, Value.int .i64 x1] h (roadref3_TagFits.post No h m r) := by
  unfold roadref3_TagFits at e
  have S : St No h m h m := .refl s
  refine f145.run ?_
  unfold f145.runT
  refine split_eq_e e (fun c3 e => ?_) (fun c3 e => ?_)
  · exact roadref3_TagFits.j0.walk S  e
  · refine split_eq_e e (fun c2 e => ?_) (fun c2 e => ?_)
    · exact roadref3_TagFits.j0.walk S  e
    · refine split_eq_e e (fun c1 e => ?_) (fun c1 e => ?_)
      · exact roadref3_TagFits.j0.walk S  e
      · exact roadref3_TagFits.j0.walk S  e

/-! ### 105 roadstead/roadref3.TagRead -/
def roadref3_TagRead.post (W : Nat → Prop) (h0 m0 : Heap) (r : Int × Int × Bool) (v : Value) (h : Heap) : Prop := ∃ m , St W h0 m0 h m ∧ v = .tuple #[.int .i64 r.1, .int .i64 r.2.1, .bool r.2.2]
noncomputable def roadref3_TagRead.j2 (x5 : Int) (x6 : Int) : Option (Int × Int × Bool) :=
  some (x5, x6, true)
set_option maxRecDepth 100000 in
theorem roadref3_TagRead.j2.walk {h0 m0 h m : Heap} {x5 : Int} {x6 : Int} (S : St No h0 m0 h m)  {r : Int × Int × Bool} (e : roadref3_TagRead.j2 x5 x6 = some r) : f105.j2 (roadref3_TagRead.post No h0 m0 r) x5 x6 h := by
  unfold roadref3_TagRead.j2 at e
  refine f105.j2_in ?_
  unfold f105.j2T
  cases e
  exact ⟨_, S, rfl⟩

noncomputable def roadref3_TagRead.j3 (x5 : Int) (x6 : Int) (b31 : Bool) : Option (Int × Int × Bool) :=
  if b31 = true then (some ((0 : Int), (0 : Int), false)) else ((roadref3_TagRead.j2 x5 x6))
set_option maxRecDepth 100000 in
theorem roadref3_TagRead.j3.walk {h0 m0 h m : Heap} {x5 : Int} {x6 : Int} {b31 : Bool} (S : St No h0 m0 h m)  {r : Int × Int × Bool} (e : roadref3_TagRead.j3 x5 x6 b31 = some r) : f105.j3 (roadref3_TagRead.post No h0 m0 r) x5 x6 b31 h := by
  unfold roadref3_TagRead.j3 at e
  refine f105.j3_in ?_
  unfold f105.j3T
  refine split_any_e e (fun c16 e => ?_) (fun c16 e => ?_)
  · cases e
    exact ⟨_, S, rfl⟩
  · exact roadref3_TagRead.j2.walk S  e

noncomputable def roadref3_TagRead.j0 (x0 : Int) (x5 : Int) (x6 : Int) : Option (Int × Int × Bool) :=
  Option.bind (roadref3_TagFits x5 x6) fun y3 => if y3 = true then (Option.bind (roadref3_TagWord x5 x6) fun y9 => (roadref3_TagRead.j3 x5 x6 (y9 != x0))) else ((roadref3_TagRead.j3 x5 x6 true))
set_option maxRecDepth 100000 in
theorem roadref3_TagRead.j0.walk {h0 m0 h m : Heap} {x0 : Int} {x5 : Int} {x6 : Int} (S : St No h0 m0 h m)  {r : Int × Int × Bool} (e : roadref3_TagRead.j0 x0 x5 x6 = some r) : f105.j0 (roadref3_TagRead.post No h0 m0 r) x0 x5 x6 h := by
  unfold roadref3_TagRead.j0 at e
  refine f105.j0_in ?_
  unfold f105.j0T
  obtain ⟨y3, g4, e⟩ := bind_e e
  refine (roadref3_TagFits.walk S.s  g4).mono ?_
  rintro _ h5 ⟨m6, T7, rfl⟩
  have S8 := S.grow T7
  refine ⟨_, rfl, ?_⟩
  refine split_not ?_
  refine split_any_e e (fun c15 e => ?_) (fun c15 e => ?_)
  · obtain ⟨y9, g10, e⟩ := bind_e e
    refine (roadref3_TagWord.walk S8.s  g10).mono ?_
    rintro _ h11 ⟨m12, T13, rfl⟩
    have S14 := S8.grow T13
    refine ⟨_, rfl, ?_⟩
    exact roadref3_TagRead.j3.walk S14  e
  · exact roadref3_TagRead.j3.walk S8  e

noncomputable def roadref3_TagRead.j1 (x0 : Int) (x5 : Int) (x6 : Int) (b18 : Bool) : Option (Int × Int × Bool) :=
  if b18 = true then ((roadref3_TagRead.j0 x0 x5 (IntKind.wrap .i64 (x6 - (2305843009213693952 : Int))))) else ((roadref3_TagRead.j0 x0 x5 x6))
set_option maxRecDepth 100000 in
theorem roadref3_TagRead.j1.walk {h0 m0 h m : Heap} {x0 : Int} {x5 : Int} {x6 : Int} {b18 : Bool} (S : St No h0 m0 h m)  {r : Int × Int × Bool} (e : roadref3_TagRead.j1 x0 x5 x6 b18 = some r) : f105.j1 (roadref3_TagRead.post No h0 m0 r) x0 x5 x6 b18 h := by
  unfold roadref3_TagRead.j1 at e
  refine f105.j1_in ?_
  unfold f105.j1T
  refine split_any_e e (fun c2 e => ?_) (fun c2 e => ?_)
  · exact roadref3_TagRead.j0.walk S  e
  · exact roadref3_TagRead.j0.walk S  e

noncomputable def roadref3_TagRead (x0 : Int) : Option (Int × Int × Bool) :=
  if (IntKind.wrap .i64 (Int.tmod x0 (8 : Int))) = (1 : Int) then ((roadref3_TagRead.j1 x0 (IntKind.wrap .i64 (Int.tmod x0 (8 : Int))) (IntKind.wrap .i64 (IntKind.wrap .u64 (Int.tdiv x0 (8 : Int)))) (decide ((IntKind.wrap .i64 (IntKind.wrap .u64 (Int.tdiv x0 (8 : Int)))) ≥ (1152921504606846976 : Int))))) else ((roadref3_TagRead.j1 x0 (IntKind.wrap .i64 (Int.tmod x0 (8 : Int))) (IntKind.wrap .i64 (IntKind.wrap .u64 (Int.tdiv x0 (8 : Int)))) false))
set_option maxRecDepth 100000 in
theorem roadref3_TagRead.walk {h m : Heap} {x0 : Int} (s : Sub m h)  {r : Int × Int × Bool} (e : roadref3_TagRead x0 = some r) : Run Try.prog 105 #[Value.int .u64 x0] h (roadref3_TagRead.post No h m r) := by
  unfold roadref3_TagRead at e
  have S : St No h m h m := .refl s
  refine f105.run ?_
  unfold f105.runT
  refine ⟨by decide, ?_⟩
  refine ⟨by decide, ?_⟩
  refine split_eq_e e (fun c1 e => ?_) (fun c1 e => ?_)
  · exact roadref3_TagRead.j1.walk S  e
  · exact roadref3_TagRead.j1.walk S  e

/-! ### 156 roadstead/roadref3.valueKinds -/
def roadref3_valueKinds.post (W : Nat → Prop) (h0 m0 : Heap) (r : (List Int)) (v : Value) (h : Heap) : Prop := ∃ m cs0, St W h0 m0 h m ∧ v = .agg cs0.toArray ∧ (eArr 4 (fun n : Int => Value.int .i64 n) (0 : Int)) m r cs0
noncomputable def roadref3_valueKinds  : Option ((List Int)) :=
  some (([(1 : Int), (2 : Int), (3 : Int), (6 : Int)] : List Int))
set_option maxRecDepth 100000 in
theorem roadref3_valueKinds.walk {h m : Heap}  (s : Sub m h)  {r : (List Int)} (e : roadref3_valueKinds  = some r) : Run Try.prog 156 #[] h (roadref3_valueKinds.post No h m r) := by
  unfold roadref3_valueKinds at e
  have S : St No h m h m := .refl s
  refine f156.run ?_
  unfold f156.runT
  refine new_in S fun h1 o2 x3 => ?_
  have S4 := S.ext' x3
  have o2 : OB _ _ h1 _ (Array.size h) [(Value.int .i64 (0 : Int)), (Value.int .i64 (0 : Int)), (Value.int .i64 (0 : Int)), (Value.int .i64 (0 : Int))] 266 := o2
  obtain ⟨h6, w7, o8, t9⟩ := o2.stA S4.s [(Value.int .i64 (1 : Int)), (Value.int .i64 (2 : Int)), (Value.int .i64 (3 : Int)), (Value.int .i64 (6 : Int))] rfl (Flats.cons trivial (Flats.cons trivial (Flats.cons trivial (Flats.cons trivial Flats.nil))))
  refine ⟨[(Value.int .i64 (1 : Int)), (Value.int .i64 (2 : Int)), (Value.int .i64 (3 : Int)), (Value.int .i64 (6 : Int))], rfl, rfl, h6, w7, ?_⟩
  have o8 : OB _ _ h6 _ (Array.size h) [(Value.int .i64 (1 : Int)), (Value.int .i64 (2 : Int)), (Value.int .i64 (3 : Int)), (Value.int .i64 (6 : Int))] 266 := o8
  have S10 := S4.then t9 (fun i _ hi => o2.wr i hi)
  refine ⟨_, ldA (Sub.refl _) o8.all, ?_⟩
  cases e
  exact ⟨_, _, S10, rfl, ⟨rfl, rfl⟩⟩

/-! ### 120 roadstead/roadref3.ValueOf -/
def roadref3_ValueOf.post (W : Nat → Prop) (h0 m0 : Heap) (r : T_api_Value × Bool) (v : Value) (h : Heap) : Prop := ∃ m cs0, St W h0 m0 h m ∧ v = .tuple #[.agg cs0.toArray, .bool r.2] ∧ T_api_Value.E m r.1 cs0
noncomputable def roadref3_ValueOf.j0 (y2 : T_api_Value) (x4 : Int) (x5 : Int) : Option (T_api_Value × Bool) :=
  Option.bind (roadref3_valueKinds ) fun y20 => Option.bind (gi y20 x4) fun y29 => some ((T_api_Value.mk y29 x5 (ByteArray.mk #[]) ([] : List T_api_Value)), true)
set_option maxRecDepth 100000 in
theorem roadref3_ValueOf.j0.walk {h0 m0 h m : Heap} {bk2 : Nat} {cs2 : List Value} {y2 : T_api_Value} {x4 : Int} {x5 : Int} (S : St No h0 m0 h m) (o2 : OB No h0 h m bk2 cs2 137) (e2 : T_api_Value.E m y2 cs2) {r : T_api_Value × Bool} (e : roadref3_ValueOf.j0 y2 x4 x5 = some r) : f120.j0 (roadref3_ValueOf.post No h0 m0 r) (⟨bk2, 0, none⟩ : Addr) x4 x5 h := by
  unfold roadref3_ValueOf.j0 at e
  obtain ⟨Ae2_3, ce2_3, rfl, ke2_3, re2_3⟩ := T_api_Value.iff.1 e2
  refine f120.j0_in ?_
  unfold f120.j0T
  obtain ⟨y20, g21, e⟩ := bind_e e
  refine (roadref3_valueKinds.walk S.s  g21).mono ?_
  rintro _ h22 ⟨m23, cs25, T24, rfl, he26⟩
  have qhe26_0 := he26.1
  obtain rfl : cs25 = [(Value.int .i64 (List.getD y20 0 (0 : Int))), (Value.int .i64 (List.getD y20 1 (0 : Int))), (Value.int .i64 (List.getD y20 2 (0 : Int))), (Value.int .i64 (List.getD y20 3 (0 : Int)))] := he26.2
  have S27 := S.grow T24
  have o28 := o2.step T24 Dj.no
  obtain ⟨y29, g30, e⟩ := bind_e e
  refine ⟨gi_le g30, gi_ltn g30 qhe26_0, _, fldArr (n := 4) (f := (fun n : Int => Value.int .i64 n)) (d := (0 : Int)) rfl qhe26_0 g30, _, rfl, ?_⟩
  obtain ⟨h31, w32, o33, t34⟩ := o28.stA S27.s [(Value.int .i64 y29), (Value.int .i64 x5), (Value.string (ByteArray.mk #[])), (Value.slice none 0 0)] rfl (Flats.cons trivial (Flats.cons trivial (Flats.cons trivial (Flats.cons trivial Flats.nil))))
  refine ⟨[(Value.int .i64 y29), (Value.int .i64 x5), (Value.string (ByteArray.mk #[])), (Value.slice none 0 0)], rfl, rfl, h31, w32, ?_⟩
  have o33 : OB _ _ h31 _ bk2 [(Value.int .i64 y29), (Value.int .i64 x5), (Value.string (ByteArray.mk #[])), (Value.slice none 0 0)] 137 := o33
  have S35 := S27.then t34 (fun i _ hi => o28.wr i hi)
  refine ⟨_, ldA (Sub.refl _) o33.all, ?_⟩
  cases e
  exact ⟨_, _, S35, rfl, (T_api_Value.iff.2 ⟨_, _, rfl, (Nat.le_refl 0), Rd.nil⟩)⟩

noncomputable def roadref3_ValueOf.j1 (y2 : T_api_Value) (x4 : Int) (x5 : Int) (b18 : Bool) : Option (T_api_Value × Bool) :=
  if b18 = true then (some ((T_api_Value.mk (0 : Int) (0 : Int) (ByteArray.mk #[]) ([] : List T_api_Value)), false)) else ((roadref3_ValueOf.j0 y2 x4 x5))
set_option maxRecDepth 100000 in
theorem roadref3_ValueOf.j1.walk {h0 m0 h m : Heap} {bk2 : Nat} {cs2 : List Value} {y2 : T_api_Value} {x4 : Int} {x5 : Int} {b18 : Bool} (S : St No h0 m0 h m) (o2 : OB No h0 h m bk2 cs2 137) (e2 : T_api_Value.E m y2 cs2) {r : T_api_Value × Bool} (e : roadref3_ValueOf.j1 y2 x4 x5 b18 = some r) : f120.j1 (roadref3_ValueOf.post No h0 m0 r) (⟨bk2, 0, none⟩ : Addr) x4 x5 b18 h := by
  unfold roadref3_ValueOf.j1 at e
  obtain ⟨Ae2_3, ce2_3, rfl, ke2_3, re2_3⟩ := T_api_Value.iff.1 e2
  refine f120.j1_in ?_
  unfold f120.j1T
  refine split_any_e e (fun c19 e => ?_) (fun c19 e => ?_)
  · obtain ⟨h14, w15, o16, t17⟩ := o2.stA S.s [(Value.int .i64 (0 : Int)), (Value.int .i64 (0 : Int)), (Value.string (ByteArray.mk #[])), (Value.slice none 0 0)] rfl (Flats.cons trivial (Flats.cons trivial (Flats.cons trivial (Flats.cons trivial Flats.nil))))
    refine ⟨[(Value.int .i64 (0 : Int)), (Value.int .i64 (0 : Int)), (Value.string (ByteArray.mk #[])), (Value.slice none 0 0)], rfl, rfl, h14, w15, ?_⟩
    have o16 : OB _ _ h14 _ bk2 [(Value.int .i64 (0 : Int)), (Value.int .i64 (0 : Int)), (Value.string (ByteArray.mk #[])), (Value.slice none 0 0)] 137 := o16
    have S18 := S.then t17 (fun i _ hi => o2.wr i hi)
    refine ⟨_, ldA (Sub.refl _) o16.all, ?_⟩
    cases e
    exact ⟨_, _, S18, rfl, (T_api_Value.iff.2 ⟨_, _, rfl, (Nat.le_refl 0), Rd.nil⟩)⟩
  · exact roadref3_ValueOf.j0.walk S o2 (T_api_Value.iff.2 ⟨_, _, rfl, ke2_3, re2_3⟩) e

noncomputable def roadref3_ValueOf (x0 : Int) : Option (T_api_Value × Bool) :=
  Option.bind (roadref3_TagRead x0) fun y6 => if y6.2.2 = true then ((roadref3_ValueOf.j1 (T_api_Value.mk (0 : Int) (0 : Int) (ByteArray.mk #[]) ([] : List T_api_Value)) y6.1 y6.2.1 (y6.1 == (4 : Int)))) else ((roadref3_ValueOf.j1 (T_api_Value.mk (0 : Int) (0 : Int) (ByteArray.mk #[]) ([] : List T_api_Value)) y6.1 y6.2.1 true))
set_option maxRecDepth 100000 in
theorem roadref3_ValueOf.walk {h m : Heap} {x0 : Int} (s : Sub m h)  {r : T_api_Value × Bool} (e : roadref3_ValueOf x0 = some r) : Run Try.prog 120 #[Value.int .u64 x0] h (roadref3_ValueOf.post No h m r) := by
  unfold roadref3_ValueOf at e
  have S : St No h m h m := .refl s
  refine f120.run ?_
  unfold f120.runT
  refine new_in S fun h1 o2 x3 => ?_
  have S4 := S.ext' x3
  have o2 : OB _ _ h1 _ (Array.size h) [(Value.int .i64 (0 : Int)), (Value.int .i64 (0 : Int)), (Value.string (ByteArray.mk #[])), (Value.slice none 0 0)] 137 := o2
  obtain ⟨y6, g7, e⟩ := bind_e e
  refine (roadref3_TagRead.walk S4.s  g7).mono ?_
  rintro _ h8 ⟨m9, T10, rfl⟩
  have S11 := S4.grow T10
  have o12 := o2.step T10 Dj.no
  refine ⟨_, _, _, rfl, ?_⟩
  refine split_not ?_
  refine split_any_e e (fun c13 e => ?_) (fun c13 e => ?_)
  · exact roadref3_ValueOf.j1.walk S11 o12 (T_api_Value.iff.2 ⟨_, _, rfl, (Nat.le_refl 0), Rd.nil⟩) e
  · exact roadref3_ValueOf.j1.walk S11 o12 (T_api_Value.iff.2 ⟨_, _, rfl, (Nat.le_refl 0), Rd.nil⟩) e

/-! ### 68 roadstead/roadref3.ReadOf -/
def roadref3_ReadOf.post (W : Nat → Prop) (bkio3 : Nat) (h0 m0 : Heap) (r : T_api_Value × Int × Int) (v : Value) (h : Heap) : Prop := ∃ m cs0 csio3, St W h0 m0 h m ∧ v = .tuple #[.agg cs0.toArray, .int .i64 r.2.1] ∧ T_api_Value.E m r.1 cs0 ∧ OB W h0 h m bkio3 csio3 3 ∧ (eInt .i64) m r.2.2 csio3
inductive roadref3_ReadOf_k.Pt where
  | f (a0 : List Int) (x1 : Int) (x2 : Int) (yio3 : Int)
  | j1 (a0 : List Int) (x1 : Int) (x2 : Int) (yio3 : Int) (y8 : T_api_Value) (b33 : Bool)
  | j0 (a0 : List Int) (x1 : Int) (x2 : Int) (yio3 : Int) (y8 : T_api_Value)
  | l0 (a0 : List Int) (x2 : Int) (yio3 : Int) (y8 : T_api_Value) (x16_0 : Int) (x16_1 : Int) (s16_2 : ByteArray) (a16_3 : List T_api_Value) (a77 : List Int) (x78 : Int) (x79 : Int)
noncomputable def roadref3_ReadOf_k.body (go : (p : roadref3_ReadOf_k.Pt) → Option (T_api_Value × Int × Int)) : (p : roadref3_ReadOf_k.Pt) → Option (T_api_Value × Int × Int)
  | .f a0 x1 x2 yio3 => if (IntKind.wrap .i64 (yio3 - (1 : Int))) < (0 : Int) then ((go (.j1 a0 x1 x2 (IntKind.wrap .i64 (yio3 - (1 : Int))) (T_api_Value.mk (0 : Int) (0 : Int) (ByteArray.mk #[]) ([] : List T_api_Value)) true))) else ((go (.j1 a0 x1 x2 (IntKind.wrap .i64 (yio3 - (1 : Int))) (T_api_Value.mk (0 : Int) (0 : Int) (ByteArray.mk #[]) ([] : List T_api_Value)) (decide (x2 > (40 : Int))))))
  | .j1 a0 x1 x2 yio3 y8 b33 => if b33 = true then (some ((T_api_Value.mk (0 : Int) (0 : Int) (ByteArray.mk #[]) ([] : List T_api_Value)), (2 : Int), yio3)) else ((go (.j0 a0 x1 x2 yio3 y8)))
  | .j0 a0 x1 x2 yio3 y8 => Option.bind (roadref3_TagRead x1) fun y22 => if y22.2.2 = true then (if y22.1 = (4 : Int) then (if y22.2.1 ≥ (((List.length a0) : Nat) : Int) then (some ((T_api_Value.mk (0 : Int) (0 : Int) (ByteArray.mk #[]) ([] : List T_api_Value)), (4 : Int), yio3)) else (Option.bind (roadref3_ObjectAt a0 y22.2.1) fun y69 => if y69.2 = true then (Option.bind (some (pset ([] : (List (Int × Int))) (1 : Int) (2 : Int))) fun l109 => Option.bind (some (pset l109 (2 : Int) (4 : Int))) fun l118 => Option.bind (some (pset l118 (3 : Int) (5 : Int))) fun l127 => Option.bind (some (pset l127 (4 : Int) (7 : Int))) fun l136 => Option.bind (some (pset l136 (5 : Int) (8 : Int))) fun l145 => (go (.l0 a0 x2 yio3 y8 (pgd l145 y69.1.Kind (0 : Int)) y69.1.Num y69.1.Text ([] : List T_api_Value) y69.1.Parts (((List.length y69.1.Parts) : Nat) : Int) (0 : Int)))) else (some ((T_api_Value.mk (0 : Int) (0 : Int) (ByteArray.mk #[]) ([] : List T_api_Value)), (3 : Int), yio3)))) else (Option.bind (roadref3_ValueOf x1) fun y30 => some (y30.1, (0 : Int), yio3))) else (some ((T_api_Value.mk (0 : Int) (0 : Int) (ByteArray.mk #[]) ([] : List T_api_Value)), (3 : Int), yio3))
  | .l0 a0 x2 yio3 y8 x16_0 x16_1 s16_2 a16_3 a77 x78 x79 => if x79 < x78 then (Option.bind (gi a77 x79) fun y194 => Option.bind ((go (.f a0 y194 (IntKind.wrap .i64 (x2 + (1 : Int))) yio3))) fun y201 => if y201.2.1 = (0 : Int) then (Option.bind (ap 56 a16_3 ([y201.1] : List T_api_Value)) fun l263 => (go (.l0 a0 x2 y201.2.2 y8 x16_0 x16_1 s16_2 l263 a77 x78 (IntKind.wrap .i64 (x79 + (1 : Int)))))) else (some ((T_api_Value.mk (0 : Int) (0 : Int) (ByteArray.mk #[]) ([] : List T_api_Value)), y201.2.1, y201.2.2))) else (some ((T_api_Value.mk x16_0 x16_1 s16_2 a16_3), (0 : Int), yio3))
theorem roadref3_ReadOf_k.mono : MonoF (β := fun _ => (T_api_Value × Int × Int)) roadref3_ReadOf_k.body := fun f g hfg p => match p with
  | .f a0 x1 x2 yio3 => LeO.ite ((hfg _)) ((hfg _))
  | .j1 a0 x1 x2 yio3 y8 b33 => LeO.ite (LeO.refl _) ((hfg _))
  | .j0 a0 x1 x2 yio3 y8 => LeO.bind (LeO.refl _) fun y22 => LeO.ite (LeO.ite (LeO.ite (LeO.refl _) (LeO.bind (LeO.refl _) fun y69 => LeO.ite (LeO.bind (LeO.refl _) fun l109 => LeO.bind (LeO.refl _) fun l118 => LeO.bind (LeO.refl _) fun l127 => LeO.bind (LeO.refl _) fun l136 => LeO.bind (LeO.refl _) fun l145 => (hfg _)) (LeO.refl _))) (LeO.bind (LeO.refl _) fun y30 => LeO.refl _)) (LeO.refl _)
  | .l0 a0 x2 yio3 y8 x16_0 x16_1 s16_2 a16_3 a77 x78 x79 => LeO.ite (LeO.bind (LeO.refl _) fun y194 => LeO.bind ((hfg _)) fun y201 => LeO.ite (LeO.bind (LeO.refl _) fun l263 => (hfg _)) (LeO.refl _)) (LeO.refl _)
noncomputable def roadref3_ReadOf_k.go (p : roadref3_ReadOf_k.Pt) : Option (T_api_Value × Int × Int) := fixF (β := fun _ => (T_api_Value × Int × Int)) roadref3_ReadOf_k.body p
noncomputable def roadref3_ReadOf (a0 : List Int) (x1 : Int) (x2 : Int) (yio3 : Int) : Option (T_api_Value × Int × Int) := roadref3_ReadOf_k.go (.f a0 x1 x2 yio3)
noncomputable def roadref3_ReadOf.j1 (a0 : List Int) (x1 : Int) (x2 : Int) (yio3 : Int) (y8 : T_api_Value) (b33 : Bool) : Option (T_api_Value × Int × Int) := roadref3_ReadOf_k.go (.j1 a0 x1 x2 yio3 y8 b33)
noncomputable def roadref3_ReadOf.j0 (a0 : List Int) (x1 : Int) (x2 : Int) (yio3 : Int) (y8 : T_api_Value) : Option (T_api_Value × Int × Int) := roadref3_ReadOf_k.go (.j0 a0 x1 x2 yio3 y8)
noncomputable def roadref3_ReadOf.l0 (a0 : List Int) (x2 : Int) (yio3 : Int) (y8 : T_api_Value) (x16_0 : Int) (x16_1 : Int) (s16_2 : ByteArray) (a16_3 : List T_api_Value) (a77 : List Int) (x78 : Int) (x79 : Int) : Option (T_api_Value × Int × Int) := roadref3_ReadOf_k.go (.l0 a0 x2 yio3 y8 x16_0 x16_1 s16_2 a16_3 a77 x78 x79)
theorem roadref3_ReadOf_eq (a0 : List Int) (x1 : Int) (x2 : Int) (yio3 : Int) : roadref3_ReadOf a0 x1 x2 yio3 = if (IntKind.wrap .i64 (yio3 - (1 : Int))) < (0 : Int) then ((roadref3_ReadOf.j1 a0 x1 x2 (IntKind.wrap .i64 (yio3 - (1 : Int))) (T_api_Value.mk (0 : Int) (0 : Int) (ByteArray.mk #[]) ([] : List T_api_Value)) true)) else ((roadref3_ReadOf.j1 a0 x1 x2 (IntKind.wrap .i64 (yio3 - (1 : Int))) (T_api_Value.mk (0 : Int) (0 : Int) (ByteArray.mk #[]) ([] : List T_api_Value)) (decide (x2 > (40 : Int))))) := fixF_eq roadref3_ReadOf_k.mono _
theorem roadref3_ReadOf.j1_eq (a0 : List Int) (x1 : Int) (x2 : Int) (yio3 : Int) (y8 : T_api_Value) (b33 : Bool) : roadref3_ReadOf.j1 a0 x1 x2 yio3 y8 b33 = if b33 = true then (some ((T_api_Value.mk (0 : Int) (0 : Int) (ByteArray.mk #[]) ([] : List T_api_Value)), (2 : Int), yio3)) else ((roadref3_ReadOf.j0 a0 x1 x2 yio3 y8)) := fixF_eq roadref3_ReadOf_k.mono _
theorem roadref3_ReadOf.j0_eq (a0 : List Int) (x1 : Int) (x2 : Int) (yio3 : Int) (y8 : T_api_Value) : roadref3_ReadOf.j0 a0 x1 x2 yio3 y8 = Option.bind (roadref3_TagRead x1) fun y22 => if y22.2.2 = true then (if y22.1 = (4 : Int) then (if y22.2.1 ≥ (((List.length a0) : Nat) : Int) then (some ((T_api_Value.mk (0 : Int) (0 : Int) (ByteArray.mk #[]) ([] : List T_api_Value)), (4 : Int), yio3)) else (Option.bind (roadref3_ObjectAt a0 y22.2.1) fun y69 => if y69.2 = true then (Option.bind (some (pset ([] : (List (Int × Int))) (1 : Int) (2 : Int))) fun l109 => Option.bind (some (pset l109 (2 : Int) (4 : Int))) fun l118 => Option.bind (some (pset l118 (3 : Int) (5 : Int))) fun l127 => Option.bind (some (pset l127 (4 : Int) (7 : Int))) fun l136 => Option.bind (some (pset l136 (5 : Int) (8 : Int))) fun l145 => (roadref3_ReadOf.l0 a0 x2 yio3 y8 (pgd l145 y69.1.Kind (0 : Int)) y69.1.Num y69.1.Text ([] : List T_api_Value) y69.1.Parts (((List.length y69.1.Parts) : Nat) : Int) (0 : Int))) else (some ((T_api_Value.mk (0 : Int) (0 : Int) (ByteArray.mk #[]) ([] : List T_api_Value)), (3 : Int), yio3)))) else (Option.bind (roadref3_ValueOf x1) fun y30 => some (y30.1, (0 : Int), yio3))) else (some ((T_api_Value.mk (0 : Int) (0 : Int) (ByteArray.mk #[]) ([] : List T_api_Value)), (3 : Int), yio3)) := fixF_eq roadref3_ReadOf_k.mono _
theorem roadref3_ReadOf.l0_eq (a0 : List Int) (x2 : Int) (yio3 : Int) (y8 : T_api_Value) (x16_0 : Int) (x16_1 : Int) (s16_2 : ByteArray) (a16_3 : List T_api_Value) (a77 : List Int) (x78 : Int) (x79 : Int) : roadref3_ReadOf.l0 a0 x2 yio3 y8 x16_0 x16_1 s16_2 a16_3 a77 x78 x79 = if x79 < x78 then (Option.bind (gi a77 x79) fun y194 => Option.bind ((roadref3_ReadOf a0 y194 (IntKind.wrap .i64 (x2 + (1 : Int))) yio3)) fun y201 => if y201.2.1 = (0 : Int) then (Option.bind (ap 56 a16_3 ([y201.1] : List T_api_Value)) fun l263 => (roadref3_ReadOf.l0 a0 x2 y201.2.2 y8 x16_0 x16_1 s16_2 l263 a77 x78 (IntKind.wrap .i64 (x79 + (1 : Int))))) else (some ((T_api_Value.mk (0 : Int) (0 : Int) (ByteArray.mk #[]) ([] : List T_api_Value)), y201.2.1, y201.2.2))) else (some ((T_api_Value.mk x16_0 x16_1 s16_2 a16_3), (0 : Int), yio3)) := fixF_eq roadref3_ReadOf_k.mono _
def roadref3_ReadOf_k.I : (p : roadref3_ReadOf_k.Pt) → (T_api_Value × Int × Int) → Prop
  | .f a0 x1 x2 yio3, r => ∀ (W : Nat → Prop) (h m : Heap) (A0 : Option Addr) (n0 c0 : Nat) (bkio3 : Nat) (csio3 : List Value) (s : Sub m h) (ne0 : n0 = List.length a0) (k0 : List.length a0 ≤ c0) (r0 : Rd 1 (eInt .u64) m A0 a0) (oio3 : OB W h h m bkio3 csio3 3) (eio3 : (eInt .i64) m yio3 csio3), Run Try.prog 68 #[Value.slice A0 n0 c0, Value.int .u64 x1, Value.int .i64 x2, Value.pointer (some ⟨bkio3, 0, none⟩)] h (roadref3_ReadOf.post W bkio3 h m r)
  | .j1 a0 x1 x2 yio3 y8 b33, r => ∀ (W : Nat → Prop) (h0 m0 h m : Heap) (A0 : Option Addr) (n0 c0 : Nat) (bkio3 : Nat) (csio3 : List Value) (bk8 : Nat) (cs8 : List Value) (S : St W h0 m0 h m) (ne0 : n0 = List.length a0) (k0 : List.length a0 ≤ c0) (r0 : Rd 1 (eInt .u64) m A0 a0) (oio3 : OB W h0 h m bkio3 csio3 3) (eio3 : (eInt .i64) m yio3 csio3) (o8 : OB W h0 h m bk8 cs8 137) (e8 : T_api_Value.E m y8 cs8) (d0_1 : Dj (fb bkio3) (fb bk8)), f68.j1 (roadref3_ReadOf.post W bkio3 h0 m0 r) A0 n0 c0 x1 x2 (⟨bkio3, 0, none⟩ : Addr) (⟨bk8, 0, none⟩ : Addr) b33 h
  | .j0 a0 x1 x2 yio3 y8, r => ∀ (W : Nat → Prop) (h0 m0 h m : Heap) (A0 : Option Addr) (n0 c0 : Nat) (bkio3 : Nat) (csio3 : List Value) (bk8 : Nat) (cs8 : List Value) (S : St W h0 m0 h m) (ne0 : n0 = List.length a0) (k0 : List.length a0 ≤ c0) (r0 : Rd 1 (eInt .u64) m A0 a0) (oio3 : OB W h0 h m bkio3 csio3 3) (eio3 : (eInt .i64) m yio3 csio3) (o8 : OB W h0 h m bk8 cs8 137) (e8 : T_api_Value.E m y8 cs8) (d0_1 : Dj (fb bkio3) (fb bk8)), f68.j0 (roadref3_ReadOf.post W bkio3 h0 m0 r) A0 n0 c0 x1 x2 (⟨bkio3, 0, none⟩ : Addr) (⟨bk8, 0, none⟩ : Addr) h
  | .l0 a0 x2 yio3 y8 x16_0 x16_1 s16_2 a16_3 a77 x78 x79, r => ∀ (W : Nat → Prop) (h0 m0 h m : Heap) (A0 : Option Addr) (n0 c0 : Nat) (bkio3 : Nat) (csio3 : List Value) (bk8 : Nat) (cs8 : List Value) (bk16 : Nat) (A16_3 : Option Addr) (n16_3 c16_3 : Nat) (A77 : Option Addr) (n77 c77 : Nat) (S : St W h0 m0 h m) (ne0 : n0 = List.length a0) (k0 : List.length a0 ≤ c0) (r0 : Rd 1 (eInt .u64) m A0 a0) (oio3 : OB W h0 h m bkio3 csio3 3) (eio3 : (eInt .i64) m yio3 csio3) (o8 : OB W h0 h m bk8 cs8 137) (e8 : T_api_Value.E m y8 cs8) (o16 : OB W h0 h m bk16 [(Value.int .i64 x16_0), (Value.int .i64 x16_1), (Value.string s16_2), (Value.slice A16_3 n16_3 c16_3)] 137) (ne16_3 : n16_3 = List.length a16_3) (o16_3 : OS W h0 4 T_api_Value.E h m A16_3 a16_3 c16_3) (ne77 : n77 = List.length a77) (k77 : List.length a77 ≤ c77) (r77 : Rd 1 (eInt .u64) m A77 a77) (d0_1 : Dj (fb bkio3) (fb bk8)) (d0_2 : Dj (fb bkio3) (fb bk16)) (d0_3 : Dj (fb bkio3) (fp A16_3 c16_3)) (d1_2 : Dj (fb bk8) (fb bk16)) (d1_3 : Dj (fb bk8) (fp A16_3 c16_3)) (d2_3 : Dj (fb bk16) (fp A16_3 c16_3)), f68.l0 (roadref3_ReadOf.post W bkio3 h0 m0 r) A0 n0 c0 x2 (⟨bkio3, 0, none⟩ : Addr) (⟨bk8, 0, none⟩ : Addr) (⟨bk16, 0, none⟩ : Addr) A77 n77 c77 x78 x79 h
set_option maxRecDepth 100000 in
theorem roadref3_ReadOf_k.step_f (go : (p : roadref3_ReadOf_k.Pt) → Option (T_api_Value × Int × Int)) (ih : ∀ p r, go p = some r → roadref3_ReadOf_k.I p r) (a0 : List Int) (x1 : Int) (x2 : Int) (yio3 : Int) (r : T_api_Value × Int × Int) (e : roadref3_ReadOf_k.body go (.f a0 x1 x2 yio3) = some r) : roadref3_ReadOf_k.I (.f a0 x1 x2 yio3) r := by
  unfold roadref3_ReadOf_k.body at e
  intro W h m A0 n0 c0 bkio3 csio3 s ne0 k0 r0 oio3 eio3
  subst ne0
  obtain rfl : csio3 = [(Value.int .i64 yio3)] := eio3
  have S : St W h m h m := .refl s
  refine f68.run ?_
  unfold f68.runT
  refine new_in S fun h1 o2 x3 => ?_
  have d6 : Dj (fb bkio3) (fb (Array.size h)) := Dj.new oio3.lt
  have o7 := oio3.ext x3
  have S4 := S.ext' x3
  have o2 : OB _ _ h1 _ (Array.size h) [(Value.int .i64 (0 : Int)), (Value.int .i64 (0 : Int)), (Value.string (ByteArray.mk #[])), (Value.slice none 0 0)] 137 := o2
  refine ⟨_, ld0 (Sub.refl _) o7.all rfl, _, rfl, ?_⟩
  obtain ⟨h8, w9, o10, t11⟩ := o7.st0 S4.s (v := (Value.int .i64 (IntKind.wrap .i64 (yio3 - (1 : Int))))) (by exact Nat.succ_pos _) trivial
  refine ⟨h8, w9, ?_⟩
  have o10 : OB _ _ h8 _ bkio3 [(Value.int .i64 (IntKind.wrap .i64 (yio3 - (1 : Int))))] 3 := o10
  have S12 := S4.then t11 (fun i _ hi => o7.wr i hi)
  have o13 := o2.step t11 d6
  refine ⟨_, ld0 (Sub.refl _) o10.all rfl, _, rfl, ?_⟩
  refine split_dec_e e (fun c14 e => ?_) (fun c14 e => ?_)
  · exact (ih _ _ e) _ _ _ _ _ _ _ _ _ _ _ _ S12 rfl k0 r0 o10 rfl o13 (T_api_Value.iff.2 ⟨_, _, rfl, (Nat.le_refl 0), Rd.nil⟩) d6
  · exact (ih _ _ e) _ _ _ _ _ _ _ _ _ _ _ _ S12 rfl k0 r0 o10 rfl o13 (T_api_Value.iff.2 ⟨_, _, rfl, (Nat.le_refl 0), Rd.nil⟩) d6
set_option maxRecDepth 100000 in
theorem roadref3_ReadOf_k.step_j1 (go : (p : roadref3_ReadOf_k.Pt) → Option (T_api_Value × Int × Int)) (ih : ∀ p r, go p = some r → roadref3_ReadOf_k.I p r) (a0 : List Int) (x1 : Int) (x2 : Int) (yio3 : Int) (y8 : T_api_Value) (b33 : Bool) (r : T_api_Value × Int × Int) (e : roadref3_ReadOf_k.body go (.j1 a0 x1 x2 yio3 y8 b33) = some r) : roadref3_ReadOf_k.I (.j1 a0 x1 x2 yio3 y8 b33) r := by
  unfold roadref3_ReadOf_k.body at e
  intro W h0 m0 h m A0 n0 c0 bkio3 csio3 bk8 cs8 S ne0 k0 r0 oio3 eio3 o8 e8 d0_1
  subst ne0
  obtain rfl : csio3 = [(Value.int .i64 yio3)] := eio3
  obtain ⟨Ae8_3, ce8_3, rfl, ke8_3, re8_3⟩ := T_api_Value.iff.1 e8
  refine f68.j1_in ?_
  unfold f68.j1T
  refine split_any_e e (fun c21 e => ?_) (fun c21 e => ?_)
  · obtain ⟨h15, w16, o17, t18⟩ := o8.stA S.s [(Value.int .i64 (0 : Int)), (Value.int .i64 (0 : Int)), (Value.string (ByteArray.mk #[])), (Value.slice none 0 0)] rfl (Flats.cons trivial (Flats.cons trivial (Flats.cons trivial (Flats.cons trivial Flats.nil))))
    refine ⟨[(Value.int .i64 (0 : Int)), (Value.int .i64 (0 : Int)), (Value.string (ByteArray.mk #[])), (Value.slice none 0 0)], rfl, rfl, h15, w16, ?_⟩
    have o17 : OB _ _ h15 _ bk8 [(Value.int .i64 (0 : Int)), (Value.int .i64 (0 : Int)), (Value.string (ByteArray.mk #[])), (Value.slice none 0 0)] 137 := o17
    have S19 := S.then t18 (fun i _ hi => o8.wr i hi)
    have o20 := oio3.step t18 (d0_1).symm
    refine ⟨_, ldA (Sub.refl _) o17.all, ?_⟩
    cases e
    exact ⟨_, _, _, S19, rfl, (T_api_Value.iff.2 ⟨_, _, rfl, (Nat.le_refl 0), Rd.nil⟩), o20, rfl⟩
  · exact (ih _ _ e) _ _ _ _ _ _ _ _ _ _ _ _ S rfl k0 r0 oio3 rfl o8 (T_api_Value.iff.2 ⟨_, _, rfl, ke8_3, re8_3⟩) d0_1
set_option maxRecDepth 100000 in
theorem roadref3_ReadOf_k.step_j0 (go : (p : roadref3_ReadOf_k.Pt) → Option (T_api_Value × Int × Int)) (ih : ∀ p r, go p = some r → roadref3_ReadOf_k.I p r) (a0 : List Int) (x1 : Int) (x2 : Int) (yio3 : Int) (y8 : T_api_Value) (r : T_api_Value × Int × Int) (e : roadref3_ReadOf_k.body go (.j0 a0 x1 x2 yio3 y8) = some r) : roadref3_ReadOf_k.I (.j0 a0 x1 x2 yio3 y8) r := by
  unfold roadref3_ReadOf_k.body at e
  intro W h0 m0 h m A0 n0 c0 bkio3 csio3 bk8 cs8 S ne0 k0 r0 oio3 eio3 o8 e8 d0_1
  subst ne0
  obtain rfl : csio3 = [(Value.int .i64 yio3)] := eio3
  obtain ⟨Ae8_3, ce8_3, rfl, ke8_3, re8_3⟩ := T_api_Value.iff.1 e8
  refine f68.j0_in ?_
  unfold f68.j0T
  obtain ⟨y22, g23, e⟩ := bind_e e
  refine (roadref3_TagRead.walk S.s  g23).mono ?_
  rintro _ h24 ⟨m25, T26, rfl⟩
  have S27 := S.grow T26
  have o28 := oio3.step T26 Dj.no
  have o29 := o8.step T26 Dj.no
  refine ⟨_, _, _, rfl, ?_⟩
  refine split_not ?_
  refine split_any_e e (fun c193 e => ?_) (fun c193 e => ?_)
  · refine split_ne_e e (fun c186 e => ?_) (fun c186 e => ?_)
    · obtain ⟨y30, g31, e⟩ := bind_e e
      refine (roadref3_ValueOf.walk S27.s  g31).mono ?_
      rintro _ h32 ⟨m33, cs35, T34, rfl, he36⟩
      obtain ⟨Ahe36_3, che36_3, rfl, khe36_3, rhe36_3⟩ := T_api_Value.iff.1 he36
      have S37 := S27.grow T34
      have o38 := o28.step T34 Dj.no
      have o39 := o29.step T34 Dj.no
      refine ⟨_, _, rfl, ?_⟩
      refine new_in S37 fun h40 o41 x42 => ?_
      have d45 : Dj (fb bkio3) (fb (Array.size h32)) := Dj.new o38.lt
      have d46 : Dj (fb bk8) (fb (Array.size h32)) := Dj.new o39.lt
      have o47 := o38.ext x42
      have o48 := o39.ext x42
      have S43 := S37.ext' x42
      have o41 : OB _ _ h40 _ (Array.size h32) [(Value.int .i64 (0 : Int)), (Value.int .i64 (0 : Int)), (Value.string (ByteArray.mk #[])), (Value.slice none 0 0)] 137 := o41
      obtain ⟨h49, w50, o51, t52⟩ := o41.stA S43.s [(Value.int .i64 y30.1.Kind), (Value.int .i64 y30.1.Num), (Value.string y30.1.Text), (Value.slice Ahe36_3 (List.length y30.1.Args) che36_3)] rfl (Flats.cons trivial (Flats.cons trivial (Flats.cons trivial (Flats.cons trivial Flats.nil))))
      refine ⟨[(Value.int .i64 y30.1.Kind), (Value.int .i64 y30.1.Num), (Value.string y30.1.Text), (Value.slice Ahe36_3 (List.length y30.1.Args) che36_3)], rfl, rfl, h49, w50, ?_⟩
      have o51 : OB _ _ h49 _ (Array.size h32) [(Value.int .i64 y30.1.Kind), (Value.int .i64 y30.1.Num), (Value.string y30.1.Text), (Value.slice Ahe36_3 (List.length y30.1.Args) che36_3)] 137 := o51
      have S53 := S43.then t52 (fun i _ hi => o41.wr i hi)
      have o54 := o47.step t52 (d45).symm
      have o55 := o48.step t52 (d46).symm
      refine ⟨_, ldA (Sub.refl _) o51.all, ?_⟩
      obtain ⟨h56, w57, o58, t59⟩ := o55.stA S53.s [(Value.int .i64 y30.1.Kind), (Value.int .i64 y30.1.Num), (Value.string y30.1.Text), (Value.slice Ahe36_3 (List.length y30.1.Args) che36_3)] rfl (Flats.cons trivial (Flats.cons trivial (Flats.cons trivial (Flats.cons trivial Flats.nil))))
      refine ⟨[(Value.int .i64 y30.1.Kind), (Value.int .i64 y30.1.Num), (Value.string y30.1.Text), (Value.slice Ahe36_3 (List.length y30.1.Args) che36_3)], rfl, rfl, h56, w57, ?_⟩
      have o58 : OB _ _ h56 _ bk8 [(Value.int .i64 y30.1.Kind), (Value.int .i64 y30.1.Num), (Value.string y30.1.Text), (Value.slice Ahe36_3 (List.length y30.1.Args) che36_3)] 137 := o58
      have S60 := S53.then t59 (fun i _ hi => o55.wr i hi)
      have o61 := o54.step t59 (d0_1).symm
      have o62 := o51.step t59 d46
      refine ⟨_, ldA (Sub.refl _) o58.all, ?_⟩
      cases e
      exact ⟨_, _, _, S60, rfl, (T_api_Value.iff.2 ⟨_, _, rfl, khe36_3, rhe36_3⟩), o61, rfl⟩
    · refine split_dec_e e (fun c185 e => ?_) (fun c185 e => ?_)
      · obtain ⟨h63, w64, o65, t66⟩ := o29.stA S27.s [(Value.int .i64 (0 : Int)), (Value.int .i64 (0 : Int)), (Value.string (ByteArray.mk #[])), (Value.slice none 0 0)] rfl (Flats.cons trivial (Flats.cons trivial (Flats.cons trivial (Flats.cons trivial Flats.nil))))
        refine ⟨[(Value.int .i64 (0 : Int)), (Value.int .i64 (0 : Int)), (Value.string (ByteArray.mk #[])), (Value.slice none 0 0)], rfl, rfl, h63, w64, ?_⟩
        have o65 : OB _ _ h63 _ bk8 [(Value.int .i64 (0 : Int)), (Value.int .i64 (0 : Int)), (Value.string (ByteArray.mk #[])), (Value.slice none 0 0)] 137 := o65
        have S67 := S27.then t66 (fun i _ hi => o29.wr i hi)
        have o68 := o28.step t66 (d0_1).symm
        refine ⟨_, ldA (Sub.refl _) o65.all, ?_⟩
        cases e
        exact ⟨_, _, _, S67, rfl, (T_api_Value.iff.2 ⟨_, _, rfl, (Nat.le_refl 0), Rd.nil⟩), o68, rfl⟩
      · obtain ⟨y69, g70, e⟩ := bind_e e
        refine (roadref3_ObjectAt.walk S27.s rfl k0 (r0.sub (tell_int .u64) T26.up) g70).mono ?_
        rintro _ h71 ⟨m72, cs74, T73, rfl, he75⟩
        obtain ⟨Ahe75_4, che75_4, rfl, khe75_4, rhe75_4⟩ := he75
        have S76 := S27.grow T73
        have o77 := o28.step T73 Dj.no
        have o78 := o29.step T73 Dj.no
        refine ⟨_, _, rfl, ?_⟩
        refine new_in S76 fun h79 o80 x81 => ?_
        have d84 : Dj (fb bkio3) (fb (Array.size h71)) := Dj.new o77.lt
        have d85 : Dj (fb bk8) (fb (Array.size h71)) := Dj.new o78.lt
        have o86 := o77.ext x81
        have o87 := o78.ext x81
        have S82 := S76.ext' x81
        have o80 : OB _ _ h79 _ (Array.size h71) [(Value.int .i64 (0 : Int)), (Value.int .i64 (0 : Int)), (Value.int .i64 (0 : Int)), (Value.string (ByteArray.mk #[])), (Value.slice none 0 0)] 202 := o80
        obtain ⟨h88, w89, o90, t91⟩ := o80.stA S82.s [(Value.int .i64 y69.1.At), (Value.int .i64 y69.1.Kind), (Value.int .i64 y69.1.Num), (Value.string y69.1.Text), (Value.slice Ahe75_4 (List.length y69.1.Parts) che75_4)] rfl (Flats.cons trivial (Flats.cons trivial (Flats.cons trivial (Flats.cons trivial (Flats.cons trivial Flats.nil)))))
        refine ⟨[(Value.int .i64 y69.1.At), (Value.int .i64 y69.1.Kind), (Value.int .i64 y69.1.Num), (Value.string y69.1.Text), (Value.slice Ahe75_4 (List.length y69.1.Parts) che75_4)], rfl, rfl, h88, w89, ?_⟩
        have o90 : OB _ _ h88 _ (Array.size h71) [(Value.int .i64 y69.1.At), (Value.int .i64 y69.1.Kind), (Value.int .i64 y69.1.Num), (Value.string y69.1.Text), (Value.slice Ahe75_4 (List.length y69.1.Parts) che75_4)] 202 := o90
        have S92 := S82.then t91 (fun i _ hi => o80.wr i hi)
        have o93 := o86.step t91 (d84).symm
        have o94 := o87.step t91 (d85).symm
        refine split_not ?_
        refine split_any_e e (fun c184 e => ?_) (fun c184 e => ?_)
        · refine OM.made (ν := Int) (EV := (eV0 (eInt .i64))) (kv := (fun n : Int => Value.int .i64 n)) S92 fun h95 o96 x97 => ?_
          have d99 : Dj (fb bkio3) (fb (Array.size h88)) := Dj.new o93.lt
          have d100 : Dj (fb bk8) (fb (Array.size h88)) := Dj.new o94.lt
          have d101 : Dj (fb (Array.size h71)) (fb (Array.size h88)) := Dj.new o90.lt
          have o103 := o93.ext x97
          have o104 := o94.ext x97
          have o105 := o90.ext x97
          have S102 := S92.ext' x97
          obtain ⟨l109, g110, e⟩ := bind_e e
          refine OM.upd (x := (2 : Int)) (v := (Value.int .i64 (2 : Int))) o96 S102.s (keyOk_int (key := 3) (elem := 3) (by kernel_rfl) (by kernel_rfl)) (1 : Int) (show (eV0 (eInt .i64)) m72 (2 : Int) (Value.int .i64 (2 : Int)) from rfl) fun h106 o107 t108 => ?_
          have g110 := Option.some.inj g110
          rw [g110] at o107
          have S111 := S102.then t108 (fun i _ hi => o96.wr i hi)
          have o112 := o103.step t108 (d99).symm
          have o113 := o104.step t108 (d100).symm
          have o114 := o105.step t108 (d101).symm
          obtain ⟨l118, g119, e⟩ := bind_e e
          refine OM.upd (x := (4 : Int)) (v := (Value.int .i64 (4 : Int))) o107 S111.s (keyOk_int (key := 3) (elem := 3) (by kernel_rfl) (by kernel_rfl)) (2 : Int) (show (eV0 (eInt .i64)) m72 (4 : Int) (Value.int .i64 (4 : Int)) from rfl) fun h115 o116 t117 => ?_
          have g119 := Option.some.inj g119
          rw [g119] at o116
          have S120 := S111.then t117 (fun i _ hi => o107.wr i hi)
          have o121 := o112.step t117 (d99).symm
          have o122 := o113.step t117 (d100).symm
          have o123 := o114.step t117 (d101).symm
          obtain ⟨l127, g128, e⟩ := bind_e e
          refine OM.upd (x := (5 : Int)) (v := (Value.int .i64 (5 : Int))) o116 S120.s (keyOk_int (key := 3) (elem := 3) (by kernel_rfl) (by kernel_rfl)) (3 : Int) (show (eV0 (eInt .i64)) m72 (5 : Int) (Value.int .i64 (5 : Int)) from rfl) fun h124 o125 t126 => ?_
          have g128 := Option.some.inj g128
          rw [g128] at o125
          have S129 := S120.then t126 (fun i _ hi => o116.wr i hi)
          have o130 := o121.step t126 (d99).symm
          have o131 := o122.step t126 (d100).symm
          have o132 := o123.step t126 (d101).symm
          obtain ⟨l136, g137, e⟩ := bind_e e
          refine OM.upd (x := (7 : Int)) (v := (Value.int .i64 (7 : Int))) o125 S129.s (keyOk_int (key := 3) (elem := 3) (by kernel_rfl) (by kernel_rfl)) (4 : Int) (show (eV0 (eInt .i64)) m72 (7 : Int) (Value.int .i64 (7 : Int)) from rfl) fun h133 o134 t135 => ?_
          have g137 := Option.some.inj g137
          rw [g137] at o134
          have S138 := S129.then t135 (fun i _ hi => o125.wr i hi)
          have o139 := o130.step t135 (d99).symm
          have o140 := o131.step t135 (d100).symm
          have o141 := o132.step t135 (d101).symm
          obtain ⟨l145, g146, e⟩ := bind_e e
          refine OM.upd (x := (8 : Int)) (v := (Value.int .i64 (8 : Int))) o134 S138.s (keyOk_int (key := 3) (elem := 3) (by kernel_rfl) (by kernel_rfl)) (5 : Int) (show (eV0 (eInt .i64)) m72 (8 : Int) (Value.int .i64 (8 : Int)) from rfl) fun h142 o143 t144 => ?_
          have g146 := Option.some.inj g146
          rw [g146] at o143
          have S147 := S138.then t144 (fun i _ hi => o134.wr i hi)
          have o148 := o139.step t144 (d99).symm
          have o149 := o140.step t144 (d100).symm
          have o150 := o141.step t144 (d101).symm
          refine ⟨_, ldk (k := 1) (Sub.refl _) o150.all rfl, _, rfl, ?_⟩
          refine OM.look (zv := (0 : Int)) (z := (Value.int .i64 (0 : Int))) o143 (keyOk_int (key := 3) (elem := 3) (by kernel_rfl) (by kernel_rfl)) y69.1.Kind (by kernel_rfl) rfl (fun v151 hv152 => ?_)
          obtain rfl : v151 = (Value.int .i64 (pgd l145 y69.1.Kind (0 : Int))) := (List.cons.inj (show [v151] = [(Value.int .i64 (pgd l145 y69.1.Kind (0 : Int)))] from hv152)).1
          refine ⟨_, rfl, ?_⟩
          refine ⟨_, ldk (k := 2) (Sub.refl _) o150.all rfl, _, rfl, ?_⟩
          refine ⟨_, ldk (k := 3) (Sub.refl _) o150.all rfl, _, rfl, ?_⟩
          refine new_in S147 fun h153 o154 x155 => ?_
          have d158 : Dj (fb bkio3) (fb (Array.size h142)) := Dj.new o148.lt
          have d159 : Dj (fb bk8) (fb (Array.size h142)) := Dj.new o149.lt
          have d160 : Dj (fb (Array.size h71)) (fb (Array.size h142)) := Dj.new o150.lt
          have d161 : Dj (fb (Array.size h88)) (fb (Array.size h142)) := Dj.new o143.lt
          have o162 := o148.ext x155
          have o163 := o149.ext x155
          have o164 := o150.ext x155
          have o165 := o143.ext x155
          have S156 := S147.ext' x155
          have o154 : OB _ _ h153 _ (Array.size h142) [(Value.int .i64 (0 : Int)), (Value.int .i64 (0 : Int)), (Value.string (ByteArray.mk #[])), (Value.slice none 0 0)] 137 := o154
          obtain ⟨h166, w167, o168, t169⟩ := o154.stA S156.s [(Value.int .i64 (pgd l145 y69.1.Kind (0 : Int))), (Value.int .i64 y69.1.Num), (Value.string y69.1.Text), (Value.slice none 0 0)] rfl (Flats.cons trivial (Flats.cons trivial (Flats.cons trivial (Flats.cons trivial Flats.nil))))
          refine ⟨[(Value.int .i64 (pgd l145 y69.1.Kind (0 : Int))), (Value.int .i64 y69.1.Num), (Value.string y69.1.Text), (Value.slice none 0 0)], rfl, rfl, h166, w167, ?_⟩
          have o168 : OB _ _ h166 _ (Array.size h142) [(Value.int .i64 (pgd l145 y69.1.Kind (0 : Int))), (Value.int .i64 y69.1.Num), (Value.string y69.1.Text), (Value.slice none 0 0)] 137 := o168
          have S170 := S156.then t169 (fun i _ hi => o154.wr i hi)
          have o171 := o162.step t169 (d158).symm
          have o172 := o163.step t169 (d159).symm
          have o173 := o164.step t169 (d160).symm
          have o174 := o165.step (monoV0 (tell_int .i64)) t169 (d161).symm
          refine ⟨_, ldk (k := 4) (Sub.refl _) o173.all rfl, _, _, _, rfl, ?_⟩
          have o176 : OS W h0 4 T_api_Value.E h166 m72 none ([] : List T_api_Value) 0 := .inl ⟨rfl, rfl⟩
          exact (ih _ _ e) _ _ _ _ _ _ _ _ _ _ _ _ _ _ _ _ _ _ _ S170 rfl k0 (r0.sub (tell_int .u64) (T26.up.trans T73.up)) o171 rfl o172 (T_api_Value.iff.2 ⟨_, _, rfl, ke8_3, (re8_3.sub T_api_Value.T (T26.up.trans T73.up))⟩) o168 rfl o176 rfl khe75_4 rhe75_4 d0_1 d158 (show Dj (fb bkio3) (fp none 0) from Dj.nil) d159 (show Dj (fb bk8) (fp none 0) from Dj.nil) (show Dj (fb (Array.size h142)) (fp none 0) from Dj.nil)
        · obtain ⟨h177, w178, o179, t180⟩ := o94.stA S92.s [(Value.int .i64 (0 : Int)), (Value.int .i64 (0 : Int)), (Value.string (ByteArray.mk #[])), (Value.slice none 0 0)] rfl (Flats.cons trivial (Flats.cons trivial (Flats.cons trivial (Flats.cons trivial Flats.nil))))
          refine ⟨[(Value.int .i64 (0 : Int)), (Value.int .i64 (0 : Int)), (Value.string (ByteArray.mk #[])), (Value.slice none 0 0)], rfl, rfl, h177, w178, ?_⟩
          have o179 : OB _ _ h177 _ bk8 [(Value.int .i64 (0 : Int)), (Value.int .i64 (0 : Int)), (Value.string (ByteArray.mk #[])), (Value.slice none 0 0)] 137 := o179
          have S181 := S92.then t180 (fun i _ hi => o94.wr i hi)
          have o182 := o93.step t180 (d0_1).symm
          have o183 := o90.step t180 d85
          refine ⟨_, ldA (Sub.refl _) o179.all, ?_⟩
          cases e
          exact ⟨_, _, _, S181, rfl, (T_api_Value.iff.2 ⟨_, _, rfl, (Nat.le_refl 0), Rd.nil⟩), o182, rfl⟩
  · obtain ⟨h187, w188, o189, t190⟩ := o29.stA S27.s [(Value.int .i64 (0 : Int)), (Value.int .i64 (0 : Int)), (Value.string (ByteArray.mk #[])), (Value.slice none 0 0)] rfl (Flats.cons trivial (Flats.cons trivial (Flats.cons trivial (Flats.cons trivial Flats.nil))))
    refine ⟨[(Value.int .i64 (0 : Int)), (Value.int .i64 (0 : Int)), (Value.string (ByteArray.mk #[])), (Value.slice none 0 0)], rfl, rfl, h187, w188, ?_⟩
    have o189 : OB _ _ h187 _ bk8 [(Value.int .i64 (0 : Int)), (Value.int .i64 (0 : Int)), (Value.string (ByteArray.mk #[])), (Value.slice none 0 0)] 137 := o189
    have S191 := S27.then t190 (fun i _ hi => o29.wr i hi)
    have o192 := o28.step t190 (d0_1).symm
    refine ⟨_, ldA (Sub.refl _) o189.all, ?_⟩
    cases e
    exact ⟨_, _, _, S191, rfl, (T_api_Value.iff.2 ⟨_, _, rfl, (Nat.le_refl 0), Rd.nil⟩), o192, rfl⟩
set_option maxRecDepth 100000 in
theorem roadref3_ReadOf_k.step_l0 (go : (p : roadref3_ReadOf_k.Pt) → Option (T_api_Value × Int × Int)) (ih : ∀ p r, go p = some r → roadref3_ReadOf_k.I p r) (a0 : List Int) (x2 : Int) (yio3 : Int) (y8 : T_api_Value) (x16_0 : Int) (x16_1 : Int) (s16_2 : ByteArray) (a16_3 : List T_api_Value) (a77 : List Int) (x78 : Int) (x79 : Int) (r : T_api_Value × Int × Int) (e : roadref3_ReadOf_k.body go (.l0 a0 x2 yio3 y8 x16_0 x16_1 s16_2 a16_3 a77 x78 x79) = some r) : roadref3_ReadOf_k.I (.l0 a0 x2 yio3 y8 x16_0 x16_1 s16_2 a16_3 a77 x78 x79) r := by
  unfold roadref3_ReadOf_k.body at e
  intro W h0 m0 h m A0 n0 c0 bkio3 csio3 bk8 cs8 bk16 A16_3 n16_3 c16_3 A77 n77 c77 S ne0 k0 r0 oio3 eio3 o8 e8 o16 ne16_3 o16_3 ne77 k77 r77 d0_1 d0_2 d0_3 d1_2 d1_3 d2_3
  subst ne0
  obtain rfl : csio3 = [(Value.int .i64 yio3)] := eio3
  obtain ⟨Ae8_3, ce8_3, rfl, ke8_3, re8_3⟩ := T_api_Value.iff.1 e8
  subst ne16_3
  subst ne77
  refine f68.l0_in ?_
  unfold f68.l0T
  refine split_dec_e e (fun c312 e => ?_) (fun c312 e => ?_)
  · obtain ⟨y194, g195, e⟩ := bind_e e
    refine r77.addr rfl g195 fun a196 cs197 ha198 hc199 he200 => ?_
    obtain rfl : cs197 = [(Value.int .u64 y194)] := he200
    refine ⟨_, ld0 S.s hc199 rfl, _, rfl, ?_⟩
    obtain ⟨y201, g202, e⟩ := bind_e e
    refine ((ih _ _ g202) (fb bkio3) _ _ _ _ _ _ _ S.s rfl k0 r0 (oio3.give fbr) rfl).mono ?_
    rintro _ h203 ⟨m204, cs206, cs209, T205, rfl, he207, o208, he210⟩
    obtain ⟨Ahe207_3, che207_3, rfl, khe207_3, rhe207_3⟩ := T_api_Value.iff.1 he207
    obtain rfl : cs209 = [(Value.int .i64 y201.2.2)] := he210
    have S211 := S.then T205 (fun i _ hi => oio3.wr i hi)
    have o212 := o8.step T205 d0_1
    have o213 := o16_3.step T_api_Value.T T205 d0_3
    have o214 := o16.step T205 d0_2
    have o215 := o208.take S (fun i hi => oio3.wr i hi)
    refine ⟨_, _, rfl, ?_⟩
    refine new_in S211 fun h216 o217 x218 => ?_
    have d221 : Dj (fb bkio3) (fb (Array.size h203)) := Dj.new o215.lt
    have d222 : Dj (fb bk8) (fb (Array.size h203)) := Dj.new o212.lt
    have d223 : Dj (fp A16_3 c16_3) (fb (Array.size h203)) := Dj.new o213.lt
    have d224 : Dj (fb bk16) (fb (Array.size h203)) := Dj.new o214.lt
    have o225 := o215.ext x218
    have o226 := o212.ext x218
    have o227 := o213.ext T_api_Value.T S211.s x218
    have o228 := o214.ext x218
    have S219 := S211.ext' x218
    have o217 : OB _ _ h216 _ (Array.size h203) [(Value.int .i64 (0 : Int)), (Value.int .i64 (0 : Int)), (Value.string (ByteArray.mk #[])), (Value.slice none 0 0)] 137 := o217
    obtain ⟨h229, w230, o231, t232⟩ := o217.stA S219.s [(Value.int .i64 y201.1.Kind), (Value.int .i64 y201.1.Num), (Value.string y201.1.Text), (Value.slice Ahe207_3 (List.length y201.1.Args) che207_3)] rfl (Flats.cons trivial (Flats.cons trivial (Flats.cons trivial (Flats.cons trivial Flats.nil))))
    refine ⟨[(Value.int .i64 y201.1.Kind), (Value.int .i64 y201.1.Num), (Value.string y201.1.Text), (Value.slice Ahe207_3 (List.length y201.1.Args) che207_3)], rfl, rfl, h229, w230, ?_⟩
    have o231 : OB _ _ h229 _ (Array.size h203) [(Value.int .i64 y201.1.Kind), (Value.int .i64 y201.1.Num), (Value.string y201.1.Text), (Value.slice Ahe207_3 (List.length y201.1.Args) che207_3)] 137 := o231
    have S233 := S219.then t232 (fun i _ hi => o217.wr i hi)
    have o234 := o225.step t232 (d221).symm
    have o235 := o226.step t232 (d222).symm
    have o236 := o227.step T_api_Value.T t232 (d223).symm
    have o237 := o228.step t232 (d224).symm
    refine split_ne_e e (fun c292 e => ?_) (fun c292 e => ?_)
    · obtain ⟨h238, w239, o240, t241⟩ := o235.stA S233.s [(Value.int .i64 (0 : Int)), (Value.int .i64 (0 : Int)), (Value.string (ByteArray.mk #[])), (Value.slice none 0 0)] rfl (Flats.cons trivial (Flats.cons trivial (Flats.cons trivial (Flats.cons trivial Flats.nil))))
      refine ⟨[(Value.int .i64 (0 : Int)), (Value.int .i64 (0 : Int)), (Value.string (ByteArray.mk #[])), (Value.slice none 0 0)], rfl, rfl, h238, w239, ?_⟩
      have o240 : OB _ _ h238 _ bk8 [(Value.int .i64 (0 : Int)), (Value.int .i64 (0 : Int)), (Value.string (ByteArray.mk #[])), (Value.slice none 0 0)] 137 := o240
      have S242 := S233.then t241 (fun i _ hi => o235.wr i hi)
      have o243 := o234.step t241 (d0_1).symm
      have o244 := o236.step T_api_Value.T t241 d1_3
      have o245 := o237.step t241 d1_2
      have o246 := o231.step t241 d222
      refine ⟨_, ldA (Sub.refl _) o240.all, ?_⟩
      cases e
      exact ⟨_, _, _, S242, rfl, (T_api_Value.iff.2 ⟨_, _, rfl, (Nat.le_refl 0), Rd.nil⟩), o243, rfl⟩
    · refine ⟨_, ldk (k := 3) (Sub.refl _) o237.all rfl, _, _, _, rfl, ?_⟩
      refine ⟨_, ldA (Sub.refl _) o231.all, ?_⟩
      refine ⟨[(Value.int .i64 y201.1.Kind), (Value.int .i64 y201.1.Num), (Value.string y201.1.Text), (Value.slice Ahe207_3 (List.length y201.1.Args) che207_3)], rfl, rfl, ?_⟩
      refine new_in S233 fun h247 o248 x249 => ?_
      have d252 : Dj (fb bkio3) (fb (Array.size h229)) := Dj.new o234.lt
      have d253 : Dj (fb bk8) (fb (Array.size h229)) := Dj.new o235.lt
      have d254 : Dj (fp A16_3 c16_3) (fb (Array.size h229)) := Dj.new o236.lt
      have d255 : Dj (fb bk16) (fb (Array.size h229)) := Dj.new o237.lt
      have d256 : Dj (fb (Array.size h203)) (fb (Array.size h229)) := Dj.new o231.lt
      have o257 := o234.ext x249
      have o258 := o235.ext x249
      have o259 := o236.ext T_api_Value.T S233.s x249
      have o260 := o237.ext x249
      have o261 := o231.ext x249
      have S250 := S233.ext' x249
      have o248 : OB _ _ h247 _ (Array.size h229) [(Value.int .i64 y201.1.Kind), (Value.int .i64 y201.1.Num), (Value.string y201.1.Text), (Value.slice Ahe207_3 (List.length y201.1.Args) che207_3)] 137 := o248
      have o262 : OS _ _ 4 T_api_Value.E h247 m204 (some ⟨(Array.size h229), 0, none⟩) ([y201.1] : List T_api_Value) 1 := OB.row o248 (CsE.cons (c1 := [(Value.int .i64 y201.1.Kind), (Value.int .i64 y201.1.Num), (Value.string y201.1.Text), (Value.slice Ahe207_3 (List.length y201.1.Args) che207_3)]) (T_api_Value.iff.2 ⟨_, _, rfl, khe207_3, rhe207_3⟩) rfl CsE.nil) rfl
      obtain ⟨l263, g264, e⟩ := bind_e e
      refine o259.app T_api_Value.T S250 rfl rfl (o262.srcE rfl) (by decide) g264 fun A265 c266 h267 o268 t269 n270 => ?_
      refine ⟨_, _, _, rfl, ?_⟩
      have d272 : Dj (fb bkio3) (fp A265 c266) := Dj.app d0_3 o257.lt n270
      have d273 : Dj (fb bk8) (fp A265 c266) := Dj.app d1_3 o258.lt n270
      have d274 : Dj (fb bk16) (fp A265 c266) := Dj.app d2_3 o260.lt n270
      have d275 : Dj (fb (Array.size h203)) (fp A265 c266) := Dj.app (d223).symm o261.lt n270
      have d276 : Dj (fp (some ⟨(Array.size h229), 0, none⟩) 1) (fp A265 c266) := Dj.app ((d254.row)).symm o262.lt n270
      have S277 := S250.then t269 (fun i _ hi => o259.wr i hi)
      have o278 := o257.step t269 (d0_3).symm
      have o279 := o258.step t269 (d1_3).symm
      have o280 := o260.step t269 (d2_3).symm
      have o281 := o261.step t269 d223
      have o282 := o262.step T_api_Value.T t269 (d254.row)
      obtain ⟨h283, w284, o285, t286⟩ := o280.st (k := 3) S277.s (v := (Value.slice A265 (List.length l263) c266)) (Nat.le_of_ble_eq_true rfl) trivial
      refine ⟨h283, w284, ?_⟩
      have o285 : OB _ _ h283 _ bk16 [(Value.int .i64 x16_0), (Value.int .i64 x16_1), (Value.string s16_2), (Value.slice A265 (List.length l263) c266)] 137 := o285
      have S287 := S277.then t286 (fun i _ hi => o280.wr i hi)
      have o288 := o278.step t286 (d0_2).symm
      have o289 := o279.step t286 (d1_2).symm
      have o290 := o281.step t286 d224
      have o291 := o268.step T_api_Value.T t286 d274
      exact (ih _ _ e) _ _ _ _ _ _ _ _ _ _ _ _ _ _ _ _ _ _ _ S287 rfl k0 (r0.sub (tell_int .u64) T205.up) o288 rfl o289 (T_api_Value.iff.2 ⟨_, _, rfl, ke8_3, (re8_3.sub T_api_Value.T T205.up)⟩) o285 rfl o291 rfl k77 (r77.sub (tell_int .u64) T205.up) d0_1 d0_2 d272 d1_2 d273 d274
  · refine ⟨_, ldA (Sub.refl _) o16.all, ?_⟩
    obtain ⟨h293, w294, o295, t296⟩ := o8.stA S.s [(Value.int .i64 x16_0), (Value.int .i64 x16_1), (Value.string s16_2), (Value.slice A16_3 (List.length a16_3) c16_3)] rfl (Flats.cons trivial (Flats.cons trivial (Flats.cons trivial (Flats.cons trivial Flats.nil))))
    refine ⟨[(Value.int .i64 x16_0), (Value.int .i64 x16_1), (Value.string s16_2), (Value.slice A16_3 (List.length a16_3) c16_3)], rfl, rfl, h293, w294, ?_⟩
    have o295 : OB _ _ h293 _ bk8 [(Value.int .i64 x16_0), (Value.int .i64 x16_1), (Value.string s16_2), (Value.slice A16_3 (List.length a16_3) c16_3)] 137 := o295
    have S297 := S.then t296 (fun i _ hi => o8.wr i hi)
    have o298 := oio3.step t296 (d0_1).symm
    have o299 := o16_3.step T_api_Value.T t296 d1_3
    have o300 := o16.step t296 d1_2
    refine ⟨_, ldA (Sub.refl _) o295.all, ?_⟩
    obtain ⟨m305, L304, u301, s302, t303⟩ := St.lend S297.s (fp A16_3 c16_3)
    have r306 : Rd 4 T_api_Value.E m305 A16_3 a16_3 := o299.lent T_api_Value.T S297.s L304 (fun _ h => h)
    have k307 := o299.cap
    have S308 := S297.then t303 (fun i _ hi => o299.wr i hi)
    have o309 := o298.step t303 (d0_3).symm
    have o310 := o295.step t303 (d1_3).symm
    have o311 := o300.step t303 (d2_3).symm
    cases e
    exact ⟨_, _, _, S308, rfl, (T_api_Value.iff.2 ⟨_, _, rfl, k307, r306⟩), o309, rfl⟩
theorem roadref3_ReadOf_k.all {p : roadref3_ReadOf_k.Pt} {r : (T_api_Value × Int × Int)} (e : roadref3_ReadOf_k.go p = some r) : roadref3_ReadOf_k.I p r := fixF_ind (β := fun _ => (T_api_Value × Int × Int)) roadref3_ReadOf_k.mono (I := roadref3_ReadOf_k.I) (fun go ih p r e => match p with
  | .f a0 x1 x2 yio3 => roadref3_ReadOf_k.step_f go ih a0 x1 x2 yio3 r e
  | .j1 a0 x1 x2 yio3 y8 b33 => roadref3_ReadOf_k.step_j1 go ih a0 x1 x2 yio3 y8 b33 r e
  | .j0 a0 x1 x2 yio3 y8 => roadref3_ReadOf_k.step_j0 go ih a0 x1 x2 yio3 y8 r e
  | .l0 a0 x2 yio3 y8 x16_0 x16_1 s16_2 a16_3 a77 x78 x79 => roadref3_ReadOf_k.step_l0 go ih a0 x2 yio3 y8 x16_0 x16_1 s16_2 a16_3 a77 x78 x79 r e
  ) e
theorem roadref3_ReadOf.walk {W : Nat → Prop} {h m : Heap} {A0 : Option Addr} {n0 c0 : Nat} {bkio3 : Nat} {csio3 : List Value} {a0 : List Int} {x1 : Int} {x2 : Int} {yio3 : Int} (s : Sub m h) (ne0 : n0 = List.length a0) (k0 : List.length a0 ≤ c0) (r0 : Rd 1 (eInt .u64) m A0 a0) (oio3 : OB W h h m bkio3 csio3 3) (eio3 : (eInt .i64) m yio3 csio3) {r : T_api_Value × Int × Int} (e : roadref3_ReadOf a0 x1 x2 yio3 = some r) : Run Try.prog 68 #[Value.slice A0 n0 c0, Value.int .u64 x1, Value.int .i64 x2, Value.pointer (some ⟨bkio3, 0, none⟩)] h (roadref3_ReadOf.post W bkio3 h m r) := roadref3_ReadOf_k.all (p := .f a0 x1 x2 yio3) e W h m A0 n0 c0 bkio3 csio3 s ne0 k0 r0 oio3 eio3
theorem roadref3_ReadOf.j1.walk {W : Nat → Prop} {h0 m0 h m : Heap} {A0 : Option Addr} {n0 c0 : Nat} {bkio3 : Nat} {csio3 : List Value} {bk8 : Nat} {cs8 : List Value} {a0 : List Int} {x1 : Int} {x2 : Int} {yio3 : Int} {y8 : T_api_Value} {b33 : Bool} (S : St W h0 m0 h m) (ne0 : n0 = List.length a0) (k0 : List.length a0 ≤ c0) (r0 : Rd 1 (eInt .u64) m A0 a0) (oio3 : OB W h0 h m bkio3 csio3 3) (eio3 : (eInt .i64) m yio3 csio3) (o8 : OB W h0 h m bk8 cs8 137) (e8 : T_api_Value.E m y8 cs8) (d0_1 : Dj (fb bkio3) (fb bk8)) {r : T_api_Value × Int × Int} (e : roadref3_ReadOf.j1 a0 x1 x2 yio3 y8 b33 = some r) : f68.j1 (roadref3_ReadOf.post W bkio3 h0 m0 r) A0 n0 c0 x1 x2 (⟨bkio3, 0, none⟩ : Addr) (⟨bk8, 0, none⟩ : Addr) b33 h := roadref3_ReadOf_k.all (p := .j1 a0 x1 x2 yio3 y8 b33) e W h0 m0 h m A0 n0 c0 bkio3 csio3 bk8 cs8 S ne0 k0 r0 oio3 eio3 o8 e8 d0_1
theorem roadref3_ReadOf.j0.walk {W : Nat → Prop} {h0 m0 h m : Heap} {A0 : Option Addr} {n0 c0 : Nat} {bkio3 : Nat} {csio3 : List Value} {bk8 : Nat} {cs8 : List Value} {a0 : List Int} {x1 : Int} {x2 : Int} {yio3 : Int} {y8 : T_api_Value} (S : St W h0 m0 h m) (ne0 : n0 = List.length a0) (k0 : List.length a0 ≤ c0) (r0 : Rd 1 (eInt .u64) m A0 a0) (oio3 : OB W h0 h m bkio3 csio3 3) (eio3 : (eInt .i64) m yio3 csio3) (o8 : OB W h0 h m bk8 cs8 137) (e8 : T_api_Value.E m y8 cs8) (d0_1 : Dj (fb bkio3) (fb bk8)) {r : T_api_Value × Int × Int} (e : roadref3_ReadOf.j0 a0 x1 x2 yio3 y8 = some r) : f68.j0 (roadref3_ReadOf.post W bkio3 h0 m0 r) A0 n0 c0 x1 x2 (⟨bkio3, 0, none⟩ : Addr) (⟨bk8, 0, none⟩ : Addr) h := roadref3_ReadOf_k.all (p := .j0 a0 x1 x2 yio3 y8) e W h0 m0 h m A0 n0 c0 bkio3 csio3 bk8 cs8 S ne0 k0 r0 oio3 eio3 o8 e8 d0_1
theorem roadref3_ReadOf.l0.walk {W : Nat → Prop} {h0 m0 h m : Heap} {A0 : Option Addr} {n0 c0 : Nat} {bkio3 : Nat} {csio3 : List Value} {bk8 : Nat} {cs8 : List Value} {bk16 : Nat} {A16_3 : Option Addr} {n16_3 c16_3 : Nat} {A77 : Option Addr} {n77 c77 : Nat} {a0 : List Int} {x2 : Int} {yio3 : Int} {y8 : T_api_Value} {x16_0 : Int} {x16_1 : Int} {s16_2 : ByteArray} {a16_3 : List T_api_Value} {a77 : List Int} {x78 : Int} {x79 : Int} (S : St W h0 m0 h m) (ne0 : n0 = List.length a0) (k0 : List.length a0 ≤ c0) (r0 : Rd 1 (eInt .u64) m A0 a0) (oio3 : OB W h0 h m bkio3 csio3 3) (eio3 : (eInt .i64) m yio3 csio3) (o8 : OB W h0 h m bk8 cs8 137) (e8 : T_api_Value.E m y8 cs8) (o16 : OB W h0 h m bk16 [(Value.int .i64 x16_0), (Value.int .i64 x16_1), (Value.string s16_2), (Value.slice A16_3 n16_3 c16_3)] 137) (ne16_3 : n16_3 = List.length a16_3) (o16_3 : OS W h0 4 T_api_Value.E h m A16_3 a16_3 c16_3) (ne77 : n77 = List.length a77) (k77 : List.length a77 ≤ c77) (r77 : Rd 1 (eInt .u64) m A77 a77) (d0_1 : Dj (fb bkio3) (fb bk8)) (d0_2 : Dj (fb bkio3) (fb bk16)) (d0_3 : Dj (fb bkio3) (fp A16_3 c16_3)) (d1_2 : Dj (fb bk8) (fb bk16)) (d1_3 : Dj (fb bk8) (fp A16_3 c16_3)) (d2_3 : Dj (fb bk16) (fp A16_3 c16_3)) {r : T_api_Value × Int × Int} (e : roadref3_ReadOf.l0 a0 x2 yio3 y8 x16_0 x16_1 s16_2 a16_3 a77 x78 x79 = some r) : f68.l0 (roadref3_ReadOf.post W bkio3 h0 m0 r) A0 n0 c0 x2 (⟨bkio3, 0, none⟩ : Addr) (⟨bk8, 0, none⟩ : Addr) (⟨bk16, 0, none⟩ : Addr) A77 n77 c77 x78 x79 h := roadref3_ReadOf_k.all (p := .l0 a0 x2 yio3 y8 x16_0 x16_1 s16_2 a16_3 a77 x78 x79) e W h0 m0 h m A0 n0 c0 bkio3 csio3 bk8 cs8 bk16 A16_3 n16_3 c16_3 A77 n77 c77 S ne0 k0 r0 oio3 eio3 o8 e8 o16 ne16_3 o16_3 ne77 k77 r77 d0_1 d0_2 d0_3 d1_2 d1_3 d2_3

/-! ### 69 roadstead/roadref3.SameValue -/
def roadref3_SameValue.post (W : Nat → Prop) (h0 m0 : Heap) (r : Bool) (v : Value) (h : Heap) : Prop := ∃ m , St W h0 m0 h m ∧ v = .bool r
inductive roadref3_SameValue_k.Pt where
  | f (y0 : T_api_Value) (y1 : T_api_Value)
  | j0 (y2 : T_api_Value) (y3 : T_api_Value)
  | l0 (y2 : T_api_Value) (y3 : T_api_Value) (x36 : Int) (x37 : Int)
noncomputable def roadref3_SameValue_k.body (go : (p : roadref3_SameValue_k.Pt) → Option (Bool)) : (p : roadref3_SameValue_k.Pt) → Option (Bool)
  | .f y0 y1 => if y0.Kind = y1.Kind then (if y0.Num = y1.Num then (if y0.Text = y1.Text then (if (((List.length y0.Args) : Nat) : Int) = (((List.length y1.Args) : Nat) : Int) then ((go (.j0 y0 y1))) else (some (false))) else (some (false))) else (some (false))) else (some (false))
  | .j0 y2 y3 => (go (.l0 y2 y3 (((List.length y2.Args) : Nat) : Int) (0 : Int)))
  | .l0 y2 y3 x36 x37 => if x37 < x36 then (Option.bind (gi y2.Args x37) fun y17 => Option.bind (gi y3.Args x37) fun y24 => Option.bind ((go (.f y17 y24))) fun y31 => if y31 = true then ((go (.l0 y2 y3 x36 (IntKind.wrap .i64 (x37 + (1 : Int)))))) else (some (false))) else (some (true))
theorem roadref3_SameValue_k.mono : MonoF (β := fun _ => (Bool)) roadref3_SameValue_k.body := fun f g hfg p => match p with
  | .f y0 y1 => LeO.ite (LeO.ite (LeO.ite (LeO.ite ((hfg _)) (LeO.refl _)) (LeO.refl _)) (LeO.refl _)) (LeO.refl _)
  | .j0 y2 y3 => (hfg _)
  | .l0 y2 y3 x36 x37 => LeO.ite (LeO.bind (LeO.refl _) fun y17 => LeO.bind (LeO.refl _) fun y24 => LeO.bind ((hfg _)) fun y31 => LeO.ite ((hfg _)) (LeO.refl _)) (LeO.refl _)
noncomputable def roadref3_SameValue_k.go (p : roadref3_SameValue_k.Pt) : Option (Bool) := fixF (β := fun _ => (Bool)) roadref3_SameValue_k.body p
noncomputable def roadref3_SameValue (y0 : T_api_Value) (y1 : T_api_Value) : Option (Bool) := roadref3_SameValue_k.go (.f y0 y1)
noncomputable def roadref3_SameValue.j0 (y2 : T_api_Value) (y3 : T_api_Value) : Option (Bool) := roadref3_SameValue_k.go (.j0 y2 y3)
noncomputable def roadref3_SameValue.l0 (y2 : T_api_Value) (y3 : T_api_Value) (x36 : Int) (x37 : Int) : Option (Bool) := roadref3_SameValue_k.go (.l0 y2 y3 x36 x37)
theorem roadref3_SameValue_eq (y0 : T_api_Value) (y1 : T_api_Value) : roadref3_SameValue y0 y1 = if y0.Kind = y1.Kind then (if y0.Num = y1.Num then (if y0.Text = y1.Text then (if (((List.length y0.Args) : Nat) : Int) = (((List.length y1.Args) : Nat) : Int) then ((roadref3_SameValue.j0 y0 y1)) else (some (false))) else (some (false))) else (some (false))) else (some (false)) := fixF_eq roadref3_SameValue_k.mono _
theorem roadref3_SameValue.j0_eq (y2 : T_api_Value) (y3 : T_api_Value) : roadref3_SameValue.j0 y2 y3 = (roadref3_SameValue.l0 y2 y3 (((List.length y2.Args) : Nat) : Int) (0 : Int)) := fixF_eq roadref3_SameValue_k.mono _
theorem roadref3_SameValue.l0_eq (y2 : T_api_Value) (y3 : T_api_Value) (x36 : Int) (x37 : Int) : roadref3_SameValue.l0 y2 y3 x36 x37 = if x37 < x36 then (Option.bind (gi y2.Args x37) fun y17 => Option.bind (gi y3.Args x37) fun y24 => Option.bind ((roadref3_SameValue y17 y24)) fun y31 => if y31 = true then ((roadref3_SameValue.l0 y2 y3 x36 (IntKind.wrap .i64 (x37 + (1 : Int))))) else (some (false))) else (some (true)) := fixF_eq roadref3_SameValue_k.mono _
def roadref3_SameValue_k.I : (p : roadref3_SameValue_k.Pt) → (Bool) → Prop
  | .f y0 y1, r => ∀ (h m : Heap) (cs0 : List Value) (cs1 : List Value) (s : Sub m h) (e0 : T_api_Value.E m y0 cs0) (e1 : T_api_Value.E m y1 cs1), Run Try.prog 69 #[Value.agg cs0.toArray, Value.agg cs1.toArray] h (roadref3_SameValue.post No h m r)
  | .j0 y2 y3, r => ∀ (h0 m0 h m : Heap) (bk2 : Nat) (cs2 : List Value) (bk3 : Nat) (cs3 : List Value) (S : St No h0 m0 h m) (o2 : OB No h0 h m bk2 cs2 137) (e2 : T_api_Value.E m y2 cs2) (o3 : OB No h0 h m bk3 cs3 137) (e3 : T_api_Value.E m y3 cs3) (d0_1 : Dj (fb bk2) (fb bk3)), f69.j0 (roadref3_SameValue.post No h0 m0 r) (⟨bk2, 0, none⟩ : Addr) (⟨bk3, 0, none⟩ : Addr) h
  | .l0 y2 y3 x36 x37, r => ∀ (h0 m0 h m : Heap) (bk2 : Nat) (cs2 : List Value) (bk3 : Nat) (cs3 : List Value) (S : St No h0 m0 h m) (o2 : OB No h0 h m bk2 cs2 137) (e2 : T_api_Value.E m y2 cs2) (o3 : OB No h0 h m bk3 cs3 137) (e3 : T_api_Value.E m y3 cs3) (d0_1 : Dj (fb bk2) (fb bk3)), f69.l0 (roadref3_SameValue.post No h0 m0 r) (⟨bk2, 0, none⟩ : Addr) (⟨bk3, 0, none⟩ : Addr) x36 x37 h
set_option maxRecDepth 100000 in
theorem roadref3_SameValue_k.step_f (go : (p : roadref3_SameValue_k.Pt) → Option (Bool)) (ih : ∀ p r, go p = some r → roadref3_SameValue_k.I p r) (y0 : T_api_Value) (y1 : T_api_Value) (r : Bool) (e : roadref3_SameValue_k.body go (.f y0 y1) = some r) : roadref3_SameValue_k.I (.f y0 y1) r := by
  unfold roadref3_SameValue_k.body at e
  intro h m cs0 cs1 s e0 e1
  obtain ⟨Ae0_3, ce0_3, rfl, ke0_3, re0_3⟩ := T_api_Value.iff.1 e0
  obtain ⟨Ae1_3, ce1_3, rfl, ke1_3, re1_3⟩ := T_api_Value.iff.1 e1
  have S : St No h m h m := .refl s
  refine f69.run ?_
  unfold f69.runT
  refine new_in S fun h1 o2 x3 => ?_
  have S4 := S.ext' x3
  have o2 : OB _ _ h1 _ (Array.size h) [(Value.int .i64 y0.Kind), (Value.int .i64 y0.Num), (Value.string y0.Text), (Value.slice Ae0_3 (List.length y0.Args) ce0_3)] 137 := o2
  refine new_in S4 fun h6 o7 x8 => ?_
  have d11 : Dj (fb (Array.size h)) (fb (Array.size h1)) := Dj.new o2.lt
  have o12 := o2.ext x8
  have S9 := S4.ext' x8
  have o7 : OB _ _ h6 _ (Array.size h1) [(Value.int .i64 y1.Kind), (Value.int .i64 y1.Num), (Value.string y1.Text), (Value.slice Ae1_3 (List.length y1.Args) ce1_3)] 137 := o7
  refine ⟨_, ld0 (Sub.refl _) o12.all rfl, _, rfl, ?_⟩
  refine ⟨_, ld0 (Sub.refl _) o7.all rfl, _, rfl, ?_⟩
  refine split_ne_e e (fun c16 e => ?_) (fun c16 e => ?_)
  · cases e
    exact ⟨_, S9, rfl⟩
  · refine ⟨_, ldk (k := 1) (Sub.refl _) o12.all rfl, _, rfl, ?_⟩
    refine ⟨_, ldk (k := 1) (Sub.refl _) o7.all rfl, _, rfl, ?_⟩
    refine split_ne_e e (fun c15 e => ?_) (fun c15 e => ?_)
    · cases e
      exact ⟨_, S9, rfl⟩
    · refine ⟨_, ldk (k := 2) (Sub.refl _) o12.all rfl, _, rfl, ?_⟩
      refine ⟨_, ldk (k := 2) (Sub.refl _) o7.all rfl, _, rfl, ?_⟩
      try rw [ba_list y0.Text y1.Text]
      refine split_not ?_
      refine split_dec_e e (fun c14 e => ?_) (fun c14 e => ?_)
      · refine ⟨_, ldk (k := 3) (Sub.refl _) o12.all rfl, _, _, _, rfl, ?_⟩
        refine ⟨_, ldk (k := 3) (Sub.refl _) o7.all rfl, _, _, _, rfl, ?_⟩
        refine split_ne_e e (fun c13 e => ?_) (fun c13 e => ?_)
        · cases e
          exact ⟨_, S9, rfl⟩
        · exact (ih _ _ e) _ _ _ _ _ _ _ _ S9 o12 (T_api_Value.iff.2 ⟨_, _, rfl, ke0_3, re0_3⟩) o7 (T_api_Value.iff.2 ⟨_, _, rfl, ke1_3, re1_3⟩) d11
      · cases e
        exact ⟨_, S9, rfl⟩
set_option maxRecDepth 100000 in
theorem roadref3_SameValue_k.step_j0 (go : (p : roadref3_SameValue_k.Pt) → Option (Bool)) (ih : ∀ p r, go p = some r → roadref3_SameValue_k.I p r) (y2 : T_api_Value) (y3 : T_api_Value) (r : Bool) (e : roadref3_SameValue_k.body go (.j0 y2 y3) = some r) : roadref3_SameValue_k.I (.j0 y2 y3) r := by
  unfold roadref3_SameValue_k.body at e
  intro h0 m0 h m bk2 cs2 bk3 cs3 S o2 e2 o3 e3 d0_1
  obtain ⟨Ae2_3, ce2_3, rfl, ke2_3, re2_3⟩ := T_api_Value.iff.1 e2
  obtain ⟨Ae3_3, ce3_3, rfl, ke3_3, re3_3⟩ := T_api_Value.iff.1 e3
  refine f69.j0_in ?_
  unfold f69.j0T
  refine ⟨_, ldk (k := 3) (Sub.refl _) o2.all rfl, _, _, _, rfl, ?_⟩
  exact (ih _ _ e) _ _ _ _ _ _ _ _ S o2 (T_api_Value.iff.2 ⟨_, _, rfl, ke2_3, re2_3⟩) o3 (T_api_Value.iff.2 ⟨_, _, rfl, ke3_3, re3_3⟩) d0_1
set_option maxRecDepth 100000 in
theorem roadref3_SameValue_k.step_l0 (go : (p : roadref3_SameValue_k.Pt) → Option (Bool)) (ih : ∀ p r, go p = some r → roadref3_SameValue_k.I p r) (y2 : T_api_Value) (y3 : T_api_Value) (x36 : Int) (x37 : Int) (r : Bool) (e : roadref3_SameValue_k.body go (.l0 y2 y3 x36 x37) = some r) : roadref3_SameValue_k.I (.l0 y2 y3 x36 x37) r := by
  unfold roadref3_SameValue_k.body at e
  intro h0 m0 h m bk2 cs2 bk3 cs3 S o2 e2 o3 e3 d0_1
  obtain ⟨Ae2_3, ce2_3, rfl, ke2_3, re2_3⟩ := T_api_Value.iff.1 e2
  obtain ⟨Ae3_3, ce3_3, rfl, ke3_3, re3_3⟩ := T_api_Value.iff.1 e3
  refine f69.l0_in ?_
  unfold f69.l0T
  refine split_dec_e e (fun c40 e => ?_) (fun c40 e => ?_)
  · refine ⟨_, ldk (k := 3) (Sub.refl _) o2.all rfl, _, _, _, rfl, ?_⟩
    obtain ⟨y17, g18, e⟩ := bind_e e
    refine re2_3.addr rfl g18 fun a19 cs20 ha21 hc22 he23 => ?_
    obtain ⟨Aa19_3, ca19_3, rfl, ka19_3, ra19_3⟩ := T_api_Value.iff.1 he23
    refine ⟨_, ldA S.s hc22, ?_⟩
    refine ⟨_, ldk (k := 3) (Sub.refl _) o3.all rfl, _, _, _, rfl, ?_⟩
    obtain ⟨y24, g25, e⟩ := bind_e e
    refine re3_3.addr rfl g25 fun a26 cs27 ha28 hc29 he30 => ?_
    obtain ⟨Aa26_3, ca26_3, rfl, ka26_3, ra26_3⟩ := T_api_Value.iff.1 he30
    refine ⟨_, ldA S.s hc29, ?_⟩
    obtain ⟨y31, g32, e⟩ := bind_e e
    refine ((ih _ _ g32) _ _ _ _ S.s (T_api_Value.iff.2 ⟨_, _, rfl, ka19_3, ra19_3⟩) (T_api_Value.iff.2 ⟨_, _, rfl, ka26_3, ra26_3⟩)).mono ?_
    rintro _ h33 ⟨m34, T35, rfl⟩
    have S36 := S.grow T35
    have o37 := o2.step T35 Dj.no
    have o38 := o3.step T35 Dj.no
    refine ⟨_, rfl, ?_⟩
    refine split_not ?_
    refine split_any_e e (fun c39 e => ?_) (fun c39 e => ?_)
    · exact (ih _ _ e) _ _ _ _ _ _ _ _ S36 o37 (T_api_Value.iff.2 ⟨_, _, rfl, ke2_3, (re2_3.sub T_api_Value.T T35.up)⟩) o38 (T_api_Value.iff.2 ⟨_, _, rfl, ke3_3, (re3_3.sub T_api_Value.T T35.up)⟩) d0_1
    · cases e
      exact ⟨_, S36, rfl⟩
  · cases e
    exact ⟨_, S, rfl⟩
theorem roadref3_SameValue_k.all {p : roadref3_SameValue_k.Pt} {r : (Bool)} (e : roadref3_SameValue_k.go p = some r) : roadref3_SameValue_k.I p r := fixF_ind (β := fun _ => (Bool)) roadref3_SameValue_k.mono (I := roadref3_SameValue_k.I) (fun go ih p r e => match p with
  | .f y0 y1 => roadref3_SameValue_k.step_f go ih y0 y1 r e
  | .j0 y2 y3 => roadref3_SameValue_k.step_j0 go ih y2 y3 r e
  | .l0 y2 y3 x36 x37 => roadref3_SameValue_k.step_l0 go ih y2 y3 x36 x37 r e
  ) e
theorem roadref3_SameValue.walk {h m : Heap} {cs0 : List Value} {cs1 : List Value} {y0 : T_api_Value} {y1 : T_api_Value} (s : Sub m h) (e0 : T_api_Value.E m y0 cs0) (e1 : T_api_Value.E m y1 cs1) {r : Bool} (e : roadref3_SameValue y0 y1 = some r) : Run Try.prog 69 #[Value.agg cs0.toArray, Value.agg cs1.toArray] h (roadref3_SameValue.post No h m r) := roadref3_SameValue_k.all (p := .f y0 y1) e h m cs0 cs1 s e0 e1
theorem roadref3_SameValue.j0.walk {h0 m0 h m : Heap} {bk2 : Nat} {cs2 : List Value} {bk3 : Nat} {cs3 : List Value} {y2 : T_api_Value} {y3 : T_api_Value} (S : St No h0 m0 h m) (o2 : OB No h0 h m bk2 cs2 137) (e2 : T_api_Value.E m y2 cs2) (o3 : OB No h0 h m bk3 cs3 137) (e3 : T_api_Value.E m y3 cs3) (d0_1 : Dj (fb bk2) (fb bk3)) {r : Bool} (e : roadref3_SameValue.j0 y2 y3 = some r) : f69.j0 (roadref3_SameValue.post No h0 m0 r) (⟨bk2, 0, none⟩ : Addr) (⟨bk3, 0, none⟩ : Addr) h := roadref3_SameValue_k.all (p := .j0 y2 y3) e h0 m0 h m bk2 cs2 bk3 cs3 S o2 e2 o3 e3 d0_1
theorem roadref3_SameValue.l0.walk {h0 m0 h m : Heap} {bk2 : Nat} {cs2 : List Value} {bk3 : Nat} {cs3 : List Value} {y2 : T_api_Value} {y3 : T_api_Value} {x36 : Int} {x37 : Int} (S : St No h0 m0 h m) (o2 : OB No h0 h m bk2 cs2 137) (e2 : T_api_Value.E m y2 cs2) (o3 : OB No h0 h m bk3 cs3 137) (e3 : T_api_Value.E m y3 cs3) (d0_1 : Dj (fb bk2) (fb bk3)) {r : Bool} (e : roadref3_SameValue.l0 y2 y3 x36 x37 = some r) : f69.l0 (roadref3_SameValue.post No h0 m0 r) (⟨bk2, 0, none⟩ : Addr) (⟨bk3, 0, none⟩ : Addr) x36 x37 h := roadref3_SameValue_k.all (p := .l0 y2 y3 x36 x37) e h0 m0 h m bk2 cs2 bk3 cs3 S o2 e2 o3 e3 d0_1

/-! ### 121 roadstead/roadref3.WordOf -/
def roadref3_WordOf.post (W : Nat → Prop) (h0 m0 : Heap) (r : Int × Bool) (v : Value) (h : Heap) : Prop := ∃ m , St W h0 m0 h m ∧ v = .tuple #[.int .u64 r.1, .bool r.2]
inductive roadref3_WordOf.l0_k.Pt where
  | l0 (y1 : T_api_Value) (y6 : (List Int)) (x7 : Int)
  | j0 (y1 : T_api_Value) (x4 : Int) (y6 : (List Int)) (x7 : Int) (b31 : Bool)
noncomputable def roadref3_WordOf.l0_k.body (go : (p : roadref3_WordOf.l0_k.Pt) → Option (Int × Bool)) : (p : roadref3_WordOf.l0_k.Pt) → Option (Int × Bool)
  | .l0 y1 y6 x7 => if x7 < (4 : Int) then (Option.bind (gi y6 x7) fun y15 => if y1.Kind = y15 then (if y1.Text = (ByteArray.mk #[]) then (if (((List.length y1.Args) : Nat) : Int) = (0 : Int) then (Option.bind (roadref3_TagFits x7 y1.Num) fun y17 => (go (.j0 y1 x7 y6 x7 y17))) else ((go (.j0 y1 x7 y6 x7 false)))) else ((go (.j0 y1 x7 y6 x7 false)))) else ((go (.j0 y1 x7 y6 x7 false)))) else (some ((0 : Int), false))
  | .j0 y1 x4 y6 x7 b31 => if b31 = true then (Option.bind (roadref3_TagWord x4 y1.Num) fun y28 => some (y28, true)) else ((go (.l0 y1 y6 (IntKind.wrap .i64 (x7 + (1 : Int))))))
theorem roadref3_WordOf.l0_k.mono : MonoF (β := fun _ => (Int × Bool)) roadref3_WordOf.l0_k.body := fun f g hfg p => match p with
  | .l0 y1 y6 x7 => LeO.ite (LeO.bind (LeO.refl _) fun y15 => LeO.ite (LeO.ite (LeO.ite (LeO.bind (LeO.refl _) fun y17 => (hfg _)) ((hfg _))) ((hfg _))) ((hfg _))) (LeO.refl _)
  | .j0 y1 x4 y6 x7 b31 => LeO.ite (LeO.bind (LeO.refl _) fun y28 => LeO.refl _) ((hfg _))
noncomputable def roadref3_WordOf.l0_k.go (p : roadref3_WordOf.l0_k.Pt) : Option (Int × Bool) := fixF (β := fun _ => (Int × Bool)) roadref3_WordOf.l0_k.body p
noncomputable def roadref3_WordOf.l0 (y1 : T_api_Value) (y6 : (List Int)) (x7 : Int) : Option (Int × Bool) := roadref3_WordOf.l0_k.go (.l0 y1 y6 x7)
noncomputable def roadref3_WordOf.j0 (y1 : T_api_Value) (x4 : Int) (y6 : (List Int)) (x7 : Int) (b31 : Bool) : Option (Int × Bool) := roadref3_WordOf.l0_k.go (.j0 y1 x4 y6 x7 b31)
theorem roadref3_WordOf.l0_eq (y1 : T_api_Value) (y6 : (List Int)) (x7 : Int) : roadref3_WordOf.l0 y1 y6 x7 = if x7 < (4 : Int) then (Option.bind (gi y6 x7) fun y15 => if y1.Kind = y15 then (if y1.Text = (ByteArray.mk #[]) then (if (((List.length y1.Args) : Nat) : Int) = (0 : Int) then (Option.bind (roadref3_TagFits x7 y1.Num) fun y17 => (roadref3_WordOf.j0 y1 x7 y6 x7 y17)) else ((roadref3_WordOf.j0 y1 x7 y6 x7 false))) else ((roadref3_WordOf.j0 y1 x7 y6 x7 false))) else ((roadref3_WordOf.j0 y1 x7 y6 x7 false))) else (some ((0 : Int), false)) := fixF_eq roadref3_WordOf.l0_k.mono _
theorem roadref3_WordOf.j0_eq (y1 : T_api_Value) (x4 : Int) (y6 : (List Int)) (x7 : Int) (b31 : Bool) : roadref3_WordOf.j0 y1 x4 y6 x7 b31 = if b31 = true then (Option.bind (roadref3_TagWord x4 y1.Num) fun y28 => some (y28, true)) else ((roadref3_WordOf.l0 y1 y6 (IntKind.wrap .i64 (x7 + (1 : Int))))) := fixF_eq roadref3_WordOf.l0_k.mono _
def roadref3_WordOf.l0_k.I : (p : roadref3_WordOf.l0_k.Pt) → (Int × Bool) → Prop
  | .l0 y1 y6 x7, r => ∀ (h0 m0 h m : Heap) (bk1 : Nat) (cs1 : List Value) (cs6 : List Value) (S : St No h0 m0 h m) (o1 : OB No h0 h m bk1 cs1 137) (e1 : T_api_Value.E m y1 cs1) (e6 : (eArr 4 (fun n : Int => Value.int .i64 n) (0 : Int)) m y6 cs6), f121.l0 (roadref3_WordOf.post No h0 m0 r) (⟨bk1, 0, none⟩ : Addr) (Value.agg cs6.toArray) x7 h
  | .j0 y1 x4 y6 x7 b31, r => ∀ (h0 m0 h m : Heap) (bk1 : Nat) (cs1 : List Value) (cs6 : List Value) (S : St No h0 m0 h m) (o1 : OB No h0 h m bk1 cs1 137) (e1 : T_api_Value.E m y1 cs1) (e6 : (eArr 4 (fun n : Int => Value.int .i64 n) (0 : Int)) m y6 cs6), f121.j0 (roadref3_WordOf.post No h0 m0 r) (⟨bk1, 0, none⟩ : Addr) x4 (Value.agg cs6.toArray) x7 b31 h
set_option maxRecDepth 100000 in
theorem roadref3_WordOf.l0_k.step_l0 (go : (p : roadref3_WordOf.l0_k.Pt) → Option (Int × Bool)) (ih : ∀ p r, go p = some r → roadref3_WordOf.l0_k.I p r) (y1 : T_api_Value) (y6 : (List Int)) (x7 : Int) (r : Int × Bool) (e : roadref3_WordOf.l0_k.body go (.l0 y1 y6 x7) = some r) : roadref3_WordOf.l0_k.I (.l0 y1 y6 x7) r := by
  unfold roadref3_WordOf.l0_k.body at e
  intro h0 m0 h m bk1 cs1 cs6 S o1 e1 e6
  obtain ⟨Ae1_3, ce1_3, rfl, ke1_3, re1_3⟩ := T_api_Value.iff.1 e1
  have qe6_0 := e6.1
  obtain rfl : cs6 = [(Value.int .i64 (List.getD y6 0 (0 : Int))), (Value.int .i64 (List.getD y6 1 (0 : Int))), (Value.int .i64 (List.getD y6 2 (0 : Int))), (Value.int .i64 (List.getD y6 3 (0 : Int)))] := e6.2
  refine f121.l0_in ?_
  unfold f121.l0T
  refine split_dec_e e (fun c27 e => ?_) (fun c27 e => ?_)
  · obtain ⟨y15, g16, e⟩ := bind_e e
    refine ⟨gi_le g16, gi_ltn g16 qe6_0, _, fldArr (n := 4) (f := (fun n : Int => Value.int .i64 n)) (d := (0 : Int)) rfl qe6_0 g16, _, rfl, ?_⟩
    refine ⟨_, ld0 (Sub.refl _) o1.all rfl, _, rfl, ?_⟩
    refine split_eq_e e (fun c26 e => ?_) (fun c26 e => ?_)
    · refine ⟨_, ldk (k := 2) (Sub.refl _) o1.all rfl, _, rfl, ?_⟩
      try rw [ba_list y1.Text (ByteArray.mk #[])]
      refine split_dec_e e (fun c25 e => ?_) (fun c25 e => ?_)
      · refine ⟨_, ldk (k := 3) (Sub.refl _) o1.all rfl, _, _, _, rfl, ?_⟩
        refine split_eq_e e (fun c24 e => ?_) (fun c24 e => ?_)
        · refine ⟨_, ldk (k := 1) (Sub.refl _) o1.all rfl, _, rfl, ?_⟩
          obtain ⟨y17, g18, e⟩ := bind_e e
          refine (roadref3_TagFits.walk S.s  g18).mono ?_
          rintro _ h19 ⟨m20, T21, rfl⟩
          have S22 := S.grow T21
          have o23 := o1.step T21 Dj.no
          refine ⟨_, rfl, ?_⟩
          exact (ih _ _ e) _ _ _ _ _ _ _ S22 o23 (T_api_Value.iff.2 ⟨_, _, rfl, ke1_3, (re1_3.sub T_api_Value.T T21.up)⟩) ⟨qe6_0, rfl⟩
        · exact (ih _ _ e) _ _ _ _ _ _ _ S o1 (T_api_Value.iff.2 ⟨_, _, rfl, ke1_3, re1_3⟩) ⟨qe6_0, rfl⟩
      · exact (ih _ _ e) _ _ _ _ _ _ _ S o1 (T_api_Value.iff.2 ⟨_, _, rfl, ke1_3, re1_3⟩) ⟨qe6_0, rfl⟩
    · exact (ih _ _ e) _ _ _ _ _ _ _ S o1 (T_api_Value.iff.2 ⟨_, _, rfl, ke1_3, re1_3⟩) ⟨qe6_0, rfl⟩
  · cases e
    exact ⟨_, S, rfl⟩
set_option maxRecDepth 100000 in
theorem roadref3_WordOf.l0_k.step_j0 (go : (p : roadref3_WordOf.l0_k.Pt) → Option (Int × Bool)) (ih : ∀ p r, go p = some r → roadref3_WordOf.l0_k.I p r) (y1 : T_api_Value) (x4 : Int) (y6 : (List Int)) (x7 : Int) (b31 : Bool) (r : Int × Bool) (e : roadref3_WordOf.l0_k.body go (.j0 y1 x4 y6 x7 b31) = some r) : roadref3_WordOf.l0_k.I (.j0 y1 x4 y6 x7 b31) r := by
  unfold roadref3_WordOf.l0_k.body at e
  intro h0 m0 h m bk1 cs1 cs6 S o1 e1 e6
  obtain ⟨Ae1_3, ce1_3, rfl, ke1_3, re1_3⟩ := T_api_Value.iff.1 e1
  have qe6_0 := e6.1
  obtain rfl : cs6 = [(Value.int .i64 (List.getD y6 0 (0 : Int))), (Value.int .i64 (List.getD y6 1 (0 : Int))), (Value.int .i64 (List.getD y6 2 (0 : Int))), (Value.int .i64 (List.getD y6 3 (0 : Int)))] := e6.2
  refine f121.j0_in ?_
  unfold f121.j0T
  refine split_any_e e (fun c35 e => ?_) (fun c35 e => ?_)
  · refine ⟨_, ldk (k := 1) (Sub.refl _) o1.all rfl, _, rfl, ?_⟩
    obtain ⟨y28, g29, e⟩ := bind_e e
    refine (roadref3_TagWord.walk S.s  g29).mono ?_
    rintro _ h30 ⟨m31, T32, rfl⟩
    have S33 := S.grow T32
    have o34 := o1.step T32 Dj.no
    refine ⟨_, rfl, ?_⟩
    cases e
    exact ⟨_, S33, rfl⟩
  · exact (ih _ _ e) _ _ _ _ _ _ _ S o1 (T_api_Value.iff.2 ⟨_, _, rfl, ke1_3, re1_3⟩) ⟨qe6_0, rfl⟩
theorem roadref3_WordOf.l0_k.all {p : roadref3_WordOf.l0_k.Pt} {r : (Int × Bool)} (e : roadref3_WordOf.l0_k.go p = some r) : roadref3_WordOf.l0_k.I p r := fixF_ind (β := fun _ => (Int × Bool)) roadref3_WordOf.l0_k.mono (I := roadref3_WordOf.l0_k.I) (fun go ih p r e => match p with
  | .l0 y1 y6 x7 => roadref3_WordOf.l0_k.step_l0 go ih y1 y6 x7 r e
  | .j0 y1 x4 y6 x7 b31 => roadref3_WordOf.l0_k.step_j0 go ih y1 x4 y6 x7 b31 r e
  ) e
theorem roadref3_WordOf.l0.walk {h0 m0 h m : Heap} {bk1 : Nat} {cs1 : List Value} {cs6 : List Value} {y1 : T_api_Value} {y6 : (List Int)} {x7 : Int} (S : St No h0 m0 h m) (o1 : OB No h0 h m bk1 cs1 137) (e1 : T_api_Value.E m y1 cs1) (e6 : (eArr 4 (fun n : Int => Value.int .i64 n) (0 : Int)) m y6 cs6) {r : Int × Bool} (e : roadref3_WordOf.l0 y1 y6 x7 = some r) : f121.l0 (roadref3_WordOf.post No h0 m0 r) (⟨bk1, 0, none⟩ : Addr) (Value.agg cs6.toArray) x7 h := roadref3_WordOf.l0_k.all (p := .l0 y1 y6 x7) e h0 m0 h m bk1 cs1 cs6 S o1 e1 e6
theorem roadref3_WordOf.j0.walk {h0 m0 h m : Heap} {bk1 : Nat} {cs1 : List Value} {cs6 : List Value} {y1 : T_api_Value} {x4 : Int} {y6 : (List Int)} {x7 : Int} {b31 : Bool} (S : St No h0 m0 h m) (o1 : OB No h0 h m bk1 cs1 137) (e1 : T_api_Value.E m y1 cs1) (e6 : (eArr 4 (fun n : Int => Value.int .i64 n) (0 : Int)) m y6 cs6) {r : Int × Bool} (e : roadref3_WordOf.j0 y1 x4 y6 x7 b31 = some r) : f121.j0 (roadref3_WordOf.post No h0 m0 r) (⟨bk1, 0, none⟩ : Addr) x4 (Value.agg cs6.toArray) x7 b31 h := roadref3_WordOf.l0_k.all (p := .j0 y1 x4 y6 x7 b31) e h0 m0 h m bk1 cs1 cs6 S o1 e1 e6

noncomputable def roadref3_WordOf (y0 : T_api_Value) : Option (Int × Bool) :=
  Option.bind (roadref3_valueKinds ) fun y6 => (roadref3_WordOf.l0 y0 y6 (0 : Int))
set_option maxRecDepth 100000 in
theorem roadref3_WordOf.walk {h m : Heap} {cs0 : List Value} {y0 : T_api_Value} (s : Sub m h) (e0 : T_api_Value.E m y0 cs0) {r : Int × Bool} (e : roadref3_WordOf y0 = some r) : Run Try.prog 121 #[Value.agg cs0.toArray] h (roadref3_WordOf.post No h m r) := by
  unfold roadref3_WordOf at e
  obtain ⟨Ae0_3, ce0_3, rfl, ke0_3, re0_3⟩ := T_api_Value.iff.1 e0
  have S : St No h m h m := .refl s
  refine f121.run ?_
  unfold f121.runT
  refine new_in S fun h1 o2 x3 => ?_
  have S4 := S.ext' x3
  have o2 : OB _ _ h1 _ (Array.size h) [(Value.int .i64 y0.Kind), (Value.int .i64 y0.Num), (Value.string y0.Text), (Value.slice Ae0_3 (List.length y0.Args) ce0_3)] 137 := o2
  obtain ⟨y6, g7, e⟩ := bind_e e
  refine (roadref3_valueKinds.walk S4.s  g7).mono ?_
  rintro _ h8 ⟨m9, cs11, T10, rfl, he12⟩
  have qhe12_0 := he12.1
  obtain rfl : cs11 = [(Value.int .i64 (List.getD y6 0 (0 : Int))), (Value.int .i64 (List.getD y6 1 (0 : Int))), (Value.int .i64 (List.getD y6 2 (0 : Int))), (Value.int .i64 (List.getD y6 3 (0 : Int)))] := he12.2
  have S13 := S4.grow T10
  have o14 := o2.step T10 Dj.no
  exact roadref3_WordOf.l0.walk S13 o14 (T_api_Value.iff.2 ⟨_, _, rfl, ke0_3, (re0_3.sub T_api_Value.T T10.up)⟩) ⟨qhe12_0, rfl⟩ e

/-! ### 70 roadstead/roadref3.Built -/
def roadref3_Built.post (W : Nat → Prop) (h0 m0 : Heap) (r : (List Int) × Int × Int) (v : Value) (h : Heap) : Prop := ∃ m A0 n0 c0, St W h0 m0 h m ∧ v = .tuple #[.slice A0 n0 c0, .int .u64 r.2.1, .int .i64 r.2.2] ∧ n0 = r.1.length ∧ r.1.length ≤ c0 ∧ Rd 1 (eInt .u64) m A0 r.1
inductive roadref3_Built_k.Pt where
  | f (a0 : List Int) (y1 : T_api_Value)
  | j1 (a0 : List Int) (y3 : T_api_Value) (x9 : Int) (b44 : Bool)
  | j0 (a0 : List Int) (y3 : T_api_Value) (x9 : Int)
  | l0 (a0 : List Int) (x10_0 : Int) (x10_1 : Int) (x10_2 : Int) (s10_3 : ByteArray) (a10_4 : List Int) (a52 : List T_api_Value) (x53 : Int) (x54 : Int)
noncomputable def roadref3_Built_k.body (go : (p : roadref3_Built_k.Pt) → Option ((List Int) × Int × Int)) : (p : roadref3_Built_k.Pt) → Option ((List Int) × Int × Int)
  | .f a0 y1 => Option.bind (roadref3_WordOf y1) fun y6 => if y6.2 = true then (some (a0, y6.1, (0 : Int))) else (Option.bind (some (pset ([] : (List (Int × Int))) (2 : Int) (1 : Int))) fun l23 => Option.bind (some (pset l23 (4 : Int) (2 : Int))) fun l30 => Option.bind (some (pset l30 (5 : Int) (3 : Int))) fun l37 => Option.bind (some (pset l37 (7 : Int) (4 : Int))) fun l44 => Option.bind (some (pset l44 (8 : Int) (5 : Int))) fun l51 => if (pgd l51 y1.Kind (0 : Int)) = (0 : Int) then ((go (.j1 a0 y1 (pgd l51 y1.Kind (0 : Int)) true))) else (if y1.Num = (0 : Int) then ((go (.j1 a0 y1 (pgd l51 y1.Kind (0 : Int)) false))) else (if (pgd l51 y1.Kind (0 : Int)) = (1 : Int) then ((go (.j1 a0 y1 (pgd l51 y1.Kind (0 : Int)) false))) else ((go (.j1 a0 y1 (pgd l51 y1.Kind (0 : Int)) ((pgd l51 y1.Kind (0 : Int)) != (4 : Int))))))))
  | .j1 a0 y3 x9 b44 => if b44 = true then (some ([], (0 : Int), (1 : Int))) else ((go (.j0 a0 y3 x9)))
  | .j0 a0 y3 x9 => (go (.l0 a0 (0 : Int) x9 y3.Num y3.Text ([] : List Int) y3.Args (((List.length y3.Args) : Nat) : Int) (0 : Int)))
  | .l0 a0 x10_0 x10_1 x10_2 s10_3 a10_4 a52 x53 x54 => if x54 < x53 then (Option.bind (gi a52 x54) fun y77 => Option.bind ((go (.f a0 y77))) fun y100 => if y100.2.2 = (0 : Int) then (Option.bind (ap 8 a10_4 ([y100.2.1] : List Int)) fun l127 => (go (.l0 y100.1 x10_0 x10_1 x10_2 s10_3 l127 a52 x53 (IntKind.wrap .i64 (x54 + (1 : Int)))))) else (some ([], (0 : Int), y100.2.2))) else (Option.bind (roadref3_ObjectIs (T_heap_Object.mk x10_0 x10_1 x10_2 s10_3 a10_4)) fun y160 => if y160 = true then (Option.bind (roadref3_ObjectWords (T_heap_Object.mk x10_0 x10_1 x10_2 s10_3 a10_4)) fun y167 => if (IntKind.wrap .i64 ((((List.length a0) : Nat) : Int) + (((List.length y167) : Nat) : Int))) > (4000 : Int) then (some ([], (0 : Int), (6 : Int))) else (Option.bind (ap 8 ([] : List Int) a0) fun l182 => Option.bind (ap 8 l182 y167) fun l198 => Option.bind (roadref3_TagWord (4 : Int) (((List.length a0) : Nat) : Int)) fun y212 => some (l198, y212, (0 : Int)))) else (some ([], (0 : Int), (1 : Int))))
theorem roadref3_Built_k.mono : MonoF (β := fun _ => ((List Int) × Int × Int)) roadref3_Built_k.body := fun f g hfg p => match p with
  | .f a0 y1 => LeO.bind (LeO.refl _) fun y6 => LeO.ite (LeO.refl _) (LeO.bind (LeO.refl _) fun l23 => LeO.bind (LeO.refl _) fun l30 => LeO.bind (LeO.refl _) fun l37 => LeO.bind (LeO.refl _) fun l44 => LeO.bind (LeO.refl _) fun l51 => LeO.ite ((hfg _)) (LeO.ite ((hfg _)) (LeO.ite ((hfg _)) ((hfg _)))))
  | .j1 a0 y3 x9 b44 => LeO.ite (LeO.refl _) ((hfg _))
  | .j0 a0 y3 x9 => (hfg _)
  | .l0 a0 x10_0 x10_1 x10_2 s10_3 a10_4 a52 x53 x54 => LeO.ite (LeO.bind (LeO.refl _) fun y77 => LeO.bind ((hfg _)) fun y100 => LeO.ite (LeO.bind (LeO.refl _) fun l127 => (hfg _)) (LeO.refl _)) (LeO.bind (LeO.refl _) fun y160 => LeO.ite (LeO.bind (LeO.refl _) fun y167 => LeO.ite (LeO.refl _) (LeO.bind (LeO.refl _) fun l182 => LeO.bind (LeO.refl _) fun l198 => LeO.bind (LeO.refl _) fun y212 => LeO.refl _)) (LeO.refl _))
noncomputable def roadref3_Built_k.go (p : roadref3_Built_k.Pt) : Option ((List Int) × Int × Int) := fixF (β := fun _ => ((List Int) × Int × Int)) roadref3_Built_k.body p
noncomputable def roadref3_Built (a0 : List Int) (y1 : T_api_Value) : Option ((List Int) × Int × Int) := roadref3_Built_k.go (.f a0 y1)
noncomputable def roadref3_Built.j1 (a0 : List Int) (y3 : T_api_Value) (x9 : Int) (b44 : Bool) : Option ((List Int) × Int × Int) := roadref3_Built_k.go (.j1 a0 y3 x9 b44)
noncomputable def roadref3_Built.j0 (a0 : List Int) (y3 : T_api_Value) (x9 : Int) : Option ((List Int) × Int × Int) := roadref3_Built_k.go (.j0 a0 y3 x9)
noncomputable def roadref3_Built.l0 (a0 : List Int) (x10_0 : Int) (x10_1 : Int) (x10_2 : Int) (s10_3 : ByteArray) (a10_4 : List Int) (a52 : List T_api_Value) (x53 : Int) (x54 : Int) : Option ((List Int) × Int × Int) := roadref3_Built_k.go (.l0 a0 x10_0 x10_1 x10_2 s10_3 a10_4 a52 x53 x54)
theorem roadref3_Built_eq (a0 : List Int) (y1 : T_api_Value) : roadref3_Built a0 y1 = Option.bind (roadref3_WordOf y1) fun y6 => if y6.2 = true then (some (a0, y6.1, (0 : Int))) else (Option.bind (some (pset ([] : (List (Int × Int))) (2 : Int) (1 : Int))) fun l23 => Option.bind (some (pset l23 (4 : Int) (2 : Int))) fun l30 => Option.bind (some (pset l30 (5 : Int) (3 : Int))) fun l37 => Option.bind (some (pset l37 (7 : Int) (4 : Int))) fun l44 => Option.bind (some (pset l44 (8 : Int) (5 : Int))) fun l51 => if (pgd l51 y1.Kind (0 : Int)) = (0 : Int) then ((roadref3_Built.j1 a0 y1 (pgd l51 y1.Kind (0 : Int)) true)) else (if y1.Num = (0 : Int) then ((roadref3_Built.j1 a0 y1 (pgd l51 y1.Kind (0 : Int)) false)) else (if (pgd l51 y1.Kind (0 : Int)) = (1 : Int) then ((roadref3_Built.j1 a0 y1 (pgd l51 y1.Kind (0 : Int)) false)) else ((roadref3_Built.j1 a0 y1 (pgd l51 y1.Kind (0 : Int)) ((pgd l51 y1.Kind (0 : Int)) != (4 : Int))))))) := fixF_eq roadref3_Built_k.mono _
theorem roadref3_Built.j1_eq (a0 : List Int) (y3 : T_api_Value) (x9 : Int) (b44 : Bool) : roadref3_Built.j1 a0 y3 x9 b44 = if b44 = true then (some ([], (0 : Int), (1 : Int))) else ((roadref3_Built.j0 a0 y3 x9)) := fixF_eq roadref3_Built_k.mono _
theorem roadref3_Built.j0_eq (a0 : List Int) (y3 : T_api_Value) (x9 : Int) : roadref3_Built.j0 a0 y3 x9 = (roadref3_Built.l0 a0 (0 : Int) x9 y3.Num y3.Text ([] : List Int) y3.Args (((List.length y3.Args) : Nat) : Int) (0 : Int)) := fixF_eq roadref3_Built_k.mono _
theorem roadref3_Built.l0_eq (a0 : List Int) (x10_0 : Int) (x10_1 : Int) (x10_2 : Int) (s10_3 : ByteArray) (a10_4 : List Int) (a52 : List T_api_Value) (x53 : Int) (x54 : Int) : roadref3_Built.l0 a0 x10_0 x10_1 x10_2 s10_3 a10_4 a52 x53 x54 = if x54 < x53 then (Option.bind (gi a52 x54) fun y77 => Option.bind ((roadref3_Built a0 y77)) fun y100 => if y100.2.2 = (0 : Int) then (Option.bind (ap 8 a10_4 ([y100.2.1] : List Int)) fun l127 => (roadref3_Built.l0 y100.1 x10_0 x10_1 x10_2 s10_3 l127 a52 x53 (IntKind.wrap .i64 (x54 + (1 : Int))))) else (some ([], (0 : Int), y100.2.2))) else (Option.bind (roadref3_ObjectIs (T_heap_Object.mk x10_0 x10_1 x10_2 s10_3 a10_4)) fun y160 => if y160 = true then (Option.bind (roadref3_ObjectWords (T_heap_Object.mk x10_0 x10_1 x10_2 s10_3 a10_4)) fun y167 => if (IntKind.wrap .i64 ((((List.length a0) : Nat) : Int) + (((List.length y167) : Nat) : Int))) > (4000 : Int) then (some ([], (0 : Int), (6 : Int))) else (Option.bind (ap 8 ([] : List Int) a0) fun l182 => Option.bind (ap 8 l182 y167) fun l198 => Option.bind (roadref3_TagWord (4 : Int) (((List.length a0) : Nat) : Int)) fun y212 => some (l198, y212, (0 : Int)))) else (some ([], (0 : Int), (1 : Int)))) := fixF_eq roadref3_Built_k.mono _
def roadref3_Built_k.I : (p : roadref3_Built_k.Pt) → ((List Int) × Int × Int) → Prop
  | .f a0 y1, r => ∀ (h m : Heap) (A0 : Option Addr) (n0 c0 : Nat) (cs1 : List Value) (s : Sub m h) (ne0 : n0 = List.length a0) (k0 : List.length a0 ≤ c0) (r0 : Rd 1 (eInt .u64) m A0 a0) (e1 : T_api_Value.E m y1 cs1), Run Try.prog 70 #[Value.slice A0 n0 c0, Value.agg cs1.toArray] h (roadref3_Built.post No h m r)
  | .j1 a0 y3 x9 b44, r => ∀ (h0 m0 h m : Heap) (A0 : Option Addr) (n0 c0 : Nat) (bk3 : Nat) (cs3 : List Value) (S : St No h0 m0 h m) (ne0 : n0 = List.length a0) (k0 : List.length a0 ≤ c0) (r0 : Rd 1 (eInt .u64) m A0 a0) (o3 : OB No h0 h m bk3 cs3 137) (e3 : T_api_Value.E m y3 cs3), f70.j1 (roadref3_Built.post No h0 m0 r) A0 n0 c0 (⟨bk3, 0, none⟩ : Addr) x9 b44 h
  | .j0 a0 y3 x9, r => ∀ (h0 m0 h m : Heap) (A0 : Option Addr) (n0 c0 : Nat) (bk3 : Nat) (cs3 : List Value) (S : St No h0 m0 h m) (ne0 : n0 = List.length a0) (k0 : List.length a0 ≤ c0) (r0 : Rd 1 (eInt .u64) m A0 a0) (o3 : OB No h0 h m bk3 cs3 137) (e3 : T_api_Value.E m y3 cs3), f70.j0 (roadref3_Built.post No h0 m0 r) A0 n0 c0 (⟨bk3, 0, none⟩ : Addr) x9 h
  | .l0 a0 x10_0 x10_1 x10_2 s10_3 a10_4 a52 x53 x54, r => ∀ (h0 m0 h m : Heap) (A0 : Option Addr) (n0 c0 : Nat) (bk10 : Nat) (A10_4 : Option Addr) (n10_4 c10_4 : Nat) (A52 : Option Addr) (n52 c52 : Nat) (S : St No h0 m0 h m) (ne0 : n0 = List.length a0) (k0 : List.length a0 ≤ c0) (r0 : Rd 1 (eInt .u64) m A0 a0) (o10 : OB No h0 h m bk10 [(Value.int .i64 x10_0), (Value.int .i64 x10_1), (Value.int .i64 x10_2), (Value.string s10_3), (Value.slice A10_4 n10_4 c10_4)] 202) (ne10_4 : n10_4 = List.length a10_4) (o10_4 : OS No h0 1 (eInt .u64) h m A10_4 a10_4 c10_4) (ne52 : n52 = List.length a52) (k52 : List.length a52 ≤ c52) (r52 : Rd 4 T_api_Value.E m A52 a52) (d0_1 : Dj (fb bk10) (fp A10_4 c10_4)), f70.l0 (roadref3_Built.post No h0 m0 r) A0 n0 c0 (⟨bk10, 0, none⟩ : Addr) A52 n52 c52 x53 x54 h
set_option maxRecDepth 100000 in
theorem roadref3_Built_k.step_f (go : (p : roadref3_Built_k.Pt) → Option ((List Int) × Int × Int)) (ih : ∀ p r, go p = some r → roadref3_Built_k.I p r) (a0 : List Int) (y1 : T_api_Value) (r : (List Int) × Int × Int) (e : roadref3_Built_k.body go (.f a0 y1) = some r) : roadref3_Built_k.I (.f a0 y1) r := by
  unfold roadref3_Built_k.body at e
  intro h m A0 n0 c0 cs1 s ne0 k0 r0 e1
  subst ne0
  obtain ⟨Ae1_3, ce1_3, rfl, ke1_3, re1_3⟩ := T_api_Value.iff.1 e1
  have S : St No h m h m := .refl s
  refine f70.run ?_
  unfold f70.runT
  refine new_in S fun h1 o2 x3 => ?_
  have S4 := S.ext' x3
  have o2 : OB _ _ h1 _ (Array.size h) [(Value.int .i64 y1.Kind), (Value.int .i64 y1.Num), (Value.string y1.Text), (Value.slice Ae1_3 (List.length y1.Args) ce1_3)] 137 := o2
  refine ⟨_, ldA (Sub.refl _) o2.all, ?_⟩
  obtain ⟨y6, g7, e⟩ := bind_e e
  refine (roadref3_WordOf.walk S4.s (T_api_Value.iff.2 ⟨_, _, rfl, ke1_3, re1_3⟩) g7).mono ?_
  rintro _ h8 ⟨m9, T10, rfl⟩
  have S11 := S4.grow T10
  have o12 := o2.step T10 Dj.no
  refine ⟨_, _, rfl, ?_⟩
  refine split_any_e e (fun c60 e => ?_) (fun c60 e => ?_)
  · cases e
    exact ⟨_, _, _, _, S11, rfl, rfl, k0, (r0.sub (tell_int .u64) T10.up)⟩
  · refine OM.made (ν := Int) (EV := (eV0 (eInt .i64))) (kv := (fun n : Int => Value.int .i64 n)) S11 fun h13 o14 x15 => ?_
    have d17 : Dj (fb (Array.size h)) (fb (Array.size h8)) := Dj.new o12.lt
    have o19 := o12.ext x15
    have S18 := S11.ext' x15
    obtain ⟨l23, g24, e⟩ := bind_e e
    refine OM.upd (x := (1 : Int)) (v := (Value.int .i64 (1 : Int))) o14 S18.s (keyOk_int (key := 3) (elem := 3) (by kernel_rfl) (by kernel_rfl)) (2 : Int) (show (eV0 (eInt .i64)) m9 (1 : Int) (Value.int .i64 (1 : Int)) from rfl) fun h20 o21 t22 => ?_
    have g24 := Option.some.inj g24
    rw [g24] at o21
    have S25 := S18.then t22 (fun i _ hi => o14.wr i hi)
    have o26 := o19.step t22 (d17).symm
    obtain ⟨l30, g31, e⟩ := bind_e e
    refine OM.upd (x := (2 : Int)) (v := (Value.int .i64 (2 : Int))) o21 S25.s (keyOk_int (key := 3) (elem := 3) (by kernel_rfl) (by kernel_rfl)) (4 : Int) (show (eV0 (eInt .i64)) m9 (2 : Int) (Value.int .i64 (2 : Int)) from rfl) fun h27 o28 t29 => ?_
    have g31 := Option.some.inj g31
    rw [g31] at o28
    have S32 := S25.then t29 (fun i _ hi => o21.wr i hi)
    have o33 := o26.step t29 (d17).symm
    obtain ⟨l37, g38, e⟩ := bind_e e
    refine OM.upd (x := (3 : Int)) (v := (Value.int .i64 (3 : Int))) o28 S32.s (keyOk_int (key := 3) (elem := 3) (by kernel_rfl) (by kernel_rfl)) (5 : Int) (show (eV0 (eInt .i64)) m9 (3 : Int) (Value.int .i64 (3 : Int)) from rfl) fun h34 o35 t36 => ?_
    have g38 := Option.some.inj g38
    rw [g38] at o35
    have S39 := S32.then t36 (fun i _ hi => o28.wr i hi)
    have o40 := o33.step t36 (d17).symm
    obtain ⟨l44, g45, e⟩ := bind_e e
    refine OM.upd (x := (4 : Int)) (v := (Value.int .i64 (4 : Int))) o35 S39.s (keyOk_int (key := 3) (elem := 3) (by kernel_rfl) (by kernel_rfl)) (7 : Int) (show (eV0 (eInt .i64)) m9 (4 : Int) (Value.int .i64 (4 : Int)) from rfl) fun h41 o42 t43 => ?_
    have g45 := Option.some.inj g45
    rw [g45] at o42
    have S46 := S39.then t43 (fun i _ hi => o35.wr i hi)
    have o47 := o40.step t43 (d17).symm
    obtain ⟨l51, g52, e⟩ := bind_e e
    refine OM.upd (x := (5 : Int)) (v := (Value.int .i64 (5 : Int))) o42 S46.s (keyOk_int (key := 3) (elem := 3) (by kernel_rfl) (by kernel_rfl)) (8 : Int) (show (eV0 (eInt .i64)) m9 (5 : Int) (Value.int .i64 (5 : Int)) from rfl) fun h48 o49 t50 => ?_
    have g52 := Option.some.inj g52
    rw [g52] at o49
    have S53 := S46.then t50 (fun i _ hi => o42.wr i hi)
    have o54 := o47.step t50 (d17).symm
    refine ⟨_, ld0 (Sub.refl _) o54.all rfl, _, rfl, ?_⟩
    refine OM.look (zv := (0 : Int)) (z := (Value.int .i64 (0 : Int))) o49 (keyOk_int (key := 3) (elem := 3) (by kernel_rfl) (by kernel_rfl)) y1.Kind (by kernel_rfl) rfl (fun v55 hv56 => ?_)
    obtain rfl : v55 = (Value.int .i64 (pgd l51 y1.Kind (0 : Int))) := (List.cons.inj (show [v55] = [(Value.int .i64 (pgd l51 y1.Kind (0 : Int)))] from hv56)).1
    refine ⟨_, rfl, ?_⟩
    refine split_eq_e e (fun c59 e => ?_) (fun c59 e => ?_)
    · exact (ih _ _ e) _ _ _ _ _ _ _ _ _ S53 rfl k0 (r0.sub (tell_int .u64) T10.up) o54 (T_api_Value.iff.2 ⟨_, _, rfl, ke1_3, (re1_3.sub T_api_Value.T T10.up)⟩)
    · refine ⟨_, ldk (k := 1) (Sub.refl _) o54.all rfl, _, rfl, ?_⟩
      refine split_ne_e e (fun c58 e => ?_) (fun c58 e => ?_)
      · refine split_ne_e e (fun c57 e => ?_) (fun c57 e => ?_)
        · exact (ih _ _ e) _ _ _ _ _ _ _ _ _ S53 rfl k0 (r0.sub (tell_int .u64) T10.up) o54 (T_api_Value.iff.2 ⟨_, _, rfl, ke1_3, (re1_3.sub T_api_Value.T T10.up)⟩)
        · exact (ih _ _ e) _ _ _ _ _ _ _ _ _ S53 rfl k0 (r0.sub (tell_int .u64) T10.up) o54 (T_api_Value.iff.2 ⟨_, _, rfl, ke1_3, (re1_3.sub T_api_Value.T T10.up)⟩)
      · exact (ih _ _ e) _ _ _ _ _ _ _ _ _ S53 rfl k0 (r0.sub (tell_int .u64) T10.up) o54 (T_api_Value.iff.2 ⟨_, _, rfl, ke1_3, (re1_3.sub T_api_Value.T T10.up)⟩)
set_option maxRecDepth 100000 in
theorem roadref3_Built_k.step_j1 (go : (p : roadref3_Built_k.Pt) → Option ((List Int) × Int × Int)) (ih : ∀ p r, go p = some r → roadref3_Built_k.I p r) (a0 : List Int) (y3 : T_api_Value) (x9 : Int) (b44 : Bool) (r : (List Int) × Int × Int) (e : roadref3_Built_k.body go (.j1 a0 y3 x9 b44) = some r) : roadref3_Built_k.I (.j1 a0 y3 x9 b44) r := by
  unfold roadref3_Built_k.body at e
  intro h0 m0 h m A0 n0 c0 bk3 cs3 S ne0 k0 r0 o3 e3
  subst ne0
  obtain ⟨Ae3_3, ce3_3, rfl, ke3_3, re3_3⟩ := T_api_Value.iff.1 e3
  refine f70.j1_in ?_
  unfold f70.j1T
  refine split_any_e e (fun c61 e => ?_) (fun c61 e => ?_)
  · cases e
    exact ⟨_, _, _, _, S, rfl, rfl, (Nat.le_refl 0), Rd.nil⟩
  · exact (ih _ _ e) _ _ _ _ _ _ _ _ _ S rfl k0 r0 o3 (T_api_Value.iff.2 ⟨_, _, rfl, ke3_3, re3_3⟩)
set_option maxRecDepth 100000 in
theorem roadref3_Built_k.step_j0 (go : (p : roadref3_Built_k.Pt) → Option ((List Int) × Int × Int)) (ih : ∀ p r, go p = some r → roadref3_Built_k.I p r) (a0 : List Int) (y3 : T_api_Value) (x9 : Int) (r : (List Int) × Int × Int) (e : roadref3_Built_k.body go (.j0 a0 y3 x9) = some r) : roadref3_Built_k.I (.j0 a0 y3 x9) r := by
  unfold roadref3_Built_k.body at e
  intro h0 m0 h m A0 n0 c0 bk3 cs3 S ne0 k0 r0 o3 e3
  subst ne0
  obtain ⟨Ae3_3, ce3_3, rfl, ke3_3, re3_3⟩ := T_api_Value.iff.1 e3
  refine f70.j0_in ?_
  unfold f70.j0T
  refine ⟨_, ldk (k := 1) (Sub.refl _) o3.all rfl, _, rfl, ?_⟩
  refine ⟨_, ldk (k := 2) (Sub.refl _) o3.all rfl, _, rfl, ?_⟩
  refine new_in S fun h62 o63 x64 => ?_
  have d67 : Dj (fb bk3) (fb (Array.size h)) := Dj.new o3.lt
  have o68 := o3.ext x64
  have S65 := S.ext' x64
  have o63 : OB _ _ h62 _ (Array.size h) [(Value.int .i64 (0 : Int)), (Value.int .i64 (0 : Int)), (Value.int .i64 (0 : Int)), (Value.string (ByteArray.mk #[])), (Value.slice none 0 0)] 202 := o63
  obtain ⟨h69, w70, o71, t72⟩ := o63.stA S65.s [(Value.int .i64 (0 : Int)), (Value.int .i64 x9), (Value.int .i64 y3.Num), (Value.string y3.Text), (Value.slice none 0 0)] rfl (Flats.cons trivial (Flats.cons trivial (Flats.cons trivial (Flats.cons trivial (Flats.cons trivial Flats.nil)))))
  refine ⟨[(Value.int .i64 (0 : Int)), (Value.int .i64 x9), (Value.int .i64 y3.Num), (Value.string y3.Text), (Value.slice none 0 0)], rfl, rfl, h69, w70, ?_⟩
  have o71 : OB _ _ h69 _ (Array.size h) [(Value.int .i64 (0 : Int)), (Value.int .i64 x9), (Value.int .i64 y3.Num), (Value.string y3.Text), (Value.slice none 0 0)] 202 := o71
  have S73 := S65.then t72 (fun i _ hi => o63.wr i hi)
  have o74 := o68.step t72 (d67).symm
  refine ⟨_, ldk (k := 3) (Sub.refl _) o74.all rfl, _, _, _, rfl, ?_⟩
  have o76 : OS No h0 1 (eInt .u64) h69 m none ([] : List Int) 0 := .inl ⟨rfl, rfl⟩
  exact (ih _ _ e) _ _ _ _ _ _ _ _ _ _ _ _ _ _ S73 rfl k0 r0 o71 rfl o76 rfl ke3_3 re3_3 (show Dj (fb (Array.size h)) (fp none 0) from Dj.nil)
set_option maxRecDepth 100000 in
theorem roadref3_Built_k.step_l0 (go : (p : roadref3_Built_k.Pt) → Option ((List Int) × Int × Int)) (ih : ∀ p r, go p = some r → roadref3_Built_k.I p r) (a0 : List Int) (x10_0 : Int) (x10_1 : Int) (x10_2 : Int) (s10_3 : ByteArray) (a10_4 : List Int) (a52 : List T_api_Value) (x53 : Int) (x54 : Int) (r : (List Int) × Int × Int) (e : roadref3_Built_k.body go (.l0 a0 x10_0 x10_1 x10_2 s10_3 a10_4 a52 x53 x54) = some r) : roadref3_Built_k.I (.l0 a0 x10_0 x10_1 x10_2 s10_3 a10_4 a52 x53 x54) r := by
  unfold roadref3_Built_k.body at e
  intro h0 m0 h m A0 n0 c0 bk10 A10_4 n10_4 c10_4 A52 n52 c52 S ne0 k0 r0 o10 ne10_4 o10_4 ne52 k52 r52 d0_1
  subst ne0
  subst ne10_4
  subst ne52
  refine f70.l0_in ?_
  unfold f70.l0T
  refine split_dec_e e (fun c231 e => ?_) (fun c231 e => ?_)
  · obtain ⟨y77, g78, e⟩ := bind_e e
    refine r52.addr rfl g78 fun a79 cs80 ha81 hc82 he83 => ?_
    obtain ⟨Aa79_3, ca79_3, rfl, ka79_3, ra79_3⟩ := T_api_Value.iff.1 he83
    refine ⟨_, ldA S.s hc82, ?_⟩
    refine new_in S fun h84 o85 x86 => ?_
    have d89 : Dj (fp A10_4 c10_4) (fb (Array.size h)) := Dj.new o10_4.lt
    have d90 : Dj (fb bk10) (fb (Array.size h)) := Dj.new o10.lt
    have o91 := o10_4.ext (tell_int .u64) S.s x86
    have o92 := o10.ext x86
    have S87 := S.ext' x86
    have o85 : OB _ _ h84 _ (Array.size h) [(Value.int .i64 (0 : Int)), (Value.int .i64 (0 : Int)), (Value.string (ByteArray.mk #[])), (Value.slice none 0 0)] 137 := o85
    obtain ⟨h93, w94, o95, t96⟩ := o85.stA S87.s [(Value.int .i64 y77.Kind), (Value.int .i64 y77.Num), (Value.string y77.Text), (Value.slice Aa79_3 (List.length y77.Args) ca79_3)] rfl (Flats.cons trivial (Flats.cons trivial (Flats.cons trivial (Flats.cons trivial Flats.nil))))
    refine ⟨[(Value.int .i64 y77.Kind), (Value.int .i64 y77.Num), (Value.string y77.Text), (Value.slice Aa79_3 (List.length y77.Args) ca79_3)], rfl, rfl, h93, w94, ?_⟩
    have o95 : OB _ _ h93 _ (Array.size h) [(Value.int .i64 y77.Kind), (Value.int .i64 y77.Num), (Value.string y77.Text), (Value.slice Aa79_3 (List.length y77.Args) ca79_3)] 137 := o95
    have S97 := S87.then t96 (fun i _ hi => o85.wr i hi)
    have o98 := o91.step (tell_int .u64) t96 (d89).symm
    have o99 := o92.step t96 (d90).symm
    refine ⟨_, ldA (Sub.refl _) o95.all, ?_⟩
    obtain ⟨y100, g101, e⟩ := bind_e e
    refine ((ih _ _ g101) _ _ _ _ _ _ S97.s rfl k0 r0 (T_api_Value.iff.2 ⟨_, _, rfl, ka79_3, ra79_3⟩)).mono ?_
    rintro _ h102 ⟨m103, A105, n106, c107, T104, rfl, ne108, k109, r110⟩
    subst ne108
    have S111 := S97.grow T104
    have o112 := o98.step (tell_int .u64) T104 Dj.no
    have o113 := o99.step T104 Dj.no
    have o114 := o95.step T104 Dj.no
    refine ⟨_, _, _, _, _, rfl, ?_⟩
    refine split_ne_e e (fun c150 e => ?_) (fun c150 e => ?_)
    · cases e
      exact ⟨_, _, _, _, S111, rfl, rfl, (Nat.le_refl 0), Rd.nil⟩
    · refine ⟨_, ldk (k := 4) (Sub.refl _) o113.all rfl, _, _, _, rfl, ?_⟩
      refine new_in S111 fun h115 o116 x117 => ?_
      have d120 : Dj (fp A10_4 c10_4) (fb (Array.size h102)) := Dj.new o112.lt
      have d121 : Dj (fb bk10) (fb (Array.size h102)) := Dj.new o113.lt
      have d122 : Dj (fb (Array.size h)) (fb (Array.size h102)) := Dj.new o114.lt
      have o123 := o112.ext (tell_int .u64) S111.s x117
      have o124 := o113.ext x117
      have o125 := o114.ext x117
      have S118 := S111.ext' x117
      have o116 : OB _ _ h115 _ (Array.size h102) [(Value.int .u64 y100.2.1)] 98 := o116
      have o126 : OS _ _ 1 (eInt .u64) h115 m103 (some ⟨(Array.size h102), 0, none⟩) ([y100.2.1] : List Int) 1 := OB.row o116 (CsE.cons (c1 := [(Value.int .u64 y100.2.1)]) rfl rfl CsE.nil) rfl
      obtain ⟨l127, g128, e⟩ := bind_e e
      refine o123.app (tell_int .u64) S118 rfl rfl (o126.srcE rfl) (by decide) g128 fun A129 c130 h131 o132 t133 n134 => ?_
      refine ⟨_, _, _, rfl, ?_⟩
      have d136 : Dj (fb bk10) (fp A129 c130) := Dj.app d0_1 o124.lt n134
      have d137 : Dj (fb (Array.size h)) (fp A129 c130) := Dj.app (d89).symm o125.lt n134
      have d138 : Dj (fp (some ⟨(Array.size h102), 0, none⟩) 1) (fp A129 c130) := Dj.app ((d120.row)).symm o126.lt n134
      have S139 := S118.then t133 (fun i _ hi => o123.wr i hi)
      have o140 := o124.step t133 (d0_1).symm
      have o141 := o125.step t133 d89
      have o142 := o126.step (tell_int .u64) t133 (d120.row)
      obtain ⟨h143, w144, o145, t146⟩ := o140.st (k := 4) S139.s (v := (Value.slice A129 (List.length l127) c130)) (Nat.le_of_ble_eq_true rfl) trivial
      refine ⟨h143, w144, ?_⟩
      have o145 : OB _ _ h143 _ bk10 [(Value.int .i64 x10_0), (Value.int .i64 x10_1), (Value.int .i64 x10_2), (Value.string s10_3), (Value.slice A129 (List.length l127) c130)] 202 := o145
      have S147 := S139.then t146 (fun i _ hi => o140.wr i hi)
      have o148 := o141.step t146 d90
      have o149 := o132.step (tell_int .u64) t146 d136
      exact (ih _ _ e) _ _ _ _ _ _ _ _ _ _ _ _ _ _ S147 rfl k109 r110 o145 rfl o149 rfl k52 (r52.sub T_api_Value.T T104.up) d136
  · refine ⟨_, ldA (Sub.refl _) o10.all, ?_⟩
    obtain ⟨y160, g161, e⟩ := bind_e e
    obtain ⟨m155, L154, u151, s152, t153⟩ := St.lend S.s (fp A10_4 c10_4)
    have r156 : Rd 1 (eInt .u64) m155 A10_4 a10_4 := o10_4.lent (tell_int .u64) S.s L154 (fun _ h => h)
    have k157 := o10_4.cap
    have S158 := S.then t153 (fun i _ hi => o10_4.wr i hi)
    have o159 := o10.step t153 (d0_1).symm
    refine (roadref3_ObjectIs.walk S158.s (show T_heap_Object.E _ (T_heap_Object.mk x10_0 x10_1 x10_2 s10_3 a10_4) [(Value.int .i64 x10_0), (Value.int .i64 x10_1), (Value.int .i64 x10_2), (Value.string s10_3), (Value.slice A10_4 (List.length a10_4) c10_4)] from ⟨_, _, rfl, k157, r156⟩) g161).mono ?_
    rintro _ h162 ⟨m163, T164, rfl⟩
    have S165 := S158.grow T164
    have o166 := o159.step T164 Dj.no
    refine ⟨_, rfl, ?_⟩
    refine split_not ?_
    refine split_any_e e (fun c230 e => ?_) (fun c230 e => ?_)
    · refine ⟨_, ldA (Sub.refl _) o166.all, ?_⟩
      obtain ⟨y167, g168, e⟩ := bind_e e
      refine (roadref3_ObjectWords.walk S165.s (show T_heap_Object.E _ (T_heap_Object.mk x10_0 x10_1 x10_2 s10_3 a10_4) [(Value.int .i64 x10_0), (Value.int .i64 x10_1), (Value.int .i64 x10_2), (Value.string s10_3), (Value.slice A10_4 (List.length a10_4) c10_4)] from ⟨_, _, rfl, k157, (r156.sub (tell_int .u64) T164.up)⟩) g168).mono ?_
      rintro _ h169 ⟨m170, A172, n173, c174, T171, rfl, ne175, o176⟩
      subst ne175
      have S178 := S165.grow T171
      have o179 := o166.step T171 Dj.no
      have d181 : Dj (fb bk10) (fp A172 c174) := fun i h1 h2 => absurd (o166.lt i h1) (Nat.not_lt.2 ((o176.new i h2).elim (fun h => h.elim) id))
      have o180 := o176.take S165 (fun _ h => h.elim)
      refine ⟨_, _, _, rfl, ?_⟩
      refine split_dec_e e (fun c229 e => ?_) (fun c229 e => ?_)
      · cases e
        exact ⟨_, _, _, _, S178, rfl, rfl, (Nat.le_refl 0), Rd.nil⟩
      · obtain ⟨l182, g183, e⟩ := bind_e e
        have o191 : OS No h0 1 (eInt .u64) h169 m170 none ([] : List Int) 0 := .inl ⟨rfl, rfl⟩
        refine o191.app (tell_int .u64) S178 rfl rfl (Rd.srcE (r0.sub (tell_int .u64) (t153.up.trans (T164.up.trans T171.up))) (tell_int .u64) S178.s rfl) (by decide) g183 fun A184 c185 h186 o187 t188 n189 => ?_
        refine ⟨_, _, _, rfl, ?_⟩
        have d193 : Dj (fb bk10) (fp A184 c185) := Dj.app (show Dj (fb bk10) (fp none 0) from Dj.nil) o179.lt n189
        have d194 : Dj (fp A172 c174) (fp A184 c185) := Dj.app (show Dj (fp A172 c174) (fp none 0) from Dj.nil) o180.lt n189
        have S195 := S178.then t188 (fun i _ hi => o191.wr i hi)
        have o196 := o179.step t188 ((show Dj (fb bk10) (fp none 0) from Dj.nil)).symm
        have o197 := o180.step (tell_int .u64) t188 ((show Dj (fp A172 c174) (fp none 0) from Dj.nil)).symm
        obtain ⟨l198, g199, e⟩ := bind_e e
        refine o187.app (tell_int .u64) S195 rfl rfl (o197.srcE rfl) (by decide) g199 fun A200 c201 h202 o203 t204 n205 => ?_
        refine ⟨_, _, _, rfl, ?_⟩
        have d207 : Dj (fb bk10) (fp A200 c201) := Dj.app d193 o196.lt n205
        have d208 : Dj (fp A172 c174) (fp A200 c201) := Dj.app d194 o197.lt n205
        have S209 := S195.then t204 (fun i _ hi => o187.wr i hi)
        have o210 := o196.step t204 (d193).symm
        have o211 := o197.step (tell_int .u64) t204 (d194).symm
        obtain ⟨y212, g213, e⟩ := bind_e e
        refine (roadref3_TagWord.walk S209.s  g213).mono ?_
        rintro _ h214 ⟨m215, T216, rfl⟩
        have S217 := S209.grow T216
        have o218 := o210.step T216 Dj.no
        have o219 := o203.step (tell_int .u64) T216 Dj.no
        refine ⟨_, rfl, ?_⟩
        obtain ⟨m224, L223, u220, s221, t222⟩ := St.lend S217.s (fp A200 c201)
        have r225 : Rd 1 (eInt .u64) m224 A200 l198 := o219.lent (tell_int .u64) S217.s L223 (fun _ h => h)
        have k226 := o219.cap
        have S227 := S217.then t222 (fun i _ hi => o219.wr i hi)
        have o228 := o218.step t222 (d207).symm
        cases e
        exact ⟨_, _, _, _, S227, rfl, rfl, k226, r225⟩
    · cases e
      exact ⟨_, _, _, _, S165, rfl, rfl, (Nat.le_refl 0), Rd.nil⟩
theorem roadref3_Built_k.all {p : roadref3_Built_k.Pt} {r : ((List Int) × Int × Int)} (e : roadref3_Built_k.go p = some r) : roadref3_Built_k.I p r := fixF_ind (β := fun _ => ((List Int) × Int × Int)) roadref3_Built_k.mono (I := roadref3_Built_k.I) (fun go ih p r e => match p with
  | .f a0 y1 => roadref3_Built_k.step_f go ih a0 y1 r e
  | .j1 a0 y3 x9 b44 => roadref3_Built_k.step_j1 go ih a0 y3 x9 b44 r e
  | .j0 a0 y3 x9 => roadref3_Built_k.step_j0 go ih a0 y3 x9 r e
  | .l0 a0 x10_0 x10_1 x10_2 s10_3 a10_4 a52 x53 x54 => roadref3_Built_k.step_l0 go ih a0 x10_0 x10_1 x10_2 s10_3 a10_4 a52 x53 x54 r e
  ) e
theorem roadref3_Built.walk {h m : Heap} {A0 : Option Addr} {n0 c0 : Nat} {cs1 : List Value} {a0 : List Int} {y1 : T_api_Value} (s : Sub m h) (ne0 : n0 = List.length a0) (k0 : List.length a0 ≤ c0) (r0 : Rd 1 (eInt .u64) m A0 a0) (e1 : T_api_Value.E m y1 cs1) {r : (List Int) × Int × Int} (e : roadref3_Built a0 y1 = some r) : Run Try.prog 70 #[Value.slice A0 n0 c0, Value.agg cs1.toArray] h (roadref3_Built.post No h m r) := roadref3_Built_k.all (p := .f a0 y1) e h m A0 n0 c0 cs1 s ne0 k0 r0 e1
theorem roadref3_Built.j1.walk {h0 m0 h m : Heap} {A0 : Option Addr} {n0 c0 : Nat} {bk3 : Nat} {cs3 : List Value} {a0 : List Int} {y3 : T_api_Value} {x9 : Int} {b44 : Bool} (S : St No h0 m0 h m) (ne0 : n0 = List.length a0) (k0 : List.length a0 ≤ c0) (r0 : Rd 1 (eInt .u64) m A0 a0) (o3 : OB No h0 h m bk3 cs3 137) (e3 : T_api_Value.E m y3 cs3) {r : (List Int) × Int × Int} (e : roadref3_Built.j1 a0 y3 x9 b44 = some r) : f70.j1 (roadref3_Built.post No h0 m0 r) A0 n0 c0 (⟨bk3, 0, none⟩ : Addr) x9 b44 h := roadref3_Built_k.all (p := .j1 a0 y3 x9 b44) e h0 m0 h m A0 n0 c0 bk3 cs3 S ne0 k0 r0 o3 e3
theorem roadref3_Built.j0.walk {h0 m0 h m : Heap} {A0 : Option Addr} {n0 c0 : Nat} {bk3 : Nat} {cs3 : List Value} {a0 : List Int} {y3 : T_api_Value} {x9 : Int} (S : St No h0 m0 h m) (ne0 : n0 = List.length a0) (k0 : List.length a0 ≤ c0) (r0 : Rd 1 (eInt .u64) m A0 a0) (o3 : OB No h0 h m bk3 cs3 137) (e3 : T_api_Value.E m y3 cs3) {r : (List Int) × Int × Int} (e : roadref3_Built.j0 a0 y3 x9 = some r) : f70.j0 (roadref3_Built.post No h0 m0 r) A0 n0 c0 (⟨bk3, 0, none⟩ : Addr) x9 h := roadref3_Built_k.all (p := .j0 a0 y3 x9) e h0 m0 h m A0 n0 c0 bk3 cs3 S ne0 k0 r0 o3 e3
theorem roadref3_Built.l0.walk {h0 m0 h m : Heap} {A0 : Option Addr} {n0 c0 : Nat} {bk10 : Nat} {A10_4 : Option Addr} {n10_4 c10_4 : Nat} {A52 : Option Addr} {n52 c52 : Nat} {a0 : List Int} {x10_0 : Int} {x10_1 : Int} {x10_2 : Int} {s10_3 : ByteArray} {a10_4 : List Int} {a52 : List T_api_Value} {x53 : Int} {x54 : Int} (S : St No h0 m0 h m) (ne0 : n0 = List.length a0) (k0 : List.length a0 ≤ c0) (r0 : Rd 1 (eInt .u64) m A0 a0) (o10 : OB No h0 h m bk10 [(Value.int .i64 x10_0), (Value.int .i64 x10_1), (Value.int .i64 x10_2), (Value.string s10_3), (Value.slice A10_4 n10_4 c10_4)] 202) (ne10_4 : n10_4 = List.length a10_4) (o10_4 : OS No h0 1 (eInt .u64) h m A10_4 a10_4 c10_4) (ne52 : n52 = List.length a52) (k52 : List.length a52 ≤ c52) (r52 : Rd 4 T_api_Value.E m A52 a52) (d0_1 : Dj (fb bk10) (fp A10_4 c10_4)) {r : (List Int) × Int × Int} (e : roadref3_Built.l0 a0 x10_0 x10_1 x10_2 s10_3 a10_4 a52 x53 x54 = some r) : f70.l0 (roadref3_Built.post No h0 m0 r) A0 n0 c0 (⟨bk10, 0, none⟩ : Addr) A52 n52 c52 x53 x54 h := roadref3_Built_k.all (p := .l0 a0 x10_0 x10_1 x10_2 s10_3 a10_4 a52 x53 x54) e h0 m0 h m A0 n0 c0 bk10 A10_4 n10_4 c10_4 A52 n52 c52 S ne0 k0 r0 o10 ne10_4 o10_4 ne52 k52 r52 d0_1

/-! ### 8 roadstead/roadlaw3.HeapBuilds -/
def roadlaw3_HeapBuilds.post (W : Nat → Prop) (h0 m0 : Heap) (r : Bool) (v : Value) (h : Heap) : Prop := ∃ m , St W h0 m0 h m ∧ v = .bool r
noncomputable def roadlaw3_HeapBuilds.j1 (a0 : List Int) (y4 : T_api_Value) (a7 : List Int) (x8 : Int) (x9 : Int) : Option (Bool) :=
  Option.bind (roadref3_Built a0 y4) fun y125 => if y125.2.2 = (0 : Int) then (Option.bind (roadref3_SameWords a7 y125.1) fun y141 => if y141 = true then (if x8 = y125.2.1 then (some ((x9 == (0 : Int)))) else (some (false))) else (some (false))) else (if (((List.length a7) : Nat) : Int) = (0 : Int) then (if x8 = (0 : Int) then (some ((x9 == y125.2.2))) else (some (false))) else (some (false)))
set_option maxRecDepth 100000 in
theorem roadlaw3_HeapBuilds.j1.walk {h0 m0 h m : Heap} {A0 : Option Addr} {n0 c0 : Nat} {bk4 : Nat} {cs4 : List Value} {A7 : Option Addr} {n7 c7 : Nat} {a0 : List Int} {y4 : T_api_Value} {a7 : List Int} {x8 : Int} {x9 : Int} (S : St No h0 m0 h m) (ne0 : n0 = List.length a0) (k0 : List.length a0 ≤ c0) (r0 : Rd 1 (eInt .u64) m A0 a0) (o4 : OB No h0 h m bk4 cs4 137) (e4 : T_api_Value.E m y4 cs4) (ne7 : n7 = List.length a7) (o7 : OS No h0 1 (eInt .u64) h m A7 a7 c7) (d0_1 : Dj (fb bk4) (fp A7 c7)) {r : Bool} (e : roadlaw3_HeapBuilds.j1 a0 y4 a7 x8 x9 = some r) : f8.j1 (roadlaw3_HeapBuilds.post No h0 m0 r) A0 n0 c0 (⟨bk4, 0, none⟩ : Addr) A7 n7 c7 x8 x9 h := by
  unfold roadlaw3_HeapBuilds.j1 at e
  subst ne0
  obtain ⟨Ae4_3, ce4_3, rfl, ke4_3, re4_3⟩ := T_api_Value.iff.1 e4
  subst ne7
  refine f8.j1_in ?_
  unfold f8.j1T
  refine ⟨_, ldA (Sub.refl _) o4.all, ?_⟩
  obtain ⟨y125, g126, e⟩ := bind_e e
  refine (roadref3_Built.walk S.s rfl k0 r0 (T_api_Value.iff.2 ⟨_, _, rfl, ke4_3, re4_3⟩) g126).mono ?_
  rintro _ h127 ⟨m128, A130, n131, c132, T129, rfl, ne133, k134, r135⟩
  subst ne133
  have S136 := S.grow T129
  have o137 := o4.step T129 Dj.no
  have o138 := o7.step (tell_int .u64) T129 Dj.no
  refine ⟨_, _, _, _, _, rfl, ?_⟩
  refine split_ne_e e (fun c157 e => ?_) (fun c157 e => ?_)
  · refine split_eq_e e (fun c140 e => ?_) (fun c140 e => ?_)
    · refine split_eq_e e (fun c139 e => ?_) (fun c139 e => ?_)
      · cases e
        exact ⟨_, S136, rfl⟩
      · cases e
        exact ⟨_, S136, rfl⟩
    · cases e
      exact ⟨_, S136, rfl⟩
  · obtain ⟨y141, g142, e⟩ := bind_e e
    obtain ⟨m146, L147, u148, s149, t150⟩ := St.lend S136.s (fp A7 c7)
    refine (roadref3_SameWords.walk s149 rfl o138.cap (o138.lent (tell_int .u64) S136.s L147 (fun _ h => h)) rfl k134 (r135.sub (tell_int .u64) u148) g142).mono ?_
    rintro _ h143 ⟨m144, T145, rfl⟩
    have T151 := T145.unlend S136.s (fun _ h => h.elim)
    have S152 := S136.grow T151
    have o153 := o137.step T151 Dj.no
    have o154 := o138.step (tell_int .u64) T151 Dj.no
    refine ⟨_, rfl, ?_⟩
    refine split_any_e e (fun c156 e => ?_) (fun c156 e => ?_)
    · refine split_eq_e e (fun c155 e => ?_) (fun c155 e => ?_)
      · cases e
        exact ⟨_, S152, rfl⟩
      · cases e
        exact ⟨_, S152, rfl⟩
    · cases e
      exact ⟨_, S152, rfl⟩

noncomputable def roadlaw3_HeapBuilds.j0 (a0 : List Int) (x2 : Int) (y4 : T_api_Value) : Option (Bool) :=
  Option.bind (heap_Build a0 y4) fun y15 => Option.bind (heap_Read a0 x2) fun y30 => Option.bind (roadref3_ReadOf a0 x2 (1 : Int) (400 : Int)) fun y75 => Option.bind (roadref3_SameValue y30.1 y75.1) fun y112 => if y112 = true then (if y30.2 = y75.2.1 then ((roadlaw3_HeapBuilds.j1 a0 y4 y15.1 y15.2.1 y15.2.2)) else (some (false))) else (some (false))
set_option maxRecDepth 100000 in
theorem roadlaw3_HeapBuilds.j0.walk {h0 m0 h m : Heap} {A0 : Option Addr} {n0 c0 : Nat} {bk4 : Nat} {cs4 : List Value} {a0 : List Int} {x2 : Int} {y4 : T_api_Value} (S : St No h0 m0 h m) (ne0 : n0 = List.length a0) (k0 : List.length a0 ≤ c0) (r0 : Rd 1 (eInt .u64) m A0 a0) (o4 : OB No h0 h m bk4 cs4 137) (e4 : T_api_Value.E m y4 cs4) {r : Bool} (e : roadlaw3_HeapBuilds.j0 a0 x2 y4 = some r) : f8.j0 (roadlaw3_HeapBuilds.post No h0 m0 r) A0 n0 c0 x2 (⟨bk4, 0, none⟩ : Addr) h := by
  unfold roadlaw3_HeapBuilds.j0 at e
  subst ne0
  obtain ⟨Ae4_3, ce4_3, rfl, ke4_3, re4_3⟩ := T_api_Value.iff.1 e4
  refine f8.j0_in ?_
  unfold f8.j0T
  refine ⟨_, ldA (Sub.refl _) o4.all, ?_⟩
  obtain ⟨y15, g16, e⟩ := bind_e e
  refine (heap_Build.walk S.s rfl k0 r0 (T_api_Value.iff.2 ⟨_, _, rfl, ke4_3, re4_3⟩) g16).mono ?_
  rintro _ h17 ⟨m18, A20, n21, c22, T19, rfl, ne23, o24⟩
  subst ne23
  have S26 := S.grow T19
  have o27 := o4.step T19 Dj.no
  have d29 : Dj (fb bk4) (fp A20 c22) := fun i h1 h2 => absurd (o4.lt i h1) (Nat.not_lt.2 ((o24.new i h2).elim (fun h => h.elim) id))
  have o28 := o24.take S (fun _ h => h.elim)
  refine ⟨_, _, _, _, _, rfl, ?_⟩
  obtain ⟨y30, g31, e⟩ := bind_e e
  refine (heap_Read.walk S26.s rfl k0 (r0.sub (tell_int .u64) T19.up) g31).mono ?_
  rintro _ h32 ⟨m33, cs35, T34, rfl, he36⟩
  obtain ⟨Ahe36_3, che36_3, rfl, khe36_3, rhe36_3⟩ := T_api_Value.iff.1 he36
  have S37 := S26.grow T34
  have o38 := o27.step T34 Dj.no
  have o39 := o28.step (tell_int .u64) T34 Dj.no
  refine ⟨_, _, rfl, ?_⟩
  refine new_in S37 fun h40 o41 x42 => ?_
  have d45 : Dj (fb bk4) (fb (Array.size h32)) := Dj.new o38.lt
  have d46 : Dj (fp A20 c22) (fb (Array.size h32)) := Dj.new o39.lt
  have o47 := o38.ext x42
  have o48 := o39.ext (tell_int .u64) S37.s x42
  have S43 := S37.ext' x42
  have o41 : OB _ _ h40 _ (Array.size h32) [(Value.int .i64 (0 : Int)), (Value.int .i64 (0 : Int)), (Value.string (ByteArray.mk #[])), (Value.slice none 0 0)] 137 := o41
  obtain ⟨h49, w50, o51, t52⟩ := o41.stA S43.s [(Value.int .i64 y30.1.Kind), (Value.int .i64 y30.1.Num), (Value.string y30.1.Text), (Value.slice Ahe36_3 (List.length y30.1.Args) che36_3)] rfl (Flats.cons trivial (Flats.cons trivial (Flats.cons trivial (Flats.cons trivial Flats.nil))))
  refine ⟨[(Value.int .i64 y30.1.Kind), (Value.int .i64 y30.1.Num), (Value.string y30.1.Text), (Value.slice Ahe36_3 (List.length y30.1.Args) che36_3)], rfl, rfl, h49, w50, ?_⟩
  have o51 : OB _ _ h49 _ (Array.size h32) [(Value.int .i64 y30.1.Kind), (Value.int .i64 y30.1.Num), (Value.string y30.1.Text), (Value.slice Ahe36_3 (List.length y30.1.Args) che36_3)] 137 := o51
  have S53 := S43.then t52 (fun i _ hi => o41.wr i hi)
  have o54 := o47.step t52 (d45).symm
  have o55 := o48.step (tell_int .u64) t52 (d46).symm
  refine new_in S53 fun h56 o57 x58 => ?_
  have d61 : Dj (fb bk4) (fb (Array.size h49)) := Dj.new o54.lt
  have d62 : Dj (fp A20 c22) (fb (Array.size h49)) := Dj.new o55.lt
  have d63 : Dj (fb (Array.size h32)) (fb (Array.size h49)) := Dj.new o51.lt
  have o64 := o54.ext x58
  have o65 := o55.ext (tell_int .u64) S53.s x58
  have o66 := o51.ext x58
  have S59 := S53.ext' x58
  have o57 : OB _ _ h56 _ (Array.size h49) [(Value.int .i64 (0 : Int))] 3 := o57
  obtain ⟨h67, w68, o69, t70⟩ := o57.st0 S59.s (v := (Value.int .i64 (400 : Int))) (by exact Nat.succ_pos _) trivial
  refine ⟨h67, w68, ?_⟩
  have o69 : OB _ _ h67 _ (Array.size h49) [(Value.int .i64 (400 : Int))] 3 := o69
  have S71 := S59.then t70 (fun i _ hi => o57.wr i hi)
  have o72 := o64.step t70 (d61).symm
  have o73 := o65.step (tell_int .u64) t70 (d62).symm
  have o74 := o66.step t70 (d63).symm
  obtain ⟨y75, g76, e⟩ := bind_e e
  refine (roadref3_ReadOf.walk (W := (fb (Array.size h49))) S71.s rfl k0 (r0.sub (tell_int .u64) (T19.up.trans T34.up)) (o69.give fbr) rfl g76).mono ?_
  rintro _ h77 ⟨m78, cs80, cs83, T79, rfl, he81, o82, he84⟩
  obtain ⟨Ahe81_3, che81_3, rfl, khe81_3, rhe81_3⟩ := T_api_Value.iff.1 he81
  obtain rfl : cs83 = [(Value.int .i64 y75.2.2)] := he84
  have S85 := S71.then T79 (fun i _ hi => o69.wr i hi)
  have o86 := o72.step T79 ((d61).symm)
  have o87 := o73.step (tell_int .u64) T79 ((d62).symm)
  have o88 := o74.step T79 ((d63).symm)
  have o89 := o82.take S71 (fun i hi => o69.wr i hi)
  refine ⟨_, _, rfl, ?_⟩
  refine new_in S85 fun h90 o91 x92 => ?_
  have d95 : Dj (fb bk4) (fb (Array.size h77)) := Dj.new o86.lt
  have d96 : Dj (fp A20 c22) (fb (Array.size h77)) := Dj.new o87.lt
  have d97 : Dj (fb (Array.size h32)) (fb (Array.size h77)) := Dj.new o88.lt
  have d98 : Dj (fb (Array.size h49)) (fb (Array.size h77)) := Dj.new o89.lt
  have o99 := o86.ext x92
  have o100 := o87.ext (tell_int .u64) S85.s x92
  have o101 := o88.ext x92
  have o102 := o89.ext x92
  have S93 := S85.ext' x92
  have o91 : OB _ _ h90 _ (Array.size h77) [(Value.int .i64 (0 : Int)), (Value.int .i64 (0 : Int)), (Value.string (ByteArray.mk #[])), (Value.slice none 0 0)] 137 := o91
  obtain ⟨h103, w104, o105, t106⟩ := o91.stA S93.s [(Value.int .i64 y75.1.Kind), (Value.int .i64 y75.1.Num), (Value.string y75.1.Text), (Value.slice Ahe81_3 (List.length y75.1.Args) che81_3)] rfl (Flats.cons trivial (Flats.cons trivial (Flats.cons trivial (Flats.cons trivial Flats.nil))))
  refine ⟨[(Value.int .i64 y75.1.Kind), (Value.int .i64 y75.1.Num), (Value.string y75.1.Text), (Value.slice Ahe81_3 (List.length y75.1.Args) che81_3)], rfl, rfl, h103, w104, ?_⟩
  have o105 : OB _ _ h103 _ (Array.size h77) [(Value.int .i64 y75.1.Kind), (Value.int .i64 y75.1.Num), (Value.string y75.1.Text), (Value.slice Ahe81_3 (List.length y75.1.Args) che81_3)] 137 := o105
  have S107 := S93.then t106 (fun i _ hi => o91.wr i hi)
  have o108 := o99.step t106 (d95).symm
  have o109 := o100.step (tell_int .u64) t106 (d96).symm
  have o110 := o101.step t106 (d97).symm
  have o111 := o102.step t106 (d98).symm
  refine ⟨_, ldA (Sub.refl _) o110.all, ?_⟩
  refine ⟨_, ldA (Sub.refl _) o105.all, ?_⟩
  obtain ⟨y112, g113, e⟩ := bind_e e
  refine (roadref3_SameValue.walk S107.s (T_api_Value.iff.2 ⟨_, _, rfl, khe36_3, (rhe36_3.sub T_api_Value.T T79.up)⟩) (T_api_Value.iff.2 ⟨_, _, rfl, khe81_3, rhe81_3⟩) g113).mono ?_
  rintro _ h114 ⟨m115, T116, rfl⟩
  have S117 := S107.grow T116
  have o118 := o108.step T116 Dj.no
  have o119 := o109.step (tell_int .u64) T116 Dj.no
  have o120 := o110.step T116 Dj.no
  have o121 := o111.step T116 Dj.no
  have o122 := o105.step T116 Dj.no
  refine ⟨_, rfl, ?_⟩
  refine split_not ?_
  refine split_any_e e (fun c124 e => ?_) (fun c124 e => ?_)
  · refine split_ne_e e (fun c123 e => ?_) (fun c123 e => ?_)
    · cases e
      exact ⟨_, S117, rfl⟩
    · exact roadlaw3_HeapBuilds.j1.walk S117 rfl k0 (r0.sub (tell_int .u64) (T19.up.trans (T34.up.trans (T79.up.trans T116.up)))) o118 (T_api_Value.iff.2 ⟨_, _, rfl, ke4_3, (re4_3.sub T_api_Value.T (T19.up.trans (T34.up.trans (T79.up.trans T116.up))))⟩) rfl o119 d29 e
  · cases e
    exact ⟨_, S117, rfl⟩

noncomputable def roadlaw3_HeapBuilds (a0 : List Int) (y1 : T_api_Value) (x2 : Int) : Option (Bool) :=
  Option.bind (roadlaw3_flat y1) fun y6 => if y6 = true then (if (((List.length a0) : Nat) : Int) > (4000 : Int) then (some (true)) else ((roadlaw3_HeapBuilds.j0 a0 x2 y1))) else (some (true))
set_option maxRecDepth 100000 in
theorem roadlaw3_HeapBuilds.walk {h m : Heap} {A0 : Option Addr} {n0 c0 : Nat} {cs1 : List Value} {a0 : List Int} {y1 : T_api_Value} {x2 : Int} (s : Sub m h) (ne0 : n0 = List.length a0) (k0 : List.length a0 ≤ c0) (r0 : Rd 1 (eInt .u64) m A0 a0) (e1 : T_api_Value.E m y1 cs1) {r : Bool} (e : roadlaw3_HeapBuilds a0 y1 x2 = some r) : Run Try.prog 8 #[Value.slice A0 n0 c0, Value.agg cs1.toArray, Value.int .u64 x2] h (roadlaw3_HeapBuilds.post No h m r) := by
  unfold roadlaw3_HeapBuilds at e
  subst ne0
  obtain ⟨Ae1_3, ce1_3, rfl, ke1_3, re1_3⟩ := T_api_Value.iff.1 e1
  have S : St No h m h m := .refl s
  refine f8.run ?_
  unfold f8.runT
  refine new_in S fun h1 o2 x3 => ?_
  have S4 := S.ext' x3
  have o2 : OB _ _ h1 _ (Array.size h) [(Value.int .i64 y1.Kind), (Value.int .i64 y1.Num), (Value.string y1.Text), (Value.slice Ae1_3 (List.length y1.Args) ce1_3)] 137 := o2
  refine ⟨_, ldA (Sub.refl _) o2.all, ?_⟩
  obtain ⟨y6, g7, e⟩ := bind_e e
  refine (roadlaw3_flat.walk S4.s (T_api_Value.iff.2 ⟨_, _, rfl, ke1_3, re1_3⟩) g7).mono ?_
  rintro _ h8 ⟨m9, T10, rfl⟩
  have S11 := S4.grow T10
  have o12 := o2.step T10 Dj.no
  refine ⟨_, rfl, ?_⟩
  refine split_not ?_
  refine split_any_e e (fun c14 e => ?_) (fun c14 e => ?_)
  · refine split_dec_e e (fun c13 e => ?_) (fun c13 e => ?_)
    · cases e
      exact ⟨_, S11, rfl⟩
    · exact roadlaw3_HeapBuilds.j0.walk S11 rfl k0 (r0.sub (tell_int .u64) T10.up) o12 (T_api_Value.iff.2 ⟨_, _, rfl, ke1_3, (re1_3.sub T_api_Value.T T10.up)⟩) e
  · cases e
    exact ⟨_, S11, rfl⟩

end Go.Proofs.Ytilmfjdagnbbaab.Fw
