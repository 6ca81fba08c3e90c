/- Last part: what the law ScopeSays needs, put together out of texts of this session. -/
import Derived.Test.YtmcfmmoaofileaaRows
import Derived.WalkKit
import Derived.JoinedCond
import Derived.Deep.CondSized
import Derived.Test.YtmcfmmoaofileaaZScopeSaysf
section
namespace Go.Proofs.Ytmcfmmoaofileaa.Fw
open Go Go.Hw Go.Proofs
set_option linter.unusedVariables false
set_option maxRecDepth 100000
set_option synthInstance.maxHeartbeats 400000
set_option synthInstance.maxSize 1000
def roadref2_scopeExpr.post (W : Nat → Prop) (h0 m0 : Heap) (r : T_roadref2_Wrong) (v : Value) (h : Heap) : Prop := ∃ m cs0, Hold W h0 m0 h m [] ∧ v = .agg cs0.toArray ∧ T_roadref2_Wrong.E m r cs0
inductive roadref2_scopeExpr_k.Pt where
  | f (y_0 : T_api_Program) (a_1 : List ByteArray) (y_2 : T_api_Expr)
  | j0 (a_1 : List ByteArray) (y_3 : T_api_Program) (y_5 : T_api_Expr) (y_6 : T_roadref2_Wrong) (b_7 : Bool)
  | l0 (a_1 : List ByteArray) (y_3 : T_api_Program) (y_5 : T_api_Expr) (y_6 : T_roadref2_Wrong) (b_7 : Bool) (a_58 : List T_api_Arm) (x_59 : Int) (x_60 : Int)
  | j1 (a_1 : List ByteArray) (y_3 : T_api_Program) (y_5 : T_api_Expr) (y_6 : T_roadref2_Wrong) (b_7 : Bool) (y_9 : T_api_Arm) (a_58 : List T_api_Arm) (x_59 : Int) (x_60 : Int)
  | l3 (a_1 : List ByteArray) (y_3 : T_api_Program) (y_5 : T_api_Expr) (y_6 : T_roadref2_Wrong) (b_7 : Bool) (a_58 : List T_api_Arm) (x_59 : Int) (x_60 : Int) (a_73 : List T_api_Pat) (x_74 : Int) (x_75 : Int)
  | l1 (a_1 : List ByteArray) (y_3 : T_api_Program) (y_5 : T_api_Expr) (y_6 : T_roadref2_Wrong) (a_100 : List T_api_Expr) (x_101 : Int) (x_102 : Int)
  | j5 (a_1 : List ByteArray) (y_3 : T_api_Program) (y_5 : T_api_Expr) (y_6 : T_roadref2_Wrong) (y_13 : T_api_Expr) (a_14 : List ByteArray) (a_100 : List T_api_Expr) (x_101 : Int) (x_102 : Int) (b_108 : Bool)
  | j2 (a_1 : List ByteArray) (y_3 : T_api_Program) (y_5 : T_api_Expr) (y_6 : T_roadref2_Wrong) (y_13 : T_api_Expr) (a_14 : List ByteArray) (a_100 : List T_api_Expr) (x_101 : Int) (x_102 : Int)
  | j4 (a_1 : List ByteArray) (y_3 : T_api_Program) (y_5 : T_api_Expr) (y_6 : T_roadref2_Wrong) (y_15 : T_roadref2_Wrong) (a_100 : List T_api_Expr) (x_101 : Int) (x_102 : Int)
  | l2 (a_1 : List ByteArray) (y_3 : T_api_Program) (y_6 : T_roadref2_Wrong) (a_138 : List T_api_Arm) (x_139 : Int) (x_140 : Int)
  | j3 (a_1 : List ByteArray) (y_3 : T_api_Program) (y_6 : T_roadref2_Wrong) (y_18 : T_roadref2_Wrong) (a_138 : List T_api_Arm) (x_139 : Int) (x_140 : Int)
noncomputable def roadref2_scopeExpr_k.body (go : (p : roadref2_scopeExpr_k.Pt) → Option (T_roadref2_Wrong)) : (p : roadref2_scopeExpr_k.Pt) → Option (T_roadref2_Wrong)
  | .f y_0 a_1 y_2 => if y_2.Kind = (5 : Int) then (Option.bind (slices_Contains_68 a_1 y_2.Text) fun y13 => (go (.j0 a_1 y_0 y_2 (T_roadref2_Wrong.mk (0 : Int) (0 : Int)) (!y13)))) else (if y_2.Kind = (9 : Int) then (Option.bind (roadref2_callsOf y_0) fun y20 => Option.bind (slices_Contains_68 y20 y_2.Text) fun y32 => (go (.j0 a_1 y_0 y_2 (T_roadref2_Wrong.mk (0 : Int) (0 : Int)) (!y32)))) else (if y_2.Kind = (12 : Int) then (Option.bind (roadref2_makersOf y_0) fun y46 => Option.bind (slices_Contains_68 y46 y_2.Text) fun y58 => (go (.j0 a_1 y_0 y_2 (T_roadref2_Wrong.mk (0 : Int) (0 : Int)) (!y58)))) else (if y_2.Kind = (14 : Int) then (Option.bind (roadref2_actorsOf y_0) fun y72 => Option.bind (slices_Contains_68 y72 y_2.Text) fun y84 => (go (.j0 a_1 y_0 y_2 (T_roadref2_Wrong.mk (0 : Int) (0 : Int)) (!y84)))) else (if y_2.Kind = (10 : Int) then (Option.bind (roadref2_doubled y_2.Names) fun y103 => (go (.j0 a_1 y_0 y_2 (T_roadref2_Wrong.mk (0 : Int) (0 : Int)) y103))) else ((go (.j0 a_1 y_0 y_2 (T_roadref2_Wrong.mk (0 : Int) (0 : Int)) false)))))))
  | .j0 a_1 y_3 y_5 y_6 b_7 => (go (.l0 a_1 y_3 y_5 y_6 b_7 y_5.Arms (((List.length y_5.Arms) : Nat) : Int) (0 : Int)))
  | .l0 a_1 y_3 y_5 y_6 b_7 a_58 x_59 x_60 => if x_60 < x_59 then (Option.bind (gi a_58 x_60) fun y1 => if b_7 = true then ((go (.j1 a_1 y_3 y_5 y_6 true y1 a_58 x_59 x_60))) else (Option.bind (roadref2_NamesOf y1.Pat) fun y15 => Option.bind (roadref2_doubled y15) fun y27 => (go (.j1 a_1 y_3 y_5 y_6 y27 y1 a_58 x_59 x_60)))) else (if b_7 = true then (some ((T_roadref2_Wrong.mk (11 : Int) y_5.At))) else ((go (.l1 a_1 y_3 y_5 y_6 y_5.Args (((List.length y_5.Args) : Nat) : Int) (0 : Int)))))
  | .j1 a_1 y_3 y_5 y_6 b_7 y_9 a_58 x_59 x_60 => Option.bind (roadref2_pats y_9.Pat) fun y1 => (go (.l3 a_1 y_3 y_5 y_6 b_7 a_58 x_59 x_60 y1 (((List.length y1) : Nat) : Int) (0 : Int)))
  | .l3 a_1 y_3 y_5 y_6 b_7 a_58 x_59 x_60 a_73 x_74 x_75 => if x_75 < x_74 then (Option.bind (gi a_73 x_75) fun y1 => if b_7 = true then ((go (.l3 a_1 y_3 y_5 y_6 true a_58 x_59 x_60 a_73 x_74 (IntKind.wrap .i64 (x_75 + (1 : Int)))))) else (if y1.Kind = (6 : Int) then (Option.bind (roadref2_makersOf y_3) fun y15 => Option.bind (slices_Contains_68 y15 y1.Text) fun y27 => (go (.l3 a_1 y_3 y_5 y_6 (!y27) a_58 x_59 x_60 a_73 x_74 (IntKind.wrap .i64 (x_75 + (1 : Int)))))) else ((go (.l3 a_1 y_3 y_5 y_6 false a_58 x_59 x_60 a_73 x_74 (IntKind.wrap .i64 (x_75 + (1 : Int)))))))) else ((go (.l0 a_1 y_3 y_5 y_6 b_7 a_58 x_59 (IntKind.wrap .i64 (x_60 + (1 : Int))))))
  | .l1 a_1 y_3 y_5 y_6 a_100 x_101 x_102 => if x_102 < x_101 then (Option.bind (gi a_100 x_102) fun y1 => if y_5.Kind = (6 : Int) then ((go (.j5 a_1 y_3 y_5 y_6 y1 ([] : List ByteArray) a_100 x_101 x_102 (x_102 == (1 : Int))))) else ((go (.j5 a_1 y_3 y_5 y_6 y1 ([] : List ByteArray) a_100 x_101 x_102 false)))) else ((go (.l2 a_1 y_3 y_6 y_5.Arms (((List.length y_5.Arms) : Nat) : Int) (0 : Int))))
  | .j5 a_1 y_3 y_5 y_6 y_13 a_14 a_100 x_101 x_102 b_108 => if b_108 = true then ((go (.j2 a_1 y_3 y_5 y_6 y_13 ([y_5.Text] : List ByteArray) a_100 x_101 x_102))) else (if y_5.Kind = (10 : Int) then ((go (.j2 a_1 y_3 y_5 y_6 y_13 y_5.Names a_100 x_101 x_102))) else ((go (.j2 a_1 y_3 y_5 y_6 y_13 a_14 a_100 x_101 x_102))))
  | .j2 a_1 y_3 y_5 y_6 y_13 a_14 a_100 x_101 x_102 => Option.bind (slices_Concat_155 ([a_1, a_14] : List (List ByteArray))) fun y6 => Option.bind ((go (.f y_3 y6 y_13))) fun y26 => (go (.j4 a_1 y_3 y_5 y_6 y26 a_100 x_101 x_102))
  | .j4 a_1 y_3 y_5 y_6 y_15 a_100 x_101 x_102 => if y_15.E_ = (0 : Int) then ((go (.l1 a_1 y_3 y_5 y_6 a_100 x_101 (IntKind.wrap .i64 (x_102 + (1 : Int)))))) else (some (y_15))
  | .l2 a_1 y_3 y_6 a_138 x_139 x_140 => if x_140 < x_139 then (Option.bind (gi a_138 x_140) fun y1 => Option.bind (roadref2_NamesOf y1.Pat) fun y14 => Option.bind (slices_Concat_155 ([a_1, y14] : List (List ByteArray))) fun y36 => Option.bind ((go (.f y_3 y36 y1.Body))) fun y56 => (go (.j3 a_1 y_3 y_6 y56 a_138 x_139 x_140))) else (some ((T_roadref2_Wrong.mk (0 : Int) (0 : Int))))
  | .j3 a_1 y_3 y_6 y_18 a_138 x_139 x_140 => if y_18.E_ = (0 : Int) then ((go (.l2 a_1 y_3 y_6 a_138 x_139 (IntKind.wrap .i64 (x_140 + (1 : Int)))))) else (some (y_18))
theorem roadref2_scopeExpr_k.mono : MonoF (β := fun _ => (T_roadref2_Wrong)) roadref2_scopeExpr_k.body := fun f g hfg p => match p with
  | .f y_0 a_1 y_2 => LeO.ite (LeO.bind (LeO.refl _) fun y13 => (hfg _)) (LeO.ite (LeO.bind (LeO.refl _) fun y20 => LeO.bind (LeO.refl _) fun y32 => (hfg _)) (LeO.ite (LeO.bind (LeO.refl _) fun y46 => LeO.bind (LeO.refl _) fun y58 => (hfg _)) (LeO.ite (LeO.bind (LeO.refl _) fun y72 => LeO.bind (LeO.refl _) fun y84 => (hfg _)) (LeO.ite (LeO.bind (LeO.refl _) fun y103 => (hfg _)) ((hfg _))))))
  | .j0 a_1 y_3 y_5 y_6 b_7 => (hfg _)
  | .l0 a_1 y_3 y_5 y_6 b_7 a_58 x_59 x_60 => LeO.ite (LeO.bind (LeO.refl _) fun y1 => LeO.ite ((hfg _)) (LeO.bind (LeO.refl _) fun y15 => LeO.bind (LeO.refl _) fun y27 => (hfg _))) (LeO.ite (LeO.refl _) ((hfg _)))
  | .j1 a_1 y_3 y_5 y_6 b_7 y_9 a_58 x_59 x_60 => LeO.bind (LeO.refl _) fun y1 => (hfg _)
  | .l3 a_1 y_3 y_5 y_6 b_7 a_58 x_59 x_60 a_73 x_74 x_75 => LeO.ite (LeO.bind (LeO.refl _) fun y1 => LeO.ite ((hfg _)) (LeO.ite (LeO.bind (LeO.refl _) fun y15 => LeO.bind (LeO.refl _) fun y27 => (hfg _)) ((hfg _)))) ((hfg _))
  | .l1 a_1 y_3 y_5 y_6 a_100 x_101 x_102 => LeO.ite (LeO.bind (LeO.refl _) fun y1 => LeO.ite ((hfg _)) ((hfg _))) ((hfg _))
  | .j5 a_1 y_3 y_5 y_6 y_13 a_14 a_100 x_101 x_102 b_108 => LeO.ite ((hfg _)) (LeO.ite ((hfg _)) ((hfg _)))
  | .j2 a_1 y_3 y_5 y_6 y_13 a_14 a_100 x_101 x_102 => LeO.bind (LeO.refl _) fun y6 => LeO.bind ((hfg _)) fun y26 => (hfg _)
  | .j4 a_1 y_3 y_5 y_6 y_15 a_100 x_101 x_102 => LeO.ite ((hfg _)) (LeO.refl _)
  | .l2 a_1 y_3 y_6 a_138 x_139 x_140 => LeO.ite (LeO.bind (LeO.refl _) fun y1 => LeO.bind (LeO.refl _) fun y14 => LeO.bind (LeO.refl _) fun y36 => LeO.bind ((hfg _)) fun y56 => (hfg _)) (LeO.refl _)
  | .j3 a_1 y_3 y_6 y_18 a_138 x_139 x_140 => LeO.ite ((hfg _)) (LeO.refl _)
noncomputable def roadref2_scopeExpr_k.go (p : roadref2_scopeExpr_k.Pt) : Option (T_roadref2_Wrong) := fixF (β := fun _ => (T_roadref2_Wrong)) roadref2_scopeExpr_k.body p
noncomputable def roadref2_scopeExpr (y_0 a_1 y_2) := roadref2_scopeExpr_k.go (.f y_0 a_1 y_2)
noncomputable def roadref2_scopeExpr.j0 (a_1 y_3 y_5 y_6 b_7) := roadref2_scopeExpr_k.go (.j0 a_1 y_3 y_5 y_6 b_7)
noncomputable def roadref2_scopeExpr.l0 (a_1 y_3 y_5 y_6 b_7 a_58 x_59 x_60) := roadref2_scopeExpr_k.go (.l0 a_1 y_3 y_5 y_6 b_7 a_58 x_59 x_60)
noncomputable def roadref2_scopeExpr.j1 (a_1 y_3 y_5 y_6 b_7 y_9 a_58 x_59 x_60) := roadref2_scopeExpr_k.go (.j1 a_1 y_3 y_5 y_6 b_7 y_9 a_58 x_59 x_60)
noncomputable def roadref2_scopeExpr.l3 (a_1 y_3 y_5 y_6 b_7 a_58 x_59 x_60 a_73 x_74 x_75) := roadref2_scopeExpr_k.go (.l3 a_1 y_3 y_5 y_6 b_7 a_58 x_59 x_60 a_73 x_74 x_75)
noncomputable def roadref2_scopeExpr.l1 (a_1 y_3 y_5 y_6 a_100 x_101 x_102) := roadref2_scopeExpr_k.go (.l1 a_1 y_3 y_5 y_6 a_100 x_101 x_102)
noncomputable def roadref2_scopeExpr.j5 (a_1 y_3 y_5 y_6 y_13 a_14 a_100 x_101 x_102 b_108) := roadref2_scopeExpr_k.go (.j5 a_1 y_3 y_5 y_6 y_13 a_14 a_100 x_101 x_102 b_108)
noncomputable def roadref2_scopeExpr.j2 (a_1 y_3 y_5 y_6 y_13 a_14 a_100 x_101 x_102) := roadref2_scopeExpr_k.go (.j2 a_1 y_3 y_5 y_6 y_13 a_14 a_100 x_101 x_102)
noncomputable def roadref2_scopeExpr.j4 (a_1 y_3 y_5 y_6 y_15 a_100 x_101 x_102) := roadref2_scopeExpr_k.go (.j4 a_1 y_3 y_5 y_6 y_15 a_100 x_101 x_102)
noncomputable def roadref2_scopeExpr.l2 (a_1 y_3 y_6 a_138 x_139 x_140) := roadref2_scopeExpr_k.go (.l2 a_1 y_3 y_6 a_138 x_139 x_140)
noncomputable def roadref2_scopeExpr.j3 (a_1 y_3 y_6 y_18 a_138 x_139 x_140) := roadref2_scopeExpr_k.go (.j3 a_1 y_3 y_6 y_18 a_138 x_139 x_140)
theorem roadref2_scopeExpr_eq (y_0 a_1 y_2) : roadref2_scopeExpr y_0 a_1 y_2 = if y_2.Kind = (5 : Int) then (Option.bind (slices_Contains_68 a_1 y_2.Text) fun y13 => (roadref2_scopeExpr.j0 a_1 y_0 y_2 (T_roadref2_Wrong.mk (0 : Int) (0 : Int)) (!y13))) else (if y_2.Kind = (9 : Int) then (Option.bind (roadref2_callsOf y_0) fun y20 => Option.bind (slices_Contains_68 y20 y_2.Text) fun y32 => (roadref2_scopeExpr.j0 a_1 y_0 y_2 (T_roadref2_Wrong.mk (0 : Int) (0 : Int)) (!y32))) else (if y_2.Kind = (12 : Int) then (Option.bind (roadref2_makersOf y_0) fun y46 => Option.bind (slices_Contains_68 y46 y_2.Text) fun y58 => (roadref2_scopeExpr.j0 a_1 y_0 y_2 (T_roadref2_Wrong.mk (0 : Int) (0 : Int)) (!y58))) else (if y_2.Kind = (14 : Int) then (Option.bind (roadref2_actorsOf y_0) fun y72 => Option.bind (slices_Contains_68 y72 y_2.Text) fun y84 => (roadref2_scopeExpr.j0 a_1 y_0 y_2 (T_roadref2_Wrong.mk (0 : Int) (0 : Int)) (!y84))) else (if y_2.Kind = (10 : Int) then (Option.bind (roadref2_doubled y_2.Names) fun y103 => (roadref2_scopeExpr.j0 a_1 y_0 y_2 (T_roadref2_Wrong.mk (0 : Int) (0 : Int)) y103)) else ((roadref2_scopeExpr.j0 a_1 y_0 y_2 (T_roadref2_Wrong.mk (0 : Int) (0 : Int)) false)))))) := fixF_eq roadref2_scopeExpr_k.mono _
theorem roadref2_scopeExpr.j0_eq (a_1 y_3 y_5 y_6 b_7) : roadref2_scopeExpr.j0 a_1 y_3 y_5 y_6 b_7 = (roadref2_scopeExpr.l0 a_1 y_3 y_5 y_6 b_7 y_5.Arms (((List.length y_5.Arms) : Nat) : Int) (0 : Int)) := fixF_eq roadref2_scopeExpr_k.mono _
theorem roadref2_scopeExpr.l0_eq (a_1 y_3 y_5 y_6 b_7 a_58 x_59 x_60) : roadref2_scopeExpr.l0 a_1 y_3 y_5 y_6 b_7 a_58 x_59 x_60 = if x_60 < x_59 then (Option.bind (gi a_58 x_60) fun y1 => if b_7 = true then ((roadref2_scopeExpr.j1 a_1 y_3 y_5 y_6 true y1 a_58 x_59 x_60)) else (Option.bind (roadref2_NamesOf y1.Pat) fun y15 => Option.bind (roadref2_doubled y15) fun y27 => (roadref2_scopeExpr.j1 a_1 y_3 y_5 y_6 y27 y1 a_58 x_59 x_60))) else (if b_7 = true then (some ((T_roadref2_Wrong.mk (11 : Int) y_5.At))) else ((roadref2_scopeExpr.l1 a_1 y_3 y_5 y_6 y_5.Args (((List.length y_5.Args) : Nat) : Int) (0 : Int)))) := fixF_eq roadref2_scopeExpr_k.mono _
theorem roadref2_scopeExpr.j1_eq (a_1 y_3 y_5 y_6 b_7 y_9 a_58 x_59 x_60) : roadref2_scopeExpr.j1 a_1 y_3 y_5 y_6 b_7 y_9 a_58 x_59 x_60 = Option.bind (roadref2_pats y_9.Pat) fun y1 => (roadref2_scopeExpr.l3 a_1 y_3 y_5 y_6 b_7 a_58 x_59 x_60 y1 (((List.length y1) : Nat) : Int) (0 : Int)) := fixF_eq roadref2_scopeExpr_k.mono _
theorem roadref2_scopeExpr.l3_eq (a_1 y_3 y_5 y_6 b_7 a_58 x_59 x_60 a_73 x_74 x_75) : roadref2_scopeExpr.l3 a_1 y_3 y_5 y_6 b_7 a_58 x_59 x_60 a_73 x_74 x_75 = if x_75 < x_74 then (Option.bind (gi a_73 x_75) fun y1 => if b_7 = true then ((roadref2_scopeExpr.l3 a_1 y_3 y_5 y_6 true a_58 x_59 x_60 a_73 x_74 (IntKind.wrap .i64 (x_75 + (1 : Int))))) else (if y1.Kind = (6 : Int) then (Option.bind (roadref2_makersOf y_3) fun y15 => Option.bind (slices_Contains_68 y15 y1.Text) fun y27 => (roadref2_scopeExpr.l3 a_1 y_3 y_5 y_6 (!y27) a_58 x_59 x_60 a_73 x_74 (IntKind.wrap .i64 (x_75 + (1 : Int))))) else ((roadref2_scopeExpr.l3 a_1 y_3 y_5 y_6 false a_58 x_59 x_60 a_73 x_74 (IntKind.wrap .i64 (x_75 + (1 : Int))))))) else ((roadref2_scopeExpr.l0 a_1 y_3 y_5 y_6 b_7 a_58 x_59 (IntKind.wrap .i64 (x_60 + (1 : Int))))) := fixF_eq roadref2_scopeExpr_k.mono _
theorem roadref2_scopeExpr.l1_eq (a_1 y_3 y_5 y_6 a_100 x_101 x_102) : roadref2_scopeExpr.l1 a_1 y_3 y_5 y_6 a_100 x_101 x_102 = if x_102 < x_101 then (Option.bind (gi a_100 x_102) fun y1 => if y_5.Kind = (6 : Int) then ((roadref2_scopeExpr.j5 a_1 y_3 y_5 y_6 y1 ([] : List ByteArray) a_100 x_101 x_102 (x_102 == (1 : Int)))) else ((roadref2_scopeExpr.j5 a_1 y_3 y_5 y_6 y1 ([] : List ByteArray) a_100 x_101 x_102 false))) else ((roadref2_scopeExpr.l2 a_1 y_3 y_6 y_5.Arms (((List.length y_5.Arms) : Nat) : Int) (0 : Int))) := fixF_eq roadref2_scopeExpr_k.mono _
theorem roadref2_scopeExpr.j5_eq (a_1 y_3 y_5 y_6 y_13 a_14 a_100 x_101 x_102 b_108) : roadref2_scopeExpr.j5 a_1 y_3 y_5 y_6 y_13 a_14 a_100 x_101 x_102 b_108 = if b_108 = true then ((roadref2_scopeExpr.j2 a_1 y_3 y_5 y_6 y_13 ([y_5.Text] : List ByteArray) a_100 x_101 x_102)) else (if y_5.Kind = (10 : Int) then ((roadref2_scopeExpr.j2 a_1 y_3 y_5 y_6 y_13 y_5.Names a_100 x_101 x_102)) else ((roadref2_scopeExpr.j2 a_1 y_3 y_5 y_6 y_13 a_14 a_100 x_101 x_102))) := fixF_eq roadref2_scopeExpr_k.mono _
theorem roadref2_scopeExpr.j2_eq (a_1 y_3 y_5 y_6 y_13 a_14 a_100 x_101 x_102) : roadref2_scopeExpr.j2 a_1 y_3 y_5 y_6 y_13 a_14 a_100 x_101 x_102 = Option.bind (slices_Concat_155 ([a_1, a_14] : List (List ByteArray))) fun y6 => Option.bind ((roadref2_scopeExpr y_3 y6 y_13)) fun y26 => (roadref2_scopeExpr.j4 a_1 y_3 y_5 y_6 y26 a_100 x_101 x_102) := fixF_eq roadref2_scopeExpr_k.mono _
theorem roadref2_scopeExpr.j4_eq (a_1 y_3 y_5 y_6 y_15 a_100 x_101 x_102) : roadref2_scopeExpr.j4 a_1 y_3 y_5 y_6 y_15 a_100 x_101 x_102 = if y_15.E_ = (0 : Int) then ((roadref2_scopeExpr.l1 a_1 y_3 y_5 y_6 a_100 x_101 (IntKind.wrap .i64 (x_102 + (1 : Int))))) else (some (y_15)) := fixF_eq roadref2_scopeExpr_k.mono _
theorem roadref2_scopeExpr.l2_eq (a_1 y_3 y_6 a_138 x_139 x_140) : roadref2_scopeExpr.l2 a_1 y_3 y_6 a_138 x_139 x_140 = if x_140 < x_139 then (Option.bind (gi a_138 x_140) fun y1 => Option.bind (roadref2_NamesOf y1.Pat) fun y14 => Option.bind (slices_Concat_155 ([a_1, y14] : List (List ByteArray))) fun y36 => Option.bind ((roadref2_scopeExpr y_3 y36 y1.Body)) fun y56 => (roadref2_scopeExpr.j3 a_1 y_3 y_6 y56 a_138 x_139 x_140)) else (some ((T_roadref2_Wrong.mk (0 : Int) (0 : Int)))) := fixF_eq roadref2_scopeExpr_k.mono _
theorem roadref2_scopeExpr.j3_eq (a_1 y_3 y_6 y_18 a_138 x_139 x_140) : roadref2_scopeExpr.j3 a_1 y_3 y_6 y_18 a_138 x_139 x_140 = if y_18.E_ = (0 : Int) then ((roadref2_scopeExpr.l2 a_1 y_3 y_6 a_138 x_139 (IntKind.wrap .i64 (x_140 + (1 : Int))))) else (some (y_18)) := fixF_eq roadref2_scopeExpr_k.mono _
def roadref2_scopeExpr_k.I : (p : roadref2_scopeExpr_k.Pt) → (T_roadref2_Wrong) → Prop
  | .f y_0 a_1 y_2, r => ∀ {W h m cs_0 A_1 n_1 c_1 cs_2} (O : Hold W h m h m []) (e_0 : T_api_Program.E m y_0 cs_0) (ne_1 : n_1 = List.length a_1) (k_1 : List.length a_1 ≤ c_1) (r_1 : Rd 1 eStr m A_1 a_1) (e_2 : T_api_Expr.E m y_2 cs_2), Run Try.prog 111 #[Value.agg cs_0.toArray, Value.slice A_1 n_1 c_1, Value.agg cs_2.toArray] h (roadref2_scopeExpr.post W h m r)
  | .j0 a_1 y_3 y_5 y_6 b_7, r => ∀ {W h0 m0 h m A_1 n_1 c_1 bk_3 cs_3 bk_5 cs_5 bk_6 cs_6} (O : Hold W h0 m0 h m [rV bk_3 135 cs_3, rV bk_5 152 cs_5, rV bk_6 141 cs_6]) (ne_1 : n_1 = List.length a_1) (k_1 : List.length a_1 ≤ c_1) (r_1 : Rd 1 eStr m A_1 a_1) (e_3 : T_api_Program.E m y_3 cs_3) (e_5 : T_api_Expr.E m y_5 cs_5) (e_6 : T_roadref2_Wrong.E m y_6 cs_6), f111.j0 (roadref2_scopeExpr.post W h0 m0 r) A_1 n_1 c_1 (⟨bk_3, 0, none⟩ : Addr) (⟨bk_5, 0, none⟩ : Addr) (⟨bk_6, 0, none⟩ : Addr) b_7 h
  | .l0 a_1 y_3 y_5 y_6 b_7 a_58 x_59 x_60, r => ∀ {W h0 m0 h m A_1 n_1 c_1 bk_3 cs_3 bk_5 cs_5 bk_6 cs_6 A_58 n_58 c_58} (O : Hold W h0 m0 h m [rV bk_3 135 cs_3, rV bk_5 152 cs_5, rV bk_6 141 cs_6]) (ne_1 : n_1 = List.length a_1) (k_1 : List.length a_1 ≤ c_1) (r_1 : Rd 1 eStr m A_1 a_1) (e_3 : T_api_Program.E m y_3 cs_3) (e_5 : T_api_Expr.E m y_5 cs_5) (e_6 : T_roadref2_Wrong.E m y_6 cs_6) (ne_58 : n_58 = List.length a_58) (k_58 : List.length a_58 ≤ c_58) (r_58 : Rd 12 T_api_Arm.E m A_58 a_58), f111.l0 (roadref2_scopeExpr.post W h0 m0 r) A_1 n_1 c_1 (⟨bk_3, 0, none⟩ : Addr) (⟨bk_5, 0, none⟩ : Addr) (⟨bk_6, 0, none⟩ : Addr) b_7 A_58 n_58 c_58 x_59 x_60 h
  | .j1 a_1 y_3 y_5 y_6 b_7 y_9 a_58 x_59 x_60, r => ∀ {W h0 m0 h m A_1 n_1 c_1 bk_3 cs_3 bk_5 cs_5 bk_6 cs_6 bk_9 cs_9 A_58 n_58 c_58} (O : Hold W h0 m0 h m [rV bk_3 135 cs_3, rV bk_5 152 cs_5, rV bk_6 141 cs_6, rV bk_9 228 cs_9]) (ne_1 : n_1 = List.length a_1) (k_1 : List.length a_1 ≤ c_1) (r_1 : Rd 1 eStr m A_1 a_1) (e_3 : T_api_Program.E m y_3 cs_3) (e_5 : T_api_Expr.E m y_5 cs_5) (e_6 : T_roadref2_Wrong.E m y_6 cs_6) (e_9 : T_api_Arm.E m y_9 cs_9) (ne_58 : n_58 = List.length a_58) (k_58 : List.length a_58 ≤ c_58) (r_58 : Rd 12 T_api_Arm.E m A_58 a_58), f111.j1 (roadref2_scopeExpr.post W h0 m0 r) A_1 n_1 c_1 (⟨bk_3, 0, none⟩ : Addr) (⟨bk_5, 0, none⟩ : Addr) (⟨bk_6, 0, none⟩ : Addr) b_7 (⟨bk_9, 0, none⟩ : Addr) A_58 n_58 c_58 x_59 x_60 h
  | .l3 a_1 y_3 y_5 y_6 b_7 a_58 x_59 x_60 a_73 x_74 x_75, r => ∀ {W h0 m0 h m A_1 n_1 c_1 bk_3 cs_3 bk_5 cs_5 bk_6 cs_6 A_58 n_58 c_58 A_73 n_73 c_73} (O : Hold W h0 m0 h m [rV bk_3 135 cs_3, rV bk_5 152 cs_5, rV bk_6 141 cs_6, rR (aE T_api_Pat.T) A_73 c_73 a_73]) (ne_1 : n_1 = List.length a_1) (k_1 : List.length a_1 ≤ c_1) (r_1 : Rd 1 eStr m A_1 a_1) (e_3 : T_api_Program.E m y_3 cs_3) (e_5 : T_api_Expr.E m y_5 cs_5) (e_6 : T_roadref2_Wrong.E m y_6 cs_6) (ne_58 : n_58 = List.length a_58) (k_58 : List.length a_58 ≤ c_58) (r_58 : Rd 12 T_api_Arm.E m A_58 a_58) (ne_73 : n_73 = List.length a_73), f111.l3 (roadref2_scopeExpr.post W h0 m0 r) A_1 n_1 c_1 (⟨bk_3, 0, none⟩ : Addr) (⟨bk_5, 0, none⟩ : Addr) (⟨bk_6, 0, none⟩ : Addr) b_7 A_58 n_58 c_58 x_59 x_60 A_73 n_73 c_73 x_74 x_75 h
  | .l1 a_1 y_3 y_5 y_6 a_100 x_101 x_102, r => ∀ {W h0 m0 h m A_1 n_1 c_1 bk_3 cs_3 bk_5 cs_5 bk_6 cs_6 A_100 n_100 c_100} (O : Hold W h0 m0 h m [rV bk_3 135 cs_3, rV bk_5 152 cs_5, rV bk_6 141 cs_6]) (ne_1 : n_1 = List.length a_1) (k_1 : List.length a_1 ≤ c_1) (r_1 : Rd 1 eStr m A_1 a_1) (e_3 : T_api_Program.E m y_3 cs_3) (e_5 : T_api_Expr.E m y_5 cs_5) (e_6 : T_roadref2_Wrong.E m y_6 cs_6) (ne_100 : n_100 = List.length a_100) (k_100 : List.length a_100 ≤ c_100) (r_100 : Rd 8 T_api_Expr.E m A_100 a_100), f111.l1 (roadref2_scopeExpr.post W h0 m0 r) A_1 n_1 c_1 (⟨bk_3, 0, none⟩ : Addr) (⟨bk_5, 0, none⟩ : Addr) (⟨bk_6, 0, none⟩ : Addr) A_100 n_100 c_100 x_101 x_102 h
  | .j5 a_1 y_3 y_5 y_6 y_13 a_14 a_100 x_101 x_102 b_108, r => ∀ {W h0 m0 h m A_1 n_1 c_1 bk_3 cs_3 bk_5 cs_5 bk_6 cs_6 bk_13 cs_13 A_14 n_14 c_14 A_100 n_100 c_100} (O : Hold W h0 m0 h m [rV bk_3 135 cs_3, rV bk_5 152 cs_5, rV bk_6 141 cs_6, rV bk_13 152 cs_13, rR (aE tell_str) A_14 c_14 a_14]) (ne_1 : n_1 = List.length a_1) (k_1 : List.length a_1 ≤ c_1) (r_1 : Rd 1 eStr m A_1 a_1) (e_3 : T_api_Program.E m y_3 cs_3) (e_5 : T_api_Expr.E m y_5 cs_5) (e_6 : T_roadref2_Wrong.E m y_6 cs_6) (e_13 : T_api_Expr.E m y_13 cs_13) (ne_14 : n_14 = List.length a_14) (ne_100 : n_100 = List.length a_100) (k_100 : List.length a_100 ≤ c_100) (r_100 : Rd 8 T_api_Expr.E m A_100 a_100), f111.j5 (roadref2_scopeExpr.post W h0 m0 r) A_1 n_1 c_1 (⟨bk_3, 0, none⟩ : Addr) (⟨bk_5, 0, none⟩ : Addr) (⟨bk_6, 0, none⟩ : Addr) (⟨bk_13, 0, none⟩ : Addr) A_14 n_14 c_14 A_100 n_100 c_100 x_101 x_102 b_108 h
  | .j2 a_1 y_3 y_5 y_6 y_13 a_14 a_100 x_101 x_102, r => ∀ {W h0 m0 h m A_1 n_1 c_1 bk_3 cs_3 bk_5 cs_5 bk_6 cs_6 bk_13 cs_13 A_14 n_14 c_14 A_100 n_100 c_100} (O : Hold W h0 m0 h m [rV bk_3 135 cs_3, rV bk_5 152 cs_5, rV bk_6 141 cs_6, rV bk_13 152 cs_13]) (ne_1 : n_1 = List.length a_1) (k_1 : List.length a_1 ≤ c_1) (r_1 : Rd 1 eStr m A_1 a_1) (e_3 : T_api_Program.E m y_3 cs_3) (e_5 : T_api_Expr.E m y_5 cs_5) (e_6 : T_roadref2_Wrong.E m y_6 cs_6) (e_13 : T_api_Expr.E m y_13 cs_13) (ne_14 : n_14 = List.length a_14) (k_14 : List.length a_14 ≤ c_14) (r_14 : Rd 1 eStr m A_14 a_14) (ne_100 : n_100 = List.length a_100) (k_100 : List.length a_100 ≤ c_100) (r_100 : Rd 8 T_api_Expr.E m A_100 a_100), f111.j2 (roadref2_scopeExpr.post W h0 m0 r) A_1 n_1 c_1 (⟨bk_3, 0, none⟩ : Addr) (⟨bk_5, 0, none⟩ : Addr) (⟨bk_6, 0, none⟩ : Addr) (⟨bk_13, 0, none⟩ : Addr) A_14 n_14 c_14 A_100 n_100 c_100 x_101 x_102 h
  | .j4 a_1 y_3 y_5 y_6 y_15 a_100 x_101 x_102, r => ∀ {W h0 m0 h m A_1 n_1 c_1 bk_3 cs_3 bk_5 cs_5 bk_6 cs_6 bk_15 cs_15 A_100 n_100 c_100} (O : Hold W h0 m0 h m [rV bk_3 135 cs_3, rV bk_5 152 cs_5, rV bk_6 141 cs_6, rV bk_15 141 cs_15]) (ne_1 : n_1 = List.length a_1) (k_1 : List.length a_1 ≤ c_1) (r_1 : Rd 1 eStr m A_1 a_1) (e_3 : T_api_Program.E m y_3 cs_3) (e_5 : T_api_Expr.E m y_5 cs_5) (e_6 : T_roadref2_Wrong.E m y_6 cs_6) (e_15 : T_roadref2_Wrong.E m y_15 cs_15) (ne_100 : n_100 = List.length a_100) (k_100 : List.length a_100 ≤ c_100) (r_100 : Rd 8 T_api_Expr.E m A_100 a_100), f111.j4 (roadref2_scopeExpr.post W h0 m0 r) A_1 n_1 c_1 (⟨bk_3, 0, none⟩ : Addr) (⟨bk_5, 0, none⟩ : Addr) (⟨bk_6, 0, none⟩ : Addr) (⟨bk_15, 0, none⟩ : Addr) A_100 n_100 c_100 x_101 x_102 h
  | .l2 a_1 y_3 y_6 a_138 x_139 x_140, r => ∀ {W h0 m0 h m A_1 n_1 c_1 bk_3 cs_3 bk_6 cs_6 A_138 n_138 c_138} (O : Hold W h0 m0 h m [rV bk_3 135 cs_3, rV bk_6 141 cs_6]) (ne_1 : n_1 = List.length a_1) (k_1 : List.length a_1 ≤ c_1) (r_1 : Rd 1 eStr m A_1 a_1) (e_3 : T_api_Program.E m y_3 cs_3) (e_6 : T_roadref2_Wrong.E m y_6 cs_6) (ne_138 : n_138 = List.length a_138) (k_138 : List.length a_138 ≤ c_138) (r_138 : Rd 12 T_api_Arm.E m A_138 a_138), f111.l2 (roadref2_scopeExpr.post W h0 m0 r) A_1 n_1 c_1 (⟨bk_3, 0, none⟩ : Addr) (⟨bk_6, 0, none⟩ : Addr) A_138 n_138 c_138 x_139 x_140 h
  | .j3 a_1 y_3 y_6 y_18 a_138 x_139 x_140, r => ∀ {W h0 m0 h m A_1 n_1 c_1 bk_3 cs_3 bk_6 cs_6 bk_18 cs_18 A_138 n_138 c_138} (O : Hold W h0 m0 h m [rV bk_3 135 cs_3, rV bk_6 141 cs_6, rV bk_18 141 cs_18]) (ne_1 : n_1 = List.length a_1) (k_1 : List.length a_1 ≤ c_1) (r_1 : Rd 1 eStr m A_1 a_1) (e_3 : T_api_Program.E m y_3 cs_3) (e_6 : T_roadref2_Wrong.E m y_6 cs_6) (e_18 : T_roadref2_Wrong.E m y_18 cs_18) (ne_138 : n_138 = List.length a_138) (k_138 : List.length a_138 ≤ c_138) (r_138 : Rd 12 T_api_Arm.E m A_138 a_138), f111.j3 (roadref2_scopeExpr.post W h0 m0 r) A_1 n_1 c_1 (⟨bk_3, 0, none⟩ : Addr) (⟨bk_6, 0, none⟩ : Addr) (⟨bk_18, 0, none⟩ : Addr) A_138 n_138 c_138 x_139 x_140 h
set_option maxHeartbeats 4000000 in
theorem roadref2_scopeExpr_k.step_f (go : (p : roadref2_scopeExpr_k.Pt) → Option (T_roadref2_Wrong)) (ih : ∀ p r, go p = some r → roadref2_scopeExpr_k.I p r) (y_0 a_1 y_2) (r) (e : roadref2_scopeExpr_k.body go (.f y_0 a_1 y_2) = some r) : roadref2_scopeExpr_k.I (.f y_0 a_1 y_2) r := by
  unfold roadref2_scopeExpr_k.body at e
  intro W h m cs_0 A_1 n_1 c_1 cs_2 O e_0 ne_1 k_1 r_1 e_2
  subst ne_1
  refine f111.run ?_
  unfold f111.runT
  refine O.new fun h1 x2 O3 => ?_
  refine O3.new fun h5 x6 O7 => ?_
  refine O7.new fun h9 x10 O11 => ?_
  refine ⟨_, ld0 (Sub.refl _) (O11.all 1 rfl) (T_api_Expr.g0 e_2), _, rfl, ?_⟩
  refine split_eq_e e (fun c115 e => ?_) (fun c115 e => ?_)
  · refine ⟨_, ldk (k := 2) (Sub.refl _) (O11.all 1 rfl) (T_api_Expr.g2 e_2), _, rfl, ?_⟩
    obtain ⟨y13, g14, e⟩ := bind_e e
    refine (slices_Contains_68.walk (Hold.start (W := No) O11.s) rfl k_1 r_1 g14).mono ?_
    rintro _ h15 ⟨m16, Q17, rfl⟩
    have O19 := Hold.nm (O11.retC Q17 vfs_nil)
    refine ⟨_, rfl, ?_⟩
    exact (ih _ _ e) (O19.pick [0, 1, 2]).nm rfl k_1 r_1 e_0 e_2 (show T_roadref2_Wrong.E _ (T_roadref2_Wrong.mk (0 : Int) (0 : Int)) [(Value.int .i64 (0 : Int)), (Value.int .i64 (0 : Int))] from rfl)
  · refine split_eq_e e (fun c114 e => ?_) (fun c114 e => ?_)
    · refine ⟨_, ldAn (Sub.refl _) (O11.all 0 rfl) (T_api_Program.T.len _ _ _ e_0), ?_⟩
      refine ⟨_, ldk (k := 2) (Sub.refl _) (O11.all 1 rfl) (T_api_Expr.g2 e_2), _, rfl, ?_⟩
      obtain ⟨y20, g21, e⟩ := bind_e e
      refine (roadref2_callsOf.walk (Hold.start (W := No) O11.s) e_0 g21).mono ?_
      rintro _ h22 ⟨m23, A26, n27, c28, Q24, rfl, ne29⟩
      have O31 := Hold.nm (O11.retC Q24 (vfs_cons (rR_vf (aE_vf (fun _ _ _ _ h => h))) vfs_nil))
      subst ne29
      refine ⟨_, _, _, rfl, ?_⟩
      refine ⟨Q24.S.ext, ?_⟩
      obtain ⟨y32, g33, e⟩ := bind_e e
      obtain ⟨m38, u39, s44, ⟨⟨r42, k43⟩, _⟩, B40, C41⟩ := O31.lend0 [3]
      replace r42 : Rd 1 eStr m38 A26 y20 := r42
      replace k43 : List.length y20 ≤ c28 := k43
      refine (slices_Contains_68.walk (Hold.start (W := No) s44) rfl k43 r42 g33).mono ?_
      rintro _ h34 ⟨m35, Q36, rfl⟩
      have O45 := Hold.nm (C41 Q36 vfs_nil)
      refine ⟨_, rfl, ?_⟩
      exact (ih _ _ e) (O45.pick [0, 1, 2]).nm rfl k_1 r_1 e_0 e_2 (show T_roadref2_Wrong.E _ (T_roadref2_Wrong.mk (0 : Int) (0 : Int)) [(Value.int .i64 (0 : Int)), (Value.int .i64 (0 : Int))] from rfl)
    · refine split_eq_e e (fun c113 e => ?_) (fun c113 e => ?_)
      · refine ⟨_, ldAn (Sub.refl _) (O11.all 0 rfl) (T_api_Program.T.len _ _ _ e_0), ?_⟩
        refine ⟨_, ldk (k := 2) (Sub.refl _) (O11.all 1 rfl) (T_api_Expr.g2 e_2), _, rfl, ?_⟩
        obtain ⟨y46, g47, e⟩ := bind_e e
        refine (roadref2_makersOf.walk (Hold.start (W := No) O11.s) e_0 g47).mono ?_
        rintro _ h48 ⟨m49, A52, n53, c54, Q50, rfl, ne55⟩
        have O57 := Hold.nm (O11.retC Q50 (vfs_cons (rR_vf (aE_vf (fun _ _ _ _ h => h))) vfs_nil))
        subst ne55
        refine ⟨_, _, _, rfl, ?_⟩
        refine ⟨Q50.S.ext, ?_⟩
        obtain ⟨y58, g59, e⟩ := bind_e e
        obtain ⟨m64, u65, s70, ⟨⟨r68, k69⟩, _⟩, B66, C67⟩ := O57.lend0 [3]
        replace r68 : Rd 1 eStr m64 A52 y46 := r68
        replace k69 : List.length y46 ≤ c54 := k69
        refine (slices_Contains_68.walk (Hold.start (W := No) s70) rfl k69 r68 g59).mono ?_
        rintro _ h60 ⟨m61, Q62, rfl⟩
        have O71 := Hold.nm (C67 Q62 vfs_nil)
        refine ⟨_, rfl, ?_⟩
        exact (ih _ _ e) (O71.pick [0, 1, 2]).nm rfl k_1 r_1 e_0 e_2 (show T_roadref2_Wrong.E _ (T_roadref2_Wrong.mk (0 : Int) (0 : Int)) [(Value.int .i64 (0 : Int)), (Value.int .i64 (0 : Int))] from rfl)
      · refine split_eq_e e (fun c112 e => ?_) (fun c112 e => ?_)
        · refine ⟨_, ldAn (Sub.refl _) (O11.all 0 rfl) (T_api_Program.T.len _ _ _ e_0), ?_⟩
          refine ⟨_, ldk (k := 2) (Sub.refl _) (O11.all 1 rfl) (T_api_Expr.g2 e_2), _, rfl, ?_⟩
          obtain ⟨y72, g73, e⟩ := bind_e e
          refine (roadref2_actorsOf.walk (Hold.start (W := No) O11.s) e_0 g73).mono ?_
          rintro _ h74 ⟨m75, A78, n79, c80, Q76, rfl, ne81⟩
          have O83 := Hold.nm (O11.retC Q76 (vfs_cons (rR_vf (aE_vf (fun _ _ _ _ h => h))) vfs_nil))
          subst ne81
          refine ⟨_, _, _, rfl, ?_⟩
          refine ⟨Q76.S.ext, ?_⟩
          obtain ⟨y84, g85, e⟩ := bind_e e
          obtain ⟨m90, u91, s96, ⟨⟨r94, k95⟩, _⟩, B92, C93⟩ := O83.lend0 [3]
          replace r94 : Rd 1 eStr m90 A78 y72 := r94
          replace k95 : List.length y72 ≤ c80 := k95
          refine (slices_Contains_68.walk (Hold.start (W := No) s96) rfl k95 r94 g85).mono ?_
          rintro _ h86 ⟨m87, Q88, rfl⟩
          have O97 := Hold.nm (C93 Q88 vfs_nil)
          refine ⟨_, rfl, ?_⟩
          exact (ih _ _ e) (O97.pick [0, 1, 2]).nm rfl k_1 r_1 e_0 e_2 (show T_roadref2_Wrong.E _ (T_roadref2_Wrong.mk (0 : Int) (0 : Int)) [(Value.int .i64 (0 : Int)), (Value.int .i64 (0 : Int))] from rfl)
        · refine split_eq_e e (fun c111 e => ?_) (fun c111 e => ?_)
          · obtain ⟨A98, c99, q100, k101, r102⟩ := T_api_Expr.g3 e_2
            refine ⟨_, ldk (k := 3) (Sub.refl _) (O11.all 1 rfl) q100, _, _, _, rfl, ?_⟩
            obtain ⟨y103, g104, e⟩ := bind_e e
            refine (roadref2_doubled.walk (Hold.start (W := No) O11.s) rfl k101 r102 g104).mono ?_
            rintro _ h105 ⟨m106, Q107, rfl⟩
            have O109 := Hold.nm (O11.retC Q107 vfs_nil)
            refine ⟨_, rfl, ?_⟩
            exact (ih _ _ e) (O109.pick [0, 1, 2]).nm rfl k_1 r_1 e_0 e_2 (show T_roadref2_Wrong.E _ (T_roadref2_Wrong.mk (0 : Int) (0 : Int)) [(Value.int .i64 (0 : Int)), (Value.int .i64 (0 : Int))] from rfl)
          · have O110 := O11.nm
            exact (ih _ _ e) (O110.pick [0, 1, 2]).nm rfl k_1 r_1 e_0 e_2 (show T_roadref2_Wrong.E _ (T_roadref2_Wrong.mk (0 : Int) (0 : Int)) [(Value.int .i64 (0 : Int)), (Value.int .i64 (0 : Int))] from rfl)
theorem roadref2_scopeExpr_k.step_j0 (go : (p : roadref2_scopeExpr_k.Pt) → Option (T_roadref2_Wrong)) (ih : ∀ p r, go p = some r → roadref2_scopeExpr_k.I p r) (a_1 y_3 y_5 y_6 b_7) (r) (e : roadref2_scopeExpr_k.body go (.j0 a_1 y_3 y_5 y_6 b_7) = some r) : roadref2_scopeExpr_k.I (.j0 a_1 y_3 y_5 y_6 b_7) r := by
  unfold roadref2_scopeExpr_k.body at e
  intro W h0 m0 h m A_1 n_1 c_1 bk_3 cs_3 bk_5 cs_5 bk_6 cs_6 O ne_1 k_1 r_1 e_3 e_5 e_6
  subst ne_1
  refine f111.j0_in ?_
  unfold f111.j0T
  obtain ⟨A1, c2, q3, k4, r5⟩ := T_api_Expr.g6 e_5
  refine ⟨_, ldk (k := 6) (Sub.refl _) (O.all 1 rfl) q3, _, _, _, rfl, ?_⟩
  exact (ih _ _ e) (O.pick [0, 1, 2]).nm rfl k_1 r_1 e_3 e_5 e_6 rfl k4 r5
set_option maxHeartbeats 4000000 in
theorem roadref2_scopeExpr_k.step_l0 (go : (p : roadref2_scopeExpr_k.Pt) → Option (T_roadref2_Wrong)) (ih : ∀ p r, go p = some r → roadref2_scopeExpr_k.I p r) (a_1 y_3 y_5 y_6 b_7 a_58 x_59 x_60) (r) (e : roadref2_scopeExpr_k.body go (.l0 a_1 y_3 y_5 y_6 b_7 a_58 x_59 x_60) = some r) : roadref2_scopeExpr_k.I (.l0 a_1 y_3 y_5 y_6 b_7 a_58 x_59 x_60) r := by
  unfold roadref2_scopeExpr_k.body at e
  intro W h0 m0 h m A_1 n_1 c_1 bk_3 cs_3 bk_5 cs_5 bk_6 cs_6 A_58 n_58 c_58 O ne_1 k_1 r_1 e_3 e_5 e_6 ne_58 k_58 r_58
  subst ne_1
  subst ne_58
  refine f111.l0_in ?_
  unfold f111.l0T
  refine split_dec_e e (fun c51 e => ?_) (fun c51 e => ?_)
  · obtain ⟨y1, g2, e⟩ := bind_e e
    refine r_58.addr rfl g2 fun a3 cs4 ha5 hc6 he7 => ?_
    refine ⟨_, ldAn O.s hc6 rfl, ?_⟩
    refine O.new fun h8 x9 O10 => ?_
    refine ⟨_, rfl, (T_api_Arm.T.len _ _ _ he7), ?_⟩
    refine O10.stA 3 rfl (T_api_Arm.T.len _ _ _ he7) (T_api_Arm.T.flat _ _ _ he7) fun h12 O13 => ?_
    refine split_any_e e (fun c41 e => ?_) (fun c41 e => ?_)
    · have O14 := O13.nm
      exact (ih _ _ e) (O14.pick [0, 1, 2, 3]).nm rfl k_1 r_1 e_3 e_5 e_6 he7 rfl k_58 r_58
    · refine ⟨_, ldA0n (Sub.refl _) (O13.all 3 rfl) 4 (le_len (T_api_Arm.T.len _ _ _ he7) (by decide)), ?_⟩
      obtain ⟨y15, g16, e⟩ := bind_e e
      refine (roadref2_NamesOf.walk (Hold.start (W := No) O13.s) (T_api_Arm.u0_226 he7) g16).mono ?_
      rintro _ h17 ⟨m18, A21, n22, c23, Q19, rfl, ne24⟩
      have O26 := Hold.nm (O13.retC Q19 (vfs_cons (rR_vf (aE_vf (fun _ _ _ _ h => h))) vfs_nil))
      subst ne24
      refine ⟨_, _, _, rfl, ?_⟩
      obtain ⟨y27, g28, e⟩ := bind_e e
      obtain ⟨m33, u34, s39, ⟨⟨r37, k38⟩, _⟩, B35, C36⟩ := O26.lend0 [4]
      replace r37 : Rd 1 eStr m33 A21 y15 := r37
      replace k38 : List.length y15 ≤ c23 := k38
      refine (roadref2_doubled.walk (Hold.start (W := No) s39) rfl k38 r37 g28).mono ?_
      rintro _ h29 ⟨m30, Q31, rfl⟩
      have O40 := Hold.nm (C36 Q31 vfs_nil)
      refine ⟨_, rfl, ?_⟩
      exact (ih _ _ e) (O40.pick [0, 1, 2, 3]).nm rfl k_1 r_1 e_3 e_5 e_6 he7 rfl k_58 r_58
  · refine split_any_e e (fun c50 e => ?_) (fun c50 e => ?_)
    · refine ⟨_, ldk (k := 7) (Sub.refl _) (O.all 1 rfl) (T_api_Expr.g7 e_5), _, rfl, ?_⟩
      refine ⟨_, rfl, rfl, ?_⟩
      refine O.stA 2 rfl ((T_roadref2_Wrong.T.len _ _ _ e_6)).symm (Flats.cons trivial (Flats.cons trivial Flats.nil)) fun h42 O43 => ?_
      refine ⟨_, ldAn (Sub.refl _) (O43.all 2 rfl) rfl, ?_⟩
      have O44 := O43.nm
      cases e
      exact ⟨_, _, O44.pick [], rfl, (show T_roadref2_Wrong.E _ (T_roadref2_Wrong.mk (11 : Int) y_5.At) [(Value.int .i64 (11 : Int)), (Value.int .i64 y_5.At)] from rfl)⟩
    · obtain ⟨A45, c46, q47, k48, r49⟩ := T_api_Expr.g5 e_5
      refine ⟨_, ldk (k := 5) (Sub.refl _) (O.all 1 rfl) q47, _, _, _, rfl, ?_⟩
      exact (ih _ _ e) (O.pick [0, 1, 2]).nm rfl k_1 r_1 e_3 e_5 e_6 rfl k48 r49
theorem roadref2_scopeExpr_k.step_j1 (go : (p : roadref2_scopeExpr_k.Pt) → Option (T_roadref2_Wrong)) (ih : ∀ p r, go p = some r → roadref2_scopeExpr_k.I p r) (a_1 y_3 y_5 y_6 b_7 y_9 a_58 x_59 x_60) (r) (e : roadref2_scopeExpr_k.body go (.j1 a_1 y_3 y_5 y_6 b_7 y_9 a_58 x_59 x_60) = some r) : roadref2_scopeExpr_k.I (.j1 a_1 y_3 y_5 y_6 b_7 y_9 a_58 x_59 x_60) r := by
  unfold roadref2_scopeExpr_k.body at e
  intro W h0 m0 h m A_1 n_1 c_1 bk_3 cs_3 bk_5 cs_5 bk_6 cs_6 bk_9 cs_9 A_58 n_58 c_58 O ne_1 k_1 r_1 e_3 e_5 e_6 e_9 ne_58 k_58 r_58
  subst ne_1
  subst ne_58
  refine f111.j1_in ?_
  unfold f111.j1T
  refine ⟨_, ldA0n (Sub.refl _) (O.all 3 rfl) 4 (le_len (T_api_Arm.T.len _ _ _ e_9) (by decide)), ?_⟩
  obtain ⟨y1, g2, e⟩ := bind_e e
  refine (roadref2_pats.walk (Hold.start (W := No) O.s) (T_api_Arm.u0_226 e_9) g2).mono ?_
  rintro _ h3 ⟨m4, A7, n8, c9, Q5, rfl, ne10⟩
  have O12 := Hold.nm (O.ret Q5)
  subst ne10
  refine ⟨_, _, _, rfl, ?_⟩
  exact (ih _ _ e) (O12.pick [0, 1, 2, 4]).nm rfl k_1 (r_1.sub tell_str Q5.S.up) (T_api_Program.T.mono _ _ _ _ Q5.S.up e_3) (T_api_Expr.T.mono _ _ _ _ Q5.S.up e_5) (T_roadref2_Wrong.T.mono _ _ _ _ Q5.S.up e_6) rfl k_58 (r_58.sub T_api_Arm.T Q5.S.up) rfl
set_option maxHeartbeats 4000000 in
theorem roadref2_scopeExpr_k.step_l3 (go : (p : roadref2_scopeExpr_k.Pt) → Option (T_roadref2_Wrong)) (ih : ∀ p r, go p = some r → roadref2_scopeExpr_k.I p r) (a_1 y_3 y_5 y_6 b_7 a_58 x_59 x_60 a_73 x_74 x_75) (r) (e : roadref2_scopeExpr_k.body go (.l3 a_1 y_3 y_5 y_6 b_7 a_58 x_59 x_60 a_73 x_74 x_75) = some r) : roadref2_scopeExpr_k.I (.l3 a_1 y_3 y_5 y_6 b_7 a_58 x_59 x_60 a_73 x_74 x_75) r := by
  unfold roadref2_scopeExpr_k.body at e
  intro W h0 m0 h m A_1 n_1 c_1 bk_3 cs_3 bk_5 cs_5 bk_6 cs_6 A_58 n_58 c_58 A_73 n_73 c_73 O ne_1 k_1 r_1 e_3 e_5 e_6 ne_58 k_58 r_58 ne_73
  subst ne_1
  subst ne_58
  subst ne_73
  refine f111.l3_in ?_
  unfold f111.l3T
  refine split_dec_e e (fun c44 e => ?_) (fun c44 e => ?_)
  · obtain ⟨y1, g2, e⟩ := bind_e e
    refine (O.os 3 rfl).addr rfl g2 fun a3 cs4 ha5 hc6 he7 => ?_
    refine ⟨_, ldAn (Sub.refl _) hc6 rfl, ?_⟩
    refine O.new fun h8 x9 O10 => ?_
    refine ⟨_, rfl, (T_api_Pat.T.len _ _ _ he7), ?_⟩
    refine O10.stA 4 rfl (T_api_Pat.T.len _ _ _ he7) (T_api_Pat.T.flat _ _ _ he7) fun h12 O13 => ?_
    refine split_any_e e (fun c43 e => ?_) (fun c43 e => ?_)
    · refine ⟨(Ext.refl _), ?_⟩
      have O14 := O13.nm
      exact (ih _ _ e) (O14.pick [0, 1, 2, 3]).nm rfl k_1 r_1 e_3 e_5 e_6 rfl k_58 r_58 rfl
    · refine ⟨_, ld0 (Sub.refl _) (O13.all 4 rfl) (T_api_Pat.g0 he7), _, rfl, ?_⟩
      refine split_eq_e e (fun c42 e => ?_) (fun c42 e => ?_)
      · refine ⟨_, ldAn (Sub.refl _) (O13.all 0 rfl) (T_api_Program.T.len _ _ _ e_3), ?_⟩
        refine ⟨_, ldk (k := 2) (Sub.refl _) (O13.all 4 rfl) (T_api_Pat.g2 he7), _, rfl, ?_⟩
        obtain ⟨y15, g16, e⟩ := bind_e e
        refine (roadref2_makersOf.walk (Hold.start (W := No) O13.s) e_3 g16).mono ?_
        rintro _ h17 ⟨m18, A21, n22, c23, Q19, rfl, ne24⟩
        have O26 := Hold.nm (O13.retC Q19 (vfs_cons (rR_vf (aE_vf (fun _ _ _ _ h => h))) vfs_nil))
        subst ne24
        refine ⟨_, _, _, rfl, ?_⟩
        refine ⟨Q19.S.ext, ?_⟩
        obtain ⟨y27, g28, e⟩ := bind_e e
        obtain ⟨m33, u34, s39, ⟨⟨r37, k38⟩, _⟩, B35, C36⟩ := O26.lend0 [5]
        replace r37 : Rd 1 eStr m33 A21 y15 := r37
        replace k38 : List.length y15 ≤ c23 := k38
        refine (slices_Contains_68.walk (Hold.start (W := No) s39) rfl k38 r37 g28).mono ?_
        rintro _ h29 ⟨m30, Q31, rfl⟩
        have O40 := Hold.nm (C36 Q31 vfs_nil)
        refine ⟨_, rfl, ?_⟩
        exact (ih _ _ e) (O40.pick [0, 1, 2, 3]).nm rfl k_1 r_1 e_3 e_5 e_6 rfl k_58 r_58 rfl
      · refine ⟨(Ext.refl _), ?_⟩
        have O41 := O13.nm
        exact (ih _ _ e) (O41.pick [0, 1, 2, 3]).nm rfl k_1 r_1 e_3 e_5 e_6 rfl k_58 r_58 rfl
  · exact (ih _ _ e) (O.pick [0, 1, 2]).nm rfl k_1 r_1 e_3 e_5 e_6 rfl k_58 r_58
theorem roadref2_scopeExpr_k.step_l1 (go : (p : roadref2_scopeExpr_k.Pt) → Option (T_roadref2_Wrong)) (ih : ∀ p r, go p = some r → roadref2_scopeExpr_k.I p r) (a_1 y_3 y_5 y_6 a_100 x_101 x_102) (r) (e : roadref2_scopeExpr_k.body go (.l1 a_1 y_3 y_5 y_6 a_100 x_101 x_102) = some r) : roadref2_scopeExpr_k.I (.l1 a_1 y_3 y_5 y_6 a_100 x_101 x_102) r := by
  unfold roadref2_scopeExpr_k.body at e
  intro W h0 m0 h m A_1 n_1 c_1 bk_3 cs_3 bk_5 cs_5 bk_6 cs_6 A_100 n_100 c_100 O ne_1 k_1 r_1 e_3 e_5 e_6 ne_100 k_100 r_100
  subst ne_1
  subst ne_100
  refine f111.l1_in ?_
  unfold f111.l1T
  refine split_dec_e e (fun c28 e => ?_) (fun c28 e => ?_)
  · obtain ⟨y1, g2, e⟩ := bind_e e
    refine r_100.addr rfl g2 fun a3 cs4 ha5 hc6 he7 => ?_
    refine ⟨_, ldAn O.s hc6 rfl, ?_⟩
    refine O.new fun h8 x9 O10 => ?_
    refine ⟨_, rfl, (T_api_Expr.T.len _ _ _ he7), ?_⟩
    refine O10.stA 3 rfl (T_api_Expr.T.len _ _ _ he7) (T_api_Expr.T.flat _ _ _ he7) fun h12 O13 => ?_
    refine O13.new fun h14 x15 O16 => ?_
    refine ⟨_, ld0 (Sub.refl _) (O16.all 1 rfl) (T_api_Expr.g0 e_5), _, rfl, ?_⟩
    refine split_eq_e e (fun c22 e => ?_) (fun c22 e => ?_)
    · have O18 := O16.rowE (l := ([] : List ByteArray)) 4 rfl tell_str (show CsE _ _ _ _ _ from CsE.nil) rfl
      have O19 := O18.nm
      exact (ih _ _ e) (O19.pick [0, 1, 2, 3, 4]).nm rfl k_1 r_1 e_3 e_5 e_6 he7 rfl rfl k_100 r_100
    · have O20 := O16.rowE (l := ([] : List ByteArray)) 4 rfl tell_str (show CsE _ _ _ _ _ from CsE.nil) rfl
      have O21 := O20.nm
      exact (ih _ _ e) (O21.pick [0, 1, 2, 3, 4]).nm rfl k_1 r_1 e_3 e_5 e_6 he7 rfl rfl k_100 r_100
  · obtain ⟨A23, c24, q25, k26, r27⟩ := T_api_Expr.g6 e_5
    refine ⟨_, ldk (k := 6) (Sub.refl _) (O.all 1 rfl) q25, _, _, _, rfl, ?_⟩
    exact (ih _ _ e) (O.pick [0, 2]).nm rfl k_1 r_1 e_3 e_6 rfl k26 r27
theorem roadref2_scopeExpr_k.step_j5 (go : (p : roadref2_scopeExpr_k.Pt) → Option (T_roadref2_Wrong)) (ih : ∀ p r, go p = some r → roadref2_scopeExpr_k.I p r) (a_1 y_3 y_5 y_6 y_13 a_14 a_100 x_101 x_102 b_108) (r) (e : roadref2_scopeExpr_k.body go (.j5 a_1 y_3 y_5 y_6 y_13 a_14 a_100 x_101 x_102 b_108) = some r) : roadref2_scopeExpr_k.I (.j5 a_1 y_3 y_5 y_6 y_13 a_14 a_100 x_101 x_102 b_108) r := by
  unfold roadref2_scopeExpr_k.body at e
  intro W h0 m0 h m A_1 n_1 c_1 bk_3 cs_3 bk_5 cs_5 bk_6 cs_6 bk_13 cs_13 A_14 n_14 c_14 A_100 n_100 c_100 O ne_1 k_1 r_1 e_3 e_5 e_6 e_13 ne_14 ne_100 k_100 r_100
  subst ne_1
  subst ne_14
  subst ne_100
  refine f111.j5_in ?_
  unfold f111.j5T
  refine split_any_e e (fun c24 e => ?_) (fun c24 e => ?_)
  · refine ⟨_, ldk (k := 2) (Sub.refl _) (O.all 1 rfl) (T_api_Expr.g2 e_5), _, rfl, ?_⟩
    refine O.new fun h1 x2 O3 => ?_
    have O5 := O3.rowE (l := ([y_5.Text] : List ByteArray)) 5 rfl tell_str (show CsE _ _ _ _ _ from (CsE.cons (c1 := [(Value.string y_5.Text)]) rfl rfl CsE.nil)) rfl
    obtain ⟨m6, u7, ⟨r8, k9⟩, O10⟩ := O5.frz 5 rfl
    replace r8 : Rd 1 eStr m6 (some ⟨(Array.size h), 0, none⟩) ([y_5.Text] : List ByteArray) := r8
    have O11 := O10.nm
    exact (ih _ _ e) (O11.pick [0, 1, 2, 3]).nm rfl k_1 (r_1.sub tell_str u7) (T_api_Program.T.mono _ _ _ _ u7 e_3) (T_api_Expr.T.mono _ _ _ _ u7 e_5) (T_roadref2_Wrong.T.mono _ _ _ _ u7 e_6) (T_api_Expr.T.mono _ _ _ _ u7 e_13) rfl k9 r8 rfl k_100 (r_100.sub T_api_Expr.T u7)
  · refine ⟨_, ld0 (Sub.refl _) (O.all 1 rfl) (T_api_Expr.g0 e_5), _, rfl, ?_⟩
    refine split_eq_e e (fun c23 e => ?_) (fun c23 e => ?_)
    · obtain ⟨A12, c13, q14, k15, r16⟩ := T_api_Expr.g3 e_5
      refine ⟨_, ldk (k := 3) (Sub.refl _) (O.all 1 rfl) q14, _, _, _, rfl, ?_⟩
      exact (ih _ _ e) (O.pick [0, 1, 2, 3]).nm rfl k_1 r_1 e_3 e_5 e_6 e_13 rfl k15 r16 rfl k_100 r_100
    · obtain ⟨m17, u18, ⟨r19, k20⟩, O21⟩ := O.frz 4 rfl
      replace r19 : Rd 1 eStr m17 A_14 a_14 := r19
      have O22 := O21.nm
      exact (ih _ _ e) (O22.pick [0, 1, 2, 3]).nm rfl k_1 (r_1.sub tell_str u18) (T_api_Program.T.mono _ _ _ _ u18 e_3) (T_api_Expr.T.mono _ _ _ _ u18 e_5) (T_roadref2_Wrong.T.mono _ _ _ _ u18 e_6) (T_api_Expr.T.mono _ _ _ _ u18 e_13) rfl k20 r19 rfl k_100 (r_100.sub T_api_Expr.T u18)
set_option maxHeartbeats 4000000 in
theorem roadref2_scopeExpr_k.step_j2 (go : (p : roadref2_scopeExpr_k.Pt) → Option (T_roadref2_Wrong)) (ih : ∀ p r, go p = some r → roadref2_scopeExpr_k.I p r) (a_1 y_3 y_5 y_6 y_13 a_14 a_100 x_101 x_102) (r) (e : roadref2_scopeExpr_k.body go (.j2 a_1 y_3 y_5 y_6 y_13 a_14 a_100 x_101 x_102) = some r) : roadref2_scopeExpr_k.I (.j2 a_1 y_3 y_5 y_6 y_13 a_14 a_100 x_101 x_102) r := by
  unfold roadref2_scopeExpr_k.body at e
  intro W h0 m0 h m A_1 n_1 c_1 bk_3 cs_3 bk_5 cs_5 bk_6 cs_6 bk_13 cs_13 A_14 n_14 c_14 A_100 n_100 c_100 O ne_1 k_1 r_1 e_3 e_5 e_6 e_13 ne_14 k_14 r_14 ne_100 k_100 r_100
  subst ne_1
  subst ne_14
  subst ne_100
  refine f111.j2_in ?_
  unfold f111.j2T
  refine ⟨_, ldAn (Sub.refl _) (O.all 0 rfl) (T_api_Program.T.len _ _ _ e_3), ?_⟩
  refine ⟨_, ldAn (Sub.refl _) (O.all 3 rfl) (T_api_Expr.T.len _ _ _ e_13), ?_⟩
  obtain ⟨y6, g7, e⟩ := bind_e e
  obtain ⟨y26, g27, e⟩ := bind_e e
  refine ⟨?_, ?_⟩
  · refine O.new fun h51 x52 O53 => ?_
    refine ⟨x52, ?_⟩
    refine ⟨?_, ?_⟩
    · have O55 := O53.rowE (l := ([a_1, a_14] : List (List ByteArray))) 4 rfl (tell_row tell_str) (show CsE _ _ _ _ _ from (CsE.cons (c1 := [(Value.slice A_1 (List.length a_1) c_1)]) ⟨_, _, rfl, k_1, r_1⟩ rfl (CsE.cons (c1 := [(Value.slice A_14 (List.length a_14) c_14)]) ⟨_, _, rfl, k_14, r_14⟩ rfl CsE.nil))) rfl
      have O62 := O55.nm
      obtain ⟨m63, u64, s69, ⟨⟨r67, k68⟩, _⟩, B65, C66⟩ := O62.lend0 [4]
      replace r67 : Rd 1 (eRow 1 eStr) m63 (some ⟨(Array.size h), 0, none⟩) ([a_1, a_14] : List (List ByteArray)) := r67
      replace k68 : List.length ([a_1, a_14] : List (List ByteArray)) ≤ 2 := k68
      refine (slices_Concat_155.walk (Hold.start (W := No) s69) rfl k68 r67 g7).mono ?_
      rintro _ h58 ⟨m59, A70, n71, c72, Q60, rfl, ne73⟩
      have O75 := Hold.nm (C66 Q60 (vfs_cons (rR_vf (aE_vf (fun _ _ _ _ h => h))) vfs_nil))
      subst ne73
      refine ⟨_, _, _, rfl, ?_⟩
      refine ⟨(x52.trans Q60.S.ext), ?_⟩
      refine ⟨?_, ?_⟩
      · obtain ⟨m82, u83, s88, ⟨⟨r86, k87⟩, _⟩, B84, C85⟩ := O75.lend0 [5]
        replace r86 : Rd 1 eStr m82 A70 y6 := r86
        replace k87 : List.length y6 ≤ c72 := k87
        refine ((ih _ _ g27) (Hold.start (W := No) s88) (T_api_Program.T.mono _ _ _ _ u83 e_3) rfl k87 r86 (T_api_Expr.T.mono _ _ _ _ u83 e_13)).mono ?_
        rintro _ h78 ⟨m79, cs90, Q80, rfl, he91⟩
        replace he91 : T_roadref2_Wrong.E m y26 cs90 := T_roadref2_Wrong.keep he91
        have O92 := Hold.nm (C85 Q80 vfs_nil)
        refine O92.new fun h93 x94 O95 => ?_
        refine ⟨(((x52.trans Q60.S.ext).trans Q80.S.ext).trans x94), ?_⟩
        refine ⟨_, rfl, (T_roadref2_Wrong.T.len _ _ _ he91), ?_⟩
        refine O95.stAO 6 rfl (T_roadref2_Wrong.T.len _ _ _ he91) (T_roadref2_Wrong.T.flat _ _ _ he91) fun h97 S99 O98 => ?_
        have O100 := O98.nm
        exact (ih _ _ e) (O100.pick [0, 1, 2, 6]).nm rfl k_1 r_1 e_3 e_5 e_6 he91 rfl k_100 r_100
      · refine O75.new fun h101 x102 O103 => ?_
        refine ⟨((x52.trans Q60.S.ext).trans x102), ?_⟩
        have O111 := O103.nm
        obtain ⟨m112, u113, s118, ⟨⟨r116, k117⟩, _⟩, B114, C115⟩ := O111.lend0 [5]
        replace r116 : Rd 1 eStr m112 A70 y6 := r116
        replace k117 : List.length y6 ≤ c72 := k117
        refine ((ih _ _ g27) (Hold.start (W := No) s118) (T_api_Program.T.mono _ _ _ _ u113 e_3) rfl k117 r116 (T_api_Expr.T.mono _ _ _ _ u113 e_13)).mono ?_
        rintro _ h107 ⟨m108, cs120, Q109, rfl, he121⟩
        replace he121 : T_roadref2_Wrong.E m y26 cs120 := T_roadref2_Wrong.keep he121
        have O122 := Hold.nm (C115 Q109 vfs_nil)
        refine ⟨_, rfl, (T_roadref2_Wrong.T.len _ _ _ he121), ?_⟩
        refine O122.stAO 6 rfl (T_roadref2_Wrong.T.len _ _ _ he121) (T_roadref2_Wrong.T.flat _ _ _ he121) fun h123 S125 O124 => ?_
        have O126 := O124.nm
        exact (ih _ _ e) (O126.pick [0, 1, 2, 6]).nm rfl k_1 r_1 e_3 e_5 e_6 he121 rfl k_100 r_100
    · refine O53.new fun h127 x128 O129 => ?_
      refine ⟨(x52.trans x128), ?_⟩
      have O131 := O129.rowE (l := ([a_1, a_14] : List (List ByteArray))) 4 rfl (tell_row tell_str) (show CsE _ _ _ _ _ from (CsE.cons (c1 := [(Value.slice A_1 (List.length a_1) c_1)]) ⟨_, _, rfl, k_1, r_1⟩ rfl (CsE.cons (c1 := [(Value.slice A_14 (List.length a_14) c_14)]) ⟨_, _, rfl, k_14, r_14⟩ rfl CsE.nil))) rfl
      have O138 := O131.nm
      obtain ⟨m139, u140, s145, ⟨⟨r143, k144⟩, _⟩, B141, C142⟩ := O138.lend0 [4]
      replace r143 : Rd 1 (eRow 1 eStr) m139 (some ⟨(Array.size h), 0, none⟩) ([a_1, a_14] : List (List ByteArray)) := r143
      replace k144 : List.length ([a_1, a_14] : List (List ByteArray)) ≤ 2 := k144
      refine (slices_Concat_155.walk (Hold.start (W := No) s145) rfl k144 r143 g7).mono ?_
      rintro _ h134 ⟨m135, A146, n147, c148, Q136, rfl, ne149⟩
      have O151 := Hold.nm (C142 Q136 (vfs_cons (rR_vf (aE_vf (fun _ _ _ _ h => h))) vfs_nil))
      subst ne149
      refine ⟨_, _, _, rfl, ?_⟩
      refine ⟨((x52.trans x128).trans Q136.S.ext), ?_⟩
      obtain ⟨m158, u159, s164, ⟨⟨r162, k163⟩, _⟩, B160, C161⟩ := O151.lend0 [6]
      replace r162 : Rd 1 eStr m158 A146 y6 := r162
      replace k163 : List.length y6 ≤ c148 := k163
      refine ((ih _ _ g27) (Hold.start (W := No) s164) (T_api_Program.T.mono _ _ _ _ u159 e_3) rfl k163 r162 (T_api_Expr.T.mono _ _ _ _ u159 e_13)).mono ?_
      rintro _ h154 ⟨m155, cs166, Q156, rfl, he167⟩
      replace he167 : T_roadref2_Wrong.E m y26 cs166 := T_roadref2_Wrong.keep he167
      have O168 := Hold.nm (C161 Q156 vfs_nil)
      refine ⟨_, rfl, (T_roadref2_Wrong.T.len _ _ _ he167), ?_⟩
      refine O168.stAO 5 rfl (T_roadref2_Wrong.T.len _ _ _ he167) (T_roadref2_Wrong.T.flat _ _ _ he167) fun h169 S171 O170 => ?_
      have O172 := O170.nm
      exact (ih _ _ e) (O172.pick [0, 1, 2, 5]).nm rfl k_1 r_1 e_3 e_5 e_6 he167 rfl k_100 r_100
  · refine O.new fun h173 x174 O175 => ?_
    refine ⟨x174, ?_⟩
    refine O175.new fun h177 x178 O179 => ?_
    refine ⟨(x174.trans x178), ?_⟩
    have O181 := O179.rowE (l := ([a_1, a_14] : List (List ByteArray))) 5 rfl (tell_row tell_str) (show CsE _ _ _ _ _ from (CsE.cons (c1 := [(Value.slice A_1 (List.length a_1) c_1)]) ⟨_, _, rfl, k_1, r_1⟩ rfl (CsE.cons (c1 := [(Value.slice A_14 (List.length a_14) c_14)]) ⟨_, _, rfl, k_14, r_14⟩ rfl CsE.nil))) rfl
    have O188 := O181.nm
    obtain ⟨m189, u190, s195, ⟨⟨r193, k194⟩, _⟩, B191, C192⟩ := O188.lend0 [5]
    replace r193 : Rd 1 (eRow 1 eStr) m189 (some ⟨(Array.size h173), 0, none⟩) ([a_1, a_14] : List (List ByteArray)) := r193
    replace k194 : List.length ([a_1, a_14] : List (List ByteArray)) ≤ 2 := k194
    refine (slices_Concat_155.walk (Hold.start (W := No) s195) rfl k194 r193 g7).mono ?_
    rintro _ h184 ⟨m185, A196, n197, c198, Q186, rfl, ne199⟩
    have O201 := Hold.nm (C192 Q186 (vfs_cons (rR_vf (aE_vf (fun _ _ _ _ h => h))) vfs_nil))
    subst ne199
    refine ⟨_, _, _, rfl, ?_⟩
    refine ⟨((x174.trans x178).trans Q186.S.ext), ?_⟩
    obtain ⟨m208, u209, s214, ⟨⟨r212, k213⟩, _⟩, B210, C211⟩ := O201.lend0 [6]
    replace r212 : Rd 1 eStr m208 A196 y6 := r212
    replace k213 : List.length y6 ≤ c198 := k213
    refine ((ih _ _ g27) (Hold.start (W := No) s214) (T_api_Program.T.mono _ _ _ _ u209 e_3) rfl k213 r212 (T_api_Expr.T.mono _ _ _ _ u209 e_13)).mono ?_
    rintro _ h204 ⟨m205, cs216, Q206, rfl, he217⟩
    replace he217 : T_roadref2_Wrong.E m y26 cs216 := T_roadref2_Wrong.keep he217
    have O218 := Hold.nm (C211 Q206 vfs_nil)
    refine ⟨_, rfl, (T_roadref2_Wrong.T.len _ _ _ he217), ?_⟩
    refine O218.stAO 4 rfl (T_roadref2_Wrong.T.len _ _ _ he217) (T_roadref2_Wrong.T.flat _ _ _ he217) fun h219 S221 O220 => ?_
    have O222 := O220.nm
    exact (ih _ _ e) (O222.pick [0, 1, 2, 4]).nm rfl k_1 r_1 e_3 e_5 e_6 he217 rfl k_100 r_100
theorem roadref2_scopeExpr_k.step_j4 (go : (p : roadref2_scopeExpr_k.Pt) → Option (T_roadref2_Wrong)) (ih : ∀ p r, go p = some r → roadref2_scopeExpr_k.I p r) (a_1 y_3 y_5 y_6 y_15 a_100 x_101 x_102) (r) (e : roadref2_scopeExpr_k.body go (.j4 a_1 y_3 y_5 y_6 y_15 a_100 x_101 x_102) = some r) : roadref2_scopeExpr_k.I (.j4 a_1 y_3 y_5 y_6 y_15 a_100 x_101 x_102) r := by
  unfold roadref2_scopeExpr_k.body at e
  intro W h0 m0 h m A_1 n_1 c_1 bk_3 cs_3 bk_5 cs_5 bk_6 cs_6 bk_15 cs_15 A_100 n_100 c_100 O ne_1 k_1 r_1 e_3 e_5 e_6 e_15 ne_100 k_100 r_100
  subst ne_1
  subst ne_100
  refine f111.j4_in ?_
  unfold f111.j4T
  refine ⟨_, ld0 (Sub.refl _) (O.all 3 rfl) (T_roadref2_Wrong.g0 e_15), _, rfl, ?_⟩
  refine split_ne_e e (fun c4 e => ?_) (fun c4 e => ?_)
  · refine ⟨_, ldAn (Sub.refl _) (O.all 3 rfl) (T_roadref2_Wrong.T.len _ _ _ e_15), ?_⟩
    refine ⟨_, rfl, (T_roadref2_Wrong.T.len _ _ _ e_15), ?_⟩
    refine O.stA 2 rfl ((T_roadref2_Wrong.T.len _ _ _ e_15).trans ((T_roadref2_Wrong.T.len _ _ _ e_6)).symm) (T_roadref2_Wrong.T.flat _ _ _ e_15) fun h1 O2 => ?_
    refine ⟨_, ldAn (Sub.refl _) (O2.all 2 rfl) (T_roadref2_Wrong.T.len _ _ _ e_15), ?_⟩
    have O3 := O2.nm
    cases e
    exact ⟨_, _, O3.pick [], rfl, e_15⟩
  · exact (ih _ _ e) (O.pick [0, 1, 2]).nm rfl k_1 r_1 e_3 e_5 e_6 rfl k_100 r_100
set_option maxHeartbeats 4000000 in
theorem roadref2_scopeExpr_k.step_l2 (go : (p : roadref2_scopeExpr_k.Pt) → Option (T_roadref2_Wrong)) (ih : ∀ p r, go p = some r → roadref2_scopeExpr_k.I p r) (a_1 y_3 y_6 a_138 x_139 x_140) (r) (e : roadref2_scopeExpr_k.body go (.l2 a_1 y_3 y_6 a_138 x_139 x_140) = some r) : roadref2_scopeExpr_k.I (.l2 a_1 y_3 y_6 a_138 x_139 x_140) r := by
  unfold roadref2_scopeExpr_k.body at e
  intro W h0 m0 h m A_1 n_1 c_1 bk_3 cs_3 bk_6 cs_6 A_138 n_138 c_138 O ne_1 k_1 r_1 e_3 e_6 ne_138 k_138 r_138
  subst ne_1
  subst ne_138
  refine f111.l2_in ?_
  unfold f111.l2T
  refine split_dec_e e (fun c350 e => ?_) (fun c350 e => ?_)
  · obtain ⟨y1, g2, e⟩ := bind_e e
    refine r_138.addr rfl g2 fun a3 cs4 ha5 hc6 he7 => ?_
    refine ⟨_, ldAn O.s hc6 rfl, ?_⟩
    refine O.new fun h8 x9 O10 => ?_
    refine ⟨_, rfl, (T_api_Arm.T.len _ _ _ he7), ?_⟩
    refine O10.stA 2 rfl (T_api_Arm.T.len _ _ _ he7) (T_api_Arm.T.flat _ _ _ he7) fun h12 O13 => ?_
    refine ⟨_, ldAn (Sub.refl _) (O13.all 0 rfl) (T_api_Program.T.len _ _ _ e_3), ?_⟩
    refine ⟨_, ldA0n (Sub.refl _) (O13.all 2 rfl) 4 (le_len (T_api_Arm.T.len _ _ _ he7) (by decide)), ?_⟩
    refine ⟨_, ldAkn (Sub.refl _) (O13.all 2 rfl) 4 8 (le_len (T_api_Arm.T.len _ _ _ he7) (by decide)), ?_⟩
    obtain ⟨y14, g15, e⟩ := bind_e e
    obtain ⟨y36, g37, e⟩ := bind_e e
    obtain ⟨y56, g57, e⟩ := bind_e e
    refine ⟨?_, ?_⟩
    · refine (roadref2_NamesOf.walk (Hold.start (W := No) O13.s) (T_api_Arm.u0_226 he7) g15).mono ?_
      rintro _ h83 ⟨m84, A87, n88, c89, Q85, rfl, ne90⟩
      have O92 := Hold.nm (O13.retC Q85 (vfs_cons (rR_vf (aE_vf (fun _ _ _ _ h => h))) vfs_nil))
      subst ne90
      refine ⟨_, _, _, rfl, ?_⟩
      refine ⟨Q85.S.ext, ?_⟩
      refine ⟨?_, ?_⟩
      · refine O92.new fun h93 x94 O95 => ?_
        refine ⟨(Q85.S.ext.trans x94), ?_⟩
        refine ⟨?_, ?_⟩
        · obtain ⟨m97, u98, ⟨r99, k100⟩, O101⟩ := O95.frz 3 rfl
          replace r99 : Rd 1 eStr m97 A87 y14 := r99
          have O102 := O101.rowE (l := ([a_1, y14] : List (List ByteArray))) 4 rfl (tell_row tell_str) (show CsE _ _ _ _ _ from (CsE.cons (c1 := [(Value.slice A_1 (List.length a_1) c_1)]) ⟨_, _, rfl, k_1, (r_1.sub tell_str u98)⟩ rfl (CsE.cons (c1 := [(Value.slice A87 (List.length y14) c89)]) ⟨_, _, rfl, k100, r99⟩ rfl CsE.nil))) rfl
          have O109 := O102.nm
          obtain ⟨m110, u111, s116, ⟨⟨r114, k115⟩, _⟩, B112, C113⟩ := O109.lend0 [4]
          replace r114 : Rd 1 (eRow 1 eStr) m110 (some ⟨(Array.size h83), 0, none⟩) ([a_1, y14] : List (List ByteArray)) := r114
          replace k115 : List.length ([a_1, y14] : List (List ByteArray)) ≤ 2 := k115
          refine (slices_Concat_155.walk (Hold.start (W := No) s116) rfl k115 r114 g37).mono ?_
          rintro _ h105 ⟨m106, A117, n118, c119, Q107, rfl, ne120⟩
          have O122 := Hold.nm (C113 Q107 (vfs_cons (rR_vf (aE_vf (fun _ _ _ _ h => h))) vfs_nil))
          subst ne120
          refine ⟨_, _, _, rfl, ?_⟩
          refine ⟨((Q85.S.ext.trans x94).trans Q107.S.ext), ?_⟩
          refine ⟨?_, ?_⟩
          · obtain ⟨m129, u130, s135, ⟨⟨r133, k134⟩, _⟩, B131, C132⟩ := O122.lend0 [5]
            replace r133 : Rd 1 eStr m129 A117 y36 := r133
            replace k134 : List.length y36 ≤ c119 := k134
            refine ((ih _ _ g57) (Hold.start (W := No) s135) (T_api_Program.T.mono _ _ _ _ (u98.trans u130) e_3) rfl k134 r133 (T_api_Expr.T.mono _ _ _ _ (u98.trans u130) (T_api_Arm.u4_152 he7))).mono ?_
            rintro _ h125 ⟨m126, cs137, Q127, rfl, he138⟩
            replace he138 : T_roadref2_Wrong.E m97 y56 cs137 := T_roadref2_Wrong.keep he138
            have O139 := Hold.nm (C132 Q127 vfs_nil)
            refine O139.new fun h140 x141 O142 => ?_
            refine ⟨((((Q85.S.ext.trans x94).trans Q107.S.ext).trans Q127.S.ext).trans x141), ?_⟩
            refine ⟨_, rfl, (T_roadref2_Wrong.T.len _ _ _ he138), ?_⟩
            refine O142.stAO 6 rfl (T_roadref2_Wrong.T.len _ _ _ he138) (T_roadref2_Wrong.T.flat _ _ _ he138) fun h144 S146 O145 => ?_
            have O147 := O145.nm
            exact (ih _ _ e) (O147.pick [0, 1, 6]).nm rfl k_1 (r_1.sub tell_str u98) (T_api_Program.T.mono _ _ _ _ u98 e_3) (T_roadref2_Wrong.T.mono _ _ _ _ u98 e_6) he138 rfl k_138 (r_138.sub T_api_Arm.T u98)
          · refine O122.new fun h148 x149 O150 => ?_
            refine ⟨(((Q85.S.ext.trans x94).trans Q107.S.ext).trans x149), ?_⟩
            have O158 := O150.nm
            obtain ⟨m159, u160, s165, ⟨⟨r163, k164⟩, _⟩, B161, C162⟩ := O158.lend0 [5]
            replace r163 : Rd 1 eStr m159 A117 y36 := r163
            replace k164 : List.length y36 ≤ c119 := k164
            refine ((ih _ _ g57) (Hold.start (W := No) s165) (T_api_Program.T.mono _ _ _ _ (u98.trans u160) e_3) rfl k164 r163 (T_api_Expr.T.mono _ _ _ _ (u98.trans u160) (T_api_Arm.u4_152 he7))).mono ?_
            rintro _ h154 ⟨m155, cs167, Q156, rfl, he168⟩
            replace he168 : T_roadref2_Wrong.E m97 y56 cs167 := T_roadref2_Wrong.keep he168
            have O169 := Hold.nm (C162 Q156 vfs_nil)
            refine ⟨_, rfl, (T_roadref2_Wrong.T.len _ _ _ he168), ?_⟩
            refine O169.stAO 6 rfl (T_roadref2_Wrong.T.len _ _ _ he168) (T_roadref2_Wrong.T.flat _ _ _ he168) fun h170 S172 O171 => ?_
            have O173 := O171.nm
            exact (ih _ _ e) (O173.pick [0, 1, 6]).nm rfl k_1 (r_1.sub tell_str u98) (T_api_Program.T.mono _ _ _ _ u98 e_3) (T_roadref2_Wrong.T.mono _ _ _ _ u98 e_6) he168 rfl k_138 (r_138.sub T_api_Arm.T u98)
        · refine O95.new fun h174 x175 O176 => ?_
          refine ⟨((Q85.S.ext.trans x94).trans x175), ?_⟩
          obtain ⟨m178, u179, ⟨r180, k181⟩, O182⟩ := O176.frz 3 rfl
          replace r180 : Rd 1 eStr m178 A87 y14 := r180
          have O183 := O182.rowE (l := ([a_1, y14] : List (List ByteArray))) 4 rfl (tell_row tell_str) (show CsE _ _ _ _ _ from (CsE.cons (c1 := [(Value.slice A_1 (List.length a_1) c_1)]) ⟨_, _, rfl, k_1, (r_1.sub tell_str u179)⟩ rfl (CsE.cons (c1 := [(Value.slice A87 (List.length y14) c89)]) ⟨_, _, rfl, k181, r180⟩ rfl CsE.nil))) rfl
          have O190 := O183.nm
          obtain ⟨m191, u192, s197, ⟨⟨r195, k196⟩, _⟩, B193, C194⟩ := O190.lend0 [4]
          replace r195 : Rd 1 (eRow 1 eStr) m191 (some ⟨(Array.size h83), 0, none⟩) ([a_1, y14] : List (List ByteArray)) := r195
          replace k196 : List.length ([a_1, y14] : List (List ByteArray)) ≤ 2 := k196
          refine (slices_Concat_155.walk (Hold.start (W := No) s197) rfl k196 r195 g37).mono ?_
          rintro _ h186 ⟨m187, A198, n199, c200, Q188, rfl, ne201⟩
          have O203 := Hold.nm (C194 Q188 (vfs_cons (rR_vf (aE_vf (fun _ _ _ _ h => h))) vfs_nil))
          subst ne201
          refine ⟨_, _, _, rfl, ?_⟩
          refine ⟨(((Q85.S.ext.trans x94).trans x175).trans Q188.S.ext), ?_⟩
          obtain ⟨m210, u211, s216, ⟨⟨r214, k215⟩, _⟩, B212, C213⟩ := O203.lend0 [6]
          replace r214 : Rd 1 eStr m210 A198 y36 := r214
          replace k215 : List.length y36 ≤ c200 := k215
          refine ((ih _ _ g57) (Hold.start (W := No) s216) (T_api_Program.T.mono _ _ _ _ (u179.trans u211) e_3) rfl k215 r214 (T_api_Expr.T.mono _ _ _ _ (u179.trans u211) (T_api_Arm.u4_152 he7))).mono ?_
          rintro _ h206 ⟨m207, cs218, Q208, rfl, he219⟩
          replace he219 : T_roadref2_Wrong.E m178 y56 cs218 := T_roadref2_Wrong.keep he219
          have O220 := Hold.nm (C213 Q208 vfs_nil)
          refine ⟨_, rfl, (T_roadref2_Wrong.T.len _ _ _ he219), ?_⟩
          refine O220.stAO 5 rfl (T_roadref2_Wrong.T.len _ _ _ he219) (T_roadref2_Wrong.T.flat _ _ _ he219) fun h221 S223 O222 => ?_
          have O224 := O222.nm
          exact (ih _ _ e) (O224.pick [0, 1, 5]).nm rfl k_1 (r_1.sub tell_str u179) (T_api_Program.T.mono _ _ _ _ u179 e_3) (T_roadref2_Wrong.T.mono _ _ _ _ u179 e_6) he219 rfl k_138 (r_138.sub T_api_Arm.T u179)
      · refine O92.new fun h225 x226 O227 => ?_
        refine ⟨(Q85.S.ext.trans x226), ?_⟩
        refine O227.new fun h229 x230 O231 => ?_
        refine ⟨((Q85.S.ext.trans x226).trans x230), ?_⟩
        obtain ⟨m233, u234, ⟨r235, k236⟩, O237⟩ := O231.frz 3 rfl
        replace r235 : Rd 1 eStr m233 A87 y14 := r235
        have O238 := O237.rowE (l := ([a_1, y14] : List (List ByteArray))) 5 rfl (tell_row tell_str) (show CsE _ _ _ _ _ from (CsE.cons (c1 := [(Value.slice A_1 (List.length a_1) c_1)]) ⟨_, _, rfl, k_1, (r_1.sub tell_str u234)⟩ rfl (CsE.cons (c1 := [(Value.slice A87 (List.length y14) c89)]) ⟨_, _, rfl, k236, r235⟩ rfl CsE.nil))) rfl
        have O245 := O238.nm
        obtain ⟨m246, u247, s252, ⟨⟨r250, k251⟩, _⟩, B248, C249⟩ := O245.lend0 [5]
        replace r250 : Rd 1 (eRow 1 eStr) m246 (some ⟨(Array.size h225), 0, none⟩) ([a_1, y14] : List (List ByteArray)) := r250
        replace k251 : List.length ([a_1, y14] : List (List ByteArray)) ≤ 2 := k251
        refine (slices_Concat_155.walk (Hold.start (W := No) s252) rfl k251 r250 g37).mono ?_
        rintro _ h241 ⟨m242, A253, n254, c255, Q243, rfl, ne256⟩
        have O258 := Hold.nm (C249 Q243 (vfs_cons (rR_vf (aE_vf (fun _ _ _ _ h => h))) vfs_nil))
        subst ne256
        refine ⟨_, _, _, rfl, ?_⟩
        refine ⟨(((Q85.S.ext.trans x226).trans x230).trans Q243.S.ext), ?_⟩
        obtain ⟨m265, u266, s271, ⟨⟨r269, k270⟩, _⟩, B267, C268⟩ := O258.lend0 [6]
        replace r269 : Rd 1 eStr m265 A253 y36 := r269
        replace k270 : List.length y36 ≤ c255 := k270
        refine ((ih _ _ g57) (Hold.start (W := No) s271) (T_api_Program.T.mono _ _ _ _ (u234.trans u266) e_3) rfl k270 r269 (T_api_Expr.T.mono _ _ _ _ (u234.trans u266) (T_api_Arm.u4_152 he7))).mono ?_
        rintro _ h261 ⟨m262, cs273, Q263, rfl, he274⟩
        replace he274 : T_roadref2_Wrong.E m233 y56 cs273 := T_roadref2_Wrong.keep he274
        have O275 := Hold.nm (C268 Q263 vfs_nil)
        refine ⟨_, rfl, (T_roadref2_Wrong.T.len _ _ _ he274), ?_⟩
        refine O275.stAO 4 rfl (T_roadref2_Wrong.T.len _ _ _ he274) (T_roadref2_Wrong.T.flat _ _ _ he274) fun h276 S278 O277 => ?_
        have O279 := O277.nm
        exact (ih _ _ e) (O279.pick [0, 1, 4]).nm rfl k_1 (r_1.sub tell_str u234) (T_api_Program.T.mono _ _ _ _ u234 e_3) (T_roadref2_Wrong.T.mono _ _ _ _ u234 e_6) he274 rfl k_138 (r_138.sub T_api_Arm.T u234)
    · refine O13.new fun h280 x281 O282 => ?_
      refine ⟨x281, ?_⟩
      refine (roadref2_NamesOf.walk (Hold.start (W := No) O282.s) (T_api_Arm.u0_226 he7) g15).mono ?_
      rintro _ h286 ⟨m287, A290, n291, c292, Q288, rfl, ne293⟩
      have O295 := Hold.nm (O282.retC Q288 (vfs_cons (rR_vf (aE_vf (fun _ _ _ _ h => h))) vfs_nil))
      subst ne293
      refine ⟨_, _, _, rfl, ?_⟩
      refine ⟨(x281.trans Q288.S.ext), ?_⟩
      refine O295.new fun h296 x297 O298 => ?_
      refine ⟨((x281.trans Q288.S.ext).trans x297), ?_⟩
      obtain ⟨m300, u301, ⟨r302, k303⟩, O304⟩ := O298.frz 4 rfl
      replace r302 : Rd 1 eStr m300 A290 y14 := r302
      have O305 := O304.rowE (l := ([a_1, y14] : List (List ByteArray))) 5 rfl (tell_row tell_str) (show CsE _ _ _ _ _ from (CsE.cons (c1 := [(Value.slice A_1 (List.length a_1) c_1)]) ⟨_, _, rfl, k_1, (r_1.sub tell_str u301)⟩ rfl (CsE.cons (c1 := [(Value.slice A290 (List.length y14) c292)]) ⟨_, _, rfl, k303, r302⟩ rfl CsE.nil))) rfl
      have O312 := O305.nm
      obtain ⟨m313, u314, s319, ⟨⟨r317, k318⟩, _⟩, B315, C316⟩ := O312.lend0 [5]
      replace r317 : Rd 1 (eRow 1 eStr) m313 (some ⟨(Array.size h286), 0, none⟩) ([a_1, y14] : List (List ByteArray)) := r317
      replace k318 : List.length ([a_1, y14] : List (List ByteArray)) ≤ 2 := k318
      refine (slices_Concat_155.walk (Hold.start (W := No) s319) rfl k318 r317 g37).mono ?_
      rintro _ h308 ⟨m309, A320, n321, c322, Q310, rfl, ne323⟩
      have O325 := Hold.nm (C316 Q310 (vfs_cons (rR_vf (aE_vf (fun _ _ _ _ h => h))) vfs_nil))
      subst ne323
      refine ⟨_, _, _, rfl, ?_⟩
      refine ⟨(((x281.trans Q288.S.ext).trans x297).trans Q310.S.ext), ?_⟩
      obtain ⟨m332, u333, s338, ⟨⟨r336, k337⟩, _⟩, B334, C335⟩ := O325.lend0 [6]
      replace r336 : Rd 1 eStr m332 A320 y36 := r336
      replace k337 : List.length y36 ≤ c322 := k337
      refine ((ih _ _ g57) (Hold.start (W := No) s338) (T_api_Program.T.mono _ _ _ _ (u301.trans u333) e_3) rfl k337 r336 (T_api_Expr.T.mono _ _ _ _ (u301.trans u333) (T_api_Arm.u4_152 he7))).mono ?_
      rintro _ h328 ⟨m329, cs340, Q330, rfl, he341⟩
      replace he341 : T_roadref2_Wrong.E m300 y56 cs340 := T_roadref2_Wrong.keep he341
      have O342 := Hold.nm (C335 Q330 vfs_nil)
      refine ⟨_, rfl, (T_roadref2_Wrong.T.len _ _ _ he341), ?_⟩
      refine O342.stAO 3 rfl (T_roadref2_Wrong.T.len _ _ _ he341) (T_roadref2_Wrong.T.flat _ _ _ he341) fun h343 S345 O344 => ?_
      have O346 := O344.nm
      exact (ih _ _ e) (O346.pick [0, 1, 3]).nm rfl k_1 (r_1.sub tell_str u301) (T_api_Program.T.mono _ _ _ _ u301 e_3) (T_roadref2_Wrong.T.mono _ _ _ _ u301 e_6) he341 rfl k_138 (r_138.sub T_api_Arm.T u301)
  · refine ⟨_, rfl, rfl, ?_⟩
    refine O.stA 1 rfl ((T_roadref2_Wrong.T.len _ _ _ e_6)).symm (Flats.cons trivial (Flats.cons trivial Flats.nil)) fun h347 O348 => ?_
    refine ⟨_, ldAn (Sub.refl _) (O348.all 1 rfl) rfl, ?_⟩
    have O349 := O348.nm
    cases e
    exact ⟨_, _, O349.pick [], rfl, (show T_roadref2_Wrong.E _ (T_roadref2_Wrong.mk (0 : Int) (0 : Int)) [(Value.int .i64 (0 : Int)), (Value.int .i64 (0 : Int))] from rfl)⟩
theorem roadref2_scopeExpr_k.step_j3 (go : (p : roadref2_scopeExpr_k.Pt) → Option (T_roadref2_Wrong)) (ih : ∀ p r, go p = some r → roadref2_scopeExpr_k.I p r) (a_1 y_3 y_6 y_18 a_138 x_139 x_140) (r) (e : roadref2_scopeExpr_k.body go (.j3 a_1 y_3 y_6 y_18 a_138 x_139 x_140) = some r) : roadref2_scopeExpr_k.I (.j3 a_1 y_3 y_6 y_18 a_138 x_139 x_140) r := by
  unfold roadref2_scopeExpr_k.body at e
  intro W h0 m0 h m A_1 n_1 c_1 bk_3 cs_3 bk_6 cs_6 bk_18 cs_18 A_138 n_138 c_138 O ne_1 k_1 r_1 e_3 e_6 e_18 ne_138 k_138 r_138
  subst ne_1
  subst ne_138
  refine f111.j3_in ?_
  unfold f111.j3T
  refine ⟨_, ld0 (Sub.refl _) (O.all 2 rfl) (T_roadref2_Wrong.g0 e_18), _, rfl, ?_⟩
  refine split_ne_e e (fun c4 e => ?_) (fun c4 e => ?_)
  · refine ⟨_, ldAn (Sub.refl _) (O.all 2 rfl) (T_roadref2_Wrong.T.len _ _ _ e_18), ?_⟩
    refine ⟨_, rfl, (T_roadref2_Wrong.T.len _ _ _ e_18), ?_⟩
    refine O.stA 1 rfl ((T_roadref2_Wrong.T.len _ _ _ e_18).trans ((T_roadref2_Wrong.T.len _ _ _ e_6)).symm) (T_roadref2_Wrong.T.flat _ _ _ e_18) fun h1 O2 => ?_
    refine ⟨_, ldAn (Sub.refl _) (O2.all 1 rfl) (T_roadref2_Wrong.T.len _ _ _ e_18), ?_⟩
    have O3 := O2.nm
    cases e
    exact ⟨_, _, O3.pick [], rfl, e_18⟩
  · exact (ih _ _ e) (O.pick [0, 1]).nm rfl k_1 r_1 e_3 e_6 rfl k_138 r_138
theorem roadref2_scopeExpr_k.all {p : roadref2_scopeExpr_k.Pt} {r : (T_roadref2_Wrong)} (e : roadref2_scopeExpr_k.go p = some r) : roadref2_scopeExpr_k.I p r := fixF_ind (β := fun _ => (T_roadref2_Wrong)) roadref2_scopeExpr_k.mono (I := roadref2_scopeExpr_k.I) (fun go ih p r e => match p with
  | .f y_0 a_1 y_2 => roadref2_scopeExpr_k.step_f go ih y_0 a_1 y_2 r e
  | .j0 a_1 y_3 y_5 y_6 b_7 => roadref2_scopeExpr_k.step_j0 go ih a_1 y_3 y_5 y_6 b_7 r e
  | .l0 a_1 y_3 y_5 y_6 b_7 a_58 x_59 x_60 => roadref2_scopeExpr_k.step_l0 go ih a_1 y_3 y_5 y_6 b_7 a_58 x_59 x_60 r e
  | .j1 a_1 y_3 y_5 y_6 b_7 y_9 a_58 x_59 x_60 => roadref2_scopeExpr_k.step_j1 go ih a_1 y_3 y_5 y_6 b_7 y_9 a_58 x_59 x_60 r e
  | .l3 a_1 y_3 y_5 y_6 b_7 a_58 x_59 x_60 a_73 x_74 x_75 => roadref2_scopeExpr_k.step_l3 go ih a_1 y_3 y_5 y_6 b_7 a_58 x_59 x_60 a_73 x_74 x_75 r e
  | .l1 a_1 y_3 y_5 y_6 a_100 x_101 x_102 => roadref2_scopeExpr_k.step_l1 go ih a_1 y_3 y_5 y_6 a_100 x_101 x_102 r e
  | .j5 a_1 y_3 y_5 y_6 y_13 a_14 a_100 x_101 x_102 b_108 => roadref2_scopeExpr_k.step_j5 go ih a_1 y_3 y_5 y_6 y_13 a_14 a_100 x_101 x_102 b_108 r e
  | .j2 a_1 y_3 y_5 y_6 y_13 a_14 a_100 x_101 x_102 => roadref2_scopeExpr_k.step_j2 go ih a_1 y_3 y_5 y_6 y_13 a_14 a_100 x_101 x_102 r e
  | .j4 a_1 y_3 y_5 y_6 y_15 a_100 x_101 x_102 => roadref2_scopeExpr_k.step_j4 go ih a_1 y_3 y_5 y_6 y_15 a_100 x_101 x_102 r e
  | .l2 a_1 y_3 y_6 a_138 x_139 x_140 => roadref2_scopeExpr_k.step_l2 go ih a_1 y_3 y_6 a_138 x_139 x_140 r e
  | .j3 a_1 y_3 y_6 y_18 a_138 x_139 x_140 => roadref2_scopeExpr_k.step_j3 go ih a_1 y_3 y_6 y_18 a_138 x_139 x_140 r e
  ) e
theorem roadref2_scopeExpr.walk {W h m cs_0 A_1 n_1 c_1 cs_2 y_0 a_1 y_2} (O : Hold W h m h m []) (e_0 : T_api_Program.E m y_0 cs_0) (ne_1 : n_1 = List.length a_1) (k_1 : List.length a_1 ≤ c_1) (r_1 : Rd 1 eStr m A_1 a_1) (e_2 : T_api_Expr.E m y_2 cs_2) {r} (e : roadref2_scopeExpr y_0 a_1 y_2 = some r) : Run Try.prog 111 #[Value.agg cs_0.toArray, Value.slice A_1 n_1 c_1, Value.agg cs_2.toArray] h (roadref2_scopeExpr.post W h m r) := roadref2_scopeExpr_k.all (p := .f y_0 a_1 y_2) e O e_0 ne_1 k_1 r_1 e_2
def roadref2_ScopeOf.post (W : Nat → Prop) (h0 m0 : Heap) (r : T_roadref2_Wrong) (v : Value) (h : Heap) : Prop := ∃ m cs0, Hold W h0 m0 h m [] ∧ v = .agg cs0.toArray ∧ T_roadref2_Wrong.E m r cs0
inductive roadref2_ScopeOf.l6_k.Pt where
  | l6 (y_1 : T_api_Program) (y_2 : T_roadref2_Wrong) (y_3 : T_roadref2_Wrong) (a_146 : List T_api_Actor) (x_147 : Int) (x_148 : Int)
noncomputable def roadref2_ScopeOf.l6_k.body (go : (p : roadref2_ScopeOf.l6_k.Pt) → Option (T_roadref2_Wrong)) : (p : roadref2_ScopeOf.l6_k.Pt) → Option (T_roadref2_Wrong)
  | .l6 y_1 y_2 y_3 a_146 x_147 x_148 => if x_148 < x_147 then (Option.bind (gi a_146 x_148) fun y1 => Option.bind (roadref2_doubled y1.Names) fun y19 => if y19 = true then (some (y_3)) else (Option.bind (roadref2_scopeExpr y_1 y1.Names y1.Body) fun y34 => if y34.E_ = (0 : Int) then ((go (.l6 y_1 y_2 y_3 a_146 x_147 (IntKind.wrap .i64 (x_148 + (1 : Int)))))) else (some (y34)))) else (some ((T_roadref2_Wrong.mk (0 : Int) (0 : Int))))
theorem roadref2_ScopeOf.l6_k.mono : MonoF (β := fun _ => (T_roadref2_Wrong)) roadref2_ScopeOf.l6_k.body := fun f g hfg p => match p with
  | .l6 y_1 y_2 y_3 a_146 x_147 x_148 => LeO.ite (LeO.bind (LeO.refl _) fun y1 => LeO.bind (LeO.refl _) fun y19 => LeO.ite (LeO.refl _) (LeO.bind (LeO.refl _) fun y34 => LeO.ite ((hfg _)) (LeO.refl _))) (LeO.refl _)
noncomputable def roadref2_ScopeOf.l6_k.go (p : roadref2_ScopeOf.l6_k.Pt) : Option (T_roadref2_Wrong) := fixF (β := fun _ => (T_roadref2_Wrong)) roadref2_ScopeOf.l6_k.body p
noncomputable def roadref2_ScopeOf.l6 (y_1 y_2 y_3 a_146 x_147 x_148) := roadref2_ScopeOf.l6_k.go (.l6 y_1 y_2 y_3 a_146 x_147 x_148)
theorem roadref2_ScopeOf.l6_eq (y_1 y_2 y_3 a_146 x_147 x_148) : roadref2_ScopeOf.l6 y_1 y_2 y_3 a_146 x_147 x_148 = if x_148 < x_147 then (Option.bind (gi a_146 x_148) fun y1 => Option.bind (roadref2_doubled y1.Names) fun y19 => if y19 = true then (some (y_3)) else (Option.bind (roadref2_scopeExpr y_1 y1.Names y1.Body) fun y34 => if y34.E_ = (0 : Int) then ((roadref2_ScopeOf.l6 y_1 y_2 y_3 a_146 x_147 (IntKind.wrap .i64 (x_148 + (1 : Int))))) else (some (y34)))) else (some ((T_roadref2_Wrong.mk (0 : Int) (0 : Int)))) := fixF_eq roadref2_ScopeOf.l6_k.mono _
def roadref2_ScopeOf.l6_k.I : (p : roadref2_ScopeOf.l6_k.Pt) → (T_roadref2_Wrong) → Prop
  | .l6 y_1 y_2 y_3 a_146 x_147 x_148, r => ∀ {W h0 m0 h m bk_1 cs_1 bk_2 cs_2 bk_3 cs_3 A_146 n_146 c_146} (O : Hold W h0 m0 h m [rV bk_1 135 cs_1, rV bk_2 141 cs_2, rV bk_3 141 cs_3]) (e_1 : T_api_Program.E m y_1 cs_1) (e_2 : T_roadref2_Wrong.E m y_2 cs_2) (e_3 : T_roadref2_Wrong.E m y_3 cs_3) (ne_146 : n_146 = List.length a_146) (k_146 : List.length a_146 ≤ c_146) (r_146 : Rd 14 T_api_Actor.E m A_146 a_146), f59.l6 (roadref2_ScopeOf.post W h0 m0 r) (⟨bk_1, 0, none⟩ : Addr) (⟨bk_2, 0, none⟩ : Addr) (⟨bk_3, 0, none⟩ : Addr) A_146 n_146 c_146 x_147 x_148 h
set_option maxHeartbeats 4000000 in
theorem roadref2_ScopeOf.l6_k.step_l6 (go : (p : roadref2_ScopeOf.l6_k.Pt) → Option (T_roadref2_Wrong)) (ih : ∀ p r, go p = some r → roadref2_ScopeOf.l6_k.I p r) (y_1 y_2 y_3 a_146 x_147 x_148) (r) (e : roadref2_ScopeOf.l6_k.body go (.l6 y_1 y_2 y_3 a_146 x_147 x_148) = some r) : roadref2_ScopeOf.l6_k.I (.l6 y_1 y_2 y_3 a_146 x_147 x_148) r := by
  unfold roadref2_ScopeOf.l6_k.body at e
  intro W h0 m0 h m bk_1 cs_1 bk_2 cs_2 bk_3 cs_3 A_146 n_146 c_146 O e_1 e_2 e_3 ne_146 k_146 r_146
  subst ne_146
  refine f59.l6_in ?_
  unfold f59.l6T
  refine split_dec_e e (fun c59 e => ?_) (fun c59 e => ?_)
  · obtain ⟨y1, g2, e⟩ := bind_e e
    refine r_146.addr rfl g2 fun a3 cs4 ha5 hc6 he7 => ?_
    refine ⟨_, ldAn O.s hc6 rfl, ?_⟩
    refine O.new fun h8 x9 O10 => ?_
    refine ⟨_, rfl, (T_api_Actor.T.len _ _ _ he7), ?_⟩
    refine O10.stA 3 rfl (T_api_Actor.T.len _ _ _ he7) (T_api_Actor.T.flat _ _ _ he7) fun h12 O13 => ?_
    obtain ⟨A14, c15, q16, k17, r18⟩ := T_api_Actor.g1 he7
    refine ⟨_, ldk (k := 1) (Sub.refl _) (O13.all 3 rfl) q16, _, _, _, rfl, ?_⟩
    obtain ⟨y19, g20, e⟩ := bind_e e
    refine (roadref2_doubled.walk (Hold.start (W := No) O13.s) rfl k17 r18 g20).mono ?_
    rintro _ h21 ⟨m22, Q23, rfl⟩
    have O25 := Hold.nm (O13.retC Q23 vfs_nil)
    refine ⟨_, rfl, ?_⟩
    refine split_any_e e (fun c55 e => ?_) (fun c55 e => ?_)
    · refine ⟨_, ldAn (Sub.refl _) (O25.all 2 rfl) (T_roadref2_Wrong.T.len _ _ _ e_3), ?_⟩
      refine ⟨_, rfl, (T_roadref2_Wrong.T.len _ _ _ e_3), ?_⟩
      refine O25.stA 1 rfl ((T_roadref2_Wrong.T.len _ _ _ e_3).trans ((T_roadref2_Wrong.T.len _ _ _ e_2)).symm) (T_roadref2_Wrong.T.flat _ _ _ e_3) fun h26 O27 => ?_
      refine ⟨_, ldAn (Sub.refl _) (O27.all 1 rfl) (T_roadref2_Wrong.T.len _ _ _ e_3), ?_⟩
      have O28 := O27.nm
      cases e
      exact ⟨_, _, O28.pick [], rfl, e_3⟩
    · refine ⟨_, ldAn (Sub.refl _) (O25.all 0 rfl) (T_api_Program.T.len _ _ _ e_1), ?_⟩
      obtain ⟨A29, c30, q31, k32, r33⟩ := T_api_Actor.g1 he7
      refine ⟨_, ldk (k := 1) (Sub.refl _) (O25.all 3 rfl) q31, _, _, _, rfl, ?_⟩
      refine ⟨_, ldAkn (Sub.refl _) (O25.all 3 rfl) 6 8 (le_len (T_api_Actor.T.len _ _ _ he7) (by decide)), ?_⟩
      obtain ⟨y34, g35, e⟩ := bind_e e
      refine (roadref2_scopeExpr.walk (Hold.start (W := No) O25.s) e_1 rfl k32 r33 (T_api_Actor.u6_152 he7) g35).mono ?_
      rintro _ h36 ⟨m37, cs41, Q38, rfl, he42⟩
      replace he42 : T_roadref2_Wrong.E m y34 cs41 := T_roadref2_Wrong.keep he42
      have O43 := Hold.nm (O25.retC Q38 vfs_nil)
      refine O43.new fun h44 x45 O46 => ?_
      refine ⟨_, rfl, (T_roadref2_Wrong.T.len _ _ _ he42), ?_⟩
      refine O46.stA 4 rfl (T_roadref2_Wrong.T.len _ _ _ he42) (T_roadref2_Wrong.T.flat _ _ _ he42) fun h48 O49 => ?_
      refine ⟨_, ld0 (Sub.refl _) (O49.all 4 rfl) (T_roadref2_Wrong.g0 he42), _, rfl, ?_⟩
      refine split_ne_e e (fun c54 e => ?_) (fun c54 e => ?_)
      · refine ⟨_, ldAn (Sub.refl _) (O49.all 4 rfl) (T_roadref2_Wrong.T.len _ _ _ he42), ?_⟩
        refine ⟨_, rfl, (T_roadref2_Wrong.T.len _ _ _ he42), ?_⟩
        refine O49.stA 1 rfl ((T_roadref2_Wrong.T.len _ _ _ he42).trans ((T_roadref2_Wrong.T.len _ _ _ e_2)).symm) (T_roadref2_Wrong.T.flat _ _ _ he42) fun h50 O51 => ?_
        refine ⟨_, ldAn (Sub.refl _) (O51.all 1 rfl) (T_roadref2_Wrong.T.len _ _ _ he42), ?_⟩
        have O52 := O51.nm
        cases e
        exact ⟨_, _, O52.pick [], rfl, he42⟩
      · have O53 := O49.nm
        exact (ih _ _ e) (O53.pick [0, 1, 2]).nm e_1 e_2 e_3 rfl k_146 r_146
  · refine ⟨_, rfl, rfl, ?_⟩
    refine O.stA 1 rfl ((T_roadref2_Wrong.T.len _ _ _ e_2)).symm (Flats.cons trivial (Flats.cons trivial Flats.nil)) fun h56 O57 => ?_
    refine ⟨_, ldAn (Sub.refl _) (O57.all 1 rfl) rfl, ?_⟩
    have O58 := O57.nm
    cases e
    exact ⟨_, _, O58.pick [], rfl, (show T_roadref2_Wrong.E _ (T_roadref2_Wrong.mk (0 : Int) (0 : Int)) [(Value.int .i64 (0 : Int)), (Value.int .i64 (0 : Int))] from rfl)⟩
theorem roadref2_ScopeOf.l6_k.all {p : roadref2_ScopeOf.l6_k.Pt} {r : (T_roadref2_Wrong)} (e : roadref2_ScopeOf.l6_k.go p = some r) : roadref2_ScopeOf.l6_k.I p r := fixF_ind (β := fun _ => (T_roadref2_Wrong)) roadref2_ScopeOf.l6_k.mono (I := roadref2_ScopeOf.l6_k.I) (fun go ih p r e => match p with
  | .l6 y_1 y_2 y_3 a_146 x_147 x_148 => roadref2_ScopeOf.l6_k.step_l6 go ih y_1 y_2 y_3 a_146 x_147 x_148 r e
  ) e
inductive roadref2_ScopeOf.l5_k.Pt where
  | l5 (y_1 : T_api_Program) (y_2 : T_roadref2_Wrong) (y_3 : T_roadref2_Wrong) (a_119 : List T_api_Func) (x_120 : Int) (x_121 : Int)
  | j1 (y_1 : T_api_Program) (y_2 : T_roadref2_Wrong) (y_3 : T_roadref2_Wrong) (y_20 : T_api_Func) (a_119 : List T_api_Func) (x_120 : Int) (x_121 : Int) (b_132 : Bool)
  | j0 (y_1 : T_api_Program) (y_2 : T_roadref2_Wrong) (y_3 : T_roadref2_Wrong) (y_20 : T_api_Func) (a_119 : List T_api_Func) (x_120 : Int) (x_121 : Int)
noncomputable def roadref2_ScopeOf.l5_k.body (go : (p : roadref2_ScopeOf.l5_k.Pt) → Option (T_roadref2_Wrong)) : (p : roadref2_ScopeOf.l5_k.Pt) → Option (T_roadref2_Wrong)
  | .l5 y_1 y_2 y_3 a_119 x_120 x_121 => if x_121 < x_120 then (Option.bind (gi a_119 x_121) fun y1 => Option.bind (roadref2_doubled y1.Params) fun y19 => if y19 = true then ((go (.j1 y_1 y_2 y_3 y1 a_119 x_120 x_121 true))) else (Option.bind (roadref2_doubled y1.Names) fun y31 => (go (.j1 y_1 y_2 y_3 y1 a_119 x_120 x_121 y31)))) else ((roadref2_ScopeOf.l6 y_1 y_2 y_3 y_1.Actors (((List.length y_1.Actors) : Nat) : Int) (0 : Int)))
  | .j1 y_1 y_2 y_3 y_20 a_119 x_120 x_121 b_132 => if b_132 = true then (some (y_3)) else ((go (.j0 y_1 y_2 y_3 y_20 a_119 x_120 x_121)))
  | .j0 y_1 y_2 y_3 y_20 a_119 x_120 x_121 => Option.bind (roadref2_scopeExpr y_1 y_20.Names y_20.Body) fun y6 => if y6.E_ = (0 : Int) then ((go (.l5 y_1 y_2 y_3 a_119 x_120 (IntKind.wrap .i64 (x_121 + (1 : Int)))))) else (some (y6))
theorem roadref2_ScopeOf.l5_k.mono : MonoF (β := fun _ => (T_roadref2_Wrong)) roadref2_ScopeOf.l5_k.body := fun f g hfg p => match p with
  | .l5 y_1 y_2 y_3 a_119 x_120 x_121 => LeO.ite (LeO.bind (LeO.refl _) fun y1 => LeO.bind (LeO.refl _) fun y19 => LeO.ite ((hfg _)) (LeO.bind (LeO.refl _) fun y31 => (hfg _))) ((LeO.refl _))
  | .j1 y_1 y_2 y_3 y_20 a_119 x_120 x_121 b_132 => LeO.ite (LeO.refl _) ((hfg _))
  | .j0 y_1 y_2 y_3 y_20 a_119 x_120 x_121 => LeO.bind (LeO.refl _) fun y6 => LeO.ite ((hfg _)) (LeO.refl _)
noncomputable def roadref2_ScopeOf.l5_k.go (p : roadref2_ScopeOf.l5_k.Pt) : Option (T_roadref2_Wrong) := fixF (β := fun _ => (T_roadref2_Wrong)) roadref2_ScopeOf.l5_k.body p
noncomputable def roadref2_ScopeOf.l5 (y_1 y_2 y_3 a_119 x_120 x_121) := roadref2_ScopeOf.l5_k.go (.l5 y_1 y_2 y_3 a_119 x_120 x_121)
noncomputable def roadref2_ScopeOf.j1 (y_1 y_2 y_3 y_20 a_119 x_120 x_121 b_132) := roadref2_ScopeOf.l5_k.go (.j1 y_1 y_2 y_3 y_20 a_119 x_120 x_121 b_132)
noncomputable def roadref2_ScopeOf.j0 (y_1 y_2 y_3 y_20 a_119 x_120 x_121) := roadref2_ScopeOf.l5_k.go (.j0 y_1 y_2 y_3 y_20 a_119 x_120 x_121)
theorem roadref2_ScopeOf.l5_eq (y_1 y_2 y_3 a_119 x_120 x_121) : roadref2_ScopeOf.l5 y_1 y_2 y_3 a_119 x_120 x_121 = if x_121 < x_120 then (Option.bind (gi a_119 x_121) fun y1 => Option.bind (roadref2_doubled y1.Params) fun y19 => if y19 = true then ((roadref2_ScopeOf.j1 y_1 y_2 y_3 y1 a_119 x_120 x_121 true)) else (Option.bind (roadref2_doubled y1.Names) fun y31 => (roadref2_ScopeOf.j1 y_1 y_2 y_3 y1 a_119 x_120 x_121 y31))) else ((roadref2_ScopeOf.l6 y_1 y_2 y_3 y_1.Actors (((List.length y_1.Actors) : Nat) : Int) (0 : Int))) := fixF_eq roadref2_ScopeOf.l5_k.mono _
theorem roadref2_ScopeOf.j1_eq (y_1 y_2 y_3 y_20 a_119 x_120 x_121 b_132) : roadref2_ScopeOf.j1 y_1 y_2 y_3 y_20 a_119 x_120 x_121 b_132 = if b_132 = true then (some (y_3)) else ((roadref2_ScopeOf.j0 y_1 y_2 y_3 y_20 a_119 x_120 x_121)) := fixF_eq roadref2_ScopeOf.l5_k.mono _
theorem roadref2_ScopeOf.j0_eq (y_1 y_2 y_3 y_20 a_119 x_120 x_121) : roadref2_ScopeOf.j0 y_1 y_2 y_3 y_20 a_119 x_120 x_121 = Option.bind (roadref2_scopeExpr y_1 y_20.Names y_20.Body) fun y6 => if y6.E_ = (0 : Int) then ((roadref2_ScopeOf.l5 y_1 y_2 y_3 a_119 x_120 (IntKind.wrap .i64 (x_121 + (1 : Int))))) else (some (y6)) := fixF_eq roadref2_ScopeOf.l5_k.mono _
def roadref2_ScopeOf.l5_k.I : (p : roadref2_ScopeOf.l5_k.Pt) → (T_roadref2_Wrong) → Prop
  | .l5 y_1 y_2 y_3 a_119 x_120 x_121, r => ∀ {W h0 m0 h m bk_1 cs_1 bk_2 cs_2 bk_3 cs_3 A_119 n_119 c_119} (O : Hold W h0 m0 h m [rV bk_1 135 cs_1, rV bk_2 141 cs_2, rV bk_3 141 cs_3, rR (aE T_api_Func.T) A_119 c_119 a_119]) (e_1 : T_api_Program.E m y_1 cs_1) (e_2 : T_roadref2_Wrong.E m y_2 cs_2) (e_3 : T_roadref2_Wrong.E m y_3 cs_3) (ne_119 : n_119 = List.length a_119), f59.l5 (roadref2_ScopeOf.post W h0 m0 r) (⟨bk_1, 0, none⟩ : Addr) (⟨bk_2, 0, none⟩ : Addr) (⟨bk_3, 0, none⟩ : Addr) A_119 n_119 c_119 x_120 x_121 h
  | .j1 y_1 y_2 y_3 y_20 a_119 x_120 x_121 b_132, r => ∀ {W h0 m0 h m bk_1 cs_1 bk_2 cs_2 bk_3 cs_3 bk_20 cs_20 A_119 n_119 c_119} (O : Hold W h0 m0 h m [rV bk_1 135 cs_1, rV bk_2 141 cs_2, rV bk_3 141 cs_3, rV bk_20 219 cs_20, rR (aE T_api_Func.T) A_119 c_119 a_119]) (e_1 : T_api_Program.E m y_1 cs_1) (e_2 : T_roadref2_Wrong.E m y_2 cs_2) (e_3 : T_roadref2_Wrong.E m y_3 cs_3) (e_20 : T_api_Func.E m y_20 cs_20) (ne_119 : n_119 = List.length a_119), f59.j1 (roadref2_ScopeOf.post W h0 m0 r) (⟨bk_1, 0, none⟩ : Addr) (⟨bk_2, 0, none⟩ : Addr) (⟨bk_3, 0, none⟩ : Addr) (⟨bk_20, 0, none⟩ : Addr) A_119 n_119 c_119 x_120 x_121 b_132 h
  | .j0 y_1 y_2 y_3 y_20 a_119 x_120 x_121, r => ∀ {W h0 m0 h m bk_1 cs_1 bk_2 cs_2 bk_3 cs_3 bk_20 cs_20 A_119 n_119 c_119} (O : Hold W h0 m0 h m [rV bk_1 135 cs_1, rV bk_2 141 cs_2, rV bk_3 141 cs_3, rV bk_20 219 cs_20, rR (aE T_api_Func.T) A_119 c_119 a_119]) (e_1 : T_api_Program.E m y_1 cs_1) (e_2 : T_roadref2_Wrong.E m y_2 cs_2) (e_3 : T_roadref2_Wrong.E m y_3 cs_3) (e_20 : T_api_Func.E m y_20 cs_20) (ne_119 : n_119 = List.length a_119), f59.j0 (roadref2_ScopeOf.post W h0 m0 r) (⟨bk_1, 0, none⟩ : Addr) (⟨bk_2, 0, none⟩ : Addr) (⟨bk_3, 0, none⟩ : Addr) (⟨bk_20, 0, none⟩ : Addr) A_119 n_119 c_119 x_120 x_121 h
theorem roadref2_ScopeOf.l5_k.step_l5 (go : (p : roadref2_ScopeOf.l5_k.Pt) → Option (T_roadref2_Wrong)) (ih : ∀ p r, go p = some r → roadref2_ScopeOf.l5_k.I p r) (y_1 y_2 y_3 a_119 x_120 x_121) (r) (e : roadref2_ScopeOf.l5_k.body go (.l5 y_1 y_2 y_3 a_119 x_120 x_121) = some r) : roadref2_ScopeOf.l5_k.I (.l5 y_1 y_2 y_3 a_119 x_120 x_121) r := by
  unfold roadref2_ScopeOf.l5_k.body at e
  intro W h0 m0 h m bk_1 cs_1 bk_2 cs_2 bk_3 cs_3 A_119 n_119 c_119 O e_1 e_2 e_3 ne_119
  subst ne_119
  refine f59.l5_in ?_
  unfold f59.l5T
  refine split_dec_e e (fun c44 e => ?_) (fun c44 e => ?_)
  · obtain ⟨y1, g2, e⟩ := bind_e e
    refine (O.os 3 rfl).addr rfl g2 fun a3 cs4 ha5 hc6 he7 => ?_
    refine ⟨_, ldAn (Sub.refl _) hc6 rfl, ?_⟩
    refine O.new fun h8 x9 O10 => ?_
    refine ⟨_, rfl, (T_api_Func.T.len _ _ _ he7), ?_⟩
    refine O10.stA 4 rfl (T_api_Func.T.len _ _ _ he7) (T_api_Func.T.flat _ _ _ he7) fun h12 O13 => ?_
    obtain ⟨A14, c15, q16, k17, r18⟩ := T_api_Func.g1 he7
    refine ⟨_, ldk (k := 1) (Sub.refl _) (O13.all 4 rfl) q16, _, _, _, rfl, ?_⟩
    obtain ⟨y19, g20, e⟩ := bind_e e
    refine (roadref2_doubled.walk (Hold.start (W := No) O13.s) rfl k17 r18 g20).mono ?_
    rintro _ h21 ⟨m22, Q23, rfl⟩
    have O25 := Hold.nm (O13.retC Q23 vfs_nil)
    refine ⟨_, rfl, ?_⟩
    refine split_any_e e (fun c38 e => ?_) (fun c38 e => ?_)
    · exact (ih _ _ e) (O25.pick [0, 1, 2, 4, 3]).nm e_1 e_2 e_3 he7 rfl
    · obtain ⟨A26, c27, q28, k29, r30⟩ := T_api_Func.g2 he7
      refine ⟨_, ldk (k := 2) (Sub.refl _) (O25.all 4 rfl) q28, _, _, _, rfl, ?_⟩
      obtain ⟨y31, g32, e⟩ := bind_e e
      refine (roadref2_doubled.walk (Hold.start (W := No) O25.s) rfl k29 r30 g32).mono ?_
      rintro _ h33 ⟨m34, Q35, rfl⟩
      have O37 := Hold.nm (O25.retC Q35 vfs_nil)
      refine ⟨_, rfl, ?_⟩
      exact (ih _ _ e) (O37.pick [0, 1, 2, 4, 3]).nm e_1 e_2 e_3 he7 rfl
  · obtain ⟨A39, c40, q41, k42, r43⟩ := T_api_Program.g7 e_1
    refine ⟨_, ldk (k := 7) (Sub.refl _) (O.all 0 rfl) q41, _, _, _, rfl, ?_⟩
    exact (roadref2_ScopeOf.l6_k.all e) (O.pick [0, 1, 2]).nm e_1 e_2 e_3 rfl k42 r43
theorem roadref2_ScopeOf.l5_k.step_j1 (go : (p : roadref2_ScopeOf.l5_k.Pt) → Option (T_roadref2_Wrong)) (ih : ∀ p r, go p = some r → roadref2_ScopeOf.l5_k.I p r) (y_1 y_2 y_3 y_20 a_119 x_120 x_121 b_132) (r) (e : roadref2_ScopeOf.l5_k.body go (.j1 y_1 y_2 y_3 y_20 a_119 x_120 x_121 b_132) = some r) : roadref2_ScopeOf.l5_k.I (.j1 y_1 y_2 y_3 y_20 a_119 x_120 x_121 b_132) r := by
  unfold roadref2_ScopeOf.l5_k.body at e
  intro W h0 m0 h m bk_1 cs_1 bk_2 cs_2 bk_3 cs_3 bk_20 cs_20 A_119 n_119 c_119 O e_1 e_2 e_3 e_20 ne_119
  subst ne_119
  refine f59.j1_in ?_
  unfold f59.j1T
  refine split_any_e e (fun c4 e => ?_) (fun c4 e => ?_)
  · refine ⟨_, ldAn (Sub.refl _) (O.all 2 rfl) (T_roadref2_Wrong.T.len _ _ _ e_3), ?_⟩
    refine ⟨_, rfl, (T_roadref2_Wrong.T.len _ _ _ e_3), ?_⟩
    refine O.stA 1 rfl ((T_roadref2_Wrong.T.len _ _ _ e_3).trans ((T_roadref2_Wrong.T.len _ _ _ e_2)).symm) (T_roadref2_Wrong.T.flat _ _ _ e_3) fun h1 O2 => ?_
    refine ⟨_, ldAn (Sub.refl _) (O2.all 1 rfl) (T_roadref2_Wrong.T.len _ _ _ e_3), ?_⟩
    have O3 := O2.nm
    cases e
    exact ⟨_, _, O3.pick [], rfl, e_3⟩
  · exact (ih _ _ e) (O.pick [0, 1, 2, 3, 4]).nm e_1 e_2 e_3 e_20 rfl
theorem roadref2_ScopeOf.l5_k.step_j0 (go : (p : roadref2_ScopeOf.l5_k.Pt) → Option (T_roadref2_Wrong)) (ih : ∀ p r, go p = some r → roadref2_ScopeOf.l5_k.I p r) (y_1 y_2 y_3 y_20 a_119 x_120 x_121) (r) (e : roadref2_ScopeOf.l5_k.body go (.j0 y_1 y_2 y_3 y_20 a_119 x_120 x_121) = some r) : roadref2_ScopeOf.l5_k.I (.j0 y_1 y_2 y_3 y_20 a_119 x_120 x_121) r := by
  unfold roadref2_ScopeOf.l5_k.body at e
  intro W h0 m0 h m bk_1 cs_1 bk_2 cs_2 bk_3 cs_3 bk_20 cs_20 A_119 n_119 c_119 O e_1 e_2 e_3 e_20 ne_119
  subst ne_119
  refine f59.j0_in ?_
  unfold f59.j0T
  refine ⟨_, ldAn (Sub.refl _) (O.all 0 rfl) (T_api_Program.T.len _ _ _ e_1), ?_⟩
  obtain ⟨A1, c2, q3, k4, r5⟩ := T_api_Func.g2 e_20
  refine ⟨_, ldk (k := 2) (Sub.refl _) (O.all 3 rfl) q3, _, _, _, rfl, ?_⟩
  refine ⟨_, ldAkn (Sub.refl _) (O.all 3 rfl) 7 8 (le_len (T_api_Func.T.len _ _ _ e_20) (by decide)), ?_⟩
  obtain ⟨y6, g7, e⟩ := bind_e e
  refine (roadref2_scopeExpr.walk (Hold.start (W := No) O.s) e_1 rfl k4 r5 (T_api_Func.u7_152 e_20) g7).mono ?_
  rintro _ h8 ⟨m9, cs13, Q10, rfl, he14⟩
  replace he14 : T_roadref2_Wrong.E m y6 cs13 := T_roadref2_Wrong.keep he14
  have O15 := Hold.nm (O.retC Q10 vfs_nil)
  refine O15.new fun h16 x17 O18 => ?_
  refine ⟨_, rfl, (T_roadref2_Wrong.T.len _ _ _ he14), ?_⟩
  refine O18.stA 5 rfl (T_roadref2_Wrong.T.len _ _ _ he14) (T_roadref2_Wrong.T.flat _ _ _ he14) fun h20 O21 => ?_
  refine ⟨_, ld0 (Sub.refl _) (O21.all 5 rfl) (T_roadref2_Wrong.g0 he14), _, rfl, ?_⟩
  refine split_ne_e e (fun c26 e => ?_) (fun c26 e => ?_)
  · refine ⟨_, ldAn (Sub.refl _) (O21.all 5 rfl) (T_roadref2_Wrong.T.len _ _ _ he14), ?_⟩
    refine ⟨_, rfl, (T_roadref2_Wrong.T.len _ _ _ he14), ?_⟩
    refine O21.stA 1 rfl ((T_roadref2_Wrong.T.len _ _ _ he14).trans ((T_roadref2_Wrong.T.len _ _ _ e_2)).symm) (T_roadref2_Wrong.T.flat _ _ _ he14) fun h22 O23 => ?_
    refine ⟨_, ldAn (Sub.refl _) (O23.all 1 rfl) (T_roadref2_Wrong.T.len _ _ _ he14), ?_⟩
    have O24 := O23.nm
    cases e
    exact ⟨_, _, O24.pick [], rfl, he14⟩
  · have O25 := O21.nm
    exact (ih _ _ e) (O25.pick [0, 1, 2, 4]).nm e_1 e_2 e_3 rfl
theorem roadref2_ScopeOf.l5_k.all {p : roadref2_ScopeOf.l5_k.Pt} {r : (T_roadref2_Wrong)} (e : roadref2_ScopeOf.l5_k.go p = some r) : roadref2_ScopeOf.l5_k.I p r := fixF_ind (β := fun _ => (T_roadref2_Wrong)) roadref2_ScopeOf.l5_k.mono (I := roadref2_ScopeOf.l5_k.I) (fun go ih p r e => match p with
  | .l5 y_1 y_2 y_3 a_119 x_120 x_121 => roadref2_ScopeOf.l5_k.step_l5 go ih y_1 y_2 y_3 a_119 x_120 x_121 r e
  | .j1 y_1 y_2 y_3 y_20 a_119 x_120 x_121 b_132 => roadref2_ScopeOf.l5_k.step_j1 go ih y_1 y_2 y_3 y_20 a_119 x_120 x_121 b_132 r e
  | .j0 y_1 y_2 y_3 y_20 a_119 x_120 x_121 => roadref2_ScopeOf.l5_k.step_j0 go ih y_1 y_2 y_3 y_20 a_119 x_120 x_121 r e
  ) e
inductive roadref2_ScopeOf.l4_k.Pt where
  | l4 (y_1 : T_api_Program) (y_2 : T_roadref2_Wrong) (y_3 : T_roadref2_Wrong) (a_94 : List T_api_Trait) (x_95 : Int) (x_96 : Int)
  | l7 (y_1 : T_api_Program) (y_2 : T_roadref2_Wrong) (y_3 : T_roadref2_Wrong) (a_94 : List T_api_Trait) (x_95 : Int) (x_96 : Int) (a_101 : List T_api_Func) (x_102 : Int) (x_103 : Int)
  | j2 (y_1 : T_api_Program) (y_2 : T_roadref2_Wrong) (y_3 : T_roadref2_Wrong) (a_94 : List T_api_Trait) (x_95 : Int) (x_96 : Int) (a_101 : List T_api_Func) (x_102 : Int) (x_103 : Int) (b_114 : Bool)
noncomputable def roadref2_ScopeOf.l4_k.body (go : (p : roadref2_ScopeOf.l4_k.Pt) → Option (T_roadref2_Wrong)) : (p : roadref2_ScopeOf.l4_k.Pt) → Option (T_roadref2_Wrong)
  | .l4 y_1 y_2 y_3 a_94 x_95 x_96 => if x_96 < x_95 then (Option.bind (gi a_94 x_96) fun y1 => (go (.l7 y_1 y_2 y_3 a_94 x_95 x_96 y1.Funcs (((List.length y1.Funcs) : Nat) : Int) (0 : Int)))) else (Option.bind (roadref2_FunsOf y_1) fun y20 => (roadref2_ScopeOf.l5 y_1 y_2 y_3 y20 (((List.length y20) : Nat) : Int) (0 : Int)))
  | .l7 y_1 y_2 y_3 a_94 x_95 x_96 a_101 x_102 x_103 => if x_103 < x_102 then (Option.bind (gi a_101 x_103) fun y1 => Option.bind (roadref2_doubled y1.Params) fun y19 => if y19 = true then ((go (.j2 y_1 y_2 y_3 a_94 x_95 x_96 a_101 x_102 x_103 true))) else (Option.bind (roadref2_doubled y1.Names) fun y31 => (go (.j2 y_1 y_2 y_3 a_94 x_95 x_96 a_101 x_102 x_103 y31)))) else ((go (.l4 y_1 y_2 y_3 a_94 x_95 (IntKind.wrap .i64 (x_96 + (1 : Int))))))
  | .j2 y_1 y_2 y_3 a_94 x_95 x_96 a_101 x_102 x_103 b_114 => if b_114 = true then (some (y_3)) else ((go (.l7 y_1 y_2 y_3 a_94 x_95 x_96 a_101 x_102 (IntKind.wrap .i64 (x_103 + (1 : Int))))))
theorem roadref2_ScopeOf.l4_k.mono : MonoF (β := fun _ => (T_roadref2_Wrong)) roadref2_ScopeOf.l4_k.body := fun f g hfg p => match p with
  | .l4 y_1 y_2 y_3 a_94 x_95 x_96 => LeO.ite (LeO.bind (LeO.refl _) fun y1 => (hfg _)) (LeO.bind (LeO.refl _) fun y20 => (LeO.refl _))
  | .l7 y_1 y_2 y_3 a_94 x_95 x_96 a_101 x_102 x_103 => LeO.ite (LeO.bind (LeO.refl _) fun y1 => LeO.bind (LeO.refl _) fun y19 => LeO.ite ((hfg _)) (LeO.bind (LeO.refl _) fun y31 => (hfg _))) ((hfg _))
  | .j2 y_1 y_2 y_3 a_94 x_95 x_96 a_101 x_102 x_103 b_114 => LeO.ite (LeO.refl _) ((hfg _))
noncomputable def roadref2_ScopeOf.l4_k.go (p : roadref2_ScopeOf.l4_k.Pt) : Option (T_roadref2_Wrong) := fixF (β := fun _ => (T_roadref2_Wrong)) roadref2_ScopeOf.l4_k.body p
noncomputable def roadref2_ScopeOf.l4 (y_1 y_2 y_3 a_94 x_95 x_96) := roadref2_ScopeOf.l4_k.go (.l4 y_1 y_2 y_3 a_94 x_95 x_96)
noncomputable def roadref2_ScopeOf.l7 (y_1 y_2 y_3 a_94 x_95 x_96 a_101 x_102 x_103) := roadref2_ScopeOf.l4_k.go (.l7 y_1 y_2 y_3 a_94 x_95 x_96 a_101 x_102 x_103)
noncomputable def roadref2_ScopeOf.j2 (y_1 y_2 y_3 a_94 x_95 x_96 a_101 x_102 x_103 b_114) := roadref2_ScopeOf.l4_k.go (.j2 y_1 y_2 y_3 a_94 x_95 x_96 a_101 x_102 x_103 b_114)
theorem roadref2_ScopeOf.l4_eq (y_1 y_2 y_3 a_94 x_95 x_96) : roadref2_ScopeOf.l4 y_1 y_2 y_3 a_94 x_95 x_96 = if x_96 < x_95 then (Option.bind (gi a_94 x_96) fun y1 => (roadref2_ScopeOf.l7 y_1 y_2 y_3 a_94 x_95 x_96 y1.Funcs (((List.length y1.Funcs) : Nat) : Int) (0 : Int))) else (Option.bind (roadref2_FunsOf y_1) fun y20 => (roadref2_ScopeOf.l5 y_1 y_2 y_3 y20 (((List.length y20) : Nat) : Int) (0 : Int))) := fixF_eq roadref2_ScopeOf.l4_k.mono _
theorem roadref2_ScopeOf.l7_eq (y_1 y_2 y_3 a_94 x_95 x_96 a_101 x_102 x_103) : roadref2_ScopeOf.l7 y_1 y_2 y_3 a_94 x_95 x_96 a_101 x_102 x_103 = if x_103 < x_102 then (Option.bind (gi a_101 x_103) fun y1 => Option.bind (roadref2_doubled y1.Params) fun y19 => if y19 = true then ((roadref2_ScopeOf.j2 y_1 y_2 y_3 a_94 x_95 x_96 a_101 x_102 x_103 true)) else (Option.bind (roadref2_doubled y1.Names) fun y31 => (roadref2_ScopeOf.j2 y_1 y_2 y_3 a_94 x_95 x_96 a_101 x_102 x_103 y31))) else ((roadref2_ScopeOf.l4 y_1 y_2 y_3 a_94 x_95 (IntKind.wrap .i64 (x_96 + (1 : Int))))) := fixF_eq roadref2_ScopeOf.l4_k.mono _
theorem roadref2_ScopeOf.j2_eq (y_1 y_2 y_3 a_94 x_95 x_96 a_101 x_102 x_103 b_114) : roadref2_ScopeOf.j2 y_1 y_2 y_3 a_94 x_95 x_96 a_101 x_102 x_103 b_114 = if b_114 = true then (some (y_3)) else ((roadref2_ScopeOf.l7 y_1 y_2 y_3 a_94 x_95 x_96 a_101 x_102 (IntKind.wrap .i64 (x_103 + (1 : Int))))) := fixF_eq roadref2_ScopeOf.l4_k.mono _
def roadref2_ScopeOf.l4_k.I : (p : roadref2_ScopeOf.l4_k.Pt) → (T_roadref2_Wrong) → Prop
  | .l4 y_1 y_2 y_3 a_94 x_95 x_96, r => ∀ {W h0 m0 h m bk_1 cs_1 bk_2 cs_2 bk_3 cs_3 A_94 n_94 c_94} (O : Hold W h0 m0 h m [rV bk_1 135 cs_1, rV bk_2 141 cs_2, rV bk_3 141 cs_3]) (e_1 : T_api_Program.E m y_1 cs_1) (e_2 : T_roadref2_Wrong.E m y_2 cs_2) (e_3 : T_roadref2_Wrong.E m y_3 cs_3) (ne_94 : n_94 = List.length a_94) (k_94 : List.length a_94 ≤ c_94) (r_94 : Rd 2 T_api_Trait.E m A_94 a_94), f59.l4 (roadref2_ScopeOf.post W h0 m0 r) (⟨bk_1, 0, none⟩ : Addr) (⟨bk_2, 0, none⟩ : Addr) (⟨bk_3, 0, none⟩ : Addr) A_94 n_94 c_94 x_95 x_96 h
  | .l7 y_1 y_2 y_3 a_94 x_95 x_96 a_101 x_102 x_103, r => ∀ {W h0 m0 h m bk_1 cs_1 bk_2 cs_2 bk_3 cs_3 A_94 n_94 c_94 A_101 n_101 c_101} (O : Hold W h0 m0 h m [rV bk_1 135 cs_1, rV bk_2 141 cs_2, rV bk_3 141 cs_3]) (e_1 : T_api_Program.E m y_1 cs_1) (e_2 : T_roadref2_Wrong.E m y_2 cs_2) (e_3 : T_roadref2_Wrong.E m y_3 cs_3) (ne_94 : n_94 = List.length a_94) (k_94 : List.length a_94 ≤ c_94) (r_94 : Rd 2 T_api_Trait.E m A_94 a_94) (ne_101 : n_101 = List.length a_101) (k_101 : List.length a_101 ≤ c_101) (r_101 : Rd 15 T_api_Func.E m A_101 a_101), f59.l7 (roadref2_ScopeOf.post W h0 m0 r) (⟨bk_1, 0, none⟩ : Addr) (⟨bk_2, 0, none⟩ : Addr) (⟨bk_3, 0, none⟩ : Addr) A_94 n_94 c_94 x_95 x_96 A_101 n_101 c_101 x_102 x_103 h
  | .j2 y_1 y_2 y_3 a_94 x_95 x_96 a_101 x_102 x_103 b_114, r => ∀ {W h0 m0 h m bk_1 cs_1 bk_2 cs_2 bk_3 cs_3 A_94 n_94 c_94 A_101 n_101 c_101} (O : Hold W h0 m0 h m [rV bk_1 135 cs_1, rV bk_2 141 cs_2, rV bk_3 141 cs_3]) (e_1 : T_api_Program.E m y_1 cs_1) (e_2 : T_roadref2_Wrong.E m y_2 cs_2) (e_3 : T_roadref2_Wrong.E m y_3 cs_3) (ne_94 : n_94 = List.length a_94) (k_94 : List.length a_94 ≤ c_94) (r_94 : Rd 2 T_api_Trait.E m A_94 a_94) (ne_101 : n_101 = List.length a_101) (k_101 : List.length a_101 ≤ c_101) (r_101 : Rd 15 T_api_Func.E m A_101 a_101), f59.j2 (roadref2_ScopeOf.post W h0 m0 r) (⟨bk_1, 0, none⟩ : Addr) (⟨bk_2, 0, none⟩ : Addr) (⟨bk_3, 0, none⟩ : Addr) A_94 n_94 c_94 x_95 x_96 A_101 n_101 c_101 x_102 x_103 b_114 h
theorem roadref2_ScopeOf.l4_k.step_l4 (go : (p : roadref2_ScopeOf.l4_k.Pt) → Option (T_roadref2_Wrong)) (ih : ∀ p r, go p = some r → roadref2_ScopeOf.l4_k.I p r) (y_1 y_2 y_3 a_94 x_95 x_96) (r) (e : roadref2_ScopeOf.l4_k.body go (.l4 y_1 y_2 y_3 a_94 x_95 x_96) = some r) : roadref2_ScopeOf.l4_k.I (.l4 y_1 y_2 y_3 a_94 x_95 x_96) r := by
  unfold roadref2_ScopeOf.l4_k.body at e
  intro W h0 m0 h m bk_1 cs_1 bk_2 cs_2 bk_3 cs_3 A_94 n_94 c_94 O e_1 e_2 e_3 ne_94 k_94 r_94
  subst ne_94
  refine f59.l4_in ?_
  unfold f59.l4T
  refine split_dec_e e (fun c32 e => ?_) (fun c32 e => ?_)
  · obtain ⟨y1, g2, e⟩ := bind_e e
    refine r_94.addr rfl g2 fun a3 cs4 ha5 hc6 he7 => ?_
    refine ⟨_, ldAn O.s hc6 rfl, ?_⟩
    refine O.new fun h8 x9 O10 => ?_
    refine ⟨_, rfl, (T_api_Trait.T.len _ _ _ he7), ?_⟩
    refine O10.stA 3 rfl (T_api_Trait.T.len _ _ _ he7) (T_api_Trait.T.flat _ _ _ he7) fun h12 O13 => ?_
    obtain ⟨A14, c15, q16, k17, r18⟩ := T_api_Trait.g1 he7
    refine ⟨_, ldk (k := 1) (Sub.refl _) (O13.all 3 rfl) q16, _, _, _, rfl, ?_⟩
    have O19 := O13.nm
    exact (ih _ _ e) (O19.pick [0, 1, 2]).nm e_1 e_2 e_3 rfl k_94 r_94 rfl k17 r18
  · refine ⟨_, ldAn (Sub.refl _) (O.all 0 rfl) (T_api_Program.T.len _ _ _ e_1), ?_⟩
    obtain ⟨y20, g21, e⟩ := bind_e e
    refine (roadref2_FunsOf.walk (Hold.start (W := No) O.s) e_1 g21).mono ?_
    rintro _ h22 ⟨m23, A26, n27, c28, Q24, rfl, ne29⟩
    have O31 := Hold.nm (O.ret Q24)
    subst ne29
    refine ⟨_, _, _, rfl, ?_⟩
    exact (roadref2_ScopeOf.l5_k.all e) (O31.pick [0, 1, 2, 3]).nm (T_api_Program.T.mono _ _ _ _ Q24.S.up e_1) (T_roadref2_Wrong.T.mono _ _ _ _ Q24.S.up e_2) (T_roadref2_Wrong.T.mono _ _ _ _ Q24.S.up e_3) rfl
theorem roadref2_ScopeOf.l4_k.step_l7 (go : (p : roadref2_ScopeOf.l4_k.Pt) → Option (T_roadref2_Wrong)) (ih : ∀ p r, go p = some r → roadref2_ScopeOf.l4_k.I p r) (y_1 y_2 y_3 a_94 x_95 x_96 a_101 x_102 x_103) (r) (e : roadref2_ScopeOf.l4_k.body go (.l7 y_1 y_2 y_3 a_94 x_95 x_96 a_101 x_102 x_103) = some r) : roadref2_ScopeOf.l4_k.I (.l7 y_1 y_2 y_3 a_94 x_95 x_96 a_101 x_102 x_103) r := by
  unfold roadref2_ScopeOf.l4_k.body at e
  intro W h0 m0 h m bk_1 cs_1 bk_2 cs_2 bk_3 cs_3 A_94 n_94 c_94 A_101 n_101 c_101 O e_1 e_2 e_3 ne_94 k_94 r_94 ne_101 k_101 r_101
  subst ne_94
  subst ne_101
  refine f59.l7_in ?_
  unfold f59.l7T
  refine split_dec_e e (fun c39 e => ?_) (fun c39 e => ?_)
  · obtain ⟨y1, g2, e⟩ := bind_e e
    refine r_101.addr rfl g2 fun a3 cs4 ha5 hc6 he7 => ?_
    refine ⟨_, ldAn O.s hc6 rfl, ?_⟩
    refine O.new fun h8 x9 O10 => ?_
    refine ⟨_, rfl, (T_api_Func.T.len _ _ _ he7), ?_⟩
    refine O10.stA 3 rfl (T_api_Func.T.len _ _ _ he7) (T_api_Func.T.flat _ _ _ he7) fun h12 O13 => ?_
    obtain ⟨A14, c15, q16, k17, r18⟩ := T_api_Func.g1 he7
    refine ⟨_, ldk (k := 1) (Sub.refl _) (O13.all 3 rfl) q16, _, _, _, rfl, ?_⟩
    obtain ⟨y19, g20, e⟩ := bind_e e
    refine (roadref2_doubled.walk (Hold.start (W := No) O13.s) rfl k17 r18 g20).mono ?_
    rintro _ h21 ⟨m22, Q23, rfl⟩
    have O25 := Hold.nm (O13.retC Q23 vfs_nil)
    refine ⟨_, rfl, ?_⟩
    refine split_any_e e (fun c38 e => ?_) (fun c38 e => ?_)
    · exact (ih _ _ e) (O25.pick [0, 1, 2]).nm e_1 e_2 e_3 rfl k_94 r_94 rfl k_101 r_101
    · obtain ⟨A26, c27, q28, k29, r30⟩ := T_api_Func.g2 he7
      refine ⟨_, ldk (k := 2) (Sub.refl _) (O25.all 3 rfl) q28, _, _, _, rfl, ?_⟩
      obtain ⟨y31, g32, e⟩ := bind_e e
      refine (roadref2_doubled.walk (Hold.start (W := No) O25.s) rfl k29 r30 g32).mono ?_
      rintro _ h33 ⟨m34, Q35, rfl⟩
      have O37 := Hold.nm (O25.retC Q35 vfs_nil)
      refine ⟨_, rfl, ?_⟩
      exact (ih _ _ e) (O37.pick [0, 1, 2]).nm e_1 e_2 e_3 rfl k_94 r_94 rfl k_101 r_101
  · exact (ih _ _ e) (O.pick [0, 1, 2]).nm e_1 e_2 e_3 rfl k_94 r_94
theorem roadref2_ScopeOf.l4_k.step_j2 (go : (p : roadref2_ScopeOf.l4_k.Pt) → Option (T_roadref2_Wrong)) (ih : ∀ p r, go p = some r → roadref2_ScopeOf.l4_k.I p r) (y_1 y_2 y_3 a_94 x_95 x_96 a_101 x_102 x_103 b_114) (r) (e : roadref2_ScopeOf.l4_k.body go (.j2 y_1 y_2 y_3 a_94 x_95 x_96 a_101 x_102 x_103 b_114) = some r) : roadref2_ScopeOf.l4_k.I (.j2 y_1 y_2 y_3 a_94 x_95 x_96 a_101 x_102 x_103 b_114) r := by
  unfold roadref2_ScopeOf.l4_k.body at e
  intro W h0 m0 h m bk_1 cs_1 bk_2 cs_2 bk_3 cs_3 A_94 n_94 c_94 A_101 n_101 c_101 O e_1 e_2 e_3 ne_94 k_94 r_94 ne_101 k_101 r_101
  subst ne_94
  subst ne_101
  refine f59.j2_in ?_
  unfold f59.j2T
  refine split_any_e e (fun c4 e => ?_) (fun c4 e => ?_)
  · refine ⟨_, ldAn (Sub.refl _) (O.all 2 rfl) (T_roadref2_Wrong.T.len _ _ _ e_3), ?_⟩
    refine ⟨_, rfl, (T_roadref2_Wrong.T.len _ _ _ e_3), ?_⟩
    refine O.stA 1 rfl ((T_roadref2_Wrong.T.len _ _ _ e_3).trans ((T_roadref2_Wrong.T.len _ _ _ e_2)).symm) (T_roadref2_Wrong.T.flat _ _ _ e_3) fun h1 O2 => ?_
    refine ⟨_, ldAn (Sub.refl _) (O2.all 1 rfl) (T_roadref2_Wrong.T.len _ _ _ e_3), ?_⟩
    have O3 := O2.nm
    cases e
    exact ⟨_, _, O3.pick [], rfl, e_3⟩
  · exact (ih _ _ e) (O.pick [0, 1, 2]).nm e_1 e_2 e_3 rfl k_94 r_94 rfl k_101 r_101
theorem roadref2_ScopeOf.l4_k.all {p : roadref2_ScopeOf.l4_k.Pt} {r : (T_roadref2_Wrong)} (e : roadref2_ScopeOf.l4_k.go p = some r) : roadref2_ScopeOf.l4_k.I p r := fixF_ind (β := fun _ => (T_roadref2_Wrong)) roadref2_ScopeOf.l4_k.mono (I := roadref2_ScopeOf.l4_k.I) (fun go ih p r e => match p with
  | .l4 y_1 y_2 y_3 a_94 x_95 x_96 => roadref2_ScopeOf.l4_k.step_l4 go ih y_1 y_2 y_3 a_94 x_95 x_96 r e
  | .l7 y_1 y_2 y_3 a_94 x_95 x_96 a_101 x_102 x_103 => roadref2_ScopeOf.l4_k.step_l7 go ih y_1 y_2 y_3 a_94 x_95 x_96 a_101 x_102 x_103 r e
  | .j2 y_1 y_2 y_3 a_94 x_95 x_96 a_101 x_102 x_103 b_114 => roadref2_ScopeOf.l4_k.step_j2 go ih y_1 y_2 y_3 a_94 x_95 x_96 a_101 x_102 x_103 b_114 r e
  ) e
inductive roadref2_ScopeOf.l3_k.Pt where
  | l3 (y_1 : T_api_Program) (y_2 : T_roadref2_Wrong) (y_3 : T_roadref2_Wrong) (a_83 : List (List ByteArray)) (x_84 : Int) (x_85 : Int)
noncomputable def roadref2_ScopeOf.l3_k.body (go : (p : roadref2_ScopeOf.l3_k.Pt) → Option (T_roadref2_Wrong)) : (p : roadref2_ScopeOf.l3_k.Pt) → Option (T_roadref2_Wrong)
  | .l3 y_1 y_2 y_3 a_83 x_84 x_85 => if x_85 < x_84 then (Option.bind (gi a_83 x_85) fun y1 => Option.bind (roadref2_doubled y1) fun y8 => if y8 = true then (some (y_3)) else ((go (.l3 y_1 y_2 y_3 a_83 x_84 (IntKind.wrap .i64 (x_85 + (1 : Int))))))) else ((roadref2_ScopeOf.l4 y_1 y_2 y_3 y_1.Traits (((List.length y_1.Traits) : Nat) : Int) (0 : Int)))
theorem roadref2_ScopeOf.l3_k.mono : MonoF (β := fun _ => (T_roadref2_Wrong)) roadref2_ScopeOf.l3_k.body := fun f g hfg p => match p with
  | .l3 y_1 y_2 y_3 a_83 x_84 x_85 => LeO.ite (LeO.bind (LeO.refl _) fun y1 => LeO.bind (LeO.refl _) fun y8 => LeO.ite (LeO.refl _) ((hfg _))) ((LeO.refl _))
noncomputable def roadref2_ScopeOf.l3_k.go (p : roadref2_ScopeOf.l3_k.Pt) : Option (T_roadref2_Wrong) := fixF (β := fun _ => (T_roadref2_Wrong)) roadref2_ScopeOf.l3_k.body p
noncomputable def roadref2_ScopeOf.l3 (y_1 y_2 y_3 a_83 x_84 x_85) := roadref2_ScopeOf.l3_k.go (.l3 y_1 y_2 y_3 a_83 x_84 x_85)
theorem roadref2_ScopeOf.l3_eq (y_1 y_2 y_3 a_83 x_84 x_85) : roadref2_ScopeOf.l3 y_1 y_2 y_3 a_83 x_84 x_85 = if x_85 < x_84 then (Option.bind (gi a_83 x_85) fun y1 => Option.bind (roadref2_doubled y1) fun y8 => if y8 = true then (some (y_3)) else ((roadref2_ScopeOf.l3 y_1 y_2 y_3 a_83 x_84 (IntKind.wrap .i64 (x_85 + (1 : Int)))))) else ((roadref2_ScopeOf.l4 y_1 y_2 y_3 y_1.Traits (((List.length y_1.Traits) : Nat) : Int) (0 : Int))) := fixF_eq roadref2_ScopeOf.l3_k.mono _
def roadref2_ScopeOf.l3_k.I : (p : roadref2_ScopeOf.l3_k.Pt) → (T_roadref2_Wrong) → Prop
  | .l3 y_1 y_2 y_3 a_83 x_84 x_85, r => ∀ {W h0 m0 h m bk_1 cs_1 bk_2 cs_2 bk_3 cs_3 A_83 n_83 c_83} (O : Hold W h0 m0 h m [rV bk_1 135 cs_1, rV bk_2 141 cs_2, rV bk_3 141 cs_3, rR (aE (tell_row tell_str)) A_83 c_83 a_83]) (e_1 : T_api_Program.E m y_1 cs_1) (e_2 : T_roadref2_Wrong.E m y_2 cs_2) (e_3 : T_roadref2_Wrong.E m y_3 cs_3) (ne_83 : n_83 = List.length a_83), f59.l3 (roadref2_ScopeOf.post W h0 m0 r) (⟨bk_1, 0, none⟩ : Addr) (⟨bk_2, 0, none⟩ : Addr) (⟨bk_3, 0, none⟩ : Addr) A_83 n_83 c_83 x_84 x_85 h
theorem roadref2_ScopeOf.l3_k.step_l3 (go : (p : roadref2_ScopeOf.l3_k.Pt) → Option (T_roadref2_Wrong)) (ih : ∀ p r, go p = some r → roadref2_ScopeOf.l3_k.I p r) (y_1 y_2 y_3 a_83 x_84 x_85) (r) (e : roadref2_ScopeOf.l3_k.body go (.l3 y_1 y_2 y_3 a_83 x_84 x_85) = some r) : roadref2_ScopeOf.l3_k.I (.l3 y_1 y_2 y_3 a_83 x_84 x_85) r := by
  unfold roadref2_ScopeOf.l3_k.body at e
  intro W h0 m0 h m bk_1 cs_1 bk_2 cs_2 bk_3 cs_3 A_83 n_83 c_83 O e_1 e_2 e_3 ne_83
  subst ne_83
  refine f59.l3_in ?_
  unfold f59.l3T
  refine split_dec_e e (fun c24 e => ?_) (fun c24 e => ?_)
  · obtain ⟨y1, g2, e⟩ := bind_e e
    refine (O.os 3 rfl).addr rfl g2 fun a3 cs4 ha5 hc6 he7 => ?_
    obtain ⟨Acs4_0, ccs4_0, rfl, kcs4_0, rcs4_0⟩ := id he7
    refine ⟨_, ld0 (Sub.refl _) hc6 rfl, _, _, _, rfl, ?_⟩
    obtain ⟨y8, g9, e⟩ := bind_e e
    refine (roadref2_doubled.walk (Hold.start (W := No) O.s) rfl kcs4_0 rcs4_0 g9).mono ?_
    rintro _ h10 ⟨m11, Q12, rfl⟩
    have O14 := Hold.nm (O.retC Q12 vfs_nil)
    refine ⟨_, rfl, ?_⟩
    refine split_any_e e (fun c18 e => ?_) (fun c18 e => ?_)
    · refine ⟨_, ldAn (Sub.refl _) (O14.all 2 rfl) (T_roadref2_Wrong.T.len _ _ _ e_3), ?_⟩
      refine ⟨_, rfl, (T_roadref2_Wrong.T.len _ _ _ e_3), ?_⟩
      refine O14.stA 1 rfl ((T_roadref2_Wrong.T.len _ _ _ e_3).trans ((T_roadref2_Wrong.T.len _ _ _ e_2)).symm) (T_roadref2_Wrong.T.flat _ _ _ e_3) fun h15 O16 => ?_
      refine ⟨_, ldAn (Sub.refl _) (O16.all 1 rfl) (T_roadref2_Wrong.T.len _ _ _ e_3), ?_⟩
      have O17 := O16.nm
      cases e
      exact ⟨_, _, O17.pick [], rfl, e_3⟩
    · exact (ih _ _ e) (O14.pick [0, 1, 2, 3]).nm e_1 e_2 e_3 rfl
  · obtain ⟨A19, c20, q21, k22, r23⟩ := T_api_Program.g4 e_1
    refine ⟨_, ldk (k := 4) (Sub.refl _) (O.all 0 rfl) q21, _, _, _, rfl, ?_⟩
    exact (roadref2_ScopeOf.l4_k.all e) (O.pick [0, 1, 2]).nm e_1 e_2 e_3 rfl k22 r23
theorem roadref2_ScopeOf.l3_k.all {p : roadref2_ScopeOf.l3_k.Pt} {r : (T_roadref2_Wrong)} (e : roadref2_ScopeOf.l3_k.go p = some r) : roadref2_ScopeOf.l3_k.I p r := fixF_ind (β := fun _ => (T_roadref2_Wrong)) roadref2_ScopeOf.l3_k.mono (I := roadref2_ScopeOf.l3_k.I) (fun go ih p r e => match p with
  | .l3 y_1 y_2 y_3 a_83 x_84 x_85 => roadref2_ScopeOf.l3_k.step_l3 go ih y_1 y_2 y_3 a_83 x_84 x_85 r e
  ) e
inductive roadref2_ScopeOf.l2_k.Pt where
  | l2 (y_1 : T_api_Program) (y_2 : T_roadref2_Wrong) (y_3 : T_roadref2_Wrong) (a_4 : List ByteArray) (a_5 : List ByteArray) (a_6 : List ByteArray) (a_62 : List T_api_Trait) (x_63 : Int) (x_64 : Int)
noncomputable def roadref2_ScopeOf.l2_k.body (go : (p : roadref2_ScopeOf.l2_k.Pt) → Option (T_roadref2_Wrong)) : (p : roadref2_ScopeOf.l2_k.Pt) → Option (T_roadref2_Wrong)
  | .l2 y_1 y_2 y_3 a_4 a_5 a_6 a_62 x_63 x_64 => if x_64 < x_63 then (Option.bind (gi a_62 x_64) fun y1 => Option.bind (ap 16 a_6 ([y1.Name] : List ByteArray)) fun l18 => (go (.l2 y_1 y_2 y_3 a_4 a_5 l18 a_62 x_63 (IntKind.wrap .i64 (x_64 + (1 : Int)))))) else (Option.bind (roadref2_makersOf y_1) fun y28 => Option.bind (roadref2_callsOf y_1) fun y40 => Option.bind (roadref2_actorsOf y_1) fun y52 => (roadref2_ScopeOf.l3 y_1 y_2 y_3 ([a_4, a_5, a_6, y28, y40, y52] : List (List ByteArray)) ((6 : Nat) : Int) (0 : Int)))
theorem roadref2_ScopeOf.l2_k.mono : MonoF (β := fun _ => (T_roadref2_Wrong)) roadref2_ScopeOf.l2_k.body := fun f g hfg p => match p with
  | .l2 y_1 y_2 y_3 a_4 a_5 a_6 a_62 x_63 x_64 => LeO.ite (LeO.bind (LeO.refl _) fun y1 => LeO.bind (LeO.refl _) fun l18 => (hfg _)) (LeO.bind (LeO.refl _) fun y28 => LeO.bind (LeO.refl _) fun y40 => LeO.bind (LeO.refl _) fun y52 => (LeO.refl _))
noncomputable def roadref2_ScopeOf.l2_k.go (p : roadref2_ScopeOf.l2_k.Pt) : Option (T_roadref2_Wrong) := fixF (β := fun _ => (T_roadref2_Wrong)) roadref2_ScopeOf.l2_k.body p
noncomputable def roadref2_ScopeOf.l2 (y_1 y_2 y_3 a_4 a_5 a_6 a_62 x_63 x_64) := roadref2_ScopeOf.l2_k.go (.l2 y_1 y_2 y_3 a_4 a_5 a_6 a_62 x_63 x_64)
theorem roadref2_ScopeOf.l2_eq (y_1 y_2 y_3 a_4 a_5 a_6 a_62 x_63 x_64) : roadref2_ScopeOf.l2 y_1 y_2 y_3 a_4 a_5 a_6 a_62 x_63 x_64 = if x_64 < x_63 then (Option.bind (gi a_62 x_64) fun y1 => Option.bind (ap 16 a_6 ([y1.Name] : List ByteArray)) fun l18 => (roadref2_ScopeOf.l2 y_1 y_2 y_3 a_4 a_5 l18 a_62 x_63 (IntKind.wrap .i64 (x_64 + (1 : Int))))) else (Option.bind (roadref2_makersOf y_1) fun y28 => Option.bind (roadref2_callsOf y_1) fun y40 => Option.bind (roadref2_actorsOf y_1) fun y52 => (roadref2_ScopeOf.l3 y_1 y_2 y_3 ([a_4, a_5, a_6, y28, y40, y52] : List (List ByteArray)) ((6 : Nat) : Int) (0 : Int))) := fixF_eq roadref2_ScopeOf.l2_k.mono _
def roadref2_ScopeOf.l2_k.I : (p : roadref2_ScopeOf.l2_k.Pt) → (T_roadref2_Wrong) → Prop
  | .l2 y_1 y_2 y_3 a_4 a_5 a_6 a_62 x_63 x_64, r => ∀ {W h0 m0 h m bk_1 cs_1 bk_2 cs_2 bk_3 cs_3 A_4 n_4 c_4 A_5 n_5 c_5 A_6 n_6 c_6 A_62 n_62 c_62} (O : Hold W h0 m0 h m [rV bk_1 135 cs_1, rV bk_2 141 cs_2, rV bk_3 141 cs_3, rR (aE tell_str) A_4 c_4 a_4, rR (aE tell_str) A_5 c_5 a_5, rR (aE tell_str) A_6 c_6 a_6]) (e_1 : T_api_Program.E m y_1 cs_1) (e_2 : T_roadref2_Wrong.E m y_2 cs_2) (e_3 : T_roadref2_Wrong.E m y_3 cs_3) (ne_4 : n_4 = List.length a_4) (ne_5 : n_5 = List.length a_5) (ne_6 : n_6 = List.length a_6) (ne_62 : n_62 = List.length a_62) (k_62 : List.length a_62 ≤ c_62) (r_62 : Rd 2 T_api_Trait.E m A_62 a_62), f59.l2 (roadref2_ScopeOf.post W h0 m0 r) (⟨bk_1, 0, none⟩ : Addr) (⟨bk_2, 0, none⟩ : Addr) (⟨bk_3, 0, none⟩ : Addr) A_4 n_4 c_4 A_5 n_5 c_5 A_6 n_6 c_6 A_62 n_62 c_62 x_63 x_64 h
set_option maxHeartbeats 4000000 in
theorem roadref2_ScopeOf.l2_k.step_l2 (go : (p : roadref2_ScopeOf.l2_k.Pt) → Option (T_roadref2_Wrong)) (ih : ∀ p r, go p = some r → roadref2_ScopeOf.l2_k.I p r) (y_1 y_2 y_3 a_4 a_5 a_6 a_62 x_63 x_64) (r) (e : roadref2_ScopeOf.l2_k.body go (.l2 y_1 y_2 y_3 a_4 a_5 a_6 a_62 x_63 x_64) = some r) : roadref2_ScopeOf.l2_k.I (.l2 y_1 y_2 y_3 a_4 a_5 a_6 a_62 x_63 x_64) r := by
  unfold roadref2_ScopeOf.l2_k.body at e
  intro W h0 m0 h m bk_1 cs_1 bk_2 cs_2 bk_3 cs_3 A_4 n_4 c_4 A_5 n_5 c_5 A_6 n_6 c_6 A_62 n_62 c_62 O e_1 e_2 e_3 ne_4 ne_5 ne_6 ne_62 k_62 r_62
  subst ne_4
  subst ne_5
  subst ne_6
  subst ne_62
  refine f59.l2_in ?_
  unfold f59.l2T
  refine split_dec_e e (fun c100 e => ?_) (fun c100 e => ?_)
  · obtain ⟨y1, g2, e⟩ := bind_e e
    refine r_62.addr rfl g2 fun a3 cs4 ha5 hc6 he7 => ?_
    refine ⟨_, ldAn O.s hc6 rfl, ?_⟩
    refine O.new fun h8 x9 O10 => ?_
    refine ⟨_, rfl, (T_api_Trait.T.len _ _ _ he7), ?_⟩
    refine O10.stA 6 rfl (T_api_Trait.T.len _ _ _ he7) (T_api_Trait.T.flat _ _ _ he7) fun h12 O13 => ?_
    refine ⟨_, ld0 (Sub.refl _) (O13.all 6 rfl) (T_api_Trait.g0 he7), _, rfl, ?_⟩
    refine O13.new fun h14 x15 O16 => ?_
    obtain ⟨l18, g19, e⟩ := bind_e e
    have O26 := O16.rowE (l := ([y1.Name] : List ByteArray)) 7 rfl tell_str (show CsE _ _ _ _ _ from (CsE.cons (c1 := [(Value.string y1.Name)]) rfl rfl CsE.nil)) rfl
    refine O26.app 5 rfl rfl rfl ((O26.os 7 rfl).srcE rfl) (by decide) g19 fun A20 c21 h22 O23 => ?_
    refine ⟨_, _, _, rfl, ?_⟩
    have O27 := O23.nm
    exact (ih _ _ e) (O27.pick [0, 1, 2, 3, 4, 5]).nm e_1 e_2 e_3 rfl rfl rfl rfl k_62 r_62
  · refine ⟨_, ldAn (Sub.refl _) (O.all 0 rfl) (T_api_Program.T.len _ _ _ e_1), ?_⟩
    refine ⟨_, ldAn (Sub.refl _) (O.all 0 rfl) (T_api_Program.T.len _ _ _ e_1), ?_⟩
    refine ⟨_, ldAn (Sub.refl _) (O.all 0 rfl) (T_api_Program.T.len _ _ _ e_1), ?_⟩
    obtain ⟨y28, g29, e⟩ := bind_e e
    refine (roadref2_makersOf.walk (Hold.start (W := No) O.s) e_1 g29).mono ?_
    rintro _ h30 ⟨m31, A34, n35, c36, Q32, rfl, ne37⟩
    have O39 := Hold.nm (O.retC Q32 (vfs_cons (rR_vf (aE_vf (fun _ _ _ _ h => h))) vfs_nil))
    subst ne37
    refine ⟨_, _, _, rfl, ?_⟩
    refine ⟨Q32.S.ext, ?_⟩
    obtain ⟨y40, g41, e⟩ := bind_e e
    refine (roadref2_callsOf.walk (Hold.start (W := No) O39.s) e_1 g41).mono ?_
    rintro _ h42 ⟨m43, A46, n47, c48, Q44, rfl, ne49⟩
    have O51 := Hold.nm (O39.retC Q44 (vfs_cons (rR_vf (aE_vf (fun _ _ _ _ h => h))) vfs_nil))
    subst ne49
    refine ⟨_, _, _, rfl, ?_⟩
    refine ⟨(Q32.S.ext.trans Q44.S.ext), ?_⟩
    obtain ⟨y52, g53, e⟩ := bind_e e
    refine (roadref2_actorsOf.walk (Hold.start (W := No) O51.s) e_1 g53).mono ?_
    rintro _ h54 ⟨m55, A58, n59, c60, Q56, rfl, ne61⟩
    have O63 := Hold.nm (O51.retC Q56 (vfs_cons (rR_vf (aE_vf (fun _ _ _ _ h => h))) vfs_nil))
    subst ne61
    refine ⟨_, _, _, rfl, ?_⟩
    refine O63.new fun h64 x65 O66 => ?_
    obtain ⟨m68, u69, ⟨r70, k71⟩, O72⟩ := O66.frz 3 rfl
    replace r70 : Rd 1 eStr m68 A_4 a_4 := r70
    obtain ⟨m73, u74, ⟨r75, k76⟩, O77⟩ := O72.frz 4 rfl
    replace r75 : Rd 1 eStr m73 A_5 a_5 := r75
    obtain ⟨m78, u79, ⟨r80, k81⟩, O82⟩ := O77.frz 5 rfl
    replace r80 : Rd 1 eStr m78 A_6 a_6 := r80
    obtain ⟨m83, u84, ⟨r85, k86⟩, O87⟩ := O82.frz 6 rfl
    replace r85 : Rd 1 eStr m83 A34 y28 := r85
    obtain ⟨m88, u89, ⟨r90, k91⟩, O92⟩ := O87.frz 7 rfl
    replace r90 : Rd 1 eStr m88 A46 y40 := r90
    obtain ⟨m93, u94, ⟨r95, k96⟩, O97⟩ := O92.frz 8 rfl
    replace r95 : Rd 1 eStr m93 A58 y52 := r95
    have O98 := O97.rowE (l := ([a_4, a_5, a_6, y28, y40, y52] : List (List ByteArray))) 9 rfl (tell_row tell_str) (show CsE _ _ _ _ _ from (CsE.cons (c1 := [(Value.slice A_4 (List.length a_4) c_4)]) ⟨_, _, rfl, k71, (r70.sub tell_str (u74.trans (u79.trans (u84.trans (u89.trans u94)))))⟩ rfl (CsE.cons (c1 := [(Value.slice A_5 (List.length a_5) c_5)]) ⟨_, _, rfl, k76, (r75.sub tell_str (u79.trans (u84.trans (u89.trans u94))))⟩ rfl (CsE.cons (c1 := [(Value.slice A_6 (List.length a_6) c_6)]) ⟨_, _, rfl, k81, (r80.sub tell_str (u84.trans (u89.trans u94)))⟩ rfl (CsE.cons (c1 := [(Value.slice A34 (List.length y28) c36)]) ⟨_, _, rfl, k86, (r85.sub tell_str (u89.trans u94))⟩ rfl (CsE.cons (c1 := [(Value.slice A46 (List.length y40) c48)]) ⟨_, _, rfl, k91, (r90.sub tell_str u94)⟩ rfl (CsE.cons (c1 := [(Value.slice A58 (List.length y52) c60)]) ⟨_, _, rfl, k96, r95⟩ rfl CsE.nil))))))) rfl
    have O99 := O98.nm
    exact (roadref2_ScopeOf.l3_k.all e) (O99.pick [0, 1, 2, 9]).nm (T_api_Program.T.mono _ _ _ _ (u69.trans (u74.trans (u79.trans (u84.trans (u89.trans u94))))) e_1) (T_roadref2_Wrong.T.mono _ _ _ _ (u69.trans (u74.trans (u79.trans (u84.trans (u89.trans u94))))) e_2) (T_roadref2_Wrong.T.mono _ _ _ _ (u69.trans (u74.trans (u79.trans (u84.trans (u89.trans u94))))) e_3) rfl
theorem roadref2_ScopeOf.l2_k.all {p : roadref2_ScopeOf.l2_k.Pt} {r : (T_roadref2_Wrong)} (e : roadref2_ScopeOf.l2_k.go p = some r) : roadref2_ScopeOf.l2_k.I p r := fixF_ind (β := fun _ => (T_roadref2_Wrong)) roadref2_ScopeOf.l2_k.mono (I := roadref2_ScopeOf.l2_k.I) (fun go ih p r e => match p with
  | .l2 y_1 y_2 y_3 a_4 a_5 a_6 a_62 x_63 x_64 => roadref2_ScopeOf.l2_k.step_l2 go ih y_1 y_2 y_3 a_4 a_5 a_6 a_62 x_63 x_64 r e
  ) e
inductive roadref2_ScopeOf.l1_k.Pt where
  | l1 (y_1 : T_api_Program) (y_2 : T_roadref2_Wrong) (y_3 : T_roadref2_Wrong) (a_4 : List ByteArray) (a_5 : List ByteArray) (a_6 : List ByteArray) (a_45 : List T_api_Data) (x_46 : Int) (x_47 : Int)
noncomputable def roadref2_ScopeOf.l1_k.body (go : (p : roadref2_ScopeOf.l1_k.Pt) → Option (T_roadref2_Wrong)) : (p : roadref2_ScopeOf.l1_k.Pt) → Option (T_roadref2_Wrong)
  | .l1 y_1 y_2 y_3 a_4 a_5 a_6 a_45 x_46 x_47 => if x_47 < x_46 then (Option.bind (gi a_45 x_47) fun y1 => Option.bind (ap 16 a_5 ([y1.Name] : List ByteArray)) fun l18 => Option.bind (roadref2_doubled y1.Params) fun y33 => if y33 = true then (some (y_3)) else ((go (.l1 y_1 y_2 y_3 a_4 l18 a_6 a_45 x_46 (IntKind.wrap .i64 (x_47 + (1 : Int))))))) else ((roadref2_ScopeOf.l2 y_1 y_2 y_3 a_4 a_5 a_6 y_1.Traits (((List.length y_1.Traits) : Nat) : Int) (0 : Int)))
theorem roadref2_ScopeOf.l1_k.mono : MonoF (β := fun _ => (T_roadref2_Wrong)) roadref2_ScopeOf.l1_k.body := fun f g hfg p => match p with
  | .l1 y_1 y_2 y_3 a_4 a_5 a_6 a_45 x_46 x_47 => LeO.ite (LeO.bind (LeO.refl _) fun y1 => LeO.bind (LeO.refl _) fun l18 => LeO.bind (LeO.refl _) fun y33 => LeO.ite (LeO.refl _) ((hfg _))) ((LeO.refl _))
noncomputable def roadref2_ScopeOf.l1_k.go (p : roadref2_ScopeOf.l1_k.Pt) : Option (T_roadref2_Wrong) := fixF (β := fun _ => (T_roadref2_Wrong)) roadref2_ScopeOf.l1_k.body p
noncomputable def roadref2_ScopeOf.l1 (y_1 y_2 y_3 a_4 a_5 a_6 a_45 x_46 x_47) := roadref2_ScopeOf.l1_k.go (.l1 y_1 y_2 y_3 a_4 a_5 a_6 a_45 x_46 x_47)
theorem roadref2_ScopeOf.l1_eq (y_1 y_2 y_3 a_4 a_5 a_6 a_45 x_46 x_47) : roadref2_ScopeOf.l1 y_1 y_2 y_3 a_4 a_5 a_6 a_45 x_46 x_47 = if x_47 < x_46 then (Option.bind (gi a_45 x_47) fun y1 => Option.bind (ap 16 a_5 ([y1.Name] : List ByteArray)) fun l18 => Option.bind (roadref2_doubled y1.Params) fun y33 => if y33 = true then (some (y_3)) else ((roadref2_ScopeOf.l1 y_1 y_2 y_3 a_4 l18 a_6 a_45 x_46 (IntKind.wrap .i64 (x_47 + (1 : Int)))))) else ((roadref2_ScopeOf.l2 y_1 y_2 y_3 a_4 a_5 a_6 y_1.Traits (((List.length y_1.Traits) : Nat) : Int) (0 : Int))) := fixF_eq roadref2_ScopeOf.l1_k.mono _
def roadref2_ScopeOf.l1_k.I : (p : roadref2_ScopeOf.l1_k.Pt) → (T_roadref2_Wrong) → Prop
  | .l1 y_1 y_2 y_3 a_4 a_5 a_6 a_45 x_46 x_47, r => ∀ {W h0 m0 h m bk_1 cs_1 bk_2 cs_2 bk_3 cs_3 A_4 n_4 c_4 A_5 n_5 c_5 A_6 n_6 c_6 A_45 n_45 c_45} (O : Hold W h0 m0 h m [rV bk_1 135 cs_1, rV bk_2 141 cs_2, rV bk_3 141 cs_3, rR (aE tell_str) A_4 c_4 a_4, rR (aE tell_str) A_5 c_5 a_5, rR (aE tell_str) A_6 c_6 a_6]) (e_1 : T_api_Program.E m y_1 cs_1) (e_2 : T_roadref2_Wrong.E m y_2 cs_2) (e_3 : T_roadref2_Wrong.E m y_3 cs_3) (ne_4 : n_4 = List.length a_4) (ne_5 : n_5 = List.length a_5) (ne_6 : n_6 = List.length a_6) (ne_45 : n_45 = List.length a_45) (k_45 : List.length a_45 ≤ c_45) (r_45 : Rd 3 T_api_Data.E m A_45 a_45), f59.l1 (roadref2_ScopeOf.post W h0 m0 r) (⟨bk_1, 0, none⟩ : Addr) (⟨bk_2, 0, none⟩ : Addr) (⟨bk_3, 0, none⟩ : Addr) A_4 n_4 c_4 A_5 n_5 c_5 A_6 n_6 c_6 A_45 n_45 c_45 x_46 x_47 h
set_option maxHeartbeats 4000000 in
theorem roadref2_ScopeOf.l1_k.step_l1 (go : (p : roadref2_ScopeOf.l1_k.Pt) → Option (T_roadref2_Wrong)) (ih : ∀ p r, go p = some r → roadref2_ScopeOf.l1_k.I p r) (y_1 y_2 y_3 a_4 a_5 a_6 a_45 x_46 x_47) (r) (e : roadref2_ScopeOf.l1_k.body go (.l1 y_1 y_2 y_3 a_4 a_5 a_6 a_45 x_46 x_47) = some r) : roadref2_ScopeOf.l1_k.I (.l1 y_1 y_2 y_3 a_4 a_5 a_6 a_45 x_46 x_47) r := by
  unfold roadref2_ScopeOf.l1_k.body at e
  intro W h0 m0 h m bk_1 cs_1 bk_2 cs_2 bk_3 cs_3 A_4 n_4 c_4 A_5 n_5 c_5 A_6 n_6 c_6 A_45 n_45 c_45 O e_1 e_2 e_3 ne_4 ne_5 ne_6 ne_45 k_45 r_45
  subst ne_4
  subst ne_5
  subst ne_6
  subst ne_45
  refine f59.l1_in ?_
  unfold f59.l1T
  refine split_dec_e e (fun c49 e => ?_) (fun c49 e => ?_)
  · obtain ⟨y1, g2, e⟩ := bind_e e
    refine r_45.addr rfl g2 fun a3 cs4 ha5 hc6 he7 => ?_
    refine ⟨_, ldAn O.s hc6 rfl, ?_⟩
    refine O.new fun h8 x9 O10 => ?_
    refine ⟨_, rfl, (T_api_Data.T.len _ _ _ he7), ?_⟩
    refine O10.stA 6 rfl (T_api_Data.T.len _ _ _ he7) (T_api_Data.T.flat _ _ _ he7) fun h12 O13 => ?_
    refine ⟨_, ld0 (Sub.refl _) (O13.all 6 rfl) (T_api_Data.g0 he7), _, rfl, ?_⟩
    refine O13.new fun h14 x15 O16 => ?_
    obtain ⟨l18, g19, e⟩ := bind_e e
    have O26 := O16.rowE (l := ([y1.Name] : List ByteArray)) 7 rfl tell_str (show CsE _ _ _ _ _ from (CsE.cons (c1 := [(Value.string y1.Name)]) rfl rfl CsE.nil)) rfl
    refine O26.app 4 rfl rfl rfl ((O26.os 7 rfl).srcE rfl) (by decide) g19 fun A20 c21 h22 O23 => ?_
    refine ⟨_, _, _, rfl, ?_⟩
    have O27 := O23.nm
    obtain ⟨A28, c29, q30, k31, r32⟩ := T_api_Data.g1 he7
    refine ⟨_, ldk (k := 1) (Sub.refl _) (O27.all 6 rfl) q30, _, _, _, rfl, ?_⟩
    obtain ⟨y33, g34, e⟩ := bind_e e
    refine (roadref2_doubled.walk (Hold.start (W := No) O27.s) rfl k31 r32 g34).mono ?_
    rintro _ h35 ⟨m36, Q37, rfl⟩
    have O39 := Hold.nm (O27.retC Q37 vfs_nil)
    refine ⟨_, rfl, ?_⟩
    refine split_any_e e (fun c43 e => ?_) (fun c43 e => ?_)
    · refine ⟨_, ldAn (Sub.refl _) (O39.all 2 rfl) (T_roadref2_Wrong.T.len _ _ _ e_3), ?_⟩
      refine ⟨_, rfl, (T_roadref2_Wrong.T.len _ _ _ e_3), ?_⟩
      refine O39.stA 1 rfl ((T_roadref2_Wrong.T.len _ _ _ e_3).trans ((T_roadref2_Wrong.T.len _ _ _ e_2)).symm) (T_roadref2_Wrong.T.flat _ _ _ e_3) fun h40 O41 => ?_
      refine ⟨_, ldAn (Sub.refl _) (O41.all 1 rfl) (T_roadref2_Wrong.T.len _ _ _ e_3), ?_⟩
      have O42 := O41.nm
      cases e
      exact ⟨_, _, O42.pick [], rfl, e_3⟩
    · exact (ih _ _ e) (O39.pick [0, 1, 2, 3, 4, 5]).nm e_1 e_2 e_3 rfl rfl rfl rfl k_45 r_45
  · obtain ⟨A44, c45, q46, k47, r48⟩ := T_api_Program.g4 e_1
    refine ⟨_, ldk (k := 4) (Sub.refl _) (O.all 0 rfl) q46, _, _, _, rfl, ?_⟩
    exact (roadref2_ScopeOf.l2_k.all e) (O.pick [0, 1, 2, 3, 4, 5]).nm e_1 e_2 e_3 rfl rfl rfl rfl k47 r48
theorem roadref2_ScopeOf.l1_k.all {p : roadref2_ScopeOf.l1_k.Pt} {r : (T_roadref2_Wrong)} (e : roadref2_ScopeOf.l1_k.go p = some r) : roadref2_ScopeOf.l1_k.I p r := fixF_ind (β := fun _ => (T_roadref2_Wrong)) roadref2_ScopeOf.l1_k.mono (I := roadref2_ScopeOf.l1_k.I) (fun go ih p r e => match p with
  | .l1 y_1 y_2 y_3 a_4 a_5 a_6 a_45 x_46 x_47 => roadref2_ScopeOf.l1_k.step_l1 go ih y_1 y_2 y_3 a_4 a_5 a_6 a_45 x_46 x_47 r e
  ) e
inductive roadref2_ScopeOf.l0_k.Pt where
  | l0 (y_1 : T_api_Program) (y_2 : T_roadref2_Wrong) (y_3 : T_roadref2_Wrong) (a_4 : List ByteArray) (a_5 : List ByteArray) (a_6 : List ByteArray) (a_32 : List T_api_Use) (x_33 : Int) (x_34 : Int)
noncomputable def roadref2_ScopeOf.l0_k.body (go : (p : roadref2_ScopeOf.l0_k.Pt) → Option (T_roadref2_Wrong)) : (p : roadref2_ScopeOf.l0_k.Pt) → Option (T_roadref2_Wrong)
  | .l0 y_1 y_2 y_3 a_4 a_5 a_6 a_32 x_33 x_34 => if x_34 < x_33 then (Option.bind (gi a_32 x_34) fun y1 => Option.bind (ap 16 a_4 ([y1.Name] : List ByteArray)) fun l18 => (go (.l0 y_1 y_2 y_3 l18 a_5 a_6 a_32 x_33 (IntKind.wrap .i64 (x_34 + (1 : Int)))))) else ((roadref2_ScopeOf.l1 y_1 y_2 y_3 a_4 a_5 a_6 y_1.Datas (((List.length y_1.Datas) : Nat) : Int) (0 : Int)))
theorem roadref2_ScopeOf.l0_k.mono : MonoF (β := fun _ => (T_roadref2_Wrong)) roadref2_ScopeOf.l0_k.body := fun f g hfg p => match p with
  | .l0 y_1 y_2 y_3 a_4 a_5 a_6 a_32 x_33 x_34 => LeO.ite (LeO.bind (LeO.refl _) fun y1 => LeO.bind (LeO.refl _) fun l18 => (hfg _)) ((LeO.refl _))
noncomputable def roadref2_ScopeOf.l0_k.go (p : roadref2_ScopeOf.l0_k.Pt) : Option (T_roadref2_Wrong) := fixF (β := fun _ => (T_roadref2_Wrong)) roadref2_ScopeOf.l0_k.body p
noncomputable def roadref2_ScopeOf.l0 (y_1 y_2 y_3 a_4 a_5 a_6 a_32 x_33 x_34) := roadref2_ScopeOf.l0_k.go (.l0 y_1 y_2 y_3 a_4 a_5 a_6 a_32 x_33 x_34)
theorem roadref2_ScopeOf.l0_eq (y_1 y_2 y_3 a_4 a_5 a_6 a_32 x_33 x_34) : roadref2_ScopeOf.l0 y_1 y_2 y_3 a_4 a_5 a_6 a_32 x_33 x_34 = if x_34 < x_33 then (Option.bind (gi a_32 x_34) fun y1 => Option.bind (ap 16 a_4 ([y1.Name] : List ByteArray)) fun l18 => (roadref2_ScopeOf.l0 y_1 y_2 y_3 l18 a_5 a_6 a_32 x_33 (IntKind.wrap .i64 (x_34 + (1 : Int))))) else ((roadref2_ScopeOf.l1 y_1 y_2 y_3 a_4 a_5 a_6 y_1.Datas (((List.length y_1.Datas) : Nat) : Int) (0 : Int))) := fixF_eq roadref2_ScopeOf.l0_k.mono _
def roadref2_ScopeOf.l0_k.I : (p : roadref2_ScopeOf.l0_k.Pt) → (T_roadref2_Wrong) → Prop
  | .l0 y_1 y_2 y_3 a_4 a_5 a_6 a_32 x_33 x_34, r => ∀ {W h0 m0 h m bk_1 cs_1 bk_2 cs_2 bk_3 cs_3 A_4 n_4 c_4 A_5 n_5 c_5 A_6 n_6 c_6 A_32 n_32 c_32} (O : Hold W h0 m0 h m [rV bk_1 135 cs_1, rV bk_2 141 cs_2, rV bk_3 141 cs_3, rR (aE tell_str) A_4 c_4 a_4, rR (aE tell_str) A_5 c_5 a_5, rR (aE tell_str) A_6 c_6 a_6]) (e_1 : T_api_Program.E m y_1 cs_1) (e_2 : T_roadref2_Wrong.E m y_2 cs_2) (e_3 : T_roadref2_Wrong.E m y_3 cs_3) (ne_4 : n_4 = List.length a_4) (ne_5 : n_5 = List.length a_5) (ne_6 : n_6 = List.length a_6) (ne_32 : n_32 = List.length a_32) (k_32 : List.length a_32 ≤ c_32) (r_32 : Rd 3 T_api_Use.E m A_32 a_32), f59.l0 (roadref2_ScopeOf.post W h0 m0 r) (⟨bk_1, 0, none⟩ : Addr) (⟨bk_2, 0, none⟩ : Addr) (⟨bk_3, 0, none⟩ : Addr) A_4 n_4 c_4 A_5 n_5 c_5 A_6 n_6 c_6 A_32 n_32 c_32 x_33 x_34 h
theorem roadref2_ScopeOf.l0_k.step_l0 (go : (p : roadref2_ScopeOf.l0_k.Pt) → Option (T_roadref2_Wrong)) (ih : ∀ p r, go p = some r → roadref2_ScopeOf.l0_k.I p r) (y_1 y_2 y_3 a_4 a_5 a_6 a_32 x_33 x_34) (r) (e : roadref2_ScopeOf.l0_k.body go (.l0 y_1 y_2 y_3 a_4 a_5 a_6 a_32 x_33 x_34) = some r) : roadref2_ScopeOf.l0_k.I (.l0 y_1 y_2 y_3 a_4 a_5 a_6 a_32 x_33 x_34) r := by
  unfold roadref2_ScopeOf.l0_k.body at e
  intro W h0 m0 h m bk_1 cs_1 bk_2 cs_2 bk_3 cs_3 A_4 n_4 c_4 A_5 n_5 c_5 A_6 n_6 c_6 A_32 n_32 c_32 O e_1 e_2 e_3 ne_4 ne_5 ne_6 ne_32 k_32 r_32
  subst ne_4
  subst ne_5
  subst ne_6
  subst ne_32
  refine f59.l0_in ?_
  unfold f59.l0T
  refine split_dec_e e (fun c33 e => ?_) (fun c33 e => ?_)
  · obtain ⟨y1, g2, e⟩ := bind_e e
    refine r_32.addr rfl g2 fun a3 cs4 ha5 hc6 he7 => ?_
    refine ⟨_, ldAn O.s hc6 rfl, ?_⟩
    refine O.new fun h8 x9 O10 => ?_
    refine ⟨_, rfl, (T_api_Use.T.len _ _ _ he7), ?_⟩
    refine O10.stA 6 rfl (T_api_Use.T.len _ _ _ he7) (T_api_Use.T.flat _ _ _ he7) fun h12 O13 => ?_
    refine ⟨_, ld0 (Sub.refl _) (O13.all 6 rfl) (T_api_Use.g0 he7), _, rfl, ?_⟩
    refine O13.new fun h14 x15 O16 => ?_
    obtain ⟨l18, g19, e⟩ := bind_e e
    have O26 := O16.rowE (l := ([y1.Name] : List ByteArray)) 7 rfl tell_str (show CsE _ _ _ _ _ from (CsE.cons (c1 := [(Value.string y1.Name)]) rfl rfl CsE.nil)) rfl
    refine O26.app 3 rfl rfl rfl ((O26.os 7 rfl).srcE rfl) (by decide) g19 fun A20 c21 h22 O23 => ?_
    refine ⟨_, _, _, rfl, ?_⟩
    have O27 := O23.nm
    exact (ih _ _ e) (O27.pick [0, 1, 2, 3, 4, 5]).nm e_1 e_2 e_3 rfl rfl rfl rfl k_32 r_32
  · obtain ⟨A28, c29, q30, k31, r32⟩ := T_api_Program.g3 e_1
    refine ⟨_, ldk (k := 3) (Sub.refl _) (O.all 0 rfl) q30, _, _, _, rfl, ?_⟩
    exact (roadref2_ScopeOf.l1_k.all e) (O.pick [0, 1, 2, 3, 4, 5]).nm e_1 e_2 e_3 rfl rfl rfl rfl k31 r32
theorem roadref2_ScopeOf.l0_k.all {p : roadref2_ScopeOf.l0_k.Pt} {r : (T_roadref2_Wrong)} (e : roadref2_ScopeOf.l0_k.go p = some r) : roadref2_ScopeOf.l0_k.I p r := fixF_ind (β := fun _ => (T_roadref2_Wrong)) roadref2_ScopeOf.l0_k.mono (I := roadref2_ScopeOf.l0_k.I) (fun go ih p r e => match p with
  | .l0 y_1 y_2 y_3 a_4 a_5 a_6 a_32 x_33 x_34 => roadref2_ScopeOf.l0_k.step_l0 go ih y_1 y_2 y_3 a_4 a_5 a_6 a_32 x_33 x_34 r e
  ) e
noncomputable def roadref2_ScopeOf (y_0 : T_api_Program) : Option (T_roadref2_Wrong) :=
  (roadref2_ScopeOf.l0 y_0 (T_roadref2_Wrong.mk (0 : Int) (0 : Int)) (T_roadref2_Wrong.mk (11 : Int) (0 : Int)) ([y_0.Name] : List ByteArray) ([] : List ByteArray) ([] : List ByteArray) y_0.Uses (((List.length y_0.Uses) : Nat) : Int) (0 : Int))
theorem roadref2_ScopeOf.walk {W h m cs_0 y_0} (O : Hold W h m h m []) (e_0 : T_api_Program.E m y_0 cs_0) {r} (e : roadref2_ScopeOf y_0 = some r) : Run Try.prog 59 #[Value.agg cs_0.toArray] h (roadref2_ScopeOf.post W h m r) := by
  unfold roadref2_ScopeOf at e
  refine f59.run ?_
  unfold f59.runT
  refine O.new fun h1 x2 O3 => ?_
  refine O3.new fun h5 x6 O7 => ?_
  refine O7.new fun h9 x10 O11 => ?_
  refine ⟨_, rfl, rfl, ?_⟩
  refine O11.stA 2 rfl rfl (Flats.cons trivial (Flats.cons trivial Flats.nil)) fun h13 O14 => ?_
  refine ⟨_, ld0 (Sub.refl _) (O14.all 0 rfl) (T_api_Program.g0 e_0), _, rfl, ?_⟩
  refine O14.new fun h15 x16 O17 => ?_
  have O19 := O17.nm
  refine O19.new fun h20 x21 O22 => ?_
  refine O22.new fun h24 x25 O26 => ?_
  obtain ⟨A28, c29, q30, k31, r32⟩ := T_api_Program.g2 e_0
  refine ⟨_, ldk (k := 2) (Sub.refl _) (O26.all 0 rfl) q30, _, _, _, rfl, ?_⟩
  have O33 := O26.rowE (l := ([y_0.Name] : List ByteArray)) 3 rfl tell_str (show CsE _ _ _ _ _ from (CsE.cons (c1 := [(Value.string y_0.Name)]) rfl rfl CsE.nil)) rfl
  have O34 := O33.rowE (l := ([] : List ByteArray)) 4 rfl tell_str (show CsE _ _ _ _ _ from CsE.nil) rfl
  have O35 := O34.rowE (l := ([] : List ByteArray)) 5 rfl tell_str (show CsE _ _ _ _ _ from CsE.nil) rfl
  have O36 := O35.nm
  exact (roadref2_ScopeOf.l0_k.all e) (O36.pick [0, 1, 2, 3, 4, 5]).nm e_0 (show T_roadref2_Wrong.E _ (T_roadref2_Wrong.mk (0 : Int) (0 : Int)) [(Value.int .i64 (0 : Int)), (Value.int .i64 (0 : Int))] from rfl) (show T_roadref2_Wrong.E _ (T_roadref2_Wrong.mk (11 : Int) (0 : Int)) [(Value.int .i64 (11 : Int)), (Value.int .i64 (0 : Int))] from rfl) rfl rfl rfl rfl k31 r32
def roadref2_Lists.post (W : Nat → Prop) (h0 m0 : Heap) (r : (List ByteArray) × (List ByteArray) × (List ByteArray)) (v : Value) (h : Heap) : Prop := ∃ m A0 n0 c0 A1 n1 c1 A2 n2 c2, Hold W h0 m0 h m [rR (aE tell_str) A0 c0 r.1, rR (aE tell_str) A1 c1 r.2.1, rR (aE tell_str) A2 c2 r.2.2] ∧ v = .tuple #[.slice A0 n0 c0, .slice A1 n1 c1, .slice A2 n2 c2] ∧ n0 = List.length r.1 ∧ n1 = List.length r.2.1 ∧ n2 = List.length r.2.2
noncomputable def roadref2_Lists (y_0 : T_api_Program) : Option ((List ByteArray) × (List ByteArray) × (List ByteArray)) :=
  Option.bind (roadref2_makersOf y_0) fun y5 => Option.bind (roadref2_callsOf y_0) fun y17 => Option.bind (roadref2_actorsOf y_0) fun y29 => some (y5, y17, y29)
theorem roadref2_Lists.walk {W h m cs_0 y_0} (O : Hold W h m h m []) (e_0 : T_api_Program.E m y_0 cs_0) {r} (e : roadref2_Lists y_0 = some r) : Run Try.prog 60 #[Value.agg cs_0.toArray] h (roadref2_Lists.post W h m r) := by
  unfold roadref2_Lists at e
  refine f60.run ?_
  unfold f60.runT
  refine O.new fun h1 x2 O3 => ?_
  refine ⟨_, ldAn (Sub.refl _) (O3.all 0 rfl) (T_api_Program.T.len _ _ _ e_0), ?_⟩
  refine ⟨_, ldAn (Sub.refl _) (O3.all 0 rfl) (T_api_Program.T.len _ _ _ e_0), ?_⟩
  refine ⟨_, ldAn (Sub.refl _) (O3.all 0 rfl) (T_api_Program.T.len _ _ _ e_0), ?_⟩
  obtain ⟨y5, g6, e⟩ := bind_e e
  refine (roadref2_makersOf.walk (Hold.start (W := No) O3.s) e_0 g6).mono ?_
  rintro _ h7 ⟨m8, A11, n12, c13, Q9, rfl, ne14⟩
  have O16 := Hold.nm (O3.retC Q9 (vfs_cons (rR_vf (aE_vf (fun _ _ _ _ h => h))) vfs_nil))
  subst ne14
  refine ⟨_, _, _, rfl, ?_⟩
  refine ⟨Q9.S.ext, ?_⟩
  obtain ⟨y17, g18, e⟩ := bind_e e
  refine (roadref2_callsOf.walk (Hold.start (W := No) O16.s) e_0 g18).mono ?_
  rintro _ h19 ⟨m20, A23, n24, c25, Q21, rfl, ne26⟩
  have O28 := Hold.nm (O16.retC Q21 (vfs_cons (rR_vf (aE_vf (fun _ _ _ _ h => h))) vfs_nil))
  subst ne26
  refine ⟨_, _, _, rfl, ?_⟩
  refine ⟨(Q9.S.ext.trans Q21.S.ext), ?_⟩
  obtain ⟨y29, g30, e⟩ := bind_e e
  refine (roadref2_actorsOf.walk (Hold.start (W := No) O28.s) e_0 g30).mono ?_
  rintro _ h31 ⟨m32, A35, n36, c37, Q33, rfl, ne38⟩
  have O40 := Hold.nm (O28.retC Q33 (vfs_cons (rR_vf (aE_vf (fun _ _ _ _ h => h))) vfs_nil))
  subst ne38
  refine ⟨_, _, _, rfl, ?_⟩
  cases e
  exact ⟨_, _, _, _, _, _, _, _, _, _, O40.pick [1, 2, 3], rfl, rfl, rfl, rfl⟩
def slices_Equal_61.post (W : Nat → Prop) (h0 m0 : Heap) (r : Bool) (v : Value) (h : Heap) : Prop := ∃ m , Hold W h0 m0 h m [] ∧ v = .bool r
inductive slices_Equal_61.l0_k.Pt where
  | l0 (a_0 : List ByteArray) (a_1 : List ByteArray) (x_12 : Int) (x_13 : Int)
noncomputable def slices_Equal_61.l0_k.body (go : (p : slices_Equal_61.l0_k.Pt) → Option (Bool)) : (p : slices_Equal_61.l0_k.Pt) → Option (Bool)
  | .l0 a_0 a_1 x_12 x_13 => if x_13 < x_12 then (Option.bind (gi a_0 x_13) fun y1 => Option.bind (gi a_1 x_13) fun y8 => if y1 = y8 then ((go (.l0 a_0 a_1 x_12 (IntKind.wrap .i64 (x_13 + (1 : Int)))))) else (some (false))) else (some (true))
theorem slices_Equal_61.l0_k.mono : MonoF (β := fun _ => (Bool)) slices_Equal_61.l0_k.body := fun f g hfg p => match p with
  | .l0 a_0 a_1 x_12 x_13 => LeO.ite (LeO.bind (LeO.refl _) fun y1 => LeO.bind (LeO.refl _) fun y8 => LeO.ite ((hfg _)) (LeO.refl _)) (LeO.refl _)
noncomputable def slices_Equal_61.l0_k.go (p : slices_Equal_61.l0_k.Pt) : Option (Bool) := fixF (β := fun _ => (Bool)) slices_Equal_61.l0_k.body p
noncomputable def slices_Equal_61.l0 (a_0 a_1 x_12 x_13) := slices_Equal_61.l0_k.go (.l0 a_0 a_1 x_12 x_13)
theorem slices_Equal_61.l0_eq (a_0 a_1 x_12 x_13) : slices_Equal_61.l0 a_0 a_1 x_12 x_13 = if x_13 < x_12 then (Option.bind (gi a_0 x_13) fun y1 => Option.bind (gi a_1 x_13) fun y8 => if y1 = y8 then ((slices_Equal_61.l0 a_0 a_1 x_12 (IntKind.wrap .i64 (x_13 + (1 : Int))))) else (some (false))) else (some (true)) := fixF_eq slices_Equal_61.l0_k.mono _
def slices_Equal_61.l0_k.I : (p : slices_Equal_61.l0_k.Pt) → (Bool) → Prop
  | .l0 a_0 a_1 x_12 x_13, r => ∀ {W h0 m0 h m A_0 n_0 c_0 A_1 n_1 c_1} (O : Hold W h0 m0 h m []) (ne_0 : n_0 = List.length a_0) (k_0 : List.length a_0 ≤ c_0) (r_0 : Rd 1 eStr m A_0 a_0) (ne_1 : n_1 = List.length a_1) (k_1 : List.length a_1 ≤ c_1) (r_1 : Rd 1 eStr m A_1 a_1), f61.l0 (slices_Equal_61.post W h0 m0 r) A_0 n_0 c_0 A_1 n_1 c_1 x_12 x_13 h
theorem slices_Equal_61.l0_k.step_l0 (go : (p : slices_Equal_61.l0_k.Pt) → Option (Bool)) (ih : ∀ p r, go p = some r → slices_Equal_61.l0_k.I p r) (a_0 a_1 x_12 x_13) (r) (e : slices_Equal_61.l0_k.body go (.l0 a_0 a_1 x_12 x_13) = some r) : slices_Equal_61.l0_k.I (.l0 a_0 a_1 x_12 x_13) r := by
  unfold slices_Equal_61.l0_k.body at e
  intro W h0 m0 h m A_0 n_0 c_0 A_1 n_1 c_1 O ne_0 k_0 r_0 ne_1 k_1 r_1
  subst ne_0
  subst ne_1
  refine f61.l0_in ?_
  unfold f61.l0T
  refine split_dec_e e (fun c16 e => ?_) (fun c16 e => ?_)
  · obtain ⟨y1, g2, e⟩ := bind_e e
    refine r_0.addr rfl g2 fun a3 cs4 ha5 hc6 he7 => ?_
    obtain rfl : cs4 = [(Value.string y1)] := he7
    obtain ⟨y8, g9, e⟩ := bind_e e
    refine r_1.addr rfl g9 fun a10 cs11 ha12 hc13 he14 => ?_
    obtain rfl : cs11 = [(Value.string y8)] := he14
    refine ⟨_, ld0 O.s hc6 rfl, _, rfl, ?_⟩
    refine ⟨_, ld0 O.s hc13 rfl, _, rfl, ?_⟩
    try rw [ba_list y1 y8]
    refine split_not ?_
    refine split_dec_e e (fun c15 e => ?_) (fun c15 e => ?_)
    · exact (ih _ _ e) (O.pick []).nm rfl k_0 r_0 rfl k_1 r_1
    · cases e
      exact ⟨_, O.pick [], rfl⟩
  · cases e
    exact ⟨_, O.pick [], rfl⟩
theorem slices_Equal_61.l0_k.all {p : slices_Equal_61.l0_k.Pt} {r : (Bool)} (e : slices_Equal_61.l0_k.go p = some r) : slices_Equal_61.l0_k.I p r := fixF_ind (β := fun _ => (Bool)) slices_Equal_61.l0_k.mono (I := slices_Equal_61.l0_k.I) (fun go ih p r e => match p with
  | .l0 a_0 a_1 x_12 x_13 => slices_Equal_61.l0_k.step_l0 go ih a_0 a_1 x_12 x_13 r e
  ) e
noncomputable def slices_Equal_61 (a_0 : List ByteArray) (a_1 : List ByteArray) : Option (Bool) :=
  if (((List.length a_0) : Nat) : Int) = (((List.length a_1) : Nat) : Int) then ((slices_Equal_61.l0 a_0 a_1 (((List.length a_0) : Nat) : Int) (0 : Int))) else (some (false))
theorem slices_Equal_61.walk {W h m A_0 n_0 c_0 A_1 n_1 c_1 a_0 a_1} (O : Hold W h m h m []) (ne_0 : n_0 = List.length a_0) (k_0 : List.length a_0 ≤ c_0) (r_0 : Rd 1 eStr m A_0 a_0) (ne_1 : n_1 = List.length a_1) (k_1 : List.length a_1 ≤ c_1) (r_1 : Rd 1 eStr m A_1 a_1) {r} (e : slices_Equal_61 a_0 a_1 = some r) : Run Try.prog 61 #[Value.slice A_0 n_0 c_0, Value.slice A_1 n_1 c_1] h (slices_Equal_61.post W h m r) := by
  unfold slices_Equal_61 at e
  subst ne_0
  subst ne_1
  refine f61.run ?_
  unfold f61.runT
  refine split_ne_e e (fun c1 e => ?_) (fun c1 e => ?_)
  · cases e
    exact ⟨_, O.pick [], rfl⟩
  · exact (slices_Equal_61.l0_k.all e) (O.pick []).nm rfl k_0 r_0 rfl k_1 r_1
theorem slices_Equal_61.val (l m : List ByteArray) (hl : l.length ≤ 4611686018427387904) : ∃ b, slices_Equal_61 l m = some b ∧ (b = true ↔ l = m) := equal_val (R := fun x y => x = y) (fun a b n i => slices_Equal_61.l0_eq a b n i) (fun _ _ => rfl) (fun _ _ => Iff.rfl) l m hl
def roadref2_ScopeExpr.post (W : Nat → Prop) (h0 m0 : Heap) (r : T_roadref2_Wrong) (v : Value) (h : Heap) : Prop := ∃ m cs0, Hold W h0 m0 h m [] ∧ v = .agg cs0.toArray ∧ T_roadref2_Wrong.E m r cs0
noncomputable def roadref2_ScopeExpr (y_0 : T_api_Program) (a_1 : List ByteArray) (y_2 : T_api_Expr) : Option (T_roadref2_Wrong) :=
  Option.bind (roadref2_scopeExpr y_0 a_1 y_2) fun y13 => some (y13)
theorem roadref2_ScopeExpr.walk {W h m cs_0 A_1 n_1 c_1 cs_2 y_0 a_1 y_2} (O : Hold W h m h m []) (e_0 : T_api_Program.E m y_0 cs_0) (ne_1 : n_1 = List.length a_1) (k_1 : List.length a_1 ≤ c_1) (r_1 : Rd 1 eStr m A_1 a_1) (e_2 : T_api_Expr.E m y_2 cs_2) {r} (e : roadref2_ScopeExpr y_0 a_1 y_2 = some r) : Run Try.prog 67 #[Value.agg cs_0.toArray, Value.slice A_1 n_1 c_1, Value.agg cs_2.toArray] h (roadref2_ScopeExpr.post W h m r) := by
  unfold roadref2_ScopeExpr at e
  subst ne_1
  refine f67.run ?_
  unfold f67.runT
  refine O.new fun h1 x2 O3 => ?_
  refine O3.new fun h5 x6 O7 => ?_
  refine O7.new fun h9 x10 O11 => ?_
  refine ⟨_, ldAn (Sub.refl _) (O11.all 0 rfl) (T_api_Program.T.len _ _ _ e_0), ?_⟩
  refine ⟨_, ldAn (Sub.refl _) (O11.all 1 rfl) (T_api_Expr.T.len _ _ _ e_2), ?_⟩
  obtain ⟨y13, g14, e⟩ := bind_e e
  refine (roadref2_scopeExpr.walk (Hold.start (W := No) O11.s) e_0 rfl k_1 r_1 e_2 g14).mono ?_
  rintro _ h15 ⟨m16, cs20, Q17, rfl, he21⟩
  replace he21 : T_roadref2_Wrong.E m y13 cs20 := T_roadref2_Wrong.keep he21
  have O22 := Hold.nm (O11.retC Q17 vfs_nil)
  refine ⟨_, rfl, (T_roadref2_Wrong.T.len _ _ _ he21), ?_⟩
  refine O22.stA 2 rfl (T_roadref2_Wrong.T.len _ _ _ he21) (T_roadref2_Wrong.T.flat _ _ _ he21) fun h23 O24 => ?_
  refine ⟨_, ldAn (Sub.refl _) (O24.all 2 rfl) (T_roadref2_Wrong.T.len _ _ _ he21), ?_⟩
  have O25 := O24.nm
  cases e
  exact ⟨_, _, O25.pick [], rfl, he21⟩
def roadlaw2_ScopeSays.post (W : Nat → Prop) (h0 m0 : Heap) (r : Bool) (v : Value) (h : Heap) : Prop := ∃ m , Hold W h0 m0 h m [] ∧ v = .bool r
inductive roadlaw2_ScopeSays.l1_k.Pt where
  | l1 (a_1 : List ByteArray) (b_16 : Bool) (a_95 : List ByteArray) (x_96 : Int) (x_97 : Int)
noncomputable def roadlaw2_ScopeSays.l1_k.body (go : (p : roadlaw2_ScopeSays.l1_k.Pt) → Option (Bool)) : (p : roadlaw2_ScopeSays.l1_k.Pt) → Option (Bool)
  | .l1 a_1 b_16 a_95 x_96 x_97 => if x_97 < x_96 then (Option.bind (gi a_95 x_97) fun y1 => if b_16 = true then ((go (.l1 a_1 true a_95 x_96 (IntKind.wrap .i64 (x_97 + (1 : Int)))))) else (Option.bind (sls a_1 (0 : Int) x_97) fun l8 => Option.bind (slices_Contains_68 l8 y1) fun y13 => (go (.l1 a_1 y13 a_95 x_96 (IntKind.wrap .i64 (x_97 + (1 : Int))))))) else (Option.bind (scope_Twice a_1) fun y21 => if (y21 == b_16) = true then (Option.bind (scope_Twice ([(ByteArray.mk #[97]), (ByteArray.mk #[97])] : List ByteArray)) fun y33 => some (y33)) else (some (false)))
theorem roadlaw2_ScopeSays.l1_k.mono : MonoF (β := fun _ => (Bool)) roadlaw2_ScopeSays.l1_k.body := fun f g hfg p => match p with
  | .l1 a_1 b_16 a_95 x_96 x_97 => LeO.ite (LeO.bind (LeO.refl _) fun y1 => LeO.ite ((hfg _)) (LeO.bind (LeO.refl _) fun l8 => LeO.bind (LeO.refl _) fun y13 => (hfg _))) (LeO.bind (LeO.refl _) fun y21 => LeO.ite (LeO.bind (LeO.refl _) fun y33 => LeO.refl _) (LeO.refl _))
noncomputable def roadlaw2_ScopeSays.l1_k.go (p : roadlaw2_ScopeSays.l1_k.Pt) : Option (Bool) := fixF (β := fun _ => (Bool)) roadlaw2_ScopeSays.l1_k.body p
noncomputable def roadlaw2_ScopeSays.l1 (a_1 b_16 a_95 x_96 x_97) := roadlaw2_ScopeSays.l1_k.go (.l1 a_1 b_16 a_95 x_96 x_97)
theorem roadlaw2_ScopeSays.l1_eq (a_1 b_16 a_95 x_96 x_97) : roadlaw2_ScopeSays.l1 a_1 b_16 a_95 x_96 x_97 = if x_97 < x_96 then (Option.bind (gi a_95 x_97) fun y1 => if b_16 = true then ((roadlaw2_ScopeSays.l1 a_1 true a_95 x_96 (IntKind.wrap .i64 (x_97 + (1 : Int))))) else (Option.bind (sls a_1 (0 : Int) x_97) fun l8 => Option.bind (slices_Contains_68 l8 y1) fun y13 => (roadlaw2_ScopeSays.l1 a_1 y13 a_95 x_96 (IntKind.wrap .i64 (x_97 + (1 : Int)))))) else (Option.bind (scope_Twice a_1) fun y21 => if (y21 == b_16) = true then (Option.bind (scope_Twice ([(ByteArray.mk #[97]), (ByteArray.mk #[97])] : List ByteArray)) fun y33 => some (y33)) else (some (false))) := fixF_eq roadlaw2_ScopeSays.l1_k.mono _
def roadlaw2_ScopeSays.l1_k.I : (p : roadlaw2_ScopeSays.l1_k.Pt) → (Bool) → Prop
  | .l1 a_1 b_16 a_95 x_96 x_97, r => ∀ {W h0 m0 h m A_1 n_1 c_1 A_95 n_95 c_95} (O : Hold W h0 m0 h m []) (ne_1 : n_1 = List.length a_1) (k_1 : List.length a_1 ≤ c_1) (r_1 : Rd 1 eStr m A_1 a_1) (ne_95 : n_95 = List.length a_95) (k_95 : List.length a_95 ≤ c_95) (r_95 : Rd 1 eStr m A_95 a_95), f7.l1 (roadlaw2_ScopeSays.post W h0 m0 r) A_1 n_1 c_1 b_16 A_95 n_95 c_95 x_96 x_97 h
set_option maxHeartbeats 4000000 in
theorem roadlaw2_ScopeSays.l1_k.step_l1 (go : (p : roadlaw2_ScopeSays.l1_k.Pt) → Option (Bool)) (ih : ∀ p r, go p = some r → roadlaw2_ScopeSays.l1_k.I p r) (a_1 b_16 a_95 x_96 x_97) (r) (e : roadlaw2_ScopeSays.l1_k.body go (.l1 a_1 b_16 a_95 x_96 x_97) = some r) : roadlaw2_ScopeSays.l1_k.I (.l1 a_1 b_16 a_95 x_96 x_97) r := by
  unfold roadlaw2_ScopeSays.l1_k.body at e
  intro W h0 m0 h m A_1 n_1 c_1 A_95 n_95 c_95 O ne_1 k_1 r_1 ne_95 k_95 r_95
  subst ne_1
  subst ne_95
  refine f7.l1_in ?_
  unfold f7.l1T
  refine split_dec_e e (fun c49 e => ?_) (fun c49 e => ?_)
  · obtain ⟨y1, g2, e⟩ := bind_e e
    refine r_95.addr rfl g2 fun a3 cs4 ha5 hc6 he7 => ?_
    obtain rfl : cs4 = [(Value.string y1)] := he7
    refine ⟨_, ld0 O.s hc6 rfl, _, rfl, ?_⟩
    refine split_any_e e (fun c20 e => ?_) (fun c20 e => ?_)
    · exact (ih _ _ e) (O.pick []).nm rfl k_1 r_1 rfl k_95 r_95
    · obtain ⟨l8, g9, e⟩ := bind_e e
      have q10 := sls_e g9
      refine ⟨q10.1, q10.2.1, cap_in q10.2.2.1 k_1, ?_⟩
      try rw [q10.2.2.2.1]
      have k11 : List.length l8 ≤ (c_1 - Int.toNat (0 : Int)) := sls_cap g9 k_1
      have r12 := r_1.sls g9 (le_mx q10.2.2.1 k_1)
      obtain ⟨y13, g14, e⟩ := bind_e e
      refine (slices_Contains_68.walk (Hold.start (W := No) O.s) rfl k11 r12 g14).mono ?_
      rintro _ h15 ⟨m16, Q17, rfl⟩
      have O19 := Hold.nm (O.retC Q17 vfs_nil)
      refine ⟨_, rfl, ?_⟩
      exact (ih _ _ e) (O19.pick []).nm rfl k_1 r_1 rfl k_95 r_95
  · obtain ⟨y21, g22, e⟩ := bind_e e
    refine (scope_Twice.walk (Hold.start (W := No) O.s) rfl k_1 r_1 g22).mono ?_
    rintro _ h23 ⟨m24, Q25, rfl⟩
    have O27 := Hold.nm (O.retC Q25 vfs_nil)
    refine ⟨_, rfl, ?_⟩
    refine split_any_e e (fun c48 e => ?_) (fun c48 e => ?_)
    · refine O27.new fun h28 x29 O30 => ?_
      obtain ⟨y33, g34, e⟩ := bind_e e
      have O32 := O30.rowE (l := ([(ByteArray.mk #[97]), (ByteArray.mk #[97])] : List ByteArray)) 0 rfl tell_str (show CsE _ _ _ _ _ from (CsE.cons (c1 := [(Value.string (ByteArray.mk #[97]))]) rfl rfl (CsE.cons (c1 := [(Value.string (ByteArray.mk #[97]))]) rfl rfl CsE.nil))) rfl
      have O39 := O32.nm
      obtain ⟨m40, u41, s46, ⟨⟨r44, k45⟩, _⟩, B42, C43⟩ := O39.lend0 [0]
      replace r44 : Rd 1 eStr m40 (some ⟨(Array.size h23), 0, none⟩) ([(ByteArray.mk #[97]), (ByteArray.mk #[97])] : List ByteArray) := r44
      replace k45 : List.length ([(ByteArray.mk #[97]), (ByteArray.mk #[97])] : List ByteArray) ≤ 2 := k45
      refine (scope_Twice.walk (Hold.start (W := No) s46) rfl k45 r44 g34).mono ?_
      rintro _ h35 ⟨m36, Q37, rfl⟩
      have O47 := Hold.nm (C43 Q37 vfs_nil)
      refine ⟨_, rfl, ?_⟩
      cases e
      exact ⟨_, O47.pick [], rfl⟩
    · cases e
      exact ⟨_, O27.pick [], rfl⟩
theorem roadlaw2_ScopeSays.l1_k.all {p : roadlaw2_ScopeSays.l1_k.Pt} {r : (Bool)} (e : roadlaw2_ScopeSays.l1_k.go p = some r) : roadlaw2_ScopeSays.l1_k.I p r := fixF_ind (β := fun _ => (Bool)) roadlaw2_ScopeSays.l1_k.mono (I := roadlaw2_ScopeSays.l1_k.I) (fun go ih p r e => match p with
  | .l1 a_1 b_16 a_95 x_96 x_97 => roadlaw2_ScopeSays.l1_k.step_l1 go ih a_1 b_16 a_95 x_96 x_97 r e
  ) e
inductive roadlaw2_ScopeSays.l0_k.Pt where
  | l0 (a_1 : List ByteArray) (y_2 : T_api_Program) (a_67 : List T_api_Expr) (x_68 : Int) (x_69 : Int)
noncomputable def roadlaw2_ScopeSays.l0_k.body (go : (p : roadlaw2_ScopeSays.l0_k.Pt) → Option (Bool)) : (p : roadlaw2_ScopeSays.l0_k.Pt) → Option (Bool)
  | .l0 a_1 y_2 a_67 x_68 x_69 => if x_69 < x_68 then (Option.bind (gi a_67 x_69) fun y1 => Option.bind (scope_Expr y_2 a_1 y1) fun y14 => Option.bind (roadref2_ScopeExpr y_2 a_1 y1) fun y21 => if y14.1 = y21.E_ then (if y14.2 = y21.At then ((go (.l0 a_1 y_2 a_67 x_68 (IntKind.wrap .i64 (x_69 + (1 : Int)))))) else (some (false))) else (some (false))) else ((roadlaw2_ScopeSays.l1 a_1 false a_1 (((List.length a_1) : Nat) : Int) (0 : Int)))
theorem roadlaw2_ScopeSays.l0_k.mono : MonoF (β := fun _ => (Bool)) roadlaw2_ScopeSays.l0_k.body := fun f g hfg p => match p with
  | .l0 a_1 y_2 a_67 x_68 x_69 => LeO.ite (LeO.bind (LeO.refl _) fun y1 => LeO.bind (LeO.refl _) fun y14 => LeO.bind (LeO.refl _) fun y21 => LeO.ite (LeO.ite ((hfg _)) (LeO.refl _)) (LeO.refl _)) ((LeO.refl _))
noncomputable def roadlaw2_ScopeSays.l0_k.go (p : roadlaw2_ScopeSays.l0_k.Pt) : Option (Bool) := fixF (β := fun _ => (Bool)) roadlaw2_ScopeSays.l0_k.body p
noncomputable def roadlaw2_ScopeSays.l0 (a_1 y_2 a_67 x_68 x_69) := roadlaw2_ScopeSays.l0_k.go (.l0 a_1 y_2 a_67 x_68 x_69)
theorem roadlaw2_ScopeSays.l0_eq (a_1 y_2 a_67 x_68 x_69) : roadlaw2_ScopeSays.l0 a_1 y_2 a_67 x_68 x_69 = if x_69 < x_68 then (Option.bind (gi a_67 x_69) fun y1 => Option.bind (scope_Expr y_2 a_1 y1) fun y14 => Option.bind (roadref2_ScopeExpr y_2 a_1 y1) fun y21 => if y14.1 = y21.E_ then (if y14.2 = y21.At then ((roadlaw2_ScopeSays.l0 a_1 y_2 a_67 x_68 (IntKind.wrap .i64 (x_69 + (1 : Int))))) else (some (false))) else (some (false))) else ((roadlaw2_ScopeSays.l1 a_1 false a_1 (((List.length a_1) : Nat) : Int) (0 : Int))) := fixF_eq roadlaw2_ScopeSays.l0_k.mono _
def roadlaw2_ScopeSays.l0_k.I : (p : roadlaw2_ScopeSays.l0_k.Pt) → (Bool) → Prop
  | .l0 a_1 y_2 a_67 x_68 x_69, r => ∀ {W h0 m0 h m A_1 n_1 c_1 bk_2 cs_2 A_67 n_67 c_67} (O : Hold W h0 m0 h m [rV bk_2 135 cs_2, rR (aE T_api_Expr.T) A_67 c_67 a_67]) (ne_1 : n_1 = List.length a_1) (k_1 : List.length a_1 ≤ c_1) (r_1 : Rd 1 eStr m A_1 a_1) (e_2 : T_api_Program.E m y_2 cs_2) (ne_67 : n_67 = List.length a_67), f7.l0 (roadlaw2_ScopeSays.post W h0 m0 r) A_1 n_1 c_1 (⟨bk_2, 0, none⟩ : Addr) A_67 n_67 c_67 x_68 x_69 h
set_option maxHeartbeats 4000000 in
theorem roadlaw2_ScopeSays.l0_k.step_l0 (go : (p : roadlaw2_ScopeSays.l0_k.Pt) → Option (Bool)) (ih : ∀ p r, go p = some r → roadlaw2_ScopeSays.l0_k.I p r) (a_1 y_2 a_67 x_68 x_69) (r) (e : roadlaw2_ScopeSays.l0_k.body go (.l0 a_1 y_2 a_67 x_68 x_69) = some r) : roadlaw2_ScopeSays.l0_k.I (.l0 a_1 y_2 a_67 x_68 x_69) r := by
  unfold roadlaw2_ScopeSays.l0_k.body at e
  intro W h0 m0 h m A_1 n_1 c_1 bk_2 cs_2 A_67 n_67 c_67 O ne_1 k_1 r_1 e_2 ne_67
  subst ne_1
  subst ne_67
  refine f7.l0_in ?_
  unfold f7.l0T
  refine split_dec_e e (fun c42 e => ?_) (fun c42 e => ?_)
  · obtain ⟨y1, g2, e⟩ := bind_e e
    refine (O.os 1 rfl).addr rfl g2 fun a3 cs4 ha5 hc6 he7 => ?_
    refine ⟨_, ldAn (Sub.refl _) hc6 rfl, ?_⟩
    refine O.new fun h8 x9 O10 => ?_
    refine ⟨_, rfl, (T_api_Expr.T.len _ _ _ he7), ?_⟩
    refine O10.stA 2 rfl (T_api_Expr.T.len _ _ _ he7) (T_api_Expr.T.flat _ _ _ he7) fun h12 O13 => ?_
    refine ⟨_, ldAn (Sub.refl _) (O13.all 0 rfl) (T_api_Program.T.len _ _ _ e_2), ?_⟩
    refine ⟨_, ldAn (Sub.refl _) (O13.all 2 rfl) (T_api_Expr.T.len _ _ _ he7), ?_⟩
    obtain ⟨y14, g15, e⟩ := bind_e e
    refine (scope_Expr.walk (Hold.start (W := No) O13.s) e_2 rfl k_1 r_1 he7 g15).mono ?_
    rintro _ h16 ⟨m17, Q18, rfl⟩
    have O20 := Hold.nm (O13.retC Q18 vfs_nil)
    refine ⟨_, _, rfl, ?_⟩
    refine ⟨_, ldAn (Sub.refl _) (O20.all 0 rfl) (T_api_Program.T.len _ _ _ e_2), ?_⟩
    refine ⟨_, ldAn (Sub.refl _) (O20.all 2 rfl) (T_api_Expr.T.len _ _ _ he7), ?_⟩
    obtain ⟨y21, g22, e⟩ := bind_e e
    refine (roadref2_ScopeExpr.walk (Hold.start (W := No) O20.s) e_2 rfl k_1 r_1 he7 g22).mono ?_
    rintro _ h23 ⟨m24, cs28, Q25, rfl, he29⟩
    replace he29 : T_roadref2_Wrong.E m y21 cs28 := T_roadref2_Wrong.keep he29
    have O30 := Hold.nm (O20.retC Q25 vfs_nil)
    refine O30.new fun h31 x32 O33 => ?_
    refine ⟨_, rfl, (T_roadref2_Wrong.T.len _ _ _ he29), ?_⟩
    refine O33.stA 3 rfl (T_roadref2_Wrong.T.len _ _ _ he29) (T_roadref2_Wrong.T.flat _ _ _ he29) fun h35 O36 => ?_
    refine ⟨_, ld0 (Sub.refl _) (O36.all 3 rfl) (T_roadref2_Wrong.g0 he29), _, rfl, ?_⟩
    refine split_ne_e e (fun c41 e => ?_) (fun c41 e => ?_)
    · have O37 := O36.nm
      cases e
      exact ⟨_, O37.pick [], rfl⟩
    · refine ⟨_, ldk (k := 1) (Sub.refl _) (O36.all 3 rfl) (T_roadref2_Wrong.g1 he29), _, rfl, ?_⟩
      refine split_ne_e e (fun c40 e => ?_) (fun c40 e => ?_)
      · have O38 := O36.nm
        cases e
        exact ⟨_, O38.pick [], rfl⟩
      · have O39 := O36.nm
        exact (ih _ _ e) (O39.pick [0, 1]).nm rfl k_1 r_1 e_2 rfl
  · exact (roadlaw2_ScopeSays.l1_k.all e) (O.pick []).nm rfl k_1 r_1 rfl k_1 r_1
theorem roadlaw2_ScopeSays.l0_k.all {p : roadlaw2_ScopeSays.l0_k.Pt} {r : (Bool)} (e : roadlaw2_ScopeSays.l0_k.go p = some r) : roadlaw2_ScopeSays.l0_k.I p r := fixF_ind (β := fun _ => (Bool)) roadlaw2_ScopeSays.l0_k.mono (I := roadlaw2_ScopeSays.l0_k.I) (fun go ih p r e => match p with
  | .l0 a_1 y_2 a_67 x_68 x_69 => roadlaw2_ScopeSays.l0_k.step_l0 go ih a_1 y_2 a_67 x_68 x_69 r e
  ) e
noncomputable def roadlaw2_ScopeSays.j0 (a_1 : List ByteArray) (y_2 : T_api_Program) : Option (Bool) :=
  Option.bind (roadref2_BodiesOf y_2) fun y1 => (roadlaw2_ScopeSays.l0 a_1 y_2 y1 (((List.length y1) : Nat) : Int) (0 : Int))
theorem roadlaw2_ScopeSays.j0.walk {W h0 m0 h m A_1 n_1 c_1 bk_2 cs_2 a_1 y_2} (O : Hold W h0 m0 h m [rV bk_2 135 cs_2]) (ne_1 : n_1 = List.length a_1) (k_1 : List.length a_1 ≤ c_1) (r_1 : Rd 1 eStr m A_1 a_1) (e_2 : T_api_Program.E m y_2 cs_2) {r} (e : roadlaw2_ScopeSays.j0 a_1 y_2 = some r) : f7.j0 (roadlaw2_ScopeSays.post W h0 m0 r) A_1 n_1 c_1 (⟨bk_2, 0, none⟩ : Addr) h := by
  unfold roadlaw2_ScopeSays.j0 at e
  subst ne_1
  refine f7.j0_in ?_
  unfold f7.j0T
  refine ⟨_, ldAn (Sub.refl _) (O.all 0 rfl) (T_api_Program.T.len _ _ _ e_2), ?_⟩
  obtain ⟨y1, g2, e⟩ := bind_e e
  refine (roadref2_BodiesOf.walk (Hold.start (W := No) O.s) e_2 g2).mono ?_
  rintro _ h3 ⟨m4, A7, n8, c9, Q5, rfl, ne10⟩
  have O12 := Hold.nm (O.ret Q5)
  subst ne10
  refine ⟨_, _, _, rfl, ?_⟩
  exact (roadlaw2_ScopeSays.l0_k.all e) (O12.pick [0, 1]).nm rfl k_1 (r_1.sub tell_str Q5.S.up) (T_api_Program.T.mono _ _ _ _ Q5.S.up e_2) rfl
noncomputable def roadlaw2_ScopeSays (y_0 : T_api_Program) (a_1 : List ByteArray) : Option (Bool) :=
  Option.bind (roadlaw2_small y_0) fun y5 => if y5 = true then (Option.bind (scope_Program y_0) fun y12 => Option.bind (roadref2_ScopeOf y_0) fun y19 => Option.bind (roadref2_Lists y_0) fun y35 => if y12.1 = y19.E_ then (if y12.2 = y19.At then (Option.bind (scope_Makers y_0) fun y57 => Option.bind (slices_Equal_61 y57 y35.1) fun y69 => if y69 = true then (Option.bind (scope_Callable y_0) fun y85 => Option.bind (slices_Equal_61 y85 y35.2.1) fun y97 => if y97 = true then (Option.bind (scope_Actors y_0) fun y113 => Option.bind (slices_Equal_61 y113 y35.2.2) fun y125 => if y125 = true then ((roadlaw2_ScopeSays.j0 a_1 y_0)) else (some (false))) else (some (false))) else (some (false))) else (some (false))) else (some (false))) else (some (true))
set_option maxHeartbeats 4000000 in
theorem roadlaw2_ScopeSays.walk {W h m cs_0 A_1 n_1 c_1 y_0 a_1} (O : Hold W h m h m []) (e_0 : T_api_Program.E m y_0 cs_0) (ne_1 : n_1 = List.length a_1) (k_1 : List.length a_1 ≤ c_1) (r_1 : Rd 1 eStr m A_1 a_1) {r} (e : roadlaw2_ScopeSays y_0 a_1 = some r) : Run Try.prog 7 #[Value.agg cs_0.toArray, Value.slice A_1 n_1 c_1] h (roadlaw2_ScopeSays.post W h m r) := by
  unfold roadlaw2_ScopeSays at e
  subst ne_1
  refine f7.run ?_
  unfold f7.runT
  refine O.new fun h1 x2 O3 => ?_
  refine ⟨_, ldAn (Sub.refl _) (O3.all 0 rfl) (T_api_Program.T.len _ _ _ e_0), ?_⟩
  obtain ⟨y5, g6, e⟩ := bind_e e
  refine (roadlaw2_small.walk (Hold.start (W := No) O3.s) e_0 g6).mono ?_
  rintro _ h7 ⟨m8, Q9, rfl⟩
  have O11 := Hold.nm (O3.retC Q9 vfs_nil)
  refine ⟨_, rfl, ?_⟩
  refine split_not ?_
  refine split_any_e e (fun c146 e => ?_) (fun c146 e => ?_)
  · refine ⟨_, ldAn (Sub.refl _) (O11.all 0 rfl) (T_api_Program.T.len _ _ _ e_0), ?_⟩
    obtain ⟨y12, g13, e⟩ := bind_e e
    refine (scope_Program.walk (Hold.start (W := No) O11.s) e_0 g13).mono ?_
    rintro _ h14 ⟨m15, Q16, rfl⟩
    have O18 := Hold.nm (O11.retC Q16 vfs_nil)
    refine ⟨_, _, rfl, ?_⟩
    refine ⟨_, ldAn (Sub.refl _) (O18.all 0 rfl) (T_api_Program.T.len _ _ _ e_0), ?_⟩
    obtain ⟨y19, g20, e⟩ := bind_e e
    refine (roadref2_ScopeOf.walk (Hold.start (W := No) O18.s) e_0 g20).mono ?_
    rintro _ h21 ⟨m22, cs26, Q23, rfl, he27⟩
    replace he27 : T_roadref2_Wrong.E m y19 cs26 := T_roadref2_Wrong.keep he27
    have O28 := Hold.nm (O18.retC Q23 vfs_nil)
    refine O28.new fun h29 x30 O31 => ?_
    refine ⟨_, rfl, (T_roadref2_Wrong.T.len _ _ _ he27), ?_⟩
    refine O31.stA 1 rfl (T_roadref2_Wrong.T.len _ _ _ he27) (T_roadref2_Wrong.T.flat _ _ _ he27) fun h33 O34 => ?_
    refine ⟨_, ldAn (Sub.refl _) (O34.all 0 rfl) (T_api_Program.T.len _ _ _ e_0), ?_⟩
    obtain ⟨y35, g36, e⟩ := bind_e e
    refine (roadref2_Lists.walk (Hold.start (W := No) O34.s) e_0 g36).mono ?_
    rintro _ h37 ⟨m38, A41, n42, c43, A46, n47, c48, A51, n52, c53, Q39, rfl, ne44, ne49, ne54⟩
    have O56 := Hold.nm (O34.retC Q39 (vfs_cons (rR_vf (aE_vf (fun _ _ _ _ h => h))) (vfs_cons (rR_vf (aE_vf (fun _ _ _ _ h => h))) (vfs_cons (rR_vf (aE_vf (fun _ _ _ _ h => h))) vfs_nil))))
    subst ne44
    subst ne49
    subst ne54
    refine ⟨_, _, _, _, _, _, _, _, _, rfl, ?_⟩
    refine ⟨_, ld0 (Sub.refl _) (O56.all 1 rfl) (T_roadref2_Wrong.g0 he27), _, rfl, ?_⟩
    refine split_ne_e e (fun c145 e => ?_) (fun c145 e => ?_)
    · cases e
      exact ⟨_, O56.pick [], rfl⟩
    · refine ⟨_, ldk (k := 1) (Sub.refl _) (O56.all 1 rfl) (T_roadref2_Wrong.g1 he27), _, rfl, ?_⟩
      refine split_ne_e e (fun c144 e => ?_) (fun c144 e => ?_)
      · cases e
        exact ⟨_, O56.pick [], rfl⟩
      · refine ⟨_, ldAn (Sub.refl _) (O56.all 0 rfl) (T_api_Program.T.len _ _ _ e_0), ?_⟩
        obtain ⟨y57, g58, e⟩ := bind_e e
        refine (scope_Makers.walk (Hold.start (W := No) O56.s) e_0 g58).mono ?_
        rintro _ h59 ⟨m60, A63, n64, c65, Q61, rfl, ne66⟩
        have O68 := Hold.nm (O56.retC Q61 (vfs_cons (rR_vf (aE_vf (fun _ _ _ _ h => h))) vfs_nil))
        subst ne66
        refine ⟨_, _, _, rfl, ?_⟩
        obtain ⟨y69, g70, e⟩ := bind_e e
        obtain ⟨m75, u76, s83, ⟨⟨r79, k80⟩, ⟨r81, k82⟩, _⟩, B77, C78⟩ := O68.lend0 [5, 2]
        replace r79 : Rd 1 eStr m75 A63 y57 := r79
        replace k80 : List.length y57 ≤ c65 := k80
        replace r81 : Rd 1 eStr m75 A41 y35.1 := r81
        replace k82 : List.length y35.1 ≤ c43 := k82
        refine (slices_Equal_61.walk (Hold.start (W := No) s83) rfl k80 r79 rfl k82 r81 g70).mono ?_
        rintro _ h71 ⟨m72, Q73, rfl⟩
        have O84 := Hold.nm (C78 Q73 vfs_nil)
        refine ⟨_, rfl, ?_⟩
        refine split_not ?_
        refine split_any_e e (fun c143 e => ?_) (fun c143 e => ?_)
        · refine ⟨_, ldAn (Sub.refl _) (O84.all 0 rfl) (T_api_Program.T.len _ _ _ e_0), ?_⟩
          obtain ⟨y85, g86, e⟩ := bind_e e
          refine (scope_Callable.walk (Hold.start (W := No) O84.s) e_0 g86).mono ?_
          rintro _ h87 ⟨m88, A91, n92, c93, Q89, rfl, ne94⟩
          have O96 := Hold.nm (O84.retC Q89 (vfs_cons (rR_vf (aE_vf (fun _ _ _ _ h => h))) vfs_nil))
          subst ne94
          refine ⟨_, _, _, rfl, ?_⟩
          obtain ⟨y97, g98, e⟩ := bind_e e
          obtain ⟨m103, u104, s111, ⟨⟨r107, k108⟩, ⟨r109, k110⟩, _⟩, B105, C106⟩ := O96.lend0 [6, 3]
          replace r107 : Rd 1 eStr m103 A91 y85 := r107
          replace k108 : List.length y85 ≤ c93 := k108
          replace r109 : Rd 1 eStr m103 A46 y35.2.1 := r109
          replace k110 : List.length y35.2.1 ≤ c48 := k110
          refine (slices_Equal_61.walk (Hold.start (W := No) s111) rfl k108 r107 rfl k110 r109 g98).mono ?_
          rintro _ h99 ⟨m100, Q101, rfl⟩
          have O112 := Hold.nm (C106 Q101 vfs_nil)
          refine ⟨_, rfl, ?_⟩
          refine split_not ?_
          refine split_any_e e (fun c142 e => ?_) (fun c142 e => ?_)
          · refine ⟨_, ldAn (Sub.refl _) (O112.all 0 rfl) (T_api_Program.T.len _ _ _ e_0), ?_⟩
            obtain ⟨y113, g114, e⟩ := bind_e e
            refine (scope_Actors.walk (Hold.start (W := No) O112.s) e_0 g114).mono ?_
            rintro _ h115 ⟨m116, A119, n120, c121, Q117, rfl, ne122⟩
            have O124 := Hold.nm (O112.retC Q117 (vfs_cons (rR_vf (aE_vf (fun _ _ _ _ h => h))) vfs_nil))
            subst ne122
            refine ⟨_, _, _, rfl, ?_⟩
            obtain ⟨y125, g126, e⟩ := bind_e e
            obtain ⟨m131, u132, s139, ⟨⟨r135, k136⟩, ⟨r137, k138⟩, _⟩, B133, C134⟩ := O124.lend0 [7, 4]
            replace r135 : Rd 1 eStr m131 A119 y113 := r135
            replace k136 : List.length y113 ≤ c121 := k136
            replace r137 : Rd 1 eStr m131 A51 y35.2.2 := r137
            replace k138 : List.length y35.2.2 ≤ c53 := k138
            refine (slices_Equal_61.walk (Hold.start (W := No) s139) rfl k136 r135 rfl k138 r137 g126).mono ?_
            rintro _ h127 ⟨m128, Q129, rfl⟩
            have O140 := Hold.nm (C134 Q129 vfs_nil)
            refine ⟨_, rfl, ?_⟩
            refine split_not ?_
            refine split_any_e e (fun c141 e => ?_) (fun c141 e => ?_)
            · exact roadlaw2_ScopeSays.j0.walk (O140.pick [0]).nm rfl k_1 r_1 e_0 e
            · cases e
              exact ⟨_, O140.pick [], rfl⟩
          · cases e
            exact ⟨_, O112.pick [], rfl⟩
        · cases e
          exact ⟨_, O84.pick [], rfl⟩
  · cases e
    exact ⟨_, O11.pick [], rfl⟩
end Go.Proofs.Ytmcfmmoaofileaa.Fw

end
section
namespace Go.Proofs.Ytmcfmmoaofileaa.Fw
open Go Go.Hw Go.Proofs
set_option linter.unusedVariables false
set_option linter.unusedSectionVars false
theorem sum_le {α : Type} {f g : α → Nat} : ∀ {l : List α}, (∀ x ∈ l, f x ≤ g x) → (l.map f).sum ≤ (l.map g).sum
  | [], _ => Nat.le_refl _
  | x :: l, h => by
    rw [List.map_cons, List.map_cons, List.sum_cons, List.sum_cons]
    exact Nat.add_le_add (h x (List.mem_cons_self ..)) (sum_le fun y hy => h y (List.mem_cons_of_mem _ hy))
theorem le_sum {α : Type} {f : α → Nat} : ∀ {l : List α} {x : α}, x ∈ l → f x ≤ (l.map f).sum
  | y :: l, x, h => by
    rw [List.map_cons, List.sum_cons]
    rcases List.mem_cons.1 h with rfl | h
    · omega
    · have := le_sum (f := f) h; omega
theorem len_le_sum {α : Type} {f : α → Nat} : ∀ {l : List α}, (∀ x ∈ l, 1 ≤ f x) → l.length ≤ (l.map f).sum
  | [], _ => Nat.le_refl _
  | x :: l, h => by
    rw [List.map_cons, List.sum_cons, List.length_cons]
    have := h x (List.mem_cons_self ..); have := len_le_sum fun y hy => h y (List.mem_cons_of_mem x hy); omega
theorem pbulk (t : T_api_Pat) : t.bulk = t.Text.size + (t.Args.map T_api_Pat.bulk).sum + 5 := by rw [T_api_Pat.bulk_eq]; omega
theorem ebulk (t : T_api_Expr) : t.bulk = t.Text.size + (t.Names.map fun s => s.size + 1).sum + (t.Types.map T_api_Type.bulk).sum + (t.Args.map T_api_Expr.bulk).sum + (t.Arms.map T_api_Arm.bulk).sum + 9 := by rw [T_api_Expr.bulk_eq]; omega
theorem abulk (t : T_api_Arm) : t.bulk = t.Pat.bulk + t.Body.bulk + 1 := rfl
theorem pbulk_pos (t : T_api_Pat) : 1 ≤ t.bulk := by rw [pbulk]; omega
theorem ebulk_pos (t : T_api_Expr) : 1 ≤ t.bulk := by rw [ebulk]; omega
theorem abulk_pos (t : T_api_Arm) : 1 ≤ t.bulk := by rw [abulk]; omega
theorem gen_loop {α β γ : Type} {l : List α} {F : β → Int → Option γ} {g : β → α → β} (P : List α → β → Prop)
    (step : ∀ (s : β) (i : Nat) (hi : i < l.length), P (l[i] :: l.drop (i + 1)) s → F s (i : Int) = F (g s l[i]) ((i + 1 : Nat) : Int) ∧ P (l.drop (i + 1)) (g s l[i])) (s : β) (h : P l s) : F s 0 = F (l.foldl g s) (l.length : Int) := by
  have key : ∀ (d i : Nat) (s : β), l.length - i = d → i ≤ l.length → P (l.drop i) s → F s (i : Int) = F ((l.drop i).foldl g s) (l.length : Int) := by
    intro d
    induction d with
    | zero =>
      intro i s hd hi _
      obtain rfl : i = l.length := by omega
      rw [List.drop_length, List.foldl_nil]
    | succ d ih =>
      intro i s hd hi hP
      have hlt : i < l.length := by omega
      rw [List.drop_eq_getElem_cons hlt] at hP ⊢
      have := step s i hlt hP
      rw [this.1, ih (i + 1) _ (by omega) hlt this.2, List.foldl_cons]
  have := key l.length 0 s (by omega) (by omega) (by rw [List.drop_zero]; exact h)
  rw [List.drop_zero] at this
  exact this
theorem fold_app {α β : Type} (T : α → List β) : ∀ (l : List α) (x : List β), l.foldl (fun s a => s ++ T a) x = x ++ l.flatMap T
  | [], x => by simp
  | a :: l, x => by rw [List.foldl_cons, fold_app T l, List.flatMap_cons, List.append_assoc]
theorem app_loop {α β γ : Type} {l : List α} {F : List β → Int → Option γ} {T : α → List β} {B : Nat} (step : ∀ (s : List β) (i : Nat) (hi : i < l.length), s.length + (T l[i]).length ≤ B → F s (i : Int) = F (s ++ T l[i]) ((i + 1 : Nat) : Int)) (x : List β) (hB : x.length + (l.map fun a => (T a).length).sum ≤ B) : F x 0 = F (x ++ l.flatMap T) (l.length : Int) := by
  rw [← fold_app]
  exact gen_loop (F := F) (g := fun s a => s ++ T a) (fun r s => s.length + (r.map fun a => (T a).length).sum ≤ B) (fun s i hi h => by
    rw [List.map_cons, List.sum_cons] at h
    exact ⟨step s i hi (by omega), by show (s ++ T l[i]).length + _ ≤ B; rw [List.length_append]; omega⟩) x hB
theorem flat_one {α β : Type} (f : α → β) : ∀ l : List α, l.flatMap (fun x => [f x]) = l.map f
  | [] => rfl
  | a :: l => by rw [List.flatMap_cons, flat_one f l]; rfl
theorem one_len {α β : Type} (f : α → β) (l : List α) : (l.map fun a => [f a].length).sum = l.length := by
  induction l with
  | nil => rfl
  | cons a l ih => rw [List.map_cons, List.sum_cons, ih, List.length_cons, List.length_cons, List.length_nil]; omega
theorem map_loop {α β γ : Type} {l : List α} {F : List β → Int → Option γ} {f : α → β} {B : Nat} (step : ∀ (s : List β) (i : Nat) (hi : i < l.length), s.length + 1 ≤ B → F s (i : Int) = F (s ++ [f l[i]]) ((i + 1 : Nat) : Int)) (hB : l.length ≤ B) : F [] 0 = F (l.map f) (l.length : Int) := by
  have := app_loop (l := l) (F := F) (T := fun x => [f x]) (B := B) (fun s i hi h => step s i hi h) [] (by
    have : ∀ l : List α, (l.map fun a => [f a].length).sum = l.length := fun l => by induction l with
      | nil => rfl
      | cons a l ih => rw [List.map_cons, List.sum_cons, ih, List.length_cons, List.length_cons, List.length_nil]; omega
    rw [this, List.length_nil]; omega)
  rw [flat_one, List.nil_append] at this
  exact this
abbrev Ex := T_api_Expr
def parts (e : Ex) : List Ex := e.Args ++ e.Arms.map (·.Body)
theorem parts_lt {e x : Ex} (h : x ∈ parts e) : SizeOf.sizeOf x < SizeOf.sizeOf e := by
  have h0 : SizeOf.sizeOf e = 1 + SizeOf.sizeOf e.Kind + SizeOf.sizeOf e.Num + SizeOf.sizeOf e.Text + SizeOf.sizeOf e.Names + SizeOf.sizeOf e.Types + SizeOf.sizeOf e.Args + SizeOf.sizeOf e.Arms + SizeOf.sizeOf e.At := by cases e; simp
  unfold parts at h
  rcases List.mem_append.1 h with h | h
  · have := List.sizeOf_lt_of_mem h; omega
  · obtain ⟨a, ha, rfl⟩ := List.mem_map.1 h
    have h1 := List.sizeOf_lt_of_mem ha
    have h2 := T_api_Arm.lt_Body a
    omega
def walk (e : Ex) : List Ex := e :: (parts e).attach.flatMap fun y => walk y.1
termination_by SizeOf.sizeOf e
decreasing_by exact parts_lt y.2
theorem walk_eq (e : Ex) : walk e = e :: (parts e).flatMap walk := by
  rw [walk]
  congr 1
  have : ((parts e).attach.flatMap fun y => walk y.1) = ((parts e).attach.map (fun y => y.1)).flatMap walk := by rw [List.flatMap_map]
  rw [this, List.attach_map_subtype_val]
theorem walk_ind {p : Ex → Prop} (h : ∀ e, (∀ x ∈ parts e, p x) → p e) (e : Ex) : p e := by
  have key : ∀ n e, SizeOf.sizeOf e ≤ n → p e := by
    intro n
    induction n with
    | zero => intro e he; cases e; simp at he
    | succ n ih => exact fun e he => h e fun x hx => ih x (by have := parts_lt hx; omega)
  exact key _ e (Nat.le_refl _)
theorem len_flatMap (l : List Ex) : (l.flatMap walk).length = (l.map fun x => (walk x).length).sum := by rw [List.length_flatMap]
theorem sum_le2 {α : Type} {l : List α} {f g : α → Nat} (h : ∀ x ∈ l, f x ≤ g x) : (l.map f).sum ≤ (l.map g).sum := by
  induction l with
  | nil => simp
  | cons x l ih =>
    have h0 := h x (by simp)
    have h1 := ih (fun y hy => h y (by simp [hy]))
    simp only [List.map_cons, List.sum_cons]; omega
theorem sum_one {α : Type} (l : List α) : (l.map fun _ => 1).sum = l.length := by
  induction l with
  | nil => rfl
  | cons x l ih => rw [List.map_cons, List.sum_cons, ih, List.length_cons]; omega
theorem sum_mem {α : Type} {l : List α} {f : α → Nat} {x : α} (h : x ∈ l) : f x ≤ (l.map f).sum := by
  induction l with
  | nil => cases h
  | cons y l ih =>
    simp only [List.map_cons, List.sum_cons]
    rcases List.mem_cons.1 h with rfl | h
    · omega
    · have := ih h; omega
theorem walk_bulk (e : Ex) : (walk e).length ≤ e.bulk := by
  induction e using walk_ind with
  | h e ih =>
    have h1 : ((parts e).map fun x => (walk x).length).sum ≤ ((parts e).map T_api_Expr.bulk).sum := sum_le2 ih
    have h2 : ((parts e).map T_api_Expr.bulk).sum = (e.Args.map T_api_Expr.bulk).sum + (e.Arms.map fun a => a.Body.bulk).sum := by
      unfold parts; rw [List.map_append, List.sum_append, List.map_map]; rfl
    have h3 : (e.Arms.map fun a => a.Body.bulk).sum ≤ (e.Arms.map T_api_Arm.bulk).sum := sum_le2 fun a _ => by unfold T_api_Arm.bulk; omega
    rw [walk_eq, List.length_cons, len_flatMap, T_api_Expr.bulk_eq]
    omega
theorem parts_len (e : Ex) : (parts e).length ≤ (walk e).length := by
  rw [walk_eq, List.length_cons, len_flatMap]
  have := sum_one (parts e)
  have h2 : ((parts e).map fun _ => 1).sum ≤ ((parts e).map fun x => (walk x).length).sum := sum_le2 fun x _ => by rw [walk_eq]; simp
  omega
theorem all_l1 {out : List Ex} {x : Ex} (hx : (parts x).length ≤ 4194304) : ∀ (k : Nat) (row : List Ex), k ≤ x.Arms.length → row.length + k ≤ 8388608 → roadref2_All.l1 row out x ((k : Int) - 1) = roadref2_All.l2 (row ++ ((x.Arms.take k).map (·.Body)).reverse) out x ((x.Args.length : Int) - 1) := by
  have hp : (parts x).length = x.Args.length + x.Arms.length := by unfold parts; simp
  intro k
  induction k with
  | zero => intro row _ _; rw [roadref2_All.l1_eq, if_neg (by omega), wrap_in (by omega) (by omega)]; simp
  | succ k ih =>
    intro row hk hr
    have hlt : k < x.Arms.length := by omega
    rw [roadref2_All.l1_eq, if_pos (by omega), gi_some (k := k) (by omega) (List.getElem?_eq_getElem hlt), Option.bind_some, ap_one (by omega), Option.bind_some, wrap_in (by omega) (by omega), show ((k + 1 : Nat) : Int) - 1 - 1 = (k : Int) - 1 by omega, ih _ (by omega) (by simp; omega), List.take_succ_eq_append_getElem hlt, List.map_append, List.reverse_append]
    simp only [List.map_cons, List.map_nil, List.reverse_singleton, List.append_assoc]
theorem all_l2 {out : List Ex} {x : Ex} (hx : (parts x).length ≤ 4194304) : ∀ (k : Nat) (row : List Ex), k ≤ x.Args.length → row.length + k ≤ 16777216 → roadref2_All.l2 row out x ((k : Int) - 1) = roadref2_All.l0 (row ++ (x.Args.take k).reverse) out := by
  have hp : (parts x).length = x.Args.length + x.Arms.length := by unfold parts; simp
  intro k
  induction k with
  | zero => intro row _ _; rw [roadref2_All.l2_eq, if_neg (by omega)]; simp
  | succ k ih =>
    intro row hk hr
    have hlt : k < x.Args.length := by omega
    rw [roadref2_All.l2_eq, if_pos (by omega), gi_some (k := k) (by omega) (List.getElem?_eq_getElem hlt), Option.bind_some, ap_one (by omega), Option.bind_some, wrap_in (by omega) (by omega), show ((k + 1 : Nat) : Int) - 1 - 1 = (k : Int) - 1 by omega, ih _ (by omega) (by simp; omega), List.take_succ_eq_append_getElem hlt, List.reverse_append]
    simp only [List.reverse_singleton, List.append_assoc]
theorem all_l0 : ∀ (n : Nat) (row out : List Ex), (row.reverse.flatMap walk).length ≤ n → out.length + n ≤ 4194304 → roadref2_All.l0 row out = some (out ++ row.reverse.flatMap walk) := by
  intro n
  induction n using Nat.strongRecOn with
  | _ n ih =>
    intro row out h1 h2
    rw [roadref2_All.l0_eq]
    by_cases h0 : row = []
    · subst h0; rw [if_neg (by simp)]; simp
    · obtain ⟨pre, x, rfl⟩ : ∃ pre x, row = pre ++ [x] := ⟨row.dropLast, row.getLast h0, (List.dropLast_concat_getLast h0).symm⟩
      have hrl : ∀ l : List Ex, l.length ≤ (l.flatMap walk).length := by
        intro l
        rw [len_flatMap]
        rw [← sum_one l]
        exact sum_le2 fun x _ => by rw [walk_eq]; simp
      have hw := hrl (pre ++ [x]).reverse
      have hr2 : (pre ++ [x]).reverse = x :: pre.reverse := by simp
      rw [hr2, List.flatMap_cons, List.length_append, walk_eq x, List.length_cons] at h1
      rw [hr2, List.flatMap_cons, List.length_append, walk_eq x] at hw
      simp only [List.length_cons, List.length_reverse] at hw
      have hpl := parts_len x
      rw [walk_eq x, List.length_cons] at hpl
      have hp : (parts x).length = x.Args.length + x.Arms.length := by unfold parts; simp
      have hlen : (pre ++ [x]).length = pre.length + 1 := by simp
      have hwl : (x :: pre.reverse).length = pre.length + 1 := by simp
      rw [if_pos (by omega), hlen, wrap_in (by omega) (by omega), show ((pre.length + 1 : Nat) : Int) - 1 = (pre.length : Int) by omega, gi_some (k := pre.length) rfl (by simp : (pre ++ [x])[pre.length]? = some x), Option.bind_some, sls_take (k := pre.length) rfl (by simp), Option.bind_some, List.take_left' rfl, ap_one (by omega), Option.bind_some, wrap_in (by omega) (by omega), all_l1 (by omega) _ _ (Nat.le_refl _) (by omega), all_l2 (by omega) _ _ (Nat.le_refl _) (by simp; omega), List.take_of_length_le (Nat.le_refl _), List.take_of_length_le (Nat.le_refl _)]
      have e : (pre ++ (x.Arms.map (·.Body)).reverse ++ x.Args.reverse).reverse = parts x ++ pre.reverse := by simp [parts]
      rw [ih (n - 1) (by omega) _ _ (by rw [e, List.flatMap_append, List.length_append]; omega) (by simp; omega), e, hr2, List.flatMap_cons, walk_eq x]
      simp
theorem all_val (e : Ex) (h : (walk e).length ≤ 4194304) : roadref2_All e = some (walk e) := by
  unfold roadref2_All
  have := all_l0 (walk e).length [e] [] (by simp) (by simpa using h)
  simpa using this
theorem part_bulk {e x : Ex} (h : x ∈ parts e) : x.bulk < e.bulk := by
  rw [T_api_Expr.bulk_eq e]
  unfold parts at h
  rcases List.mem_append.1 h with h | h
  · have := sum_mem (f := T_api_Expr.bulk) h; omega
  · obtain ⟨a, ha, rfl⟩ := List.mem_map.1 h
    have := sum_mem (f := T_api_Arm.bulk) ha
    have h2 : a.Body.bulk ≤ a.bulk := by unfold T_api_Arm.bulk; omega
    omega
theorem walk_mem {e x : Ex} : x ∈ walk e ↔ x = e ∨ ∃ y ∈ parts e, x ∈ walk y := by rw [walk_eq]; simp
theorem mem_bulk (e : Ex) : ∀ x ∈ walk e, x.bulk ≤ e.bulk := by
  induction e using walk_ind with
  | h e ih =>
    intro x hx
    rcases walk_mem.1 hx with rfl | ⟨y, hy, h2⟩
    · exact Nat.le_refl _
    · have := ih y hy x h2
      have := part_bulk hy
      omega
theorem pats_val (p : T_api_Pat) (hp : p.bulk ≤ 1048576) : ∃ l, roadref2_pats p = some l ∧ l.length ≤ 1048576 := by
  have one : ∀ x : T_api_Pat, 1 ≤ x.bulk := fun x => by rw [T_api_Pat.bulk_eq]; omega
  have hlen : ∀ l : List T_api_Pat, l.length ≤ (l.map T_api_Pat.bulk).sum := fun l => by rw [← sum_one l]; exact sum_le2 fun x _ => one x
  have loop : ∀ (n : Nat) (pre r : List T_api_Pat), (r.map T_api_Pat.bulk).sum ≤ n → pre.length + n ≤ 1048576 → ∃ l, roadref2_pats.l0 (pre ++ r) (pre.length : Int) = some l ∧ l.length ≤ 1048576 := by
    intro n
    induction n using Nat.strongRecOn with
    | _ n ih =>
      intro pre r h1 h2
      have hl := hlen r
      rw [roadref2_pats.l0_eq]
      cases r with
      | nil => rw [if_neg (by simp)]; exact ⟨_, rfl, by simp; omega⟩
      | cons x r =>
        have hx := T_api_Pat.bulk_eq x
        have hc := hlen x.Args
        rw [List.map_cons, List.sum_cons] at h1
        have hlr := hlen r
        have e1 : (pre ++ x :: r).length = pre.length + (r.length + 1) := by simp
        rw [if_pos (by omega), gi_some (k := pre.length) rfl (by simp : (pre ++ x :: r)[pre.length]? = some x), Option.bind_some, ap_of (by rw [e1]; omega), Option.bind_some, w_succ (by omega)]
        have := ih (n - 1) (by omega) (pre ++ [x]) (r ++ x.Args) (by rw [List.map_append, List.sum_append]; omega) (by simp; omega)
        simpa using this
  unfold roadref2_pats
  exact loop p.bulk [] [p] (by simp) (by simpa using hp)
theorem size_val (e : Ex) (he : e.bulk ≤ 1048576) : ∃ n, roadref2_SizeOf e = some n := by
  have hw := walk_bulk e
  unfold roadref2_SizeOf
  rw [all_val e (by omega), Option.bind_some]
  have hl : ∀ x ∈ walk e, x.bulk ≤ 1048576 := fun x hx => Nat.le_trans (mem_bulk e x hx) he
  have l1 : ∀ (x : Ex) (k : Nat), x.bulk ≤ 1048576 → (∀ m, ∃ n, roadref2_SizeOf.l0 m (walk e) ((walk e).length : Int) (IntKind.wrap .i64 ((k : Int) + 1)) = some n) → ∀ (r pre : List T_api_Arm) (m : Int), x.Arms = pre ++ r → ∃ n, roadref2_SizeOf.l1 m (walk e) ((walk e).length : Int) (k : Int) x.Arms (x.Arms.length : Int) (pre.length : Int) = some n := by
    intro x k hx hn r
    have hx2 := T_api_Expr.bulk_eq x
    have hal : x.Arms.length ≤ (x.Arms.map T_api_Arm.bulk).sum := by rw [← sum_one x.Arms]; exact sum_le2 fun a _ => by unfold T_api_Arm.bulk; omega
    induction r with
    | nil =>
      intro pre m h
      rw [roadref2_SizeOf.l1_eq, if_neg (by rw [h]; simp)]; exact hn m
    | cons a r ih =>
      intro pre m h
      have hlen : x.Arms.length = pre.length + (r.length + 1) := by rw [h]; simp
      have ha := sum_mem (f := T_api_Arm.bulk) (show a ∈ x.Arms by rw [h]; simp)
      have hap : a.Pat.bulk ≤ a.bulk := by unfold T_api_Arm.bulk; omega
      obtain ⟨l, hl, _⟩ := pats_val a.Pat (by omega)
      rw [roadref2_SizeOf.l1_eq, if_pos (by omega), gi_some (k := pre.length) rfl (by rw [h]; simp : x.Arms[pre.length]? = some a), Option.bind_some, hl, Option.bind_some, w_succ (by omega)]
      have := ih (pre ++ [a]) (IntKind.wrap .i64 (m + (l.length : Int))) (by simpa using h)
      simpa using this
  have l0 : ∀ (d k : Nat) (m : Int), k + d = (walk e).length → ∃ n, roadref2_SizeOf.l0 m (walk e) ((walk e).length : Int) (k : Int) = some n := by
    intro d
    induction d with
    | zero => intro k m hk; rw [roadref2_SizeOf.l0_eq, if_neg (by omega)]; exact ⟨_, rfl⟩
    | succ d ih =>
      intro k m hk
      have hlt : k < (walk e).length := by omega
      rw [roadref2_SizeOf.l0_eq, if_pos (by omega), gi_at hlt, Option.bind_some]
      exact l1 _ k (hl _ (List.getElem_mem hlt)) (fun m => by rw [w_succ (by omega)]; exact ih (k + 1) m (by omega)) _ [] _ rfl
  exact l0 _ 0 _ (Nat.zero_add _)
abbrev Pg := T_api_Program
def fs (p : Pg) : List T_api_Func := p.Impls.flatMap (·.Funcs) ++ p.Funcs
def bs (p : Pg) : List Ex := (fs p).map (·.Body) ++ p.Actors.map (·.Body)
theorem bs_bulk (p : Pg) : ((bs p).map T_api_Expr.bulk).sum ≤ p.bulk := by
  have h1 : ((bs p).map T_api_Expr.bulk).sum = (p.Impls.map fun m => (m.Funcs.map fun f => f.Body.bulk).sum).sum + (p.Funcs.map fun f => f.Body.bulk).sum + (p.Actors.map fun a => a.Body.bulk).sum := by
    unfold bs fs
    simp only [List.map_append, List.sum_append, List.map_map, List.map_flatMap]
    congr 1
    congr 1
    generalize p.Impls = l
    induction l with
    | nil => rfl
    | cons m l ih => rw [List.flatMap_cons, List.sum_append, ih, List.map_cons, List.sum_cons]; rfl
  have h2 : (p.Funcs.map fun f => f.Body.bulk).sum ≤ (p.Funcs.map T_api_Func.bulk).sum := sum_le2 fun f _ => by unfold T_api_Func.bulk; omega
  have h3 : (p.Actors.map fun f => f.Body.bulk).sum ≤ (p.Actors.map T_api_Actor.bulk).sum := sum_le2 fun f _ => by unfold T_api_Actor.bulk; omega
  have h4 : (p.Impls.map fun m => (m.Funcs.map fun f => f.Body.bulk).sum).sum ≤ (p.Impls.map T_api_Impl.bulk).sum := sum_le2 fun m _ => by
    have : (m.Funcs.map fun f => f.Body.bulk).sum ≤ (m.Funcs.map T_api_Func.bulk).sum := sum_le2 fun f _ => by unfold T_api_Func.bulk; omega
    unfold T_api_Impl.bulk; omega
  rw [h1]; unfold T_api_Program.bulk; omega
theorem one_bulk (e : Ex) : 1 ≤ e.bulk := by rw [T_api_Expr.bulk_eq]; omega
theorem bs_len (p : Pg) : (bs p).length ≤ p.bulk := by
  have := bs_bulk p
  have h2 : (bs p).length ≤ ((bs p).map T_api_Expr.bulk).sum := by rw [← sum_one (bs p)]; exact sum_le2 fun x _ => one_bulk x
  omega
theorem fs_len (p : Pg) : (fs p).length ≤ p.bulk := by
  have := bs_len p
  unfold bs at this
  simp at this; omega
theorem impls_len (p : Pg) : p.Impls.length ≤ p.bulk := by
  have : p.Impls.length ≤ (p.Impls.map T_api_Impl.bulk).sum := by rw [← sum_one p.Impls]; exact sum_le2 fun x _ => by unfold T_api_Impl.bulk; omega
  unfold T_api_Program.bulk; omega
theorem actors_len (p : Pg) : p.Actors.length ≤ p.bulk := by
  have : p.Actors.length ≤ (p.Actors.map T_api_Actor.bulk).sum := by rw [← sum_one p.Actors]; exact sum_le2 fun x _ => by unfold T_api_Actor.bulk; omega
  unfold T_api_Program.bulk; omega
theorem bs_mem {p : Pg} {e : Ex} (h : e ∈ bs p) : e.bulk ≤ p.bulk := Nat.le_trans (sum_mem (f := T_api_Expr.bulk) h) (bs_bulk p)
section
variable {p : Pg} (hb : p.bulk ≤ 1048576)
include hb
theorem funs_val : roadref2_FunsOf p = some (fs p) := by
  have hl := fs_len p
  have hi := impls_len p
  have h1 : (fs p).length = (p.Impls.flatMap (·.Funcs)).length + p.Funcs.length := by unfold fs; simp
  unfold roadref2_FunsOf
  refine (app_loop (l := p.Impls) (F := fun s i => roadref2_FunsOf.l0 p s p.Impls (p.Impls.length : Int) i) (T := fun m => m.Funcs) (B := 2000000) (fun s i hi h => by
    rw [roadref2_FunsOf.l0_eq, if_pos (by omega), gi_at hi, Option.bind_some, ap_of (by omega), Option.bind_some, w_succ (by omega)]) [] (by rw [List.length_flatMap] at h1; simp only [List.length_nil]; omega)).trans ?_
  rw [roadref2_FunsOf.l0_eq, if_neg (by omega), List.nil_append, ap_of (by omega), Option.bind_some]
  rfl
theorem bodies_val : roadref2_BodiesOf p = some (bs p) := by
  have hl := fs_len p
  have ha := actors_len p
  unfold roadref2_BodiesOf
  rw [funs_val hb, Option.bind_some]
  refine (map_loop (l := fs p) (F := fun s i => roadref2_BodiesOf.l0 p s (fs p) ((fs p).length : Int) i) (f := fun f => f.Body) (B := 2000000) (fun s i hi h => by
    rw [roadref2_BodiesOf.l0_eq, if_pos (by omega), gi_at hi, Option.bind_some, ap_one (by omega), Option.bind_some, w_succ (by omega)]) (by omega)).trans ?_
  rw [roadref2_BodiesOf.l0_eq, if_neg (by omega)]
  refine (app_loop (l := p.Actors) (F := fun s i => roadref2_BodiesOf.l1 s p.Actors (p.Actors.length : Int) i) (T := fun a => [a.Body]) (B := 4000000) (fun s i hi h => by
    simp only [List.length_cons, List.length_nil] at h
    rw [roadref2_BodiesOf.l1_eq, if_pos (by omega), gi_at hi, Option.bind_some, ap_one (by omega), Option.bind_some, w_succ (by omega)]) _ (by rw [one_len, List.length_map]; omega)).trans ?_
  rw [roadref2_BodiesOf.l1_eq, if_neg (by omega), flat_one]
  rfl
theorem small_val : ∃ b, roadlaw2_small p = some b := by
  unfold roadlaw2_small
  have hl := bs_len p
  rw [bodies_val hb, Option.bind_some]
  have loop : ∀ (d k : Nat) (m : Int), k + d = (bs p).length → ∃ b, roadlaw2_small.l0 m (bs p) ((bs p).length : Int) (k : Int) = some b := by
    intro d
    induction d with
    | zero => intro k m hk; rw [roadlaw2_small.l0_eq, if_neg (by omega)]; exact ⟨_, rfl⟩
    | succ d ih =>
      intro k m hk
      have hlt : k < (bs p).length := by omega
      obtain ⟨n, hn⟩ := size_val ((bs p)[k]) (Nat.le_trans (bs_mem (List.getElem_mem hlt)) hb)
      rw [roadlaw2_small.l0_eq, if_pos (by omega), gi_at hlt, Option.bind_some, hn, Option.bind_some, w_succ (by omega)]
      exact ih (k + 1) _ (by omega)
  exact loop _ 0 _ (Nat.zero_add _)
end
abbrev Pt := T_api_Pat
noncomputable def nms (p : Pt) : List ByteArray := (tree_Bound p).getD []
theorem pargs_len (p : Pt) : p.Args.length + 1 ≤ p.bulk := by
  have h : p.Args.length ≤ (p.Args.map T_api_Pat.bulk).sum := len_le_sum fun x _ => pbulk_pos x
  have := pbulk p; omega
theorem parg_bulk {p x : Pt} (h : x ∈ p.Args) : x.bulk < p.bulk := by
  have := le_sum (f := T_api_Pat.bulk) h
  have := pbulk p; omega
theorem nms_all : ∀ (n : Nat) (p : Pt), p.bulk ≤ n → n ≤ 2000000 → tree_Bound p = some (nms p) ∧ roadref2_NamesOf p = some (nms p) ∧ (nms p).length ≤ p.bulk := by
  intro n
  induction n with
  | zero => intro p h; have := pbulk_pos p; omega
  | succ n ih =>
    intro p hp hn
    have hb := pbulk p
    have hl := pargs_len p
    have c : ∀ x ∈ p.Args, tree_Bound x = some (nms x) ∧ roadref2_NamesOf x = some (nms x) ∧ (nms x).length ≤ x.bulk := fun x hx => by
      have h0 := parg_bulk hx
      exact ih x (by omega) (by omega)
    have hs : (p.Args.map fun x => (nms x).length).sum ≤ (p.Args.map T_api_Pat.bulk).sum := sum_le fun x hx => (c x hx).2.2
    have e : ∃ l, tree_Bound p = some l ∧ roadref2_NamesOf p = some l ∧ l.length ≤ p.bulk := by
      rw [tree_Bound_eq, roadref2_NamesOf_eq]
      by_cases c1 : p.Kind = 2
      · rw [if_pos c1, if_pos c1]; exact ⟨_, rfl, rfl, by simp; omega⟩
      · rw [if_neg c1, if_neg c1]
        by_cases c2 : p.Kind = 6
        · rw [if_pos c2, if_pos c2]
          refine ⟨p.Args.flatMap nms, ?_, ?_, by rw [List.length_flatMap]; omega⟩
          · refine (app_loop (l := p.Args) (F := fun s i => tree_Bound.l0 s p.Args (p.Args.length : Int) i) (T := nms) (B := 2000000) (fun s i hi h => by
              rw [tree_Bound.l0_eq, if_pos (by omega), gi_at hi, Option.bind_some, (c _ (List.getElem_mem hi)).1, Option.bind_some, ap_of (by omega), Option.bind_some, w_succ (by omega)]) [] (by rw [List.length_nil, Nat.zero_add]; exact Nat.le_trans hs (by omega))).trans ?_
            rw [tree_Bound.l0_eq, if_neg (by omega)]; rfl
          · refine (app_loop (l := p.Args) (F := fun s i => roadref2_NamesOf.l0 s p.Args (p.Args.length : Int) i) (T := nms) (B := 2000000) (fun s i hi h => by
              rw [roadref2_NamesOf.l0_eq, if_pos (by omega), gi_at hi, Option.bind_some, (c _ (List.getElem_mem hi)).2.1, Option.bind_some, ap_of (by omega), Option.bind_some, w_succ (by omega)]) [] (by rw [List.length_nil, Nat.zero_add]; exact Nat.le_trans hs (by omega))).trans ?_
            rw [roadref2_NamesOf.l0_eq, if_neg (by omega)]; rfl
        · rw [if_neg c2, if_neg c2]; exact ⟨_, rfl, rfl, by simp⟩
    obtain ⟨l, h1, h2, h3⟩ := e
    have e2 : nms p = l := by unfold nms; rw [h1]; rfl
    exact ⟨by rw [h1, e2], by rw [h2, e2], by rw [e2]; exact h3⟩
theorem eparts_len (e : Ex) : e.Args.length + e.Arms.length + 1 ≤ e.bulk := by
  have h1 : e.Args.length ≤ (e.Args.map T_api_Expr.bulk).sum := len_le_sum fun x _ => ebulk_pos x
  have h2 : e.Arms.length ≤ (e.Arms.map T_api_Arm.bulk).sum := len_le_sum fun x _ => abulk_pos x
  have := ebulk e; omega
theorem earg_bulk {e x : Ex} (h : x ∈ e.Args) : x.bulk < e.bulk := by
  have := le_sum (f := T_api_Expr.bulk) h
  have := ebulk e; omega
theorem earm_bulk {e : Ex} {a : T_api_Arm} (h : a ∈ e.Arms) : a.Body.bulk + a.Pat.bulk < e.bulk := by
  have := le_sum (f := T_api_Arm.bulk) h
  have := ebulk e; have := abulk a; omega
theorem names_len (e : Ex) : e.Names.length + (e.Args.map T_api_Expr.bulk).sum + 9 ≤ e.bulk := by
  have h1 : e.Names.length ≤ (e.Names.map fun s => s.size + 1).sum := len_le_sum fun x _ => by omega
  have := ebulk e; omega
instance memBA (n : ByteArray) (l : List ByteArray) : Decidable (n ∈ l) := @List.instDecidableMemOfLawfulBEq ByteArray instBEqOfDecidableEq inferInstance n l
instance nodBA (l : List ByteArray) : Decidable l.Nodup := @List.nodupDecidable ByteArray inferInstance l
theorem has_val {l : List ByteArray} (s : ByteArray) (hl : l.length ≤ 4000000) : slices_Contains_68 l s = some (decide (s ∈ l)) := by
  rw [slices_Contains_68.val s (by omega)]
  congr 1
  by_cases h : s ∈ l
  · rw [decide_eq_true h, List.any_eq_true]
    exact ⟨s, h, decide_eq_true rfl⟩
  · rw [decide_eq_false h, List.any_eq_false]
    intro x hx e
    exact h (by rw [of_decide_eq_true e]; exact hx)
def ch (y : ByteArray) : List ByteArray → Prop
  | [] => True
  | x :: l => x ≠ y ∧ ch x l
theorem dq_le : ∀ (l : List ByteArray) (y : ByteArray), (slices_Compact_153.dq y l).length ≤ l.length
  | [], y => Nat.le_refl _
  | x :: l, y => by
    rw [slices_Compact_153.dq]
    split
    · have := dq_le l y; rw [List.length_cons]; omega
    · have := dq_le l x; rw [List.length_cons, List.length_cons]; omega
theorem dq_eq : ∀ (l : List ByteArray) (y : ByteArray), (slices_Compact_153.dq y l).length = l.length ↔ ch y l
  | [], y => ⟨fun _ => trivial, fun _ => rfl⟩
  | x :: l, y => by
    rw [slices_Compact_153.dq, ch]
    by_cases h : x = y
    · rw [if_pos h]
      have := dq_le l y
      exact ⟨fun e => by rw [List.length_cons] at e; omega, fun e => absurd h e.1⟩
    · rw [if_neg h, List.length_cons, List.length_cons]
      have := dq_eq l x
      exact ⟨fun e => ⟨h, this.1 (by omega)⟩, fun e => by rw [this.2 e.2]⟩
theorem ch_nodup : ∀ (l : List ByteArray) (y : ByteArray), (y :: l).Pairwise (· ≤ ·) → ch y l → (y :: l).Nodup
  | [], y, _, _ => by simp
  | x :: l, y, hp, hc => by
    rw [List.pairwise_cons] at hp
    have ih := ch_nodup l x hp.2 hc.2
    rw [List.nodup_cons]
    refine ⟨fun hm => ?_, ih⟩
    rcases List.mem_cons.1 hm with h | h
    · exact hc.1 h.symm
    · have h1 := (List.pairwise_cons.1 hp.2).1 y h
      have h2 := hp.1 x (List.mem_cons_self ..)
      exact hc.1 (ba_anti x y h1 h2)
theorem nodup_ch : ∀ (l : List ByteArray) (y : ByteArray), (y :: l).Nodup → ch y l
  | [], y, _ => trivial
  | x :: l, y, h => by
    rw [List.nodup_cons] at h
    exact ⟨fun e => h.1 (by rw [← e]; exact List.mem_cons_self ..), nodup_ch l x h.2⟩
theorem doubled_val {l : List ByteArray} (hl : l.length ≤ 2000000) : roadref2_doubled l = some (decide ¬ l.Nodup) := by
  unfold roadref2_doubled
  obtain ⟨r, r1, r2, r3⟩ := slices_Sort_152.val l (by omega)
  have hr := r2.length_eq
  rw [slices_Clone_115.val l (by omega), Option.bind_some, r1, Option.bind_some]
  unfold slices_Compact_153
  rw [if_pos (by omega), Option.bind_some]
  congr 1
  rw [decide_eq_decide, ← r2.nodup_iff]
  cases r with
  | nil =>
    have : l.length = 0 := by rw [← hr]; rfl
    rw [this]
    simp [slices_Compact_153.dd]
  | cons y r =>
    have h1 := dq_le r y
    have h2 := dq_eq r y
    rw [List.length_cons] at hr
    have h3 : (slices_Compact_153.dd (y :: r)).length = (slices_Compact_153.dq y r).length + 1 := rfl
    rw [h3]
    constructor
    · intro h4 h5
      have := h2.2 (nodup_ch r y h5)
      omega
    · intro h4
      have : ¬ (slices_Compact_153.dq y r).length = r.length := fun e => h4 (ch_nodup r y r3 (h2.1 e))
      omega
theorem take_nod {l : List ByteArray} {i : Nat} (hi : i < l.length) : (l.take (i + 1)).Nodup ↔ (l.take i).Nodup ∧ l[i] ∉ l.take i := by
  rw [List.take_succ_eq_append_getElem hi, List.nodup_append]
  constructor
  · rintro ⟨h1, h2, h3⟩
    exact ⟨h1, fun h => h3 _ h _ (List.mem_singleton_self _) rfl⟩
  · rintro ⟨h1, h2⟩
    refine ⟨h1, by simp, fun a ha b hb e => ?_⟩
    rw [List.mem_singleton] at hb
    subst hb; subst e
    exact h2 ha
theorem twice_val {l : List ByteArray} (hl : l.length ≤ 2000000) : scope_Twice l = some (decide ¬ l.Nodup) := by
  have key : ∀ (d i : Nat), l.length - i = d → i ≤ l.length → (l.take i).Nodup → scope_Twice.l0 l l (l.length : Int) (i : Int) = some (decide ¬ l.Nodup) := by
    intro d
    induction d with
    | zero =>
      intro i hd hi hn
      obtain rfl : i = l.length := by omega
      rw [List.take_length] at hn
      rw [scope_Twice.l0_eq, if_neg (by omega), decide_eq_false (fun h => h hn)]
    | succ d ih =>
      intro i hd hi hn
      have hlt : i < l.length := by omega
      rw [scope_Twice.l0_eq, if_pos (by omega), gi_at hlt, Option.bind_some, sls_take rfl hi, Option.bind_some, has_val _ (by rw [List.length_take]; omega), Option.bind_some]
      by_cases c : l[i] ∈ l.take i
      · rw [if_pos (decide_eq_true c), decide_eq_true]
        intro h
        have : (l.take (i + 1)).Nodup := h.sublist (List.take_sublist ..)
        exact ((take_nod hlt).1 this).2 c
      · rw [if_neg (by rw [decide_eq_true_eq]; exact c), w_succ (by omega)]
        exact ih (i + 1) (by omega) (by omega) ((take_nod hlt).2 ⟨hn, c⟩)
  unfold scope_Twice
  exact key l.length 0 (by omega) (by omega) (by simp)
def mks (p : Pg) : List ByteArray := p.Datas.flatMap fun d => d.Makes.map (·.Name)
def cls (p : Pg) : List ByteArray := (p.Traits.flatMap fun t => t.Funcs.map (·.Name)) ++ p.Funcs.map (·.Name)
def acs (p : Pg) : List ByteArray := p.Actors.map (·.Name)
theorem parts_bulk (p : Pg) : p.bulk = p.Name.size + (p.Uses.map T_api_Use.bulk).sum + (p.Datas.map T_api_Data.bulk).sum + (p.Traits.map T_api_Trait.bulk).sum + (p.Impls.map T_api_Impl.bulk).sum + (p.Funcs.map T_api_Func.bulk).sum + (p.Actors.map T_api_Actor.bulk).sum + 9 := by unfold T_api_Program.bulk; omega
theorem use_pos (x : T_api_Use) : 1 ≤ x.bulk := by unfold T_api_Use.bulk; omega
theorem func_bulk (f : T_api_Func) : f.Params.length + f.Names.length + f.Body.bulk + 1 ≤ f.bulk := by
  have h1 : f.Params.length ≤ (f.Params.map fun s => s.size + 1).sum := len_le_sum fun x _ => by omega
  have h2 : f.Names.length ≤ (f.Names.map fun s => s.size + 1).sum := len_le_sum fun x _ => by omega
  unfold T_api_Func.bulk; omega
theorem func_pos (f : T_api_Func) : 1 ≤ f.bulk := by have := func_bulk f; omega
theorem data_bulk (d : T_api_Data) : d.Params.length + d.Makes.length + 1 ≤ d.bulk := by
  have h1 : d.Params.length ≤ (d.Params.map fun s => s.size + 1).sum := len_le_sum fun x _ => by omega
  have h2 : d.Makes.length ≤ (d.Makes.map T_api_Make.bulk).sum := len_le_sum fun x _ => by unfold T_api_Make.bulk; omega
  unfold T_api_Data.bulk; omega
theorem trait_bulk (t : T_api_Trait) : (t.Funcs.map T_api_Func.bulk).sum + 1 ≤ t.bulk := by unfold T_api_Trait.bulk; omega
theorem impl_bulk (t : T_api_Impl) : (t.Funcs.map T_api_Func.bulk).sum + 1 ≤ t.bulk := by unfold T_api_Impl.bulk; omega
theorem actor_bulk (a : T_api_Actor) : a.Names.length + a.Body.bulk + 1 ≤ a.bulk := by
  have h2 : a.Names.length ≤ (a.Names.map fun s => s.size + 1).sum := len_le_sum fun x _ => by omega
  unfold T_api_Actor.bulk; omega
section
variable {p : Pg} (hb : p.bulk ≤ 1048576)
include hb
theorem lens : p.Uses.length ≤ 1048576 ∧ (p.Datas.length + (p.Datas.map fun d => d.Makes.length).sum ≤ 1048576) ∧ (p.Traits.length + (p.Traits.map fun t => t.Funcs.length).sum + p.Funcs.length ≤ 1048576) ∧ p.Impls.length ≤ 1048576 ∧ p.Actors.length ≤ 1048576 := by
  have h := parts_bulk p
  have u1 : p.Uses.length ≤ (p.Uses.map T_api_Use.bulk).sum := len_le_sum fun x _ => use_pos x
  have u3 : (p.Datas.map fun d => 1 + d.Makes.length).sum ≤ (p.Datas.map T_api_Data.bulk).sum := sum_le fun x _ => by have := data_bulk x; omega
  have u4 : (p.Traits.map fun t => 1 + t.Funcs.length).sum ≤ (p.Traits.map T_api_Trait.bulk).sum := sum_le fun x _ => by
    have := trait_bulk x
    have : x.Funcs.length ≤ (x.Funcs.map T_api_Func.bulk).sum := len_le_sum fun y _ => func_pos y
    omega
  have u5 : p.Impls.length ≤ (p.Impls.map T_api_Impl.bulk).sum := len_le_sum fun x _ => by have := impl_bulk x; omega
  have u6 : p.Funcs.length ≤ (p.Funcs.map T_api_Func.bulk).sum := len_le_sum fun x _ => func_pos x
  have u7 : p.Actors.length ≤ (p.Actors.map T_api_Actor.bulk).sum := len_le_sum fun x _ => by have := actor_bulk x; omega
  have add1 : ∀ {α : Type} (f : α → Nat) (l : List α), (l.map fun x => 1 + f x).sum = l.length + (l.map f).sum := fun f l => by
    induction l with
    | nil => rfl
    | cons a l ih => rw [List.map_cons, List.sum_cons, ih, List.map_cons, List.sum_cons, List.length_cons]; omega
  rw [add1] at u3 u4
  omega
theorem mks_len : (mks p).length ≤ 1048576 := by
  have := (lens hb).2.1
  unfold mks
  rw [List.length_flatMap]
  simp only [List.length_map]
  omega
theorem cls_len : (cls p).length ≤ 1048576 := by
  have := (lens hb).2.2.1
  unfold cls
  rw [List.length_append, List.length_flatMap, List.length_map]
  simp only [List.length_map]
  omega
theorem acs_len : (acs p).length ≤ 1048576 := by
  have := (lens hb).2.2.2.2
  unfold acs
  rw [List.length_map]; omega
theorem makers_val : scope_Makers p = some (mks p) ∧ roadref2_makersOf p = some (mks p) := by
  have h := (lens hb).2.1
  have hs : (p.Datas.map fun d => (d.Makes.map (·.Name)).length).sum ≤ 1048576 := by simp only [List.length_map]; omega
  have hm : ∀ d ∈ p.Datas, d.Makes.length ≤ 1048576 := fun d hd => by have := le_sum (f := fun d : T_api_Data => d.Makes.length) hd; omega
  constructor
  · unfold scope_Makers
    refine (app_loop (l := p.Datas) (F := fun s i => scope_Makers.l0 s p.Datas (p.Datas.length : Int) i) (T := fun d => d.Makes.map (·.Name)) (B := 2000000) (fun s i hi h' => by
      rw [List.length_map] at h'
      have hm' := hm _ (List.getElem_mem hi)
      rw [scope_Makers.l0_eq, if_pos (by omega), gi_at hi, Option.bind_some]
      refine (app_loop (l := p.Datas[i].Makes) (F := fun s j => scope_Makers.l1 s p.Datas (p.Datas.length : Int) (i : Int) p.Datas[i].Makes (p.Datas[i].Makes.length : Int) j) (T := fun m => [m.Name]) (B := 2000000) (fun s j hj h2 => by
        simp only [List.length_cons, List.length_nil] at h2
        rw [scope_Makers.l1_eq, if_pos (by omega), gi_at hj, Option.bind_some, ap_one (by omega), Option.bind_some, w_succ (by omega)]) s (by rw [one_len]; omega)).trans ?_
      rw [scope_Makers.l1_eq, if_neg (by omega), w_succ (by omega), flat_one]) [] (by rw [List.length_nil, Nat.zero_add]; exact Nat.le_trans hs (by omega))).trans ?_
    rw [scope_Makers.l0_eq, if_neg (by omega)]
    rfl
  · unfold roadref2_makersOf
    refine (app_loop (l := p.Datas) (F := fun s i => roadref2_makersOf.l0 s p.Datas (p.Datas.length : Int) i) (T := fun d => d.Makes.map (·.Name)) (B := 2000000) (fun s i hi h' => by
      rw [List.length_map] at h'
      have hm' := hm _ (List.getElem_mem hi)
      rw [roadref2_makersOf.l0_eq, if_pos (by omega), gi_at hi, Option.bind_some]
      refine (app_loop (l := p.Datas[i].Makes) (F := fun s j => roadref2_makersOf.l1 s p.Datas (p.Datas.length : Int) (i : Int) p.Datas[i].Makes (p.Datas[i].Makes.length : Int) j) (T := fun m => [m.Name]) (B := 2000000) (fun s j hj h2 => by
        simp only [List.length_cons, List.length_nil] at h2
        rw [roadref2_makersOf.l1_eq, if_pos (by omega), gi_at hj, Option.bind_some, ap_one (by omega), Option.bind_some, w_succ (by omega)]) s (by rw [one_len]; omega)).trans ?_
      rw [roadref2_makersOf.l1_eq, if_neg (by omega), w_succ (by omega), flat_one]) [] (by rw [List.length_nil, Nat.zero_add]; exact Nat.le_trans hs (by omega))).trans ?_
    rw [roadref2_makersOf.l0_eq, if_neg (by omega)]
    rfl
omit hb in
theorem names_val (l : List T_api_Func) (hl : l.length ≤ 2000000) : scope_names l = some (l.map (·.Name)) := by
  unfold scope_names
  refine (map_loop (l := l) (F := fun s i => scope_names.l0 s l (l.length : Int) i) (f := fun f => f.Name) (B := 2000000) (fun s i hi h => by
    rw [scope_names.l0_eq, if_pos (by omega), gi_at hi, Option.bind_some, ap_one (by omega), Option.bind_some, w_succ (by omega)]) hl).trans ?_
  rw [scope_names.l0_eq, if_neg (by omega)]
theorem calls_val : scope_Callable p = some (cls p) ∧ roadref2_callsOf p = some (cls p) := by
  have h := (lens hb).2.2.1
  have hs : (p.Traits.map fun d => (d.Funcs.map (·.Name)).length).sum ≤ 1048576 := by simp only [List.length_map]; omega
  have hm : ∀ d ∈ p.Traits, d.Funcs.length ≤ 1048576 := fun d hd => by have := le_sum (f := fun d : T_api_Trait => d.Funcs.length) hd; omega
  have hf : (p.Traits.flatMap fun t => t.Funcs.map (·.Name)).length ≤ 1048576 := by rw [List.length_flatMap]; exact hs
  constructor
  · unfold scope_Callable
    refine (app_loop (l := p.Traits) (F := fun s i => scope_Callable.l0 p s p.Traits (p.Traits.length : Int) i) (T := fun d => d.Funcs.map (·.Name)) (B := 2000000) (fun s i hi h' => by
      have hm' := hm _ (List.getElem_mem hi)
      rw [scope_Callable.l0_eq, if_pos (by omega), gi_at hi, Option.bind_some, names_val _ (by omega), Option.bind_some, ap_of (by omega), Option.bind_some, w_succ (by omega)]) [] (by rw [List.length_nil, Nat.zero_add]; exact Nat.le_trans hs (by omega))).trans ?_
    rw [scope_Callable.l0_eq, if_neg (by omega), names_val _ (by omega), Option.bind_some, List.nil_append, ap_of (by rw [List.length_map]; omega), Option.bind_some]
    rfl
  · unfold roadref2_callsOf
    refine (app_loop (l := p.Traits) (F := fun s i => roadref2_callsOf.l0 p s p.Traits (p.Traits.length : Int) i) (T := fun d => d.Funcs.map (·.Name)) (B := 2000000) (fun s i hi h' => by
      rw [List.length_map] at h'
      have hm' := hm _ (List.getElem_mem hi)
      rw [roadref2_callsOf.l0_eq, if_pos (by omega), gi_at hi, Option.bind_some]
      refine (app_loop (l := p.Traits[i].Funcs) (F := fun s j => roadref2_callsOf.l2 p s p.Traits (p.Traits.length : Int) (i : Int) p.Traits[i].Funcs (p.Traits[i].Funcs.length : Int) j) (T := fun m => [m.Name]) (B := 2000000) (fun s j hj h2 => by
        simp only [List.length_cons, List.length_nil] at h2
        rw [roadref2_callsOf.l2_eq, if_pos (by omega), gi_at hj, Option.bind_some, ap_one (by omega), Option.bind_some, w_succ (by omega)]) s (by rw [one_len]; omega)).trans ?_
      rw [roadref2_callsOf.l2_eq, if_neg (by omega), w_succ (by omega), flat_one]) [] (by rw [List.length_nil, Nat.zero_add]; exact Nat.le_trans hs (by omega))).trans ?_
    rw [roadref2_callsOf.l0_eq, if_neg (by omega)]
    refine (app_loop (l := p.Funcs) (F := fun s j => roadref2_callsOf.l1 s p.Funcs (p.Funcs.length : Int) j) (T := fun m => [m.Name]) (B := 4000000) (fun s j hj h2 => by
      simp only [List.length_cons, List.length_nil] at h2
      rw [roadref2_callsOf.l1_eq, if_pos (by omega), gi_at hj, Option.bind_some, ap_one (by omega), Option.bind_some, w_succ (by omega)]) _ (by rw [one_len, List.nil_append]; omega)).trans ?_
    rw [roadref2_callsOf.l1_eq, if_neg (by omega), flat_one]
    rfl
theorem actors_val : scope_Actors p = some (acs p) ∧ roadref2_actorsOf p = some (acs p) := by
  have h := (lens hb).2.2.2.2
  constructor
  · unfold scope_Actors
    refine (map_loop (l := p.Actors) (F := fun s i => scope_Actors.l0 s p.Actors (p.Actors.length : Int) i) (f := fun f => f.Name) (B := 2000000) (fun s i hi h => by
      rw [scope_Actors.l0_eq, if_pos (by omega), gi_at hi, Option.bind_some, ap_one (by omega), Option.bind_some, w_succ (by omega)]) (by omega)).trans ?_
    rw [scope_Actors.l0_eq, if_neg (by omega)]
    rfl
  · unfold roadref2_actorsOf
    refine (map_loop (l := p.Actors) (F := fun s i => roadref2_actorsOf.l0 s p.Actors (p.Actors.length : Int) i) (f := fun f => f.Name) (B := 2000000) (fun s i hi h => by
      rw [roadref2_actorsOf.l0_eq, if_pos (by omega), gi_at hi, Option.bind_some, ap_one (by omega), Option.bind_some, w_succ (by omega)]) (by omega)).trans ?_
    rw [roadref2_actorsOf.l0_eq, if_neg (by omega)]
    rfl
end
def md (f : Pt → Bool) (p : Pt) : Bool := f p && (p.Args.attach.all fun x => md f x.1)
termination_by SizeOf.sizeOf p
decreasing_by
  have h := x.2
  have h1 := List.sizeOf_lt_of_mem h
  have h2 : SizeOf.sizeOf p = 1 + SizeOf.sizeOf p.Kind + SizeOf.sizeOf p.Num + SizeOf.sizeOf p.Text + SizeOf.sizeOf p.Args := by cases p; simp
  omega
theorem md_eq (f : Pt → Bool) (p : Pt) : md f p = (f p && p.Args.all (md f)) := by
  rw [md]
  congr 1
  rw [Bool.eq_iff_iff, List.all_eq_true, List.all_eq_true]
  exact ⟨fun h x hx => h ⟨x, hx⟩ (List.mem_attach ..), fun h x _ => h x.1 x.2⟩
def okp (p : Pg) (q : Pt) : Bool := if q.Kind = 6 then decide (q.Text ∈ mks p) else true
theorem pats_all (q : Pt) (hp : q.bulk ≤ 1048576) : ∃ l, roadref2_pats q = some l ∧ l.length ≤ 1048576 ∧ ∀ f : Pt → Bool, l.all f = md f q := by
  have loop : ∀ (n : Nat) (pre r : List Pt), (r.map T_api_Pat.bulk).sum ≤ n → pre.length + n ≤ 1048576 → ∃ l, roadref2_pats.l0 (pre ++ r) (pre.length : Int) = some l ∧ l.length ≤ 1048576 ∧ ∀ f : Pt → Bool, l.all f = (pre.all f && r.all (md f)) := by
    intro n
    induction n using Nat.strongRecOn with
    | _ n ih =>
      intro pre r h1 h2
      have hl : r.length ≤ (r.map T_api_Pat.bulk).sum := len_le_sum fun x _ => pbulk_pos x
      rw [roadref2_pats.l0_eq]
      cases r with
      | nil => rw [if_neg (by simp)]; exact ⟨_, rfl, by simp; omega, fun f => by simp⟩
      | cons x r =>
        have hx := pbulk x
        have hc := pargs_len x
        rw [List.map_cons, List.sum_cons] at h1
        have hlr : r.length ≤ (r.map T_api_Pat.bulk).sum := len_le_sum fun x _ => pbulk_pos x
        have e1 : (pre ++ x :: r).length = pre.length + (r.length + 1) := by simp
        rw [if_pos (by omega), gi_some (k := pre.length) rfl (by simp : (pre ++ x :: r)[pre.length]? = some x), Option.bind_some, ap_of (by rw [e1]; omega), Option.bind_some, w_succ (by omega)]
        obtain ⟨l, k1, k2, k3⟩ := ih (n - 1) (by omega) (pre ++ [x]) (r ++ x.Args) (by rw [List.map_append, List.sum_append]; omega) (by simp; omega)
        refine ⟨l, by simpa using k1, k2, fun f => ?_⟩
        rw [k3, List.all_append, List.all_append, List.all_cons, List.all_cons, List.all_nil, md_eq f x, Bool.and_true]
        cases pre.all f <;> cases f x <;> cases r.all (md f) <;> cases x.Args.all (md f) <;> rfl
  unfold roadref2_pats
  obtain ⟨l, h1, h2, h3⟩ := loop q.bulk [] [q] (by simp) (by simpa using hp)
  exact ⟨l, h1, h2, fun f => by rw [h3]; simp⟩
theorem made_val {p : Pg} (hb : p.bulk ≤ 1048576) : ∀ (n : Nat) (q : Pt), q.bulk ≤ n → n ≤ 1048576 → scope_made p q = some (md (okp p) q) := by
  intro n
  induction n with
  | zero => intro q h; have := pbulk_pos q; omega
  | succ n ih =>
    intro q hq hn
    have hl := pargs_len q
    have hm := mks_len hb
    have key : ∀ (d i : Nat), q.Args.length - i = d → i ≤ q.Args.length → ∃ k : Int, slices_IndexFunc_186_s2.l0 q.Args p (q.Args.length : Int) (i : Int) = some k ∧ (k ≥ 0 ↔ ¬ (q.Args.drop i).all (md (okp p)) = true) := by
      intro d
      induction d with
      | zero =>
        intro i hd hi
        obtain rfl : i = q.Args.length := by omega
        rw [slices_IndexFunc_186_s2.l0_eq, if_neg (by omega), List.drop_length]
        exact ⟨_, rfl, by simp⟩
      | succ d ihd =>
        intro i hd hi
        have hlt : i < q.Args.length := by omega
        have h0 := parg_bulk (List.getElem_mem hlt)
        rw [slices_IndexFunc_186_s2.l0_eq, if_pos (by omega), gi_at hlt, Option.bind_some, scope_made_1_eq, ih _ (by omega) (by omega), Option.bind_some, Option.bind_some, List.drop_eq_getElem_cons hlt, w_succ (by omega), List.all_cons]
        by_cases c : md (okp p) q.Args[i] = true
        · rw [c, if_neg (by decide)]
          obtain ⟨k, k1, k2⟩ := ihd (i + 1) (by omega) (by omega)
          exact ⟨k, k1, by rw [k2, Bool.true_and]⟩
        · have c' : md (okp p) q.Args[i] = false := by simpa using c
          rw [c', if_pos (by decide)]
          exact ⟨_, rfl, ⟨fun _ => by simp, fun _ => by omega⟩⟩
    have j0 : scope_made.j0 p q = some (q.Args.all (md (okp p))) := by
      obtain ⟨k, k1, k2⟩ := key q.Args.length 0 (by omega) (by omega)
      rw [scope_made.j0_eq, slices_ContainsFunc_156_s1_eq, slices_IndexFunc_186_s2_eq]
      rw [show slices_IndexFunc_186_s2.l0 q.Args p (q.Args.length : Int) 0 = some k from k1, Option.bind_some, Option.bind_some]
      rw [List.drop_zero] at k2
      congr 1
      by_cases c : q.Args.all (md (okp p)) = true
      · rw [c, decide_eq_false (fun h => k2.1 h c)]; rfl
      · rw [decide_eq_true (k2.2 c)]
        have c' : q.Args.all (md (okp p)) = false := by simpa using c
        rw [c']; rfl
    rw [scope_made_eq, md_eq]
    unfold okp
    by_cases c : q.Kind = 6
    · rw [if_pos c, if_pos c, (makers_val hb).1, Option.bind_some, has_val _ (by omega), Option.bind_some]
      by_cases c2 : q.Text ∈ mks p
      · rw [if_pos (decide_eq_true c2), j0, decide_eq_true c2, Bool.true_and]; rfl
      · rw [if_neg (by rw [decide_eq_true_eq]; exact c2), decide_eq_false c2, Bool.false_and]
    · rw [if_neg c, if_neg c, j0, Bool.true_and]; rfl
abbrev Wr := T_roadref2_Wrong
def ok0 (p : Pg) (w : List ByteArray) (e : Ex) : Bool :=
  if e.Kind = 5 then decide (e.Text ∈ w) else if e.Kind = 9 then decide (e.Text ∈ cls p) else if e.Kind = 12 then decide (e.Text ∈ mks p) else if e.Kind = 14 then decide (e.Text ∈ acs p) else if e.Kind = 10 then decide e.Names.Nodup else true
noncomputable def oka (p : Pg) (a : T_api_Arm) : Bool := decide (nms a.Pat).Nodup && md (okp p) a.Pat
def bnd (e : Ex) (i : Nat) : List ByteArray := if e.Kind = 10 then e.Names else if e.Kind = 6 ∧ i = 1 then [e.Text] else []
theorem bnd_len (e : Ex) (i : Nat) : (bnd e i).length + (e.Args.map T_api_Expr.bulk).sum + 1 ≤ e.bulk := by
  have h := names_len e
  unfold bnd
  split
  · omega
  · split
    · simp only [List.length_cons, List.length_nil]; omega
    · simp only [List.length_nil]; omega
theorem concat2 {a b : List ByteArray} (h : a.length + b.length ≤ 4000000) : slices_Concat_155 [a, b] = some (a ++ b) := by
  rw [slices_Concat_155.val [a, b] (by simp) (by simp only [List.flatten_cons, List.flatten_nil, List.append_nil, List.length_append]; omega)]
  simp
theorem b_dec {p : Prop} [Decidable p] : (!decide ¬ p) = decide p := by by_cases h : p <;> simp [h]
def Bo (x : Option (Int × Int)) (y : Option Wr) : Prop := ∃ r : Int × Int, x = some r ∧ y = some (T_roadref2_Wrong.mk r.1 r.2)
section
variable {p : Pg} (hb : p.bulk ≤ 1048576)
include hb
theorem arms_both {e : Ex} (he : e.bulk ≤ 1048576) (w : List ByteArray) : ∀ (d i : Nat) (b : Bool), e.Arms.length - i = d → i ≤ e.Arms.length →
    scope_Expr.l0 w p e b e.Arms (e.Arms.length : Int) (i : Int) = scope_Expr.l0 w p e (b && (e.Arms.drop i).all (oka p)) e.Arms (e.Arms.length : Int) (e.Arms.length : Int) ∧
    roadref2_scopeExpr.l0 w p e (T_roadref2_Wrong.mk 0 0) (!b) e.Arms (e.Arms.length : Int) (i : Int) = roadref2_scopeExpr.l0 w p e (T_roadref2_Wrong.mk 0 0) (!(b && (e.Arms.drop i).all (oka p))) e.Arms (e.Arms.length : Int) (e.Arms.length : Int) := by
  have hl := eparts_len e
  have hml := mks_len hb
  intro d
  induction d with
  | zero =>
    intro i b hd hi
    obtain rfl : i = e.Arms.length := by omega
    rw [List.drop_length, List.all_nil, Bool.and_true]
    exact ⟨rfl, rfl⟩
  | succ d ih =>
    intro i b hd hi
    have hlt : i < e.Arms.length := by omega
    have hab := earm_bulk (List.getElem_mem hlt)
    obtain ⟨n1, n2, n3⟩ := nms_all _ e.Arms[i].Pat (Nat.le_refl _) (by omega)
    have mv := made_val hb _ e.Arms[i].Pat (Nat.le_refl _) (by omega)
    obtain ⟨l, l1, l2, l3⟩ := pats_all e.Arms[i].Pat (by omega)
    have l4 := l3 (okp p)
    rw [List.drop_eq_getElem_cons hlt, List.all_cons]
    -- the loop over the patterns
    have l3' : ∀ (d j : Nat) (c : Bool), l.length - j = d → j ≤ l.length → roadref2_scopeExpr.l3 w p e (T_roadref2_Wrong.mk 0 0) (!c) e.Arms (e.Arms.length : Int) (i : Int) l (l.length : Int) (j : Int) = roadref2_scopeExpr.l0 w p e (T_roadref2_Wrong.mk 0 0) (!(c && (l.drop j).all (okp p))) e.Arms (e.Arms.length : Int) ((i + 1 : Nat) : Int) := by
      intro d
      induction d with
      | zero =>
        intro j c hd hj
        obtain rfl : j = l.length := by omega
        rw [roadref2_scopeExpr.l3_eq, if_neg (by omega), List.drop_length, List.all_nil, Bool.and_true, w_succ (by omega)]
      | succ d ihj =>
        intro j c hd hj
        have hj' : j < l.length := by omega
        rw [roadref2_scopeExpr.l3_eq, if_pos (by omega), gi_at hj', Option.bind_some, List.drop_eq_getElem_cons hj', List.all_cons, w_succ (by omega)]
        cases c with
        | false =>
          rw [if_pos (by decide)]
          have := ihj (j + 1) false (by omega) (by omega)
          rw [Bool.false_and] at this ⊢
          exact this
        | true =>
          rw [if_neg (by decide)]
          by_cases k : l[j].Kind = 6
          · rw [if_pos k, (makers_val hb).2, Option.bind_some, has_val _ (by omega), Option.bind_some]
            have hok : okp p l[j] = decide (l[j].Text ∈ mks p) := by unfold okp; rw [if_pos k]
            rw [hok, Bool.true_and]
            exact ihj (j + 1) _ (by omega) (by omega)
          · rw [if_neg k]
            have hok : okp p l[j] = true := by unfold okp; rw [if_neg k]
            rw [hok, Bool.true_and, Bool.true_and]
            have := ihj (j + 1) true (by omega) (by omega)
            rw [Bool.true_and] at this
            exact this
    have j1 : ∀ c : Bool, roadref2_scopeExpr.j1 w p e (T_roadref2_Wrong.mk 0 0) (!c) e.Arms[i] e.Arms (e.Arms.length : Int) (i : Int) = roadref2_scopeExpr.l0 w p e (T_roadref2_Wrong.mk 0 0) (!(c && md (okp p) e.Arms[i].Pat)) e.Arms (e.Arms.length : Int) ((i + 1 : Nat) : Int) := fun c => by
      rw [roadref2_scopeExpr.j1_eq, l1, Option.bind_some, ← l4]
      have := l3' l.length 0 c (by omega) (by omega)
      rw [List.drop_zero] at this
      exact this
    have hc : ((i : Nat) : Int) < (e.Arms.length : Int) := by omega
    rw [scope_Expr.l0_eq, if_pos hc, gi_at hlt, Option.bind_some, roadref2_scopeExpr.l0_eq, if_pos hc, gi_at hlt, Option.bind_some, w_succ (by omega)]
    cases b with
    | false =>
      rw [if_neg (by decide), if_pos (by decide)]
      have i1 := ih (i + 1) false (by omega) (by omega)
      have k1 := j1 false
      rw [Bool.false_and] at k1 i1 ⊢
      exact ⟨i1.1, k1.trans i1.2⟩
    | true =>
      rw [if_pos rfl, if_neg (by decide), n1, Option.bind_some, twice_val (by omega), Option.bind_some, n2, Option.bind_some, doubled_val (by omega), Option.bind_some, Bool.true_and]
      have k1 := j1 (decide (nms e.Arms[i].Pat).Nodup)
      have e1 : (!decide (nms e.Arms[i].Pat).Nodup) = decide (¬ (nms e.Arms[i].Pat).Nodup) := by by_cases h : (nms e.Arms[i].Pat).Nodup <;> simp [h]
      rw [e1] at k1
      have i1 := ih (i + 1) (oka p e.Arms[i]) (by omega) (by omega)
      have hoka : oka p e.Arms[i] = (decide (nms e.Arms[i].Pat).Nodup && md (okp p) e.Arms[i].Pat) := rfl
      rw [← hoka] at k1
      refine ⟨?_, k1.trans i1.2⟩
      by_cases h : (nms e.Arms[i].Pat).Nodup
      · rw [if_neg (by simp [h]), mv, Option.bind_some]
        have : oka p e.Arms[i] = md (okp p) e.Arms[i].Pat := by rw [hoka, decide_eq_true h, Bool.true_and]
        rw [← this]
        exact i1.1
      · rw [if_pos (by simp [h])]
        have : oka p e.Arms[i] = false := by rw [hoka, decide_eq_false h, Bool.false_and]
        rw [this] at i1 ⊢
        exact i1.1
theorem expr_both : ∀ (n : Nat) (e : Ex) (w : List ByteArray), e.bulk ≤ n → n ≤ 1048576 → w.length + e.bulk ≤ 3000000 → Bo (scope_Expr p w e) (roadref2_scopeExpr p w e) := by
  intro n
  induction n with
  | zero => intro e w h; have := ebulk_pos e; omega
  | succ n ih =>
    intro e w he hn hw
    have hl := eparts_len e
    have hnl := names_len e
    have m1 := mks_len hb
    have m2 := cls_len hb
    have m3 := acs_len hb
    -- the arms' bodies
    have l2 : ∀ (d i : Nat), e.Arms.length - i = d → i ≤ e.Arms.length → Bo (scope_Expr.l2 w p e.Arms (e.Arms.length : Int) (i : Int)) (roadref2_scopeExpr.l2 w p (T_roadref2_Wrong.mk 0 0) e.Arms (e.Arms.length : Int) (i : Int)) := by
      intro d
      induction d with
      | zero =>
        intro i hd hi
        rw [scope_Expr.l2_eq, roadref2_scopeExpr.l2_eq, if_neg (by omega), if_neg (by omega)]
        exact ⟨(0, 0), rfl, rfl⟩
      | succ d ihd =>
        intro i hd hi
        have hlt : i < e.Arms.length := by omega
        have hab := earm_bulk (List.getElem_mem hlt)
        obtain ⟨n1, n2, n3⟩ := nms_all _ e.Arms[i].Pat (Nat.le_refl _) (by omega)
        obtain ⟨r, r1, r2⟩ := ih e.Arms[i].Body (w ++ nms e.Arms[i].Pat) (by omega) (by omega) (by rw [List.length_append]; omega)
        rw [scope_Expr.l2_eq, roadref2_scopeExpr.l2_eq, if_pos (by omega), if_pos (by omega), gi_at hlt, Option.bind_some, Option.bind_some, slices_Clone_115.val w (by omega), Option.bind_some, n1, Option.bind_some, ap_of (by omega), Option.bind_some, r1, Option.bind_some, n2, Option.bind_some, concat2 (by omega), Option.bind_some, r2, Option.bind_some, roadref2_scopeExpr.j3_eq]
        simp only
        by_cases c : r.1 = 0
        · rw [if_pos c, if_pos c, w_succ (by omega)]
          exact ihd (i + 1) (by omega) (by omega)
        · rw [if_neg c, if_neg c]
          exact ⟨r, rfl, rfl⟩
    have l1 : ∀ (d i : Nat), e.Args.length - i = d → i ≤ e.Args.length → Bo (scope_Expr.l1 w p e e.Args (e.Args.length : Int) (i : Int)) (roadref2_scopeExpr.l1 w p e (T_roadref2_Wrong.mk 0 0) e.Args (e.Args.length : Int) (i : Int)) := by
      intro d
      induction d with
      | zero =>
        intro i hd hi
        rw [scope_Expr.l1_eq, roadref2_scopeExpr.l1_eq, if_neg (by omega), if_neg (by omega)]
        exact l2 e.Arms.length 0 (by omega) (by omega)
      | succ d ihd =>
        intro i hd hi
        have hlt : i < e.Args.length := by omega
        have hab := earg_bulk (List.getElem_mem hlt)
        have hbl := bnd_len e i
        have hsb := le_sum (f := T_api_Expr.bulk) (List.getElem_mem hlt)
        obtain ⟨r, r1, r2⟩ := ih e.Args[i] (w ++ bnd e i) (by omega) (by omega) (by rw [List.length_append]; omega)
        have j4 : Bo (scope_Expr.j3 w p e e.Args[i] (w ++ bnd e i) e.Args (e.Args.length : Int) (i : Int)) (roadref2_scopeExpr.j2 w p e (T_roadref2_Wrong.mk 0 0) e.Args[i] (bnd e i) e.Args (e.Args.length : Int) (i : Int)) := by
          rw [scope_Expr.j3_eq, roadref2_scopeExpr.j2_eq, r1, Option.bind_some, concat2 (by omega), Option.bind_some, r2, Option.bind_some, roadref2_scopeExpr.j4_eq]
          simp only
          by_cases c : r.1 = 0
          · rw [if_pos c, if_pos c, w_succ (by omega)]
            exact ihd (i + 1) (by omega) (by omega)
          · rw [if_neg c, if_neg c]
            exact ⟨r, rfl, rfl⟩
        have cl := slices_Clone_115.val w (by omega)
        rw [scope_Expr.l1_eq, roadref2_scopeExpr.l1_eq, if_pos (by omega), if_pos (by omega), gi_at hlt, Option.bind_some, Option.bind_some]
        by_cases k1 : e.Kind = 6
        · have k2 : ¬ e.Kind = 10 := by omega
          rw [if_pos k1, if_pos k1, scope_Expr.j2_eq, roadref2_scopeExpr.j5_eq]
          by_cases k3 : i = 1
          · have hb6 : bnd e i = [e.Text] := by unfold bnd; rw [if_neg k2, if_pos ⟨k1, k3⟩]
            rw [hb6] at j4
            have hq : (((i : Nat) : Int) == 1) = true := by simp [k3]
            rw [hq, if_pos rfl, if_pos rfl, cl, Option.bind_some, ap_one (by omega), Option.bind_some, scope_Expr.j1_eq, if_neg k2]
            exact j4
          · have hb6 : bnd e i = [] := by unfold bnd; rw [if_neg k2, if_neg (fun h => k3 h.2)]
            rw [hb6, List.append_nil] at j4
            have hq : (((i : Nat) : Int) == 1) = false := by simp; omega
            rw [hq, if_neg (by decide), if_neg (by decide), scope_Expr.j1_eq, if_neg k2, if_neg k2]
            exact j4
        · rw [if_neg k1, if_neg k1, scope_Expr.j2_eq, roadref2_scopeExpr.j5_eq, if_neg (by decide), if_neg (by decide), scope_Expr.j1_eq]
          by_cases k2 : e.Kind = 10
          · have hb6 : bnd e i = e.Names := by unfold bnd; rw [if_pos k2]
            rw [hb6] at j4
            rw [if_pos k2, if_pos k2, cl, Option.bind_some, ap_of (by omega), Option.bind_some]
            exact j4
          · have hb6 : bnd e i = [] := by unfold bnd; rw [if_neg k2, if_neg (fun h => k1 h.1)]
            rw [hb6, List.append_nil] at j4
            rw [if_neg k2, if_neg k2]
            exact j4
    have j0 : Bo (scope_Expr.j0 w p e (ok0 p w e)) (roadref2_scopeExpr.j0 w p e (T_roadref2_Wrong.mk 0 0) (!ok0 p w e)) := by
      obtain ⟨a1, a2⟩ := arms_both hb (e := e) (by omega) w e.Arms.length 0 (ok0 p w e) (by omega) (by omega)
      rw [scope_Expr.j0_eq, roadref2_scopeExpr.j0_eq]
      show Bo (scope_Expr.l0 w p e (ok0 p w e) e.Arms (e.Arms.length : Int) ((0 : Nat) : Int)) (roadref2_scopeExpr.l0 w p e (T_roadref2_Wrong.mk 0 0) (!ok0 p w e) e.Arms (e.Arms.length : Int) ((0 : Nat) : Int))
      have hc : ¬ ((e.Arms.length : Int) < (e.Arms.length : Int)) := by omega
      rw [a1, a2, scope_Expr.l0_eq, roadref2_scopeExpr.l0_eq, if_neg hc, if_neg hc]
      cases (ok0 p w e && (e.Arms.drop 0).all (oka p)) with
      | true =>
        rw [if_pos rfl, if_neg (by decide)]
        exact l1 e.Args.length 0 (by omega) (by omega)
      | false =>
        rw [if_neg (by decide), if_pos (by decide)]
        exact ⟨(11, e.At), rfl, rfl⟩
    rw [scope_Expr_eq, roadref2_scopeExpr_eq]
    by_cases k5 : e.Kind = 5
    · have h0 : ok0 p w e = decide (e.Text ∈ w) := by unfold ok0; rw [if_pos k5]
      rw [h0] at j0
      rw [if_pos k5, if_pos k5, has_val _ (by omega), Option.bind_some, Option.bind_some]
      exact j0
    · rw [if_neg k5, if_neg k5]
      by_cases k9 : e.Kind = 9
      · have h0 : ok0 p w e = decide (e.Text ∈ cls p) := by unfold ok0; rw [if_neg k5, if_pos k9]
        rw [h0] at j0
        rw [if_pos k9, if_pos k9, (calls_val hb).1, (calls_val hb).2, Option.bind_some, Option.bind_some, has_val _ (by omega), Option.bind_some, Option.bind_some]
        exact j0
      · rw [if_neg k9, if_neg k9]
        by_cases k12 : e.Kind = 12
        · have h0 : ok0 p w e = decide (e.Text ∈ mks p) := by unfold ok0; rw [if_neg k5, if_neg k9, if_pos k12]
          rw [h0] at j0
          rw [if_pos k12, if_pos k12, (makers_val hb).1, (makers_val hb).2, Option.bind_some, Option.bind_some, has_val _ (by omega), Option.bind_some, Option.bind_some]
          exact j0
        · rw [if_neg k12, if_neg k12]
          by_cases k14 : e.Kind = 14
          · have h0 : ok0 p w e = decide (e.Text ∈ acs p) := by unfold ok0; rw [if_neg k5, if_neg k9, if_neg k12, if_pos k14]
            rw [h0] at j0
            rw [if_pos k14, if_pos k14, (actors_val hb).1, (actors_val hb).2, Option.bind_some, Option.bind_some, has_val _ (by omega), Option.bind_some, Option.bind_some]
            exact j0
          · rw [if_neg k14, if_neg k14]
            by_cases k10 : e.Kind = 10
            · have h0 : ok0 p w e = decide e.Names.Nodup := by unfold ok0; rw [if_neg k5, if_neg k9, if_neg k12, if_neg k14, if_pos k10]
              rw [h0] at j0
              rw [if_pos k10, if_pos k10, twice_val (by omega), doubled_val (by omega), Option.bind_some, Option.bind_some, b_dec]
              have e1 : (!decide e.Names.Nodup) = decide (¬ e.Names.Nodup) := by by_cases h : e.Names.Nodup <;> simp [h]
              rw [e1] at j0
              exact j0
            · have h0 : ok0 p w e = true := by unfold ok0; rw [if_neg k5, if_neg k9, if_neg k12, if_neg k14, if_neg k10]
              rw [h0] at j0
              rw [if_neg k10, if_neg k10]
              exact j0
end
def first {α : Type} (g : α → Int × Int) : List α → Int × Int
  | [] => (0, 0)
  | a :: l => if (g a).1 = 0 then first g l else g a
theorem first_append {α : Type} (g : α → Int × Int) (m : List α) : ∀ l : List α, first g (l ++ m) = if (first g l).1 = 0 then first g m else first g l
  | [] => by rw [List.nil_append, first, if_pos rfl]
  | a :: l => by
    rw [List.cons_append, first, first]
    by_cases c : (g a).1 = 0
    · rw [if_pos c, if_pos c, first_append g m l]
    · rw [if_neg c, if_neg c, if_neg c]
theorem first_flat {α β : Type} (g : β → Int × Int) (h : α → List β) : ∀ l : List α, first g (l.flatMap h) = first (fun x => first g (h x)) l
  | [] => rfl
  | a :: l => by rw [List.flatMap_cons, first_append, first, first_flat g h l]
theorem first_loop {α γ : Type} {l : List α} {F : Int → Option γ} {g : α → Int × Int} {K : Int × Int → Option γ} (step : ∀ (i : Nat) (hi : i < l.length), F (i : Int) = if (g l[i]).1 = 0 then F ((i + 1 : Nat) : Int) else K (g l[i])) : F 0 = if (first g l).1 = 0 then F (l.length : Int) else K (first g l) := by
  have key : ∀ (d i : Nat), l.length - i = d → i ≤ l.length → F (i : Int) = if (first g (l.drop i)).1 = 0 then F (l.length : Int) else K (first g (l.drop i)) := by
    intro d
    induction d with
    | zero =>
      intro i hd hi
      obtain rfl : i = l.length := by omega
      rw [List.drop_length, first, if_pos rfl]
    | succ d ih =>
      intro i hd hi
      have hlt : i < l.length := by omega
      rw [step i hlt, List.drop_eq_getElem_cons hlt, first]
      by_cases c : (g l[i]).1 = 0
      · rw [if_pos c, if_pos c, ih (i + 1) (by omega) hlt]
      · rw [if_neg c, if_neg c, if_neg c]
  have := key l.length 0 (by omega) (by omega)
  rw [List.drop_zero] at this
  exact this
theorem all_loop {α β γ : Type} {l : List α} {F : List β → Int → Option γ} {f : α → β} {q : α → Bool} {K : Option γ} {B : Nat} (step : ∀ (s : List β) (i : Nat) (hi : i < l.length), s.length + 1 ≤ B → F s (i : Int) = if q l[i] = true then F (s ++ [f l[i]]) ((i + 1 : Nat) : Int) else K) (hB : l.length ≤ B) : F [] 0 = if l.all q = true then F (l.map f) (l.length : Int) else K := by
  have key : ∀ (d i : Nat) (s : List β), l.length - i = d → i ≤ l.length → s.length + (l.length - i) ≤ B → F s (i : Int) = if (l.drop i).all q = true then F (s ++ (l.drop i).map f) (l.length : Int) else K := by
    intro d
    induction d with
    | zero =>
      intro i s hd hi hs
      obtain rfl : i = l.length := by omega
      rw [List.drop_length, if_pos (by simp), List.map_nil, List.append_nil]
    | succ d ih =>
      intro i s hd hi hs
      have hlt : i < l.length := by omega
      rw [step s i hlt (by omega), List.drop_eq_getElem_cons hlt, List.all_cons, List.map_cons]
      cases hq : q l[i] with
      | true =>
        rw [if_pos rfl, ih (i + 1) _ (by omega) hlt (by rw [List.length_append]; simp only [List.length_cons, List.length_nil]; omega), Bool.true_and, List.append_assoc]
        rfl
      | false => rw [if_neg (by decide), Bool.false_and, if_neg (by decide)]
  have := key l.length 0 [] (by omega) (by omega) (by simp only [List.length_nil]; omega)
  rw [List.drop_zero, List.nil_append] at this
  exact this
theorem all_loop0 {α γ : Type} {l : List α} {F : Int → Option γ} {q : α → Bool} {K : Option γ} (step : ∀ (i : Nat) (hi : i < l.length), F (i : Int) = if q l[i] = true then F ((i + 1 : Nat) : Int) else K) : F 0 = if l.all q = true then F (l.length : Int) else K :=
  all_loop (l := l) (F := fun _ i => F i) (f := fun _ => ()) (B := l.length) (fun s i hi _ => step i hi) (Nat.le_refl _)
theorem nlt (n : Int) : ¬ n < n := by omega
def nd1 (l : List ByteArray) : Bool := decide l.Nodup
theorem nd1_no {l : List ByteArray} : decide (¬ l.Nodup) = !nd1 l := by unfold nd1; by_cases h : l.Nodup <;> simp [h]
theorem if_not {γ : Type} {b : Bool} {x y : γ} : (if (!b) = true then x else y) = if b = true then y else x := by cases b <;> rfl
def decL (p : Pg) : List (List ByteArray) := [p.Uses.map (·.Name) ++ [p.Name], p.Datas.map (·.Name), p.Traits.map (·.Name), mks p, cls p, acs p]
def decR (p : Pg) : List (List ByteArray) := [[p.Name] ++ p.Uses.map (·.Name), p.Datas.map (·.Name), p.Traits.map (·.Name), mks p, cls p, acs p]
def dec (p : Pg) : Bool := (p.Datas.all fun d => nd1 d.Params) && (decL p).all nd1
theorem dec_eq (p : Pg) : (decR p).all nd1 = (decL p).all nd1 := by
  unfold decR decL
  rw [List.all_cons, List.all_cons]
  congr 1
  unfold nd1
  rw [decide_eq_decide]
  exact (List.perm_append_comm).nodup_iff
noncomputable def xe (p : Pg) (w : List ByteArray) (e : Ex) : Int × Int := (scope_Expr p w e).getD (0, 0)
def tE (f : T_api_Func) : Int × Int := if nd1 f.Params = true then (if nd1 f.Names = true then (0, 0) else (11, 0)) else (11, 0)
noncomputable def fE (p : Pg) (f : T_api_Func) : Int × Int := if nd1 f.Params = true then (if nd1 f.Names = true then xe p f.Names f.Body else (11, 0)) else (11, 0)
noncomputable def aE (p : Pg) (a : T_api_Actor) : Int × Int := if nd1 a.Names = true then xe p a.Names a.Body else (11, 0)
noncomputable def pE (p : Pg) : Int × Int :=
  if dec p = true then
    (if (first (fun t : T_api_Trait => first tE t.Funcs) p.Traits).1 = 0 then
      (if (first (fun m : T_api_Impl => first (fE p) m.Funcs) p.Impls).1 = 0 then
        (if (first (fE p) p.Funcs).1 = 0 then (if (first (aE p) p.Actors).1 = 0 then (0, 0) else first (aE p) p.Actors) else first (fE p) p.Funcs)
      else first (fun m : T_api_Impl => first (fE p) m.Funcs) p.Impls)
    else first (fun t : T_api_Trait => first tE t.Funcs) p.Traits)
  else (11, 0)
section
variable {p : Pg} (hb : p.bulk ≤ 1048576)
include hb
theorem xe_val {e : Ex} {w : List ByteArray} (he : e.bulk ≤ 1048576) (hw : w.length ≤ 1048576) : scope_Expr p w e = some (xe p w e) ∧ roadref2_scopeExpr p w e = some (T_roadref2_Wrong.mk (xe p w e).1 (xe p w e).2) := by
  obtain ⟨r, r1, r2⟩ := expr_both hb e.bulk e w (Nat.le_refl _) he (by omega)
  have : xe p w e = r := by unfold xe; rw [r1]; rfl
  rw [this]
  exact ⟨r1, r2⟩
theorem dec_lens : ∀ l ∈ decL p, l.length ≤ 2000000 := by
  have h := lens hb
  have m1 := mks_len hb
  have m2 := cls_len hb
  have m3 := acs_len hb
  intro l hl
  unfold decL at hl
  simp only [List.mem_cons, List.mem_nil_iff, or_false] at hl
  rcases hl with rfl | rfl | rfl | rfl | rfl | rfl
  · simp; omega
  · simp; omega
  · simp; omega
  · omega
  · omega
  · omega
theorem dec_lensR : ∀ l ∈ decR p, l.length ≤ 2000000 := by
  have h := lens hb
  have m1 := mks_len hb
  have m2 := cls_len hb
  have m3 := acs_len hb
  intro l hl
  unfold decR at hl
  simp only [List.mem_cons, List.mem_nil_iff, or_false] at hl
  rcases hl with rfl | rfl | rfl | rfl | rfl | rfl
  · simp; omega
  · simp; omega
  · simp; omega
  · omega
  · omega
  · omega
theorem data_len : ∀ d ∈ p.Datas, d.Params.length ≤ 1048576 := fun d hd => by
  have h := parts_bulk p
  have h1 := le_sum (f := T_api_Data.bulk) hd
  have h2 := data_bulk d
  omega
theorem declared_val : scope_declared p = some (dec p) := by
  have h := lens hb
  unfold scope_declared
  refine (map_loop (l := p.Uses) (F := fun s i => scope_declared.l0 p s [] [] p.Uses (p.Uses.length : Int) i) (f := fun u => u.Name) (B := 2000000) (fun s i hi h' => by
    rw [scope_declared.l0_eq, if_pos (by omega), gi_at hi, Option.bind_some, ap_one (by omega), Option.bind_some, w_succ (by omega)]) (by omega)).trans ?_
  rw [scope_declared.l0_eq, if_neg (nlt _)]
  refine (all_loop (l := p.Datas) (F := fun s i => scope_declared.l1 p (p.Uses.map (·.Name)) s [] p.Datas (p.Datas.length : Int) i) (f := fun u => u.Name) (q := fun d => nd1 d.Params) (K := some false) (B := 2000000) (fun s i hi h' => by
    have hd := data_len hb _ (List.getElem_mem hi)
    rw [scope_declared.l1_eq, if_pos (by omega), gi_at hi, Option.bind_some, ap_one (by omega), Option.bind_some, twice_val (by omega), Option.bind_some, nd1_no, if_not, w_succ (by omega)]) (by omega)).trans ?_
  unfold dec
  cases hq : (p.Datas.all fun d => nd1 d.Params) with
  | false => rw [if_neg (by decide), Bool.false_and]
  | true =>
    rw [if_pos rfl, Bool.true_and, scope_declared.l1_eq, if_neg (nlt _)]
    refine (map_loop (l := p.Traits) (F := fun s i => scope_declared.l2 p (p.Uses.map (·.Name)) (p.Datas.map (·.Name)) s p.Traits (p.Traits.length : Int) i) (f := fun u => u.Name) (B := 2000000) (fun s i hi h' => by
      rw [scope_declared.l2_eq, if_pos (by omega), gi_at hi, Option.bind_some, ap_one (by omega), Option.bind_some, w_succ (by omega)]) (by omega)).trans ?_
    rw [scope_declared.l2_eq, if_neg (nlt _), ap_one (by rw [List.length_map]; omega), Option.bind_some, (makers_val hb).1, Option.bind_some, (calls_val hb).1, Option.bind_some, (actors_val hb).1, Option.bind_some]
    have hn : (decL p).length = 6 := rfl
    refine (all_loop0 (l := decL p) (F := fun i => scope_declared.l3 (decL p) ((6 : Nat) : Int) i) (q := nd1) (K := some false) (fun i hi => by
      rw [scope_declared.l3_eq, if_pos (by omega), gi_at hi, Option.bind_some, twice_val (dec_lens hb _ (List.getElem_mem hi)), Option.bind_some, nd1_no, if_not, w_succ (by omega)])).trans ?_
    rw [hn, scope_declared.l3_eq, if_neg (nlt _)]
    cases (decL p).all nd1 <;> rfl
omit hb in
theorem funcsF_val (l : List T_api_Func) (hl : (l.map T_api_Func.bulk).sum ≤ 1048576) : scope_funcs p l false = some (first tE l) := by
  have h1 : l.length ≤ (l.map T_api_Func.bulk).sum := len_le_sum fun x _ => func_pos x
  unfold scope_funcs
  refine (first_loop (l := l) (F := fun i => scope_funcs.l0 false p l (l.length : Int) i) (g := tE) (K := fun r => some r) (fun i hi => by
    have h2 := le_sum (f := T_api_Func.bulk) (List.getElem_mem hi)
    have h3 := func_bulk l[i]
    have j1 : ∀ b : Bool, scope_funcs.j1 false p l[i] l (l.length : Int) (i : Int) b = if b = true then some (11, 0) else scope_funcs.l0 false p l (l.length : Int) ((i + 1 : Nat) : Int) := fun b => by
      rw [scope_funcs.j1_eq, scope_funcs.j0_eq, if_neg (by decide : ¬ (false = true)), w_succ (by omega)]
    rw [scope_funcs.l0_eq, if_pos (by omega), gi_at hi, Option.bind_some, twice_val (by omega), Option.bind_some, nd1_no, if_not, twice_val (by omega), Option.bind_some, nd1_no, j1, j1, if_pos rfl, if_not]
    unfold tE
    by_cases c1 : nd1 l[i].Params = true
    · rw [if_pos c1, if_pos c1]
      by_cases c2 : nd1 l[i].Names = true
      · rw [if_pos c2, if_pos c2, if_pos rfl]
      · rw [if_neg c2, if_neg c2, if_neg (by decide)]
    · rw [if_neg c1, if_neg c1, if_neg (by decide)])).trans ?_
  rw [scope_funcs.l0_eq, if_neg (nlt _)]
  have hz : ∀ l : List T_api_Func, (first tE l).1 = 0 → first tE l = (0, 0) := fun l => by
    induction l with
    | nil => intro _; rfl
    | cons a l ih =>
      rw [first]
      by_cases c : (tE a).1 = 0
      · rw [if_pos c]; exact ih
      · rw [if_neg c]; exact fun h => absurd h c
  by_cases c : (first tE l).1 = 0
  · rw [if_pos c, hz l c]
  · rw [if_neg c]
theorem funcsT_val (l : List T_api_Func) (hl : (l.map T_api_Func.bulk).sum ≤ 1048576) : ∃ r, scope_funcs p l true = some r ∧ r.1 = (first (fE p) l).1 ∧ (r.1 ≠ 0 → r = first (fE p) l) := by
  have h1 : l.length ≤ (l.map T_api_Func.bulk).sum := len_le_sum fun x _ => func_pos x
  have : scope_funcs p l true = if (first (fE p) l).1 = 0 then some (0, 0) else some (first (fE p) l) := by
    unfold scope_funcs
    refine (first_loop (l := l) (F := fun i => scope_funcs.l0 true p l (l.length : Int) i) (g := fE p) (K := fun r => some r) (fun i hi => by
      have h2 := le_sum (f := T_api_Func.bulk) (List.getElem_mem hi)
      have h3 := func_bulk l[i]
      have j1 : ∀ b : Bool, scope_funcs.j1 true p l[i] l (l.length : Int) (i : Int) b = if b = true then some (11, 0) else (if (xe p l[i].Names l[i].Body).1 = 0 then scope_funcs.l0 true p l (l.length : Int) ((i + 1 : Nat) : Int) else some (xe p l[i].Names l[i].Body)) := fun b => by
        rw [scope_funcs.j1_eq, scope_funcs.j0_eq, if_pos rfl, (xe_val hb (by omega) (by omega)).1, Option.bind_some, w_succ (by omega)]
      rw [scope_funcs.l0_eq, if_pos (by omega), gi_at hi, Option.bind_some, twice_val (by omega), Option.bind_some, nd1_no, if_not, twice_val (by omega), Option.bind_some, nd1_no, j1, j1, if_pos rfl, if_not]
      unfold fE
      by_cases c1 : nd1 l[i].Params = true
      · rw [if_pos c1, if_pos c1]
        by_cases c2 : nd1 l[i].Names = true
        · rw [if_pos c2, if_pos c2]
        · rw [if_neg c2, if_neg c2, if_neg (by decide)]
      · rw [if_neg c1, if_neg c1, if_neg (by decide)])).trans ?_
    rw [scope_funcs.l0_eq, if_neg (nlt _)]
  rw [this]
  by_cases c : (first (fE p) l).1 = 0
  · rw [if_pos c]; exact ⟨_, rfl, c.symm, fun h => absurd rfl h⟩
  · rw [if_neg c]; exact ⟨_, rfl, rfl, fun _ => rfl⟩
theorem impl_sum : ∀ m ∈ p.Impls, (m.Funcs.map T_api_Func.bulk).sum ≤ 1048576 := fun m hm => by
  have h := parts_bulk p
  have h1 := le_sum (f := T_api_Impl.bulk) hm
  have h2 := impl_bulk m
  omega
theorem trait_sum : ∀ m ∈ p.Traits, (m.Funcs.map T_api_Func.bulk).sum ≤ 1048576 := fun m hm => by
  have h := parts_bulk p
  have h1 := le_sum (f := T_api_Trait.bulk) hm
  have h2 := trait_bulk m
  omega
theorem func_sum : (p.Funcs.map T_api_Func.bulk).sum ≤ 1048576 := by
  have h := parts_bulk p
  omega
theorem actor_len : ∀ a ∈ p.Actors, a.Names.length ≤ 1048576 ∧ a.Body.bulk ≤ 1048576 := fun a ha => by
  have h := parts_bulk p
  have h1 := le_sum (f := T_api_Actor.bulk) ha
  have h2 := actor_bulk a
  omega
theorem program_val : ∃ r, scope_Program p = some r ∧ r.1 = (pE p).1 ∧ r.2 = (pE p).2 := by
  have hl := lens hb
  have key : scope_Program p = some (pE p) := by
    unfold scope_Program
    rw [declared_val hb, Option.bind_some]
    unfold pE
    by_cases c0 : dec p = true
    · rw [if_pos c0, if_pos c0]
      refine (first_loop (l := p.Traits) (F := fun i => scope_Program.l0 p p.Traits (p.Traits.length : Int) i) (g := fun t => first tE t.Funcs) (K := fun r => some r) (fun i hi => by
        rw [scope_Program.l0_eq, if_pos (by omega), gi_at hi, Option.bind_some, funcsF_val _ (trait_sum hb _ (List.getElem_mem hi)), Option.bind_some, w_succ (by omega)])).trans ?_
      by_cases c1 : (first (fun t : T_api_Trait => first tE t.Funcs) p.Traits).1 = 0
      · rw [if_pos c1, if_pos c1, scope_Program.l0_eq, if_neg (nlt _)]
        refine (first_loop (l := p.Impls) (F := fun i => scope_Program.l1 p p.Impls (p.Impls.length : Int) i) (g := fun t => first (fE p) t.Funcs) (K := fun r => some r) (fun i hi => by
          obtain ⟨r, r1, r2, r3⟩ := funcsT_val hb _ (impl_sum hb _ (List.getElem_mem hi))
          rw [scope_Program.l1_eq, if_pos (by omega), gi_at hi, Option.bind_some, r1, Option.bind_some, w_succ (by omega), ← r2]
          by_cases c : r.1 = 0
          · rw [if_pos c, if_pos c]
          · rw [if_neg c, if_neg c, r3 c])).trans ?_
        by_cases c2 : (first (fun m : T_api_Impl => first (fE p) m.Funcs) p.Impls).1 = 0
        · rw [if_pos c2, if_pos c2, scope_Program.l1_eq, if_neg (nlt _)]
          obtain ⟨r, r1, r2, r3⟩ := funcsT_val hb _ (func_sum hb)
          rw [r1, Option.bind_some]
          by_cases c3 : (first (fE p) p.Funcs).1 = 0
          · rw [if_pos (by rw [r2]; exact c3), if_pos c3]
            refine (first_loop (l := p.Actors) (F := fun i => scope_Program.l2 p p.Actors (p.Actors.length : Int) i) (g := aE p) (K := fun r => some r) (fun i hi => by
              have ha := actor_len hb _ (List.getElem_mem hi)
              rw [scope_Program.l2_eq, if_pos (by omega), gi_at hi, Option.bind_some, twice_val (by omega), Option.bind_some, nd1_no, if_not, (xe_val hb ha.2 ha.1).1, Option.bind_some, w_succ (by omega)]
              unfold aE
              by_cases c : nd1 p.Actors[i].Names = true
              · rw [if_pos c, if_pos c]
              · rw [if_neg c, if_neg c, if_neg (by decide)])).trans ?_
            rw [scope_Program.l2_eq, if_neg (nlt _)]
            by_cases c4 : (first (aE p) p.Actors).1 = 0
            · rw [if_pos c4, if_pos c4]
            · rw [if_neg c4, if_neg c4]
          · have c3' : r.1 ≠ 0 := by rw [r2]; exact c3
            rw [if_neg c3', if_neg c3, r3 c3']
        · rw [if_neg c2, if_neg c2]
      · rw [if_neg c1, if_neg c1]
    · rw [if_neg c0, if_neg c0]
  exact ⟨_, key, rfl, rfl⟩
theorem scopeOf_val : roadref2_ScopeOf p = some (T_roadref2_Wrong.mk (pE p).1 (pE p).2) := by
  have hl := lens hb
  have hfl := fs_len p
  unfold roadref2_ScopeOf
  generalize hz : T_roadref2_Wrong.mk (0 : Int) (0 : Int) = z
  refine (app_loop (l := p.Uses) (F := fun s i => roadref2_ScopeOf.l0 p z (T_roadref2_Wrong.mk 11 0) s [] [] p.Uses (p.Uses.length : Int) i) (T := fun u => [u.Name]) (B := 2000000) (fun s i hi h' => by
    simp only [List.length_cons, List.length_nil] at h'
    rw [roadref2_ScopeOf.l0_eq, if_pos (by omega), gi_at hi, Option.bind_some, ap_one (by omega), Option.bind_some, w_succ (by omega)]) [p.Name] (by rw [one_len]; simp only [List.length_cons, List.length_nil]; omega)).trans ?_
  rw [roadref2_ScopeOf.l0_eq, if_neg (nlt _), flat_one]
  refine (all_loop (l := p.Datas) (F := fun s i => roadref2_ScopeOf.l1 p z (T_roadref2_Wrong.mk 11 0) ([p.Name] ++ p.Uses.map (·.Name)) s [] p.Datas (p.Datas.length : Int) i) (f := fun u => u.Name) (q := fun d => nd1 d.Params) (K := some (T_roadref2_Wrong.mk 11 0)) (B := 2000000) (fun s i hi h' => by
    have hd := data_len hb _ (List.getElem_mem hi)
    rw [roadref2_ScopeOf.l1_eq, if_pos (by omega), gi_at hi, Option.bind_some, ap_one (by omega), Option.bind_some, doubled_val (by omega), Option.bind_some, nd1_no, if_not, w_succ (by omega)]) (by omega)).trans ?_
  unfold pE dec
  cases hq : (p.Datas.all fun d => nd1 d.Params) with
  | false => rw [if_neg (by decide), Bool.false_and, if_neg (by decide)]
  | true =>
    rw [if_pos rfl, Bool.true_and, roadref2_ScopeOf.l1_eq, if_neg (nlt _)]
    refine (map_loop (l := p.Traits) (F := fun s i => roadref2_ScopeOf.l2 p z (T_roadref2_Wrong.mk 11 0) ([p.Name] ++ p.Uses.map (·.Name)) (p.Datas.map (·.Name)) s p.Traits (p.Traits.length : Int) i) (f := fun u => u.Name) (B := 2000000) (fun s i hi h' => by
      rw [roadref2_ScopeOf.l2_eq, if_pos (by omega), gi_at hi, Option.bind_some, ap_one (by omega), Option.bind_some, w_succ (by omega)]) (by omega)).trans ?_
    rw [roadref2_ScopeOf.l2_eq, if_neg (nlt _), (makers_val hb).2, Option.bind_some, (calls_val hb).2, Option.bind_some, (actors_val hb).2, Option.bind_some]
    have hn : (decR p).length = 6 := rfl
    refine (all_loop0 (l := decR p) (F := fun i => roadref2_ScopeOf.l3 p z (T_roadref2_Wrong.mk 11 0) (decR p) ((6 : Nat) : Int) i) (q := nd1) (K := some (T_roadref2_Wrong.mk 11 0)) (fun i hi => by
      rw [roadref2_ScopeOf.l3_eq, if_pos (by omega), gi_at hi, Option.bind_some, doubled_val (dec_lensR hb _ (List.getElem_mem hi)), Option.bind_some, nd1_no, if_not, w_succ (by omega)])).trans ?_
    rw [hn, dec_eq]
    by_cases c0 : (decL p).all nd1 = true
    · rw [if_pos c0, if_pos c0, roadref2_ScopeOf.l3_eq, if_neg (nlt _)]
      refine (first_loop (l := p.Traits) (F := fun i => roadref2_ScopeOf.l4 p z (T_roadref2_Wrong.mk 11 0) p.Traits (p.Traits.length : Int) i) (g := fun t => first tE t.Funcs) (K := fun r => some (T_roadref2_Wrong.mk r.1 r.2)) (fun i hi => by
        have hs := trait_sum hb _ (List.getElem_mem hi)
        have h1 : p.Traits[i].Funcs.length ≤ (p.Traits[i].Funcs.map T_api_Func.bulk).sum := len_le_sum fun x _ => func_pos x
        rw [roadref2_ScopeOf.l4_eq, if_pos (by omega), gi_at hi, Option.bind_some]
        refine (first_loop (l := p.Traits[i].Funcs) (F := fun j => roadref2_ScopeOf.l7 p z (T_roadref2_Wrong.mk 11 0) p.Traits (p.Traits.length : Int) (i : Int) p.Traits[i].Funcs (p.Traits[i].Funcs.length : Int) j) (g := tE) (K := fun r => some (T_roadref2_Wrong.mk r.1 r.2)) (fun j hj => by
          have h2 := le_sum (f := T_api_Func.bulk) (List.getElem_mem hj)
          have h3 := func_bulk p.Traits[i].Funcs[j]
          have j2 : ∀ b : Bool, roadref2_ScopeOf.j2 p z (T_roadref2_Wrong.mk 11 0) p.Traits (p.Traits.length : Int) (i : Int) p.Traits[i].Funcs (p.Traits[i].Funcs.length : Int) (j : Int) b = if b = true then some (T_roadref2_Wrong.mk 11 0) else roadref2_ScopeOf.l7 p z (T_roadref2_Wrong.mk 11 0) p.Traits (p.Traits.length : Int) (i : Int) p.Traits[i].Funcs (p.Traits[i].Funcs.length : Int) ((j + 1 : Nat) : Int) := fun b => by
            rw [roadref2_ScopeOf.j2_eq, w_succ (by omega)]
          rw [roadref2_ScopeOf.l7_eq, if_pos (by omega), gi_at hj, Option.bind_some, doubled_val (by omega), Option.bind_some, nd1_no, if_not, doubled_val (by omega), Option.bind_some, nd1_no, j2, j2, if_pos rfl, if_not]
          unfold tE
          by_cases c1 : nd1 p.Traits[i].Funcs[j].Params = true
          · rw [if_pos c1, if_pos c1]
            by_cases c2 : nd1 p.Traits[i].Funcs[j].Names = true
            · rw [if_pos c2, if_pos c2, if_pos rfl]
            · rw [if_neg c2, if_neg c2, if_neg (by decide)]
          · rw [if_neg c1, if_neg c1, if_neg (by decide)])).trans ?_
        rw [roadref2_ScopeOf.l7_eq, if_neg (nlt _), w_succ (by omega)])).trans ?_
      by_cases c1 : (first (fun t : T_api_Trait => first tE t.Funcs) p.Traits).1 = 0
      · rw [if_pos c1, if_pos c1, roadref2_ScopeOf.l4_eq, if_neg (nlt _), funs_val hb, Option.bind_some]
        have fsb : ∀ f ∈ fs p, f.bulk ≤ 1048576 := fun f hf => by
          unfold fs at hf
          have h := parts_bulk p
          rcases List.mem_append.1 hf with hf | hf
          · obtain ⟨m, hm, hf⟩ := List.mem_flatMap.1 hf
            have h1 := impl_sum hb m hm
            have h2 := le_sum (f := T_api_Func.bulk) hf
            omega
          · have h2 := le_sum (f := T_api_Func.bulk) hf
            omega
        refine (first_loop (l := fs p) (F := fun i => roadref2_ScopeOf.l5 p z (T_roadref2_Wrong.mk 11 0) (fs p) ((fs p).length : Int) i) (g := fE p) (K := fun r => some (T_roadref2_Wrong.mk r.1 r.2)) (fun i hi => by
          have h2 := fsb _ (List.getElem_mem hi)
          have h3 := func_bulk (fs p)[i]
          have j1 : ∀ b : Bool, roadref2_ScopeOf.j1 p z (T_roadref2_Wrong.mk 11 0) (fs p)[i] (fs p) ((fs p).length : Int) (i : Int) b = if b = true then some (T_roadref2_Wrong.mk 11 0) else (if (xe p (fs p)[i].Names (fs p)[i].Body).1 = 0 then roadref2_ScopeOf.l5 p z (T_roadref2_Wrong.mk 11 0) (fs p) ((fs p).length : Int) ((i + 1 : Nat) : Int) else some (T_roadref2_Wrong.mk (xe p (fs p)[i].Names (fs p)[i].Body).1 (xe p (fs p)[i].Names (fs p)[i].Body).2)) := fun b => by
            rw [roadref2_ScopeOf.j1_eq, roadref2_ScopeOf.j0_eq, (xe_val hb (by omega) (by omega)).2, Option.bind_some, w_succ (by omega)]
          rw [roadref2_ScopeOf.l5_eq, if_pos (by omega), gi_at hi, Option.bind_some, doubled_val (by omega), Option.bind_some, nd1_no, if_not, doubled_val (by omega), Option.bind_some, nd1_no, j1, j1, if_pos rfl, if_not]
          unfold fE
          by_cases c1 : nd1 (fs p)[i].Params = true
          · rw [if_pos c1, if_pos c1]
            by_cases c2 : nd1 (fs p)[i].Names = true
            · rw [if_pos c2, if_pos c2]
            · rw [if_neg c2, if_neg c2, if_neg (by decide)]
          · rw [if_neg c1, if_neg c1, if_neg (by decide)])).trans ?_
        have hf : first (fE p) (fs p) = if (first (fun m : T_api_Impl => first (fE p) m.Funcs) p.Impls).1 = 0 then first (fE p) p.Funcs else first (fun m : T_api_Impl => first (fE p) m.Funcs) p.Impls := by
          unfold fs
          rw [first_append, first_flat]
        have fin : roadref2_ScopeOf.l5 p z (T_roadref2_Wrong.mk 11 0) (fs p) ((fs p).length : Int) ((fs p).length : Int) = some (T_roadref2_Wrong.mk (if (first (aE p) p.Actors).1 = 0 then ((0 : Int), (0 : Int)) else first (aE p) p.Actors).1 (if (first (aE p) p.Actors).1 = 0 then ((0 : Int), (0 : Int)) else first (aE p) p.Actors).2) := by
          rw [roadref2_ScopeOf.l5_eq, if_neg (nlt _)]
          refine (first_loop (l := p.Actors) (F := fun i => roadref2_ScopeOf.l6 p z (T_roadref2_Wrong.mk 11 0) p.Actors (p.Actors.length : Int) i) (g := aE p) (K := fun r => some (T_roadref2_Wrong.mk r.1 r.2)) (fun i hi => by
            have ha := actor_len hb _ (List.getElem_mem hi)
            rw [roadref2_ScopeOf.l6_eq, if_pos (by omega), gi_at hi, Option.bind_some, doubled_val (by omega), Option.bind_some, nd1_no, if_not, (xe_val hb ha.2 ha.1).2, Option.bind_some, w_succ (by omega)]
            unfold aE
            by_cases c : nd1 p.Actors[i].Names = true
            · rw [if_pos c, if_pos c]
            · rw [if_neg c, if_neg c, if_neg (by decide)])).trans ?_
          rw [roadref2_ScopeOf.l6_eq, if_neg (nlt _)]
          by_cases c4 : (first (aE p) p.Actors).1 = 0
          · rw [if_pos c4, if_pos c4]
          · rw [if_neg c4, if_neg c4]
        rw [fin, hf]
        by_cases c2 : (first (fun m : T_api_Impl => first (fE p) m.Funcs) p.Impls).1 = 0
        · rw [if_pos c2, if_pos c2]
          by_cases c3 : (first (fE p) p.Funcs).1 = 0
          · rw [if_pos c3, if_pos c3]
          · rw [if_neg c3, if_neg c3]
        · rw [if_neg c2, if_neg c2, if_neg c2]
      · rw [if_neg c1, if_neg c1]
    · rw [if_neg c0, if_neg c0]
end
theorem eq26 {l m : List ByteArray} (hl : l.length ≤ 2000000) (h : l = m) : slices_Equal_61 l m = some true := by
  obtain ⟨b, b1, b2⟩ := slices_Equal_61.val l m (by omega)
  rw [b1, b2.2 h]
theorem ScopeSays (p : Pg) (l : List ByteArray) (q : p.Q) (hl : l.length * 16 ≤ 140737488351232 ∧ ∀ s ∈ l, s.size ≤ 140737488351232) (hbb : p.bulk + ((l.map fun s => s.size + 1).sum + 1) ≤ 1048576) : roadlaw2_ScopeSays p l = some true := by
  have hb : p.bulk ≤ 1048576 := by omega
  have hll : l.length ≤ (l.map fun s => s.size + 1).sum := len_le_sum fun x _ => by omega
  have m1 := mks_len hb
  have m2 := cls_len hb
  have m3 := acs_len hb
  obtain ⟨b1, e1⟩ := small_val hb
  obtain ⟨r, r1, r2, r3⟩ := program_val hb
  unfold roadlaw2_ScopeSays
  rw [e1, Option.bind_some]
  cases b1 with
  | false => rw [if_neg (by decide)]
  | true =>
    have hL : roadref2_Lists p = some (mks p, cls p, acs p) := by
      unfold roadref2_Lists
      rw [(makers_val hb).2, Option.bind_some, (calls_val hb).2, Option.bind_some, (actors_val hb).2, Option.bind_some]
    rw [if_pos rfl, r1, Option.bind_some, scopeOf_val hb, Option.bind_some, hL, Option.bind_some]
    simp only
    rw [if_pos r2, if_pos r3, (makers_val hb).1, Option.bind_some, eq26 (by omega) rfl, Option.bind_some, if_pos rfl, (calls_val hb).1, Option.bind_some, eq26 (by omega) rfl, Option.bind_some, if_pos rfl, (actors_val hb).1, Option.bind_some, eq26 (by omega) rfl, Option.bind_some, if_pos rfl]
    unfold roadlaw2_ScopeSays.j0
    rw [bodies_val hb, Option.bind_some]
    have hbl := bs_len p
    refine (all_loop0 (l := bs p) (F := fun i => roadlaw2_ScopeSays.l0 l p (bs p) ((bs p).length : Int) i) (q := fun _ => true) (K := some false) (fun i hi => by
      have hx := bs_mem (List.getElem_mem hi)
      obtain ⟨x1, x2⟩ := xe_val hb (e := (bs p)[i]) (w := l) (by omega) (by omega)
      have hx2 : roadref2_ScopeExpr p l (bs p)[i] = some (T_roadref2_Wrong.mk (xe p l (bs p)[i]).1 (xe p l (bs p)[i]).2) := by
        unfold roadref2_ScopeExpr
        rw [x2, Option.bind_some]
      rw [roadlaw2_ScopeSays.l0_eq, if_pos (by omega), gi_at hi, Option.bind_some, x1, Option.bind_some, hx2, Option.bind_some, if_pos rfl, if_pos rfl, if_pos rfl, w_succ (by omega)])).trans ?_
    rw [if_pos (by simp), roadlaw2_ScopeSays.l0_eq, if_neg (nlt _)]
    have key : ∀ (d i : Nat), l.length - i = d → i ≤ l.length → roadlaw2_ScopeSays.l1 l (decide ¬ (l.take i).Nodup) l (l.length : Int) (i : Int) = roadlaw2_ScopeSays.l1 l (decide ¬ l.Nodup) l (l.length : Int) (l.length : Int) := by
      intro d
      induction d with
      | zero =>
        intro i hd hi
        obtain rfl : i = l.length := by omega
        rw [List.take_length]
      | succ d ih =>
        intro i hd hi
        have hlt : i < l.length := by omega
        have hn := take_nod hlt
        rw [roadlaw2_ScopeSays.l1_eq, if_pos (by omega), gi_at hlt, Option.bind_some, w_succ (by omega)]
        by_cases c : (l.take i).Nodup
        · rw [if_neg (by simp [c]), sls_take rfl hi, Option.bind_some, has_val _ (by rw [List.length_take]; omega), Option.bind_some]
          have : decide (l[i] ∈ l.take i) = decide ¬ (l.take (i + 1)).Nodup := by
            rw [decide_eq_decide, hn]
            exact ⟨fun h1 h2 => h2.2 h1, fun h1 => Classical.byContradiction fun h2 => h1 ⟨c, h2⟩⟩
          rw [this]
          exact ih (i + 1) (by omega) (by omega)
        · rw [if_pos (by simp [c])]
          have : true = decide ¬ (l.take (i + 1)).Nodup := (decide_eq_true (p := ¬ (l.take (i + 1)).Nodup) fun h => c (hn.1 h).1).symm
          rw [this]
          exact ih (i + 1) (by omega) (by omega)
    have k0 := key l.length 0 (by omega) (by omega)
    have e0 : decide (¬ (l.take 0).Nodup) = false := by simp
    rw [e0] at k0
    rw [show roadlaw2_ScopeSays.l1 l false l (l.length : Int) 0 = roadlaw2_ScopeSays.l1 l false l (l.length : Int) ((0 : Nat) : Int) from rfl, k0, roadlaw2_ScopeSays.l1_eq, if_neg (nlt _), twice_val (by omega), Option.bind_some, if_pos (by simp), twice_val (by simp), Option.bind_some]
    congr 1
end Go.Proofs.Ytmcfmmoaofileaa.Fw

end
section
namespace Go.Proofs.Ytmcfmmoaofileaa.scopeSays
open Go Go.Hw Go.ChangeShapes Go.WideShapes Go.ChangeAt Go.RowKit Go.Proofs.Ytmcfmmoaofileaa.Fw
open Go.ChangeMaps (open_string shut_string)
set_option linter.unusedVariables false
theorem own : ownKnob Try.prog.godebug = none := by kernel_rfl
theorem laidOut : laidOutB Try.prog = true := by kernel_rfl
theorem bulkAll {H : Type} : ∀ l : List (DataW H), Rows.uptoBulkAll l = (l.map Rows.uptoBulk).sum
  | [] => rfl
  | d :: r => by rw [Rows.uptoBulkAll, List.map_cons, List.sum_cons, bulkAll r]
theorem measure {H : Type} : Measure (Rows.uptoBulk (H := H)) where
  pos d := by
    cases d with
    | lit l => cases l <;> simp [Rows.uptoBulk]
    | _ => simp [Rows.uptoBulk]
  str b := by simp [Rows.uptoBulk]
  slice e s := by rw [Rows.uptoBulk, bulkAll]; omega
  agg ps := by rw [Rows.uptoBulk, bulkAll]; omega
set_option maxRecDepth 100000 in
theorem lifted (os : Os) (started : os.Started) (H : Type) (enc : TypeId × Value → H) :
    ReturnsInHanded {} Try.checked os 7 .any ((Rows.OpenSpec.upto Rows.scopeSaysSpec).pre6 enc Try.prog Try.f7 Rows.scopeSaysUptoRow.domain false) (Rows.scopeSaysSpec.post enc Try.prog Try.f7 false true false false) := by
  refine returnsInHanded_of_cond_sized (s := Rows.OpenSpec.upto Rows.scopeSaysSpec) (k := Rows.uptoSmall) (F := fun _ _ _ => 0) rfl (C := Try.checked) own started (by kernel_rfl) Try.func7
    (OpenSpec.witness (s := Rows.OpenSpec.upto Rows.scopeSaysSpec) (k := Rows.uptoSmall) rfl (enc := enc) (C := Try.checked) false ⟨#[], #[(.agg #[(.string (ByteArray.mk #[])), (.int .i64 (0 : Int)), (.slice none 0 0), (.slice none 0 0), (.slice none 0 0), (.slice none 0 0), (.slice none 0 0), (.slice none 0 0)]), (.slice none 0 0)], []⟩ 8 (by kernel_rfl) (by kernel_rfl) (by kernel_rfl) (x := ([DataW.agg [DataW.lit (.string []), DataW.lit (.int .i64 0), DataW.nil, DataW.nil, DataW.nil, DataW.nil, DataW.nil, DataW.nil], DataW.nil], [], [])) (by kernel_rfl) (by kernel_rfl) (by kernel_rfl)) ?_
  intro W base args ds gs before hval0 hW hcnd hkk hsz0 _
  have hsz : (DataW.weightsEach Try.prog (Try.f7.params.toList ++ (Rows.OpenSpec.upto Rows.scopeSaysSpec).bare.plain.varTypes Try.prog) (ds ++ gs)).all (· ≤ reachBytes) = true := hsz0
  have hval : ∀ (j : Nat) t v, Try.f7.params[j]? = some t → args[j]? = some v → Value.okWide Try.prog W .any base t v := hval0
  have hW' := hW
  obtain ⟨p, q, hA0, hV, rfl, hfz, hnd⟩ := hW
  have hA : DataW.TrodAll enc Try.prog W 0 (fun _ => true) true Try.f7.params.toList args.toList ds p := hA0
  rw [Try.params7] at hA hval hsz
  obtain ⟨v0, vs0, d0, ds0, p0, q0_, hargs, rfl, rfl, h0, r0_⟩ := trodAll_cons hA
  obtain ⟨v1, vs1, d1, ds1, p1, q1_, rfl, rfl, rfl, h1, r1_⟩ := trodAll_cons r0_
  obtain ⟨rfl, rfl, rfl⟩ := trodAll_nil r1_
  obtain rfl : args = #[v0, v1] := by cases args; simp_all
  obtain ⟨rfl, rfl⟩ := trodVars_none hV
  have hs : (DataW.weightsEach Try.prog [135, 136] [d0, d1]).all (· ≤ reachBytes) = true := hsz
  simp only [DataW.weightsEach, List.append_nil, List.all_append, Bool.and_eq_true] at hs
  obtain ⟨hw0, hw1⟩ := hs
  have k0 := h0
  have lt0 : ∀ x ∈ p0, x.block < W.heap.size := by obtain ⟨m, hm⟩ := k0; exact DataW.trod_lt m _ _ _ hm
  obtain ⟨cs0, rfl⟩ : ∃ cs : List Value, v0 = .agg cs.toArray := okWide_agg_of (show shapeOf Try.prog 135 = some [(9, 0), (3, 1), (128, 2), (129, 3), (130, 4), (131, 5), (132, 6), (133, 7)] by kernel_rfl) (hval 0 135 v0 rfl rfl)
  obtain ⟨fuel0, hf0⟩ := h0
  obtain ⟨x0, e0, q0⟩ := T_api_Program.tells fuel0 _ _ hf0 hw0
  have b0 := (T_api_Program.kt (N := fuel0 + 1) (enc := enc) (W := W) measure) fuel0 (Nat.lt_succ_self _) _ _ hf0 _ e0
  have e0 : T_api_Program.E W.heap x0 cs0 := by simpa [Value.cells] using e0
  have k1 := h1
  have lt1 : ∀ x ∈ p1, x.block < W.heap.size := by obtain ⟨m, hm⟩ := k1; exact DataW.trod_lt m _ _ _ hm
  obtain ⟨A1, n1, c1, rfl⟩ := okWide_slice (show Try.prog.underlying 136 = some (.slice 9) by kernel_rfl) (hval 1 136 v1 rfl rfl)
  obtain ⟨fuel1, hf1⟩ := h1
  obtain ⟨l1, E1, q1⟩ := (tells_sliceL (t := 136) (e := 9) (sz := 1) (B := 16) (by kernel_rfl) (by kernel_rfl) (by kernel_rfl) (tells_strL (t := 9) (by kernel_rfl))) fuel1 _ _ hf1 hw1
  have b1 := (let M := measure (H := H); (kt_slice M (t := 136) (e := 9) (sz := 1) (by kernel_rfl) (by kernel_rfl) (kt_str (t := 9) M (by kernel_rfl))) : KT (fuel1 + 1) Rows.uptoBulk enc Try.prog W 136 (eRow 1 eStr) (fun l : (List ByteArray) => (List.map (fun s : ByteArray => s.size + 1) l).sum + 1)) fuel1 (Nat.lt_succ_self _) _ _ hf1 _ E1
  obtain ⟨A1', c1', hcs1, hle1, r1⟩ := E1
  simp only [Value.cells, List.cons.injEq, Value.slice.injEq, and_true] at hcs1
  obtain ⟨rfl, rfl, rfl⟩ := hcs1
  have hb : (T_api_Program.bulk x0) + ((fun l => (List.map (fun s : ByteArray => s.size + 1) l).sum + 1) l1) ≤ 1048576 := by
    have hk : Rows.uptoBulkAll ([d0, d1] ++ []) ≤ 1048576 := of_decide_eq_true hkk
    have := b0
    have := b1
    simp only [List.append_nil, Rows.uptoBulkAll] at hk
    simp only at *
    omega
  refine ((Run.mono (R' := fun v h' => v = Value.bool true ∧ Ext W.heap h') (Fw.roadlaw2_ScopeSays.walk (W := No) (Hold.start (Sub.refl _)) e0 rfl hle1 r1 (Fw.ScopeSays x0 l1 q0 q1 hb)) (fun v h' hp => by obtain ⟨m', st, hv⟩ := hp; exact ⟨hv, st.S.ext⟩)) W rfl).mono fun e W' he => ?_
  obtain ⟨v, rfl, ⟨rfl, ext⟩, same⟩ := he
  have bel := below_of ext same
  exact ⟨_, rfl, _, _, _, [], _, [], hW', trodAll_mk1 (shut_bool (show Try.prog.underlying 4 = some .bool by kernel_rfl) _), (trodAll_cons_mk (Below.trod laidOut (by kernel_rfl) (of_decide_eq_true (by kernel_rfl)) k0 bel lt0) (trodAll_cons_mk (Below.trod laidOut (by kernel_rfl) (of_decide_eq_true (by kernel_rfl)) k1 bel lt1) trodAll_mk0)), rfl, bel.frame _, fun h => by cases h⟩
theorem over : Rows.scopeSaysUptoRow.holds Try.pinned (Rows.OpenSpec.upto Rows.scopeSaysSpec) :=
  OpenClaim.holds_of_cond 7 Try.f7 rfl rfl rfl rfl rfl rfl rfl ⟨rfl, rfl, rfl, rfl, rfl⟩ rfl rfl rfl rfl rfl (by kernel_rfl) Try.func7 (by kernel_rfl)
    (of_decide_eq_true (by kernel_rfl)) (by unfold Func.isWrapper; first | (rw [if_pos (by decide +kernel)]; kernel_rfl) | (rw [if_neg (by decide +kernel)]; exact ⟨rfl, rfl⟩))
    (fun os started H enc _ F => lifted os started H enc)
end Go.Proofs.Ytmcfmmoaofileaa.scopeSays
namespace Go.Proofs.Ytmcfmmoaofileaa
theorem scopeSays_holds : Rows.ScopeSaysUptoSaid := scopeSays.over
end Go.Proofs.Ytmcfmmoaofileaa

end
