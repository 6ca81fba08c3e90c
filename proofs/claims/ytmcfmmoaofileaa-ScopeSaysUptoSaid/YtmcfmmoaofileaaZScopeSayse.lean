/- Part 5: what the law ScopeSays needs, put together out of texts of this session. -/
import Derived.Test.YtmcfmmoaofileaaZScopeSaysd
section
namespace Go.Proofs.Ytmcfmmoaofileaa.Fw
open Go Go.Hw Go.Proofs
set_option linter.unusedVariables false
set_option maxRecDepth 100000
set_option synthInstance.maxHeartbeats 400000
set_option synthInstance.maxSize 1000
def scope_Expr.post (W : Nat → Prop) (h0 m0 : Heap) (r : Int × Int) (v : Value) (h : Heap) : Prop := ∃ m , Hold W h0 m0 h m [] ∧ v = .tuple #[.int .i64 r.1, .int .i64 r.2]
inductive scope_Expr_k.Pt where
  | f (y_0 : T_api_Program) (a_1 : List ByteArray) (y_2 : T_api_Expr)
  | j0 (a_1 : List ByteArray) (y_3 : T_api_Program) (y_5 : T_api_Expr) (b_8 : Bool)
  | l0 (a_1 : List ByteArray) (y_3 : T_api_Program) (y_5 : T_api_Expr) (b_8 : Bool) (a_56 : List T_api_Arm) (x_57 : Int) (x_58 : Int)
  | l1 (a_1 : List ByteArray) (y_3 : T_api_Program) (y_5 : T_api_Expr) (a_82 : List T_api_Expr) (x_83 : Int) (x_84 : Int)
  | j2 (a_1 : List ByteArray) (y_3 : T_api_Program) (y_5 : T_api_Expr) (y_12 : T_api_Expr) (a_13 : List ByteArray) (a_82 : List T_api_Expr) (x_83 : Int) (x_84 : Int) (b_96 : Bool)
  | j1 (a_1 : List ByteArray) (y_3 : T_api_Program) (y_5 : T_api_Expr) (y_12 : T_api_Expr) (a_13 : List ByteArray) (a_82 : List T_api_Expr) (x_83 : Int) (x_84 : Int)
  | j3 (a_1 : List ByteArray) (y_3 : T_api_Program) (y_5 : T_api_Expr) (y_12 : T_api_Expr) (a_13 : List ByteArray) (a_82 : List T_api_Expr) (x_83 : Int) (x_84 : Int)
  | l2 (a_1 : List ByteArray) (y_3 : T_api_Program) (a_124 : List T_api_Arm) (x_125 : Int) (x_126 : Int)
noncomputable def scope_Expr_k.body (go : (p : scope_Expr_k.Pt) → Option (Int × Int)) : (p : scope_Expr_k.Pt) → Option (Int × Int)
  | .f y_0 a_1 y_2 => if y_2.Kind = (5 : Int) then (Option.bind (slices_Contains_68 a_1 y_2.Text) fun y9 => (go (.j0 a_1 y_0 y_2 y9))) else (if y_2.Kind = (9 : Int) then (Option.bind (scope_Callable y_0) fun y16 => Option.bind (slices_Contains_68 y16 y_2.Text) fun y28 => (go (.j0 a_1 y_0 y_2 y28))) else (if y_2.Kind = (12 : Int) then (Option.bind (scope_Makers y_0) fun y42 => Option.bind (slices_Contains_68 y42 y_2.Text) fun y54 => (go (.j0 a_1 y_0 y_2 y54))) else (if y_2.Kind = (14 : Int) then (Option.bind (scope_Actors y_0) fun y68 => Option.bind (slices_Contains_68 y68 y_2.Text) fun y80 => (go (.j0 a_1 y_0 y_2 y80))) else (if y_2.Kind = (10 : Int) then (Option.bind (scope_Twice y_2.Names) fun y99 => (go (.j0 a_1 y_0 y_2 (!y99)))) else ((go (.j0 a_1 y_0 y_2 true)))))))
  | .j0 a_1 y_3 y_5 b_8 => (go (.l0 a_1 y_3 y_5 b_8 y_5.Arms (((List.length y_5.Arms) : Nat) : Int) (0 : Int)))
  | .l0 a_1 y_3 y_5 b_8 a_56 x_57 x_58 => if x_58 < x_57 then (Option.bind (gi a_56 x_58) fun y1 => if b_8 = true then (Option.bind (tree_Bound y1.Pat) fun y14 => Option.bind (scope_Twice y14) fun y26 => if y26 = true then ((go (.l0 a_1 y_3 y_5 false a_56 x_57 (IntKind.wrap .i64 (x_58 + (1 : Int)))))) else (Option.bind (scope_made y_3 y1.Pat) fun y40 => (go (.l0 a_1 y_3 y_5 y40 a_56 x_57 (IntKind.wrap .i64 (x_58 + (1 : Int))))))) else ((go (.l0 a_1 y_3 y_5 false a_56 x_57 (IntKind.wrap .i64 (x_58 + (1 : Int))))))) else (if b_8 = true then ((go (.l1 a_1 y_3 y_5 y_5.Args (((List.length y_5.Args) : Nat) : Int) (0 : Int)))) else (some ((11 : Int), y_5.At)))
  | .l1 a_1 y_3 y_5 a_82 x_83 x_84 => if x_84 < x_83 then (Option.bind (gi a_82 x_84) fun y1 => if y_5.Kind = (6 : Int) then ((go (.j2 a_1 y_3 y_5 y1 a_1 a_82 x_83 x_84 (x_84 == (1 : Int))))) else ((go (.j2 a_1 y_3 y_5 y1 a_1 a_82 x_83 x_84 false)))) else ((go (.l2 a_1 y_3 y_5.Arms (((List.length y_5.Arms) : Nat) : Int) (0 : Int))))
  | .j2 a_1 y_3 y_5 y_12 a_13 a_82 x_83 x_84 b_96 => if b_96 = true then (Option.bind (slices_Clone_115 a_1) fun y1 => Option.bind (ap 16 y1 ([y_5.Text] : List ByteArray)) fun l17 => (go (.j1 a_1 y_3 y_5 y_12 l17 a_82 x_83 x_84))) else ((go (.j1 a_1 y_3 y_5 y_12 a_13 a_82 x_83 x_84)))
  | .j1 a_1 y_3 y_5 y_12 a_13 a_82 x_83 x_84 => if y_5.Kind = (10 : Int) then (Option.bind (slices_Clone_115 a_1) fun y6 => Option.bind (ap 16 y6 y_5.Names) fun l18 => (go (.j3 a_1 y_3 y_5 y_12 l18 a_82 x_83 x_84))) else ((go (.j3 a_1 y_3 y_5 y_12 a_13 a_82 x_83 x_84)))
  | .j3 a_1 y_3 y_5 y_12 a_13 a_82 x_83 x_84 => Option.bind ((go (.f y_3 a_13 y_12))) fun y1 => if y1.1 = (0 : Int) then ((go (.l1 a_1 y_3 y_5 a_82 x_83 (IntKind.wrap .i64 (x_84 + (1 : Int)))))) else (some (y1.1, y1.2))
  | .l2 a_1 y_3 a_124 x_125 x_126 => if x_126 < x_125 then (Option.bind (gi a_124 x_126) fun y1 => Option.bind (slices_Clone_115 a_1) fun y14 => Option.bind (tree_Bound y1.Pat) fun y26 => Option.bind (ap 16 y14 y26) fun l38 => Option.bind ((go (.f y_3 l38 y1.Body))) fun y46 => if y46.1 = (0 : Int) then ((go (.l2 a_1 y_3 a_124 x_125 (IntKind.wrap .i64 (x_126 + (1 : Int)))))) else (some (y46.1, y46.2))) else (some ((0 : Int), (0 : Int)))
theorem scope_Expr_k.mono : MonoF (β := fun _ => (Int × Int)) scope_Expr_k.body := fun f g hfg p => match p with
  | .f y_0 a_1 y_2 => LeO.ite (LeO.bind (LeO.refl _) fun y9 => (hfg _)) (LeO.ite (LeO.bind (LeO.refl _) fun y16 => LeO.bind (LeO.refl _) fun y28 => (hfg _)) (LeO.ite (LeO.bind (LeO.refl _) fun y42 => LeO.bind (LeO.refl _) fun y54 => (hfg _)) (LeO.ite (LeO.bind (LeO.refl _) fun y68 => LeO.bind (LeO.refl _) fun y80 => (hfg _)) (LeO.ite (LeO.bind (LeO.refl _) fun y99 => (hfg _)) ((hfg _))))))
  | .j0 a_1 y_3 y_5 b_8 => (hfg _)
  | .l0 a_1 y_3 y_5 b_8 a_56 x_57 x_58 => LeO.ite (LeO.bind (LeO.refl _) fun y1 => LeO.ite (LeO.bind (LeO.refl _) fun y14 => LeO.bind (LeO.refl _) fun y26 => LeO.ite ((hfg _)) (LeO.bind (LeO.refl _) fun y40 => (hfg _))) ((hfg _))) (LeO.ite ((hfg _)) (LeO.refl _))
  | .l1 a_1 y_3 y_5 a_82 x_83 x_84 => LeO.ite (LeO.bind (LeO.refl _) fun y1 => LeO.ite ((hfg _)) ((hfg _))) ((hfg _))
  | .j2 a_1 y_3 y_5 y_12 a_13 a_82 x_83 x_84 b_96 => LeO.ite (LeO.bind (LeO.refl _) fun y1 => LeO.bind (LeO.refl _) fun l17 => (hfg _)) ((hfg _))
  | .j1 a_1 y_3 y_5 y_12 a_13 a_82 x_83 x_84 => LeO.ite (LeO.bind (LeO.refl _) fun y6 => LeO.bind (LeO.refl _) fun l18 => (hfg _)) ((hfg _))
  | .j3 a_1 y_3 y_5 y_12 a_13 a_82 x_83 x_84 => LeO.bind ((hfg _)) fun y1 => LeO.ite ((hfg _)) (LeO.refl _)
  | .l2 a_1 y_3 a_124 x_125 x_126 => LeO.ite (LeO.bind (LeO.refl _) fun y1 => LeO.bind (LeO.refl _) fun y14 => LeO.bind (LeO.refl _) fun y26 => LeO.bind (LeO.refl _) fun l38 => LeO.bind ((hfg _)) fun y46 => LeO.ite ((hfg _)) (LeO.refl _)) (LeO.refl _)
noncomputable def scope_Expr_k.go (p : scope_Expr_k.Pt) : Option (Int × Int) := fixF (β := fun _ => (Int × Int)) scope_Expr_k.body p
noncomputable def scope_Expr (y_0 a_1 y_2) := scope_Expr_k.go (.f y_0 a_1 y_2)
noncomputable def scope_Expr.j0 (a_1 y_3 y_5 b_8) := scope_Expr_k.go (.j0 a_1 y_3 y_5 b_8)
noncomputable def scope_Expr.l0 (a_1 y_3 y_5 b_8 a_56 x_57 x_58) := scope_Expr_k.go (.l0 a_1 y_3 y_5 b_8 a_56 x_57 x_58)
noncomputable def scope_Expr.l1 (a_1 y_3 y_5 a_82 x_83 x_84) := scope_Expr_k.go (.l1 a_1 y_3 y_5 a_82 x_83 x_84)
noncomputable def scope_Expr.j2 (a_1 y_3 y_5 y_12 a_13 a_82 x_83 x_84 b_96) := scope_Expr_k.go (.j2 a_1 y_3 y_5 y_12 a_13 a_82 x_83 x_84 b_96)
noncomputable def scope_Expr.j1 (a_1 y_3 y_5 y_12 a_13 a_82 x_83 x_84) := scope_Expr_k.go (.j1 a_1 y_3 y_5 y_12 a_13 a_82 x_83 x_84)
noncomputable def scope_Expr.j3 (a_1 y_3 y_5 y_12 a_13 a_82 x_83 x_84) := scope_Expr_k.go (.j3 a_1 y_3 y_5 y_12 a_13 a_82 x_83 x_84)
noncomputable def scope_Expr.l2 (a_1 y_3 a_124 x_125 x_126) := scope_Expr_k.go (.l2 a_1 y_3 a_124 x_125 x_126)
theorem scope_Expr_eq (y_0 a_1 y_2) : scope_Expr y_0 a_1 y_2 = if y_2.Kind = (5 : Int) then (Option.bind (slices_Contains_68 a_1 y_2.Text) fun y9 => (scope_Expr.j0 a_1 y_0 y_2 y9)) else (if y_2.Kind = (9 : Int) then (Option.bind (scope_Callable y_0) fun y16 => Option.bind (slices_Contains_68 y16 y_2.Text) fun y28 => (scope_Expr.j0 a_1 y_0 y_2 y28)) else (if y_2.Kind = (12 : Int) then (Option.bind (scope_Makers y_0) fun y42 => Option.bind (slices_Contains_68 y42 y_2.Text) fun y54 => (scope_Expr.j0 a_1 y_0 y_2 y54)) else (if y_2.Kind = (14 : Int) then (Option.bind (scope_Actors y_0) fun y68 => Option.bind (slices_Contains_68 y68 y_2.Text) fun y80 => (scope_Expr.j0 a_1 y_0 y_2 y80)) else (if y_2.Kind = (10 : Int) then (Option.bind (scope_Twice y_2.Names) fun y99 => (scope_Expr.j0 a_1 y_0 y_2 (!y99))) else ((scope_Expr.j0 a_1 y_0 y_2 true)))))) := fixF_eq scope_Expr_k.mono _
theorem scope_Expr.j0_eq (a_1 y_3 y_5 b_8) : scope_Expr.j0 a_1 y_3 y_5 b_8 = (scope_Expr.l0 a_1 y_3 y_5 b_8 y_5.Arms (((List.length y_5.Arms) : Nat) : Int) (0 : Int)) := fixF_eq scope_Expr_k.mono _
theorem scope_Expr.l0_eq (a_1 y_3 y_5 b_8 a_56 x_57 x_58) : scope_Expr.l0 a_1 y_3 y_5 b_8 a_56 x_57 x_58 = if x_58 < x_57 then (Option.bind (gi a_56 x_58) fun y1 => if b_8 = true then (Option.bind (tree_Bound y1.Pat) fun y14 => Option.bind (scope_Twice y14) fun y26 => if y26 = true then ((scope_Expr.l0 a_1 y_3 y_5 false a_56 x_57 (IntKind.wrap .i64 (x_58 + (1 : Int))))) else (Option.bind (scope_made y_3 y1.Pat) fun y40 => (scope_Expr.l0 a_1 y_3 y_5 y40 a_56 x_57 (IntKind.wrap .i64 (x_58 + (1 : Int)))))) else ((scope_Expr.l0 a_1 y_3 y_5 false a_56 x_57 (IntKind.wrap .i64 (x_58 + (1 : Int)))))) else (if b_8 = true then ((scope_Expr.l1 a_1 y_3 y_5 y_5.Args (((List.length y_5.Args) : Nat) : Int) (0 : Int))) else (some ((11 : Int), y_5.At))) := fixF_eq scope_Expr_k.mono _
theorem scope_Expr.l1_eq (a_1 y_3 y_5 a_82 x_83 x_84) : scope_Expr.l1 a_1 y_3 y_5 a_82 x_83 x_84 = if x_84 < x_83 then (Option.bind (gi a_82 x_84) fun y1 => if y_5.Kind = (6 : Int) then ((scope_Expr.j2 a_1 y_3 y_5 y1 a_1 a_82 x_83 x_84 (x_84 == (1 : Int)))) else ((scope_Expr.j2 a_1 y_3 y_5 y1 a_1 a_82 x_83 x_84 false))) else ((scope_Expr.l2 a_1 y_3 y_5.Arms (((List.length y_5.Arms) : Nat) : Int) (0 : Int))) := fixF_eq scope_Expr_k.mono _
theorem scope_Expr.j2_eq (a_1 y_3 y_5 y_12 a_13 a_82 x_83 x_84 b_96) : scope_Expr.j2 a_1 y_3 y_5 y_12 a_13 a_82 x_83 x_84 b_96 = if b_96 = true then (Option.bind (slices_Clone_115 a_1) fun y1 => Option.bind (ap 16 y1 ([y_5.Text] : List ByteArray)) fun l17 => (scope_Expr.j1 a_1 y_3 y_5 y_12 l17 a_82 x_83 x_84)) else ((scope_Expr.j1 a_1 y_3 y_5 y_12 a_13 a_82 x_83 x_84)) := fixF_eq scope_Expr_k.mono _
theorem scope_Expr.j1_eq (a_1 y_3 y_5 y_12 a_13 a_82 x_83 x_84) : scope_Expr.j1 a_1 y_3 y_5 y_12 a_13 a_82 x_83 x_84 = if y_5.Kind = (10 : Int) then (Option.bind (slices_Clone_115 a_1) fun y6 => Option.bind (ap 16 y6 y_5.Names) fun l18 => (scope_Expr.j3 a_1 y_3 y_5 y_12 l18 a_82 x_83 x_84)) else ((scope_Expr.j3 a_1 y_3 y_5 y_12 a_13 a_82 x_83 x_84)) := fixF_eq scope_Expr_k.mono _
theorem scope_Expr.j3_eq (a_1 y_3 y_5 y_12 a_13 a_82 x_83 x_84) : scope_Expr.j3 a_1 y_3 y_5 y_12 a_13 a_82 x_83 x_84 = Option.bind ((scope_Expr y_3 a_13 y_12)) fun y1 => if y1.1 = (0 : Int) then ((scope_Expr.l1 a_1 y_3 y_5 a_82 x_83 (IntKind.wrap .i64 (x_84 + (1 : Int))))) else (some (y1.1, y1.2)) := fixF_eq scope_Expr_k.mono _
theorem scope_Expr.l2_eq (a_1 y_3 a_124 x_125 x_126) : scope_Expr.l2 a_1 y_3 a_124 x_125 x_126 = if x_126 < x_125 then (Option.bind (gi a_124 x_126) fun y1 => Option.bind (slices_Clone_115 a_1) fun y14 => Option.bind (tree_Bound y1.Pat) fun y26 => Option.bind (ap 16 y14 y26) fun l38 => Option.bind ((scope_Expr y_3 l38 y1.Body)) fun y46 => if y46.1 = (0 : Int) then ((scope_Expr.l2 a_1 y_3 a_124 x_125 (IntKind.wrap .i64 (x_126 + (1 : Int))))) else (some (y46.1, y46.2))) else (some ((0 : Int), (0 : Int))) := fixF_eq scope_Expr_k.mono _
def scope_Expr_k.I : (p : scope_Expr_k.Pt) → (Int × Int) → Prop
  | .f y_0 a_1 y_2, r => ∀ {W h m cs_0 A_1 n_1 c_1 cs_2} (O : Hold W h m h m []) (e_0 : T_api_Program.E m y_0 cs_0) (ne_1 : n_1 = List.length a_1) (k_1 : List.length a_1 ≤ c_1) (r_1 : Rd 1 eStr m A_1 a_1) (e_2 : T_api_Expr.E m y_2 cs_2), Run Try.prog 66 #[Value.agg cs_0.toArray, Value.slice A_1 n_1 c_1, Value.agg cs_2.toArray] h (scope_Expr.post W h m r)
  | .j0 a_1 y_3 y_5 b_8, r => ∀ {W h0 m0 h m A_1 n_1 c_1 bk_3 cs_3 bk_5 cs_5} (O : Hold W h0 m0 h m [rV bk_3 135 cs_3, rV bk_5 152 cs_5]) (ne_1 : n_1 = List.length a_1) (k_1 : List.length a_1 ≤ c_1) (r_1 : Rd 1 eStr m A_1 a_1) (e_3 : T_api_Program.E m y_3 cs_3) (e_5 : T_api_Expr.E m y_5 cs_5), f66.j0 (scope_Expr.post W h0 m0 r) A_1 n_1 c_1 (⟨bk_3, 0, none⟩ : Addr) (⟨bk_5, 0, none⟩ : Addr) b_8 h
  | .l0 a_1 y_3 y_5 b_8 a_56 x_57 x_58, r => ∀ {W h0 m0 h m A_1 n_1 c_1 bk_3 cs_3 bk_5 cs_5 A_56 n_56 c_56} (O : Hold W h0 m0 h m [rV bk_3 135 cs_3, rV bk_5 152 cs_5]) (ne_1 : n_1 = List.length a_1) (k_1 : List.length a_1 ≤ c_1) (r_1 : Rd 1 eStr m A_1 a_1) (e_3 : T_api_Program.E m y_3 cs_3) (e_5 : T_api_Expr.E m y_5 cs_5) (ne_56 : n_56 = List.length a_56) (k_56 : List.length a_56 ≤ c_56) (r_56 : Rd 12 T_api_Arm.E m A_56 a_56), f66.l0 (scope_Expr.post W h0 m0 r) A_1 n_1 c_1 (⟨bk_3, 0, none⟩ : Addr) (⟨bk_5, 0, none⟩ : Addr) b_8 A_56 n_56 c_56 x_57 x_58 h
  | .l1 a_1 y_3 y_5 a_82 x_83 x_84, r => ∀ {W h0 m0 h m A_1 n_1 c_1 bk_3 cs_3 bk_5 cs_5 A_82 n_82 c_82} (O : Hold W h0 m0 h m [rV bk_3 135 cs_3, rV bk_5 152 cs_5]) (ne_1 : n_1 = List.length a_1) (k_1 : List.length a_1 ≤ c_1) (r_1 : Rd 1 eStr m A_1 a_1) (e_3 : T_api_Program.E m y_3 cs_3) (e_5 : T_api_Expr.E m y_5 cs_5) (ne_82 : n_82 = List.length a_82) (k_82 : List.length a_82 ≤ c_82) (r_82 : Rd 8 T_api_Expr.E m A_82 a_82), f66.l1 (scope_Expr.post W h0 m0 r) A_1 n_1 c_1 (⟨bk_3, 0, none⟩ : Addr) (⟨bk_5, 0, none⟩ : Addr) A_82 n_82 c_82 x_83 x_84 h
  | .j2 a_1 y_3 y_5 y_12 a_13 a_82 x_83 x_84 b_96, r => ∀ {W h0 m0 h m A_1 n_1 c_1 bk_3 cs_3 bk_5 cs_5 bk_12 cs_12 A_13 n_13 c_13 A_82 n_82 c_82} (O : Hold W h0 m0 h m [rV bk_3 135 cs_3, rV bk_5 152 cs_5, rV bk_12 152 cs_12]) (ne_1 : n_1 = List.length a_1) (k_1 : List.length a_1 ≤ c_1) (r_1 : Rd 1 eStr m A_1 a_1) (e_3 : T_api_Program.E m y_3 cs_3) (e_5 : T_api_Expr.E m y_5 cs_5) (e_12 : T_api_Expr.E m y_12 cs_12) (ne_13 : n_13 = List.length a_13) (k_13 : List.length a_13 ≤ c_13) (r_13 : Rd 1 eStr m A_13 a_13) (ne_82 : n_82 = List.length a_82) (k_82 : List.length a_82 ≤ c_82) (r_82 : Rd 8 T_api_Expr.E m A_82 a_82), f66.j2 (scope_Expr.post W h0 m0 r) A_1 n_1 c_1 (⟨bk_3, 0, none⟩ : Addr) (⟨bk_5, 0, none⟩ : Addr) (⟨bk_12, 0, none⟩ : Addr) A_13 n_13 c_13 A_82 n_82 c_82 x_83 x_84 b_96 h
  | .j1 a_1 y_3 y_5 y_12 a_13 a_82 x_83 x_84, r => ∀ {W h0 m0 h m A_1 n_1 c_1 bk_3 cs_3 bk_5 cs_5 bk_12 cs_12 A_13 n_13 c_13 A_82 n_82 c_82} (O : Hold W h0 m0 h m [rV bk_3 135 cs_3, rV bk_5 152 cs_5, rV bk_12 152 cs_12]) (ne_1 : n_1 = List.length a_1) (k_1 : List.length a_1 ≤ c_1) (r_1 : Rd 1 eStr m A_1 a_1) (e_3 : T_api_Program.E m y_3 cs_3) (e_5 : T_api_Expr.E m y_5 cs_5) (e_12 : T_api_Expr.E m y_12 cs_12) (ne_13 : n_13 = List.length a_13) (k_13 : List.length a_13 ≤ c_13) (r_13 : Rd 1 eStr m A_13 a_13) (ne_82 : n_82 = List.length a_82) (k_82 : List.length a_82 ≤ c_82) (r_82 : Rd 8 T_api_Expr.E m A_82 a_82), f66.j1 (scope_Expr.post W h0 m0 r) A_1 n_1 c_1 (⟨bk_3, 0, none⟩ : Addr) (⟨bk_5, 0, none⟩ : Addr) (⟨bk_12, 0, none⟩ : Addr) A_13 n_13 c_13 A_82 n_82 c_82 x_83 x_84 h
  | .j3 a_1 y_3 y_5 y_12 a_13 a_82 x_83 x_84, r => ∀ {W h0 m0 h m A_1 n_1 c_1 bk_3 cs_3 bk_5 cs_5 bk_12 cs_12 A_13 n_13 c_13 A_82 n_82 c_82} (O : Hold W h0 m0 h m [rV bk_3 135 cs_3, rV bk_5 152 cs_5, rV bk_12 152 cs_12]) (ne_1 : n_1 = List.length a_1) (k_1 : List.length a_1 ≤ c_1) (r_1 : Rd 1 eStr m A_1 a_1) (e_3 : T_api_Program.E m y_3 cs_3) (e_5 : T_api_Expr.E m y_5 cs_5) (e_12 : T_api_Expr.E m y_12 cs_12) (ne_13 : n_13 = List.length a_13) (k_13 : List.length a_13 ≤ c_13) (r_13 : Rd 1 eStr m A_13 a_13) (ne_82 : n_82 = List.length a_82) (k_82 : List.length a_82 ≤ c_82) (r_82 : Rd 8 T_api_Expr.E m A_82 a_82), f66.j3 (scope_Expr.post W h0 m0 r) A_1 n_1 c_1 (⟨bk_3, 0, none⟩ : Addr) (⟨bk_5, 0, none⟩ : Addr) (⟨bk_12, 0, none⟩ : Addr) A_13 n_13 c_13 A_82 n_82 c_82 x_83 x_84 h
  | .l2 a_1 y_3 a_124 x_125 x_126, r => ∀ {W h0 m0 h m A_1 n_1 c_1 bk_3 cs_3 A_124 n_124 c_124} (O : Hold W h0 m0 h m [rV bk_3 135 cs_3]) (ne_1 : n_1 = List.length a_1) (k_1 : List.length a_1 ≤ c_1) (r_1 : Rd 1 eStr m A_1 a_1) (e_3 : T_api_Program.E m y_3 cs_3) (ne_124 : n_124 = List.length a_124) (k_124 : List.length a_124 ≤ c_124) (r_124 : Rd 12 T_api_Arm.E m A_124 a_124), f66.l2 (scope_Expr.post W h0 m0 r) A_1 n_1 c_1 (⟨bk_3, 0, none⟩ : Addr) A_124 n_124 c_124 x_125 x_126 h
set_option maxHeartbeats 4000000 in
theorem scope_Expr_k.step_f (go : (p : scope_Expr_k.Pt) → Option (Int × Int)) (ih : ∀ p r, go p = some r → scope_Expr_k.I p r) (y_0 a_1 y_2) (r) (e : scope_Expr_k.body go (.f y_0 a_1 y_2) = some r) : scope_Expr_k.I (.f y_0 a_1 y_2) r := by
  unfold scope_Expr_k.body at e
  intro W h m cs_0 A_1 n_1 c_1 cs_2 O e_0 ne_1 k_1 r_1 e_2
  subst ne_1
  refine f66.run ?_
  unfold f66.runT
  refine O.new fun h1 x2 O3 => ?_
  refine O3.new fun h5 x6 O7 => ?_
  refine ⟨_, ld0 (Sub.refl _) (O7.all 1 rfl) (T_api_Expr.g0 e_2), _, rfl, ?_⟩
  refine split_eq_e e (fun c111 e => ?_) (fun c111 e => ?_)
  · refine ⟨_, ldk (k := 2) (Sub.refl _) (O7.all 1 rfl) (T_api_Expr.g2 e_2), _, rfl, ?_⟩
    obtain ⟨y9, g10, e⟩ := bind_e e
    refine (slices_Contains_68.walk (Hold.start (W := No) O7.s) rfl k_1 r_1 g10).mono ?_
    rintro _ h11 ⟨m12, Q13, rfl⟩
    have O15 := Hold.nm (O7.retC Q13 vfs_nil)
    refine ⟨_, rfl, ?_⟩
    exact (ih _ _ e) (O15.pick [0, 1]).nm rfl k_1 r_1 e_0 e_2
  · refine split_eq_e e (fun c110 e => ?_) (fun c110 e => ?_)
    · refine ⟨_, ldAn (Sub.refl _) (O7.all 0 rfl) (T_api_Program.T.len _ _ _ e_0), ?_⟩
      refine ⟨_, ldk (k := 2) (Sub.refl _) (O7.all 1 rfl) (T_api_Expr.g2 e_2), _, rfl, ?_⟩
      obtain ⟨y16, g17, e⟩ := bind_e e
      refine (scope_Callable.walk (Hold.start (W := No) O7.s) e_0 g17).mono ?_
      rintro _ h18 ⟨m19, A22, n23, c24, Q20, rfl, ne25⟩
      have O27 := Hold.nm (O7.retC Q20 (vfs_cons (rR_vf (aE_vf (fun _ _ _ _ h => h))) vfs_nil))
      subst ne25
      refine ⟨_, _, _, rfl, ?_⟩
      refine ⟨Q20.S.ext, ?_⟩
      obtain ⟨y28, g29, e⟩ := bind_e e
      obtain ⟨m34, u35, s40, ⟨⟨r38, k39⟩, _⟩, B36, C37⟩ := O27.lend0 [2]
      replace r38 : Rd 1 eStr m34 A22 y16 := r38
      replace k39 : List.length y16 ≤ c24 := k39
      refine (slices_Contains_68.walk (Hold.start (W := No) s40) rfl k39 r38 g29).mono ?_
      rintro _ h30 ⟨m31, Q32, rfl⟩
      have O41 := Hold.nm (C37 Q32 vfs_nil)
      refine ⟨_, rfl, ?_⟩
      exact (ih _ _ e) (O41.pick [0, 1]).nm rfl k_1 r_1 e_0 e_2
    · refine split_eq_e e (fun c109 e => ?_) (fun c109 e => ?_)
      · refine ⟨_, ldAn (Sub.refl _) (O7.all 0 rfl) (T_api_Program.T.len _ _ _ e_0), ?_⟩
        refine ⟨_, ldk (k := 2) (Sub.refl _) (O7.all 1 rfl) (T_api_Expr.g2 e_2), _, rfl, ?_⟩
        obtain ⟨y42, g43, e⟩ := bind_e e
        refine (scope_Makers.walk (Hold.start (W := No) O7.s) e_0 g43).mono ?_
        rintro _ h44 ⟨m45, A48, n49, c50, Q46, rfl, ne51⟩
        have O53 := Hold.nm (O7.retC Q46 (vfs_cons (rR_vf (aE_vf (fun _ _ _ _ h => h))) vfs_nil))
        subst ne51
        refine ⟨_, _, _, rfl, ?_⟩
        refine ⟨Q46.S.ext, ?_⟩
        obtain ⟨y54, g55, e⟩ := bind_e e
        obtain ⟨m60, u61, s66, ⟨⟨r64, k65⟩, _⟩, B62, C63⟩ := O53.lend0 [2]
        replace r64 : Rd 1 eStr m60 A48 y42 := r64
        replace k65 : List.length y42 ≤ c50 := k65
        refine (slices_Contains_68.walk (Hold.start (W := No) s66) rfl k65 r64 g55).mono ?_
        rintro _ h56 ⟨m57, Q58, rfl⟩
        have O67 := Hold.nm (C63 Q58 vfs_nil)
        refine ⟨_, rfl, ?_⟩
        exact (ih _ _ e) (O67.pick [0, 1]).nm rfl k_1 r_1 e_0 e_2
      · refine split_eq_e e (fun c108 e => ?_) (fun c108 e => ?_)
        · refine ⟨_, ldAn (Sub.refl _) (O7.all 0 rfl) (T_api_Program.T.len _ _ _ e_0), ?_⟩
          refine ⟨_, ldk (k := 2) (Sub.refl _) (O7.all 1 rfl) (T_api_Expr.g2 e_2), _, rfl, ?_⟩
          obtain ⟨y68, g69, e⟩ := bind_e e
          refine (scope_Actors.walk (Hold.start (W := No) O7.s) e_0 g69).mono ?_
          rintro _ h70 ⟨m71, A74, n75, c76, Q72, rfl, ne77⟩
          have O79 := Hold.nm (O7.retC Q72 (vfs_cons (rR_vf (aE_vf (fun _ _ _ _ h => h))) vfs_nil))
          subst ne77
          refine ⟨_, _, _, rfl, ?_⟩
          refine ⟨Q72.S.ext, ?_⟩
          obtain ⟨y80, g81, e⟩ := bind_e e
          obtain ⟨m86, u87, s92, ⟨⟨r90, k91⟩, _⟩, B88, C89⟩ := O79.lend0 [2]
          replace r90 : Rd 1 eStr m86 A74 y68 := r90
          replace k91 : List.length y68 ≤ c76 := k91
          refine (slices_Contains_68.walk (Hold.start (W := No) s92) rfl k91 r90 g81).mono ?_
          rintro _ h82 ⟨m83, Q84, rfl⟩
          have O93 := Hold.nm (C89 Q84 vfs_nil)
          refine ⟨_, rfl, ?_⟩
          exact (ih _ _ e) (O93.pick [0, 1]).nm rfl k_1 r_1 e_0 e_2
        · refine split_eq_e e (fun c107 e => ?_) (fun c107 e => ?_)
          · obtain ⟨A94, c95, q96, k97, r98⟩ := T_api_Expr.g3 e_2
            refine ⟨_, ldk (k := 3) (Sub.refl _) (O7.all 1 rfl) q96, _, _, _, rfl, ?_⟩
            obtain ⟨y99, g100, e⟩ := bind_e e
            refine (scope_Twice.walk (Hold.start (W := No) O7.s) rfl k97 r98 g100).mono ?_
            rintro _ h101 ⟨m102, Q103, rfl⟩
            have O105 := Hold.nm (O7.retC Q103 vfs_nil)
            refine ⟨_, rfl, ?_⟩
            exact (ih _ _ e) (O105.pick [0, 1]).nm rfl k_1 r_1 e_0 e_2
          · have O106 := O7.nm
            exact (ih _ _ e) (O106.pick [0, 1]).nm rfl k_1 r_1 e_0 e_2
theorem scope_Expr_k.step_j0 (go : (p : scope_Expr_k.Pt) → Option (Int × Int)) (ih : ∀ p r, go p = some r → scope_Expr_k.I p r) (a_1 y_3 y_5 b_8) (r) (e : scope_Expr_k.body go (.j0 a_1 y_3 y_5 b_8) = some r) : scope_Expr_k.I (.j0 a_1 y_3 y_5 b_8) r := by
  unfold scope_Expr_k.body at e
  intro W h0 m0 h m A_1 n_1 c_1 bk_3 cs_3 bk_5 cs_5 O ne_1 k_1 r_1 e_3 e_5
  subst ne_1
  refine f66.j0_in ?_
  unfold f66.j0T
  obtain ⟨A1, c2, q3, k4, r5⟩ := T_api_Expr.g6 e_5
  refine ⟨_, ldk (k := 6) (Sub.refl _) (O.all 1 rfl) q3, _, _, _, rfl, ?_⟩
  exact (ih _ _ e) (O.pick [0, 1]).nm rfl k_1 r_1 e_3 e_5 rfl k4 r5
set_option maxHeartbeats 4000000 in
theorem scope_Expr_k.step_l0 (go : (p : scope_Expr_k.Pt) → Option (Int × Int)) (ih : ∀ p r, go p = some r → scope_Expr_k.I p r) (a_1 y_3 y_5 b_8 a_56 x_57 x_58) (r) (e : scope_Expr_k.body go (.l0 a_1 y_3 y_5 b_8 a_56 x_57 x_58) = some r) : scope_Expr_k.I (.l0 a_1 y_3 y_5 b_8 a_56 x_57 x_58) r := by
  unfold scope_Expr_k.body at e
  intro W h0 m0 h m A_1 n_1 c_1 bk_3 cs_3 bk_5 cs_5 A_56 n_56 c_56 O ne_1 k_1 r_1 e_3 e_5 ne_56 k_56 r_56
  subst ne_1
  subst ne_56
  refine f66.l0_in ?_
  unfold f66.l0T
  refine split_dec_e e (fun c56 e => ?_) (fun c56 e => ?_)
  · obtain ⟨y1, g2, e⟩ := bind_e e
    refine r_56.addr rfl g2 fun a3 cs4 ha5 hc6 he7 => ?_
    refine ⟨_, ldAn O.s hc6 rfl, ?_⟩
    refine O.new fun h8 x9 O10 => ?_
    refine ⟨_, rfl, (T_api_Arm.T.len _ _ _ he7), ?_⟩
    refine O10.stA 2 rfl (T_api_Arm.T.len _ _ _ he7) (T_api_Arm.T.flat _ _ _ he7) fun h12 O13 => ?_
    refine split_any_e e (fun c49 e => ?_) (fun c49 e => ?_)
    · refine ⟨_, ldA0n (Sub.refl _) (O13.all 2 rfl) 4 (le_len (T_api_Arm.T.len _ _ _ he7) (by decide)), ?_⟩
      obtain ⟨y14, g15, e⟩ := bind_e e
      refine (tree_Bound.walk (Hold.start (W := No) O13.s) (T_api_Arm.u0_226 he7) g15).mono ?_
      rintro _ h16 ⟨m17, A20, n21, c22, Q18, rfl, ne23⟩
      have O25 := Hold.nm (O13.retC Q18 (vfs_cons (rR_vf (aE_vf (fun _ _ _ _ h => h))) vfs_nil))
      subst ne23
      refine ⟨_, _, _, rfl, ?_⟩
      obtain ⟨y26, g27, e⟩ := bind_e e
      obtain ⟨m32, u33, s38, ⟨⟨r36, k37⟩, _⟩, B34, C35⟩ := O25.lend0 [3]
      replace r36 : Rd 1 eStr m32 A20 y14 := r36
      replace k37 : List.length y14 ≤ c22 := k37
      refine (scope_Twice.walk (Hold.start (W := No) s38) rfl k37 r36 g27).mono ?_
      rintro _ h28 ⟨m29, Q30, rfl⟩
      have O39 := Hold.nm (C35 Q30 vfs_nil)
      refine ⟨_, rfl, ?_⟩
      refine split_not ?_
      refine split_any_e e (fun c47 e => ?_) (fun c47 e => ?_)
      · exact (ih _ _ e) (O39.pick [0, 1]).nm rfl k_1 r_1 e_3 e_5 rfl k_56 r_56
      · refine ⟨_, ldAn (Sub.refl _) (O39.all 0 rfl) (T_api_Program.T.len _ _ _ e_3), ?_⟩
        refine ⟨_, ldA0n (Sub.refl _) (O39.all 2 rfl) 4 (le_len (T_api_Arm.T.len _ _ _ he7) (by decide)), ?_⟩
        obtain ⟨y40, g41, e⟩ := bind_e e
        refine (scope_made.walk (Hold.start (W := No) O39.s) e_3 (T_api_Arm.u0_226 he7) g41).mono ?_
        rintro _ h42 ⟨m43, Q44, rfl⟩
        have O46 := Hold.nm (O39.retC Q44 vfs_nil)
        refine ⟨_, rfl, ?_⟩
        exact (ih _ _ e) (O46.pick [0, 1]).nm rfl k_1 r_1 e_3 e_5 rfl k_56 r_56
    · have O48 := O13.nm
      exact (ih _ _ e) (O48.pick [0, 1]).nm rfl k_1 r_1 e_3 e_5 rfl k_56 r_56
  · refine split_not ?_
    refine split_any_e e (fun c55 e => ?_) (fun c55 e => ?_)
    · obtain ⟨A50, c51, q52, k53, r54⟩ := T_api_Expr.g5 e_5
      refine ⟨_, ldk (k := 5) (Sub.refl _) (O.all 1 rfl) q52, _, _, _, rfl, ?_⟩
      exact (ih _ _ e) (O.pick [0, 1]).nm rfl k_1 r_1 e_3 e_5 rfl k53 r54
    · refine ⟨_, ldk (k := 7) (Sub.refl _) (O.all 1 rfl) (T_api_Expr.g7 e_5), _, rfl, ?_⟩
      cases e
      exact ⟨_, O.pick [], rfl⟩
theorem scope_Expr_k.step_l1 (go : (p : scope_Expr_k.Pt) → Option (Int × Int)) (ih : ∀ p r, go p = some r → scope_Expr_k.I p r) (a_1 y_3 y_5 a_82 x_83 x_84) (r) (e : scope_Expr_k.body go (.l1 a_1 y_3 y_5 a_82 x_83 x_84) = some r) : scope_Expr_k.I (.l1 a_1 y_3 y_5 a_82 x_83 x_84) r := by
  unfold scope_Expr_k.body at e
  intro W h0 m0 h m A_1 n_1 c_1 bk_3 cs_3 bk_5 cs_5 A_82 n_82 c_82 O ne_1 k_1 r_1 e_3 e_5 ne_82 k_82 r_82
  subst ne_1
  subst ne_82
  refine f66.l1_in ?_
  unfold f66.l1T
  refine split_dec_e e (fun c22 e => ?_) (fun c22 e => ?_)
  · obtain ⟨y1, g2, e⟩ := bind_e e
    refine r_82.addr rfl g2 fun a3 cs4 ha5 hc6 he7 => ?_
    refine ⟨_, ldAn O.s hc6 rfl, ?_⟩
    refine O.new fun h8 x9 O10 => ?_
    refine ⟨_, rfl, (T_api_Expr.T.len _ _ _ he7), ?_⟩
    refine O10.stA 2 rfl (T_api_Expr.T.len _ _ _ he7) (T_api_Expr.T.flat _ _ _ he7) fun h12 O13 => ?_
    refine ⟨_, ld0 (Sub.refl _) (O13.all 1 rfl) (T_api_Expr.g0 e_5), _, rfl, ?_⟩
    refine split_eq_e e (fun c16 e => ?_) (fun c16 e => ?_)
    · have O14 := O13.nm
      exact (ih _ _ e) (O14.pick [0, 1, 2]).nm rfl k_1 r_1 e_3 e_5 he7 rfl k_1 r_1 rfl k_82 r_82
    · have O15 := O13.nm
      exact (ih _ _ e) (O15.pick [0, 1, 2]).nm rfl k_1 r_1 e_3 e_5 he7 rfl k_1 r_1 rfl k_82 r_82
  · obtain ⟨A17, c18, q19, k20, r21⟩ := T_api_Expr.g6 e_5
    refine ⟨_, ldk (k := 6) (Sub.refl _) (O.all 1 rfl) q19, _, _, _, rfl, ?_⟩
    exact (ih _ _ e) (O.pick [0]).nm rfl k_1 r_1 e_3 rfl k20 r21
set_option maxHeartbeats 4000000 in
theorem scope_Expr_k.step_j2 (go : (p : scope_Expr_k.Pt) → Option (Int × Int)) (ih : ∀ p r, go p = some r → scope_Expr_k.I p r) (a_1 y_3 y_5 y_12 a_13 a_82 x_83 x_84 b_96) (r) (e : scope_Expr_k.body go (.j2 a_1 y_3 y_5 y_12 a_13 a_82 x_83 x_84 b_96) = some r) : scope_Expr_k.I (.j2 a_1 y_3 y_5 y_12 a_13 a_82 x_83 x_84 b_96) r := by
  unfold scope_Expr_k.body at e
  intro W h0 m0 h m A_1 n_1 c_1 bk_3 cs_3 bk_5 cs_5 bk_12 cs_12 A_13 n_13 c_13 A_82 n_82 c_82 O ne_1 k_1 r_1 e_3 e_5 e_12 ne_13 k_13 r_13 ne_82 k_82 r_82
  subst ne_1
  subst ne_13
  subst ne_82
  refine f66.j2_in ?_
  unfold f66.j2T
  refine split_any_e e (fun c94 e => ?_) (fun c94 e => ?_)
  · refine ⟨_, ldk (k := 2) (Sub.refl _) (O.all 1 rfl) (T_api_Expr.g2 e_5), _, rfl, ?_⟩
    obtain ⟨y1, g2, e⟩ := bind_e e
    obtain ⟨l17, g18, e⟩ := bind_e e
    refine ⟨?_, ?_⟩
    · refine (slices_Clone_115.walk (Hold.start (W := No) O.s) rfl k_1 r_1 g2).mono ?_
      rintro _ h34 ⟨m35, A38, n39, c40, Q36, rfl, ne41⟩
      have O43 := Hold.nm (O.retC Q36 (vfs_cons (rR_vf (aE_vf (fun _ _ _ _ h => h))) vfs_nil))
      subst ne41
      refine ⟨_, _, _, rfl, ?_⟩
      refine ⟨Q36.S.ext, ?_⟩
      refine O43.new fun h44 x45 O46 => ?_
      have O56 := O46.rowE (l := ([y_5.Text] : List ByteArray)) 4 rfl tell_str (show CsE _ _ _ _ _ from (CsE.cons (c1 := [(Value.string y_5.Text)]) rfl rfl CsE.nil)) rfl
      refine O56.app 3 rfl rfl rfl ((O56.os 4 rfl).srcE rfl) (by decide) g18 fun A50 c51 h52 O53 => ?_
      refine ⟨_, _, _, rfl, ?_⟩
      obtain ⟨m57, u58, ⟨r59, k60⟩, O61⟩ := O53.frz 3 rfl
      replace r59 : Rd 1 eStr m57 A50 l17 := r59
      have O62 := O61.nm
      exact (ih _ _ e) (O62.pick [0, 1, 2]).nm rfl k_1 (r_1.sub tell_str u58) (T_api_Program.T.mono _ _ _ _ u58 e_3) (T_api_Expr.T.mono _ _ _ _ u58 e_5) (T_api_Expr.T.mono _ _ _ _ u58 e_12) rfl k60 r59 rfl k_82 (r_82.sub T_api_Expr.T u58)
    · refine O.new fun h63 x64 O65 => ?_
      refine (slices_Clone_115.walk (Hold.start (W := No) O65.s) rfl k_1 r_1 g2).mono ?_
      rintro _ h69 ⟨m70, A73, n74, c75, Q71, rfl, ne76⟩
      have O78 := Hold.nm (O65.retC Q71 (vfs_cons (rR_vf (aE_vf (fun _ _ _ _ h => h))) vfs_nil))
      subst ne76
      refine ⟨_, _, _, rfl, ?_⟩
      refine ⟨(x64.trans Q71.S.ext), ?_⟩
      have O87 := O78.rowE (l := ([y_5.Text] : List ByteArray)) 3 rfl tell_str (show CsE _ _ _ _ _ from (CsE.cons (c1 := [(Value.string y_5.Text)]) rfl rfl CsE.nil)) rfl
      refine O87.app 4 rfl rfl rfl ((O87.os 3 rfl).srcE rfl) (by decide) g18 fun A81 c82 h83 O84 => ?_
      refine ⟨_, _, _, rfl, ?_⟩
      obtain ⟨m88, u89, ⟨r90, k91⟩, O92⟩ := O84.frz 4 rfl
      replace r90 : Rd 1 eStr m88 A81 l17 := r90
      have O93 := O92.nm
      exact (ih _ _ e) (O93.pick [0, 1, 2]).nm rfl k_1 (r_1.sub tell_str u89) (T_api_Program.T.mono _ _ _ _ u89 e_3) (T_api_Expr.T.mono _ _ _ _ u89 e_5) (T_api_Expr.T.mono _ _ _ _ u89 e_12) rfl k91 r90 rfl k_82 (r_82.sub T_api_Expr.T u89)
  · exact (ih _ _ e) (O.pick [0, 1, 2]).nm rfl k_1 r_1 e_3 e_5 e_12 rfl k_13 r_13 rfl k_82 r_82
theorem scope_Expr_k.step_j1 (go : (p : scope_Expr_k.Pt) → Option (Int × Int)) (ih : ∀ p r, go p = some r → scope_Expr_k.I p r) (a_1 y_3 y_5 y_12 a_13 a_82 x_83 x_84) (r) (e : scope_Expr_k.body go (.j1 a_1 y_3 y_5 y_12 a_13 a_82 x_83 x_84) = some r) : scope_Expr_k.I (.j1 a_1 y_3 y_5 y_12 a_13 a_82 x_83 x_84) r := by
  unfold scope_Expr_k.body at e
  intro W h0 m0 h m A_1 n_1 c_1 bk_3 cs_3 bk_5 cs_5 bk_12 cs_12 A_13 n_13 c_13 A_82 n_82 c_82 O ne_1 k_1 r_1 e_3 e_5 e_12 ne_13 k_13 r_13 ne_82 k_82 r_82
  subst ne_1
  subst ne_13
  subst ne_82
  refine f66.j1_in ?_
  unfold f66.j1T
  refine ⟨_, ld0 (Sub.refl _) (O.all 1 rfl) (T_api_Expr.g0 e_5), _, rfl, ?_⟩
  refine split_eq_e e (fun c32 e => ?_) (fun c32 e => ?_)
  · obtain ⟨A1, c2, q3, k4, r5⟩ := T_api_Expr.g3 e_5
    refine ⟨_, ldk (k := 3) (Sub.refl _) (O.all 1 rfl) q3, _, _, _, rfl, ?_⟩
    obtain ⟨y6, g7, e⟩ := bind_e e
    refine (slices_Clone_115.walk (Hold.start (W := No) O.s) rfl k_1 r_1 g7).mono ?_
    rintro _ h8 ⟨m9, A12, n13, c14, Q10, rfl, ne15⟩
    have O17 := Hold.nm (O.retC Q10 (vfs_cons (rR_vf (aE_vf (fun _ _ _ _ h => h))) vfs_nil))
    subst ne15
    refine ⟨_, _, _, rfl, ?_⟩
    refine ⟨Q10.S.ext, ?_⟩
    obtain ⟨l18, g19, e⟩ := bind_e e
    refine O17.app 3 rfl rfl rfl (Rd.srcE r5 tell_str O17.s rfl) (by decide) g19 fun A20 c21 h22 O23 => ?_
    refine ⟨_, _, _, rfl, ?_⟩
    obtain ⟨m26, u27, ⟨r28, k29⟩, O30⟩ := O23.frz 3 rfl
    replace r28 : Rd 1 eStr m26 A20 l18 := r28
    have O31 := O30.nm
    exact (ih _ _ e) (O31.pick [0, 1, 2]).nm rfl k_1 (r_1.sub tell_str u27) (T_api_Program.T.mono _ _ _ _ u27 e_3) (T_api_Expr.T.mono _ _ _ _ u27 e_5) (T_api_Expr.T.mono _ _ _ _ u27 e_12) rfl k29 r28 rfl k_82 (r_82.sub T_api_Expr.T u27)
  · exact (ih _ _ e) (O.pick [0, 1, 2]).nm rfl k_1 r_1 e_3 e_5 e_12 rfl k_13 r_13 rfl k_82 r_82
theorem scope_Expr_k.step_j3 (go : (p : scope_Expr_k.Pt) → Option (Int × Int)) (ih : ∀ p r, go p = some r → scope_Expr_k.I p r) (a_1 y_3 y_5 y_12 a_13 a_82 x_83 x_84) (r) (e : scope_Expr_k.body go (.j3 a_1 y_3 y_5 y_12 a_13 a_82 x_83 x_84) = some r) : scope_Expr_k.I (.j3 a_1 y_3 y_5 y_12 a_13 a_82 x_83 x_84) r := by
  unfold scope_Expr_k.body at e
  intro W h0 m0 h m A_1 n_1 c_1 bk_3 cs_3 bk_5 cs_5 bk_12 cs_12 A_13 n_13 c_13 A_82 n_82 c_82 O ne_1 k_1 r_1 e_3 e_5 e_12 ne_13 k_13 r_13 ne_82 k_82 r_82
  subst ne_1
  subst ne_13
  subst ne_82
  refine f66.j3_in ?_
  unfold f66.j3T
  refine ⟨_, ldAn (Sub.refl _) (O.all 0 rfl) (T_api_Program.T.len _ _ _ e_3), ?_⟩
  refine ⟨_, ldAn (Sub.refl _) (O.all 2 rfl) (T_api_Expr.T.len _ _ _ e_12), ?_⟩
  obtain ⟨y1, g2, e⟩ := bind_e e
  refine ((ih _ _ g2) (Hold.start (W := No) O.s) e_3 rfl k_13 r_13 e_12).mono ?_
  rintro _ h3 ⟨m4, Q5, rfl⟩
  have O7 := Hold.nm (O.retC Q5 vfs_nil)
  refine ⟨_, _, rfl, ?_⟩
  refine split_ne_e e (fun c8 e => ?_) (fun c8 e => ?_)
  · cases e
    exact ⟨_, O7.pick [], rfl⟩
  · exact (ih _ _ e) (O7.pick [0, 1]).nm rfl k_1 r_1 e_3 e_5 rfl k_82 r_82
set_option maxHeartbeats 4000000 in
theorem scope_Expr_k.step_l2 (go : (p : scope_Expr_k.Pt) → Option (Int × Int)) (ih : ∀ p r, go p = some r → scope_Expr_k.I p r) (a_1 y_3 a_124 x_125 x_126) (r) (e : scope_Expr_k.body go (.l2 a_1 y_3 a_124 x_125 x_126) = some r) : scope_Expr_k.I (.l2 a_1 y_3 a_124 x_125 x_126) r := by
  unfold scope_Expr_k.body at e
  intro W h0 m0 h m A_1 n_1 c_1 bk_3 cs_3 A_124 n_124 c_124 O ne_1 k_1 r_1 e_3 ne_124 k_124 r_124
  subst ne_1
  subst ne_124
  refine f66.l2_in ?_
  unfold f66.l2T
  refine split_dec_e e (fun c62 e => ?_) (fun c62 e => ?_)
  · obtain ⟨y1, g2, e⟩ := bind_e e
    refine r_124.addr rfl g2 fun a3 cs4 ha5 hc6 he7 => ?_
    refine ⟨_, ldAn O.s hc6 rfl, ?_⟩
    refine O.new fun h8 x9 O10 => ?_
    refine ⟨_, rfl, (T_api_Arm.T.len _ _ _ he7), ?_⟩
    refine O10.stA 1 rfl (T_api_Arm.T.len _ _ _ he7) (T_api_Arm.T.flat _ _ _ he7) fun h12 O13 => ?_
    refine ⟨_, ldA0n (Sub.refl _) (O13.all 1 rfl) 4 (le_len (T_api_Arm.T.len _ _ _ he7) (by decide)), ?_⟩
    refine ⟨_, ldAn (Sub.refl _) (O13.all 0 rfl) (T_api_Program.T.len _ _ _ e_3), ?_⟩
    refine ⟨_, ldAkn (Sub.refl _) (O13.all 1 rfl) 4 8 (le_len (T_api_Arm.T.len _ _ _ he7) (by decide)), ?_⟩
    obtain ⟨y14, g15, e⟩ := bind_e e
    refine (slices_Clone_115.walk (Hold.start (W := No) O13.s) rfl k_1 r_1 g15).mono ?_
    rintro _ h16 ⟨m17, A20, n21, c22, Q18, rfl, ne23⟩
    have O25 := Hold.nm (O13.retC Q18 (vfs_cons (rR_vf (aE_vf (fun _ _ _ _ h => h))) vfs_nil))
    subst ne23
    refine ⟨_, _, _, rfl, ?_⟩
    refine ⟨Q18.S.ext, ?_⟩
    refine ⟨ldAn (Sub.refl _) (O25.all 0 rfl) (T_api_Program.T.len _ _ _ e_3), ?_⟩
    refine ⟨ldAkn (Sub.refl _) (O25.all 1 rfl) 4 8 (le_len (T_api_Arm.T.len _ _ _ he7) (by decide)), ?_⟩
    obtain ⟨y26, g27, e⟩ := bind_e e
    refine (tree_Bound.walk (Hold.start (W := No) O25.s) (T_api_Arm.u0_226 he7) g27).mono ?_
    rintro _ h28 ⟨m29, A32, n33, c34, Q30, rfl, ne35⟩
    have O37 := Hold.nm (O25.retC Q30 (vfs_cons (rR_vf (aE_vf (fun _ _ _ _ h => h))) vfs_nil))
    subst ne35
    refine ⟨_, _, _, rfl, ?_⟩
    refine ⟨ldAn (Sub.refl _) (O37.all 0 rfl) (T_api_Program.T.len _ _ _ e_3), ?_⟩
    refine ⟨ldAkn (Sub.refl _) (O37.all 1 rfl) 4 8 (le_len (T_api_Arm.T.len _ _ _ he7) (by decide)), ?_⟩
    obtain ⟨l38, g39, e⟩ := bind_e e
    refine O37.app 2 rfl rfl rfl ((O37.os 3 rfl).srcE rfl) (by decide) g39 fun A40 c41 h42 O43 => ?_
    refine ⟨_, _, _, rfl, ?_⟩
    refine ⟨ldAn (Sub.refl _) (O43.all 0 rfl) (T_api_Program.T.len _ _ _ e_3), ?_⟩
    refine ⟨ldAkn (Sub.refl _) (O43.all 1 rfl) 4 8 (le_len (T_api_Arm.T.len _ _ _ he7) (by decide)), ?_⟩
    obtain ⟨y46, g47, e⟩ := bind_e e
    have O52 := O43.nm
    obtain ⟨m53, u54, s59, ⟨⟨r57, k58⟩, _⟩, B55, C56⟩ := O52.lend0 [2]
    replace r57 : Rd 1 eStr m53 A40 l38 := r57
    replace k58 : List.length l38 ≤ c41 := k58
    refine ((ih _ _ g47) (Hold.start (W := No) s59) (T_api_Program.T.mono _ _ _ _ u54 e_3) rfl k58 r57 (T_api_Expr.T.mono _ _ _ _ u54 (T_api_Arm.u4_152 he7))).mono ?_
    rintro _ h48 ⟨m49, Q50, rfl⟩
    have O60 := Hold.nm (C56 Q50 vfs_nil)
    refine ⟨_, _, rfl, ?_⟩
    refine split_ne_e e (fun c61 e => ?_) (fun c61 e => ?_)
    · cases e
      exact ⟨_, O60.pick [], rfl⟩
    · exact (ih _ _ e) (O60.pick [0]).nm rfl k_1 r_1 e_3 rfl k_124 r_124
  · cases e
    exact ⟨_, O.pick [], rfl⟩
theorem scope_Expr_k.all {p : scope_Expr_k.Pt} {r : (Int × Int)} (e : scope_Expr_k.go p = some r) : scope_Expr_k.I p r := fixF_ind (β := fun _ => (Int × Int)) scope_Expr_k.mono (I := scope_Expr_k.I) (fun go ih p r e => match p with
  | .f y_0 a_1 y_2 => scope_Expr_k.step_f go ih y_0 a_1 y_2 r e
  | .j0 a_1 y_3 y_5 b_8 => scope_Expr_k.step_j0 go ih a_1 y_3 y_5 b_8 r e
  | .l0 a_1 y_3 y_5 b_8 a_56 x_57 x_58 => scope_Expr_k.step_l0 go ih a_1 y_3 y_5 b_8 a_56 x_57 x_58 r e
  | .l1 a_1 y_3 y_5 a_82 x_83 x_84 => scope_Expr_k.step_l1 go ih a_1 y_3 y_5 a_82 x_83 x_84 r e
  | .j2 a_1 y_3 y_5 y_12 a_13 a_82 x_83 x_84 b_96 => scope_Expr_k.step_j2 go ih a_1 y_3 y_5 y_12 a_13 a_82 x_83 x_84 b_96 r e
  | .j1 a_1 y_3 y_5 y_12 a_13 a_82 x_83 x_84 => scope_Expr_k.step_j1 go ih a_1 y_3 y_5 y_12 a_13 a_82 x_83 x_84 r e
  | .j3 a_1 y_3 y_5 y_12 a_13 a_82 x_83 x_84 => scope_Expr_k.step_j3 go ih a_1 y_3 y_5 y_12 a_13 a_82 x_83 x_84 r e
  | .l2 a_1 y_3 a_124 x_125 x_126 => scope_Expr_k.step_l2 go ih a_1 y_3 a_124 x_125 x_126 r e
  ) e
theorem scope_Expr.walk {W h m cs_0 A_1 n_1 c_1 cs_2 y_0 a_1 y_2} (O : Hold W h m h m []) (e_0 : T_api_Program.E m y_0 cs_0) (ne_1 : n_1 = List.length a_1) (k_1 : List.length a_1 ≤ c_1) (r_1 : Rd 1 eStr m A_1 a_1) (e_2 : T_api_Expr.E m y_2 cs_2) {r} (e : scope_Expr y_0 a_1 y_2 = some r) : Run Try.prog 66 #[Value.agg cs_0.toArray, Value.slice A_1 n_1 c_1, Value.agg cs_2.toArray] h (scope_Expr.post W h m r) := scope_Expr_k.all (p := .f y_0 a_1 y_2) e O e_0 ne_1 k_1 r_1 e_2
def scope_declared.post (W : Nat → Prop) (h0 m0 : Heap) (r : Bool) (v : Value) (h : Heap) : Prop := ∃ m , Hold W h0 m0 h m [] ∧ v = .bool r
inductive scope_declared.l3_k.Pt where
  | l3 (a_69 : List (List ByteArray)) (x_70 : Int) (x_71 : Int)
noncomputable def scope_declared.l3_k.body (go : (p : scope_declared.l3_k.Pt) → Option (Bool)) : (p : scope_declared.l3_k.Pt) → Option (Bool)
  | .l3 a_69 x_70 x_71 => if x_71 < x_70 then (Option.bind (gi a_69 x_71) fun y1 => Option.bind (scope_Twice y1) fun y8 => if y8 = true then (some (false)) else ((go (.l3 a_69 x_70 (IntKind.wrap .i64 (x_71 + (1 : Int))))))) else (some (true))
theorem scope_declared.l3_k.mono : MonoF (β := fun _ => (Bool)) scope_declared.l3_k.body := fun f g hfg p => match p with
  | .l3 a_69 x_70 x_71 => LeO.ite (LeO.bind (LeO.refl _) fun y1 => LeO.bind (LeO.refl _) fun y8 => LeO.ite (LeO.refl _) ((hfg _))) (LeO.refl _)
noncomputable def scope_declared.l3_k.go (p : scope_declared.l3_k.Pt) : Option (Bool) := fixF (β := fun _ => (Bool)) scope_declared.l3_k.body p
noncomputable def scope_declared.l3 (a_69 x_70 x_71) := scope_declared.l3_k.go (.l3 a_69 x_70 x_71)
theorem scope_declared.l3_eq (a_69 x_70 x_71) : scope_declared.l3 a_69 x_70 x_71 = if x_71 < x_70 then (Option.bind (gi a_69 x_71) fun y1 => Option.bind (scope_Twice y1) fun y8 => if y8 = true then (some (false)) else ((scope_declared.l3 a_69 x_70 (IntKind.wrap .i64 (x_71 + (1 : Int)))))) else (some (true)) := fixF_eq scope_declared.l3_k.mono _
def scope_declared.l3_k.I : (p : scope_declared.l3_k.Pt) → (Bool) → Prop
  | .l3 a_69 x_70 x_71, r => ∀ {W h0 m0 h m A_69 n_69 c_69} (O : Hold W h0 m0 h m [rR (aE (tell_row tell_str)) A_69 c_69 a_69]) (ne_69 : n_69 = List.length a_69), f104.l3 (scope_declared.post W h0 m0 r) A_69 n_69 c_69 x_70 x_71 h
theorem scope_declared.l3_k.step_l3 (go : (p : scope_declared.l3_k.Pt) → Option (Bool)) (ih : ∀ p r, go p = some r → scope_declared.l3_k.I p r) (a_69 x_70 x_71) (r) (e : scope_declared.l3_k.body go (.l3 a_69 x_70 x_71) = some r) : scope_declared.l3_k.I (.l3 a_69 x_70 x_71) r := by
  unfold scope_declared.l3_k.body at e
  intro W h0 m0 h m A_69 n_69 c_69 O ne_69
  subst ne_69
  refine f104.l3_in ?_
  unfold f104.l3T
  refine split_dec_e e (fun c16 e => ?_) (fun c16 e => ?_)
  · obtain ⟨y1, g2, e⟩ := bind_e e
    refine (O.os 0 rfl).addr rfl g2 fun a3 cs4 ha5 hc6 he7 => ?_
    obtain ⟨Acs4_0, ccs4_0, rfl, kcs4_0, rcs4_0⟩ := id he7
    refine ⟨_, ld0 (Sub.refl _) hc6 rfl, _, _, _, rfl, ?_⟩
    obtain ⟨y8, g9, e⟩ := bind_e e
    refine (scope_Twice.walk (Hold.start (W := No) O.s) rfl kcs4_0 rcs4_0 g9).mono ?_
    rintro _ h10 ⟨m11, Q12, rfl⟩
    have O14 := Hold.nm (O.retC Q12 vfs_nil)
    refine ⟨_, rfl, ?_⟩
    refine split_any_e e (fun c15 e => ?_) (fun c15 e => ?_)
    · cases e
      exact ⟨_, O14.pick [], rfl⟩
    · exact (ih _ _ e) (O14.pick [0]).nm rfl
  · cases e
    exact ⟨_, O.pick [], rfl⟩
theorem scope_declared.l3_k.all {p : scope_declared.l3_k.Pt} {r : (Bool)} (e : scope_declared.l3_k.go p = some r) : scope_declared.l3_k.I p r := fixF_ind (β := fun _ => (Bool)) scope_declared.l3_k.mono (I := scope_declared.l3_k.I) (fun go ih p r e => match p with
  | .l3 a_69 x_70 x_71 => scope_declared.l3_k.step_l3 go ih a_69 x_70 x_71 r e
  ) e
inductive scope_declared.l2_k.Pt where
  | l2 (y_1 : T_api_Program) (a_3 : List ByteArray) (a_4 : List ByteArray) (a_5 : List ByteArray) (a_44 : List T_api_Trait) (x_45 : Int) (x_46 : Int)
noncomputable def scope_declared.l2_k.body (go : (p : scope_declared.l2_k.Pt) → Option (Bool)) : (p : scope_declared.l2_k.Pt) → Option (Bool)
  | .l2 y_1 a_3 a_4 a_5 a_44 x_45 x_46 => if x_46 < x_45 then (Option.bind (gi a_44 x_46) fun y1 => Option.bind (ap 16 a_5 ([y1.Name] : List ByteArray)) fun l18 => (go (.l2 y_1 a_3 a_4 l18 a_44 x_45 (IntKind.wrap .i64 (x_46 + (1 : Int)))))) else (Option.bind (ap 16 a_3 ([y_1.Name] : List ByteArray)) fun l32 => Option.bind (scope_Makers y_1) fun y41 => Option.bind (scope_Callable y_1) fun y53 => Option.bind (scope_Actors y_1) fun y65 => (scope_declared.l3 ([l32, a_4, a_5, y41, y53, y65] : List (List ByteArray)) ((6 : Nat) : Int) (0 : Int)))
theorem scope_declared.l2_k.mono : MonoF (β := fun _ => (Bool)) scope_declared.l2_k.body := fun f g hfg p => match p with
  | .l2 y_1 a_3 a_4 a_5 a_44 x_45 x_46 => LeO.ite (LeO.bind (LeO.refl _) fun y1 => LeO.bind (LeO.refl _) fun l18 => (hfg _)) (LeO.bind (LeO.refl _) fun l32 => LeO.bind (LeO.refl _) fun y41 => LeO.bind (LeO.refl _) fun y53 => LeO.bind (LeO.refl _) fun y65 => (LeO.refl _))
noncomputable def scope_declared.l2_k.go (p : scope_declared.l2_k.Pt) : Option (Bool) := fixF (β := fun _ => (Bool)) scope_declared.l2_k.body p
noncomputable def scope_declared.l2 (y_1 a_3 a_4 a_5 a_44 x_45 x_46) := scope_declared.l2_k.go (.l2 y_1 a_3 a_4 a_5 a_44 x_45 x_46)
theorem scope_declared.l2_eq (y_1 a_3 a_4 a_5 a_44 x_45 x_46) : scope_declared.l2 y_1 a_3 a_4 a_5 a_44 x_45 x_46 = if x_46 < x_45 then (Option.bind (gi a_44 x_46) fun y1 => Option.bind (ap 16 a_5 ([y1.Name] : List ByteArray)) fun l18 => (scope_declared.l2 y_1 a_3 a_4 l18 a_44 x_45 (IntKind.wrap .i64 (x_46 + (1 : Int))))) else (Option.bind (ap 16 a_3 ([y_1.Name] : List ByteArray)) fun l32 => Option.bind (scope_Makers y_1) fun y41 => Option.bind (scope_Callable y_1) fun y53 => Option.bind (scope_Actors y_1) fun y65 => (scope_declared.l3 ([l32, a_4, a_5, y41, y53, y65] : List (List ByteArray)) ((6 : Nat) : Int) (0 : Int))) := fixF_eq scope_declared.l2_k.mono _
def scope_declared.l2_k.I : (p : scope_declared.l2_k.Pt) → (Bool) → Prop
  | .l2 y_1 a_3 a_4 a_5 a_44 x_45 x_46, r => ∀ {W h0 m0 h m bk_1 cs_1 A_3 n_3 c_3 A_4 n_4 c_4 A_5 n_5 c_5 A_44 n_44 c_44} (O : Hold W h0 m0 h m [rV bk_1 135 cs_1, rR (aE tell_str) A_3 c_3 a_3, rR (aE tell_str) A_4 c_4 a_4, rR (aE tell_str) A_5 c_5 a_5]) (e_1 : T_api_Program.E m y_1 cs_1) (ne_3 : n_3 = List.length a_3) (ne_4 : n_4 = List.length a_4) (ne_5 : n_5 = List.length a_5) (ne_44 : n_44 = List.length a_44) (k_44 : List.length a_44 ≤ c_44) (r_44 : Rd 2 T_api_Trait.E m A_44 a_44), f104.l2 (scope_declared.post W h0 m0 r) (⟨bk_1, 0, none⟩ : Addr) A_3 n_3 c_3 A_4 n_4 c_4 A_5 n_5 c_5 A_44 n_44 c_44 x_45 x_46 h
set_option maxHeartbeats 4000000 in
theorem scope_declared.l2_k.step_l2 (go : (p : scope_declared.l2_k.Pt) → Option (Bool)) (ih : ∀ p r, go p = some r → scope_declared.l2_k.I p r) (y_1 a_3 a_4 a_5 a_44 x_45 x_46) (r) (e : scope_declared.l2_k.body go (.l2 y_1 a_3 a_4 a_5 a_44 x_45 x_46) = some r) : scope_declared.l2_k.I (.l2 y_1 a_3 a_4 a_5 a_44 x_45 x_46) r := by
  unfold scope_declared.l2_k.body at e
  intro W h0 m0 h m bk_1 cs_1 A_3 n_3 c_3 A_4 n_4 c_4 A_5 n_5 c_5 A_44 n_44 c_44 O e_1 ne_3 ne_4 ne_5 ne_44 k_44 r_44
  subst ne_3
  subst ne_4
  subst ne_5
  subst ne_44
  refine f104.l2_in ?_
  unfold f104.l2T
  refine split_dec_e e (fun c113 e => ?_) (fun c113 e => ?_)
  · obtain ⟨y1, g2, e⟩ := bind_e e
    refine r_44.addr rfl g2 fun a3 cs4 ha5 hc6 he7 => ?_
    refine ⟨_, ldAn O.s hc6 rfl, ?_⟩
    refine O.new fun h8 x9 O10 => ?_
    refine ⟨_, rfl, (T_api_Trait.T.len _ _ _ he7), ?_⟩
    refine O10.stA 4 rfl (T_api_Trait.T.len _ _ _ he7) (T_api_Trait.T.flat _ _ _ he7) fun h12 O13 => ?_
    refine ⟨_, ld0 (Sub.refl _) (O13.all 4 rfl) (T_api_Trait.g0 he7), _, rfl, ?_⟩
    refine O13.new fun h14 x15 O16 => ?_
    obtain ⟨l18, g19, e⟩ := bind_e e
    have O26 := O16.rowE (l := ([y1.Name] : List ByteArray)) 5 rfl tell_str (show CsE _ _ _ _ _ from (CsE.cons (c1 := [(Value.string y1.Name)]) rfl rfl CsE.nil)) rfl
    refine O26.app 3 rfl rfl rfl ((O26.os 5 rfl).srcE rfl) (by decide) g19 fun A20 c21 h22 O23 => ?_
    refine ⟨_, _, _, rfl, ?_⟩
    have O27 := O23.nm
    exact (ih _ _ e) (O27.pick [0, 1, 2, 3]).nm e_1 rfl rfl rfl rfl k_44 r_44
  · refine ⟨_, ld0 (Sub.refl _) (O.all 0 rfl) (T_api_Program.g0 e_1), _, rfl, ?_⟩
    refine ⟨_, ldAn (Sub.refl _) (O.all 0 rfl) (T_api_Program.T.len _ _ _ e_1), ?_⟩
    refine ⟨_, ldAn (Sub.refl _) (O.all 0 rfl) (T_api_Program.T.len _ _ _ e_1), ?_⟩
    refine ⟨_, ldAn (Sub.refl _) (O.all 0 rfl) (T_api_Program.T.len _ _ _ e_1), ?_⟩
    refine O.new fun h28 x29 O30 => ?_
    refine ⟨ldAn (Sub.refl _) (O30.all 0 rfl) (T_api_Program.T.len _ _ _ e_1), ?_⟩
    refine ⟨ldAn (Sub.refl _) (O30.all 0 rfl) (T_api_Program.T.len _ _ _ e_1), ?_⟩
    refine ⟨ldAn (Sub.refl _) (O30.all 0 rfl) (T_api_Program.T.len _ _ _ e_1), ?_⟩
    obtain ⟨l32, g33, e⟩ := bind_e e
    have O40 := O30.rowE (l := ([y_1.Name] : List ByteArray)) 4 rfl tell_str (show CsE _ _ _ _ _ from (CsE.cons (c1 := [(Value.string y_1.Name)]) rfl rfl CsE.nil)) rfl
    refine O40.app 1 rfl rfl rfl ((O40.os 4 rfl).srcE rfl) (by decide) g33 fun A34 c35 h36 O37 => ?_
    refine ⟨_, _, _, rfl, ?_⟩
    refine ⟨ldAn (Sub.refl _) (O37.all 0 rfl) (T_api_Program.T.len _ _ _ e_1), ?_⟩
    refine ⟨ldAn (Sub.refl _) (O37.all 0 rfl) (T_api_Program.T.len _ _ _ e_1), ?_⟩
    refine ⟨ldAn (Sub.refl _) (O37.all 0 rfl) (T_api_Program.T.len _ _ _ e_1), ?_⟩
    obtain ⟨y41, g42, e⟩ := bind_e e
    refine (scope_Makers.walk (Hold.start (W := No) O37.s) e_1 g42).mono ?_
    rintro _ h43 ⟨m44, A47, n48, c49, Q45, rfl, ne50⟩
    have O52 := Hold.nm (O37.retC Q45 (vfs_cons (rR_vf (aE_vf (fun _ _ _ _ h => h))) vfs_nil))
    subst ne50
    refine ⟨_, _, _, rfl, ?_⟩
    refine ⟨ldAn (Sub.refl _) (O52.all 0 rfl) (T_api_Program.T.len _ _ _ e_1), ?_⟩
    refine ⟨ldAn (Sub.refl _) (O52.all 0 rfl) (T_api_Program.T.len _ _ _ e_1), ?_⟩
    obtain ⟨y53, g54, e⟩ := bind_e e
    refine (scope_Callable.walk (Hold.start (W := No) O52.s) e_1 g54).mono ?_
    rintro _ h55 ⟨m56, A59, n60, c61, Q57, rfl, ne62⟩
    have O64 := Hold.nm (O52.retC Q57 (vfs_cons (rR_vf (aE_vf (fun _ _ _ _ h => h))) vfs_nil))
    subst ne62
    refine ⟨_, _, _, rfl, ?_⟩
    refine ⟨ldAn (Sub.refl _) (O64.all 0 rfl) (T_api_Program.T.len _ _ _ e_1), ?_⟩
    obtain ⟨y65, g66, e⟩ := bind_e e
    refine (scope_Actors.walk (Hold.start (W := No) O64.s) e_1 g66).mono ?_
    rintro _ h67 ⟨m68, A71, n72, c73, Q69, rfl, ne74⟩
    have O76 := Hold.nm (O64.retC Q69 (vfs_cons (rR_vf (aE_vf (fun _ _ _ _ h => h))) vfs_nil))
    subst ne74
    refine ⟨_, _, _, rfl, ?_⟩
    refine O76.new fun h77 x78 O79 => ?_
    obtain ⟨m81, u82, ⟨r83, k84⟩, O85⟩ := O79.frz 1 rfl
    replace r83 : Rd 1 eStr m81 A34 l32 := r83
    obtain ⟨m86, u87, ⟨r88, k89⟩, O90⟩ := O85.frz 2 rfl
    replace r88 : Rd 1 eStr m86 A_4 a_4 := r88
    obtain ⟨m91, u92, ⟨r93, k94⟩, O95⟩ := O90.frz 3 rfl
    replace r93 : Rd 1 eStr m91 A_5 a_5 := r93
    obtain ⟨m96, u97, ⟨r98, k99⟩, O100⟩ := O95.frz 5 rfl
    replace r98 : Rd 1 eStr m96 A47 y41 := r98
    obtain ⟨m101, u102, ⟨r103, k104⟩, O105⟩ := O100.frz 6 rfl
    replace r103 : Rd 1 eStr m101 A59 y53 := r103
    obtain ⟨m106, u107, ⟨r108, k109⟩, O110⟩ := O105.frz 7 rfl
    replace r108 : Rd 1 eStr m106 A71 y65 := r108
    have O111 := O110.rowE (l := ([l32, a_4, a_5, y41, y53, y65] : List (List ByteArray))) 8 rfl (tell_row tell_str) (show CsE _ _ _ _ _ from (CsE.cons (c1 := [(Value.slice A34 (List.length l32) c35)]) ⟨_, _, rfl, k84, (r83.sub tell_str (u87.trans (u92.trans (u97.trans (u102.trans u107)))))⟩ rfl (CsE.cons (c1 := [(Value.slice A_4 (List.length a_4) c_4)]) ⟨_, _, rfl, k89, (r88.sub tell_str (u92.trans (u97.trans (u102.trans u107))))⟩ rfl (CsE.cons (c1 := [(Value.slice A_5 (List.length a_5) c_5)]) ⟨_, _, rfl, k94, (r93.sub tell_str (u97.trans (u102.trans u107)))⟩ rfl (CsE.cons (c1 := [(Value.slice A47 (List.length y41) c49)]) ⟨_, _, rfl, k99, (r98.sub tell_str (u102.trans u107))⟩ rfl (CsE.cons (c1 := [(Value.slice A59 (List.length y53) c61)]) ⟨_, _, rfl, k104, (r103.sub tell_str u107)⟩ rfl (CsE.cons (c1 := [(Value.slice A71 (List.length y65) c73)]) ⟨_, _, rfl, k109, r108⟩ rfl CsE.nil))))))) rfl
    have O112 := O111.nm
    exact (scope_declared.l3_k.all e) (O112.pick [8]).nm rfl
theorem scope_declared.l2_k.all {p : scope_declared.l2_k.Pt} {r : (Bool)} (e : scope_declared.l2_k.go p = some r) : scope_declared.l2_k.I p r := fixF_ind (β := fun _ => (Bool)) scope_declared.l2_k.mono (I := scope_declared.l2_k.I) (fun go ih p r e => match p with
  | .l2 y_1 a_3 a_4 a_5 a_44 x_45 x_46 => scope_declared.l2_k.step_l2 go ih y_1 a_3 a_4 a_5 a_44 x_45 x_46 r e
  ) e
inductive scope_declared.l1_k.Pt where
  | l1 (y_1 : T_api_Program) (a_3 : List ByteArray) (a_4 : List ByteArray) (a_5 : List ByteArray) (a_28 : List T_api_Data) (x_29 : Int) (x_30 : Int)
noncomputable def scope_declared.l1_k.body (go : (p : scope_declared.l1_k.Pt) → Option (Bool)) : (p : scope_declared.l1_k.Pt) → Option (Bool)
  | .l1 y_1 a_3 a_4 a_5 a_28 x_29 x_30 => if x_30 < x_29 then (Option.bind (gi a_28 x_30) fun y1 => Option.bind (ap 16 a_4 ([y1.Name] : List ByteArray)) fun l18 => Option.bind (scope_Twice y1.Params) fun y33 => if y33 = true then (some (false)) else ((go (.l1 y_1 a_3 l18 a_5 a_28 x_29 (IntKind.wrap .i64 (x_30 + (1 : Int))))))) else ((scope_declared.l2 y_1 a_3 a_4 a_5 y_1.Traits (((List.length y_1.Traits) : Nat) : Int) (0 : Int)))
theorem scope_declared.l1_k.mono : MonoF (β := fun _ => (Bool)) scope_declared.l1_k.body := fun f g hfg p => match p with
  | .l1 y_1 a_3 a_4 a_5 a_28 x_29 x_30 => LeO.ite (LeO.bind (LeO.refl _) fun y1 => LeO.bind (LeO.refl _) fun l18 => LeO.bind (LeO.refl _) fun y33 => LeO.ite (LeO.refl _) ((hfg _))) ((LeO.refl _))
noncomputable def scope_declared.l1_k.go (p : scope_declared.l1_k.Pt) : Option (Bool) := fixF (β := fun _ => (Bool)) scope_declared.l1_k.body p
noncomputable def scope_declared.l1 (y_1 a_3 a_4 a_5 a_28 x_29 x_30) := scope_declared.l1_k.go (.l1 y_1 a_3 a_4 a_5 a_28 x_29 x_30)
theorem scope_declared.l1_eq (y_1 a_3 a_4 a_5 a_28 x_29 x_30) : scope_declared.l1 y_1 a_3 a_4 a_5 a_28 x_29 x_30 = if x_30 < x_29 then (Option.bind (gi a_28 x_30) fun y1 => Option.bind (ap 16 a_4 ([y1.Name] : List ByteArray)) fun l18 => Option.bind (scope_Twice y1.Params) fun y33 => if y33 = true then (some (false)) else ((scope_declared.l1 y_1 a_3 l18 a_5 a_28 x_29 (IntKind.wrap .i64 (x_30 + (1 : Int)))))) else ((scope_declared.l2 y_1 a_3 a_4 a_5 y_1.Traits (((List.length y_1.Traits) : Nat) : Int) (0 : Int))) := fixF_eq scope_declared.l1_k.mono _
def scope_declared.l1_k.I : (p : scope_declared.l1_k.Pt) → (Bool) → Prop
  | .l1 y_1 a_3 a_4 a_5 a_28 x_29 x_30, r => ∀ {W h0 m0 h m bk_1 cs_1 A_3 n_3 c_3 A_4 n_4 c_4 A_5 n_5 c_5 A_28 n_28 c_28} (O : Hold W h0 m0 h m [rV bk_1 135 cs_1, rR (aE tell_str) A_3 c_3 a_3, rR (aE tell_str) A_4 c_4 a_4, rR (aE tell_str) A_5 c_5 a_5]) (e_1 : T_api_Program.E m y_1 cs_1) (ne_3 : n_3 = List.length a_3) (ne_4 : n_4 = List.length a_4) (ne_5 : n_5 = List.length a_5) (ne_28 : n_28 = List.length a_28) (k_28 : List.length a_28 ≤ c_28) (r_28 : Rd 3 T_api_Data.E m A_28 a_28), f104.l1 (scope_declared.post W h0 m0 r) (⟨bk_1, 0, none⟩ : Addr) A_3 n_3 c_3 A_4 n_4 c_4 A_5 n_5 c_5 A_28 n_28 c_28 x_29 x_30 h
theorem scope_declared.l1_k.step_l1 (go : (p : scope_declared.l1_k.Pt) → Option (Bool)) (ih : ∀ p r, go p = some r → scope_declared.l1_k.I p r) (y_1 a_3 a_4 a_5 a_28 x_29 x_30) (r) (e : scope_declared.l1_k.body go (.l1 y_1 a_3 a_4 a_5 a_28 x_29 x_30) = some r) : scope_declared.l1_k.I (.l1 y_1 a_3 a_4 a_5 a_28 x_29 x_30) r := by
  unfold scope_declared.l1_k.body at e
  intro W h0 m0 h m bk_1 cs_1 A_3 n_3 c_3 A_4 n_4 c_4 A_5 n_5 c_5 A_28 n_28 c_28 O e_1 ne_3 ne_4 ne_5 ne_28 k_28 r_28
  subst ne_3
  subst ne_4
  subst ne_5
  subst ne_28
  refine f104.l1_in ?_
  unfold f104.l1T
  refine split_dec_e e (fun c46 e => ?_) (fun c46 e => ?_)
  · obtain ⟨y1, g2, e⟩ := bind_e e
    refine r_28.addr rfl g2 fun a3 cs4 ha5 hc6 he7 => ?_
    refine ⟨_, ldAn O.s hc6 rfl, ?_⟩
    refine O.new fun h8 x9 O10 => ?_
    refine ⟨_, rfl, (T_api_Data.T.len _ _ _ he7), ?_⟩
    refine O10.stA 4 rfl (T_api_Data.T.len _ _ _ he7) (T_api_Data.T.flat _ _ _ he7) fun h12 O13 => ?_
    refine ⟨_, ld0 (Sub.refl _) (O13.all 4 rfl) (T_api_Data.g0 he7), _, rfl, ?_⟩
    refine O13.new fun h14 x15 O16 => ?_
    obtain ⟨l18, g19, e⟩ := bind_e e
    have O26 := O16.rowE (l := ([y1.Name] : List ByteArray)) 5 rfl tell_str (show CsE _ _ _ _ _ from (CsE.cons (c1 := [(Value.string y1.Name)]) rfl rfl CsE.nil)) rfl
    refine O26.app 2 rfl rfl rfl ((O26.os 5 rfl).srcE rfl) (by decide) g19 fun A20 c21 h22 O23 => ?_
    refine ⟨_, _, _, rfl, ?_⟩
    have O27 := O23.nm
    obtain ⟨A28, c29, q30, k31, r32⟩ := T_api_Data.g1 he7
    refine ⟨_, ldk (k := 1) (Sub.refl _) (O27.all 4 rfl) q30, _, _, _, rfl, ?_⟩
    obtain ⟨y33, g34, e⟩ := bind_e e
    refine (scope_Twice.walk (Hold.start (W := No) O27.s) rfl k31 r32 g34).mono ?_
    rintro _ h35 ⟨m36, Q37, rfl⟩
    have O39 := Hold.nm (O27.retC Q37 vfs_nil)
    refine ⟨_, rfl, ?_⟩
    refine split_any_e e (fun c40 e => ?_) (fun c40 e => ?_)
    · cases e
      exact ⟨_, O39.pick [], rfl⟩
    · exact (ih _ _ e) (O39.pick [0, 1, 2, 3]).nm e_1 rfl rfl rfl rfl k_28 r_28
  · obtain ⟨A41, c42, q43, k44, r45⟩ := T_api_Program.g4 e_1
    refine ⟨_, ldk (k := 4) (Sub.refl _) (O.all 0 rfl) q43, _, _, _, rfl, ?_⟩
    exact (scope_declared.l2_k.all e) (O.pick [0, 1, 2, 3]).nm e_1 rfl rfl rfl rfl k44 r45
theorem scope_declared.l1_k.all {p : scope_declared.l1_k.Pt} {r : (Bool)} (e : scope_declared.l1_k.go p = some r) : scope_declared.l1_k.I p r := fixF_ind (β := fun _ => (Bool)) scope_declared.l1_k.mono (I := scope_declared.l1_k.I) (fun go ih p r e => match p with
  | .l1 y_1 a_3 a_4 a_5 a_28 x_29 x_30 => scope_declared.l1_k.step_l1 go ih y_1 a_3 a_4 a_5 a_28 x_29 x_30 r e
  ) e
inductive scope_declared.l0_k.Pt where
  | l0 (y_1 : T_api_Program) (a_3 : List ByteArray) (a_4 : List ByteArray) (a_5 : List ByteArray) (a_15 : List T_api_Use) (x_16 : Int) (x_17 : Int)
noncomputable def scope_declared.l0_k.body (go : (p : scope_declared.l0_k.Pt) → Option (Bool)) : (p : scope_declared.l0_k.Pt) → Option (Bool)
  | .l0 y_1 a_3 a_4 a_5 a_15 x_16 x_17 => if x_17 < x_16 then (Option.bind (gi a_15 x_17) fun y1 => Option.bind (ap 16 a_3 ([y1.Name] : List ByteArray)) fun l18 => (go (.l0 y_1 l18 a_4 a_5 a_15 x_16 (IntKind.wrap .i64 (x_17 + (1 : Int)))))) else ((scope_declared.l1 y_1 a_3 a_4 a_5 y_1.Datas (((List.length y_1.Datas) : Nat) : Int) (0 : Int)))
theorem scope_declared.l0_k.mono : MonoF (β := fun _ => (Bool)) scope_declared.l0_k.body := fun f g hfg p => match p with
  | .l0 y_1 a_3 a_4 a_5 a_15 x_16 x_17 => LeO.ite (LeO.bind (LeO.refl _) fun y1 => LeO.bind (LeO.refl _) fun l18 => (hfg _)) ((LeO.refl _))
noncomputable def scope_declared.l0_k.go (p : scope_declared.l0_k.Pt) : Option (Bool) := fixF (β := fun _ => (Bool)) scope_declared.l0_k.body p
noncomputable def scope_declared.l0 (y_1 a_3 a_4 a_5 a_15 x_16 x_17) := scope_declared.l0_k.go (.l0 y_1 a_3 a_4 a_5 a_15 x_16 x_17)
theorem scope_declared.l0_eq (y_1 a_3 a_4 a_5 a_15 x_16 x_17) : scope_declared.l0 y_1 a_3 a_4 a_5 a_15 x_16 x_17 = if x_17 < x_16 then (Option.bind (gi a_15 x_17) fun y1 => Option.bind (ap 16 a_3 ([y1.Name] : List ByteArray)) fun l18 => (scope_declared.l0 y_1 l18 a_4 a_5 a_15 x_16 (IntKind.wrap .i64 (x_17 + (1 : Int))))) else ((scope_declared.l1 y_1 a_3 a_4 a_5 y_1.Datas (((List.length y_1.Datas) : Nat) : Int) (0 : Int))) := fixF_eq scope_declared.l0_k.mono _
def scope_declared.l0_k.I : (p : scope_declared.l0_k.Pt) → (Bool) → Prop
  | .l0 y_1 a_3 a_4 a_5 a_15 x_16 x_17, r => ∀ {W h0 m0 h m bk_1 cs_1 A_3 n_3 c_3 A_4 n_4 c_4 A_5 n_5 c_5 A_15 n_15 c_15} (O : Hold W h0 m0 h m [rV bk_1 135 cs_1, rR (aE tell_str) A_3 c_3 a_3, rR (aE tell_str) A_4 c_4 a_4, rR (aE tell_str) A_5 c_5 a_5]) (e_1 : T_api_Program.E m y_1 cs_1) (ne_3 : n_3 = List.length a_3) (ne_4 : n_4 = List.length a_4) (ne_5 : n_5 = List.length a_5) (ne_15 : n_15 = List.length a_15) (k_15 : List.length a_15 ≤ c_15) (r_15 : Rd 3 T_api_Use.E m A_15 a_15), f104.l0 (scope_declared.post W h0 m0 r) (⟨bk_1, 0, none⟩ : Addr) A_3 n_3 c_3 A_4 n_4 c_4 A_5 n_5 c_5 A_15 n_15 c_15 x_16 x_17 h
theorem scope_declared.l0_k.step_l0 (go : (p : scope_declared.l0_k.Pt) → Option (Bool)) (ih : ∀ p r, go p = some r → scope_declared.l0_k.I p r) (y_1 a_3 a_4 a_5 a_15 x_16 x_17) (r) (e : scope_declared.l0_k.body go (.l0 y_1 a_3 a_4 a_5 a_15 x_16 x_17) = some r) : scope_declared.l0_k.I (.l0 y_1 a_3 a_4 a_5 a_15 x_16 x_17) r := by
  unfold scope_declared.l0_k.body at e
  intro W h0 m0 h m bk_1 cs_1 A_3 n_3 c_3 A_4 n_4 c_4 A_5 n_5 c_5 A_15 n_15 c_15 O e_1 ne_3 ne_4 ne_5 ne_15 k_15 r_15
  subst ne_3
  subst ne_4
  subst ne_5
  subst ne_15
  refine f104.l0_in ?_
  unfold f104.l0T
  refine split_dec_e e (fun c33 e => ?_) (fun c33 e => ?_)
  · obtain ⟨y1, g2, e⟩ := bind_e e
    refine r_15.addr rfl g2 fun a3 cs4 ha5 hc6 he7 => ?_
    refine ⟨_, ldAn O.s hc6 rfl, ?_⟩
    refine O.new fun h8 x9 O10 => ?_
    refine ⟨_, rfl, (T_api_Use.T.len _ _ _ he7), ?_⟩
    refine O10.stA 4 rfl (T_api_Use.T.len _ _ _ he7) (T_api_Use.T.flat _ _ _ he7) fun h12 O13 => ?_
    refine ⟨_, ld0 (Sub.refl _) (O13.all 4 rfl) (T_api_Use.g0 he7), _, rfl, ?_⟩
    refine O13.new fun h14 x15 O16 => ?_
    obtain ⟨l18, g19, e⟩ := bind_e e
    have O26 := O16.rowE (l := ([y1.Name] : List ByteArray)) 5 rfl tell_str (show CsE _ _ _ _ _ from (CsE.cons (c1 := [(Value.string y1.Name)]) rfl rfl CsE.nil)) rfl
    refine O26.app 1 rfl rfl rfl ((O26.os 5 rfl).srcE rfl) (by decide) g19 fun A20 c21 h22 O23 => ?_
    refine ⟨_, _, _, rfl, ?_⟩
    have O27 := O23.nm
    exact (ih _ _ e) (O27.pick [0, 1, 2, 3]).nm e_1 rfl rfl rfl rfl k_15 r_15
  · obtain ⟨A28, c29, q30, k31, r32⟩ := T_api_Program.g3 e_1
    refine ⟨_, ldk (k := 3) (Sub.refl _) (O.all 0 rfl) q30, _, _, _, rfl, ?_⟩
    exact (scope_declared.l1_k.all e) (O.pick [0, 1, 2, 3]).nm e_1 rfl rfl rfl rfl k31 r32
theorem scope_declared.l0_k.all {p : scope_declared.l0_k.Pt} {r : (Bool)} (e : scope_declared.l0_k.go p = some r) : scope_declared.l0_k.I p r := fixF_ind (β := fun _ => (Bool)) scope_declared.l0_k.mono (I := scope_declared.l0_k.I) (fun go ih p r e => match p with
  | .l0 y_1 a_3 a_4 a_5 a_15 x_16 x_17 => scope_declared.l0_k.step_l0 go ih y_1 a_3 a_4 a_5 a_15 x_16 x_17 r e
  ) e
noncomputable def scope_declared (y_0 : T_api_Program) : Option (Bool) :=
  (scope_declared.l0 y_0 ([] : List ByteArray) ([] : List ByteArray) ([] : List ByteArray) y_0.Uses (((List.length y_0.Uses) : Nat) : Int) (0 : Int))
theorem scope_declared.walk {W h m cs_0 y_0} (O : Hold W h m h m []) (e_0 : T_api_Program.E m y_0 cs_0) {r} (e : scope_declared y_0 = some r) : Run Try.prog 104 #[Value.agg cs_0.toArray] h (scope_declared.post W h m r) := by
  unfold scope_declared at e
  refine f104.run ?_
  unfold f104.runT
  refine O.new fun h1 x2 O3 => ?_
  obtain ⟨A5, c6, q7, k8, r9⟩ := T_api_Program.g2 e_0
  refine ⟨_, ldk (k := 2) (Sub.refl _) (O3.all 0 rfl) q7, _, _, _, rfl, ?_⟩
  have O10 := O3.nil (aE tell_str) none
  have O12 := O10.nil (aE tell_str) none
  have O14 := O12.nil (aE tell_str) none
  have O16 := O14.nm
  exact (scope_declared.l0_k.all e) (O16.pick [0, 1, 2, 3]).nm e_0 rfl rfl rfl rfl k8 r9
def scope_funcs.post (W : Nat → Prop) (h0 m0 : Heap) (r : Int × Int) (v : Value) (h : Heap) : Prop := ∃ m , Hold W h0 m0 h m [] ∧ v = .tuple #[.int .i64 r.1, .int .i64 r.2]
inductive scope_funcs.l0_k.Pt where
  | l0 (b_2 : Bool) (y_3 : T_api_Program) (a_12 : List T_api_Func) (x_13 : Int) (x_14 : Int)
  | j1 (b_2 : Bool) (y_3 : T_api_Program) (y_9 : T_api_Func) (a_12 : List T_api_Func) (x_13 : Int) (x_14 : Int) (b_25 : Bool)
  | j0 (b_2 : Bool) (y_3 : T_api_Program) (y_9 : T_api_Func) (a_12 : List T_api_Func) (x_13 : Int) (x_14 : Int)
noncomputable def scope_funcs.l0_k.body (go : (p : scope_funcs.l0_k.Pt) → Option (Int × Int)) : (p : scope_funcs.l0_k.Pt) → Option (Int × Int)
  | .l0 b_2 y_3 a_12 x_13 x_14 => if x_14 < x_13 then (Option.bind (gi a_12 x_14) fun y1 => Option.bind (scope_Twice y1.Params) fun y19 => if y19 = true then ((go (.j1 b_2 y_3 y1 a_12 x_13 x_14 true))) else (Option.bind (scope_Twice y1.Names) fun y31 => (go (.j1 b_2 y_3 y1 a_12 x_13 x_14 y31)))) else (some ((0 : Int), (0 : Int)))
  | .j1 b_2 y_3 y_9 a_12 x_13 x_14 b_25 => if b_25 = true then (some ((11 : Int), (0 : Int))) else ((go (.j0 b_2 y_3 y_9 a_12 x_13 x_14)))
  | .j0 b_2 y_3 y_9 a_12 x_13 x_14 => if b_2 = true then (Option.bind (scope_Expr y_3 y_9.Names y_9.Body) fun y6 => if y6.1 = (0 : Int) then ((go (.l0 b_2 y_3 a_12 x_13 (IntKind.wrap .i64 (x_14 + (1 : Int)))))) else (some (y6.1, y6.2))) else ((go (.l0 b_2 y_3 a_12 x_13 (IntKind.wrap .i64 (x_14 + (1 : Int))))))
theorem scope_funcs.l0_k.mono : MonoF (β := fun _ => (Int × Int)) scope_funcs.l0_k.body := fun f g hfg p => match p with
  | .l0 b_2 y_3 a_12 x_13 x_14 => LeO.ite (LeO.bind (LeO.refl _) fun y1 => LeO.bind (LeO.refl _) fun y19 => LeO.ite ((hfg _)) (LeO.bind (LeO.refl _) fun y31 => (hfg _))) (LeO.refl _)
  | .j1 b_2 y_3 y_9 a_12 x_13 x_14 b_25 => LeO.ite (LeO.refl _) ((hfg _))
  | .j0 b_2 y_3 y_9 a_12 x_13 x_14 => LeO.ite (LeO.bind (LeO.refl _) fun y6 => LeO.ite ((hfg _)) (LeO.refl _)) ((hfg _))
noncomputable def scope_funcs.l0_k.go (p : scope_funcs.l0_k.Pt) : Option (Int × Int) := fixF (β := fun _ => (Int × Int)) scope_funcs.l0_k.body p
noncomputable def scope_funcs.l0 (b_2 y_3 a_12 x_13 x_14) := scope_funcs.l0_k.go (.l0 b_2 y_3 a_12 x_13 x_14)
noncomputable def scope_funcs.j1 (b_2 y_3 y_9 a_12 x_13 x_14 b_25) := scope_funcs.l0_k.go (.j1 b_2 y_3 y_9 a_12 x_13 x_14 b_25)
noncomputable def scope_funcs.j0 (b_2 y_3 y_9 a_12 x_13 x_14) := scope_funcs.l0_k.go (.j0 b_2 y_3 y_9 a_12 x_13 x_14)
theorem scope_funcs.l0_eq (b_2 y_3 a_12 x_13 x_14) : scope_funcs.l0 b_2 y_3 a_12 x_13 x_14 = if x_14 < x_13 then (Option.bind (gi a_12 x_14) fun y1 => Option.bind (scope_Twice y1.Params) fun y19 => if y19 = true then ((scope_funcs.j1 b_2 y_3 y1 a_12 x_13 x_14 true)) else (Option.bind (scope_Twice y1.Names) fun y31 => (scope_funcs.j1 b_2 y_3 y1 a_12 x_13 x_14 y31))) else (some ((0 : Int), (0 : Int))) := fixF_eq scope_funcs.l0_k.mono _
theorem scope_funcs.j1_eq (b_2 y_3 y_9 a_12 x_13 x_14 b_25) : scope_funcs.j1 b_2 y_3 y_9 a_12 x_13 x_14 b_25 = if b_25 = true then (some ((11 : Int), (0 : Int))) else ((scope_funcs.j0 b_2 y_3 y_9 a_12 x_13 x_14)) := fixF_eq scope_funcs.l0_k.mono _
theorem scope_funcs.j0_eq (b_2 y_3 y_9 a_12 x_13 x_14) : scope_funcs.j0 b_2 y_3 y_9 a_12 x_13 x_14 = if b_2 = true then (Option.bind (scope_Expr y_3 y_9.Names y_9.Body) fun y6 => if y6.1 = (0 : Int) then ((scope_funcs.l0 b_2 y_3 a_12 x_13 (IntKind.wrap .i64 (x_14 + (1 : Int))))) else (some (y6.1, y6.2))) else ((scope_funcs.l0 b_2 y_3 a_12 x_13 (IntKind.wrap .i64 (x_14 + (1 : Int))))) := fixF_eq scope_funcs.l0_k.mono _
def scope_funcs.l0_k.I : (p : scope_funcs.l0_k.Pt) → (Int × Int) → Prop
  | .l0 b_2 y_3 a_12 x_13 x_14, r => ∀ {W h0 m0 h m bk_3 cs_3 A_12 n_12 c_12} (O : Hold W h0 m0 h m [rV bk_3 135 cs_3]) (e_3 : T_api_Program.E m y_3 cs_3) (ne_12 : n_12 = List.length a_12) (k_12 : List.length a_12 ≤ c_12) (r_12 : Rd 15 T_api_Func.E m A_12 a_12), f105.l0 (scope_funcs.post W h0 m0 r) b_2 (⟨bk_3, 0, none⟩ : Addr) A_12 n_12 c_12 x_13 x_14 h
  | .j1 b_2 y_3 y_9 a_12 x_13 x_14 b_25, r => ∀ {W h0 m0 h m bk_3 cs_3 bk_9 cs_9 A_12 n_12 c_12} (O : Hold W h0 m0 h m [rV bk_3 135 cs_3, rV bk_9 219 cs_9]) (e_3 : T_api_Program.E m y_3 cs_3) (e_9 : T_api_Func.E m y_9 cs_9) (ne_12 : n_12 = List.length a_12) (k_12 : List.length a_12 ≤ c_12) (r_12 : Rd 15 T_api_Func.E m A_12 a_12), f105.j1 (scope_funcs.post W h0 m0 r) b_2 (⟨bk_3, 0, none⟩ : Addr) (⟨bk_9, 0, none⟩ : Addr) A_12 n_12 c_12 x_13 x_14 b_25 h
  | .j0 b_2 y_3 y_9 a_12 x_13 x_14, r => ∀ {W h0 m0 h m bk_3 cs_3 bk_9 cs_9 A_12 n_12 c_12} (O : Hold W h0 m0 h m [rV bk_3 135 cs_3, rV bk_9 219 cs_9]) (e_3 : T_api_Program.E m y_3 cs_3) (e_9 : T_api_Func.E m y_9 cs_9) (ne_12 : n_12 = List.length a_12) (k_12 : List.length a_12 ≤ c_12) (r_12 : Rd 15 T_api_Func.E m A_12 a_12), f105.j0 (scope_funcs.post W h0 m0 r) b_2 (⟨bk_3, 0, none⟩ : Addr) (⟨bk_9, 0, none⟩ : Addr) A_12 n_12 c_12 x_13 x_14 h
theorem scope_funcs.l0_k.step_l0 (go : (p : scope_funcs.l0_k.Pt) → Option (Int × Int)) (ih : ∀ p r, go p = some r → scope_funcs.l0_k.I p r) (b_2 y_3 a_12 x_13 x_14) (r) (e : scope_funcs.l0_k.body go (.l0 b_2 y_3 a_12 x_13 x_14) = some r) : scope_funcs.l0_k.I (.l0 b_2 y_3 a_12 x_13 x_14) r := by
  unfold scope_funcs.l0_k.body at e
  intro W h0 m0 h m bk_3 cs_3 A_12 n_12 c_12 O e_3 ne_12 k_12 r_12
  subst ne_12
  refine f105.l0_in ?_
  unfold f105.l0T
  refine split_dec_e e (fun c39 e => ?_) (fun c39 e => ?_)
  · obtain ⟨y1, g2, e⟩ := bind_e e
    refine r_12.addr rfl g2 fun a3 cs4 ha5 hc6 he7 => ?_
    refine ⟨_, ldAn O.s hc6 rfl, ?_⟩
    refine O.new fun h8 x9 O10 => ?_
    refine ⟨_, rfl, (T_api_Func.T.len _ _ _ he7), ?_⟩
    refine O10.stA 1 rfl (T_api_Func.T.len _ _ _ he7) (T_api_Func.T.flat _ _ _ he7) fun h12 O13 => ?_
    obtain ⟨A14, c15, q16, k17, r18⟩ := T_api_Func.g1 he7
    refine ⟨_, ldk (k := 1) (Sub.refl _) (O13.all 1 rfl) q16, _, _, _, rfl, ?_⟩
    obtain ⟨y19, g20, e⟩ := bind_e e
    refine (scope_Twice.walk (Hold.start (W := No) O13.s) rfl k17 r18 g20).mono ?_
    rintro _ h21 ⟨m22, Q23, rfl⟩
    have O25 := Hold.nm (O13.retC Q23 vfs_nil)
    refine ⟨_, rfl, ?_⟩
    refine split_any_e e (fun c38 e => ?_) (fun c38 e => ?_)
    · exact (ih _ _ e) (O25.pick [0, 1]).nm e_3 he7 rfl k_12 r_12
    · obtain ⟨A26, c27, q28, k29, r30⟩ := T_api_Func.g2 he7
      refine ⟨_, ldk (k := 2) (Sub.refl _) (O25.all 1 rfl) q28, _, _, _, rfl, ?_⟩
      obtain ⟨y31, g32, e⟩ := bind_e e
      refine (scope_Twice.walk (Hold.start (W := No) O25.s) rfl k29 r30 g32).mono ?_
      rintro _ h33 ⟨m34, Q35, rfl⟩
      have O37 := Hold.nm (O25.retC Q35 vfs_nil)
      refine ⟨_, rfl, ?_⟩
      exact (ih _ _ e) (O37.pick [0, 1]).nm e_3 he7 rfl k_12 r_12
  · cases e
    exact ⟨_, O.pick [], rfl⟩
theorem scope_funcs.l0_k.step_j1 (go : (p : scope_funcs.l0_k.Pt) → Option (Int × Int)) (ih : ∀ p r, go p = some r → scope_funcs.l0_k.I p r) (b_2 y_3 y_9 a_12 x_13 x_14 b_25) (r) (e : scope_funcs.l0_k.body go (.j1 b_2 y_3 y_9 a_12 x_13 x_14 b_25) = some r) : scope_funcs.l0_k.I (.j1 b_2 y_3 y_9 a_12 x_13 x_14 b_25) r := by
  unfold scope_funcs.l0_k.body at e
  intro W h0 m0 h m bk_3 cs_3 bk_9 cs_9 A_12 n_12 c_12 O e_3 e_9 ne_12 k_12 r_12
  subst ne_12
  refine f105.j1_in ?_
  unfold f105.j1T
  refine split_any_e e (fun c1 e => ?_) (fun c1 e => ?_)
  · cases e
    exact ⟨_, O.pick [], rfl⟩
  · exact (ih _ _ e) (O.pick [0, 1]).nm e_3 e_9 rfl k_12 r_12
theorem scope_funcs.l0_k.step_j0 (go : (p : scope_funcs.l0_k.Pt) → Option (Int × Int)) (ih : ∀ p r, go p = some r → scope_funcs.l0_k.I p r) (b_2 y_3 y_9 a_12 x_13 x_14) (r) (e : scope_funcs.l0_k.body go (.j0 b_2 y_3 y_9 a_12 x_13 x_14) = some r) : scope_funcs.l0_k.I (.j0 b_2 y_3 y_9 a_12 x_13 x_14) r := by
  unfold scope_funcs.l0_k.body at e
  intro W h0 m0 h m bk_3 cs_3 bk_9 cs_9 A_12 n_12 c_12 O e_3 e_9 ne_12 k_12 r_12
  subst ne_12
  refine f105.j0_in ?_
  unfold f105.j0T
  refine split_not ?_
  refine split_any_e e (fun c14 e => ?_) (fun c14 e => ?_)
  · refine ⟨_, ldAn (Sub.refl _) (O.all 0 rfl) (T_api_Program.T.len _ _ _ e_3), ?_⟩
    obtain ⟨A1, c2, q3, k4, r5⟩ := T_api_Func.g2 e_9
    refine ⟨_, ldk (k := 2) (Sub.refl _) (O.all 1 rfl) q3, _, _, _, rfl, ?_⟩
    refine ⟨_, ldAkn (Sub.refl _) (O.all 1 rfl) 7 8 (le_len (T_api_Func.T.len _ _ _ e_9) (by decide)), ?_⟩
    obtain ⟨y6, g7, e⟩ := bind_e e
    refine (scope_Expr.walk (Hold.start (W := No) O.s) e_3 rfl k4 r5 (T_api_Func.u7_152 e_9) g7).mono ?_
    rintro _ h8 ⟨m9, Q10, rfl⟩
    have O12 := Hold.nm (O.retC Q10 vfs_nil)
    refine ⟨_, _, rfl, ?_⟩
    refine split_ne_e e (fun c13 e => ?_) (fun c13 e => ?_)
    · cases e
      exact ⟨_, O12.pick [], rfl⟩
    · exact (ih _ _ e) (O12.pick [0]).nm e_3 rfl k_12 r_12
  · exact (ih _ _ e) (O.pick [0]).nm e_3 rfl k_12 r_12
theorem scope_funcs.l0_k.all {p : scope_funcs.l0_k.Pt} {r : (Int × Int)} (e : scope_funcs.l0_k.go p = some r) : scope_funcs.l0_k.I p r := fixF_ind (β := fun _ => (Int × Int)) scope_funcs.l0_k.mono (I := scope_funcs.l0_k.I) (fun go ih p r e => match p with
  | .l0 b_2 y_3 a_12 x_13 x_14 => scope_funcs.l0_k.step_l0 go ih b_2 y_3 a_12 x_13 x_14 r e
  | .j1 b_2 y_3 y_9 a_12 x_13 x_14 b_25 => scope_funcs.l0_k.step_j1 go ih b_2 y_3 y_9 a_12 x_13 x_14 b_25 r e
  | .j0 b_2 y_3 y_9 a_12 x_13 x_14 => scope_funcs.l0_k.step_j0 go ih b_2 y_3 y_9 a_12 x_13 x_14 r e
  ) e
noncomputable def scope_funcs (y_0 : T_api_Program) (a_1 : List T_api_Func) (b_2 : Bool) : Option (Int × Int) :=
  (scope_funcs.l0 b_2 y_0 a_1 (((List.length a_1) : Nat) : Int) (0 : Int))
theorem scope_funcs.walk {W h m cs_0 A_1 n_1 c_1 y_0 a_1 b_2} (O : Hold W h m h m []) (e_0 : T_api_Program.E m y_0 cs_0) (ne_1 : n_1 = List.length a_1) (k_1 : List.length a_1 ≤ c_1) (r_1 : Rd 15 T_api_Func.E m A_1 a_1) {r} (e : scope_funcs y_0 a_1 b_2 = some r) : Run Try.prog 105 #[Value.agg cs_0.toArray, Value.slice A_1 n_1 c_1, Value.bool b_2] h (scope_funcs.post W h m r) := by
  unfold scope_funcs at e
  subst ne_1
  refine f105.run ?_
  unfold f105.runT
  refine O.new fun h1 x2 O3 => ?_
  have O5 := O3.nm
  exact (scope_funcs.l0_k.all e) (O5.pick [0]).nm e_0 rfl k_1 r_1
def scope_Program.post (W : Nat → Prop) (h0 m0 : Heap) (r : Int × Int) (v : Value) (h : Heap) : Prop := ∃ m , Hold W h0 m0 h m [] ∧ v = .tuple #[.int .i64 r.1, .int .i64 r.2]
inductive scope_Program.l2_k.Pt where
  | l2 (y_1 : T_api_Program) (a_71 : List T_api_Actor) (x_72 : Int) (x_73 : Int)
noncomputable def scope_Program.l2_k.body (go : (p : scope_Program.l2_k.Pt) → Option (Int × Int)) : (p : scope_Program.l2_k.Pt) → Option (Int × Int)
  | .l2 y_1 a_71 x_72 x_73 => if x_73 < x_72 then (Option.bind (gi a_71 x_73) fun y1 => Option.bind (scope_Twice y1.Names) fun y19 => if y19 = true then (some ((11 : Int), (0 : Int))) else (Option.bind (scope_Expr y_1 y1.Names y1.Body) fun y31 => if y31.1 = (0 : Int) then ((go (.l2 y_1 a_71 x_72 (IntKind.wrap .i64 (x_73 + (1 : Int)))))) else (some (y31.1, y31.2)))) else (some ((0 : Int), (0 : Int)))
theorem scope_Program.l2_k.mono : MonoF (β := fun _ => (Int × Int)) scope_Program.l2_k.body := fun f g hfg p => match p with
  | .l2 y_1 a_71 x_72 x_73 => LeO.ite (LeO.bind (LeO.refl _) fun y1 => LeO.bind (LeO.refl _) fun y19 => LeO.ite (LeO.refl _) (LeO.bind (LeO.refl _) fun y31 => LeO.ite ((hfg _)) (LeO.refl _))) (LeO.refl _)
noncomputable def scope_Program.l2_k.go (p : scope_Program.l2_k.Pt) : Option (Int × Int) := fixF (β := fun _ => (Int × Int)) scope_Program.l2_k.body p
noncomputable def scope_Program.l2 (y_1 a_71 x_72 x_73) := scope_Program.l2_k.go (.l2 y_1 a_71 x_72 x_73)
theorem scope_Program.l2_eq (y_1 a_71 x_72 x_73) : scope_Program.l2 y_1 a_71 x_72 x_73 = if x_73 < x_72 then (Option.bind (gi a_71 x_73) fun y1 => Option.bind (scope_Twice y1.Names) fun y19 => if y19 = true then (some ((11 : Int), (0 : Int))) else (Option.bind (scope_Expr y_1 y1.Names y1.Body) fun y31 => if y31.1 = (0 : Int) then ((scope_Program.l2 y_1 a_71 x_72 (IntKind.wrap .i64 (x_73 + (1 : Int))))) else (some (y31.1, y31.2)))) else (some ((0 : Int), (0 : Int))) := fixF_eq scope_Program.l2_k.mono _
def scope_Program.l2_k.I : (p : scope_Program.l2_k.Pt) → (Int × Int) → Prop
  | .l2 y_1 a_71 x_72 x_73, r => ∀ {W h0 m0 h m bk_1 cs_1 A_71 n_71 c_71} (O : Hold W h0 m0 h m [rV bk_1 135 cs_1]) (e_1 : T_api_Program.E m y_1 cs_1) (ne_71 : n_71 = List.length a_71) (k_71 : List.length a_71 ≤ c_71) (r_71 : Rd 14 T_api_Actor.E m A_71 a_71), f58.l2 (scope_Program.post W h0 m0 r) (⟨bk_1, 0, none⟩ : Addr) A_71 n_71 c_71 x_72 x_73 h
set_option maxHeartbeats 4000000 in
theorem scope_Program.l2_k.step_l2 (go : (p : scope_Program.l2_k.Pt) → Option (Int × Int)) (ih : ∀ p r, go p = some r → scope_Program.l2_k.I p r) (y_1 a_71 x_72 x_73) (r) (e : scope_Program.l2_k.body go (.l2 y_1 a_71 x_72 x_73) = some r) : scope_Program.l2_k.I (.l2 y_1 a_71 x_72 x_73) r := by
  unfold scope_Program.l2_k.body at e
  intro W h0 m0 h m bk_1 cs_1 A_71 n_71 c_71 O e_1 ne_71 k_71 r_71
  subst ne_71
  refine f58.l2_in ?_
  unfold f58.l2T
  refine split_dec_e e (fun c40 e => ?_) (fun c40 e => ?_)
  · obtain ⟨y1, g2, e⟩ := bind_e e
    refine r_71.addr rfl g2 fun a3 cs4 ha5 hc6 he7 => ?_
    refine ⟨_, ldAn O.s hc6 rfl, ?_⟩
    refine O.new fun h8 x9 O10 => ?_
    refine ⟨_, rfl, (T_api_Actor.T.len _ _ _ he7), ?_⟩
    refine O10.stA 1 rfl (T_api_Actor.T.len _ _ _ he7) (T_api_Actor.T.flat _ _ _ he7) fun h12 O13 => ?_
    obtain ⟨A14, c15, q16, k17, r18⟩ := T_api_Actor.g1 he7
    refine ⟨_, ldk (k := 1) (Sub.refl _) (O13.all 1 rfl) q16, _, _, _, rfl, ?_⟩
    obtain ⟨y19, g20, e⟩ := bind_e e
    refine (scope_Twice.walk (Hold.start (W := No) O13.s) rfl k17 r18 g20).mono ?_
    rintro _ h21 ⟨m22, Q23, rfl⟩
    have O25 := Hold.nm (O13.retC Q23 vfs_nil)
    refine ⟨_, rfl, ?_⟩
    refine split_any_e e (fun c39 e => ?_) (fun c39 e => ?_)
    · cases e
      exact ⟨_, O25.pick [], rfl⟩
    · refine ⟨_, ldAn (Sub.refl _) (O25.all 0 rfl) (T_api_Program.T.len _ _ _ e_1), ?_⟩
      obtain ⟨A26, c27, q28, k29, r30⟩ := T_api_Actor.g1 he7
      refine ⟨_, ldk (k := 1) (Sub.refl _) (O25.all 1 rfl) q28, _, _, _, rfl, ?_⟩
      refine ⟨_, ldAkn (Sub.refl _) (O25.all 1 rfl) 6 8 (le_len (T_api_Actor.T.len _ _ _ he7) (by decide)), ?_⟩
      obtain ⟨y31, g32, e⟩ := bind_e e
      refine (scope_Expr.walk (Hold.start (W := No) O25.s) e_1 rfl k29 r30 (T_api_Actor.u6_152 he7) g32).mono ?_
      rintro _ h33 ⟨m34, Q35, rfl⟩
      have O37 := Hold.nm (O25.retC Q35 vfs_nil)
      refine ⟨_, _, rfl, ?_⟩
      refine split_ne_e e (fun c38 e => ?_) (fun c38 e => ?_)
      · cases e
        exact ⟨_, O37.pick [], rfl⟩
      · exact (ih _ _ e) (O37.pick [0]).nm e_1 rfl k_71 r_71
  · cases e
    exact ⟨_, O.pick [], rfl⟩
theorem scope_Program.l2_k.all {p : scope_Program.l2_k.Pt} {r : (Int × Int)} (e : scope_Program.l2_k.go p = some r) : scope_Program.l2_k.I p r := fixF_ind (β := fun _ => (Int × Int)) scope_Program.l2_k.mono (I := scope_Program.l2_k.I) (fun go ih p r e => match p with
  | .l2 y_1 a_71 x_72 x_73 => scope_Program.l2_k.step_l2 go ih y_1 a_71 x_72 x_73 r e
  ) e
inductive scope_Program.l1_k.Pt where
  | l1 (y_1 : T_api_Program) (a_41 : List T_api_Impl) (x_42 : Int) (x_43 : Int)
noncomputable def scope_Program.l1_k.body (go : (p : scope_Program.l1_k.Pt) → Option (Int × Int)) : (p : scope_Program.l1_k.Pt) → Option (Int × Int)
  | .l1 y_1 a_41 x_42 x_43 => if x_43 < x_42 then (Option.bind (gi a_41 x_43) fun y1 => Option.bind (scope_funcs y_1 y1.Funcs true) fun y19 => if y19.1 = (0 : Int) then ((go (.l1 y_1 a_41 x_42 (IntKind.wrap .i64 (x_43 + (1 : Int)))))) else (some (y19.1, y19.2))) else (Option.bind (scope_funcs y_1 y_1.Funcs true) fun y32 => if y32.1 = (0 : Int) then ((scope_Program.l2 y_1 y_1.Actors (((List.length y_1.Actors) : Nat) : Int) (0 : Int))) else (some (y32.1, y32.2)))
theorem scope_Program.l1_k.mono : MonoF (β := fun _ => (Int × Int)) scope_Program.l1_k.body := fun f g hfg p => match p with
  | .l1 y_1 a_41 x_42 x_43 => LeO.ite (LeO.bind (LeO.refl _) fun y1 => LeO.bind (LeO.refl _) fun y19 => LeO.ite ((hfg _)) (LeO.refl _)) (LeO.bind (LeO.refl _) fun y32 => LeO.ite ((LeO.refl _)) (LeO.refl _))
noncomputable def scope_Program.l1_k.go (p : scope_Program.l1_k.Pt) : Option (Int × Int) := fixF (β := fun _ => (Int × Int)) scope_Program.l1_k.body p
noncomputable def scope_Program.l1 (y_1 a_41 x_42 x_43) := scope_Program.l1_k.go (.l1 y_1 a_41 x_42 x_43)
theorem scope_Program.l1_eq (y_1 a_41 x_42 x_43) : scope_Program.l1 y_1 a_41 x_42 x_43 = if x_43 < x_42 then (Option.bind (gi a_41 x_43) fun y1 => Option.bind (scope_funcs y_1 y1.Funcs true) fun y19 => if y19.1 = (0 : Int) then ((scope_Program.l1 y_1 a_41 x_42 (IntKind.wrap .i64 (x_43 + (1 : Int))))) else (some (y19.1, y19.2))) else (Option.bind (scope_funcs y_1 y_1.Funcs true) fun y32 => if y32.1 = (0 : Int) then ((scope_Program.l2 y_1 y_1.Actors (((List.length y_1.Actors) : Nat) : Int) (0 : Int))) else (some (y32.1, y32.2))) := fixF_eq scope_Program.l1_k.mono _
def scope_Program.l1_k.I : (p : scope_Program.l1_k.Pt) → (Int × Int) → Prop
  | .l1 y_1 a_41 x_42 x_43, r => ∀ {W h0 m0 h m bk_1 cs_1 A_41 n_41 c_41} (O : Hold W h0 m0 h m [rV bk_1 135 cs_1]) (e_1 : T_api_Program.E m y_1 cs_1) (ne_41 : n_41 = List.length a_41) (k_41 : List.length a_41 ≤ c_41) (r_41 : Rd 3 T_api_Impl.E m A_41 a_41), f58.l1 (scope_Program.post W h0 m0 r) (⟨bk_1, 0, none⟩ : Addr) A_41 n_41 c_41 x_42 x_43 h
set_option maxHeartbeats 4000000 in
theorem scope_Program.l1_k.step_l1 (go : (p : scope_Program.l1_k.Pt) → Option (Int × Int)) (ih : ∀ p r, go p = some r → scope_Program.l1_k.I p r) (y_1 a_41 x_42 x_43) (r) (e : scope_Program.l1_k.body go (.l1 y_1 a_41 x_42 x_43) = some r) : scope_Program.l1_k.I (.l1 y_1 a_41 x_42 x_43) r := by
  unfold scope_Program.l1_k.body at e
  intro W h0 m0 h m bk_1 cs_1 A_41 n_41 c_41 O e_1 ne_41 k_41 r_41
  subst ne_41
  refine f58.l1_in ?_
  unfold f58.l1T
  refine split_dec_e e (fun c45 e => ?_) (fun c45 e => ?_)
  · obtain ⟨y1, g2, e⟩ := bind_e e
    refine r_41.addr rfl g2 fun a3 cs4 ha5 hc6 he7 => ?_
    refine ⟨_, ldAn O.s hc6 rfl, ?_⟩
    refine O.new fun h8 x9 O10 => ?_
    refine ⟨_, rfl, (T_api_Impl.T.len _ _ _ he7), ?_⟩
    refine O10.stA 1 rfl (T_api_Impl.T.len _ _ _ he7) (T_api_Impl.T.flat _ _ _ he7) fun h12 O13 => ?_
    refine ⟨_, ldAn (Sub.refl _) (O13.all 0 rfl) (T_api_Program.T.len _ _ _ e_1), ?_⟩
    obtain ⟨A14, c15, q16, k17, r18⟩ := T_api_Impl.g2 he7
    refine ⟨_, ldk (k := 2) (Sub.refl _) (O13.all 1 rfl) q16, _, _, _, rfl, ?_⟩
    obtain ⟨y19, g20, e⟩ := bind_e e
    refine (scope_funcs.walk (Hold.start (W := No) O13.s) e_1 rfl k17 r18 g20).mono ?_
    rintro _ h21 ⟨m22, Q23, rfl⟩
    have O25 := Hold.nm (O13.retC Q23 vfs_nil)
    refine ⟨_, _, rfl, ?_⟩
    refine split_ne_e e (fun c26 e => ?_) (fun c26 e => ?_)
    · cases e
      exact ⟨_, O25.pick [], rfl⟩
    · exact (ih _ _ e) (O25.pick [0]).nm e_1 rfl k_41 r_41
  · refine ⟨_, ldAn (Sub.refl _) (O.all 0 rfl) (T_api_Program.T.len _ _ _ e_1), ?_⟩
    obtain ⟨A27, c28, q29, k30, r31⟩ := T_api_Program.g6 e_1
    refine ⟨_, ldk (k := 6) (Sub.refl _) (O.all 0 rfl) q29, _, _, _, rfl, ?_⟩
    obtain ⟨y32, g33, e⟩ := bind_e e
    refine (scope_funcs.walk (Hold.start (W := No) O.s) e_1 rfl k30 r31 g33).mono ?_
    rintro _ h34 ⟨m35, Q36, rfl⟩
    have O38 := Hold.nm (O.retC Q36 vfs_nil)
    refine ⟨_, _, rfl, ?_⟩
    refine split_ne_e e (fun c44 e => ?_) (fun c44 e => ?_)
    · cases e
      exact ⟨_, O38.pick [], rfl⟩
    · obtain ⟨A39, c40, q41, k42, r43⟩ := T_api_Program.g7 e_1
      refine ⟨_, ldk (k := 7) (Sub.refl _) (O38.all 0 rfl) q41, _, _, _, rfl, ?_⟩
      exact (scope_Program.l2_k.all e) (O38.pick [0]).nm e_1 rfl k42 r43
theorem scope_Program.l1_k.all {p : scope_Program.l1_k.Pt} {r : (Int × Int)} (e : scope_Program.l1_k.go p = some r) : scope_Program.l1_k.I p r := fixF_ind (β := fun _ => (Int × Int)) scope_Program.l1_k.mono (I := scope_Program.l1_k.I) (fun go ih p r e => match p with
  | .l1 y_1 a_41 x_42 x_43 => scope_Program.l1_k.step_l1 go ih y_1 a_41 x_42 x_43 r e
  ) e
inductive scope_Program.l0_k.Pt where
  | l0 (y_1 : T_api_Program) (a_22 : List T_api_Trait) (x_23 : Int) (x_24 : Int)
noncomputable def scope_Program.l0_k.body (go : (p : scope_Program.l0_k.Pt) → Option (Int × Int)) : (p : scope_Program.l0_k.Pt) → Option (Int × Int)
  | .l0 y_1 a_22 x_23 x_24 => if x_24 < x_23 then (Option.bind (gi a_22 x_24) fun y1 => Option.bind (scope_funcs y_1 y1.Funcs false) fun y19 => if y19.1 = (0 : Int) then ((go (.l0 y_1 a_22 x_23 (IntKind.wrap .i64 (x_24 + (1 : Int)))))) else (some (y19.1, y19.2))) else ((scope_Program.l1 y_1 y_1.Impls (((List.length y_1.Impls) : Nat) : Int) (0 : Int)))
theorem scope_Program.l0_k.mono : MonoF (β := fun _ => (Int × Int)) scope_Program.l0_k.body := fun f g hfg p => match p with
  | .l0 y_1 a_22 x_23 x_24 => LeO.ite (LeO.bind (LeO.refl _) fun y1 => LeO.bind (LeO.refl _) fun y19 => LeO.ite ((hfg _)) (LeO.refl _)) ((LeO.refl _))
noncomputable def scope_Program.l0_k.go (p : scope_Program.l0_k.Pt) : Option (Int × Int) := fixF (β := fun _ => (Int × Int)) scope_Program.l0_k.body p
noncomputable def scope_Program.l0 (y_1 a_22 x_23 x_24) := scope_Program.l0_k.go (.l0 y_1 a_22 x_23 x_24)
theorem scope_Program.l0_eq (y_1 a_22 x_23 x_24) : scope_Program.l0 y_1 a_22 x_23 x_24 = if x_24 < x_23 then (Option.bind (gi a_22 x_24) fun y1 => Option.bind (scope_funcs y_1 y1.Funcs false) fun y19 => if y19.1 = (0 : Int) then ((scope_Program.l0 y_1 a_22 x_23 (IntKind.wrap .i64 (x_24 + (1 : Int))))) else (some (y19.1, y19.2))) else ((scope_Program.l1 y_1 y_1.Impls (((List.length y_1.Impls) : Nat) : Int) (0 : Int))) := fixF_eq scope_Program.l0_k.mono _
def scope_Program.l0_k.I : (p : scope_Program.l0_k.Pt) → (Int × Int) → Prop
  | .l0 y_1 a_22 x_23 x_24, r => ∀ {W h0 m0 h m bk_1 cs_1 A_22 n_22 c_22} (O : Hold W h0 m0 h m [rV bk_1 135 cs_1]) (e_1 : T_api_Program.E m y_1 cs_1) (ne_22 : n_22 = List.length a_22) (k_22 : List.length a_22 ≤ c_22) (r_22 : Rd 2 T_api_Trait.E m A_22 a_22), f58.l0 (scope_Program.post W h0 m0 r) (⟨bk_1, 0, none⟩ : Addr) A_22 n_22 c_22 x_23 x_24 h
theorem scope_Program.l0_k.step_l0 (go : (p : scope_Program.l0_k.Pt) → Option (Int × Int)) (ih : ∀ p r, go p = some r → scope_Program.l0_k.I p r) (y_1 a_22 x_23 x_24) (r) (e : scope_Program.l0_k.body go (.l0 y_1 a_22 x_23 x_24) = some r) : scope_Program.l0_k.I (.l0 y_1 a_22 x_23 x_24) r := by
  unfold scope_Program.l0_k.body at e
  intro W h0 m0 h m bk_1 cs_1 A_22 n_22 c_22 O e_1 ne_22 k_22 r_22
  subst ne_22
  refine f58.l0_in ?_
  unfold f58.l0T
  refine split_dec_e e (fun c32 e => ?_) (fun c32 e => ?_)
  · obtain ⟨y1, g2, e⟩ := bind_e e
    refine r_22.addr rfl g2 fun a3 cs4 ha5 hc6 he7 => ?_
    refine ⟨_, ldAn O.s hc6 rfl, ?_⟩
    refine O.new fun h8 x9 O10 => ?_
    refine ⟨_, rfl, (T_api_Trait.T.len _ _ _ he7), ?_⟩
    refine O10.stA 1 rfl (T_api_Trait.T.len _ _ _ he7) (T_api_Trait.T.flat _ _ _ he7) fun h12 O13 => ?_
    refine ⟨_, ldAn (Sub.refl _) (O13.all 0 rfl) (T_api_Program.T.len _ _ _ e_1), ?_⟩
    obtain ⟨A14, c15, q16, k17, r18⟩ := T_api_Trait.g1 he7
    refine ⟨_, ldk (k := 1) (Sub.refl _) (O13.all 1 rfl) q16, _, _, _, rfl, ?_⟩
    obtain ⟨y19, g20, e⟩ := bind_e e
    refine (scope_funcs.walk (Hold.start (W := No) O13.s) e_1 rfl k17 r18 g20).mono ?_
    rintro _ h21 ⟨m22, Q23, rfl⟩
    have O25 := Hold.nm (O13.retC Q23 vfs_nil)
    refine ⟨_, _, rfl, ?_⟩
    refine split_ne_e e (fun c26 e => ?_) (fun c26 e => ?_)
    · cases e
      exact ⟨_, O25.pick [], rfl⟩
    · exact (ih _ _ e) (O25.pick [0]).nm e_1 rfl k_22 r_22
  · obtain ⟨A27, c28, q29, k30, r31⟩ := T_api_Program.g5 e_1
    refine ⟨_, ldk (k := 5) (Sub.refl _) (O.all 0 rfl) q29, _, _, _, rfl, ?_⟩
    exact (scope_Program.l1_k.all e) (O.pick [0]).nm e_1 rfl k30 r31
theorem scope_Program.l0_k.all {p : scope_Program.l0_k.Pt} {r : (Int × Int)} (e : scope_Program.l0_k.go p = some r) : scope_Program.l0_k.I p r := fixF_ind (β := fun _ => (Int × Int)) scope_Program.l0_k.mono (I := scope_Program.l0_k.I) (fun go ih p r e => match p with
  | .l0 y_1 a_22 x_23 x_24 => scope_Program.l0_k.step_l0 go ih y_1 a_22 x_23 x_24 r e
  ) e
noncomputable def scope_Program (y_0 : T_api_Program) : Option (Int × Int) :=
  Option.bind (scope_declared y_0) fun y5 => if y5 = true then ((scope_Program.l0 y_0 y_0.Traits (((List.length y_0.Traits) : Nat) : Int) (0 : Int))) else (some ((11 : Int), (0 : Int)))
theorem scope_Program.walk {W h m cs_0 y_0} (O : Hold W h m h m []) (e_0 : T_api_Program.E m y_0 cs_0) {r} (e : scope_Program y_0 = some r) : Run Try.prog 58 #[Value.agg cs_0.toArray] h (scope_Program.post W h m r) := by
  unfold scope_Program at e
  refine f58.run ?_
  unfold f58.runT
  refine O.new fun h1 x2 O3 => ?_
  refine ⟨_, ldAn (Sub.refl _) (O3.all 0 rfl) (T_api_Program.T.len _ _ _ e_0), ?_⟩
  obtain ⟨y5, g6, e⟩ := bind_e e
  refine (scope_declared.walk (Hold.start (W := No) O3.s) e_0 g6).mono ?_
  rintro _ h7 ⟨m8, Q9, rfl⟩
  have O11 := Hold.nm (O3.retC Q9 vfs_nil)
  refine ⟨_, rfl, ?_⟩
  refine split_not ?_
  refine split_any_e e (fun c17 e => ?_) (fun c17 e => ?_)
  · obtain ⟨A12, c13, q14, k15, r16⟩ := T_api_Program.g4 e_0
    refine ⟨_, ldk (k := 4) (Sub.refl _) (O11.all 0 rfl) q14, _, _, _, rfl, ?_⟩
    exact (scope_Program.l0_k.all e) (O11.pick [0]).nm e_0 rfl k15 r16
  · cases e
    exact ⟨_, O11.pick [], rfl⟩
def math_bits_Len64.post (W : Nat → Prop) (h0 m0 : Heap) (r : Int) (v : Value) (h : Heap) : Prop := ∃ m , Hold W h0 m0 h m [] ∧ v = .int .i64 r
noncomputable def math_bits_Len64.j2 (x_0 : Int) (x_2 : Int) : Option (Int) :=
  Option.bind (gb (ByteArray.mk #[0, 1, 2, 2, 3, 3, 3, 3, 4, 4, 4, 4, 4, 4, 4, 4, 5, 5, 5, 5, 5, 5, 5, 5, 5, 5, 5, 5, 5, 5, 5, 5, 6, 6, 6, 6, 6, 6, 6, 6, 6, 6, 6, 6, 6, 6, 6, 6, 6, 6, 6, 6, 6, 6, 6, 6, 6, 6, 6, 6, 6, 6, 6, 6, 7, 7, 7, 7, 7, 7, 7, 7, 7, 7, 7, 7, 7, 7, 7, 7, 7, 7, 7, 7, 7, 7, 7, 7, 7, 7, 7, 7, 7, 7, 7, 7, 7, 7, 7, 7, 7, 7, 7, 7, 7, 7, 7, 7, 7, 7, 7, 7, 7, 7, 7, 7, 7, 7, 7, 7, 7, 7, 7, 7, 7, 7, 7, 7, 8, 8, 8, 8, 8, 8, 8, 8, 8, 8, 8, 8, 8, 8, 8, 8, 8, 8, 8, 8, 8, 8, 8, 8, 8, 8, 8, 8, 8, 8, 8, 8, 8, 8, 8, 8, 8, 8, 8, 8, 8, 8, 8, 8, 8, 8, 8, 8, 8, 8, 8, 8, 8, 8, 8, 8, 8, 8, 8, 8, 8, 8, 8, 8, 8, 8, 8, 8, 8, 8, 8, 8, 8, 8, 8, 8, 8, 8, 8, 8, 8, 8, 8, 8, 8, 8, 8, 8, 8, 8, 8, 8, 8, 8, 8, 8, 8, 8, 8, 8, 8, 8, 8, 8, 8, 8, 8, 8, 8, 8, 8, 8, 8, 8, 8, 8, 8, 8, 8, 8, 8, 8, 8, 8, 8, 8, 8, 8]) (IntKind.wrap .u8 x_0)) fun y1 => some ((IntKind.wrap .i64 (x_2 + (IntKind.wrap .i64 y1))))
theorem math_bits_Len64.j2.walk {W h0 m0 h m x_0 x_2} (O : Hold W h0 m0 h m []) {r} (e : math_bits_Len64.j2 x_0 x_2 = some r) : f183.j2 (math_bits_Len64.post W h0 m0 r) x_0 x_2 h := by
  unfold math_bits_Len64.j2 at e
  refine f183.j2_in ?_
  unfold f183.j2T
  obtain ⟨y1, g2, e⟩ := bind_e e
  obtain ⟨q3, b4, q5, q6⟩ := gb_e g2
  refine ⟨q3, _, q5, ?_⟩
  try rw [← q6]
  cases e
  exact ⟨_, O.pick [], rfl⟩
noncomputable def math_bits_Len64.j1 (x_0 : Int) (x_2 : Int) : Option (Int) :=
  if x_0 ≥ (256 : Int) then ((math_bits_Len64.j2 (shrI .u64 x_0 (8 : Int)) (IntKind.wrap .i64 (x_2 + (8 : Int))))) else ((math_bits_Len64.j2 x_0 x_2))
theorem math_bits_Len64.j1.walk {W h0 m0 h m x_0 x_2} (O : Hold W h0 m0 h m []) {r} (e : math_bits_Len64.j1 x_0 x_2 = some r) : f183.j1 (math_bits_Len64.post W h0 m0 r) x_0 x_2 h := by
  unfold math_bits_Len64.j1 at e
  refine f183.j1_in ?_
  unfold f183.j1T
  refine split_dec_e e (fun c1 e => ?_) (fun c1 e => ?_)
  · refine ⟨by decide, ?_⟩
    exact math_bits_Len64.j2.walk (O.pick []).nm  e
  · exact math_bits_Len64.j2.walk (O.pick []).nm  e
noncomputable def math_bits_Len64.j0 (x_0 : Int) (x_2 : Int) : Option (Int) :=
  if x_0 ≥ (65536 : Int) then ((math_bits_Len64.j1 (shrI .u64 x_0 (16 : Int)) (IntKind.wrap .i64 (x_2 + (16 : Int))))) else ((math_bits_Len64.j1 x_0 x_2))
theorem math_bits_Len64.j0.walk {W h0 m0 h m x_0 x_2} (O : Hold W h0 m0 h m []) {r} (e : math_bits_Len64.j0 x_0 x_2 = some r) : f183.j0 (math_bits_Len64.post W h0 m0 r) x_0 x_2 h := by
  unfold math_bits_Len64.j0 at e
  refine f183.j0_in ?_
  unfold f183.j0T
  refine split_dec_e e (fun c1 e => ?_) (fun c1 e => ?_)
  · refine ⟨by decide, ?_⟩
    exact math_bits_Len64.j1.walk (O.pick []).nm  e
  · exact math_bits_Len64.j1.walk (O.pick []).nm  e
noncomputable def math_bits_Len64 (x_0 : Int) : Option (Int) :=
  if x_0 ≥ (4294967296 : Int) then ((math_bits_Len64.j0 (shrI .u64 x_0 (32 : Int)) (32 : Int))) else ((math_bits_Len64.j0 x_0 (0 : Int)))
theorem math_bits_Len64.walk {W h m x_0} (O : Hold W h m h m []) {r} (e : math_bits_Len64 x_0 = some r) : Run Try.prog 183 #[Value.int .u64 x_0] h (math_bits_Len64.post W h m r) := by
  unfold math_bits_Len64 at e
  refine f183.run ?_
  unfold f183.runT
  refine split_dec_e e (fun c1 e => ?_) (fun c1 e => ?_)
  · refine ⟨by decide, ?_⟩
    exact math_bits_Len64.j0.walk (O.pick []).nm  e
  · exact math_bits_Len64.j0.walk (O.pick []).nm  e
def math_bits_Len.post (W : Nat → Prop) (h0 m0 : Heap) (r : Int) (v : Value) (h : Heap) : Prop := ∃ m , Hold W h0 m0 h m [] ∧ v = .int .i64 r
noncomputable def math_bits_Len (x_0 : Int) : Option (Int) :=
  Option.bind (math_bits_Len64 x_0) fun y1 => some (y1)
theorem math_bits_Len.walk {W h m x_0} (O : Hold W h m h m []) {r} (e : math_bits_Len x_0 = some r) : Run Try.prog 148 #[Value.int .u64 x_0] h (math_bits_Len.post W h m r) := by
  unfold math_bits_Len at e
  refine f148.run ?_
  unfold f148.runT
  obtain ⟨y1, g2, e⟩ := bind_e e
  refine (math_bits_Len64.walk (Hold.start (W := No) O.s)  g2).mono ?_
  rintro _ h3 ⟨m4, Q5, rfl⟩
  have O7 := Hold.nm (O.retC Q5 vfs_nil)
  refine ⟨_, rfl, ?_⟩
  cases e
  exact ⟨_, O7.pick [], rfl⟩
def cmp_isNaN_221.post (W : Nat → Prop) (h0 m0 : Heap) (r : Bool) (v : Value) (h : Heap) : Prop := ∃ m , Hold W h0 m0 h m [] ∧ v = .bool r
noncomputable def cmp_isNaN_221 (s_0 : ByteArray) : Option (Bool) :=
  some ((!(decide (s_0 = s_0))))
theorem cmp_isNaN_221.walk {W h m s_0} (O : Hold W h m h m []) {r} (e : cmp_isNaN_221 s_0 = some r) : Run Try.prog 221 #[Value.string s_0] h (cmp_isNaN_221.post W h m r) := by
  unfold cmp_isNaN_221 at e
  refine f221.run ?_
  unfold f221.runT
  try rw [ba_list s_0 s_0]
  cases e
  exact ⟨_, O.pick [], rfl⟩
def cmp_Less_211.post (W : Nat → Prop) (h0 m0 : Heap) (r : Bool) (v : Value) (h : Heap) : Prop := ∃ m , Hold W h0 m0 h m [] ∧ v = .bool r
noncomputable def cmp_Less_211 (s_0 : ByteArray) (s_1 : ByteArray) : Option (Bool) :=
  Option.bind (cmp_isNaN_221 s_0) fun y1 => if y1 = true then (Option.bind (cmp_isNaN_221 s_1) fun y8 => if y8 = true then (some ((Op.bytesLess (ByteArray.toList s_0) (ByteArray.toList s_1)))) else (some (true))) else (some ((Op.bytesLess (ByteArray.toList s_0) (ByteArray.toList s_1))))
theorem cmp_Less_211.walk {W h m s_0 s_1} (O : Hold W h m h m []) {r} (e : cmp_Less_211 s_0 s_1 = some r) : Run Try.prog 211 #[Value.string s_0, Value.string s_1] h (cmp_Less_211.post W h m r) := by
  unfold cmp_Less_211 at e
  refine f211.run ?_
  unfold f211.runT
  obtain ⟨y1, g2, e⟩ := bind_e e
  refine (cmp_isNaN_221.walk (Hold.start (W := No) O.s)  g2).mono ?_
  rintro _ h3 ⟨m4, Q5, rfl⟩
  have O7 := Hold.nm (O.retC Q5 vfs_nil)
  refine ⟨_, rfl, ?_⟩
  refine split_any_e e (fun c16 e => ?_) (fun c16 e => ?_)
  · obtain ⟨y8, g9, e⟩ := bind_e e
    refine (cmp_isNaN_221.walk (Hold.start (W := No) O7.s)  g9).mono ?_
    rintro _ h10 ⟨m11, Q12, rfl⟩
    have O14 := Hold.nm (O7.retC Q12 vfs_nil)
    refine ⟨_, rfl, ?_⟩
    refine split_not ?_
    refine split_any_e e (fun c15 e => ?_) (fun c15 e => ?_)
    · cases e
      exact ⟨_, O14.pick [], rfl⟩
    · cases e
      exact ⟨_, O14.pick [], rfl⟩
  · cases e
    exact ⟨_, O7.pick [], rfl⟩
def sq205.post (W : Nat → Prop) (Asl0 : Option Addr) (nsl0 csl0 : Nat) (h0 m0 : Heap) (r : (List ByteArray)) (v : Value) (h : Heap) : Prop := ∃ m , Hold W h0 m0 h m [rR (aE tell_str) Asl0 csl0 r] ∧ v = .tuple #[] ∧ nsl0 = List.length r
inductive sq205.l0_k.Pt where
  | l0 (a_0 : List ByteArray) (x_1 : Int) (x_2 : Int) (x_6 : Int)
  | l1 (a_0 : List ByteArray) (x_1 : Int) (x_2 : Int) (x_6 : Int) (x_7 : Int)
  | j1 (a_0 : List ByteArray) (x_1 : Int) (x_2 : Int) (x_6 : Int) (x_7 : Int)
  | j0 (a_0 : List ByteArray) (x_1 : Int) (x_2 : Int) (x_6 : Int)
noncomputable def sq205.l0_k.body (go : (p : sq205.l0_k.Pt) → Option ((List ByteArray))) : (p : sq205.l0_k.Pt) → Option ((List ByteArray))
  | .l0 a_0 x_1 x_2 x_6 => if x_6 < x_2 then ((go (.l1 a_0 x_1 x_2 x_6 x_6))) else (some (a_0))
  | .l1 a_0 x_1 x_2 x_6 x_7 => if x_7 > x_1 then (Option.bind (gi a_0 x_7) fun y1 => Option.bind (gi a_0 (IntKind.wrap .i64 (x_7 - (1 : Int)))) fun y8 => Option.bind (cmp_Less_211 y1 y8) fun y15 => if y15 = true then ((go (.j1 a_0 x_1 x_2 x_6 x_7))) else ((go (.j0 a_0 x_1 x_2 x_6)))) else ((go (.j0 a_0 x_1 x_2 x_6)))
  | .j1 a_0 x_1 x_2 x_6 x_7 => Option.bind (gi a_0 (IntKind.wrap .i64 (x_7 - (1 : Int)))) fun y1 => Option.bind (gi a_0 x_7) fun y8 => Option.bind (gi a_0 x_7) fun y15 => Option.bind (some (List.set a_0 (Int.toNat x_7) y1)) fun l24 => Option.bind (gi l24 (IntKind.wrap .i64 (x_7 - (1 : Int)))) fun y26 => Option.bind (some (List.set l24 (Int.toNat (IntKind.wrap .i64 (x_7 - (1 : Int)))) y8)) fun l35 => (go (.l1 l35 x_1 x_2 x_6 (IntKind.wrap .i64 (x_7 - (1 : Int)))))
  | .j0 a_0 x_1 x_2 x_6 => (go (.l0 a_0 x_1 x_2 (IntKind.wrap .i64 (x_6 + (1 : Int)))))
attribute [local irreducible] cmp_Less_211 in
theorem sq205.l0_k.mono : MonoF (β := fun _ => ((List ByteArray))) sq205.l0_k.body := fun f g hfg p => match p with
  | .l0 a_0 x_1 x_2 x_6 => LeO.ite ((hfg _)) (LeO.refl _)
  | .l1 a_0 x_1 x_2 x_6 x_7 => LeO.ite (LeO.bind (LeO.refl _) fun y1 => LeO.bind (LeO.refl _) fun y8 => LeO.bind (LeO.refl _) fun y15 => LeO.ite ((hfg _)) ((hfg _))) ((hfg _))
  | .j1 a_0 x_1 x_2 x_6 x_7 => LeO.bind (LeO.refl _) fun y1 => LeO.bind (LeO.refl _) fun y8 => LeO.bind (LeO.refl _) fun y15 => LeO.bind (LeO.refl _) fun l24 => LeO.bind (LeO.refl _) fun y26 => LeO.bind (LeO.refl _) fun l35 => (hfg _)
  | .j0 a_0 x_1 x_2 x_6 => (hfg _)
noncomputable def sq205.l0_k.go (p : sq205.l0_k.Pt) : Option ((List ByteArray)) := fixF (β := fun _ => ((List ByteArray))) sq205.l0_k.body p
noncomputable def sq205.l0 (a_0 x_1 x_2 x_6) := sq205.l0_k.go (.l0 a_0 x_1 x_2 x_6)
noncomputable def sq205.l1 (a_0 x_1 x_2 x_6 x_7) := sq205.l0_k.go (.l1 a_0 x_1 x_2 x_6 x_7)
noncomputable def sq205.j1 (a_0 x_1 x_2 x_6 x_7) := sq205.l0_k.go (.j1 a_0 x_1 x_2 x_6 x_7)
noncomputable def sq205.j0 (a_0 x_1 x_2 x_6) := sq205.l0_k.go (.j0 a_0 x_1 x_2 x_6)
theorem sq205.l0_eq (a_0 x_1 x_2 x_6) : sq205.l0 a_0 x_1 x_2 x_6 = if x_6 < x_2 then ((sq205.l1 a_0 x_1 x_2 x_6 x_6)) else (some (a_0)) := fixF_eq sq205.l0_k.mono _
theorem sq205.l1_eq (a_0 x_1 x_2 x_6 x_7) : sq205.l1 a_0 x_1 x_2 x_6 x_7 = if x_7 > x_1 then (Option.bind (gi a_0 x_7) fun y1 => Option.bind (gi a_0 (IntKind.wrap .i64 (x_7 - (1 : Int)))) fun y8 => Option.bind (cmp_Less_211 y1 y8) fun y15 => if y15 = true then ((sq205.j1 a_0 x_1 x_2 x_6 x_7)) else ((sq205.j0 a_0 x_1 x_2 x_6))) else ((sq205.j0 a_0 x_1 x_2 x_6)) := fixF_eq sq205.l0_k.mono _
theorem sq205.j1_eq (a_0 x_1 x_2 x_6 x_7) : sq205.j1 a_0 x_1 x_2 x_6 x_7 = Option.bind (gi a_0 (IntKind.wrap .i64 (x_7 - (1 : Int)))) fun y1 => Option.bind (gi a_0 x_7) fun y8 => Option.bind (gi a_0 x_7) fun y15 => Option.bind (some (List.set a_0 (Int.toNat x_7) y1)) fun l24 => Option.bind (gi l24 (IntKind.wrap .i64 (x_7 - (1 : Int)))) fun y26 => Option.bind (some (List.set l24 (Int.toNat (IntKind.wrap .i64 (x_7 - (1 : Int)))) y8)) fun l35 => (sq205.l1 l35 x_1 x_2 x_6 (IntKind.wrap .i64 (x_7 - (1 : Int)))) := fixF_eq sq205.l0_k.mono _
theorem sq205.j0_eq (a_0 x_1 x_2 x_6) : sq205.j0 a_0 x_1 x_2 x_6 = (sq205.l0 a_0 x_1 x_2 (IntKind.wrap .i64 (x_6 + (1 : Int)))) := fixF_eq sq205.l0_k.mono _
def sq205.l0_k.I : (p : sq205.l0_k.Pt) → ((List ByteArray)) → Prop
  | .l0 a_0 x_1 x_2 x_6, r => ∀ {W h0 m0 h m A_0 n_0 c_0} (O : Hold W h0 m0 h m [rR (aE tell_str) A_0 c_0 a_0]) (ne_0 : n_0 = List.length a_0), f205.l0 (sq205.post W A_0 n_0 c_0 h0 m0 r) A_0 n_0 c_0 x_1 x_2 x_6 h
  | .l1 a_0 x_1 x_2 x_6 x_7, r => ∀ {W h0 m0 h m A_0 n_0 c_0} (O : Hold W h0 m0 h m [rR (aE tell_str) A_0 c_0 a_0]) (ne_0 : n_0 = List.length a_0), f205.l1 (sq205.post W A_0 n_0 c_0 h0 m0 r) A_0 n_0 c_0 x_1 x_2 x_6 x_7 h
  | .j1 a_0 x_1 x_2 x_6 x_7, r => ∀ {W h0 m0 h m A_0 n_0 c_0} (O : Hold W h0 m0 h m [rR (aE tell_str) A_0 c_0 a_0]) (ne_0 : n_0 = List.length a_0), f205.j1 (sq205.post W A_0 n_0 c_0 h0 m0 r) A_0 n_0 c_0 x_1 x_2 x_6 x_7 h
  | .j0 a_0 x_1 x_2 x_6, r => ∀ {W h0 m0 h m A_0 n_0 c_0} (O : Hold W h0 m0 h m [rR (aE tell_str) A_0 c_0 a_0]) (ne_0 : n_0 = List.length a_0), f205.j0 (sq205.post W A_0 n_0 c_0 h0 m0 r) A_0 n_0 c_0 x_1 x_2 x_6 h
theorem sq205.l0_k.step_l0 (go : (p : sq205.l0_k.Pt) → Option ((List ByteArray))) (ih : ∀ p r, go p = some r → sq205.l0_k.I p r) (a_0 x_1 x_2 x_6) (r) (e : sq205.l0_k.body go (.l0 a_0 x_1 x_2 x_6) = some r) : sq205.l0_k.I (.l0 a_0 x_1 x_2 x_6) r := by
  unfold sq205.l0_k.body at e
  intro W h0 m0 h m A_0 n_0 c_0 O ne_0
  subst ne_0
  refine f205.l0_in ?_
  unfold f205.l0T
  refine split_dec_e e (fun c1 e => ?_) (fun c1 e => ?_)
  · exact (ih _ _ e) (O.pick [0]).nm rfl
  · cases e
    exact ⟨_, O.pick [0], rfl, rfl⟩
theorem sq205.l0_k.step_l1 (go : (p : sq205.l0_k.Pt) → Option ((List ByteArray))) (ih : ∀ p r, go p = some r → sq205.l0_k.I p r) (a_0 x_1 x_2 x_6 x_7) (r) (e : sq205.l0_k.body go (.l1 a_0 x_1 x_2 x_6 x_7) = some r) : sq205.l0_k.I (.l1 a_0 x_1 x_2 x_6 x_7) r := by
  unfold sq205.l0_k.body at e
  intro W h0 m0 h m A_0 n_0 c_0 O ne_0
  subst ne_0
  refine f205.l1_in ?_
  unfold f205.l1T
  refine split_dec_e e (fun c23 e => ?_) (fun c23 e => ?_)
  · obtain ⟨y1, g2, e⟩ := bind_e e
    refine (O.os 0 rfl).addr rfl g2 fun a3 cs4 ha5 hc6 he7 => ?_
    obtain rfl : cs4 = [(Value.string y1)] := he7
    obtain ⟨y8, g9, e⟩ := bind_e e
    refine (O.os 0 rfl).addr rfl g9 fun a10 cs11 ha12 hc13 he14 => ?_
    obtain rfl : cs11 = [(Value.string y8)] := he14
    refine ⟨_, ld0 (Sub.refl _) hc6 rfl, _, rfl, ?_⟩
    refine ⟨_, ld0 (Sub.refl _) hc13 rfl, _, rfl, ?_⟩
    obtain ⟨y15, g16, e⟩ := bind_e e
    refine (cmp_Less_211.walk (Hold.start (W := No) O.s)  g16).mono ?_
    rintro _ h17 ⟨m18, Q19, rfl⟩
    have O21 := Hold.nm (O.retC Q19 vfs_nil)
    refine ⟨_, rfl, ?_⟩
    refine split_any_e e (fun c22 e => ?_) (fun c22 e => ?_)
    · exact (ih _ _ e) (O21.pick [0]).nm rfl
    · exact (ih _ _ e) (O21.pick [0]).nm rfl
  · exact (ih _ _ e) (O.pick [0]).nm rfl
theorem sq205.l0_k.step_j1 (go : (p : sq205.l0_k.Pt) → Option ((List ByteArray))) (ih : ∀ p r, go p = some r → sq205.l0_k.I p r) (a_0 x_1 x_2 x_6 x_7) (r) (e : sq205.l0_k.body go (.j1 a_0 x_1 x_2 x_6 x_7) = some r) : sq205.l0_k.I (.j1 a_0 x_1 x_2 x_6 x_7) r := by
  unfold sq205.l0_k.body at e
  intro W h0 m0 h m A_0 n_0 c_0 O ne_0
  subst ne_0
  refine f205.j1_in ?_
  unfold f205.j1T
  obtain ⟨y1, g2, e⟩ := bind_e e
  refine (O.os 0 rfl).addr rfl g2 fun a3 cs4 ha5 hc6 he7 => ?_
  obtain rfl : cs4 = [(Value.string y1)] := he7
  obtain ⟨y8, g9, e⟩ := bind_e e
  refine (O.os 0 rfl).addr rfl g9 fun a10 cs11 ha12 hc13 he14 => ?_
  obtain rfl : cs11 = [(Value.string y8)] := he14
  refine ⟨_, ld0 (Sub.refl _) hc6 rfl, _, rfl, ?_⟩
  refine ⟨_, ld0 (Sub.refl _) hc13 rfl, _, rfl, ?_⟩
  obtain ⟨y15, g16, e⟩ := bind_e e
  refine (O.os 0 rfl).addr rfl g16 fun a17 cs18 ha19 hc20 he21 => ?_
  obtain rfl : cs18 = [(Value.string y15)] := he21
  obtain ⟨l24, g25, e⟩ := bind_e e
  replace g25 := Option.some.inj g25
  refine O.elst0 0 rfl g16 ha19 hc20 (by decide) (y' := y1) rfl trivial g25 fun h22 O23 => ?_
  obtain ⟨y26, g27, e⟩ := bind_e e
  refine (O23.os 0 rfl).addr (lset' g25) g27 fun a28 cs29 ha30 hc31 he32 => ?_
  obtain rfl : cs29 = [(Value.string y26)] := he32
  obtain ⟨l35, g36, e⟩ := bind_e e
  replace g36 := Option.some.inj g36
  refine O23.elst0 0 rfl g27 ha30 hc31 (by decide) (y' := y8) rfl trivial g36 fun h33 O34 => ?_
  have O37 := O34.nm
  exact (ih _ _ e) (O37.pick [0]).nm ((lset' g25).trans (lset' g36))
theorem sq205.l0_k.step_j0 (go : (p : sq205.l0_k.Pt) → Option ((List ByteArray))) (ih : ∀ p r, go p = some r → sq205.l0_k.I p r) (a_0 x_1 x_2 x_6) (r) (e : sq205.l0_k.body go (.j0 a_0 x_1 x_2 x_6) = some r) : sq205.l0_k.I (.j0 a_0 x_1 x_2 x_6) r := by
  unfold sq205.l0_k.body at e
  intro W h0 m0 h m A_0 n_0 c_0 O ne_0
  subst ne_0
  refine f205.j0_in ?_
  unfold f205.j0T
  exact (ih _ _ e) (O.pick [0]).nm rfl
theorem sq205.l0_k.all {p : sq205.l0_k.Pt} {r : ((List ByteArray))} (e : sq205.l0_k.go p = some r) : sq205.l0_k.I p r := fixF_ind (β := fun _ => ((List ByteArray))) sq205.l0_k.mono (I := sq205.l0_k.I) (fun go ih p r e => match p with
  | .l0 a_0 x_1 x_2 x_6 => sq205.l0_k.step_l0 go ih a_0 x_1 x_2 x_6 r e
  | .l1 a_0 x_1 x_2 x_6 x_7 => sq205.l0_k.step_l1 go ih a_0 x_1 x_2 x_6 x_7 r e
  | .j1 a_0 x_1 x_2 x_6 x_7 => sq205.l0_k.step_j1 go ih a_0 x_1 x_2 x_6 x_7 r e
  | .j0 a_0 x_1 x_2 x_6 => sq205.l0_k.step_j0 go ih a_0 x_1 x_2 x_6 r e
  ) e
noncomputable def sq205 (a_0 : List ByteArray) (x_1 : Int) (x_2 : Int) : Option ((List ByteArray)) :=
  (sq205.l0 a_0 x_1 x_2 (IntKind.wrap .i64 (x_1 + (1 : Int))))
theorem sq205.walk {W h m A_0 n_0 c_0 a_0 x_1 x_2} (O : Hold W h m h m [rR (aE tell_str) A_0 c_0 a_0]) (ne_0 : n_0 = List.length a_0) {r} (e : sq205 a_0 x_1 x_2 = some r) : Run Try.prog 205 #[Value.slice A_0 n_0 c_0, Value.int .i64 x_1, Value.int .i64 x_2] h (sq205.post W A_0 n_0 c_0 h m r) := by
  unfold sq205 at e
  subst ne_0
  refine f205.run ?_
  unfold f205.runT
  exact (sq205.l0_k.all e) (O.pick [0]).nm rfl
def sq218.post (W : Nat → Prop) (Asl0 : Option Addr) (nsl0 csl0 : Nat) (h0 m0 : Heap) (r : (List ByteArray)) (v : Value) (h : Heap) : Prop := ∃ m , Hold W h0 m0 h m [rR (aE tell_str) Asl0 csl0 r] ∧ v = .tuple #[] ∧ nsl0 = List.length r
inductive sq218.l0_k.Pt where
  | l0 (a_0 : List ByteArray) (x_2 : Int) (x_3 : Int) (x_8 : Int)
  | j1 (a_0 : List ByteArray) (x_2 : Int) (x_3 : Int) (x_8 : Int) (x_9 : Int) (b_36 : Bool)
  | j0 (a_0 : List ByteArray) (x_2 : Int) (x_3 : Int) (x_8 : Int) (x_9 : Int)
noncomputable def sq218.l0_k.body (go : (p : sq218.l0_k.Pt) → Option ((List ByteArray))) : (p : sq218.l0_k.Pt) → Option ((List ByteArray))
  | .l0 a_0 x_2 x_3 x_8 => if (IntKind.wrap .i64 ((IntKind.wrap .i64 ((2 : Int) * x_8)) + (1 : Int))) ≥ x_2 then (some (a_0)) else (if (IntKind.wrap .i64 ((IntKind.wrap .i64 ((IntKind.wrap .i64 ((2 : Int) * x_8)) + (1 : Int))) + (1 : Int))) < x_2 then (Option.bind (gi a_0 (IntKind.wrap .i64 (x_3 + (IntKind.wrap .i64 ((IntKind.wrap .i64 ((2 : Int) * x_8)) + (1 : Int)))))) fun y1 => Option.bind (gi a_0 (IntKind.wrap .i64 ((IntKind.wrap .i64 (x_3 + (IntKind.wrap .i64 ((IntKind.wrap .i64 ((2 : Int) * x_8)) + (1 : Int))))) + (1 : Int)))) fun y8 => Option.bind (cmp_Less_211 y1 y8) fun y15 => (go (.j1 a_0 x_2 x_3 x_8 (IntKind.wrap .i64 ((IntKind.wrap .i64 ((2 : Int) * x_8)) + (1 : Int))) y15))) else ((go (.j1 a_0 x_2 x_3 x_8 (IntKind.wrap .i64 ((IntKind.wrap .i64 ((2 : Int) * x_8)) + (1 : Int))) false))))
  | .j1 a_0 x_2 x_3 x_8 x_9 b_36 => if b_36 = true then ((go (.j0 a_0 x_2 x_3 x_8 (IntKind.wrap .i64 (x_9 + (1 : Int)))))) else ((go (.j0 a_0 x_2 x_3 x_8 x_9)))
  | .j0 a_0 x_2 x_3 x_8 x_9 => Option.bind (gi a_0 (IntKind.wrap .i64 (x_3 + x_8))) fun y1 => Option.bind (gi a_0 (IntKind.wrap .i64 (x_3 + x_9))) fun y8 => Option.bind (cmp_Less_211 y1 y8) fun y15 => if y15 = true then (Option.bind (gi a_0 (IntKind.wrap .i64 (x_3 + x_9))) fun y22 => Option.bind (gi a_0 (IntKind.wrap .i64 (x_3 + x_8))) fun y29 => Option.bind (gi a_0 (IntKind.wrap .i64 (x_3 + x_8))) fun y36 => Option.bind (some (List.set a_0 (Int.toNat (IntKind.wrap .i64 (x_3 + x_8))) y22)) fun l45 => Option.bind (gi l45 (IntKind.wrap .i64 (x_3 + x_9))) fun y47 => Option.bind (some (List.set l45 (Int.toNat (IntKind.wrap .i64 (x_3 + x_9))) y29)) fun l56 => (go (.l0 l56 x_2 x_3 x_9))) else (some (a_0))
attribute [local irreducible] cmp_Less_211 in
theorem sq218.l0_k.mono : MonoF (β := fun _ => ((List ByteArray))) sq218.l0_k.body := fun f g hfg p => match p with
  | .l0 a_0 x_2 x_3 x_8 => LeO.ite (LeO.refl _) (LeO.ite (LeO.bind (LeO.refl _) fun y1 => LeO.bind (LeO.refl _) fun y8 => LeO.bind (LeO.refl _) fun y15 => (hfg _)) ((hfg _)))
  | .j1 a_0 x_2 x_3 x_8 x_9 b_36 => LeO.ite ((hfg _)) ((hfg _))
  | .j0 a_0 x_2 x_3 x_8 x_9 => LeO.bind (LeO.refl _) fun y1 => LeO.bind (LeO.refl _) fun y8 => LeO.bind (LeO.refl _) fun y15 => LeO.ite (LeO.bind (LeO.refl _) fun y22 => LeO.bind (LeO.refl _) fun y29 => LeO.bind (LeO.refl _) fun y36 => LeO.bind (LeO.refl _) fun l45 => LeO.bind (LeO.refl _) fun y47 => LeO.bind (LeO.refl _) fun l56 => (hfg _)) (LeO.refl _)
noncomputable def sq218.l0_k.go (p : sq218.l0_k.Pt) : Option ((List ByteArray)) := fixF (β := fun _ => ((List ByteArray))) sq218.l0_k.body p
noncomputable def sq218.l0 (a_0 x_2 x_3 x_8) := sq218.l0_k.go (.l0 a_0 x_2 x_3 x_8)
noncomputable def sq218.j1 (a_0 x_2 x_3 x_8 x_9 b_36) := sq218.l0_k.go (.j1 a_0 x_2 x_3 x_8 x_9 b_36)
noncomputable def sq218.j0 (a_0 x_2 x_3 x_8 x_9) := sq218.l0_k.go (.j0 a_0 x_2 x_3 x_8 x_9)
theorem sq218.l0_eq (a_0 x_2 x_3 x_8) : sq218.l0 a_0 x_2 x_3 x_8 = if (IntKind.wrap .i64 ((IntKind.wrap .i64 ((2 : Int) * x_8)) + (1 : Int))) ≥ x_2 then (some (a_0)) else (if (IntKind.wrap .i64 ((IntKind.wrap .i64 ((IntKind.wrap .i64 ((2 : Int) * x_8)) + (1 : Int))) + (1 : Int))) < x_2 then (Option.bind (gi a_0 (IntKind.wrap .i64 (x_3 + (IntKind.wrap .i64 ((IntKind.wrap .i64 ((2 : Int) * x_8)) + (1 : Int)))))) fun y1 => Option.bind (gi a_0 (IntKind.wrap .i64 ((IntKind.wrap .i64 (x_3 + (IntKind.wrap .i64 ((IntKind.wrap .i64 ((2 : Int) * x_8)) + (1 : Int))))) + (1 : Int)))) fun y8 => Option.bind (cmp_Less_211 y1 y8) fun y15 => (sq218.j1 a_0 x_2 x_3 x_8 (IntKind.wrap .i64 ((IntKind.wrap .i64 ((2 : Int) * x_8)) + (1 : Int))) y15)) else ((sq218.j1 a_0 x_2 x_3 x_8 (IntKind.wrap .i64 ((IntKind.wrap .i64 ((2 : Int) * x_8)) + (1 : Int))) false))) := fixF_eq sq218.l0_k.mono _
theorem sq218.j1_eq (a_0 x_2 x_3 x_8 x_9 b_36) : sq218.j1 a_0 x_2 x_3 x_8 x_9 b_36 = if b_36 = true then ((sq218.j0 a_0 x_2 x_3 x_8 (IntKind.wrap .i64 (x_9 + (1 : Int))))) else ((sq218.j0 a_0 x_2 x_3 x_8 x_9)) := fixF_eq sq218.l0_k.mono _
theorem sq218.j0_eq (a_0 x_2 x_3 x_8 x_9) : sq218.j0 a_0 x_2 x_3 x_8 x_9 = Option.bind (gi a_0 (IntKind.wrap .i64 (x_3 + x_8))) fun y1 => Option.bind (gi a_0 (IntKind.wrap .i64 (x_3 + x_9))) fun y8 => Option.bind (cmp_Less_211 y1 y8) fun y15 => if y15 = true then (Option.bind (gi a_0 (IntKind.wrap .i64 (x_3 + x_9))) fun y22 => Option.bind (gi a_0 (IntKind.wrap .i64 (x_3 + x_8))) fun y29 => Option.bind (gi a_0 (IntKind.wrap .i64 (x_3 + x_8))) fun y36 => Option.bind (some (List.set a_0 (Int.toNat (IntKind.wrap .i64 (x_3 + x_8))) y22)) fun l45 => Option.bind (gi l45 (IntKind.wrap .i64 (x_3 + x_9))) fun y47 => Option.bind (some (List.set l45 (Int.toNat (IntKind.wrap .i64 (x_3 + x_9))) y29)) fun l56 => (sq218.l0 l56 x_2 x_3 x_9)) else (some (a_0)) := fixF_eq sq218.l0_k.mono _
def sq218.l0_k.I : (p : sq218.l0_k.Pt) → ((List ByteArray)) → Prop
  | .l0 a_0 x_2 x_3 x_8, r => ∀ {W h0 m0 h m A_0 n_0 c_0} (O : Hold W h0 m0 h m [rR (aE tell_str) A_0 c_0 a_0]) (ne_0 : n_0 = List.length a_0), f218.l0 (sq218.post W A_0 n_0 c_0 h0 m0 r) A_0 n_0 c_0 x_2 x_3 x_8 h
  | .j1 a_0 x_2 x_3 x_8 x_9 b_36, r => ∀ {W h0 m0 h m A_0 n_0 c_0} (O : Hold W h0 m0 h m [rR (aE tell_str) A_0 c_0 a_0]) (ne_0 : n_0 = List.length a_0), f218.j1 (sq218.post W A_0 n_0 c_0 h0 m0 r) A_0 n_0 c_0 x_2 x_3 x_8 x_9 b_36 h
  | .j0 a_0 x_2 x_3 x_8 x_9, r => ∀ {W h0 m0 h m A_0 n_0 c_0} (O : Hold W h0 m0 h m [rR (aE tell_str) A_0 c_0 a_0]) (ne_0 : n_0 = List.length a_0), f218.j0 (sq218.post W A_0 n_0 c_0 h0 m0 r) A_0 n_0 c_0 x_2 x_3 x_8 x_9 h
theorem sq218.l0_k.step_l0 (go : (p : sq218.l0_k.Pt) → Option ((List ByteArray))) (ih : ∀ p r, go p = some r → sq218.l0_k.I p r) (a_0 x_2 x_3 x_8) (r) (e : sq218.l0_k.body go (.l0 a_0 x_2 x_3 x_8) = some r) : sq218.l0_k.I (.l0 a_0 x_2 x_3 x_8) r := by
  unfold sq218.l0_k.body at e
  intro W h0 m0 h m A_0 n_0 c_0 O ne_0
  subst ne_0
  refine f218.l0_in ?_
  unfold f218.l0T
  refine split_dec_e e (fun c23 e => ?_) (fun c23 e => ?_)
  · cases e
    exact ⟨_, O.pick [0], rfl, rfl⟩
  · refine split_dec_e e (fun c22 e => ?_) (fun c22 e => ?_)
    · obtain ⟨y1, g2, e⟩ := bind_e e
      refine (O.os 0 rfl).addr rfl g2 fun a3 cs4 ha5 hc6 he7 => ?_
      obtain rfl : cs4 = [(Value.string y1)] := he7
      obtain ⟨y8, g9, e⟩ := bind_e e
      refine (O.os 0 rfl).addr rfl g9 fun a10 cs11 ha12 hc13 he14 => ?_
      obtain rfl : cs11 = [(Value.string y8)] := he14
      refine ⟨_, ld0 (Sub.refl _) hc6 rfl, _, rfl, ?_⟩
      refine ⟨_, ld0 (Sub.refl _) hc13 rfl, _, rfl, ?_⟩
      obtain ⟨y15, g16, e⟩ := bind_e e
      refine (cmp_Less_211.walk (Hold.start (W := No) O.s)  g16).mono ?_
      rintro _ h17 ⟨m18, Q19, rfl⟩
      have O21 := Hold.nm (O.retC Q19 vfs_nil)
      refine ⟨_, rfl, ?_⟩
      exact (ih _ _ e) (O21.pick [0]).nm rfl
    · exact (ih _ _ e) (O.pick [0]).nm rfl
theorem sq218.l0_k.step_j1 (go : (p : sq218.l0_k.Pt) → Option ((List ByteArray))) (ih : ∀ p r, go p = some r → sq218.l0_k.I p r) (a_0 x_2 x_3 x_8 x_9 b_36) (r) (e : sq218.l0_k.body go (.j1 a_0 x_2 x_3 x_8 x_9 b_36) = some r) : sq218.l0_k.I (.j1 a_0 x_2 x_3 x_8 x_9 b_36) r := by
  unfold sq218.l0_k.body at e
  intro W h0 m0 h m A_0 n_0 c_0 O ne_0
  subst ne_0
  refine f218.j1_in ?_
  unfold f218.j1T
  refine split_any_e e (fun c1 e => ?_) (fun c1 e => ?_)
  · exact (ih _ _ e) (O.pick [0]).nm rfl
  · exact (ih _ _ e) (O.pick [0]).nm rfl
set_option maxHeartbeats 4000000 in
theorem sq218.l0_k.step_j0 (go : (p : sq218.l0_k.Pt) → Option ((List ByteArray))) (ih : ∀ p r, go p = some r → sq218.l0_k.I p r) (a_0 x_2 x_3 x_8 x_9) (r) (e : sq218.l0_k.body go (.j0 a_0 x_2 x_3 x_8 x_9) = some r) : sq218.l0_k.I (.j0 a_0 x_2 x_3 x_8 x_9) r := by
  unfold sq218.l0_k.body at e
  intro W h0 m0 h m A_0 n_0 c_0 O ne_0
  subst ne_0
  refine f218.j0_in ?_
  unfold f218.j0T
  obtain ⟨y1, g2, e⟩ := bind_e e
  refine (O.os 0 rfl).addr rfl g2 fun a3 cs4 ha5 hc6 he7 => ?_
  obtain rfl : cs4 = [(Value.string y1)] := he7
  obtain ⟨y8, g9, e⟩ := bind_e e
  refine (O.os 0 rfl).addr rfl g9 fun a10 cs11 ha12 hc13 he14 => ?_
  obtain rfl : cs11 = [(Value.string y8)] := he14
  refine ⟨_, ld0 (Sub.refl _) hc6 rfl, _, rfl, ?_⟩
  refine ⟨_, ld0 (Sub.refl _) hc13 rfl, _, rfl, ?_⟩
  obtain ⟨y15, g16, e⟩ := bind_e e
  refine (cmp_Less_211.walk (Hold.start (W := No) O.s)  g16).mono ?_
  rintro _ h17 ⟨m18, Q19, rfl⟩
  have O21 := Hold.nm (O.retC Q19 vfs_nil)
  refine ⟨_, rfl, ?_⟩
  refine split_not ?_
  refine split_any_e e (fun c59 e => ?_) (fun c59 e => ?_)
  · obtain ⟨y22, g23, e⟩ := bind_e e
    refine (O21.os 0 rfl).addr rfl g23 fun a24 cs25 ha26 hc27 he28 => ?_
    obtain rfl : cs25 = [(Value.string y22)] := he28
    obtain ⟨y29, g30, e⟩ := bind_e e
    refine (O21.os 0 rfl).addr rfl g30 fun a31 cs32 ha33 hc34 he35 => ?_
    obtain rfl : cs32 = [(Value.string y29)] := he35
    refine ⟨_, ld0 (Sub.refl _) hc27 rfl, _, rfl, ?_⟩
    refine ⟨_, ld0 (Sub.refl _) hc34 rfl, _, rfl, ?_⟩
    obtain ⟨y36, g37, e⟩ := bind_e e
    refine (O21.os 0 rfl).addr rfl g37 fun a38 cs39 ha40 hc41 he42 => ?_
    obtain rfl : cs39 = [(Value.string y36)] := he42
    obtain ⟨l45, g46, e⟩ := bind_e e
    replace g46 := Option.some.inj g46
    refine O21.elst0 0 rfl g37 ha40 hc41 (by decide) (y' := y22) rfl trivial g46 fun h43 O44 => ?_
    obtain ⟨y47, g48, e⟩ := bind_e e
    refine (O44.os 0 rfl).addr (lset' g46) g48 fun a49 cs50 ha51 hc52 he53 => ?_
    obtain rfl : cs50 = [(Value.string y47)] := he53
    obtain ⟨l56, g57, e⟩ := bind_e e
    replace g57 := Option.some.inj g57
    refine O44.elst0 0 rfl g48 ha51 hc52 (by decide) (y' := y29) rfl trivial g57 fun h54 O55 => ?_
    have O58 := O55.nm
    exact (ih _ _ e) (O58.pick [0]).nm ((lset' g46).trans (lset' g57))
  · cases e
    exact ⟨_, O21.pick [0], rfl, rfl⟩
theorem sq218.l0_k.all {p : sq218.l0_k.Pt} {r : ((List ByteArray))} (e : sq218.l0_k.go p = some r) : sq218.l0_k.I p r := fixF_ind (β := fun _ => ((List ByteArray))) sq218.l0_k.mono (I := sq218.l0_k.I) (fun go ih p r e => match p with
  | .l0 a_0 x_2 x_3 x_8 => sq218.l0_k.step_l0 go ih a_0 x_2 x_3 x_8 r e
  | .j1 a_0 x_2 x_3 x_8 x_9 b_36 => sq218.l0_k.step_j1 go ih a_0 x_2 x_3 x_8 x_9 b_36 r e
  | .j0 a_0 x_2 x_3 x_8 x_9 => sq218.l0_k.step_j0 go ih a_0 x_2 x_3 x_8 x_9 r e
  ) e
noncomputable def sq218 (a_0 : List ByteArray) (x_1 : Int) (x_2 : Int) (x_3 : Int) : Option ((List ByteArray)) :=
  (sq218.l0 a_0 x_2 x_3 x_1)
theorem sq218.walk {W h m A_0 n_0 c_0 a_0 x_1 x_2 x_3} (O : Hold W h m h m [rR (aE tell_str) A_0 c_0 a_0]) (ne_0 : n_0 = List.length a_0) {r} (e : sq218 a_0 x_1 x_2 x_3 = some r) : Run Try.prog 218 #[Value.slice A_0 n_0 c_0, Value.int .i64 x_1, Value.int .i64 x_2, Value.int .i64 x_3] h (sq218.post W A_0 n_0 c_0 h m r) := by
  unfold sq218 at e
  subst ne_0
  refine f218.run ?_
  unfold f218.runT
  exact (sq218.l0_k.all e) (O.pick [0]).nm rfl
def sq206.post (W : Nat → Prop) (Asl0 : Option Addr) (nsl0 csl0 : Nat) (h0 m0 : Heap) (r : (List ByteArray)) (v : Value) (h : Heap) : Prop := ∃ m , Hold W h0 m0 h m [rR (aE tell_str) Asl0 csl0 r] ∧ v = .tuple #[] ∧ nsl0 = List.length r
inductive sq206.l1_k.Pt where
  | l1 (a_0 : List ByteArray) (x_6 : Int) (x_7 : Int) (x_10 : Int)
noncomputable def sq206.l1_k.body (go : (p : sq206.l1_k.Pt) → Option ((List ByteArray))) : (p : sq206.l1_k.Pt) → Option ((List ByteArray))
  | .l1 a_0 x_6 x_7 x_10 => if x_10 ≥ (0 : Int) then (Option.bind (gi a_0 (IntKind.wrap .i64 (x_6 + x_10))) fun y1 => Option.bind (gi a_0 x_6) fun y8 => Option.bind (gi a_0 x_6) fun y15 => Option.bind (some (List.set a_0 (Int.toNat x_6) y1)) fun l24 => Option.bind (gi l24 (IntKind.wrap .i64 (x_6 + x_10))) fun y26 => Option.bind (some (List.set l24 (Int.toNat (IntKind.wrap .i64 (x_6 + x_10))) y8)) fun l35 => Option.bind (sq218 l35 x_7 x_10 x_6) fun y37 => (go (.l1 y37 x_6 x_7 (IntKind.wrap .i64 (x_10 - (1 : Int)))))) else (some (a_0))
theorem sq206.l1_k.mono : MonoF (β := fun _ => ((List ByteArray))) sq206.l1_k.body := fun f g hfg p => match p with
  | .l1 a_0 x_6 x_7 x_10 => LeO.ite (LeO.bind (LeO.refl _) fun y1 => LeO.bind (LeO.refl _) fun y8 => LeO.bind (LeO.refl _) fun y15 => LeO.bind (LeO.refl _) fun l24 => LeO.bind (LeO.refl _) fun y26 => LeO.bind (LeO.refl _) fun l35 => LeO.bind (LeO.refl _) fun y37 => (hfg _)) (LeO.refl _)
noncomputable def sq206.l1_k.go (p : sq206.l1_k.Pt) : Option ((List ByteArray)) := fixF (β := fun _ => ((List ByteArray))) sq206.l1_k.body p
noncomputable def sq206.l1 (a_0 x_6 x_7 x_10) := sq206.l1_k.go (.l1 a_0 x_6 x_7 x_10)
theorem sq206.l1_eq (a_0 x_6 x_7 x_10) : sq206.l1 a_0 x_6 x_7 x_10 = if x_10 ≥ (0 : Int) then (Option.bind (gi a_0 (IntKind.wrap .i64 (x_6 + x_10))) fun y1 => Option.bind (gi a_0 x_6) fun y8 => Option.bind (gi a_0 x_6) fun y15 => Option.bind (some (List.set a_0 (Int.toNat x_6) y1)) fun l24 => Option.bind (gi l24 (IntKind.wrap .i64 (x_6 + x_10))) fun y26 => Option.bind (some (List.set l24 (Int.toNat (IntKind.wrap .i64 (x_6 + x_10))) y8)) fun l35 => Option.bind (sq218 l35 x_7 x_10 x_6) fun y37 => (sq206.l1 y37 x_6 x_7 (IntKind.wrap .i64 (x_10 - (1 : Int))))) else (some (a_0)) := fixF_eq sq206.l1_k.mono _
def sq206.l1_k.I : (p : sq206.l1_k.Pt) → ((List ByteArray)) → Prop
  | .l1 a_0 x_6 x_7 x_10, r => ∀ {W h0 m0 h m A_0 n_0 c_0} (O : Hold W h0 m0 h m [rR (aE tell_str) A_0 c_0 a_0]) (ne_0 : n_0 = List.length a_0), f206.l1 (sq206.post W A_0 n_0 c_0 h0 m0 r) A_0 n_0 c_0 x_6 x_7 x_10 h
set_option maxHeartbeats 4000000 in
theorem sq206.l1_k.step_l1 (go : (p : sq206.l1_k.Pt) → Option ((List ByteArray))) (ih : ∀ p r, go p = some r → sq206.l1_k.I p r) (a_0 x_6 x_7 x_10) (r) (e : sq206.l1_k.body go (.l1 a_0 x_6 x_7 x_10) = some r) : sq206.l1_k.I (.l1 a_0 x_6 x_7 x_10) r := by
  unfold sq206.l1_k.body at e
  intro W h0 m0 h m A_0 n_0 c_0 O ne_0
  subst ne_0
  refine f206.l1_in ?_
  unfold f206.l1T
  refine split_dec_e e (fun c50 e => ?_) (fun c50 e => ?_)
  · obtain ⟨y1, g2, e⟩ := bind_e e
    refine (O.os 0 rfl).addr rfl g2 fun a3 cs4 ha5 hc6 he7 => ?_
    obtain rfl : cs4 = [(Value.string y1)] := he7
    obtain ⟨y8, g9, e⟩ := bind_e e
    refine (O.os 0 rfl).addr rfl g9 fun a10 cs11 ha12 hc13 he14 => ?_
    obtain rfl : cs11 = [(Value.string y8)] := he14
    refine ⟨_, ld0 (Sub.refl _) hc6 rfl, _, rfl, ?_⟩
    refine ⟨_, ld0 (Sub.refl _) hc13 rfl, _, rfl, ?_⟩
    obtain ⟨y15, g16, e⟩ := bind_e e
    refine (O.os 0 rfl).addr rfl g16 fun a17 cs18 ha19 hc20 he21 => ?_
    obtain rfl : cs18 = [(Value.string y15)] := he21
    obtain ⟨l24, g25, e⟩ := bind_e e
    replace g25 := Option.some.inj g25
    refine O.elst0 0 rfl g16 ha19 hc20 (by decide) (y' := y1) rfl trivial g25 fun h22 O23 => ?_
    obtain ⟨y26, g27, e⟩ := bind_e e
    refine (O23.os 0 rfl).addr (lset' g25) g27 fun a28 cs29 ha30 hc31 he32 => ?_
    obtain rfl : cs29 = [(Value.string y26)] := he32
    obtain ⟨l35, g36, e⟩ := bind_e e
    replace g36 := Option.some.inj g36
    refine O23.elst0 0 rfl g27 ha30 hc31 (by decide) (y' := y8) rfl trivial g36 fun h33 O34 => ?_
    obtain ⟨y37, g38, e⟩ := bind_e e
    have O43 := O34.nm
    obtain ⟨W44, P45, B46, C47⟩ := O43.callC [0]
    refine (sq218.walk P45 ((lset' g25).trans (lset' g36)) g38).mono ?_
    rintro _ h39 ⟨m40, Q41, rfl, hl48⟩
    have O49 := Hold.nm (C47 Q41 (vfs_cons (rR_vf (aE_vf (fun _ _ _ _ h => h))) vfs_nil))
    refine ⟨rfl, ?_⟩
    exact (ih _ _ e) (O49.pick [1]).nm hl48
  · cases e
    exact ⟨_, O.pick [0], rfl, rfl⟩
theorem sq206.l1_k.all {p : sq206.l1_k.Pt} {r : ((List ByteArray))} (e : sq206.l1_k.go p = some r) : sq206.l1_k.I p r := fixF_ind (β := fun _ => ((List ByteArray))) sq206.l1_k.mono (I := sq206.l1_k.I) (fun go ih p r e => match p with
  | .l1 a_0 x_6 x_7 x_10 => sq206.l1_k.step_l1 go ih a_0 x_6 x_7 x_10 r e
  ) e
inductive sq206.l0_k.Pt where
  | l0 (a_0 : List ByteArray) (x_6 : Int) (x_7 : Int) (x_8 : Int) (x_9 : Int)
noncomputable def sq206.l0_k.body (go : (p : sq206.l0_k.Pt) → Option ((List ByteArray))) : (p : sq206.l0_k.Pt) → Option ((List ByteArray))
  | .l0 a_0 x_6 x_7 x_8 x_9 => if x_9 ≥ (0 : Int) then (Option.bind (sq218 a_0 x_9 x_8 x_6) fun y1 => (go (.l0 y1 x_6 x_7 x_8 (IntKind.wrap .i64 (x_9 - (1 : Int)))))) else ((sq206.l1 a_0 x_6 x_7 (IntKind.wrap .i64 (x_8 - (1 : Int)))))
theorem sq206.l0_k.mono : MonoF (β := fun _ => ((List ByteArray))) sq206.l0_k.body := fun f g hfg p => match p with
  | .l0 a_0 x_6 x_7 x_8 x_9 => LeO.ite (LeO.bind (LeO.refl _) fun y1 => (hfg _)) ((LeO.refl _))
noncomputable def sq206.l0_k.go (p : sq206.l0_k.Pt) : Option ((List ByteArray)) := fixF (β := fun _ => ((List ByteArray))) sq206.l0_k.body p
noncomputable def sq206.l0 (a_0 x_6 x_7 x_8 x_9) := sq206.l0_k.go (.l0 a_0 x_6 x_7 x_8 x_9)
theorem sq206.l0_eq (a_0 x_6 x_7 x_8 x_9) : sq206.l0 a_0 x_6 x_7 x_8 x_9 = if x_9 ≥ (0 : Int) then (Option.bind (sq218 a_0 x_9 x_8 x_6) fun y1 => (sq206.l0 y1 x_6 x_7 x_8 (IntKind.wrap .i64 (x_9 - (1 : Int))))) else ((sq206.l1 a_0 x_6 x_7 (IntKind.wrap .i64 (x_8 - (1 : Int))))) := fixF_eq sq206.l0_k.mono _
def sq206.l0_k.I : (p : sq206.l0_k.Pt) → ((List ByteArray)) → Prop
  | .l0 a_0 x_6 x_7 x_8 x_9, r => ∀ {W h0 m0 h m A_0 n_0 c_0} (O : Hold W h0 m0 h m [rR (aE tell_str) A_0 c_0 a_0]) (ne_0 : n_0 = List.length a_0), f206.l0 (sq206.post W A_0 n_0 c_0 h0 m0 r) A_0 n_0 c_0 x_6 x_7 x_8 x_9 h
theorem sq206.l0_k.step_l0 (go : (p : sq206.l0_k.Pt) → Option ((List ByteArray))) (ih : ∀ p r, go p = some r → sq206.l0_k.I p r) (a_0 x_6 x_7 x_8 x_9) (r) (e : sq206.l0_k.body go (.l0 a_0 x_6 x_7 x_8 x_9) = some r) : sq206.l0_k.I (.l0 a_0 x_6 x_7 x_8 x_9) r := by
  unfold sq206.l0_k.body at e
  intro W h0 m0 h m A_0 n_0 c_0 O ne_0
  subst ne_0
  refine f206.l0_in ?_
  unfold f206.l0T
  refine split_dec_e e (fun c13 e => ?_) (fun c13 e => ?_)
  · obtain ⟨y1, g2, e⟩ := bind_e e
    obtain ⟨W7, P8, B9, C10⟩ := O.callC [0]
    refine (sq218.walk P8 rfl g2).mono ?_
    rintro _ h3 ⟨m4, Q5, rfl, hl11⟩
    have O12 := Hold.nm (C10 Q5 (vfs_cons (rR_vf (aE_vf (fun _ _ _ _ h => h))) vfs_nil))
    refine ⟨rfl, ?_⟩
    exact (ih _ _ e) (O12.pick [1]).nm hl11
  · exact (sq206.l1_k.all e) (O.pick [0]).nm rfl
theorem sq206.l0_k.all {p : sq206.l0_k.Pt} {r : ((List ByteArray))} (e : sq206.l0_k.go p = some r) : sq206.l0_k.I p r := fixF_ind (β := fun _ => ((List ByteArray))) sq206.l0_k.mono (I := sq206.l0_k.I) (fun go ih p r e => match p with
  | .l0 a_0 x_6 x_7 x_8 x_9 => sq206.l0_k.step_l0 go ih a_0 x_6 x_7 x_8 x_9 r e
  ) e
noncomputable def sq206 (a_0 : List ByteArray) (x_1 : Int) (x_2 : Int) : Option ((List ByteArray)) :=
  (sq206.l0 a_0 x_1 (0 : Int) (IntKind.wrap .i64 (x_2 - x_1)) (IntKind.wrap .i64 (Int.tdiv (IntKind.wrap .i64 ((IntKind.wrap .i64 (x_2 - x_1)) - (1 : Int))) (2 : Int))))
theorem sq206.walk {W h m A_0 n_0 c_0 a_0 x_1 x_2} (O : Hold W h m h m [rR (aE tell_str) A_0 c_0 a_0]) (ne_0 : n_0 = List.length a_0) {r} (e : sq206 a_0 x_1 x_2 = some r) : Run Try.prog 206 #[Value.slice A_0 n_0 c_0, Value.int .i64 x_1, Value.int .i64 x_2] h (sq206.post W A_0 n_0 c_0 h m r) := by
  unfold sq206 at e
  subst ne_0
  refine f206.run ?_
  unfold f206.runT
  refine ⟨by decide, ?_⟩
  exact (sq206.l0_k.all e) (O.pick [0]).nm rfl
def slices_nextPowerOfTwo.post (W : Nat → Prop) (h0 m0 : Heap) (r : Int) (v : Value) (h : Heap) : Prop := ∃ m , Hold W h0 m0 h m [] ∧ v = .int .u64 r
noncomputable def slices_nextPowerOfTwo (x_0 : Int) : Option (Int) :=
  Option.bind (math_bits_Len (IntKind.wrap .u64 x_0)) fun y1 => if 0 ≤ y1 then (some ((shlI .u64 (1 : Int) y1))) else none
theorem slices_nextPowerOfTwo.walk {W h m x_0} (O : Hold W h m h m []) {r} (e : slices_nextPowerOfTwo x_0 = some r) : Run Try.prog 201 #[Value.int .i64 x_0] h (slices_nextPowerOfTwo.post W h m r) := by
  unfold slices_nextPowerOfTwo at e
  refine f201.run ?_
  unfold f201.runT
  obtain ⟨y1, g2, e⟩ := bind_e e
  refine (math_bits_Len.walk (Hold.start (W := No) O.s)  g2).mono ?_
  rintro _ h3 ⟨m4, Q5, rfl⟩
  have O7 := Hold.nm (O.retC Q5 vfs_nil)
  refine ⟨_, rfl, ?_⟩
  obtain ⟨g8, e⟩ := guard_e e
  refine ⟨g8, ?_⟩
  cases e
  exact ⟨_, O7.pick [], rfl⟩
def slices_xorshift_Next.post (W : Nat → Prop) (bkio0 : Nat) (h0 m0 : Heap) (r : Int × Int) (v : Value) (h : Heap) : Prop := ∃ m csio0, Hold W h0 m0 h m [rV bkio0 311 csio0] ∧ v = .int .u64 r.1 ∧ (eInt .u64) m r.2 csio0
noncomputable def slices_xorshift_Next (y_0 : Int) : Option (Int × Int) :=
  some ((bitsI .xor .u64 (bitsI .xor .u64 (bitsI .xor .u64 y_0 (shlI .u64 y_0 (13 : Int))) (shrI .u64 (bitsI .xor .u64 y_0 (shlI .u64 y_0 (13 : Int))) (7 : Int))) (shlI .u64 (bitsI .xor .u64 (bitsI .xor .u64 y_0 (shlI .u64 y_0 (13 : Int))) (shrI .u64 (bitsI .xor .u64 y_0 (shlI .u64 y_0 (13 : Int))) (7 : Int))) (17 : Int))), (bitsI .xor .u64 (bitsI .xor .u64 (bitsI .xor .u64 y_0 (shlI .u64 y_0 (13 : Int))) (shrI .u64 (bitsI .xor .u64 y_0 (shlI .u64 y_0 (13 : Int))) (7 : Int))) (shlI .u64 (bitsI .xor .u64 (bitsI .xor .u64 y_0 (shlI .u64 y_0 (13 : Int))) (shrI .u64 (bitsI .xor .u64 y_0 (shlI .u64 y_0 (13 : Int))) (7 : Int))) (17 : Int))))
theorem slices_xorshift_Next.walk {W h m bkio0 cs_0 y_0} (O : Hold W h m h m [rV bkio0 311 cs_0]) (e_0 : (eInt .u64) m y_0 cs_0) {r} (e : slices_xorshift_Next y_0 = some r) : Run Try.prog 202 #[Value.pointer (some ⟨bkio0, 0, none⟩)] h (slices_xorshift_Next.post W bkio0 h m r) := by
  unfold slices_xorshift_Next at e
  obtain rfl : cs_0 = [(Value.int .u64 y_0)] := e_0
  refine f202.run ?_
  unfold f202.runT
  refine ⟨_, ld0 (Sub.refl _) (O.all 0 rfl) rfl, _, rfl, ?_⟩
  refine ⟨_, ld0 (Sub.refl _) (O.all 0 rfl) rfl, _, rfl, ?_⟩
  refine ⟨by decide, ?_⟩
  refine O.st0 0 rfl (Nat.le_of_ble_eq_true rfl) trivial fun h1 O2 => ?_
  refine ⟨_, ld0 (Sub.refl _) (O2.all 0 rfl) rfl, _, rfl, ?_⟩
  refine ⟨_, ld0 (Sub.refl _) (O2.all 0 rfl) rfl, _, rfl, ?_⟩
  refine ⟨by decide, ?_⟩
  refine O2.st0 0 rfl (Nat.le_of_ble_eq_true rfl) trivial fun h3 O4 => ?_
  refine ⟨_, ld0 (Sub.refl _) (O4.all 0 rfl) rfl, _, rfl, ?_⟩
  refine ⟨_, ld0 (Sub.refl _) (O4.all 0 rfl) rfl, _, rfl, ?_⟩
  refine ⟨by decide, ?_⟩
  refine O4.st0 0 rfl (Nat.le_of_ble_eq_true rfl) trivial fun h5 O6 => ?_
  refine ⟨_, ld0 (Sub.refl _) (O6.all 0 rfl) rfl, _, rfl, ?_⟩
  have O7 := O6.nm
  cases e
  exact ⟨_, _, O7.pick [0], rfl, rfl⟩
def sq207.post (W : Nat → Prop) (Asl0 : Option Addr) (nsl0 csl0 : Nat) (h0 m0 : Heap) (r : (List ByteArray)) (v : Value) (h : Heap) : Prop := ∃ m , Hold W h0 m0 h m [rR (aE tell_str) Asl0 csl0 r] ∧ v = .tuple #[] ∧ nsl0 = List.length r
inductive sq207.l0_k.Pt where
  | l0 (a_0 : List ByteArray) (x_1 : Int) (x_6 : Int) (y_7 : Int) (x_8 : Int) (x_9 : Int)
  | j1 (a_0 : List ByteArray) (x_1 : Int) (x_6 : Int) (y_7 : Int) (x_8 : Int) (x_9 : Int) (x_10 : Int)
  | j0 (a_0 : List ByteArray) (x_1 : Int) (x_6 : Int) (y_7 : Int) (x_8 : Int) (x_9 : Int)
noncomputable def sq207.l0_k.body (go : (p : sq207.l0_k.Pt) → Option ((List ByteArray))) : (p : sq207.l0_k.Pt) → Option ((List ByteArray))
  | .l0 a_0 x_1 x_6 y_7 x_8 x_9 => if x_9 ≤ (IntKind.wrap .i64 ((IntKind.wrap .i64 (x_1 + (IntKind.wrap .i64 ((IntKind.wrap .i64 (Int.tdiv x_6 (4 : Int))) * (2 : Int))))) + (1 : Int))) then (Option.bind (slices_xorshift_Next y_7) fun y1 => if (IntKind.wrap .i64 (bitsI .and .u64 y1.1 (IntKind.wrap .u64 (x_8 - (1 : Int))))) ≥ x_6 then ((go (.j1 a_0 x_1 x_6 y1.2 x_8 x_9 (IntKind.wrap .i64 ((IntKind.wrap .i64 (bitsI .and .u64 y1.1 (IntKind.wrap .u64 (x_8 - (1 : Int))))) - x_6))))) else ((go (.j1 a_0 x_1 x_6 y1.2 x_8 x_9 (IntKind.wrap .i64 (bitsI .and .u64 y1.1 (IntKind.wrap .u64 (x_8 - (1 : Int))))))))) else (some (a_0))
  | .j1 a_0 x_1 x_6 y_7 x_8 x_9 x_10 => Option.bind (gi a_0 (IntKind.wrap .i64 (x_1 + x_10))) fun y1 => Option.bind (gi a_0 x_9) fun y8 => Option.bind (gi a_0 x_9) fun y15 => Option.bind (some (List.set a_0 (Int.toNat x_9) y1)) fun l24 => Option.bind (gi l24 (IntKind.wrap .i64 (x_1 + x_10))) fun y26 => Option.bind (some (List.set l24 (Int.toNat (IntKind.wrap .i64 (x_1 + x_10))) y8)) fun l35 => (go (.j0 l35 x_1 x_6 y_7 x_8 x_9))
  | .j0 a_0 x_1 x_6 y_7 x_8 x_9 => (go (.l0 a_0 x_1 x_6 y_7 x_8 (IntKind.wrap .i64 (x_9 + (1 : Int)))))
attribute [local irreducible] slices_xorshift_Next in
theorem sq207.l0_k.mono : MonoF (β := fun _ => ((List ByteArray))) sq207.l0_k.body := fun f g hfg p => match p with
  | .l0 a_0 x_1 x_6 y_7 x_8 x_9 => LeO.ite (LeO.bind (LeO.refl _) fun y1 => LeO.ite ((hfg _)) ((hfg _))) (LeO.refl _)
  | .j1 a_0 x_1 x_6 y_7 x_8 x_9 x_10 => LeO.bind (LeO.refl _) fun y1 => LeO.bind (LeO.refl _) fun y8 => LeO.bind (LeO.refl _) fun y15 => LeO.bind (LeO.refl _) fun l24 => LeO.bind (LeO.refl _) fun y26 => LeO.bind (LeO.refl _) fun l35 => (hfg _)
  | .j0 a_0 x_1 x_6 y_7 x_8 x_9 => (hfg _)
noncomputable def sq207.l0_k.go (p : sq207.l0_k.Pt) : Option ((List ByteArray)) := fixF (β := fun _ => ((List ByteArray))) sq207.l0_k.body p
noncomputable def sq207.l0 (a_0 x_1 x_6 y_7 x_8 x_9) := sq207.l0_k.go (.l0 a_0 x_1 x_6 y_7 x_8 x_9)
noncomputable def sq207.j1 (a_0 x_1 x_6 y_7 x_8 x_9 x_10) := sq207.l0_k.go (.j1 a_0 x_1 x_6 y_7 x_8 x_9 x_10)
noncomputable def sq207.j0 (a_0 x_1 x_6 y_7 x_8 x_9) := sq207.l0_k.go (.j0 a_0 x_1 x_6 y_7 x_8 x_9)
theorem sq207.l0_eq (a_0 x_1 x_6 y_7 x_8 x_9) : sq207.l0 a_0 x_1 x_6 y_7 x_8 x_9 = if x_9 ≤ (IntKind.wrap .i64 ((IntKind.wrap .i64 (x_1 + (IntKind.wrap .i64 ((IntKind.wrap .i64 (Int.tdiv x_6 (4 : Int))) * (2 : Int))))) + (1 : Int))) then (Option.bind (slices_xorshift_Next y_7) fun y1 => if (IntKind.wrap .i64 (bitsI .and .u64 y1.1 (IntKind.wrap .u64 (x_8 - (1 : Int))))) ≥ x_6 then ((sq207.j1 a_0 x_1 x_6 y1.2 x_8 x_9 (IntKind.wrap .i64 ((IntKind.wrap .i64 (bitsI .and .u64 y1.1 (IntKind.wrap .u64 (x_8 - (1 : Int))))) - x_6)))) else ((sq207.j1 a_0 x_1 x_6 y1.2 x_8 x_9 (IntKind.wrap .i64 (bitsI .and .u64 y1.1 (IntKind.wrap .u64 (x_8 - (1 : Int)))))))) else (some (a_0)) := fixF_eq sq207.l0_k.mono _
theorem sq207.j1_eq (a_0 x_1 x_6 y_7 x_8 x_9 x_10) : sq207.j1 a_0 x_1 x_6 y_7 x_8 x_9 x_10 = Option.bind (gi a_0 (IntKind.wrap .i64 (x_1 + x_10))) fun y1 => Option.bind (gi a_0 x_9) fun y8 => Option.bind (gi a_0 x_9) fun y15 => Option.bind (some (List.set a_0 (Int.toNat x_9) y1)) fun l24 => Option.bind (gi l24 (IntKind.wrap .i64 (x_1 + x_10))) fun y26 => Option.bind (some (List.set l24 (Int.toNat (IntKind.wrap .i64 (x_1 + x_10))) y8)) fun l35 => (sq207.j0 l35 x_1 x_6 y_7 x_8 x_9) := fixF_eq sq207.l0_k.mono _
theorem sq207.j0_eq (a_0 x_1 x_6 y_7 x_8 x_9) : sq207.j0 a_0 x_1 x_6 y_7 x_8 x_9 = (sq207.l0 a_0 x_1 x_6 y_7 x_8 (IntKind.wrap .i64 (x_9 + (1 : Int)))) := fixF_eq sq207.l0_k.mono _
def sq207.l0_k.I : (p : sq207.l0_k.Pt) → ((List ByteArray)) → Prop
  | .l0 a_0 x_1 x_6 y_7 x_8 x_9, r => ∀ {W h0 m0 h m A_0 n_0 c_0 bk_7 cs_7} (O : Hold W h0 m0 h m [rR (aE tell_str) A_0 c_0 a_0, rV bk_7 311 cs_7]) (ne_0 : n_0 = List.length a_0) (e_7 : (eInt .u64) m y_7 cs_7), f207.l0 (sq207.post W A_0 n_0 c_0 h0 m0 r) A_0 n_0 c_0 x_1 x_6 (⟨bk_7, 0, none⟩ : Addr) x_8 x_9 h
  | .j1 a_0 x_1 x_6 y_7 x_8 x_9 x_10, r => ∀ {W h0 m0 h m A_0 n_0 c_0 bk_7 cs_7} (O : Hold W h0 m0 h m [rR (aE tell_str) A_0 c_0 a_0, rV bk_7 311 cs_7]) (ne_0 : n_0 = List.length a_0) (e_7 : (eInt .u64) m y_7 cs_7), f207.j1 (sq207.post W A_0 n_0 c_0 h0 m0 r) A_0 n_0 c_0 x_1 x_6 (⟨bk_7, 0, none⟩ : Addr) x_8 x_9 x_10 h
  | .j0 a_0 x_1 x_6 y_7 x_8 x_9, r => ∀ {W h0 m0 h m A_0 n_0 c_0 bk_7 cs_7} (O : Hold W h0 m0 h m [rR (aE tell_str) A_0 c_0 a_0, rV bk_7 311 cs_7]) (ne_0 : n_0 = List.length a_0) (e_7 : (eInt .u64) m y_7 cs_7), f207.j0 (sq207.post W A_0 n_0 c_0 h0 m0 r) A_0 n_0 c_0 x_1 x_6 (⟨bk_7, 0, none⟩ : Addr) x_8 x_9 h
theorem sq207.l0_k.step_l0 (go : (p : sq207.l0_k.Pt) → Option ((List ByteArray))) (ih : ∀ p r, go p = some r → sq207.l0_k.I p r) (a_0 x_1 x_6 y_7 x_8 x_9) (r) (e : sq207.l0_k.body go (.l0 a_0 x_1 x_6 y_7 x_8 x_9) = some r) : sq207.l0_k.I (.l0 a_0 x_1 x_6 y_7 x_8 x_9) r := by
  unfold sq207.l0_k.body at e
  intro W h0 m0 h m A_0 n_0 c_0 bk_7 cs_7 O ne_0 e_7
  subst ne_0
  obtain rfl : cs_7 = [(Value.int .u64 y_7)] := e_7
  refine f207.l0_in ?_
  unfold f207.l0T
  refine ⟨by decide, ?_⟩
  refine split_dec_e e (fun c16 e => ?_) (fun c16 e => ?_)
  · obtain ⟨y1, g2, e⟩ := bind_e e
    obtain ⟨W7, P8, B9, C10⟩ := O.callC [1]
    refine (slices_xorshift_Next.walk P8 rfl g2).mono ?_
    rintro _ h3 ⟨m4, cs12, Q5, rfl, he13⟩
    have O14 := Hold.nm (C10 Q5 (vfs_cons rV_vf vfs_nil))
    obtain rfl : cs12 = [(Value.int .u64 y1.2)] := he13
    refine ⟨_, rfl, ?_⟩
    refine split_dec_e e (fun c15 e => ?_) (fun c15 e => ?_)
    · exact (ih _ _ e) (O14.pick [0, 2]).nm rfl rfl
    · exact (ih _ _ e) (O14.pick [0, 2]).nm rfl rfl
  · cases e
    exact ⟨_, O.pick [0], rfl, rfl⟩
theorem sq207.l0_k.step_j1 (go : (p : sq207.l0_k.Pt) → Option ((List ByteArray))) (ih : ∀ p r, go p = some r → sq207.l0_k.I p r) (a_0 x_1 x_6 y_7 x_8 x_9 x_10) (r) (e : sq207.l0_k.body go (.j1 a_0 x_1 x_6 y_7 x_8 x_9 x_10) = some r) : sq207.l0_k.I (.j1 a_0 x_1 x_6 y_7 x_8 x_9 x_10) r := by
  unfold sq207.l0_k.body at e
  intro W h0 m0 h m A_0 n_0 c_0 bk_7 cs_7 O ne_0 e_7
  subst ne_0
  obtain rfl : cs_7 = [(Value.int .u64 y_7)] := e_7
  refine f207.j1_in ?_
  unfold f207.j1T
  obtain ⟨y1, g2, e⟩ := bind_e e
  refine (O.os 0 rfl).addr rfl g2 fun a3 cs4 ha5 hc6 he7 => ?_
  obtain rfl : cs4 = [(Value.string y1)] := he7
  obtain ⟨y8, g9, e⟩ := bind_e e
  refine (O.os 0 rfl).addr rfl g9 fun a10 cs11 ha12 hc13 he14 => ?_
  obtain rfl : cs11 = [(Value.string y8)] := he14
  refine ⟨_, ld0 (Sub.refl _) hc6 rfl, _, rfl, ?_⟩
  refine ⟨_, ld0 (Sub.refl _) hc13 rfl, _, rfl, ?_⟩
  obtain ⟨y15, g16, e⟩ := bind_e e
  refine (O.os 0 rfl).addr rfl g16 fun a17 cs18 ha19 hc20 he21 => ?_
  obtain rfl : cs18 = [(Value.string y15)] := he21
  obtain ⟨l24, g25, e⟩ := bind_e e
  replace g25 := Option.some.inj g25
  refine O.elst0 0 rfl g16 ha19 hc20 (by decide) (y' := y1) rfl trivial g25 fun h22 O23 => ?_
  obtain ⟨y26, g27, e⟩ := bind_e e
  refine (O23.os 0 rfl).addr (lset' g25) g27 fun a28 cs29 ha30 hc31 he32 => ?_
  obtain rfl : cs29 = [(Value.string y26)] := he32
  obtain ⟨l35, g36, e⟩ := bind_e e
  replace g36 := Option.some.inj g36
  refine O23.elst0 0 rfl g27 ha30 hc31 (by decide) (y' := y8) rfl trivial g36 fun h33 O34 => ?_
  have O37 := O34.nm
  exact (ih _ _ e) (O37.pick [0, 1]).nm ((lset' g25).trans (lset' g36)) rfl
theorem sq207.l0_k.step_j0 (go : (p : sq207.l0_k.Pt) → Option ((List ByteArray))) (ih : ∀ p r, go p = some r → sq207.l0_k.I p r) (a_0 x_1 x_6 y_7 x_8 x_9) (r) (e : sq207.l0_k.body go (.j0 a_0 x_1 x_6 y_7 x_8 x_9) = some r) : sq207.l0_k.I (.j0 a_0 x_1 x_6 y_7 x_8 x_9) r := by
  unfold sq207.l0_k.body at e
  intro W h0 m0 h m A_0 n_0 c_0 bk_7 cs_7 O ne_0 e_7
  subst ne_0
  obtain rfl : cs_7 = [(Value.int .u64 y_7)] := e_7
  refine f207.j0_in ?_
  unfold f207.j0T
  exact (ih _ _ e) (O.pick [0, 1]).nm rfl rfl
theorem sq207.l0_k.all {p : sq207.l0_k.Pt} {r : ((List ByteArray))} (e : sq207.l0_k.go p = some r) : sq207.l0_k.I p r := fixF_ind (β := fun _ => ((List ByteArray))) sq207.l0_k.mono (I := sq207.l0_k.I) (fun go ih p r e => match p with
  | .l0 a_0 x_1 x_6 y_7 x_8 x_9 => sq207.l0_k.step_l0 go ih a_0 x_1 x_6 y_7 x_8 x_9 r e
  | .j1 a_0 x_1 x_6 y_7 x_8 x_9 x_10 => sq207.l0_k.step_j1 go ih a_0 x_1 x_6 y_7 x_8 x_9 x_10 r e
  | .j0 a_0 x_1 x_6 y_7 x_8 x_9 => sq207.l0_k.step_j0 go ih a_0 x_1 x_6 y_7 x_8 x_9 r e
  ) e
noncomputable def sq207 (a_0 : List ByteArray) (x_1 : Int) (x_2 : Int) : Option ((List ByteArray)) :=
  if (IntKind.wrap .i64 (x_2 - x_1)) ≥ (8 : Int) then (Option.bind (slices_nextPowerOfTwo (IntKind.wrap .i64 (x_2 - x_1))) fun y7 => (sq207.l0 a_0 x_1 (IntKind.wrap .i64 (x_2 - x_1)) (IntKind.wrap .u64 (IntKind.wrap .i64 (x_2 - x_1))) y7 (IntKind.wrap .i64 ((IntKind.wrap .i64 (x_1 + (IntKind.wrap .i64 ((IntKind.wrap .i64 (Int.tdiv (IntKind.wrap .i64 (x_2 - x_1)) (4 : Int))) * (2 : Int))))) - (1 : Int))))) else (some (a_0))
theorem sq207.walk {W h m A_0 n_0 c_0 a_0 x_1 x_2} (O : Hold W h m h m [rR (aE tell_str) A_0 c_0 a_0]) (ne_0 : n_0 = List.length a_0) {r} (e : sq207 a_0 x_1 x_2 = some r) : Run Try.prog 207 #[Value.slice A_0 n_0 c_0, Value.int .i64 x_1, Value.int .i64 x_2] h (sq207.post W A_0 n_0 c_0 h m r) := by
  unfold sq207 at e
  subst ne_0
  refine f207.run ?_
  unfold f207.runT
  refine split_dec_e e (fun c14 e => ?_) (fun c14 e => ?_)
  · refine O.new fun h1 x2 O3 => ?_
    refine O3.st0 1 rfl (Nat.le_of_ble_eq_true rfl) trivial fun h5 O6 => ?_
    obtain ⟨y7, g8, e⟩ := bind_e e
    refine (slices_nextPowerOfTwo.walk (Hold.start (W := No) O6.s)  g8).mono ?_
    rintro _ h9 ⟨m10, Q11, rfl⟩
    have O13 := Hold.nm (O6.retC Q11 vfs_nil)
    refine ⟨_, rfl, ?_⟩
    refine ⟨by decide, ?_⟩
    exact (sq207.l0_k.all e) (O13.pick [0, 1]).nm rfl rfl
  · cases e
    exact ⟨_, O.pick [0], rfl, rfl⟩
def sq223.post (W : Nat → Prop) (bkio3 : Nat) (h0 m0 : Heap) (r : Int × Int × Int) (v : Value) (h : Heap) : Prop := ∃ m csio3, Hold W h0 m0 h m [rV bkio3 3 csio3] ∧ v = .tuple #[.int .i64 r.1, .int .i64 r.2.1] ∧ (eInt .i64) m r.2.2 csio3
noncomputable def sq223 (a_0 : List ByteArray) (x_1 : Int) (x_2 : Int) (y_3 : Int) : Option (Int × Int × Int) :=
  Option.bind (gi a_0 x_2) fun y1 => Option.bind (gi a_0 x_1) fun y8 => Option.bind (cmp_Less_211 y1 y8) fun y15 => if y15 = true then (some (x_2, x_1, (IntKind.wrap .i64 (y_3 + (1 : Int))))) else (some (x_1, x_2, y_3))
theorem sq223.walk {W h m A_0 n_0 c_0 bkio3 cs_3 a_0 x_1 x_2 y_3} (O : Hold W h m h m [rV bkio3 3 cs_3]) (ne_0 : n_0 = List.length a_0) (k_0 : List.length a_0 ≤ c_0) (r_0 : Rd 1 eStr m A_0 a_0) (e_3 : (eInt .i64) m y_3 cs_3) {r} (e : sq223 a_0 x_1 x_2 y_3 = some r) : Run Try.prog 223 #[Value.slice A_0 n_0 c_0, Value.int .i64 x_1, Value.int .i64 x_2, Value.pointer (some ⟨bkio3, 0, none⟩)] h (sq223.post W bkio3 h m r) := by
  unfold sq223 at e
  subst ne_0
  obtain rfl : cs_3 = [(Value.int .i64 y_3)] := e_3
  refine f223.run ?_
  unfold f223.runT
  obtain ⟨y1, g2, e⟩ := bind_e e
  refine r_0.addr rfl g2 fun a3 cs4 ha5 hc6 he7 => ?_
  obtain rfl : cs4 = [(Value.string y1)] := he7
  obtain ⟨y8, g9, e⟩ := bind_e e
  refine r_0.addr rfl g9 fun a10 cs11 ha12 hc13 he14 => ?_
  obtain rfl : cs11 = [(Value.string y8)] := he14
  refine ⟨_, ld0 O.s hc6 rfl, _, rfl, ?_⟩
  refine ⟨_, ld0 O.s hc13 rfl, _, rfl, ?_⟩
  obtain ⟨y15, g16, e⟩ := bind_e e
  refine (cmp_Less_211.walk (Hold.start (W := No) O.s)  g16).mono ?_
  rintro _ h17 ⟨m18, Q19, rfl⟩
  have O21 := Hold.nm (O.retC Q19 vfs_nil)
  refine ⟨_, rfl, ?_⟩
  refine split_any_e e (fun c25 e => ?_) (fun c25 e => ?_)
  · refine ⟨_, ld0 (Sub.refl _) (O21.all 0 rfl) rfl, _, rfl, ?_⟩
    refine O21.st0 0 rfl (Nat.le_of_ble_eq_true rfl) trivial fun h22 O23 => ?_
    have O24 := O23.nm
    cases e
    exact ⟨_, _, O24.pick [0], rfl, rfl⟩
  · cases e
    exact ⟨_, _, O21.pick [0], rfl, rfl⟩
def sq220.post (W : Nat → Prop) (bkio4 : Nat) (h0 m0 : Heap) (r : Int × Int) (v : Value) (h : Heap) : Prop := ∃ m csio4, Hold W h0 m0 h m [rV bkio4 3 csio4] ∧ v = .int .i64 r.1 ∧ (eInt .i64) m r.2 csio4
noncomputable def sq220 (a_0 : List ByteArray) (x_1 : Int) (x_2 : Int) (x_3 : Int) (y_4 : Int) : Option (Int × Int) :=
  Option.bind (sq223 a_0 x_1 x_2 y_4) fun y1 => Option.bind (sq223 a_0 y1.2.1 x_3 y1.2.2) fun y15 => Option.bind (sq223 a_0 y1.1 y15.1 y15.2.2) fun y29 => some (y29.2.1, y29.2.2)
theorem sq220.walk {W h m A_0 n_0 c_0 bkio4 cs_4 a_0 x_1 x_2 x_3 y_4} (O : Hold W h m h m [rV bkio4 3 cs_4]) (ne_0 : n_0 = List.length a_0) (k_0 : List.length a_0 ≤ c_0) (r_0 : Rd 1 eStr m A_0 a_0) (e_4 : (eInt .i64) m y_4 cs_4) {r} (e : sq220 a_0 x_1 x_2 x_3 y_4 = some r) : Run Try.prog 220 #[Value.slice A_0 n_0 c_0, Value.int .i64 x_1, Value.int .i64 x_2, Value.int .i64 x_3, Value.pointer (some ⟨bkio4, 0, none⟩)] h (sq220.post W bkio4 h m r) := by
  unfold sq220 at e
  subst ne_0
  obtain rfl : cs_4 = [(Value.int .i64 y_4)] := e_4
  refine f220.run ?_
  unfold f220.runT
  obtain ⟨y1, g2, e⟩ := bind_e e
  obtain ⟨W7, P8, B9, C10⟩ := O.callC [0]
  refine (sq223.walk P8 rfl k_0 r_0 rfl g2).mono ?_
  rintro _ h3 ⟨m4, cs12, Q5, rfl, he13⟩
  have O14 := Hold.nm (C10 Q5 (vfs_cons rV_vf vfs_nil))
  obtain rfl : cs12 = [(Value.int .i64 y1.2.2)] := he13
  refine ⟨_, _, rfl, ?_⟩
  obtain ⟨y15, g16, e⟩ := bind_e e
  obtain ⟨W21, P22, B23, C24⟩ := O14.callC [1]
  refine (sq223.walk P22 rfl k_0 r_0 rfl g16).mono ?_
  rintro _ h17 ⟨m18, cs26, Q19, rfl, he27⟩
  have O28 := Hold.nm (C24 Q19 (vfs_cons rV_vf vfs_nil))
  obtain rfl : cs26 = [(Value.int .i64 y15.2.2)] := he27
  refine ⟨_, _, rfl, ?_⟩
  obtain ⟨y29, g30, e⟩ := bind_e e
  obtain ⟨W35, P36, B37, C38⟩ := O28.callC [2]
  refine (sq223.walk P36 rfl k_0 r_0 rfl g30).mono ?_
  rintro _ h31 ⟨m32, cs40, Q33, rfl, he41⟩
  have O42 := Hold.nm (C38 Q33 (vfs_cons rV_vf vfs_nil))
  obtain rfl : cs40 = [(Value.int .i64 y29.2.2)] := he41
  refine ⟨_, _, rfl, ?_⟩
  cases e
  exact ⟨_, _, O42.pick [3], rfl, rfl⟩
def sq219.post (W : Nat → Prop) (bkio2 : Nat) (h0 m0 : Heap) (r : Int × Int) (v : Value) (h : Heap) : Prop := ∃ m csio2, Hold W h0 m0 h m [rV bkio2 3 csio2] ∧ v = .int .i64 r.1 ∧ (eInt .i64) m r.2 csio2
noncomputable def sq219 (a_0 : List ByteArray) (x_1 : Int) (y_2 : Int) : Option (Int × Int) :=
  Option.bind (sq220 a_0 (IntKind.wrap .i64 (x_1 - (1 : Int))) x_1 (IntKind.wrap .i64 (x_1 + (1 : Int))) y_2) fun y1 => some (y1.1, y1.2)
theorem sq219.walk {W h m A_0 n_0 c_0 bkio2 cs_2 a_0 x_1 y_2} (O : Hold W h m h m [rV bkio2 3 cs_2]) (ne_0 : n_0 = List.length a_0) (k_0 : List.length a_0 ≤ c_0) (r_0 : Rd 1 eStr m A_0 a_0) (e_2 : (eInt .i64) m y_2 cs_2) {r} (e : sq219 a_0 x_1 y_2 = some r) : Run Try.prog 219 #[Value.slice A_0 n_0 c_0, Value.int .i64 x_1, Value.pointer (some ⟨bkio2, 0, none⟩)] h (sq219.post W bkio2 h m r) := by
  unfold sq219 at e
  subst ne_0
  obtain rfl : cs_2 = [(Value.int .i64 y_2)] := e_2
  refine f219.run ?_
  unfold f219.runT
  obtain ⟨y1, g2, e⟩ := bind_e e
  obtain ⟨W7, P8, B9, C10⟩ := O.callC [0]
  refine (sq220.walk P8 rfl k_0 r_0 rfl g2).mono ?_
  rintro _ h3 ⟨m4, cs12, Q5, rfl, he13⟩
  have O14 := Hold.nm (C10 Q5 (vfs_cons rV_vf vfs_nil))
  obtain rfl : cs12 = [(Value.int .i64 y1.2)] := he13
  refine ⟨_, rfl, ?_⟩
  cases e
  exact ⟨_, _, O14.pick [1], rfl, rfl⟩
def sq208.post (W : Nat → Prop) (h0 m0 : Heap) (r : Int × Int) (v : Value) (h : Heap) : Prop := ∃ m , Hold W h0 m0 h m [] ∧ v = .tuple #[.int .i64 r.1, .int .i64 r.2]
noncomputable def sq208.j0 (y_9 : Int) (x_11 : Int) : Option (Int × Int) :=
  if y_9 = (0 : Int) then (some (x_11, (1 : Int))) else (if y_9 = (12 : Int) then (some (x_11, (2 : Int))) else (some (x_11, (0 : Int))))
theorem sq208.j0.walk {W h0 m0 h m bk_9 cs_9 y_9 x_11} (O : Hold W h0 m0 h m [rV bk_9 3 cs_9]) (e_9 : (eInt .i64) m y_9 cs_9) {r} (e : sq208.j0 y_9 x_11 = some r) : f208.j0 (sq208.post W h0 m0 r) (⟨bk_9, 0, none⟩ : Addr) x_11 h := by
  unfold sq208.j0 at e
  obtain rfl : cs_9 = [(Value.int .i64 y_9)] := e_9
  refine f208.j0_in ?_
  unfold f208.j0T
  refine ⟨_, ld0 (Sub.refl _) (O.all 0 rfl) rfl, _, rfl, ?_⟩
  refine split_eq_e e (fun c2 e => ?_) (fun c2 e => ?_)
  · cases e
    exact ⟨_, O.pick [], rfl⟩
  · refine split_eq_e e (fun c1 e => ?_) (fun c1 e => ?_)
    · cases e
      exact ⟨_, O.pick [], rfl⟩
    · cases e
      exact ⟨_, O.pick [], rfl⟩
noncomputable def sq208.j1 (a_0 : List ByteArray) (y_9 : Int) (x_10 : Int) (x_11 : Int) (x_12 : Int) : Option (Int × Int) :=
  Option.bind (sq220 a_0 x_10 x_11 x_12 y_9) fun y1 => (sq208.j0 y1.2 y1.1)
theorem sq208.j1.walk {W h0 m0 h m A_0 n_0 c_0 bk_9 cs_9 a_0 y_9 x_10 x_11 x_12} (O : Hold W h0 m0 h m [rV bk_9 3 cs_9]) (ne_0 : n_0 = List.length a_0) (k_0 : List.length a_0 ≤ c_0) (r_0 : Rd 1 eStr m A_0 a_0) (e_9 : (eInt .i64) m y_9 cs_9) {r} (e : sq208.j1 a_0 y_9 x_10 x_11 x_12 = some r) : f208.j1 (sq208.post W h0 m0 r) A_0 n_0 c_0 (⟨bk_9, 0, none⟩ : Addr) x_10 x_11 x_12 h := by
  unfold sq208.j1 at e
  subst ne_0
  obtain rfl : cs_9 = [(Value.int .i64 y_9)] := e_9
  refine f208.j1_in ?_
  unfold f208.j1T
  obtain ⟨y1, g2, e⟩ := bind_e e
  obtain ⟨W7, P8, B9, C10⟩ := O.callC [0]
  refine (sq220.walk P8 rfl k_0 r_0 rfl g2).mono ?_
  rintro _ h3 ⟨m4, cs12, Q5, rfl, he13⟩
  have O14 := Hold.nm (C10 Q5 (vfs_cons rV_vf vfs_nil))
  obtain rfl : cs12 = [(Value.int .i64 y1.2)] := he13
  refine ⟨_, rfl, ?_⟩
  exact sq208.j0.walk (O14.pick [1]).nm rfl e
noncomputable def sq208 (a_0 : List ByteArray) (x_1 : Int) (x_2 : Int) : Option (Int × Int) :=
  if (IntKind.wrap .i64 (x_2 - x_1)) ≥ (8 : Int) then (if (IntKind.wrap .i64 (x_2 - x_1)) ≥ (50 : Int) then (Option.bind (sq219 a_0 (IntKind.wrap .i64 (x_1 + (IntKind.wrap .i64 ((IntKind.wrap .i64 (Int.tdiv (IntKind.wrap .i64 (x_2 - x_1)) (4 : Int))) * (1 : Int))))) (0 : Int)) fun y5 => Option.bind (sq219 a_0 (IntKind.wrap .i64 (x_1 + (IntKind.wrap .i64 ((IntKind.wrap .i64 (Int.tdiv (IntKind.wrap .i64 (x_2 - x_1)) (4 : Int))) * (2 : Int))))) y5.2) fun y20 => Option.bind (sq219 a_0 (IntKind.wrap .i64 (x_1 + (IntKind.wrap .i64 ((IntKind.wrap .i64 (Int.tdiv (IntKind.wrap .i64 (x_2 - x_1)) (4 : Int))) * (3 : Int))))) y20.2) fun y34 => (sq208.j1 a_0 y34.2 y5.1 y20.1 y34.1)) else ((sq208.j1 a_0 (0 : Int) (IntKind.wrap .i64 (x_1 + (IntKind.wrap .i64 ((IntKind.wrap .i64 (Int.tdiv (IntKind.wrap .i64 (x_2 - x_1)) (4 : Int))) * (1 : Int))))) (IntKind.wrap .i64 (x_1 + (IntKind.wrap .i64 ((IntKind.wrap .i64 (Int.tdiv (IntKind.wrap .i64 (x_2 - x_1)) (4 : Int))) * (2 : Int))))) (IntKind.wrap .i64 (x_1 + (IntKind.wrap .i64 ((IntKind.wrap .i64 (Int.tdiv (IntKind.wrap .i64 (x_2 - x_1)) (4 : Int))) * (3 : Int)))))))) else ((sq208.j0 (0 : Int) (IntKind.wrap .i64 (x_1 + (IntKind.wrap .i64 ((IntKind.wrap .i64 (Int.tdiv (IntKind.wrap .i64 (x_2 - x_1)) (4 : Int))) * (2 : Int)))))))
set_option maxHeartbeats 4000000 in
theorem sq208.walk {W h m A_0 n_0 c_0 a_0 x_1 x_2} (O : Hold W h m h m []) (ne_0 : n_0 = List.length a_0) (k_0 : List.length a_0 ≤ c_0) (r_0 : Rd 1 eStr m A_0 a_0) {r} (e : sq208 a_0 x_1 x_2 = some r) : Run Try.prog 208 #[Value.slice A_0 n_0 c_0, Value.int .i64 x_1, Value.int .i64 x_2] h (sq208.post W h m r) := by
  unfold sq208 at e
  subst ne_0
  refine f208.run ?_
  unfold f208.runT
  refine O.new fun h1 x2 O3 => ?_
  refine ⟨by decide, ?_⟩
  refine ⟨by decide, ?_⟩
  refine ⟨by decide, ?_⟩
  refine split_dec_e e (fun c51 e => ?_) (fun c51 e => ?_)
  · refine split_dec_e e (fun c49 e => ?_) (fun c49 e => ?_)
    · obtain ⟨y5, g6, e⟩ := bind_e e
      have O11 := O3.nm
      obtain ⟨W12, P13, B14, C15⟩ := O11.callC [0]
      refine (sq219.walk P13 rfl k_0 r_0 rfl g6).mono ?_
      rintro _ h7 ⟨m8, cs17, Q9, rfl, he18⟩
      have O19 := Hold.nm (C15 Q9 (vfs_cons rV_vf vfs_nil))
      obtain rfl : cs17 = [(Value.int .i64 y5.2)] := he18
      refine ⟨_, rfl, ?_⟩
      obtain ⟨y20, g21, e⟩ := bind_e e
      obtain ⟨W26, P27, B28, C29⟩ := O19.callC [1]
      refine (sq219.walk P27 rfl k_0 r_0 rfl g21).mono ?_
      rintro _ h22 ⟨m23, cs31, Q24, rfl, he32⟩
      have O33 := Hold.nm (C29 Q24 (vfs_cons rV_vf vfs_nil))
      obtain rfl : cs31 = [(Value.int .i64 y20.2)] := he32
      refine ⟨_, rfl, ?_⟩
      obtain ⟨y34, g35, e⟩ := bind_e e
      obtain ⟨W40, P41, B42, C43⟩ := O33.callC [2]
      refine (sq219.walk P41 rfl k_0 r_0 rfl g35).mono ?_
      rintro _ h36 ⟨m37, cs45, Q38, rfl, he46⟩
      have O47 := Hold.nm (C43 Q38 (vfs_cons rV_vf vfs_nil))
      obtain rfl : cs45 = [(Value.int .i64 y34.2)] := he46
      refine ⟨_, rfl, ?_⟩
      exact sq208.j1.walk (O47.pick [3]).nm rfl k_0 r_0 rfl e
    · have O48 := O3.nm
      exact sq208.j1.walk (O48.pick [0]).nm rfl k_0 r_0 rfl e
  · have O50 := O3.nm
    exact sq208.j0.walk (O50.pick [0]).nm rfl e
def sq209.post (W : Nat → Prop) (Asl0 : Option Addr) (nsl0 csl0 : Nat) (h0 m0 : Heap) (r : (List ByteArray)) (v : Value) (h : Heap) : Prop := ∃ m , Hold W h0 m0 h m [rR (aE tell_str) Asl0 csl0 r] ∧ v = .tuple #[] ∧ nsl0 = List.length r
inductive sq209.l0_k.Pt where
  | l0 (a_0 : List ByteArray) (x_6 : Int) (x_7 : Int)
noncomputable def sq209.l0_k.body (go : (p : sq209.l0_k.Pt) → Option ((List ByteArray))) : (p : sq209.l0_k.Pt) → Option ((List ByteArray))
  | .l0 a_0 x_6 x_7 => if x_6 < x_7 then (Option.bind (gi a_0 x_7) fun y1 => Option.bind (gi a_0 x_6) fun y8 => Option.bind (gi a_0 x_6) fun y15 => Option.bind (some (List.set a_0 (Int.toNat x_6) y1)) fun l24 => Option.bind (gi l24 x_7) fun y26 => Option.bind (some (List.set l24 (Int.toNat x_7) y8)) fun l35 => (go (.l0 l35 (IntKind.wrap .i64 (x_6 + (1 : Int))) (IntKind.wrap .i64 (x_7 - (1 : Int)))))) else (some (a_0))
theorem sq209.l0_k.mono : MonoF (β := fun _ => ((List ByteArray))) sq209.l0_k.body := fun f g hfg p => match p with
  | .l0 a_0 x_6 x_7 => LeO.ite (LeO.bind (LeO.refl _) fun y1 => LeO.bind (LeO.refl _) fun y8 => LeO.bind (LeO.refl _) fun y15 => LeO.bind (LeO.refl _) fun l24 => LeO.bind (LeO.refl _) fun y26 => LeO.bind (LeO.refl _) fun l35 => (hfg _)) (LeO.refl _)
noncomputable def sq209.l0_k.go (p : sq209.l0_k.Pt) : Option ((List ByteArray)) := fixF (β := fun _ => ((List ByteArray))) sq209.l0_k.body p
noncomputable def sq209.l0 (a_0 x_6 x_7) := sq209.l0_k.go (.l0 a_0 x_6 x_7)
theorem sq209.l0_eq (a_0 x_6 x_7) : sq209.l0 a_0 x_6 x_7 = if x_6 < x_7 then (Option.bind (gi a_0 x_7) fun y1 => Option.bind (gi a_0 x_6) fun y8 => Option.bind (gi a_0 x_6) fun y15 => Option.bind (some (List.set a_0 (Int.toNat x_6) y1)) fun l24 => Option.bind (gi l24 x_7) fun y26 => Option.bind (some (List.set l24 (Int.toNat x_7) y8)) fun l35 => (sq209.l0 l35 (IntKind.wrap .i64 (x_6 + (1 : Int))) (IntKind.wrap .i64 (x_7 - (1 : Int))))) else (some (a_0)) := fixF_eq sq209.l0_k.mono _
def sq209.l0_k.I : (p : sq209.l0_k.Pt) → ((List ByteArray)) → Prop
  | .l0 a_0 x_6 x_7, r => ∀ {W h0 m0 h m A_0 n_0 c_0} (O : Hold W h0 m0 h m [rR (aE tell_str) A_0 c_0 a_0]) (ne_0 : n_0 = List.length a_0), f209.l0 (sq209.post W A_0 n_0 c_0 h0 m0 r) A_0 n_0 c_0 x_6 x_7 h
theorem sq209.l0_k.step_l0 (go : (p : sq209.l0_k.Pt) → Option ((List ByteArray))) (ih : ∀ p r, go p = some r → sq209.l0_k.I p r) (a_0 x_6 x_7) (r) (e : sq209.l0_k.body go (.l0 a_0 x_6 x_7) = some r) : sq209.l0_k.I (.l0 a_0 x_6 x_7) r := by
  unfold sq209.l0_k.body at e
  intro W h0 m0 h m A_0 n_0 c_0 O ne_0
  subst ne_0
  refine f209.l0_in ?_
  unfold f209.l0T
  refine split_dec_e e (fun c38 e => ?_) (fun c38 e => ?_)
  · obtain ⟨y1, g2, e⟩ := bind_e e
    refine (O.os 0 rfl).addr rfl g2 fun a3 cs4 ha5 hc6 he7 => ?_
    obtain rfl : cs4 = [(Value.string y1)] := he7
    obtain ⟨y8, g9, e⟩ := bind_e e
    refine (O.os 0 rfl).addr rfl g9 fun a10 cs11 ha12 hc13 he14 => ?_
    obtain rfl : cs11 = [(Value.string y8)] := he14
    refine ⟨_, ld0 (Sub.refl _) hc6 rfl, _, rfl, ?_⟩
    refine ⟨_, ld0 (Sub.refl _) hc13 rfl, _, rfl, ?_⟩
    obtain ⟨y15, g16, e⟩ := bind_e e
    refine (O.os 0 rfl).addr rfl g16 fun a17 cs18 ha19 hc20 he21 => ?_
    obtain rfl : cs18 = [(Value.string y15)] := he21
    obtain ⟨l24, g25, e⟩ := bind_e e
    replace g25 := Option.some.inj g25
    refine O.elst0 0 rfl g16 ha19 hc20 (by decide) (y' := y1) rfl trivial g25 fun h22 O23 => ?_
    obtain ⟨y26, g27, e⟩ := bind_e e
    refine (O23.os 0 rfl).addr (lset' g25) g27 fun a28 cs29 ha30 hc31 he32 => ?_
    obtain rfl : cs29 = [(Value.string y26)] := he32
    obtain ⟨l35, g36, e⟩ := bind_e e
    replace g36 := Option.some.inj g36
    refine O23.elst0 0 rfl g27 ha30 hc31 (by decide) (y' := y8) rfl trivial g36 fun h33 O34 => ?_
    have O37 := O34.nm
    exact (ih _ _ e) (O37.pick [0]).nm ((lset' g25).trans (lset' g36))
  · cases e
    exact ⟨_, O.pick [0], rfl, rfl⟩
theorem sq209.l0_k.all {p : sq209.l0_k.Pt} {r : ((List ByteArray))} (e : sq209.l0_k.go p = some r) : sq209.l0_k.I p r := fixF_ind (β := fun _ => ((List ByteArray))) sq209.l0_k.mono (I := sq209.l0_k.I) (fun go ih p r e => match p with
  | .l0 a_0 x_6 x_7 => sq209.l0_k.step_l0 go ih a_0 x_6 x_7 r e
  ) e
noncomputable def sq209 (a_0 : List ByteArray) (x_1 : Int) (x_2 : Int) : Option ((List ByteArray)) :=
  (sq209.l0 a_0 x_1 (IntKind.wrap .i64 (x_2 - (1 : Int))))
theorem sq209.walk {W h m A_0 n_0 c_0 a_0 x_1 x_2} (O : Hold W h m h m [rR (aE tell_str) A_0 c_0 a_0]) (ne_0 : n_0 = List.length a_0) {r} (e : sq209 a_0 x_1 x_2 = some r) : Run Try.prog 209 #[Value.slice A_0 n_0 c_0, Value.int .i64 x_1, Value.int .i64 x_2] h (sq209.post W A_0 n_0 c_0 h m r) := by
  unfold sq209 at e
  subst ne_0
  refine f209.run ?_
  unfold f209.runT
  exact (sq209.l0_k.all e) (O.pick [0]).nm rfl
def sq210.post (W : Nat → Prop) (Asl0 : Option Addr) (nsl0 csl0 : Nat) (h0 m0 : Heap) (r : Bool × (List ByteArray)) (v : Value) (h : Heap) : Prop := ∃ m , Hold W h0 m0 h m [rR (aE tell_str) Asl0 csl0 r.2] ∧ v = .bool r.1 ∧ nsl0 = List.length r.2
inductive sq210.l0_k.Pt where
  | l0 (a_0 : List ByteArray) (x_1 : Int) (x_2 : Int) (x_7 : Int) (x_8 : Int)
  | l1 (a_0 : List ByteArray) (x_1 : Int) (x_2 : Int) (x_7 : Int) (x_8 : Int)
  | j2 (a_0 : List ByteArray) (x_1 : Int) (x_2 : Int) (x_7 : Int) (x_8 : Int)
  | j1 (a_0 : List ByteArray) (x_1 : Int) (x_2 : Int) (x_7 : Int) (x_8 : Int)
  | l2 (a_0 : List ByteArray) (x_1 : Int) (x_2 : Int) (x_7 : Int) (x_8 : Int) (x_9 : Int)
  | j3 (a_0 : List ByteArray) (x_1 : Int) (x_2 : Int) (x_7 : Int) (x_8 : Int)
  | l3 (a_0 : List ByteArray) (x_1 : Int) (x_2 : Int) (x_7 : Int) (x_8 : Int) (x_10 : Int)
  | j0 (a_0 : List ByteArray) (x_1 : Int) (x_2 : Int) (x_7 : Int) (x_8 : Int)
noncomputable def sq210.l0_k.body (go : (p : sq210.l0_k.Pt) → Option (Bool × (List ByteArray))) : (p : sq210.l0_k.Pt) → Option (Bool × (List ByteArray))
  | .l0 a_0 x_1 x_2 x_7 x_8 => if x_8 < (5 : Int) then ((go (.l1 a_0 x_1 x_2 x_7 x_8))) else (some (false, a_0))
  | .l1 a_0 x_1 x_2 x_7 x_8 => if x_7 < x_2 then (Option.bind (gi a_0 x_7) fun y1 => Option.bind (gi a_0 (IntKind.wrap .i64 (x_7 - (1 : Int)))) fun y8 => Option.bind (cmp_Less_211 y1 y8) fun y15 => if y15 = true then ((go (.j1 a_0 x_1 x_2 x_7 x_8))) else ((go (.j2 a_0 x_1 x_2 x_7 x_8)))) else ((go (.j1 a_0 x_1 x_2 x_7 x_8)))
  | .j2 a_0 x_1 x_2 x_7 x_8 => (go (.l1 a_0 x_1 x_2 (IntKind.wrap .i64 (x_7 + (1 : Int))) x_8))
  | .j1 a_0 x_1 x_2 x_7 x_8 => if x_7 = x_2 then (some (true, a_0)) else (if (IntKind.wrap .i64 (x_2 - x_1)) < (50 : Int) then (some (false, a_0)) else (Option.bind (gi a_0 (IntKind.wrap .i64 (x_7 - (1 : Int)))) fun y1 => Option.bind (gi a_0 x_7) fun y8 => Option.bind (gi a_0 x_7) fun y15 => Option.bind (some (List.set a_0 (Int.toNat x_7) y1)) fun l24 => Option.bind (gi l24 (IntKind.wrap .i64 (x_7 - (1 : Int)))) fun y26 => Option.bind (some (List.set l24 (Int.toNat (IntKind.wrap .i64 (x_7 - (1 : Int)))) y8)) fun l35 => if (IntKind.wrap .i64 (x_7 - x_1)) ≥ (2 : Int) then ((go (.l2 l35 x_1 x_2 x_7 x_8 (IntKind.wrap .i64 (x_7 - (1 : Int)))))) else ((go (.j3 l35 x_1 x_2 x_7 x_8)))))
  | .l2 a_0 x_1 x_2 x_7 x_8 x_9 => if x_9 ≥ (1 : Int) then (Option.bind (gi a_0 x_9) fun y1 => Option.bind (gi a_0 (IntKind.wrap .i64 (x_9 - (1 : Int)))) fun y8 => Option.bind (cmp_Less_211 y1 y8) fun y15 => if y15 = true then (Option.bind (gi a_0 (IntKind.wrap .i64 (x_9 - (1 : Int)))) fun y22 => Option.bind (gi a_0 x_9) fun y29 => Option.bind (gi a_0 x_9) fun y36 => Option.bind (some (List.set a_0 (Int.toNat x_9) y22)) fun l45 => Option.bind (gi l45 (IntKind.wrap .i64 (x_9 - (1 : Int)))) fun y47 => Option.bind (some (List.set l45 (Int.toNat (IntKind.wrap .i64 (x_9 - (1 : Int)))) y29)) fun l56 => (go (.l2 l56 x_1 x_2 x_7 x_8 (IntKind.wrap .i64 (x_9 - (1 : Int)))))) else ((go (.j3 a_0 x_1 x_2 x_7 x_8)))) else ((go (.j3 a_0 x_1 x_2 x_7 x_8)))
  | .j3 a_0 x_1 x_2 x_7 x_8 => if (IntKind.wrap .i64 (x_2 - x_7)) ≥ (2 : Int) then ((go (.l3 a_0 x_1 x_2 x_7 x_8 (IntKind.wrap .i64 (x_7 + (1 : Int)))))) else ((go (.j0 a_0 x_1 x_2 x_7 x_8)))
  | .l3 a_0 x_1 x_2 x_7 x_8 x_10 => if x_10 < x_2 then (Option.bind (gi a_0 x_10) fun y1 => Option.bind (gi a_0 (IntKind.wrap .i64 (x_10 - (1 : Int)))) fun y8 => Option.bind (cmp_Less_211 y1 y8) fun y15 => if y15 = true then (Option.bind (gi a_0 (IntKind.wrap .i64 (x_10 - (1 : Int)))) fun y22 => Option.bind (gi a_0 x_10) fun y29 => Option.bind (gi a_0 x_10) fun y36 => Option.bind (some (List.set a_0 (Int.toNat x_10) y22)) fun l45 => Option.bind (gi l45 (IntKind.wrap .i64 (x_10 - (1 : Int)))) fun y47 => Option.bind (some (List.set l45 (Int.toNat (IntKind.wrap .i64 (x_10 - (1 : Int)))) y29)) fun l56 => (go (.l3 l56 x_1 x_2 x_7 x_8 (IntKind.wrap .i64 (x_10 + (1 : Int)))))) else ((go (.j0 a_0 x_1 x_2 x_7 x_8)))) else ((go (.j0 a_0 x_1 x_2 x_7 x_8)))
  | .j0 a_0 x_1 x_2 x_7 x_8 => (go (.l0 a_0 x_1 x_2 x_7 (IntKind.wrap .i64 (x_8 + (1 : Int)))))
attribute [local irreducible] cmp_Less_211 in
theorem sq210.l0_k.mono : MonoF (β := fun _ => (Bool × (List ByteArray))) sq210.l0_k.body := fun f g hfg p => match p with
  | .l0 a_0 x_1 x_2 x_7 x_8 => LeO.ite ((hfg _)) (LeO.refl _)
  | .l1 a_0 x_1 x_2 x_7 x_8 => LeO.ite (LeO.bind (LeO.refl _) fun y1 => LeO.bind (LeO.refl _) fun y8 => LeO.bind (LeO.refl _) fun y15 => LeO.ite ((hfg _)) ((hfg _))) ((hfg _))
  | .j2 a_0 x_1 x_2 x_7 x_8 => (hfg _)
  | .j1 a_0 x_1 x_2 x_7 x_8 => LeO.ite (LeO.refl _) (LeO.ite (LeO.refl _) (LeO.bind (LeO.refl _) fun y1 => LeO.bind (LeO.refl _) fun y8 => LeO.bind (LeO.refl _) fun y15 => LeO.bind (LeO.refl _) fun l24 => LeO.bind (LeO.refl _) fun y26 => LeO.bind (LeO.refl _) fun l35 => LeO.ite ((hfg _)) ((hfg _))))
  | .l2 a_0 x_1 x_2 x_7 x_8 x_9 => LeO.ite (LeO.bind (LeO.refl _) fun y1 => LeO.bind (LeO.refl _) fun y8 => LeO.bind (LeO.refl _) fun y15 => LeO.ite (LeO.bind (LeO.refl _) fun y22 => LeO.bind (LeO.refl _) fun y29 => LeO.bind (LeO.refl _) fun y36 => LeO.bind (LeO.refl _) fun l45 => LeO.bind (LeO.refl _) fun y47 => LeO.bind (LeO.refl _) fun l56 => (hfg _)) ((hfg _))) ((hfg _))
  | .j3 a_0 x_1 x_2 x_7 x_8 => LeO.ite ((hfg _)) ((hfg _))
  | .l3 a_0 x_1 x_2 x_7 x_8 x_10 => LeO.ite (LeO.bind (LeO.refl _) fun y1 => LeO.bind (LeO.refl _) fun y8 => LeO.bind (LeO.refl _) fun y15 => LeO.ite (LeO.bind (LeO.refl _) fun y22 => LeO.bind (LeO.refl _) fun y29 => LeO.bind (LeO.refl _) fun y36 => LeO.bind (LeO.refl _) fun l45 => LeO.bind (LeO.refl _) fun y47 => LeO.bind (LeO.refl _) fun l56 => (hfg _)) ((hfg _))) ((hfg _))
  | .j0 a_0 x_1 x_2 x_7 x_8 => (hfg _)
noncomputable def sq210.l0_k.go (p : sq210.l0_k.Pt) : Option (Bool × (List ByteArray)) := fixF (β := fun _ => (Bool × (List ByteArray))) sq210.l0_k.body p
noncomputable def sq210.l0 (a_0 x_1 x_2 x_7 x_8) := sq210.l0_k.go (.l0 a_0 x_1 x_2 x_7 x_8)
noncomputable def sq210.l1 (a_0 x_1 x_2 x_7 x_8) := sq210.l0_k.go (.l1 a_0 x_1 x_2 x_7 x_8)
noncomputable def sq210.j2 (a_0 x_1 x_2 x_7 x_8) := sq210.l0_k.go (.j2 a_0 x_1 x_2 x_7 x_8)
noncomputable def sq210.j1 (a_0 x_1 x_2 x_7 x_8) := sq210.l0_k.go (.j1 a_0 x_1 x_2 x_7 x_8)
noncomputable def sq210.l2 (a_0 x_1 x_2 x_7 x_8 x_9) := sq210.l0_k.go (.l2 a_0 x_1 x_2 x_7 x_8 x_9)
noncomputable def sq210.j3 (a_0 x_1 x_2 x_7 x_8) := sq210.l0_k.go (.j3 a_0 x_1 x_2 x_7 x_8)
noncomputable def sq210.l3 (a_0 x_1 x_2 x_7 x_8 x_10) := sq210.l0_k.go (.l3 a_0 x_1 x_2 x_7 x_8 x_10)
noncomputable def sq210.j0 (a_0 x_1 x_2 x_7 x_8) := sq210.l0_k.go (.j0 a_0 x_1 x_2 x_7 x_8)
theorem sq210.l0_eq (a_0 x_1 x_2 x_7 x_8) : sq210.l0 a_0 x_1 x_2 x_7 x_8 = if x_8 < (5 : Int) then ((sq210.l1 a_0 x_1 x_2 x_7 x_8)) else (some (false, a_0)) := fixF_eq sq210.l0_k.mono _
theorem sq210.l1_eq (a_0 x_1 x_2 x_7 x_8) : sq210.l1 a_0 x_1 x_2 x_7 x_8 = if x_7 < x_2 then (Option.bind (gi a_0 x_7) fun y1 => Option.bind (gi a_0 (IntKind.wrap .i64 (x_7 - (1 : Int)))) fun y8 => Option.bind (cmp_Less_211 y1 y8) fun y15 => if y15 = true then ((sq210.j1 a_0 x_1 x_2 x_7 x_8)) else ((sq210.j2 a_0 x_1 x_2 x_7 x_8))) else ((sq210.j1 a_0 x_1 x_2 x_7 x_8)) := fixF_eq sq210.l0_k.mono _
theorem sq210.j2_eq (a_0 x_1 x_2 x_7 x_8) : sq210.j2 a_0 x_1 x_2 x_7 x_8 = (sq210.l1 a_0 x_1 x_2 (IntKind.wrap .i64 (x_7 + (1 : Int))) x_8) := fixF_eq sq210.l0_k.mono _
theorem sq210.j1_eq (a_0 x_1 x_2 x_7 x_8) : sq210.j1 a_0 x_1 x_2 x_7 x_8 = if x_7 = x_2 then (some (true, a_0)) else (if (IntKind.wrap .i64 (x_2 - x_1)) < (50 : Int) then (some (false, a_0)) else (Option.bind (gi a_0 (IntKind.wrap .i64 (x_7 - (1 : Int)))) fun y1 => Option.bind (gi a_0 x_7) fun y8 => Option.bind (gi a_0 x_7) fun y15 => Option.bind (some (List.set a_0 (Int.toNat x_7) y1)) fun l24 => Option.bind (gi l24 (IntKind.wrap .i64 (x_7 - (1 : Int)))) fun y26 => Option.bind (some (List.set l24 (Int.toNat (IntKind.wrap .i64 (x_7 - (1 : Int)))) y8)) fun l35 => if (IntKind.wrap .i64 (x_7 - x_1)) ≥ (2 : Int) then ((sq210.l2 l35 x_1 x_2 x_7 x_8 (IntKind.wrap .i64 (x_7 - (1 : Int))))) else ((sq210.j3 l35 x_1 x_2 x_7 x_8)))) := fixF_eq sq210.l0_k.mono _
theorem sq210.l2_eq (a_0 x_1 x_2 x_7 x_8 x_9) : sq210.l2 a_0 x_1 x_2 x_7 x_8 x_9 = if x_9 ≥ (1 : Int) then (Option.bind (gi a_0 x_9) fun y1 => Option.bind (gi a_0 (IntKind.wrap .i64 (x_9 - (1 : Int)))) fun y8 => Option.bind (cmp_Less_211 y1 y8) fun y15 => if y15 = true then (Option.bind (gi a_0 (IntKind.wrap .i64 (x_9 - (1 : Int)))) fun y22 => Option.bind (gi a_0 x_9) fun y29 => Option.bind (gi a_0 x_9) fun y36 => Option.bind (some (List.set a_0 (Int.toNat x_9) y22)) fun l45 => Option.bind (gi l45 (IntKind.wrap .i64 (x_9 - (1 : Int)))) fun y47 => Option.bind (some (List.set l45 (Int.toNat (IntKind.wrap .i64 (x_9 - (1 : Int)))) y29)) fun l56 => (sq210.l2 l56 x_1 x_2 x_7 x_8 (IntKind.wrap .i64 (x_9 - (1 : Int))))) else ((sq210.j3 a_0 x_1 x_2 x_7 x_8))) else ((sq210.j3 a_0 x_1 x_2 x_7 x_8)) := fixF_eq sq210.l0_k.mono _
theorem sq210.j3_eq (a_0 x_1 x_2 x_7 x_8) : sq210.j3 a_0 x_1 x_2 x_7 x_8 = if (IntKind.wrap .i64 (x_2 - x_7)) ≥ (2 : Int) then ((sq210.l3 a_0 x_1 x_2 x_7 x_8 (IntKind.wrap .i64 (x_7 + (1 : Int))))) else ((sq210.j0 a_0 x_1 x_2 x_7 x_8)) := fixF_eq sq210.l0_k.mono _
theorem sq210.l3_eq (a_0 x_1 x_2 x_7 x_8 x_10) : sq210.l3 a_0 x_1 x_2 x_7 x_8 x_10 = if x_10 < x_2 then (Option.bind (gi a_0 x_10) fun y1 => Option.bind (gi a_0 (IntKind.wrap .i64 (x_10 - (1 : Int)))) fun y8 => Option.bind (cmp_Less_211 y1 y8) fun y15 => if y15 = true then (Option.bind (gi a_0 (IntKind.wrap .i64 (x_10 - (1 : Int)))) fun y22 => Option.bind (gi a_0 x_10) fun y29 => Option.bind (gi a_0 x_10) fun y36 => Option.bind (some (List.set a_0 (Int.toNat x_10) y22)) fun l45 => Option.bind (gi l45 (IntKind.wrap .i64 (x_10 - (1 : Int)))) fun y47 => Option.bind (some (List.set l45 (Int.toNat (IntKind.wrap .i64 (x_10 - (1 : Int)))) y29)) fun l56 => (sq210.l3 l56 x_1 x_2 x_7 x_8 (IntKind.wrap .i64 (x_10 + (1 : Int))))) else ((sq210.j0 a_0 x_1 x_2 x_7 x_8))) else ((sq210.j0 a_0 x_1 x_2 x_7 x_8)) := fixF_eq sq210.l0_k.mono _
theorem sq210.j0_eq (a_0 x_1 x_2 x_7 x_8) : sq210.j0 a_0 x_1 x_2 x_7 x_8 = (sq210.l0 a_0 x_1 x_2 x_7 (IntKind.wrap .i64 (x_8 + (1 : Int)))) := fixF_eq sq210.l0_k.mono _
def sq210.l0_k.I : (p : sq210.l0_k.Pt) → (Bool × (List ByteArray)) → Prop
  | .l0 a_0 x_1 x_2 x_7 x_8, r => ∀ {W h0 m0 h m A_0 n_0 c_0} (O : Hold W h0 m0 h m [rR (aE tell_str) A_0 c_0 a_0]) (ne_0 : n_0 = List.length a_0), f210.l0 (sq210.post W A_0 n_0 c_0 h0 m0 r) A_0 n_0 c_0 x_1 x_2 x_7 x_8 h
  | .l1 a_0 x_1 x_2 x_7 x_8, r => ∀ {W h0 m0 h m A_0 n_0 c_0} (O : Hold W h0 m0 h m [rR (aE tell_str) A_0 c_0 a_0]) (ne_0 : n_0 = List.length a_0), f210.l1 (sq210.post W A_0 n_0 c_0 h0 m0 r) A_0 n_0 c_0 x_1 x_2 x_7 x_8 h
  | .j2 a_0 x_1 x_2 x_7 x_8, r => ∀ {W h0 m0 h m A_0 n_0 c_0} (O : Hold W h0 m0 h m [rR (aE tell_str) A_0 c_0 a_0]) (ne_0 : n_0 = List.length a_0), f210.j2 (sq210.post W A_0 n_0 c_0 h0 m0 r) A_0 n_0 c_0 x_1 x_2 x_7 x_8 h
  | .j1 a_0 x_1 x_2 x_7 x_8, r => ∀ {W h0 m0 h m A_0 n_0 c_0} (O : Hold W h0 m0 h m [rR (aE tell_str) A_0 c_0 a_0]) (ne_0 : n_0 = List.length a_0), f210.j1 (sq210.post W A_0 n_0 c_0 h0 m0 r) A_0 n_0 c_0 x_1 x_2 x_7 x_8 h
  | .l2 a_0 x_1 x_2 x_7 x_8 x_9, r => ∀ {W h0 m0 h m A_0 n_0 c_0} (O : Hold W h0 m0 h m [rR (aE tell_str) A_0 c_0 a_0]) (ne_0 : n_0 = List.length a_0), f210.l2 (sq210.post W A_0 n_0 c_0 h0 m0 r) A_0 n_0 c_0 x_1 x_2 x_7 x_8 x_9 h
  | .j3 a_0 x_1 x_2 x_7 x_8, r => ∀ {W h0 m0 h m A_0 n_0 c_0} (O : Hold W h0 m0 h m [rR (aE tell_str) A_0 c_0 a_0]) (ne_0 : n_0 = List.length a_0), f210.j3 (sq210.post W A_0 n_0 c_0 h0 m0 r) A_0 n_0 c_0 x_1 x_2 x_7 x_8 h
  | .l3 a_0 x_1 x_2 x_7 x_8 x_10, r => ∀ {W h0 m0 h m A_0 n_0 c_0} (O : Hold W h0 m0 h m [rR (aE tell_str) A_0 c_0 a_0]) (ne_0 : n_0 = List.length a_0), f210.l3 (sq210.post W A_0 n_0 c_0 h0 m0 r) A_0 n_0 c_0 x_1 x_2 x_7 x_8 x_10 h
  | .j0 a_0 x_1 x_2 x_7 x_8, r => ∀ {W h0 m0 h m A_0 n_0 c_0} (O : Hold W h0 m0 h m [rR (aE tell_str) A_0 c_0 a_0]) (ne_0 : n_0 = List.length a_0), f210.j0 (sq210.post W A_0 n_0 c_0 h0 m0 r) A_0 n_0 c_0 x_1 x_2 x_7 x_8 h
theorem sq210.l0_k.step_l0 (go : (p : sq210.l0_k.Pt) → Option (Bool × (List ByteArray))) (ih : ∀ p r, go p = some r → sq210.l0_k.I p r) (a_0 x_1 x_2 x_7 x_8) (r) (e : sq210.l0_k.body go (.l0 a_0 x_1 x_2 x_7 x_8) = some r) : sq210.l0_k.I (.l0 a_0 x_1 x_2 x_7 x_8) r := by
  unfold sq210.l0_k.body at e
  intro W h0 m0 h m A_0 n_0 c_0 O ne_0
  subst ne_0
  refine f210.l0_in ?_
  unfold f210.l0T
  refine split_dec_e e (fun c1 e => ?_) (fun c1 e => ?_)
  · exact (ih _ _ e) (O.pick [0]).nm rfl
  · cases e
    exact ⟨_, O.pick [0], rfl, rfl⟩
theorem sq210.l0_k.step_l1 (go : (p : sq210.l0_k.Pt) → Option (Bool × (List ByteArray))) (ih : ∀ p r, go p = some r → sq210.l0_k.I p r) (a_0 x_1 x_2 x_7 x_8) (r) (e : sq210.l0_k.body go (.l1 a_0 x_1 x_2 x_7 x_8) = some r) : sq210.l0_k.I (.l1 a_0 x_1 x_2 x_7 x_8) r := by
  unfold sq210.l0_k.body at e
  intro W h0 m0 h m A_0 n_0 c_0 O ne_0
  subst ne_0
  refine f210.l1_in ?_
  unfold f210.l1T
  refine split_dec_e e (fun c23 e => ?_) (fun c23 e => ?_)
  · obtain ⟨y1, g2, e⟩ := bind_e e
    refine (O.os 0 rfl).addr rfl g2 fun a3 cs4 ha5 hc6 he7 => ?_
    obtain rfl : cs4 = [(Value.string y1)] := he7
    obtain ⟨y8, g9, e⟩ := bind_e e
    refine (O.os 0 rfl).addr rfl g9 fun a10 cs11 ha12 hc13 he14 => ?_
    obtain rfl : cs11 = [(Value.string y8)] := he14
    refine ⟨_, ld0 (Sub.refl _) hc6 rfl, _, rfl, ?_⟩
    refine ⟨_, ld0 (Sub.refl _) hc13 rfl, _, rfl, ?_⟩
    obtain ⟨y15, g16, e⟩ := bind_e e
    refine (cmp_Less_211.walk (Hold.start (W := No) O.s)  g16).mono ?_
    rintro _ h17 ⟨m18, Q19, rfl⟩
    have O21 := Hold.nm (O.retC Q19 vfs_nil)
    refine ⟨_, rfl, ?_⟩
    refine split_not ?_
    refine split_any_e e (fun c22 e => ?_) (fun c22 e => ?_)
    · exact (ih _ _ e) (O21.pick [0]).nm rfl
    · exact (ih _ _ e) (O21.pick [0]).nm rfl
  · exact (ih _ _ e) (O.pick [0]).nm rfl
theorem sq210.l0_k.step_j2 (go : (p : sq210.l0_k.Pt) → Option (Bool × (List ByteArray))) (ih : ∀ p r, go p = some r → sq210.l0_k.I p r) (a_0 x_1 x_2 x_7 x_8) (r) (e : sq210.l0_k.body go (.j2 a_0 x_1 x_2 x_7 x_8) = some r) : sq210.l0_k.I (.j2 a_0 x_1 x_2 x_7 x_8) r := by
  unfold sq210.l0_k.body at e
  intro W h0 m0 h m A_0 n_0 c_0 O ne_0
  subst ne_0
  refine f210.j2_in ?_
  unfold f210.j2T
  exact (ih _ _ e) (O.pick [0]).nm rfl
set_option maxHeartbeats 4000000 in
theorem sq210.l0_k.step_j1 (go : (p : sq210.l0_k.Pt) → Option (Bool × (List ByteArray))) (ih : ∀ p r, go p = some r → sq210.l0_k.I p r) (a_0 x_1 x_2 x_7 x_8) (r) (e : sq210.l0_k.body go (.j1 a_0 x_1 x_2 x_7 x_8) = some r) : sq210.l0_k.I (.j1 a_0 x_1 x_2 x_7 x_8) r := by
  unfold sq210.l0_k.body at e
  intro W h0 m0 h m A_0 n_0 c_0 O ne_0
  subst ne_0
  refine f210.j1_in ?_
  unfold f210.j1T
  refine split_eq_e e (fun c41 e => ?_) (fun c41 e => ?_)
  · cases e
    exact ⟨_, O.pick [0], rfl, rfl⟩
  · refine split_dec_e e (fun c40 e => ?_) (fun c40 e => ?_)
    · cases e
      exact ⟨_, O.pick [0], rfl, rfl⟩
    · obtain ⟨y1, g2, e⟩ := bind_e e
      refine (O.os 0 rfl).addr rfl g2 fun a3 cs4 ha5 hc6 he7 => ?_
      obtain rfl : cs4 = [(Value.string y1)] := he7
      obtain ⟨y8, g9, e⟩ := bind_e e
      refine (O.os 0 rfl).addr rfl g9 fun a10 cs11 ha12 hc13 he14 => ?_
      obtain rfl : cs11 = [(Value.string y8)] := he14
      refine ⟨_, ld0 (Sub.refl _) hc6 rfl, _, rfl, ?_⟩
      refine ⟨_, ld0 (Sub.refl _) hc13 rfl, _, rfl, ?_⟩
      obtain ⟨y15, g16, e⟩ := bind_e e
      refine (O.os 0 rfl).addr rfl g16 fun a17 cs18 ha19 hc20 he21 => ?_
      obtain rfl : cs18 = [(Value.string y15)] := he21
      obtain ⟨l24, g25, e⟩ := bind_e e
      replace g25 := Option.some.inj g25
      refine O.elst0 0 rfl g16 ha19 hc20 (by decide) (y' := y1) rfl trivial g25 fun h22 O23 => ?_
      obtain ⟨y26, g27, e⟩ := bind_e e
      refine (O23.os 0 rfl).addr (lset' g25) g27 fun a28 cs29 ha30 hc31 he32 => ?_
      obtain rfl : cs29 = [(Value.string y26)] := he32
      obtain ⟨l35, g36, e⟩ := bind_e e
      replace g36 := Option.some.inj g36
      refine O23.elst0 0 rfl g27 ha30 hc31 (by decide) (y' := y8) rfl trivial g36 fun h33 O34 => ?_
      refine split_dec_e e (fun c39 e => ?_) (fun c39 e => ?_)
      · have O37 := O34.nm
        exact (ih _ _ e) (O37.pick [0]).nm ((lset' g25).trans (lset' g36))
      · have O38 := O34.nm
        exact (ih _ _ e) (O38.pick [0]).nm ((lset' g25).trans (lset' g36))
set_option maxHeartbeats 4000000 in
theorem sq210.l0_k.step_l2 (go : (p : sq210.l0_k.Pt) → Option (Bool × (List ByteArray))) (ih : ∀ p r, go p = some r → sq210.l0_k.I p r) (a_0 x_1 x_2 x_7 x_8 x_9) (r) (e : sq210.l0_k.body go (.l2 a_0 x_1 x_2 x_7 x_8 x_9) = some r) : sq210.l0_k.I (.l2 a_0 x_1 x_2 x_7 x_8 x_9) r := by
  unfold sq210.l0_k.body at e
  intro W h0 m0 h m A_0 n_0 c_0 O ne_0
  subst ne_0
  refine f210.l2_in ?_
  unfold f210.l2T
  refine split_dec_e e (fun c60 e => ?_) (fun c60 e => ?_)
  · obtain ⟨y1, g2, e⟩ := bind_e e
    refine (O.os 0 rfl).addr rfl g2 fun a3 cs4 ha5 hc6 he7 => ?_
    obtain rfl : cs4 = [(Value.string y1)] := he7
    obtain ⟨y8, g9, e⟩ := bind_e e
    refine (O.os 0 rfl).addr rfl g9 fun a10 cs11 ha12 hc13 he14 => ?_
    obtain rfl : cs11 = [(Value.string y8)] := he14
    refine ⟨_, ld0 (Sub.refl _) hc6 rfl, _, rfl, ?_⟩
    refine ⟨_, ld0 (Sub.refl _) hc13 rfl, _, rfl, ?_⟩
    obtain ⟨y15, g16, e⟩ := bind_e e
    refine (cmp_Less_211.walk (Hold.start (W := No) O.s)  g16).mono ?_
    rintro _ h17 ⟨m18, Q19, rfl⟩
    have O21 := Hold.nm (O.retC Q19 vfs_nil)
    refine ⟨_, rfl, ?_⟩
    refine split_not ?_
    refine split_any_e e (fun c59 e => ?_) (fun c59 e => ?_)
    · obtain ⟨y22, g23, e⟩ := bind_e e
      refine (O21.os 0 rfl).addr rfl g23 fun a24 cs25 ha26 hc27 he28 => ?_
      obtain rfl : cs25 = [(Value.string y22)] := he28
      obtain ⟨y29, g30, e⟩ := bind_e e
      refine (O21.os 0 rfl).addr rfl g30 fun a31 cs32 ha33 hc34 he35 => ?_
      obtain rfl : cs32 = [(Value.string y29)] := he35
      refine ⟨_, ld0 (Sub.refl _) hc27 rfl, _, rfl, ?_⟩
      refine ⟨_, ld0 (Sub.refl _) hc34 rfl, _, rfl, ?_⟩
      obtain ⟨y36, g37, e⟩ := bind_e e
      refine (O21.os 0 rfl).addr rfl g37 fun a38 cs39 ha40 hc41 he42 => ?_
      obtain rfl : cs39 = [(Value.string y36)] := he42
      obtain ⟨l45, g46, e⟩ := bind_e e
      replace g46 := Option.some.inj g46
      refine O21.elst0 0 rfl g37 ha40 hc41 (by decide) (y' := y22) rfl trivial g46 fun h43 O44 => ?_
      obtain ⟨y47, g48, e⟩ := bind_e e
      refine (O44.os 0 rfl).addr (lset' g46) g48 fun a49 cs50 ha51 hc52 he53 => ?_
      obtain rfl : cs50 = [(Value.string y47)] := he53
      obtain ⟨l56, g57, e⟩ := bind_e e
      replace g57 := Option.some.inj g57
      refine O44.elst0 0 rfl g48 ha51 hc52 (by decide) (y' := y29) rfl trivial g57 fun h54 O55 => ?_
      have O58 := O55.nm
      exact (ih _ _ e) (O58.pick [0]).nm ((lset' g46).trans (lset' g57))
    · exact (ih _ _ e) (O21.pick [0]).nm rfl
  · exact (ih _ _ e) (O.pick [0]).nm rfl
theorem sq210.l0_k.step_j3 (go : (p : sq210.l0_k.Pt) → Option (Bool × (List ByteArray))) (ih : ∀ p r, go p = some r → sq210.l0_k.I p r) (a_0 x_1 x_2 x_7 x_8) (r) (e : sq210.l0_k.body go (.j3 a_0 x_1 x_2 x_7 x_8) = some r) : sq210.l0_k.I (.j3 a_0 x_1 x_2 x_7 x_8) r := by
  unfold sq210.l0_k.body at e
  intro W h0 m0 h m A_0 n_0 c_0 O ne_0
  subst ne_0
  refine f210.j3_in ?_
  unfold f210.j3T
  refine split_dec_e e (fun c1 e => ?_) (fun c1 e => ?_)
  · exact (ih _ _ e) (O.pick [0]).nm rfl
  · exact (ih _ _ e) (O.pick [0]).nm rfl
set_option maxHeartbeats 4000000 in
theorem sq210.l0_k.step_l3 (go : (p : sq210.l0_k.Pt) → Option (Bool × (List ByteArray))) (ih : ∀ p r, go p = some r → sq210.l0_k.I p r) (a_0 x_1 x_2 x_7 x_8 x_10) (r) (e : sq210.l0_k.body go (.l3 a_0 x_1 x_2 x_7 x_8 x_10) = some r) : sq210.l0_k.I (.l3 a_0 x_1 x_2 x_7 x_8 x_10) r := by
  unfold sq210.l0_k.body at e
  intro W h0 m0 h m A_0 n_0 c_0 O ne_0
  subst ne_0
  refine f210.l3_in ?_
  unfold f210.l3T
  refine split_dec_e e (fun c60 e => ?_) (fun c60 e => ?_)
  · obtain ⟨y1, g2, e⟩ := bind_e e
    refine (O.os 0 rfl).addr rfl g2 fun a3 cs4 ha5 hc6 he7 => ?_
    obtain rfl : cs4 = [(Value.string y1)] := he7
    obtain ⟨y8, g9, e⟩ := bind_e e
    refine (O.os 0 rfl).addr rfl g9 fun a10 cs11 ha12 hc13 he14 => ?_
    obtain rfl : cs11 = [(Value.string y8)] := he14
    refine ⟨_, ld0 (Sub.refl _) hc6 rfl, _, rfl, ?_⟩
    refine ⟨_, ld0 (Sub.refl _) hc13 rfl, _, rfl, ?_⟩
    obtain ⟨y15, g16, e⟩ := bind_e e
    refine (cmp_Less_211.walk (Hold.start (W := No) O.s)  g16).mono ?_
    rintro _ h17 ⟨m18, Q19, rfl⟩
    have O21 := Hold.nm (O.retC Q19 vfs_nil)
    refine ⟨_, rfl, ?_⟩
    refine split_not ?_
    refine split_any_e e (fun c59 e => ?_) (fun c59 e => ?_)
    · obtain ⟨y22, g23, e⟩ := bind_e e
      refine (O21.os 0 rfl).addr rfl g23 fun a24 cs25 ha26 hc27 he28 => ?_
      obtain rfl : cs25 = [(Value.string y22)] := he28
      obtain ⟨y29, g30, e⟩ := bind_e e
      refine (O21.os 0 rfl).addr rfl g30 fun a31 cs32 ha33 hc34 he35 => ?_
      obtain rfl : cs32 = [(Value.string y29)] := he35
      refine ⟨_, ld0 (Sub.refl _) hc27 rfl, _, rfl, ?_⟩
      refine ⟨_, ld0 (Sub.refl _) hc34 rfl, _, rfl, ?_⟩
      obtain ⟨y36, g37, e⟩ := bind_e e
      refine (O21.os 0 rfl).addr rfl g37 fun a38 cs39 ha40 hc41 he42 => ?_
      obtain rfl : cs39 = [(Value.string y36)] := he42
      obtain ⟨l45, g46, e⟩ := bind_e e
      replace g46 := Option.some.inj g46
      refine O21.elst0 0 rfl g37 ha40 hc41 (by decide) (y' := y22) rfl trivial g46 fun h43 O44 => ?_
      obtain ⟨y47, g48, e⟩ := bind_e e
      refine (O44.os 0 rfl).addr (lset' g46) g48 fun a49 cs50 ha51 hc52 he53 => ?_
      obtain rfl : cs50 = [(Value.string y47)] := he53
      obtain ⟨l56, g57, e⟩ := bind_e e
      replace g57 := Option.some.inj g57
      refine O44.elst0 0 rfl g48 ha51 hc52 (by decide) (y' := y29) rfl trivial g57 fun h54 O55 => ?_
      have O58 := O55.nm
      exact (ih _ _ e) (O58.pick [0]).nm ((lset' g46).trans (lset' g57))
    · exact (ih _ _ e) (O21.pick [0]).nm rfl
  · exact (ih _ _ e) (O.pick [0]).nm rfl
theorem sq210.l0_k.step_j0 (go : (p : sq210.l0_k.Pt) → Option (Bool × (List ByteArray))) (ih : ∀ p r, go p = some r → sq210.l0_k.I p r) (a_0 x_1 x_2 x_7 x_8) (r) (e : sq210.l0_k.body go (.j0 a_0 x_1 x_2 x_7 x_8) = some r) : sq210.l0_k.I (.j0 a_0 x_1 x_2 x_7 x_8) r := by
  unfold sq210.l0_k.body at e
  intro W h0 m0 h m A_0 n_0 c_0 O ne_0
  subst ne_0
  refine f210.j0_in ?_
  unfold f210.j0T
  exact (ih _ _ e) (O.pick [0]).nm rfl
theorem sq210.l0_k.all {p : sq210.l0_k.Pt} {r : (Bool × (List ByteArray))} (e : sq210.l0_k.go p = some r) : sq210.l0_k.I p r := fixF_ind (β := fun _ => (Bool × (List ByteArray))) sq210.l0_k.mono (I := sq210.l0_k.I) (fun go ih p r e => match p with
  | .l0 a_0 x_1 x_2 x_7 x_8 => sq210.l0_k.step_l0 go ih a_0 x_1 x_2 x_7 x_8 r e
  | .l1 a_0 x_1 x_2 x_7 x_8 => sq210.l0_k.step_l1 go ih a_0 x_1 x_2 x_7 x_8 r e
  | .j2 a_0 x_1 x_2 x_7 x_8 => sq210.l0_k.step_j2 go ih a_0 x_1 x_2 x_7 x_8 r e
  | .j1 a_0 x_1 x_2 x_7 x_8 => sq210.l0_k.step_j1 go ih a_0 x_1 x_2 x_7 x_8 r e
  | .l2 a_0 x_1 x_2 x_7 x_8 x_9 => sq210.l0_k.step_l2 go ih a_0 x_1 x_2 x_7 x_8 x_9 r e
  | .j3 a_0 x_1 x_2 x_7 x_8 => sq210.l0_k.step_j3 go ih a_0 x_1 x_2 x_7 x_8 r e
  | .l3 a_0 x_1 x_2 x_7 x_8 x_10 => sq210.l0_k.step_l3 go ih a_0 x_1 x_2 x_7 x_8 x_10 r e
  | .j0 a_0 x_1 x_2 x_7 x_8 => sq210.l0_k.step_j0 go ih a_0 x_1 x_2 x_7 x_8 r e
  ) e
noncomputable def sq210 (a_0 : List ByteArray) (x_1 : Int) (x_2 : Int) : Option (Bool × (List ByteArray)) :=
  (sq210.l0 a_0 x_1 x_2 (IntKind.wrap .i64 (x_1 + (1 : Int))) (0 : Int))
theorem sq210.walk {W h m A_0 n_0 c_0 a_0 x_1 x_2} (O : Hold W h m h m [rR (aE tell_str) A_0 c_0 a_0]) (ne_0 : n_0 = List.length a_0) {r} (e : sq210 a_0 x_1 x_2 = some r) : Run Try.prog 210 #[Value.slice A_0 n_0 c_0, Value.int .i64 x_1, Value.int .i64 x_2] h (sq210.post W A_0 n_0 c_0 h m r) := by
  unfold sq210 at e
  subst ne_0
  refine f210.run ?_
  unfold f210.runT
  exact (sq210.l0_k.all e) (O.pick [0]).nm rfl
end Go.Proofs.Ytmcfmmoaofileaa.Fw

end
