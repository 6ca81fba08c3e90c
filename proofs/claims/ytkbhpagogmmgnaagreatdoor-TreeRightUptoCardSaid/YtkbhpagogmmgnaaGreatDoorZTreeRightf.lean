/- Part 6: what the law TreeRight needs, put together out of texts of this session. -/
import Derived.Test.YtkbhpagogmmgnaaGreatDoorZTreeRighte
section
namespace Go.Proofs.YtkbhpagogmmgnaaGreatDoor.Fw
open Go Go.Hw Go.Proofs
set_option linter.unusedVariables false
set_option maxRecDepth 100000
set_option synthInstance.maxHeartbeats 400000
set_option synthInstance.maxSize 1000
def rj_pat.post (W : Nat → Prop) (bkio0 : Nat) (h0 m0 : Heap) (r : T_jd) (v : Value) (h : Heap) : Prop := ∃ m csio0, Hold W h0 m0 h m [rV bkio0 57 csio0] ∧ v = .tuple #[] ∧ T_jd.E m r csio0
inductive rj_pat_k.Pt where
 | f (y_0 : T_jd) (y_1 : T_Pat)
 | j0 (y_io0 : T_jd) (y_3 : T_Pat)
 | j1 (y_io0 : T_jd) (y_3 : T_Pat) (b_5 : Bool)
 | j2 (y_io0 : T_jd) (y_3 : T_Pat)
 | l0 (y_io0 : T_jd) (a_95 : List T_Pat) (x_96 : Int) (x_97 : Int)
noncomputable def rj_pat_k.body (go : (p : rj_pat_k.Pt) → Option (T_jd)) : (p : rj_pat_k.Pt) → Option (T_jd)
 | .f y_0 y_1 => if y_1.Kind = (5 : Int) then (Option.bind (rj_few y_0 (decide (((ByteArray.size y_1.Text : Nat) : Int) ≤ (64 : Int)))) fun y20 => (go (.j0 y20 y_1))) else (Option.bind (rj_few y_0 true) fun y5 => (go (.j0 y5 y_1)))
 | .j0 y_io0 y_3 => if y_3.Kind = (1 : Int) then (if y_3.Num = (0 : Int) then ((go (.j1 y_io0 y_3 (decide (y_3.Text = (ByteArray.mk #[])))))) else ((go (.j1 y_io0 y_3 false)))) else (if y_3.Kind = (2 : Int) then (if y_3.Num = (0 : Int) then (Option.bind (r2_Small y_3.Text) fun y2 => (go (.j1 y_io0 y_3 y2))) else ((go (.j1 y_io0 y_3 false)))) else (if y_3.Kind = (3 : Int) then ((go (.j1 y_io0 y_3 (decide (y_3.Text = (ByteArray.mk #[])))))) else (if y_3.Kind = (4 : Int) then (if y_3.Num = (0 : Int) then ((go (.j1 y_io0 y_3 (decide (y_3.Text = (ByteArray.mk #[])))))) else (if y_3.Num = (1 : Int) then ((go (.j1 y_io0 y_3 (decide (y_3.Text = (ByteArray.mk #[])))))) else ((go (.j1 y_io0 y_3 false))))) else (if y_3.Kind = (5 : Int) then ((go (.j1 y_io0 y_3 (y_3.Num == (0 : Int))))) else (if y_3.Kind = (6 : Int) then (if y_3.Num = (0 : Int) then (Option.bind (r2_Great y_3.Text) fun y12 => (go (.j1 y_io0 y_3 y12))) else ((go (.j1 y_io0 y_3 false)))) else ((go (.j1 y_io0 y_3 false))))))))
 | .j1 y_io0 y_3 b_5 => if b_5 = true then (if y_3.Kind = (6 : Int) then (Option.bind (rj_form y_io0 true) fun y1 => (go (.j2 y1 y_3))) else (Option.bind (rj_form y_io0 ((((List.length y_3.Args) : Nat) : Int) == (0 : Int))) fun y20 => (go (.j2 y20 y_3)))) else (Option.bind (rj_form y_io0 false) fun y35 => (go (.j2 y35 y_3)))
 | .j2 y_io0 y_3 => Option.bind (rj_few y_io0 (decide ((((List.length y_3.Args) : Nat) : Int) ≤ (6 : Int)))) fun y6 => if y6.e_ = (0 : Int) then ((go (.l0 y6 y_3.Args (((List.length y_3.Args) : Nat) : Int) (0 : Int)))) else (some (y6))
 | .l0 y_io0 a_95 x_96 x_97 => if x_97 < x_96 then (Option.bind (gi a_95 x_97) fun y1 => Option.bind ((go (.f y_io0 y1))) fun y14 => (go (.l0 y14 a_95 x_96 (IntKind.wrap .i64 (x_97 + (1 : Int)))))) else (some (y_io0))
theorem rj_pat_k.mono : MonoF (β := fun _ => (T_jd)) rj_pat_k.body := fun f g hfg p => match p with
 | .f y_0 y_1 => LeO.ite (LeO.bind (LeO.refl _) fun y20 => (hfg _)) (LeO.bind (LeO.refl _) fun y5 => (hfg _))
 | .j0 y_io0 y_3 => LeO.ite (LeO.ite ((hfg _)) ((hfg _))) (LeO.ite (LeO.ite (LeO.bind (LeO.refl _) fun y2 => (hfg _)) ((hfg _))) (LeO.ite ((hfg _)) (LeO.ite (LeO.ite ((hfg _)) (LeO.ite ((hfg _)) ((hfg _)))) (LeO.ite ((hfg _)) (LeO.ite (LeO.ite (LeO.bind (LeO.refl _) fun y12 => (hfg _)) ((hfg _))) ((hfg _)))))))
 | .j1 y_io0 y_3 b_5 => LeO.ite (LeO.ite (LeO.bind (LeO.refl _) fun y1 => (hfg _)) (LeO.bind (LeO.refl _) fun y20 => (hfg _))) (LeO.bind (LeO.refl _) fun y35 => (hfg _))
 | .j2 y_io0 y_3 => LeO.bind (LeO.refl _) fun y6 => LeO.ite ((hfg _)) (LeO.refl _)
 | .l0 y_io0 a_95 x_96 x_97 => LeO.ite (LeO.bind (LeO.refl _) fun y1 => LeO.bind ((hfg _)) fun y14 => (hfg _)) (LeO.refl _)
noncomputable def rj_pat_k.go (p : rj_pat_k.Pt) : Option (T_jd) := fixF (β := fun _ => (T_jd)) rj_pat_k.body p
noncomputable def rj_pat (y_0 y_1) := rj_pat_k.go (.f y_0 y_1)
noncomputable def rj_pat.j0 (y_io0 y_3) := rj_pat_k.go (.j0 y_io0 y_3)
noncomputable def rj_pat.j1 (y_io0 y_3 b_5) := rj_pat_k.go (.j1 y_io0 y_3 b_5)
noncomputable def rj_pat.j2 (y_io0 y_3) := rj_pat_k.go (.j2 y_io0 y_3)
noncomputable def rj_pat.l0 (y_io0 a_95 x_96 x_97) := rj_pat_k.go (.l0 y_io0 a_95 x_96 x_97)
theorem rj_pat_eq (y_0 y_1) : rj_pat y_0 y_1 = if y_1.Kind = (5 : Int) then (Option.bind (rj_few y_0 (decide (((ByteArray.size y_1.Text : Nat) : Int) ≤ (64 : Int)))) fun y20 => (rj_pat.j0 y20 y_1)) else (Option.bind (rj_few y_0 true) fun y5 => (rj_pat.j0 y5 y_1)) := fixF_eq rj_pat_k.mono _
theorem rj_pat.j0_eq (y_io0 y_3) : rj_pat.j0 y_io0 y_3 = if y_3.Kind = (1 : Int) then (if y_3.Num = (0 : Int) then ((rj_pat.j1 y_io0 y_3 (decide (y_3.Text = (ByteArray.mk #[]))))) else ((rj_pat.j1 y_io0 y_3 false))) else (if y_3.Kind = (2 : Int) then (if y_3.Num = (0 : Int) then (Option.bind (r2_Small y_3.Text) fun y2 => (rj_pat.j1 y_io0 y_3 y2)) else ((rj_pat.j1 y_io0 y_3 false))) else (if y_3.Kind = (3 : Int) then ((rj_pat.j1 y_io0 y_3 (decide (y_3.Text = (ByteArray.mk #[]))))) else (if y_3.Kind = (4 : Int) then (if y_3.Num = (0 : Int) then ((rj_pat.j1 y_io0 y_3 (decide (y_3.Text = (ByteArray.mk #[]))))) else (if y_3.Num = (1 : Int) then ((rj_pat.j1 y_io0 y_3 (decide (y_3.Text = (ByteArray.mk #[]))))) else ((rj_pat.j1 y_io0 y_3 false)))) else (if y_3.Kind = (5 : Int) then ((rj_pat.j1 y_io0 y_3 (y_3.Num == (0 : Int)))) else (if y_3.Kind = (6 : Int) then (if y_3.Num = (0 : Int) then (Option.bind (r2_Great y_3.Text) fun y12 => (rj_pat.j1 y_io0 y_3 y12)) else ((rj_pat.j1 y_io0 y_3 false))) else ((rj_pat.j1 y_io0 y_3 false))))))) := fixF_eq rj_pat_k.mono _
theorem rj_pat.j1_eq (y_io0 y_3 b_5) : rj_pat.j1 y_io0 y_3 b_5 = if b_5 = true then (if y_3.Kind = (6 : Int) then (Option.bind (rj_form y_io0 true) fun y1 => (rj_pat.j2 y1 y_3)) else (Option.bind (rj_form y_io0 ((((List.length y_3.Args) : Nat) : Int) == (0 : Int))) fun y20 => (rj_pat.j2 y20 y_3))) else (Option.bind (rj_form y_io0 false) fun y35 => (rj_pat.j2 y35 y_3)) := fixF_eq rj_pat_k.mono _
theorem rj_pat.j2_eq (y_io0 y_3) : rj_pat.j2 y_io0 y_3 = Option.bind (rj_few y_io0 (decide ((((List.length y_3.Args) : Nat) : Int) ≤ (6 : Int)))) fun y6 => if y6.e_ = (0 : Int) then ((rj_pat.l0 y6 y_3.Args (((List.length y_3.Args) : Nat) : Int) (0 : Int))) else (some (y6)) := fixF_eq rj_pat_k.mono _
theorem rj_pat.l0_eq (y_io0 a_95 x_96 x_97) : rj_pat.l0 y_io0 a_95 x_96 x_97 = if x_97 < x_96 then (Option.bind (gi a_95 x_97) fun y1 => Option.bind ((rj_pat y_io0 y1)) fun y14 => (rj_pat.l0 y14 a_95 x_96 (IntKind.wrap .i64 (x_97 + (1 : Int))))) else (some (y_io0)) := fixF_eq rj_pat_k.mono _
def rj_pat_k.I : (p : rj_pat_k.Pt) → (T_jd) → Prop
 | .f y_0 y_1, r => ∀ {W h m bkio0 cs_0 cs_1} (O : Hold W h m h m [rV bkio0 57 cs_0]) (e_0 : T_jd.E m y_0 cs_0) (e_1 : T_Pat.E m y_1 cs_1) (tab : TB m), Run Tryz.prog 66 #[Value.pointer (some ⟨bkio0, 0, none⟩), Value.agg cs_1.toArray] h (rj_pat.post W bkio0 h m r)
 | .j0 y_io0 y_3, r => ∀ {W h0 m0 h m bk_io0 cs_io0 bk_3 cs_3} (O : Hold W h0 m0 h m [rV bk_io0 57 cs_io0, rV bk_3 95 cs_3]) (e_io0 : T_jd.E m y_io0 cs_io0) (e_3 : T_Pat.E m y_3 cs_3) (tab : TB m), f66.j0 (rj_pat.post W bk_io0 h0 m0 r) (⟨bk_io0, 0, none⟩ : Addr) (⟨bk_3, 0, none⟩ : Addr) h
 | .j1 y_io0 y_3 b_5, r => ∀ {W h0 m0 h m bk_io0 cs_io0 bk_3 cs_3} (O : Hold W h0 m0 h m [rV bk_io0 57 cs_io0, rV bk_3 95 cs_3]) (e_io0 : T_jd.E m y_io0 cs_io0) (e_3 : T_Pat.E m y_3 cs_3) (tab : TB m), f66.j1 (rj_pat.post W bk_io0 h0 m0 r) (⟨bk_io0, 0, none⟩ : Addr) (⟨bk_3, 0, none⟩ : Addr) b_5 h
 | .j2 y_io0 y_3, r => ∀ {W h0 m0 h m bk_io0 cs_io0 bk_3 cs_3} (O : Hold W h0 m0 h m [rV bk_io0 57 cs_io0, rV bk_3 95 cs_3]) (e_io0 : T_jd.E m y_io0 cs_io0) (e_3 : T_Pat.E m y_3 cs_3) (tab : TB m), f66.j2 (rj_pat.post W bk_io0 h0 m0 r) (⟨bk_io0, 0, none⟩ : Addr) (⟨bk_3, 0, none⟩ : Addr) h
 | .l0 y_io0 a_95 x_96 x_97, r => ∀ {W h0 m0 h m bk_io0 cs_io0 A_95 n_95 c_95} (O : Hold W h0 m0 h m [rV bk_io0 57 cs_io0]) (e_io0 : T_jd.E m y_io0 cs_io0) (ne_95 : n_95 = List.length a_95) (k_95 : List.length a_95 ≤ c_95) (r_95 : Rd 4 T_Pat.E m A_95 a_95) (tab : TB m), f66.l0 (rj_pat.post W bk_io0 h0 m0 r) (⟨bk_io0, 0, none⟩ : Addr) A_95 n_95 c_95 x_96 x_97 h
theorem rj_pat_k.step_f (go : (p : rj_pat_k.Pt) → Option (T_jd)) (ih : ∀ p r, go p = some r → rj_pat_k.I p r) (y_0 y_1) (r) (e : rj_pat_k.body go (.f y_0 y_1) = some r) : rj_pat_k.I (.f y_0 y_1) r := by
 unfold rj_pat_k.body at e
 intro W h m bkio0 cs_0 cs_1 O e_0 e_1 tab
 refine f66.run ?_
 unfold f66.runT
 refine O.new fun h1 x2 O3 => ?_
 refine ⟨_, ld0 (Sub.refl _) (O3.all 1 rfl) (T_Pat.g0 e_1), _, rfl, ?_⟩
 refine split_ne_e e (fun c35 e => ?_) (fun c35 e => ?_)
 · obtain ⟨y5, g6, e⟩ := bind_e e
   have O11 := O3.nm
   obtain ⟨W12, P13, B14, C15⟩ := O11.callC [0]
   refine (rj_few.walk P13 e_0 g6).mono ?_
   rintro _ h7 ⟨m8, cs17, Q9, rfl, he18⟩
   replace he18 : T_jd.E m y5 cs17 := T_jd.keep he18
   have O19 := Hold.nm (C15 Q9 (vfs_cons rV_vf vfs_nil))
   refine ⟨rfl, ?_⟩
   exact (ih _ _ e) (O19.pick [2, 1]).nm he18 e_1 tab
 · refine ⟨_, ldk (k := 2) (Sub.refl _) (O3.all 1 rfl) (T_Pat.g2 e_1), _, rfl, ?_⟩
   obtain ⟨y20, g21, e⟩ := bind_e e
   have O26 := O3.nm
   obtain ⟨W27, P28, B29, C30⟩ := O26.callC [0]
   refine (rj_few.walk P28 e_0 g21).mono ?_
   rintro _ h22 ⟨m23, cs32, Q24, rfl, he33⟩
   replace he33 : T_jd.E m y20 cs32 := T_jd.keep he33
   have O34 := Hold.nm (C30 Q24 (vfs_cons rV_vf vfs_nil))
   refine ⟨rfl, ?_⟩
   exact (ih _ _ e) (O34.pick [2, 1]).nm he33 e_1 tab
set_option maxHeartbeats 4000000 in
theorem rj_pat_k.step_j0 (go : (p : rj_pat_k.Pt) → Option (T_jd)) (ih : ∀ p r, go p = some r → rj_pat_k.I p r) (y_io0 y_3) (r) (e : rj_pat_k.body go (.j0 y_io0 y_3) = some r) : rj_pat_k.I (.j0 y_io0 y_3) r := by
 unfold rj_pat_k.body at e
 intro W h0 m0 h m bk_io0 cs_io0 bk_3 cs_3 O e_io0 e_3 tab
 refine f66.j0_in ?_
 unfold f66.j0T
 refine ⟨_, ldk (k := 1) (Sub.refl _) (O.all 1 rfl) (T_Pat.g1 e_3), _, rfl, ?_⟩
 refine ⟨_, ld0 (Sub.refl _) (O.all 1 rfl) (T_Pat.g0 e_3), _, rfl, ?_⟩
 refine split_eq_e e (fun c25 e => ?_) (fun c25 e => ?_)
 · refine split_eq_e e (fun c1 e => ?_) (fun c1 e => ?_)
   · refine ⟨_, ldk (k := 2) (Sub.refl _) (O.all 1 rfl) (T_Pat.g2 e_3), _, rfl, ?_⟩
     try rw [ba_list y_3.Text (ByteArray.mk #[])]
     exact (ih _ _ e) (O.pick [0, 1]).nm e_io0 e_3 tab
   · exact (ih _ _ e) (O.pick [0, 1]).nm e_io0 e_3 tab
 · refine split_eq_e e (fun c24 e => ?_) (fun c24 e => ?_)
   · refine split_eq_e e (fun c9 e => ?_) (fun c9 e => ?_)
     · refine ⟨_, ldk (k := 2) (Sub.refl _) (O.all 1 rfl) (T_Pat.g2 e_3), _, rfl, ?_⟩
       obtain ⟨y2, g3, e⟩ := bind_e e
       refine (r2_Small.walk (Hold.start (W := No) O.s) tab g3).mono ?_
       rintro _ h4 ⟨m5, Q6, rfl⟩
       have O8 := Hold.nm (O.retC Q6 vfs_nil)
       refine ⟨_, rfl, ?_⟩
       exact (ih _ _ e) (O8.pick [0, 1]).nm e_io0 e_3 tab
     · exact (ih _ _ e) (O.pick [0, 1]).nm e_io0 e_3 tab
   · refine split_eq_e e (fun c23 e => ?_) (fun c23 e => ?_)
     · refine ⟨_, ldk (k := 2) (Sub.refl _) (O.all 1 rfl) (T_Pat.g2 e_3), _, rfl, ?_⟩
       try rw [ba_list y_3.Text (ByteArray.mk #[])]
       exact (ih _ _ e) (O.pick [0, 1]).nm e_io0 e_3 tab
     · refine split_eq_e e (fun c22 e => ?_) (fun c22 e => ?_)
       · refine split_eq_e e (fun c11 e => ?_) (fun c11 e => ?_)
         · refine ⟨_, ldk (k := 2) (Sub.refl _) (O.all 1 rfl) (T_Pat.g2 e_3), _, rfl, ?_⟩
           try rw [ba_list y_3.Text (ByteArray.mk #[])]
           exact (ih _ _ e) (O.pick [0, 1]).nm e_io0 e_3 tab
         · refine ⟨_, ldk (k := 1) (Sub.refl _) (O.all 1 rfl) (T_Pat.g1 e_3), _, rfl, ?_⟩
           refine split_eq_e e (fun c10 e => ?_) (fun c10 e => ?_)
           · refine ⟨_, ldk (k := 2) (Sub.refl _) (O.all 1 rfl) (T_Pat.g2 e_3), _, rfl, ?_⟩
             try rw [ba_list y_3.Text (ByteArray.mk #[])]
             exact (ih _ _ e) (O.pick [0, 1]).nm e_io0 e_3 tab
           · exact (ih _ _ e) (O.pick [0, 1]).nm e_io0 e_3 tab
       · refine split_eq_e e (fun c21 e => ?_) (fun c21 e => ?_)
         · exact (ih _ _ e) (O.pick [0, 1]).nm e_io0 e_3 tab
         · refine split_eq_e e (fun c20 e => ?_) (fun c20 e => ?_)
           · refine split_eq_e e (fun c19 e => ?_) (fun c19 e => ?_)
             · refine ⟨_, ldk (k := 2) (Sub.refl _) (O.all 1 rfl) (T_Pat.g2 e_3), _, rfl, ?_⟩
               obtain ⟨y12, g13, e⟩ := bind_e e
               refine (r2_Great.walk (Hold.start (W := No) O.s)  g13).mono ?_
               rintro _ h14 ⟨m15, Q16, rfl⟩
               have O18 := Hold.nm (O.retC Q16 vfs_nil)
               refine ⟨_, rfl, ?_⟩
               exact (ih _ _ e) (O18.pick [0, 1]).nm e_io0 e_3 tab
             · exact (ih _ _ e) (O.pick [0, 1]).nm e_io0 e_3 tab
           · exact (ih _ _ e) (O.pick [0, 1]).nm e_io0 e_3 tab
theorem rj_pat_k.step_j1 (go : (p : rj_pat_k.Pt) → Option (T_jd)) (ih : ∀ p r, go p = some r → rj_pat_k.I p r) (y_io0 y_3 b_5) (r) (e : rj_pat_k.body go (.j1 y_io0 y_3 b_5) = some r) : rj_pat_k.I (.j1 y_io0 y_3 b_5) r := by
 unfold rj_pat_k.body at e
 intro W h0 m0 h m bk_io0 cs_io0 bk_3 cs_3 O e_io0 e_3 tab
 refine f66.j1_in ?_
 unfold f66.j1T
 refine split_any_e e (fun c49 e => ?_) (fun c49 e => ?_)
 · refine ⟨_, ld0 (Sub.refl _) (O.all 1 rfl) (T_Pat.g0 e_3), _, rfl, ?_⟩
   refine split_eq_e e (fun c34 e => ?_) (fun c34 e => ?_)
   · obtain ⟨y1, g2, e⟩ := bind_e e
     obtain ⟨W7, P8, B9, C10⟩ := O.callC [0]
     refine (rj_form.walk P8 e_io0 g2).mono ?_
     rintro _ h3 ⟨m4, cs12, Q5, rfl, he13⟩
     replace he13 : T_jd.E m y1 cs12 := T_jd.keep he13
     have O14 := Hold.nm (C10 Q5 (vfs_cons rV_vf vfs_nil))
     refine ⟨rfl, ?_⟩
     exact (ih _ _ e) (O14.pick [2, 1]).nm he13 e_3 tab
   · obtain ⟨A15, c16, q17, k18, r19⟩ := T_Pat.g3 e_3
     refine ⟨_, ldk (k := 3) (Sub.refl _) (O.all 1 rfl) q17, _, _, _, rfl, ?_⟩
     obtain ⟨y20, g21, e⟩ := bind_e e
     obtain ⟨W26, P27, B28, C29⟩ := O.callC [0]
     refine (rj_form.walk P27 e_io0 g21).mono ?_
     rintro _ h22 ⟨m23, cs31, Q24, rfl, he32⟩
     replace he32 : T_jd.E m y20 cs31 := T_jd.keep he32
     have O33 := Hold.nm (C29 Q24 (vfs_cons rV_vf vfs_nil))
     refine ⟨rfl, ?_⟩
     exact (ih _ _ e) (O33.pick [2, 1]).nm he32 e_3 tab
 · obtain ⟨y35, g36, e⟩ := bind_e e
   obtain ⟨W41, P42, B43, C44⟩ := O.callC [0]
   refine (rj_form.walk P42 e_io0 g36).mono ?_
   rintro _ h37 ⟨m38, cs46, Q39, rfl, he47⟩
   replace he47 : T_jd.E m y35 cs46 := T_jd.keep he47
   have O48 := Hold.nm (C44 Q39 (vfs_cons rV_vf vfs_nil))
   refine ⟨rfl, ?_⟩
   exact (ih _ _ e) (O48.pick [2, 1]).nm he47 e_3 tab
theorem rj_pat_k.step_j2 (go : (p : rj_pat_k.Pt) → Option (T_jd)) (ih : ∀ p r, go p = some r → rj_pat_k.I p r) (y_io0 y_3) (r) (e : rj_pat_k.body go (.j2 y_io0 y_3) = some r) : rj_pat_k.I (.j2 y_io0 y_3) r := by
 unfold rj_pat_k.body at e
 intro W h0 m0 h m bk_io0 cs_io0 bk_3 cs_3 O e_io0 e_3 tab
 refine f66.j2_in ?_
 unfold f66.j2T
 obtain ⟨A1, c2, q3, k4, r5⟩ := T_Pat.g3 e_3
 refine ⟨_, ldk (k := 3) (Sub.refl _) (O.all 1 rfl) q3, _, _, _, rfl, ?_⟩
 obtain ⟨y6, g7, e⟩ := bind_e e
 obtain ⟨W12, P13, B14, C15⟩ := O.callC [0]
 refine (rj_few.walk P13 e_io0 g7).mono ?_
 rintro _ h8 ⟨m9, cs17, Q10, rfl, he18⟩
 replace he18 : T_jd.E m y6 cs17 := T_jd.keep he18
 have O19 := Hold.nm (C15 Q10 (vfs_cons rV_vf vfs_nil))
 refine ⟨rfl, ?_⟩
 refine ⟨_, ld0 (Sub.refl _) (O19.all 2 rfl) (T_jd.g0 he18), _, rfl, ?_⟩
 refine split_ne_e e (fun c25 e => ?_) (fun c25 e => ?_)
 · cases e
   exact ⟨_, _, O19.pick [2], rfl, he18⟩
 · obtain ⟨A20, c21, q22, k23, r24⟩ := T_Pat.g3 e_3
   refine ⟨_, ldk (k := 3) (Sub.refl _) (O19.all 1 rfl) q22, _, _, _, rfl, ?_⟩
   exact (ih _ _ e) (O19.pick [2]).nm he18 rfl k23 r24 tab
theorem rj_pat_k.step_l0 (go : (p : rj_pat_k.Pt) → Option (T_jd)) (ih : ∀ p r, go p = some r → rj_pat_k.I p r) (y_io0 a_95 x_96 x_97) (r) (e : rj_pat_k.body go (.l0 y_io0 a_95 x_96 x_97) = some r) : rj_pat_k.I (.l0 y_io0 a_95 x_96 x_97) r := by
 unfold rj_pat_k.body at e
 intro W h0 m0 h m bk_io0 cs_io0 A_95 n_95 c_95 O e_io0 ne_95 k_95 r_95 tab
 subst ne_95
 refine f66.l0_in ?_
 unfold f66.l0T
 refine split_dec_e e (fun c29 e => ?_) (fun c29 e => ?_)
 · obtain ⟨y1, g2, e⟩ := bind_e e
   refine r_95.addr rfl g2 fun a3 cs4 ha5 hc6 he7 => ?_
   refine ⟨_, ldAn O.s hc6 rfl, ?_⟩
   refine O.new fun h8 x9 O10 => ?_
   refine ⟨_, rfl, (T_Pat.T.len _ _ _ he7), ?_⟩
   refine O10.stA 1 rfl (T_Pat.T.len _ _ _ he7) (T_Pat.T.flat _ _ _ he7) fun h12 O13 => ?_
   refine ⟨_, ldAn (Sub.refl _) (O13.all 1 rfl) (T_Pat.T.len _ _ _ he7), ?_⟩
   obtain ⟨y14, g15, e⟩ := bind_e e
   have O20 := O13.nm
   obtain ⟨W21, P22, B23, C24⟩ := O20.callC [0]
   refine ((ih _ _ g15) P22 e_io0 he7 tab).mono ?_
   rintro _ h16 ⟨m17, cs26, Q18, rfl, he27⟩
   replace he27 : T_jd.E m y14 cs26 := T_jd.keep he27
   have O28 := Hold.nm (C24 Q18 (vfs_cons rV_vf vfs_nil))
   refine ⟨rfl, ?_⟩
   exact (ih _ _ e) (O28.pick [2]).nm he27 rfl k_95 r_95 tab
 · cases e
   exact ⟨_, _, O.pick [0], rfl, e_io0⟩
theorem rj_pat_k.all {p : rj_pat_k.Pt} {r : (T_jd)} (e : rj_pat_k.go p = some r) : rj_pat_k.I p r := fixF_ind (β := fun _ => (T_jd)) rj_pat_k.mono (I := rj_pat_k.I) (fun go ih p r e => match p with
 | .f y_0 y_1 => rj_pat_k.step_f go ih y_0 y_1 r e
 | .j0 y_io0 y_3 => rj_pat_k.step_j0 go ih y_io0 y_3 r e
 | .j1 y_io0 y_3 b_5 => rj_pat_k.step_j1 go ih y_io0 y_3 b_5 r e
 | .j2 y_io0 y_3 => rj_pat_k.step_j2 go ih y_io0 y_3 r e
 | .l0 y_io0 a_95 x_96 x_97 => rj_pat_k.step_l0 go ih y_io0 a_95 x_96 x_97 r e
 ) e
theorem rj_pat.walk {W h m bkio0 cs_0 cs_1 y_0 y_1} (O : Hold W h m h m [rV bkio0 57 cs_0]) (e_0 : T_jd.E m y_0 cs_0) (e_1 : T_Pat.E m y_1 cs_1) (tab : TB m) {r} (e : rj_pat y_0 y_1 = some r) : Run Tryz.prog 66 #[Value.pointer (some ⟨bkio0, 0, none⟩), Value.agg cs_1.toArray] h (rj_pat.post W bkio0 h m r) := rj_pat_k.all (p := .f y_0 y_1) e O e_0 e_1 tab
def rj_expr.post (W : Nat → Prop) (bkio0 : Nat) (h0 m0 : Heap) (r : T_jd) (v : Value) (h : Heap) : Prop := ∃ m csio0, Hold W h0 m0 h m [rV bkio0 57 csio0] ∧ v = .tuple #[] ∧ T_jd.E m r csio0
inductive rj_expr_k.Pt where
 | f (y_0 : T_jd) (y_1 : T_Expr) (b_2 : Bool)
 | j0 (y_io0 : T_jd) (b_2 : Bool) (y_4 : T_Expr) (x_6 : Int) (x_7 : Int)
 | j1 (y_io0 : T_jd) (b_2 : Bool) (y_4 : T_Expr)
 | j2 (y_io0 : T_jd) (b_2 : Bool) (y_4 : T_Expr) (b_8 : Bool)
 | j3 (y_io0 : T_jd) (b_2 : Bool) (y_4 : T_Expr)
 | j4 (y_io0 : T_jd) (b_2 : Bool) (y_4 : T_Expr)
 | l0 (y_io0 : T_jd) (b_2 : Bool) (y_4 : T_Expr) (a_139 : List T_Expr) (x_140 : Int) (x_141 : Int)
 | l1 (y_io0 : T_jd) (b_2 : Bool) (a_156 : List T_Arm) (x_157 : Int) (x_158 : Int)
noncomputable def rj_expr_k.body (go : (p : rj_expr_k.Pt) → Option (T_jd)) : (p : rj_expr_k.Pt) → Option (T_jd)
 | .f y_0 y_1 b_2 => Option.bind (r2_argsOf y_1) fun y5 => Option.bind (rj_form y_0 (decide (y5.1 ≥ (0 : Int)))) fun y12 => if y5.2 < (6 : Int) then (if (((List.length y_1.Arms) : Nat) : Int) ≤ (12 : Int) then (Option.bind (rj_few y12 (decide (((ByteArray.size y_1.Text : Nat) : Int) ≤ (64 : Int)))) fun y31 => (go (.j0 y31 b_2 y_1 y5.1 y5.2))) else (Option.bind (rj_few y12 false) fun y45 => (go (.j0 y45 b_2 y_1 y5.1 y5.2)))) else (if (((List.length y_1.Args) : Nat) : Int) ≤ y5.2 then (if (((List.length y_1.Arms) : Nat) : Int) ≤ (12 : Int) then (Option.bind (rj_few y12 (decide (((ByteArray.size y_1.Text : Nat) : Int) ≤ (64 : Int)))) fun y70 => (go (.j0 y70 b_2 y_1 y5.1 y5.2))) else (Option.bind (rj_few y12 false) fun y84 => (go (.j0 y84 b_2 y_1 y5.1 y5.2)))) else (Option.bind (rj_few y12 false) fun y99 => (go (.j0 y99 b_2 y_1 y5.1 y5.2))))
 | .j0 y_io0 b_2 y_4 x_6 x_7 => if (((List.length y_4.Args) : Nat) : Int) ≥ x_6 then (if (((List.length y_4.Args) : Nat) : Int) ≤ x_7 then (Option.bind (r2_worded y_4) fun y11 => if y11 = true then (Option.bind (r2_numbered y_4) fun y18 => Option.bind (rj_form y_io0 y18) fun y25 => (go (.j1 y25 b_2 y_4))) else (Option.bind (rj_form y_io0 false) fun y39 => (go (.j1 y39 b_2 y_4)))) else (Option.bind (rj_form y_io0 false) fun y54 => (go (.j1 y54 b_2 y_4)))) else (Option.bind (rj_form y_io0 false) fun y69 => (go (.j1 y69 b_2 y_4)))
 | .j1 y_io0 b_2 y_4 => if y_4.Kind = (13 : Int) then ((go (.j2 y_io0 b_2 y_4 true))) else ((go (.j2 y_io0 b_2 y_4 (y_4.Kind == (18 : Int)))))
 | .j2 y_io0 b_2 y_4 b_8 => if b_8 = true then (if y_4.Kind = (13 : Int) then (if (((List.length y_4.Arms) : Nat) : Int) > (0 : Int) then (if y_4.Kind = (17 : Int) then (Option.bind (rj_form y_io0 b_2) fun y49 => (go (.j3 y49 b_2 y_4))) else (Option.bind (rj_form y_io0 true) fun y35 => (go (.j3 y35 b_2 y_4)))) else (Option.bind (rj_form y_io0 false) fun y64 => (go (.j3 y64 b_2 y_4)))) else (if y_4.Kind = (17 : Int) then (Option.bind (rj_form y_io0 b_2) fun y15 => (go (.j3 y15 b_2 y_4))) else (Option.bind (rj_form y_io0 true) fun y1 => (go (.j3 y1 b_2 y_4))))) else (if (((List.length y_4.Arms) : Nat) : Int) = (0 : Int) then (if y_4.Kind = (13 : Int) then (if (((List.length y_4.Arms) : Nat) : Int) > (0 : Int) then (if y_4.Kind = (17 : Int) then (Option.bind (rj_form y_io0 b_2) fun y133 => (go (.j3 y133 b_2 y_4))) else (Option.bind (rj_form y_io0 true) fun y119 => (go (.j3 y119 b_2 y_4)))) else (Option.bind (rj_form y_io0 false) fun y148 => (go (.j3 y148 b_2 y_4)))) else (if y_4.Kind = (17 : Int) then (Option.bind (rj_form y_io0 b_2) fun y99 => (go (.j3 y99 b_2 y_4))) else (Option.bind (rj_form y_io0 true) fun y85 => (go (.j3 y85 b_2 y_4))))) else (Option.bind (rj_form y_io0 false) fun y164 => (go (.j3 y164 b_2 y_4))))
 | .j3 y_io0 b_2 y_4 => if y_io0.e_ = (0 : Int) then (if y_4.Kind = (10 : Int) then (Option.bind (rj_form y_io0 ((((List.length y_4.Names) : Nat) : Int) == (((List.length y_4.Types) : Nat) : Int))) fun y11 => Option.bind (rj_list y11 y_4.Names) fun y30 => Option.bind (rj_types y30 y_4.Types) fun y49 => (go (.j4 y49 b_2 y_4))) else (Option.bind (rj_form y_io0 ((IntKind.wrap .i64 ((((List.length y_4.Names) : Nat) : Int) + (((List.length y_4.Types) : Nat) : Int))) == (0 : Int))) fun y73 => (go (.j4 y73 b_2 y_4)))) else (some (y_io0))
 | .j4 y_io0 b_2 y_4 => (go (.l0 y_io0 b_2 y_4 y_4.Args (((List.length y_4.Args) : Nat) : Int) (0 : Int)))
 | .l0 y_io0 b_2 y_4 a_139 x_140 x_141 => if x_141 < x_140 then (Option.bind (gi a_139 x_141) fun y1 => if b_2 = true then (Option.bind ((go (.f y_io0 y1 (y_4.Kind != (10 : Int))))) fun y14 => (go (.l0 y14 b_2 y_4 a_139 x_140 (IntKind.wrap .i64 (x_141 + (1 : Int)))))) else (Option.bind ((go (.f y_io0 y1 false))) fun y29 => (go (.l0 y29 b_2 y_4 a_139 x_140 (IntKind.wrap .i64 (x_141 + (1 : Int))))))) else ((go (.l1 y_io0 b_2 y_4.Arms (((List.length y_4.Arms) : Nat) : Int) (0 : Int))))
 | .l1 y_io0 b_2 a_156 x_157 x_158 => if x_158 < x_157 then (Option.bind (gi a_156 x_158) fun y1 => Option.bind (rj_pat y_io0 y1.Pat) fun y14 => Option.bind ((go (.f y14 y1.Body b_2))) fun y29 => (go (.l1 y29 b_2 a_156 x_157 (IntKind.wrap .i64 (x_158 + (1 : Int)))))) else (some (y_io0))
theorem rj_expr_k.mono : MonoF (β := fun _ => (T_jd)) rj_expr_k.body := fun f g hfg p => match p with
 | .f y_0 y_1 b_2 => LeO.bind (LeO.refl _) fun y5 => LeO.bind (LeO.refl _) fun y12 => LeO.ite (LeO.ite (LeO.bind (LeO.refl _) fun y31 => (hfg _)) (LeO.bind (LeO.refl _) fun y45 => (hfg _))) (LeO.ite (LeO.ite (LeO.bind (LeO.refl _) fun y70 => (hfg _)) (LeO.bind (LeO.refl _) fun y84 => (hfg _))) (LeO.bind (LeO.refl _) fun y99 => (hfg _)))
 | .j0 y_io0 b_2 y_4 x_6 x_7 => LeO.ite (LeO.ite (LeO.bind (LeO.refl _) fun y11 => LeO.ite (LeO.bind (LeO.refl _) fun y18 => LeO.bind (LeO.refl _) fun y25 => (hfg _)) (LeO.bind (LeO.refl _) fun y39 => (hfg _))) (LeO.bind (LeO.refl _) fun y54 => (hfg _))) (LeO.bind (LeO.refl _) fun y69 => (hfg _))
 | .j1 y_io0 b_2 y_4 => LeO.ite ((hfg _)) ((hfg _))
 | .j2 y_io0 b_2 y_4 b_8 => LeO.ite (LeO.ite (LeO.ite (LeO.ite (LeO.bind (LeO.refl _) fun y49 => (hfg _)) (LeO.bind (LeO.refl _) fun y35 => (hfg _))) (LeO.bind (LeO.refl _) fun y64 => (hfg _))) (LeO.ite (LeO.bind (LeO.refl _) fun y15 => (hfg _)) (LeO.bind (LeO.refl _) fun y1 => (hfg _)))) (LeO.ite (LeO.ite (LeO.ite (LeO.ite (LeO.bind (LeO.refl _) fun y133 => (hfg _)) (LeO.bind (LeO.refl _) fun y119 => (hfg _))) (LeO.bind (LeO.refl _) fun y148 => (hfg _))) (LeO.ite (LeO.bind (LeO.refl _) fun y99 => (hfg _)) (LeO.bind (LeO.refl _) fun y85 => (hfg _)))) (LeO.bind (LeO.refl _) fun y164 => (hfg _)))
 | .j3 y_io0 b_2 y_4 => LeO.ite (LeO.ite (LeO.bind (LeO.refl _) fun y11 => LeO.bind (LeO.refl _) fun y30 => LeO.bind (LeO.refl _) fun y49 => (hfg _)) (LeO.bind (LeO.refl _) fun y73 => (hfg _))) (LeO.refl _)
 | .j4 y_io0 b_2 y_4 => (hfg _)
 | .l0 y_io0 b_2 y_4 a_139 x_140 x_141 => LeO.ite (LeO.bind (LeO.refl _) fun y1 => LeO.ite (LeO.bind ((hfg _)) fun y14 => (hfg _)) (LeO.bind ((hfg _)) fun y29 => (hfg _))) ((hfg _))
 | .l1 y_io0 b_2 a_156 x_157 x_158 => LeO.ite (LeO.bind (LeO.refl _) fun y1 => LeO.bind (LeO.refl _) fun y14 => LeO.bind ((hfg _)) fun y29 => (hfg _)) (LeO.refl _)
noncomputable def rj_expr_k.go (p : rj_expr_k.Pt) : Option (T_jd) := fixF (β := fun _ => (T_jd)) rj_expr_k.body p
noncomputable def rj_expr (y_0 y_1 b_2) := rj_expr_k.go (.f y_0 y_1 b_2)
noncomputable def rj_expr.j0 (y_io0 b_2 y_4 x_6 x_7) := rj_expr_k.go (.j0 y_io0 b_2 y_4 x_6 x_7)
noncomputable def rj_expr.j1 (y_io0 b_2 y_4) := rj_expr_k.go (.j1 y_io0 b_2 y_4)
noncomputable def rj_expr.j2 (y_io0 b_2 y_4 b_8) := rj_expr_k.go (.j2 y_io0 b_2 y_4 b_8)
noncomputable def rj_expr.j3 (y_io0 b_2 y_4) := rj_expr_k.go (.j3 y_io0 b_2 y_4)
noncomputable def rj_expr.j4 (y_io0 b_2 y_4) := rj_expr_k.go (.j4 y_io0 b_2 y_4)
noncomputable def rj_expr.l0 (y_io0 b_2 y_4 a_139 x_140 x_141) := rj_expr_k.go (.l0 y_io0 b_2 y_4 a_139 x_140 x_141)
noncomputable def rj_expr.l1 (y_io0 b_2 a_156 x_157 x_158) := rj_expr_k.go (.l1 y_io0 b_2 a_156 x_157 x_158)
theorem rj_expr_eq (y_0 y_1 b_2) : rj_expr y_0 y_1 b_2 = Option.bind (r2_argsOf y_1) fun y5 => Option.bind (rj_form y_0 (decide (y5.1 ≥ (0 : Int)))) fun y12 => if y5.2 < (6 : Int) then (if (((List.length y_1.Arms) : Nat) : Int) ≤ (12 : Int) then (Option.bind (rj_few y12 (decide (((ByteArray.size y_1.Text : Nat) : Int) ≤ (64 : Int)))) fun y31 => (rj_expr.j0 y31 b_2 y_1 y5.1 y5.2)) else (Option.bind (rj_few y12 false) fun y45 => (rj_expr.j0 y45 b_2 y_1 y5.1 y5.2))) else (if (((List.length y_1.Args) : Nat) : Int) ≤ y5.2 then (if (((List.length y_1.Arms) : Nat) : Int) ≤ (12 : Int) then (Option.bind (rj_few y12 (decide (((ByteArray.size y_1.Text : Nat) : Int) ≤ (64 : Int)))) fun y70 => (rj_expr.j0 y70 b_2 y_1 y5.1 y5.2)) else (Option.bind (rj_few y12 false) fun y84 => (rj_expr.j0 y84 b_2 y_1 y5.1 y5.2))) else (Option.bind (rj_few y12 false) fun y99 => (rj_expr.j0 y99 b_2 y_1 y5.1 y5.2))) := fixF_eq rj_expr_k.mono _
theorem rj_expr.j0_eq (y_io0 b_2 y_4 x_6 x_7) : rj_expr.j0 y_io0 b_2 y_4 x_6 x_7 = if (((List.length y_4.Args) : Nat) : Int) ≥ x_6 then (if (((List.length y_4.Args) : Nat) : Int) ≤ x_7 then (Option.bind (r2_worded y_4) fun y11 => if y11 = true then (Option.bind (r2_numbered y_4) fun y18 => Option.bind (rj_form y_io0 y18) fun y25 => (rj_expr.j1 y25 b_2 y_4)) else (Option.bind (rj_form y_io0 false) fun y39 => (rj_expr.j1 y39 b_2 y_4))) else (Option.bind (rj_form y_io0 false) fun y54 => (rj_expr.j1 y54 b_2 y_4))) else (Option.bind (rj_form y_io0 false) fun y69 => (rj_expr.j1 y69 b_2 y_4)) := fixF_eq rj_expr_k.mono _
theorem rj_expr.j1_eq (y_io0 b_2 y_4) : rj_expr.j1 y_io0 b_2 y_4 = if y_4.Kind = (13 : Int) then ((rj_expr.j2 y_io0 b_2 y_4 true)) else ((rj_expr.j2 y_io0 b_2 y_4 (y_4.Kind == (18 : Int)))) := fixF_eq rj_expr_k.mono _
theorem rj_expr.j2_eq (y_io0 b_2 y_4 b_8) : rj_expr.j2 y_io0 b_2 y_4 b_8 = if b_8 = true then (if y_4.Kind = (13 : Int) then (if (((List.length y_4.Arms) : Nat) : Int) > (0 : Int) then (if y_4.Kind = (17 : Int) then (Option.bind (rj_form y_io0 b_2) fun y49 => (rj_expr.j3 y49 b_2 y_4)) else (Option.bind (rj_form y_io0 true) fun y35 => (rj_expr.j3 y35 b_2 y_4))) else (Option.bind (rj_form y_io0 false) fun y64 => (rj_expr.j3 y64 b_2 y_4))) else (if y_4.Kind = (17 : Int) then (Option.bind (rj_form y_io0 b_2) fun y15 => (rj_expr.j3 y15 b_2 y_4)) else (Option.bind (rj_form y_io0 true) fun y1 => (rj_expr.j3 y1 b_2 y_4)))) else (if (((List.length y_4.Arms) : Nat) : Int) = (0 : Int) then (if y_4.Kind = (13 : Int) then (if (((List.length y_4.Arms) : Nat) : Int) > (0 : Int) then (if y_4.Kind = (17 : Int) then (Option.bind (rj_form y_io0 b_2) fun y133 => (rj_expr.j3 y133 b_2 y_4)) else (Option.bind (rj_form y_io0 true) fun y119 => (rj_expr.j3 y119 b_2 y_4))) else (Option.bind (rj_form y_io0 false) fun y148 => (rj_expr.j3 y148 b_2 y_4))) else (if y_4.Kind = (17 : Int) then (Option.bind (rj_form y_io0 b_2) fun y99 => (rj_expr.j3 y99 b_2 y_4)) else (Option.bind (rj_form y_io0 true) fun y85 => (rj_expr.j3 y85 b_2 y_4)))) else (Option.bind (rj_form y_io0 false) fun y164 => (rj_expr.j3 y164 b_2 y_4))) := fixF_eq rj_expr_k.mono _
theorem rj_expr.j3_eq (y_io0 b_2 y_4) : rj_expr.j3 y_io0 b_2 y_4 = if y_io0.e_ = (0 : Int) then (if y_4.Kind = (10 : Int) then (Option.bind (rj_form y_io0 ((((List.length y_4.Names) : Nat) : Int) == (((List.length y_4.Types) : Nat) : Int))) fun y11 => Option.bind (rj_list y11 y_4.Names) fun y30 => Option.bind (rj_types y30 y_4.Types) fun y49 => (rj_expr.j4 y49 b_2 y_4)) else (Option.bind (rj_form y_io0 ((IntKind.wrap .i64 ((((List.length y_4.Names) : Nat) : Int) + (((List.length y_4.Types) : Nat) : Int))) == (0 : Int))) fun y73 => (rj_expr.j4 y73 b_2 y_4))) else (some (y_io0)) := fixF_eq rj_expr_k.mono _
theorem rj_expr.j4_eq (y_io0 b_2 y_4) : rj_expr.j4 y_io0 b_2 y_4 = (rj_expr.l0 y_io0 b_2 y_4 y_4.Args (((List.length y_4.Args) : Nat) : Int) (0 : Int)) := fixF_eq rj_expr_k.mono _
theorem rj_expr.l0_eq (y_io0 b_2 y_4 a_139 x_140 x_141) : rj_expr.l0 y_io0 b_2 y_4 a_139 x_140 x_141 = if x_141 < x_140 then (Option.bind (gi a_139 x_141) fun y1 => if b_2 = true then (Option.bind ((rj_expr y_io0 y1 (y_4.Kind != (10 : Int)))) fun y14 => (rj_expr.l0 y14 b_2 y_4 a_139 x_140 (IntKind.wrap .i64 (x_141 + (1 : Int))))) else (Option.bind ((rj_expr y_io0 y1 false)) fun y29 => (rj_expr.l0 y29 b_2 y_4 a_139 x_140 (IntKind.wrap .i64 (x_141 + (1 : Int)))))) else ((rj_expr.l1 y_io0 b_2 y_4.Arms (((List.length y_4.Arms) : Nat) : Int) (0 : Int))) := fixF_eq rj_expr_k.mono _
theorem rj_expr.l1_eq (y_io0 b_2 a_156 x_157 x_158) : rj_expr.l1 y_io0 b_2 a_156 x_157 x_158 = if x_158 < x_157 then (Option.bind (gi a_156 x_158) fun y1 => Option.bind (rj_pat y_io0 y1.Pat) fun y14 => Option.bind ((rj_expr y14 y1.Body b_2)) fun y29 => (rj_expr.l1 y29 b_2 a_156 x_157 (IntKind.wrap .i64 (x_158 + (1 : Int))))) else (some (y_io0)) := fixF_eq rj_expr_k.mono _
def rj_expr_k.I : (p : rj_expr_k.Pt) → (T_jd) → Prop
 | .f y_0 y_1 b_2, r => ∀ {W h m bkio0 cs_0 cs_1} (O : Hold W h m h m [rV bkio0 57 cs_0]) (e_0 : T_jd.E m y_0 cs_0) (e_1 : T_Expr.E m y_1 cs_1) (tab : TB m), Run Tryz.prog 39 #[Value.pointer (some ⟨bkio0, 0, none⟩), Value.agg cs_1.toArray, Value.bool b_2] h (rj_expr.post W bkio0 h m r)
 | .j0 y_io0 b_2 y_4 x_6 x_7, r => ∀ {W h0 m0 h m bk_io0 cs_io0 bk_4 cs_4} (O : Hold W h0 m0 h m [rV bk_io0 57 cs_io0, rV bk_4 48 cs_4]) (e_io0 : T_jd.E m y_io0 cs_io0) (e_4 : T_Expr.E m y_4 cs_4) (tab : TB m), f39.j0 (rj_expr.post W bk_io0 h0 m0 r) (⟨bk_io0, 0, none⟩ : Addr) b_2 (⟨bk_4, 0, none⟩ : Addr) x_6 x_7 h
 | .j1 y_io0 b_2 y_4, r => ∀ {W h0 m0 h m bk_io0 cs_io0 bk_4 cs_4} (O : Hold W h0 m0 h m [rV bk_io0 57 cs_io0, rV bk_4 48 cs_4]) (e_io0 : T_jd.E m y_io0 cs_io0) (e_4 : T_Expr.E m y_4 cs_4) (tab : TB m), f39.j1 (rj_expr.post W bk_io0 h0 m0 r) (⟨bk_io0, 0, none⟩ : Addr) b_2 (⟨bk_4, 0, none⟩ : Addr) h
 | .j2 y_io0 b_2 y_4 b_8, r => ∀ {W h0 m0 h m bk_io0 cs_io0 bk_4 cs_4} (O : Hold W h0 m0 h m [rV bk_io0 57 cs_io0, rV bk_4 48 cs_4]) (e_io0 : T_jd.E m y_io0 cs_io0) (e_4 : T_Expr.E m y_4 cs_4) (tab : TB m), f39.j2 (rj_expr.post W bk_io0 h0 m0 r) (⟨bk_io0, 0, none⟩ : Addr) b_2 (⟨bk_4, 0, none⟩ : Addr) b_8 h
 | .j3 y_io0 b_2 y_4, r => ∀ {W h0 m0 h m bk_io0 cs_io0 bk_4 cs_4} (O : Hold W h0 m0 h m [rV bk_io0 57 cs_io0, rV bk_4 48 cs_4]) (e_io0 : T_jd.E m y_io0 cs_io0) (e_4 : T_Expr.E m y_4 cs_4) (tab : TB m), f39.j3 (rj_expr.post W bk_io0 h0 m0 r) (⟨bk_io0, 0, none⟩ : Addr) b_2 (⟨bk_4, 0, none⟩ : Addr) h
 | .j4 y_io0 b_2 y_4, r => ∀ {W h0 m0 h m bk_io0 cs_io0 bk_4 cs_4} (O : Hold W h0 m0 h m [rV bk_io0 57 cs_io0, rV bk_4 48 cs_4]) (e_io0 : T_jd.E m y_io0 cs_io0) (e_4 : T_Expr.E m y_4 cs_4) (tab : TB m), f39.j4 (rj_expr.post W bk_io0 h0 m0 r) (⟨bk_io0, 0, none⟩ : Addr) b_2 (⟨bk_4, 0, none⟩ : Addr) h
 | .l0 y_io0 b_2 y_4 a_139 x_140 x_141, r => ∀ {W h0 m0 h m bk_io0 cs_io0 bk_4 cs_4 A_139 n_139 c_139} (O : Hold W h0 m0 h m [rV bk_io0 57 cs_io0, rV bk_4 48 cs_4]) (e_io0 : T_jd.E m y_io0 cs_io0) (e_4 : T_Expr.E m y_4 cs_4) (ne_139 : n_139 = List.length a_139) (k_139 : List.length a_139 ≤ c_139) (r_139 : Rd 8 T_Expr.E m A_139 a_139) (tab : TB m), f39.l0 (rj_expr.post W bk_io0 h0 m0 r) (⟨bk_io0, 0, none⟩ : Addr) b_2 (⟨bk_4, 0, none⟩ : Addr) A_139 n_139 c_139 x_140 x_141 h
 | .l1 y_io0 b_2 a_156 x_157 x_158, r => ∀ {W h0 m0 h m bk_io0 cs_io0 A_156 n_156 c_156} (O : Hold W h0 m0 h m [rV bk_io0 57 cs_io0]) (e_io0 : T_jd.E m y_io0 cs_io0) (ne_156 : n_156 = List.length a_156) (k_156 : List.length a_156 ≤ c_156) (r_156 : Rd 12 T_Arm.E m A_156 a_156) (tab : TB m), f39.l1 (rj_expr.post W bk_io0 h0 m0 r) (⟨bk_io0, 0, none⟩ : Addr) b_2 A_156 n_156 c_156 x_157 x_158 h
set_option maxHeartbeats 4000000 in
theorem rj_expr_k.step_f (go : (p : rj_expr_k.Pt) → Option (T_jd)) (ih : ∀ p r, go p = some r → rj_expr_k.I p r) (y_0 y_1 b_2) (r) (e : rj_expr_k.body go (.f y_0 y_1 b_2) = some r) : rj_expr_k.I (.f y_0 y_1 b_2) r := by
 unfold rj_expr_k.body at e
 intro W h m bkio0 cs_0 cs_1 O e_0 e_1 tab
 refine f39.run ?_
 unfold f39.runT
 refine O.new fun h1 x2 O3 => ?_
 refine ⟨_, ldAn (Sub.refl _) (O3.all 1 rfl) (T_Expr.T.len _ _ _ e_1), ?_⟩
 obtain ⟨y5, g6, e⟩ := bind_e e
 refine (r2_argsOf.walk (Hold.start (W := No) O3.s) e_1 g6).mono ?_
 rintro _ h7 ⟨m8, Q9, rfl⟩
 have O11 := Hold.nm (O3.retC Q9 vfs_nil)
 refine ⟨_, _, rfl, ?_⟩
 obtain ⟨y12, g13, e⟩ := bind_e e
 obtain ⟨W18, P19, B20, C21⟩ := O11.callC [0]
 refine (rj_form.walk P19 e_0 g13).mono ?_
 rintro _ h14 ⟨m15, cs23, Q16, rfl, he24⟩
 replace he24 : T_jd.E m y12 cs23 := T_jd.keep he24
 have O25 := Hold.nm (C21 Q16 (vfs_cons rV_vf vfs_nil))
 refine ⟨rfl, ?_⟩
 refine split_dec_e e (fun c114 e => ?_) (fun c114 e => ?_)
 · obtain ⟨A26, c27, q28, k29, r30⟩ := T_Expr.g6 e_1
   refine ⟨_, ldk (k := 6) (Sub.refl _) (O25.all 1 rfl) q28, _, _, _, rfl, ?_⟩
   refine split_dec_e e (fun c59 e => ?_) (fun c59 e => ?_)
   · refine ⟨_, ldk (k := 2) (Sub.refl _) (O25.all 1 rfl) (T_Expr.g2 e_1), _, rfl, ?_⟩
     obtain ⟨y31, g32, e⟩ := bind_e e
     obtain ⟨W37, P38, B39, C40⟩ := O25.callC [2]
     refine (rj_few.walk P38 he24 g32).mono ?_
     rintro _ h33 ⟨m34, cs42, Q35, rfl, he43⟩
     replace he43 : T_jd.E m y31 cs42 := T_jd.keep he43
     have O44 := Hold.nm (C40 Q35 (vfs_cons rV_vf vfs_nil))
     refine ⟨rfl, ?_⟩
     exact (ih _ _ e) (O44.pick [3, 1]).nm he43 e_1 tab
   · obtain ⟨y45, g46, e⟩ := bind_e e
     obtain ⟨W51, P52, B53, C54⟩ := O25.callC [2]
     refine (rj_few.walk P52 he24 g46).mono ?_
     rintro _ h47 ⟨m48, cs56, Q49, rfl, he57⟩
     replace he57 : T_jd.E m y45 cs56 := T_jd.keep he57
     have O58 := Hold.nm (C54 Q49 (vfs_cons rV_vf vfs_nil))
     refine ⟨rfl, ?_⟩
     exact (ih _ _ e) (O58.pick [3, 1]).nm he57 e_1 tab
 · obtain ⟨A60, c61, q62, k63, r64⟩ := T_Expr.g5 e_1
   refine ⟨_, ldk (k := 5) (Sub.refl _) (O25.all 1 rfl) q62, _, _, _, rfl, ?_⟩
   refine split_dec_e e (fun c113 e => ?_) (fun c113 e => ?_)
   · obtain ⟨A65, c66, q67, k68, r69⟩ := T_Expr.g6 e_1
     refine ⟨_, ldk (k := 6) (Sub.refl _) (O25.all 1 rfl) q67, _, _, _, rfl, ?_⟩
     refine split_dec_e e (fun c98 e => ?_) (fun c98 e => ?_)
     · refine ⟨_, ldk (k := 2) (Sub.refl _) (O25.all 1 rfl) (T_Expr.g2 e_1), _, rfl, ?_⟩
       obtain ⟨y70, g71, e⟩ := bind_e e
       obtain ⟨W76, P77, B78, C79⟩ := O25.callC [2]
       refine (rj_few.walk P77 he24 g71).mono ?_
       rintro _ h72 ⟨m73, cs81, Q74, rfl, he82⟩
       replace he82 : T_jd.E m y70 cs81 := T_jd.keep he82
       have O83 := Hold.nm (C79 Q74 (vfs_cons rV_vf vfs_nil))
       refine ⟨rfl, ?_⟩
       exact (ih _ _ e) (O83.pick [3, 1]).nm he82 e_1 tab
     · obtain ⟨y84, g85, e⟩ := bind_e e
       obtain ⟨W90, P91, B92, C93⟩ := O25.callC [2]
       refine (rj_few.walk P91 he24 g85).mono ?_
       rintro _ h86 ⟨m87, cs95, Q88, rfl, he96⟩
       replace he96 : T_jd.E m y84 cs95 := T_jd.keep he96
       have O97 := Hold.nm (C93 Q88 (vfs_cons rV_vf vfs_nil))
       refine ⟨rfl, ?_⟩
       exact (ih _ _ e) (O97.pick [3, 1]).nm he96 e_1 tab
   · obtain ⟨y99, g100, e⟩ := bind_e e
     obtain ⟨W105, P106, B107, C108⟩ := O25.callC [2]
     refine (rj_few.walk P106 he24 g100).mono ?_
     rintro _ h101 ⟨m102, cs110, Q103, rfl, he111⟩
     replace he111 : T_jd.E m y99 cs110 := T_jd.keep he111
     have O112 := Hold.nm (C108 Q103 (vfs_cons rV_vf vfs_nil))
     refine ⟨rfl, ?_⟩
     exact (ih _ _ e) (O112.pick [3, 1]).nm he111 e_1 tab
set_option maxHeartbeats 4000000 in
theorem rj_expr_k.step_j0 (go : (p : rj_expr_k.Pt) → Option (T_jd)) (ih : ∀ p r, go p = some r → rj_expr_k.I p r) (y_io0 b_2 y_4 x_6 x_7) (r) (e : rj_expr_k.body go (.j0 y_io0 b_2 y_4 x_6 x_7) = some r) : rj_expr_k.I (.j0 y_io0 b_2 y_4 x_6 x_7) r := by
 unfold rj_expr_k.body at e
 intro W h0 m0 h m bk_io0 cs_io0 bk_4 cs_4 O e_io0 e_4 tab
 refine f39.j0_in ?_
 unfold f39.j0T
 obtain ⟨A1, c2, q3, k4, r5⟩ := T_Expr.g5 e_4
 refine ⟨_, ldk (k := 5) (Sub.refl _) (O.all 1 rfl) q3, _, _, _, rfl, ?_⟩
 refine split_dec_e e (fun c83 e => ?_) (fun c83 e => ?_)
 · obtain ⟨A6, c7, q8, k9, r10⟩ := T_Expr.g5 e_4
   refine ⟨_, ldk (k := 5) (Sub.refl _) (O.all 1 rfl) q8, _, _, _, rfl, ?_⟩
   refine split_dec_e e (fun c68 e => ?_) (fun c68 e => ?_)
   · refine ⟨_, ldAn (Sub.refl _) (O.all 1 rfl) (T_Expr.T.len _ _ _ e_4), ?_⟩
     obtain ⟨y11, g12, e⟩ := bind_e e
     refine (r2_worded.walk (Hold.start (W := No) O.s) e_4 tab g12).mono ?_
     rintro _ h13 ⟨m14, Q15, rfl⟩
     have O17 := Hold.nm (O.retC Q15 vfs_nil)
     refine ⟨_, rfl, ?_⟩
     refine split_any_e e (fun c53 e => ?_) (fun c53 e => ?_)
     · refine ⟨_, ldAn (Sub.refl _) (O17.all 1 rfl) (T_Expr.T.len _ _ _ e_4), ?_⟩
       obtain ⟨y18, g19, e⟩ := bind_e e
       refine (r2_numbered.walk (Hold.start (W := No) O17.s) e_4 g19).mono ?_
       rintro _ h20 ⟨m21, Q22, rfl⟩
       have O24 := Hold.nm (O17.retC Q22 vfs_nil)
       refine ⟨_, rfl, ?_⟩
       obtain ⟨y25, g26, e⟩ := bind_e e
       obtain ⟨W31, P32, B33, C34⟩ := O24.callC [0]
       refine (rj_form.walk P32 e_io0 g26).mono ?_
       rintro _ h27 ⟨m28, cs36, Q29, rfl, he37⟩
       replace he37 : T_jd.E m y25 cs36 := T_jd.keep he37
       have O38 := Hold.nm (C34 Q29 (vfs_cons rV_vf vfs_nil))
       refine ⟨rfl, ?_⟩
       exact (ih _ _ e) (O38.pick [2, 1]).nm he37 e_4 tab
     · obtain ⟨y39, g40, e⟩ := bind_e e
       obtain ⟨W45, P46, B47, C48⟩ := O17.callC [0]
       refine (rj_form.walk P46 e_io0 g40).mono ?_
       rintro _ h41 ⟨m42, cs50, Q43, rfl, he51⟩
       replace he51 : T_jd.E m y39 cs50 := T_jd.keep he51
       have O52 := Hold.nm (C48 Q43 (vfs_cons rV_vf vfs_nil))
       refine ⟨rfl, ?_⟩
       exact (ih _ _ e) (O52.pick [2, 1]).nm he51 e_4 tab
   · obtain ⟨y54, g55, e⟩ := bind_e e
     obtain ⟨W60, P61, B62, C63⟩ := O.callC [0]
     refine (rj_form.walk P61 e_io0 g55).mono ?_
     rintro _ h56 ⟨m57, cs65, Q58, rfl, he66⟩
     replace he66 : T_jd.E m y54 cs65 := T_jd.keep he66
     have O67 := Hold.nm (C63 Q58 (vfs_cons rV_vf vfs_nil))
     refine ⟨rfl, ?_⟩
     exact (ih _ _ e) (O67.pick [2, 1]).nm he66 e_4 tab
 · obtain ⟨y69, g70, e⟩ := bind_e e
   obtain ⟨W75, P76, B77, C78⟩ := O.callC [0]
   refine (rj_form.walk P76 e_io0 g70).mono ?_
   rintro _ h71 ⟨m72, cs80, Q73, rfl, he81⟩
   replace he81 : T_jd.E m y69 cs80 := T_jd.keep he81
   have O82 := Hold.nm (C78 Q73 (vfs_cons rV_vf vfs_nil))
   refine ⟨rfl, ?_⟩
   exact (ih _ _ e) (O82.pick [2, 1]).nm he81 e_4 tab
theorem rj_expr_k.step_j1 (go : (p : rj_expr_k.Pt) → Option (T_jd)) (ih : ∀ p r, go p = some r → rj_expr_k.I p r) (y_io0 b_2 y_4) (r) (e : rj_expr_k.body go (.j1 y_io0 b_2 y_4) = some r) : rj_expr_k.I (.j1 y_io0 b_2 y_4) r := by
 unfold rj_expr_k.body at e
 intro W h0 m0 h m bk_io0 cs_io0 bk_4 cs_4 O e_io0 e_4 tab
 refine f39.j1_in ?_
 unfold f39.j1T
 refine ⟨_, ld0 (Sub.refl _) (O.all 1 rfl) (T_Expr.g0 e_4), _, rfl, ?_⟩
 refine split_eq_e e (fun c1 e => ?_) (fun c1 e => ?_)
 · exact (ih _ _ e) (O.pick [0, 1]).nm e_io0 e_4 tab
 · refine ⟨_, ld0 (Sub.refl _) (O.all 1 rfl) (T_Expr.g0 e_4), _, rfl, ?_⟩
   exact (ih _ _ e) (O.pick [0, 1]).nm e_io0 e_4 tab
set_option maxHeartbeats 4000000 in
theorem rj_expr_k.step_j2 (go : (p : rj_expr_k.Pt) → Option (T_jd)) (ih : ∀ p r, go p = some r → rj_expr_k.I p r) (y_io0 b_2 y_4 b_8) (r) (e : rj_expr_k.body go (.j2 y_io0 b_2 y_4 b_8) = some r) : rj_expr_k.I (.j2 y_io0 b_2 y_4 b_8) r := by
 unfold rj_expr_k.body at e
 intro W h0 m0 h m bk_io0 cs_io0 bk_4 cs_4 O e_io0 e_4 tab
 refine f39.j2_in ?_
 unfold f39.j2T
 refine split_any_e e (fun c179 e => ?_) (fun c179 e => ?_)
 · refine ⟨_, ld0 (Sub.refl _) (O.all 1 rfl) (T_Expr.g0 e_4), _, rfl, ?_⟩
   refine split_ne_e e (fun c79 e => ?_) (fun c79 e => ?_)
   · refine ⟨_, ld0 (Sub.refl _) (O.all 1 rfl) (T_Expr.g0 e_4), _, rfl, ?_⟩
     refine split_ne_e e (fun c29 e => ?_) (fun c29 e => ?_)
     · obtain ⟨y1, g2, e⟩ := bind_e e
       obtain ⟨W7, P8, B9, C10⟩ := O.callC [0]
       refine (rj_form.walk P8 e_io0 g2).mono ?_
       rintro _ h3 ⟨m4, cs12, Q5, rfl, he13⟩
       replace he13 : T_jd.E m y1 cs12 := T_jd.keep he13
       have O14 := Hold.nm (C10 Q5 (vfs_cons rV_vf vfs_nil))
       refine ⟨rfl, ?_⟩
       exact (ih _ _ e) (O14.pick [2, 1]).nm he13 e_4 tab
     · obtain ⟨y15, g16, e⟩ := bind_e e
       obtain ⟨W21, P22, B23, C24⟩ := O.callC [0]
       refine (rj_form.walk P22 e_io0 g16).mono ?_
       rintro _ h17 ⟨m18, cs26, Q19, rfl, he27⟩
       replace he27 : T_jd.E m y15 cs26 := T_jd.keep he27
       have O28 := Hold.nm (C24 Q19 (vfs_cons rV_vf vfs_nil))
       refine ⟨rfl, ?_⟩
       exact (ih _ _ e) (O28.pick [2, 1]).nm he27 e_4 tab
   · obtain ⟨A30, c31, q32, k33, r34⟩ := T_Expr.g6 e_4
     refine ⟨_, ldk (k := 6) (Sub.refl _) (O.all 1 rfl) q32, _, _, _, rfl, ?_⟩
     refine split_dec_e e (fun c78 e => ?_) (fun c78 e => ?_)
     · refine ⟨_, ld0 (Sub.refl _) (O.all 1 rfl) (T_Expr.g0 e_4), _, rfl, ?_⟩
       refine split_ne_e e (fun c63 e => ?_) (fun c63 e => ?_)
       · obtain ⟨y35, g36, e⟩ := bind_e e
         obtain ⟨W41, P42, B43, C44⟩ := O.callC [0]
         refine (rj_form.walk P42 e_io0 g36).mono ?_
         rintro _ h37 ⟨m38, cs46, Q39, rfl, he47⟩
         replace he47 : T_jd.E m y35 cs46 := T_jd.keep he47
         have O48 := Hold.nm (C44 Q39 (vfs_cons rV_vf vfs_nil))
         refine ⟨rfl, ?_⟩
         exact (ih _ _ e) (O48.pick [2, 1]).nm he47 e_4 tab
       · obtain ⟨y49, g50, e⟩ := bind_e e
         obtain ⟨W55, P56, B57, C58⟩ := O.callC [0]
         refine (rj_form.walk P56 e_io0 g50).mono ?_
         rintro _ h51 ⟨m52, cs60, Q53, rfl, he61⟩
         replace he61 : T_jd.E m y49 cs60 := T_jd.keep he61
         have O62 := Hold.nm (C58 Q53 (vfs_cons rV_vf vfs_nil))
         refine ⟨rfl, ?_⟩
         exact (ih _ _ e) (O62.pick [2, 1]).nm he61 e_4 tab
     · obtain ⟨y64, g65, e⟩ := bind_e e
       obtain ⟨W70, P71, B72, C73⟩ := O.callC [0]
       refine (rj_form.walk P71 e_io0 g65).mono ?_
       rintro _ h66 ⟨m67, cs75, Q68, rfl, he76⟩
       replace he76 : T_jd.E m y64 cs75 := T_jd.keep he76
       have O77 := Hold.nm (C73 Q68 (vfs_cons rV_vf vfs_nil))
       refine ⟨rfl, ?_⟩
       exact (ih _ _ e) (O77.pick [2, 1]).nm he76 e_4 tab
 · obtain ⟨A80, c81, q82, k83, r84⟩ := T_Expr.g6 e_4
   refine ⟨_, ldk (k := 6) (Sub.refl _) (O.all 1 rfl) q82, _, _, _, rfl, ?_⟩
   refine split_eq_e e (fun c178 e => ?_) (fun c178 e => ?_)
   · refine ⟨_, ld0 (Sub.refl _) (O.all 1 rfl) (T_Expr.g0 e_4), _, rfl, ?_⟩
     refine split_ne_e e (fun c163 e => ?_) (fun c163 e => ?_)
     · refine ⟨_, ld0 (Sub.refl _) (O.all 1 rfl) (T_Expr.g0 e_4), _, rfl, ?_⟩
       refine split_ne_e e (fun c113 e => ?_) (fun c113 e => ?_)
       · obtain ⟨y85, g86, e⟩ := bind_e e
         obtain ⟨W91, P92, B93, C94⟩ := O.callC [0]
         refine (rj_form.walk P92 e_io0 g86).mono ?_
         rintro _ h87 ⟨m88, cs96, Q89, rfl, he97⟩
         replace he97 : T_jd.E m y85 cs96 := T_jd.keep he97
         have O98 := Hold.nm (C94 Q89 (vfs_cons rV_vf vfs_nil))
         refine ⟨rfl, ?_⟩
         exact (ih _ _ e) (O98.pick [2, 1]).nm he97 e_4 tab
       · obtain ⟨y99, g100, e⟩ := bind_e e
         obtain ⟨W105, P106, B107, C108⟩ := O.callC [0]
         refine (rj_form.walk P106 e_io0 g100).mono ?_
         rintro _ h101 ⟨m102, cs110, Q103, rfl, he111⟩
         replace he111 : T_jd.E m y99 cs110 := T_jd.keep he111
         have O112 := Hold.nm (C108 Q103 (vfs_cons rV_vf vfs_nil))
         refine ⟨rfl, ?_⟩
         exact (ih _ _ e) (O112.pick [2, 1]).nm he111 e_4 tab
     · obtain ⟨A114, c115, q116, k117, r118⟩ := T_Expr.g6 e_4
       refine ⟨_, ldk (k := 6) (Sub.refl _) (O.all 1 rfl) q116, _, _, _, rfl, ?_⟩
       refine split_dec_e e (fun c162 e => ?_) (fun c162 e => ?_)
       · refine ⟨_, ld0 (Sub.refl _) (O.all 1 rfl) (T_Expr.g0 e_4), _, rfl, ?_⟩
         refine split_ne_e e (fun c147 e => ?_) (fun c147 e => ?_)
         · obtain ⟨y119, g120, e⟩ := bind_e e
           obtain ⟨W125, P126, B127, C128⟩ := O.callC [0]
           refine (rj_form.walk P126 e_io0 g120).mono ?_
           rintro _ h121 ⟨m122, cs130, Q123, rfl, he131⟩
           replace he131 : T_jd.E m y119 cs130 := T_jd.keep he131
           have O132 := Hold.nm (C128 Q123 (vfs_cons rV_vf vfs_nil))
           refine ⟨rfl, ?_⟩
           exact (ih _ _ e) (O132.pick [2, 1]).nm he131 e_4 tab
         · obtain ⟨y133, g134, e⟩ := bind_e e
           obtain ⟨W139, P140, B141, C142⟩ := O.callC [0]
           refine (rj_form.walk P140 e_io0 g134).mono ?_
           rintro _ h135 ⟨m136, cs144, Q137, rfl, he145⟩
           replace he145 : T_jd.E m y133 cs144 := T_jd.keep he145
           have O146 := Hold.nm (C142 Q137 (vfs_cons rV_vf vfs_nil))
           refine ⟨rfl, ?_⟩
           exact (ih _ _ e) (O146.pick [2, 1]).nm he145 e_4 tab
       · obtain ⟨y148, g149, e⟩ := bind_e e
         obtain ⟨W154, P155, B156, C157⟩ := O.callC [0]
         refine (rj_form.walk P155 e_io0 g149).mono ?_
         rintro _ h150 ⟨m151, cs159, Q152, rfl, he160⟩
         replace he160 : T_jd.E m y148 cs159 := T_jd.keep he160
         have O161 := Hold.nm (C157 Q152 (vfs_cons rV_vf vfs_nil))
         refine ⟨rfl, ?_⟩
         exact (ih _ _ e) (O161.pick [2, 1]).nm he160 e_4 tab
   · obtain ⟨y164, g165, e⟩ := bind_e e
     obtain ⟨W170, P171, B172, C173⟩ := O.callC [0]
     refine (rj_form.walk P171 e_io0 g165).mono ?_
     rintro _ h166 ⟨m167, cs175, Q168, rfl, he176⟩
     replace he176 : T_jd.E m y164 cs175 := T_jd.keep he176
     have O177 := Hold.nm (C173 Q168 (vfs_cons rV_vf vfs_nil))
     refine ⟨rfl, ?_⟩
     exact (ih _ _ e) (O177.pick [2, 1]).nm he176 e_4 tab
set_option maxHeartbeats 4000000 in
theorem rj_expr_k.step_j3 (go : (p : rj_expr_k.Pt) → Option (T_jd)) (ih : ∀ p r, go p = some r → rj_expr_k.I p r) (y_io0 b_2 y_4) (r) (e : rj_expr_k.body go (.j3 y_io0 b_2 y_4) = some r) : rj_expr_k.I (.j3 y_io0 b_2 y_4) r := by
 unfold rj_expr_k.body at e
 intro W h0 m0 h m bk_io0 cs_io0 bk_4 cs_4 O e_io0 e_4 tab
 refine f39.j3_in ?_
 unfold f39.j3T
 refine ⟨_, ld0 (Sub.refl _) (O.all 0 rfl) (T_jd.g0 e_io0), _, rfl, ?_⟩
 refine split_ne_e e (fun c88 e => ?_) (fun c88 e => ?_)
 · cases e
   exact ⟨_, _, O.pick [0], rfl, e_io0⟩
 · refine ⟨_, ld0 (Sub.refl _) (O.all 1 rfl) (T_Expr.g0 e_4), _, rfl, ?_⟩
   refine split_eq_e e (fun c87 e => ?_) (fun c87 e => ?_)
   · obtain ⟨A1, c2, q3, k4, r5⟩ := T_Expr.g3 e_4
     refine ⟨_, ldk (k := 3) (Sub.refl _) (O.all 1 rfl) q3, _, _, _, rfl, ?_⟩
     obtain ⟨A6, c7, q8, k9, r10⟩ := T_Expr.g4 e_4
     refine ⟨_, ldk (k := 4) (Sub.refl _) (O.all 1 rfl) q8, _, _, _, rfl, ?_⟩
     obtain ⟨y11, g12, e⟩ := bind_e e
     obtain ⟨W17, P18, B19, C20⟩ := O.callC [0]
     refine (rj_form.walk P18 e_io0 g12).mono ?_
     rintro _ h13 ⟨m14, cs22, Q15, rfl, he23⟩
     replace he23 : T_jd.E m y11 cs22 := T_jd.keep he23
     have O24 := Hold.nm (C20 Q15 (vfs_cons rV_vf vfs_nil))
     refine ⟨rfl, ?_⟩
     obtain ⟨A25, c26, q27, k28, r29⟩ := T_Expr.g3 e_4
     refine ⟨_, ldk (k := 3) (Sub.refl _) (O24.all 1 rfl) q27, _, _, _, rfl, ?_⟩
     obtain ⟨y30, g31, e⟩ := bind_e e
     obtain ⟨W36, P37, B38, C39⟩ := O24.callC [2]
     refine (rj_list.walk P37 he23 rfl k28 r29 tab g31).mono ?_
     rintro _ h32 ⟨m33, cs41, Q34, rfl, he42⟩
     replace he42 : T_jd.E m y30 cs41 := T_jd.keep he42
     have O43 := Hold.nm (C39 Q34 (vfs_cons rV_vf vfs_nil))
     refine ⟨rfl, ?_⟩
     obtain ⟨A44, c45, q46, k47, r48⟩ := T_Expr.g4 e_4
     refine ⟨_, ldk (k := 4) (Sub.refl _) (O43.all 1 rfl) q46, _, _, _, rfl, ?_⟩
     obtain ⟨y49, g50, e⟩ := bind_e e
     obtain ⟨W55, P56, B57, C58⟩ := O43.callC [3]
     refine (rj_types.walk P56 he42 rfl k47 r48 tab g50).mono ?_
     rintro _ h51 ⟨m52, cs60, Q53, rfl, he61⟩
     replace he61 : T_jd.E m y49 cs60 := T_jd.keep he61
     have O62 := Hold.nm (C58 Q53 (vfs_cons rV_vf vfs_nil))
     refine ⟨rfl, ?_⟩
     exact (ih _ _ e) (O62.pick [4, 1]).nm he61 e_4 tab
   · obtain ⟨A63, c64, q65, k66, r67⟩ := T_Expr.g3 e_4
     refine ⟨_, ldk (k := 3) (Sub.refl _) (O.all 1 rfl) q65, _, _, _, rfl, ?_⟩
     obtain ⟨A68, c69, q70, k71, r72⟩ := T_Expr.g4 e_4
     refine ⟨_, ldk (k := 4) (Sub.refl _) (O.all 1 rfl) q70, _, _, _, rfl, ?_⟩
     obtain ⟨y73, g74, e⟩ := bind_e e
     obtain ⟨W79, P80, B81, C82⟩ := O.callC [0]
     refine (rj_form.walk P80 e_io0 g74).mono ?_
     rintro _ h75 ⟨m76, cs84, Q77, rfl, he85⟩
     replace he85 : T_jd.E m y73 cs84 := T_jd.keep he85
     have O86 := Hold.nm (C82 Q77 (vfs_cons rV_vf vfs_nil))
     refine ⟨rfl, ?_⟩
     exact (ih _ _ e) (O86.pick [2, 1]).nm he85 e_4 tab
theorem rj_expr_k.step_j4 (go : (p : rj_expr_k.Pt) → Option (T_jd)) (ih : ∀ p r, go p = some r → rj_expr_k.I p r) (y_io0 b_2 y_4) (r) (e : rj_expr_k.body go (.j4 y_io0 b_2 y_4) = some r) : rj_expr_k.I (.j4 y_io0 b_2 y_4) r := by
 unfold rj_expr_k.body at e
 intro W h0 m0 h m bk_io0 cs_io0 bk_4 cs_4 O e_io0 e_4 tab
 refine f39.j4_in ?_
 unfold f39.j4T
 obtain ⟨A1, c2, q3, k4, r5⟩ := T_Expr.g5 e_4
 refine ⟨_, ldk (k := 5) (Sub.refl _) (O.all 1 rfl) q3, _, _, _, rfl, ?_⟩
 exact (ih _ _ e) (O.pick [0, 1]).nm e_io0 e_4 rfl k4 r5 tab
set_option maxHeartbeats 4000000 in
theorem rj_expr_k.step_l0 (go : (p : rj_expr_k.Pt) → Option (T_jd)) (ih : ∀ p r, go p = some r → rj_expr_k.I p r) (y_io0 b_2 y_4 a_139 x_140 x_141) (r) (e : rj_expr_k.body go (.l0 y_io0 b_2 y_4 a_139 x_140 x_141) = some r) : rj_expr_k.I (.l0 y_io0 b_2 y_4 a_139 x_140 x_141) r := by
 unfold rj_expr_k.body at e
 intro W h0 m0 h m bk_io0 cs_io0 bk_4 cs_4 A_139 n_139 c_139 O e_io0 e_4 ne_139 k_139 r_139 tab
 subst ne_139
 refine f39.l0_in ?_
 unfold f39.l0T
 refine split_dec_e e (fun c50 e => ?_) (fun c50 e => ?_)
 · obtain ⟨y1, g2, e⟩ := bind_e e
   refine r_139.addr rfl g2 fun a3 cs4 ha5 hc6 he7 => ?_
   refine ⟨_, ldAn O.s hc6 rfl, ?_⟩
   refine O.new fun h8 x9 O10 => ?_
   refine ⟨_, rfl, (T_Expr.T.len _ _ _ he7), ?_⟩
   refine O10.stA 2 rfl (T_Expr.T.len _ _ _ he7) (T_Expr.T.flat _ _ _ he7) fun h12 O13 => ?_
   refine ⟨_, ldAn (Sub.refl _) (O13.all 2 rfl) (T_Expr.T.len _ _ _ he7), ?_⟩
   refine split_any_e e (fun c44 e => ?_) (fun c44 e => ?_)
   · refine ⟨_, ld0 (Sub.refl _) (O13.all 1 rfl) (T_Expr.g0 e_4), _, rfl, ?_⟩
     obtain ⟨y14, g15, e⟩ := bind_e e
     have O20 := O13.nm
     obtain ⟨W21, P22, B23, C24⟩ := O20.callC [0]
     refine ((ih _ _ g15) P22 e_io0 he7 tab).mono ?_
     rintro _ h16 ⟨m17, cs26, Q18, rfl, he27⟩
     replace he27 : T_jd.E m y14 cs26 := T_jd.keep he27
     have O28 := Hold.nm (C24 Q18 (vfs_cons rV_vf vfs_nil))
     refine ⟨rfl, ?_⟩
     exact (ih _ _ e) (O28.pick [3, 1]).nm he27 e_4 rfl k_139 r_139 tab
   · obtain ⟨y29, g30, e⟩ := bind_e e
     have O35 := O13.nm
     obtain ⟨W36, P37, B38, C39⟩ := O35.callC [0]
     refine ((ih _ _ g30) P37 e_io0 he7 tab).mono ?_
     rintro _ h31 ⟨m32, cs41, Q33, rfl, he42⟩
     replace he42 : T_jd.E m y29 cs41 := T_jd.keep he42
     have O43 := Hold.nm (C39 Q33 (vfs_cons rV_vf vfs_nil))
     refine ⟨rfl, ?_⟩
     exact (ih _ _ e) (O43.pick [3, 1]).nm he42 e_4 rfl k_139 r_139 tab
 · obtain ⟨A45, c46, q47, k48, r49⟩ := T_Expr.g6 e_4
   refine ⟨_, ldk (k := 6) (Sub.refl _) (O.all 1 rfl) q47, _, _, _, rfl, ?_⟩
   exact (ih _ _ e) (O.pick [0]).nm e_io0 rfl k48 r49 tab
theorem rj_expr_k.step_l1 (go : (p : rj_expr_k.Pt) → Option (T_jd)) (ih : ∀ p r, go p = some r → rj_expr_k.I p r) (y_io0 b_2 a_156 x_157 x_158) (r) (e : rj_expr_k.body go (.l1 y_io0 b_2 a_156 x_157 x_158) = some r) : rj_expr_k.I (.l1 y_io0 b_2 a_156 x_157 x_158) r := by
 unfold rj_expr_k.body at e
 intro W h0 m0 h m bk_io0 cs_io0 A_156 n_156 c_156 O e_io0 ne_156 k_156 r_156 tab
 subst ne_156
 refine f39.l1_in ?_
 unfold f39.l1T
 refine split_dec_e e (fun c43 e => ?_) (fun c43 e => ?_)
 · obtain ⟨y1, g2, e⟩ := bind_e e
   refine r_156.addr rfl g2 fun a3 cs4 ha5 hc6 he7 => ?_
   refine ⟨_, ldAn O.s hc6 rfl, ?_⟩
   refine O.new fun h8 x9 O10 => ?_
   refine ⟨_, rfl, (T_Arm.T.len _ _ _ he7), ?_⟩
   refine O10.stA 1 rfl (T_Arm.T.len _ _ _ he7) (T_Arm.T.flat _ _ _ he7) fun h12 O13 => ?_
   refine ⟨_, ldA0n (Sub.refl _) (O13.all 1 rfl) 4 (le_len (T_Arm.T.len _ _ _ he7) (by decide)), ?_⟩
   obtain ⟨y14, g15, e⟩ := bind_e e
   have O20 := O13.nm
   obtain ⟨W21, P22, B23, C24⟩ := O20.callC [0]
   refine (rj_pat.walk P22 e_io0 (T_Arm.u0_95 he7) tab g15).mono ?_
   rintro _ h16 ⟨m17, cs26, Q18, rfl, he27⟩
   replace he27 : T_jd.E m y14 cs26 := T_jd.keep he27
   have O28 := Hold.nm (C24 Q18 (vfs_cons rV_vf vfs_nil))
   refine ⟨rfl, ?_⟩
   refine ⟨_, ldAkn (Sub.refl _) (O28.all 1 rfl) 4 8 (le_len (T_Arm.T.len _ _ _ he7) (by decide)), ?_⟩
   obtain ⟨y29, g30, e⟩ := bind_e e
   obtain ⟨W35, P36, B37, C38⟩ := O28.callC [2]
   refine ((ih _ _ g30) P36 he27 (T_Arm.u4_48 he7) tab).mono ?_
   rintro _ h31 ⟨m32, cs40, Q33, rfl, he41⟩
   replace he41 : T_jd.E m y29 cs40 := T_jd.keep he41
   have O42 := Hold.nm (C38 Q33 (vfs_cons rV_vf vfs_nil))
   refine ⟨rfl, ?_⟩
   exact (ih _ _ e) (O42.pick [3]).nm he41 rfl k_156 r_156 tab
 · cases e
   exact ⟨_, _, O.pick [0], rfl, e_io0⟩
theorem rj_expr_k.all {p : rj_expr_k.Pt} {r : (T_jd)} (e : rj_expr_k.go p = some r) : rj_expr_k.I p r := fixF_ind (β := fun _ => (T_jd)) rj_expr_k.mono (I := rj_expr_k.I) (fun go ih p r e => match p with
 | .f y_0 y_1 b_2 => rj_expr_k.step_f go ih y_0 y_1 b_2 r e
 | .j0 y_io0 b_2 y_4 x_6 x_7 => rj_expr_k.step_j0 go ih y_io0 b_2 y_4 x_6 x_7 r e
 | .j1 y_io0 b_2 y_4 => rj_expr_k.step_j1 go ih y_io0 b_2 y_4 r e
 | .j2 y_io0 b_2 y_4 b_8 => rj_expr_k.step_j2 go ih y_io0 b_2 y_4 b_8 r e
 | .j3 y_io0 b_2 y_4 => rj_expr_k.step_j3 go ih y_io0 b_2 y_4 r e
 | .j4 y_io0 b_2 y_4 => rj_expr_k.step_j4 go ih y_io0 b_2 y_4 r e
 | .l0 y_io0 b_2 y_4 a_139 x_140 x_141 => rj_expr_k.step_l0 go ih y_io0 b_2 y_4 a_139 x_140 x_141 r e
 | .l1 y_io0 b_2 a_156 x_157 x_158 => rj_expr_k.step_l1 go ih y_io0 b_2 a_156 x_157 x_158 r e
 ) e
theorem rj_expr.walk {W h m bkio0 cs_0 cs_1 y_0 y_1 b_2} (O : Hold W h m h m [rV bkio0 57 cs_0]) (e_0 : T_jd.E m y_0 cs_0) (e_1 : T_Expr.E m y_1 cs_1) (tab : TB m) {r} (e : rj_expr y_0 y_1 b_2 = some r) : Run Tryz.prog 39 #[Value.pointer (some ⟨bkio0, 0, none⟩), Value.agg cs_1.toArray, Value.bool b_2] h (rj_expr.post W bkio0 h m r) := rj_expr_k.all (p := .f y_0 y_1 b_2) e O e_0 e_1 tab
def rj_body.post (W : Nat → Prop) (bkio0 : Nat) (h0 m0 : Heap) (r : T_jd) (v : Value) (h : Heap) : Prop := ∃ m csio0, Hold W h0 m0 h m [rV bkio0 57 csio0] ∧ v = .tuple #[] ∧ T_jd.E m r csio0
noncomputable def rj_body.j0 (y_io0 : T_jd) (b_2 : Bool) (y_4 : T_Expr) : Option (T_jd) :=
 Option.bind (rj_expr y_io0 y_4 b_2) fun y1 => some (y1)
theorem rj_body.j0.walk {W h0 m0 h m bk_io0 cs_io0 bk_4 cs_4 y_io0 b_2 y_4} (O : Hold W h0 m0 h m [rV bk_io0 57 cs_io0, rV bk_4 48 cs_4]) (e_io0 : T_jd.E m y_io0 cs_io0) (e_4 : T_Expr.E m y_4 cs_4) (tab : TB m) {r} (e : rj_body.j0 y_io0 b_2 y_4 = some r) : f21.j0 (rj_body.post W bk_io0 h0 m0 r) (⟨bk_io0, 0, none⟩ : Addr) b_2 (⟨bk_4, 0, none⟩ : Addr) h := by
 unfold rj_body.j0 at e
 refine f21.j0_in ?_
 unfold f21.j0T
 refine ⟨_, ldAn (Sub.refl _) (O.all 1 rfl) (T_Expr.T.len _ _ _ e_4), ?_⟩
 obtain ⟨y1, g2, e⟩ := bind_e e
 obtain ⟨W7, P8, B9, C10⟩ := O.callC [0]
 refine (rj_expr.walk P8 e_io0 e_4 tab g2).mono ?_
 rintro _ h3 ⟨m4, cs12, Q5, rfl, he13⟩
 replace he13 : T_jd.E m y1 cs12 := T_jd.keep he13
 have O14 := Hold.nm (C10 Q5 (vfs_cons rV_vf vfs_nil))
 refine ⟨rfl, ?_⟩
 cases e
 exact ⟨_, _, O14.pick [2], rfl, he13⟩
noncomputable def rj_body (y_0 : T_jd) (y_1 : T_Expr) (b_2 : Bool) : Option (T_jd) :=
 Option.bind (r2_SizeOf y_1) fun y5 => if y5 ≤ (400 : Int) then (Option.bind (r2_DeepOf y_1) fun y12 => Option.bind (rj_few y_0 (decide (y12 ≤ (40 : Int)))) fun y19 => (rj_body.j0 y19 b_2 y_1)) else (Option.bind (rj_few y_0 false) fun y33 => (rj_body.j0 y33 b_2 y_1))
theorem rj_body.walk {W h m bkio0 cs_0 cs_1 y_0 y_1 b_2} (O : Hold W h m h m [rV bkio0 57 cs_0]) (e_0 : T_jd.E m y_0 cs_0) (e_1 : T_Expr.E m y_1 cs_1) (tab : TB m) {r} (e : rj_body y_0 y_1 b_2 = some r) : Run Tryz.prog 21 #[Value.pointer (some ⟨bkio0, 0, none⟩), Value.agg cs_1.toArray, Value.bool b_2] h (rj_body.post W bkio0 h m r) := by
 unfold rj_body at e
 refine f21.run ?_
 unfold f21.runT
 refine O.new fun h1 x2 O3 => ?_
 refine ⟨_, ldAn (Sub.refl _) (O3.all 1 rfl) (T_Expr.T.len _ _ _ e_1), ?_⟩
 obtain ⟨y5, g6, e⟩ := bind_e e
 refine (r2_SizeOf.walk (Hold.start (W := No) O3.s) e_1 g6).mono ?_
 rintro _ h7 ⟨m8, Q9, rfl⟩
 have O11 := Hold.nm (O3.retC Q9 vfs_nil)
 refine ⟨_, rfl, ?_⟩
 refine split_dec_e e (fun c47 e => ?_) (fun c47 e => ?_)
 · refine ⟨_, ldAn (Sub.refl _) (O11.all 1 rfl) (T_Expr.T.len _ _ _ e_1), ?_⟩
   obtain ⟨y12, g13, e⟩ := bind_e e
   refine (r2_DeepOf.walk (Hold.start (W := No) O11.s) e_1 g13).mono ?_
   rintro _ h14 ⟨m15, Q16, rfl⟩
   have O18 := Hold.nm (O11.retC Q16 vfs_nil)
   refine ⟨_, rfl, ?_⟩
   obtain ⟨y19, g20, e⟩ := bind_e e
   obtain ⟨W25, P26, B27, C28⟩ := O18.callC [0]
   refine (rj_few.walk P26 e_0 g20).mono ?_
   rintro _ h21 ⟨m22, cs30, Q23, rfl, he31⟩
   replace he31 : T_jd.E m y19 cs30 := T_jd.keep he31
   have O32 := Hold.nm (C28 Q23 (vfs_cons rV_vf vfs_nil))
   refine ⟨rfl, ?_⟩
   exact rj_body.j0.walk (O32.pick [2, 1]).nm he31 e_1 tab e
 · obtain ⟨y33, g34, e⟩ := bind_e e
   obtain ⟨W39, P40, B41, C42⟩ := O11.callC [0]
   refine (rj_few.walk P40 e_0 g34).mono ?_
   rintro _ h35 ⟨m36, cs44, Q37, rfl, he45⟩
   replace he45 : T_jd.E m y33 cs44 := T_jd.keep he45
   have O46 := Hold.nm (C42 Q37 (vfs_cons rV_vf vfs_nil))
   refine ⟨rfl, ?_⟩
   exact rj_body.j0.walk (O46.pick [2, 1]).nm he45 e_1 tab e
def strconv_Itoa.post (W : Nat → Prop) (h0 m0 : Heap) (r : ByteArray) (v : Value) (h : Heap) : Prop := ∃ m , Hold W h0 m0 h m [] ∧ v = .string r
noncomputable def strconv_Itoa (x0 : Int) : Option ByteArray := if -9223372036854775808 ≤ x0 ∧ x0 ≤ 9223372036854775807 then some (itoaB x0) else none
theorem strconv_Itoa.walk {W : Nat → Prop} {h m : Heap} {x0 : Int} (O : Hold W h m h m []) (tab : TB m) {r : ByteArray} (e : strconv_Itoa x0 = some r) : Run Tryz.prog 85 #[Value.int .i64 x0] h (strconv_Itoa.post W h m r) := by
 unfold strconv_Itoa at e
 exact (itoa_run (by kernel_rfl) Tryz.strconv_Itoa O tab.1 e).mono fun v h' hp => hp
def r2_nums.post (W : Nat → Prop) (h0 m0 : Heap) (r : ByteArray) (v : Value) (h : Heap) : Prop := ∃ m , Hold W h0 m0 h m [] ∧ v = .string r
inductive r2_nums.l0_k.Pt where
 | l0 (s_3 : ByteArray) (a_6 : List Int) (x_7 : Int) (x_8 : Int)
noncomputable def r2_nums.l0_k.body (go : (p : r2_nums.l0_k.Pt) → Option (ByteArray)) : (p : r2_nums.l0_k.Pt) → Option (ByteArray)
 | .l0 s_3 a_6 x_7 x_8 => if x_8 < x_7 then (Option.bind (gi a_6 x_8) fun y1 => Option.bind (strconv_Itoa y1) fun y8 => if ByteArray.size y8 + ByteArray.size (ByteArray.mk #[44]) ≤ 9223372036854775807 then (if ByteArray.size s_3 + ByteArray.size (y8 ++ (ByteArray.mk #[44])) ≤ 9223372036854775807 then ((go (.l0 (s_3 ++ (y8 ++ (ByteArray.mk #[44]))) a_6 x_7 (IntKind.wrap .i64 (x_8 + (1 : Int)))))) else none) else none) else (some (s_3))
theorem r2_nums.l0_k.mono : MonoF (β := fun _ => (ByteArray)) r2_nums.l0_k.body := fun f g hfg p => match p with
 | .l0 s_3 a_6 x_7 x_8 => LeO.ite (LeO.bind (LeO.refl _) fun y1 => LeO.bind (LeO.refl _) fun y8 => LeO.ite (LeO.ite ((hfg _)) (LeO.refl _)) (LeO.refl _)) (LeO.refl _)
noncomputable def r2_nums.l0_k.go (p : r2_nums.l0_k.Pt) : Option (ByteArray) := fixF (β := fun _ => (ByteArray)) r2_nums.l0_k.body p
noncomputable def r2_nums.l0 (s_3 a_6 x_7 x_8) := r2_nums.l0_k.go (.l0 s_3 a_6 x_7 x_8)
theorem r2_nums.l0_eq (s_3 a_6 x_7 x_8) : r2_nums.l0 s_3 a_6 x_7 x_8 = if x_8 < x_7 then (Option.bind (gi a_6 x_8) fun y1 => Option.bind (strconv_Itoa y1) fun y8 => if ByteArray.size y8 + ByteArray.size (ByteArray.mk #[44]) ≤ 9223372036854775807 then (if ByteArray.size s_3 + ByteArray.size (y8 ++ (ByteArray.mk #[44])) ≤ 9223372036854775807 then ((r2_nums.l0 (s_3 ++ (y8 ++ (ByteArray.mk #[44]))) a_6 x_7 (IntKind.wrap .i64 (x_8 + (1 : Int))))) else none) else none) else (some (s_3)) := fixF_eq r2_nums.l0_k.mono _
def r2_nums.l0_k.I : (p : r2_nums.l0_k.Pt) → (ByteArray) → Prop
 | .l0 s_3 a_6 x_7 x_8, r => ∀ {W h0 m0 h m A_6 n_6 c_6} (O : Hold W h0 m0 h m []) (ne_6 : n_6 = List.length a_6) (k_6 : List.length a_6 ≤ c_6) (r_6 : Rd 1 (eInt .i64) m A_6 a_6) (tab : TB m), f56.l0 (r2_nums.post W h0 m0 r) s_3 A_6 n_6 c_6 x_7 x_8 h
theorem r2_nums.l0_k.step_l0 (go : (p : r2_nums.l0_k.Pt) → Option (ByteArray)) (ih : ∀ p r, go p = some r → r2_nums.l0_k.I p r) (s_3 a_6 x_7 x_8) (r) (e : r2_nums.l0_k.body go (.l0 s_3 a_6 x_7 x_8) = some r) : r2_nums.l0_k.I (.l0 s_3 a_6 x_7 x_8) r := by
 unfold r2_nums.l0_k.body at e
 intro W h0 m0 h m A_6 n_6 c_6 O ne_6 k_6 r_6 tab
 subst ne_6
 refine f56.l0_in ?_
 unfold f56.l0T
 refine split_dec_e e (fun c17 e => ?_) (fun c17 e => ?_)
 · obtain ⟨y1, g2, e⟩ := bind_e e
   refine r_6.addr rfl g2 fun a3 cs4 ha5 hc6 he7 => ?_
   obtain rfl : cs4 = [(Value.int .i64 y1)] := he7
   refine ⟨_, ld0 O.s hc6 rfl, _, rfl, ?_⟩
   obtain ⟨y8, g9, e⟩ := bind_e e
   refine (strconv_Itoa.walk (Hold.start (W := No) O.s) tab g9).mono ?_
   rintro _ h10 ⟨m11, Q12, rfl⟩
   have O14 := Hold.nm (O.retC Q12 vfs_nil)
   refine ⟨_, rfl, ?_⟩
   obtain ⟨g15, e⟩ := guard_e e
   refine ⟨g15, ?_⟩
   obtain ⟨g16, e⟩ := guard_e e
   refine ⟨g16, ?_⟩
   exact (ih _ _ e) (O14.pick []).nm rfl k_6 r_6 tab
 · cases e
   exact ⟨_, O.pick [], rfl⟩
theorem r2_nums.l0_k.all {p : r2_nums.l0_k.Pt} {r : (ByteArray)} (e : r2_nums.l0_k.go p = some r) : r2_nums.l0_k.I p r := fixF_ind (β := fun _ => (ByteArray)) r2_nums.l0_k.mono (I := r2_nums.l0_k.I) (fun go ih p r e => match p with
 | .l0 s_3 a_6 x_7 x_8 => r2_nums.l0_k.step_l0 go ih s_3 a_6 x_7 x_8 r e
 ) e
noncomputable def r2_nums (a_0 : List Int) : Option (ByteArray) :=
 (r2_nums.l0 (ByteArray.mk #[]) a_0 (((List.length a_0) : Nat) : Int) (0 : Int))
theorem r2_nums.walk {W h m A_0 n_0 c_0 a_0} (O : Hold W h m h m []) (ne_0 : n_0 = List.length a_0) (k_0 : List.length a_0 ≤ c_0) (r_0 : Rd 1 (eInt .i64) m A_0 a_0) (tab : TB m) {r} (e : r2_nums a_0 = some r) : Run Tryz.prog 56 #[Value.slice A_0 n_0 c_0] h (r2_nums.post W h m r) := by
 unfold r2_nums at e
 subst ne_0
 refine f56.run ?_
 unfold f56.runT
 exact (r2_nums.l0_k.all e) (O.pick []).nm rfl k_0 r_0 tab
def r2_texts.post (W : Nat → Prop) (h0 m0 : Heap) (r : ByteArray) (v : Value) (h : Heap) : Prop := ∃ m , Hold W h0 m0 h m [] ∧ v = .string r
inductive r2_texts.l0_k.Pt where
 | l0 (s_3 : ByteArray) (a_6 : List ByteArray) (x_7 : Int) (x_8 : Int)
noncomputable def r2_texts.l0_k.body (go : (p : r2_texts.l0_k.Pt) → Option (ByteArray)) : (p : r2_texts.l0_k.Pt) → Option (ByteArray)
 | .l0 s_3 a_6 x_7 x_8 => if x_8 < x_7 then (Option.bind (gi a_6 x_8) fun y1 => Option.bind (r2_nums ([((ByteArray.size y1 : Nat) : Int)] : List Int)) fun y13 => if ByteArray.size y13 + ByteArray.size y1 ≤ 9223372036854775807 then (if ByteArray.size s_3 + ByteArray.size (y13 ++ y1) ≤ 9223372036854775807 then ((go (.l0 (s_3 ++ (y13 ++ y1)) a_6 x_7 (IntKind.wrap .i64 (x_8 + (1 : Int)))))) else none) else none) else (some (s_3))
theorem r2_texts.l0_k.mono : MonoF (β := fun _ => (ByteArray)) r2_texts.l0_k.body := fun f g hfg p => match p with
 | .l0 s_3 a_6 x_7 x_8 => LeO.ite (LeO.bind (LeO.refl _) fun y1 => LeO.bind (LeO.refl _) fun y13 => LeO.ite (LeO.ite ((hfg _)) (LeO.refl _)) (LeO.refl _)) (LeO.refl _)
noncomputable def r2_texts.l0_k.go (p : r2_texts.l0_k.Pt) : Option (ByteArray) := fixF (β := fun _ => (ByteArray)) r2_texts.l0_k.body p
noncomputable def r2_texts.l0 (s_3 a_6 x_7 x_8) := r2_texts.l0_k.go (.l0 s_3 a_6 x_7 x_8)
theorem r2_texts.l0_eq (s_3 a_6 x_7 x_8) : r2_texts.l0 s_3 a_6 x_7 x_8 = if x_8 < x_7 then (Option.bind (gi a_6 x_8) fun y1 => Option.bind (r2_nums ([((ByteArray.size y1 : Nat) : Int)] : List Int)) fun y13 => if ByteArray.size y13 + ByteArray.size y1 ≤ 9223372036854775807 then (if ByteArray.size s_3 + ByteArray.size (y13 ++ y1) ≤ 9223372036854775807 then ((r2_texts.l0 (s_3 ++ (y13 ++ y1)) a_6 x_7 (IntKind.wrap .i64 (x_8 + (1 : Int))))) else none) else none) else (some (s_3)) := fixF_eq r2_texts.l0_k.mono _
def r2_texts.l0_k.I : (p : r2_texts.l0_k.Pt) → (ByteArray) → Prop
 | .l0 s_3 a_6 x_7 x_8, r => ∀ {W h0 m0 h m A_6 n_6 c_6} (O : Hold W h0 m0 h m []) (ne_6 : n_6 = List.length a_6) (k_6 : List.length a_6 ≤ c_6) (r_6 : Rd 1 eStr m A_6 a_6) (tab : TB m), f57.l0 (r2_texts.post W h0 m0 r) s_3 A_6 n_6 c_6 x_7 x_8 h
theorem r2_texts.l0_k.step_l0 (go : (p : r2_texts.l0_k.Pt) → Option (ByteArray)) (ih : ∀ p r, go p = some r → r2_texts.l0_k.I p r) (s_3 a_6 x_7 x_8) (r) (e : r2_texts.l0_k.body go (.l0 s_3 a_6 x_7 x_8) = some r) : r2_texts.l0_k.I (.l0 s_3 a_6 x_7 x_8) r := by
 unfold r2_texts.l0_k.body at e
 intro W h0 m0 h m A_6 n_6 c_6 O ne_6 k_6 r_6 tab
 subst ne_6
 refine f57.l0_in ?_
 unfold f57.l0T
 refine split_dec_e e (fun c30 e => ?_) (fun c30 e => ?_)
 · obtain ⟨y1, g2, e⟩ := bind_e e
   refine r_6.addr rfl g2 fun a3 cs4 ha5 hc6 he7 => ?_
   obtain rfl : cs4 = [(Value.string y1)] := he7
   refine ⟨_, ld0 O.s hc6 rfl, _, rfl, ?_⟩
   refine O.new fun h8 x9 O10 => ?_
   obtain ⟨y13, g14, e⟩ := bind_e e
   have O12 := O10.rowE (l := ([((ByteArray.size y1 : Nat) : Int)] : List Int)) 0 rfl (tell_int .i64) (show CsE _ _ _ _ _ from (CsE.cons (c1 := [(Value.int .i64 ((ByteArray.size y1 : Nat) : Int))]) rfl rfl CsE.nil)) rfl
   have O19 := O12.nm
   obtain ⟨m20, u21, s26, ⟨⟨r24, k25⟩, _⟩, B22, C23⟩ := O19.lend0 [0]
   replace r24 : Rd 1 (eInt .i64) m20 (some ⟨(Array.size h), 0, none⟩) ([((ByteArray.size y1 : Nat) : Int)] : List Int) := r24
   replace k25 : List.length ([((ByteArray.size y1 : Nat) : Int)] : List Int) ≤ 1 := k25
   refine (r2_nums.walk (Hold.start (W := No) s26) rfl k25 r24 (TB.sub tab u21) g14).mono ?_
   rintro _ h15 ⟨m16, Q17, rfl⟩
   have O27 := Hold.nm (C23 Q17 vfs_nil)
   refine ⟨_, rfl, ?_⟩
   obtain ⟨g28, e⟩ := guard_e e
   refine ⟨g28, ?_⟩
   obtain ⟨g29, e⟩ := guard_e e
   refine ⟨g29, ?_⟩
   exact (ih _ _ e) (O27.pick []).nm rfl k_6 r_6 tab
 · cases e
   exact ⟨_, O.pick [], rfl⟩
theorem r2_texts.l0_k.all {p : r2_texts.l0_k.Pt} {r : (ByteArray)} (e : r2_texts.l0_k.go p = some r) : r2_texts.l0_k.I p r := fixF_ind (β := fun _ => (ByteArray)) r2_texts.l0_k.mono (I := r2_texts.l0_k.I) (fun go ih p r e => match p with
 | .l0 s_3 a_6 x_7 x_8 => r2_texts.l0_k.step_l0 go ih s_3 a_6 x_7 x_8 r e
 ) e
noncomputable def r2_texts (a_0 : List ByteArray) : Option (ByteArray) :=
 (r2_texts.l0 (ByteArray.mk #[]) a_0 (((List.length a_0) : Nat) : Int) (0 : Int))
theorem r2_texts.walk {W h m A_0 n_0 c_0 a_0} (O : Hold W h m h m []) (ne_0 : n_0 = List.length a_0) (k_0 : List.length a_0 ≤ c_0) (r_0 : Rd 1 eStr m A_0 a_0) (tab : TB m) {r} (e : r2_texts a_0 = some r) : Run Tryz.prog 57 #[Value.slice A_0 n_0 c_0] h (r2_texts.post W h m r) := by
 unfold r2_texts at e
 subst ne_0
 refine f57.run ?_
 unfold f57.runT
 exact (r2_texts.l0_k.all e) (O.pick []).nm rfl k_0 r_0 tab
def r2_TypeMark.post (W : Nat → Prop) (h0 m0 : Heap) (r : ByteArray) (v : Value) (h : Heap) : Prop := ∃ m , Hold W h0 m0 h m [] ∧ v = .string r
inductive r2_TypeMark_k.Pt where
 | f (y_0 : T_Type)
 | j0 (y_1 : T_Type) (s_3 : ByteArray)
 | l0 (s_3 : ByteArray) (a_19 : List T_Type) (x_20 : Int) (x_21 : Int)
noncomputable def r2_TypeMark_k.body (go : (p : r2_TypeMark_k.Pt) → Option (ByteArray)) : (p : r2_TypeMark_k.Pt) → Option (ByteArray)
 | .f y_0 => Option.bind (r2_nums ([y_0.Kind, (((List.length y_0.Args) : Nat) : Int)] : List Int)) fun y15 => Option.bind (r2_texts ([y_0.Name] : List ByteArray)) fun y35 => if ByteArray.size y15 + ByteArray.size y35 ≤ 9223372036854775807 then ((go (.j0 y_0 (y15 ++ y35)))) else none
 | .j0 y_1 s_3 => (go (.l0 s_3 y_1.Args (((List.length y_1.Args) : Nat) : Int) (0 : Int)))
 | .l0 s_3 a_19 x_20 x_21 => if x_21 < x_20 then (Option.bind (gi a_19 x_21) fun y1 => Option.bind ((go (.f y1))) fun y14 => if ByteArray.size s_3 + ByteArray.size y14 ≤ 9223372036854775807 then ((go (.l0 (s_3 ++ y14) a_19 x_20 (IntKind.wrap .i64 (x_21 + (1 : Int)))))) else none) else (some (s_3))
theorem r2_TypeMark_k.mono : MonoF (β := fun _ => (ByteArray)) r2_TypeMark_k.body := fun f g hfg p => match p with
 | .f y_0 => LeO.bind (LeO.refl _) fun y15 => LeO.bind (LeO.refl _) fun y35 => LeO.ite ((hfg _)) (LeO.refl _)
 | .j0 y_1 s_3 => (hfg _)
 | .l0 s_3 a_19 x_20 x_21 => LeO.ite (LeO.bind (LeO.refl _) fun y1 => LeO.bind ((hfg _)) fun y14 => LeO.ite ((hfg _)) (LeO.refl _)) (LeO.refl _)
noncomputable def r2_TypeMark_k.go (p : r2_TypeMark_k.Pt) : Option (ByteArray) := fixF (β := fun _ => (ByteArray)) r2_TypeMark_k.body p
noncomputable def r2_TypeMark (y_0) := r2_TypeMark_k.go (.f y_0)
noncomputable def r2_TypeMark.j0 (y_1 s_3) := r2_TypeMark_k.go (.j0 y_1 s_3)
noncomputable def r2_TypeMark.l0 (s_3 a_19 x_20 x_21) := r2_TypeMark_k.go (.l0 s_3 a_19 x_20 x_21)
theorem r2_TypeMark_eq (y_0) : r2_TypeMark y_0 = Option.bind (r2_nums ([y_0.Kind, (((List.length y_0.Args) : Nat) : Int)] : List Int)) fun y15 => Option.bind (r2_texts ([y_0.Name] : List ByteArray)) fun y35 => if ByteArray.size y15 + ByteArray.size y35 ≤ 9223372036854775807 then ((r2_TypeMark.j0 y_0 (y15 ++ y35))) else none := fixF_eq r2_TypeMark_k.mono _
theorem r2_TypeMark.j0_eq (y_1 s_3) : r2_TypeMark.j0 y_1 s_3 = (r2_TypeMark.l0 s_3 y_1.Args (((List.length y_1.Args) : Nat) : Int) (0 : Int)) := fixF_eq r2_TypeMark_k.mono _
theorem r2_TypeMark.l0_eq (s_3 a_19 x_20 x_21) : r2_TypeMark.l0 s_3 a_19 x_20 x_21 = if x_21 < x_20 then (Option.bind (gi a_19 x_21) fun y1 => Option.bind ((r2_TypeMark y1)) fun y14 => if ByteArray.size s_3 + ByteArray.size y14 ≤ 9223372036854775807 then ((r2_TypeMark.l0 (s_3 ++ y14) a_19 x_20 (IntKind.wrap .i64 (x_21 + (1 : Int))))) else none) else (some (s_3)) := fixF_eq r2_TypeMark_k.mono _
def r2_TypeMark_k.I : (p : r2_TypeMark_k.Pt) → (ByteArray) → Prop
 | .f y_0, r => ∀ {W h m cs_0} (O : Hold W h m h m []) (e_0 : T_Type.E m y_0 cs_0) (tab : TB m), Run Tryz.prog 58 #[Value.agg cs_0.toArray] h (r2_TypeMark.post W h m r)
 | .j0 y_1 s_3, r => ∀ {W h0 m0 h m bk_1 cs_1} (O : Hold W h0 m0 h m [rV bk_1 44 cs_1]) (e_1 : T_Type.E m y_1 cs_1) (tab : TB m), f58.j0 (r2_TypeMark.post W h0 m0 r) (⟨bk_1, 0, none⟩ : Addr) s_3 h
 | .l0 s_3 a_19 x_20 x_21, r => ∀ {W h0 m0 h m A_19 n_19 c_19} (O : Hold W h0 m0 h m []) (ne_19 : n_19 = List.length a_19) (k_19 : List.length a_19 ≤ c_19) (r_19 : Rd 3 T_Type.E m A_19 a_19) (tab : TB m), f58.l0 (r2_TypeMark.post W h0 m0 r) s_3 A_19 n_19 c_19 x_20 x_21 h
set_option maxHeartbeats 4000000 in
theorem r2_TypeMark_k.step_f (go : (p : r2_TypeMark_k.Pt) → Option (ByteArray)) (ih : ∀ p r, go p = some r → r2_TypeMark_k.I p r) (y_0) (r) (e : r2_TypeMark_k.body go (.f y_0) = some r) : r2_TypeMark_k.I (.f y_0) r := by
 unfold r2_TypeMark_k.body at e
 intro W h m cs_0 O e_0 tab
 refine f58.run ?_
 unfold f58.runT
 refine O.new fun h1 x2 O3 => ?_
 refine ⟨_, ld0 (Sub.refl _) (O3.all 0 rfl) (T_Type.g0 e_0), _, rfl, ?_⟩
 obtain ⟨A5, c6, q7, k8, r9⟩ := T_Type.g2 e_0
 refine ⟨_, ldk (k := 2) (Sub.refl _) (O3.all 0 rfl) q7, _, _, _, rfl, ?_⟩
 refine ⟨_, ldk (k := 1) (Sub.refl _) (O3.all 0 rfl) (T_Type.g1 e_0), _, rfl, ?_⟩
 obtain ⟨y15, g16, e⟩ := bind_e e
 obtain ⟨y35, g36, e⟩ := bind_e e
 refine ⟨?_, ?_⟩
 · refine O3.new fun h51 x52 O53 => ?_
   refine ⟨ldk (k := 1) (Sub.refl _) (O53.all 0 rfl) (T_Type.g1 e_0), ?_⟩
   refine ⟨?_, ?_⟩
   · have O55 := O53.rowE (l := ([y_0.Kind, (((List.length y_0.Args) : Nat) : Int)] : List Int)) 1 rfl (tell_int .i64) (show CsE _ _ _ _ _ from (CsE.cons (c1 := [(Value.int .i64 y_0.Kind)]) rfl rfl (CsE.cons (c1 := [(Value.int .i64 (((List.length y_0.Args) : Nat) : Int))]) rfl rfl CsE.nil))) rfl
     have O62 := O55.nm
     obtain ⟨m63, u64, s69, ⟨⟨r67, k68⟩, _⟩, B65, C66⟩ := O62.lend0 [1]
     replace r67 : Rd 1 (eInt .i64) m63 (some ⟨(Array.size h1), 0, none⟩) ([y_0.Kind, (((List.length y_0.Args) : Nat) : Int)] : List Int) := r67
     replace k68 : List.length ([y_0.Kind, (((List.length y_0.Args) : Nat) : Int)] : List Int) ≤ 2 := k68
     refine (r2_nums.walk (Hold.start (W := No) s69) rfl k68 r67 (TB.sub tab u64) g16).mono ?_
     rintro _ h58 ⟨m59, Q60, rfl⟩
     have O70 := Hold.nm (C66 Q60 vfs_nil)
     refine ⟨_, rfl, ?_⟩
     refine ⟨ldk (k := 1) (Sub.refl _) (O70.all 0 rfl) (T_Type.g1 e_0), ?_⟩
     refine O70.new fun h71 x72 O73 => ?_
     refine ⟨((x52.trans Q60.S.ext).trans x72), ?_⟩
     have O75 := O73.rowE (l := ([y_0.Name] : List ByteArray)) 2 rfl tell_str (show CsE _ _ _ _ _ from (CsE.cons (c1 := [(Value.string y_0.Name)]) rfl rfl CsE.nil)) rfl
     have O82 := O75.nm
     obtain ⟨m83, u84, s89, ⟨⟨r87, k88⟩, _⟩, B85, C86⟩ := O82.lend0 [2]
     replace r87 : Rd 1 eStr m83 (some ⟨(Array.size h58), 0, none⟩) ([y_0.Name] : List ByteArray) := r87
     replace k88 : List.length ([y_0.Name] : List ByteArray) ≤ 1 := k88
     refine (r2_texts.walk (Hold.start (W := No) s89) rfl k88 r87 (TB.sub tab u84) g36).mono ?_
     rintro _ h78 ⟨m79, Q80, rfl⟩
     have O90 := Hold.nm (C86 Q80 vfs_nil)
     refine ⟨_, rfl, ?_⟩
     obtain ⟨g91, e⟩ := guard_e e
     refine ⟨g91, ?_⟩
     exact (ih _ _ e) (O90.pick [0]).nm e_0 tab
   · refine O53.new fun h92 x93 O94 => ?_
     refine ⟨(x52.trans x93), ?_⟩
     have O96 := O94.rowE (l := ([y_0.Kind, (((List.length y_0.Args) : Nat) : Int)] : List Int)) 1 rfl (tell_int .i64) (show CsE _ _ _ _ _ from (CsE.cons (c1 := [(Value.int .i64 y_0.Kind)]) rfl rfl (CsE.cons (c1 := [(Value.int .i64 (((List.length y_0.Args) : Nat) : Int))]) rfl rfl CsE.nil))) rfl
     have O103 := O96.nm
     obtain ⟨m104, u105, s110, ⟨⟨r108, k109⟩, _⟩, B106, C107⟩ := O103.lend0 [1]
     replace r108 : Rd 1 (eInt .i64) m104 (some ⟨(Array.size h1), 0, none⟩) ([y_0.Kind, (((List.length y_0.Args) : Nat) : Int)] : List Int) := r108
     replace k109 : List.length ([y_0.Kind, (((List.length y_0.Args) : Nat) : Int)] : List Int) ≤ 2 := k109
     refine (r2_nums.walk (Hold.start (W := No) s110) rfl k109 r108 (TB.sub tab u105) g16).mono ?_
     rintro _ h99 ⟨m100, Q101, rfl⟩
     have O111 := Hold.nm (C107 Q101 vfs_nil)
     refine ⟨_, rfl, ?_⟩
     refine ⟨ldk (k := 1) (Sub.refl _) (O111.all 0 rfl) (T_Type.g1 e_0), ?_⟩
     have O112 := O111.rowE (l := ([y_0.Name] : List ByteArray)) 2 rfl tell_str (show CsE _ _ _ _ _ from (CsE.cons (c1 := [(Value.string y_0.Name)]) rfl rfl CsE.nil)) rfl
     have O119 := O112.nm
     obtain ⟨m120, u121, s126, ⟨⟨r124, k125⟩, _⟩, B122, C123⟩ := O119.lend0 [2]
     replace r124 : Rd 1 eStr m120 (some ⟨(Array.size h51), 0, none⟩) ([y_0.Name] : List ByteArray) := r124
     replace k125 : List.length ([y_0.Name] : List ByteArray) ≤ 1 := k125
     refine (r2_texts.walk (Hold.start (W := No) s126) rfl k125 r124 (TB.sub tab u121) g36).mono ?_
     rintro _ h115 ⟨m116, Q117, rfl⟩
     have O127 := Hold.nm (C123 Q117 vfs_nil)
     refine ⟨_, rfl, ?_⟩
     obtain ⟨g128, e⟩ := guard_e e
     refine ⟨g128, ?_⟩
     exact (ih _ _ e) (O127.pick [0]).nm e_0 tab
 · refine O3.new fun h129 x130 O131 => ?_
   refine ⟨x130, ?_⟩
   refine O131.new fun h133 x134 O135 => ?_
   refine ⟨ldk (k := 1) (Sub.refl _) (O135.all 0 rfl) (T_Type.g1 e_0), ?_⟩
   have O137 := O135.rowE (l := ([y_0.Kind, (((List.length y_0.Args) : Nat) : Int)] : List Int)) 2 rfl (tell_int .i64) (show CsE _ _ _ _ _ from (CsE.cons (c1 := [(Value.int .i64 y_0.Kind)]) rfl rfl (CsE.cons (c1 := [(Value.int .i64 (((List.length y_0.Args) : Nat) : Int))]) rfl rfl CsE.nil))) rfl
   have O144 := O137.nm
   obtain ⟨m145, u146, s151, ⟨⟨r149, k150⟩, _⟩, B147, C148⟩ := O144.lend0 [2]
   replace r149 : Rd 1 (eInt .i64) m145 (some ⟨(Array.size h129), 0, none⟩) ([y_0.Kind, (((List.length y_0.Args) : Nat) : Int)] : List Int) := r149
   replace k150 : List.length ([y_0.Kind, (((List.length y_0.Args) : Nat) : Int)] : List Int) ≤ 2 := k150
   refine (r2_nums.walk (Hold.start (W := No) s151) rfl k150 r149 (TB.sub tab u146) g16).mono ?_
   rintro _ h140 ⟨m141, Q142, rfl⟩
   have O152 := Hold.nm (C148 Q142 vfs_nil)
   refine ⟨_, rfl, ?_⟩
   refine ⟨ldk (k := 1) (Sub.refl _) (O152.all 0 rfl) (T_Type.g1 e_0), ?_⟩
   have O153 := O152.rowE (l := ([y_0.Name] : List ByteArray)) 1 rfl tell_str (show CsE _ _ _ _ _ from (CsE.cons (c1 := [(Value.string y_0.Name)]) rfl rfl CsE.nil)) rfl
   have O160 := O153.nm
   obtain ⟨m161, u162, s167, ⟨⟨r165, k166⟩, _⟩, B163, C164⟩ := O160.lend0 [1]
   replace r165 : Rd 1 eStr m161 (some ⟨(Array.size h1), 0, none⟩) ([y_0.Name] : List ByteArray) := r165
   replace k166 : List.length ([y_0.Name] : List ByteArray) ≤ 1 := k166
   refine (r2_texts.walk (Hold.start (W := No) s167) rfl k166 r165 (TB.sub tab u162) g36).mono ?_
   rintro _ h156 ⟨m157, Q158, rfl⟩
   have O168 := Hold.nm (C164 Q158 vfs_nil)
   refine ⟨_, rfl, ?_⟩
   obtain ⟨g169, e⟩ := guard_e e
   refine ⟨g169, ?_⟩
   exact (ih _ _ e) (O168.pick [0]).nm e_0 tab
theorem r2_TypeMark_k.step_j0 (go : (p : r2_TypeMark_k.Pt) → Option (ByteArray)) (ih : ∀ p r, go p = some r → r2_TypeMark_k.I p r) (y_1 s_3) (r) (e : r2_TypeMark_k.body go (.j0 y_1 s_3) = some r) : r2_TypeMark_k.I (.j0 y_1 s_3) r := by
 unfold r2_TypeMark_k.body at e
 intro W h0 m0 h m bk_1 cs_1 O e_1 tab
 refine f58.j0_in ?_
 unfold f58.j0T
 obtain ⟨A1, c2, q3, k4, r5⟩ := T_Type.g2 e_1
 refine ⟨_, ldk (k := 2) (Sub.refl _) (O.all 0 rfl) q3, _, _, _, rfl, ?_⟩
 exact (ih _ _ e) (O.pick []).nm rfl k4 r5 tab
theorem r2_TypeMark_k.step_l0 (go : (p : r2_TypeMark_k.Pt) → Option (ByteArray)) (ih : ∀ p r, go p = some r → r2_TypeMark_k.I p r) (s_3 a_19 x_20 x_21) (r) (e : r2_TypeMark_k.body go (.l0 s_3 a_19 x_20 x_21) = some r) : r2_TypeMark_k.I (.l0 s_3 a_19 x_20 x_21) r := by
 unfold r2_TypeMark_k.body at e
 intro W h0 m0 h m A_19 n_19 c_19 O ne_19 k_19 r_19 tab
 subst ne_19
 refine f58.l0_in ?_
 unfold f58.l0T
 refine split_dec_e e (fun c22 e => ?_) (fun c22 e => ?_)
 · obtain ⟨y1, g2, e⟩ := bind_e e
   refine r_19.addr rfl g2 fun a3 cs4 ha5 hc6 he7 => ?_
   refine ⟨_, ldAn O.s hc6 rfl, ?_⟩
   refine O.new fun h8 x9 O10 => ?_
   refine ⟨_, rfl, (T_Type.T.len _ _ _ he7), ?_⟩
   refine O10.stA 0 rfl (T_Type.T.len _ _ _ he7) (T_Type.T.flat _ _ _ he7) fun h12 O13 => ?_
   refine ⟨_, ldAn (Sub.refl _) (O13.all 0 rfl) (T_Type.T.len _ _ _ he7), ?_⟩
   obtain ⟨y14, g15, e⟩ := bind_e e
   refine ((ih _ _ g15) (Hold.start (W := No) O13.s) he7 tab).mono ?_
   rintro _ h16 ⟨m17, Q18, rfl⟩
   have O20 := Hold.nm (O13.retC Q18 vfs_nil)
   refine ⟨_, rfl, ?_⟩
   obtain ⟨g21, e⟩ := guard_e e
   refine ⟨g21, ?_⟩
   exact (ih _ _ e) (O20.pick []).nm rfl k_19 r_19 tab
 · cases e
   exact ⟨_, O.pick [], rfl⟩
theorem r2_TypeMark_k.all {p : r2_TypeMark_k.Pt} {r : (ByteArray)} (e : r2_TypeMark_k.go p = some r) : r2_TypeMark_k.I p r := fixF_ind (β := fun _ => (ByteArray)) r2_TypeMark_k.mono (I := r2_TypeMark_k.I) (fun go ih p r e => match p with
 | .f y_0 => r2_TypeMark_k.step_f go ih y_0 r e
 | .j0 y_1 s_3 => r2_TypeMark_k.step_j0 go ih y_1 s_3 r e
 | .l0 s_3 a_19 x_20 x_21 => r2_TypeMark_k.step_l0 go ih s_3 a_19 x_20 x_21 r e
 ) e
theorem r2_TypeMark.walk {W h m cs_0 y_0} (O : Hold W h m h m []) (e_0 : T_Type.E m y_0 cs_0) (tab : TB m) {r} (e : r2_TypeMark y_0 = some r) : Run Tryz.prog 58 #[Value.agg cs_0.toArray] h (r2_TypeMark.post W h m r) := r2_TypeMark_k.all (p := .f y_0) e O e_0 tab
def r2_PatMark.post (W : Nat → Prop) (h0 m0 : Heap) (r : ByteArray) (v : Value) (h : Heap) : Prop := ∃ m , Hold W h0 m0 h m [] ∧ v = .string r
inductive r2_PatMark_k.Pt where
 | f (y_0 : T_Pat)
 | j0 (y_1 : T_Pat) (s_3 : ByteArray)
 | l0 (s_3 : ByteArray) (a_21 : List T_Pat) (x_22 : Int) (x_23 : Int)
noncomputable def r2_PatMark_k.body (go : (p : r2_PatMark_k.Pt) → Option (ByteArray)) : (p : r2_PatMark_k.Pt) → Option (ByteArray)
 | .f y_0 => Option.bind (r2_nums ([y_0.Kind, y_0.Num, (((List.length y_0.Args) : Nat) : Int)] : List Int)) fun y15 => Option.bind (r2_texts ([y_0.Text] : List ByteArray)) fun y35 => if ByteArray.size y15 + ByteArray.size y35 ≤ 9223372036854775807 then ((go (.j0 y_0 (y15 ++ y35)))) else none
 | .j0 y_1 s_3 => (go (.l0 s_3 y_1.Args (((List.length y_1.Args) : Nat) : Int) (0 : Int)))
 | .l0 s_3 a_21 x_22 x_23 => if x_23 < x_22 then (Option.bind (gi a_21 x_23) fun y1 => Option.bind ((go (.f y1))) fun y14 => if ByteArray.size s_3 + ByteArray.size y14 ≤ 9223372036854775807 then ((go (.l0 (s_3 ++ y14) a_21 x_22 (IntKind.wrap .i64 (x_23 + (1 : Int)))))) else none) else (some (s_3))
theorem r2_PatMark_k.mono : MonoF (β := fun _ => (ByteArray)) r2_PatMark_k.body := fun f g hfg p => match p with
 | .f y_0 => LeO.bind (LeO.refl _) fun y15 => LeO.bind (LeO.refl _) fun y35 => LeO.ite ((hfg _)) (LeO.refl _)
 | .j0 y_1 s_3 => (hfg _)
 | .l0 s_3 a_21 x_22 x_23 => LeO.ite (LeO.bind (LeO.refl _) fun y1 => LeO.bind ((hfg _)) fun y14 => LeO.ite ((hfg _)) (LeO.refl _)) (LeO.refl _)
noncomputable def r2_PatMark_k.go (p : r2_PatMark_k.Pt) : Option (ByteArray) := fixF (β := fun _ => (ByteArray)) r2_PatMark_k.body p
noncomputable def r2_PatMark (y_0) := r2_PatMark_k.go (.f y_0)
noncomputable def r2_PatMark.j0 (y_1 s_3) := r2_PatMark_k.go (.j0 y_1 s_3)
noncomputable def r2_PatMark.l0 (s_3 a_21 x_22 x_23) := r2_PatMark_k.go (.l0 s_3 a_21 x_22 x_23)
theorem r2_PatMark_eq (y_0) : r2_PatMark y_0 = Option.bind (r2_nums ([y_0.Kind, y_0.Num, (((List.length y_0.Args) : Nat) : Int)] : List Int)) fun y15 => Option.bind (r2_texts ([y_0.Text] : List ByteArray)) fun y35 => if ByteArray.size y15 + ByteArray.size y35 ≤ 9223372036854775807 then ((r2_PatMark.j0 y_0 (y15 ++ y35))) else none := fixF_eq r2_PatMark_k.mono _
theorem r2_PatMark.j0_eq (y_1 s_3) : r2_PatMark.j0 y_1 s_3 = (r2_PatMark.l0 s_3 y_1.Args (((List.length y_1.Args) : Nat) : Int) (0 : Int)) := fixF_eq r2_PatMark_k.mono _
theorem r2_PatMark.l0_eq (s_3 a_21 x_22 x_23) : r2_PatMark.l0 s_3 a_21 x_22 x_23 = if x_23 < x_22 then (Option.bind (gi a_21 x_23) fun y1 => Option.bind ((r2_PatMark y1)) fun y14 => if ByteArray.size s_3 + ByteArray.size y14 ≤ 9223372036854775807 then ((r2_PatMark.l0 (s_3 ++ y14) a_21 x_22 (IntKind.wrap .i64 (x_23 + (1 : Int))))) else none) else (some (s_3)) := fixF_eq r2_PatMark_k.mono _
def r2_PatMark_k.I : (p : r2_PatMark_k.Pt) → (ByteArray) → Prop
 | .f y_0, r => ∀ {W h m cs_0} (O : Hold W h m h m []) (e_0 : T_Pat.E m y_0 cs_0) (tab : TB m), Run Tryz.prog 59 #[Value.agg cs_0.toArray] h (r2_PatMark.post W h m r)
 | .j0 y_1 s_3, r => ∀ {W h0 m0 h m bk_1 cs_1} (O : Hold W h0 m0 h m [rV bk_1 95 cs_1]) (e_1 : T_Pat.E m y_1 cs_1) (tab : TB m), f59.j0 (r2_PatMark.post W h0 m0 r) (⟨bk_1, 0, none⟩ : Addr) s_3 h
 | .l0 s_3 a_21 x_22 x_23, r => ∀ {W h0 m0 h m A_21 n_21 c_21} (O : Hold W h0 m0 h m []) (ne_21 : n_21 = List.length a_21) (k_21 : List.length a_21 ≤ c_21) (r_21 : Rd 4 T_Pat.E m A_21 a_21) (tab : TB m), f59.l0 (r2_PatMark.post W h0 m0 r) s_3 A_21 n_21 c_21 x_22 x_23 h
set_option maxHeartbeats 4000000 in
theorem r2_PatMark_k.step_f (go : (p : r2_PatMark_k.Pt) → Option (ByteArray)) (ih : ∀ p r, go p = some r → r2_PatMark_k.I p r) (y_0) (r) (e : r2_PatMark_k.body go (.f y_0) = some r) : r2_PatMark_k.I (.f y_0) r := by
 unfold r2_PatMark_k.body at e
 intro W h m cs_0 O e_0 tab
 refine f59.run ?_
 unfold f59.runT
 refine O.new fun h1 x2 O3 => ?_
 refine ⟨_, ld0 (Sub.refl _) (O3.all 0 rfl) (T_Pat.g0 e_0), _, rfl, ?_⟩
 refine ⟨_, ldk (k := 1) (Sub.refl _) (O3.all 0 rfl) (T_Pat.g1 e_0), _, rfl, ?_⟩
 obtain ⟨A5, c6, q7, k8, r9⟩ := T_Pat.g3 e_0
 refine ⟨_, ldk (k := 3) (Sub.refl _) (O3.all 0 rfl) q7, _, _, _, rfl, ?_⟩
 refine ⟨_, ldk (k := 2) (Sub.refl _) (O3.all 0 rfl) (T_Pat.g2 e_0), _, rfl, ?_⟩
 obtain ⟨y15, g16, e⟩ := bind_e e
 obtain ⟨y35, g36, e⟩ := bind_e e
 refine ⟨?_, ?_⟩
 · refine O3.new fun h51 x52 O53 => ?_
   refine ⟨ldk (k := 2) (Sub.refl _) (O53.all 0 rfl) (T_Pat.g2 e_0), ?_⟩
   refine ⟨?_, ?_⟩
   · have O55 := O53.rowE (l := ([y_0.Kind, y_0.Num, (((List.length y_0.Args) : Nat) : Int)] : List Int)) 1 rfl (tell_int .i64) (show CsE _ _ _ _ _ from (CsE.cons (c1 := [(Value.int .i64 y_0.Kind)]) rfl rfl (CsE.cons (c1 := [(Value.int .i64 y_0.Num)]) rfl rfl (CsE.cons (c1 := [(Value.int .i64 (((List.length y_0.Args) : Nat) : Int))]) rfl rfl CsE.nil)))) rfl
     have O62 := O55.nm
     obtain ⟨m63, u64, s69, ⟨⟨r67, k68⟩, _⟩, B65, C66⟩ := O62.lend0 [1]
     replace r67 : Rd 1 (eInt .i64) m63 (some ⟨(Array.size h1), 0, none⟩) ([y_0.Kind, y_0.Num, (((List.length y_0.Args) : Nat) : Int)] : List Int) := r67
     replace k68 : List.length ([y_0.Kind, y_0.Num, (((List.length y_0.Args) : Nat) : Int)] : List Int) ≤ 3 := k68
     refine (r2_nums.walk (Hold.start (W := No) s69) rfl k68 r67 (TB.sub tab u64) g16).mono ?_
     rintro _ h58 ⟨m59, Q60, rfl⟩
     have O70 := Hold.nm (C66 Q60 vfs_nil)
     refine ⟨_, rfl, ?_⟩
     refine ⟨ldk (k := 2) (Sub.refl _) (O70.all 0 rfl) (T_Pat.g2 e_0), ?_⟩
     refine O70.new fun h71 x72 O73 => ?_
     refine ⟨((x52.trans Q60.S.ext).trans x72), ?_⟩
     have O75 := O73.rowE (l := ([y_0.Text] : List ByteArray)) 2 rfl tell_str (show CsE _ _ _ _ _ from (CsE.cons (c1 := [(Value.string y_0.Text)]) rfl rfl CsE.nil)) rfl
     have O82 := O75.nm
     obtain ⟨m83, u84, s89, ⟨⟨r87, k88⟩, _⟩, B85, C86⟩ := O82.lend0 [2]
     replace r87 : Rd 1 eStr m83 (some ⟨(Array.size h58), 0, none⟩) ([y_0.Text] : List ByteArray) := r87
     replace k88 : List.length ([y_0.Text] : List ByteArray) ≤ 1 := k88
     refine (r2_texts.walk (Hold.start (W := No) s89) rfl k88 r87 (TB.sub tab u84) g36).mono ?_
     rintro _ h78 ⟨m79, Q80, rfl⟩
     have O90 := Hold.nm (C86 Q80 vfs_nil)
     refine ⟨_, rfl, ?_⟩
     obtain ⟨g91, e⟩ := guard_e e
     refine ⟨g91, ?_⟩
     exact (ih _ _ e) (O90.pick [0]).nm e_0 tab
   · refine O53.new fun h92 x93 O94 => ?_
     refine ⟨(x52.trans x93), ?_⟩
     have O96 := O94.rowE (l := ([y_0.Kind, y_0.Num, (((List.length y_0.Args) : Nat) : Int)] : List Int)) 1 rfl (tell_int .i64) (show CsE _ _ _ _ _ from (CsE.cons (c1 := [(Value.int .i64 y_0.Kind)]) rfl rfl (CsE.cons (c1 := [(Value.int .i64 y_0.Num)]) rfl rfl (CsE.cons (c1 := [(Value.int .i64 (((List.length y_0.Args) : Nat) : Int))]) rfl rfl CsE.nil)))) rfl
     have O103 := O96.nm
     obtain ⟨m104, u105, s110, ⟨⟨r108, k109⟩, _⟩, B106, C107⟩ := O103.lend0 [1]
     replace r108 : Rd 1 (eInt .i64) m104 (some ⟨(Array.size h1), 0, none⟩) ([y_0.Kind, y_0.Num, (((List.length y_0.Args) : Nat) : Int)] : List Int) := r108
     replace k109 : List.length ([y_0.Kind, y_0.Num, (((List.length y_0.Args) : Nat) : Int)] : List Int) ≤ 3 := k109
     refine (r2_nums.walk (Hold.start (W := No) s110) rfl k109 r108 (TB.sub tab u105) g16).mono ?_
     rintro _ h99 ⟨m100, Q101, rfl⟩
     have O111 := Hold.nm (C107 Q101 vfs_nil)
     refine ⟨_, rfl, ?_⟩
     refine ⟨ldk (k := 2) (Sub.refl _) (O111.all 0 rfl) (T_Pat.g2 e_0), ?_⟩
     have O112 := O111.rowE (l := ([y_0.Text] : List ByteArray)) 2 rfl tell_str (show CsE _ _ _ _ _ from (CsE.cons (c1 := [(Value.string y_0.Text)]) rfl rfl CsE.nil)) rfl
     have O119 := O112.nm
     obtain ⟨m120, u121, s126, ⟨⟨r124, k125⟩, _⟩, B122, C123⟩ := O119.lend0 [2]
     replace r124 : Rd 1 eStr m120 (some ⟨(Array.size h51), 0, none⟩) ([y_0.Text] : List ByteArray) := r124
     replace k125 : List.length ([y_0.Text] : List ByteArray) ≤ 1 := k125
     refine (r2_texts.walk (Hold.start (W := No) s126) rfl k125 r124 (TB.sub tab u121) g36).mono ?_
     rintro _ h115 ⟨m116, Q117, rfl⟩
     have O127 := Hold.nm (C123 Q117 vfs_nil)
     refine ⟨_, rfl, ?_⟩
     obtain ⟨g128, e⟩ := guard_e e
     refine ⟨g128, ?_⟩
     exact (ih _ _ e) (O127.pick [0]).nm e_0 tab
 · refine O3.new fun h129 x130 O131 => ?_
   refine ⟨x130, ?_⟩
   refine O131.new fun h133 x134 O135 => ?_
   refine ⟨ldk (k := 2) (Sub.refl _) (O135.all 0 rfl) (T_Pat.g2 e_0), ?_⟩
   have O137 := O135.rowE (l := ([y_0.Kind, y_0.Num, (((List.length y_0.Args) : Nat) : Int)] : List Int)) 2 rfl (tell_int .i64) (show CsE _ _ _ _ _ from (CsE.cons (c1 := [(Value.int .i64 y_0.Kind)]) rfl rfl (CsE.cons (c1 := [(Value.int .i64 y_0.Num)]) rfl rfl (CsE.cons (c1 := [(Value.int .i64 (((List.length y_0.Args) : Nat) : Int))]) rfl rfl CsE.nil)))) rfl
   have O144 := O137.nm
   obtain ⟨m145, u146, s151, ⟨⟨r149, k150⟩, _⟩, B147, C148⟩ := O144.lend0 [2]
   replace r149 : Rd 1 (eInt .i64) m145 (some ⟨(Array.size h129), 0, none⟩) ([y_0.Kind, y_0.Num, (((List.length y_0.Args) : Nat) : Int)] : List Int) := r149
   replace k150 : List.length ([y_0.Kind, y_0.Num, (((List.length y_0.Args) : Nat) : Int)] : List Int) ≤ 3 := k150
   refine (r2_nums.walk (Hold.start (W := No) s151) rfl k150 r149 (TB.sub tab u146) g16).mono ?_
   rintro _ h140 ⟨m141, Q142, rfl⟩
   have O152 := Hold.nm (C148 Q142 vfs_nil)
   refine ⟨_, rfl, ?_⟩
   refine ⟨ldk (k := 2) (Sub.refl _) (O152.all 0 rfl) (T_Pat.g2 e_0), ?_⟩
   have O153 := O152.rowE (l := ([y_0.Text] : List ByteArray)) 1 rfl tell_str (show CsE _ _ _ _ _ from (CsE.cons (c1 := [(Value.string y_0.Text)]) rfl rfl CsE.nil)) rfl
   have O160 := O153.nm
   obtain ⟨m161, u162, s167, ⟨⟨r165, k166⟩, _⟩, B163, C164⟩ := O160.lend0 [1]
   replace r165 : Rd 1 eStr m161 (some ⟨(Array.size h1), 0, none⟩) ([y_0.Text] : List ByteArray) := r165
   replace k166 : List.length ([y_0.Text] : List ByteArray) ≤ 1 := k166
   refine (r2_texts.walk (Hold.start (W := No) s167) rfl k166 r165 (TB.sub tab u162) g36).mono ?_
   rintro _ h156 ⟨m157, Q158, rfl⟩
   have O168 := Hold.nm (C164 Q158 vfs_nil)
   refine ⟨_, rfl, ?_⟩
   obtain ⟨g169, e⟩ := guard_e e
   refine ⟨g169, ?_⟩
   exact (ih _ _ e) (O168.pick [0]).nm e_0 tab
theorem r2_PatMark_k.step_j0 (go : (p : r2_PatMark_k.Pt) → Option (ByteArray)) (ih : ∀ p r, go p = some r → r2_PatMark_k.I p r) (y_1 s_3) (r) (e : r2_PatMark_k.body go (.j0 y_1 s_3) = some r) : r2_PatMark_k.I (.j0 y_1 s_3) r := by
 unfold r2_PatMark_k.body at e
 intro W h0 m0 h m bk_1 cs_1 O e_1 tab
 refine f59.j0_in ?_
 unfold f59.j0T
 obtain ⟨A1, c2, q3, k4, r5⟩ := T_Pat.g3 e_1
 refine ⟨_, ldk (k := 3) (Sub.refl _) (O.all 0 rfl) q3, _, _, _, rfl, ?_⟩
 exact (ih _ _ e) (O.pick []).nm rfl k4 r5 tab
theorem r2_PatMark_k.step_l0 (go : (p : r2_PatMark_k.Pt) → Option (ByteArray)) (ih : ∀ p r, go p = some r → r2_PatMark_k.I p r) (s_3 a_21 x_22 x_23) (r) (e : r2_PatMark_k.body go (.l0 s_3 a_21 x_22 x_23) = some r) : r2_PatMark_k.I (.l0 s_3 a_21 x_22 x_23) r := by
 unfold r2_PatMark_k.body at e
 intro W h0 m0 h m A_21 n_21 c_21 O ne_21 k_21 r_21 tab
 subst ne_21
 refine f59.l0_in ?_
 unfold f59.l0T
 refine split_dec_e e (fun c22 e => ?_) (fun c22 e => ?_)
 · obtain ⟨y1, g2, e⟩ := bind_e e
   refine r_21.addr rfl g2 fun a3 cs4 ha5 hc6 he7 => ?_
   refine ⟨_, ldAn O.s hc6 rfl, ?_⟩
   refine O.new fun h8 x9 O10 => ?_
   refine ⟨_, rfl, (T_Pat.T.len _ _ _ he7), ?_⟩
   refine O10.stA 0 rfl (T_Pat.T.len _ _ _ he7) (T_Pat.T.flat _ _ _ he7) fun h12 O13 => ?_
   refine ⟨_, ldAn (Sub.refl _) (O13.all 0 rfl) (T_Pat.T.len _ _ _ he7), ?_⟩
   obtain ⟨y14, g15, e⟩ := bind_e e
   refine ((ih _ _ g15) (Hold.start (W := No) O13.s) he7 tab).mono ?_
   rintro _ h16 ⟨m17, Q18, rfl⟩
   have O20 := Hold.nm (O13.retC Q18 vfs_nil)
   refine ⟨_, rfl, ?_⟩
   obtain ⟨g21, e⟩ := guard_e e
   refine ⟨g21, ?_⟩
   exact (ih _ _ e) (O20.pick []).nm rfl k_21 r_21 tab
 · cases e
   exact ⟨_, O.pick [], rfl⟩
theorem r2_PatMark_k.all {p : r2_PatMark_k.Pt} {r : (ByteArray)} (e : r2_PatMark_k.go p = some r) : r2_PatMark_k.I p r := fixF_ind (β := fun _ => (ByteArray)) r2_PatMark_k.mono (I := r2_PatMark_k.I) (fun go ih p r e => match p with
 | .f y_0 => r2_PatMark_k.step_f go ih y_0 r e
 | .j0 y_1 s_3 => r2_PatMark_k.step_j0 go ih y_1 s_3 r e
 | .l0 s_3 a_21 x_22 x_23 => r2_PatMark_k.step_l0 go ih s_3 a_21 x_22 x_23 r e
 ) e
theorem r2_PatMark.walk {W h m cs_0 y_0} (O : Hold W h m h m []) (e_0 : T_Pat.E m y_0 cs_0) (tab : TB m) {r} (e : r2_PatMark y_0 = some r) : Run Tryz.prog 59 #[Value.agg cs_0.toArray] h (r2_PatMark.post W h m r) := r2_PatMark_k.all (p := .f y_0) e O e_0 tab
def r2_ExprMark.post (W : Nat → Prop) (h0 m0 : Heap) (r : ByteArray) (v : Value) (h : Heap) : Prop := ∃ m , Hold W h0 m0 h m [] ∧ v = .string r
inductive r2_ExprMark_k.Pt where
 | f (y_0 : T_Expr)
 | j0 (y_1 : T_Expr) (s_3 : ByteArray)
 | l0 (y_1 : T_Expr) (s_3 : ByteArray) (a_38 : List T_Type) (x_39 : Int) (x_40 : Int)
 | l1 (y_1 : T_Expr) (s_3 : ByteArray) (a_50 : List T_Expr) (x_51 : Int) (x_52 : Int)
 | l2 (s_3 : ByteArray) (a_62 : List T_Arm) (x_63 : Int) (x_64 : Int)
noncomputable def r2_ExprMark_k.body (go : (p : r2_ExprMark_k.Pt) → Option (ByteArray)) : (p : r2_ExprMark_k.Pt) → Option (ByteArray)
 | .f y_0 => Option.bind (r2_nums ([y_0.Kind, y_0.Num, (((List.length y_0.Names) : Nat) : Int), (((List.length y_0.Types) : Nat) : Int), (((List.length y_0.Args) : Nat) : Int), (((List.length y_0.Arms) : Nat) : Int)] : List Int)) fun y35 => Option.bind (r2_texts ([y_0.Text] : List ByteArray)) fun y55 => if ByteArray.size y35 + ByteArray.size y55 ≤ 9223372036854775807 then (Option.bind (r2_texts y_0.Names) fun y71 => if ByteArray.size (y35 ++ y55) + ByteArray.size y71 ≤ 9223372036854775807 then ((go (.j0 y_0 ((y35 ++ y55) ++ y71)))) else none) else none
 | .j0 y_1 s_3 => (go (.l0 y_1 s_3 y_1.Types (((List.length y_1.Types) : Nat) : Int) (0 : Int)))
 | .l0 y_1 s_3 a_38 x_39 x_40 => if x_40 < x_39 then (Option.bind (gi a_38 x_40) fun y1 => Option.bind (r2_TypeMark y1) fun y14 => if ByteArray.size s_3 + ByteArray.size y14 ≤ 9223372036854775807 then ((go (.l0 y_1 (s_3 ++ y14) a_38 x_39 (IntKind.wrap .i64 (x_40 + (1 : Int)))))) else none) else ((go (.l1 y_1 s_3 y_1.Args (((List.length y_1.Args) : Nat) : Int) (0 : Int))))
 | .l1 y_1 s_3 a_50 x_51 x_52 => if x_52 < x_51 then (Option.bind (gi a_50 x_52) fun y1 => Option.bind ((go (.f y1))) fun y14 => if ByteArray.size s_3 + ByteArray.size y14 ≤ 9223372036854775807 then ((go (.l1 y_1 (s_3 ++ y14) a_50 x_51 (IntKind.wrap .i64 (x_52 + (1 : Int)))))) else none) else ((go (.l2 s_3 y_1.Arms (((List.length y_1.Arms) : Nat) : Int) (0 : Int))))
 | .l2 s_3 a_62 x_63 x_64 => if x_64 < x_63 then (Option.bind (gi a_62 x_64) fun y1 => Option.bind (r2_PatMark y1.Pat) fun y14 => Option.bind ((go (.f y1.Body))) fun y21 => if ByteArray.size y14 + ByteArray.size y21 ≤ 9223372036854775807 then (if ByteArray.size s_3 + ByteArray.size (y14 ++ y21) ≤ 9223372036854775807 then ((go (.l2 (s_3 ++ (y14 ++ y21)) a_62 x_63 (IntKind.wrap .i64 (x_64 + (1 : Int)))))) else none) else none) else (some (s_3))
theorem r2_ExprMark_k.mono : MonoF (β := fun _ => (ByteArray)) r2_ExprMark_k.body := fun f g hfg p => match p with
 | .f y_0 => LeO.bind (LeO.refl _) fun y35 => LeO.bind (LeO.refl _) fun y55 => LeO.ite (LeO.bind (LeO.refl _) fun y71 => LeO.ite ((hfg _)) (LeO.refl _)) (LeO.refl _)
 | .j0 y_1 s_3 => (hfg _)
 | .l0 y_1 s_3 a_38 x_39 x_40 => LeO.ite (LeO.bind (LeO.refl _) fun y1 => LeO.bind (LeO.refl _) fun y14 => LeO.ite ((hfg _)) (LeO.refl _)) ((hfg _))
 | .l1 y_1 s_3 a_50 x_51 x_52 => LeO.ite (LeO.bind (LeO.refl _) fun y1 => LeO.bind ((hfg _)) fun y14 => LeO.ite ((hfg _)) (LeO.refl _)) ((hfg _))
 | .l2 s_3 a_62 x_63 x_64 => LeO.ite (LeO.bind (LeO.refl _) fun y1 => LeO.bind (LeO.refl _) fun y14 => LeO.bind ((hfg _)) fun y21 => LeO.ite (LeO.ite ((hfg _)) (LeO.refl _)) (LeO.refl _)) (LeO.refl _)
noncomputable def r2_ExprMark_k.go (p : r2_ExprMark_k.Pt) : Option (ByteArray) := fixF (β := fun _ => (ByteArray)) r2_ExprMark_k.body p
noncomputable def r2_ExprMark (y_0) := r2_ExprMark_k.go (.f y_0)
noncomputable def r2_ExprMark.j0 (y_1 s_3) := r2_ExprMark_k.go (.j0 y_1 s_3)
noncomputable def r2_ExprMark.l0 (y_1 s_3 a_38 x_39 x_40) := r2_ExprMark_k.go (.l0 y_1 s_3 a_38 x_39 x_40)
noncomputable def r2_ExprMark.l1 (y_1 s_3 a_50 x_51 x_52) := r2_ExprMark_k.go (.l1 y_1 s_3 a_50 x_51 x_52)
noncomputable def r2_ExprMark.l2 (s_3 a_62 x_63 x_64) := r2_ExprMark_k.go (.l2 s_3 a_62 x_63 x_64)
theorem r2_ExprMark_eq (y_0) : r2_ExprMark y_0 = Option.bind (r2_nums ([y_0.Kind, y_0.Num, (((List.length y_0.Names) : Nat) : Int), (((List.length y_0.Types) : Nat) : Int), (((List.length y_0.Args) : Nat) : Int), (((List.length y_0.Arms) : Nat) : Int)] : List Int)) fun y35 => Option.bind (r2_texts ([y_0.Text] : List ByteArray)) fun y55 => if ByteArray.size y35 + ByteArray.size y55 ≤ 9223372036854775807 then (Option.bind (r2_texts y_0.Names) fun y71 => if ByteArray.size (y35 ++ y55) + ByteArray.size y71 ≤ 9223372036854775807 then ((r2_ExprMark.j0 y_0 ((y35 ++ y55) ++ y71))) else none) else none := fixF_eq r2_ExprMark_k.mono _
theorem r2_ExprMark.j0_eq (y_1 s_3) : r2_ExprMark.j0 y_1 s_3 = (r2_ExprMark.l0 y_1 s_3 y_1.Types (((List.length y_1.Types) : Nat) : Int) (0 : Int)) := fixF_eq r2_ExprMark_k.mono _
theorem r2_ExprMark.l0_eq (y_1 s_3 a_38 x_39 x_40) : r2_ExprMark.l0 y_1 s_3 a_38 x_39 x_40 = if x_40 < x_39 then (Option.bind (gi a_38 x_40) fun y1 => Option.bind (r2_TypeMark y1) fun y14 => if ByteArray.size s_3 + ByteArray.size y14 ≤ 9223372036854775807 then ((r2_ExprMark.l0 y_1 (s_3 ++ y14) a_38 x_39 (IntKind.wrap .i64 (x_40 + (1 : Int))))) else none) else ((r2_ExprMark.l1 y_1 s_3 y_1.Args (((List.length y_1.Args) : Nat) : Int) (0 : Int))) := fixF_eq r2_ExprMark_k.mono _
theorem r2_ExprMark.l1_eq (y_1 s_3 a_50 x_51 x_52) : r2_ExprMark.l1 y_1 s_3 a_50 x_51 x_52 = if x_52 < x_51 then (Option.bind (gi a_50 x_52) fun y1 => Option.bind ((r2_ExprMark y1)) fun y14 => if ByteArray.size s_3 + ByteArray.size y14 ≤ 9223372036854775807 then ((r2_ExprMark.l1 y_1 (s_3 ++ y14) a_50 x_51 (IntKind.wrap .i64 (x_52 + (1 : Int))))) else none) else ((r2_ExprMark.l2 s_3 y_1.Arms (((List.length y_1.Arms) : Nat) : Int) (0 : Int))) := fixF_eq r2_ExprMark_k.mono _
theorem r2_ExprMark.l2_eq (s_3 a_62 x_63 x_64) : r2_ExprMark.l2 s_3 a_62 x_63 x_64 = if x_64 < x_63 then (Option.bind (gi a_62 x_64) fun y1 => Option.bind (r2_PatMark y1.Pat) fun y14 => Option.bind ((r2_ExprMark y1.Body)) fun y21 => if ByteArray.size y14 + ByteArray.size y21 ≤ 9223372036854775807 then (if ByteArray.size s_3 + ByteArray.size (y14 ++ y21) ≤ 9223372036854775807 then ((r2_ExprMark.l2 (s_3 ++ (y14 ++ y21)) a_62 x_63 (IntKind.wrap .i64 (x_64 + (1 : Int))))) else none) else none) else (some (s_3)) := fixF_eq r2_ExprMark_k.mono _
def r2_ExprMark_k.I : (p : r2_ExprMark_k.Pt) → (ByteArray) → Prop
 | .f y_0, r => ∀ {W h m cs_0} (O : Hold W h m h m []) (e_0 : T_Expr.E m y_0 cs_0) (tab : TB m), Run Tryz.prog 35 #[Value.agg cs_0.toArray] h (r2_ExprMark.post W h m r)
 | .j0 y_1 s_3, r => ∀ {W h0 m0 h m bk_1 cs_1} (O : Hold W h0 m0 h m [rV bk_1 48 cs_1]) (e_1 : T_Expr.E m y_1 cs_1) (tab : TB m), f35.j0 (r2_ExprMark.post W h0 m0 r) (⟨bk_1, 0, none⟩ : Addr) s_3 h
 | .l0 y_1 s_3 a_38 x_39 x_40, r => ∀ {W h0 m0 h m bk_1 cs_1 A_38 n_38 c_38} (O : Hold W h0 m0 h m [rV bk_1 48 cs_1]) (e_1 : T_Expr.E m y_1 cs_1) (ne_38 : n_38 = List.length a_38) (k_38 : List.length a_38 ≤ c_38) (r_38 : Rd 3 T_Type.E m A_38 a_38) (tab : TB m), f35.l0 (r2_ExprMark.post W h0 m0 r) (⟨bk_1, 0, none⟩ : Addr) s_3 A_38 n_38 c_38 x_39 x_40 h
 | .l1 y_1 s_3 a_50 x_51 x_52, r => ∀ {W h0 m0 h m bk_1 cs_1 A_50 n_50 c_50} (O : Hold W h0 m0 h m [rV bk_1 48 cs_1]) (e_1 : T_Expr.E m y_1 cs_1) (ne_50 : n_50 = List.length a_50) (k_50 : List.length a_50 ≤ c_50) (r_50 : Rd 8 T_Expr.E m A_50 a_50) (tab : TB m), f35.l1 (r2_ExprMark.post W h0 m0 r) (⟨bk_1, 0, none⟩ : Addr) s_3 A_50 n_50 c_50 x_51 x_52 h
 | .l2 s_3 a_62 x_63 x_64, r => ∀ {W h0 m0 h m A_62 n_62 c_62} (O : Hold W h0 m0 h m []) (ne_62 : n_62 = List.length a_62) (k_62 : List.length a_62 ≤ c_62) (r_62 : Rd 12 T_Arm.E m A_62 a_62) (tab : TB m), f35.l2 (r2_ExprMark.post W h0 m0 r) s_3 A_62 n_62 c_62 x_63 x_64 h
set_option maxHeartbeats 4000000 in
theorem r2_ExprMark_k.step_f (go : (p : r2_ExprMark_k.Pt) → Option (ByteArray)) (ih : ∀ p r, go p = some r → r2_ExprMark_k.I p r) (y_0) (r) (e : r2_ExprMark_k.body go (.f y_0) = some r) : r2_ExprMark_k.I (.f y_0) r := by
 unfold r2_ExprMark_k.body at e
 intro W h m cs_0 O e_0 tab
 refine f35.run ?_
 unfold f35.runT
 refine O.new fun h1 x2 O3 => ?_
 refine ⟨_, ld0 (Sub.refl _) (O3.all 0 rfl) (T_Expr.g0 e_0), _, rfl, ?_⟩
 refine ⟨_, ldk (k := 1) (Sub.refl _) (O3.all 0 rfl) (T_Expr.g1 e_0), _, rfl, ?_⟩
 obtain ⟨A5, c6, q7, k8, r9⟩ := T_Expr.g3 e_0
 refine ⟨_, ldk (k := 3) (Sub.refl _) (O3.all 0 rfl) q7, _, _, _, rfl, ?_⟩
 obtain ⟨A10, c11, q12, k13, r14⟩ := T_Expr.g4 e_0
 refine ⟨_, ldk (k := 4) (Sub.refl _) (O3.all 0 rfl) q12, _, _, _, rfl, ?_⟩
 obtain ⟨A15, c16, q17, k18, r19⟩ := T_Expr.g5 e_0
 refine ⟨_, ldk (k := 5) (Sub.refl _) (O3.all 0 rfl) q17, _, _, _, rfl, ?_⟩
 obtain ⟨A20, c21, q22, k23, r24⟩ := T_Expr.g6 e_0
 refine ⟨_, ldk (k := 6) (Sub.refl _) (O3.all 0 rfl) q22, _, _, _, rfl, ?_⟩
 refine ⟨_, ldk (k := 2) (Sub.refl _) (O3.all 0 rfl) (T_Expr.g2 e_0), _, rfl, ?_⟩
 obtain ⟨A25, c26, q27, k28, r29⟩ := T_Expr.g3 e_0
 refine ⟨_, ldk (k := 3) (Sub.refl _) (O3.all 0 rfl) q27, _, _, _, rfl, ?_⟩
 obtain ⟨y35, g36, e⟩ := bind_e e
 obtain ⟨y55, g56, e⟩ := bind_e e
 obtain ⟨g70, e⟩ := guard_e e
 obtain ⟨y71, g72, e⟩ := bind_e e
 refine ⟨?_, ?_⟩
 · refine O3.new fun h79 x80 O81 => ?_
   refine ⟨ldk (k := 2) (Sub.refl _) (O81.all 0 rfl) (T_Expr.g2 e_0), ?_⟩
   refine ⟨ldk (k := 3) (Sub.refl _) (O81.all 0 rfl) q27, ?_⟩
   refine ⟨?_, ?_⟩
   · have O83 := O81.rowE (l := ([y_0.Kind, y_0.Num, (((List.length y_0.Names) : Nat) : Int), (((List.length y_0.Types) : Nat) : Int), (((List.length y_0.Args) : Nat) : Int), (((List.length y_0.Arms) : Nat) : Int)] : List Int)) 1 rfl (tell_int .i64) (show CsE _ _ _ _ _ from (CsE.cons (c1 := [(Value.int .i64 y_0.Kind)]) rfl rfl (CsE.cons (c1 := [(Value.int .i64 y_0.Num)]) rfl rfl (CsE.cons (c1 := [(Value.int .i64 (((List.length y_0.Names) : Nat) : Int))]) rfl rfl (CsE.cons (c1 := [(Value.int .i64 (((List.length y_0.Types) : Nat) : Int))]) rfl rfl (CsE.cons (c1 := [(Value.int .i64 (((List.length y_0.Args) : Nat) : Int))]) rfl rfl (CsE.cons (c1 := [(Value.int .i64 (((List.length y_0.Arms) : Nat) : Int))]) rfl rfl CsE.nil))))))) rfl
     have O90 := O83.nm
     obtain ⟨m91, u92, s97, ⟨⟨r95, k96⟩, _⟩, B93, C94⟩ := O90.lend0 [1]
     replace r95 : Rd 1 (eInt .i64) m91 (some ⟨(Array.size h1), 0, none⟩) ([y_0.Kind, y_0.Num, (((List.length y_0.Names) : Nat) : Int), (((List.length y_0.Types) : Nat) : Int), (((List.length y_0.Args) : Nat) : Int), (((List.length y_0.Arms) : Nat) : Int)] : List Int) := r95
     replace k96 : List.length ([y_0.Kind, y_0.Num, (((List.length y_0.Names) : Nat) : Int), (((List.length y_0.Types) : Nat) : Int), (((List.length y_0.Args) : Nat) : Int), (((List.length y_0.Arms) : Nat) : Int)] : List Int) ≤ 6 := k96
     refine (r2_nums.walk (Hold.start (W := No) s97) rfl k96 r95 (TB.sub tab u92) g36).mono ?_
     rintro _ h86 ⟨m87, Q88, rfl⟩
     have O98 := Hold.nm (C94 Q88 vfs_nil)
     refine ⟨_, rfl, ?_⟩
     refine ⟨ldk (k := 2) (Sub.refl _) (O98.all 0 rfl) (T_Expr.g2 e_0), ?_⟩
     refine ⟨ldk (k := 3) (Sub.refl _) (O98.all 0 rfl) q27, ?_⟩
     refine O98.new fun h99 x100 O101 => ?_
     refine ⟨((x80.trans Q88.S.ext).trans x100), ?_⟩
     refine ⟨ldk (k := 3) (Sub.refl _) (O101.all 0 rfl) q27, ?_⟩
     have O103 := O101.rowE (l := ([y_0.Text] : List ByteArray)) 2 rfl tell_str (show CsE _ _ _ _ _ from (CsE.cons (c1 := [(Value.string y_0.Text)]) rfl rfl CsE.nil)) rfl
     have O110 := O103.nm
     obtain ⟨m111, u112, s117, ⟨⟨r115, k116⟩, _⟩, B113, C114⟩ := O110.lend0 [2]
     replace r115 : Rd 1 eStr m111 (some ⟨(Array.size h86), 0, none⟩) ([y_0.Text] : List ByteArray) := r115
     replace k116 : List.length ([y_0.Text] : List ByteArray) ≤ 1 := k116
     refine (r2_texts.walk (Hold.start (W := No) s117) rfl k116 r115 (TB.sub tab u112) g56).mono ?_
     rintro _ h106 ⟨m107, Q108, rfl⟩
     have O118 := Hold.nm (C114 Q108 vfs_nil)
     refine ⟨_, rfl, ?_⟩
     refine ⟨ldk (k := 3) (Sub.refl _) (O118.all 0 rfl) q27, ?_⟩
     refine ⟨g70, ?_⟩
     refine (r2_texts.walk (Hold.start (W := No) O118.s) rfl k28 r29 tab g72).mono ?_
     rintro _ h122 ⟨m123, Q124, rfl⟩
     have O126 := Hold.nm (O118.retC Q124 vfs_nil)
     refine ⟨_, rfl, ?_⟩
     obtain ⟨g127, e⟩ := guard_e e
     refine ⟨g127, ?_⟩
     exact (ih _ _ e) (O126.pick [0]).nm e_0 tab
   · refine O81.new fun h128 x129 O130 => ?_
     refine ⟨(x80.trans x129), ?_⟩
     refine ⟨ldk (k := 3) (Sub.refl _) (O130.all 0 rfl) q27, ?_⟩
     have O132 := O130.rowE (l := ([y_0.Kind, y_0.Num, (((List.length y_0.Names) : Nat) : Int), (((List.length y_0.Types) : Nat) : Int), (((List.length y_0.Args) : Nat) : Int), (((List.length y_0.Arms) : Nat) : Int)] : List Int)) 1 rfl (tell_int .i64) (show CsE _ _ _ _ _ from (CsE.cons (c1 := [(Value.int .i64 y_0.Kind)]) rfl rfl (CsE.cons (c1 := [(Value.int .i64 y_0.Num)]) rfl rfl (CsE.cons (c1 := [(Value.int .i64 (((List.length y_0.Names) : Nat) : Int))]) rfl rfl (CsE.cons (c1 := [(Value.int .i64 (((List.length y_0.Types) : Nat) : Int))]) rfl rfl (CsE.cons (c1 := [(Value.int .i64 (((List.length y_0.Args) : Nat) : Int))]) rfl rfl (CsE.cons (c1 := [(Value.int .i64 (((List.length y_0.Arms) : Nat) : Int))]) rfl rfl CsE.nil))))))) rfl
     have O139 := O132.nm
     obtain ⟨m140, u141, s146, ⟨⟨r144, k145⟩, _⟩, B142, C143⟩ := O139.lend0 [1]
     replace r144 : Rd 1 (eInt .i64) m140 (some ⟨(Array.size h1), 0, none⟩) ([y_0.Kind, y_0.Num, (((List.length y_0.Names) : Nat) : Int), (((List.length y_0.Types) : Nat) : Int), (((List.length y_0.Args) : Nat) : Int), (((List.length y_0.Arms) : Nat) : Int)] : List Int) := r144
     replace k145 : List.length ([y_0.Kind, y_0.Num, (((List.length y_0.Names) : Nat) : Int), (((List.length y_0.Types) : Nat) : Int), (((List.length y_0.Args) : Nat) : Int), (((List.length y_0.Arms) : Nat) : Int)] : List Int) ≤ 6 := k145
     refine (r2_nums.walk (Hold.start (W := No) s146) rfl k145 r144 (TB.sub tab u141) g36).mono ?_
     rintro _ h135 ⟨m136, Q137, rfl⟩
     have O147 := Hold.nm (C143 Q137 vfs_nil)
     refine ⟨_, rfl, ?_⟩
     refine ⟨ldk (k := 2) (Sub.refl _) (O147.all 0 rfl) (T_Expr.g2 e_0), ?_⟩
     refine ⟨ldk (k := 3) (Sub.refl _) (O147.all 0 rfl) q27, ?_⟩
     have O148 := O147.rowE (l := ([y_0.Text] : List ByteArray)) 2 rfl tell_str (show CsE _ _ _ _ _ from (CsE.cons (c1 := [(Value.string y_0.Text)]) rfl rfl CsE.nil)) rfl
     have O155 := O148.nm
     obtain ⟨m156, u157, s162, ⟨⟨r160, k161⟩, _⟩, B158, C159⟩ := O155.lend0 [2]
     replace r160 : Rd 1 eStr m156 (some ⟨(Array.size h79), 0, none⟩) ([y_0.Text] : List ByteArray) := r160
     replace k161 : List.length ([y_0.Text] : List ByteArray) ≤ 1 := k161
     refine (r2_texts.walk (Hold.start (W := No) s162) rfl k161 r160 (TB.sub tab u157) g56).mono ?_
     rintro _ h151 ⟨m152, Q153, rfl⟩
     have O163 := Hold.nm (C159 Q153 vfs_nil)
     refine ⟨_, rfl, ?_⟩
     refine ⟨ldk (k := 3) (Sub.refl _) (O163.all 0 rfl) q27, ?_⟩
     refine ⟨g70, ?_⟩
     refine (r2_texts.walk (Hold.start (W := No) O163.s) rfl k28 r29 tab g72).mono ?_
     rintro _ h167 ⟨m168, Q169, rfl⟩
     have O171 := Hold.nm (O163.retC Q169 vfs_nil)
     refine ⟨_, rfl, ?_⟩
     obtain ⟨g172, e⟩ := guard_e e
     refine ⟨g172, ?_⟩
     exact (ih _ _ e) (O171.pick [0]).nm e_0 tab
 · refine O3.new fun h173 x174 O175 => ?_
   refine ⟨x174, ?_⟩
   refine ⟨ldk (k := 3) (Sub.refl _) (O175.all 0 rfl) q27, ?_⟩
   refine O175.new fun h177 x178 O179 => ?_
   refine ⟨ldk (k := 2) (Sub.refl _) (O179.all 0 rfl) (T_Expr.g2 e_0), ?_⟩
   refine ⟨ldk (k := 3) (Sub.refl _) (O179.all 0 rfl) q27, ?_⟩
   have O181 := O179.rowE (l := ([y_0.Kind, y_0.Num, (((List.length y_0.Names) : Nat) : Int), (((List.length y_0.Types) : Nat) : Int), (((List.length y_0.Args) : Nat) : Int), (((List.length y_0.Arms) : Nat) : Int)] : List Int)) 2 rfl (tell_int .i64) (show CsE _ _ _ _ _ from (CsE.cons (c1 := [(Value.int .i64 y_0.Kind)]) rfl rfl (CsE.cons (c1 := [(Value.int .i64 y_0.Num)]) rfl rfl (CsE.cons (c1 := [(Value.int .i64 (((List.length y_0.Names) : Nat) : Int))]) rfl rfl (CsE.cons (c1 := [(Value.int .i64 (((List.length y_0.Types) : Nat) : Int))]) rfl rfl (CsE.cons (c1 := [(Value.int .i64 (((List.length y_0.Args) : Nat) : Int))]) rfl rfl (CsE.cons (c1 := [(Value.int .i64 (((List.length y_0.Arms) : Nat) : Int))]) rfl rfl CsE.nil))))))) rfl
   have O188 := O181.nm
   obtain ⟨m189, u190, s195, ⟨⟨r193, k194⟩, _⟩, B191, C192⟩ := O188.lend0 [2]
   replace r193 : Rd 1 (eInt .i64) m189 (some ⟨(Array.size h173), 0, none⟩) ([y_0.Kind, y_0.Num, (((List.length y_0.Names) : Nat) : Int), (((List.length y_0.Types) : Nat) : Int), (((List.length y_0.Args) : Nat) : Int), (((List.length y_0.Arms) : Nat) : Int)] : List Int) := r193
   replace k194 : List.length ([y_0.Kind, y_0.Num, (((List.length y_0.Names) : Nat) : Int), (((List.length y_0.Types) : Nat) : Int), (((List.length y_0.Args) : Nat) : Int), (((List.length y_0.Arms) : Nat) : Int)] : List Int) ≤ 6 := k194
   refine (r2_nums.walk (Hold.start (W := No) s195) rfl k194 r193 (TB.sub tab u190) g36).mono ?_
   rintro _ h184 ⟨m185, Q186, rfl⟩
   have O196 := Hold.nm (C192 Q186 vfs_nil)
   refine ⟨_, rfl, ?_⟩
   refine ⟨ldk (k := 2) (Sub.refl _) (O196.all 0 rfl) (T_Expr.g2 e_0), ?_⟩
   refine ⟨ldk (k := 3) (Sub.refl _) (O196.all 0 rfl) q27, ?_⟩
   have O197 := O196.rowE (l := ([y_0.Text] : List ByteArray)) 1 rfl tell_str (show CsE _ _ _ _ _ from (CsE.cons (c1 := [(Value.string y_0.Text)]) rfl rfl CsE.nil)) rfl
   have O204 := O197.nm
   obtain ⟨m205, u206, s211, ⟨⟨r209, k210⟩, _⟩, B207, C208⟩ := O204.lend0 [1]
   replace r209 : Rd 1 eStr m205 (some ⟨(Array.size h1), 0, none⟩) ([y_0.Text] : List ByteArray) := r209
   replace k210 : List.length ([y_0.Text] : List ByteArray) ≤ 1 := k210
   refine (r2_texts.walk (Hold.start (W := No) s211) rfl k210 r209 (TB.sub tab u206) g56).mono ?_
   rintro _ h200 ⟨m201, Q202, rfl⟩
   have O212 := Hold.nm (C208 Q202 vfs_nil)
   refine ⟨_, rfl, ?_⟩
   refine ⟨ldk (k := 3) (Sub.refl _) (O212.all 0 rfl) q27, ?_⟩
   refine ⟨g70, ?_⟩
   refine (r2_texts.walk (Hold.start (W := No) O212.s) rfl k28 r29 tab g72).mono ?_
   rintro _ h216 ⟨m217, Q218, rfl⟩
   have O220 := Hold.nm (O212.retC Q218 vfs_nil)
   refine ⟨_, rfl, ?_⟩
   obtain ⟨g221, e⟩ := guard_e e
   refine ⟨g221, ?_⟩
   exact (ih _ _ e) (O220.pick [0]).nm e_0 tab
theorem r2_ExprMark_k.step_j0 (go : (p : r2_ExprMark_k.Pt) → Option (ByteArray)) (ih : ∀ p r, go p = some r → r2_ExprMark_k.I p r) (y_1 s_3) (r) (e : r2_ExprMark_k.body go (.j0 y_1 s_3) = some r) : r2_ExprMark_k.I (.j0 y_1 s_3) r := by
 unfold r2_ExprMark_k.body at e
 intro W h0 m0 h m bk_1 cs_1 O e_1 tab
 refine f35.j0_in ?_
 unfold f35.j0T
 obtain ⟨A1, c2, q3, k4, r5⟩ := T_Expr.g4 e_1
 refine ⟨_, ldk (k := 4) (Sub.refl _) (O.all 0 rfl) q3, _, _, _, rfl, ?_⟩
 exact (ih _ _ e) (O.pick [0]).nm e_1 rfl k4 r5 tab
theorem r2_ExprMark_k.step_l0 (go : (p : r2_ExprMark_k.Pt) → Option (ByteArray)) (ih : ∀ p r, go p = some r → r2_ExprMark_k.I p r) (y_1 s_3 a_38 x_39 x_40) (r) (e : r2_ExprMark_k.body go (.l0 y_1 s_3 a_38 x_39 x_40) = some r) : r2_ExprMark_k.I (.l0 y_1 s_3 a_38 x_39 x_40) r := by
 unfold r2_ExprMark_k.body at e
 intro W h0 m0 h m bk_1 cs_1 A_38 n_38 c_38 O e_1 ne_38 k_38 r_38 tab
 subst ne_38
 refine f35.l0_in ?_
 unfold f35.l0T
 refine split_dec_e e (fun c27 e => ?_) (fun c27 e => ?_)
 · obtain ⟨y1, g2, e⟩ := bind_e e
   refine r_38.addr rfl g2 fun a3 cs4 ha5 hc6 he7 => ?_
   refine ⟨_, ldAn O.s hc6 rfl, ?_⟩
   refine O.new fun h8 x9 O10 => ?_
   refine ⟨_, rfl, (T_Type.T.len _ _ _ he7), ?_⟩
   refine O10.stA 1 rfl (T_Type.T.len _ _ _ he7) (T_Type.T.flat _ _ _ he7) fun h12 O13 => ?_
   refine ⟨_, ldAn (Sub.refl _) (O13.all 1 rfl) (T_Type.T.len _ _ _ he7), ?_⟩
   obtain ⟨y14, g15, e⟩ := bind_e e
   refine (r2_TypeMark.walk (Hold.start (W := No) O13.s) he7 tab g15).mono ?_
   rintro _ h16 ⟨m17, Q18, rfl⟩
   have O20 := Hold.nm (O13.retC Q18 vfs_nil)
   refine ⟨_, rfl, ?_⟩
   obtain ⟨g21, e⟩ := guard_e e
   refine ⟨g21, ?_⟩
   exact (ih _ _ e) (O20.pick [0]).nm e_1 rfl k_38 r_38 tab
 · obtain ⟨A22, c23, q24, k25, r26⟩ := T_Expr.g5 e_1
   refine ⟨_, ldk (k := 5) (Sub.refl _) (O.all 0 rfl) q24, _, _, _, rfl, ?_⟩
   exact (ih _ _ e) (O.pick [0]).nm e_1 rfl k25 r26 tab
theorem r2_ExprMark_k.step_l1 (go : (p : r2_ExprMark_k.Pt) → Option (ByteArray)) (ih : ∀ p r, go p = some r → r2_ExprMark_k.I p r) (y_1 s_3 a_50 x_51 x_52) (r) (e : r2_ExprMark_k.body go (.l1 y_1 s_3 a_50 x_51 x_52) = some r) : r2_ExprMark_k.I (.l1 y_1 s_3 a_50 x_51 x_52) r := by
 unfold r2_ExprMark_k.body at e
 intro W h0 m0 h m bk_1 cs_1 A_50 n_50 c_50 O e_1 ne_50 k_50 r_50 tab
 subst ne_50
 refine f35.l1_in ?_
 unfold f35.l1T
 refine split_dec_e e (fun c27 e => ?_) (fun c27 e => ?_)
 · obtain ⟨y1, g2, e⟩ := bind_e e
   refine r_50.addr rfl g2 fun a3 cs4 ha5 hc6 he7 => ?_
   refine ⟨_, ldAn O.s hc6 rfl, ?_⟩
   refine O.new fun h8 x9 O10 => ?_
   refine ⟨_, rfl, (T_Expr.T.len _ _ _ he7), ?_⟩
   refine O10.stA 1 rfl (T_Expr.T.len _ _ _ he7) (T_Expr.T.flat _ _ _ he7) fun h12 O13 => ?_
   refine ⟨_, ldAn (Sub.refl _) (O13.all 1 rfl) (T_Expr.T.len _ _ _ he7), ?_⟩
   obtain ⟨y14, g15, e⟩ := bind_e e
   refine ((ih _ _ g15) (Hold.start (W := No) O13.s) he7 tab).mono ?_
   rintro _ h16 ⟨m17, Q18, rfl⟩
   have O20 := Hold.nm (O13.retC Q18 vfs_nil)
   refine ⟨_, rfl, ?_⟩
   obtain ⟨g21, e⟩ := guard_e e
   refine ⟨g21, ?_⟩
   exact (ih _ _ e) (O20.pick [0]).nm e_1 rfl k_50 r_50 tab
 · obtain ⟨A22, c23, q24, k25, r26⟩ := T_Expr.g6 e_1
   refine ⟨_, ldk (k := 6) (Sub.refl _) (O.all 0 rfl) q24, _, _, _, rfl, ?_⟩
   exact (ih _ _ e) (O.pick []).nm rfl k25 r26 tab
theorem r2_ExprMark_k.step_l2 (go : (p : r2_ExprMark_k.Pt) → Option (ByteArray)) (ih : ∀ p r, go p = some r → r2_ExprMark_k.I p r) (s_3 a_62 x_63 x_64) (r) (e : r2_ExprMark_k.body go (.l2 s_3 a_62 x_63 x_64) = some r) : r2_ExprMark_k.I (.l2 s_3 a_62 x_63 x_64) r := by
 unfold r2_ExprMark_k.body at e
 intro W h0 m0 h m A_62 n_62 c_62 O ne_62 k_62 r_62 tab
 subst ne_62
 refine f35.l2_in ?_
 unfold f35.l2T
 refine split_dec_e e (fun c30 e => ?_) (fun c30 e => ?_)
 · obtain ⟨y1, g2, e⟩ := bind_e e
   refine r_62.addr rfl g2 fun a3 cs4 ha5 hc6 he7 => ?_
   refine ⟨_, ldAn O.s hc6 rfl, ?_⟩
   refine O.new fun h8 x9 O10 => ?_
   refine ⟨_, rfl, (T_Arm.T.len _ _ _ he7), ?_⟩
   refine O10.stA 0 rfl (T_Arm.T.len _ _ _ he7) (T_Arm.T.flat _ _ _ he7) fun h12 O13 => ?_
   refine ⟨_, ldA0n (Sub.refl _) (O13.all 0 rfl) 4 (le_len (T_Arm.T.len _ _ _ he7) (by decide)), ?_⟩
   refine ⟨_, ldAkn (Sub.refl _) (O13.all 0 rfl) 4 8 (le_len (T_Arm.T.len _ _ _ he7) (by decide)), ?_⟩
   obtain ⟨y14, g15, e⟩ := bind_e e
   refine (r2_PatMark.walk (Hold.start (W := No) O13.s) (T_Arm.u0_95 he7) tab g15).mono ?_
   rintro _ h16 ⟨m17, Q18, rfl⟩
   have O20 := Hold.nm (O13.retC Q18 vfs_nil)
   refine ⟨_, rfl, ?_⟩
   refine ⟨ldAkn (Sub.refl _) (O20.all 0 rfl) 4 8 (le_len (T_Arm.T.len _ _ _ he7) (by decide)), ?_⟩
   obtain ⟨y21, g22, e⟩ := bind_e e
   refine ((ih _ _ g22) (Hold.start (W := No) O20.s) (T_Arm.u4_48 he7) tab).mono ?_
   rintro _ h23 ⟨m24, Q25, rfl⟩
   have O27 := Hold.nm (O20.retC Q25 vfs_nil)
   refine ⟨_, rfl, ?_⟩
   obtain ⟨g28, e⟩ := guard_e e
   refine ⟨g28, ?_⟩
   obtain ⟨g29, e⟩ := guard_e e
   refine ⟨g29, ?_⟩
   exact (ih _ _ e) (O27.pick []).nm rfl k_62 r_62 tab
 · cases e
   exact ⟨_, O.pick [], rfl⟩
theorem r2_ExprMark_k.all {p : r2_ExprMark_k.Pt} {r : (ByteArray)} (e : r2_ExprMark_k.go p = some r) : r2_ExprMark_k.I p r := fixF_ind (β := fun _ => (ByteArray)) r2_ExprMark_k.mono (I := r2_ExprMark_k.I) (fun go ih p r e => match p with
 | .f y_0 => r2_ExprMark_k.step_f go ih y_0 r e
 | .j0 y_1 s_3 => r2_ExprMark_k.step_j0 go ih y_1 s_3 r e
 | .l0 y_1 s_3 a_38 x_39 x_40 => r2_ExprMark_k.step_l0 go ih y_1 s_3 a_38 x_39 x_40 r e
 | .l1 y_1 s_3 a_50 x_51 x_52 => r2_ExprMark_k.step_l1 go ih y_1 s_3 a_50 x_51 x_52 r e
 | .l2 s_3 a_62 x_63 x_64 => r2_ExprMark_k.step_l2 go ih s_3 a_62 x_63 x_64 r e
 ) e
theorem r2_ExprMark.walk {W h m cs_0 y_0} (O : Hold W h m h m []) (e_0 : T_Expr.E m y_0 cs_0) (tab : TB m) {r} (e : r2_ExprMark y_0 = some r) : Run Tryz.prog 35 #[Value.agg cs_0.toArray] h (r2_ExprMark.post W h m r) := r2_ExprMark_k.all (p := .f y_0) e O e_0 tab
def rj_fun.post (W : Nat → Prop) (bkio0 : Nat) (h0 m0 : Heap) (r : T_jd) (v : Value) (h : Heap) : Prop := ∃ m csio0, Hold W h0 m0 h m [rV bkio0 57 csio0] ∧ v = .tuple #[] ∧ T_jd.E m r csio0
noncomputable def rj_fun.j0 (y_io0 : T_jd) (b_2 : Bool) (y_4 : T_Func) : Option (T_jd) :=
 Option.bind (rj_list y_io0 y_4.Params) fun y6 => Option.bind (rj_list y6 y_4.Names) fun y25 => Option.bind (rj_types y25 y_4.Types) fun y44 => Option.bind (rj_types y44 ([y_4.Out] : List T_Type)) fun y64 => if b_2 = true then (Option.bind (rj_body y64 y_4.Body false) fun y83 => some (y83)) else (Option.bind (r2_ExprMark y_4.Body) fun y97 => Option.bind (r2_ExprMark (T_Expr.mk (0 : Int) (0 : Int) (ByteArray.mk #[]) ([] : List ByteArray) ([] : List T_Type) ([] : List T_Expr) ([] : List T_Arm) (0 : Int))) fun y104 => Option.bind (rj_form y64 (decide (y97 = y104))) fun y111 => some (y111))
set_option maxHeartbeats 4000000 in
theorem rj_fun.j0.walk {W h0 m0 h m bk_io0 cs_io0 bk_4 cs_4 y_io0 b_2 y_4} (O : Hold W h0 m0 h m [rV bk_io0 57 cs_io0, rV bk_4 50 cs_4]) (e_io0 : T_jd.E m y_io0 cs_io0) (e_4 : T_Func.E m y_4 cs_4) (tab : TB m) {r} (e : rj_fun.j0 y_io0 b_2 y_4 = some r) : f19.j0 (rj_fun.post W bk_io0 h0 m0 r) (⟨bk_io0, 0, none⟩ : Addr) b_2 (⟨bk_4, 0, none⟩ : Addr) h := by
 unfold rj_fun.j0 at e
 refine f19.j0_in ?_
 unfold f19.j0T
 obtain ⟨A1, c2, q3, k4, r5⟩ := T_Func.g1 e_4
 refine ⟨_, ldk (k := 1) (Sub.refl _) (O.all 1 rfl) q3, _, _, _, rfl, ?_⟩
 obtain ⟨y6, g7, e⟩ := bind_e e
 obtain ⟨W12, P13, B14, C15⟩ := O.callC [0]
 refine (rj_list.walk P13 e_io0 rfl k4 r5 tab g7).mono ?_
 rintro _ h8 ⟨m9, cs17, Q10, rfl, he18⟩
 replace he18 : T_jd.E m y6 cs17 := T_jd.keep he18
 have O19 := Hold.nm (C15 Q10 (vfs_cons rV_vf vfs_nil))
 refine ⟨rfl, ?_⟩
 obtain ⟨A20, c21, q22, k23, r24⟩ := T_Func.g2 e_4
 refine ⟨_, ldk (k := 2) (Sub.refl _) (O19.all 1 rfl) q22, _, _, _, rfl, ?_⟩
 obtain ⟨y25, g26, e⟩ := bind_e e
 obtain ⟨W31, P32, B33, C34⟩ := O19.callC [2]
 refine (rj_list.walk P32 he18 rfl k23 r24 tab g26).mono ?_
 rintro _ h27 ⟨m28, cs36, Q29, rfl, he37⟩
 replace he37 : T_jd.E m y25 cs36 := T_jd.keep he37
 have O38 := Hold.nm (C34 Q29 (vfs_cons rV_vf vfs_nil))
 refine ⟨rfl, ?_⟩
 obtain ⟨A39, c40, q41, k42, r43⟩ := T_Func.g3 e_4
 refine ⟨_, ldk (k := 3) (Sub.refl _) (O38.all 1 rfl) q41, _, _, _, rfl, ?_⟩
 obtain ⟨y44, g45, e⟩ := bind_e e
 obtain ⟨W50, P51, B52, C53⟩ := O38.callC [3]
 refine (rj_types.walk P51 he37 rfl k42 r43 tab g45).mono ?_
 rintro _ h46 ⟨m47, cs55, Q48, rfl, he56⟩
 replace he56 : T_jd.E m y44 cs55 := T_jd.keep he56
 have O57 := Hold.nm (C53 Q48 (vfs_cons rV_vf vfs_nil))
 refine ⟨rfl, ?_⟩
 refine ⟨_, ldAkn (Sub.refl _) (O57.all 1 rfl) 4 3 (le_len (T_Func.T.len _ _ _ e_4) (by decide)), ?_⟩
 refine ⟨(List.take 3 (List.drop 4 cs_4)), rfl, (T_Type.T.len _ _ _ (T_Func.u4_44 e_4)), ?_⟩
 refine O57.new fun h58 x59 O60 => ?_
 have O62 := O60.recell 5 rfl (cs' := (List.take 3 (List.drop 4 cs_4)) ++ []) rfl
 obtain ⟨y64, g65, e⟩ := bind_e e
 have O63 := O62.rowE (l := ([y_4.Out] : List T_Type)) 5 rfl T_Type.T (show CsE _ _ _ _ _ from (CsE.cons (T_Func.u4_44 e_4) (T_Type.T.len _ _ _ (T_Func.u4_44 e_4)) CsE.nil)) rfl
 have O70 := O63.nm
 obtain ⟨m71, W77, u72, P78, ⟨⟨r75, k76⟩, _⟩, B73, C74⟩ := O70.lend [4] [5]
 replace r75 : Rd 3 T_Type.E m71 (some ⟨(Array.size h46), 0, none⟩) ([y_4.Out] : List T_Type) := r75
 replace k76 : List.length ([y_4.Out] : List T_Type) ≤ 1 := k76
 refine (rj_types.walk P78 (T_jd.T.mono _ _ _ _ u72 he56) rfl k76 r75 (TB.sub tab u72) g65).mono ?_
 rintro _ h66 ⟨m67, cs80, Q68, rfl, he81⟩
 replace he81 : T_jd.E m y64 cs80 := T_jd.keep he81
 have O82 := Hold.nm (C74 Q68 (vfs_cons rV_vf vfs_nil))
 refine ⟨rfl, ?_⟩
 refine split_any_e e (fun c125 e => ?_) (fun c125 e => ?_)
 · refine ⟨_, ldAkn (Sub.refl _) (O82.all 1 rfl) 7 8 (le_len (T_Func.T.len _ _ _ e_4) (by decide)), ?_⟩
   obtain ⟨y83, g84, e⟩ := bind_e e
   obtain ⟨W89, P90, B91, C92⟩ := O82.callC [6]
   refine (rj_body.walk P90 he81 (T_Func.u7_48 e_4) tab g84).mono ?_
   rintro _ h85 ⟨m86, cs94, Q87, rfl, he95⟩
   replace he95 : T_jd.E m y83 cs94 := T_jd.keep he95
   have O96 := Hold.nm (C92 Q87 (vfs_cons rV_vf vfs_nil))
   refine ⟨rfl, ?_⟩
   cases e
   exact ⟨_, _, O96.pick [7], rfl, he95⟩
 · refine ⟨_, ldAkn (Sub.refl _) (O82.all 1 rfl) 7 8 (le_len (T_Func.T.len _ _ _ e_4) (by decide)), ?_⟩
   obtain ⟨y97, g98, e⟩ := bind_e e
   refine (r2_ExprMark.walk (Hold.start (W := No) O82.s) (T_Func.u7_48 e_4) tab g98).mono ?_
   rintro _ h99 ⟨m100, Q101, rfl⟩
   have O103 := Hold.nm (O82.retC Q101 vfs_nil)
   refine ⟨_, rfl, ?_⟩
   obtain ⟨y104, g105, e⟩ := bind_e e
   refine (r2_ExprMark.walk (Hold.start (W := No) O103.s) (T_Expr.iff.2 ⟨_, _, _, _, _, _, _, _, rfl, (by exact Nat.le_refl 0), Rd.nil, (by exact Nat.le_refl 0), Rd.nil, (by exact Nat.le_refl 0), Rd.nil, (by exact Nat.le_refl 0), Rd.nil⟩) tab g105).mono ?_
   rintro _ h106 ⟨m107, Q108, rfl⟩
   have O110 := Hold.nm (O103.retC Q108 vfs_nil)
   refine ⟨_, rfl, ?_⟩
   try rw [ba_list y97 y104]
   obtain ⟨y111, g112, e⟩ := bind_e e
   obtain ⟨W117, P118, B119, C120⟩ := O110.callC [6]
   refine (rj_form.walk P118 he81 g112).mono ?_
   rintro _ h113 ⟨m114, cs122, Q115, rfl, he123⟩
   replace he123 : T_jd.E m y111 cs122 := T_jd.keep he123
   have O124 := Hold.nm (C120 Q115 (vfs_cons rV_vf vfs_nil))
   refine ⟨rfl, ?_⟩
   cases e
   exact ⟨_, _, O124.pick [7], rfl, he123⟩
noncomputable def rj_fun (y_0 : T_jd) (y_1 : T_Func) (b_2 : Bool) : Option (T_jd) :=
 Option.bind (r2_Small y_1.Name) fun y5 => if y5 = true then (Option.bind (rj_form y_0 ((((List.length y_1.Names) : Nat) : Int) == (((List.length y_1.Types) : Nat) : Int))) fun y22 => (rj_fun.j0 y22 b_2 y_1)) else (Option.bind (rj_form y_0 false) fun y36 => (rj_fun.j0 y36 b_2 y_1))
theorem rj_fun.walk {W h m bkio0 cs_0 cs_1 y_0 y_1 b_2} (O : Hold W h m h m [rV bkio0 57 cs_0]) (e_0 : T_jd.E m y_0 cs_0) (e_1 : T_Func.E m y_1 cs_1) (tab : TB m) {r} (e : rj_fun y_0 y_1 b_2 = some r) : Run Tryz.prog 19 #[Value.pointer (some ⟨bkio0, 0, none⟩), Value.agg cs_1.toArray, Value.bool b_2] h (rj_fun.post W bkio0 h m r) := by
 unfold rj_fun at e
 refine f19.run ?_
 unfold f19.runT
 refine O.new fun h1 x2 O3 => ?_
 refine ⟨_, ld0 (Sub.refl _) (O3.all 1 rfl) (T_Func.g0 e_1), _, rfl, ?_⟩
 obtain ⟨y5, g6, e⟩ := bind_e e
 refine (r2_Small.walk (Hold.start (W := No) O3.s) tab g6).mono ?_
 rintro _ h7 ⟨m8, Q9, rfl⟩
 have O11 := Hold.nm (O3.retC Q9 vfs_nil)
 refine ⟨_, rfl, ?_⟩
 refine split_any_e e (fun c50 e => ?_) (fun c50 e => ?_)
 · obtain ⟨A12, c13, q14, k15, r16⟩ := T_Func.g2 e_1
   refine ⟨_, ldk (k := 2) (Sub.refl _) (O11.all 1 rfl) q14, _, _, _, rfl, ?_⟩
   obtain ⟨A17, c18, q19, k20, r21⟩ := T_Func.g3 e_1
   refine ⟨_, ldk (k := 3) (Sub.refl _) (O11.all 1 rfl) q19, _, _, _, rfl, ?_⟩
   obtain ⟨y22, g23, e⟩ := bind_e e
   obtain ⟨W28, P29, B30, C31⟩ := O11.callC [0]
   refine (rj_form.walk P29 e_0 g23).mono ?_
   rintro _ h24 ⟨m25, cs33, Q26, rfl, he34⟩
   replace he34 : T_jd.E m y22 cs33 := T_jd.keep he34
   have O35 := Hold.nm (C31 Q26 (vfs_cons rV_vf vfs_nil))
   refine ⟨rfl, ?_⟩
   exact rj_fun.j0.walk (O35.pick [2, 1]).nm he34 e_1 tab e
 · obtain ⟨y36, g37, e⟩ := bind_e e
   obtain ⟨W42, P43, B44, C45⟩ := O11.callC [0]
   refine (rj_form.walk P43 e_0 g37).mono ?_
   rintro _ h38 ⟨m39, cs47, Q40, rfl, he48⟩
   replace he48 : T_jd.E m y36 cs47 := T_jd.keep he48
   have O49 := Hold.nm (C45 Q40 (vfs_cons rV_vf vfs_nil))
   refine ⟨rfl, ?_⟩
   exact rj_fun.j0.walk (O49.pick [2, 1]).nm he48 e_1 tab e
def r2_RightOf.post (W : Nat → Prop) (h0 m0 : Heap) (r : Int) (v : Value) (h : Heap) : Prop := ∃ m , Hold W h0 m0 h m [] ∧ v = .int .i64 r
inductive r2_RightOf.l6_k.Pt where
 | l6 (y_3 : T_jd) (a_230 : List T_Actor) (x_231 : Int) (x_232 : Int)
 | j3 (y_3 : T_jd) (y_23 : T_Actor) (a_230 : List T_Actor) (x_231 : Int) (x_232 : Int)
noncomputable def r2_RightOf.l6_k.body (go : (p : r2_RightOf.l6_k.Pt) → Option (Int)) : (p : r2_RightOf.l6_k.Pt) → Option (Int)
 | .l6 y_3 a_230 x_231 x_232 => if x_232 < x_231 then (Option.bind (gi a_230 x_232) fun y1 => Option.bind (r2_Great y1.Name) fun y14 => if y14 = true then (Option.bind (rj_form y_3 ((((List.length y1.Names) : Nat) : Int) == (((List.length y1.Types) : Nat) : Int))) fun y31 => (go (.j3 y31 y1 a_230 x_231 x_232))) else (Option.bind (rj_form y_3 false) fun y45 => (go (.j3 y45 y1 a_230 x_231 x_232)))) else (some (y_3.e_))
 | .j3 y_3 y_23 a_230 x_231 x_232 => Option.bind (rj_list y_3 y_23.Names) fun y6 => Option.bind (rj_types y6 y_23.Types) fun y25 => Option.bind (rj_types y25 ([y_23.Msg] : List T_Type)) fun y45 => Option.bind (rj_body y45 y_23.Body true) fun y64 => (go (.l6 y64 a_230 x_231 (IntKind.wrap .i64 (x_232 + (1 : Int)))))
theorem r2_RightOf.l6_k.mono : MonoF (β := fun _ => (Int)) r2_RightOf.l6_k.body := fun f g hfg p => match p with
 | .l6 y_3 a_230 x_231 x_232 => LeO.ite (LeO.bind (LeO.refl _) fun y1 => LeO.bind (LeO.refl _) fun y14 => LeO.ite (LeO.bind (LeO.refl _) fun y31 => (hfg _)) (LeO.bind (LeO.refl _) fun y45 => (hfg _))) (LeO.refl _)
 | .j3 y_3 y_23 a_230 x_231 x_232 => LeO.bind (LeO.refl _) fun y6 => LeO.bind (LeO.refl _) fun y25 => LeO.bind (LeO.refl _) fun y45 => LeO.bind (LeO.refl _) fun y64 => (hfg _)
noncomputable def r2_RightOf.l6_k.go (p : r2_RightOf.l6_k.Pt) : Option (Int) := fixF (β := fun _ => (Int)) r2_RightOf.l6_k.body p
noncomputable def r2_RightOf.l6 (y_3 a_230 x_231 x_232) := r2_RightOf.l6_k.go (.l6 y_3 a_230 x_231 x_232)
noncomputable def r2_RightOf.j3 (y_3 y_23 a_230 x_231 x_232) := r2_RightOf.l6_k.go (.j3 y_3 y_23 a_230 x_231 x_232)
theorem r2_RightOf.l6_eq (y_3 a_230 x_231 x_232) : r2_RightOf.l6 y_3 a_230 x_231 x_232 = if x_232 < x_231 then (Option.bind (gi a_230 x_232) fun y1 => Option.bind (r2_Great y1.Name) fun y14 => if y14 = true then (Option.bind (rj_form y_3 ((((List.length y1.Names) : Nat) : Int) == (((List.length y1.Types) : Nat) : Int))) fun y31 => (r2_RightOf.j3 y31 y1 a_230 x_231 x_232)) else (Option.bind (rj_form y_3 false) fun y45 => (r2_RightOf.j3 y45 y1 a_230 x_231 x_232))) else (some (y_3.e_)) := fixF_eq r2_RightOf.l6_k.mono _
theorem r2_RightOf.j3_eq (y_3 y_23 a_230 x_231 x_232) : r2_RightOf.j3 y_3 y_23 a_230 x_231 x_232 = Option.bind (rj_list y_3 y_23.Names) fun y6 => Option.bind (rj_types y6 y_23.Types) fun y25 => Option.bind (rj_types y25 ([y_23.Msg] : List T_Type)) fun y45 => Option.bind (rj_body y45 y_23.Body true) fun y64 => (r2_RightOf.l6 y64 a_230 x_231 (IntKind.wrap .i64 (x_232 + (1 : Int)))) := fixF_eq r2_RightOf.l6_k.mono _
def r2_RightOf.l6_k.I : (p : r2_RightOf.l6_k.Pt) → (Int) → Prop
 | .l6 y_3 a_230 x_231 x_232, r => ∀ {W h0 m0 h m bk_3 cs_3 A_230 n_230 c_230} (O : Hold W h0 m0 h m [rV bk_3 57 cs_3]) (e_3 : T_jd.E m y_3 cs_3) (ne_230 : n_230 = List.length a_230) (k_230 : List.length a_230 ≤ c_230) (r_230 : Rd 14 T_Actor.E m A_230 a_230) (tab : TB m), f5.l6 (r2_RightOf.post W h0 m0 r) (⟨bk_3, 0, none⟩ : Addr) A_230 n_230 c_230 x_231 x_232 h
 | .j3 y_3 y_23 a_230 x_231 x_232, r => ∀ {W h0 m0 h m bk_3 cs_3 bk_23 cs_23 A_230 n_230 c_230} (O : Hold W h0 m0 h m [rV bk_3 57 cs_3, rV bk_23 53 cs_23]) (e_3 : T_jd.E m y_3 cs_3) (e_23 : T_Actor.E m y_23 cs_23) (ne_230 : n_230 = List.length a_230) (k_230 : List.length a_230 ≤ c_230) (r_230 : Rd 14 T_Actor.E m A_230 a_230) (tab : TB m), f5.j3 (r2_RightOf.post W h0 m0 r) (⟨bk_3, 0, none⟩ : Addr) (⟨bk_23, 0, none⟩ : Addr) A_230 n_230 c_230 x_231 x_232 h
set_option maxHeartbeats 4000000 in
theorem r2_RightOf.l6_k.step_l6 (go : (p : r2_RightOf.l6_k.Pt) → Option (Int)) (ih : ∀ p r, go p = some r → r2_RightOf.l6_k.I p r) (y_3 a_230 x_231 x_232) (r) (e : r2_RightOf.l6_k.body go (.l6 y_3 a_230 x_231 x_232) = some r) : r2_RightOf.l6_k.I (.l6 y_3 a_230 x_231 x_232) r := by
 unfold r2_RightOf.l6_k.body at e
 intro W h0 m0 h m bk_3 cs_3 A_230 n_230 c_230 O e_3 ne_230 k_230 r_230 tab
 subst ne_230
 refine f5.l6_in ?_
 unfold f5.l6T
 refine split_dec_e e (fun c60 e => ?_) (fun c60 e => ?_)
 · obtain ⟨y1, g2, e⟩ := bind_e e
   refine r_230.addr rfl g2 fun a3 cs4 ha5 hc6 he7 => ?_
   refine ⟨_, ldAn O.s hc6 rfl, ?_⟩
   refine O.new fun h8 x9 O10 => ?_
   refine ⟨_, rfl, (T_Actor.T.len _ _ _ he7), ?_⟩
   refine O10.stA 1 rfl (T_Actor.T.len _ _ _ he7) (T_Actor.T.flat _ _ _ he7) fun h12 O13 => ?_
   refine ⟨_, ld0 (Sub.refl _) (O13.all 1 rfl) (T_Actor.g0 he7), _, rfl, ?_⟩
   obtain ⟨y14, g15, e⟩ := bind_e e
   refine (r2_Great.walk (Hold.start (W := No) O13.s)  g15).mono ?_
   rintro _ h16 ⟨m17, Q18, rfl⟩
   have O20 := Hold.nm (O13.retC Q18 vfs_nil)
   refine ⟨_, rfl, ?_⟩
   refine split_any_e e (fun c59 e => ?_) (fun c59 e => ?_)
   · obtain ⟨A21, c22, q23, k24, r25⟩ := T_Actor.g1 he7
     refine ⟨_, ldk (k := 1) (Sub.refl _) (O20.all 1 rfl) q23, _, _, _, rfl, ?_⟩
     obtain ⟨A26, c27, q28, k29, r30⟩ := T_Actor.g2 he7
     refine ⟨_, ldk (k := 2) (Sub.refl _) (O20.all 1 rfl) q28, _, _, _, rfl, ?_⟩
     obtain ⟨y31, g32, e⟩ := bind_e e
     obtain ⟨W37, P38, B39, C40⟩ := O20.callC [0]
     refine (rj_form.walk P38 e_3 g32).mono ?_
     rintro _ h33 ⟨m34, cs42, Q35, rfl, he43⟩
     replace he43 : T_jd.E m y31 cs42 := T_jd.keep he43
     have O44 := Hold.nm (C40 Q35 (vfs_cons rV_vf vfs_nil))
     refine ⟨rfl, ?_⟩
     exact (ih _ _ e) (O44.pick [2, 1]).nm he43 he7 rfl k_230 r_230 tab
   · obtain ⟨y45, g46, e⟩ := bind_e e
     obtain ⟨W51, P52, B53, C54⟩ := O20.callC [0]
     refine (rj_form.walk P52 e_3 g46).mono ?_
     rintro _ h47 ⟨m48, cs56, Q49, rfl, he57⟩
     replace he57 : T_jd.E m y45 cs56 := T_jd.keep he57
     have O58 := Hold.nm (C54 Q49 (vfs_cons rV_vf vfs_nil))
     refine ⟨rfl, ?_⟩
     exact (ih _ _ e) (O58.pick [2, 1]).nm he57 he7 rfl k_230 r_230 tab
 · refine ⟨_, ld0 (Sub.refl _) (O.all 0 rfl) (T_jd.g0 e_3), _, rfl, ?_⟩
   cases e
   exact ⟨_, O.pick [], rfl⟩
set_option maxHeartbeats 4000000 in
theorem r2_RightOf.l6_k.step_j3 (go : (p : r2_RightOf.l6_k.Pt) → Option (Int)) (ih : ∀ p r, go p = some r → r2_RightOf.l6_k.I p r) (y_3 y_23 a_230 x_231 x_232) (r) (e : r2_RightOf.l6_k.body go (.j3 y_3 y_23 a_230 x_231 x_232) = some r) : r2_RightOf.l6_k.I (.j3 y_3 y_23 a_230 x_231 x_232) r := by
 unfold r2_RightOf.l6_k.body at e
 intro W h0 m0 h m bk_3 cs_3 bk_23 cs_23 A_230 n_230 c_230 O e_3 e_23 ne_230 k_230 r_230 tab
 subst ne_230
 refine f5.j3_in ?_
 unfold f5.j3T
 obtain ⟨A1, c2, q3, k4, r5⟩ := T_Actor.g1 e_23
 refine ⟨_, ldk (k := 1) (Sub.refl _) (O.all 1 rfl) q3, _, _, _, rfl, ?_⟩
 obtain ⟨y6, g7, e⟩ := bind_e e
 obtain ⟨W12, P13, B14, C15⟩ := O.callC [0]
 refine (rj_list.walk P13 e_3 rfl k4 r5 tab g7).mono ?_
 rintro _ h8 ⟨m9, cs17, Q10, rfl, he18⟩
 replace he18 : T_jd.E m y6 cs17 := T_jd.keep he18
 have O19 := Hold.nm (C15 Q10 (vfs_cons rV_vf vfs_nil))
 refine ⟨rfl, ?_⟩
 obtain ⟨A20, c21, q22, k23, r24⟩ := T_Actor.g2 e_23
 refine ⟨_, ldk (k := 2) (Sub.refl _) (O19.all 1 rfl) q22, _, _, _, rfl, ?_⟩
 obtain ⟨y25, g26, e⟩ := bind_e e
 obtain ⟨W31, P32, B33, C34⟩ := O19.callC [2]
 refine (rj_types.walk P32 he18 rfl k23 r24 tab g26).mono ?_
 rintro _ h27 ⟨m28, cs36, Q29, rfl, he37⟩
 replace he37 : T_jd.E m y25 cs36 := T_jd.keep he37
 have O38 := Hold.nm (C34 Q29 (vfs_cons rV_vf vfs_nil))
 refine ⟨rfl, ?_⟩
 refine ⟨_, ldAkn (Sub.refl _) (O38.all 1 rfl) 3 3 (le_len (T_Actor.T.len _ _ _ e_23) (by decide)), ?_⟩
 refine ⟨(List.take 3 (List.drop 3 cs_23)), rfl, (T_Type.T.len _ _ _ (T_Actor.u3_44 e_23)), ?_⟩
 refine O38.new fun h39 x40 O41 => ?_
 have O43 := O41.recell 4 rfl (cs' := (List.take 3 (List.drop 3 cs_23)) ++ []) rfl
 obtain ⟨y45, g46, e⟩ := bind_e e
 have O44 := O43.rowE (l := ([y_23.Msg] : List T_Type)) 4 rfl T_Type.T (show CsE _ _ _ _ _ from (CsE.cons (T_Actor.u3_44 e_23) (T_Type.T.len _ _ _ (T_Actor.u3_44 e_23)) CsE.nil)) rfl
 have O51 := O44.nm
 obtain ⟨m52, W58, u53, P59, ⟨⟨r56, k57⟩, _⟩, B54, C55⟩ := O51.lend [3] [4]
 replace r56 : Rd 3 T_Type.E m52 (some ⟨(Array.size h27), 0, none⟩) ([y_23.Msg] : List T_Type) := r56
 replace k57 : List.length ([y_23.Msg] : List T_Type) ≤ 1 := k57
 refine (rj_types.walk P59 (T_jd.T.mono _ _ _ _ u53 he37) rfl k57 r56 (TB.sub tab u53) g46).mono ?_
 rintro _ h47 ⟨m48, cs61, Q49, rfl, he62⟩
 replace he62 : T_jd.E m y45 cs61 := T_jd.keep he62
 have O63 := Hold.nm (C55 Q49 (vfs_cons rV_vf vfs_nil))
 refine ⟨rfl, ?_⟩
 refine ⟨_, ldAkn (Sub.refl _) (O63.all 1 rfl) 6 8 (le_len (T_Actor.T.len _ _ _ e_23) (by decide)), ?_⟩
 obtain ⟨y64, g65, e⟩ := bind_e e
 obtain ⟨W70, P71, B72, C73⟩ := O63.callC [5]
 refine (rj_body.walk P71 he62 (T_Actor.u6_48 e_23) tab g65).mono ?_
 rintro _ h66 ⟨m67, cs75, Q68, rfl, he76⟩
 replace he76 : T_jd.E m y64 cs75 := T_jd.keep he76
 have O77 := Hold.nm (C73 Q68 (vfs_cons rV_vf vfs_nil))
 refine ⟨rfl, ?_⟩
 exact (ih _ _ e) (O77.pick [6]).nm he76 rfl k_230 r_230 tab
theorem r2_RightOf.l6_k.all {p : r2_RightOf.l6_k.Pt} {r : (Int)} (e : r2_RightOf.l6_k.go p = some r) : r2_RightOf.l6_k.I p r := fixF_ind (β := fun _ => (Int)) r2_RightOf.l6_k.mono (I := r2_RightOf.l6_k.I) (fun go ih p r e => match p with
 | .l6 y_3 a_230 x_231 x_232 => r2_RightOf.l6_k.step_l6 go ih y_3 a_230 x_231 x_232 r e
 | .j3 y_3 y_23 a_230 x_231 x_232 => r2_RightOf.l6_k.step_j3 go ih y_3 y_23 a_230 x_231 x_232 r e
 ) e
inductive r2_RightOf.l5_k.Pt where
 | l5 (y_1 : T_Program) (y_3 : T_jd) (a_219 : List T_Func) (x_220 : Int) (x_221 : Int)
noncomputable def r2_RightOf.l5_k.body (go : (p : r2_RightOf.l5_k.Pt) → Option (Int)) : (p : r2_RightOf.l5_k.Pt) → Option (Int)
 | .l5 y_1 y_3 a_219 x_220 x_221 => if x_221 < x_220 then (Option.bind (gi a_219 x_221) fun y1 => Option.bind (rj_fun y_3 y1 true) fun y14 => (go (.l5 y_1 y14 a_219 x_220 (IntKind.wrap .i64 (x_221 + (1 : Int)))))) else ((r2_RightOf.l6 y_3 y_1.Actors (((List.length y_1.Actors) : Nat) : Int) (0 : Int)))
theorem r2_RightOf.l5_k.mono : MonoF (β := fun _ => (Int)) r2_RightOf.l5_k.body := fun f g hfg p => match p with
 | .l5 y_1 y_3 a_219 x_220 x_221 => LeO.ite (LeO.bind (LeO.refl _) fun y1 => LeO.bind (LeO.refl _) fun y14 => (hfg _)) ((LeO.refl _))
noncomputable def r2_RightOf.l5_k.go (p : r2_RightOf.l5_k.Pt) : Option (Int) := fixF (β := fun _ => (Int)) r2_RightOf.l5_k.body p
noncomputable def r2_RightOf.l5 (y_1 y_3 a_219 x_220 x_221) := r2_RightOf.l5_k.go (.l5 y_1 y_3 a_219 x_220 x_221)
theorem r2_RightOf.l5_eq (y_1 y_3 a_219 x_220 x_221) : r2_RightOf.l5 y_1 y_3 a_219 x_220 x_221 = if x_221 < x_220 then (Option.bind (gi a_219 x_221) fun y1 => Option.bind (rj_fun y_3 y1 true) fun y14 => (r2_RightOf.l5 y_1 y14 a_219 x_220 (IntKind.wrap .i64 (x_221 + (1 : Int))))) else ((r2_RightOf.l6 y_3 y_1.Actors (((List.length y_1.Actors) : Nat) : Int) (0 : Int))) := fixF_eq r2_RightOf.l5_k.mono _
def r2_RightOf.l5_k.I : (p : r2_RightOf.l5_k.Pt) → (Int) → Prop
 | .l5 y_1 y_3 a_219 x_220 x_221, r => ∀ {W h0 m0 h m bk_1 cs_1 bk_3 cs_3 A_219 n_219 c_219} (O : Hold W h0 m0 h m [rV bk_1 29 cs_1, rV bk_3 57 cs_3]) (e_1 : T_Program.E m y_1 cs_1) (e_3 : T_jd.E m y_3 cs_3) (ne_219 : n_219 = List.length a_219) (k_219 : List.length a_219 ≤ c_219) (r_219 : Rd 15 T_Func.E m A_219 a_219) (tab : TB m), f5.l5 (r2_RightOf.post W h0 m0 r) (⟨bk_1, 0, none⟩ : Addr) (⟨bk_3, 0, none⟩ : Addr) A_219 n_219 c_219 x_220 x_221 h
theorem r2_RightOf.l5_k.step_l5 (go : (p : r2_RightOf.l5_k.Pt) → Option (Int)) (ih : ∀ p r, go p = some r → r2_RightOf.l5_k.I p r) (y_1 y_3 a_219 x_220 x_221) (r) (e : r2_RightOf.l5_k.body go (.l5 y_1 y_3 a_219 x_220 x_221) = some r) : r2_RightOf.l5_k.I (.l5 y_1 y_3 a_219 x_220 x_221) r := by
 unfold r2_RightOf.l5_k.body at e
 intro W h0 m0 h m bk_1 cs_1 bk_3 cs_3 A_219 n_219 c_219 O e_1 e_3 ne_219 k_219 r_219 tab
 subst ne_219
 refine f5.l5_in ?_
 unfold f5.l5T
 refine split_dec_e e (fun c34 e => ?_) (fun c34 e => ?_)
 · obtain ⟨y1, g2, e⟩ := bind_e e
   refine r_219.addr rfl g2 fun a3 cs4 ha5 hc6 he7 => ?_
   refine ⟨_, ldAn O.s hc6 rfl, ?_⟩
   refine O.new fun h8 x9 O10 => ?_
   refine ⟨_, rfl, (T_Func.T.len _ _ _ he7), ?_⟩
   refine O10.stA 2 rfl (T_Func.T.len _ _ _ he7) (T_Func.T.flat _ _ _ he7) fun h12 O13 => ?_
   refine ⟨_, ldAn (Sub.refl _) (O13.all 2 rfl) (T_Func.T.len _ _ _ he7), ?_⟩
   obtain ⟨y14, g15, e⟩ := bind_e e
   have O20 := O13.nm
   obtain ⟨W21, P22, B23, C24⟩ := O20.callC [1]
   refine (rj_fun.walk P22 e_3 he7 tab g15).mono ?_
   rintro _ h16 ⟨m17, cs26, Q18, rfl, he27⟩
   replace he27 : T_jd.E m y14 cs26 := T_jd.keep he27
   have O28 := Hold.nm (C24 Q18 (vfs_cons rV_vf vfs_nil))
   refine ⟨rfl, ?_⟩
   exact (ih _ _ e) (O28.pick [0, 3]).nm e_1 he27 rfl k_219 r_219 tab
 · obtain ⟨A29, c30, q31, k32, r33⟩ := T_Program.g7 e_1
   refine ⟨_, ldk (k := 7) (Sub.refl _) (O.all 0 rfl) q31, _, _, _, rfl, ?_⟩
   exact (r2_RightOf.l6_k.all e) (O.pick [1]).nm e_3 rfl k32 r33 tab
theorem r2_RightOf.l5_k.all {p : r2_RightOf.l5_k.Pt} {r : (Int)} (e : r2_RightOf.l5_k.go p = some r) : r2_RightOf.l5_k.I p r := fixF_ind (β := fun _ => (Int)) r2_RightOf.l5_k.mono (I := r2_RightOf.l5_k.I) (fun go ih p r e => match p with
 | .l5 y_1 y_3 a_219 x_220 x_221 => r2_RightOf.l5_k.step_l5 go ih y_1 y_3 a_219 x_220 x_221 r e
 ) e
inductive r2_RightOf.l4_k.Pt where
 | l4 (y_1 : T_Program) (y_3 : T_jd) (a_178 : List T_Impl) (x_179 : Int) (x_180 : Int)
 | j2 (y_1 : T_Program) (y_3 : T_jd) (y_17 : T_Impl) (a_178 : List T_Impl) (x_179 : Int) (x_180 : Int)
 | l9 (y_1 : T_Program) (y_3 : T_jd) (a_178 : List T_Impl) (x_179 : Int) (x_180 : Int) (a_207 : List T_Func) (x_208 : Int) (x_209 : Int)
noncomputable def r2_RightOf.l4_k.body (go : (p : r2_RightOf.l4_k.Pt) → Option (Int)) : (p : r2_RightOf.l4_k.Pt) → Option (Int)
 | .l4 y_1 y_3 a_178 x_179 x_180 => if x_180 < x_179 then (Option.bind (gi a_178 x_180) fun y1 => Option.bind (r2_Great y1.Trait) fun y14 => if y14 = true then (Option.bind (r2_Great y1.For) fun y21 => if y21 = true then (Option.bind (rj_form y_3 true) fun y28 => (go (.j2 y_1 y28 y1 a_178 x_179 x_180))) else (Option.bind (slices_Contains_20 ([(ByteArray.mk #[105, 110, 116]), (ByteArray.mk #[98, 111, 111, 108]), (ByteArray.mk #[116, 101, 120, 116]), (ByteArray.mk #[117, 110, 105, 116])] : List ByteArray) y1.For) fun y47 => Option.bind (rj_form y_3 y47) fun y62 => (go (.j2 y_1 y62 y1 a_178 x_179 x_180)))) else (Option.bind (rj_form y_3 false) fun y77 => (go (.j2 y_1 y77 y1 a_178 x_179 x_180)))) else ((r2_RightOf.l5 y_1 y_3 y_1.Funcs (((List.length y_1.Funcs) : Nat) : Int) (0 : Int)))
 | .j2 y_1 y_3 y_17 a_178 x_179 x_180 => Option.bind (rj_few y_3 (decide ((((List.length y_17.Funcs) : Nat) : Int) ≤ (12 : Int)))) fun y6 => (go (.l9 y_1 y6 a_178 x_179 x_180 y_17.Funcs (((List.length y_17.Funcs) : Nat) : Int) (0 : Int)))
 | .l9 y_1 y_3 a_178 x_179 x_180 a_207 x_208 x_209 => if x_209 < x_208 then (Option.bind (gi a_207 x_209) fun y1 => Option.bind (rj_fun y_3 y1 true) fun y14 => (go (.l9 y_1 y14 a_178 x_179 x_180 a_207 x_208 (IntKind.wrap .i64 (x_209 + (1 : Int)))))) else ((go (.l4 y_1 y_3 a_178 x_179 (IntKind.wrap .i64 (x_180 + (1 : Int))))))
theorem r2_RightOf.l4_k.mono : MonoF (β := fun _ => (Int)) r2_RightOf.l4_k.body := fun f g hfg p => match p with
 | .l4 y_1 y_3 a_178 x_179 x_180 => LeO.ite (LeO.bind (LeO.refl _) fun y1 => LeO.bind (LeO.refl _) fun y14 => LeO.ite (LeO.bind (LeO.refl _) fun y21 => LeO.ite (LeO.bind (LeO.refl _) fun y28 => (hfg _)) (LeO.bind (LeO.refl _) fun y47 => LeO.bind (LeO.refl _) fun y62 => (hfg _))) (LeO.bind (LeO.refl _) fun y77 => (hfg _))) ((LeO.refl _))
 | .j2 y_1 y_3 y_17 a_178 x_179 x_180 => LeO.bind (LeO.refl _) fun y6 => (hfg _)
 | .l9 y_1 y_3 a_178 x_179 x_180 a_207 x_208 x_209 => LeO.ite (LeO.bind (LeO.refl _) fun y1 => LeO.bind (LeO.refl _) fun y14 => (hfg _)) ((hfg _))
noncomputable def r2_RightOf.l4_k.go (p : r2_RightOf.l4_k.Pt) : Option (Int) := fixF (β := fun _ => (Int)) r2_RightOf.l4_k.body p
noncomputable def r2_RightOf.l4 (y_1 y_3 a_178 x_179 x_180) := r2_RightOf.l4_k.go (.l4 y_1 y_3 a_178 x_179 x_180)
noncomputable def r2_RightOf.j2 (y_1 y_3 y_17 a_178 x_179 x_180) := r2_RightOf.l4_k.go (.j2 y_1 y_3 y_17 a_178 x_179 x_180)
noncomputable def r2_RightOf.l9 (y_1 y_3 a_178 x_179 x_180 a_207 x_208 x_209) := r2_RightOf.l4_k.go (.l9 y_1 y_3 a_178 x_179 x_180 a_207 x_208 x_209)
theorem r2_RightOf.l4_eq (y_1 y_3 a_178 x_179 x_180) : r2_RightOf.l4 y_1 y_3 a_178 x_179 x_180 = if x_180 < x_179 then (Option.bind (gi a_178 x_180) fun y1 => Option.bind (r2_Great y1.Trait) fun y14 => if y14 = true then (Option.bind (r2_Great y1.For) fun y21 => if y21 = true then (Option.bind (rj_form y_3 true) fun y28 => (r2_RightOf.j2 y_1 y28 y1 a_178 x_179 x_180)) else (Option.bind (slices_Contains_20 ([(ByteArray.mk #[105, 110, 116]), (ByteArray.mk #[98, 111, 111, 108]), (ByteArray.mk #[116, 101, 120, 116]), (ByteArray.mk #[117, 110, 105, 116])] : List ByteArray) y1.For) fun y47 => Option.bind (rj_form y_3 y47) fun y62 => (r2_RightOf.j2 y_1 y62 y1 a_178 x_179 x_180))) else (Option.bind (rj_form y_3 false) fun y77 => (r2_RightOf.j2 y_1 y77 y1 a_178 x_179 x_180))) else ((r2_RightOf.l5 y_1 y_3 y_1.Funcs (((List.length y_1.Funcs) : Nat) : Int) (0 : Int))) := fixF_eq r2_RightOf.l4_k.mono _
theorem r2_RightOf.j2_eq (y_1 y_3 y_17 a_178 x_179 x_180) : r2_RightOf.j2 y_1 y_3 y_17 a_178 x_179 x_180 = Option.bind (rj_few y_3 (decide ((((List.length y_17.Funcs) : Nat) : Int) ≤ (12 : Int)))) fun y6 => (r2_RightOf.l9 y_1 y6 a_178 x_179 x_180 y_17.Funcs (((List.length y_17.Funcs) : Nat) : Int) (0 : Int)) := fixF_eq r2_RightOf.l4_k.mono _
theorem r2_RightOf.l9_eq (y_1 y_3 a_178 x_179 x_180 a_207 x_208 x_209) : r2_RightOf.l9 y_1 y_3 a_178 x_179 x_180 a_207 x_208 x_209 = if x_209 < x_208 then (Option.bind (gi a_207 x_209) fun y1 => Option.bind (rj_fun y_3 y1 true) fun y14 => (r2_RightOf.l9 y_1 y14 a_178 x_179 x_180 a_207 x_208 (IntKind.wrap .i64 (x_209 + (1 : Int))))) else ((r2_RightOf.l4 y_1 y_3 a_178 x_179 (IntKind.wrap .i64 (x_180 + (1 : Int))))) := fixF_eq r2_RightOf.l4_k.mono _
def r2_RightOf.l4_k.I : (p : r2_RightOf.l4_k.Pt) → (Int) → Prop
 | .l4 y_1 y_3 a_178 x_179 x_180, r => ∀ {W h0 m0 h m bk_1 cs_1 bk_3 cs_3 A_178 n_178 c_178} (O : Hold W h0 m0 h m [rV bk_1 29 cs_1, rV bk_3 57 cs_3]) (e_1 : T_Program.E m y_1 cs_1) (e_3 : T_jd.E m y_3 cs_3) (ne_178 : n_178 = List.length a_178) (k_178 : List.length a_178 ≤ c_178) (r_178 : Rd 3 T_Impl.E m A_178 a_178) (tab : TB m), f5.l4 (r2_RightOf.post W h0 m0 r) (⟨bk_1, 0, none⟩ : Addr) (⟨bk_3, 0, none⟩ : Addr) A_178 n_178 c_178 x_179 x_180 h
 | .j2 y_1 y_3 y_17 a_178 x_179 x_180, r => ∀ {W h0 m0 h m bk_1 cs_1 bk_3 cs_3 bk_17 cs_17 A_178 n_178 c_178} (O : Hold W h0 m0 h m [rV bk_1 29 cs_1, rV bk_3 57 cs_3, rV bk_17 68 cs_17]) (e_1 : T_Program.E m y_1 cs_1) (e_3 : T_jd.E m y_3 cs_3) (e_17 : T_Impl.E m y_17 cs_17) (ne_178 : n_178 = List.length a_178) (k_178 : List.length a_178 ≤ c_178) (r_178 : Rd 3 T_Impl.E m A_178 a_178) (tab : TB m), f5.j2 (r2_RightOf.post W h0 m0 r) (⟨bk_1, 0, none⟩ : Addr) (⟨bk_3, 0, none⟩ : Addr) (⟨bk_17, 0, none⟩ : Addr) A_178 n_178 c_178 x_179 x_180 h
 | .l9 y_1 y_3 a_178 x_179 x_180 a_207 x_208 x_209, r => ∀ {W h0 m0 h m bk_1 cs_1 bk_3 cs_3 A_178 n_178 c_178 A_207 n_207 c_207} (O : Hold W h0 m0 h m [rV bk_1 29 cs_1, rV bk_3 57 cs_3]) (e_1 : T_Program.E m y_1 cs_1) (e_3 : T_jd.E m y_3 cs_3) (ne_178 : n_178 = List.length a_178) (k_178 : List.length a_178 ≤ c_178) (r_178 : Rd 3 T_Impl.E m A_178 a_178) (ne_207 : n_207 = List.length a_207) (k_207 : List.length a_207 ≤ c_207) (r_207 : Rd 15 T_Func.E m A_207 a_207) (tab : TB m), f5.l9 (r2_RightOf.post W h0 m0 r) (⟨bk_1, 0, none⟩ : Addr) (⟨bk_3, 0, none⟩ : Addr) A_178 n_178 c_178 x_179 x_180 A_207 n_207 c_207 x_208 x_209 h
set_option maxHeartbeats 4000000 in
theorem r2_RightOf.l4_k.step_l4 (go : (p : r2_RightOf.l4_k.Pt) → Option (Int)) (ih : ∀ p r, go p = some r → r2_RightOf.l4_k.I p r) (y_1 y_3 a_178 x_179 x_180) (r) (e : r2_RightOf.l4_k.body go (.l4 y_1 y_3 a_178 x_179 x_180) = some r) : r2_RightOf.l4_k.I (.l4 y_1 y_3 a_178 x_179 x_180) r := by
 unfold r2_RightOf.l4_k.body at e
 intro W h0 m0 h m bk_1 cs_1 bk_3 cs_3 A_178 n_178 c_178 O e_1 e_3 ne_178 k_178 r_178 tab
 subst ne_178
 refine f5.l4_in ?_
 unfold f5.l4T
 refine split_dec_e e (fun c97 e => ?_) (fun c97 e => ?_)
 · obtain ⟨y1, g2, e⟩ := bind_e e
   refine r_178.addr rfl g2 fun a3 cs4 ha5 hc6 he7 => ?_
   refine ⟨_, ldAn O.s hc6 rfl, ?_⟩
   refine O.new fun h8 x9 O10 => ?_
   refine ⟨_, rfl, (T_Impl.T.len _ _ _ he7), ?_⟩
   refine O10.stA 2 rfl (T_Impl.T.len _ _ _ he7) (T_Impl.T.flat _ _ _ he7) fun h12 O13 => ?_
   refine ⟨_, ld0 (Sub.refl _) (O13.all 2 rfl) (T_Impl.g0 he7), _, rfl, ?_⟩
   obtain ⟨y14, g15, e⟩ := bind_e e
   refine (r2_Great.walk (Hold.start (W := No) O13.s)  g15).mono ?_
   rintro _ h16 ⟨m17, Q18, rfl⟩
   have O20 := Hold.nm (O13.retC Q18 vfs_nil)
   refine ⟨_, rfl, ?_⟩
   refine split_any_e e (fun c91 e => ?_) (fun c91 e => ?_)
   · refine ⟨_, ldk (k := 1) (Sub.refl _) (O20.all 2 rfl) (T_Impl.g1 he7), _, rfl, ?_⟩
     obtain ⟨y21, g22, e⟩ := bind_e e
     refine (r2_Great.walk (Hold.start (W := No) O20.s)  g22).mono ?_
     rintro _ h23 ⟨m24, Q25, rfl⟩
     have O27 := Hold.nm (O20.retC Q25 vfs_nil)
     refine ⟨_, rfl, ?_⟩
     refine split_any_e e (fun c76 e => ?_) (fun c76 e => ?_)
     · obtain ⟨y28, g29, e⟩ := bind_e e
       obtain ⟨W34, P35, B36, C37⟩ := O27.callC [1]
       refine (rj_form.walk P35 e_3 g29).mono ?_
       rintro _ h30 ⟨m31, cs39, Q32, rfl, he40⟩
       replace he40 : T_jd.E m y28 cs39 := T_jd.keep he40
       have O41 := Hold.nm (C37 Q32 (vfs_cons rV_vf vfs_nil))
       refine ⟨rfl, ?_⟩
       exact (ih _ _ e) (O41.pick [0, 3, 2]).nm e_1 he40 he7 rfl k_178 r_178 tab
     · refine O27.new fun h42 x43 O44 => ?_
       refine ⟨_, ldk (k := 1) (Sub.refl _) (O44.all 2 rfl) (T_Impl.g1 he7), _, rfl, ?_⟩
       obtain ⟨y47, g48, e⟩ := bind_e e
       have O46 := O44.rowE (l := ([(ByteArray.mk #[105, 110, 116]), (ByteArray.mk #[98, 111, 111, 108]), (ByteArray.mk #[116, 101, 120, 116]), (ByteArray.mk #[117, 110, 105, 116])] : List ByteArray)) 3 rfl tell_str (show CsE _ _ _ _ _ from (CsE.cons (c1 := [(Value.string (ByteArray.mk #[105, 110, 116]))]) rfl rfl (CsE.cons (c1 := [(Value.string (ByteArray.mk #[98, 111, 111, 108]))]) rfl rfl (CsE.cons (c1 := [(Value.string (ByteArray.mk #[116, 101, 120, 116]))]) rfl rfl (CsE.cons (c1 := [(Value.string (ByteArray.mk #[117, 110, 105, 116]))]) rfl rfl CsE.nil))))) rfl
       have O53 := O46.nm
       obtain ⟨m54, u55, s60, ⟨⟨r58, k59⟩, _⟩, B56, C57⟩ := O53.lend0 [3]
       replace r58 : Rd 1 eStr m54 (some ⟨(Array.size h23), 0, none⟩) ([(ByteArray.mk #[105, 110, 116]), (ByteArray.mk #[98, 111, 111, 108]), (ByteArray.mk #[116, 101, 120, 116]), (ByteArray.mk #[117, 110, 105, 116])] : List ByteArray) := r58
       replace k59 : List.length ([(ByteArray.mk #[105, 110, 116]), (ByteArray.mk #[98, 111, 111, 108]), (ByteArray.mk #[116, 101, 120, 116]), (ByteArray.mk #[117, 110, 105, 116])] : List ByteArray) ≤ 4 := k59
       refine (slices_Contains_20.walk (Hold.start (W := No) s60) rfl k59 r58 g48).mono ?_
       rintro _ h49 ⟨m50, Q51, rfl⟩
       have O61 := Hold.nm (C57 Q51 vfs_nil)
       refine ⟨_, rfl, ?_⟩
       obtain ⟨y62, g63, e⟩ := bind_e e
       obtain ⟨W68, P69, B70, C71⟩ := O61.callC [1]
       refine (rj_form.walk P69 e_3 g63).mono ?_
       rintro _ h64 ⟨m65, cs73, Q66, rfl, he74⟩
       replace he74 : T_jd.E m y62 cs73 := T_jd.keep he74
       have O75 := Hold.nm (C71 Q66 (vfs_cons rV_vf vfs_nil))
       refine ⟨rfl, ?_⟩
       exact (ih _ _ e) (O75.pick [0, 4, 2]).nm e_1 he74 he7 rfl k_178 r_178 tab
   · obtain ⟨y77, g78, e⟩ := bind_e e
     obtain ⟨W83, P84, B85, C86⟩ := O20.callC [1]
     refine (rj_form.walk P84 e_3 g78).mono ?_
     rintro _ h79 ⟨m80, cs88, Q81, rfl, he89⟩
     replace he89 : T_jd.E m y77 cs88 := T_jd.keep he89
     have O90 := Hold.nm (C86 Q81 (vfs_cons rV_vf vfs_nil))
     refine ⟨rfl, ?_⟩
     exact (ih _ _ e) (O90.pick [0, 3, 2]).nm e_1 he89 he7 rfl k_178 r_178 tab
 · obtain ⟨A92, c93, q94, k95, r96⟩ := T_Program.g6 e_1
   refine ⟨_, ldk (k := 6) (Sub.refl _) (O.all 0 rfl) q94, _, _, _, rfl, ?_⟩
   exact (r2_RightOf.l5_k.all e) (O.pick [0, 1]).nm e_1 e_3 rfl k95 r96 tab
theorem r2_RightOf.l4_k.step_j2 (go : (p : r2_RightOf.l4_k.Pt) → Option (Int)) (ih : ∀ p r, go p = some r → r2_RightOf.l4_k.I p r) (y_1 y_3 y_17 a_178 x_179 x_180) (r) (e : r2_RightOf.l4_k.body go (.j2 y_1 y_3 y_17 a_178 x_179 x_180) = some r) : r2_RightOf.l4_k.I (.j2 y_1 y_3 y_17 a_178 x_179 x_180) r := by
 unfold r2_RightOf.l4_k.body at e
 intro W h0 m0 h m bk_1 cs_1 bk_3 cs_3 bk_17 cs_17 A_178 n_178 c_178 O e_1 e_3 e_17 ne_178 k_178 r_178 tab
 subst ne_178
 refine f5.j2_in ?_
 unfold f5.j2T
 obtain ⟨A1, c2, q3, k4, r5⟩ := T_Impl.g2 e_17
 refine ⟨_, ldk (k := 2) (Sub.refl _) (O.all 2 rfl) q3, _, _, _, rfl, ?_⟩
 obtain ⟨y6, g7, e⟩ := bind_e e
 obtain ⟨W12, P13, B14, C15⟩ := O.callC [1]
 refine (rj_few.walk P13 e_3 g7).mono ?_
 rintro _ h8 ⟨m9, cs17, Q10, rfl, he18⟩
 replace he18 : T_jd.E m y6 cs17 := T_jd.keep he18
 have O19 := Hold.nm (C15 Q10 (vfs_cons rV_vf vfs_nil))
 refine ⟨rfl, ?_⟩
 obtain ⟨A20, c21, q22, k23, r24⟩ := T_Impl.g2 e_17
 refine ⟨_, ldk (k := 2) (Sub.refl _) (O19.all 2 rfl) q22, _, _, _, rfl, ?_⟩
 exact (ih _ _ e) (O19.pick [0, 3]).nm e_1 he18 rfl k_178 r_178 rfl k23 r24 tab
theorem r2_RightOf.l4_k.step_l9 (go : (p : r2_RightOf.l4_k.Pt) → Option (Int)) (ih : ∀ p r, go p = some r → r2_RightOf.l4_k.I p r) (y_1 y_3 a_178 x_179 x_180 a_207 x_208 x_209) (r) (e : r2_RightOf.l4_k.body go (.l9 y_1 y_3 a_178 x_179 x_180 a_207 x_208 x_209) = some r) : r2_RightOf.l4_k.I (.l9 y_1 y_3 a_178 x_179 x_180 a_207 x_208 x_209) r := by
 unfold r2_RightOf.l4_k.body at e
 intro W h0 m0 h m bk_1 cs_1 bk_3 cs_3 A_178 n_178 c_178 A_207 n_207 c_207 O e_1 e_3 ne_178 k_178 r_178 ne_207 k_207 r_207 tab
 subst ne_178
 subst ne_207
 refine f5.l9_in ?_
 unfold f5.l9T
 refine split_dec_e e (fun c29 e => ?_) (fun c29 e => ?_)
 · obtain ⟨y1, g2, e⟩ := bind_e e
   refine r_207.addr rfl g2 fun a3 cs4 ha5 hc6 he7 => ?_
   refine ⟨_, ldAn O.s hc6 rfl, ?_⟩
   refine O.new fun h8 x9 O10 => ?_
   refine ⟨_, rfl, (T_Func.T.len _ _ _ he7), ?_⟩
   refine O10.stA 2 rfl (T_Func.T.len _ _ _ he7) (T_Func.T.flat _ _ _ he7) fun h12 O13 => ?_
   refine ⟨_, ldAn (Sub.refl _) (O13.all 2 rfl) (T_Func.T.len _ _ _ he7), ?_⟩
   obtain ⟨y14, g15, e⟩ := bind_e e
   have O20 := O13.nm
   obtain ⟨W21, P22, B23, C24⟩ := O20.callC [1]
   refine (rj_fun.walk P22 e_3 he7 tab g15).mono ?_
   rintro _ h16 ⟨m17, cs26, Q18, rfl, he27⟩
   replace he27 : T_jd.E m y14 cs26 := T_jd.keep he27
   have O28 := Hold.nm (C24 Q18 (vfs_cons rV_vf vfs_nil))
   refine ⟨rfl, ?_⟩
   exact (ih _ _ e) (O28.pick [0, 3]).nm e_1 he27 rfl k_178 r_178 rfl k_207 r_207 tab
 · exact (ih _ _ e) (O.pick [0, 1]).nm e_1 e_3 rfl k_178 r_178 tab
theorem r2_RightOf.l4_k.all {p : r2_RightOf.l4_k.Pt} {r : (Int)} (e : r2_RightOf.l4_k.go p = some r) : r2_RightOf.l4_k.I p r := fixF_ind (β := fun _ => (Int)) r2_RightOf.l4_k.mono (I := r2_RightOf.l4_k.I) (fun go ih p r e => match p with
 | .l4 y_1 y_3 a_178 x_179 x_180 => r2_RightOf.l4_k.step_l4 go ih y_1 y_3 a_178 x_179 x_180 r e
 | .j2 y_1 y_3 y_17 a_178 x_179 x_180 => r2_RightOf.l4_k.step_j2 go ih y_1 y_3 y_17 a_178 x_179 x_180 r e
 | .l9 y_1 y_3 a_178 x_179 x_180 a_207 x_208 x_209 => r2_RightOf.l4_k.step_l9 go ih y_1 y_3 a_178 x_179 x_180 a_207 x_208 x_209 r e
 ) e
inductive r2_RightOf.l3_k.Pt where
 | l3 (y_1 : T_Program) (y_3 : T_jd) (a_148 : List T_Trait) (x_149 : Int) (x_150 : Int)
 | l8 (y_1 : T_Program) (y_3 : T_jd) (a_148 : List T_Trait) (x_149 : Int) (x_150 : Int) (a_166 : List T_Func) (x_167 : Int) (x_168 : Int)
noncomputable def r2_RightOf.l3_k.body (go : (p : r2_RightOf.l3_k.Pt) → Option (Int)) : (p : r2_RightOf.l3_k.Pt) → Option (Int)
 | .l3 y_1 y_3 a_148 x_149 x_150 => if x_150 < x_149 then (Option.bind (gi a_148 x_150) fun y1 => Option.bind (r2_Great y1.Name) fun y14 => Option.bind (rj_form y_3 y14) fun y21 => Option.bind (rj_few y21 (decide ((((List.length y1.Funcs) : Nat) : Int) ≤ (12 : Int)))) fun y40 => (go (.l8 y_1 y40 a_148 x_149 x_150 y1.Funcs (((List.length y1.Funcs) : Nat) : Int) (0 : Int)))) else ((r2_RightOf.l4 y_1 y_3 y_1.Impls (((List.length y_1.Impls) : Nat) : Int) (0 : Int)))
 | .l8 y_1 y_3 a_148 x_149 x_150 a_166 x_167 x_168 => if x_168 < x_167 then (Option.bind (gi a_166 x_168) fun y1 => Option.bind (rj_fun y_3 y1 false) fun y14 => (go (.l8 y_1 y14 a_148 x_149 x_150 a_166 x_167 (IntKind.wrap .i64 (x_168 + (1 : Int)))))) else ((go (.l3 y_1 y_3 a_148 x_149 (IntKind.wrap .i64 (x_150 + (1 : Int))))))
theorem r2_RightOf.l3_k.mono : MonoF (β := fun _ => (Int)) r2_RightOf.l3_k.body := fun f g hfg p => match p with
 | .l3 y_1 y_3 a_148 x_149 x_150 => LeO.ite (LeO.bind (LeO.refl _) fun y1 => LeO.bind (LeO.refl _) fun y14 => LeO.bind (LeO.refl _) fun y21 => LeO.bind (LeO.refl _) fun y40 => (hfg _)) ((LeO.refl _))
 | .l8 y_1 y_3 a_148 x_149 x_150 a_166 x_167 x_168 => LeO.ite (LeO.bind (LeO.refl _) fun y1 => LeO.bind (LeO.refl _) fun y14 => (hfg _)) ((hfg _))
noncomputable def r2_RightOf.l3_k.go (p : r2_RightOf.l3_k.Pt) : Option (Int) := fixF (β := fun _ => (Int)) r2_RightOf.l3_k.body p
noncomputable def r2_RightOf.l3 (y_1 y_3 a_148 x_149 x_150) := r2_RightOf.l3_k.go (.l3 y_1 y_3 a_148 x_149 x_150)
noncomputable def r2_RightOf.l8 (y_1 y_3 a_148 x_149 x_150 a_166 x_167 x_168) := r2_RightOf.l3_k.go (.l8 y_1 y_3 a_148 x_149 x_150 a_166 x_167 x_168)
theorem r2_RightOf.l3_eq (y_1 y_3 a_148 x_149 x_150) : r2_RightOf.l3 y_1 y_3 a_148 x_149 x_150 = if x_150 < x_149 then (Option.bind (gi a_148 x_150) fun y1 => Option.bind (r2_Great y1.Name) fun y14 => Option.bind (rj_form y_3 y14) fun y21 => Option.bind (rj_few y21 (decide ((((List.length y1.Funcs) : Nat) : Int) ≤ (12 : Int)))) fun y40 => (r2_RightOf.l8 y_1 y40 a_148 x_149 x_150 y1.Funcs (((List.length y1.Funcs) : Nat) : Int) (0 : Int))) else ((r2_RightOf.l4 y_1 y_3 y_1.Impls (((List.length y_1.Impls) : Nat) : Int) (0 : Int))) := fixF_eq r2_RightOf.l3_k.mono _
theorem r2_RightOf.l8_eq (y_1 y_3 a_148 x_149 x_150 a_166 x_167 x_168) : r2_RightOf.l8 y_1 y_3 a_148 x_149 x_150 a_166 x_167 x_168 = if x_168 < x_167 then (Option.bind (gi a_166 x_168) fun y1 => Option.bind (rj_fun y_3 y1 false) fun y14 => (r2_RightOf.l8 y_1 y14 a_148 x_149 x_150 a_166 x_167 (IntKind.wrap .i64 (x_168 + (1 : Int))))) else ((r2_RightOf.l3 y_1 y_3 a_148 x_149 (IntKind.wrap .i64 (x_150 + (1 : Int))))) := fixF_eq r2_RightOf.l3_k.mono _
def r2_RightOf.l3_k.I : (p : r2_RightOf.l3_k.Pt) → (Int) → Prop
 | .l3 y_1 y_3 a_148 x_149 x_150, r => ∀ {W h0 m0 h m bk_1 cs_1 bk_3 cs_3 A_148 n_148 c_148} (O : Hold W h0 m0 h m [rV bk_1 29 cs_1, rV bk_3 57 cs_3]) (e_1 : T_Program.E m y_1 cs_1) (e_3 : T_jd.E m y_3 cs_3) (ne_148 : n_148 = List.length a_148) (k_148 : List.length a_148 ≤ c_148) (r_148 : Rd 2 T_Trait.E m A_148 a_148) (tab : TB m), f5.l3 (r2_RightOf.post W h0 m0 r) (⟨bk_1, 0, none⟩ : Addr) (⟨bk_3, 0, none⟩ : Addr) A_148 n_148 c_148 x_149 x_150 h
 | .l8 y_1 y_3 a_148 x_149 x_150 a_166 x_167 x_168, r => ∀ {W h0 m0 h m bk_1 cs_1 bk_3 cs_3 A_148 n_148 c_148 A_166 n_166 c_166} (O : Hold W h0 m0 h m [rV bk_1 29 cs_1, rV bk_3 57 cs_3]) (e_1 : T_Program.E m y_1 cs_1) (e_3 : T_jd.E m y_3 cs_3) (ne_148 : n_148 = List.length a_148) (k_148 : List.length a_148 ≤ c_148) (r_148 : Rd 2 T_Trait.E m A_148 a_148) (ne_166 : n_166 = List.length a_166) (k_166 : List.length a_166 ≤ c_166) (r_166 : Rd 15 T_Func.E m A_166 a_166) (tab : TB m), f5.l8 (r2_RightOf.post W h0 m0 r) (⟨bk_1, 0, none⟩ : Addr) (⟨bk_3, 0, none⟩ : Addr) A_148 n_148 c_148 x_149 x_150 A_166 n_166 c_166 x_167 x_168 h
set_option maxHeartbeats 4000000 in
theorem r2_RightOf.l3_k.step_l3 (go : (p : r2_RightOf.l3_k.Pt) → Option (Int)) (ih : ∀ p r, go p = some r → r2_RightOf.l3_k.I p r) (y_1 y_3 a_148 x_149 x_150) (r) (e : r2_RightOf.l3_k.body go (.l3 y_1 y_3 a_148 x_149 x_150) = some r) : r2_RightOf.l3_k.I (.l3 y_1 y_3 a_148 x_149 x_150) r := by
 unfold r2_RightOf.l3_k.body at e
 intro W h0 m0 h m bk_1 cs_1 bk_3 cs_3 A_148 n_148 c_148 O e_1 e_3 ne_148 k_148 r_148 tab
 subst ne_148
 refine f5.l3_in ?_
 unfold f5.l3T
 refine split_dec_e e (fun c64 e => ?_) (fun c64 e => ?_)
 · obtain ⟨y1, g2, e⟩ := bind_e e
   refine r_148.addr rfl g2 fun a3 cs4 ha5 hc6 he7 => ?_
   refine ⟨_, ldAn O.s hc6 rfl, ?_⟩
   refine O.new fun h8 x9 O10 => ?_
   refine ⟨_, rfl, (T_Trait.T.len _ _ _ he7), ?_⟩
   refine O10.stA 2 rfl (T_Trait.T.len _ _ _ he7) (T_Trait.T.flat _ _ _ he7) fun h12 O13 => ?_
   refine ⟨_, ld0 (Sub.refl _) (O13.all 2 rfl) (T_Trait.g0 he7), _, rfl, ?_⟩
   obtain ⟨y14, g15, e⟩ := bind_e e
   refine (r2_Great.walk (Hold.start (W := No) O13.s)  g15).mono ?_
   rintro _ h16 ⟨m17, Q18, rfl⟩
   have O20 := Hold.nm (O13.retC Q18 vfs_nil)
   refine ⟨_, rfl, ?_⟩
   obtain ⟨y21, g22, e⟩ := bind_e e
   obtain ⟨W27, P28, B29, C30⟩ := O20.callC [1]
   refine (rj_form.walk P28 e_3 g22).mono ?_
   rintro _ h23 ⟨m24, cs32, Q25, rfl, he33⟩
   replace he33 : T_jd.E m y21 cs32 := T_jd.keep he33
   have O34 := Hold.nm (C30 Q25 (vfs_cons rV_vf vfs_nil))
   refine ⟨rfl, ?_⟩
   obtain ⟨A35, c36, q37, k38, r39⟩ := T_Trait.g1 he7
   refine ⟨_, ldk (k := 1) (Sub.refl _) (O34.all 2 rfl) q37, _, _, _, rfl, ?_⟩
   obtain ⟨y40, g41, e⟩ := bind_e e
   obtain ⟨W46, P47, B48, C49⟩ := O34.callC [3]
   refine (rj_few.walk P47 he33 g41).mono ?_
   rintro _ h42 ⟨m43, cs51, Q44, rfl, he52⟩
   replace he52 : T_jd.E m y40 cs51 := T_jd.keep he52
   have O53 := Hold.nm (C49 Q44 (vfs_cons rV_vf vfs_nil))
   refine ⟨rfl, ?_⟩
   obtain ⟨A54, c55, q56, k57, r58⟩ := T_Trait.g1 he7
   refine ⟨_, ldk (k := 1) (Sub.refl _) (O53.all 2 rfl) q56, _, _, _, rfl, ?_⟩
   exact (ih _ _ e) (O53.pick [0, 4]).nm e_1 he52 rfl k_148 r_148 rfl k57 r58 tab
 · obtain ⟨A59, c60, q61, k62, r63⟩ := T_Program.g5 e_1
   refine ⟨_, ldk (k := 5) (Sub.refl _) (O.all 0 rfl) q61, _, _, _, rfl, ?_⟩
   exact (r2_RightOf.l4_k.all e) (O.pick [0, 1]).nm e_1 e_3 rfl k62 r63 tab
theorem r2_RightOf.l3_k.step_l8 (go : (p : r2_RightOf.l3_k.Pt) → Option (Int)) (ih : ∀ p r, go p = some r → r2_RightOf.l3_k.I p r) (y_1 y_3 a_148 x_149 x_150 a_166 x_167 x_168) (r) (e : r2_RightOf.l3_k.body go (.l8 y_1 y_3 a_148 x_149 x_150 a_166 x_167 x_168) = some r) : r2_RightOf.l3_k.I (.l8 y_1 y_3 a_148 x_149 x_150 a_166 x_167 x_168) r := by
 unfold r2_RightOf.l3_k.body at e
 intro W h0 m0 h m bk_1 cs_1 bk_3 cs_3 A_148 n_148 c_148 A_166 n_166 c_166 O e_1 e_3 ne_148 k_148 r_148 ne_166 k_166 r_166 tab
 subst ne_148
 subst ne_166
 refine f5.l8_in ?_
 unfold f5.l8T
 refine split_dec_e e (fun c29 e => ?_) (fun c29 e => ?_)
 · obtain ⟨y1, g2, e⟩ := bind_e e
   refine r_166.addr rfl g2 fun a3 cs4 ha5 hc6 he7 => ?_
   refine ⟨_, ldAn O.s hc6 rfl, ?_⟩
   refine O.new fun h8 x9 O10 => ?_
   refine ⟨_, rfl, (T_Func.T.len _ _ _ he7), ?_⟩
   refine O10.stA 2 rfl (T_Func.T.len _ _ _ he7) (T_Func.T.flat _ _ _ he7) fun h12 O13 => ?_
   refine ⟨_, ldAn (Sub.refl _) (O13.all 2 rfl) (T_Func.T.len _ _ _ he7), ?_⟩
   obtain ⟨y14, g15, e⟩ := bind_e e
   have O20 := O13.nm
   obtain ⟨W21, P22, B23, C24⟩ := O20.callC [1]
   refine (rj_fun.walk P22 e_3 he7 tab g15).mono ?_
   rintro _ h16 ⟨m17, cs26, Q18, rfl, he27⟩
   replace he27 : T_jd.E m y14 cs26 := T_jd.keep he27
   have O28 := Hold.nm (C24 Q18 (vfs_cons rV_vf vfs_nil))
   refine ⟨rfl, ?_⟩
   exact (ih _ _ e) (O28.pick [0, 3]).nm e_1 he27 rfl k_148 r_148 rfl k_166 r_166 tab
 · exact (ih _ _ e) (O.pick [0, 1]).nm e_1 e_3 rfl k_148 r_148 tab
theorem r2_RightOf.l3_k.all {p : r2_RightOf.l3_k.Pt} {r : (Int)} (e : r2_RightOf.l3_k.go p = some r) : r2_RightOf.l3_k.I p r := fixF_ind (β := fun _ => (Int)) r2_RightOf.l3_k.mono (I := r2_RightOf.l3_k.I) (fun go ih p r e => match p with
 | .l3 y_1 y_3 a_148 x_149 x_150 => r2_RightOf.l3_k.step_l3 go ih y_1 y_3 a_148 x_149 x_150 r e
 | .l8 y_1 y_3 a_148 x_149 x_150 a_166 x_167 x_168 => r2_RightOf.l3_k.step_l8 go ih y_1 y_3 a_148 x_149 x_150 a_166 x_167 x_168 r e
 ) e
inductive r2_RightOf.l2_k.Pt where
 | l2 (y_1 : T_Program) (y_3 : T_jd) (a_96 : List T_Data) (x_97 : Int) (x_98 : Int)
 | j1 (y_1 : T_Program) (y_3 : T_jd) (y_9 : T_Data) (a_96 : List T_Data) (x_97 : Int) (x_98 : Int)
 | l7 (y_1 : T_Program) (y_3 : T_jd) (a_96 : List T_Data) (x_97 : Int) (x_98 : Int) (a_124 : List T_Make) (x_125 : Int) (x_126 : Int)
noncomputable def r2_RightOf.l2_k.body (go : (p : r2_RightOf.l2_k.Pt) → Option (Int)) : (p : r2_RightOf.l2_k.Pt) → Option (Int)
 | .l2 y_1 y_3 a_96 x_97 x_98 => if x_98 < x_97 then (Option.bind (gi a_96 x_98) fun y1 => Option.bind (r2_dataName y1.Name) fun y14 => if y14 = true then (Option.bind (rj_form y_3 (decide ((((List.length y1.Makes) : Nat) : Int) > (0 : Int)))) fun y26 => (go (.j1 y_1 y26 y1 a_96 x_97 x_98))) else (Option.bind (rj_form y_3 false) fun y40 => (go (.j1 y_1 y40 y1 a_96 x_97 x_98)))) else ((r2_RightOf.l3 y_1 y_3 y_1.Traits (((List.length y_1.Traits) : Nat) : Int) (0 : Int)))
 | .j1 y_1 y_3 y_9 a_96 x_97 x_98 => Option.bind (rj_list y_3 y_9.Params) fun y6 => Option.bind (rj_few y6 (decide ((((List.length y_9.Makes) : Nat) : Int) ≤ (12 : Int)))) fun y25 => (go (.l7 y_1 y25 a_96 x_97 x_98 y_9.Makes (((List.length y_9.Makes) : Nat) : Int) (0 : Int)))
 | .l7 y_1 y_3 a_96 x_97 x_98 a_124 x_125 x_126 => if x_126 < x_125 then (Option.bind (gi a_124 x_126) fun y1 => Option.bind (r2_Great y1.Name) fun y14 => Option.bind (rj_form y_3 y14) fun y21 => Option.bind (rj_few y21 (decide ((((List.length y1.Args) : Nat) : Int) ≤ (6 : Int)))) fun y40 => Option.bind (rj_types y40 y1.Args) fun y59 => (go (.l7 y_1 y59 a_96 x_97 x_98 a_124 x_125 (IntKind.wrap .i64 (x_126 + (1 : Int)))))) else ((go (.l2 y_1 y_3 a_96 x_97 (IntKind.wrap .i64 (x_98 + (1 : Int))))))
theorem r2_RightOf.l2_k.mono : MonoF (β := fun _ => (Int)) r2_RightOf.l2_k.body := fun f g hfg p => match p with
 | .l2 y_1 y_3 a_96 x_97 x_98 => LeO.ite (LeO.bind (LeO.refl _) fun y1 => LeO.bind (LeO.refl _) fun y14 => LeO.ite (LeO.bind (LeO.refl _) fun y26 => (hfg _)) (LeO.bind (LeO.refl _) fun y40 => (hfg _))) ((LeO.refl _))
 | .j1 y_1 y_3 y_9 a_96 x_97 x_98 => LeO.bind (LeO.refl _) fun y6 => LeO.bind (LeO.refl _) fun y25 => (hfg _)
 | .l7 y_1 y_3 a_96 x_97 x_98 a_124 x_125 x_126 => LeO.ite (LeO.bind (LeO.refl _) fun y1 => LeO.bind (LeO.refl _) fun y14 => LeO.bind (LeO.refl _) fun y21 => LeO.bind (LeO.refl _) fun y40 => LeO.bind (LeO.refl _) fun y59 => (hfg _)) ((hfg _))
noncomputable def r2_RightOf.l2_k.go (p : r2_RightOf.l2_k.Pt) : Option (Int) := fixF (β := fun _ => (Int)) r2_RightOf.l2_k.body p
noncomputable def r2_RightOf.l2 (y_1 y_3 a_96 x_97 x_98) := r2_RightOf.l2_k.go (.l2 y_1 y_3 a_96 x_97 x_98)
noncomputable def r2_RightOf.j1 (y_1 y_3 y_9 a_96 x_97 x_98) := r2_RightOf.l2_k.go (.j1 y_1 y_3 y_9 a_96 x_97 x_98)
noncomputable def r2_RightOf.l7 (y_1 y_3 a_96 x_97 x_98 a_124 x_125 x_126) := r2_RightOf.l2_k.go (.l7 y_1 y_3 a_96 x_97 x_98 a_124 x_125 x_126)
theorem r2_RightOf.l2_eq (y_1 y_3 a_96 x_97 x_98) : r2_RightOf.l2 y_1 y_3 a_96 x_97 x_98 = if x_98 < x_97 then (Option.bind (gi a_96 x_98) fun y1 => Option.bind (r2_dataName y1.Name) fun y14 => if y14 = true then (Option.bind (rj_form y_3 (decide ((((List.length y1.Makes) : Nat) : Int) > (0 : Int)))) fun y26 => (r2_RightOf.j1 y_1 y26 y1 a_96 x_97 x_98)) else (Option.bind (rj_form y_3 false) fun y40 => (r2_RightOf.j1 y_1 y40 y1 a_96 x_97 x_98))) else ((r2_RightOf.l3 y_1 y_3 y_1.Traits (((List.length y_1.Traits) : Nat) : Int) (0 : Int))) := fixF_eq r2_RightOf.l2_k.mono _
theorem r2_RightOf.j1_eq (y_1 y_3 y_9 a_96 x_97 x_98) : r2_RightOf.j1 y_1 y_3 y_9 a_96 x_97 x_98 = Option.bind (rj_list y_3 y_9.Params) fun y6 => Option.bind (rj_few y6 (decide ((((List.length y_9.Makes) : Nat) : Int) ≤ (12 : Int)))) fun y25 => (r2_RightOf.l7 y_1 y25 a_96 x_97 x_98 y_9.Makes (((List.length y_9.Makes) : Nat) : Int) (0 : Int)) := fixF_eq r2_RightOf.l2_k.mono _
theorem r2_RightOf.l7_eq (y_1 y_3 a_96 x_97 x_98 a_124 x_125 x_126) : r2_RightOf.l7 y_1 y_3 a_96 x_97 x_98 a_124 x_125 x_126 = if x_126 < x_125 then (Option.bind (gi a_124 x_126) fun y1 => Option.bind (r2_Great y1.Name) fun y14 => Option.bind (rj_form y_3 y14) fun y21 => Option.bind (rj_few y21 (decide ((((List.length y1.Args) : Nat) : Int) ≤ (6 : Int)))) fun y40 => Option.bind (rj_types y40 y1.Args) fun y59 => (r2_RightOf.l7 y_1 y59 a_96 x_97 x_98 a_124 x_125 (IntKind.wrap .i64 (x_126 + (1 : Int))))) else ((r2_RightOf.l2 y_1 y_3 a_96 x_97 (IntKind.wrap .i64 (x_98 + (1 : Int))))) := fixF_eq r2_RightOf.l2_k.mono _
def r2_RightOf.l2_k.I : (p : r2_RightOf.l2_k.Pt) → (Int) → Prop
 | .l2 y_1 y_3 a_96 x_97 x_98, r => ∀ {W h0 m0 h m bk_1 cs_1 bk_3 cs_3 A_96 n_96 c_96} (O : Hold W h0 m0 h m [rV bk_1 29 cs_1, rV bk_3 57 cs_3]) (e_1 : T_Program.E m y_1 cs_1) (e_3 : T_jd.E m y_3 cs_3) (ne_96 : n_96 = List.length a_96) (k_96 : List.length a_96 ≤ c_96) (r_96 : Rd 3 T_Data.E m A_96 a_96) (tab : TB m), f5.l2 (r2_RightOf.post W h0 m0 r) (⟨bk_1, 0, none⟩ : Addr) (⟨bk_3, 0, none⟩ : Addr) A_96 n_96 c_96 x_97 x_98 h
 | .j1 y_1 y_3 y_9 a_96 x_97 x_98, r => ∀ {W h0 m0 h m bk_1 cs_1 bk_3 cs_3 bk_9 cs_9 A_96 n_96 c_96} (O : Hold W h0 m0 h m [rV bk_1 29 cs_1, rV bk_3 57 cs_3, rV bk_9 40 cs_9]) (e_1 : T_Program.E m y_1 cs_1) (e_3 : T_jd.E m y_3 cs_3) (e_9 : T_Data.E m y_9 cs_9) (ne_96 : n_96 = List.length a_96) (k_96 : List.length a_96 ≤ c_96) (r_96 : Rd 3 T_Data.E m A_96 a_96) (tab : TB m), f5.j1 (r2_RightOf.post W h0 m0 r) (⟨bk_1, 0, none⟩ : Addr) (⟨bk_3, 0, none⟩ : Addr) (⟨bk_9, 0, none⟩ : Addr) A_96 n_96 c_96 x_97 x_98 h
 | .l7 y_1 y_3 a_96 x_97 x_98 a_124 x_125 x_126, r => ∀ {W h0 m0 h m bk_1 cs_1 bk_3 cs_3 A_96 n_96 c_96 A_124 n_124 c_124} (O : Hold W h0 m0 h m [rV bk_1 29 cs_1, rV bk_3 57 cs_3]) (e_1 : T_Program.E m y_1 cs_1) (e_3 : T_jd.E m y_3 cs_3) (ne_96 : n_96 = List.length a_96) (k_96 : List.length a_96 ≤ c_96) (r_96 : Rd 3 T_Data.E m A_96 a_96) (ne_124 : n_124 = List.length a_124) (k_124 : List.length a_124 ≤ c_124) (r_124 : Rd 2 T_Make.E m A_124 a_124) (tab : TB m), f5.l7 (r2_RightOf.post W h0 m0 r) (⟨bk_1, 0, none⟩ : Addr) (⟨bk_3, 0, none⟩ : Addr) A_96 n_96 c_96 x_97 x_98 A_124 n_124 c_124 x_125 x_126 h
set_option maxHeartbeats 4000000 in
theorem r2_RightOf.l2_k.step_l2 (go : (p : r2_RightOf.l2_k.Pt) → Option (Int)) (ih : ∀ p r, go p = some r → r2_RightOf.l2_k.I p r) (y_1 y_3 a_96 x_97 x_98) (r) (e : r2_RightOf.l2_k.body go (.l2 y_1 y_3 a_96 x_97 x_98) = some r) : r2_RightOf.l2_k.I (.l2 y_1 y_3 a_96 x_97 x_98) r := by
 unfold r2_RightOf.l2_k.body at e
 intro W h0 m0 h m bk_1 cs_1 bk_3 cs_3 A_96 n_96 c_96 O e_1 e_3 ne_96 k_96 r_96 tab
 subst ne_96
 refine f5.l2_in ?_
 unfold f5.l2T
 refine split_dec_e e (fun c60 e => ?_) (fun c60 e => ?_)
 · obtain ⟨y1, g2, e⟩ := bind_e e
   refine r_96.addr rfl g2 fun a3 cs4 ha5 hc6 he7 => ?_
   refine ⟨_, ldAn O.s hc6 rfl, ?_⟩
   refine O.new fun h8 x9 O10 => ?_
   refine ⟨_, rfl, (T_Data.T.len _ _ _ he7), ?_⟩
   refine O10.stA 2 rfl (T_Data.T.len _ _ _ he7) (T_Data.T.flat _ _ _ he7) fun h12 O13 => ?_
   refine ⟨_, ld0 (Sub.refl _) (O13.all 2 rfl) (T_Data.g0 he7), _, rfl, ?_⟩
   obtain ⟨y14, g15, e⟩ := bind_e e
   refine (r2_dataName.walk (Hold.start (W := No) O13.s)  g15).mono ?_
   rintro _ h16 ⟨m17, Q18, rfl⟩
   have O20 := Hold.nm (O13.retC Q18 vfs_nil)
   refine ⟨_, rfl, ?_⟩
   refine split_any_e e (fun c54 e => ?_) (fun c54 e => ?_)
   · obtain ⟨A21, c22, q23, k24, r25⟩ := T_Data.g2 he7
     refine ⟨_, ldk (k := 2) (Sub.refl _) (O20.all 2 rfl) q23, _, _, _, rfl, ?_⟩
     obtain ⟨y26, g27, e⟩ := bind_e e
     obtain ⟨W32, P33, B34, C35⟩ := O20.callC [1]
     refine (rj_form.walk P33 e_3 g27).mono ?_
     rintro _ h28 ⟨m29, cs37, Q30, rfl, he38⟩
     replace he38 : T_jd.E m y26 cs37 := T_jd.keep he38
     have O39 := Hold.nm (C35 Q30 (vfs_cons rV_vf vfs_nil))
     refine ⟨rfl, ?_⟩
     exact (ih _ _ e) (O39.pick [0, 3, 2]).nm e_1 he38 he7 rfl k_96 r_96 tab
   · obtain ⟨y40, g41, e⟩ := bind_e e
     obtain ⟨W46, P47, B48, C49⟩ := O20.callC [1]
     refine (rj_form.walk P47 e_3 g41).mono ?_
     rintro _ h42 ⟨m43, cs51, Q44, rfl, he52⟩
     replace he52 : T_jd.E m y40 cs51 := T_jd.keep he52
     have O53 := Hold.nm (C49 Q44 (vfs_cons rV_vf vfs_nil))
     refine ⟨rfl, ?_⟩
     exact (ih _ _ e) (O53.pick [0, 3, 2]).nm e_1 he52 he7 rfl k_96 r_96 tab
 · obtain ⟨A55, c56, q57, k58, r59⟩ := T_Program.g4 e_1
   refine ⟨_, ldk (k := 4) (Sub.refl _) (O.all 0 rfl) q57, _, _, _, rfl, ?_⟩
   exact (r2_RightOf.l3_k.all e) (O.pick [0, 1]).nm e_1 e_3 rfl k58 r59 tab
theorem r2_RightOf.l2_k.step_j1 (go : (p : r2_RightOf.l2_k.Pt) → Option (Int)) (ih : ∀ p r, go p = some r → r2_RightOf.l2_k.I p r) (y_1 y_3 y_9 a_96 x_97 x_98) (r) (e : r2_RightOf.l2_k.body go (.j1 y_1 y_3 y_9 a_96 x_97 x_98) = some r) : r2_RightOf.l2_k.I (.j1 y_1 y_3 y_9 a_96 x_97 x_98) r := by
 unfold r2_RightOf.l2_k.body at e
 intro W h0 m0 h m bk_1 cs_1 bk_3 cs_3 bk_9 cs_9 A_96 n_96 c_96 O e_1 e_3 e_9 ne_96 k_96 r_96 tab
 subst ne_96
 refine f5.j1_in ?_
 unfold f5.j1T
 obtain ⟨A1, c2, q3, k4, r5⟩ := T_Data.g1 e_9
 refine ⟨_, ldk (k := 1) (Sub.refl _) (O.all 2 rfl) q3, _, _, _, rfl, ?_⟩
 obtain ⟨y6, g7, e⟩ := bind_e e
 obtain ⟨W12, P13, B14, C15⟩ := O.callC [1]
 refine (rj_list.walk P13 e_3 rfl k4 r5 tab g7).mono ?_
 rintro _ h8 ⟨m9, cs17, Q10, rfl, he18⟩
 replace he18 : T_jd.E m y6 cs17 := T_jd.keep he18
 have O19 := Hold.nm (C15 Q10 (vfs_cons rV_vf vfs_nil))
 refine ⟨rfl, ?_⟩
 obtain ⟨A20, c21, q22, k23, r24⟩ := T_Data.g2 e_9
 refine ⟨_, ldk (k := 2) (Sub.refl _) (O19.all 2 rfl) q22, _, _, _, rfl, ?_⟩
 obtain ⟨y25, g26, e⟩ := bind_e e
 obtain ⟨W31, P32, B33, C34⟩ := O19.callC [3]
 refine (rj_few.walk P32 he18 g26).mono ?_
 rintro _ h27 ⟨m28, cs36, Q29, rfl, he37⟩
 replace he37 : T_jd.E m y25 cs36 := T_jd.keep he37
 have O38 := Hold.nm (C34 Q29 (vfs_cons rV_vf vfs_nil))
 refine ⟨rfl, ?_⟩
 obtain ⟨A39, c40, q41, k42, r43⟩ := T_Data.g2 e_9
 refine ⟨_, ldk (k := 2) (Sub.refl _) (O38.all 2 rfl) q41, _, _, _, rfl, ?_⟩
 exact (ih _ _ e) (O38.pick [0, 4]).nm e_1 he37 rfl k_96 r_96 rfl k42 r43 tab
set_option maxHeartbeats 4000000 in
theorem r2_RightOf.l2_k.step_l7 (go : (p : r2_RightOf.l2_k.Pt) → Option (Int)) (ih : ∀ p r, go p = some r → r2_RightOf.l2_k.I p r) (y_1 y_3 a_96 x_97 x_98 a_124 x_125 x_126) (r) (e : r2_RightOf.l2_k.body go (.l7 y_1 y_3 a_96 x_97 x_98 a_124 x_125 x_126) = some r) : r2_RightOf.l2_k.I (.l7 y_1 y_3 a_96 x_97 x_98 a_124 x_125 x_126) r := by
 unfold r2_RightOf.l2_k.body at e
 intro W h0 m0 h m bk_1 cs_1 bk_3 cs_3 A_96 n_96 c_96 A_124 n_124 c_124 O e_1 e_3 ne_96 k_96 r_96 ne_124 k_124 r_124 tab
 subst ne_96
 subst ne_124
 refine f5.l7_in ?_
 unfold f5.l7T
 refine split_dec_e e (fun c73 e => ?_) (fun c73 e => ?_)
 · obtain ⟨y1, g2, e⟩ := bind_e e
   refine r_124.addr rfl g2 fun a3 cs4 ha5 hc6 he7 => ?_
   refine ⟨_, ldAn O.s hc6 rfl, ?_⟩
   refine O.new fun h8 x9 O10 => ?_
   refine ⟨_, rfl, (T_Make.T.len _ _ _ he7), ?_⟩
   refine O10.stA 2 rfl (T_Make.T.len _ _ _ he7) (T_Make.T.flat _ _ _ he7) fun h12 O13 => ?_
   refine ⟨_, ld0 (Sub.refl _) (O13.all 2 rfl) (T_Make.g0 he7), _, rfl, ?_⟩
   obtain ⟨y14, g15, e⟩ := bind_e e
   refine (r2_Great.walk (Hold.start (W := No) O13.s)  g15).mono ?_
   rintro _ h16 ⟨m17, Q18, rfl⟩
   have O20 := Hold.nm (O13.retC Q18 vfs_nil)
   refine ⟨_, rfl, ?_⟩
   obtain ⟨y21, g22, e⟩ := bind_e e
   obtain ⟨W27, P28, B29, C30⟩ := O20.callC [1]
   refine (rj_form.walk P28 e_3 g22).mono ?_
   rintro _ h23 ⟨m24, cs32, Q25, rfl, he33⟩
   replace he33 : T_jd.E m y21 cs32 := T_jd.keep he33
   have O34 := Hold.nm (C30 Q25 (vfs_cons rV_vf vfs_nil))
   refine ⟨rfl, ?_⟩
   obtain ⟨A35, c36, q37, k38, r39⟩ := T_Make.g1 he7
   refine ⟨_, ldk (k := 1) (Sub.refl _) (O34.all 2 rfl) q37, _, _, _, rfl, ?_⟩
   obtain ⟨y40, g41, e⟩ := bind_e e
   obtain ⟨W46, P47, B48, C49⟩ := O34.callC [3]
   refine (rj_few.walk P47 he33 g41).mono ?_
   rintro _ h42 ⟨m43, cs51, Q44, rfl, he52⟩
   replace he52 : T_jd.E m y40 cs51 := T_jd.keep he52
   have O53 := Hold.nm (C49 Q44 (vfs_cons rV_vf vfs_nil))
   refine ⟨rfl, ?_⟩
   obtain ⟨A54, c55, q56, k57, r58⟩ := T_Make.g1 he7
   refine ⟨_, ldk (k := 1) (Sub.refl _) (O53.all 2 rfl) q56, _, _, _, rfl, ?_⟩
   obtain ⟨y59, g60, e⟩ := bind_e e
   obtain ⟨W65, P66, B67, C68⟩ := O53.callC [4]
   refine (rj_types.walk P66 he52 rfl k57 r58 tab g60).mono ?_
   rintro _ h61 ⟨m62, cs70, Q63, rfl, he71⟩
   replace he71 : T_jd.E m y59 cs70 := T_jd.keep he71
   have O72 := Hold.nm (C68 Q63 (vfs_cons rV_vf vfs_nil))
   refine ⟨rfl, ?_⟩
   exact (ih _ _ e) (O72.pick [0, 5]).nm e_1 he71 rfl k_96 r_96 rfl k_124 r_124 tab
 · exact (ih _ _ e) (O.pick [0, 1]).nm e_1 e_3 rfl k_96 r_96 tab
theorem r2_RightOf.l2_k.all {p : r2_RightOf.l2_k.Pt} {r : (Int)} (e : r2_RightOf.l2_k.go p = some r) : r2_RightOf.l2_k.I p r := fixF_ind (β := fun _ => (Int)) r2_RightOf.l2_k.mono (I := r2_RightOf.l2_k.I) (fun go ih p r e => match p with
 | .l2 y_1 y_3 a_96 x_97 x_98 => r2_RightOf.l2_k.step_l2 go ih y_1 y_3 a_96 x_97 x_98 r e
 | .j1 y_1 y_3 y_9 a_96 x_97 x_98 => r2_RightOf.l2_k.step_j1 go ih y_1 y_3 y_9 a_96 x_97 x_98 r e
 | .l7 y_1 y_3 a_96 x_97 x_98 a_124 x_125 x_126 => r2_RightOf.l2_k.step_l7 go ih y_1 y_3 a_96 x_97 x_98 a_124 x_125 x_126 r e
 ) e
inductive r2_RightOf.l1_k.Pt where
 | l1 (y_1 : T_Program) (y_3 : T_jd) (a_66 : List T_Use) (x_67 : Int) (x_68 : Int)
noncomputable def r2_RightOf.l1_k.body (go : (p : r2_RightOf.l1_k.Pt) → Option (Int)) : (p : r2_RightOf.l1_k.Pt) → Option (Int)
 | .l1 y_1 y_3 a_66 x_67 x_68 => if x_68 < x_67 then (Option.bind (gi a_66 x_68) fun y1 => Option.bind (r2_Small y1.Name) fun y14 => if y14 = true then (Option.bind (r2_plainNumber y1.Low) fun y21 => if y21 = true then (Option.bind (r2_plainNumber y1.High) fun y28 => if y28 = true then (Option.bind (rj_form y_3 (decide (y1.Low ≤ y1.High))) fun y35 => (go (.l1 y_1 y35 a_66 x_67 (IntKind.wrap .i64 (x_68 + (1 : Int)))))) else (Option.bind (rj_form y_3 false) fun y49 => (go (.l1 y_1 y49 a_66 x_67 (IntKind.wrap .i64 (x_68 + (1 : Int))))))) else (Option.bind (rj_form y_3 false) fun y64 => (go (.l1 y_1 y64 a_66 x_67 (IntKind.wrap .i64 (x_68 + (1 : Int))))))) else (Option.bind (rj_form y_3 false) fun y79 => (go (.l1 y_1 y79 a_66 x_67 (IntKind.wrap .i64 (x_68 + (1 : Int))))))) else ((r2_RightOf.l2 y_1 y_3 y_1.Datas (((List.length y_1.Datas) : Nat) : Int) (0 : Int)))
theorem r2_RightOf.l1_k.mono : MonoF (β := fun _ => (Int)) r2_RightOf.l1_k.body := fun f g hfg p => match p with
 | .l1 y_1 y_3 a_66 x_67 x_68 => LeO.ite (LeO.bind (LeO.refl _) fun y1 => LeO.bind (LeO.refl _) fun y14 => LeO.ite (LeO.bind (LeO.refl _) fun y21 => LeO.ite (LeO.bind (LeO.refl _) fun y28 => LeO.ite (LeO.bind (LeO.refl _) fun y35 => (hfg _)) (LeO.bind (LeO.refl _) fun y49 => (hfg _))) (LeO.bind (LeO.refl _) fun y64 => (hfg _))) (LeO.bind (LeO.refl _) fun y79 => (hfg _))) ((LeO.refl _))
noncomputable def r2_RightOf.l1_k.go (p : r2_RightOf.l1_k.Pt) : Option (Int) := fixF (β := fun _ => (Int)) r2_RightOf.l1_k.body p
noncomputable def r2_RightOf.l1 (y_1 y_3 a_66 x_67 x_68) := r2_RightOf.l1_k.go (.l1 y_1 y_3 a_66 x_67 x_68)
theorem r2_RightOf.l1_eq (y_1 y_3 a_66 x_67 x_68) : r2_RightOf.l1 y_1 y_3 a_66 x_67 x_68 = if x_68 < x_67 then (Option.bind (gi a_66 x_68) fun y1 => Option.bind (r2_Small y1.Name) fun y14 => if y14 = true then (Option.bind (r2_plainNumber y1.Low) fun y21 => if y21 = true then (Option.bind (r2_plainNumber y1.High) fun y28 => if y28 = true then (Option.bind (rj_form y_3 (decide (y1.Low ≤ y1.High))) fun y35 => (r2_RightOf.l1 y_1 y35 a_66 x_67 (IntKind.wrap .i64 (x_68 + (1 : Int))))) else (Option.bind (rj_form y_3 false) fun y49 => (r2_RightOf.l1 y_1 y49 a_66 x_67 (IntKind.wrap .i64 (x_68 + (1 : Int)))))) else (Option.bind (rj_form y_3 false) fun y64 => (r2_RightOf.l1 y_1 y64 a_66 x_67 (IntKind.wrap .i64 (x_68 + (1 : Int)))))) else (Option.bind (rj_form y_3 false) fun y79 => (r2_RightOf.l1 y_1 y79 a_66 x_67 (IntKind.wrap .i64 (x_68 + (1 : Int)))))) else ((r2_RightOf.l2 y_1 y_3 y_1.Datas (((List.length y_1.Datas) : Nat) : Int) (0 : Int))) := fixF_eq r2_RightOf.l1_k.mono _
def r2_RightOf.l1_k.I : (p : r2_RightOf.l1_k.Pt) → (Int) → Prop
 | .l1 y_1 y_3 a_66 x_67 x_68, r => ∀ {W h0 m0 h m bk_1 cs_1 bk_3 cs_3 A_66 n_66 c_66} (O : Hold W h0 m0 h m [rV bk_1 29 cs_1, rV bk_3 57 cs_3]) (e_1 : T_Program.E m y_1 cs_1) (e_3 : T_jd.E m y_3 cs_3) (ne_66 : n_66 = List.length a_66) (k_66 : List.length a_66 ≤ c_66) (r_66 : Rd 3 T_Use.E m A_66 a_66) (tab : TB m), f5.l1 (r2_RightOf.post W h0 m0 r) (⟨bk_1, 0, none⟩ : Addr) (⟨bk_3, 0, none⟩ : Addr) A_66 n_66 c_66 x_67 x_68 h
set_option maxHeartbeats 4000000 in
theorem r2_RightOf.l1_k.step_l1 (go : (p : r2_RightOf.l1_k.Pt) → Option (Int)) (ih : ∀ p r, go p = some r → r2_RightOf.l1_k.I p r) (y_1 y_3 a_66 x_67 x_68) (r) (e : r2_RightOf.l1_k.body go (.l1 y_1 y_3 a_66 x_67 x_68) = some r) : r2_RightOf.l1_k.I (.l1 y_1 y_3 a_66 x_67 x_68) r := by
 unfold r2_RightOf.l1_k.body at e
 intro W h0 m0 h m bk_1 cs_1 bk_3 cs_3 A_66 n_66 c_66 O e_1 e_3 ne_66 k_66 r_66 tab
 subst ne_66
 refine f5.l1_in ?_
 unfold f5.l1T
 refine split_dec_e e (fun c99 e => ?_) (fun c99 e => ?_)
 · obtain ⟨y1, g2, e⟩ := bind_e e
   refine r_66.addr rfl g2 fun a3 cs4 ha5 hc6 he7 => ?_
   refine ⟨_, ldAn O.s hc6 rfl, ?_⟩
   refine O.new fun h8 x9 O10 => ?_
   refine ⟨_, rfl, (T_Use.T.len _ _ _ he7), ?_⟩
   refine O10.stA 2 rfl (T_Use.T.len _ _ _ he7) (T_Use.T.flat _ _ _ he7) fun h12 O13 => ?_
   refine ⟨_, ld0 (Sub.refl _) (O13.all 2 rfl) (T_Use.g0 he7), _, rfl, ?_⟩
   obtain ⟨y14, g15, e⟩ := bind_e e
   refine (r2_Small.walk (Hold.start (W := No) O13.s) tab g15).mono ?_
   rintro _ h16 ⟨m17, Q18, rfl⟩
   have O20 := Hold.nm (O13.retC Q18 vfs_nil)
   refine ⟨_, rfl, ?_⟩
   refine split_any_e e (fun c93 e => ?_) (fun c93 e => ?_)
   · refine ⟨_, ldk (k := 1) (Sub.refl _) (O20.all 2 rfl) (T_Use.g1 he7), _, rfl, ?_⟩
     obtain ⟨y21, g22, e⟩ := bind_e e
     refine (r2_plainNumber.walk (Hold.start (W := No) O20.s)  g22).mono ?_
     rintro _ h23 ⟨m24, Q25, rfl⟩
     have O27 := Hold.nm (O20.retC Q25 vfs_nil)
     refine ⟨_, rfl, ?_⟩
     refine split_any_e e (fun c78 e => ?_) (fun c78 e => ?_)
     · refine ⟨_, ldk (k := 2) (Sub.refl _) (O27.all 2 rfl) (T_Use.g2 he7), _, rfl, ?_⟩
       obtain ⟨y28, g29, e⟩ := bind_e e
       refine (r2_plainNumber.walk (Hold.start (W := No) O27.s)  g29).mono ?_
       rintro _ h30 ⟨m31, Q32, rfl⟩
       have O34 := Hold.nm (O27.retC Q32 vfs_nil)
       refine ⟨_, rfl, ?_⟩
       refine split_any_e e (fun c63 e => ?_) (fun c63 e => ?_)
       · refine ⟨_, ldk (k := 1) (Sub.refl _) (O34.all 2 rfl) (T_Use.g1 he7), _, rfl, ?_⟩
         refine ⟨_, ldk (k := 2) (Sub.refl _) (O34.all 2 rfl) (T_Use.g2 he7), _, rfl, ?_⟩
         obtain ⟨y35, g36, e⟩ := bind_e e
         obtain ⟨W41, P42, B43, C44⟩ := O34.callC [1]
         refine (rj_form.walk P42 e_3 g36).mono ?_
         rintro _ h37 ⟨m38, cs46, Q39, rfl, he47⟩
         replace he47 : T_jd.E m y35 cs46 := T_jd.keep he47
         have O48 := Hold.nm (C44 Q39 (vfs_cons rV_vf vfs_nil))
         refine ⟨rfl, ?_⟩
         exact (ih _ _ e) (O48.pick [0, 3]).nm e_1 he47 rfl k_66 r_66 tab
       · obtain ⟨y49, g50, e⟩ := bind_e e
         obtain ⟨W55, P56, B57, C58⟩ := O34.callC [1]
         refine (rj_form.walk P56 e_3 g50).mono ?_
         rintro _ h51 ⟨m52, cs60, Q53, rfl, he61⟩
         replace he61 : T_jd.E m y49 cs60 := T_jd.keep he61
         have O62 := Hold.nm (C58 Q53 (vfs_cons rV_vf vfs_nil))
         refine ⟨rfl, ?_⟩
         exact (ih _ _ e) (O62.pick [0, 3]).nm e_1 he61 rfl k_66 r_66 tab
     · obtain ⟨y64, g65, e⟩ := bind_e e
       obtain ⟨W70, P71, B72, C73⟩ := O27.callC [1]
       refine (rj_form.walk P71 e_3 g65).mono ?_
       rintro _ h66 ⟨m67, cs75, Q68, rfl, he76⟩
       replace he76 : T_jd.E m y64 cs75 := T_jd.keep he76
       have O77 := Hold.nm (C73 Q68 (vfs_cons rV_vf vfs_nil))
       refine ⟨rfl, ?_⟩
       exact (ih _ _ e) (O77.pick [0, 3]).nm e_1 he76 rfl k_66 r_66 tab
   · obtain ⟨y79, g80, e⟩ := bind_e e
     obtain ⟨W85, P86, B87, C88⟩ := O20.callC [1]
     refine (rj_form.walk P86 e_3 g80).mono ?_
     rintro _ h81 ⟨m82, cs90, Q83, rfl, he91⟩
     replace he91 : T_jd.E m y79 cs90 := T_jd.keep he91
     have O92 := Hold.nm (C88 Q83 (vfs_cons rV_vf vfs_nil))
     refine ⟨rfl, ?_⟩
     exact (ih _ _ e) (O92.pick [0, 3]).nm e_1 he91 rfl k_66 r_66 tab
 · obtain ⟨A94, c95, q96, k97, r98⟩ := T_Program.g3 e_1
   refine ⟨_, ldk (k := 3) (Sub.refl _) (O.all 0 rfl) q96, _, _, _, rfl, ?_⟩
   exact (r2_RightOf.l2_k.all e) (O.pick [0, 1]).nm e_1 e_3 rfl k97 r98 tab
theorem r2_RightOf.l1_k.all {p : r2_RightOf.l1_k.Pt} {r : (Int)} (e : r2_RightOf.l1_k.go p = some r) : r2_RightOf.l1_k.I p r := fixF_ind (β := fun _ => (Int)) r2_RightOf.l1_k.mono (I := r2_RightOf.l1_k.I) (fun go ih p r e => match p with
 | .l1 y_1 y_3 a_66 x_67 x_68 => r2_RightOf.l1_k.step_l1 go ih y_1 y_3 a_66 x_67 x_68 r e
 ) e
noncomputable def r2_RightOf.j0 (y_1 : T_Program) (y_3 : T_jd) : Option (Int) :=
 (r2_RightOf.l1 y_1 y_3 y_1.Uses (((List.length y_1.Uses) : Nat) : Int) (0 : Int))
theorem r2_RightOf.j0.walk {W h0 m0 h m bk_1 cs_1 bk_3 cs_3 y_1 y_3} (O : Hold W h0 m0 h m [rV bk_1 29 cs_1, rV bk_3 57 cs_3]) (e_1 : T_Program.E m y_1 cs_1) (e_3 : T_jd.E m y_3 cs_3) (tab : TB m) {r} (e : r2_RightOf.j0 y_1 y_3 = some r) : f5.j0 (r2_RightOf.post W h0 m0 r) (⟨bk_1, 0, none⟩ : Addr) (⟨bk_3, 0, none⟩ : Addr) h := by
 unfold r2_RightOf.j0 at e
 refine f5.j0_in ?_
 unfold f5.j0T
 obtain ⟨A1, c2, q3, k4, r5⟩ := T_Program.g2 e_1
 refine ⟨_, ldk (k := 2) (Sub.refl _) (O.all 0 rfl) q3, _, _, _, rfl, ?_⟩
 exact (r2_RightOf.l1_k.all e) (O.pick [0, 1]).nm e_1 e_3 rfl k4 r5 tab
inductive r2_RightOf.l0_k.Pt where
 | l0 (y_1 : T_Program) (y_3 : T_jd) (a_44 : List Int) (x_45 : Int) (x_46 : Int)
noncomputable def r2_RightOf.l0_k.body (go : (p : r2_RightOf.l0_k.Pt) → Option (Int)) : (p : r2_RightOf.l0_k.Pt) → Option (Int)
 | .l0 y_1 y_3 a_44 x_45 x_46 => if x_46 < x_45 then (Option.bind (gi a_44 x_46) fun y1 => Option.bind (rj_few y_3 (decide (y1 ≤ (40 : Int)))) fun y8 => (go (.l0 y_1 y8 a_44 x_45 (IntKind.wrap .i64 (x_46 + (1 : Int)))))) else (Option.bind (r2_Small y_1.Name) fun y22 => if y22 = true then (Option.bind (r2_plainNumber y_1.Version) fun y29 => Option.bind (rj_form y_3 y29) fun y36 => (r2_RightOf.j0 y_1 y36)) else (Option.bind (rj_form y_3 false) fun y50 => (r2_RightOf.j0 y_1 y50)))
theorem r2_RightOf.l0_k.mono : MonoF (β := fun _ => (Int)) r2_RightOf.l0_k.body := fun f g hfg p => match p with
 | .l0 y_1 y_3 a_44 x_45 x_46 => LeO.ite (LeO.bind (LeO.refl _) fun y1 => LeO.bind (LeO.refl _) fun y8 => (hfg _)) (LeO.bind (LeO.refl _) fun y22 => LeO.ite (LeO.bind (LeO.refl _) fun y29 => LeO.bind (LeO.refl _) fun y36 => (LeO.refl _)) (LeO.bind (LeO.refl _) fun y50 => (LeO.refl _)))
noncomputable def r2_RightOf.l0_k.go (p : r2_RightOf.l0_k.Pt) : Option (Int) := fixF (β := fun _ => (Int)) r2_RightOf.l0_k.body p
noncomputable def r2_RightOf.l0 (y_1 y_3 a_44 x_45 x_46) := r2_RightOf.l0_k.go (.l0 y_1 y_3 a_44 x_45 x_46)
theorem r2_RightOf.l0_eq (y_1 y_3 a_44 x_45 x_46) : r2_RightOf.l0 y_1 y_3 a_44 x_45 x_46 = if x_46 < x_45 then (Option.bind (gi a_44 x_46) fun y1 => Option.bind (rj_few y_3 (decide (y1 ≤ (40 : Int)))) fun y8 => (r2_RightOf.l0 y_1 y8 a_44 x_45 (IntKind.wrap .i64 (x_46 + (1 : Int))))) else (Option.bind (r2_Small y_1.Name) fun y22 => if y22 = true then (Option.bind (r2_plainNumber y_1.Version) fun y29 => Option.bind (rj_form y_3 y29) fun y36 => (r2_RightOf.j0 y_1 y36)) else (Option.bind (rj_form y_3 false) fun y50 => (r2_RightOf.j0 y_1 y50))) := fixF_eq r2_RightOf.l0_k.mono _
def r2_RightOf.l0_k.I : (p : r2_RightOf.l0_k.Pt) → (Int) → Prop
 | .l0 y_1 y_3 a_44 x_45 x_46, r => ∀ {W h0 m0 h m bk_1 cs_1 bk_3 cs_3 A_44 n_44 c_44} (O : Hold W h0 m0 h m [rV bk_1 29 cs_1, rV bk_3 57 cs_3, rR (aE (tell_int .i64)) A_44 c_44 a_44]) (e_1 : T_Program.E m y_1 cs_1) (e_3 : T_jd.E m y_3 cs_3) (ne_44 : n_44 = List.length a_44) (tab : TB m), f5.l0 (r2_RightOf.post W h0 m0 r) (⟨bk_1, 0, none⟩ : Addr) (⟨bk_3, 0, none⟩ : Addr) A_44 n_44 c_44 x_45 x_46 h
set_option maxHeartbeats 4000000 in
theorem r2_RightOf.l0_k.step_l0 (go : (p : r2_RightOf.l0_k.Pt) → Option (Int)) (ih : ∀ p r, go p = some r → r2_RightOf.l0_k.I p r) (y_1 y_3 a_44 x_45 x_46) (r) (e : r2_RightOf.l0_k.body go (.l0 y_1 y_3 a_44 x_45 x_46) = some r) : r2_RightOf.l0_k.I (.l0 y_1 y_3 a_44 x_45 x_46) r := by
 unfold r2_RightOf.l0_k.body at e
 intro W h0 m0 h m bk_1 cs_1 bk_3 cs_3 A_44 n_44 c_44 O e_1 e_3 ne_44 tab
 subst ne_44
 refine f5.l0_in ?_
 unfold f5.l0T
 refine split_dec_e e (fun c65 e => ?_) (fun c65 e => ?_)
 · obtain ⟨y1, g2, e⟩ := bind_e e
   refine (O.os 2 rfl).addr rfl g2 fun a3 cs4 ha5 hc6 he7 => ?_
   obtain rfl : cs4 = [(Value.int .i64 y1)] := he7
   refine ⟨_, ld0 (Sub.refl _) hc6 rfl, _, rfl, ?_⟩
   obtain ⟨y8, g9, e⟩ := bind_e e
   obtain ⟨W14, P15, B16, C17⟩ := O.callC [1]
   refine (rj_few.walk P15 e_3 g9).mono ?_
   rintro _ h10 ⟨m11, cs19, Q12, rfl, he20⟩
   replace he20 : T_jd.E m y8 cs19 := T_jd.keep he20
   have O21 := Hold.nm (C17 Q12 (vfs_cons rV_vf vfs_nil))
   refine ⟨rfl, ?_⟩
   exact (ih _ _ e) (O21.pick [0, 3, 2]).nm e_1 he20 rfl tab
 · refine ⟨_, ld0 (Sub.refl _) (O.all 0 rfl) (T_Program.g0 e_1), _, rfl, ?_⟩
   obtain ⟨y22, g23, e⟩ := bind_e e
   refine (r2_Small.walk (Hold.start (W := No) O.s) tab g23).mono ?_
   rintro _ h24 ⟨m25, Q26, rfl⟩
   have O28 := Hold.nm (O.retC Q26 vfs_nil)
   refine ⟨_, rfl, ?_⟩
   refine split_any_e e (fun c64 e => ?_) (fun c64 e => ?_)
   · refine ⟨_, ldk (k := 1) (Sub.refl _) (O28.all 0 rfl) (T_Program.g1 e_1), _, rfl, ?_⟩
     obtain ⟨y29, g30, e⟩ := bind_e e
     refine (r2_plainNumber.walk (Hold.start (W := No) O28.s)  g30).mono ?_
     rintro _ h31 ⟨m32, Q33, rfl⟩
     have O35 := Hold.nm (O28.retC Q33 vfs_nil)
     refine ⟨_, rfl, ?_⟩
     obtain ⟨y36, g37, e⟩ := bind_e e
     obtain ⟨W42, P43, B44, C45⟩ := O35.callC [1]
     refine (rj_form.walk P43 e_3 g37).mono ?_
     rintro _ h38 ⟨m39, cs47, Q40, rfl, he48⟩
     replace he48 : T_jd.E m y36 cs47 := T_jd.keep he48
     have O49 := Hold.nm (C45 Q40 (vfs_cons rV_vf vfs_nil))
     refine ⟨rfl, ?_⟩
     exact r2_RightOf.j0.walk (O49.pick [0, 3]).nm e_1 he48 tab e
   · obtain ⟨y50, g51, e⟩ := bind_e e
     obtain ⟨W56, P57, B58, C59⟩ := O28.callC [1]
     refine (rj_form.walk P57 e_3 g51).mono ?_
     rintro _ h52 ⟨m53, cs61, Q54, rfl, he62⟩
     replace he62 : T_jd.E m y50 cs61 := T_jd.keep he62
     have O63 := Hold.nm (C59 Q54 (vfs_cons rV_vf vfs_nil))
     refine ⟨rfl, ?_⟩
     exact r2_RightOf.j0.walk (O63.pick [0, 3]).nm e_1 he62 tab e
theorem r2_RightOf.l0_k.all {p : r2_RightOf.l0_k.Pt} {r : (Int)} (e : r2_RightOf.l0_k.go p = some r) : r2_RightOf.l0_k.I p r := fixF_ind (β := fun _ => (Int)) r2_RightOf.l0_k.mono (I := r2_RightOf.l0_k.I) (fun go ih p r e => match p with
 | .l0 y_1 y_3 a_44 x_45 x_46 => r2_RightOf.l0_k.step_l0 go ih y_1 y_3 a_44 x_45 x_46 r e
 ) e
noncomputable def r2_RightOf (y_0 : T_Program) : Option (Int) :=
 (r2_RightOf.l0 y_0 (T_jd.mk (0 : Int)) ([(((List.length y_0.Uses) : Nat) : Int), (((List.length y_0.Datas) : Nat) : Int), (((List.length y_0.Traits) : Nat) : Int), (((List.length y_0.Impls) : Nat) : Int), (((List.length y_0.Funcs) : Nat) : Int), (((List.length y_0.Actors) : Nat) : Int)] : List Int) ((6 : Nat) : Int) (0 : Int))
theorem r2_RightOf.walk {W h m cs_0 y_0} (O : Hold W h m h m []) (e_0 : T_Program.E m y_0 cs_0) (tab : TB m) {r} (e : r2_RightOf y_0 = some r) : Run Tryz.prog 5 #[Value.agg cs_0.toArray] h (r2_RightOf.post W h m r) := by
 unfold r2_RightOf at e
 refine f5.run ?_
 unfold f5.runT
 refine O.new fun h1 x2 O3 => ?_
 refine O3.new fun h5 x6 O7 => ?_
 obtain ⟨A9, c10, q11, k12, r13⟩ := T_Program.g2 e_0
 refine ⟨_, ldk (k := 2) (Sub.refl _) (O7.all 0 rfl) q11, _, _, _, rfl, ?_⟩
 obtain ⟨A14, c15, q16, k17, r18⟩ := T_Program.g3 e_0
 refine ⟨_, ldk (k := 3) (Sub.refl _) (O7.all 0 rfl) q16, _, _, _, rfl, ?_⟩
 obtain ⟨A19, c20, q21, k22, r23⟩ := T_Program.g4 e_0
 refine ⟨_, ldk (k := 4) (Sub.refl _) (O7.all 0 rfl) q21, _, _, _, rfl, ?_⟩
 obtain ⟨A24, c25, q26, k27, r28⟩ := T_Program.g5 e_0
 refine ⟨_, ldk (k := 5) (Sub.refl _) (O7.all 0 rfl) q26, _, _, _, rfl, ?_⟩
 obtain ⟨A29, c30, q31, k32, r33⟩ := T_Program.g6 e_0
 refine ⟨_, ldk (k := 6) (Sub.refl _) (O7.all 0 rfl) q31, _, _, _, rfl, ?_⟩
 obtain ⟨A34, c35, q36, k37, r38⟩ := T_Program.g7 e_0
 refine ⟨_, ldk (k := 7) (Sub.refl _) (O7.all 0 rfl) q36, _, _, _, rfl, ?_⟩
 refine O7.new fun h39 x40 O41 => ?_
 have O43 := O41.rowE (l := ([(((List.length y_0.Uses) : Nat) : Int), (((List.length y_0.Datas) : Nat) : Int), (((List.length y_0.Traits) : Nat) : Int), (((List.length y_0.Impls) : Nat) : Int), (((List.length y_0.Funcs) : Nat) : Int), (((List.length y_0.Actors) : Nat) : Int)] : List Int)) 2 rfl (tell_int .i64) (show CsE _ _ _ _ _ from (CsE.cons (c1 := [(Value.int .i64 (((List.length y_0.Uses) : Nat) : Int))]) rfl rfl (CsE.cons (c1 := [(Value.int .i64 (((List.length y_0.Datas) : Nat) : Int))]) rfl rfl (CsE.cons (c1 := [(Value.int .i64 (((List.length y_0.Traits) : Nat) : Int))]) rfl rfl (CsE.cons (c1 := [(Value.int .i64 (((List.length y_0.Impls) : Nat) : Int))]) rfl rfl (CsE.cons (c1 := [(Value.int .i64 (((List.length y_0.Funcs) : Nat) : Int))]) rfl rfl (CsE.cons (c1 := [(Value.int .i64 (((List.length y_0.Actors) : Nat) : Int))]) rfl rfl CsE.nil))))))) rfl
 have O44 := O43.nm
 exact (r2_RightOf.l0_k.all e) (O44.pick [0, 1, 2]).nm e_0 (show T_jd.E _ (T_jd.mk (0 : Int)) [(Value.int .i64 (0 : Int))] from rfl) rfl tab
def roadlaw2_TreeRight.post (W : Nat → Prop) (h0 m0 : Heap) (r : Bool) (v : Value) (h : Heap) : Prop := ∃ m , Hold W h0 m0 h m [] ∧ v = .bool r
noncomputable def roadlaw2_TreeRight (y_0 : T_Program) : Option (Bool) :=
 Option.bind (tr_Right y_0) fun y5 => Option.bind (r2_RightOf y_0) fun y12 => if y5 = y12 then (Option.bind (tr_Right (T_Program.mk (ByteArray.mk #[120]) (0 : Int) ([] : List T_Use) ([] : List T_Data) ([] : List T_Trait) ([] : List T_Impl) ([] : List T_Func) ([] : List T_Actor))) fun y19 => some ((y19 == (0 : Int)))) else (some (false))
theorem roadlaw2_TreeRight.walk {W h m cs_0 y_0} (O : Hold W h m h m []) (e_0 : T_Program.E m y_0 cs_0) (tab : TB m) {r} (e : roadlaw2_TreeRight y_0 = some r) : Run Tryz.prog 3 #[Value.agg cs_0.toArray] h (roadlaw2_TreeRight.post W h m r) := by
 unfold roadlaw2_TreeRight at e
 refine f3.run ?_
 unfold f3.runT
 refine O.new fun h1 x2 O3 => ?_
 refine ⟨_, ldAn (Sub.refl _) (O3.all 0 rfl) (T_Program.T.len _ _ _ e_0), ?_⟩
 refine ⟨_, ldAn (Sub.refl _) (O3.all 0 rfl) (T_Program.T.len _ _ _ e_0), ?_⟩
 obtain ⟨y5, g6, e⟩ := bind_e e
 refine (tr_Right.walk (Hold.start (W := No) O3.s) e_0 g6).mono ?_
 rintro _ h7 ⟨m8, Q9, rfl⟩
 have O11 := Hold.nm (O3.retC Q9 vfs_nil)
 refine ⟨_, rfl, ?_⟩
 refine ⟨Q9.S.ext, ?_⟩
 obtain ⟨y12, g13, e⟩ := bind_e e
 refine (r2_RightOf.walk (Hold.start (W := No) O11.s) e_0 tab g13).mono ?_
 rintro _ h14 ⟨m15, Q16, rfl⟩
 have O18 := Hold.nm (O11.retC Q16 vfs_nil)
 refine ⟨_, rfl, ?_⟩
 refine split_eq_e e (fun c26 e => ?_) (fun c26 e => ?_)
 · obtain ⟨y19, g20, e⟩ := bind_e e
   refine (tr_Right.walk (Hold.start (W := No) O18.s) (show T_Program.E _ (T_Program.mk (ByteArray.mk #[120]) (0 : Int) ([] : List T_Use) ([] : List T_Data) ([] : List T_Trait) ([] : List T_Impl) ([] : List T_Func) ([] : List T_Actor)) [(Value.string (ByteArray.mk #[120])), (Value.int .i64 (0 : Int)), (Value.slice none 0 0), (Value.slice none 0 0), (Value.slice none 0 0), (Value.slice none 0 0), (Value.slice none 0 0), (Value.slice none 0 0)] from ⟨_, _, _, _, _, _, _, _, _, _, _, _, rfl, (by exact Nat.le_refl 0), Rd.nil, (by exact Nat.le_refl 0), Rd.nil, (by exact Nat.le_refl 0), Rd.nil, (by exact Nat.le_refl 0), Rd.nil, (by exact Nat.le_refl 0), Rd.nil, (by exact Nat.le_refl 0), Rd.nil⟩) g20).mono ?_
   rintro _ h21 ⟨m22, Q23, rfl⟩
   have O25 := Hold.nm (O18.retC Q23 vfs_nil)
   refine ⟨_, rfl, ?_⟩
   cases e
   exact ⟨_, O25.pick [], rfl⟩
 · cases e
   exact ⟨_, O18.pick [], rfl⟩
end Go.Proofs.YtkbhpagogmmgnaaGreatDoor.Fw

end
