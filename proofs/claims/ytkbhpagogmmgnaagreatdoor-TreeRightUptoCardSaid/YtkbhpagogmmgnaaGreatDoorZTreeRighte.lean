/- Part 5: what the law TreeRight needs, put together out of texts of this session. -/
import Derived.Test.YtkbhpagogmmgnaaGreatDoorZTreeRightd
section
namespace Go.Proofs.YtkbhpagogmmgnaaGreatDoor.Fw
open Go Go.Hw Go.Proofs
set_option linter.unusedVariables false
set_option maxRecDepth 100000
set_option synthInstance.maxHeartbeats 400000
set_option synthInstance.maxSize 1000
def tr_pat.post (W : Nat → Prop) (h0 m0 : Heap) (r : Int) (v : Value) (h : Heap) : Prop := ∃ m , Hold W h0 m0 h m [] ∧ v = .int .i64 r
inductive tr_pat_k.Pt where
 | f (y_0 : T_Pat)
 | j0 (y_1 : T_Pat) (b_3 : Bool)
 | j2 (y_1 : T_Pat) (b_3 : Bool)
 | j1 (y_1 : T_Pat) (b_3 : Bool)
 | l0 (a_102 : List T_Pat) (x_103 : Int) (x_104 : Int)
noncomputable def tr_pat_k.body (go : (p : tr_pat_k.Pt) → Option (Int)) : (p : tr_pat_k.Pt) → Option (Int)
 | .f y_0 => if y_0.Kind = (6 : Int) then ((go (.j0 y_0 true))) else ((go (.j0 y_0 ((((List.length y_0.Args) : Nat) : Int) == (0 : Int)))))
 | .j0 y_1 b_3 => if y_1.Kind = (1 : Int) then (if b_3 = true then (if y_1.Num = (0 : Int) then ((go (.j1 y_1 (decide (y_1.Text = (ByteArray.mk #[])))))) else ((go (.j1 y_1 false)))) else ((go (.j1 y_1 false)))) else (if y_1.Kind = (2 : Int) then (if b_3 = true then (if y_1.Num = (0 : Int) then (Option.bind (tk_IsLow y_1.Text) fun y3 => (go (.j1 y_1 y3))) else ((go (.j1 y_1 false)))) else ((go (.j1 y_1 false)))) else (if y_1.Kind = (3 : Int) then (if b_3 = true then ((go (.j1 y_1 (decide (y_1.Text = (ByteArray.mk #[])))))) else ((go (.j1 y_1 false)))) else (if y_1.Kind = (4 : Int) then (if b_3 = true then (if y_1.Num = (0 : Int) then ((go (.j1 y_1 (decide (y_1.Text = (ByteArray.mk #[])))))) else (if y_1.Num = (1 : Int) then ((go (.j1 y_1 (decide (y_1.Text = (ByteArray.mk #[])))))) else ((go (.j1 y_1 false))))) else ((go (.j1 y_1 false)))) else (if y_1.Kind = (5 : Int) then (if b_3 = true then ((go (.j2 y_1 (y_1.Num == (0 : Int))))) else ((go (.j2 y_1 false)))) else (if y_1.Kind = (6 : Int) then (if b_3 = true then (if y_1.Num = (0 : Int) then (Option.bind (tk_IsUp y_1.Text) fun y17 => (go (.j1 y_1 y17))) else ((go (.j1 y_1 false)))) else ((go (.j1 y_1 false)))) else ((go (.j1 y_1 false))))))))
 | .j2 y_1 b_3 => if ((ByteArray.size y_1.Text : Nat) : Int) > (64 : Int) then (some ((2 : Int))) else ((go (.j1 y_1 b_3)))
 | .j1 y_1 b_3 => if b_3 = true then (if (((List.length y_1.Args) : Nat) : Int) > (6 : Int) then (some ((2 : Int))) else ((go (.l0 y_1.Args (((List.length y_1.Args) : Nat) : Int) (0 : Int))))) else (some ((3 : Int)))
 | .l0 a_102 x_103 x_104 => if x_104 < x_103 then (Option.bind (gi a_102 x_104) fun y1 => Option.bind ((go (.f y1))) fun y14 => if y14 = (0 : Int) then ((go (.l0 a_102 x_103 (IntKind.wrap .i64 (x_104 + (1 : Int)))))) else (some (y14))) else (some ((0 : Int)))
theorem tr_pat_k.mono : MonoF (β := fun _ => (Int)) tr_pat_k.body := fun f g hfg p => match p with
 | .f y_0 => LeO.ite ((hfg _)) ((hfg _))
 | .j0 y_1 b_3 => LeO.ite (LeO.ite (LeO.ite ((hfg _)) ((hfg _))) ((hfg _))) (LeO.ite (LeO.ite (LeO.ite (LeO.bind (LeO.refl _) fun y3 => (hfg _)) ((hfg _))) ((hfg _))) (LeO.ite (LeO.ite ((hfg _)) ((hfg _))) (LeO.ite (LeO.ite (LeO.ite ((hfg _)) (LeO.ite ((hfg _)) ((hfg _)))) ((hfg _))) (LeO.ite (LeO.ite ((hfg _)) ((hfg _))) (LeO.ite (LeO.ite (LeO.ite (LeO.bind (LeO.refl _) fun y17 => (hfg _)) ((hfg _))) ((hfg _))) ((hfg _)))))))
 | .j2 y_1 b_3 => LeO.ite (LeO.refl _) ((hfg _))
 | .j1 y_1 b_3 => LeO.ite (LeO.ite (LeO.refl _) ((hfg _))) (LeO.refl _)
 | .l0 a_102 x_103 x_104 => LeO.ite (LeO.bind (LeO.refl _) fun y1 => LeO.bind ((hfg _)) fun y14 => LeO.ite ((hfg _)) (LeO.refl _)) (LeO.refl _)
noncomputable def tr_pat_k.go (p : tr_pat_k.Pt) : Option (Int) := fixF (β := fun _ => (Int)) tr_pat_k.body p
noncomputable def tr_pat (y_0) := tr_pat_k.go (.f y_0)
noncomputable def tr_pat.j0 (y_1 b_3) := tr_pat_k.go (.j0 y_1 b_3)
noncomputable def tr_pat.j2 (y_1 b_3) := tr_pat_k.go (.j2 y_1 b_3)
noncomputable def tr_pat.j1 (y_1 b_3) := tr_pat_k.go (.j1 y_1 b_3)
noncomputable def tr_pat.l0 (a_102 x_103 x_104) := tr_pat_k.go (.l0 a_102 x_103 x_104)
theorem tr_pat_eq (y_0) : tr_pat y_0 = if y_0.Kind = (6 : Int) then ((tr_pat.j0 y_0 true)) else ((tr_pat.j0 y_0 ((((List.length y_0.Args) : Nat) : Int) == (0 : Int)))) := fixF_eq tr_pat_k.mono _
theorem tr_pat.j0_eq (y_1 b_3) : tr_pat.j0 y_1 b_3 = if y_1.Kind = (1 : Int) then (if b_3 = true then (if y_1.Num = (0 : Int) then ((tr_pat.j1 y_1 (decide (y_1.Text = (ByteArray.mk #[]))))) else ((tr_pat.j1 y_1 false))) else ((tr_pat.j1 y_1 false))) else (if y_1.Kind = (2 : Int) then (if b_3 = true then (if y_1.Num = (0 : Int) then (Option.bind (tk_IsLow y_1.Text) fun y3 => (tr_pat.j1 y_1 y3)) else ((tr_pat.j1 y_1 false))) else ((tr_pat.j1 y_1 false))) else (if y_1.Kind = (3 : Int) then (if b_3 = true then ((tr_pat.j1 y_1 (decide (y_1.Text = (ByteArray.mk #[]))))) else ((tr_pat.j1 y_1 false))) else (if y_1.Kind = (4 : Int) then (if b_3 = true then (if y_1.Num = (0 : Int) then ((tr_pat.j1 y_1 (decide (y_1.Text = (ByteArray.mk #[]))))) else (if y_1.Num = (1 : Int) then ((tr_pat.j1 y_1 (decide (y_1.Text = (ByteArray.mk #[]))))) else ((tr_pat.j1 y_1 false)))) else ((tr_pat.j1 y_1 false))) else (if y_1.Kind = (5 : Int) then (if b_3 = true then ((tr_pat.j2 y_1 (y_1.Num == (0 : Int)))) else ((tr_pat.j2 y_1 false))) else (if y_1.Kind = (6 : Int) then (if b_3 = true then (if y_1.Num = (0 : Int) then (Option.bind (tk_IsUp y_1.Text) fun y17 => (tr_pat.j1 y_1 y17)) else ((tr_pat.j1 y_1 false))) else ((tr_pat.j1 y_1 false))) else ((tr_pat.j1 y_1 false))))))) := fixF_eq tr_pat_k.mono _
theorem tr_pat.j2_eq (y_1 b_3) : tr_pat.j2 y_1 b_3 = if ((ByteArray.size y_1.Text : Nat) : Int) > (64 : Int) then (some ((2 : Int))) else ((tr_pat.j1 y_1 b_3)) := fixF_eq tr_pat_k.mono _
theorem tr_pat.j1_eq (y_1 b_3) : tr_pat.j1 y_1 b_3 = if b_3 = true then (if (((List.length y_1.Args) : Nat) : Int) > (6 : Int) then (some ((2 : Int))) else ((tr_pat.l0 y_1.Args (((List.length y_1.Args) : Nat) : Int) (0 : Int)))) else (some ((3 : Int))) := fixF_eq tr_pat_k.mono _
theorem tr_pat.l0_eq (a_102 x_103 x_104) : tr_pat.l0 a_102 x_103 x_104 = if x_104 < x_103 then (Option.bind (gi a_102 x_104) fun y1 => Option.bind ((tr_pat y1)) fun y14 => if y14 = (0 : Int) then ((tr_pat.l0 a_102 x_103 (IntKind.wrap .i64 (x_104 + (1 : Int))))) else (some (y14))) else (some ((0 : Int))) := fixF_eq tr_pat_k.mono _
def tr_pat_k.I : (p : tr_pat_k.Pt) → (Int) → Prop
 | .f y_0, r => ∀ {W h m cs_0} (O : Hold W h m h m []) (e_0 : T_Pat.E m y_0 cs_0), Run Tryz.prog 74 #[Value.agg cs_0.toArray] h (tr_pat.post W h m r)
 | .j0 y_1 b_3, r => ∀ {W h0 m0 h m bk_1 cs_1} (O : Hold W h0 m0 h m [rV bk_1 95 cs_1]) (e_1 : T_Pat.E m y_1 cs_1), f74.j0 (tr_pat.post W h0 m0 r) (⟨bk_1, 0, none⟩ : Addr) b_3 h
 | .j2 y_1 b_3, r => ∀ {W h0 m0 h m bk_1 cs_1} (O : Hold W h0 m0 h m [rV bk_1 95 cs_1]) (e_1 : T_Pat.E m y_1 cs_1), f74.j2 (tr_pat.post W h0 m0 r) (⟨bk_1, 0, none⟩ : Addr) b_3 h
 | .j1 y_1 b_3, r => ∀ {W h0 m0 h m bk_1 cs_1} (O : Hold W h0 m0 h m [rV bk_1 95 cs_1]) (e_1 : T_Pat.E m y_1 cs_1), f74.j1 (tr_pat.post W h0 m0 r) (⟨bk_1, 0, none⟩ : Addr) b_3 h
 | .l0 a_102 x_103 x_104, r => ∀ {W h0 m0 h m A_102 n_102 c_102} (O : Hold W h0 m0 h m []) (ne_102 : n_102 = List.length a_102) (k_102 : List.length a_102 ≤ c_102) (r_102 : Rd 4 T_Pat.E m A_102 a_102), f74.l0 (tr_pat.post W h0 m0 r) A_102 n_102 c_102 x_103 x_104 h
theorem tr_pat_k.step_f (go : (p : tr_pat_k.Pt) → Option (Int)) (ih : ∀ p r, go p = some r → tr_pat_k.I p r) (y_0) (r) (e : tr_pat_k.body go (.f y_0) = some r) : tr_pat_k.I (.f y_0) r := by
 unfold tr_pat_k.body at e
 intro W h m cs_0 O e_0
 refine f74.run ?_
 unfold f74.runT
 refine O.new fun h1 x2 O3 => ?_
 refine ⟨_, ld0 (Sub.refl _) (O3.all 0 rfl) (T_Pat.g0 e_0), _, rfl, ?_⟩
 refine split_eq_e e (fun c12 e => ?_) (fun c12 e => ?_)
 · have O5 := O3.nm
   exact (ih _ _ e) (O5.pick [0]).nm e_0
 · obtain ⟨A6, c7, q8, k9, r10⟩ := T_Pat.g3 e_0
   refine ⟨_, ldk (k := 3) (Sub.refl _) (O3.all 0 rfl) q8, _, _, _, rfl, ?_⟩
   have O11 := O3.nm
   exact (ih _ _ e) (O11.pick [0]).nm e_0
set_option maxHeartbeats 4000000 in
theorem tr_pat_k.step_j0 (go : (p : tr_pat_k.Pt) → Option (Int)) (ih : ∀ p r, go p = some r → tr_pat_k.I p r) (y_1 b_3) (r) (e : tr_pat_k.body go (.j0 y_1 b_3) = some r) : tr_pat_k.I (.j0 y_1 b_3) r := by
 unfold tr_pat_k.body at e
 intro W h0 m0 h m bk_1 cs_1 O e_1
 refine f74.j0_in ?_
 unfold f74.j0T
 refine ⟨_, ld0 (Sub.refl _) (O.all 0 rfl) (T_Pat.g0 e_1), _, rfl, ?_⟩
 refine split_eq_e e (fun c31 e => ?_) (fun c31 e => ?_)
 · refine split_any_e e (fun c2 e => ?_) (fun c2 e => ?_)
   · refine ⟨_, ldk (k := 1) (Sub.refl _) (O.all 0 rfl) (T_Pat.g1 e_1), _, rfl, ?_⟩
     refine split_eq_e e (fun c1 e => ?_) (fun c1 e => ?_)
     · refine ⟨_, ldk (k := 2) (Sub.refl _) (O.all 0 rfl) (T_Pat.g2 e_1), _, rfl, ?_⟩
       try rw [ba_list y_1.Text (ByteArray.mk #[])]
       exact (ih _ _ e) (O.pick [0]).nm e_1
     · exact (ih _ _ e) (O.pick [0]).nm e_1
   · exact (ih _ _ e) (O.pick [0]).nm e_1
 · refine split_eq_e e (fun c30 e => ?_) (fun c30 e => ?_)
   · refine split_any_e e (fun c11 e => ?_) (fun c11 e => ?_)
     · refine ⟨_, ldk (k := 1) (Sub.refl _) (O.all 0 rfl) (T_Pat.g1 e_1), _, rfl, ?_⟩
       refine split_eq_e e (fun c10 e => ?_) (fun c10 e => ?_)
       · refine ⟨_, ldk (k := 2) (Sub.refl _) (O.all 0 rfl) (T_Pat.g2 e_1), _, rfl, ?_⟩
         obtain ⟨y3, g4, e⟩ := bind_e e
         refine (tk_IsLow.walk (Hold.start (W := No) O.s)  g4).mono ?_
         rintro _ h5 ⟨m6, Q7, rfl⟩
         have O9 := Hold.nm (O.retC Q7 vfs_nil)
         refine ⟨_, rfl, ?_⟩
         exact (ih _ _ e) (O9.pick [0]).nm e_1
       · exact (ih _ _ e) (O.pick [0]).nm e_1
     · exact (ih _ _ e) (O.pick [0]).nm e_1
   · refine split_eq_e e (fun c29 e => ?_) (fun c29 e => ?_)
     · refine split_any_e e (fun c12 e => ?_) (fun c12 e => ?_)
       · refine ⟨_, ldk (k := 2) (Sub.refl _) (O.all 0 rfl) (T_Pat.g2 e_1), _, rfl, ?_⟩
         try rw [ba_list y_1.Text (ByteArray.mk #[])]
         exact (ih _ _ e) (O.pick [0]).nm e_1
       · exact (ih _ _ e) (O.pick [0]).nm e_1
     · refine split_eq_e e (fun c28 e => ?_) (fun c28 e => ?_)
       · refine split_any_e e (fun c15 e => ?_) (fun c15 e => ?_)
         · refine ⟨_, ldk (k := 1) (Sub.refl _) (O.all 0 rfl) (T_Pat.g1 e_1), _, rfl, ?_⟩
           refine split_eq_e e (fun c14 e => ?_) (fun c14 e => ?_)
           · refine ⟨_, ldk (k := 2) (Sub.refl _) (O.all 0 rfl) (T_Pat.g2 e_1), _, rfl, ?_⟩
             try rw [ba_list y_1.Text (ByteArray.mk #[])]
             exact (ih _ _ e) (O.pick [0]).nm e_1
           · refine ⟨_, ldk (k := 1) (Sub.refl _) (O.all 0 rfl) (T_Pat.g1 e_1), _, rfl, ?_⟩
             refine split_eq_e e (fun c13 e => ?_) (fun c13 e => ?_)
             · refine ⟨_, ldk (k := 2) (Sub.refl _) (O.all 0 rfl) (T_Pat.g2 e_1), _, rfl, ?_⟩
               try rw [ba_list y_1.Text (ByteArray.mk #[])]
               exact (ih _ _ e) (O.pick [0]).nm e_1
             · exact (ih _ _ e) (O.pick [0]).nm e_1
         · exact (ih _ _ e) (O.pick [0]).nm e_1
       · refine split_eq_e e (fun c27 e => ?_) (fun c27 e => ?_)
         · refine split_any_e e (fun c16 e => ?_) (fun c16 e => ?_)
           · refine ⟨_, ldk (k := 1) (Sub.refl _) (O.all 0 rfl) (T_Pat.g1 e_1), _, rfl, ?_⟩
             exact (ih _ _ e) (O.pick [0]).nm e_1
           · exact (ih _ _ e) (O.pick [0]).nm e_1
         · refine split_eq_e e (fun c26 e => ?_) (fun c26 e => ?_)
           · refine split_any_e e (fun c25 e => ?_) (fun c25 e => ?_)
             · refine ⟨_, ldk (k := 1) (Sub.refl _) (O.all 0 rfl) (T_Pat.g1 e_1), _, rfl, ?_⟩
               refine split_eq_e e (fun c24 e => ?_) (fun c24 e => ?_)
               · refine ⟨_, ldk (k := 2) (Sub.refl _) (O.all 0 rfl) (T_Pat.g2 e_1), _, rfl, ?_⟩
                 obtain ⟨y17, g18, e⟩ := bind_e e
                 refine (tk_IsUp.walk (Hold.start (W := No) O.s)  g18).mono ?_
                 rintro _ h19 ⟨m20, Q21, rfl⟩
                 have O23 := Hold.nm (O.retC Q21 vfs_nil)
                 refine ⟨_, rfl, ?_⟩
                 exact (ih _ _ e) (O23.pick [0]).nm e_1
               · exact (ih _ _ e) (O.pick [0]).nm e_1
             · exact (ih _ _ e) (O.pick [0]).nm e_1
           · exact (ih _ _ e) (O.pick [0]).nm e_1
theorem tr_pat_k.step_j2 (go : (p : tr_pat_k.Pt) → Option (Int)) (ih : ∀ p r, go p = some r → tr_pat_k.I p r) (y_1 b_3) (r) (e : tr_pat_k.body go (.j2 y_1 b_3) = some r) : tr_pat_k.I (.j2 y_1 b_3) r := by
 unfold tr_pat_k.body at e
 intro W h0 m0 h m bk_1 cs_1 O e_1
 refine f74.j2_in ?_
 unfold f74.j2T
 refine ⟨_, ldk (k := 2) (Sub.refl _) (O.all 0 rfl) (T_Pat.g2 e_1), _, rfl, ?_⟩
 refine split_dec_e e (fun c1 e => ?_) (fun c1 e => ?_)
 · cases e
   exact ⟨_, O.pick [], rfl⟩
 · exact (ih _ _ e) (O.pick [0]).nm e_1
theorem tr_pat_k.step_j1 (go : (p : tr_pat_k.Pt) → Option (Int)) (ih : ∀ p r, go p = some r → tr_pat_k.I p r) (y_1 b_3) (r) (e : tr_pat_k.body go (.j1 y_1 b_3) = some r) : tr_pat_k.I (.j1 y_1 b_3) r := by
 unfold tr_pat_k.body at e
 intro W h0 m0 h m bk_1 cs_1 O e_1
 refine f74.j1_in ?_
 unfold f74.j1T
 refine split_not ?_
 refine split_any_e e (fun c12 e => ?_) (fun c12 e => ?_)
 · obtain ⟨A1, c2, q3, k4, r5⟩ := T_Pat.g3 e_1
   refine ⟨_, ldk (k := 3) (Sub.refl _) (O.all 0 rfl) q3, _, _, _, rfl, ?_⟩
   refine split_dec_e e (fun c11 e => ?_) (fun c11 e => ?_)
   · cases e
     exact ⟨_, O.pick [], rfl⟩
   · obtain ⟨A6, c7, q8, k9, r10⟩ := T_Pat.g3 e_1
     refine ⟨_, ldk (k := 3) (Sub.refl _) (O.all 0 rfl) q8, _, _, _, rfl, ?_⟩
     exact (ih _ _ e) (O.pick []).nm rfl k9 r10
 · cases e
   exact ⟨_, O.pick [], rfl⟩
theorem tr_pat_k.step_l0 (go : (p : tr_pat_k.Pt) → Option (Int)) (ih : ∀ p r, go p = some r → tr_pat_k.I p r) (a_102 x_103 x_104) (r) (e : tr_pat_k.body go (.l0 a_102 x_103 x_104) = some r) : tr_pat_k.I (.l0 a_102 x_103 x_104) r := by
 unfold tr_pat_k.body at e
 intro W h0 m0 h m A_102 n_102 c_102 O ne_102 k_102 r_102
 subst ne_102
 refine f74.l0_in ?_
 unfold f74.l0T
 refine split_dec_e e (fun c22 e => ?_) (fun c22 e => ?_)
 · obtain ⟨y1, g2, e⟩ := bind_e e
   refine r_102.addr rfl g2 fun a3 cs4 ha5 hc6 he7 => ?_
   refine ⟨_, ldAn O.s hc6 rfl, ?_⟩
   refine O.new fun h8 x9 O10 => ?_
   refine ⟨_, rfl, (T_Pat.T.len _ _ _ he7), ?_⟩
   refine O10.stA 0 rfl (T_Pat.T.len _ _ _ he7) (T_Pat.T.flat _ _ _ he7) fun h12 O13 => ?_
   refine ⟨_, ldAn (Sub.refl _) (O13.all 0 rfl) (T_Pat.T.len _ _ _ he7), ?_⟩
   obtain ⟨y14, g15, e⟩ := bind_e e
   refine ((ih _ _ g15) (Hold.start (W := No) O13.s) he7).mono ?_
   rintro _ h16 ⟨m17, Q18, rfl⟩
   have O20 := Hold.nm (O13.retC Q18 vfs_nil)
   refine ⟨_, rfl, ?_⟩
   refine split_ne_e e (fun c21 e => ?_) (fun c21 e => ?_)
   · cases e
     exact ⟨_, O20.pick [], rfl⟩
   · exact (ih _ _ e) (O20.pick []).nm rfl k_102 r_102
 · cases e
   exact ⟨_, O.pick [], rfl⟩
theorem tr_pat_k.all {p : tr_pat_k.Pt} {r : (Int)} (e : tr_pat_k.go p = some r) : tr_pat_k.I p r := fixF_ind (β := fun _ => (Int)) tr_pat_k.mono (I := tr_pat_k.I) (fun go ih p r e => match p with
 | .f y_0 => tr_pat_k.step_f go ih y_0 r e
 | .j0 y_1 b_3 => tr_pat_k.step_j0 go ih y_1 b_3 r e
 | .j2 y_1 b_3 => tr_pat_k.step_j2 go ih y_1 b_3 r e
 | .j1 y_1 b_3 => tr_pat_k.step_j1 go ih y_1 b_3 r e
 | .l0 a_102 x_103 x_104 => tr_pat_k.step_l0 go ih a_102 x_103 x_104 r e
 ) e
theorem tr_pat.walk {W h m cs_0 y_0} (O : Hold W h m h m []) (e_0 : T_Pat.E m y_0 cs_0) {r} (e : tr_pat y_0 = some r) : Run Tryz.prog 74 #[Value.agg cs_0.toArray] h (tr_pat.post W h m r) := tr_pat_k.all (p := .f y_0) e O e_0
def tr_expr.post (W : Nat → Prop) (h0 m0 : Heap) (r : Int) (v : Value) (h : Heap) : Prop := ∃ m , Hold W h0 m0 h m [] ∧ v = .int .i64 r
inductive tr_expr_k.Pt where
 | f (y_0 : T_Expr) (b_1 : Bool)
 | j0 (b_1 : Bool) (y_2 : T_Expr) (y_5 : T_fo)
 | j1 (b_1 : Bool) (y_2 : T_Expr)
 | j2 (b_1 : Bool) (y_2 : T_Expr)
 | l0 (b_1 : Bool) (y_2 : T_Expr) (a_136 : List T_Expr) (x_137 : Int) (x_138 : Int)
 | j3 (b_1 : Bool) (y_2 : T_Expr) (x_11 : Int) (a_136 : List T_Expr) (x_137 : Int) (x_138 : Int)
 | l1 (b_1 : Bool) (a_155 : List T_Arm) (x_156 : Int) (x_157 : Int)
noncomputable def tr_expr_k.body (go : (p : tr_expr_k.Pt) → Option (Int)) : (p : tr_expr_k.Pt) → Option (Int)
 | .f y_0 b_1 => Option.bind (tr_formOf y_0.Kind) fun y5 => if y5.2 = true then (if (((List.length y_0.Args) : Nat) : Int) > y5.1.high_ then (if y5.1.high_ ≥ (6 : Int) then (some ((2 : Int))) else (if (((List.length y_0.Arms) : Nat) : Int) > (12 : Int) then (some ((2 : Int))) else (if ((ByteArray.size y_0.Text : Nat) : Int) > (64 : Int) then (some ((2 : Int))) else ((go (.j0 b_1 y_0 y5.1)))))) else (if (((List.length y_0.Arms) : Nat) : Int) > (12 : Int) then (some ((2 : Int))) else (if ((ByteArray.size y_0.Text : Nat) : Int) > (64 : Int) then (some ((2 : Int))) else ((go (.j0 b_1 y_0 y5.1)))))) else (some ((3 : Int)))
 | .j0 b_1 y_2 y_5 => Option.bind (tr_texted y_2 y_5.text_) fun y1 => if y1 = true then (Option.bind (tr_numbered y_2 y_5) fun y8 => if y8 = true then (if (((List.length y_2.Args) : Nat) : Int) < y_5.low_ then (some ((3 : Int))) else (if (((List.length y_2.Args) : Nat) : Int) > y_5.high_ then (some ((3 : Int))) else (if y_5.arms_ = true then (if y_2.Kind = (13 : Int) then (if (((List.length y_2.Arms) : Nat) : Int) < (1 : Int) then (some ((3 : Int))) else (if y_2.Kind = (17 : Int) then (if b_1 = true then ((go (.j1 b_1 y_2))) else (some ((3 : Int)))) else ((go (.j1 b_1 y_2))))) else (if y_2.Kind = (17 : Int) then (if b_1 = true then ((go (.j1 b_1 y_2))) else (some ((3 : Int)))) else ((go (.j1 b_1 y_2))))) else (if (((List.length y_2.Arms) : Nat) : Int) > (0 : Int) then (some ((3 : Int))) else (if y_2.Kind = (13 : Int) then (if (((List.length y_2.Arms) : Nat) : Int) < (1 : Int) then (some ((3 : Int))) else (if y_2.Kind = (17 : Int) then (if b_1 = true then ((go (.j1 b_1 y_2))) else (some ((3 : Int)))) else ((go (.j1 b_1 y_2))))) else (if y_2.Kind = (17 : Int) then (if b_1 = true then ((go (.j1 b_1 y_2))) else (some ((3 : Int)))) else ((go (.j1 b_1 y_2))))))))) else (some ((3 : Int)))) else (some ((3 : Int)))
 | .j1 b_1 y_2 => if y_2.Kind = (10 : Int) then (if (((List.length y_2.Names) : Nat) : Int) = (((List.length y_2.Types) : Nat) : Int) then (Option.bind (tr_lows y_2.Names) fun y16 => if y16 = (0 : Int) then (Option.bind (tr_types y_2.Types (40 : Int)) fun y28 => if y28 = (0 : Int) then ((go (.j2 b_1 y_2))) else (some (y28))) else (some (y16))) else (some ((3 : Int)))) else (if (IntKind.wrap .i64 ((((List.length y_2.Names) : Nat) : Int) + (((List.length y_2.Types) : Nat) : Int))) > (0 : Int) then (some ((3 : Int))) else ((go (.j2 b_1 y_2))))
 | .j2 b_1 y_2 => (go (.l0 b_1 y_2 y_2.Args (((List.length y_2.Args) : Nat) : Int) (0 : Int)))
 | .l0 b_1 y_2 a_136 x_137 x_138 => if x_138 < x_137 then (Option.bind (gi a_136 x_138) fun y1 => if b_1 = true then (Option.bind ((go (.f y1 (y_2.Kind != (10 : Int))))) fun y14 => (go (.j3 b_1 y_2 y14 a_136 x_137 x_138))) else (Option.bind ((go (.f y1 false))) fun y21 => (go (.j3 b_1 y_2 y21 a_136 x_137 x_138)))) else ((go (.l1 b_1 y_2.Arms (((List.length y_2.Arms) : Nat) : Int) (0 : Int))))
 | .j3 b_1 y_2 x_11 a_136 x_137 x_138 => if x_11 = (0 : Int) then ((go (.l0 b_1 y_2 a_136 x_137 (IntKind.wrap .i64 (x_138 + (1 : Int)))))) else (some (x_11))
 | .l1 b_1 a_155 x_156 x_157 => if x_157 < x_156 then (Option.bind (gi a_155 x_157) fun y1 => Option.bind (tr_pat y1.Pat) fun y14 => if y14 = (0 : Int) then (Option.bind ((go (.f y1.Body b_1))) fun y21 => if y21 = (0 : Int) then ((go (.l1 b_1 a_155 x_156 (IntKind.wrap .i64 (x_157 + (1 : Int)))))) else (some (y21))) else (some (y14))) else (some ((0 : Int)))
theorem tr_expr_k.mono : MonoF (β := fun _ => (Int)) tr_expr_k.body := fun f g hfg p => match p with
 | .f y_0 b_1 => LeO.bind (LeO.refl _) fun y5 => LeO.ite (LeO.ite (LeO.ite (LeO.refl _) (LeO.ite (LeO.refl _) (LeO.ite (LeO.refl _) ((hfg _))))) (LeO.ite (LeO.refl _) (LeO.ite (LeO.refl _) ((hfg _))))) (LeO.refl _)
 | .j0 b_1 y_2 y_5 => LeO.bind (LeO.refl _) fun y1 => LeO.ite (LeO.bind (LeO.refl _) fun y8 => LeO.ite (LeO.ite (LeO.refl _) (LeO.ite (LeO.refl _) (LeO.ite (LeO.ite (LeO.ite (LeO.refl _) (LeO.ite (LeO.ite ((hfg _)) (LeO.refl _)) ((hfg _)))) (LeO.ite (LeO.ite ((hfg _)) (LeO.refl _)) ((hfg _)))) (LeO.ite (LeO.refl _) (LeO.ite (LeO.ite (LeO.refl _) (LeO.ite (LeO.ite ((hfg _)) (LeO.refl _)) ((hfg _)))) (LeO.ite (LeO.ite ((hfg _)) (LeO.refl _)) ((hfg _)))))))) (LeO.refl _)) (LeO.refl _)
 | .j1 b_1 y_2 => LeO.ite (LeO.ite (LeO.bind (LeO.refl _) fun y16 => LeO.ite (LeO.bind (LeO.refl _) fun y28 => LeO.ite ((hfg _)) (LeO.refl _)) (LeO.refl _)) (LeO.refl _)) (LeO.ite (LeO.refl _) ((hfg _)))
 | .j2 b_1 y_2 => (hfg _)
 | .l0 b_1 y_2 a_136 x_137 x_138 => LeO.ite (LeO.bind (LeO.refl _) fun y1 => LeO.ite (LeO.bind ((hfg _)) fun y14 => (hfg _)) (LeO.bind ((hfg _)) fun y21 => (hfg _))) ((hfg _))
 | .j3 b_1 y_2 x_11 a_136 x_137 x_138 => LeO.ite ((hfg _)) (LeO.refl _)
 | .l1 b_1 a_155 x_156 x_157 => LeO.ite (LeO.bind (LeO.refl _) fun y1 => LeO.bind (LeO.refl _) fun y14 => LeO.ite (LeO.bind ((hfg _)) fun y21 => LeO.ite ((hfg _)) (LeO.refl _)) (LeO.refl _)) (LeO.refl _)
noncomputable def tr_expr_k.go (p : tr_expr_k.Pt) : Option (Int) := fixF (β := fun _ => (Int)) tr_expr_k.body p
noncomputable def tr_expr (y_0 b_1) := tr_expr_k.go (.f y_0 b_1)
noncomputable def tr_expr.j0 (b_1 y_2 y_5) := tr_expr_k.go (.j0 b_1 y_2 y_5)
noncomputable def tr_expr.j1 (b_1 y_2) := tr_expr_k.go (.j1 b_1 y_2)
noncomputable def tr_expr.j2 (b_1 y_2) := tr_expr_k.go (.j2 b_1 y_2)
noncomputable def tr_expr.l0 (b_1 y_2 a_136 x_137 x_138) := tr_expr_k.go (.l0 b_1 y_2 a_136 x_137 x_138)
noncomputable def tr_expr.j3 (b_1 y_2 x_11 a_136 x_137 x_138) := tr_expr_k.go (.j3 b_1 y_2 x_11 a_136 x_137 x_138)
noncomputable def tr_expr.l1 (b_1 a_155 x_156 x_157) := tr_expr_k.go (.l1 b_1 a_155 x_156 x_157)
theorem tr_expr_eq (y_0 b_1) : tr_expr y_0 b_1 = Option.bind (tr_formOf y_0.Kind) fun y5 => if y5.2 = true then (if (((List.length y_0.Args) : Nat) : Int) > y5.1.high_ then (if y5.1.high_ ≥ (6 : Int) then (some ((2 : Int))) else (if (((List.length y_0.Arms) : Nat) : Int) > (12 : Int) then (some ((2 : Int))) else (if ((ByteArray.size y_0.Text : Nat) : Int) > (64 : Int) then (some ((2 : Int))) else ((tr_expr.j0 b_1 y_0 y5.1))))) else (if (((List.length y_0.Arms) : Nat) : Int) > (12 : Int) then (some ((2 : Int))) else (if ((ByteArray.size y_0.Text : Nat) : Int) > (64 : Int) then (some ((2 : Int))) else ((tr_expr.j0 b_1 y_0 y5.1))))) else (some ((3 : Int))) := fixF_eq tr_expr_k.mono _
theorem tr_expr.j0_eq (b_1 y_2 y_5) : tr_expr.j0 b_1 y_2 y_5 = Option.bind (tr_texted y_2 y_5.text_) fun y1 => if y1 = true then (Option.bind (tr_numbered y_2 y_5) fun y8 => if y8 = true then (if (((List.length y_2.Args) : Nat) : Int) < y_5.low_ then (some ((3 : Int))) else (if (((List.length y_2.Args) : Nat) : Int) > y_5.high_ then (some ((3 : Int))) else (if y_5.arms_ = true then (if y_2.Kind = (13 : Int) then (if (((List.length y_2.Arms) : Nat) : Int) < (1 : Int) then (some ((3 : Int))) else (if y_2.Kind = (17 : Int) then (if b_1 = true then ((tr_expr.j1 b_1 y_2)) else (some ((3 : Int)))) else ((tr_expr.j1 b_1 y_2)))) else (if y_2.Kind = (17 : Int) then (if b_1 = true then ((tr_expr.j1 b_1 y_2)) else (some ((3 : Int)))) else ((tr_expr.j1 b_1 y_2)))) else (if (((List.length y_2.Arms) : Nat) : Int) > (0 : Int) then (some ((3 : Int))) else (if y_2.Kind = (13 : Int) then (if (((List.length y_2.Arms) : Nat) : Int) < (1 : Int) then (some ((3 : Int))) else (if y_2.Kind = (17 : Int) then (if b_1 = true then ((tr_expr.j1 b_1 y_2)) else (some ((3 : Int)))) else ((tr_expr.j1 b_1 y_2)))) else (if y_2.Kind = (17 : Int) then (if b_1 = true then ((tr_expr.j1 b_1 y_2)) else (some ((3 : Int)))) else ((tr_expr.j1 b_1 y_2)))))))) else (some ((3 : Int)))) else (some ((3 : Int))) := fixF_eq tr_expr_k.mono _
theorem tr_expr.j1_eq (b_1 y_2) : tr_expr.j1 b_1 y_2 = if y_2.Kind = (10 : Int) then (if (((List.length y_2.Names) : Nat) : Int) = (((List.length y_2.Types) : Nat) : Int) then (Option.bind (tr_lows y_2.Names) fun y16 => if y16 = (0 : Int) then (Option.bind (tr_types y_2.Types (40 : Int)) fun y28 => if y28 = (0 : Int) then ((tr_expr.j2 b_1 y_2)) else (some (y28))) else (some (y16))) else (some ((3 : Int)))) else (if (IntKind.wrap .i64 ((((List.length y_2.Names) : Nat) : Int) + (((List.length y_2.Types) : Nat) : Int))) > (0 : Int) then (some ((3 : Int))) else ((tr_expr.j2 b_1 y_2))) := fixF_eq tr_expr_k.mono _
theorem tr_expr.j2_eq (b_1 y_2) : tr_expr.j2 b_1 y_2 = (tr_expr.l0 b_1 y_2 y_2.Args (((List.length y_2.Args) : Nat) : Int) (0 : Int)) := fixF_eq tr_expr_k.mono _
theorem tr_expr.l0_eq (b_1 y_2 a_136 x_137 x_138) : tr_expr.l0 b_1 y_2 a_136 x_137 x_138 = if x_138 < x_137 then (Option.bind (gi a_136 x_138) fun y1 => if b_1 = true then (Option.bind ((tr_expr y1 (y_2.Kind != (10 : Int)))) fun y14 => (tr_expr.j3 b_1 y_2 y14 a_136 x_137 x_138)) else (Option.bind ((tr_expr y1 false)) fun y21 => (tr_expr.j3 b_1 y_2 y21 a_136 x_137 x_138))) else ((tr_expr.l1 b_1 y_2.Arms (((List.length y_2.Arms) : Nat) : Int) (0 : Int))) := fixF_eq tr_expr_k.mono _
theorem tr_expr.j3_eq (b_1 y_2 x_11 a_136 x_137 x_138) : tr_expr.j3 b_1 y_2 x_11 a_136 x_137 x_138 = if x_11 = (0 : Int) then ((tr_expr.l0 b_1 y_2 a_136 x_137 (IntKind.wrap .i64 (x_138 + (1 : Int))))) else (some (x_11)) := fixF_eq tr_expr_k.mono _
theorem tr_expr.l1_eq (b_1 a_155 x_156 x_157) : tr_expr.l1 b_1 a_155 x_156 x_157 = if x_157 < x_156 then (Option.bind (gi a_155 x_157) fun y1 => Option.bind (tr_pat y1.Pat) fun y14 => if y14 = (0 : Int) then (Option.bind ((tr_expr y1.Body b_1)) fun y21 => if y21 = (0 : Int) then ((tr_expr.l1 b_1 a_155 x_156 (IntKind.wrap .i64 (x_157 + (1 : Int))))) else (some (y21))) else (some (y14))) else (some ((0 : Int))) := fixF_eq tr_expr_k.mono _
def tr_expr_k.I : (p : tr_expr_k.Pt) → (Int) → Prop
 | .f y_0 b_1, r => ∀ {W h m cs_0} (O : Hold W h m h m []) (e_0 : T_Expr.E m y_0 cs_0), Run Tryz.prog 52 #[Value.agg cs_0.toArray, Value.bool b_1] h (tr_expr.post W h m r)
 | .j0 b_1 y_2 y_5, r => ∀ {W h0 m0 h m bk_2 cs_2 bk_5 cs_5} (O : Hold W h0 m0 h m [rV bk_2 48 cs_2, rV bk_5 115 cs_5]) (e_2 : T_Expr.E m y_2 cs_2) (e_5 : T_fo.E m y_5 cs_5), f52.j0 (tr_expr.post W h0 m0 r) b_1 (⟨bk_2, 0, none⟩ : Addr) (⟨bk_5, 0, none⟩ : Addr) h
 | .j1 b_1 y_2, r => ∀ {W h0 m0 h m bk_2 cs_2} (O : Hold W h0 m0 h m [rV bk_2 48 cs_2]) (e_2 : T_Expr.E m y_2 cs_2), f52.j1 (tr_expr.post W h0 m0 r) b_1 (⟨bk_2, 0, none⟩ : Addr) h
 | .j2 b_1 y_2, r => ∀ {W h0 m0 h m bk_2 cs_2} (O : Hold W h0 m0 h m [rV bk_2 48 cs_2]) (e_2 : T_Expr.E m y_2 cs_2), f52.j2 (tr_expr.post W h0 m0 r) b_1 (⟨bk_2, 0, none⟩ : Addr) h
 | .l0 b_1 y_2 a_136 x_137 x_138, r => ∀ {W h0 m0 h m bk_2 cs_2 A_136 n_136 c_136} (O : Hold W h0 m0 h m [rV bk_2 48 cs_2]) (e_2 : T_Expr.E m y_2 cs_2) (ne_136 : n_136 = List.length a_136) (k_136 : List.length a_136 ≤ c_136) (r_136 : Rd 8 T_Expr.E m A_136 a_136), f52.l0 (tr_expr.post W h0 m0 r) b_1 (⟨bk_2, 0, none⟩ : Addr) A_136 n_136 c_136 x_137 x_138 h
 | .j3 b_1 y_2 x_11 a_136 x_137 x_138, r => ∀ {W h0 m0 h m bk_2 cs_2 A_136 n_136 c_136} (O : Hold W h0 m0 h m [rV bk_2 48 cs_2]) (e_2 : T_Expr.E m y_2 cs_2) (ne_136 : n_136 = List.length a_136) (k_136 : List.length a_136 ≤ c_136) (r_136 : Rd 8 T_Expr.E m A_136 a_136), f52.j3 (tr_expr.post W h0 m0 r) b_1 (⟨bk_2, 0, none⟩ : Addr) x_11 A_136 n_136 c_136 x_137 x_138 h
 | .l1 b_1 a_155 x_156 x_157, r => ∀ {W h0 m0 h m A_155 n_155 c_155} (O : Hold W h0 m0 h m []) (ne_155 : n_155 = List.length a_155) (k_155 : List.length a_155 ≤ c_155) (r_155 : Rd 12 T_Arm.E m A_155 a_155), f52.l1 (tr_expr.post W h0 m0 r) b_1 A_155 n_155 c_155 x_156 x_157 h
set_option maxHeartbeats 4000000 in
theorem tr_expr_k.step_f (go : (p : tr_expr_k.Pt) → Option (Int)) (ih : ∀ p r, go p = some r → tr_expr_k.I p r) (y_0 b_1) (r) (e : tr_expr_k.body go (.f y_0 b_1) = some r) : tr_expr_k.I (.f y_0 b_1) r := by
 unfold tr_expr_k.body at e
 intro W h m cs_0 O e_0
 refine f52.run ?_
 unfold f52.runT
 refine O.new fun h1 x2 O3 => ?_
 refine ⟨_, ld0 (Sub.refl _) (O3.all 0 rfl) (T_Expr.g0 e_0), _, rfl, ?_⟩
 obtain ⟨y5, g6, e⟩ := bind_e e
 refine (tr_formOf.walk (Hold.start (W := No) O3.s)  g6).mono ?_
 rintro _ h7 ⟨m8, cs12, Q9, rfl, he13⟩
 replace he13 : T_fo.E m y5.1 cs12 := T_fo.keep he13
 have O14 := Hold.nm (O3.retC Q9 vfs_nil)
 refine ⟨_, _, rfl, ?_⟩
 refine O14.new fun h15 x16 O17 => ?_
 refine ⟨_, rfl, (T_fo.T.len _ _ _ he13), ?_⟩
 refine O17.stA 1 rfl (T_fo.T.len _ _ _ he13) (T_fo.T.flat _ _ _ he13) fun h19 O20 => ?_
 refine split_not ?_
 refine split_any_e e (fun c50 e => ?_) (fun c50 e => ?_)
 · obtain ⟨A21, c22, q23, k24, r25⟩ := T_Expr.g5 e_0
   refine ⟨_, ldk (k := 5) (Sub.refl _) (O20.all 0 rfl) q23, _, _, _, rfl, ?_⟩
   refine ⟨_, ldk (k := 2) (Sub.refl _) (O20.all 1 rfl) (T_fo.g2 he13), _, rfl, ?_⟩
   refine split_dec_e e (fun c48 e => ?_) (fun c48 e => ?_)
   · refine ⟨_, ldk (k := 2) (Sub.refl _) (O20.all 1 rfl) (T_fo.g2 he13), _, rfl, ?_⟩
     refine split_dec_e e (fun c37 e => ?_) (fun c37 e => ?_)
     · have O26 := O20.nm
       cases e
       exact ⟨_, O26.pick [], rfl⟩
     · obtain ⟨A27, c28, q29, k30, r31⟩ := T_Expr.g6 e_0
       refine ⟨_, ldk (k := 6) (Sub.refl _) (O20.all 0 rfl) q29, _, _, _, rfl, ?_⟩
       refine split_dec_e e (fun c36 e => ?_) (fun c36 e => ?_)
       · have O32 := O20.nm
         cases e
         exact ⟨_, O32.pick [], rfl⟩
       · refine ⟨_, ldk (k := 2) (Sub.refl _) (O20.all 0 rfl) (T_Expr.g2 e_0), _, rfl, ?_⟩
         refine split_dec_e e (fun c35 e => ?_) (fun c35 e => ?_)
         · have O33 := O20.nm
           cases e
           exact ⟨_, O33.pick [], rfl⟩
         · have O34 := O20.nm
           exact (ih _ _ e) (O34.pick [0, 1]).nm e_0 he13
   · obtain ⟨A38, c39, q40, k41, r42⟩ := T_Expr.g6 e_0
     refine ⟨_, ldk (k := 6) (Sub.refl _) (O20.all 0 rfl) q40, _, _, _, rfl, ?_⟩
     refine split_dec_e e (fun c47 e => ?_) (fun c47 e => ?_)
     · have O43 := O20.nm
       cases e
       exact ⟨_, O43.pick [], rfl⟩
     · refine ⟨_, ldk (k := 2) (Sub.refl _) (O20.all 0 rfl) (T_Expr.g2 e_0), _, rfl, ?_⟩
       refine split_dec_e e (fun c46 e => ?_) (fun c46 e => ?_)
       · have O44 := O20.nm
         cases e
         exact ⟨_, O44.pick [], rfl⟩
       · have O45 := O20.nm
         exact (ih _ _ e) (O45.pick [0, 1]).nm e_0 he13
 · have O49 := O20.nm
   cases e
   exact ⟨_, O49.pick [], rfl⟩
set_option maxHeartbeats 4000000 in
theorem tr_expr_k.step_j0 (go : (p : tr_expr_k.Pt) → Option (Int)) (ih : ∀ p r, go p = some r → tr_expr_k.I p r) (b_1 y_2 y_5) (r) (e : tr_expr_k.body go (.j0 b_1 y_2 y_5) = some r) : tr_expr_k.I (.j0 b_1 y_2 y_5) r := by
 unfold tr_expr_k.body at e
 intro W h0 m0 h m bk_2 cs_2 bk_5 cs_5 O e_2 e_5
 refine f52.j0_in ?_
 unfold f52.j0T
 refine ⟨_, ldAn (Sub.refl _) (O.all 0 rfl) (T_Expr.T.len _ _ _ e_2), ?_⟩
 refine ⟨_, ld0 (Sub.refl _) (O.all 1 rfl) (T_fo.g0 e_5), _, rfl, ?_⟩
 obtain ⟨y1, g2, e⟩ := bind_e e
 refine (tr_texted.walk (Hold.start (W := No) O.s) e_2 g2).mono ?_
 rintro _ h3 ⟨m4, Q5, rfl⟩
 have O7 := Hold.nm (O.retC Q5 vfs_nil)
 refine ⟨_, rfl, ?_⟩
 refine split_not ?_
 refine split_any_e e (fun c57 e => ?_) (fun c57 e => ?_)
 · refine ⟨_, ldAn (Sub.refl _) (O7.all 0 rfl) (T_Expr.T.len _ _ _ e_2), ?_⟩
   refine ⟨_, ldAn (Sub.refl _) (O7.all 1 rfl) (T_fo.T.len _ _ _ e_5), ?_⟩
   obtain ⟨y8, g9, e⟩ := bind_e e
   refine (tr_numbered.walk (Hold.start (W := No) O7.s) e_2 e_5 g9).mono ?_
   rintro _ h10 ⟨m11, Q12, rfl⟩
   have O14 := Hold.nm (O7.retC Q12 vfs_nil)
   refine ⟨_, rfl, ?_⟩
   refine split_not ?_
   refine split_any_e e (fun c56 e => ?_) (fun c56 e => ?_)
   · obtain ⟨A15, c16, q17, k18, r19⟩ := T_Expr.g5 e_2
     refine ⟨_, ldk (k := 5) (Sub.refl _) (O14.all 0 rfl) q17, _, _, _, rfl, ?_⟩
     refine ⟨_, ldk (k := 1) (Sub.refl _) (O14.all 1 rfl) (T_fo.g1 e_5), _, rfl, ?_⟩
     refine split_dec_e e (fun c55 e => ?_) (fun c55 e => ?_)
     · cases e
       exact ⟨_, O14.pick [], rfl⟩
     · obtain ⟨A20, c21, q22, k23, r24⟩ := T_Expr.g5 e_2
       refine ⟨_, ldk (k := 5) (Sub.refl _) (O14.all 0 rfl) q22, _, _, _, rfl, ?_⟩
       refine ⟨_, ldk (k := 2) (Sub.refl _) (O14.all 1 rfl) (T_fo.g2 e_5), _, rfl, ?_⟩
       refine split_dec_e e (fun c54 e => ?_) (fun c54 e => ?_)
       · cases e
         exact ⟨_, O14.pick [], rfl⟩
       · refine ⟨_, ldk (k := 4) (Sub.refl _) (O14.all 1 rfl) (T_fo.g4 e_5), _, rfl, ?_⟩
         refine split_not ?_
         refine split_any_e e (fun c53 e => ?_) (fun c53 e => ?_)
         · refine ⟨_, ld0 (Sub.refl _) (O14.all 0 rfl) (T_Expr.g0 e_2), _, rfl, ?_⟩
           refine split_eq_e e (fun c35 e => ?_) (fun c35 e => ?_)
           · obtain ⟨A25, c26, q27, k28, r29⟩ := T_Expr.g6 e_2
             refine ⟨_, ldk (k := 6) (Sub.refl _) (O14.all 0 rfl) q27, _, _, _, rfl, ?_⟩
             refine split_dec_e e (fun c32 e => ?_) (fun c32 e => ?_)
             · cases e
               exact ⟨_, O14.pick [], rfl⟩
             · refine ⟨_, ld0 (Sub.refl _) (O14.all 0 rfl) (T_Expr.g0 e_2), _, rfl, ?_⟩
               refine split_eq_e e (fun c31 e => ?_) (fun c31 e => ?_)
               · refine split_not ?_
                 refine split_any_e e (fun c30 e => ?_) (fun c30 e => ?_)
                 · exact (ih _ _ e) (O14.pick [0]).nm e_2
                 · cases e
                   exact ⟨_, O14.pick [], rfl⟩
               · exact (ih _ _ e) (O14.pick [0]).nm e_2
           · refine ⟨_, ld0 (Sub.refl _) (O14.all 0 rfl) (T_Expr.g0 e_2), _, rfl, ?_⟩
             refine split_eq_e e (fun c34 e => ?_) (fun c34 e => ?_)
             · refine split_not ?_
               refine split_any_e e (fun c33 e => ?_) (fun c33 e => ?_)
               · exact (ih _ _ e) (O14.pick [0]).nm e_2
               · cases e
                 exact ⟨_, O14.pick [], rfl⟩
             · exact (ih _ _ e) (O14.pick [0]).nm e_2
         · obtain ⟨A36, c37, q38, k39, r40⟩ := T_Expr.g6 e_2
           refine ⟨_, ldk (k := 6) (Sub.refl _) (O14.all 0 rfl) q38, _, _, _, rfl, ?_⟩
           refine split_dec_e e (fun c52 e => ?_) (fun c52 e => ?_)
           · cases e
             exact ⟨_, O14.pick [], rfl⟩
           · refine ⟨_, ld0 (Sub.refl _) (O14.all 0 rfl) (T_Expr.g0 e_2), _, rfl, ?_⟩
             refine split_eq_e e (fun c51 e => ?_) (fun c51 e => ?_)
             · obtain ⟨A41, c42, q43, k44, r45⟩ := T_Expr.g6 e_2
               refine ⟨_, ldk (k := 6) (Sub.refl _) (O14.all 0 rfl) q43, _, _, _, rfl, ?_⟩
               refine split_dec_e e (fun c48 e => ?_) (fun c48 e => ?_)
               · cases e
                 exact ⟨_, O14.pick [], rfl⟩
               · refine ⟨_, ld0 (Sub.refl _) (O14.all 0 rfl) (T_Expr.g0 e_2), _, rfl, ?_⟩
                 refine split_eq_e e (fun c47 e => ?_) (fun c47 e => ?_)
                 · refine split_not ?_
                   refine split_any_e e (fun c46 e => ?_) (fun c46 e => ?_)
                   · exact (ih _ _ e) (O14.pick [0]).nm e_2
                   · cases e
                     exact ⟨_, O14.pick [], rfl⟩
                 · exact (ih _ _ e) (O14.pick [0]).nm e_2
             · refine ⟨_, ld0 (Sub.refl _) (O14.all 0 rfl) (T_Expr.g0 e_2), _, rfl, ?_⟩
               refine split_eq_e e (fun c50 e => ?_) (fun c50 e => ?_)
               · refine split_not ?_
                 refine split_any_e e (fun c49 e => ?_) (fun c49 e => ?_)
                 · exact (ih _ _ e) (O14.pick [0]).nm e_2
                 · cases e
                   exact ⟨_, O14.pick [], rfl⟩
               · exact (ih _ _ e) (O14.pick [0]).nm e_2
   · cases e
     exact ⟨_, O14.pick [], rfl⟩
 · cases e
   exact ⟨_, O7.pick [], rfl⟩
set_option maxHeartbeats 4000000 in
theorem tr_expr_k.step_j1 (go : (p : tr_expr_k.Pt) → Option (Int)) (ih : ∀ p r, go p = some r → tr_expr_k.I p r) (b_1 y_2) (r) (e : tr_expr_k.body go (.j1 b_1 y_2) = some r) : tr_expr_k.I (.j1 b_1 y_2) r := by
 unfold tr_expr_k.body at e
 intro W h0 m0 h m bk_2 cs_2 O e_2
 refine f52.j1_in ?_
 unfold f52.j1T
 refine ⟨_, ld0 (Sub.refl _) (O.all 0 rfl) (T_Expr.g0 e_2), _, rfl, ?_⟩
 refine split_eq_e e (fun c49 e => ?_) (fun c49 e => ?_)
 · obtain ⟨A1, c2, q3, k4, r5⟩ := T_Expr.g3 e_2
   refine ⟨_, ldk (k := 3) (Sub.refl _) (O.all 0 rfl) q3, _, _, _, rfl, ?_⟩
   obtain ⟨A6, c7, q8, k9, r10⟩ := T_Expr.g4 e_2
   refine ⟨_, ldk (k := 4) (Sub.refl _) (O.all 0 rfl) q8, _, _, _, rfl, ?_⟩
   refine split_ne_e e (fun c37 e => ?_) (fun c37 e => ?_)
   · cases e
     exact ⟨_, O.pick [], rfl⟩
   · obtain ⟨A11, c12, q13, k14, r15⟩ := T_Expr.g3 e_2
     refine ⟨_, ldk (k := 3) (Sub.refl _) (O.all 0 rfl) q13, _, _, _, rfl, ?_⟩
     obtain ⟨y16, g17, e⟩ := bind_e e
     refine (tr_lows.walk (Hold.start (W := No) O.s) rfl k14 r15 g17).mono ?_
     rintro _ h18 ⟨m19, Q20, rfl⟩
     have O22 := Hold.nm (O.retC Q20 vfs_nil)
     refine ⟨_, rfl, ?_⟩
     refine split_ne_e e (fun c36 e => ?_) (fun c36 e => ?_)
     · cases e
       exact ⟨_, O22.pick [], rfl⟩
     · obtain ⟨A23, c24, q25, k26, r27⟩ := T_Expr.g4 e_2
       refine ⟨_, ldk (k := 4) (Sub.refl _) (O22.all 0 rfl) q25, _, _, _, rfl, ?_⟩
       obtain ⟨y28, g29, e⟩ := bind_e e
       refine (tr_types.walk (Hold.start (W := No) O22.s) rfl k26 r27 g29).mono ?_
       rintro _ h30 ⟨m31, Q32, rfl⟩
       have O34 := Hold.nm (O22.retC Q32 vfs_nil)
       refine ⟨_, rfl, ?_⟩
       refine split_ne_e e (fun c35 e => ?_) (fun c35 e => ?_)
       · cases e
         exact ⟨_, O34.pick [], rfl⟩
       · exact (ih _ _ e) (O34.pick [0]).nm e_2
 · obtain ⟨A38, c39, q40, k41, r42⟩ := T_Expr.g3 e_2
   refine ⟨_, ldk (k := 3) (Sub.refl _) (O.all 0 rfl) q40, _, _, _, rfl, ?_⟩
   obtain ⟨A43, c44, q45, k46, r47⟩ := T_Expr.g4 e_2
   refine ⟨_, ldk (k := 4) (Sub.refl _) (O.all 0 rfl) q45, _, _, _, rfl, ?_⟩
   refine split_dec_e e (fun c48 e => ?_) (fun c48 e => ?_)
   · cases e
     exact ⟨_, O.pick [], rfl⟩
   · exact (ih _ _ e) (O.pick [0]).nm e_2
theorem tr_expr_k.step_j2 (go : (p : tr_expr_k.Pt) → Option (Int)) (ih : ∀ p r, go p = some r → tr_expr_k.I p r) (b_1 y_2) (r) (e : tr_expr_k.body go (.j2 b_1 y_2) = some r) : tr_expr_k.I (.j2 b_1 y_2) r := by
 unfold tr_expr_k.body at e
 intro W h0 m0 h m bk_2 cs_2 O e_2
 refine f52.j2_in ?_
 unfold f52.j2T
 obtain ⟨A1, c2, q3, k4, r5⟩ := T_Expr.g5 e_2
 refine ⟨_, ldk (k := 5) (Sub.refl _) (O.all 0 rfl) q3, _, _, _, rfl, ?_⟩
 exact (ih _ _ e) (O.pick [0]).nm e_2 rfl k4 r5
theorem tr_expr_k.step_l0 (go : (p : tr_expr_k.Pt) → Option (Int)) (ih : ∀ p r, go p = some r → tr_expr_k.I p r) (b_1 y_2 a_136 x_137 x_138) (r) (e : tr_expr_k.body go (.l0 b_1 y_2 a_136 x_137 x_138) = some r) : tr_expr_k.I (.l0 b_1 y_2 a_136 x_137 x_138) r := by
 unfold tr_expr_k.body at e
 intro W h0 m0 h m bk_2 cs_2 A_136 n_136 c_136 O e_2 ne_136 k_136 r_136
 subst ne_136
 refine f52.l0_in ?_
 unfold f52.l0T
 refine split_dec_e e (fun c34 e => ?_) (fun c34 e => ?_)
 · obtain ⟨y1, g2, e⟩ := bind_e e
   refine r_136.addr rfl g2 fun a3 cs4 ha5 hc6 he7 => ?_
   refine ⟨_, ldAn O.s hc6 rfl, ?_⟩
   refine O.new fun h8 x9 O10 => ?_
   refine ⟨_, rfl, (T_Expr.T.len _ _ _ he7), ?_⟩
   refine O10.stA 1 rfl (T_Expr.T.len _ _ _ he7) (T_Expr.T.flat _ _ _ he7) fun h12 O13 => ?_
   refine ⟨_, ldAn (Sub.refl _) (O13.all 1 rfl) (T_Expr.T.len _ _ _ he7), ?_⟩
   refine split_any_e e (fun c28 e => ?_) (fun c28 e => ?_)
   · refine ⟨_, ld0 (Sub.refl _) (O13.all 0 rfl) (T_Expr.g0 e_2), _, rfl, ?_⟩
     obtain ⟨y14, g15, e⟩ := bind_e e
     refine ((ih _ _ g15) (Hold.start (W := No) O13.s) he7).mono ?_
     rintro _ h16 ⟨m17, Q18, rfl⟩
     have O20 := Hold.nm (O13.retC Q18 vfs_nil)
     refine ⟨_, rfl, ?_⟩
     exact (ih _ _ e) (O20.pick [0]).nm e_2 rfl k_136 r_136
   · obtain ⟨y21, g22, e⟩ := bind_e e
     refine ((ih _ _ g22) (Hold.start (W := No) O13.s) he7).mono ?_
     rintro _ h23 ⟨m24, Q25, rfl⟩
     have O27 := Hold.nm (O13.retC Q25 vfs_nil)
     refine ⟨_, rfl, ?_⟩
     exact (ih _ _ e) (O27.pick [0]).nm e_2 rfl k_136 r_136
 · obtain ⟨A29, c30, q31, k32, r33⟩ := T_Expr.g6 e_2
   refine ⟨_, ldk (k := 6) (Sub.refl _) (O.all 0 rfl) q31, _, _, _, rfl, ?_⟩
   exact (ih _ _ e) (O.pick []).nm rfl k32 r33
theorem tr_expr_k.step_j3 (go : (p : tr_expr_k.Pt) → Option (Int)) (ih : ∀ p r, go p = some r → tr_expr_k.I p r) (b_1 y_2 x_11 a_136 x_137 x_138) (r) (e : tr_expr_k.body go (.j3 b_1 y_2 x_11 a_136 x_137 x_138) = some r) : tr_expr_k.I (.j3 b_1 y_2 x_11 a_136 x_137 x_138) r := by
 unfold tr_expr_k.body at e
 intro W h0 m0 h m bk_2 cs_2 A_136 n_136 c_136 O e_2 ne_136 k_136 r_136
 subst ne_136
 refine f52.j3_in ?_
 unfold f52.j3T
 refine split_ne_e e (fun c1 e => ?_) (fun c1 e => ?_)
 · cases e
   exact ⟨_, O.pick [], rfl⟩
 · exact (ih _ _ e) (O.pick [0]).nm e_2 rfl k_136 r_136
theorem tr_expr_k.step_l1 (go : (p : tr_expr_k.Pt) → Option (Int)) (ih : ∀ p r, go p = some r → tr_expr_k.I p r) (b_1 a_155 x_156 x_157) (r) (e : tr_expr_k.body go (.l1 b_1 a_155 x_156 x_157) = some r) : tr_expr_k.I (.l1 b_1 a_155 x_156 x_157) r := by
 unfold tr_expr_k.body at e
 intro W h0 m0 h m A_155 n_155 c_155 O ne_155 k_155 r_155
 subst ne_155
 refine f52.l1_in ?_
 unfold f52.l1T
 refine split_dec_e e (fun c30 e => ?_) (fun c30 e => ?_)
 · obtain ⟨y1, g2, e⟩ := bind_e e
   refine r_155.addr rfl g2 fun a3 cs4 ha5 hc6 he7 => ?_
   refine ⟨_, ldAn O.s hc6 rfl, ?_⟩
   refine O.new fun h8 x9 O10 => ?_
   refine ⟨_, rfl, (T_Arm.T.len _ _ _ he7), ?_⟩
   refine O10.stA 0 rfl (T_Arm.T.len _ _ _ he7) (T_Arm.T.flat _ _ _ he7) fun h12 O13 => ?_
   refine ⟨_, ldA0n (Sub.refl _) (O13.all 0 rfl) 4 (le_len (T_Arm.T.len _ _ _ he7) (by decide)), ?_⟩
   obtain ⟨y14, g15, e⟩ := bind_e e
   refine (tr_pat.walk (Hold.start (W := No) O13.s) (T_Arm.u0_95 he7) g15).mono ?_
   rintro _ h16 ⟨m17, Q18, rfl⟩
   have O20 := Hold.nm (O13.retC Q18 vfs_nil)
   refine ⟨_, rfl, ?_⟩
   refine split_ne_e e (fun c29 e => ?_) (fun c29 e => ?_)
   · cases e
     exact ⟨_, O20.pick [], rfl⟩
   · refine ⟨_, ldAkn (Sub.refl _) (O20.all 0 rfl) 4 8 (le_len (T_Arm.T.len _ _ _ he7) (by decide)), ?_⟩
     obtain ⟨y21, g22, e⟩ := bind_e e
     refine ((ih _ _ g22) (Hold.start (W := No) O20.s) (T_Arm.u4_48 he7)).mono ?_
     rintro _ h23 ⟨m24, Q25, rfl⟩
     have O27 := Hold.nm (O20.retC Q25 vfs_nil)
     refine ⟨_, rfl, ?_⟩
     refine split_ne_e e (fun c28 e => ?_) (fun c28 e => ?_)
     · cases e
       exact ⟨_, O27.pick [], rfl⟩
     · exact (ih _ _ e) (O27.pick []).nm rfl k_155 r_155
 · cases e
   exact ⟨_, O.pick [], rfl⟩
theorem tr_expr_k.all {p : tr_expr_k.Pt} {r : (Int)} (e : tr_expr_k.go p = some r) : tr_expr_k.I p r := fixF_ind (β := fun _ => (Int)) tr_expr_k.mono (I := tr_expr_k.I) (fun go ih p r e => match p with
 | .f y_0 b_1 => tr_expr_k.step_f go ih y_0 b_1 r e
 | .j0 b_1 y_2 y_5 => tr_expr_k.step_j0 go ih b_1 y_2 y_5 r e
 | .j1 b_1 y_2 => tr_expr_k.step_j1 go ih b_1 y_2 r e
 | .j2 b_1 y_2 => tr_expr_k.step_j2 go ih b_1 y_2 r e
 | .l0 b_1 y_2 a_136 x_137 x_138 => tr_expr_k.step_l0 go ih b_1 y_2 a_136 x_137 x_138 r e
 | .j3 b_1 y_2 x_11 a_136 x_137 x_138 => tr_expr_k.step_j3 go ih b_1 y_2 x_11 a_136 x_137 x_138 r e
 | .l1 b_1 a_155 x_156 x_157 => tr_expr_k.step_l1 go ih b_1 a_155 x_156 x_157 r e
 ) e
theorem tr_expr.walk {W h m cs_0 y_0 b_1} (O : Hold W h m h m []) (e_0 : T_Expr.E m y_0 cs_0) {r} (e : tr_expr y_0 b_1 = some r) : Run Tryz.prog 52 #[Value.agg cs_0.toArray, Value.bool b_1] h (tr_expr.post W h m r) := tr_expr_k.all (p := .f y_0 b_1) e O e_0
def tr_whole.post (W : Nat → Prop) (h0 m0 : Heap) (r : Int) (v : Value) (h : Heap) : Prop := ∃ m , Hold W h0 m0 h m [] ∧ v = .int .i64 r
noncomputable def tr_whole.j0 (b_1 : Bool) (y_2 : T_Expr) : Option (Int) :=
 Option.bind (tr_expr y_2 b_1) fun y1 => some (y1)
theorem tr_whole.j0.walk {W h0 m0 h m bk_2 cs_2 b_1 y_2} (O : Hold W h0 m0 h m [rV bk_2 48 cs_2]) (e_2 : T_Expr.E m y_2 cs_2) {r} (e : tr_whole.j0 b_1 y_2 = some r) : f30.j0 (tr_whole.post W h0 m0 r) b_1 (⟨bk_2, 0, none⟩ : Addr) h := by
 unfold tr_whole.j0 at e
 refine f30.j0_in ?_
 unfold f30.j0T
 refine ⟨_, ldAn (Sub.refl _) (O.all 0 rfl) (T_Expr.T.len _ _ _ e_2), ?_⟩
 obtain ⟨y1, g2, e⟩ := bind_e e
 refine (tr_expr.walk (Hold.start (W := No) O.s) e_2 g2).mono ?_
 rintro _ h3 ⟨m4, Q5, rfl⟩
 have O7 := Hold.nm (O.retC Q5 vfs_nil)
 refine ⟨_, rfl, ?_⟩
 cases e
 exact ⟨_, O7.pick [], rfl⟩
noncomputable def tr_whole (y_0 : T_Expr) (b_1 : Bool) : Option (Int) :=
 Option.bind (tr_Size y_0) fun y5 => if y5 > (400 : Int) then (some ((2 : Int))) else (Option.bind (tr_Deep y_0) fun y12 => if y12 > (40 : Int) then (some ((2 : Int))) else ((tr_whole.j0 b_1 y_0)))
theorem tr_whole.walk {W h m cs_0 y_0 b_1} (O : Hold W h m h m []) (e_0 : T_Expr.E m y_0 cs_0) {r} (e : tr_whole y_0 b_1 = some r) : Run Tryz.prog 30 #[Value.agg cs_0.toArray, Value.bool b_1] h (tr_whole.post W h m r) := by
 unfold tr_whole at e
 refine f30.run ?_
 unfold f30.runT
 refine O.new fun h1 x2 O3 => ?_
 refine ⟨_, ldAn (Sub.refl _) (O3.all 0 rfl) (T_Expr.T.len _ _ _ e_0), ?_⟩
 obtain ⟨y5, g6, e⟩ := bind_e e
 refine (tr_Size.walk (Hold.start (W := No) O3.s) e_0 g6).mono ?_
 rintro _ h7 ⟨m8, Q9, rfl⟩
 have O11 := Hold.nm (O3.retC Q9 vfs_nil)
 refine ⟨_, rfl, ?_⟩
 refine split_dec_e e (fun c20 e => ?_) (fun c20 e => ?_)
 · cases e
   exact ⟨_, O11.pick [], rfl⟩
 · refine ⟨_, ldAn (Sub.refl _) (O11.all 0 rfl) (T_Expr.T.len _ _ _ e_0), ?_⟩
   obtain ⟨y12, g13, e⟩ := bind_e e
   refine (tr_Deep.walk (Hold.start (W := No) O11.s) e_0 g13).mono ?_
   rintro _ h14 ⟨m15, Q16, rfl⟩
   have O18 := Hold.nm (O11.retC Q16 vfs_nil)
   refine ⟨_, rfl, ?_⟩
   refine split_dec_e e (fun c19 e => ?_) (fun c19 e => ?_)
   · cases e
     exact ⟨_, O18.pick [], rfl⟩
   · exact tr_whole.j0.walk (O18.pick [0]).nm e_0 e
def tr_fun.post (W : Nat → Prop) (h0 m0 : Heap) (r : Int) (v : Value) (h : Heap) : Prop := ∃ m , Hold W h0 m0 h m [] ∧ v = .int .i64 r
noncomputable def tr_fun.j1 (b_1 : Bool) (y_2 : T_Func) : Option (Int) :=
 if b_1 = true then (Option.bind (tr_whole y_2.Body false) fun y1 => some (y1)) else (Option.bind (tr_SameExpr y_2.Body (T_Expr.mk (0 : Int) (0 : Int) (ByteArray.mk #[]) ([] : List ByteArray) ([] : List T_Type) ([] : List T_Expr) ([] : List T_Arm) (0 : Int))) fun y8 => if y8 = true then (some ((0 : Int))) else (some ((3 : Int))))
theorem tr_fun.j1.walk {W h0 m0 h m bk_2 cs_2 b_1 y_2} (O : Hold W h0 m0 h m [rV bk_2 50 cs_2]) (e_2 : T_Func.E m y_2 cs_2) {r} (e : tr_fun.j1 b_1 y_2 = some r) : f9.j1 (tr_fun.post W h0 m0 r) b_1 (⟨bk_2, 0, none⟩ : Addr) h := by
 unfold tr_fun.j1 at e
 refine f9.j1_in ?_
 unfold f9.j1T
 refine split_not ?_
 refine split_any_e e (fun c16 e => ?_) (fun c16 e => ?_)
 · refine ⟨_, ldAkn (Sub.refl _) (O.all 0 rfl) 7 8 (le_len (T_Func.T.len _ _ _ e_2) (by decide)), ?_⟩
   obtain ⟨y1, g2, e⟩ := bind_e e
   refine (tr_whole.walk (Hold.start (W := No) O.s) (T_Func.u7_48 e_2) g2).mono ?_
   rintro _ h3 ⟨m4, Q5, rfl⟩
   have O7 := Hold.nm (O.retC Q5 vfs_nil)
   refine ⟨_, rfl, ?_⟩
   cases e
   exact ⟨_, O7.pick [], rfl⟩
 · refine ⟨_, ldAkn (Sub.refl _) (O.all 0 rfl) 7 8 (le_len (T_Func.T.len _ _ _ e_2) (by decide)), ?_⟩
   obtain ⟨y8, g9, e⟩ := bind_e e
   refine (tr_SameExpr.walk (Hold.start (W := No) O.s) (T_Func.u7_48 e_2) (T_Expr.iff.2 ⟨_, _, _, _, _, _, _, _, rfl, (by exact Nat.le_refl 0), Rd.nil, (by exact Nat.le_refl 0), Rd.nil, (by exact Nat.le_refl 0), Rd.nil, (by exact Nat.le_refl 0), Rd.nil⟩) g9).mono ?_
   rintro _ h10 ⟨m11, Q12, rfl⟩
   have O14 := Hold.nm (O.retC Q12 vfs_nil)
   refine ⟨_, rfl, ?_⟩
   refine split_not ?_
   refine split_any_e e (fun c15 e => ?_) (fun c15 e => ?_)
   · cases e
     exact ⟨_, O14.pick [], rfl⟩
   · cases e
     exact ⟨_, O14.pick [], rfl⟩
noncomputable def tr_fun.j2 (b_1 : Bool) (y_2 : T_Func) (x_8 : Int) : Option (Int) :=
 if x_8 = (0 : Int) then ((tr_fun.j1 b_1 y_2)) else (some (x_8))
theorem tr_fun.j2.walk {W h0 m0 h m bk_2 cs_2 b_1 y_2 x_8} (O : Hold W h0 m0 h m [rV bk_2 50 cs_2]) (e_2 : T_Func.E m y_2 cs_2) {r} (e : tr_fun.j2 b_1 y_2 x_8 = some r) : f9.j2 (tr_fun.post W h0 m0 r) b_1 (⟨bk_2, 0, none⟩ : Addr) x_8 h := by
 unfold tr_fun.j2 at e
 refine f9.j2_in ?_
 unfold f9.j2T
 refine split_ne_e e (fun c1 e => ?_) (fun c1 e => ?_)
 · cases e
   exact ⟨_, O.pick [], rfl⟩
 · exact tr_fun.j1.walk (O.pick [0]).nm e_2 e
inductive tr_fun.l0_k.Pt where
 | l0 (b_1 : Bool) (y_2 : T_Func) (a_26 : List (List ByteArray)) (x_27 : Int) (x_28 : Int)
noncomputable def tr_fun.l0_k.body (go : (p : tr_fun.l0_k.Pt) → Option (Int)) : (p : tr_fun.l0_k.Pt) → Option (Int)
 | .l0 b_1 y_2 a_26 x_27 x_28 => if x_28 < x_27 then (Option.bind (gi a_26 x_28) fun y1 => Option.bind (tr_lows y1) fun y8 => if y8 = (0 : Int) then ((go (.l0 b_1 y_2 a_26 x_27 (IntKind.wrap .i64 (x_28 + (1 : Int)))))) else (some (y8))) else (Option.bind (ap 48 ([] : List T_Type) y_2.Types) fun l26 => Option.bind (ap 48 l26 ([y_2.Out] : List T_Type)) fun l39 => Option.bind (tr_types l39 (40 : Int)) fun y49 => (tr_fun.j2 b_1 y_2 y49))
theorem tr_fun.l0_k.mono : MonoF (β := fun _ => (Int)) tr_fun.l0_k.body := fun f g hfg p => match p with
 | .l0 b_1 y_2 a_26 x_27 x_28 => LeO.ite (LeO.bind (LeO.refl _) fun y1 => LeO.bind (LeO.refl _) fun y8 => LeO.ite ((hfg _)) (LeO.refl _)) (LeO.bind (LeO.refl _) fun l26 => LeO.bind (LeO.refl _) fun l39 => LeO.bind (LeO.refl _) fun y49 => (LeO.refl _))
noncomputable def tr_fun.l0_k.go (p : tr_fun.l0_k.Pt) : Option (Int) := fixF (β := fun _ => (Int)) tr_fun.l0_k.body p
noncomputable def tr_fun.l0 (b_1 y_2 a_26 x_27 x_28) := tr_fun.l0_k.go (.l0 b_1 y_2 a_26 x_27 x_28)
theorem tr_fun.l0_eq (b_1 y_2 a_26 x_27 x_28) : tr_fun.l0 b_1 y_2 a_26 x_27 x_28 = if x_28 < x_27 then (Option.bind (gi a_26 x_28) fun y1 => Option.bind (tr_lows y1) fun y8 => if y8 = (0 : Int) then ((tr_fun.l0 b_1 y_2 a_26 x_27 (IntKind.wrap .i64 (x_28 + (1 : Int))))) else (some (y8))) else (Option.bind (ap 48 ([] : List T_Type) y_2.Types) fun l26 => Option.bind (ap 48 l26 ([y_2.Out] : List T_Type)) fun l39 => Option.bind (tr_types l39 (40 : Int)) fun y49 => (tr_fun.j2 b_1 y_2 y49)) := fixF_eq tr_fun.l0_k.mono _
def tr_fun.l0_k.I : (p : tr_fun.l0_k.Pt) → (Int) → Prop
 | .l0 b_1 y_2 a_26 x_27 x_28, r => ∀ {W h0 m0 h m bk_2 cs_2 A_26 n_26 c_26} (O : Hold W h0 m0 h m [rV bk_2 50 cs_2, rR (aE (tell_row tell_str)) A_26 c_26 a_26]) (e_2 : T_Func.E m y_2 cs_2) (ne_26 : n_26 = List.length a_26), f9.l0 (tr_fun.post W h0 m0 r) b_1 (⟨bk_2, 0, none⟩ : Addr) A_26 n_26 c_26 x_27 x_28 h
set_option maxHeartbeats 4000000 in
theorem tr_fun.l0_k.step_l0 (go : (p : tr_fun.l0_k.Pt) → Option (Int)) (ih : ∀ p r, go p = some r → tr_fun.l0_k.I p r) (b_1 y_2 a_26 x_27 x_28) (r) (e : tr_fun.l0_k.body go (.l0 b_1 y_2 a_26 x_27 x_28) = some r) : tr_fun.l0_k.I (.l0 b_1 y_2 a_26 x_27 x_28) r := by
 unfold tr_fun.l0_k.body at e
 intro W h0 m0 h m bk_2 cs_2 A_26 n_26 c_26 O e_2 ne_26
 subst ne_26
 refine f9.l0_in ?_
 unfold f9.l0T
 refine split_dec_e e (fun c185 e => ?_) (fun c185 e => ?_)
 · obtain ⟨y1, g2, e⟩ := bind_e e
   refine (O.os 1 rfl).addr rfl g2 fun a3 cs4 ha5 hc6 he7 => ?_
   obtain ⟨Acs4_0, ccs4_0, rfl, kcs4_0, rcs4_0⟩ := id he7
   refine ⟨_, ld0 (Sub.refl _) hc6 rfl, _, _, _, rfl, ?_⟩
   obtain ⟨y8, g9, e⟩ := bind_e e
   refine (tr_lows.walk (Hold.start (W := No) O.s) rfl kcs4_0 rcs4_0 g9).mono ?_
   rintro _ h10 ⟨m11, Q12, rfl⟩
   have O14 := Hold.nm (O.retC Q12 vfs_nil)
   refine ⟨_, rfl, ?_⟩
   refine split_ne_e e (fun c15 e => ?_) (fun c15 e => ?_)
   · cases e
     exact ⟨_, O14.pick [], rfl⟩
   · exact (ih _ _ e) (O14.pick [0, 1]).nm e_2 rfl
 · obtain ⟨A16, c17, q18, k19, r20⟩ := T_Func.g3 e_2
   refine ⟨_, ldk (k := 3) (Sub.refl _) (O.all 0 rfl) q18, _, _, _, rfl, ?_⟩
   refine ⟨_, ldAkn (Sub.refl _) (O.all 0 rfl) 4 3 (le_len (T_Func.T.len _ _ _ e_2) (by decide)), ?_⟩
   obtain ⟨l26, g27, e⟩ := bind_e e
   obtain ⟨l39, g40, e⟩ := bind_e e
   obtain ⟨y49, g50, e⟩ := bind_e e
   refine ⟨?_, ?_⟩
   · refine O.new fun h63 x64 O65 => ?_
     refine ⟨ldk (k := 3) (Sub.refl _) (O65.all 0 rfl) q18, ?_⟩
     refine ⟨ldAkn (Sub.refl _) (O65.all 0 rfl) 4 3 (le_len (T_Func.T.len _ _ _ e_2) (by decide)), ?_⟩
     refine ⟨?_, ?_⟩
     · have O67 := O65.rowE (l := ([] : List T_Type)) 2 rfl T_Type.T (show CsE _ _ _ _ _ from CsE.nil) rfl
       refine O67.app 2 rfl rfl rfl (Rd.srcE r20 T_Type.T O67.s rfl) (by decide) g27 fun A70 c71 h72 O73 => ?_
       refine ⟨_, _, _, rfl, ?_⟩
       refine ⟨ldAkn (Sub.refl _) (O73.all 0 rfl) 4 3 (le_len (T_Func.T.len _ _ _ e_2) (by decide)), ?_⟩
       refine ⟨(List.take 3 (List.drop 4 cs_2)), rfl, (T_Type.T.len _ _ _ (T_Func.u4_44 e_2)), ?_⟩
       refine O73.new fun h76 x77 O78 => ?_
       have O80 := O78.recell 3 rfl (cs' := (List.take 3 (List.drop 4 cs_2)) ++ []) rfl
       refine ⟨ldk (k := 3) (Sub.refl _) (O80.all 0 rfl) q18, ?_⟩
       have O89 := O80.rowE (l := ([y_2.Out] : List T_Type)) 3 rfl T_Type.T (show CsE _ _ _ _ _ from (CsE.cons (T_Func.u4_44 e_2) (T_Type.T.len _ _ _ (T_Func.u4_44 e_2)) CsE.nil)) rfl
       refine O89.app 2 rfl rfl rfl ((O89.os 3 rfl).srcE rfl) (by decide) g40 fun A83 c84 h85 O86 => ?_
       refine ⟨_, _, _, rfl, ?_⟩
       have O90 := O86.nm
       obtain ⟨m97, u98, s103, ⟨⟨r101, k102⟩, _⟩, B99, C100⟩ := O90.lend0 [2]
       replace r101 : Rd 3 T_Type.E m97 A83 l39 := r101
       replace k102 : List.length l39 ≤ c84 := k102
       refine (tr_types.walk (Hold.start (W := No) s103) rfl k102 r101 g50).mono ?_
       rintro _ h93 ⟨m94, Q95, rfl⟩
       have O104 := Hold.nm (C100 Q95 vfs_nil)
       refine ⟨_, rfl, ?_⟩
       exact tr_fun.j2.walk (O104.pick [0]).nm e_2 e
     · refine ⟨(List.take 3 (List.drop 4 cs_2)), rfl, (T_Type.T.len _ _ _ (T_Func.u4_44 e_2)), ?_⟩
       refine O65.new fun h105 x106 O107 => ?_
       have O109 := O107.recell 3 rfl (cs' := (List.take 3 (List.drop 4 cs_2)) ++ []) rfl
       refine ⟨ldk (k := 3) (Sub.refl _) (O109.all 0 rfl) q18, ?_⟩
       have O110 := O109.rowE (l := ([] : List T_Type)) 2 rfl T_Type.T (show CsE _ _ _ _ _ from CsE.nil) rfl
       refine O110.app 2 rfl rfl rfl (Rd.srcE r20 T_Type.T O110.s rfl) (by decide) g27 fun A113 c114 h115 O116 => ?_
       refine ⟨_, _, _, rfl, ?_⟩
       refine ⟨ldAkn (Sub.refl _) (O116.all 0 rfl) 4 3 (le_len (T_Func.T.len _ _ _ e_2) (by decide)), ?_⟩
       have O127 := O116.rowE (l := ([y_2.Out] : List T_Type)) 3 rfl T_Type.T (show CsE _ _ _ _ _ from (CsE.cons (T_Func.u4_44 e_2) (T_Type.T.len _ _ _ (T_Func.u4_44 e_2)) CsE.nil)) rfl
       refine O127.app 2 rfl rfl rfl ((O127.os 3 rfl).srcE rfl) (by decide) g40 fun A121 c122 h123 O124 => ?_
       refine ⟨_, _, _, rfl, ?_⟩
       have O128 := O124.nm
       obtain ⟨m135, u136, s141, ⟨⟨r139, k140⟩, _⟩, B137, C138⟩ := O128.lend0 [2]
       replace r139 : Rd 3 T_Type.E m135 A121 l39 := r139
       replace k140 : List.length l39 ≤ c122 := k140
       refine (tr_types.walk (Hold.start (W := No) s141) rfl k140 r139 g50).mono ?_
       rintro _ h131 ⟨m132, Q133, rfl⟩
       have O142 := Hold.nm (C138 Q133 vfs_nil)
       refine ⟨_, rfl, ?_⟩
       exact tr_fun.j2.walk (O142.pick [0]).nm e_2 e
   · refine ⟨(List.take 3 (List.drop 4 cs_2)), rfl, (T_Type.T.len _ _ _ (T_Func.u4_44 e_2)), ?_⟩
     refine O.new fun h143 x144 O145 => ?_
     have O147 := O145.recell 2 rfl (cs' := (List.take 3 (List.drop 4 cs_2)) ++ []) rfl
     refine ⟨ldk (k := 3) (Sub.refl _) (O147.all 0 rfl) q18, ?_⟩
     refine O147.new fun h148 x149 O150 => ?_
     refine ⟨ldk (k := 3) (Sub.refl _) (O150.all 0 rfl) q18, ?_⟩
     refine ⟨ldAkn (Sub.refl _) (O150.all 0 rfl) 4 3 (le_len (T_Func.T.len _ _ _ e_2) (by decide)), ?_⟩
     have O152 := O150.rowE (l := ([] : List T_Type)) 3 rfl T_Type.T (show CsE _ _ _ _ _ from CsE.nil) rfl
     refine O152.app 3 rfl rfl rfl (Rd.srcE r20 T_Type.T O152.s rfl) (by decide) g27 fun A155 c156 h157 O158 => ?_
     refine ⟨_, _, _, rfl, ?_⟩
     refine ⟨ldAkn (Sub.refl _) (O158.all 0 rfl) 4 3 (le_len (T_Func.T.len _ _ _ e_2) (by decide)), ?_⟩
     have O169 := O158.rowE (l := ([y_2.Out] : List T_Type)) 2 rfl T_Type.T (show CsE _ _ _ _ _ from (CsE.cons (T_Func.u4_44 e_2) (T_Type.T.len _ _ _ (T_Func.u4_44 e_2)) CsE.nil)) rfl
     refine O169.app 3 rfl rfl rfl ((O169.os 2 rfl).srcE rfl) (by decide) g40 fun A163 c164 h165 O166 => ?_
     refine ⟨_, _, _, rfl, ?_⟩
     have O170 := O166.nm
     obtain ⟨m177, u178, s183, ⟨⟨r181, k182⟩, _⟩, B179, C180⟩ := O170.lend0 [3]
     replace r181 : Rd 3 T_Type.E m177 A163 l39 := r181
     replace k182 : List.length l39 ≤ c164 := k182
     refine (tr_types.walk (Hold.start (W := No) s183) rfl k182 r181 g50).mono ?_
     rintro _ h173 ⟨m174, Q175, rfl⟩
     have O184 := Hold.nm (C180 Q175 vfs_nil)
     refine ⟨_, rfl, ?_⟩
     exact tr_fun.j2.walk (O184.pick [0]).nm e_2 e
theorem tr_fun.l0_k.all {p : tr_fun.l0_k.Pt} {r : (Int)} (e : tr_fun.l0_k.go p = some r) : tr_fun.l0_k.I p r := fixF_ind (β := fun _ => (Int)) tr_fun.l0_k.mono (I := tr_fun.l0_k.I) (fun go ih p r e => match p with
 | .l0 b_1 y_2 a_26 x_27 x_28 => tr_fun.l0_k.step_l0 go ih b_1 y_2 a_26 x_27 x_28 r e
 ) e
noncomputable def tr_fun.j0 (b_1 : Bool) (y_2 : T_Func) : Option (Int) :=
 (tr_fun.l0 b_1 y_2 ([y_2.Params, y_2.Names] : List (List ByteArray)) ((2 : Nat) : Int) (0 : Int))
theorem tr_fun.j0.walk {W h0 m0 h m bk_2 cs_2 b_1 y_2} (O : Hold W h0 m0 h m [rV bk_2 50 cs_2]) (e_2 : T_Func.E m y_2 cs_2) {r} (e : tr_fun.j0 b_1 y_2 = some r) : f9.j0 (tr_fun.post W h0 m0 r) b_1 (⟨bk_2, 0, none⟩ : Addr) h := by
 unfold tr_fun.j0 at e
 refine f9.j0_in ?_
 unfold f9.j0T
 obtain ⟨A1, c2, q3, k4, r5⟩ := T_Func.g1 e_2
 refine ⟨_, ldk (k := 1) (Sub.refl _) (O.all 0 rfl) q3, _, _, _, rfl, ?_⟩
 obtain ⟨A6, c7, q8, k9, r10⟩ := T_Func.g2 e_2
 refine ⟨_, ldk (k := 2) (Sub.refl _) (O.all 0 rfl) q8, _, _, _, rfl, ?_⟩
 refine O.new fun h11 x12 O13 => ?_
 have O15 := O13.rowE (l := ([y_2.Params, y_2.Names] : List (List ByteArray))) 1 rfl (tell_row tell_str) (show CsE _ _ _ _ _ from (CsE.cons (c1 := [(Value.slice A1 (List.length y_2.Params) c2)]) ⟨_, _, rfl, k4, r5⟩ rfl (CsE.cons (c1 := [(Value.slice A6 (List.length y_2.Names) c7)]) ⟨_, _, rfl, k9, r10⟩ rfl CsE.nil))) rfl
 have O16 := O15.nm
 exact (tr_fun.l0_k.all e) (O16.pick [0, 1]).nm e_2 rfl
noncomputable def tr_fun (y_0 : T_Func) (b_1 : Bool) : Option (Int) :=
 Option.bind (tk_IsLow y_0.Name) fun y5 => if y5 = true then (if (((List.length y_0.Names) : Nat) : Int) = (((List.length y_0.Types) : Nat) : Int) then ((tr_fun.j0 b_1 y_0)) else (some ((3 : Int)))) else (some ((3 : Int)))
theorem tr_fun.walk {W h m cs_0 y_0 b_1} (O : Hold W h m h m []) (e_0 : T_Func.E m y_0 cs_0) {r} (e : tr_fun y_0 b_1 = some r) : Run Tryz.prog 9 #[Value.agg cs_0.toArray, Value.bool b_1] h (tr_fun.post W h m r) := by
 unfold tr_fun at e
 refine f9.run ?_
 unfold f9.runT
 refine O.new fun h1 x2 O3 => ?_
 refine ⟨_, ld0 (Sub.refl _) (O3.all 0 rfl) (T_Func.g0 e_0), _, rfl, ?_⟩
 obtain ⟨y5, g6, e⟩ := bind_e e
 refine (tk_IsLow.walk (Hold.start (W := No) O3.s)  g6).mono ?_
 rintro _ h7 ⟨m8, Q9, rfl⟩
 have O11 := Hold.nm (O3.retC Q9 vfs_nil)
 refine ⟨_, rfl, ?_⟩
 refine split_not ?_
 refine split_any_e e (fun c23 e => ?_) (fun c23 e => ?_)
 · obtain ⟨A12, c13, q14, k15, r16⟩ := T_Func.g2 e_0
   refine ⟨_, ldk (k := 2) (Sub.refl _) (O11.all 0 rfl) q14, _, _, _, rfl, ?_⟩
   obtain ⟨A17, c18, q19, k20, r21⟩ := T_Func.g3 e_0
   refine ⟨_, ldk (k := 3) (Sub.refl _) (O11.all 0 rfl) q19, _, _, _, rfl, ?_⟩
   refine split_ne_e e (fun c22 e => ?_) (fun c22 e => ?_)
   · cases e
     exact ⟨_, O11.pick [], rfl⟩
   · exact tr_fun.j0.walk (O11.pick [0]).nm e_0 e
 · cases e
   exact ⟨_, O11.pick [], rfl⟩
def tr_funs.post (W : Nat → Prop) (h0 m0 : Heap) (r : Int) (v : Value) (h : Heap) : Prop := ∃ m , Hold W h0 m0 h m [] ∧ v = .int .i64 r
inductive tr_funs.l0_k.Pt where
 | l0 (b_1 : Bool) (a_11 : List T_Func) (x_12 : Int) (x_13 : Int)
noncomputable def tr_funs.l0_k.body (go : (p : tr_funs.l0_k.Pt) → Option (Int)) : (p : tr_funs.l0_k.Pt) → Option (Int)
 | .l0 b_1 a_11 x_12 x_13 => if x_13 < x_12 then (Option.bind (gi a_11 x_13) fun y1 => Option.bind (tr_fun y1 b_1) fun y14 => if y14 = (0 : Int) then ((go (.l0 b_1 a_11 x_12 (IntKind.wrap .i64 (x_13 + (1 : Int)))))) else (some (y14))) else (some ((0 : Int)))
theorem tr_funs.l0_k.mono : MonoF (β := fun _ => (Int)) tr_funs.l0_k.body := fun f g hfg p => match p with
 | .l0 b_1 a_11 x_12 x_13 => LeO.ite (LeO.bind (LeO.refl _) fun y1 => LeO.bind (LeO.refl _) fun y14 => LeO.ite ((hfg _)) (LeO.refl _)) (LeO.refl _)
noncomputable def tr_funs.l0_k.go (p : tr_funs.l0_k.Pt) : Option (Int) := fixF (β := fun _ => (Int)) tr_funs.l0_k.body p
noncomputable def tr_funs.l0 (b_1 a_11 x_12 x_13) := tr_funs.l0_k.go (.l0 b_1 a_11 x_12 x_13)
theorem tr_funs.l0_eq (b_1 a_11 x_12 x_13) : tr_funs.l0 b_1 a_11 x_12 x_13 = if x_13 < x_12 then (Option.bind (gi a_11 x_13) fun y1 => Option.bind (tr_fun y1 b_1) fun y14 => if y14 = (0 : Int) then ((tr_funs.l0 b_1 a_11 x_12 (IntKind.wrap .i64 (x_13 + (1 : Int))))) else (some (y14))) else (some ((0 : Int))) := fixF_eq tr_funs.l0_k.mono _
def tr_funs.l0_k.I : (p : tr_funs.l0_k.Pt) → (Int) → Prop
 | .l0 b_1 a_11 x_12 x_13, r => ∀ {W h0 m0 h m A_11 n_11 c_11} (O : Hold W h0 m0 h m []) (ne_11 : n_11 = List.length a_11) (k_11 : List.length a_11 ≤ c_11) (r_11 : Rd 15 T_Func.E m A_11 a_11), f28.l0 (tr_funs.post W h0 m0 r) b_1 A_11 n_11 c_11 x_12 x_13 h
theorem tr_funs.l0_k.step_l0 (go : (p : tr_funs.l0_k.Pt) → Option (Int)) (ih : ∀ p r, go p = some r → tr_funs.l0_k.I p r) (b_1 a_11 x_12 x_13) (r) (e : tr_funs.l0_k.body go (.l0 b_1 a_11 x_12 x_13) = some r) : tr_funs.l0_k.I (.l0 b_1 a_11 x_12 x_13) r := by
 unfold tr_funs.l0_k.body at e
 intro W h0 m0 h m A_11 n_11 c_11 O ne_11 k_11 r_11
 subst ne_11
 refine f28.l0_in ?_
 unfold f28.l0T
 refine split_dec_e e (fun c22 e => ?_) (fun c22 e => ?_)
 · obtain ⟨y1, g2, e⟩ := bind_e e
   refine r_11.addr rfl g2 fun a3 cs4 ha5 hc6 he7 => ?_
   refine ⟨_, ldAn O.s hc6 rfl, ?_⟩
   refine O.new fun h8 x9 O10 => ?_
   refine ⟨_, rfl, (T_Func.T.len _ _ _ he7), ?_⟩
   refine O10.stA 0 rfl (T_Func.T.len _ _ _ he7) (T_Func.T.flat _ _ _ he7) fun h12 O13 => ?_
   refine ⟨_, ldAn (Sub.refl _) (O13.all 0 rfl) (T_Func.T.len _ _ _ he7), ?_⟩
   obtain ⟨y14, g15, e⟩ := bind_e e
   refine (tr_fun.walk (Hold.start (W := No) O13.s) he7 g15).mono ?_
   rintro _ h16 ⟨m17, Q18, rfl⟩
   have O20 := Hold.nm (O13.retC Q18 vfs_nil)
   refine ⟨_, rfl, ?_⟩
   refine split_ne_e e (fun c21 e => ?_) (fun c21 e => ?_)
   · cases e
     exact ⟨_, O20.pick [], rfl⟩
   · exact (ih _ _ e) (O20.pick []).nm rfl k_11 r_11
 · cases e
   exact ⟨_, O.pick [], rfl⟩
theorem tr_funs.l0_k.all {p : tr_funs.l0_k.Pt} {r : (Int)} (e : tr_funs.l0_k.go p = some r) : tr_funs.l0_k.I p r := fixF_ind (β := fun _ => (Int)) tr_funs.l0_k.mono (I := tr_funs.l0_k.I) (fun go ih p r e => match p with
 | .l0 b_1 a_11 x_12 x_13 => tr_funs.l0_k.step_l0 go ih b_1 a_11 x_12 x_13 r e
 ) e
noncomputable def tr_funs (a_0 : List T_Func) (b_1 : Bool) : Option (Int) :=
 if (((List.length a_0) : Nat) : Int) > (12 : Int) then (some ((2 : Int))) else ((tr_funs.l0 b_1 a_0 (((List.length a_0) : Nat) : Int) (0 : Int)))
theorem tr_funs.walk {W h m A_0 n_0 c_0 a_0 b_1} (O : Hold W h m h m []) (ne_0 : n_0 = List.length a_0) (k_0 : List.length a_0 ≤ c_0) (r_0 : Rd 15 T_Func.E m A_0 a_0) {r} (e : tr_funs a_0 b_1 = some r) : Run Tryz.prog 28 #[Value.slice A_0 n_0 c_0, Value.bool b_1] h (tr_funs.post W h m r) := by
 unfold tr_funs at e
 subst ne_0
 refine f28.run ?_
 unfold f28.runT
 refine split_dec_e e (fun c1 e => ?_) (fun c1 e => ?_)
 · cases e
   exact ⟨_, O.pick [], rfl⟩
 · exact (tr_funs.l0_k.all e) (O.pick []).nm rfl k_0 r_0
def tr_traits.post (W : Nat → Prop) (h0 m0 : Heap) (r : Int) (v : Value) (h : Heap) : Prop := ∃ m , Hold W h0 m0 h m [] ∧ v = .int .i64 r
inductive tr_traits.l1_k.Pt where
 | l1 (a_29 : List T_Impl) (x_30 : Int) (x_31 : Int)
 | j0 (y_7 : T_Impl) (b_8 : Bool) (a_29 : List T_Impl) (x_30 : Int) (x_31 : Int)
 | j1 (y_7 : T_Impl) (a_29 : List T_Impl) (x_30 : Int) (x_31 : Int)
noncomputable def tr_traits.l1_k.body (go : (p : tr_traits.l1_k.Pt) → Option (Int)) : (p : tr_traits.l1_k.Pt) → Option (Int)
 | .l1 a_29 x_30 x_31 => if x_31 < x_30 then (Option.bind (gi a_29 x_31) fun y1 => if y1.For = (ByteArray.mk #[105, 110, 116]) then ((go (.j0 y1 true a_29 x_30 x_31))) else (if y1.For = (ByteArray.mk #[98, 111, 111, 108]) then ((go (.j0 y1 true a_29 x_30 x_31))) else (if y1.For = (ByteArray.mk #[116, 101, 120, 116]) then ((go (.j0 y1 true a_29 x_30 x_31))) else ((go (.j0 y1 (decide (y1.For = (ByteArray.mk #[117, 110, 105, 116]))) a_29 x_30 x_31)))))) else (some ((0 : Int)))
 | .j0 y_7 b_8 a_29 x_30 x_31 => Option.bind (tk_IsUp y_7.Trait) fun y1 => if y1 = true then (if b_8 = true then ((go (.j1 y_7 a_29 x_30 x_31))) else (Option.bind (tk_IsUp y_7.For) fun y8 => if y8 = true then ((go (.j1 y_7 a_29 x_30 x_31))) else (some ((3 : Int))))) else (some ((3 : Int)))
 | .j1 y_7 a_29 x_30 x_31 => Option.bind (tr_funs y_7.Funcs true) fun y6 => if y6 = (0 : Int) then ((go (.l1 a_29 x_30 (IntKind.wrap .i64 (x_31 + (1 : Int)))))) else (some (y6))
theorem tr_traits.l1_k.mono : MonoF (β := fun _ => (Int)) tr_traits.l1_k.body := fun f g hfg p => match p with
 | .l1 a_29 x_30 x_31 => LeO.ite (LeO.bind (LeO.refl _) fun y1 => LeO.ite ((hfg _)) (LeO.ite ((hfg _)) (LeO.ite ((hfg _)) ((hfg _))))) (LeO.refl _)
 | .j0 y_7 b_8 a_29 x_30 x_31 => LeO.bind (LeO.refl _) fun y1 => LeO.ite (LeO.ite ((hfg _)) (LeO.bind (LeO.refl _) fun y8 => LeO.ite ((hfg _)) (LeO.refl _))) (LeO.refl _)
 | .j1 y_7 a_29 x_30 x_31 => LeO.bind (LeO.refl _) fun y6 => LeO.ite ((hfg _)) (LeO.refl _)
noncomputable def tr_traits.l1_k.go (p : tr_traits.l1_k.Pt) : Option (Int) := fixF (β := fun _ => (Int)) tr_traits.l1_k.body p
noncomputable def tr_traits.l1 (a_29 x_30 x_31) := tr_traits.l1_k.go (.l1 a_29 x_30 x_31)
noncomputable def tr_traits.j0 (y_7 b_8 a_29 x_30 x_31) := tr_traits.l1_k.go (.j0 y_7 b_8 a_29 x_30 x_31)
noncomputable def tr_traits.j1 (y_7 a_29 x_30 x_31) := tr_traits.l1_k.go (.j1 y_7 a_29 x_30 x_31)
theorem tr_traits.l1_eq (a_29 x_30 x_31) : tr_traits.l1 a_29 x_30 x_31 = if x_31 < x_30 then (Option.bind (gi a_29 x_31) fun y1 => if y1.For = (ByteArray.mk #[105, 110, 116]) then ((tr_traits.j0 y1 true a_29 x_30 x_31)) else (if y1.For = (ByteArray.mk #[98, 111, 111, 108]) then ((tr_traits.j0 y1 true a_29 x_30 x_31)) else (if y1.For = (ByteArray.mk #[116, 101, 120, 116]) then ((tr_traits.j0 y1 true a_29 x_30 x_31)) else ((tr_traits.j0 y1 (decide (y1.For = (ByteArray.mk #[117, 110, 105, 116]))) a_29 x_30 x_31))))) else (some ((0 : Int))) := fixF_eq tr_traits.l1_k.mono _
theorem tr_traits.j0_eq (y_7 b_8 a_29 x_30 x_31) : tr_traits.j0 y_7 b_8 a_29 x_30 x_31 = Option.bind (tk_IsUp y_7.Trait) fun y1 => if y1 = true then (if b_8 = true then ((tr_traits.j1 y_7 a_29 x_30 x_31)) else (Option.bind (tk_IsUp y_7.For) fun y8 => if y8 = true then ((tr_traits.j1 y_7 a_29 x_30 x_31)) else (some ((3 : Int))))) else (some ((3 : Int))) := fixF_eq tr_traits.l1_k.mono _
theorem tr_traits.j1_eq (y_7 a_29 x_30 x_31) : tr_traits.j1 y_7 a_29 x_30 x_31 = Option.bind (tr_funs y_7.Funcs true) fun y6 => if y6 = (0 : Int) then ((tr_traits.l1 a_29 x_30 (IntKind.wrap .i64 (x_31 + (1 : Int))))) else (some (y6)) := fixF_eq tr_traits.l1_k.mono _
def tr_traits.l1_k.I : (p : tr_traits.l1_k.Pt) → (Int) → Prop
 | .l1 a_29 x_30 x_31, r => ∀ {W h0 m0 h m A_29 n_29 c_29} (O : Hold W h0 m0 h m []) (ne_29 : n_29 = List.length a_29) (k_29 : List.length a_29 ≤ c_29) (r_29 : Rd 3 T_Impl.E m A_29 a_29), f8.l1 (tr_traits.post W h0 m0 r) A_29 n_29 c_29 x_30 x_31 h
 | .j0 y_7 b_8 a_29 x_30 x_31, r => ∀ {W h0 m0 h m bk_7 cs_7 A_29 n_29 c_29} (O : Hold W h0 m0 h m [rV bk_7 68 cs_7]) (e_7 : T_Impl.E m y_7 cs_7) (ne_29 : n_29 = List.length a_29) (k_29 : List.length a_29 ≤ c_29) (r_29 : Rd 3 T_Impl.E m A_29 a_29), f8.j0 (tr_traits.post W h0 m0 r) (⟨bk_7, 0, none⟩ : Addr) b_8 A_29 n_29 c_29 x_30 x_31 h
 | .j1 y_7 a_29 x_30 x_31, r => ∀ {W h0 m0 h m bk_7 cs_7 A_29 n_29 c_29} (O : Hold W h0 m0 h m [rV bk_7 68 cs_7]) (e_7 : T_Impl.E m y_7 cs_7) (ne_29 : n_29 = List.length a_29) (k_29 : List.length a_29 ≤ c_29) (r_29 : Rd 3 T_Impl.E m A_29 a_29), f8.j1 (tr_traits.post W h0 m0 r) (⟨bk_7, 0, none⟩ : Addr) A_29 n_29 c_29 x_30 x_31 h
theorem tr_traits.l1_k.step_l1 (go : (p : tr_traits.l1_k.Pt) → Option (Int)) (ih : ∀ p r, go p = some r → tr_traits.l1_k.I p r) (a_29 x_30 x_31) (r) (e : tr_traits.l1_k.body go (.l1 a_29 x_30 x_31) = some r) : tr_traits.l1_k.I (.l1 a_29 x_30 x_31) r := by
 unfold tr_traits.l1_k.body at e
 intro W h0 m0 h m A_29 n_29 c_29 O ne_29 k_29 r_29
 subst ne_29
 refine f8.l1_in ?_
 unfold f8.l1T
 refine split_dec_e e (fun c21 e => ?_) (fun c21 e => ?_)
 · obtain ⟨y1, g2, e⟩ := bind_e e
   refine r_29.addr rfl g2 fun a3 cs4 ha5 hc6 he7 => ?_
   refine ⟨_, ldAn O.s hc6 rfl, ?_⟩
   refine O.new fun h8 x9 O10 => ?_
   refine ⟨_, rfl, (T_Impl.T.len _ _ _ he7), ?_⟩
   refine O10.stA 0 rfl (T_Impl.T.len _ _ _ he7) (T_Impl.T.flat _ _ _ he7) fun h12 O13 => ?_
   refine ⟨_, ldk (k := 1) (Sub.refl _) (O13.all 0 rfl) (T_Impl.g1 he7), _, rfl, ?_⟩
   try rw [ba_list y1.For (ByteArray.mk #[105, 110, 116])]
   refine split_dec_e e (fun c20 e => ?_) (fun c20 e => ?_)
   · have O14 := O13.nm
     exact (ih _ _ e) (O14.pick [0]).nm he7 rfl k_29 r_29
   · refine ⟨_, ldk (k := 1) (Sub.refl _) (O13.all 0 rfl) (T_Impl.g1 he7), _, rfl, ?_⟩
     try rw [ba_list y1.For (ByteArray.mk #[98, 111, 111, 108])]
     refine split_dec_e e (fun c19 e => ?_) (fun c19 e => ?_)
     · have O15 := O13.nm
       exact (ih _ _ e) (O15.pick [0]).nm he7 rfl k_29 r_29
     · refine ⟨_, ldk (k := 1) (Sub.refl _) (O13.all 0 rfl) (T_Impl.g1 he7), _, rfl, ?_⟩
       try rw [ba_list y1.For (ByteArray.mk #[116, 101, 120, 116])]
       refine split_dec_e e (fun c18 e => ?_) (fun c18 e => ?_)
       · have O16 := O13.nm
         exact (ih _ _ e) (O16.pick [0]).nm he7 rfl k_29 r_29
       · refine ⟨_, ldk (k := 1) (Sub.refl _) (O13.all 0 rfl) (T_Impl.g1 he7), _, rfl, ?_⟩
         try rw [ba_list y1.For (ByteArray.mk #[117, 110, 105, 116])]
         have O17 := O13.nm
         exact (ih _ _ e) (O17.pick [0]).nm he7 rfl k_29 r_29
 · cases e
   exact ⟨_, O.pick [], rfl⟩
theorem tr_traits.l1_k.step_j0 (go : (p : tr_traits.l1_k.Pt) → Option (Int)) (ih : ∀ p r, go p = some r → tr_traits.l1_k.I p r) (y_7 b_8 a_29 x_30 x_31) (r) (e : tr_traits.l1_k.body go (.j0 y_7 b_8 a_29 x_30 x_31) = some r) : tr_traits.l1_k.I (.j0 y_7 b_8 a_29 x_30 x_31) r := by
 unfold tr_traits.l1_k.body at e
 intro W h0 m0 h m bk_7 cs_7 A_29 n_29 c_29 O e_7 ne_29 k_29 r_29
 subst ne_29
 refine f8.j0_in ?_
 unfold f8.j0T
 refine ⟨_, ld0 (Sub.refl _) (O.all 0 rfl) (T_Impl.g0 e_7), _, rfl, ?_⟩
 obtain ⟨y1, g2, e⟩ := bind_e e
 refine (tk_IsUp.walk (Hold.start (W := No) O.s)  g2).mono ?_
 rintro _ h3 ⟨m4, Q5, rfl⟩
 have O7 := Hold.nm (O.retC Q5 vfs_nil)
 refine ⟨_, rfl, ?_⟩
 refine split_not ?_
 refine split_any_e e (fun c17 e => ?_) (fun c17 e => ?_)
 · refine split_not ?_
   refine split_any_e e (fun c16 e => ?_) (fun c16 e => ?_)
   · exact (ih _ _ e) (O7.pick [0]).nm e_7 rfl k_29 r_29
   · refine ⟨_, ldk (k := 1) (Sub.refl _) (O7.all 0 rfl) (T_Impl.g1 e_7), _, rfl, ?_⟩
     obtain ⟨y8, g9, e⟩ := bind_e e
     refine (tk_IsUp.walk (Hold.start (W := No) O7.s)  g9).mono ?_
     rintro _ h10 ⟨m11, Q12, rfl⟩
     have O14 := Hold.nm (O7.retC Q12 vfs_nil)
     refine ⟨_, rfl, ?_⟩
     refine split_not ?_
     refine split_any_e e (fun c15 e => ?_) (fun c15 e => ?_)
     · exact (ih _ _ e) (O14.pick [0]).nm e_7 rfl k_29 r_29
     · cases e
       exact ⟨_, O14.pick [], rfl⟩
 · cases e
   exact ⟨_, O7.pick [], rfl⟩
theorem tr_traits.l1_k.step_j1 (go : (p : tr_traits.l1_k.Pt) → Option (Int)) (ih : ∀ p r, go p = some r → tr_traits.l1_k.I p r) (y_7 a_29 x_30 x_31) (r) (e : tr_traits.l1_k.body go (.j1 y_7 a_29 x_30 x_31) = some r) : tr_traits.l1_k.I (.j1 y_7 a_29 x_30 x_31) r := by
 unfold tr_traits.l1_k.body at e
 intro W h0 m0 h m bk_7 cs_7 A_29 n_29 c_29 O e_7 ne_29 k_29 r_29
 subst ne_29
 refine f8.j1_in ?_
 unfold f8.j1T
 obtain ⟨A1, c2, q3, k4, r5⟩ := T_Impl.g2 e_7
 refine ⟨_, ldk (k := 2) (Sub.refl _) (O.all 0 rfl) q3, _, _, _, rfl, ?_⟩
 obtain ⟨y6, g7, e⟩ := bind_e e
 refine (tr_funs.walk (Hold.start (W := No) O.s) rfl k4 r5 g7).mono ?_
 rintro _ h8 ⟨m9, Q10, rfl⟩
 have O12 := Hold.nm (O.retC Q10 vfs_nil)
 refine ⟨_, rfl, ?_⟩
 refine split_ne_e e (fun c13 e => ?_) (fun c13 e => ?_)
 · cases e
   exact ⟨_, O12.pick [], rfl⟩
 · exact (ih _ _ e) (O12.pick []).nm rfl k_29 r_29
theorem tr_traits.l1_k.all {p : tr_traits.l1_k.Pt} {r : (Int)} (e : tr_traits.l1_k.go p = some r) : tr_traits.l1_k.I p r := fixF_ind (β := fun _ => (Int)) tr_traits.l1_k.mono (I := tr_traits.l1_k.I) (fun go ih p r e => match p with
 | .l1 a_29 x_30 x_31 => tr_traits.l1_k.step_l1 go ih a_29 x_30 x_31 r e
 | .j0 y_7 b_8 a_29 x_30 x_31 => tr_traits.l1_k.step_j0 go ih y_7 b_8 a_29 x_30 x_31 r e
 | .j1 y_7 a_29 x_30 x_31 => tr_traits.l1_k.step_j1 go ih y_7 a_29 x_30 x_31 r e
 ) e
inductive tr_traits.l0_k.Pt where
 | l0 (y_1 : T_Program) (a_11 : List T_Trait) (x_12 : Int) (x_13 : Int)
noncomputable def tr_traits.l0_k.body (go : (p : tr_traits.l0_k.Pt) → Option (Int)) : (p : tr_traits.l0_k.Pt) → Option (Int)
 | .l0 y_1 a_11 x_12 x_13 => if x_13 < x_12 then (Option.bind (gi a_11 x_13) fun y1 => Option.bind (tk_IsUp y1.Name) fun y14 => if y14 = true then (Option.bind (tr_funs y1.Funcs false) fun y26 => if y26 = (0 : Int) then ((go (.l0 y_1 a_11 x_12 (IntKind.wrap .i64 (x_13 + (1 : Int)))))) else (some (y26))) else (some ((3 : Int)))) else ((tr_traits.l1 y_1.Impls (((List.length y_1.Impls) : Nat) : Int) (0 : Int)))
theorem tr_traits.l0_k.mono : MonoF (β := fun _ => (Int)) tr_traits.l0_k.body := fun f g hfg p => match p with
 | .l0 y_1 a_11 x_12 x_13 => LeO.ite (LeO.bind (LeO.refl _) fun y1 => LeO.bind (LeO.refl _) fun y14 => LeO.ite (LeO.bind (LeO.refl _) fun y26 => LeO.ite ((hfg _)) (LeO.refl _)) (LeO.refl _)) ((LeO.refl _))
noncomputable def tr_traits.l0_k.go (p : tr_traits.l0_k.Pt) : Option (Int) := fixF (β := fun _ => (Int)) tr_traits.l0_k.body p
noncomputable def tr_traits.l0 (y_1 a_11 x_12 x_13) := tr_traits.l0_k.go (.l0 y_1 a_11 x_12 x_13)
theorem tr_traits.l0_eq (y_1 a_11 x_12 x_13) : tr_traits.l0 y_1 a_11 x_12 x_13 = if x_13 < x_12 then (Option.bind (gi a_11 x_13) fun y1 => Option.bind (tk_IsUp y1.Name) fun y14 => if y14 = true then (Option.bind (tr_funs y1.Funcs false) fun y26 => if y26 = (0 : Int) then ((tr_traits.l0 y_1 a_11 x_12 (IntKind.wrap .i64 (x_13 + (1 : Int))))) else (some (y26))) else (some ((3 : Int)))) else ((tr_traits.l1 y_1.Impls (((List.length y_1.Impls) : Nat) : Int) (0 : Int))) := fixF_eq tr_traits.l0_k.mono _
def tr_traits.l0_k.I : (p : tr_traits.l0_k.Pt) → (Int) → Prop
 | .l0 y_1 a_11 x_12 x_13, r => ∀ {W h0 m0 h m bk_1 cs_1 A_11 n_11 c_11} (O : Hold W h0 m0 h m [rV bk_1 29 cs_1]) (e_1 : T_Program.E m y_1 cs_1) (ne_11 : n_11 = List.length a_11) (k_11 : List.length a_11 ≤ c_11) (r_11 : Rd 2 T_Trait.E m A_11 a_11), f8.l0 (tr_traits.post W h0 m0 r) (⟨bk_1, 0, none⟩ : Addr) A_11 n_11 c_11 x_12 x_13 h
set_option maxHeartbeats 4000000 in
theorem tr_traits.l0_k.step_l0 (go : (p : tr_traits.l0_k.Pt) → Option (Int)) (ih : ∀ p r, go p = some r → tr_traits.l0_k.I p r) (y_1 a_11 x_12 x_13) (r) (e : tr_traits.l0_k.body go (.l0 y_1 a_11 x_12 x_13) = some r) : tr_traits.l0_k.I (.l0 y_1 a_11 x_12 x_13) r := by
 unfold tr_traits.l0_k.body at e
 intro W h0 m0 h m bk_1 cs_1 A_11 n_11 c_11 O e_1 ne_11 k_11 r_11
 subst ne_11
 refine f8.l0_in ?_
 unfold f8.l0T
 refine split_dec_e e (fun c40 e => ?_) (fun c40 e => ?_)
 · obtain ⟨y1, g2, e⟩ := bind_e e
   refine r_11.addr rfl g2 fun a3 cs4 ha5 hc6 he7 => ?_
   refine ⟨_, ldAn O.s hc6 rfl, ?_⟩
   refine O.new fun h8 x9 O10 => ?_
   refine ⟨_, rfl, (T_Trait.T.len _ _ _ he7), ?_⟩
   refine O10.stA 1 rfl (T_Trait.T.len _ _ _ he7) (T_Trait.T.flat _ _ _ he7) fun h12 O13 => ?_
   refine ⟨_, ld0 (Sub.refl _) (O13.all 1 rfl) (T_Trait.g0 he7), _, rfl, ?_⟩
   obtain ⟨y14, g15, e⟩ := bind_e e
   refine (tk_IsUp.walk (Hold.start (W := No) O13.s)  g15).mono ?_
   rintro _ h16 ⟨m17, Q18, rfl⟩
   have O20 := Hold.nm (O13.retC Q18 vfs_nil)
   refine ⟨_, rfl, ?_⟩
   refine split_not ?_
   refine split_any_e e (fun c34 e => ?_) (fun c34 e => ?_)
   · obtain ⟨A21, c22, q23, k24, r25⟩ := T_Trait.g1 he7
     refine ⟨_, ldk (k := 1) (Sub.refl _) (O20.all 1 rfl) q23, _, _, _, rfl, ?_⟩
     obtain ⟨y26, g27, e⟩ := bind_e e
     refine (tr_funs.walk (Hold.start (W := No) O20.s) rfl k24 r25 g27).mono ?_
     rintro _ h28 ⟨m29, Q30, rfl⟩
     have O32 := Hold.nm (O20.retC Q30 vfs_nil)
     refine ⟨_, rfl, ?_⟩
     refine split_ne_e e (fun c33 e => ?_) (fun c33 e => ?_)
     · cases e
       exact ⟨_, O32.pick [], rfl⟩
     · exact (ih _ _ e) (O32.pick [0]).nm e_1 rfl k_11 r_11
   · cases e
     exact ⟨_, O20.pick [], rfl⟩
 · obtain ⟨A35, c36, q37, k38, r39⟩ := T_Program.g5 e_1
   refine ⟨_, ldk (k := 5) (Sub.refl _) (O.all 0 rfl) q37, _, _, _, rfl, ?_⟩
   exact (tr_traits.l1_k.all e) (O.pick []).nm rfl k38 r39
theorem tr_traits.l0_k.all {p : tr_traits.l0_k.Pt} {r : (Int)} (e : tr_traits.l0_k.go p = some r) : tr_traits.l0_k.I p r := fixF_ind (β := fun _ => (Int)) tr_traits.l0_k.mono (I := tr_traits.l0_k.I) (fun go ih p r e => match p with
 | .l0 y_1 a_11 x_12 x_13 => tr_traits.l0_k.step_l0 go ih y_1 a_11 x_12 x_13 r e
 ) e
noncomputable def tr_traits (y_0 : T_Program) : Option (Int) :=
 (tr_traits.l0 y_0 y_0.Traits (((List.length y_0.Traits) : Nat) : Int) (0 : Int))
theorem tr_traits.walk {W h m cs_0 y_0} (O : Hold W h m h m []) (e_0 : T_Program.E m y_0 cs_0) {r} (e : tr_traits y_0 = some r) : Run Tryz.prog 8 #[Value.agg cs_0.toArray] h (tr_traits.post W h m r) := by
 unfold tr_traits at e
 refine f8.run ?_
 unfold f8.runT
 refine O.new fun h1 x2 O3 => ?_
 obtain ⟨A5, c6, q7, k8, r9⟩ := T_Program.g4 e_0
 refine ⟨_, ldk (k := 4) (Sub.refl _) (O3.all 0 rfl) q7, _, _, _, rfl, ?_⟩
 have O10 := O3.nm
 exact (tr_traits.l0_k.all e) (O10.pick [0]).nm e_0 rfl k8 r9
def tr_actor.post (W : Nat → Prop) (h0 m0 : Heap) (r : Int) (v : Value) (h : Heap) : Prop := ∃ m , Hold W h0 m0 h m [] ∧ v = .int .i64 r
noncomputable def tr_actor.j1 (y_1 : T_Actor) : Option (Int) :=
 Option.bind (tr_whole y_1.Body true) fun y1 => some (y1)
theorem tr_actor.j1.walk {W h0 m0 h m bk_1 cs_1 y_1} (O : Hold W h0 m0 h m [rV bk_1 53 cs_1]) (e_1 : T_Actor.E m y_1 cs_1) {r} (e : tr_actor.j1 y_1 = some r) : f10.j1 (tr_actor.post W h0 m0 r) (⟨bk_1, 0, none⟩ : Addr) h := by
 unfold tr_actor.j1 at e
 refine f10.j1_in ?_
 unfold f10.j1T
 refine ⟨_, ldAkn (Sub.refl _) (O.all 0 rfl) 6 8 (le_len (T_Actor.T.len _ _ _ e_1) (by decide)), ?_⟩
 obtain ⟨y1, g2, e⟩ := bind_e e
 refine (tr_whole.walk (Hold.start (W := No) O.s) (T_Actor.u6_48 e_1) g2).mono ?_
 rintro _ h3 ⟨m4, Q5, rfl⟩
 have O7 := Hold.nm (O.retC Q5 vfs_nil)
 refine ⟨_, rfl, ?_⟩
 cases e
 exact ⟨_, O7.pick [], rfl⟩
noncomputable def tr_actor.j2 (y_1 : T_Actor) (x_4 : Int) : Option (Int) :=
 if x_4 = (0 : Int) then ((tr_actor.j1 y_1)) else (some (x_4))
theorem tr_actor.j2.walk {W h0 m0 h m bk_1 cs_1 y_1 x_4} (O : Hold W h0 m0 h m [rV bk_1 53 cs_1]) (e_1 : T_Actor.E m y_1 cs_1) {r} (e : tr_actor.j2 y_1 x_4 = some r) : f10.j2 (tr_actor.post W h0 m0 r) (⟨bk_1, 0, none⟩ : Addr) x_4 h := by
 unfold tr_actor.j2 at e
 refine f10.j2_in ?_
 unfold f10.j2T
 refine split_ne_e e (fun c1 e => ?_) (fun c1 e => ?_)
 · cases e
   exact ⟨_, O.pick [], rfl⟩
 · exact tr_actor.j1.walk (O.pick [0]).nm e_1 e
noncomputable def tr_actor.j0 (y_1 : T_Actor) : Option (Int) :=
 Option.bind (tr_lows y_1.Names) fun y6 => if y6 = (0 : Int) then (Option.bind (ap 48 ([] : List T_Type) y_1.Types) fun l23 => Option.bind (ap 48 l23 ([y_1.Msg] : List T_Type)) fun l36 => Option.bind (tr_types l36 (40 : Int)) fun y46 => (tr_actor.j2 y_1 y46)) else (some (y6))
set_option maxHeartbeats 4000000 in
theorem tr_actor.j0.walk {W h0 m0 h m bk_1 cs_1 y_1} (O : Hold W h0 m0 h m [rV bk_1 53 cs_1]) (e_1 : T_Actor.E m y_1 cs_1) {r} (e : tr_actor.j0 y_1 = some r) : f10.j0 (tr_actor.post W h0 m0 r) (⟨bk_1, 0, none⟩ : Addr) h := by
 unfold tr_actor.j0 at e
 refine f10.j0_in ?_
 unfold f10.j0T
 obtain ⟨A1, c2, q3, k4, r5⟩ := T_Actor.g1 e_1
 refine ⟨_, ldk (k := 1) (Sub.refl _) (O.all 0 rfl) q3, _, _, _, rfl, ?_⟩
 obtain ⟨y6, g7, e⟩ := bind_e e
 refine (tr_lows.walk (Hold.start (W := No) O.s) rfl k4 r5 g7).mono ?_
 rintro _ h8 ⟨m9, Q10, rfl⟩
 have O12 := Hold.nm (O.retC Q10 vfs_nil)
 refine ⟨_, rfl, ?_⟩
 refine split_ne_e e (fun c182 e => ?_) (fun c182 e => ?_)
 · cases e
   exact ⟨_, O12.pick [], rfl⟩
 · obtain ⟨A13, c14, q15, k16, r17⟩ := T_Actor.g2 e_1
   refine ⟨_, ldk (k := 2) (Sub.refl _) (O12.all 0 rfl) q15, _, _, _, rfl, ?_⟩
   refine ⟨_, ldAkn (Sub.refl _) (O12.all 0 rfl) 3 3 (le_len (T_Actor.T.len _ _ _ e_1) (by decide)), ?_⟩
   obtain ⟨l23, g24, e⟩ := bind_e e
   obtain ⟨l36, g37, e⟩ := bind_e e
   obtain ⟨y46, g47, e⟩ := bind_e e
   refine ⟨?_, ?_⟩
   · refine O12.new fun h60 x61 O62 => ?_
     refine ⟨ldk (k := 2) (Sub.refl _) (O62.all 0 rfl) q15, ?_⟩
     refine ⟨ldAkn (Sub.refl _) (O62.all 0 rfl) 3 3 (le_len (T_Actor.T.len _ _ _ e_1) (by decide)), ?_⟩
     refine ⟨?_, ?_⟩
     · have O64 := O62.rowE (l := ([] : List T_Type)) 1 rfl T_Type.T (show CsE _ _ _ _ _ from CsE.nil) rfl
       refine O64.app 1 rfl rfl rfl (Rd.srcE r17 T_Type.T O64.s rfl) (by decide) g24 fun A67 c68 h69 O70 => ?_
       refine ⟨_, _, _, rfl, ?_⟩
       refine ⟨ldAkn (Sub.refl _) (O70.all 0 rfl) 3 3 (le_len (T_Actor.T.len _ _ _ e_1) (by decide)), ?_⟩
       refine ⟨(List.take 3 (List.drop 3 cs_1)), rfl, (T_Type.T.len _ _ _ (T_Actor.u3_44 e_1)), ?_⟩
       refine O70.new fun h73 x74 O75 => ?_
       have O77 := O75.recell 2 rfl (cs' := (List.take 3 (List.drop 3 cs_1)) ++ []) rfl
       refine ⟨ldk (k := 2) (Sub.refl _) (O77.all 0 rfl) q15, ?_⟩
       have O86 := O77.rowE (l := ([y_1.Msg] : List T_Type)) 2 rfl T_Type.T (show CsE _ _ _ _ _ from (CsE.cons (T_Actor.u3_44 e_1) (T_Type.T.len _ _ _ (T_Actor.u3_44 e_1)) CsE.nil)) rfl
       refine O86.app 1 rfl rfl rfl ((O86.os 2 rfl).srcE rfl) (by decide) g37 fun A80 c81 h82 O83 => ?_
       refine ⟨_, _, _, rfl, ?_⟩
       have O87 := O83.nm
       obtain ⟨m94, u95, s100, ⟨⟨r98, k99⟩, _⟩, B96, C97⟩ := O87.lend0 [1]
       replace r98 : Rd 3 T_Type.E m94 A80 l36 := r98
       replace k99 : List.length l36 ≤ c81 := k99
       refine (tr_types.walk (Hold.start (W := No) s100) rfl k99 r98 g47).mono ?_
       rintro _ h90 ⟨m91, Q92, rfl⟩
       have O101 := Hold.nm (C97 Q92 vfs_nil)
       refine ⟨_, rfl, ?_⟩
       exact tr_actor.j2.walk (O101.pick [0]).nm e_1 e
     · refine ⟨(List.take 3 (List.drop 3 cs_1)), rfl, (T_Type.T.len _ _ _ (T_Actor.u3_44 e_1)), ?_⟩
       refine O62.new fun h102 x103 O104 => ?_
       have O106 := O104.recell 2 rfl (cs' := (List.take 3 (List.drop 3 cs_1)) ++ []) rfl
       refine ⟨ldk (k := 2) (Sub.refl _) (O106.all 0 rfl) q15, ?_⟩
       have O107 := O106.rowE (l := ([] : List T_Type)) 1 rfl T_Type.T (show CsE _ _ _ _ _ from CsE.nil) rfl
       refine O107.app 1 rfl rfl rfl (Rd.srcE r17 T_Type.T O107.s rfl) (by decide) g24 fun A110 c111 h112 O113 => ?_
       refine ⟨_, _, _, rfl, ?_⟩
       refine ⟨ldAkn (Sub.refl _) (O113.all 0 rfl) 3 3 (le_len (T_Actor.T.len _ _ _ e_1) (by decide)), ?_⟩
       have O124 := O113.rowE (l := ([y_1.Msg] : List T_Type)) 2 rfl T_Type.T (show CsE _ _ _ _ _ from (CsE.cons (T_Actor.u3_44 e_1) (T_Type.T.len _ _ _ (T_Actor.u3_44 e_1)) CsE.nil)) rfl
       refine O124.app 1 rfl rfl rfl ((O124.os 2 rfl).srcE rfl) (by decide) g37 fun A118 c119 h120 O121 => ?_
       refine ⟨_, _, _, rfl, ?_⟩
       have O125 := O121.nm
       obtain ⟨m132, u133, s138, ⟨⟨r136, k137⟩, _⟩, B134, C135⟩ := O125.lend0 [1]
       replace r136 : Rd 3 T_Type.E m132 A118 l36 := r136
       replace k137 : List.length l36 ≤ c119 := k137
       refine (tr_types.walk (Hold.start (W := No) s138) rfl k137 r136 g47).mono ?_
       rintro _ h128 ⟨m129, Q130, rfl⟩
       have O139 := Hold.nm (C135 Q130 vfs_nil)
       refine ⟨_, rfl, ?_⟩
       exact tr_actor.j2.walk (O139.pick [0]).nm e_1 e
   · refine ⟨(List.take 3 (List.drop 3 cs_1)), rfl, (T_Type.T.len _ _ _ (T_Actor.u3_44 e_1)), ?_⟩
     refine O12.new fun h140 x141 O142 => ?_
     have O144 := O142.recell 1 rfl (cs' := (List.take 3 (List.drop 3 cs_1)) ++ []) rfl
     refine ⟨ldk (k := 2) (Sub.refl _) (O144.all 0 rfl) q15, ?_⟩
     refine O144.new fun h145 x146 O147 => ?_
     refine ⟨ldk (k := 2) (Sub.refl _) (O147.all 0 rfl) q15, ?_⟩
     refine ⟨ldAkn (Sub.refl _) (O147.all 0 rfl) 3 3 (le_len (T_Actor.T.len _ _ _ e_1) (by decide)), ?_⟩
     have O149 := O147.rowE (l := ([] : List T_Type)) 2 rfl T_Type.T (show CsE _ _ _ _ _ from CsE.nil) rfl
     refine O149.app 2 rfl rfl rfl (Rd.srcE r17 T_Type.T O149.s rfl) (by decide) g24 fun A152 c153 h154 O155 => ?_
     refine ⟨_, _, _, rfl, ?_⟩
     refine ⟨ldAkn (Sub.refl _) (O155.all 0 rfl) 3 3 (le_len (T_Actor.T.len _ _ _ e_1) (by decide)), ?_⟩
     have O166 := O155.rowE (l := ([y_1.Msg] : List T_Type)) 1 rfl T_Type.T (show CsE _ _ _ _ _ from (CsE.cons (T_Actor.u3_44 e_1) (T_Type.T.len _ _ _ (T_Actor.u3_44 e_1)) CsE.nil)) rfl
     refine O166.app 2 rfl rfl rfl ((O166.os 1 rfl).srcE rfl) (by decide) g37 fun A160 c161 h162 O163 => ?_
     refine ⟨_, _, _, rfl, ?_⟩
     have O167 := O163.nm
     obtain ⟨m174, u175, s180, ⟨⟨r178, k179⟩, _⟩, B176, C177⟩ := O167.lend0 [2]
     replace r178 : Rd 3 T_Type.E m174 A160 l36 := r178
     replace k179 : List.length l36 ≤ c161 := k179
     refine (tr_types.walk (Hold.start (W := No) s180) rfl k179 r178 g47).mono ?_
     rintro _ h170 ⟨m171, Q172, rfl⟩
     have O181 := Hold.nm (C177 Q172 vfs_nil)
     refine ⟨_, rfl, ?_⟩
     exact tr_actor.j2.walk (O181.pick [0]).nm e_1 e
noncomputable def tr_actor (y_0 : T_Actor) : Option (Int) :=
 Option.bind (tk_IsUp y_0.Name) fun y5 => if y5 = true then (if (((List.length y_0.Names) : Nat) : Int) = (((List.length y_0.Types) : Nat) : Int) then ((tr_actor.j0 y_0)) else (some ((3 : Int)))) else (some ((3 : Int)))
theorem tr_actor.walk {W h m cs_0 y_0} (O : Hold W h m h m []) (e_0 : T_Actor.E m y_0 cs_0) {r} (e : tr_actor y_0 = some r) : Run Tryz.prog 10 #[Value.agg cs_0.toArray] h (tr_actor.post W h m r) := by
 unfold tr_actor at e
 refine f10.run ?_
 unfold f10.runT
 refine O.new fun h1 x2 O3 => ?_
 refine ⟨_, ld0 (Sub.refl _) (O3.all 0 rfl) (T_Actor.g0 e_0), _, rfl, ?_⟩
 obtain ⟨y5, g6, e⟩ := bind_e e
 refine (tk_IsUp.walk (Hold.start (W := No) O3.s)  g6).mono ?_
 rintro _ h7 ⟨m8, Q9, rfl⟩
 have O11 := Hold.nm (O3.retC Q9 vfs_nil)
 refine ⟨_, rfl, ?_⟩
 refine split_not ?_
 refine split_any_e e (fun c23 e => ?_) (fun c23 e => ?_)
 · obtain ⟨A12, c13, q14, k15, r16⟩ := T_Actor.g1 e_0
   refine ⟨_, ldk (k := 1) (Sub.refl _) (O11.all 0 rfl) q14, _, _, _, rfl, ?_⟩
   obtain ⟨A17, c18, q19, k20, r21⟩ := T_Actor.g2 e_0
   refine ⟨_, ldk (k := 2) (Sub.refl _) (O11.all 0 rfl) q19, _, _, _, rfl, ?_⟩
   refine split_ne_e e (fun c22 e => ?_) (fun c22 e => ?_)
   · cases e
     exact ⟨_, O11.pick [], rfl⟩
   · exact tr_actor.j0.walk (O11.pick [0]).nm e_0 e
 · cases e
   exact ⟨_, O11.pick [], rfl⟩
def tr_Right.post (W : Nat → Prop) (h0 m0 : Heap) (r : Int) (v : Value) (h : Heap) : Prop := ∃ m , Hold W h0 m0 h m [] ∧ v = .int .i64 r
inductive tr_Right.l4_k.Pt where
 | l4 (a_119 : List T_Actor) (x_120 : Int) (x_121 : Int)
noncomputable def tr_Right.l4_k.body (go : (p : tr_Right.l4_k.Pt) → Option (Int)) : (p : tr_Right.l4_k.Pt) → Option (Int)
 | .l4 a_119 x_120 x_121 => if x_121 < x_120 then (Option.bind (gi a_119 x_121) fun y1 => Option.bind (tr_actor y1) fun y14 => if y14 = (0 : Int) then ((go (.l4 a_119 x_120 (IntKind.wrap .i64 (x_121 + (1 : Int)))))) else (some (y14))) else (some ((0 : Int)))
theorem tr_Right.l4_k.mono : MonoF (β := fun _ => (Int)) tr_Right.l4_k.body := fun f g hfg p => match p with
 | .l4 a_119 x_120 x_121 => LeO.ite (LeO.bind (LeO.refl _) fun y1 => LeO.bind (LeO.refl _) fun y14 => LeO.ite ((hfg _)) (LeO.refl _)) (LeO.refl _)
noncomputable def tr_Right.l4_k.go (p : tr_Right.l4_k.Pt) : Option (Int) := fixF (β := fun _ => (Int)) tr_Right.l4_k.body p
noncomputable def tr_Right.l4 (a_119 x_120 x_121) := tr_Right.l4_k.go (.l4 a_119 x_120 x_121)
theorem tr_Right.l4_eq (a_119 x_120 x_121) : tr_Right.l4 a_119 x_120 x_121 = if x_121 < x_120 then (Option.bind (gi a_119 x_121) fun y1 => Option.bind (tr_actor y1) fun y14 => if y14 = (0 : Int) then ((tr_Right.l4 a_119 x_120 (IntKind.wrap .i64 (x_121 + (1 : Int))))) else (some (y14))) else (some ((0 : Int))) := fixF_eq tr_Right.l4_k.mono _
def tr_Right.l4_k.I : (p : tr_Right.l4_k.Pt) → (Int) → Prop
 | .l4 a_119 x_120 x_121, r => ∀ {W h0 m0 h m A_119 n_119 c_119} (O : Hold W h0 m0 h m []) (ne_119 : n_119 = List.length a_119) (k_119 : List.length a_119 ≤ c_119) (r_119 : Rd 14 T_Actor.E m A_119 a_119), f4.l4 (tr_Right.post W h0 m0 r) A_119 n_119 c_119 x_120 x_121 h
theorem tr_Right.l4_k.step_l4 (go : (p : tr_Right.l4_k.Pt) → Option (Int)) (ih : ∀ p r, go p = some r → tr_Right.l4_k.I p r) (a_119 x_120 x_121) (r) (e : tr_Right.l4_k.body go (.l4 a_119 x_120 x_121) = some r) : tr_Right.l4_k.I (.l4 a_119 x_120 x_121) r := by
 unfold tr_Right.l4_k.body at e
 intro W h0 m0 h m A_119 n_119 c_119 O ne_119 k_119 r_119
 subst ne_119
 refine f4.l4_in ?_
 unfold f4.l4T
 refine split_dec_e e (fun c22 e => ?_) (fun c22 e => ?_)
 · obtain ⟨y1, g2, e⟩ := bind_e e
   refine r_119.addr rfl g2 fun a3 cs4 ha5 hc6 he7 => ?_
   refine ⟨_, ldAn O.s hc6 rfl, ?_⟩
   refine O.new fun h8 x9 O10 => ?_
   refine ⟨_, rfl, (T_Actor.T.len _ _ _ he7), ?_⟩
   refine O10.stA 0 rfl (T_Actor.T.len _ _ _ he7) (T_Actor.T.flat _ _ _ he7) fun h12 O13 => ?_
   refine ⟨_, ldAn (Sub.refl _) (O13.all 0 rfl) (T_Actor.T.len _ _ _ he7), ?_⟩
   obtain ⟨y14, g15, e⟩ := bind_e e
   refine (tr_actor.walk (Hold.start (W := No) O13.s) he7 g15).mono ?_
   rintro _ h16 ⟨m17, Q18, rfl⟩
   have O20 := Hold.nm (O13.retC Q18 vfs_nil)
   refine ⟨_, rfl, ?_⟩
   refine split_ne_e e (fun c21 e => ?_) (fun c21 e => ?_)
   · cases e
     exact ⟨_, O20.pick [], rfl⟩
   · exact (ih _ _ e) (O20.pick []).nm rfl k_119 r_119
 · cases e
   exact ⟨_, O.pick [], rfl⟩
theorem tr_Right.l4_k.all {p : tr_Right.l4_k.Pt} {r : (Int)} (e : tr_Right.l4_k.go p = some r) : tr_Right.l4_k.I p r := fixF_ind (β := fun _ => (Int)) tr_Right.l4_k.mono (I := tr_Right.l4_k.I) (fun go ih p r e => match p with
 | .l4 a_119 x_120 x_121 => tr_Right.l4_k.step_l4 go ih a_119 x_120 x_121 r e
 ) e
inductive tr_Right.l3_k.Pt where
 | l3 (y_1 : T_Program) (a_106 : List T_Func) (x_107 : Int) (x_108 : Int)
noncomputable def tr_Right.l3_k.body (go : (p : tr_Right.l3_k.Pt) → Option (Int)) : (p : tr_Right.l3_k.Pt) → Option (Int)
 | .l3 y_1 a_106 x_107 x_108 => if x_108 < x_107 then (Option.bind (gi a_106 x_108) fun y1 => Option.bind (tr_fun y1 true) fun y14 => if y14 = (0 : Int) then ((go (.l3 y_1 a_106 x_107 (IntKind.wrap .i64 (x_108 + (1 : Int)))))) else (some (y14))) else ((tr_Right.l4 y_1.Actors (((List.length y_1.Actors) : Nat) : Int) (0 : Int)))
theorem tr_Right.l3_k.mono : MonoF (β := fun _ => (Int)) tr_Right.l3_k.body := fun f g hfg p => match p with
 | .l3 y_1 a_106 x_107 x_108 => LeO.ite (LeO.bind (LeO.refl _) fun y1 => LeO.bind (LeO.refl _) fun y14 => LeO.ite ((hfg _)) (LeO.refl _)) ((LeO.refl _))
noncomputable def tr_Right.l3_k.go (p : tr_Right.l3_k.Pt) : Option (Int) := fixF (β := fun _ => (Int)) tr_Right.l3_k.body p
noncomputable def tr_Right.l3 (y_1 a_106 x_107 x_108) := tr_Right.l3_k.go (.l3 y_1 a_106 x_107 x_108)
theorem tr_Right.l3_eq (y_1 a_106 x_107 x_108) : tr_Right.l3 y_1 a_106 x_107 x_108 = if x_108 < x_107 then (Option.bind (gi a_106 x_108) fun y1 => Option.bind (tr_fun y1 true) fun y14 => if y14 = (0 : Int) then ((tr_Right.l3 y_1 a_106 x_107 (IntKind.wrap .i64 (x_108 + (1 : Int))))) else (some (y14))) else ((tr_Right.l4 y_1.Actors (((List.length y_1.Actors) : Nat) : Int) (0 : Int))) := fixF_eq tr_Right.l3_k.mono _
def tr_Right.l3_k.I : (p : tr_Right.l3_k.Pt) → (Int) → Prop
 | .l3 y_1 a_106 x_107 x_108, r => ∀ {W h0 m0 h m bk_1 cs_1 A_106 n_106 c_106} (O : Hold W h0 m0 h m [rV bk_1 29 cs_1]) (e_1 : T_Program.E m y_1 cs_1) (ne_106 : n_106 = List.length a_106) (k_106 : List.length a_106 ≤ c_106) (r_106 : Rd 15 T_Func.E m A_106 a_106), f4.l3 (tr_Right.post W h0 m0 r) (⟨bk_1, 0, none⟩ : Addr) A_106 n_106 c_106 x_107 x_108 h
theorem tr_Right.l3_k.step_l3 (go : (p : tr_Right.l3_k.Pt) → Option (Int)) (ih : ∀ p r, go p = some r → tr_Right.l3_k.I p r) (y_1 a_106 x_107 x_108) (r) (e : tr_Right.l3_k.body go (.l3 y_1 a_106 x_107 x_108) = some r) : tr_Right.l3_k.I (.l3 y_1 a_106 x_107 x_108) r := by
 unfold tr_Right.l3_k.body at e
 intro W h0 m0 h m bk_1 cs_1 A_106 n_106 c_106 O e_1 ne_106 k_106 r_106
 subst ne_106
 refine f4.l3_in ?_
 unfold f4.l3T
 refine split_dec_e e (fun c27 e => ?_) (fun c27 e => ?_)
 · obtain ⟨y1, g2, e⟩ := bind_e e
   refine r_106.addr rfl g2 fun a3 cs4 ha5 hc6 he7 => ?_
   refine ⟨_, ldAn O.s hc6 rfl, ?_⟩
   refine O.new fun h8 x9 O10 => ?_
   refine ⟨_, rfl, (T_Func.T.len _ _ _ he7), ?_⟩
   refine O10.stA 1 rfl (T_Func.T.len _ _ _ he7) (T_Func.T.flat _ _ _ he7) fun h12 O13 => ?_
   refine ⟨_, ldAn (Sub.refl _) (O13.all 1 rfl) (T_Func.T.len _ _ _ he7), ?_⟩
   obtain ⟨y14, g15, e⟩ := bind_e e
   refine (tr_fun.walk (Hold.start (W := No) O13.s) he7 g15).mono ?_
   rintro _ h16 ⟨m17, Q18, rfl⟩
   have O20 := Hold.nm (O13.retC Q18 vfs_nil)
   refine ⟨_, rfl, ?_⟩
   refine split_ne_e e (fun c21 e => ?_) (fun c21 e => ?_)
   · cases e
     exact ⟨_, O20.pick [], rfl⟩
   · exact (ih _ _ e) (O20.pick [0]).nm e_1 rfl k_106 r_106
 · obtain ⟨A22, c23, q24, k25, r26⟩ := T_Program.g7 e_1
   refine ⟨_, ldk (k := 7) (Sub.refl _) (O.all 0 rfl) q24, _, _, _, rfl, ?_⟩
   exact (tr_Right.l4_k.all e) (O.pick []).nm rfl k25 r26
theorem tr_Right.l3_k.all {p : tr_Right.l3_k.Pt} {r : (Int)} (e : tr_Right.l3_k.go p = some r) : tr_Right.l3_k.I p r := fixF_ind (β := fun _ => (Int)) tr_Right.l3_k.mono (I := tr_Right.l3_k.I) (fun go ih p r e => match p with
 | .l3 y_1 a_106 x_107 x_108 => tr_Right.l3_k.step_l3 go ih y_1 a_106 x_107 x_108 r e
 ) e
inductive tr_Right.l2_k.Pt where
 | l2 (y_1 : T_Program) (a_88 : List T_Data) (x_89 : Int) (x_90 : Int)
noncomputable def tr_Right.l2_k.body (go : (p : tr_Right.l2_k.Pt) → Option (Int)) : (p : tr_Right.l2_k.Pt) → Option (Int)
 | .l2 y_1 a_88 x_89 x_90 => if x_90 < x_89 then (Option.bind (gi a_88 x_90) fun y1 => Option.bind (tr_data y1) fun y14 => if y14 = (0 : Int) then ((go (.l2 y_1 a_88 x_89 (IntKind.wrap .i64 (x_90 + (1 : Int)))))) else (some (y14))) else (Option.bind (tr_traits y_1) fun y22 => if y22 = (0 : Int) then ((tr_Right.l3 y_1 y_1.Funcs (((List.length y_1.Funcs) : Nat) : Int) (0 : Int))) else (some (y22)))
theorem tr_Right.l2_k.mono : MonoF (β := fun _ => (Int)) tr_Right.l2_k.body := fun f g hfg p => match p with
 | .l2 y_1 a_88 x_89 x_90 => LeO.ite (LeO.bind (LeO.refl _) fun y1 => LeO.bind (LeO.refl _) fun y14 => LeO.ite ((hfg _)) (LeO.refl _)) (LeO.bind (LeO.refl _) fun y22 => LeO.ite ((LeO.refl _)) (LeO.refl _))
noncomputable def tr_Right.l2_k.go (p : tr_Right.l2_k.Pt) : Option (Int) := fixF (β := fun _ => (Int)) tr_Right.l2_k.body p
noncomputable def tr_Right.l2 (y_1 a_88 x_89 x_90) := tr_Right.l2_k.go (.l2 y_1 a_88 x_89 x_90)
theorem tr_Right.l2_eq (y_1 a_88 x_89 x_90) : tr_Right.l2 y_1 a_88 x_89 x_90 = if x_90 < x_89 then (Option.bind (gi a_88 x_90) fun y1 => Option.bind (tr_data y1) fun y14 => if y14 = (0 : Int) then ((tr_Right.l2 y_1 a_88 x_89 (IntKind.wrap .i64 (x_90 + (1 : Int))))) else (some (y14))) else (Option.bind (tr_traits y_1) fun y22 => if y22 = (0 : Int) then ((tr_Right.l3 y_1 y_1.Funcs (((List.length y_1.Funcs) : Nat) : Int) (0 : Int))) else (some (y22))) := fixF_eq tr_Right.l2_k.mono _
def tr_Right.l2_k.I : (p : tr_Right.l2_k.Pt) → (Int) → Prop
 | .l2 y_1 a_88 x_89 x_90, r => ∀ {W h0 m0 h m bk_1 cs_1 A_88 n_88 c_88} (O : Hold W h0 m0 h m [rV bk_1 29 cs_1]) (e_1 : T_Program.E m y_1 cs_1) (ne_88 : n_88 = List.length a_88) (k_88 : List.length a_88 ≤ c_88) (r_88 : Rd 3 T_Data.E m A_88 a_88), f4.l2 (tr_Right.post W h0 m0 r) (⟨bk_1, 0, none⟩ : Addr) A_88 n_88 c_88 x_89 x_90 h
theorem tr_Right.l2_k.step_l2 (go : (p : tr_Right.l2_k.Pt) → Option (Int)) (ih : ∀ p r, go p = some r → tr_Right.l2_k.I p r) (y_1 a_88 x_89 x_90) (r) (e : tr_Right.l2_k.body go (.l2 y_1 a_88 x_89 x_90) = some r) : tr_Right.l2_k.I (.l2 y_1 a_88 x_89 x_90) r := by
 unfold tr_Right.l2_k.body at e
 intro W h0 m0 h m bk_1 cs_1 A_88 n_88 c_88 O e_1 ne_88 k_88 r_88
 subst ne_88
 refine f4.l2_in ?_
 unfold f4.l2T
 refine split_dec_e e (fun c35 e => ?_) (fun c35 e => ?_)
 · obtain ⟨y1, g2, e⟩ := bind_e e
   refine r_88.addr rfl g2 fun a3 cs4 ha5 hc6 he7 => ?_
   refine ⟨_, ldAn O.s hc6 rfl, ?_⟩
   refine O.new fun h8 x9 O10 => ?_
   refine ⟨_, rfl, (T_Data.T.len _ _ _ he7), ?_⟩
   refine O10.stA 1 rfl (T_Data.T.len _ _ _ he7) (T_Data.T.flat _ _ _ he7) fun h12 O13 => ?_
   refine ⟨_, ldAn (Sub.refl _) (O13.all 1 rfl) (T_Data.T.len _ _ _ he7), ?_⟩
   obtain ⟨y14, g15, e⟩ := bind_e e
   refine (tr_data.walk (Hold.start (W := No) O13.s) he7 g15).mono ?_
   rintro _ h16 ⟨m17, Q18, rfl⟩
   have O20 := Hold.nm (O13.retC Q18 vfs_nil)
   refine ⟨_, rfl, ?_⟩
   refine split_ne_e e (fun c21 e => ?_) (fun c21 e => ?_)
   · cases e
     exact ⟨_, O20.pick [], rfl⟩
   · exact (ih _ _ e) (O20.pick [0]).nm e_1 rfl k_88 r_88
 · refine ⟨_, ldAn (Sub.refl _) (O.all 0 rfl) (T_Program.T.len _ _ _ e_1), ?_⟩
   obtain ⟨y22, g23, e⟩ := bind_e e
   refine (tr_traits.walk (Hold.start (W := No) O.s) e_1 g23).mono ?_
   rintro _ h24 ⟨m25, Q26, rfl⟩
   have O28 := Hold.nm (O.retC Q26 vfs_nil)
   refine ⟨_, rfl, ?_⟩
   refine split_ne_e e (fun c34 e => ?_) (fun c34 e => ?_)
   · cases e
     exact ⟨_, O28.pick [], rfl⟩
   · obtain ⟨A29, c30, q31, k32, r33⟩ := T_Program.g6 e_1
     refine ⟨_, ldk (k := 6) (Sub.refl _) (O28.all 0 rfl) q31, _, _, _, rfl, ?_⟩
     exact (tr_Right.l3_k.all e) (O28.pick [0]).nm e_1 rfl k32 r33
theorem tr_Right.l2_k.all {p : tr_Right.l2_k.Pt} {r : (Int)} (e : tr_Right.l2_k.go p = some r) : tr_Right.l2_k.I p r := fixF_ind (β := fun _ => (Int)) tr_Right.l2_k.mono (I := tr_Right.l2_k.I) (fun go ih p r e => match p with
 | .l2 y_1 a_88 x_89 x_90 => tr_Right.l2_k.step_l2 go ih y_1 a_88 x_89 x_90 r e
 ) e
inductive tr_Right.l1_k.Pt where
 | l1 (y_1 : T_Program) (a_59 : List T_Use) (x_60 : Int) (x_61 : Int)
noncomputable def tr_Right.l1_k.body (go : (p : tr_Right.l1_k.Pt) → Option (Int)) : (p : tr_Right.l1_k.Pt) → Option (Int)
 | .l1 y_1 a_59 x_60 x_61 => if x_61 < x_60 then (Option.bind (gi a_59 x_61) fun y1 => Option.bind (tk_IsLow y1.Name) fun y14 => if y14 = true then (if y1.Low < (0 : Int) then (some ((3 : Int))) else (if y1.Low > y1.High then (some ((3 : Int))) else (if y1.High > (1000000 : Int) then (some ((3 : Int))) else ((go (.l1 y_1 a_59 x_60 (IntKind.wrap .i64 (x_61 + (1 : Int))))))))) else (some ((3 : Int)))) else ((tr_Right.l2 y_1 y_1.Datas (((List.length y_1.Datas) : Nat) : Int) (0 : Int)))
theorem tr_Right.l1_k.mono : MonoF (β := fun _ => (Int)) tr_Right.l1_k.body := fun f g hfg p => match p with
 | .l1 y_1 a_59 x_60 x_61 => LeO.ite (LeO.bind (LeO.refl _) fun y1 => LeO.bind (LeO.refl _) fun y14 => LeO.ite (LeO.ite (LeO.refl _) (LeO.ite (LeO.refl _) (LeO.ite (LeO.refl _) ((hfg _))))) (LeO.refl _)) ((LeO.refl _))
noncomputable def tr_Right.l1_k.go (p : tr_Right.l1_k.Pt) : Option (Int) := fixF (β := fun _ => (Int)) tr_Right.l1_k.body p
noncomputable def tr_Right.l1 (y_1 a_59 x_60 x_61) := tr_Right.l1_k.go (.l1 y_1 a_59 x_60 x_61)
theorem tr_Right.l1_eq (y_1 a_59 x_60 x_61) : tr_Right.l1 y_1 a_59 x_60 x_61 = if x_61 < x_60 then (Option.bind (gi a_59 x_61) fun y1 => Option.bind (tk_IsLow y1.Name) fun y14 => if y14 = true then (if y1.Low < (0 : Int) then (some ((3 : Int))) else (if y1.Low > y1.High then (some ((3 : Int))) else (if y1.High > (1000000 : Int) then (some ((3 : Int))) else ((tr_Right.l1 y_1 a_59 x_60 (IntKind.wrap .i64 (x_61 + (1 : Int)))))))) else (some ((3 : Int)))) else ((tr_Right.l2 y_1 y_1.Datas (((List.length y_1.Datas) : Nat) : Int) (0 : Int))) := fixF_eq tr_Right.l1_k.mono _
def tr_Right.l1_k.I : (p : tr_Right.l1_k.Pt) → (Int) → Prop
 | .l1 y_1 a_59 x_60 x_61, r => ∀ {W h0 m0 h m bk_1 cs_1 A_59 n_59 c_59} (O : Hold W h0 m0 h m [rV bk_1 29 cs_1]) (e_1 : T_Program.E m y_1 cs_1) (ne_59 : n_59 = List.length a_59) (k_59 : List.length a_59 ≤ c_59) (r_59 : Rd 3 T_Use.E m A_59 a_59), f4.l1 (tr_Right.post W h0 m0 r) (⟨bk_1, 0, none⟩ : Addr) A_59 n_59 c_59 x_60 x_61 h
set_option maxHeartbeats 4000000 in
theorem tr_Right.l1_k.step_l1 (go : (p : tr_Right.l1_k.Pt) → Option (Int)) (ih : ∀ p r, go p = some r → tr_Right.l1_k.I p r) (y_1 a_59 x_60 x_61) (r) (e : tr_Right.l1_k.body go (.l1 y_1 a_59 x_60 x_61) = some r) : tr_Right.l1_k.I (.l1 y_1 a_59 x_60 x_61) r := by
 unfold tr_Right.l1_k.body at e
 intro W h0 m0 h m bk_1 cs_1 A_59 n_59 c_59 O e_1 ne_59 k_59 r_59
 subst ne_59
 refine f4.l1_in ?_
 unfold f4.l1T
 refine split_dec_e e (fun c30 e => ?_) (fun c30 e => ?_)
 · obtain ⟨y1, g2, e⟩ := bind_e e
   refine r_59.addr rfl g2 fun a3 cs4 ha5 hc6 he7 => ?_
   refine ⟨_, ldAn O.s hc6 rfl, ?_⟩
   refine O.new fun h8 x9 O10 => ?_
   refine ⟨_, rfl, (T_Use.T.len _ _ _ he7), ?_⟩
   refine O10.stA 1 rfl (T_Use.T.len _ _ _ he7) (T_Use.T.flat _ _ _ he7) fun h12 O13 => ?_
   refine ⟨_, ld0 (Sub.refl _) (O13.all 1 rfl) (T_Use.g0 he7), _, rfl, ?_⟩
   obtain ⟨y14, g15, e⟩ := bind_e e
   refine (tk_IsLow.walk (Hold.start (W := No) O13.s)  g15).mono ?_
   rintro _ h16 ⟨m17, Q18, rfl⟩
   have O20 := Hold.nm (O13.retC Q18 vfs_nil)
   refine ⟨_, rfl, ?_⟩
   refine split_not ?_
   refine split_any_e e (fun c24 e => ?_) (fun c24 e => ?_)
   · refine ⟨_, ldk (k := 1) (Sub.refl _) (O20.all 1 rfl) (T_Use.g1 he7), _, rfl, ?_⟩
     refine split_dec_e e (fun c23 e => ?_) (fun c23 e => ?_)
     · cases e
       exact ⟨_, O20.pick [], rfl⟩
     · refine ⟨_, ldk (k := 1) (Sub.refl _) (O20.all 1 rfl) (T_Use.g1 he7), _, rfl, ?_⟩
       refine ⟨_, ldk (k := 2) (Sub.refl _) (O20.all 1 rfl) (T_Use.g2 he7), _, rfl, ?_⟩
       refine split_dec_e e (fun c22 e => ?_) (fun c22 e => ?_)
       · cases e
         exact ⟨_, O20.pick [], rfl⟩
       · refine ⟨_, ldk (k := 2) (Sub.refl _) (O20.all 1 rfl) (T_Use.g2 he7), _, rfl, ?_⟩
         refine split_dec_e e (fun c21 e => ?_) (fun c21 e => ?_)
         · cases e
           exact ⟨_, O20.pick [], rfl⟩
         · exact (ih _ _ e) (O20.pick [0]).nm e_1 rfl k_59 r_59
   · cases e
     exact ⟨_, O20.pick [], rfl⟩
 · obtain ⟨A25, c26, q27, k28, r29⟩ := T_Program.g3 e_1
   refine ⟨_, ldk (k := 3) (Sub.refl _) (O.all 0 rfl) q27, _, _, _, rfl, ?_⟩
   exact (tr_Right.l2_k.all e) (O.pick [0]).nm e_1 rfl k28 r29
theorem tr_Right.l1_k.all {p : tr_Right.l1_k.Pt} {r : (Int)} (e : tr_Right.l1_k.go p = some r) : tr_Right.l1_k.I p r := fixF_ind (β := fun _ => (Int)) tr_Right.l1_k.mono (I := tr_Right.l1_k.I) (fun go ih p r e => match p with
 | .l1 y_1 a_59 x_60 x_61 => tr_Right.l1_k.step_l1 go ih y_1 a_59 x_60 x_61 r e
 ) e
noncomputable def tr_Right.j0 (y_1 : T_Program) : Option (Int) :=
 (tr_Right.l1 y_1 y_1.Uses (((List.length y_1.Uses) : Nat) : Int) (0 : Int))
theorem tr_Right.j0.walk {W h0 m0 h m bk_1 cs_1 y_1} (O : Hold W h0 m0 h m [rV bk_1 29 cs_1]) (e_1 : T_Program.E m y_1 cs_1) {r} (e : tr_Right.j0 y_1 = some r) : f4.j0 (tr_Right.post W h0 m0 r) (⟨bk_1, 0, none⟩ : Addr) h := by
 unfold tr_Right.j0 at e
 refine f4.j0_in ?_
 unfold f4.j0T
 obtain ⟨A1, c2, q3, k4, r5⟩ := T_Program.g2 e_1
 refine ⟨_, ldk (k := 2) (Sub.refl _) (O.all 0 rfl) q3, _, _, _, rfl, ?_⟩
 exact (tr_Right.l1_k.all e) (O.pick [0]).nm e_1 rfl k4 r5
inductive tr_Right.l0_k.Pt where
 | l0 (y_1 : T_Program) (a_35 : List Int) (x_36 : Int) (x_37 : Int)
noncomputable def tr_Right.l0_k.body (go : (p : tr_Right.l0_k.Pt) → Option (Int)) : (p : tr_Right.l0_k.Pt) → Option (Int)
 | .l0 y_1 a_35 x_36 x_37 => if x_37 < x_36 then (Option.bind (gi a_35 x_37) fun y1 => if y1 > (40 : Int) then (some ((2 : Int))) else ((go (.l0 y_1 a_35 x_36 (IntKind.wrap .i64 (x_37 + (1 : Int))))))) else (Option.bind (tk_IsLow y_1.Name) fun y9 => if y9 = true then (if y_1.Version < (0 : Int) then (some ((3 : Int))) else (if y_1.Version > (1000000 : Int) then (some ((3 : Int))) else ((tr_Right.j0 y_1)))) else (some ((3 : Int))))
theorem tr_Right.l0_k.mono : MonoF (β := fun _ => (Int)) tr_Right.l0_k.body := fun f g hfg p => match p with
 | .l0 y_1 a_35 x_36 x_37 => LeO.ite (LeO.bind (LeO.refl _) fun y1 => LeO.ite (LeO.refl _) ((hfg _))) (LeO.bind (LeO.refl _) fun y9 => LeO.ite (LeO.ite (LeO.refl _) (LeO.ite (LeO.refl _) ((LeO.refl _)))) (LeO.refl _))
noncomputable def tr_Right.l0_k.go (p : tr_Right.l0_k.Pt) : Option (Int) := fixF (β := fun _ => (Int)) tr_Right.l0_k.body p
noncomputable def tr_Right.l0 (y_1 a_35 x_36 x_37) := tr_Right.l0_k.go (.l0 y_1 a_35 x_36 x_37)
theorem tr_Right.l0_eq (y_1 a_35 x_36 x_37) : tr_Right.l0 y_1 a_35 x_36 x_37 = if x_37 < x_36 then (Option.bind (gi a_35 x_37) fun y1 => if y1 > (40 : Int) then (some ((2 : Int))) else ((tr_Right.l0 y_1 a_35 x_36 (IntKind.wrap .i64 (x_37 + (1 : Int)))))) else (Option.bind (tk_IsLow y_1.Name) fun y9 => if y9 = true then (if y_1.Version < (0 : Int) then (some ((3 : Int))) else (if y_1.Version > (1000000 : Int) then (some ((3 : Int))) else ((tr_Right.j0 y_1)))) else (some ((3 : Int)))) := fixF_eq tr_Right.l0_k.mono _
def tr_Right.l0_k.I : (p : tr_Right.l0_k.Pt) → (Int) → Prop
 | .l0 y_1 a_35 x_36 x_37, r => ∀ {W h0 m0 h m bk_1 cs_1 A_35 n_35 c_35} (O : Hold W h0 m0 h m [rV bk_1 29 cs_1, rR (aE (tell_int .i64)) A_35 c_35 a_35]) (e_1 : T_Program.E m y_1 cs_1) (ne_35 : n_35 = List.length a_35), f4.l0 (tr_Right.post W h0 m0 r) (⟨bk_1, 0, none⟩ : Addr) A_35 n_35 c_35 x_36 x_37 h
theorem tr_Right.l0_k.step_l0 (go : (p : tr_Right.l0_k.Pt) → Option (Int)) (ih : ∀ p r, go p = some r → tr_Right.l0_k.I p r) (y_1 a_35 x_36 x_37) (r) (e : tr_Right.l0_k.body go (.l0 y_1 a_35 x_36 x_37) = some r) : tr_Right.l0_k.I (.l0 y_1 a_35 x_36 x_37) r := by
 unfold tr_Right.l0_k.body at e
 intro W h0 m0 h m bk_1 cs_1 A_35 n_35 c_35 O e_1 ne_35
 subst ne_35
 refine f4.l0_in ?_
 unfold f4.l0T
 refine split_dec_e e (fun c19 e => ?_) (fun c19 e => ?_)
 · obtain ⟨y1, g2, e⟩ := bind_e e
   refine (O.os 1 rfl).addr rfl g2 fun a3 cs4 ha5 hc6 he7 => ?_
   obtain rfl : cs4 = [(Value.int .i64 y1)] := he7
   refine ⟨_, ld0 (Sub.refl _) hc6 rfl, _, rfl, ?_⟩
   refine split_dec_e e (fun c8 e => ?_) (fun c8 e => ?_)
   · cases e
     exact ⟨_, O.pick [], rfl⟩
   · exact (ih _ _ e) (O.pick [0, 1]).nm e_1 rfl
 · refine ⟨_, ld0 (Sub.refl _) (O.all 0 rfl) (T_Program.g0 e_1), _, rfl, ?_⟩
   obtain ⟨y9, g10, e⟩ := bind_e e
   refine (tk_IsLow.walk (Hold.start (W := No) O.s)  g10).mono ?_
   rintro _ h11 ⟨m12, Q13, rfl⟩
   have O15 := Hold.nm (O.retC Q13 vfs_nil)
   refine ⟨_, rfl, ?_⟩
   refine split_not ?_
   refine split_any_e e (fun c18 e => ?_) (fun c18 e => ?_)
   · refine ⟨_, ldk (k := 1) (Sub.refl _) (O15.all 0 rfl) (T_Program.g1 e_1), _, rfl, ?_⟩
     refine split_dec_e e (fun c17 e => ?_) (fun c17 e => ?_)
     · cases e
       exact ⟨_, O15.pick [], rfl⟩
     · refine ⟨_, ldk (k := 1) (Sub.refl _) (O15.all 0 rfl) (T_Program.g1 e_1), _, rfl, ?_⟩
       refine split_dec_e e (fun c16 e => ?_) (fun c16 e => ?_)
       · cases e
         exact ⟨_, O15.pick [], rfl⟩
       · exact tr_Right.j0.walk (O15.pick [0]).nm e_1 e
   · cases e
     exact ⟨_, O15.pick [], rfl⟩
theorem tr_Right.l0_k.all {p : tr_Right.l0_k.Pt} {r : (Int)} (e : tr_Right.l0_k.go p = some r) : tr_Right.l0_k.I p r := fixF_ind (β := fun _ => (Int)) tr_Right.l0_k.mono (I := tr_Right.l0_k.I) (fun go ih p r e => match p with
 | .l0 y_1 a_35 x_36 x_37 => tr_Right.l0_k.step_l0 go ih y_1 a_35 x_36 x_37 r e
 ) e
noncomputable def tr_Right (y_0 : T_Program) : Option (Int) :=
 (tr_Right.l0 y_0 ([(((List.length y_0.Uses) : Nat) : Int), (((List.length y_0.Datas) : Nat) : Int), (((List.length y_0.Traits) : Nat) : Int), (((List.length y_0.Impls) : Nat) : Int), (((List.length y_0.Funcs) : Nat) : Int), (((List.length y_0.Actors) : Nat) : Int)] : List Int) ((6 : Nat) : Int) (0 : Int))
theorem tr_Right.walk {W h m cs_0 y_0} (O : Hold W h m h m []) (e_0 : T_Program.E m y_0 cs_0) {r} (e : tr_Right y_0 = some r) : Run Tryz.prog 4 #[Value.agg cs_0.toArray] h (tr_Right.post W h m r) := by
 unfold tr_Right at e
 refine f4.run ?_
 unfold f4.runT
 refine O.new fun h1 x2 O3 => ?_
 obtain ⟨A5, c6, q7, k8, r9⟩ := T_Program.g2 e_0
 refine ⟨_, ldk (k := 2) (Sub.refl _) (O3.all 0 rfl) q7, _, _, _, rfl, ?_⟩
 obtain ⟨A10, c11, q12, k13, r14⟩ := T_Program.g3 e_0
 refine ⟨_, ldk (k := 3) (Sub.refl _) (O3.all 0 rfl) q12, _, _, _, rfl, ?_⟩
 obtain ⟨A15, c16, q17, k18, r19⟩ := T_Program.g4 e_0
 refine ⟨_, ldk (k := 4) (Sub.refl _) (O3.all 0 rfl) q17, _, _, _, rfl, ?_⟩
 obtain ⟨A20, c21, q22, k23, r24⟩ := T_Program.g5 e_0
 refine ⟨_, ldk (k := 5) (Sub.refl _) (O3.all 0 rfl) q22, _, _, _, rfl, ?_⟩
 obtain ⟨A25, c26, q27, k28, r29⟩ := T_Program.g6 e_0
 refine ⟨_, ldk (k := 6) (Sub.refl _) (O3.all 0 rfl) q27, _, _, _, rfl, ?_⟩
 obtain ⟨A30, c31, q32, k33, r34⟩ := T_Program.g7 e_0
 refine ⟨_, ldk (k := 7) (Sub.refl _) (O3.all 0 rfl) q32, _, _, _, rfl, ?_⟩
 refine O3.new fun h35 x36 O37 => ?_
 have O39 := O37.rowE (l := ([(((List.length y_0.Uses) : Nat) : Int), (((List.length y_0.Datas) : Nat) : Int), (((List.length y_0.Traits) : Nat) : Int), (((List.length y_0.Impls) : Nat) : Int), (((List.length y_0.Funcs) : Nat) : Int), (((List.length y_0.Actors) : Nat) : Int)] : List Int)) 1 rfl (tell_int .i64) (show CsE _ _ _ _ _ from (CsE.cons (c1 := [(Value.int .i64 (((List.length y_0.Uses) : Nat) : Int))]) rfl rfl (CsE.cons (c1 := [(Value.int .i64 (((List.length y_0.Datas) : Nat) : Int))]) rfl rfl (CsE.cons (c1 := [(Value.int .i64 (((List.length y_0.Traits) : Nat) : Int))]) rfl rfl (CsE.cons (c1 := [(Value.int .i64 (((List.length y_0.Impls) : Nat) : Int))]) rfl rfl (CsE.cons (c1 := [(Value.int .i64 (((List.length y_0.Funcs) : Nat) : Int))]) rfl rfl (CsE.cons (c1 := [(Value.int .i64 (((List.length y_0.Actors) : Nat) : Int))]) rfl rfl CsE.nil))))))) rfl
 have O40 := O39.nm
 exact (tr_Right.l0_k.all e) (O40.pick [0, 1]).nm e_0 rfl
def rj_must.post (W : Nat → Prop) (bkio0 : Nat) (h0 m0 : Heap) (r : T_jd) (v : Value) (h : Heap) : Prop := ∃ m csio0, Hold W h0 m0 h m [rV bkio0 57 csio0] ∧ v = .tuple #[] ∧ T_jd.E m r csio0
noncomputable def rj_must.j0 (y_io0 : T_jd) (x_2 : Int) (b_14 : Bool) : Option (T_jd) :=
 if b_14 = true then (some (({ y_io0 with e_ := x_2 }))) else (some (y_io0))
theorem rj_must.j0.walk {W h0 m0 h m bk_io0 cs_io0 y_io0 x_2 b_14} (O : Hold W h0 m0 h m [rV bk_io0 57 cs_io0]) (e_io0 : T_jd.E m y_io0 cs_io0) {r} (e : rj_must.j0 y_io0 x_2 b_14 = some r) : f31.j0 (rj_must.post W bk_io0 h0 m0 r) (⟨bk_io0, 0, none⟩ : Addr) x_2 b_14 h := by
 unfold rj_must.j0 at e
 refine f31.j0_in ?_
 unfold f31.j0T
 refine split_any_e e (fun c6 e => ?_) (fun c6 e => ?_)
 · refine O.stE0 0 rfl (lt_len (T_jd.T.len _ _ _ e_io0) (by decide)) trivial (T_jd.s0 e_io0 x_2) fun h1 cs3 e4 O2 => ?_
   have O5 := O2.nm
   cases e
   exact ⟨_, _, O5.pick [0], rfl, e4⟩
 · cases e
   exact ⟨_, _, O.pick [0], rfl, e_io0⟩
noncomputable def rj_must (y_0 : T_jd) (b_1 : Bool) (x_2 : Int) : Option (T_jd) :=
 if y_0.e_ = (0 : Int) then ((rj_must.j0 y_0 x_2 (!b_1))) else ((rj_must.j0 y_0 x_2 false))
theorem rj_must.walk {W h m bkio0 cs_0 y_0 b_1 x_2} (O : Hold W h m h m [rV bkio0 57 cs_0]) (e_0 : T_jd.E m y_0 cs_0) {r} (e : rj_must y_0 b_1 x_2 = some r) : Run Tryz.prog 31 #[Value.pointer (some ⟨bkio0, 0, none⟩), Value.bool b_1, Value.int .i64 x_2] h (rj_must.post W bkio0 h m r) := by
 unfold rj_must at e
 refine f31.run ?_
 unfold f31.runT
 refine ⟨_, ld0 (Sub.refl _) (O.all 0 rfl) (T_jd.g0 e_0), _, rfl, ?_⟩
 refine split_eq_e e (fun c1 e => ?_) (fun c1 e => ?_)
 · exact rj_must.j0.walk (O.pick [0]).nm e_0 e
 · exact rj_must.j0.walk (O.pick [0]).nm e_0 e
def rj_few.post (W : Nat → Prop) (bkio0 : Nat) (h0 m0 : Heap) (r : T_jd) (v : Value) (h : Heap) : Prop := ∃ m csio0, Hold W h0 m0 h m [rV bkio0 57 csio0] ∧ v = .tuple #[] ∧ T_jd.E m r csio0
noncomputable def rj_few (y_0 : T_jd) (b_1 : Bool) : Option (T_jd) :=
 Option.bind (rj_must y_0 b_1 (2 : Int)) fun y1 => some (y1)
theorem rj_few.walk {W h m bkio0 cs_0 y_0 b_1} (O : Hold W h m h m [rV bkio0 57 cs_0]) (e_0 : T_jd.E m y_0 cs_0) {r} (e : rj_few y_0 b_1 = some r) : Run Tryz.prog 11 #[Value.pointer (some ⟨bkio0, 0, none⟩), Value.bool b_1] h (rj_few.post W bkio0 h m r) := by
 unfold rj_few at e
 refine f11.run ?_
 unfold f11.runT
 obtain ⟨y1, g2, e⟩ := bind_e e
 obtain ⟨W7, P8, B9, C10⟩ := O.callC [0]
 refine (rj_must.walk P8 e_0 g2).mono ?_
 rintro _ h3 ⟨m4, cs12, Q5, rfl, he13⟩
 replace he13 : T_jd.E m y1 cs12 := T_jd.keep he13
 have O14 := Hold.nm (C10 Q5 (vfs_cons rV_vf vfs_nil))
 refine ⟨rfl, ?_⟩
 cases e
 exact ⟨_, _, O14.pick [1], rfl, he13⟩
def rj_form.post (W : Nat → Prop) (bkio0 : Nat) (h0 m0 : Heap) (r : T_jd) (v : Value) (h : Heap) : Prop := ∃ m csio0, Hold W h0 m0 h m [rV bkio0 57 csio0] ∧ v = .tuple #[] ∧ T_jd.E m r csio0
noncomputable def rj_form (y_0 : T_jd) (b_1 : Bool) : Option (T_jd) :=
 Option.bind (rj_must y_0 b_1 (3 : Int)) fun y1 => some (y1)
theorem rj_form.walk {W h m bkio0 cs_0 y_0 b_1} (O : Hold W h m h m [rV bkio0 57 cs_0]) (e_0 : T_jd.E m y_0 cs_0) {r} (e : rj_form y_0 b_1 = some r) : Run Tryz.prog 12 #[Value.pointer (some ⟨bkio0, 0, none⟩), Value.bool b_1] h (rj_form.post W bkio0 h m r) := by
 unfold rj_form at e
 refine f12.run ?_
 unfold f12.runT
 obtain ⟨y1, g2, e⟩ := bind_e e
 obtain ⟨W7, P8, B9, C10⟩ := O.callC [0]
 refine (rj_must.walk P8 e_0 g2).mono ?_
 rintro _ h3 ⟨m4, cs12, Q5, rfl, he13⟩
 replace he13 : T_jd.E m y1 cs12 := T_jd.keep he13
 have O14 := Hold.nm (C10 Q5 (vfs_cons rV_vf vfs_nil))
 refine ⟨rfl, ?_⟩
 cases e
 exact ⟨_, _, O14.pick [1], rfl, he13⟩
def slices_Index_36.post (W : Nat → Prop) (h0 m0 : Heap) (r : Int) (v : Value) (h : Heap) : Prop := ∃ m , Hold W h0 m0 h m [] ∧ v = .int .i64 r
inductive slices_Index_36.l0_k.Pt where
 | l0 (a_0 : List ByteArray) (s_1 : ByteArray) (x_7 : Int) (x_8 : Int)
noncomputable def slices_Index_36.l0_k.body (go : (p : slices_Index_36.l0_k.Pt) → Option (Int)) : (p : slices_Index_36.l0_k.Pt) → Option (Int)
 | .l0 a_0 s_1 x_7 x_8 => if x_8 < x_7 then (Option.bind (gi a_0 x_8) fun y1 => if s_1 = y1 then (some (x_8)) else ((go (.l0 a_0 s_1 x_7 (IntKind.wrap .i64 (x_8 + (1 : Int))))))) else (some ((-1 : Int)))
theorem slices_Index_36.l0_k.mono : MonoF (β := fun _ => (Int)) slices_Index_36.l0_k.body := fun f g hfg p => match p with
 | .l0 a_0 s_1 x_7 x_8 => LeO.ite (LeO.bind (LeO.refl _) fun y1 => LeO.ite (LeO.refl _) ((hfg _))) (LeO.refl _)
noncomputable def slices_Index_36.l0_k.go (p : slices_Index_36.l0_k.Pt) : Option (Int) := fixF (β := fun _ => (Int)) slices_Index_36.l0_k.body p
noncomputable def slices_Index_36.l0 (a_0 s_1 x_7 x_8) := slices_Index_36.l0_k.go (.l0 a_0 s_1 x_7 x_8)
theorem slices_Index_36.l0_eq (a_0 s_1 x_7 x_8) : slices_Index_36.l0 a_0 s_1 x_7 x_8 = if x_8 < x_7 then (Option.bind (gi a_0 x_8) fun y1 => if s_1 = y1 then (some (x_8)) else ((slices_Index_36.l0 a_0 s_1 x_7 (IntKind.wrap .i64 (x_8 + (1 : Int)))))) else (some ((-1 : Int))) := fixF_eq slices_Index_36.l0_k.mono _
def slices_Index_36.l0_k.I : (p : slices_Index_36.l0_k.Pt) → (Int) → Prop
 | .l0 a_0 s_1 x_7 x_8, r => ∀ {W h0 m0 h m A_0 n_0 c_0} (O : Hold W h0 m0 h m []) (ne_0 : n_0 = List.length a_0) (k_0 : List.length a_0 ≤ c_0) (r_0 : Rd 1 eStr m A_0 a_0), f36.l0 (slices_Index_36.post W h0 m0 r) A_0 n_0 c_0 s_1 x_7 x_8 h
theorem slices_Index_36.l0_k.step_l0 (go : (p : slices_Index_36.l0_k.Pt) → Option (Int)) (ih : ∀ p r, go p = some r → slices_Index_36.l0_k.I p r) (a_0 s_1 x_7 x_8) (r) (e : slices_Index_36.l0_k.body go (.l0 a_0 s_1 x_7 x_8) = some r) : slices_Index_36.l0_k.I (.l0 a_0 s_1 x_7 x_8) r := by
 unfold slices_Index_36.l0_k.body at e
 intro W h0 m0 h m A_0 n_0 c_0 O ne_0 k_0 r_0
 subst ne_0
 refine f36.l0_in ?_
 unfold f36.l0T
 refine split_dec_e e (fun c9 e => ?_) (fun c9 e => ?_)
 · obtain ⟨y1, g2, e⟩ := bind_e e
   refine r_0.addr rfl g2 fun a3 cs4 ha5 hc6 he7 => ?_
   obtain rfl : cs4 = [(Value.string y1)] := he7
   refine ⟨_, ld0 O.s hc6 rfl, _, rfl, ?_⟩
   try rw [ba_list s_1 y1]
   refine split_dec_e e (fun c8 e => ?_) (fun c8 e => ?_)
   · cases e
     exact ⟨_, O.pick [], rfl⟩
   · exact (ih _ _ e) (O.pick []).nm rfl k_0 r_0
 · cases e
   exact ⟨_, O.pick [], rfl⟩
theorem slices_Index_36.l0_k.all {p : slices_Index_36.l0_k.Pt} {r : (Int)} (e : slices_Index_36.l0_k.go p = some r) : slices_Index_36.l0_k.I p r := fixF_ind (β := fun _ => (Int)) slices_Index_36.l0_k.mono (I := slices_Index_36.l0_k.I) (fun go ih p r e => match p with
 | .l0 a_0 s_1 x_7 x_8 => slices_Index_36.l0_k.step_l0 go ih a_0 s_1 x_7 x_8 r e
 ) e
noncomputable def slices_Index_36 (a_0 : List ByteArray) (s_1 : ByteArray) : Option (Int) :=
 (slices_Index_36.l0 a_0 s_1 (((List.length a_0) : Nat) : Int) (0 : Int))
theorem slices_Index_36.walk {W h m A_0 n_0 c_0 a_0 s_1} (O : Hold W h m h m []) (ne_0 : n_0 = List.length a_0) (k_0 : List.length a_0 ≤ c_0) (r_0 : Rd 1 eStr m A_0 a_0) {r} (e : slices_Index_36 a_0 s_1 = some r) : Run Tryz.prog 36 #[Value.slice A_0 n_0 c_0, Value.string s_1] h (slices_Index_36.post W h m r) := by
 unfold slices_Index_36 at e
 subst ne_0
 refine f36.run ?_
 unfold f36.runT
 exact (slices_Index_36.l0_k.all e) (O.pick []).nm rfl k_0 r_0
def slices_Contains_20.post (W : Nat → Prop) (h0 m0 : Heap) (r : Bool) (v : Value) (h : Heap) : Prop := ∃ m , Hold W h0 m0 h m [] ∧ v = .bool r
noncomputable def slices_Contains_20 (a_0 : List ByteArray) (s_1 : ByteArray) : Option (Bool) :=
 Option.bind (slices_Index_36 a_0 s_1) fun y1 => some ((decide (y1 ≥ (0 : Int))))
theorem slices_Contains_20.walk {W h m A_0 n_0 c_0 a_0 s_1} (O : Hold W h m h m []) (ne_0 : n_0 = List.length a_0) (k_0 : List.length a_0 ≤ c_0) (r_0 : Rd 1 eStr m A_0 a_0) {r} (e : slices_Contains_20 a_0 s_1 = some r) : Run Tryz.prog 20 #[Value.slice A_0 n_0 c_0, Value.string s_1] h (slices_Contains_20.post W h m r) := by
 unfold slices_Contains_20 at e
 subst ne_0
 refine f20.run ?_
 unfold f20.runT
 obtain ⟨y1, g2, e⟩ := bind_e e
 refine (slices_Index_36.walk (Hold.start (W := No) O.s) rfl k_0 r_0 g2).mono ?_
 rintro _ h3 ⟨m4, Q5, rfl⟩
 have O7 := Hold.nm (O.retC Q5 vfs_nil)
 refine ⟨_, rfl, ?_⟩
 cases e
 exact ⟨_, O7.pick [], rfl⟩
theorem slices_Contains_20.val {l : List ByteArray} (v : ByteArray) (hl : l.length ≤ 4611686018427387904) : slices_Contains_20 l v = some (l.any fun y => decide (v = y)) := contains_any (fun a p n i => slices_Index_36.l0_eq a p n i) (fun _ _ => rfl) (fun _ _ => rfl) v hl
def strings_IndexByte.post (W : Nat → Prop) (h0 m0 : Heap) (r : Int) (v : Value) (h : Heap) : Prop := ∃ m , Hold W h0 m0 h m [] ∧ v = .int .i64 r
noncomputable def strings_IndexByte (x0 : ByteArray) (x1 : Int) : Option Int := some (ibyteB x0 x1)
theorem strings_IndexByte.walk {W : Nat → Prop} {h m : Heap} {x0 : ByteArray} {x1 : Int} (O : Hold W h m h m []) {r : Int} (e : strings_IndexByte x0 x1 = some r) : Run Tryz.prog 53 #[Value.string x0, Value.int .u8 x1] h (strings_IndexByte.post W h m r) := by
 unfold strings_IndexByte at e
 exact (ibyte_run Tryz.strings_IndexByte O e).mono fun v h' hp => hp
def strings_Trim.post (W : Nat → Prop) (h0 m0 : Heap) (r : ByteArray) (v : Value) (h : Heap) : Prop := ∃ m , Hold W h0 m0 h m [] ∧ v = .string r
noncomputable def strings_Trim (x0 x1 : ByteArray) : Option ByteArray := if x0.size ≤ 9223372036854775807 ∧ x1.size < 4294967281 ∧ ascii x1 = true then some (trimB x0 x1) else none
theorem strings_Trim.walk {W : Nat → Prop} {h m : Heap} {x0 x1 : ByteArray} (O : Hold W h m h m []) {r : ByteArray} (e : strings_Trim x0 x1 = some r) : Run Tryz.prog 54 #[Value.string x0, Value.string x1] h (strings_Trim.post W h m r) := by
 unfold strings_Trim at e
 exact (trim_run Tryz.strings_Trim O e).mono fun v h' hp => hp
def r2_named.post (W : Nat → Prop) (h0 m0 : Heap) (r : Bool) (v : Value) (h : Heap) : Prop := ∃ m , Hold W h0 m0 h m [] ∧ v = .bool r
noncomputable def r2_named (s_0 : ByteArray) (s_1 : ByteArray) : Option (Bool) :=
 if s_0 = (ByteArray.mk #[]) then (some (false)) else (if ((ByteArray.size s_0 : Nat) : Int) < (17 : Int) then (Option.bind (gb s_0 (0 : Int)) fun y1 => Option.bind (strings_IndexByte s_1 y1) fun y7 => if y7 ≥ (0 : Int) then (Option.bind (strings_Trim s_0 (ByteArray.mk #[97, 98, 99, 100, 101, 102, 103, 104, 105, 106, 107, 108, 109, 110, 111, 112, 113, 114, 115, 116, 117, 118, 119, 120, 121, 122, 65, 66, 67, 68, 69, 70, 71, 72, 73, 74, 75, 76, 77, 78, 79, 80, 81, 82, 83, 84, 85, 86, 87, 88, 89, 90, 48, 49, 50, 51, 52, 53, 54, 55, 56, 57, 95])) fun y14 => some ((decide (y14 = (ByteArray.mk #[]))))) else (some (false))) else (some (false)))
theorem r2_named.walk {W h m s_0 s_1} (O : Hold W h m h m []) {r} (e : r2_named s_0 s_1 = some r) : Run Tryz.prog 32 #[Value.string s_0, Value.string s_1] h (r2_named.post W h m r) := by
 unfold r2_named at e
 refine f32.run ?_
 unfold f32.runT
 try rw [ba_list s_0 (ByteArray.mk #[])]
 refine split_not ?_
 refine split_dec_e e (fun c23 e => ?_) (fun c23 e => ?_)
 · cases e
   exact ⟨_, O.pick [], rfl⟩
 · refine split_dec_e e (fun c22 e => ?_) (fun c22 e => ?_)
   · obtain ⟨y1, g2, e⟩ := bind_e e
     obtain ⟨q3, b4, q5, q6⟩ := gb_e g2
     refine ⟨q3, _, q5, ?_⟩
     try rw [← q6]
     obtain ⟨y7, g8, e⟩ := bind_e e
     refine (strings_IndexByte.walk (Hold.start (W := No) O.s)  g8).mono ?_
     rintro _ h9 ⟨m10, Q11, rfl⟩
     have O13 := Hold.nm (O.retC Q11 vfs_nil)
     refine ⟨_, rfl, ?_⟩
     refine split_dec_e e (fun c21 e => ?_) (fun c21 e => ?_)
     · obtain ⟨y14, g15, e⟩ := bind_e e
       refine (strings_Trim.walk (Hold.start (W := No) O13.s)  g15).mono ?_
       rintro _ h16 ⟨m17, Q18, rfl⟩
       have O20 := Hold.nm (O13.retC Q18 vfs_nil)
       refine ⟨_, rfl, ?_⟩
       try rw [ba_list y14 (ByteArray.mk #[])]
       cases e
       exact ⟨_, O20.pick [], rfl⟩
     · cases e
       exact ⟨_, O13.pick [], rfl⟩
   · cases e
     exact ⟨_, O.pick [], rfl⟩
def strings_Fields.post (W : Nat → Prop) (h0 m0 : Heap) (r : (List ByteArray)) (v : Value) (h : Heap) : Prop := ∃ m A0 n0 c0, Hold W h0 m0 h m [rR (aE tell_str) A0 c0 r] ∧ v = .slice A0 n0 c0 ∧ n0 = List.length r
noncomputable def strings_Fields (x0 : ByteArray) : Option (List ByteArray) := if x0.size < 4294967281 ∧ ascii x0 = true then some (fieldsB x0) else none
theorem strings_Fields.walk {W : Nat → Prop} {h m : Heap} {x0 : ByteArray} (O : Hold W h m h m []) (tab : TB m) {r : List ByteArray} (e : strings_Fields x0 = some r) : Run Tryz.prog 55 #[Value.string x0] h (strings_Fields.post W h m r) := by
 unfold strings_Fields at e
 exact (fields_run (by kernel_rfl) Tryz.strings_Fields O tab.2 e).mono fun v h' hp => hp
def r2_WordList.post (W : Nat → Prop) (h0 m0 : Heap) (r : (List ByteArray)) (v : Value) (h : Heap) : Prop := ∃ m A0 n0 c0, Hold W h0 m0 h m [rR (aE tell_str) A0 c0 r] ∧ v = .slice A0 n0 c0 ∧ n0 = List.length r
noncomputable def r2_WordList  : Option ((List ByteArray)) :=
 Option.bind (strings_Fields (ByteArray.mk #[97, 99, 116, 111, 114, 32, 97, 102, 116, 101, 114, 32, 97, 110, 100, 32, 97, 112, 112, 108, 121, 32, 98, 101, 99, 111, 109, 101, 32, 98, 111, 111, 108, 32, 99, 101, 108, 108, 32, 100, 97, 116, 97, 32, 101, 108, 115, 101, 32, 102, 97, 105, 108, 32, 102, 97, 108, 115, 101, 32, 102, 110, 32, 102, 111, 114, 32, 102, 117, 110, 32, 103, 101, 116, 32, 105, 102, 32, 105, 109, 112, 108, 32, 105, 110, 32, 105, 110, 116, 32, 108, 101, 116, 32, 108, 105, 110, 107, 32, 109, 97, 116, 99, 104, 32, 109, 111, 100, 117, 108, 101, 32, 110, 111, 116, 32, 111, 114, 32, 112, 117, 116, 32, 114, 101, 99, 101, 105, 118, 101, 32, 115, 97, 121, 32, 115, 101, 108, 102, 32, 115, 101, 110, 100, 32, 115, 112, 97, 119, 110, 32, 116, 101, 120, 116, 32, 116, 104, 101, 110, 32, 116, 114, 97, 105, 116, 32, 116, 114, 117, 101, 32, 117, 110, 105, 116, 32, 117, 115, 101, 32, 119, 97, 116, 99, 104])) fun y1 => some (y1)
theorem r2_WordList.walk {W h m} (O : Hold W h m h m []) (tab : TB m) {r} (e : r2_WordList  = some r) : Run Tryz.prog 33 #[] h (r2_WordList.post W h m r) := by
 unfold r2_WordList at e
 refine f33.run ?_
 unfold f33.runT
 obtain ⟨y1, g2, e⟩ := bind_e e
 refine (strings_Fields.walk (Hold.start (W := No) O.s) tab g2).mono ?_
 rintro _ h3 ⟨m4, A7, n8, c9, Q5, rfl, ne10⟩
 have O12 := Hold.nm (O.retC Q5 (vfs_cons (rR_vf (aE_vf (fun _ _ _ _ h => h))) vfs_nil))
 subst ne10
 refine ⟨_, _, _, rfl, ?_⟩
 cases e
 exact ⟨_, _, _, _, O12.pick [0], rfl, rfl⟩
def r2_Small.post (W : Nat → Prop) (h0 m0 : Heap) (r : Bool) (v : Value) (h : Heap) : Prop := ∃ m , Hold W h0 m0 h m [] ∧ v = .bool r
noncomputable def r2_Small (s_0 : ByteArray) : Option (Bool) :=
 if 0 ≤ (0 : Int) ∧ (0 : Int) ≤ (26 : Int) ∧ (26 : Int) ≤ ((ByteArray.size (ByteArray.mk #[97, 98, 99, 100, 101, 102, 103, 104, 105, 106, 107, 108, 109, 110, 111, 112, 113, 114, 115, 116, 117, 118, 119, 120, 121, 122, 65, 66, 67, 68, 69, 70, 71, 72, 73, 74, 75, 76, 77, 78, 79, 80, 81, 82, 83, 84, 85, 86, 87, 88, 89, 90, 48, 49, 50, 51, 52, 53, 54, 55, 56, 57, 95]) : Nat) : Int) then (Option.bind (r2_named s_0 (ByteArray.extract (ByteArray.mk #[97, 98, 99, 100, 101, 102, 103, 104, 105, 106, 107, 108, 109, 110, 111, 112, 113, 114, 115, 116, 117, 118, 119, 120, 121, 122, 65, 66, 67, 68, 69, 70, 71, 72, 73, 74, 75, 76, 77, 78, 79, 80, 81, 82, 83, 84, 85, 86, 87, 88, 89, 90, 48, 49, 50, 51, 52, 53, 54, 55, 56, 57, 95]) (Int.toNat (0 : Int)) (Int.toNat (26 : Int)))) fun y2 => if y2 = true then (Option.bind (r2_WordList ) fun y9 => Option.bind (slices_Contains_20 y9 s_0) fun y21 => some ((!y21))) else (some (false))) else none
theorem r2_Small.walk {W h m s_0} (O : Hold W h m h m []) (tab : TB m) {r} (e : r2_Small s_0 = some r) : Run Tryz.prog 13 #[Value.string s_0] h (r2_Small.post W h m r) := by
 unfold r2_Small at e
 refine f13.run ?_
 unfold f13.runT
 obtain ⟨g1, e⟩ := guard_e e
 refine ⟨g1.1, g1.2.1, g1.2.2, ?_⟩
 obtain ⟨y2, g3, e⟩ := bind_e e
 refine (r2_named.walk (Hold.start (W := No) O.s)  g3).mono ?_
 rintro _ h4 ⟨m5, Q6, rfl⟩
 have O8 := Hold.nm (O.retC Q6 vfs_nil)
 refine ⟨_, rfl, ?_⟩
 refine split_any_e e (fun c35 e => ?_) (fun c35 e => ?_)
 · obtain ⟨y9, g10, e⟩ := bind_e e
   refine (r2_WordList.walk (Hold.start (W := No) O8.s) tab g10).mono ?_
   rintro _ h11 ⟨m12, A15, n16, c17, Q13, rfl, ne18⟩
   have O20 := Hold.nm (O8.retC Q13 (vfs_cons (rR_vf (aE_vf (fun _ _ _ _ h => h))) vfs_nil))
   subst ne18
   refine ⟨_, _, _, rfl, ?_⟩
   obtain ⟨y21, g22, e⟩ := bind_e e
   obtain ⟨m27, u28, s33, ⟨⟨r31, k32⟩, _⟩, B29, C30⟩ := O20.lend0 [0]
   replace r31 : Rd 1 eStr m27 A15 y9 := r31
   replace k32 : List.length y9 ≤ c17 := k32
   refine (slices_Contains_20.walk (Hold.start (W := No) s33) rfl k32 r31 g22).mono ?_
   rintro _ h23 ⟨m24, Q25, rfl⟩
   have O34 := Hold.nm (C30 Q25 vfs_nil)
   refine ⟨_, rfl, ?_⟩
   cases e
   exact ⟨_, O34.pick [], rfl⟩
 · cases e
   exact ⟨_, O8.pick [], rfl⟩
def r2_plainNumber.post (W : Nat → Prop) (h0 m0 : Heap) (r : Bool) (v : Value) (h : Heap) : Prop := ∃ m , Hold W h0 m0 h m [] ∧ v = .bool r
noncomputable def r2_plainNumber (x_0 : Int) : Option (Bool) :=
 if x_0 ≥ (0 : Int) then (some ((decide (x_0 ≤ (1000000 : Int))))) else (some (false))
theorem r2_plainNumber.walk {W h m x_0} (O : Hold W h m h m []) {r} (e : r2_plainNumber x_0 = some r) : Run Tryz.prog 14 #[Value.int .i64 x_0] h (r2_plainNumber.post W h m r) := by
 unfold r2_plainNumber at e
 refine f14.run ?_
 unfold f14.runT
 refine split_dec_e e (fun c1 e => ?_) (fun c1 e => ?_)
 · cases e
   exact ⟨_, O.pick [], rfl⟩
 · cases e
   exact ⟨_, O.pick [], rfl⟩
def r2_Great.post (W : Nat → Prop) (h0 m0 : Heap) (r : Bool) (v : Value) (h : Heap) : Prop := ∃ m , Hold W h0 m0 h m [] ∧ v = .bool r
noncomputable def r2_Great (s_0 : ByteArray) : Option (Bool) :=
 if 0 ≤ (26 : Int) ∧ (26 : Int) ≤ (52 : Int) ∧ (52 : Int) ≤ ((ByteArray.size (ByteArray.mk #[97, 98, 99, 100, 101, 102, 103, 104, 105, 106, 107, 108, 109, 110, 111, 112, 113, 114, 115, 116, 117, 118, 119, 120, 121, 122, 65, 66, 67, 68, 69, 70, 71, 72, 73, 74, 75, 76, 77, 78, 79, 80, 81, 82, 83, 84, 85, 86, 87, 88, 89, 90, 48, 49, 50, 51, 52, 53, 54, 55, 56, 57, 95]) : Nat) : Int) then (Option.bind (r2_named s_0 (ByteArray.extract (ByteArray.mk #[97, 98, 99, 100, 101, 102, 103, 104, 105, 106, 107, 108, 109, 110, 111, 112, 113, 114, 115, 116, 117, 118, 119, 120, 121, 122, 65, 66, 67, 68, 69, 70, 71, 72, 73, 74, 75, 76, 77, 78, 79, 80, 81, 82, 83, 84, 85, 86, 87, 88, 89, 90, 48, 49, 50, 51, 52, 53, 54, 55, 56, 57, 95]) (Int.toNat (26 : Int)) (Int.toNat (52 : Int)))) fun y2 => some (y2)) else none
theorem r2_Great.walk {W h m s_0} (O : Hold W h m h m []) {r} (e : r2_Great s_0 = some r) : Run Tryz.prog 17 #[Value.string s_0] h (r2_Great.post W h m r) := by
 unfold r2_Great at e
 refine f17.run ?_
 unfold f17.runT
 obtain ⟨g1, e⟩ := guard_e e
 refine ⟨g1.1, g1.2.1, g1.2.2, ?_⟩
 obtain ⟨y2, g3, e⟩ := bind_e e
 refine (r2_named.walk (Hold.start (W := No) O.s)  g3).mono ?_
 rintro _ h4 ⟨m5, Q6, rfl⟩
 have O8 := Hold.nm (O.retC Q6 vfs_nil)
 refine ⟨_, rfl, ?_⟩
 cases e
 exact ⟨_, O8.pick [], rfl⟩
def r2_dataName.post (W : Nat → Prop) (h0 m0 : Heap) (r : Bool) (v : Value) (h : Heap) : Prop := ∃ m , Hold W h0 m0 h m [] ∧ v = .bool r
noncomputable def r2_dataName (s_0 : ByteArray) : Option (Bool) :=
 Option.bind (r2_Great s_0) fun y1 => if y1 = true then (if s_0 = (ByteArray.mk #[82, 101, 102]) then (some (false)) else (some ((!(decide (s_0 = (ByteArray.mk #[67, 101, 108, 108]))))))) else (some (false))
theorem r2_dataName.walk {W h m s_0} (O : Hold W h m h m []) {r} (e : r2_dataName s_0 = some r) : Run Tryz.prog 15 #[Value.string s_0] h (r2_dataName.post W h m r) := by
 unfold r2_dataName at e
 refine f15.run ?_
 unfold f15.runT
 obtain ⟨y1, g2, e⟩ := bind_e e
 refine (r2_Great.walk (Hold.start (W := No) O.s)  g2).mono ?_
 rintro _ h3 ⟨m4, Q5, rfl⟩
 have O7 := Hold.nm (O.retC Q5 vfs_nil)
 refine ⟨_, rfl, ?_⟩
 refine split_any_e e (fun c9 e => ?_) (fun c9 e => ?_)
 · try rw [ba_list s_0 (ByteArray.mk #[82, 101, 102])]
   refine split_not ?_
   refine split_dec_e e (fun c8 e => ?_) (fun c8 e => ?_)
   · cases e
     exact ⟨_, O7.pick [], rfl⟩
   · try rw [ba_list s_0 (ByteArray.mk #[67, 101, 108, 108])]
     cases e
     exact ⟨_, O7.pick [], rfl⟩
 · cases e
   exact ⟨_, O7.pick [], rfl⟩
def rj_list.post (W : Nat → Prop) (bkio0 : Nat) (h0 m0 : Heap) (r : T_jd) (v : Value) (h : Heap) : Prop := ∃ m csio0, Hold W h0 m0 h m [rV bkio0 57 csio0] ∧ v = .tuple #[] ∧ T_jd.E m r csio0
inductive rj_list.l0_k.Pt where
 | l0 (y_io0 : T_jd) (a_11 : List ByteArray) (x_12 : Int) (x_13 : Int)
noncomputable def rj_list.l0_k.body (go : (p : rj_list.l0_k.Pt) → Option (T_jd)) : (p : rj_list.l0_k.Pt) → Option (T_jd)
 | .l0 y_io0 a_11 x_12 x_13 => if x_13 < x_12 then (Option.bind (gi a_11 x_13) fun y1 => Option.bind (r2_Small y1) fun y8 => Option.bind (rj_form y_io0 y8) fun y15 => (go (.l0 y15 a_11 x_12 (IntKind.wrap .i64 (x_13 + (1 : Int)))))) else (some (y_io0))
theorem rj_list.l0_k.mono : MonoF (β := fun _ => (T_jd)) rj_list.l0_k.body := fun f g hfg p => match p with
 | .l0 y_io0 a_11 x_12 x_13 => LeO.ite (LeO.bind (LeO.refl _) fun y1 => LeO.bind (LeO.refl _) fun y8 => LeO.bind (LeO.refl _) fun y15 => (hfg _)) (LeO.refl _)
noncomputable def rj_list.l0_k.go (p : rj_list.l0_k.Pt) : Option (T_jd) := fixF (β := fun _ => (T_jd)) rj_list.l0_k.body p
noncomputable def rj_list.l0 (y_io0 a_11 x_12 x_13) := rj_list.l0_k.go (.l0 y_io0 a_11 x_12 x_13)
theorem rj_list.l0_eq (y_io0 a_11 x_12 x_13) : rj_list.l0 y_io0 a_11 x_12 x_13 = if x_13 < x_12 then (Option.bind (gi a_11 x_13) fun y1 => Option.bind (r2_Small y1) fun y8 => Option.bind (rj_form y_io0 y8) fun y15 => (rj_list.l0 y15 a_11 x_12 (IntKind.wrap .i64 (x_13 + (1 : Int))))) else (some (y_io0)) := fixF_eq rj_list.l0_k.mono _
def rj_list.l0_k.I : (p : rj_list.l0_k.Pt) → (T_jd) → Prop
 | .l0 y_io0 a_11 x_12 x_13, r => ∀ {W h0 m0 h m bk_io0 cs_io0 A_11 n_11 c_11} (O : Hold W h0 m0 h m [rV bk_io0 57 cs_io0]) (e_io0 : T_jd.E m y_io0 cs_io0) (ne_11 : n_11 = List.length a_11) (k_11 : List.length a_11 ≤ c_11) (r_11 : Rd 1 eStr m A_11 a_11) (tab : TB m), f16.l0 (rj_list.post W bk_io0 h0 m0 r) (⟨bk_io0, 0, none⟩ : Addr) A_11 n_11 c_11 x_12 x_13 h
theorem rj_list.l0_k.step_l0 (go : (p : rj_list.l0_k.Pt) → Option (T_jd)) (ih : ∀ p r, go p = some r → rj_list.l0_k.I p r) (y_io0 a_11 x_12 x_13) (r) (e : rj_list.l0_k.body go (.l0 y_io0 a_11 x_12 x_13) = some r) : rj_list.l0_k.I (.l0 y_io0 a_11 x_12 x_13) r := by
 unfold rj_list.l0_k.body at e
 intro W h0 m0 h m bk_io0 cs_io0 A_11 n_11 c_11 O e_io0 ne_11 k_11 r_11 tab
 subst ne_11
 refine f16.l0_in ?_
 unfold f16.l0T
 refine split_dec_e e (fun c29 e => ?_) (fun c29 e => ?_)
 · obtain ⟨y1, g2, e⟩ := bind_e e
   refine r_11.addr rfl g2 fun a3 cs4 ha5 hc6 he7 => ?_
   obtain rfl : cs4 = [(Value.string y1)] := he7
   refine ⟨_, ld0 O.s hc6 rfl, _, rfl, ?_⟩
   obtain ⟨y8, g9, e⟩ := bind_e e
   refine (r2_Small.walk (Hold.start (W := No) O.s) tab g9).mono ?_
   rintro _ h10 ⟨m11, Q12, rfl⟩
   have O14 := Hold.nm (O.retC Q12 vfs_nil)
   refine ⟨_, rfl, ?_⟩
   obtain ⟨y15, g16, e⟩ := bind_e e
   obtain ⟨W21, P22, B23, C24⟩ := O14.callC [0]
   refine (rj_form.walk P22 e_io0 g16).mono ?_
   rintro _ h17 ⟨m18, cs26, Q19, rfl, he27⟩
   replace he27 : T_jd.E m y15 cs26 := T_jd.keep he27
   have O28 := Hold.nm (C24 Q19 (vfs_cons rV_vf vfs_nil))
   refine ⟨rfl, ?_⟩
   exact (ih _ _ e) (O28.pick [1]).nm he27 rfl k_11 r_11 tab
 · cases e
   exact ⟨_, _, O.pick [0], rfl, e_io0⟩
theorem rj_list.l0_k.all {p : rj_list.l0_k.Pt} {r : (T_jd)} (e : rj_list.l0_k.go p = some r) : rj_list.l0_k.I p r := fixF_ind (β := fun _ => (T_jd)) rj_list.l0_k.mono (I := rj_list.l0_k.I) (fun go ih p r e => match p with
 | .l0 y_io0 a_11 x_12 x_13 => rj_list.l0_k.step_l0 go ih y_io0 a_11 x_12 x_13 r e
 ) e
noncomputable def rj_list (y_0 : T_jd) (a_1 : List ByteArray) : Option (T_jd) :=
 Option.bind (rj_few y_0 (decide ((((List.length a_1) : Nat) : Int) ≤ (6 : Int)))) fun y1 => (rj_list.l0 y1 a_1 (((List.length a_1) : Nat) : Int) (0 : Int))
theorem rj_list.walk {W h m bkio0 cs_0 A_1 n_1 c_1 y_0 a_1} (O : Hold W h m h m [rV bkio0 57 cs_0]) (e_0 : T_jd.E m y_0 cs_0) (ne_1 : n_1 = List.length a_1) (k_1 : List.length a_1 ≤ c_1) (r_1 : Rd 1 eStr m A_1 a_1) (tab : TB m) {r} (e : rj_list y_0 a_1 = some r) : Run Tryz.prog 16 #[Value.pointer (some ⟨bkio0, 0, none⟩), Value.slice A_1 n_1 c_1] h (rj_list.post W bkio0 h m r) := by
 unfold rj_list at e
 subst ne_1
 refine f16.run ?_
 unfold f16.runT
 obtain ⟨y1, g2, e⟩ := bind_e e
 obtain ⟨W7, P8, B9, C10⟩ := O.callC [0]
 refine (rj_few.walk P8 e_0 g2).mono ?_
 rintro _ h3 ⟨m4, cs12, Q5, rfl, he13⟩
 replace he13 : T_jd.E m y1 cs12 := T_jd.keep he13
 have O14 := Hold.nm (C10 Q5 (vfs_cons rV_vf vfs_nil))
 refine ⟨rfl, ?_⟩
 exact (rj_list.l0_k.all e) (O14.pick [1]).nm he13 rfl k_1 r_1 tab
def rj_typ.post (W : Nat → Prop) (bkio0 : Nat) (h0 m0 : Heap) (r : T_jd) (v : Value) (h : Heap) : Prop := ∃ m csio0, Hold W h0 m0 h m [rV bkio0 57 csio0] ∧ v = .tuple #[] ∧ T_jd.E m r csio0
inductive rj_typ_k.Pt where
 | f (y_0 : T_jd) (y_1 : T_Type) (x_2 : Int)
 | j0 (y_io0 : T_jd) (x_2 : Int) (y_4 : T_Type)
 | j2 (y_io0 : T_jd) (x_2 : Int) (y_4 : T_Type) (x_6 : Int) (b_84 : Bool)
 | j1 (y_io0 : T_jd) (x_2 : Int) (y_4 : T_Type)
 | l0 (y_io0 : T_jd) (x_2 : Int) (a_97 : List T_Type) (x_98 : Int) (x_99 : Int)
noncomputable def rj_typ_k.body (go : (p : rj_typ_k.Pt) → Option (T_jd)) : (p : rj_typ_k.Pt) → Option (T_jd)
 | .f y_0 y_1 x_2 => Option.bind (rj_few y_0 (decide (x_2 ≤ (40 : Int)))) fun y5 => if y_1.Kind ≥ (1 : Int) then (Option.bind (rj_form y5 (decide (y_1.Kind ≤ (9 : Int)))) fun y20 => (go (.j0 y20 x_2 y_1))) else (Option.bind (rj_form y5 false) fun y34 => (go (.j0 y34 x_2 y_1)))
 | .j0 y_io0 x_2 y_4 => if y_io0.e_ = (0 : Int) then (Option.bind (rj_few y_io0 (decide ((((List.length y_4.Args) : Nat) : Int) ≤ (7 : Int)))) fun y6 => if y_4.Kind = (5 : Int) then (if (((List.length y_4.Args) : Nat) : Int) = (0 : Int) then (Option.bind (r2_Small y_4.Name) fun y20 => if y20 = true then (Option.bind (rj_form y6 true) fun y27 => (go (.j1 y27 x_2 y_4))) else (Option.bind (rj_form y6 (decide (y_4.Name = (ByteArray.mk #[115, 101, 108, 102])))) fun y41 => (go (.j1 y41 x_2 y_4)))) else (Option.bind (rj_form y6 false) fun y56 => (go (.j1 y56 x_2 y_4)))) else (if y_4.Kind = (6 : Int) then (if (((List.length y_4.Args) : Nat) : Int) ≤ (6 : Int) then (Option.bind (r2_dataName y_4.Name) fun y71 => Option.bind (rj_form y6 y71) fun y78 => (go (.j1 y78 x_2 y_4))) else (Option.bind (rj_form y6 false) fun y92 => (go (.j1 y92 x_2 y_4)))) else (if y_4.Kind = (7 : Int) then (if (((List.length y_4.Args) : Nat) : Int) ≥ (1 : Int) then (Option.bind (rj_form y6 (decide (y_4.Name = (ByteArray.mk #[])))) fun y107 => (go (.j1 y107 x_2 y_4))) else (Option.bind (rj_form y6 false) fun y121 => (go (.j1 y121 x_2 y_4)))) else (if y_4.Kind = (8 : Int) then ((go (.j2 y6 x_2 y_4 (((List.length y_4.Args) : Nat) : Int) (y_4.Kind == (8 : Int))))) else ((go (.j2 y6 x_2 y_4 (((List.length y_4.Args) : Nat) : Int) (y_4.Kind == (9 : Int))))))))) else (some (y_io0))
 | .j2 y_io0 x_2 y_4 x_6 b_84 => if b_84 = true then (if x_6 = (1 : Int) then (Option.bind (rj_form y_io0 (decide (y_4.Name = (ByteArray.mk #[])))) fun y1 => (go (.j1 y1 x_2 y_4))) else (Option.bind (rj_form y_io0 false) fun y15 => (go (.j1 y15 x_2 y_4)))) else (if x_6 = (0 : Int) then (Option.bind (rj_form y_io0 (decide (y_4.Name = (ByteArray.mk #[])))) fun y30 => (go (.j1 y30 x_2 y_4))) else (Option.bind (rj_form y_io0 false) fun y44 => (go (.j1 y44 x_2 y_4))))
 | .j1 y_io0 x_2 y_4 => (go (.l0 y_io0 x_2 y_4.Args (((List.length y_4.Args) : Nat) : Int) (0 : Int)))
 | .l0 y_io0 x_2 a_97 x_98 x_99 => if x_99 < x_98 then (Option.bind (gi a_97 x_99) fun y1 => Option.bind ((go (.f y_io0 y1 (IntKind.wrap .i64 (x_2 + (1 : Int)))))) fun y14 => (go (.l0 y14 x_2 a_97 x_98 (IntKind.wrap .i64 (x_99 + (1 : Int)))))) else (some (y_io0))
theorem rj_typ_k.mono : MonoF (β := fun _ => (T_jd)) rj_typ_k.body := fun f g hfg p => match p with
 | .f y_0 y_1 x_2 => LeO.bind (LeO.refl _) fun y5 => LeO.ite (LeO.bind (LeO.refl _) fun y20 => (hfg _)) (LeO.bind (LeO.refl _) fun y34 => (hfg _))
 | .j0 y_io0 x_2 y_4 => LeO.ite (LeO.bind (LeO.refl _) fun y6 => LeO.ite (LeO.ite (LeO.bind (LeO.refl _) fun y20 => LeO.ite (LeO.bind (LeO.refl _) fun y27 => (hfg _)) (LeO.bind (LeO.refl _) fun y41 => (hfg _))) (LeO.bind (LeO.refl _) fun y56 => (hfg _))) (LeO.ite (LeO.ite (LeO.bind (LeO.refl _) fun y71 => LeO.bind (LeO.refl _) fun y78 => (hfg _)) (LeO.bind (LeO.refl _) fun y92 => (hfg _))) (LeO.ite (LeO.ite (LeO.bind (LeO.refl _) fun y107 => (hfg _)) (LeO.bind (LeO.refl _) fun y121 => (hfg _))) (LeO.ite ((hfg _)) ((hfg _)))))) (LeO.refl _)
 | .j2 y_io0 x_2 y_4 x_6 b_84 => LeO.ite (LeO.ite (LeO.bind (LeO.refl _) fun y1 => (hfg _)) (LeO.bind (LeO.refl _) fun y15 => (hfg _))) (LeO.ite (LeO.bind (LeO.refl _) fun y30 => (hfg _)) (LeO.bind (LeO.refl _) fun y44 => (hfg _)))
 | .j1 y_io0 x_2 y_4 => (hfg _)
 | .l0 y_io0 x_2 a_97 x_98 x_99 => LeO.ite (LeO.bind (LeO.refl _) fun y1 => LeO.bind ((hfg _)) fun y14 => (hfg _)) (LeO.refl _)
noncomputable def rj_typ_k.go (p : rj_typ_k.Pt) : Option (T_jd) := fixF (β := fun _ => (T_jd)) rj_typ_k.body p
noncomputable def rj_typ (y_0 y_1 x_2) := rj_typ_k.go (.f y_0 y_1 x_2)
noncomputable def rj_typ.j0 (y_io0 x_2 y_4) := rj_typ_k.go (.j0 y_io0 x_2 y_4)
noncomputable def rj_typ.j2 (y_io0 x_2 y_4 x_6 b_84) := rj_typ_k.go (.j2 y_io0 x_2 y_4 x_6 b_84)
noncomputable def rj_typ.j1 (y_io0 x_2 y_4) := rj_typ_k.go (.j1 y_io0 x_2 y_4)
noncomputable def rj_typ.l0 (y_io0 x_2 a_97 x_98 x_99) := rj_typ_k.go (.l0 y_io0 x_2 a_97 x_98 x_99)
theorem rj_typ_eq (y_0 y_1 x_2) : rj_typ y_0 y_1 x_2 = Option.bind (rj_few y_0 (decide (x_2 ≤ (40 : Int)))) fun y5 => if y_1.Kind ≥ (1 : Int) then (Option.bind (rj_form y5 (decide (y_1.Kind ≤ (9 : Int)))) fun y20 => (rj_typ.j0 y20 x_2 y_1)) else (Option.bind (rj_form y5 false) fun y34 => (rj_typ.j0 y34 x_2 y_1)) := fixF_eq rj_typ_k.mono _
theorem rj_typ.j0_eq (y_io0 x_2 y_4) : rj_typ.j0 y_io0 x_2 y_4 = if y_io0.e_ = (0 : Int) then (Option.bind (rj_few y_io0 (decide ((((List.length y_4.Args) : Nat) : Int) ≤ (7 : Int)))) fun y6 => if y_4.Kind = (5 : Int) then (if (((List.length y_4.Args) : Nat) : Int) = (0 : Int) then (Option.bind (r2_Small y_4.Name) fun y20 => if y20 = true then (Option.bind (rj_form y6 true) fun y27 => (rj_typ.j1 y27 x_2 y_4)) else (Option.bind (rj_form y6 (decide (y_4.Name = (ByteArray.mk #[115, 101, 108, 102])))) fun y41 => (rj_typ.j1 y41 x_2 y_4))) else (Option.bind (rj_form y6 false) fun y56 => (rj_typ.j1 y56 x_2 y_4))) else (if y_4.Kind = (6 : Int) then (if (((List.length y_4.Args) : Nat) : Int) ≤ (6 : Int) then (Option.bind (r2_dataName y_4.Name) fun y71 => Option.bind (rj_form y6 y71) fun y78 => (rj_typ.j1 y78 x_2 y_4)) else (Option.bind (rj_form y6 false) fun y92 => (rj_typ.j1 y92 x_2 y_4))) else (if y_4.Kind = (7 : Int) then (if (((List.length y_4.Args) : Nat) : Int) ≥ (1 : Int) then (Option.bind (rj_form y6 (decide (y_4.Name = (ByteArray.mk #[])))) fun y107 => (rj_typ.j1 y107 x_2 y_4)) else (Option.bind (rj_form y6 false) fun y121 => (rj_typ.j1 y121 x_2 y_4))) else (if y_4.Kind = (8 : Int) then ((rj_typ.j2 y6 x_2 y_4 (((List.length y_4.Args) : Nat) : Int) (y_4.Kind == (8 : Int)))) else ((rj_typ.j2 y6 x_2 y_4 (((List.length y_4.Args) : Nat) : Int) (y_4.Kind == (9 : Int)))))))) else (some (y_io0)) := fixF_eq rj_typ_k.mono _
theorem rj_typ.j2_eq (y_io0 x_2 y_4 x_6 b_84) : rj_typ.j2 y_io0 x_2 y_4 x_6 b_84 = if b_84 = true then (if x_6 = (1 : Int) then (Option.bind (rj_form y_io0 (decide (y_4.Name = (ByteArray.mk #[])))) fun y1 => (rj_typ.j1 y1 x_2 y_4)) else (Option.bind (rj_form y_io0 false) fun y15 => (rj_typ.j1 y15 x_2 y_4))) else (if x_6 = (0 : Int) then (Option.bind (rj_form y_io0 (decide (y_4.Name = (ByteArray.mk #[])))) fun y30 => (rj_typ.j1 y30 x_2 y_4)) else (Option.bind (rj_form y_io0 false) fun y44 => (rj_typ.j1 y44 x_2 y_4))) := fixF_eq rj_typ_k.mono _
theorem rj_typ.j1_eq (y_io0 x_2 y_4) : rj_typ.j1 y_io0 x_2 y_4 = (rj_typ.l0 y_io0 x_2 y_4.Args (((List.length y_4.Args) : Nat) : Int) (0 : Int)) := fixF_eq rj_typ_k.mono _
theorem rj_typ.l0_eq (y_io0 x_2 a_97 x_98 x_99) : rj_typ.l0 y_io0 x_2 a_97 x_98 x_99 = if x_99 < x_98 then (Option.bind (gi a_97 x_99) fun y1 => Option.bind ((rj_typ y_io0 y1 (IntKind.wrap .i64 (x_2 + (1 : Int))))) fun y14 => (rj_typ.l0 y14 x_2 a_97 x_98 (IntKind.wrap .i64 (x_99 + (1 : Int))))) else (some (y_io0)) := fixF_eq rj_typ_k.mono _
def rj_typ_k.I : (p : rj_typ_k.Pt) → (T_jd) → Prop
 | .f y_0 y_1 x_2, r => ∀ {W h m bkio0 cs_0 cs_1} (O : Hold W h m h m [rV bkio0 57 cs_0]) (e_0 : T_jd.E m y_0 cs_0) (e_1 : T_Type.E m y_1 cs_1) (tab : TB m), Run Tryz.prog 34 #[Value.pointer (some ⟨bkio0, 0, none⟩), Value.agg cs_1.toArray, Value.int .i64 x_2] h (rj_typ.post W bkio0 h m r)
 | .j0 y_io0 x_2 y_4, r => ∀ {W h0 m0 h m bk_io0 cs_io0 bk_4 cs_4} (O : Hold W h0 m0 h m [rV bk_io0 57 cs_io0, rV bk_4 44 cs_4]) (e_io0 : T_jd.E m y_io0 cs_io0) (e_4 : T_Type.E m y_4 cs_4) (tab : TB m), f34.j0 (rj_typ.post W bk_io0 h0 m0 r) (⟨bk_io0, 0, none⟩ : Addr) x_2 (⟨bk_4, 0, none⟩ : Addr) h
 | .j2 y_io0 x_2 y_4 x_6 b_84, r => ∀ {W h0 m0 h m bk_io0 cs_io0 bk_4 cs_4} (O : Hold W h0 m0 h m [rV bk_io0 57 cs_io0, rV bk_4 44 cs_4]) (e_io0 : T_jd.E m y_io0 cs_io0) (e_4 : T_Type.E m y_4 cs_4) (tab : TB m), f34.j2 (rj_typ.post W bk_io0 h0 m0 r) (⟨bk_io0, 0, none⟩ : Addr) x_2 (⟨bk_4, 0, none⟩ : Addr) x_6 b_84 h
 | .j1 y_io0 x_2 y_4, r => ∀ {W h0 m0 h m bk_io0 cs_io0 bk_4 cs_4} (O : Hold W h0 m0 h m [rV bk_io0 57 cs_io0, rV bk_4 44 cs_4]) (e_io0 : T_jd.E m y_io0 cs_io0) (e_4 : T_Type.E m y_4 cs_4) (tab : TB m), f34.j1 (rj_typ.post W bk_io0 h0 m0 r) (⟨bk_io0, 0, none⟩ : Addr) x_2 (⟨bk_4, 0, none⟩ : Addr) h
 | .l0 y_io0 x_2 a_97 x_98 x_99, r => ∀ {W h0 m0 h m bk_io0 cs_io0 A_97 n_97 c_97} (O : Hold W h0 m0 h m [rV bk_io0 57 cs_io0]) (e_io0 : T_jd.E m y_io0 cs_io0) (ne_97 : n_97 = List.length a_97) (k_97 : List.length a_97 ≤ c_97) (r_97 : Rd 3 T_Type.E m A_97 a_97) (tab : TB m), f34.l0 (rj_typ.post W bk_io0 h0 m0 r) (⟨bk_io0, 0, none⟩ : Addr) x_2 A_97 n_97 c_97 x_98 x_99 h
theorem rj_typ_k.step_f (go : (p : rj_typ_k.Pt) → Option (T_jd)) (ih : ∀ p r, go p = some r → rj_typ_k.I p r) (y_0 y_1 x_2) (r) (e : rj_typ_k.body go (.f y_0 y_1 x_2) = some r) : rj_typ_k.I (.f y_0 y_1 x_2) r := by
 unfold rj_typ_k.body at e
 intro W h m bkio0 cs_0 cs_1 O e_0 e_1 tab
 refine f34.run ?_
 unfold f34.runT
 refine O.new fun h1 x2 O3 => ?_
 obtain ⟨y5, g6, e⟩ := bind_e e
 have O11 := O3.nm
 obtain ⟨W12, P13, B14, C15⟩ := O11.callC [0]
 refine (rj_few.walk P13 e_0 g6).mono ?_
 rintro _ h7 ⟨m8, cs17, Q9, rfl, he18⟩
 replace he18 : T_jd.E m y5 cs17 := T_jd.keep he18
 have O19 := Hold.nm (C15 Q9 (vfs_cons rV_vf vfs_nil))
 refine ⟨rfl, ?_⟩
 refine ⟨_, ld0 (Sub.refl _) (O19.all 1 rfl) (T_Type.g0 e_1), _, rfl, ?_⟩
 refine split_dec_e e (fun c48 e => ?_) (fun c48 e => ?_)
 · refine ⟨_, ld0 (Sub.refl _) (O19.all 1 rfl) (T_Type.g0 e_1), _, rfl, ?_⟩
   obtain ⟨y20, g21, e⟩ := bind_e e
   obtain ⟨W26, P27, B28, C29⟩ := O19.callC [2]
   refine (rj_form.walk P27 he18 g21).mono ?_
   rintro _ h22 ⟨m23, cs31, Q24, rfl, he32⟩
   replace he32 : T_jd.E m y20 cs31 := T_jd.keep he32
   have O33 := Hold.nm (C29 Q24 (vfs_cons rV_vf vfs_nil))
   refine ⟨rfl, ?_⟩
   exact (ih _ _ e) (O33.pick [3, 1]).nm he32 e_1 tab
 · obtain ⟨y34, g35, e⟩ := bind_e e
   obtain ⟨W40, P41, B42, C43⟩ := O19.callC [2]
   refine (rj_form.walk P41 he18 g35).mono ?_
   rintro _ h36 ⟨m37, cs45, Q38, rfl, he46⟩
   replace he46 : T_jd.E m y34 cs45 := T_jd.keep he46
   have O47 := Hold.nm (C43 Q38 (vfs_cons rV_vf vfs_nil))
   refine ⟨rfl, ?_⟩
   exact (ih _ _ e) (O47.pick [3, 1]).nm he46 e_1 tab
set_option maxHeartbeats 4000000 in
theorem rj_typ_k.step_j0 (go : (p : rj_typ_k.Pt) → Option (T_jd)) (ih : ∀ p r, go p = some r → rj_typ_k.I p r) (y_io0 x_2 y_4) (r) (e : rj_typ_k.body go (.j0 y_io0 x_2 y_4) = some r) : rj_typ_k.I (.j0 y_io0 x_2 y_4) r := by
 unfold rj_typ_k.body at e
 intro W h0 m0 h m bk_io0 cs_io0 bk_4 cs_4 O e_io0 e_4 tab
 refine f34.j0_in ?_
 unfold f34.j0T
 refine ⟨_, ld0 (Sub.refl _) (O.all 0 rfl) (T_jd.g0 e_io0), _, rfl, ?_⟩
 refine split_ne_e e (fun c140 e => ?_) (fun c140 e => ?_)
 · cases e
   exact ⟨_, _, O.pick [0], rfl, e_io0⟩
 · obtain ⟨A1, c2, q3, k4, r5⟩ := T_Type.g2 e_4
   refine ⟨_, ldk (k := 2) (Sub.refl _) (O.all 1 rfl) q3, _, _, _, rfl, ?_⟩
   obtain ⟨y6, g7, e⟩ := bind_e e
   obtain ⟨W12, P13, B14, C15⟩ := O.callC [0]
   refine (rj_few.walk P13 e_io0 g7).mono ?_
   rintro _ h8 ⟨m9, cs17, Q10, rfl, he18⟩
   replace he18 : T_jd.E m y6 cs17 := T_jd.keep he18
   have O19 := Hold.nm (C15 Q10 (vfs_cons rV_vf vfs_nil))
   refine ⟨rfl, ?_⟩
   refine ⟨_, ld0 (Sub.refl _) (O19.all 1 rfl) (T_Type.g0 e_4), _, rfl, ?_⟩
   refine split_eq_e e (fun c139 e => ?_) (fun c139 e => ?_)
   · refine split_eq_e e (fun c70 e => ?_) (fun c70 e => ?_)
     · refine ⟨_, ldk (k := 1) (Sub.refl _) (O19.all 1 rfl) (T_Type.g1 e_4), _, rfl, ?_⟩
       obtain ⟨y20, g21, e⟩ := bind_e e
       refine (r2_Small.walk (Hold.start (W := No) O19.s) tab g21).mono ?_
       rintro _ h22 ⟨m23, Q24, rfl⟩
       have O26 := Hold.nm (O19.retC Q24 vfs_nil)
       refine ⟨_, rfl, ?_⟩
       refine split_any_e e (fun c55 e => ?_) (fun c55 e => ?_)
       · obtain ⟨y27, g28, e⟩ := bind_e e
         obtain ⟨W33, P34, B35, C36⟩ := O26.callC [2]
         refine (rj_form.walk P34 he18 g28).mono ?_
         rintro _ h29 ⟨m30, cs38, Q31, rfl, he39⟩
         replace he39 : T_jd.E m y27 cs38 := T_jd.keep he39
         have O40 := Hold.nm (C36 Q31 (vfs_cons rV_vf vfs_nil))
         refine ⟨rfl, ?_⟩
         exact (ih _ _ e) (O40.pick [3, 1]).nm he39 e_4 tab
       · refine ⟨_, ldk (k := 1) (Sub.refl _) (O26.all 1 rfl) (T_Type.g1 e_4), _, rfl, ?_⟩
         try rw [ba_list y_4.Name (ByteArray.mk #[115, 101, 108, 102])]
         obtain ⟨y41, g42, e⟩ := bind_e e
         obtain ⟨W47, P48, B49, C50⟩ := O26.callC [2]
         refine (rj_form.walk P48 he18 g42).mono ?_
         rintro _ h43 ⟨m44, cs52, Q45, rfl, he53⟩
         replace he53 : T_jd.E m y41 cs52 := T_jd.keep he53
         have O54 := Hold.nm (C50 Q45 (vfs_cons rV_vf vfs_nil))
         refine ⟨rfl, ?_⟩
         exact (ih _ _ e) (O54.pick [3, 1]).nm he53 e_4 tab
     · obtain ⟨y56, g57, e⟩ := bind_e e
       obtain ⟨W62, P63, B64, C65⟩ := O19.callC [2]
       refine (rj_form.walk P63 he18 g57).mono ?_
       rintro _ h58 ⟨m59, cs67, Q60, rfl, he68⟩
       replace he68 : T_jd.E m y56 cs67 := T_jd.keep he68
       have O69 := Hold.nm (C65 Q60 (vfs_cons rV_vf vfs_nil))
       refine ⟨rfl, ?_⟩
       exact (ih _ _ e) (O69.pick [3, 1]).nm he68 e_4 tab
   · refine split_eq_e e (fun c138 e => ?_) (fun c138 e => ?_)
     · refine split_dec_e e (fun c106 e => ?_) (fun c106 e => ?_)
       · refine ⟨_, ldk (k := 1) (Sub.refl _) (O19.all 1 rfl) (T_Type.g1 e_4), _, rfl, ?_⟩
         obtain ⟨y71, g72, e⟩ := bind_e e
         refine (r2_dataName.walk (Hold.start (W := No) O19.s)  g72).mono ?_
         rintro _ h73 ⟨m74, Q75, rfl⟩
         have O77 := Hold.nm (O19.retC Q75 vfs_nil)
         refine ⟨_, rfl, ?_⟩
         obtain ⟨y78, g79, e⟩ := bind_e e
         obtain ⟨W84, P85, B86, C87⟩ := O77.callC [2]
         refine (rj_form.walk P85 he18 g79).mono ?_
         rintro _ h80 ⟨m81, cs89, Q82, rfl, he90⟩
         replace he90 : T_jd.E m y78 cs89 := T_jd.keep he90
         have O91 := Hold.nm (C87 Q82 (vfs_cons rV_vf vfs_nil))
         refine ⟨rfl, ?_⟩
         exact (ih _ _ e) (O91.pick [3, 1]).nm he90 e_4 tab
       · obtain ⟨y92, g93, e⟩ := bind_e e
         obtain ⟨W98, P99, B100, C101⟩ := O19.callC [2]
         refine (rj_form.walk P99 he18 g93).mono ?_
         rintro _ h94 ⟨m95, cs103, Q96, rfl, he104⟩
         replace he104 : T_jd.E m y92 cs103 := T_jd.keep he104
         have O105 := Hold.nm (C101 Q96 (vfs_cons rV_vf vfs_nil))
         refine ⟨rfl, ?_⟩
         exact (ih _ _ e) (O105.pick [3, 1]).nm he104 e_4 tab
     · refine split_eq_e e (fun c137 e => ?_) (fun c137 e => ?_)
       · refine split_dec_e e (fun c135 e => ?_) (fun c135 e => ?_)
         · refine ⟨_, ldk (k := 1) (Sub.refl _) (O19.all 1 rfl) (T_Type.g1 e_4), _, rfl, ?_⟩
           try rw [ba_list y_4.Name (ByteArray.mk #[])]
           obtain ⟨y107, g108, e⟩ := bind_e e
           obtain ⟨W113, P114, B115, C116⟩ := O19.callC [2]
           refine (rj_form.walk P114 he18 g108).mono ?_
           rintro _ h109 ⟨m110, cs118, Q111, rfl, he119⟩
           replace he119 : T_jd.E m y107 cs118 := T_jd.keep he119
           have O120 := Hold.nm (C116 Q111 (vfs_cons rV_vf vfs_nil))
           refine ⟨rfl, ?_⟩
           exact (ih _ _ e) (O120.pick [3, 1]).nm he119 e_4 tab
         · obtain ⟨y121, g122, e⟩ := bind_e e
           obtain ⟨W127, P128, B129, C130⟩ := O19.callC [2]
           refine (rj_form.walk P128 he18 g122).mono ?_
           rintro _ h123 ⟨m124, cs132, Q125, rfl, he133⟩
           replace he133 : T_jd.E m y121 cs132 := T_jd.keep he133
           have O134 := Hold.nm (C130 Q125 (vfs_cons rV_vf vfs_nil))
           refine ⟨rfl, ?_⟩
           exact (ih _ _ e) (O134.pick [3, 1]).nm he133 e_4 tab
       · refine split_eq_e e (fun c136 e => ?_) (fun c136 e => ?_)
         · exact (ih _ _ e) (O19.pick [2, 1]).nm he18 e_4 tab
         · exact (ih _ _ e) (O19.pick [2, 1]).nm he18 e_4 tab
set_option maxHeartbeats 4000000 in
theorem rj_typ_k.step_j2 (go : (p : rj_typ_k.Pt) → Option (T_jd)) (ih : ∀ p r, go p = some r → rj_typ_k.I p r) (y_io0 x_2 y_4 x_6 b_84) (r) (e : rj_typ_k.body go (.j2 y_io0 x_2 y_4 x_6 b_84) = some r) : rj_typ_k.I (.j2 y_io0 x_2 y_4 x_6 b_84) r := by
 unfold rj_typ_k.body at e
 intro W h0 m0 h m bk_io0 cs_io0 bk_4 cs_4 O e_io0 e_4 tab
 refine f34.j2_in ?_
 unfold f34.j2T
 refine split_any_e e (fun c59 e => ?_) (fun c59 e => ?_)
 · refine split_eq_e e (fun c29 e => ?_) (fun c29 e => ?_)
   · refine ⟨_, ldk (k := 1) (Sub.refl _) (O.all 1 rfl) (T_Type.g1 e_4), _, rfl, ?_⟩
     try rw [ba_list y_4.Name (ByteArray.mk #[])]
     obtain ⟨y1, g2, e⟩ := bind_e e
     obtain ⟨W7, P8, B9, C10⟩ := O.callC [0]
     refine (rj_form.walk P8 e_io0 g2).mono ?_
     rintro _ h3 ⟨m4, cs12, Q5, rfl, he13⟩
     replace he13 : T_jd.E m y1 cs12 := T_jd.keep he13
     have O14 := Hold.nm (C10 Q5 (vfs_cons rV_vf vfs_nil))
     refine ⟨rfl, ?_⟩
     exact (ih _ _ e) (O14.pick [2, 1]).nm he13 e_4 tab
   · obtain ⟨y15, g16, e⟩ := bind_e e
     obtain ⟨W21, P22, B23, C24⟩ := O.callC [0]
     refine (rj_form.walk P22 e_io0 g16).mono ?_
     rintro _ h17 ⟨m18, cs26, Q19, rfl, he27⟩
     replace he27 : T_jd.E m y15 cs26 := T_jd.keep he27
     have O28 := Hold.nm (C24 Q19 (vfs_cons rV_vf vfs_nil))
     refine ⟨rfl, ?_⟩
     exact (ih _ _ e) (O28.pick [2, 1]).nm he27 e_4 tab
 · refine split_eq_e e (fun c58 e => ?_) (fun c58 e => ?_)
   · refine ⟨_, ldk (k := 1) (Sub.refl _) (O.all 1 rfl) (T_Type.g1 e_4), _, rfl, ?_⟩
     try rw [ba_list y_4.Name (ByteArray.mk #[])]
     obtain ⟨y30, g31, e⟩ := bind_e e
     obtain ⟨W36, P37, B38, C39⟩ := O.callC [0]
     refine (rj_form.walk P37 e_io0 g31).mono ?_
     rintro _ h32 ⟨m33, cs41, Q34, rfl, he42⟩
     replace he42 : T_jd.E m y30 cs41 := T_jd.keep he42
     have O43 := Hold.nm (C39 Q34 (vfs_cons rV_vf vfs_nil))
     refine ⟨rfl, ?_⟩
     exact (ih _ _ e) (O43.pick [2, 1]).nm he42 e_4 tab
   · obtain ⟨y44, g45, e⟩ := bind_e e
     obtain ⟨W50, P51, B52, C53⟩ := O.callC [0]
     refine (rj_form.walk P51 e_io0 g45).mono ?_
     rintro _ h46 ⟨m47, cs55, Q48, rfl, he56⟩
     replace he56 : T_jd.E m y44 cs55 := T_jd.keep he56
     have O57 := Hold.nm (C53 Q48 (vfs_cons rV_vf vfs_nil))
     refine ⟨rfl, ?_⟩
     exact (ih _ _ e) (O57.pick [2, 1]).nm he56 e_4 tab
theorem rj_typ_k.step_j1 (go : (p : rj_typ_k.Pt) → Option (T_jd)) (ih : ∀ p r, go p = some r → rj_typ_k.I p r) (y_io0 x_2 y_4) (r) (e : rj_typ_k.body go (.j1 y_io0 x_2 y_4) = some r) : rj_typ_k.I (.j1 y_io0 x_2 y_4) r := by
 unfold rj_typ_k.body at e
 intro W h0 m0 h m bk_io0 cs_io0 bk_4 cs_4 O e_io0 e_4 tab
 refine f34.j1_in ?_
 unfold f34.j1T
 obtain ⟨A1, c2, q3, k4, r5⟩ := T_Type.g2 e_4
 refine ⟨_, ldk (k := 2) (Sub.refl _) (O.all 1 rfl) q3, _, _, _, rfl, ?_⟩
 exact (ih _ _ e) (O.pick [0]).nm e_io0 rfl k4 r5 tab
theorem rj_typ_k.step_l0 (go : (p : rj_typ_k.Pt) → Option (T_jd)) (ih : ∀ p r, go p = some r → rj_typ_k.I p r) (y_io0 x_2 a_97 x_98 x_99) (r) (e : rj_typ_k.body go (.l0 y_io0 x_2 a_97 x_98 x_99) = some r) : rj_typ_k.I (.l0 y_io0 x_2 a_97 x_98 x_99) r := by
 unfold rj_typ_k.body at e
 intro W h0 m0 h m bk_io0 cs_io0 A_97 n_97 c_97 O e_io0 ne_97 k_97 r_97 tab
 subst ne_97
 refine f34.l0_in ?_
 unfold f34.l0T
 refine split_dec_e e (fun c29 e => ?_) (fun c29 e => ?_)
 · obtain ⟨y1, g2, e⟩ := bind_e e
   refine r_97.addr rfl g2 fun a3 cs4 ha5 hc6 he7 => ?_
   refine ⟨_, ldAn O.s hc6 rfl, ?_⟩
   refine O.new fun h8 x9 O10 => ?_
   refine ⟨_, rfl, (T_Type.T.len _ _ _ he7), ?_⟩
   refine O10.stA 1 rfl (T_Type.T.len _ _ _ he7) (T_Type.T.flat _ _ _ he7) fun h12 O13 => ?_
   refine ⟨_, ldAn (Sub.refl _) (O13.all 1 rfl) (T_Type.T.len _ _ _ he7), ?_⟩
   obtain ⟨y14, g15, e⟩ := bind_e e
   have O20 := O13.nm
   obtain ⟨W21, P22, B23, C24⟩ := O20.callC [0]
   refine ((ih _ _ g15) P22 e_io0 he7 tab).mono ?_
   rintro _ h16 ⟨m17, cs26, Q18, rfl, he27⟩
   replace he27 : T_jd.E m y14 cs26 := T_jd.keep he27
   have O28 := Hold.nm (C24 Q18 (vfs_cons rV_vf vfs_nil))
   refine ⟨rfl, ?_⟩
   exact (ih _ _ e) (O28.pick [2]).nm he27 rfl k_97 r_97 tab
 · cases e
   exact ⟨_, _, O.pick [0], rfl, e_io0⟩
theorem rj_typ_k.all {p : rj_typ_k.Pt} {r : (T_jd)} (e : rj_typ_k.go p = some r) : rj_typ_k.I p r := fixF_ind (β := fun _ => (T_jd)) rj_typ_k.mono (I := rj_typ_k.I) (fun go ih p r e => match p with
 | .f y_0 y_1 x_2 => rj_typ_k.step_f go ih y_0 y_1 x_2 r e
 | .j0 y_io0 x_2 y_4 => rj_typ_k.step_j0 go ih y_io0 x_2 y_4 r e
 | .j2 y_io0 x_2 y_4 x_6 b_84 => rj_typ_k.step_j2 go ih y_io0 x_2 y_4 x_6 b_84 r e
 | .j1 y_io0 x_2 y_4 => rj_typ_k.step_j1 go ih y_io0 x_2 y_4 r e
 | .l0 y_io0 x_2 a_97 x_98 x_99 => rj_typ_k.step_l0 go ih y_io0 x_2 a_97 x_98 x_99 r e
 ) e
theorem rj_typ.walk {W h m bkio0 cs_0 cs_1 y_0 y_1 x_2} (O : Hold W h m h m [rV bkio0 57 cs_0]) (e_0 : T_jd.E m y_0 cs_0) (e_1 : T_Type.E m y_1 cs_1) (tab : TB m) {r} (e : rj_typ y_0 y_1 x_2 = some r) : Run Tryz.prog 34 #[Value.pointer (some ⟨bkio0, 0, none⟩), Value.agg cs_1.toArray, Value.int .i64 x_2] h (rj_typ.post W bkio0 h m r) := rj_typ_k.all (p := .f y_0 y_1 x_2) e O e_0 e_1 tab
def rj_types.post (W : Nat → Prop) (bkio0 : Nat) (h0 m0 : Heap) (r : T_jd) (v : Value) (h : Heap) : Prop := ∃ m csio0, Hold W h0 m0 h m [rV bkio0 57 csio0] ∧ v = .tuple #[] ∧ T_jd.E m r csio0
inductive rj_types.l0_k.Pt where
 | l0 (y_io0 : T_jd) (a_6 : List T_Type) (x_7 : Int) (x_8 : Int)
noncomputable def rj_types.l0_k.body (go : (p : rj_types.l0_k.Pt) → Option (T_jd)) : (p : rj_types.l0_k.Pt) → Option (T_jd)
 | .l0 y_io0 a_6 x_7 x_8 => if x_8 < x_7 then (Option.bind (gi a_6 x_8) fun y1 => Option.bind (rj_typ y_io0 y1 (1 : Int)) fun y14 => (go (.l0 y14 a_6 x_7 (IntKind.wrap .i64 (x_8 + (1 : Int)))))) else (some (y_io0))
theorem rj_types.l0_k.mono : MonoF (β := fun _ => (T_jd)) rj_types.l0_k.body := fun f g hfg p => match p with
 | .l0 y_io0 a_6 x_7 x_8 => LeO.ite (LeO.bind (LeO.refl _) fun y1 => LeO.bind (LeO.refl _) fun y14 => (hfg _)) (LeO.refl _)
noncomputable def rj_types.l0_k.go (p : rj_types.l0_k.Pt) : Option (T_jd) := fixF (β := fun _ => (T_jd)) rj_types.l0_k.body p
noncomputable def rj_types.l0 (y_io0 a_6 x_7 x_8) := rj_types.l0_k.go (.l0 y_io0 a_6 x_7 x_8)
theorem rj_types.l0_eq (y_io0 a_6 x_7 x_8) : rj_types.l0 y_io0 a_6 x_7 x_8 = if x_8 < x_7 then (Option.bind (gi a_6 x_8) fun y1 => Option.bind (rj_typ y_io0 y1 (1 : Int)) fun y14 => (rj_types.l0 y14 a_6 x_7 (IntKind.wrap .i64 (x_8 + (1 : Int))))) else (some (y_io0)) := fixF_eq rj_types.l0_k.mono _
def rj_types.l0_k.I : (p : rj_types.l0_k.Pt) → (T_jd) → Prop
 | .l0 y_io0 a_6 x_7 x_8, r => ∀ {W h0 m0 h m bk_io0 cs_io0 A_6 n_6 c_6} (O : Hold W h0 m0 h m [rV bk_io0 57 cs_io0]) (e_io0 : T_jd.E m y_io0 cs_io0) (ne_6 : n_6 = List.length a_6) (k_6 : List.length a_6 ≤ c_6) (r_6 : Rd 3 T_Type.E m A_6 a_6) (tab : TB m), f18.l0 (rj_types.post W bk_io0 h0 m0 r) (⟨bk_io0, 0, none⟩ : Addr) A_6 n_6 c_6 x_7 x_8 h
theorem rj_types.l0_k.step_l0 (go : (p : rj_types.l0_k.Pt) → Option (T_jd)) (ih : ∀ p r, go p = some r → rj_types.l0_k.I p r) (y_io0 a_6 x_7 x_8) (r) (e : rj_types.l0_k.body go (.l0 y_io0 a_6 x_7 x_8) = some r) : rj_types.l0_k.I (.l0 y_io0 a_6 x_7 x_8) r := by
 unfold rj_types.l0_k.body at e
 intro W h0 m0 h m bk_io0 cs_io0 A_6 n_6 c_6 O e_io0 ne_6 k_6 r_6 tab
 subst ne_6
 refine f18.l0_in ?_
 unfold f18.l0T
 refine split_dec_e e (fun c29 e => ?_) (fun c29 e => ?_)
 · obtain ⟨y1, g2, e⟩ := bind_e e
   refine r_6.addr rfl g2 fun a3 cs4 ha5 hc6 he7 => ?_
   refine ⟨_, ldAn O.s hc6 rfl, ?_⟩
   refine O.new fun h8 x9 O10 => ?_
   refine ⟨_, rfl, (T_Type.T.len _ _ _ he7), ?_⟩
   refine O10.stA 1 rfl (T_Type.T.len _ _ _ he7) (T_Type.T.flat _ _ _ he7) fun h12 O13 => ?_
   refine ⟨_, ldAn (Sub.refl _) (O13.all 1 rfl) (T_Type.T.len _ _ _ he7), ?_⟩
   obtain ⟨y14, g15, e⟩ := bind_e e
   have O20 := O13.nm
   obtain ⟨W21, P22, B23, C24⟩ := O20.callC [0]
   refine (rj_typ.walk P22 e_io0 he7 tab g15).mono ?_
   rintro _ h16 ⟨m17, cs26, Q18, rfl, he27⟩
   replace he27 : T_jd.E m y14 cs26 := T_jd.keep he27
   have O28 := Hold.nm (C24 Q18 (vfs_cons rV_vf vfs_nil))
   refine ⟨rfl, ?_⟩
   exact (ih _ _ e) (O28.pick [2]).nm he27 rfl k_6 r_6 tab
 · cases e
   exact ⟨_, _, O.pick [0], rfl, e_io0⟩
theorem rj_types.l0_k.all {p : rj_types.l0_k.Pt} {r : (T_jd)} (e : rj_types.l0_k.go p = some r) : rj_types.l0_k.I p r := fixF_ind (β := fun _ => (T_jd)) rj_types.l0_k.mono (I := rj_types.l0_k.I) (fun go ih p r e => match p with
 | .l0 y_io0 a_6 x_7 x_8 => rj_types.l0_k.step_l0 go ih y_io0 a_6 x_7 x_8 r e
 ) e
noncomputable def rj_types (y_0 : T_jd) (a_1 : List T_Type) : Option (T_jd) :=
 (rj_types.l0 y_0 a_1 (((List.length a_1) : Nat) : Int) (0 : Int))
theorem rj_types.walk {W h m bkio0 cs_0 A_1 n_1 c_1 y_0 a_1} (O : Hold W h m h m [rV bkio0 57 cs_0]) (e_0 : T_jd.E m y_0 cs_0) (ne_1 : n_1 = List.length a_1) (k_1 : List.length a_1 ≤ c_1) (r_1 : Rd 3 T_Type.E m A_1 a_1) (tab : TB m) {r} (e : rj_types y_0 a_1 = some r) : Run Tryz.prog 18 #[Value.pointer (some ⟨bkio0, 0, none⟩), Value.slice A_1 n_1 c_1] h (rj_types.post W bkio0 h m r) := by
 unfold rj_types at e
 subst ne_1
 refine f18.run ?_
 unfold f18.runT
 exact (rj_types.l0_k.all e) (O.pick [0]).nm e_0 rfl k_1 r_1 tab
def r2_All.post (W : Nat → Prop) (h0 m0 : Heap) (r : (List T_Expr)) (v : Value) (h : Heap) : Prop := ∃ m A0 n0 c0, Hold W h0 m0 h m [rR (aE T_Expr.T) A0 c0 r] ∧ v = .slice A0 n0 c0 ∧ n0 = List.length r
inductive r2_All.l0_k.Pt where
 | l0 (a_3 : List T_Expr) (a_4 : List T_Expr)
 | l1 (a_3 : List T_Expr) (a_4 : List T_Expr) (y_5 : T_Expr) (x_6 : Int)
 | l2 (a_3 : List T_Expr) (a_4 : List T_Expr) (y_5 : T_Expr) (x_7 : Int)
noncomputable def r2_All.l0_k.body (go : (p : r2_All.l0_k.Pt) → Option ((List T_Expr))) : (p : r2_All.l0_k.Pt) → Option ((List T_Expr))
 | .l0 a_3 a_4 => if (((List.length a_3) : Nat) : Int) > (0 : Int) then (Option.bind (gi a_3 (IntKind.wrap .i64 ((((List.length a_3) : Nat) : Int) - (1 : Int)))) fun y1 => Option.bind (sls a_3 (0 : Int) (IntKind.wrap .i64 ((((List.length a_3) : Nat) : Int) - (1 : Int)))) fun l14 => Option.bind (ap 136 a_4 ([y1] : List T_Expr)) fun l22 => (go (.l1 l14 l22 y1 (IntKind.wrap .i64 ((((List.length y1.Arms) : Nat) : Int) - (1 : Int)))))) else (some (a_4))
 | .l1 a_3 a_4 y_5 x_6 => if x_6 ≥ (0 : Int) then (Option.bind (gi y_5.Arms x_6) fun y6 => Option.bind (ap 136 a_3 ([y6.Body] : List T_Expr)) fun l18 => (go (.l1 l18 a_4 y_5 (IntKind.wrap .i64 (x_6 - (1 : Int)))))) else ((go (.l2 a_3 a_4 y_5 (IntKind.wrap .i64 ((((List.length y_5.Args) : Nat) : Int) - (1 : Int))))))
 | .l2 a_3 a_4 y_5 x_7 => if x_7 ≥ (0 : Int) then (Option.bind (gi y_5.Args x_7) fun y6 => Option.bind (ap 136 a_3 ([y6] : List T_Expr)) fun l18 => (go (.l2 l18 a_4 y_5 (IntKind.wrap .i64 (x_7 - (1 : Int)))))) else ((go (.l0 a_3 a_4)))
theorem r2_All.l0_k.mono : MonoF (β := fun _ => ((List T_Expr))) r2_All.l0_k.body := fun f g hfg p => match p with
 | .l0 a_3 a_4 => LeO.ite (LeO.bind (LeO.refl _) fun y1 => LeO.bind (LeO.refl _) fun l14 => LeO.bind (LeO.refl _) fun l22 => (hfg _)) (LeO.refl _)
 | .l1 a_3 a_4 y_5 x_6 => LeO.ite (LeO.bind (LeO.refl _) fun y6 => LeO.bind (LeO.refl _) fun l18 => (hfg _)) ((hfg _))
 | .l2 a_3 a_4 y_5 x_7 => LeO.ite (LeO.bind (LeO.refl _) fun y6 => LeO.bind (LeO.refl _) fun l18 => (hfg _)) ((hfg _))
noncomputable def r2_All.l0_k.go (p : r2_All.l0_k.Pt) : Option ((List T_Expr)) := fixF (β := fun _ => ((List T_Expr))) r2_All.l0_k.body p
noncomputable def r2_All.l0 (a_3 a_4) := r2_All.l0_k.go (.l0 a_3 a_4)
noncomputable def r2_All.l1 (a_3 a_4 y_5 x_6) := r2_All.l0_k.go (.l1 a_3 a_4 y_5 x_6)
noncomputable def r2_All.l2 (a_3 a_4 y_5 x_7) := r2_All.l0_k.go (.l2 a_3 a_4 y_5 x_7)
theorem r2_All.l0_eq (a_3 a_4) : r2_All.l0 a_3 a_4 = if (((List.length a_3) : Nat) : Int) > (0 : Int) then (Option.bind (gi a_3 (IntKind.wrap .i64 ((((List.length a_3) : Nat) : Int) - (1 : Int)))) fun y1 => Option.bind (sls a_3 (0 : Int) (IntKind.wrap .i64 ((((List.length a_3) : Nat) : Int) - (1 : Int)))) fun l14 => Option.bind (ap 136 a_4 ([y1] : List T_Expr)) fun l22 => (r2_All.l1 l14 l22 y1 (IntKind.wrap .i64 ((((List.length y1.Arms) : Nat) : Int) - (1 : Int))))) else (some (a_4)) := fixF_eq r2_All.l0_k.mono _
theorem r2_All.l1_eq (a_3 a_4 y_5 x_6) : r2_All.l1 a_3 a_4 y_5 x_6 = if x_6 ≥ (0 : Int) then (Option.bind (gi y_5.Arms x_6) fun y6 => Option.bind (ap 136 a_3 ([y6.Body] : List T_Expr)) fun l18 => (r2_All.l1 l18 a_4 y_5 (IntKind.wrap .i64 (x_6 - (1 : Int))))) else ((r2_All.l2 a_3 a_4 y_5 (IntKind.wrap .i64 ((((List.length y_5.Args) : Nat) : Int) - (1 : Int))))) := fixF_eq r2_All.l0_k.mono _
theorem r2_All.l2_eq (a_3 a_4 y_5 x_7) : r2_All.l2 a_3 a_4 y_5 x_7 = if x_7 ≥ (0 : Int) then (Option.bind (gi y_5.Args x_7) fun y6 => Option.bind (ap 136 a_3 ([y6] : List T_Expr)) fun l18 => (r2_All.l2 l18 a_4 y_5 (IntKind.wrap .i64 (x_7 - (1 : Int))))) else ((r2_All.l0 a_3 a_4)) := fixF_eq r2_All.l0_k.mono _
def r2_All.l0_k.I : (p : r2_All.l0_k.Pt) → ((List T_Expr)) → Prop
 | .l0 a_3 a_4, r => ∀ {W h0 m0 h m A_3 n_3 c_3 A_4 n_4 c_4} (O : Hold W h0 m0 h m [rR (aE T_Expr.T) A_3 c_3 a_3, rR (aE T_Expr.T) A_4 c_4 a_4]) (ne_3 : n_3 = List.length a_3) (ne_4 : n_4 = List.length a_4), f60.l0 (r2_All.post W h0 m0 r) A_3 n_3 c_3 A_4 n_4 c_4 h
 | .l1 a_3 a_4 y_5 x_6, r => ∀ {W h0 m0 h m A_3 n_3 c_3 A_4 n_4 c_4 bk_5 cs_5} (O : Hold W h0 m0 h m [rR (aE T_Expr.T) A_3 c_3 a_3, rR (aE T_Expr.T) A_4 c_4 a_4, rV bk_5 48 cs_5]) (ne_3 : n_3 = List.length a_3) (ne_4 : n_4 = List.length a_4) (e_5 : T_Expr.E m y_5 cs_5), f60.l1 (r2_All.post W h0 m0 r) A_3 n_3 c_3 A_4 n_4 c_4 (⟨bk_5, 0, none⟩ : Addr) x_6 h
 | .l2 a_3 a_4 y_5 x_7, r => ∀ {W h0 m0 h m A_3 n_3 c_3 A_4 n_4 c_4 bk_5 cs_5} (O : Hold W h0 m0 h m [rR (aE T_Expr.T) A_3 c_3 a_3, rR (aE T_Expr.T) A_4 c_4 a_4, rV bk_5 48 cs_5]) (ne_3 : n_3 = List.length a_3) (ne_4 : n_4 = List.length a_4) (e_5 : T_Expr.E m y_5 cs_5), f60.l2 (r2_All.post W h0 m0 r) A_3 n_3 c_3 A_4 n_4 c_4 (⟨bk_5, 0, none⟩ : Addr) x_7 h
theorem r2_All.l0_k.step_l0 (go : (p : r2_All.l0_k.Pt) → Option ((List T_Expr))) (ih : ∀ p r, go p = some r → r2_All.l0_k.I p r) (a_3 a_4) (r) (e : r2_All.l0_k.body go (.l0 a_3 a_4) = some r) : r2_All.l0_k.I (.l0 a_3 a_4) r := by
 unfold r2_All.l0_k.body at e
 intro W h0 m0 h m A_3 n_3 c_3 A_4 n_4 c_4 O ne_3 ne_4
 subst ne_3
 subst ne_4
 refine f60.l0_in ?_
 unfold f60.l0T
 refine split_dec_e e (fun c40 e => ?_) (fun c40 e => ?_)
 · obtain ⟨y1, g2, e⟩ := bind_e e
   refine (O.os 0 rfl).addr rfl g2 fun a3 cs4 ha5 hc6 he7 => ?_
   refine ⟨_, ldAn (Sub.refl _) hc6 rfl, ?_⟩
   refine O.new fun h8 x9 O10 => ?_
   refine ⟨_, rfl, (T_Expr.T.len _ _ _ he7), ?_⟩
   refine O10.stA 2 rfl (T_Expr.T.len _ _ _ he7) (T_Expr.T.flat _ _ _ he7) fun h12 O13 => ?_
   obtain ⟨l14, g15, e⟩ := bind_e e
   have q16 := sls_e g15
   refine ⟨q16.1, q16.2.1, cap_in q16.2.2.1 (O13.cap 0 rfl), ?_⟩
   try rw [q16.2.2.2.1]
   refine ⟨_, ldAn (Sub.refl _) (O13.all 2 rfl) (T_Expr.T.len _ _ _ he7), ?_⟩
   refine ⟨cs4, rfl, (T_Expr.T.len _ _ _ he7), ?_⟩
   refine O13.new fun h17 x18 O19 => ?_
   have O21 := O19.recell 3 rfl (cs' := cs4 ++ []) rfl
   obtain ⟨l22, g23, e⟩ := bind_e e
   have O30 := O21.rowE (l := ([y1] : List T_Expr)) 3 rfl T_Expr.T (show CsE _ _ _ _ _ from (CsE.cons he7 (T_Expr.T.len _ _ _ he7) CsE.nil)) rfl
   refine O30.app 1 rfl rfl rfl ((O30.os 3 rfl).srcE rfl) (by decide) g23 fun A24 c25 h26 O27 => ?_
   refine ⟨_, _, _, rfl, ?_⟩
   have O31 := O27.nm
   obtain ⟨A32, c33, q34, k35, r36⟩ := T_Expr.g6 he7
   refine ⟨_, ldk (k := 6) (Sub.refl _) (O31.all 2 rfl) q34, _, _, _, rfl, ?_⟩
   have O37 := O31.sls 0 rfl g15
   have O39 := O37.nm
   exact (ih _ _ e) (O39.pick [0, 1, 2]).nm rfl rfl he7
 · cases e
   exact ⟨_, _, _, _, O.pick [1], rfl, rfl⟩
theorem r2_All.l0_k.step_l1 (go : (p : r2_All.l0_k.Pt) → Option ((List T_Expr))) (ih : ∀ p r, go p = some r → r2_All.l0_k.I p r) (a_3 a_4 y_5 x_6) (r) (e : r2_All.l0_k.body go (.l1 a_3 a_4 y_5 x_6) = some r) : r2_All.l0_k.I (.l1 a_3 a_4 y_5 x_6) r := by
 unfold r2_All.l0_k.body at e
 intro W h0 m0 h m A_3 n_3 c_3 A_4 n_4 c_4 bk_5 cs_5 O ne_3 ne_4 e_5
 subst ne_3
 subst ne_4
 refine f60.l1_in ?_
 unfold f60.l1T
 refine split_dec_e e (fun c33 e => ?_) (fun c33 e => ?_)
 · obtain ⟨A1, c2, q3, k4, r5⟩ := T_Expr.g6 e_5
   refine ⟨_, ldk (k := 6) (Sub.refl _) (O.all 2 rfl) q3, _, _, _, rfl, ?_⟩
   obtain ⟨y6, g7, e⟩ := bind_e e
   refine r5.addr rfl g7 fun a8 cs9 ha10 hc11 he12 => ?_
   refine ⟨_, ldAkn O.s hc11 4 8 (Nat.le_of_ble_eq_true rfl), ?_⟩
   refine ⟨(List.take 8 (List.drop 4 cs9)), rfl, (T_Expr.T.len _ _ _ (T_Arm.u4_48 he12)), ?_⟩
   refine O.new fun h13 x14 O15 => ?_
   have O17 := O15.recell 3 rfl (cs' := (List.take 8 (List.drop 4 cs9)) ++ []) rfl
   obtain ⟨l18, g19, e⟩ := bind_e e
   have O26 := O17.rowE (l := ([y6.Body] : List T_Expr)) 3 rfl T_Expr.T (show CsE _ _ _ _ _ from (CsE.cons (T_Arm.u4_48 he12) (T_Expr.T.len _ _ _ (T_Arm.u4_48 he12)) CsE.nil)) rfl
   refine O26.app 0 rfl rfl rfl ((O26.os 3 rfl).srcE rfl) (by decide) g19 fun A20 c21 h22 O23 => ?_
   refine ⟨_, _, _, rfl, ?_⟩
   have O27 := O23.nm
   exact (ih _ _ e) (O27.pick [0, 1, 2]).nm rfl rfl e_5
 · obtain ⟨A28, c29, q30, k31, r32⟩ := T_Expr.g5 e_5
   refine ⟨_, ldk (k := 5) (Sub.refl _) (O.all 2 rfl) q30, _, _, _, rfl, ?_⟩
   exact (ih _ _ e) (O.pick [0, 1, 2]).nm rfl rfl e_5
theorem r2_All.l0_k.step_l2 (go : (p : r2_All.l0_k.Pt) → Option ((List T_Expr))) (ih : ∀ p r, go p = some r → r2_All.l0_k.I p r) (a_3 a_4 y_5 x_7) (r) (e : r2_All.l0_k.body go (.l2 a_3 a_4 y_5 x_7) = some r) : r2_All.l0_k.I (.l2 a_3 a_4 y_5 x_7) r := by
 unfold r2_All.l0_k.body at e
 intro W h0 m0 h m A_3 n_3 c_3 A_4 n_4 c_4 bk_5 cs_5 O ne_3 ne_4 e_5
 subst ne_3
 subst ne_4
 refine f60.l2_in ?_
 unfold f60.l2T
 refine split_dec_e e (fun c28 e => ?_) (fun c28 e => ?_)
 · obtain ⟨A1, c2, q3, k4, r5⟩ := T_Expr.g5 e_5
   refine ⟨_, ldk (k := 5) (Sub.refl _) (O.all 2 rfl) q3, _, _, _, rfl, ?_⟩
   obtain ⟨y6, g7, e⟩ := bind_e e
   refine r5.addr rfl g7 fun a8 cs9 ha10 hc11 he12 => ?_
   refine ⟨_, ldAn O.s hc11 rfl, ?_⟩
   refine ⟨cs9, rfl, (T_Expr.T.len _ _ _ he12), ?_⟩
   refine O.new fun h13 x14 O15 => ?_
   have O17 := O15.recell 3 rfl (cs' := cs9 ++ []) rfl
   obtain ⟨l18, g19, e⟩ := bind_e e
   have O26 := O17.rowE (l := ([y6] : List T_Expr)) 3 rfl T_Expr.T (show CsE _ _ _ _ _ from (CsE.cons he12 (T_Expr.T.len _ _ _ he12) CsE.nil)) rfl
   refine O26.app 0 rfl rfl rfl ((O26.os 3 rfl).srcE rfl) (by decide) g19 fun A20 c21 h22 O23 => ?_
   refine ⟨_, _, _, rfl, ?_⟩
   have O27 := O23.nm
   exact (ih _ _ e) (O27.pick [0, 1, 2]).nm rfl rfl e_5
 · exact (ih _ _ e) (O.pick [0, 1]).nm rfl rfl
theorem r2_All.l0_k.all {p : r2_All.l0_k.Pt} {r : ((List T_Expr))} (e : r2_All.l0_k.go p = some r) : r2_All.l0_k.I p r := fixF_ind (β := fun _ => ((List T_Expr))) r2_All.l0_k.mono (I := r2_All.l0_k.I) (fun go ih p r e => match p with
 | .l0 a_3 a_4 => r2_All.l0_k.step_l0 go ih a_3 a_4 r e
 | .l1 a_3 a_4 y_5 x_6 => r2_All.l0_k.step_l1 go ih a_3 a_4 y_5 x_6 r e
 | .l2 a_3 a_4 y_5 x_7 => r2_All.l0_k.step_l2 go ih a_3 a_4 y_5 x_7 r e
 ) e
noncomputable def r2_All (y_0 : T_Expr) : Option ((List T_Expr)) :=
 (r2_All.l0 ([y_0] : List T_Expr) ([] : List T_Expr))
theorem r2_All.walk {W h m cs_0 y_0} (O : Hold W h m h m []) (e_0 : T_Expr.E m y_0 cs_0) {r} (e : r2_All y_0 = some r) : Run Tryz.prog 60 #[Value.agg cs_0.toArray] h (r2_All.post W h m r) := by
 unfold r2_All at e
 refine f60.run ?_
 unfold f60.runT
 refine O.new fun h1 x2 O3 => ?_
 refine ⟨_, ldAn (Sub.refl _) (O3.all 0 rfl) (T_Expr.T.len _ _ _ e_0), ?_⟩
 refine ⟨cs_0, rfl, (T_Expr.T.len _ _ _ e_0), ?_⟩
 refine O3.new fun h5 x6 O7 => ?_
 have O9 := O7.recell 1 rfl (cs' := cs_0 ++ []) rfl
 have O10 := O9.rowE (l := ([y_0] : List T_Expr)) 1 rfl T_Expr.T (show CsE _ _ _ _ _ from (CsE.cons e_0 (T_Expr.T.len _ _ _ e_0) CsE.nil)) rfl
 have O11 := O10.nil (aE T_Expr.T) none
 have O13 := O11.nm
 exact (r2_All.l0_k.all e) (O13.pick [1, 2]).nm rfl rfl
def r2_pats.post (W : Nat → Prop) (h0 m0 : Heap) (r : (List T_Pat)) (v : Value) (h : Heap) : Prop := ∃ m A0 n0 c0, Hold W h0 m0 h m [rR (aE T_Pat.T) A0 c0 r] ∧ v = .slice A0 n0 c0 ∧ n0 = List.length r
inductive r2_pats.l0_k.Pt where
 | l0 (a_3 : List T_Pat) (x_4 : Int)
noncomputable def r2_pats.l0_k.body (go : (p : r2_pats.l0_k.Pt) → Option ((List T_Pat))) : (p : r2_pats.l0_k.Pt) → Option ((List T_Pat))
 | .l0 a_3 x_4 => if x_4 < (((List.length a_3) : Nat) : Int) then (Option.bind (gi a_3 x_4) fun y1 => Option.bind (ap 56 a_3 y1.Args) fun l13 => (go (.l0 l13 (IntKind.wrap .i64 (x_4 + (1 : Int)))))) else (some (a_3))
theorem r2_pats.l0_k.mono : MonoF (β := fun _ => ((List T_Pat))) r2_pats.l0_k.body := fun f g hfg p => match p with
 | .l0 a_3 x_4 => LeO.ite (LeO.bind (LeO.refl _) fun y1 => LeO.bind (LeO.refl _) fun l13 => (hfg _)) (LeO.refl _)
noncomputable def r2_pats.l0_k.go (p : r2_pats.l0_k.Pt) : Option ((List T_Pat)) := fixF (β := fun _ => ((List T_Pat))) r2_pats.l0_k.body p
noncomputable def r2_pats.l0 (a_3 x_4) := r2_pats.l0_k.go (.l0 a_3 x_4)
theorem r2_pats.l0_eq (a_3 x_4) : r2_pats.l0 a_3 x_4 = if x_4 < (((List.length a_3) : Nat) : Int) then (Option.bind (gi a_3 x_4) fun y1 => Option.bind (ap 56 a_3 y1.Args) fun l13 => (r2_pats.l0 l13 (IntKind.wrap .i64 (x_4 + (1 : Int))))) else (some (a_3)) := fixF_eq r2_pats.l0_k.mono _
def r2_pats.l0_k.I : (p : r2_pats.l0_k.Pt) → ((List T_Pat)) → Prop
 | .l0 a_3 x_4, r => ∀ {W h0 m0 h m A_3 n_3 c_3} (O : Hold W h0 m0 h m [rR (aE T_Pat.T) A_3 c_3 a_3]) (ne_3 : n_3 = List.length a_3), f61.l0 (r2_pats.post W h0 m0 r) A_3 n_3 c_3 x_4 h
theorem r2_pats.l0_k.step_l0 (go : (p : r2_pats.l0_k.Pt) → Option ((List T_Pat))) (ih : ∀ p r, go p = some r → r2_pats.l0_k.I p r) (a_3 x_4) (r) (e : r2_pats.l0_k.body go (.l0 a_3 x_4) = some r) : r2_pats.l0_k.I (.l0 a_3 x_4) r := by
 unfold r2_pats.l0_k.body at e
 intro W h0 m0 h m A_3 n_3 c_3 O ne_3
 subst ne_3
 refine f61.l0_in ?_
 unfold f61.l0T
 refine split_dec_e e (fun c22 e => ?_) (fun c22 e => ?_)
 · obtain ⟨y1, g2, e⟩ := bind_e e
   refine (O.os 0 rfl).addr rfl g2 fun a3 cs4 ha5 hc6 he7 => ?_
   obtain ⟨A8, c9, q10, k11, r12⟩ := T_Pat.g3 he7
   refine ⟨_, ldk (k := 3) (Sub.refl _) hc6 q10, _, _, _, rfl, ?_⟩
   obtain ⟨l13, g14, e⟩ := bind_e e
   refine O.app 0 rfl rfl rfl (Rd.srcE r12 T_Pat.T O.s rfl) (by decide) g14 fun A15 c16 h17 O18 => ?_
   refine ⟨_, _, _, rfl, ?_⟩
   have O21 := O18.nm
   exact (ih _ _ e) (O21.pick [0]).nm rfl
 · cases e
   exact ⟨_, _, _, _, O.pick [0], rfl, rfl⟩
theorem r2_pats.l0_k.all {p : r2_pats.l0_k.Pt} {r : ((List T_Pat))} (e : r2_pats.l0_k.go p = some r) : r2_pats.l0_k.I p r := fixF_ind (β := fun _ => ((List T_Pat))) r2_pats.l0_k.mono (I := r2_pats.l0_k.I) (fun go ih p r e => match p with
 | .l0 a_3 x_4 => r2_pats.l0_k.step_l0 go ih a_3 x_4 r e
 ) e
noncomputable def r2_pats (y_0 : T_Pat) : Option ((List T_Pat)) :=
 (r2_pats.l0 ([y_0] : List T_Pat) (0 : Int))
theorem r2_pats.walk {W h m cs_0 y_0} (O : Hold W h m h m []) (e_0 : T_Pat.E m y_0 cs_0) {r} (e : r2_pats y_0 = some r) : Run Tryz.prog 61 #[Value.agg cs_0.toArray] h (r2_pats.post W h m r) := by
 unfold r2_pats at e
 refine f61.run ?_
 unfold f61.runT
 refine O.new fun h1 x2 O3 => ?_
 refine ⟨_, ldAn (Sub.refl _) (O3.all 0 rfl) (T_Pat.T.len _ _ _ e_0), ?_⟩
 refine ⟨cs_0, rfl, (T_Pat.T.len _ _ _ e_0), ?_⟩
 refine O3.new fun h5 x6 O7 => ?_
 have O9 := O7.recell 1 rfl (cs' := cs_0 ++ []) rfl
 have O10 := O9.rowE (l := ([y_0] : List T_Pat)) 1 rfl T_Pat.T (show CsE _ _ _ _ _ from (CsE.cons e_0 (T_Pat.T.len _ _ _ e_0) CsE.nil)) rfl
 have O11 := O10.nm
 exact (r2_pats.l0_k.all e) (O11.pick [1]).nm rfl
def r2_SizeOf.post (W : Nat → Prop) (h0 m0 : Heap) (r : Int) (v : Value) (h : Heap) : Prop := ∃ m , Hold W h0 m0 h m [] ∧ v = .int .i64 r
inductive r2_SizeOf.l0_k.Pt where
 | l0 (x_3 : Int) (a_9 : List T_Expr) (x_10 : Int) (x_11 : Int)
 | l1 (x_3 : Int) (a_9 : List T_Expr) (x_10 : Int) (x_11 : Int) (a_18 : List T_Arm) (x_19 : Int) (x_20 : Int)
noncomputable def r2_SizeOf.l0_k.body (go : (p : r2_SizeOf.l0_k.Pt) → Option (Int)) : (p : r2_SizeOf.l0_k.Pt) → Option (Int)
 | .l0 x_3 a_9 x_10 x_11 => if x_11 < x_10 then (Option.bind (gi a_9 x_11) fun y1 => (go (.l1 (IntKind.wrap .i64 (x_3 + (1 : Int))) a_9 x_10 x_11 y1.Arms (((List.length y1.Arms) : Nat) : Int) (0 : Int)))) else (some (x_3))
 | .l1 x_3 a_9 x_10 x_11 a_18 x_19 x_20 => if x_20 < x_19 then (Option.bind (gi a_18 x_20) fun y1 => Option.bind (r2_pats y1.Pat) fun y14 => (go (.l1 (IntKind.wrap .i64 (x_3 + (((List.length y14) : Nat) : Int))) a_9 x_10 x_11 a_18 x_19 (IntKind.wrap .i64 (x_20 + (1 : Int)))))) else ((go (.l0 x_3 a_9 x_10 (IntKind.wrap .i64 (x_11 + (1 : Int))))))
theorem r2_SizeOf.l0_k.mono : MonoF (β := fun _ => (Int)) r2_SizeOf.l0_k.body := fun f g hfg p => match p with
 | .l0 x_3 a_9 x_10 x_11 => LeO.ite (LeO.bind (LeO.refl _) fun y1 => (hfg _)) (LeO.refl _)
 | .l1 x_3 a_9 x_10 x_11 a_18 x_19 x_20 => LeO.ite (LeO.bind (LeO.refl _) fun y1 => LeO.bind (LeO.refl _) fun y14 => (hfg _)) ((hfg _))
noncomputable def r2_SizeOf.l0_k.go (p : r2_SizeOf.l0_k.Pt) : Option (Int) := fixF (β := fun _ => (Int)) r2_SizeOf.l0_k.body p
noncomputable def r2_SizeOf.l0 (x_3 a_9 x_10 x_11) := r2_SizeOf.l0_k.go (.l0 x_3 a_9 x_10 x_11)
noncomputable def r2_SizeOf.l1 (x_3 a_9 x_10 x_11 a_18 x_19 x_20) := r2_SizeOf.l0_k.go (.l1 x_3 a_9 x_10 x_11 a_18 x_19 x_20)
theorem r2_SizeOf.l0_eq (x_3 a_9 x_10 x_11) : r2_SizeOf.l0 x_3 a_9 x_10 x_11 = if x_11 < x_10 then (Option.bind (gi a_9 x_11) fun y1 => (r2_SizeOf.l1 (IntKind.wrap .i64 (x_3 + (1 : Int))) a_9 x_10 x_11 y1.Arms (((List.length y1.Arms) : Nat) : Int) (0 : Int))) else (some (x_3)) := fixF_eq r2_SizeOf.l0_k.mono _
theorem r2_SizeOf.l1_eq (x_3 a_9 x_10 x_11 a_18 x_19 x_20) : r2_SizeOf.l1 x_3 a_9 x_10 x_11 a_18 x_19 x_20 = if x_20 < x_19 then (Option.bind (gi a_18 x_20) fun y1 => Option.bind (r2_pats y1.Pat) fun y14 => (r2_SizeOf.l1 (IntKind.wrap .i64 (x_3 + (((List.length y14) : Nat) : Int))) a_9 x_10 x_11 a_18 x_19 (IntKind.wrap .i64 (x_20 + (1 : Int))))) else ((r2_SizeOf.l0 x_3 a_9 x_10 (IntKind.wrap .i64 (x_11 + (1 : Int))))) := fixF_eq r2_SizeOf.l0_k.mono _
def r2_SizeOf.l0_k.I : (p : r2_SizeOf.l0_k.Pt) → (Int) → Prop
 | .l0 x_3 a_9 x_10 x_11, r => ∀ {W h0 m0 h m A_9 n_9 c_9} (O : Hold W h0 m0 h m [rR (aE T_Expr.T) A_9 c_9 a_9]) (ne_9 : n_9 = List.length a_9), f37.l0 (r2_SizeOf.post W h0 m0 r) x_3 A_9 n_9 c_9 x_10 x_11 h
 | .l1 x_3 a_9 x_10 x_11 a_18 x_19 x_20, r => ∀ {W h0 m0 h m A_9 n_9 c_9 A_18 n_18 c_18} (O : Hold W h0 m0 h m [rR (aE T_Expr.T) A_9 c_9 a_9]) (ne_9 : n_9 = List.length a_9) (ne_18 : n_18 = List.length a_18) (k_18 : List.length a_18 ≤ c_18) (r_18 : Rd 12 T_Arm.E m A_18 a_18), f37.l1 (r2_SizeOf.post W h0 m0 r) x_3 A_9 n_9 c_9 x_10 x_11 A_18 n_18 c_18 x_19 x_20 h
theorem r2_SizeOf.l0_k.step_l0 (go : (p : r2_SizeOf.l0_k.Pt) → Option (Int)) (ih : ∀ p r, go p = some r → r2_SizeOf.l0_k.I p r) (x_3 a_9 x_10 x_11) (r) (e : r2_SizeOf.l0_k.body go (.l0 x_3 a_9 x_10 x_11) = some r) : r2_SizeOf.l0_k.I (.l0 x_3 a_9 x_10 x_11) r := by
 unfold r2_SizeOf.l0_k.body at e
 intro W h0 m0 h m A_9 n_9 c_9 O ne_9
 subst ne_9
 refine f37.l0_in ?_
 unfold f37.l0T
 refine split_dec_e e (fun c20 e => ?_) (fun c20 e => ?_)
 · obtain ⟨y1, g2, e⟩ := bind_e e
   refine (O.os 0 rfl).addr rfl g2 fun a3 cs4 ha5 hc6 he7 => ?_
   refine ⟨_, ldAn (Sub.refl _) hc6 rfl, ?_⟩
   refine O.new fun h8 x9 O10 => ?_
   refine ⟨_, rfl, (T_Expr.T.len _ _ _ he7), ?_⟩
   refine O10.stA 1 rfl (T_Expr.T.len _ _ _ he7) (T_Expr.T.flat _ _ _ he7) fun h12 O13 => ?_
   obtain ⟨A14, c15, q16, k17, r18⟩ := T_Expr.g6 he7
   refine ⟨_, ldk (k := 6) (Sub.refl _) (O13.all 1 rfl) q16, _, _, _, rfl, ?_⟩
   have O19 := O13.nm
   exact (ih _ _ e) (O19.pick [0]).nm rfl rfl k17 r18
 · cases e
   exact ⟨_, O.pick [], rfl⟩
theorem r2_SizeOf.l0_k.step_l1 (go : (p : r2_SizeOf.l0_k.Pt) → Option (Int)) (ih : ∀ p r, go p = some r → r2_SizeOf.l0_k.I p r) (x_3 a_9 x_10 x_11 a_18 x_19 x_20) (r) (e : r2_SizeOf.l0_k.body go (.l1 x_3 a_9 x_10 x_11 a_18 x_19 x_20) = some r) : r2_SizeOf.l0_k.I (.l1 x_3 a_9 x_10 x_11 a_18 x_19 x_20) r := by
 unfold r2_SizeOf.l0_k.body at e
 intro W h0 m0 h m A_9 n_9 c_9 A_18 n_18 c_18 O ne_9 ne_18 k_18 r_18
 subst ne_9
 subst ne_18
 refine f37.l1_in ?_
 unfold f37.l1T
 refine split_dec_e e (fun c26 e => ?_) (fun c26 e => ?_)
 · obtain ⟨y1, g2, e⟩ := bind_e e
   refine r_18.addr rfl g2 fun a3 cs4 ha5 hc6 he7 => ?_
   refine ⟨_, ldAn O.s hc6 rfl, ?_⟩
   refine O.new fun h8 x9 O10 => ?_
   refine ⟨_, rfl, (T_Arm.T.len _ _ _ he7), ?_⟩
   refine O10.stA 1 rfl (T_Arm.T.len _ _ _ he7) (T_Arm.T.flat _ _ _ he7) fun h12 O13 => ?_
   refine ⟨_, ldA0n (Sub.refl _) (O13.all 1 rfl) 4 (le_len (T_Arm.T.len _ _ _ he7) (by decide)), ?_⟩
   obtain ⟨y14, g15, e⟩ := bind_e e
   refine (r2_pats.walk (Hold.start (W := No) O13.s) (T_Arm.u0_95 he7) g15).mono ?_
   rintro _ h16 ⟨m17, A20, n21, c22, Q18, rfl, ne23⟩
   have O25 := Hold.nm (O13.ret Q18)
   subst ne23
   refine ⟨_, _, _, rfl, ?_⟩
   exact (ih _ _ e) (O25.pick [0]).nm rfl rfl k_18 (r_18.sub T_Arm.T Q18.S.up)
 · exact (ih _ _ e) (O.pick [0]).nm rfl
theorem r2_SizeOf.l0_k.all {p : r2_SizeOf.l0_k.Pt} {r : (Int)} (e : r2_SizeOf.l0_k.go p = some r) : r2_SizeOf.l0_k.I p r := fixF_ind (β := fun _ => (Int)) r2_SizeOf.l0_k.mono (I := r2_SizeOf.l0_k.I) (fun go ih p r e => match p with
 | .l0 x_3 a_9 x_10 x_11 => r2_SizeOf.l0_k.step_l0 go ih x_3 a_9 x_10 x_11 r e
 | .l1 x_3 a_9 x_10 x_11 a_18 x_19 x_20 => r2_SizeOf.l0_k.step_l1 go ih x_3 a_9 x_10 x_11 a_18 x_19 x_20 r e
 ) e
noncomputable def r2_SizeOf (y_0 : T_Expr) : Option (Int) :=
 Option.bind (r2_All y_0) fun y5 => (r2_SizeOf.l0 (0 : Int) y5 (((List.length y5) : Nat) : Int) (0 : Int))
theorem r2_SizeOf.walk {W h m cs_0 y_0} (O : Hold W h m h m []) (e_0 : T_Expr.E m y_0 cs_0) {r} (e : r2_SizeOf y_0 = some r) : Run Tryz.prog 37 #[Value.agg cs_0.toArray] h (r2_SizeOf.post W h m r) := by
 unfold r2_SizeOf at e
 refine f37.run ?_
 unfold f37.runT
 refine O.new fun h1 x2 O3 => ?_
 refine ⟨_, ldAn (Sub.refl _) (O3.all 0 rfl) (T_Expr.T.len _ _ _ e_0), ?_⟩
 obtain ⟨y5, g6, e⟩ := bind_e e
 refine (r2_All.walk (Hold.start (W := No) O3.s) e_0 g6).mono ?_
 rintro _ h7 ⟨m8, A11, n12, c13, Q9, rfl, ne14⟩
 have O16 := Hold.nm (O3.ret Q9)
 subst ne14
 refine ⟨_, _, _, rfl, ?_⟩
 exact (r2_SizeOf.l0_k.all e) (O16.pick [1]).nm rfl
def r2_height.post (W : Nat → Prop) (h0 m0 : Heap) (r : Int) (v : Value) (h : Heap) : Prop := ∃ m , Hold W h0 m0 h m [] ∧ v = .int .i64 r
inductive r2_height_k.Pt where
 | f (y_0 : T_Pat)
 | l0 (x_3 : Int) (a_7 : List T_Pat) (x_8 : Int) (x_9 : Int)
noncomputable def r2_height_k.body (go : (p : r2_height_k.Pt) → Option (Int)) : (p : r2_height_k.Pt) → Option (Int)
 | .f y_0 => (go (.l0 (1 : Int) y_0.Args (((List.length y_0.Args) : Nat) : Int) (0 : Int)))
 | .l0 x_3 a_7 x_8 x_9 => if x_9 < x_8 then (Option.bind (gi a_7 x_9) fun y1 => Option.bind ((go (.f y1))) fun y14 => (go (.l0 (if (IntKind.wrap .i64 ((1 : Int) + y14)) > x_3 then (IntKind.wrap .i64 ((1 : Int) + y14)) else x_3) a_7 x_8 (IntKind.wrap .i64 (x_9 + (1 : Int)))))) else (some (x_3))
theorem r2_height_k.mono : MonoF (β := fun _ => (Int)) r2_height_k.body := fun f g hfg p => match p with
 | .f y_0 => (hfg _)
 | .l0 x_3 a_7 x_8 x_9 => LeO.ite (LeO.bind (LeO.refl _) fun y1 => LeO.bind ((hfg _)) fun y14 => (hfg _)) (LeO.refl _)
noncomputable def r2_height_k.go (p : r2_height_k.Pt) : Option (Int) := fixF (β := fun _ => (Int)) r2_height_k.body p
noncomputable def r2_height (y_0) := r2_height_k.go (.f y_0)
noncomputable def r2_height.l0 (x_3 a_7 x_8 x_9) := r2_height_k.go (.l0 x_3 a_7 x_8 x_9)
theorem r2_height_eq (y_0) : r2_height y_0 = (r2_height.l0 (1 : Int) y_0.Args (((List.length y_0.Args) : Nat) : Int) (0 : Int)) := fixF_eq r2_height_k.mono _
theorem r2_height.l0_eq (x_3 a_7 x_8 x_9) : r2_height.l0 x_3 a_7 x_8 x_9 = if x_9 < x_8 then (Option.bind (gi a_7 x_9) fun y1 => Option.bind ((r2_height y1)) fun y14 => (r2_height.l0 (if (IntKind.wrap .i64 ((1 : Int) + y14)) > x_3 then (IntKind.wrap .i64 ((1 : Int) + y14)) else x_3) a_7 x_8 (IntKind.wrap .i64 (x_9 + (1 : Int))))) else (some (x_3)) := fixF_eq r2_height_k.mono _
def r2_height_k.I : (p : r2_height_k.Pt) → (Int) → Prop
 | .f y_0, r => ∀ {W h m cs_0} (O : Hold W h m h m []) (e_0 : T_Pat.E m y_0 cs_0), Run Tryz.prog 62 #[Value.agg cs_0.toArray] h (r2_height.post W h m r)
 | .l0 x_3 a_7 x_8 x_9, r => ∀ {W h0 m0 h m A_7 n_7 c_7} (O : Hold W h0 m0 h m []) (ne_7 : n_7 = List.length a_7) (k_7 : List.length a_7 ≤ c_7) (r_7 : Rd 4 T_Pat.E m A_7 a_7), f62.l0 (r2_height.post W h0 m0 r) x_3 A_7 n_7 c_7 x_8 x_9 h
theorem r2_height_k.step_f (go : (p : r2_height_k.Pt) → Option (Int)) (ih : ∀ p r, go p = some r → r2_height_k.I p r) (y_0) (r) (e : r2_height_k.body go (.f y_0) = some r) : r2_height_k.I (.f y_0) r := by
 unfold r2_height_k.body at e
 intro W h m cs_0 O e_0
 refine f62.run ?_
 unfold f62.runT
 refine O.new fun h1 x2 O3 => ?_
 obtain ⟨A5, c6, q7, k8, r9⟩ := T_Pat.g3 e_0
 refine ⟨_, ldk (k := 3) (Sub.refl _) (O3.all 0 rfl) q7, _, _, _, rfl, ?_⟩
 have O10 := O3.nm
 exact (ih _ _ e) (O10.pick []).nm rfl k8 r9
theorem r2_height_k.step_l0 (go : (p : r2_height_k.Pt) → Option (Int)) (ih : ∀ p r, go p = some r → r2_height_k.I p r) (x_3 a_7 x_8 x_9) (r) (e : r2_height_k.body go (.l0 x_3 a_7 x_8 x_9) = some r) : r2_height_k.I (.l0 x_3 a_7 x_8 x_9) r := by
 unfold r2_height_k.body at e
 intro W h0 m0 h m A_7 n_7 c_7 O ne_7 k_7 r_7
 subst ne_7
 refine f62.l0_in ?_
 unfold f62.l0T
 refine split_dec_e e (fun c21 e => ?_) (fun c21 e => ?_)
 · obtain ⟨y1, g2, e⟩ := bind_e e
   refine r_7.addr rfl g2 fun a3 cs4 ha5 hc6 he7 => ?_
   refine ⟨_, ldAn O.s hc6 rfl, ?_⟩
   refine O.new fun h8 x9 O10 => ?_
   refine ⟨_, rfl, (T_Pat.T.len _ _ _ he7), ?_⟩
   refine O10.stA 0 rfl (T_Pat.T.len _ _ _ he7) (T_Pat.T.flat _ _ _ he7) fun h12 O13 => ?_
   refine ⟨_, ldAn (Sub.refl _) (O13.all 0 rfl) (T_Pat.T.len _ _ _ he7), ?_⟩
   obtain ⟨y14, g15, e⟩ := bind_e e
   refine ((ih _ _ g15) (Hold.start (W := No) O13.s) he7).mono ?_
   rintro _ h16 ⟨m17, Q18, rfl⟩
   have O20 := Hold.nm (O13.retC Q18 vfs_nil)
   refine ⟨_, rfl, ?_⟩
   exact (ih _ _ e) (O20.pick []).nm rfl k_7 r_7
 · cases e
   exact ⟨_, O.pick [], rfl⟩
theorem r2_height_k.all {p : r2_height_k.Pt} {r : (Int)} (e : r2_height_k.go p = some r) : r2_height_k.I p r := fixF_ind (β := fun _ => (Int)) r2_height_k.mono (I := r2_height_k.I) (fun go ih p r e => match p with
 | .f y_0 => r2_height_k.step_f go ih y_0 r e
 | .l0 x_3 a_7 x_8 x_9 => r2_height_k.step_l0 go ih x_3 a_7 x_8 x_9 r e
 ) e
theorem r2_height.walk {W h m cs_0 y_0} (O : Hold W h m h m []) (e_0 : T_Pat.E m y_0 cs_0) {r} (e : r2_height y_0 = some r) : Run Tryz.prog 62 #[Value.agg cs_0.toArray] h (r2_height.post W h m r) := r2_height_k.all (p := .f y_0) e O e_0
def r2_DeepOf.post (W : Nat → Prop) (h0 m0 : Heap) (r : Int) (v : Value) (h : Heap) : Prop := ∃ m , Hold W h0 m0 h m [] ∧ v = .int .i64 r
inductive r2_DeepOf_k.Pt where
 | f (y_0 : T_Expr)
 | l0 (y_1 : T_Expr) (x_3 : Int) (a_9 : List T_Expr) (x_10 : Int) (x_11 : Int)
 | l1 (x_3 : Int) (a_22 : List T_Arm) (x_23 : Int) (x_24 : Int)
noncomputable def r2_DeepOf_k.body (go : (p : r2_DeepOf_k.Pt) → Option (Int)) : (p : r2_DeepOf_k.Pt) → Option (Int)
 | .f y_0 => (go (.l0 y_0 (1 : Int) y_0.Args (((List.length y_0.Args) : Nat) : Int) (0 : Int)))
 | .l0 y_1 x_3 a_9 x_10 x_11 => if x_11 < x_10 then (Option.bind (gi a_9 x_11) fun y1 => Option.bind ((go (.f y1))) fun y14 => (go (.l0 y_1 (if (IntKind.wrap .i64 ((1 : Int) + y14)) > x_3 then (IntKind.wrap .i64 ((1 : Int) + y14)) else x_3) a_9 x_10 (IntKind.wrap .i64 (x_11 + (1 : Int)))))) else ((go (.l1 x_3 y_1.Arms (((List.length y_1.Arms) : Nat) : Int) (0 : Int))))
 | .l1 x_3 a_22 x_23 x_24 => if x_24 < x_23 then (Option.bind (gi a_22 x_24) fun y1 => Option.bind ((go (.f y1.Body))) fun y14 => Option.bind (r2_height y1.Pat) fun y21 => (go (.l1 (if (IntKind.wrap .i64 ((1 : Int) + y21)) > (if (IntKind.wrap .i64 ((1 : Int) + y14)) > x_3 then (IntKind.wrap .i64 ((1 : Int) + y14)) else x_3) then (IntKind.wrap .i64 ((1 : Int) + y21)) else (if (IntKind.wrap .i64 ((1 : Int) + y14)) > x_3 then (IntKind.wrap .i64 ((1 : Int) + y14)) else x_3)) a_22 x_23 (IntKind.wrap .i64 (x_24 + (1 : Int)))))) else (some (x_3))
theorem r2_DeepOf_k.mono : MonoF (β := fun _ => (Int)) r2_DeepOf_k.body := fun f g hfg p => match p with
 | .f y_0 => (hfg _)
 | .l0 y_1 x_3 a_9 x_10 x_11 => LeO.ite (LeO.bind (LeO.refl _) fun y1 => LeO.bind ((hfg _)) fun y14 => (hfg _)) ((hfg _))
 | .l1 x_3 a_22 x_23 x_24 => LeO.ite (LeO.bind (LeO.refl _) fun y1 => LeO.bind ((hfg _)) fun y14 => LeO.bind (LeO.refl _) fun y21 => (hfg _)) (LeO.refl _)
noncomputable def r2_DeepOf_k.go (p : r2_DeepOf_k.Pt) : Option (Int) := fixF (β := fun _ => (Int)) r2_DeepOf_k.body p
noncomputable def r2_DeepOf (y_0) := r2_DeepOf_k.go (.f y_0)
noncomputable def r2_DeepOf.l0 (y_1 x_3 a_9 x_10 x_11) := r2_DeepOf_k.go (.l0 y_1 x_3 a_9 x_10 x_11)
noncomputable def r2_DeepOf.l1 (x_3 a_22 x_23 x_24) := r2_DeepOf_k.go (.l1 x_3 a_22 x_23 x_24)
theorem r2_DeepOf_eq (y_0) : r2_DeepOf y_0 = (r2_DeepOf.l0 y_0 (1 : Int) y_0.Args (((List.length y_0.Args) : Nat) : Int) (0 : Int)) := fixF_eq r2_DeepOf_k.mono _
theorem r2_DeepOf.l0_eq (y_1 x_3 a_9 x_10 x_11) : r2_DeepOf.l0 y_1 x_3 a_9 x_10 x_11 = if x_11 < x_10 then (Option.bind (gi a_9 x_11) fun y1 => Option.bind ((r2_DeepOf y1)) fun y14 => (r2_DeepOf.l0 y_1 (if (IntKind.wrap .i64 ((1 : Int) + y14)) > x_3 then (IntKind.wrap .i64 ((1 : Int) + y14)) else x_3) a_9 x_10 (IntKind.wrap .i64 (x_11 + (1 : Int))))) else ((r2_DeepOf.l1 x_3 y_1.Arms (((List.length y_1.Arms) : Nat) : Int) (0 : Int))) := fixF_eq r2_DeepOf_k.mono _
theorem r2_DeepOf.l1_eq (x_3 a_22 x_23 x_24) : r2_DeepOf.l1 x_3 a_22 x_23 x_24 = if x_24 < x_23 then (Option.bind (gi a_22 x_24) fun y1 => Option.bind ((r2_DeepOf y1.Body)) fun y14 => Option.bind (r2_height y1.Pat) fun y21 => (r2_DeepOf.l1 (if (IntKind.wrap .i64 ((1 : Int) + y21)) > (if (IntKind.wrap .i64 ((1 : Int) + y14)) > x_3 then (IntKind.wrap .i64 ((1 : Int) + y14)) else x_3) then (IntKind.wrap .i64 ((1 : Int) + y21)) else (if (IntKind.wrap .i64 ((1 : Int) + y14)) > x_3 then (IntKind.wrap .i64 ((1 : Int) + y14)) else x_3)) a_22 x_23 (IntKind.wrap .i64 (x_24 + (1 : Int))))) else (some (x_3)) := fixF_eq r2_DeepOf_k.mono _
def r2_DeepOf_k.I : (p : r2_DeepOf_k.Pt) → (Int) → Prop
 | .f y_0, r => ∀ {W h m cs_0} (O : Hold W h m h m []) (e_0 : T_Expr.E m y_0 cs_0), Run Tryz.prog 38 #[Value.agg cs_0.toArray] h (r2_DeepOf.post W h m r)
 | .l0 y_1 x_3 a_9 x_10 x_11, r => ∀ {W h0 m0 h m bk_1 cs_1 A_9 n_9 c_9} (O : Hold W h0 m0 h m [rV bk_1 48 cs_1]) (e_1 : T_Expr.E m y_1 cs_1) (ne_9 : n_9 = List.length a_9) (k_9 : List.length a_9 ≤ c_9) (r_9 : Rd 8 T_Expr.E m A_9 a_9), f38.l0 (r2_DeepOf.post W h0 m0 r) (⟨bk_1, 0, none⟩ : Addr) x_3 A_9 n_9 c_9 x_10 x_11 h
 | .l1 x_3 a_22 x_23 x_24, r => ∀ {W h0 m0 h m A_22 n_22 c_22} (O : Hold W h0 m0 h m []) (ne_22 : n_22 = List.length a_22) (k_22 : List.length a_22 ≤ c_22) (r_22 : Rd 12 T_Arm.E m A_22 a_22), f38.l1 (r2_DeepOf.post W h0 m0 r) x_3 A_22 n_22 c_22 x_23 x_24 h
theorem r2_DeepOf_k.step_f (go : (p : r2_DeepOf_k.Pt) → Option (Int)) (ih : ∀ p r, go p = some r → r2_DeepOf_k.I p r) (y_0) (r) (e : r2_DeepOf_k.body go (.f y_0) = some r) : r2_DeepOf_k.I (.f y_0) r := by
 unfold r2_DeepOf_k.body at e
 intro W h m cs_0 O e_0
 refine f38.run ?_
 unfold f38.runT
 refine O.new fun h1 x2 O3 => ?_
 obtain ⟨A5, c6, q7, k8, r9⟩ := T_Expr.g5 e_0
 refine ⟨_, ldk (k := 5) (Sub.refl _) (O3.all 0 rfl) q7, _, _, _, rfl, ?_⟩
 have O10 := O3.nm
 exact (ih _ _ e) (O10.pick [0]).nm e_0 rfl k8 r9
theorem r2_DeepOf_k.step_l0 (go : (p : r2_DeepOf_k.Pt) → Option (Int)) (ih : ∀ p r, go p = some r → r2_DeepOf_k.I p r) (y_1 x_3 a_9 x_10 x_11) (r) (e : r2_DeepOf_k.body go (.l0 y_1 x_3 a_9 x_10 x_11) = some r) : r2_DeepOf_k.I (.l0 y_1 x_3 a_9 x_10 x_11) r := by
 unfold r2_DeepOf_k.body at e
 intro W h0 m0 h m bk_1 cs_1 A_9 n_9 c_9 O e_1 ne_9 k_9 r_9
 subst ne_9
 refine f38.l0_in ?_
 unfold f38.l0T
 refine split_dec_e e (fun c26 e => ?_) (fun c26 e => ?_)
 · obtain ⟨y1, g2, e⟩ := bind_e e
   refine r_9.addr rfl g2 fun a3 cs4 ha5 hc6 he7 => ?_
   refine ⟨_, ldAn O.s hc6 rfl, ?_⟩
   refine O.new fun h8 x9 O10 => ?_
   refine ⟨_, rfl, (T_Expr.T.len _ _ _ he7), ?_⟩
   refine O10.stA 1 rfl (T_Expr.T.len _ _ _ he7) (T_Expr.T.flat _ _ _ he7) fun h12 O13 => ?_
   refine ⟨_, ldAn (Sub.refl _) (O13.all 1 rfl) (T_Expr.T.len _ _ _ he7), ?_⟩
   obtain ⟨y14, g15, e⟩ := bind_e e
   refine ((ih _ _ g15) (Hold.start (W := No) O13.s) he7).mono ?_
   rintro _ h16 ⟨m17, Q18, rfl⟩
   have O20 := Hold.nm (O13.retC Q18 vfs_nil)
   refine ⟨_, rfl, ?_⟩
   exact (ih _ _ e) (O20.pick [0]).nm e_1 rfl k_9 r_9
 · obtain ⟨A21, c22, q23, k24, r25⟩ := T_Expr.g6 e_1
   refine ⟨_, ldk (k := 6) (Sub.refl _) (O.all 0 rfl) q23, _, _, _, rfl, ?_⟩
   exact (ih _ _ e) (O.pick []).nm rfl k24 r25
theorem r2_DeepOf_k.step_l1 (go : (p : r2_DeepOf_k.Pt) → Option (Int)) (ih : ∀ p r, go p = some r → r2_DeepOf_k.I p r) (x_3 a_22 x_23 x_24) (r) (e : r2_DeepOf_k.body go (.l1 x_3 a_22 x_23 x_24) = some r) : r2_DeepOf_k.I (.l1 x_3 a_22 x_23 x_24) r := by
 unfold r2_DeepOf_k.body at e
 intro W h0 m0 h m A_22 n_22 c_22 O ne_22 k_22 r_22
 subst ne_22
 refine f38.l1_in ?_
 unfold f38.l1T
 refine split_dec_e e (fun c28 e => ?_) (fun c28 e => ?_)
 · obtain ⟨y1, g2, e⟩ := bind_e e
   refine r_22.addr rfl g2 fun a3 cs4 ha5 hc6 he7 => ?_
   refine ⟨_, ldAn O.s hc6 rfl, ?_⟩
   refine O.new fun h8 x9 O10 => ?_
   refine ⟨_, rfl, (T_Arm.T.len _ _ _ he7), ?_⟩
   refine O10.stA 0 rfl (T_Arm.T.len _ _ _ he7) (T_Arm.T.flat _ _ _ he7) fun h12 O13 => ?_
   refine ⟨_, ldAkn (Sub.refl _) (O13.all 0 rfl) 4 8 (le_len (T_Arm.T.len _ _ _ he7) (by decide)), ?_⟩
   refine ⟨_, ldA0n (Sub.refl _) (O13.all 0 rfl) 4 (le_len (T_Arm.T.len _ _ _ he7) (by decide)), ?_⟩
   obtain ⟨y14, g15, e⟩ := bind_e e
   refine ((ih _ _ g15) (Hold.start (W := No) O13.s) (T_Arm.u4_48 he7)).mono ?_
   rintro _ h16 ⟨m17, Q18, rfl⟩
   have O20 := Hold.nm (O13.retC Q18 vfs_nil)
   refine ⟨_, rfl, ?_⟩
   refine ⟨Q18.S.ext, ?_⟩
   obtain ⟨y21, g22, e⟩ := bind_e e
   refine (r2_height.walk (Hold.start (W := No) O20.s) (T_Arm.u0_95 he7) g22).mono ?_
   rintro _ h23 ⟨m24, Q25, rfl⟩
   have O27 := Hold.nm (O20.retC Q25 vfs_nil)
   refine ⟨_, rfl, ?_⟩
   exact (ih _ _ e) (O27.pick []).nm rfl k_22 r_22
 · cases e
   exact ⟨_, O.pick [], rfl⟩
theorem r2_DeepOf_k.all {p : r2_DeepOf_k.Pt} {r : (Int)} (e : r2_DeepOf_k.go p = some r) : r2_DeepOf_k.I p r := fixF_ind (β := fun _ => (Int)) r2_DeepOf_k.mono (I := r2_DeepOf_k.I) (fun go ih p r e => match p with
 | .f y_0 => r2_DeepOf_k.step_f go ih y_0 r e
 | .l0 y_1 x_3 a_9 x_10 x_11 => r2_DeepOf_k.step_l0 go ih y_1 x_3 a_9 x_10 x_11 r e
 | .l1 x_3 a_22 x_23 x_24 => r2_DeepOf_k.step_l1 go ih x_3 a_22 x_23 x_24 r e
 ) e
theorem r2_DeepOf.walk {W h m cs_0 y_0} (O : Hold W h m h m []) (e_0 : T_Expr.E m y_0 cs_0) {r} (e : r2_DeepOf y_0 = some r) : Run Tryz.prog 38 #[Value.agg cs_0.toArray] h (r2_DeepOf.post W h m r) := r2_DeepOf_k.all (p := .f y_0) e O e_0
def r2_NeedsOf.post (W : Nat → Prop) (h0 m0 : Heap) (r : Int) (v : Value) (h : Heap) : Prop := ∃ m , Hold W h0 m0 h m [] ∧ v = .int .i64 r
noncomputable def r2_NeedsOf.j3 (y_1 : T_Expr) (x_4 : Int) (b_32 : Bool) : Option (Int) :=
 if b_32 = true then (some ((((List.length y_1.Args) : Nat) : Int))) else (if x_4 = (11 : Int) then (some ((if (((List.length y_1.Args) : Nat) : Int) > (1 : Int) then (((List.length y_1.Args) : Nat) : Int) else (1 : Int)))) else (some ((-1 : Int))))
theorem r2_NeedsOf.j3.walk {W h0 m0 h m bk_1 cs_1 y_1 x_4 b_32} (O : Hold W h0 m0 h m [rV bk_1 48 cs_1]) (e_1 : T_Expr.E m y_1 cs_1) {r} (e : r2_NeedsOf.j3 y_1 x_4 b_32 = some r) : f86.j3 (r2_NeedsOf.post W h0 m0 r) (⟨bk_1, 0, none⟩ : Addr) x_4 b_32 h := by
 unfold r2_NeedsOf.j3 at e
 refine f86.j3_in ?_
 unfold f86.j3T
 refine split_any_e e (fun c12 e => ?_) (fun c12 e => ?_)
 · obtain ⟨A1, c2, q3, k4, r5⟩ := T_Expr.g5 e_1
   refine ⟨_, ldk (k := 5) (Sub.refl _) (O.all 0 rfl) q3, _, _, _, rfl, ?_⟩
   cases e
   exact ⟨_, O.pick [], rfl⟩
 · refine split_eq_e e (fun c11 e => ?_) (fun c11 e => ?_)
   · obtain ⟨A6, c7, q8, k9, r10⟩ := T_Expr.g5 e_1
     refine ⟨_, ldk (k := 5) (Sub.refl _) (O.all 0 rfl) q8, _, _, _, rfl, ?_⟩
     cases e
     exact ⟨_, O.pick [], rfl⟩
   · cases e
     exact ⟨_, O.pick [], rfl⟩
noncomputable def r2_NeedsOf.j2 (y_1 : T_Expr) (x_4 : Int) (b_21 : Bool) : Option (Int) :=
 if b_21 = true then (some ((2 : Int))) else (if x_4 = (7 : Int) then (some ((3 : Int))) else (if x_4 = (18 : Int) then (if y_1.Num < (0 : Int) then (some ((0 : Int))) else (some ((1 : Int)))) else (if x_4 = (8 : Int) then ((r2_NeedsOf.j3 y_1 x_4 (x_4 == (8 : Int)))) else (if x_4 = (9 : Int) then ((r2_NeedsOf.j3 y_1 x_4 (x_4 == (9 : Int)))) else (if x_4 = (12 : Int) then ((r2_NeedsOf.j3 y_1 x_4 (x_4 == (12 : Int)))) else (if x_4 = (14 : Int) then ((r2_NeedsOf.j3 y_1 x_4 (x_4 == (14 : Int)))) else ((r2_NeedsOf.j3 y_1 x_4 (x_4 == (17 : Int))))))))))
theorem r2_NeedsOf.j2.walk {W h0 m0 h m bk_1 cs_1 y_1 x_4 b_21} (O : Hold W h0 m0 h m [rV bk_1 48 cs_1]) (e_1 : T_Expr.E m y_1 cs_1) {r} (e : r2_NeedsOf.j2 y_1 x_4 b_21 = some r) : f86.j2 (r2_NeedsOf.post W h0 m0 r) (⟨bk_1, 0, none⟩ : Addr) x_4 b_21 h := by
 unfold r2_NeedsOf.j2 at e
 refine f86.j2_in ?_
 unfold f86.j2T
 refine split_any_e e (fun c8 e => ?_) (fun c8 e => ?_)
 · cases e
   exact ⟨_, O.pick [], rfl⟩
 · refine split_eq_e e (fun c7 e => ?_) (fun c7 e => ?_)
   · cases e
     exact ⟨_, O.pick [], rfl⟩
   · refine split_eq_e e (fun c6 e => ?_) (fun c6 e => ?_)
     · refine ⟨_, ldk (k := 1) (Sub.refl _) (O.all 0 rfl) (T_Expr.g1 e_1), _, rfl, ?_⟩
       refine split_dec_e e (fun c1 e => ?_) (fun c1 e => ?_)
       · cases e
         exact ⟨_, O.pick [], rfl⟩
       · cases e
         exact ⟨_, O.pick [], rfl⟩
     · refine split_eq_e e (fun c5 e => ?_) (fun c5 e => ?_)
       · exact r2_NeedsOf.j3.walk (O.pick [0]).nm e_1 e
       · refine split_eq_e e (fun c4 e => ?_) (fun c4 e => ?_)
         · exact r2_NeedsOf.j3.walk (O.pick [0]).nm e_1 e
         · refine split_eq_e e (fun c3 e => ?_) (fun c3 e => ?_)
           · exact r2_NeedsOf.j3.walk (O.pick [0]).nm e_1 e
           · refine split_eq_e e (fun c2 e => ?_) (fun c2 e => ?_)
             · exact r2_NeedsOf.j3.walk (O.pick [0]).nm e_1 e
             · exact r2_NeedsOf.j3.walk (O.pick [0]).nm e_1 e
noncomputable def r2_NeedsOf.j1 (y_1 : T_Expr) (x_4 : Int) (b_12 : Bool) : Option (Int) :=
 if b_12 = true then (some ((1 : Int))) else (if x_4 = (6 : Int) then ((r2_NeedsOf.j2 y_1 x_4 (x_4 == (6 : Int)))) else (if x_4 = (15 : Int) then ((r2_NeedsOf.j2 y_1 x_4 (x_4 == (15 : Int)))) else ((r2_NeedsOf.j2 y_1 x_4 (x_4 == (23 : Int))))))
theorem r2_NeedsOf.j1.walk {W h0 m0 h m bk_1 cs_1 y_1 x_4 b_12} (O : Hold W h0 m0 h m [rV bk_1 48 cs_1]) (e_1 : T_Expr.E m y_1 cs_1) {r} (e : r2_NeedsOf.j1 y_1 x_4 b_12 = some r) : f86.j1 (r2_NeedsOf.post W h0 m0 r) (⟨bk_1, 0, none⟩ : Addr) x_4 b_12 h := by
 unfold r2_NeedsOf.j1 at e
 refine f86.j1_in ?_
 unfold f86.j1T
 refine split_any_e e (fun c3 e => ?_) (fun c3 e => ?_)
 · cases e
   exact ⟨_, O.pick [], rfl⟩
 · refine split_eq_e e (fun c2 e => ?_) (fun c2 e => ?_)
   · exact r2_NeedsOf.j2.walk (O.pick [0]).nm e_1 e
   · refine split_eq_e e (fun c1 e => ?_) (fun c1 e => ?_)
     · exact r2_NeedsOf.j2.walk (O.pick [0]).nm e_1 e
     · exact r2_NeedsOf.j2.walk (O.pick [0]).nm e_1 e
noncomputable def r2_NeedsOf.j0 (y_1 : T_Expr) (x_4 : Int) (b_5 : Bool) : Option (Int) :=
 if b_5 = true then (some ((0 : Int))) else (if x_4 = (10 : Int) then ((r2_NeedsOf.j1 y_1 x_4 (x_4 == (10 : Int)))) else (if x_4 = (13 : Int) then ((r2_NeedsOf.j1 y_1 x_4 (x_4 == (13 : Int)))) else (if x_4 = (19 : Int) then ((r2_NeedsOf.j1 y_1 x_4 (x_4 == (19 : Int)))) else (if x_4 = (20 : Int) then ((r2_NeedsOf.j1 y_1 x_4 (x_4 == (20 : Int)))) else (if x_4 = (21 : Int) then ((r2_NeedsOf.j1 y_1 x_4 (x_4 == (21 : Int)))) else (if x_4 = (22 : Int) then ((r2_NeedsOf.j1 y_1 x_4 (x_4 == (22 : Int)))) else (if x_4 = (24 : Int) then ((r2_NeedsOf.j1 y_1 x_4 (x_4 == (24 : Int)))) else ((r2_NeedsOf.j1 y_1 x_4 (x_4 == (25 : Int)))))))))))
theorem r2_NeedsOf.j0.walk {W h0 m0 h m bk_1 cs_1 y_1 x_4 b_5} (O : Hold W h0 m0 h m [rV bk_1 48 cs_1]) (e_1 : T_Expr.E m y_1 cs_1) {r} (e : r2_NeedsOf.j0 y_1 x_4 b_5 = some r) : f86.j0 (r2_NeedsOf.post W h0 m0 r) (⟨bk_1, 0, none⟩ : Addr) x_4 b_5 h := by
 unfold r2_NeedsOf.j0 at e
 refine f86.j0_in ?_
 unfold f86.j0T
 refine split_any_e e (fun c8 e => ?_) (fun c8 e => ?_)
 · cases e
   exact ⟨_, O.pick [], rfl⟩
 · refine split_eq_e e (fun c7 e => ?_) (fun c7 e => ?_)
   · exact r2_NeedsOf.j1.walk (O.pick [0]).nm e_1 e
   · refine split_eq_e e (fun c6 e => ?_) (fun c6 e => ?_)
     · exact r2_NeedsOf.j1.walk (O.pick [0]).nm e_1 e
     · refine split_eq_e e (fun c5 e => ?_) (fun c5 e => ?_)
       · exact r2_NeedsOf.j1.walk (O.pick [0]).nm e_1 e
       · refine split_eq_e e (fun c4 e => ?_) (fun c4 e => ?_)
         · exact r2_NeedsOf.j1.walk (O.pick [0]).nm e_1 e
         · refine split_eq_e e (fun c3 e => ?_) (fun c3 e => ?_)
           · exact r2_NeedsOf.j1.walk (O.pick [0]).nm e_1 e
           · refine split_eq_e e (fun c2 e => ?_) (fun c2 e => ?_)
             · exact r2_NeedsOf.j1.walk (O.pick [0]).nm e_1 e
             · refine split_eq_e e (fun c1 e => ?_) (fun c1 e => ?_)
               · exact r2_NeedsOf.j1.walk (O.pick [0]).nm e_1 e
               · exact r2_NeedsOf.j1.walk (O.pick [0]).nm e_1 e
noncomputable def r2_NeedsOf (y_0 : T_Expr) : Option (Int) :=
 if y_0.Kind = (1 : Int) then ((r2_NeedsOf.j0 y_0 y_0.Kind (y_0.Kind == (1 : Int)))) else (if y_0.Kind = (2 : Int) then ((r2_NeedsOf.j0 y_0 y_0.Kind (y_0.Kind == (2 : Int)))) else (if y_0.Kind = (3 : Int) then ((r2_NeedsOf.j0 y_0 y_0.Kind (y_0.Kind == (3 : Int)))) else (if y_0.Kind = (4 : Int) then ((r2_NeedsOf.j0 y_0 y_0.Kind (y_0.Kind == (4 : Int)))) else (if y_0.Kind = (5 : Int) then ((r2_NeedsOf.j0 y_0 y_0.Kind (y_0.Kind == (5 : Int)))) else ((r2_NeedsOf.j0 y_0 y_0.Kind (y_0.Kind == (16 : Int))))))))
theorem r2_NeedsOf.walk {W h m cs_0 y_0} (O : Hold W h m h m []) (e_0 : T_Expr.E m y_0 cs_0) {r} (e : r2_NeedsOf y_0 = some r) : Run Tryz.prog 86 #[Value.agg cs_0.toArray] h (r2_NeedsOf.post W h m r) := by
 unfold r2_NeedsOf at e
 refine f86.run ?_
 unfold f86.runT
 refine O.new fun h1 x2 O3 => ?_
 refine ⟨_, ld0 (Sub.refl _) (O3.all 0 rfl) (T_Expr.g0 e_0), _, rfl, ?_⟩
 refine split_eq_e e (fun c15 e => ?_) (fun c15 e => ?_)
 · have O5 := O3.nm
   exact r2_NeedsOf.j0.walk (O5.pick [0]).nm e_0 e
 · refine split_eq_e e (fun c14 e => ?_) (fun c14 e => ?_)
   · have O6 := O3.nm
     exact r2_NeedsOf.j0.walk (O6.pick [0]).nm e_0 e
   · refine split_eq_e e (fun c13 e => ?_) (fun c13 e => ?_)
     · have O7 := O3.nm
       exact r2_NeedsOf.j0.walk (O7.pick [0]).nm e_0 e
     · refine split_eq_e e (fun c12 e => ?_) (fun c12 e => ?_)
       · have O8 := O3.nm
         exact r2_NeedsOf.j0.walk (O8.pick [0]).nm e_0 e
       · refine split_eq_e e (fun c11 e => ?_) (fun c11 e => ?_)
         · have O9 := O3.nm
           exact r2_NeedsOf.j0.walk (O9.pick [0]).nm e_0 e
         · have O10 := O3.nm
           exact r2_NeedsOf.j0.walk (O10.pick [0]).nm e_0 e
def r2_argsOf.post (W : Nat → Prop) (h0 m0 : Heap) (r : Int × Int) (v : Value) (h : Heap) : Prop := ∃ m , Hold W h0 m0 h m [] ∧ v = .tuple #[.int .i64 r.1, .int .i64 r.2]
noncomputable def r2_argsOf.j0 (y_1 : T_Expr) : Option (Int × Int) :=
 Option.bind (r2_NeedsOf y_1) fun y1 => some (y1, y1)
theorem r2_argsOf.j0.walk {W h0 m0 h m bk_1 cs_1 y_1} (O : Hold W h0 m0 h m [rV bk_1 48 cs_1]) (e_1 : T_Expr.E m y_1 cs_1) {r} (e : r2_argsOf.j0 y_1 = some r) : f63.j0 (r2_argsOf.post W h0 m0 r) (⟨bk_1, 0, none⟩ : Addr) h := by
 unfold r2_argsOf.j0 at e
 refine f63.j0_in ?_
 unfold f63.j0T
 refine ⟨_, ldAn (Sub.refl _) (O.all 0 rfl) (T_Expr.T.len _ _ _ e_1), ?_⟩
 obtain ⟨y1, g2, e⟩ := bind_e e
 refine (r2_NeedsOf.walk (Hold.start (W := No) O.s) e_1 g2).mono ?_
 rintro _ h3 ⟨m4, Q5, rfl⟩
 have O7 := Hold.nm (O.retC Q5 vfs_nil)
 refine ⟨_, rfl, ?_⟩
 cases e
 exact ⟨_, O7.pick [], rfl⟩
noncomputable def r2_argsOf.j1 (y_1 : T_Expr) (x_6 : Int) (b_7 : Bool) : Option (Int × Int) :=
 if b_7 = true then (some ((0 : Int), (6 : Int))) else (if x_6 = (11 : Int) then (some ((1 : Int), (7 : Int))) else (if x_6 = (8 : Int) then (if y_1.Text = (ByteArray.mk #[110, 111, 116]) then (some ((1 : Int), (1 : Int))) else (some ((2 : Int), (2 : Int)))) else (if x_6 = (18 : Int) then (if y_1.Num = (-1 : Int) then (some ((0 : Int), (0 : Int))) else (some ((1 : Int), (1 : Int)))) else ((r2_argsOf.j0 y_1)))))
theorem r2_argsOf.j1.walk {W h0 m0 h m bk_1 cs_1 y_1 x_6 b_7} (O : Hold W h0 m0 h m [rV bk_1 48 cs_1]) (e_1 : T_Expr.E m y_1 cs_1) {r} (e : r2_argsOf.j1 y_1 x_6 b_7 = some r) : f63.j1 (r2_argsOf.post W h0 m0 r) (⟨bk_1, 0, none⟩ : Addr) x_6 b_7 h := by
 unfold r2_argsOf.j1 at e
 refine f63.j1_in ?_
 unfold f63.j1T
 refine split_any_e e (fun c6 e => ?_) (fun c6 e => ?_)
 · cases e
   exact ⟨_, O.pick [], rfl⟩
 · refine split_eq_e e (fun c5 e => ?_) (fun c5 e => ?_)
   · cases e
     exact ⟨_, O.pick [], rfl⟩
   · refine split_eq_e e (fun c4 e => ?_) (fun c4 e => ?_)
     · refine ⟨_, ldk (k := 2) (Sub.refl _) (O.all 0 rfl) (T_Expr.g2 e_1), _, rfl, ?_⟩
       try rw [ba_list y_1.Text (ByteArray.mk #[110, 111, 116])]
       refine split_dec_e e (fun c1 e => ?_) (fun c1 e => ?_)
       · cases e
         exact ⟨_, O.pick [], rfl⟩
       · cases e
         exact ⟨_, O.pick [], rfl⟩
     · refine split_eq_e e (fun c3 e => ?_) (fun c3 e => ?_)
       · refine ⟨_, ldk (k := 1) (Sub.refl _) (O.all 0 rfl) (T_Expr.g1 e_1), _, rfl, ?_⟩
         refine split_eq_e e (fun c2 e => ?_) (fun c2 e => ?_)
         · cases e
           exact ⟨_, O.pick [], rfl⟩
         · cases e
           exact ⟨_, O.pick [], rfl⟩
       · exact r2_argsOf.j0.walk (O.pick [0]).nm e_1 e
noncomputable def r2_argsOf (y_0 : T_Expr) : Option (Int × Int) :=
 if y_0.Kind = (9 : Int) then ((r2_argsOf.j1 y_0 y_0.Kind (y_0.Kind == (9 : Int)))) else (if y_0.Kind = (12 : Int) then ((r2_argsOf.j1 y_0 y_0.Kind (y_0.Kind == (12 : Int)))) else (if y_0.Kind = (14 : Int) then ((r2_argsOf.j1 y_0 y_0.Kind (y_0.Kind == (14 : Int)))) else ((r2_argsOf.j1 y_0 y_0.Kind (y_0.Kind == (17 : Int))))))
theorem r2_argsOf.walk {W h m cs_0 y_0} (O : Hold W h m h m []) (e_0 : T_Expr.E m y_0 cs_0) {r} (e : r2_argsOf y_0 = some r) : Run Tryz.prog 63 #[Value.agg cs_0.toArray] h (r2_argsOf.post W h m r) := by
 unfold r2_argsOf at e
 refine f63.run ?_
 unfold f63.runT
 refine O.new fun h1 x2 O3 => ?_
 refine ⟨_, ld0 (Sub.refl _) (O3.all 0 rfl) (T_Expr.g0 e_0), _, rfl, ?_⟩
 refine split_eq_e e (fun c11 e => ?_) (fun c11 e => ?_)
 · have O5 := O3.nm
   exact r2_argsOf.j1.walk (O5.pick [0]).nm e_0 e
 · refine split_eq_e e (fun c10 e => ?_) (fun c10 e => ?_)
   · have O6 := O3.nm
     exact r2_argsOf.j1.walk (O6.pick [0]).nm e_0 e
   · refine split_eq_e e (fun c9 e => ?_) (fun c9 e => ?_)
     · have O7 := O3.nm
       exact r2_argsOf.j1.walk (O7.pick [0]).nm e_0 e
     · have O8 := O3.nm
       exact r2_argsOf.j1.walk (O8.pick [0]).nm e_0 e
def r2_worded.post (W : Nat → Prop) (h0 m0 : Heap) (r : Bool) (v : Value) (h : Heap) : Prop := ∃ m , Hold W h0 m0 h m [] ∧ v = .bool r
noncomputable def r2_worded.j0 (y_1 : T_Expr) : Option (Bool) :=
 some ((decide (y_1.Text = (ByteArray.mk #[]))))
theorem r2_worded.j0.walk {W h0 m0 h m bk_1 cs_1 y_1} (O : Hold W h0 m0 h m [rV bk_1 48 cs_1]) (e_1 : T_Expr.E m y_1 cs_1) (tab : TB m) {r} (e : r2_worded.j0 y_1 = some r) : f64.j0 (r2_worded.post W h0 m0 r) (⟨bk_1, 0, none⟩ : Addr) h := by
 unfold r2_worded.j0 at e
 refine f64.j0_in ?_
 unfold f64.j0T
 refine ⟨_, ldk (k := 2) (Sub.refl _) (O.all 0 rfl) (T_Expr.g2 e_1), _, rfl, ?_⟩
 try rw [ba_list y_1.Text (ByteArray.mk #[])]
 cases e
 exact ⟨_, O.pick [], rfl⟩
noncomputable def r2_worded.j2 (y_1 : T_Expr) (x_4 : Int) (b_14 : Bool) : Option (Bool) :=
 if b_14 = true then (Option.bind (r2_Great y_1.Text) fun y1 => some (y1)) else (if x_4 = (8 : Int) then (Option.bind (slices_Contains_20 ([(ByteArray.mk #[43]), (ByteArray.mk #[45]), (ByteArray.mk #[42]), (ByteArray.mk #[47]), (ByteArray.mk #[37]), (ByteArray.mk #[60]), (ByteArray.mk #[61]), (ByteArray.mk #[94]), (ByteArray.mk #[97, 110, 100]), (ByteArray.mk #[111, 114]), (ByteArray.mk #[110, 111, 116])] : List ByteArray) y_1.Text) fun y13 => some (y13)) else ((r2_worded.j0 y_1)))
theorem r2_worded.j2.walk {W h0 m0 h m bk_1 cs_1 y_1 x_4 b_14} (O : Hold W h0 m0 h m [rV bk_1 48 cs_1]) (e_1 : T_Expr.E m y_1 cs_1) (tab : TB m) {r} (e : r2_worded.j2 y_1 x_4 b_14 = some r) : f64.j2 (r2_worded.post W h0 m0 r) (⟨bk_1, 0, none⟩ : Addr) x_4 b_14 h := by
 unfold r2_worded.j2 at e
 refine f64.j2_in ?_
 unfold f64.j2T
 refine split_any_e e (fun c29 e => ?_) (fun c29 e => ?_)
 · refine ⟨_, ldk (k := 2) (Sub.refl _) (O.all 0 rfl) (T_Expr.g2 e_1), _, rfl, ?_⟩
   obtain ⟨y1, g2, e⟩ := bind_e e
   refine (r2_Great.walk (Hold.start (W := No) O.s)  g2).mono ?_
   rintro _ h3 ⟨m4, Q5, rfl⟩
   have O7 := Hold.nm (O.retC Q5 vfs_nil)
   refine ⟨_, rfl, ?_⟩
   cases e
   exact ⟨_, O7.pick [], rfl⟩
 · refine split_eq_e e (fun c28 e => ?_) (fun c28 e => ?_)
   · refine O.new fun h8 x9 O10 => ?_
     refine ⟨_, ldk (k := 2) (Sub.refl _) (O10.all 0 rfl) (T_Expr.g2 e_1), _, rfl, ?_⟩
     obtain ⟨y13, g14, e⟩ := bind_e e
     have O12 := O10.rowE (l := ([(ByteArray.mk #[43]), (ByteArray.mk #[45]), (ByteArray.mk #[42]), (ByteArray.mk #[47]), (ByteArray.mk #[37]), (ByteArray.mk #[60]), (ByteArray.mk #[61]), (ByteArray.mk #[94]), (ByteArray.mk #[97, 110, 100]), (ByteArray.mk #[111, 114]), (ByteArray.mk #[110, 111, 116])] : List ByteArray)) 1 rfl tell_str (show CsE _ _ _ _ _ from (CsE.cons (c1 := [(Value.string (ByteArray.mk #[43]))]) rfl rfl (CsE.cons (c1 := [(Value.string (ByteArray.mk #[45]))]) rfl rfl (CsE.cons (c1 := [(Value.string (ByteArray.mk #[42]))]) rfl rfl (CsE.cons (c1 := [(Value.string (ByteArray.mk #[47]))]) rfl rfl (CsE.cons (c1 := [(Value.string (ByteArray.mk #[37]))]) rfl rfl (CsE.cons (c1 := [(Value.string (ByteArray.mk #[60]))]) rfl rfl (CsE.cons (c1 := [(Value.string (ByteArray.mk #[61]))]) rfl rfl (CsE.cons (c1 := [(Value.string (ByteArray.mk #[94]))]) rfl rfl (CsE.cons (c1 := [(Value.string (ByteArray.mk #[97, 110, 100]))]) rfl rfl (CsE.cons (c1 := [(Value.string (ByteArray.mk #[111, 114]))]) rfl rfl (CsE.cons (c1 := [(Value.string (ByteArray.mk #[110, 111, 116]))]) rfl rfl CsE.nil)))))))))))) rfl
     have O19 := O12.nm
     obtain ⟨m20, u21, s26, ⟨⟨r24, k25⟩, _⟩, B22, C23⟩ := O19.lend0 [1]
     replace r24 : Rd 1 eStr m20 (some ⟨(Array.size h), 0, none⟩) ([(ByteArray.mk #[43]), (ByteArray.mk #[45]), (ByteArray.mk #[42]), (ByteArray.mk #[47]), (ByteArray.mk #[37]), (ByteArray.mk #[60]), (ByteArray.mk #[61]), (ByteArray.mk #[94]), (ByteArray.mk #[97, 110, 100]), (ByteArray.mk #[111, 114]), (ByteArray.mk #[110, 111, 116])] : List ByteArray) := r24
     replace k25 : List.length ([(ByteArray.mk #[43]), (ByteArray.mk #[45]), (ByteArray.mk #[42]), (ByteArray.mk #[47]), (ByteArray.mk #[37]), (ByteArray.mk #[60]), (ByteArray.mk #[61]), (ByteArray.mk #[94]), (ByteArray.mk #[97, 110, 100]), (ByteArray.mk #[111, 114]), (ByteArray.mk #[110, 111, 116])] : List ByteArray) ≤ 11 := k25
     refine (slices_Contains_20.walk (Hold.start (W := No) s26) rfl k25 r24 g14).mono ?_
     rintro _ h15 ⟨m16, Q17, rfl⟩
     have O27 := Hold.nm (C23 Q17 vfs_nil)
     refine ⟨_, rfl, ?_⟩
     cases e
     exact ⟨_, O27.pick [], rfl⟩
   · exact r2_worded.j0.walk (O.pick [0]).nm e_1 tab e
noncomputable def r2_worded.j1 (y_1 : T_Expr) (x_4 : Int) (b_7 : Bool) : Option (Bool) :=
 if b_7 = true then (Option.bind (r2_Small y_1.Text) fun y1 => some (y1)) else (if x_4 = (12 : Int) then ((r2_worded.j2 y_1 x_4 (x_4 == (12 : Int)))) else ((r2_worded.j2 y_1 x_4 (x_4 == (14 : Int)))))
theorem r2_worded.j1.walk {W h0 m0 h m bk_1 cs_1 y_1 x_4 b_7} (O : Hold W h0 m0 h m [rV bk_1 48 cs_1]) (e_1 : T_Expr.E m y_1 cs_1) (tab : TB m) {r} (e : r2_worded.j1 y_1 x_4 b_7 = some r) : f64.j1 (r2_worded.post W h0 m0 r) (⟨bk_1, 0, none⟩ : Addr) x_4 b_7 h := by
 unfold r2_worded.j1 at e
 refine f64.j1_in ?_
 unfold f64.j1T
 refine split_any_e e (fun c9 e => ?_) (fun c9 e => ?_)
 · refine ⟨_, ldk (k := 2) (Sub.refl _) (O.all 0 rfl) (T_Expr.g2 e_1), _, rfl, ?_⟩
   obtain ⟨y1, g2, e⟩ := bind_e e
   refine (r2_Small.walk (Hold.start (W := No) O.s) tab g2).mono ?_
   rintro _ h3 ⟨m4, Q5, rfl⟩
   have O7 := Hold.nm (O.retC Q5 vfs_nil)
   refine ⟨_, rfl, ?_⟩
   cases e
   exact ⟨_, O7.pick [], rfl⟩
 · refine split_eq_e e (fun c8 e => ?_) (fun c8 e => ?_)
   · exact r2_worded.j2.walk (O.pick [0]).nm e_1 tab e
   · exact r2_worded.j2.walk (O.pick [0]).nm e_1 tab e
noncomputable def r2_worded (y_0 : T_Expr) : Option (Bool) :=
 if y_0.Kind = (4 : Int) then (some (true)) else (if y_0.Kind = (5 : Int) then ((r2_worded.j1 y_0 y_0.Kind (y_0.Kind == (5 : Int)))) else (if y_0.Kind = (6 : Int) then ((r2_worded.j1 y_0 y_0.Kind (y_0.Kind == (6 : Int)))) else ((r2_worded.j1 y_0 y_0.Kind (y_0.Kind == (9 : Int))))))
theorem r2_worded.walk {W h m cs_0 y_0} (O : Hold W h m h m []) (e_0 : T_Expr.E m y_0 cs_0) (tab : TB m) {r} (e : r2_worded y_0 = some r) : Run Tryz.prog 64 #[Value.agg cs_0.toArray] h (r2_worded.post W h m r) := by
 unfold r2_worded at e
 refine f64.run ?_
 unfold f64.runT
 refine O.new fun h1 x2 O3 => ?_
 refine ⟨_, ld0 (Sub.refl _) (O3.all 0 rfl) (T_Expr.g0 e_0), _, rfl, ?_⟩
 refine split_eq_e e (fun c11 e => ?_) (fun c11 e => ?_)
 · have O5 := O3.nm
   cases e
   exact ⟨_, O5.pick [], rfl⟩
 · refine split_eq_e e (fun c10 e => ?_) (fun c10 e => ?_)
   · have O6 := O3.nm
     exact r2_worded.j1.walk (O6.pick [0]).nm e_0 tab e
   · refine split_eq_e e (fun c9 e => ?_) (fun c9 e => ?_)
     · have O7 := O3.nm
       exact r2_worded.j1.walk (O7.pick [0]).nm e_0 tab e
     · have O8 := O3.nm
       exact r2_worded.j1.walk (O8.pick [0]).nm e_0 tab e
def r2_numbered.post (W : Nat → Prop) (h0 m0 : Heap) (r : Bool) (v : Value) (h : Heap) : Prop := ∃ m , Hold W h0 m0 h m [] ∧ v = .bool r
noncomputable def r2_numbered (y_0 : T_Expr) : Option (Bool) :=
 if y_0.Kind = (2 : Int) then (some (true)) else (if y_0.Kind = (3 : Int) then (if y_0.Num = (0 : Int) then (some (true)) else (some ((y_0.Num == (1 : Int))))) else (if y_0.Kind = (18 : Int) then (if y_0.Num = (-1 : Int) then (some (true)) else (Option.bind (r2_plainNumber y_0.Num) fun y10 => some (y10))) else (some ((y_0.Num == (0 : Int))))))
set_option maxHeartbeats 4000000 in
theorem r2_numbered.walk {W h m cs_0 y_0} (O : Hold W h m h m []) (e_0 : T_Expr.E m y_0 cs_0) {r} (e : r2_numbered y_0 = some r) : Run Tryz.prog 65 #[Value.agg cs_0.toArray] h (r2_numbered.post W h m r) := by
 unfold r2_numbered at e
 refine f65.run ?_
 unfold f65.runT
 refine O.new fun h1 x2 O3 => ?_
 refine ⟨_, ld0 (Sub.refl _) (O3.all 0 rfl) (T_Expr.g0 e_0), _, rfl, ?_⟩
 refine split_eq_e e (fun c21 e => ?_) (fun c21 e => ?_)
 · have O5 := O3.nm
   cases e
   exact ⟨_, O5.pick [], rfl⟩
 · refine split_eq_e e (fun c20 e => ?_) (fun c20 e => ?_)
   · refine ⟨_, ldk (k := 1) (Sub.refl _) (O3.all 0 rfl) (T_Expr.g1 e_0), _, rfl, ?_⟩
     refine split_eq_e e (fun c8 e => ?_) (fun c8 e => ?_)
     · have O6 := O3.nm
       cases e
       exact ⟨_, O6.pick [], rfl⟩
     · refine ⟨_, ldk (k := 1) (Sub.refl _) (O3.all 0 rfl) (T_Expr.g1 e_0), _, rfl, ?_⟩
       have O7 := O3.nm
       cases e
       exact ⟨_, O7.pick [], rfl⟩
   · refine split_eq_e e (fun c19 e => ?_) (fun c19 e => ?_)
     · refine ⟨_, ldk (k := 1) (Sub.refl _) (O3.all 0 rfl) (T_Expr.g1 e_0), _, rfl, ?_⟩
       refine split_eq_e e (fun c17 e => ?_) (fun c17 e => ?_)
       · have O9 := O3.nm
         cases e
         exact ⟨_, O9.pick [], rfl⟩
       · refine ⟨_, ldk (k := 1) (Sub.refl _) (O3.all 0 rfl) (T_Expr.g1 e_0), _, rfl, ?_⟩
         obtain ⟨y10, g11, e⟩ := bind_e e
         refine (r2_plainNumber.walk (Hold.start (W := No) O3.s)  g11).mono ?_
         rintro _ h12 ⟨m13, Q14, rfl⟩
         have O16 := Hold.nm (O3.retC Q14 vfs_nil)
         refine ⟨_, rfl, ?_⟩
         cases e
         exact ⟨_, O16.pick [], rfl⟩
     · refine ⟨_, ldk (k := 1) (Sub.refl _) (O3.all 0 rfl) (T_Expr.g1 e_0), _, rfl, ?_⟩
       have O18 := O3.nm
       cases e
       exact ⟨_, O18.pick [], rfl⟩
end Go.Proofs.YtkbhpagogmmgnaaGreatDoor.Fw

end
