/- What turn.Plan does, and that the law TurnPlans holds, over heaps. -/
import Derived.Test.YtbpfmlgnlcfbcaaFwAll0
import Derived.Test.YtbpfmlgnlcfbcaaFwAll1
import Derived.Test.YtbpfmlgnlcfbcaaFwAll2
import Derived.Test.YtbpfmlgnlcfbcaaHwR
namespace Go.Proofs.Ytbpfmlgnlcfbcaa.Fw
open Go Go.Hw Go.Proofs
set_option linter.unusedVariables false

/-- A job: its number, its steps. -/
abbrev Job := Int × Int × Unit
def jobV (x : Job) : List Value := [.int .i64 x.1, .int .i64 x.2.1]
def eJob : Heap → Job → List Value → Prop := eCons (eInt .i64) (eCons (eInt .i64) eNil)
theorem eJob_of {h : Heap} {x : Job} {cs : List Value} (e : eJob h x cs) : cs = jobV x := by
  obtain ⟨a, b, rfl, h1, c, d, rfl, h2, h3⟩ := e
  rw [show a = _ from h1, show c = _ from h2, show d = _ from h3]; rfl
theorem jobV_len (x : Job) : (jobV x).length = 2 := rfl
theorem jobV_flat (x : Job) : ∀ v ∈ jobV x, Flat v := by intro v hv; simp [jobV] at hv; rcases hv with rfl | rfl <;> trivial

theorem rng_spec {h : Heap} {t : Int} : Run Try.prog 30 #[.int .i64 t, .int .i64 1, .int .i64 10000] h fun u h' => u = .bool (decide (1 ≤ t ∧ t ≤ 10000)) ∧ h' = h := by
  refine f30.run ?_
  unfold f30.runT
  refine split_dec (fun c => ⟨?_, rfl⟩) (fun c => ⟨?_, rfl⟩)
  · rw [show decide (1 ≤ t ∧ t ≤ 10000) = decide (t ≤ 10000) from decide_eq_decide.2 ⟨fun h => h.2, fun h => ⟨c, h⟩⟩]
  · rw [decide_eq_false (fun h => c h.1)]

/-- Searching jobs with a function that leaves memory but for new blocks. -/
theorem jobIndex_loop {R : Value → Heap → Prop} {h0 : Heap} {A : Option Addr} {c n : Nat} {l : List Job} {v : Value} {p : Job → Bool} (hr : Rd 2 (eSt jobV) h0 A l) (hnl : n = l.length) (hl : (l.length : Int) ≤ 9223372036854775806)
    (hf : ∀ x ∈ l, ∀ h, Ext h0 h → CallF Try.prog v [.agg (jobV x).toArray] h fun u h' => u = .bool (p x) ∧ Ext h h') (hR : ∀ h, Ext h0 h → R (.int .i64 (idxOf p l)) h) :
    ∀ (d k : Nat) (h : Heap), k + d = l.length → (∀ x ∈ l.take k, p x = false) → Ext h0 h → f111.l0 R A n c v (l.length : Int) (k : Int) h := by
  intro d
  induction d with
  | zero =>
    intro k h hk hn e
    refine f111.l0_in ?_
    unfold f111.l0T
    refine split_dec (fun c => by omega) fun _ => ?_
    have : l.findIdx? p = none := by
      rw [List.findIdx?_eq_none_iff]
      rw [List.take_of_length_le (by omega)] at hn
      exact hn
    have h2 := hR h e
    rwa [show idxOf p l = -1 by simp [idxOf, this]] at h2
  | succ d ih =>
    intro k h hk hn e
    refine f111.l0_in ?_
    unfold f111.l0T
    refine split_dec (fun _ => ?_) (fun c => by omega)
    refine (hr.ext (mono_st _) e).agg rfl hnl (by omega) ?_
    refine (hf _ (List.getElem_mem _) h e).mono ?_
    rintro _ h1 ⟨rfl, e1⟩
    refine ⟨_, rfl, split_any (fun hp => ?_) (fun hp => ?_)⟩
    · have : l.findIdx? p = some k := by
        rw [List.findIdx?_eq_some_iff_getElem]
        refine ⟨by omega, hp, fun j hj => ?_⟩
        have := hn l[j] (by rw [List.mem_take_iff_getElem]; exact ⟨j, by omega, rfl⟩)
        simp [this]
      have h2 := hR h1 (e.trans e1)
      rwa [show idxOf p l = (k : Int) by simp [idxOf, this]] at h2
    · rw [wrap_in (by omega) (by omega)]
      refine ih (k + 1) h1 (by omega) (fun x hx => ?_) (e.trans e1)
      rw [List.take_succ_eq_append_getElem (by omega)] at hx
      rcases List.mem_append.1 hx with hx | hx
      · exact hn x hx
      · simp at hx; subst hx; exact hp

theorem jobAny {R : Value → Heap → Prop} {h : Heap} {A : Option Addr} {c n : Nat} {l : List Job} {v : Value} (p : Job → Bool) (hr : Rd 2 (eSt jobV) h A l) (hn : n = l.length) (hl : (l.length : Int) ≤ 9223372036854775806)
    (hf : ∀ x ∈ l, ∀ h1, Ext h h1 → CallF Try.prog v [.agg (jobV x).toArray] h1 fun u h' => u = .bool (p x) ∧ Ext h1 h') (hR : ∀ h', Ext h h' → R (.bool (l.any p)) h') : Run Try.prog 52 #[.slice A n c, v] h R := by
  refine f52.run ?_
  unfold f52.runT
  refine (f111.run ?_ : Run Try.prog 111 _ _ _)
  unfold f111.runT
  subst hn
  refine jobIndex_loop (p := p) hr rfl hl hf (fun h' e => ⟨_, rfl, ?_⟩) l.length 0 h (by omega) (fun x hx => by simp at hx) ⟨Nat.le_refl _, fun _ _ => rfl⟩
  rw [idxOf_ge]; exact hR h' e

theorem Blk.get {h : Heap} {b : Nat} {c : List Value} {t : TypeId} (hb : Blk h b c t) {a : Addr} {v : Value} (h1 : a.block = b) (h2 : a.spot = none) (h3 : c[a.off]? = some v) {K : Value → Prop} (hk : K v) : ∃ u, ldv false 1 h a = some u ∧ K u := ⟨v, hb.ld h1 h2 h3, hk⟩

def largeJ (x : Job) : Bool := decide (x.2.1 > 200) && decide (x.2.1 ≤ 10000)
set_option maxRecDepth 100000 in
theorem large_call {h : Heap} {x : Job} : CallF Try.prog (.func (.func 53) #[] #[]) [.agg (jobV x).toArray] h fun u h' => u = .bool (largeJ x) ∧ Ext h h' := by
  refine CallF.of [.agg (jobV x).toArray] f53.ok rfl ?_
  refine f53.run ?_
  unfold f53.runT
  refine newH_in fun h1 b1 e1 _ => ?_
  have b1 : Blk h1 h.size (jobV x) 80 := by simpa [Value.cells] using b1
  refine Blk.get b1 rfl rfl rfl ⟨_, rfl, ?_⟩
  unfold largeJ
  refine split_dec (fun c => ?_) (fun c => ⟨?_, e1⟩)
  · rw [decide_eq_true c, Bool.true_and]
    exact Blk.get b1 rfl rfl rfl ⟨_, rfl, rfl, e1⟩
  · rw [decide_eq_false c, Bool.false_and]

set_option maxRecDepth 100000 in
theorem same_call55 {h : Heap} {x y : Job} {b : Nat} {t : TypeId} (hb : Blk h b (jobV y) t) : CallF Try.prog (.func (.func 55) #[] #[.pointer (some ⟨b, 0, none⟩)]) [.agg (jobV x).toArray] h fun u h' => u = .bool (x.1 == y.1) ∧ Ext h h' := by
  refine CallF.of [.agg (jobV x).toArray, .pointer (some ⟨b, 0, none⟩)] f55.ok rfl ?_
  refine f55.run ?_
  unfold f55.runT
  refine newH_in fun h1 b1 e1 _ => ?_
  have b1 : Blk h1 h.size (jobV x) 80 := by simpa [Value.cells] using b1
  refine Blk.get b1 rfl rfl rfl ⟨_, rfl, ?_⟩
  exact Blk.get (hb.ext e1) rfl rfl rfl ⟨_, rfl, rfl, e1⟩
set_option maxRecDepth 100000 in
theorem same_call113 {h : Heap} {x y : Job} {b : Nat} {t : TypeId} (hb : Blk h b (jobV y) t) : CallF Try.prog (.func (.func 113) #[] #[.pointer (some ⟨b, 0, none⟩)]) [.agg (jobV x).toArray] h fun u h' => u = .bool (x.1 == y.1) ∧ Ext h h' := by
  refine CallF.of [.agg (jobV x).toArray, .pointer (some ⟨b, 0, none⟩)] f113.ok rfl ?_
  refine f113.run ?_
  unfold f113.runT
  refine newH_in fun h1 b1 e1 _ => ?_
  have b1 : Blk h1 h.size (jobV x) 80 := by simpa [Value.cells] using b1
  refine Blk.get b1 rfl rfl rfl ⟨_, rfl, ?_⟩
  exact Blk.get (hb.ext e1) rfl rfl rfl ⟨_, rfl, rfl, e1⟩

/-! ### The plan, as a law: who is done, and when -/
inductive RunP (fuel : Int) : List Job → Int → List Job → Prop
  | nil (now : Int) : RunP fuel [] now []
  | more {id s now : Int} {r o : List Job} (h : s - fuel > 0) (t : RunP fuel (r ++ [(id, s - fuel, ())]) (now + fuel) o) : RunP fuel ((id, s, ()) :: r) now o
  | done {id s now : Int} {r o : List Job} (h : ¬ s - fuel > 0) (t : RunP fuel r (now + s) o) : RunP fuel ((id, s, ()) :: r) now ((id, now + s, ()) :: o)

def sumS (l : List Job) : Int := (l.map (·.2.1)).sum
theorem sumS_cons (x : Job) (l : List Job) : sumS (x :: l) = x.2.1 + sumS l := by simp [sumS]
theorem sumS_append (l m : List Job) : sumS (l ++ m) = sumS l + sumS m := by simp [sumS, List.sum_append]
theorem sumS_nonneg {l : List Job} (h : ∀ x ∈ l, 1 ≤ x.2.1) : 0 ≤ sumS l := by
  induction l with
  | nil => simp [sumS]
  | cons x l ih => rw [sumS_cons]; have := h x (List.mem_cons_self ..); have := ih fun y hy => h y (List.mem_cons_of_mem _ hy); omega

/-- One job is appended. -/
theorem push_job {lo : Nat} {h : Heap} {A : Option Addr} {n c : Nat} {l : List Job} {x : Job} {K : Value → Heap → Prop} (ho : Own lo 2 h A n c (l.flatMap jobV)) (hlo : lo ≤ h.size) (hn : n ≤ 1000000000)
    (hk : ∀ A' c' h', Own lo 2 h' A' (n + 1) c' ((l ++ [x]).flatMap jobV) → AppR A A' h h' → K (.slice A' (n + 1) c') h') :
    newH h (.cells (jobV x).toArray 80) fun h1 => AppW 80 2 16 #[.int .i64 0, .int .i64 0] A n c (.slice (some ⟨h.size, 0, none⟩) 1 1) h1 K := by
  refine ho.app_new2 (m := 1) hlo rfl rfl (fun v hv => jobV_flat x v (by simpa using hv)) (by omega) (by omega) fun A' c' h' o b => hk A' c' h' ?_ b
  simpa [List.flatMap_append] using o

theorem plan_len {n : Nat} {l : List Job} (h : (l.flatMap jobV).length = n * 2) : n = l.length := by
  rw [flatMap_len jobV_len] at h; omega
theorem dropJob (x : Job) (r : List Job) : ((x :: r).flatMap jobV).drop (1 * 2) = r.flatMap jobV := rfl

theorem plan_loop {h0 : Heap} {fuel : Int} {R : Value → Heap → Prop} (hf1 : 1 ≤ fuel) (hf2 : fuel ≤ 10000) {W : Nat} (hW : W ≤ 100) :
    ∀ (gas : Nat) (l m : List Job) (now : Int) (h : Heap) (A B : Option Addr) (n c n' c' : Nat), sumS l ≤ gas → (∀ x ∈ l, 1 ≤ x.2.1) → l.length + m.length = W → 0 ≤ now → now + sumS l ≤ 2000000 →
      Own h0.size 2 h A n c (l.flatMap jobV) → Own h0.size 2 h B n' c' (m.flatMap jobV) → Apart A B → Ext h0 h →
      (∀ o, RunP fuel l now o → ∀ B' n2 c2 h', Own h0.size 2 h' B' n2 c2 ((m ++ o).flatMap jobV) → Ext h0 h' → o.length = l.length → R (.tuple #[.slice B' n2 c2, .int .i64 0]) h') →
      f54.l1 R fuel A n c B n' c' now h := by
  intro gas
  induction gas with
  | zero =>
    intro l m now h A B n c n' c' hg hs hlen h0n hbig oA oB ap e hR
    have hl : l = [] := by
      cases l with
      | nil => rfl
      | cons x r =>
        have h1 := hs x (List.mem_cons_self ..)
        have h2 := sumS_nonneg (l := r) fun y hy => hs y (List.mem_cons_of_mem _ hy)
        rw [sumS_cons] at hg; omega
    subst hl
    have hn := plan_len oA.1
    refine f54.l1_in ?_
    unfold f54.l1T
    refine split_dec (fun c => by simp at hn; omega) fun _ => ?_
    exact hR [] (.nil _) B n' c' h (by simpa using oB) e rfl
  | succ gas ih =>
    intro l m now h A B n c n' c' hg hs hlen h0n hbig oA oB ap e hR
    have hn := plan_len oA.1
    have hn' := plan_len oB.1
    have hnc := oA.2.1
    cases l with
    | nil =>
      refine f54.l1_in ?_
      unfold f54.l1T
      refine split_dec (fun c => by simp at hn; omega) fun _ => ?_
      exact hR [] (.nil _) B n' c' h (by simpa using oB) e rfl
    | cons x r =>
      obtain ⟨id, s, u⟩ := x
      cases u
      have hs1 : 1 ≤ s := hs _ (List.mem_cons_self ..)
      have hsr : ∀ y ∈ r, 1 ≤ y.2.1 := fun y hy => hs y (List.mem_cons_of_mem _ hy)
      have hr0 := sumS_nonneg hsr
      rw [sumS_cons] at hg hbig
      simp only at hg hbig
      simp only [List.length_cons] at hn hlen hR
      refine f54.l1_in ?_
      unfold f54.l1T
      refine split_dec (fun _ => ?_) (fun c => by omega)
      have hrd : Rd 2 (eSt jobV) h A ((id, s, ()) :: r) := oA.rd jobV_len (by omega) (fun _ _ => rfl)
      refine hrd.agg (i := 0) rfl (by simp [hn]) (by simp) ?_
      refine box_in (jobV (id, s, ())) rfl rfl rfl (jobV_flat _) fun h1 b1 e1 s1 => ?_
      refine ⟨by omega, by omega, by omega, ?_⟩
      refine Blk.get b1 rfl rfl rfl ⟨_, rfl, ?_⟩
      refine Blk.get b1 rfl rfl rfl ⟨_, rfl, ?_⟩
      obtain ⟨h2, st2, b2, o2⟩ := b1.st (a := (⟨h.size, 0, none⟩ : Addr).add 1) (v := .int .i64 (IntKind.wrap .i64 (s - fuel))) rfl rfl (by show 1 < 2; omega) trivial
      refine ⟨h2, st2, ?_⟩
      have b2 : Blk h2 h.size (jobV (id, IntKind.wrap .i64 (s - fuel), ())) 80 := b2
      have e2 : Ext h h2 := e1.only o2 (Nat.le_refl _)
      rw [wrap_in (by omega) (by omega)] at b2
      have hmin : IntKind.wrap .i64 (now + (if fuel < s then fuel else s)) = now + (if fuel < s then fuel else s) := wrap_in (by split <;> omega) (by split <;> omega)
      rw [hmin]
      refine Blk.get b2 rfl rfl rfl ⟨_, rfl, ?_⟩
      have oA1 : Own h0.size 2 h (sliceA A 1 c 2) (n - 1) (c - 1) (r.flatMap jobV) := by
        have := oA.drop (k := 1) (by omega)
        rwa [dropJob] at this
      have ap1 : Apart (sliceA A 1 c 2) B := ap.slice _ _ _
      have bl : ∀ b, B = some b → b.block < h2.size := fun b hb => by have := oB.lt b hb; have := e2.1; omega
      refine split_dec (fun c1 => ?_) (fun c1 => ?_)
      · have c1 : s - fuel > 0 := c1
        refine ⟨_, b2.agg rfl, jobV (id, s - fuel, ()), rfl, rfl, ?_⟩
        refine push_job (l := r) (x := (id, s - fuel, ())) (oA1.ext e2) (Nat.le_trans e.1 e2.1) (by omega) fun A' c3 h3 o3 r3 => ⟨_, _, _, rfl, ?_⟩
        rw [if_pos (by omega)]
        have e3 : Ext h0 h3 := (oA1.ext e2).keep r3.1 (e.trans e2) (Nat.le_refl _)
        refine ih (r ++ [(id, s - fuel, ())]) m (now + fuel) h3 A' B _ c3 n' c' (by rw [sumS_append]; simp [sumS]; simp [sumS] at hg; omega) ?_ (by simp; omega) (by omega) (by rw [sumS_append]; simp [sumS]; simp [sumS] at hbig; omega) o3 ((oB.ext e2).but r3.1 (fun a b ha hb => ap1.symm a b ha hb)) (r3.apart ap1 bl) e3 ?_
        · intro y hy
          rcases List.mem_append.1 hy with hy | hy
          · exact hsr y hy
          · simp at hy; subst hy; show 1 ≤ s - fuel; omega
        · intro o ho B' n2 c2 h' oo ee hl
          exact hR o (.more (by omega) ho) B' n2 c2 h' oo ee (by rw [hl]; simp)
      · have c1 : ¬ s - fuel > 0 := c1
        refine Blk.get b2 rfl rfl rfl ⟨_, rfl, jobV (id, now + (if fuel < s then fuel else s), ()), rfl, rfl, ?_⟩
        refine push_job (l := m) (x := (id, now + (if fuel < s then fuel else s), ())) (oB.ext e2) (Nat.le_trans e.1 e2.1) (by omega) fun B' c3 h3 o3 r3 => ⟨_, _, _, rfl, ?_⟩
        have hite : (if fuel < s then fuel else s) = s := by split <;> omega
        rw [hite] at o3 ⊢
        have e3 : Ext h0 h3 := (oB.ext e2).keep r3.1 (e.trans e2) (Nat.le_refl _)
        have al : ∀ b, sliceA A 1 c 2 = some b → b.block < h2.size := fun b hb => by have := oA1.lt b hb; have := e2.1; omega
        refine ih r (m ++ [(id, now + s, ())]) (now + s) h3 _ B' _ _ _ c3 (by omega) hsr (by simp; omega) (by omega) (by omega) ((oA1.ext e2).but r3.1 (fun a b ha hb => ap1 a b ha hb)) o3 (r3.apart ap1.symm al).symm e3 ?_
        intro o ho B2 n2 c2 h' oo ee hl
        exact hR _ (.done (by omega) ho) B2 n2 c2 h' (by simpa using oo) ee (by simp [hl])

/-! ### Checking the jobs -/
def sameJ (j x : Job) : Bool := x.1 == j.1
/-- The fault of jobs, from those behind 'pre' on. -/
def scanJ : List Job → List Job → Int
  | _, [] => 0
  | pre, j :: r => if ¬ (1 ≤ j.2.1 ∧ j.2.1 ≤ 10000) then 1 else if pre.any (sameJ j) then 5 else scanJ (pre ++ [j]) r

theorem take_next {l : List Job} {k : Nat} (h : k < l.length) : l.take k ++ [l[k]] = l.take (k + 1) := (List.take_succ_eq_append_getElem h).symm
theorem scan_at {l : List Job} {k : Nat} (h : k < l.length) : scanJ (l.take k) (l.drop k) = if ¬ (1 ≤ l[k].2.1 ∧ l[k].2.1 ≤ 10000) then 1 else if (l.take k).any (sameJ l[k]) then 5 else scanJ (l.take (k + 1)) (l.drop (k + 1)) := by
  rw [List.drop_eq_getElem_cons h]
  simp only [scanJ]
  rw [take_next h]

theorem scan_le {l : List Job} : ∀ pre, scanJ pre l = 0 → ∀ x ∈ l, 1 ≤ x.2.1 ∧ x.2.1 ≤ 10000 := by
  induction l with
  | nil => intro pre _ x hx; cases hx
  | cons j r ih =>
    intro pre h x hx
    simp only [scanJ] at h
    split at h
    · omega
    · split at h
      · omega
      · rename_i h1 h2
        rcases List.mem_cons.1 hx with rfl | hx
        · exact Decidable.not_not.1 h1
        · exact ih _ h x hx

/-- The jobs in front of place k, as the text cuts them out. -/
theorem cut_front {h : Heap} {A : Option Addr} {c : Nat} {l : List Job} (hr : Rd 2 (eSt jobV) h A l) (hc : l.length ≤ c) {k : Nat} (hk : k ≤ l.length) :
    Rd 2 (eSt jobV) h (sliceA A (Int.toNat 0) c 2) (l.take k) := by
  have := (hr.drop (b := 0) (c := c) (by omega) hc).take k
  simpa using this

set_option maxRecDepth 100000 in
theorem plan_check {h0 : Heap} {A : Option Addr} {c : Nat} {l : List Job} {fuel : Int} {R : Value → Heap → Prop} {A6 : Option Addr} {n6 c6 : Nat} (hr : Rd 2 (eSt jobV) h0 A l) (hc : l.length ≤ c) (hl : l.length ≤ 100) {lo : Nat} (hlo : lo ≤ h0.size)
    (hbad : ∀ e h, Ext h0 h → e = scanJ [] l → e ≠ 0 → R (.tuple #[.slice none 0 0, .int .i64 e]) h) (hok : ∀ h, Ext h0 h → scanJ [] l = 0 → f54.l1 R fuel A6 n6 c6 none 0 0 0 h) :
    ∀ (d k : Nat) (h : Heap), k + d = l.length → scanJ [] l = scanJ (l.take k) (l.drop k) → Ext h0 h → f54.l0 R A l.length c fuel A6 n6 c6 A l.length c (l.length : Int) (k : Int) h := by
  intro d
  induction d with
  | zero =>
    intro k h hk hs e
    refine f54.l0_in ?_
    unfold f54.l0T
    refine split_dec (fun c => by omega) fun _ => hok h e ?_
    rw [hs, List.drop_eq_nil_of_le (by omega)]; rfl
  | succ d ih =>
    intro k h hk hs e
    refine f54.l0_in ?_
    unfold f54.l0T
    have hkl : k < l.length := by omega
    refine split_dec (fun _ => ?_) (fun c => by omega)
    refine (hr.ext (mono_st _) e).agg rfl rfl hkl ?_
    refine box_in (jobV l[k]) rfl rfl rfl (jobV_flat _) fun h1 b1 e1 s1 => ?_
    rw [scan_at hkl] at hs
    have bad : ∀ h', Ext h0 h' → ¬ (1 ≤ l[k].2.1 ∧ l[k].2.1 ≤ 10000) → f54.j3 R A l.length c fuel A6 n6 c6 (k : Int) ⟨h.size, 0, none⟩ A l.length c (l.length : Int) (k : Int) true h' := by
      intro h' e' hn
      rw [if_pos hn] at hs
      refine f54.j3_in ?_
      unfold f54.j3T
      exact split_t (hbad 1 h' e' hs.symm (by omega))
    refine Blk.get b1 rfl rfl rfl ⟨_, rfl, ?_⟩
    refine split_dec (fun c1 => bad h1 (e.trans e1) (by omega)) (fun c1 => ?_)
    refine Blk.get b1 rfl rfl rfl ⟨_, rfl, ?_⟩
    by_cases c2 : l[k].2.1 > 10000
    · rw [decide_eq_true c2]
      exact bad h1 (e.trans e1) (by omega)
    · rw [decide_eq_false c2]
      rw [if_neg (by omega)] at hs
      refine f54.j3_in ?_
      unfold f54.j3T
      refine split_f ?_
      refine f54.j2_in ?_
      unfold f54.j2T
      refine ⟨by omega, by omega, by omega, ?_⟩
      refine jobAny (sameJ l[k]) (cut_front ((hr.ext (mono_st _) e).ext (mono_st _) e1) hc (k := k) (by omega)) (by simp; omega) (by rw [List.length_take]; omega) (fun x _ h2 e2 => same_call113 (b1.ext e2)) fun h2 e2 => ⟨_, rfl, ?_⟩
      refine split_any (fun c3 => ?_) (fun c3 => ?_)
      · rw [if_pos c3] at hs
        exact hbad 5 h2 (e.trans (e1.trans e2)) hs.symm (by omega)
      · rw [if_neg (by rw [c3]; simp)] at hs
        have e3 : IntKind.wrap .i64 ((k : Int) + 1) = ((k + 1 : Nat) : Int) := by rw [wrap_in (by omega) (by omega)]; omega
        rw [e3]
        exact ih (k + 1) h2 (by omega) hs (e.trans (e1.trans e2))

def codeP (l : List Job) (fuel : Int) : Int := if l.length > 100 then 2 else if ¬ (1 ≤ fuel ∧ fuel ≤ 10000) then 1 else scanJ [] l

theorem sumS_le {l : List Job} {b : Int} (h : ∀ x ∈ l, x.2.1 ≤ b) : sumS l ≤ b * l.length := by
  induction l with
  | nil => simp [sumS]
  | cons x l ih =>
    rw [sumS_cons]
    have h1 := h x (List.mem_cons_self ..)
    have h2 := ih fun y hy => h y (List.mem_cons_of_mem _ hy)
    rw [List.length_cons]
    have : b * ((l.length + 1 : Nat) : Int) = b * l.length + b := by rw [Int.natCast_add, Int.mul_add]; simp
    omega

theorem clone_jobs {h : Heap} {A : Option Addr} {c : Nat} {l : List Job} {R : Value → Heap → Prop} (hr : Rd 2 (eSt jobV) h A l) (hl : l.length ≤ 100) (hR : ∀ A' n c' h', Own h.size 2 h' A' n c' (l.flatMap jobV) → Ext h h' → R (.slice A' n c') h') :
    Run Try.prog 112 #[.slice A l.length c] h R := by
  refine f112.run ?_
  unfold f112.runT
  cases A with
  | none =>
    have : l = [] := by
      cases l with
      | nil => rfl
      | cons x l => obtain ⟨a, _, h1, _⟩ := hr 0 (by simp); cases h1
    subst this
    exact split_t (hR none 0 0 h (by simpa using Own.nil) ⟨Nat.le_refl _, fun _ _ => rfl⟩)
  | some a =>
    refine split_f ?_
    refine newH_in fun h1 b1 e1 s1 => ?_
    have o1 : Own h.size 2 h1 (some ⟨h.size, 0, none⟩) 0 0 [] := ⟨rfl, Nat.le_refl _, .inr ⟨h.size, 80, [], [], rfl, Nat.le_refl _, by simpa using b1, by simp⟩⟩
    refine o1.app2 (by omega) rfl ((hr.ext (mono_st _) e1).src c) (flatMap_len jobV_len l) ?_ (by omega) (by omega) fun A' c' h' o r => ⟨_, _, _, rfl, hR _ _ _ _ (by simpa using o) (o1.keep r.1 e1 (Nat.le_refl _))⟩
    intro v hv
    obtain ⟨x, _, hx⟩ := List.mem_flatMap.1 hv
    exact jobV_flat x v hx

theorem plan_spec {h : Heap} {A : Option Addr} {c : Nat} {l : List Job} {fuel : Int} {R : Value → Heap → Prop} (hr : Rd 2 (eSt jobV) h A l) (hc : l.length ≤ c)
    (hbad : ∀ h', Ext h h' → codeP l fuel ≠ 0 → R (.tuple #[.slice none 0 0, .int .i64 (codeP l fuel)]) h')
    (hok : ∀ o, RunP fuel l 0 o → ∀ B n c' h', Own h.size 2 h' B n c' (o.flatMap jobV) → Ext h h' → o.length = l.length → codeP l fuel = 0 → R (.tuple #[.slice B n c', .int .i64 0]) h') :
    Run Try.prog 54 #[.slice A l.length c, .int .i64 fuel] h R := by
  refine f54.run ?_
  unfold f54.runT
  have e0 : Ext h h := ⟨Nat.le_refl _, fun _ _ => rfl⟩
  refine split_dec (fun c1 => ?_) (fun c1 => ?_)
  · have : codeP l fuel = 2 := by unfold codeP; rw [if_pos (by omega)]
    rw [this] at hbad
    exact hbad h e0 (by omega)
  · have bad : ¬ (1 ≤ fuel ∧ fuel ≤ 10000) → f54.j1 R A l.length c fuel true h := by
      intro hn
      have : codeP l fuel = 1 := by unfold codeP; rw [if_neg (by omega), if_pos hn]
      rw [this] at hbad
      refine f54.j1_in ?_
      unfold f54.j1T
      exact split_t (hbad h e0 (by omega))
    refine split_dec (fun c2 => bad (by omega)) (fun c2 => ?_)
    by_cases c3 : fuel > 10000
    · rw [decide_eq_true c3]; exact bad (by omega)
    · rw [decide_eq_false c3]
      have hcode : codeP l fuel = scanJ [] l := by unfold codeP; rw [if_neg (by omega), if_neg (by omega)]
      rw [hcode] at hbad hok
      refine f54.j1_in ?_
      unfold f54.j1T
      refine split_f ?_
      refine f54.j0_in ?_
      unfold f54.j0T
      refine clone_jobs hr (by omega) fun A' n' c' h1 o1 e1 => ⟨_, _, _, rfl, ?_⟩
      refine plan_check (hr.ext (mono_st _) e1) hc (by omega) (Nat.le_refl _) (fun e h2 e2 he hne => by rw [he] at hne ⊢; exact hbad h2 (e1.trans e2) hne) (fun h2 e2 hs => ?_) l.length 0 h1 (by omega) rfl ⟨Nat.le_refl _, fun _ _ => rfl⟩
      have hle := scan_le [] hs
      have hsum := sumS_le (b := 10000) fun x hx => (hle x hx).2
      have hpos := sumS_nonneg fun x hx => (hle x hx).1
      refine plan_loop (W := l.length) (h0 := h) (by omega) (by omega) (by omega) (sumS l).toNat l [] 0 h2 A' none n' c' 0 0 (by omega) (fun x hx => (hle x hx).1) (by simp) (by omega) (by omega) (o1.ext e2) (by simpa using Own.nil) Apart.nil' (e1.trans e2) ?_
      intro o ho B' n2 c2 h' oo ee hlen
      exact hok o ho B' n2 c2 h' (by simpa using oo) ee hlen hs

/-! ### The document's plan, step by step -/
theorem setJob (id s v : Int) (r : List Job) : (((id, s, ()) :: r).flatMap jobV).set (0 * 2 + 1) (.int .i64 v) = ((id, v, ()) :: r).flatMap jobV := rfl

set_option maxRecDepth 100000 in
theorem planned_loop {h0 : Heap} {fuel : Int} {R : Value → Heap → Prop} (hf1 : 1 ≤ fuel) (hf2 : fuel ≤ 10000) {o : List Job} {W : Nat} (hW : W ≤ 100) :
    ∀ (gas : Nat) (l m p : List Job) (now had : Int) (h : Heap) (A B : Option Addr) (n c n' c' : Nat), sumS l ≤ gas → (∀ x ∈ l, 1 ≤ x.2.1) → l.length + m.length = W → 0 ≤ had → had < fuel → had ≤ now → now + sumS l ≤ 2000000 →
      Own h0.size 2 h A n c (l.flatMap jobV) → Own h0.size 2 h B n' c' (m.flatMap jobV) → Apart A B → Ext h0 h →
      o = m ++ p → (match l with | [] => p = [] | x :: r => RunP fuel ((x.1, x.2.1 + had, ()) :: r) (now - had) p) →
      (∀ B' n2 c2 h', Own h0.size 2 h' B' n2 c2 (o.flatMap jobV) → Ext h0 h' → R (.slice B' n2 c2) h') →
      f57.l0 R fuel A n c B n' c' now had h := by
  intro gas
  induction gas with
  | zero =>
    intro l m p now had h A B n c n' c' hg hs hlen h0n h0f hnow hbig oA oB ap e ho hp hR
    have hl : l = [] := by
      cases l with
      | nil => rfl
      | cons x r =>
        have h1 := hs x (List.mem_cons_self ..)
        have h2 := sumS_nonneg (l := r) fun y hy => hs y (List.mem_cons_of_mem _ hy)
        rw [sumS_cons] at hg; omega
    subst hl
    simp only at hp
    subst hp
    rw [List.append_nil] at ho
    subst ho
    have hn := plan_len oA.1
    refine f57.l0_in ?_
    unfold f57.l0T
    refine split_dec (fun c => by simp at hn; omega) fun _ => ?_
    exact hR B n' c' h oB e
  | succ gas ih =>
    intro l m p now had h A B n c n' c' hg hs hlen h0n h0f hnow hbig oA oB ap e ho hp hR
    have hn := plan_len oA.1
    have hn' := plan_len oB.1
    have hnc := oA.2.1
    cases l with
    | nil =>
      simp only at hp
      subst hp
      rw [List.append_nil] at ho
      subst ho
      refine f57.l0_in ?_
      unfold f57.l0T
      refine split_dec (fun c => by simp at hn; omega) fun _ => ?_
      exact hR B n' c' h oB e
    | cons x r =>
      obtain ⟨id, s, u⟩ := x
      cases u
      have hs1 : 1 ≤ s := hs _ (List.mem_cons_self ..)
      have hsr : ∀ y ∈ r, 1 ≤ y.2.1 := fun y hy => hs y (List.mem_cons_of_mem _ hy)
      have hr0 := sumS_nonneg hsr
      rw [sumS_cons] at hg hbig
      simp only at hg hbig hp
      simp only [List.length_cons] at hn hlen
      refine f57.l0_in ?_
      unfold f57.l0T
      refine split_dec (fun _ => ?_) (fun c => by omega)
      have hrd : Rd 2 (eSt jobV) h A ((id, s, ()) :: r) := oA.rd jobV_len (by omega) (fun _ _ => rfl)
      refine hrd.fld (v := .int .i64 s) (i := 0) (k := 1) rfl (by simp [hn]) (by simp) rfl ⟨s, rfl, ?_⟩
      rw [wrap_in (n := s - 1) (by omega) (by omega), wrap_in (n := now + 1) (by omega) (by omega), wrap_in (n := had + 1) (by omega) (by omega)]
      refine oA.storeK (i := 0) (k := 1) rfl rfl (by omega) (by omega) trivial fun h5 o5 b5 => ?_
      rw [setJob] at o5
      have e5 : Ext h0 h5 := oA.keep b5 e (Nat.le_refl _)
      have oB5 := oB.but b5 (fun a b ha hb => ap.symm a b ha hb)
      have hrd5 : Rd 2 (eSt jobV) h5 A ((id, s - 1, ()) :: r) := o5.rd jobV_len (by omega) (fun _ _ => rfl)
      refine hrd5.fld (v := .int .i64 (s - 1)) (i := 0) (k := 1) rfl (by simp [hn]) (by simp) rfl ⟨s - 1, rfl, ?_⟩
      have oA1 : Own h0.size 2 h5 (sliceA A 1 c 2) (n - 1) (c - 1) (r.flatMap jobV) := by
        have := o5.drop (k := 1) (by omega)
        rwa [dropJob] at this
      have ap1 : Apart (sliceA A 1 c 2) B := ap.slice _ _ _
      refine split_eq (fun c1 => ?_) (fun c1 => ?_)
      · have c1 : s - 1 = 0 := c1
        refine hrd5.fld0 (v := .int .i64 id) (i := 0) rfl (by simp [hn]) (by simp) rfl ⟨id, rfl, jobV (id, now + 1, ()), rfl, rfl, ?_⟩
        refine push_job (l := m) (x := (id, now + 1, ())) oB5 e5.1 (by omega) fun B' c3 h3 o3 r3 => ⟨_, _, _, rfl, by omega, by omega, by omega, ?_⟩
        have e3 : Ext h0 h3 := oB5.keep r3.1 e5 (Nat.le_refl _)
        cases hp with
        | more hh _ => omega
        | done hh t =>
          rename_i o'
          have hnw : now - had + (s + had) = now + 1 := by omega
          rw [hnw] at t ho
          refine ih r (m ++ [(id, now + 1, ())]) o' (now + 1) 0 h3 _ B' _ _ _ c3 (by omega) hsr (by simp; omega) (by omega) (by omega) (by omega) (by omega) (oA1.but r3.1 (fun a b ha hb => ap1 a b ha hb)) o3
            (r3.apart ap1.symm (fun b hb => oA1.lt b hb)).symm e3 (by rw [ho]; simp) ?_ hR
          cases r with
          | nil => cases t; rfl
          | cons y r => obtain ⟨a, b, ⟨⟩⟩ := y; simpa using t
      · have c1 : s - 1 ≠ 0 := c1
        refine split_eq (fun c2 => ?_) (fun c2 => ?_)
        · refine ⟨by omega, by omega, by omega, ?_⟩
          refine hrd5.agg (i := 0) rfl (by simp [hn]) (by simp) ?_
          have hflat : ∀ v ∈ r.flatMap jobV, Flat v := by
            intro v hv
            obtain ⟨x, _, hx⟩ := List.mem_flatMap.1 hv
            exact jobV_flat x v hx
          have hrl : n - 1 = r.length := by omega
          have last : ∀ (h6 : Heap) (A6 : Option Addr) (n6 c6 : Nat), Own h0.size 2 h6 A6 n6 c6 ((r ++ [(id, s - 1, ())]).flatMap jobV) → Own h0.size 2 h6 B n' c' (m.flatMap jobV) → Apart A6 B → Ext h0 h6 → f57.l0 R fuel A6 n6 c6 B n' c' (now + 1) 0 h6 := by
            intro h6 A6 n6 c6 o6 oB6 ap6 e6
            cases hp with
            | done hh _ => omega
            | more hh t =>
              have h1 : s + had - fuel = s - 1 := by omega
              have h2 : now - had + fuel = now + 1 := by omega
              rw [h1, h2] at t
              refine ih (r ++ [(id, s - 1, ())]) m p (now + 1) 0 h6 A6 B n6 c6 n' c' (by rw [sumS_append]; simp [sumS]; simp [sumS] at hg; omega) ?_ (by simp; omega) (by omega) (by omega) (by omega) (by rw [sumS_append]; simp [sumS]; simp [sumS] at hbig; omega) o6 oB6 ap6 e6 ho ?_ hR
              · intro y hy
                rcases List.mem_append.1 hy with hy | hy
                · exact hsr y hy
                · simp at hy; subst hy; show 1 ≤ s - 1; omega
              · cases r with
                | nil => simpa using t
                | cons y r => obtain ⟨a, b, ⟨⟩⟩ := y; simpa using t
          refine ⟨?_, ?_⟩
          · refine (Own.nil (lo := h0.size) (sz := 2)).app2 e5.1 rfl oA1.src (by rw [flatMap_len jobV_len, hrl]) hflat (by omega) (by omega) fun A6 c6 h6 o6 r6 => ⟨_, _, _, rfl, r6.1.none, ?_⟩
            refine ⟨jobV (id, s - 1, ()), rfl, rfl, ?_⟩
            have o6 : Own h0.size 2 h6 A6 (0 + (n - 1)) c6 (r.flatMap jobV) := by simpa using o6
            refine push_job (l := r) (x := (id, s - 1, ())) o6 (Nat.le_trans e5.1 r6.1.1) (by omega) fun A7 c7 h7 o7 r7 => ⟨_, _, _, rfl, ?_⟩
            have bl : ∀ b, B = some b → b.block < h5.size := fun b hb => oB5.lt b hb
            have ap6 : Apart A6 B := r6.apart Apart.nil bl
            exact last h7 A7 _ c7 o7 ((oB5.ext r6.1.none).but r7.1 (fun a b ha hb => ap6.symm a b ha hb)) (r7.apart ap6 (fun b hb => by have := bl b hb; have := r6.1.1; omega)) (o6.keep r7.1 (e5.trans r6.1.none) (Nat.le_refl _))
          · refine ⟨jobV (id, s - 1, ()), rfl, rfl, ?_⟩
            refine newH_in fun h8 b8 e8 s8 => ?_
            refine (Own.nil (lo := h0.size) (sz := 2)).app2 (Nat.le_trans e5.1 e8.1) rfl (oA1.ext e8).src (by rw [flatMap_len jobV_len, hrl]) hflat (by omega) (by omega) fun A9 c9 h9 o9 r9 => ⟨_, _, _, rfl, r9.1.none, ?_⟩
            have o9 : Own h0.size 2 h9 A9 (0 + (n - 1)) c9 (r.flatMap jobV) := by simpa using o9
            have e9 : Ext h5 h9 := e8.trans r9.1.none
            have hs9 : srcCells 2 (.slice (some ⟨h5.size, 0, none⟩) 1 1) h9 = some (1, jobV (id, s - 1, ())) := by
              have := (b8.ext r9.1.none).cells (a := ⟨h5.size, 0, none⟩) rfl rfl (1 * 2) 0 (by show 2 ≤ 2; omega)
              simp only [srcCells, this]
              rfl
            refine o9.app2 (Nat.le_trans e5.1 e9.1) rfl hs9 rfl (jobV_flat _) (by omega) (by omega) fun A7 c7 h7 o7 r7 => ⟨_, _, _, rfl, ?_⟩
            have bl : ∀ b, B = some b → b.block < h8.size := fun b hb => by have := oB5.lt b hb; omega
            have ap9 : Apart A9 B := r9.apart Apart.nil bl
            exact last h7 A7 _ c7 (by simpa [List.flatMap_append] using o7) ((oB5.ext e9).but r7.1 (fun a b ha hb => ap9.symm a b ha hb)) (r7.apart ap9 (fun b hb => by have := bl b hb; have := r9.1.1; omega)) (o9.keep r7.1 (e5.trans e9) (Nat.le_refl _))
        · refine ih ((id, s - 1, ()) :: r) m p (now + 1) (had + 1) h5 A B n c n' c' (by rw [sumS_cons]; show s - 1 + sumS r ≤ gas; omega) ?_ (by simp; omega) (by omega) (by omega) (by omega) (by rw [sumS_cons]; show now + 1 + (s - 1 + sumS r) ≤ 2000000; omega) o5 oB5 ap e5 ho ?_ hR
          · intro y hy
            rcases List.mem_cons.1 hy with rfl | hy
            · show 1 ≤ s - 1; omega
            · exact hsr y hy
          · have h1 : s - 1 + (had + 1) = s + had := by omega
            have h2 : now + 1 - (had + 1) = now - had := by omega
            simp only [h1, h2]; exact hp

theorem planned_spec {h : Heap} {A : Option Addr} {c : Nat} {l o : List Job} {fuel : Int} {R : Value → Heap → Prop} (hr : Rd 2 (eSt jobV) h A l) (hf1 : 1 ≤ fuel) (hf2 : fuel ≤ 10000) (hl : l.length ≤ 100) (hs : ∀ x ∈ l, 1 ≤ x.2.1 ∧ x.2.1 ≤ 10000) (ho : RunP fuel l 0 o)
    (hR : ∀ B' n2 c2 h', Own h.size 2 h' B' n2 c2 (o.flatMap jobV) → Ext h h' → R (.slice B' n2 c2) h') : Run Try.prog 57 #[.slice A l.length c, .int .i64 fuel] h R := by
  refine f57.run ?_
  unfold f57.runT
  have hflat : ∀ v ∈ l.flatMap jobV, Flat v := by
    intro v hv
    obtain ⟨x, _, hx⟩ := List.mem_flatMap.1 hv
    exact jobV_flat x v hx
  refine (Own.nil (lo := h.size) (sz := 2)).app2 (Nat.le_refl _) rfl (hr.src c) (flatMap_len jobV_len l) hflat (by omega) (by omega) fun A1 c1 h1 o1 r1 => ⟨_, _, _, rfl, ?_⟩
  have hsum := sumS_le (b := 10000) fun x hx => (hs x hx).2
  have hpos := sumS_nonneg fun x hx => (hs x hx).1
  refine planned_loop (h0 := h) (o := o) (W := l.length) hf1 hf2 (by omega) (sumS l).toNat l [] o 0 0 h1 A1 none _ c1 0 0 (by omega) (fun x hx => (hs x hx).1) (by simp) (by omega) (by omega) (by omega) (by omega) (by simpa using o1) (by simpa using Own.nil) Apart.nil' r1.1.none rfl ?_ hR
  cases l with
  | nil => cases ho; rfl
  | cons y r => obtain ⟨a, b, ⟨⟩⟩ := y; simpa using ho

set_option maxRecDepth 100000 in
theorem jobs_same {h : Heap} {A B : Option Addr} {c c' n n' : Nat} {l : List Job} (ha : Rd 2 (eSt jobV) h A l) (hb : Rd 2 (eSt jobV) h B l) (hn : n = l.length) (hn' : n' = l.length) (hz : l.length ≤ 100) :
    Run Try.prog 56 #[.slice A n c, .slice B n' c'] h fun u h' => u = .bool true ∧ h' = h := by
  refine f56.run ?_
  unfold f56.runT
  subst hn
  subst hn'
  refine split_ne (fun c => absurd rfl c) fun _ => ?_
  have loop : ∀ (d k : Nat), k + d = l.length → f56.l0 (fun u h' => u = .bool true ∧ h' = h) A l.length c B l.length c' (l.length : Int) (k : Int) h := by
    intro d
    induction d with
    | zero =>
      intro k hk
      refine f56.l0_in ?_
      unfold f56.l0T
      exact split_dec (fun c => by omega) fun _ => ⟨rfl, rfl⟩
    | succ d ih =>
      intro k hk
      refine f56.l0_in ?_
      unfold f56.l0T
      refine split_dec (fun _ => ?_) (fun c => by omega)
      obtain ⟨a, cs, h1, h2, h3⟩ := ha k (by omega)
      obtain ⟨b, cs', h4, h5, h6⟩ := hb k (by omega)
      subst h1 h4
      rw [show cs = _ from h3] at h2
      rw [show cs' = _ from h6] at h5
      have hkk : (Int.toNat (k : Int)) = k := rfl
      refine ⟨by omega, by omega, by omega, by omega, .agg (jobV l[k]).toArray, by simp only [ldv, hkk, h2, Option.map_some], .agg (jobV l[k]).toArray, by simp only [ldv, hkk, h5, Option.map_some], ?_⟩
      refine gen_neq (b := (l[k].1 == l[k].1 && (l[k].2.1 == l[k].2.1 && true))) (by kernel_rfl) ⟨_, rfl, ?_⟩
      rw [show (!(l[k].1 == l[k].1 && (l[k].2.1 == l[k].2.1 && true))) = false by simp]
      refine split_f ?_
      rw [wrap_in (by omega) (by omega)]
      exact ih (k + 1) (by omega)
  exact loop l.length 0 (by omega)

set_option maxRecDepth 100000 in
theorem law_loop {h0 s0 : Heap} {A A5 : Option Addr} {c n5 c5 : Nat} {l o : List Job} {fuel code : Int} (hr : Rd 2 (eSt jobV) h0 A l) (hc : l.length ≤ c) (hl : (l.length : Int) ≤ 9223372036854775806) (es : Ext s0 h0)
    (hcode : code = codeP l fuel) (h200 : ∀ x ∈ l, x.2.1 ≤ 10000 → x.2.1 ≤ 200) (hn5 : code ≠ 0 → n5 = 0) (hok : code = 0 → Rd 2 (eSt jobV) h0 A5 o ∧ n5 = o.length ∧ o.length = l.length ∧ RunP fuel l 0 o) :
    ∀ (d k : Nat) (bad : Int) (h : Heap), k + d = l.length → codeP l fuel = (if bad = 0 then scanJ (l.take k) (l.drop k) else bad) → Ext h0 h →
      f9.l0 (fun v h' => v = .bool true ∧ Ext s0 h') A l.length c fuel A5 n5 c5 code bad A l.length c (l.length : Int) (k : Int) h := by
  intro d
  induction d with
  | zero =>
    intro k bad h hk hb e
    refine f9.l0_in ?_
    unfold f9.l0T
    refine split_dec (fun c => by omega) fun _ => ?_
    rw [List.drop_eq_nil_of_le (by omega)] at hb
    have hbc : bad = code := by
      rw [hcode, hb]
      split
      · rename_i h1; rw [h1]; rfl
      · rfl
    refine split_ne (fun c1 => ?_) (fun c1 => ?_)
    · have := hn5 (by omega)
      subst this
      refine split_eq (fun _ => ⟨?_, es.trans e⟩) (fun c2 => absurd rfl c2)
      rw [hbc]; simp
    · obtain ⟨o1, o2, o3, o4⟩ := hok (by omega)
      have hz : codeP l fuel = 0 := by omega
      have hl1 : l.length ≤ 100 := by
        unfold codeP at hz
        split at hz
        · omega
        · omega
      have hf : 1 ≤ fuel ∧ fuel ≤ 10000 := by
        unfold codeP at hz
        rw [if_neg (by omega)] at hz
        split at hz
        · omega
        · rename_i h1; exact Decidable.not_not.1 h1
      have hsc : scanJ [] l = 0 := by
        unfold codeP at hz
        rwa [if_neg (by omega), if_neg (by omega)] at hz
      refine planned_spec (hr.ext (mono_st _) e) hf.1 hf.2 hl1 (scan_le [] hsc) o4 fun B n2 c2 h1 oo e1 => ⟨_, _, _, rfl, ?_⟩
      refine (jobs_same ((o1.ext (mono_st _) e).ext (mono_st _) e1) (oo.rd jobV_len (by omega) (fun _ _ => rfl)) o2 (plan_len oo.1) (by omega)).ret ⟨_, rfl, ?_⟩
      refine split_t ⟨?_, es.trans (e.trans e1)⟩
      rw [show code = 0 by omega]; rfl
  | succ d ih =>
    intro k bad h hk hb e
    refine f9.l0_in ?_
    unfold f9.l0T
    have hkl : k < l.length := by omega
    refine split_dec (fun _ => ?_) (fun c => by omega)
    refine (hr.ext (mono_st _) e).agg rfl rfl hkl ?_
    refine box_in (jobV l[k]) rfl rfl rfl (jobV_flat _) fun h1 b1 e1 s1 => ?_
    have e3 : IntKind.wrap .i64 ((k : Int) + 1) = ((k + 1 : Nat) : Int) := by rw [wrap_in (by omega) (by omega)]; omega
    have skip : ∀ (b : Int) (h' : Heap), b ≠ 0 → codeP l fuel = b → Ext h0 h' → f9.j1 (fun v h' => v = .bool true ∧ Ext s0 h') A l.length c fuel A5 n5 c5 code b (k : Int) ⟨h.size, 0, none⟩ A l.length c (l.length : Int) (k : Int) h' := by
      intro b h' hb0 hcb e'
      refine f9.j1_in ?_
      unfold f9.j1T
      refine split_eq (fun c1 => absurd c1 hb0) (fun _ => ?_)
      rw [e3]
      exact ih (k + 1) b h' (by omega) (by rw [if_neg hb0, hcb]) e'
    refine split_eq (fun c1 => ?_) (fun c1 => skip bad h1 c1 (by rw [hb, if_neg c1]) (e.trans e1))
    subst c1
    rw [if_pos rfl, scan_at hkl] at hb
    refine Blk.get b1 rfl rfl rfl ⟨_, rfl, ?_⟩
    refine rng_spec.ret ⟨_, rfl, ?_⟩
    refine split_not (split_dec (fun c2 => ?_) (fun c2 => ?_))
    · rw [if_neg (by simpa using c2)] at hb
      refine f9.j1_in ?_
      unfold f9.j1T
      refine split_eq (fun _ => ?_) (fun c1 => absurd rfl c1)
      refine ⟨by omega, by omega, by omega, ?_⟩
      refine jobAny (sameJ l[k]) (cut_front ((hr.ext (mono_st _) e).ext (mono_st _) e1) hc (k := k) (by omega)) (by simp; omega) (by rw [List.length_take]; omega) (fun x _ h2 e2 => same_call55 (b1.ext e2)) fun h2 e2 => ⟨_, rfl, ?_⟩
      rw [e3]
      refine split_any (fun c3 => ?_) (fun c3 => ?_)
      · rw [if_pos c3] at hb
        exact ih (k + 1) 5 h2 (by omega) (by rw [if_neg (by omega), hb]) (e.trans (e1.trans e2))
      · rw [if_neg (by rw [c3]; simp)] at hb
        exact ih (k + 1) 0 h2 (by omega) (by rw [if_pos rfl, hb]) (e.trans (e1.trans e2))
    · rw [if_pos (by simpa using c2)] at hb
      exact skip 1 h1 (by omega) hb (e.trans e1)

set_option maxRecDepth 100000 in
theorem TurnPlans_run {h : Heap} {A : Option Addr} {c : Nat} {l : List Job} {fuel : Int} (hr0 : Rd 2 eJob h A l) (hc : l.length ≤ c) (hl : (l.length : Int) ≤ 9223372036854775806) :
    Run Try.prog 9 #[.slice A l.length c, .int .i64 fuel] h fun v h' => v = .bool true ∧ Ext h h' := by
  have hr : Rd 2 (eSt jobV) h A l := hr0.conv fun x _ cs hx => eJob_of hx
  refine f9.run ?_
  unfold f9.runT
  refine jobAny largeJ hr rfl hl (fun x _ h1 _ => large_call) fun h1 e1 => ⟨_, rfl, ?_⟩
  refine split_any (fun _ => ⟨rfl, e1⟩) (fun c1 => ?_)
  have h200 : ∀ x ∈ l, x.2.1 ≤ 10000 → x.2.1 ≤ 200 := by
    intro x hx hle
    have h2 := List.any_eq_false.1 c1 x hx
    unfold largeJ at h2
    simp at h2
    omega
  have hr1 := hr.ext (mono_st _) e1
  have go : ∀ (h2 : Heap) (A5 : Option Addr) (n5 c5 : Nat), Ext h1 h2 → (codeP l fuel ≠ 0 → n5 = 0) → (codeP l fuel = 0 → ∃ o, Rd 2 (eSt jobV) h2 A5 o ∧ n5 = o.length ∧ o.length = l.length ∧ RunP fuel l 0 o) →
      splitB (decide ((l.length : Int) > 100)) (f9.j0 (fun v h' => v = .bool true ∧ Ext h h') A l.length c fuel A5 n5 c5 (codeP l fuel) 2 h2)
        (Run Try.prog 30 #[.int .i64 fuel, .int .i64 1, .int .i64 10000] h2 fun v8 h9 => ∃ b10, v8 = .bool b10 ∧ splitB (!b10) (f9.j0 (fun v h' => v = .bool true ∧ Ext h h') A l.length c fuel A5 n5 c5 (codeP l fuel) 1 h9) (f9.j0 (fun v h' => v = .bool true ∧ Ext h h') A l.length c fuel A5 n5 c5 (codeP l fuel) 0 h9)) := by
    intro h2 A5 n5 c5 e2 hn5 hok
    have st : ∀ bad, codeP l fuel = (if bad = 0 then scanJ [] l else bad) → f9.j0 (fun v h' => v = .bool true ∧ Ext h h') A l.length c fuel A5 n5 c5 (codeP l fuel) bad h2 := by
      intro bad hb
      refine f9.j0_in ?_
      unfold f9.j0T
      by_cases hz : codeP l fuel = 0
      · obtain ⟨o, o1, o2, o3, o4⟩ := hok hz
        exact law_loop (hr1.ext (mono_st _) e2) hc hl (e1.trans e2) rfl h200 hn5 (fun _ => ⟨o1, o2, o3, o4⟩) l.length 0 bad h2 (by omega) hb ⟨Nat.le_refl _, fun _ _ => rfl⟩
      · exact law_loop (o := []) (hr1.ext (mono_st _) e2) hc hl (e1.trans e2) rfl h200 hn5 (fun h => absurd h hz) l.length 0 bad h2 (by omega) hb ⟨Nat.le_refl _, fun _ _ => rfl⟩
    refine split_dec (fun c2 => st 2 ?_) (fun c2 => ?_)
    · unfold codeP; rw [if_pos (by omega), if_neg (by omega)]
    · refine rng_spec.ret ⟨_, rfl, split_not (split_dec (fun c3 => st 0 ?_) (fun c3 => st 1 ?_))⟩
      · unfold codeP; rw [if_neg (by omega), if_neg (by omega), if_pos rfl]
      · unfold codeP; rw [if_neg (by omega), if_pos c3, if_neg (by omega)]
  refine plan_spec hr1 hc (fun h2 e2 hne => ⟨_, _, _, _, rfl, ?_⟩) (fun o ho B n5 c5 h2 oo e2 hlen hz => ⟨_, _, _, _, rfl, ?_⟩)
  · exact go h2 none 0 0 e2 (fun _ => rfl) (fun h => absurd h hne)
  · have := go h2 B n5 c5 e2 (fun h => absurd hz h) (fun _ => ⟨o, oo.rd jobV_len (by omega) (fun _ _ => rfl), plan_len oo.1, hlen, ho⟩)
    rwa [hz] at this
end Go.Proofs.Ytbpfmlgnlcfbcaa.Fw
