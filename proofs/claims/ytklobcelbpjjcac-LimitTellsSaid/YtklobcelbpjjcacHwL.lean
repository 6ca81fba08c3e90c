/- The forward reading of a region that draws its order is sound, whatever the order (4). -/
import Derived.Test.YtklobcelbpjjcacHwK
namespace Go.Hw
open Go
section
variable (P : Program) (T : Tab) (n : Nat) (ops : Array Oper)

/-- Is the operation asked to be one that may be taken first, though it looks at memory? -/
def rdB (qs : List Nat) (i : Nat) : Bool := qs.contains i && (match ops[i]? with | some o => !Nat.beq (cls P T o) 0 | none => false)
/-- Must the heap be shown grown behind operation j? -/
def needG (qs : List Nat) (ms : List Nat) (j : Nat) : Bool := (List.range ops.size).any fun i => rdB P T ops qs i && !Nat.beq i j && !(ms.getD j 0).testBit i

def quiets : Plan → List Nat
  | .done => []
  | .take i p => i :: quiets p
  | .quiet _ i p => i :: quiets p
  | .split _ p => quiets p
  | .eff _ _ p => quiets p
  | .alt _ _ p q => quiets p ++ quiets q
def effs : Plan → Bool
  | .done => false
  | .take _ p => effs p
  | .quiet _ _ p => effs p
  | .split _ p => effs p
  | .eff _ _ _ => true
  | .alt _ _ _ _ => true
def depth : Plan → Nat
  | .done => 0
  | .take _ p => depth p + 1
  | .quiet _ _ p => depth p + 1
  | .split _ p => depth p
  | .eff _ _ p => depth p + 1
  | .alt _ _ p q => max (depth p + 1) (depth q)

def implB (a b : Bool) : Bool := !a || b

def okPlan (E : Bool) (qs ms : List Nat) : Plan → Array Bool → List Nat → Bool
  | .done, L, rest => (Region.ready .any ops L).isEmpty && rest.isEmpty
  | .take i p, L, rest => rest == Region.ready .any ops L && rest.contains i && Region.free .any ops L i && (match ops[i]? with | some o => Nat.ble (cls P T o) 1 | none => false) && qs.contains i &&
      okPlan E qs ms p (L.setIfInBounds i true) (Region.ready .any ops (L.setIfInBounds i true))
  | .quiet st i p, L, rest => rest == Region.ready .any ops L && rest.contains i && Region.free .any ops L i && rdB P T ops qs i && implB E (!st) &&
      okPlan E qs ms p (L.setIfInBounds i true) (Region.ready .any ops (L.setIfInBounds i true))
  | .split _ p, L, rest => okPlan E qs ms p L rest
  | .eff g i p, L, rest => E && rest == [i] && implB (needG P T ops qs ms i) g && okPlan E qs ms p (L.setIfInBounds i true) (Region.ready .any ops (L.setIfInBounds i true))
  | .alt g i p q, L, rest => E && rest.contains i && implB (needG P T ops qs ms i) g && okPlan E qs ms p (L.setIfInBounds i true) (Region.ready .any ops (L.setIfInBounds i true)) &&
      okPlan E qs ms q L (rest.filter fun j => !Nat.beq j i)

/-- The plan of a region is whole. -/
def goodPlan (p : Plan) : Bool :=
  Region.noSelect ops && Nat.ble (depth p) ops.size && okPlan P T ops (effs p) (quiets p) (masks ops.toList []) p (Array.replicate ops.size false) (Region.ready .any ops (Array.replicate ops.size false))

/-- Whatever order is picked from here on. -/
def AnyE (G : Heap → Heap → Prop) (ng : Nat → Bool) (K : Fr → Heap → Prop) : Nat → Array Bool → Fr → Heap → Prop
  | 0, L, fr, h => Region.ready .any ops L = [] ∧ K fr h
  | m + 1, L, fr, h => (Region.ready .any ops L = [] → K fr h) ∧
    ∀ i ∈ Region.ready .any ops L, ∀ o, ops[i]? = some o → evG P T n ops o fr h fun fr' h' => (ng i = true → G h h') ∧ AnyE G ng K m (L.setIfInBounds i true) fr' h'
end

section
variable {P : Program} {T : Tab} {n : Nat} {ops : Array Oper} {G : Heap → Heap → Prop} {ng : Nat → Bool} {K : Fr → Heap → Prop}

/-- In every heap that the region's other operations may leave, the operation puts this value, and does nothing else. -/
def YldG (P : Program) (T : Tab) (n : Nat) (ops : Array Oper) (E : Heap → Heap → Prop) (o : Oper) (fr : Fr) (h : Heap) (ov : Option Value) : Prop :=
  ∀ h', E h h' → ∀ K' : Fr → Heap → Prop, K' (putF fr o.dst ov) h' → evG P T n ops o fr h' K'

theorem AnyE_first {E : Heap → Heap → Prop} (hrefl : ∀ h, E h h) (htrans : ∀ a b c, E a b → E b c → E a c) {i : Nat} {oi : Oper} {ov : Option Value} (hi : ops[i]? = some oi)
    (hE : ∀ L : Array Bool, Closed ops L → ∀ j, j ∈ Region.ready .any ops L → L.getD i true = false → j ≠ i → ∀ a b, (ng j = true → G a b) → E a b) (hG : ∀ h, G h h) :
    ∀ (m : Nat) (L : Array Bool) (fr : Fr) (h : Heap), Closed ops L →
      (∀ j oj, ops[j]? = some oj → j ≠ i → L.getD j true = false → (∀ e ∈ oj.after, Region.binds .any e = true → e.on ≠ i) → oi.apart ops oj = true) →
      i ∈ Region.ready .any ops L → YldG P T n ops E oi fr h ov →
      AnyE P T n ops G ng K m (L.setIfInBounds i true) (putF fr oi.dst ov) h → AnyE P T n ops G ng K (m + 1) L fr h := by
  intro m
  induction m with
  | zero =>
    intro L fr h _ _ hr hy H
    refine ⟨fun h => (by rw [h] at hr; cases hr), fun j hj oj hoj => ?_⟩
    by_cases hji : j = i
    · subst hji
      rw [hi] at hoj; cases hoj
      exact hy h (hrefl h) _ ⟨fun _ => hG h, H⟩
    · have := ready_mono hj hji
      rw [H.1] at this
      cases this
  | succ m ih =>
    intro L fr h hcl hfree hr hy H
    refine ⟨fun h => (by rw [h] at hr; cases hr), fun j hj oj hoj => ?_⟩
    by_cases hji : j = i
    · subst hji
      rw [hi] at hoj; cases hoj
      exact hy h (hrefl h) _ ⟨fun _ => hG h, H⟩
    · have h1 := H.2 j (ready_mono hj hji) oj hoj
      obtain ⟨hjun, oj', hoj', hall⟩ := mem_ready.1 hj
      rw [hoj] at hoj'; cases hoj'
      have hiun := (mem_ready.1 hr).1
      have hnot : ∀ e ∈ oj.after, Region.binds .any e = true → e.on ≠ i := fun e he hb heq => by
        have h1 := hall e he hb
        rw [heq] at h1
        rcases Nat.lt_or_ge i L.size with h' | h'
        · simp [h'] at hiun h1; rw [hiun] at h1; cases h1
        · simp [Array.getElem?_eq_none h'] at h1
      have hap := hfree j oj hoj hji hjun hnot
      have h2 := evG_frame (evG_put hap h1)
      have hfree' : ∀ k ok, ops[k]? = some ok → k ≠ i → (L.setIfInBounds j true).getD k true = false →
          (∀ e ∈ ok.after, Region.binds .any e = true → e.on ≠ i) → oi.apart ops ok = true := fun k ok hk hki hun hno => by
        refine hfree k ok hk hki ?_ hno
        by_cases hjk : j = k
        · subst hjk; exact hjun
        · rw [getD_set_ne true hjk] at hun; exact hun
      refine evG_mono (fun fr' h' h3 => ?_) h2
      obtain ⟨⟨u, rfl⟩, h4, h5⟩ := h3
      refine ⟨h4, ?_⟩
      have he : E h h' := hE L hcl j hj hiun hji h h' h4
      refine ih (L.setIfInBounds j true) _ h' (hcl.set hj) hfree' (ready_mono hr (Ne.symm hji)) ?_ ?_
      · intro h'' he' K' hk'
        refine evG_put_rev hap ?_
        refine hy h'' (htrans _ _ _ he he') _ ?_
        have h2' := (Oper.apart_spec hap).2.1
        show K' (putF (putF fr oi.dst ov) oj.dst u) h''
        rw [putF_comm h2']
        exact hk'
      · rwa [Array.setIfInBounds_comm _ _ hji]

/-- An operation of a known class yields one value. -/
theorem cls_yld {o : Oper} {fr : Fr} {h : Heap} {K : Fr → Heap → Prop} (hc : Nat.ble (cls P T o) 1 = true) (hh : evG P T n ops o fr h K) :
    ∃ ov, K (putF fr o.dst ov) h ∧ YldG P T n ops (fun a b => cls P T o = 1 → Ext a b) o fr h ov := by
  have main : ∀ fr : Fr, (opEv P T (opnd fr) o h fun v h' => putK n fr o.dst v fun fr' => K fr' h') →
      ∃ ov, K (putF fr o.dst ov) h ∧ ∀ h', (cls P T o = 1 → Ext h h') → ∀ K' : Fr → Heap → Prop, K' (putF fr o.dst ov) h' → opEv P T (opnd fr) o h' fun v h' => putK n fr o.dst v fun fr' => K' fr' h' := by
    intro fr hh
    obtain ⟨c0, c1⟩ := cls_val (ρ := opnd fr) (fun _ => rfl) hh
    have hle : cls P T o ≤ 1 := Nat.le_of_ble_eq_true hc
    rcases Nat.lt_or_ge (cls P T o) 1 with h0 | h1
    · obtain ⟨v, k, y⟩ := c0 (by omega)
      exact ⟨some v, putK_eq k, fun h' _ K' k' => y h' trivial _ (putK_mk (putK_lt k) k')⟩
    · have e1 : cls P T o = 1 := by omega
      obtain ⟨v, k, y⟩ := c1 e1
      exact ⟨some v, putK_eq k, fun h' e K' k' => y h' (e e1) _ (putK_mk (putK_lt k) k')⟩
  unfold YldG
  unfold evG at hh ⊢
  split at hh
  · exact main fr hh
  · split at hh
    · exact hh.elim
    · split at hh
      · exact hh.elim
      · split at hh
        · rename_i b hb
          have hself := upd_self hb
          split at hh <;> cases b <;> simp only [splitB] at hh ⊢ <;> rw [hself] at hh ⊢
          all_goals first
            | exact main _ hh
            | exact ⟨none, putK_eq hh, fun h' _ K' k' => putK_mk (putK_lt hh) k'⟩
        · exact ⟨none, putK_eq hh, fun h' _ K' k' => putK_mk (putK_lt hh) k'⟩
        · exact hh.elim

/-- A quiet call yields one value. -/
theorem quiet_yld {st : Bool} {o : Oper} {fr : Fr} {h : Heap} {K : Fr → Heap → Prop} (hh : quietEv P T n st o fr h K) :
    ∃ ov, K (putF fr o.dst ov) h ∧ ∀ h', (if st = true then h' = h else Ext h h') → ∀ K' : Fr → Heap → Prop, K' (putF fr o.dst ov) h' → opEv P T (opnd fr) o h' fun v h' => putK n fr o.dst v fun fr' => K' fr' h' := by
  unfold quietEv at hh
  split at hh
  · exact hh.elim
  · split at hh
    · rename_i c hc
      split at hh
      · rename_i f hf
        obtain ⟨fv, hfv, hh⟩ := val_elim hh
        split at hh
        · rename_i vs hvs
          obtain ⟨v, h1, hd⟩ := hh
          obtain ⟨k, hd'⟩ := Tab.dec_val hd
          refine ⟨some v, putK_eq k, fun h' he K' k' => ?_⟩
          unfold opEv
          simp only [hc, hf, hfv, hvs, Hw.val]
          have hcall : CallF P fv vs h' fun v' h'' => v' = v ∧ h'' = h' := by
            cases st with
            | true => simp only [if_true] at he; subst he; exact h1
            | false => simp only [Bool.false_eq_true, if_false] at he; exact h1 h' he
          unfold CallF at hcall ⊢
          split at hcall
          · split at hcall
            · refine hcall.mono ?_
              rintro v' h'' ⟨rfl, rfl⟩
              exact hd' _ (putK_mk (putK_lt k) k')
            · refine ExtF.mono hcall ?_
              rintro v' h'' ⟨rfl, rfl⟩
              exact hd' _ (putK_mk (putK_lt k) k')
          · exact hcall.elim
        · exact hh.elim
      · exact hh.elim
    · exact hh.elim

theorem guard_none {o : Oper} {ρ : Operand → Option Value} {h : Heap} {K : Option Value → Heap → Prop} : opEv P T ρ { o with guard := none } h K = opEv P T ρ o h K := by
  unfold opEv; rfl

def GG (E : Bool) : Heap → Heap → Prop := if E = true then Ext else Eq
def NG (P : Program) (T : Tab) (ops : Array Oper) (E : Bool) (qs ms : List Nat) : Nat → Bool := if E = true then needG P T ops qs ms else fun _ => true

theorem GG_refl (E : Bool) (h : Heap) : GG E h h := by unfold GG; split; exact Ext.refl h; rfl
theorem GG_ext {E : Bool} {a b : Heap} (h : GG E a b) : Ext a b := by unfold GG at h; split at h; exact h; subst h; exact Ext.refl _

theorem ng_grow {E : Bool} {qs ms : List Nat} (hms : ∀ k i, (ms.getD k 0).testBit i = true → Chain ops k i) {i : Nat} (hrd : rdB P T ops qs i = true) (hil : i < ops.size) :
    ∀ L : Array Bool, Closed ops L → ∀ j, j ∈ Region.ready .any ops L → L.getD i true = false → j ≠ i → ∀ a b, (NG P T ops E qs ms j = true → GG E a b) → GG E a b := by
  intro L hcl j hj hiu hji a b hg
  apply hg
  unfold NG
  split
  · unfold needG
    rw [List.any_eq_true]
    refine ⟨i, by simpa using hil, ?_⟩
    simp only [hrd, Bool.true_and, Bool.and_eq_true, Bool.not_eq_true']
    refine ⟨by cases h : Nat.beq i j; rfl; exact absurd (Nat.eq_of_beq_eq_true h).symm hji, ?_⟩
    cases h : (ms.getD j 0).testBit i with
    | false => rfl
    | true =>
      have := hcl.ready hj (hms j i h)
      rw [Array.getD_eq_getD_getElem?] at this hiu
      rcases Nat.lt_or_ge i L.size with h' | h'
      · simp [h'] at this hiu; rw [this] at hiu; cases hiu
      · simp [h'] at hiu
  · rfl

abbrev AnyP (P : Program) (T : Tab) (n : Nat) (ops : Array Oper) (E : Bool) (qs ms : List Nat) (K : Fr → Heap → Prop) := AnyE P T n ops (GG E) (NG P T ops E qs ms) K

theorem grow_elim {g : Bool} {h h' : Heap} {C : Prop} (hh : growIf g h h' C) : (g = true → Ext h h') ∧ C := by
  cases g with
  | true => exact ⟨fun _ => hh.1, hh.2⟩
  | false => exact ⟨fun h => (by cases h), hh⟩

theorem contains_mem {l : List Nat} {i : Nat} (h : l.contains i = true) : i ∈ l := by simpa using h

theorem plan_any {qs ms : List Nat} {E : Bool} (hms : ∀ k i, (ms.getD k 0).testBit i = true → Chain ops k i) (_hsel : Region.noSelect ops = true) :
    ∀ (p : Plan) (L : Array Bool) (rest : List Nat) (fr : Fr) (h : Heap) (m : Nat), Closed ops L → okPlan P T ops E qs ms p L rest = true → depth p ≤ m → evPlan P T n ops p fr h K →
      (rest = Region.ready .any ops L → AnyP P T n ops E qs ms K m L fr h) ∧
      (∀ m', m = m' + 1 → ∀ j ∈ rest, j ∈ Region.ready .any ops L → ∀ o, ops[j]? = some o → evG P T n ops o fr h fun fr' h' => (NG P T ops E qs ms j = true → GG E h h') ∧
        AnyP P T n ops E qs ms K m' (L.setIfInBounds j true) fr' h') := by
  intro p
  induction p with
  | done =>
    intro L rest fr h m hcl hok hd hev
    simp only [okPlan, Bool.and_eq_true, List.isEmpty_iff] at hok
    refine ⟨fun _ => ?_, fun m' _ j hj _ => by rw [hok.2] at hj; cases hj⟩
    cases m with
    | zero => exact ⟨hok.1, hev⟩
    | succ m => exact ⟨fun _ => hev, fun j hj => by rw [hok.1] at hj; cases hj⟩
  | split i p ih =>
    intro L rest fr h m hcl hok hd hev
    simp only [okPlan, depth] at hok hd
    simp only [evPlan] at hev
    split at hev
    · split at hev
      · split at hev
        · rename_i b hb
          have hself := upd_self hb
          cases b <;> simp only [splitB] at hev <;> rw [hself] at hev <;> exact ih L rest fr h m hcl hok hd hev
        · exact ih L rest fr h m hcl hok hd hev
        · exact hev.elim
      · exact hev.elim
    · exact hev.elim
  | take i p ih =>
    intro L rest fr h m hcl hok hd hev
    simp only [okPlan, Bool.and_eq_true, beq_iff_eq] at hok
    obtain ⟨⟨⟨⟨⟨hrest, hmem⟩, hfree⟩, hcls⟩, hq⟩, hok⟩ := hok
    have hir : i ∈ Region.ready .any ops L := hrest ▸ contains_mem hmem
    simp only [evPlan] at hev
    split at hev
    · rename_i o ho
      simp only [ho] at hcls
      obtain ⟨ov, hk, hy⟩ := cls_yld hcls hev
      simp only [depth] at hd
      obtain ⟨m1, rfl⟩ : ∃ m1, m = m1 + 1 := ⟨m - 1, by omega⟩
      have h1 := (ih (L.setIfInBounds i true) _ _ h m1 (hcl.set hir) hok (by omega) hk).1 rfl
      have hil : i < ops.size := (Array.getElem?_eq_some_iff.1 ho).1
      have hA : AnyP P T n ops E qs ms K (m1 + 1) L fr h := by
        refine AnyE_first (E := fun a b => cls P T o = 1 → Ext a b) (fun h _ => Ext.refl h) (fun a b c h1 h2 he => (h1 he).trans (h2 he)) ho ?_ (GG_refl E) m1 L fr h hcl (Region.free_spec ho hfree) hir hy h1
        intro L' hcl' j hj hiu hji a b hg he
        have hrd : rdB P T ops qs i = true := by unfold rdB; rw [hq]; simp only [ho, he]; rfl
        exact GG_ext (ng_grow hms hrd hil L' hcl' j hj hiu hji a b hg)
      exact ⟨fun _ => hA, fun m' hm j hj hjr o' ho' => by cases hm; exact hA.2 j hjr o' ho'⟩
    · exact hev.elim
  | quiet st i p ih =>
    intro L rest fr h m hcl hok hd hev
    simp only [okPlan, Bool.and_eq_true, beq_iff_eq] at hok
    obtain ⟨⟨⟨⟨⟨hrest, hmem⟩, hfree⟩, hq⟩, hst⟩, hok⟩ := hok
    have hir : i ∈ Region.ready .any ops L := hrest ▸ contains_mem hmem
    simp only [depth] at hd
    obtain ⟨m1, rfl⟩ : ∃ m1, m = m1 + 1 := ⟨m - 1, by omega⟩
    simp only [evPlan] at hev
    split at hev
    · rename_i o ho
      have hil : i < ops.size := (Array.getElem?_eq_some_iff.1 ho).1
      have hrd : rdB P T ops qs i = true := hq
      have hy : ∃ ov, evPlan P T n ops p (putF fr o.dst ov) h K ∧ YldG P T n ops (GG E) o fr h ov := by
        have conv : ∀ h', GG E h h' → (if st = true then h' = h else Ext h h') := fun h' hg => by
          unfold GG at hg
          cases st with
          | true =>
            cases E with
            | true => simp [implB] at hst
            | false => simp at hg ⊢; exact hg.symm
          | false => simp only [Bool.false_eq_true, if_false]; exact GG_ext (E := E) hg
        unfold YldG evG
        split at hev
        · rename_i hg
          obtain ⟨ov, hk, hy⟩ := quiet_yld hev
          exact ⟨ov, hk, fun h' he K' k' => hy h' (conv h' he) K' k'⟩
        · rename_i j g hg
          split at hev
          · exact hev.elim
          · rename_i oj hoj
            split at hev
            · exact hev.elim
            · rename_i d hd'
              split at hev
              · rename_i b hb
                have hself := upd_self hb
                split at hev <;> cases b <;> simp only [splitB] at hev ⊢ <;> rw [hself] at hev ⊢
                all_goals first
                  | exact ⟨none, putK_eq hev, fun h' _ K' k' => putK_mk (putK_lt hev) k'⟩
                  | (obtain ⟨ov, hk, hy⟩ := quiet_yld hev
                     refine ⟨ov, hk, fun h' he K' k' => ?_⟩
                     have := hy h' (conv h' he) K' k'
                     rwa [guard_none] at this)
              · rename_i vs hb
                exact ⟨none, putK_eq hev, fun h' _ K' k' => putK_mk (putK_lt hev) k'⟩
              · exact hev.elim
      obtain ⟨ov, hk, hy⟩ := hy
      have h1 := (ih (L.setIfInBounds i true) _ _ h m1 (hcl.set hir) hok (by omega) hk).1 rfl
      have hA : AnyP P T n ops E qs ms K (m1 + 1) L fr h := by
        refine AnyE_first (E := GG E) (GG_refl E) (fun a b c h1 h2 => ?_) ho ?_ (GG_refl E) m1 L fr h hcl (Region.free_spec ho hfree) hir hy h1
        · unfold GG at *
          split
          · rename_i he; simp only [he, if_true] at h1 h2; exact h1.trans h2
          · rename_i he; simp only [he] at h1 h2; exact Eq.trans h1 h2
        · intro L' hcl' j hj hiu hji a b hg
          exact ng_grow hms hrd hil L' hcl' j hj hiu hji a b hg
      exact ⟨fun _ => hA, fun m' hm j hj hjr o' ho' => by cases hm; exact hA.2 j hjr o' ho'⟩
    · exact hev.elim
  | eff g i p ih =>
    intro L rest fr h m hcl hok hd hev
    simp only [okPlan, Bool.and_eq_true, beq_iff_eq] at hok
    obtain ⟨⟨⟨hE, hrest⟩, hg⟩, hok⟩ := hok
    subst hE
    subst hrest
    simp only [depth] at hd
    simp only [evPlan] at hev
    split at hev
    · rename_i o ho
      have h2 : ∀ m', m = m' + 1 → ∀ j ∈ [i], j ∈ Region.ready .any ops L → ∀ o, ops[j]? = some o → evG P T n ops o fr h fun fr' h' => (NG P T ops true qs ms j = true → GG true h h') ∧
          AnyP P T n ops true qs ms K m' (L.setIfInBounds j true) fr' h' := by
        intro m' hm j hj hjr o' ho'
        simp only [List.mem_singleton] at hj
        subst hj
        rw [ho] at ho'; cases ho'
        refine evG_mono (fun fr' h' k => ?_) hev
        obtain ⟨k1, k2⟩ := grow_elim k
        refine ⟨fun hn => k1 ?_, (ih _ _ fr' h' m' (hcl.set hjr) hok (by omega) k2).1 rfl⟩
        have hn' : needG P T ops qs ms j = true := hn
        simpa [implB, hn'] using hg
      refine ⟨fun hr => ?_, h2⟩
      obtain ⟨m1, rfl⟩ : ∃ m1, m = m1 + 1 := ⟨m - 1, by omega⟩
      exact ⟨fun h0 => (by rw [h0] at hr; cases hr), fun j hj => h2 m1 rfl j (hr ▸ hj) hj⟩
    · exact hev.elim
  | alt g i p q ihp ihq =>
    intro L rest fr h m hcl hok hd hev
    simp only [okPlan, Bool.and_eq_true] at hok
    obtain ⟨⟨⟨⟨hE, hmem⟩, hg⟩, hokp⟩, hokq⟩ := hok
    subst hE
    simp only [depth] at hd
    obtain ⟨hev, hevq⟩ := hev
    split at hev
    · rename_i o ho
      have h2 : ∀ m', m = m' + 1 → ∀ j ∈ rest, j ∈ Region.ready .any ops L → ∀ o, ops[j]? = some o → evG P T n ops o fr h fun fr' h' => (NG P T ops true qs ms j = true → GG true h h') ∧
          AnyP P T n ops true qs ms K m' (L.setIfInBounds j true) fr' h' := by
        intro m' hm j hj hjr o' ho'
        by_cases hji : j = i
        · subst hji
          rw [ho] at ho'; cases ho'
          refine evG_mono (fun fr' h' k => ?_) hev
          obtain ⟨k1, k2⟩ := grow_elim k
          refine ⟨fun hn => k1 ?_, (ihp _ _ fr' h' m' (hcl.set hjr) hokp (by omega) k2).1 rfl⟩
          have hn' : needG P T ops qs ms j = true := hn
          simpa [implB, hn'] using hg
        · refine (ihq L _ fr h m hcl hokq (by omega) hevq).2 m' hm j ?_ hjr o' ho'
          rw [List.mem_filter]
          refine ⟨hj, ?_⟩
          cases h : Nat.beq j i
          · rfl
          · exact absurd (Nat.eq_of_beq_eq_true h) hji
      refine ⟨fun hr => ?_, h2⟩
      obtain ⟨m1, rfl⟩ : ∃ m1, m = m1 + 1 := ⟨m - 1, by omega⟩
      exact ⟨fun h0 => (by have := contains_mem hmem; rw [hr, h0] at this; cases this), fun j hj => h2 m1 rfl j (hr ▸ hj) hj⟩
    · exact hev.elim

theorem any_wp {w0 : World} {Q : Exit → Act → World → Prop} : ∀ (m : Nat) {L : Array Bool} {fr : Fr} {h : Heap} {a : Act} {w : World}, Rel n w0 fr h a w → AnyE P T n ops G ng K m L fr h →
    (∀ fr' h' a' w', K fr' h' → Rel n w0 fr' h' a' w' → Q .normal a' w') → wpAny P .any ops Q m L a w := by
  intro m
  induction m with
  | zero => exact fun r hh hn => ⟨hh.1, hn _ _ _ _ hh.2 r⟩
  | succ m ih =>
    intro L fr h a w r hh hn
    refine ⟨fun h0 => hn _ _ _ _ (hh.1 h0) r, fun i hi => ?_⟩
    obtain ⟨_, o, ho, _⟩ := mem_ready.1 hi
    have h1 := evG_step (next := wpAny P .any ops Q m (L.setIfInBounds i true)) (Q := Q) r (hh.2 i hi o ho) fun fr' h' a' w' k r' => ih r' k.2 hn
    unfold wpOp
    simp only [ho]
    exact h1

theorem plan_step {w0 : World} {Q : Exit → Act → World → Prop} {id : Nat} {p : Plan} {fr : Fr} {h : Heap} {a : Act} {w : World} (hm : P.follows .mixedOrders = true) (hg : goodPlan P T ops p = true) (r : Rel n w0 fr h a w)
    (hev : evPlan P T n ops p fr h K) (hn : ∀ fr' h' a' w', K fr' h' → Rel n w0 fr' h' a' w' → Q .normal a' w') : (Code.region id ops true).wp P Q a w := by
  unfold goodPlan at hg
  simp only [Bool.and_eq_true] at hg
  obtain ⟨⟨hsel, hd⟩, hok⟩ := hg
  have hcl : Closed ops (Array.replicate ops.size false) := fun k o ho hk => by
    rw [Array.getD_eq_getD_getElem?] at hk
    simp only [Array.getElem?_replicate] at hk
    split at hk <;> simp at hk
  have hms : ∀ k i, ((masks ops.toList []).getD k 0).testBit i = true → Chain ops k i := masks_chain ops.toList [] [] (by simp) rfl (fun k i h => by simp at h)
  refine wp_region_any hm ?_
  have r' : Rel n w0 fr h a { w with drawn := w.drawn + 1 } := ⟨r.size, r.val, r.defers, r.heap, ⟨r.same.1, r.same.2, r.same.3⟩⟩
  exact any_wp ops.size r' ((plan_any hms hsel p _ _ fr h ops.size hcl hok (Nat.le_of_ble_eq_true hd) hev).1 rfl) hn
end
end Go.Hw
