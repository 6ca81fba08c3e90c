/- The forward reading of a region that draws its order is sound, whatever the order (3). -/
import Derived.Test.YtklobcelbpjjcacHwJ
namespace Go.Hw
open Go
section
variable {P : Program} {T : Tab} {n : Nat} {ops : Array Oper}

theorem evG_mono {o : Oper} {fr : Fr} {h : Heap} {K K' : Fr → Heap → Prop} (hk : ∀ fr h, K fr h → K' fr h) (hh : evG P T n ops o fr h K) : evG P T n ops o fr h K' := by
  have km : ∀ {fr : Fr} {dst : Option Nat} {ov : Option Value} {C C' : Fr → Prop}, (∀ v, C v → C' v) → putK n fr dst ov C → putK n fr dst ov C' := fun hc hd => putK_mk (putK_lt hd) (hc _ (putK_eq hd))
  unfold evG at hh ⊢
  split at hh
  · exact opEv_mono (fun _ _ k => km (fun _ k => hk _ _ k) k) hh
  · split at hh
    · exact hh.elim
    · split at hh
      · exact hh.elim
      · split at hh
        · rename_i b _
          split at hh <;> cases b <;> simp only [splitB] at hh ⊢
          all_goals first
            | exact km (fun _ k => hk _ _ k) hh
            | exact opEv_mono (fun _ _ k => km (fun _ k => hk _ _ k) k) hh
        · exact km (fun _ k => hk _ _ k) hh
        · exact hh.elim

theorem opnd_putF {fr : Fr} {dst : Option Nat} {ov : Option Value} {x : Operand} (h : ∀ d, dst = some d → x ≠ .tmp d) : opnd (putF fr dst ov) x = opnd fr x := by
  cases x with
  | tmp t => exact putF_ne fun d hd e => h d hd (e ▸ rfl)
  | const v => rfl
  | global g => rfl
  | func f => rfl

theorem looks_opnd {o : Oper} {d : Nat} (h : d ∉ o.looksAt ops) : ∀ x ∈ o.op.operands, x ≠ .tmp d := by
  intro x hx e
  subst e
  apply h
  unfold Oper.looksAt
  refine List.mem_append_left _ ?_
  rw [List.mem_filterMap]
  exact ⟨.tmp d, by simpa using hx, rfl⟩
theorem looks_guard {o oj : Oper} {d j : Nat} {g : Bool} (h : d ∉ o.looksAt ops) (hg : o.guard = some (j, g)) (hj : ops[j]? = some oj) : oj.dst ≠ some d := by
  intro e
  apply h
  unfold Oper.looksAt
  refine List.mem_append_right _ ?_
  simp [hg, hj, e]

/-- One operation, apart from another: whether the other's value is there already makes no difference. -/
theorem evG_put {oi oj : Oper} {ov : Option Value} {fr : Fr} {h : Heap} {K : Fr → Heap → Prop} (hap : oi.apart ops oj = true) (hh : evG P T n ops oj (putF fr oi.dst ov) h K) :
    evG P T n ops oj fr h fun fr' h' => K (putF fr' oi.dst ov) h' := by
  obtain ⟨h1, h2, h3⟩ := Oper.apart_spec hap
  have main : ∀ fr : Fr, (opEv P T (opnd (putF fr oi.dst ov)) oj h fun u h' => putK n (putF fr oi.dst ov) oj.dst u fun fr' => K fr' h') → opEv P T (opnd fr) oj h fun u h' => putK n fr oj.dst u fun fr' => K (putF fr' oi.dst ov) h' := by
    intro fr hh
    rw [opEv_congr (ρ' := opnd fr) fun x hx => opnd_putF fun d hd => looks_opnd (h1 d hd) x hx] at hh
    refine opEv_mono (fun u h' k => putK_mk (putK_lt k) ?_) hh
    have := putK_eq k
    rwa [putF_comm h2] at this
  have skip : ∀ fr : Fr, (putK n (putF fr oi.dst ov) oj.dst none fun fr' => K fr' h) → putK n fr oj.dst none fun fr' => K (putF fr' oi.dst ov) h := by
    intro fr hh
    refine putK_mk (putK_lt hh) ?_
    have := putK_eq hh
    rwa [putF_comm h2] at this
  unfold evG at hh ⊢
  split at hh
  · exact main fr hh
  · rename_i j g hg
    split at hh
    · exact hh.elim
    · rename_i og hog
      split at hh
      · exact hh.elim
      · rename_i d hd
        have hne : ∀ x, oi.dst = some x → d ≠ x := fun x hx e => looks_guard (h1 x hx) hg hog (e ▸ hd)
        rw [putF_ne hne] at hh
        have hup : ∀ b : Value, upd (putF fr oi.dst ov) d b = putF (upd fr d b) oi.dst ov := fun b => by
          have := putF_comm (fr := fr) (d := oi.dst) (d' := some d) (u := ov) (v := some b) (fun x hx e => hne x hx (by cases e; rfl))
          exact this
        split at hh
        · rename_i b hb
          simp only [hup] at hh
          simp only []
          split at hh <;> cases b <;> simp only [splitB] at hh ⊢
          · exact skip _ hh
          · exact main _ hh
          · exact main _ hh
          · exact skip _ hh
        · exact skip _ hh
        · exact hh.elim

/-- The other way: what 'oj' left in its temporary makes no difference to 'oi'. -/
theorem evG_put_rev {oi oj : Oper} {u : Option Value} {fr : Fr} {h : Heap} {K : Fr → Heap → Prop} (hap : oi.apart ops oj = true) (hh : evG P T n ops oi fr h fun f h' => K (putF f oj.dst u) h') :
    evG P T n ops oi (putF fr oj.dst u) h K := by
  obtain ⟨h1, h2, h3⟩ := Oper.apart_spec hap
  have main : ∀ fr : Fr, (opEv P T (opnd fr) oi h fun v h' => putK n fr oi.dst v fun fr' => K (putF fr' oj.dst u) h') → opEv P T (opnd (putF fr oj.dst u)) oi h fun v h' => putK n (putF fr oj.dst u) oi.dst v fun fr' => K fr' h' := by
    intro fr hh
    rw [opEv_congr (ρ' := opnd fr) fun x hx => opnd_putF fun d hd => looks_opnd (h3 d hd) x hx]
    refine opEv_mono (fun v h' k => putK_mk (putK_lt k) ?_) hh
    have := putK_eq k
    rwa [putF_comm h2] at this
  have skip : ∀ fr : Fr, (putK n fr oi.dst none fun fr' => K (putF fr' oj.dst u) h) → putK n (putF fr oj.dst u) oi.dst none fun fr' => K fr' h := by
    intro fr hh
    refine putK_mk (putK_lt hh) ?_
    have := putK_eq hh
    rwa [putF_comm h2] at this
  unfold evG at hh ⊢
  split at hh
  · exact main fr hh
  · rename_i j g hg
    split at hh
    · exact hh.elim
    · rename_i og hog
      split at hh
      · exact hh.elim
      · rename_i d hd
        have hne : ∀ x, oj.dst = some x → d ≠ x := fun x hx e => looks_guard (h3 x hx) hg hog (e ▸ hd)
        rw [putF_ne hne]
        have hup : ∀ b : Value, upd (putF fr oj.dst u) d b = putF (upd fr d b) oj.dst u := fun b => by
          have := putF_comm (fr := fr) (d := oj.dst) (d' := some d) (u := u) (v := some b) (fun x hx e => hne x hx (by cases e; rfl))
          exact this
        split at hh
        · rename_i b hb
          simp only [hup]
          split at hh <;> cases b <;> simp only [splitB] at hh ⊢
          · exact skip _ hh
          · exact main _ hh
          · exact main _ hh
          · exact skip _ hh
        · exact skip _ hh
        · exact hh.elim

/-- Behind an operation the frame is the old one but for its temporary. -/
theorem evG_frame {o : Oper} {fr : Fr} {h : Heap} {K : Fr → Heap → Prop} (hh : evG P T n ops o fr h K) : evG P T n ops o fr h fun fr' h' => (∃ u, fr' = putF fr o.dst u) ∧ K fr' h' := by
  have main : ∀ fr : Fr, (opEv P T (opnd fr) o h fun v h' => putK n fr o.dst v fun fr' => K fr' h') → opEv P T (opnd fr) o h fun v h' => putK n fr o.dst v fun fr' => (∃ u, fr' = putF fr o.dst u) ∧ K fr' h' :=
    fun fr hh => opEv_mono (fun v h' k => putK_mk (putK_lt k) ⟨⟨v, rfl⟩, putK_eq k⟩) hh
  have skip : ∀ fr : Fr, (putK n fr o.dst none fun fr' => K fr' h) → putK n fr o.dst none fun fr' => (∃ u, fr' = putF fr o.dst u) ∧ K fr' h := fun fr k => putK_mk (putK_lt k) ⟨⟨none, rfl⟩, putK_eq k⟩
  unfold evG at hh ⊢
  split at hh
  · exact main fr hh
  · simp only []
    split at hh
    · exact hh.elim
    · split at hh
      · exact hh.elim
      · split at hh
        · rename_i b hb
          have hself := upd_self hb
          split at hh <;> cases b <;> simp only [splitB] at hh ⊢ <;> rw [hself] at hh ⊢
          all_goals first | exact main _ hh | exact skip _ hh
        · exact skip _ hh
        · exact hh.elim

/-! ### What must come before what -/
inductive Chain (ops : Array Oper) : Nat → Nat → Prop
  | one {k : Nat} {o : Oper} {e : Edge} (ho : ops[k]? = some o) (he : e ∈ o.after) (hb : Region.binds .any e = true) : Chain ops k e.on
  | more {k i : Nat} {o : Oper} {e : Edge} (ho : ops[k]? = some o) (he : e ∈ o.after) (hb : Region.binds .any e = true) (hc : Chain ops e.on i) : Chain ops k i

def maskOf (acc : List Nat) : List Edge → Nat
  | [] => 0
  | e :: r => (match Region.binds .any e with | true => 2 ^ e.on ||| acc.getD e.on 0 | false => 0) ||| maskOf acc r
def masks : List Oper → List Nat → List Nat
  | [], acc => acc
  | o :: r, acc => masks r (acc ++ [maskOf acc o.after.toList])

theorem maskOf_chain {acc : List Nat} (ha : ∀ k i, (acc.getD k 0).testBit i = true → Chain ops k i) : ∀ (l : List Edge) (i : Nat), (maskOf acc l).testBit i = true → ∃ e ∈ l, Region.binds .any e = true ∧ (e.on = i ∨ Chain ops e.on i) := by
  intro l
  induction l with
  | nil => intro i h; simp [maskOf] at h
  | cons e l ih =>
    intro i h
    simp only [maskOf, Nat.testBit_or, Bool.or_eq_true] at h
    rcases h with h | h
    · cases hb : Region.binds .any e with
      | true =>
        simp only [hb, Nat.testBit_or, Bool.or_eq_true, Nat.testBit_two_pow, decide_eq_true_eq] at h
        exact ⟨e, by simp, hb, h.imp id (ha _ _)⟩
      | false => simp [hb] at h
    · obtain ⟨e', h1, h2⟩ := ih i h
      exact ⟨e', by simp [h1], h2⟩

theorem masks_chain : ∀ (l pre : List Oper) (acc : List Nat), ops.toList = pre ++ l → acc.length = pre.length → (∀ k i, (acc.getD k 0).testBit i = true → Chain ops k i) → ∀ k i, ((masks l acc).getD k 0).testBit i = true → Chain ops k i := by
  intro l
  induction l with
  | nil => exact fun pre acc _ _ ha => ha
  | cons o l ih =>
    intro pre acc hp hl ha
    refine ih (pre ++ [o]) _ (by simp [hp]) (by simp [hl]) ?_
    intro k i hk
    rcases Nat.lt_trichotomy k acc.length with hlt | heq | hgt
    · have : (acc ++ [maskOf acc o.after.toList]).getD k 0 = acc.getD k 0 := by simp [List.getD_eq_getElem?_getD, List.getElem?_append_left hlt]
      rw [this] at hk
      exact ha k i hk
    · have : (acc ++ [maskOf acc o.after.toList]).getD k 0 = maskOf acc o.after.toList := by simp [List.getD_eq_getElem?_getD, heq]
      rw [this] at hk
      obtain ⟨e, he, hb, h1⟩ := maskOf_chain ha _ _ hk
      have ho : ops[k]? = some o := by
        rw [← Array.getElem?_toList, hp, heq, hl]
        simp
      rcases h1 with rfl | h1
      · exact .one ho (by simpa using he) hb
      · exact .more ho (by simpa using he) hb h1
    · have : (acc ++ [maskOf acc o.after.toList]).getD k 0 = 0 := by
        rw [List.getD_eq_getElem?_getD, List.getElem?_eq_none (by simp; omega)]; rfl
      rw [this] at hk
      simp at hk

def Closed (ops : Array Oper) (L : Array Bool) : Prop := ∀ k o, ops[k]? = some o → L.getD k false = true → ∀ e ∈ o.after, Region.binds .any e = true → L.getD e.on false = true

theorem Closed.chain {L : Array Bool} (hc : Closed ops L) {k i : Nat} (h : Chain ops k i) : L.getD k false = true → L.getD i false = true := by
  induction h with
  | one ho he hb => exact fun hl => hc _ _ ho hl _ he hb
  | more ho he hb _ ih => exact fun hl => ih (hc _ _ ho hl _ he hb)

theorem Closed.ready {L : Array Bool} (hc : Closed ops L) {j i : Nat} (hr : j ∈ Region.ready .any ops L) (h : Chain ops j i) : L.getD i false = true := by
  obtain ⟨_, o, ho, hall⟩ := mem_ready.1 hr
  cases h with
  | one ho' he hb => rw [ho] at ho'; cases ho'; exact hall _ he hb
  | more ho' he hb hch => rw [ho] at ho'; cases ho'; exact hc.chain hch (hall _ he hb)

theorem Closed.set {L : Array Bool} (hc : Closed ops L) {j : Nat} (hr : j ∈ Region.ready .any ops L) : Closed ops (L.setIfInBounds j true) := by
  obtain ⟨_, o, ho, hall⟩ := mem_ready.1 hr
  have mono : ∀ k, L.getD k false = true → (L.setIfInBounds j true).getD k false = true := fun k hk => by
    by_cases hjk : j = k
    · subst hjk
      rw [Array.getD_eq_getD_getElem?] at hk ⊢
      rcases Nat.lt_or_ge j L.size with h | h
      · simp [h]
      · simp [h] at hk
    · rwa [getD_set_ne false hjk]
  intro k o' ho' hk e he hb
  by_cases hjk : j = k
  · subst hjk; rw [ho] at ho'; cases ho'; exact mono _ (hall e he hb)
  · rw [getD_set_ne false hjk] at hk
    exact mono _ (hc k o' ho' hk e he hb)
end
end Go.Hw
