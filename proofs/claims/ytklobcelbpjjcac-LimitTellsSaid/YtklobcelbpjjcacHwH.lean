/- The forward reading of a region: one operation after the other; and of a region that draws its order. -/
import Derived.Test.YtklobcelbpjjcacHwG
namespace Go.Hw
open Go

def upd (fr : Fr) (d : Nat) (v : Value) : Fr := fun t => match Nat.beq t d with | true => some v | false => fr t
def rmv (fr : Fr) (d : Nat) : Fr := upd fr d undef
def putF (fr : Fr) (dst : Option Nat) (ov : Option Value) : Fr :=
  match dst with
  | none => fr
  | some d => match ov with | some v => upd fr d v | none => rmv fr d
def putK (n : Nat) (fr : Fr) (dst : Option Nat) (ov : Option Value) (K : Fr → Prop) : Prop :=
  match dst with
  | none => K fr
  | some d => match Nat.blt d n with | true => (match ov with | some v => K (upd fr d v) | none => K (rmv fr d)) | false => False

section
variable (P : Program) (T : Tab) (n : Nat) (ops : Array Oper)

/-- One operation, its guard asked. -/
def evG (o : Oper) (fr : Fr) (h : Heap) (K : Fr → Heap → Prop) : Prop :=
  match o.guard with
  | none => opEv P T (opnd fr) o h fun ov h' => putK n fr o.dst ov fun fr' => K fr' h'
  | some (j, g) => match ops[j]? with
    | none => False
    | some oj => match oj.dst with
      | none => False
      | some d => match fr d with
        | some (.bool b) => match g with
          | true => splitB b (opEv P T (opnd (upd fr d (.bool true))) o h fun ov h' => putK n (upd fr d (.bool true)) o.dst ov fun fr' => K fr' h') (putK n (upd fr d (.bool false)) o.dst none fun fr' => K fr' h)
          | false => splitB b (putK n (upd fr d (.bool true)) o.dst none fun fr' => K fr' h) (opEv P T (opnd (upd fr d (.bool false))) o h fun ov h' => putK n (upd fr d (.bool false)) o.dst ov fun fr' => K fr' h')
        | some (.tuple _) => putK n fr o.dst none fun fr' => K fr' h
        | _ => False

def evOps : List Oper → Fr → Heap → (Fr → Heap → Prop) → Prop
  | [], fr, h, K => K fr h
  | o :: r, fr, h, K => evG P T n ops o fr h fun fr' h' => evOps r fr' h' K

/-- What was there is there. -/
def Ext (h h' : Heap) : Prop := h.size ≤ h'.size ∧ ∀ b, b < h.size → h'[b]? = h[b]?

def growIf (g : Bool) (h h' : Heap) (K : Prop) : Prop := match g with | true => Ext h h' ∧ K | false => K

/-- A call that leaves the heap as it was, and answers the same in every heap that has grown. -/
def quietEv (still : Bool) (o : Oper) (fr : Fr) (h : Heap) (K : Fr → Heap → Prop) : Prop :=
  match o.guard with
  | some _ => False
  | none => match o.op with
    | .call c => match c.callee with
      | .value f => val (opnd fr f) fun f => match valsOf (opnd fr) c.args.toList with
        | some vs => ∃ v, (match still with
            | true => CallF P f vs h fun v' h' => v' = v ∧ h' = h
            | false => ∀ h', Ext h h' → CallF P f vs h' fun v' h'' => v' = v ∧ h'' = h') ∧ T.dec o.type v fun u => putK n fr o.dst (some u) fun fr' => K fr' h
        | none => False
      | _ => False
    | _ => False

def evPlan : Plan → Fr → Heap → (Fr → Heap → Prop) → Prop
  | .done, fr, h, K => K fr h
  | .take i p, fr, h, K => match ops[i]? with
    | some o => evG P T n ops o fr h fun fr' h' => evPlan p fr' h' K
    | none => False
  | .quiet st i p, fr, h, K => match ops[i]? with
    | some o => match o.guard with
      | none => quietEv P T n st o fr h fun fr' h' => evPlan p fr' h' K
      | some (j, g) => match ops[j]? with
        | none => False
        | some oj => match oj.dst with
          | none => False
          | some d => match fr d with
            | some (.bool b) => match g with
              | true => splitB b (quietEv P T n st { o with guard := none } (upd fr d (.bool true)) h fun fr' h' => evPlan p fr' h' K) (putK n (upd fr d (.bool false)) o.dst none fun fr' => evPlan p fr' h K)
              | false => splitB b (putK n (upd fr d (.bool true)) o.dst none fun fr' => evPlan p fr' h K) (quietEv P T n st { o with guard := none } (upd fr d (.bool false)) h fun fr' h' => evPlan p fr' h' K)
            | some (.tuple _) => putK n fr o.dst none fun fr' => evPlan p fr' h K
            | _ => False
    | none => False
  | .split i p, fr, h, K => match ops[i]? with
    | some o => match o.dst with
      | some d => match fr d with
        | some (.bool b) => splitB b (evPlan p (upd fr d (.bool true)) h K) (evPlan p (upd fr d (.bool false)) h K)
        | some (.tuple _) => evPlan p fr h K
        | _ => False
      | none => False
    | none => False
  | .eff g i p, fr, h, K => match ops[i]? with
    | some o => evG P T n ops o fr h fun fr' h' => growIf g h h' (evPlan p fr' h' K)
    | none => False
  | .alt g i p q, fr, h, K => (match ops[i]? with
    | some o => evG P T n ops o fr h fun fr' h' => growIf g h h' (evPlan p fr' h' K)
    | none => False) ∧ evPlan q fr h K
end

/-- The machine's frame and world, told by a frame of ours and a heap. -/
structure Rel (n : Nat) (w0 : World) (fr : Fr) (h : Heap) (a : Act) (w : World) : Prop where
  size : a.tmps.size = n
  val : ∀ t v, fr t = some v → t < n ∧ a.tmps.getD t undef = v
  defers : a.defers = []
  heap : w.heap = h
  same : Same w0 w

section
variable {P : Program} {T : Tab} {n : Nat} {ops : Array Oper} {w0 : World} {fr : Fr} {h : Heap} {a : Act} {w : World}

theorem Rel.opnd (r : Rel n w0 fr h a w) : ∀ x v, opnd fr x = some v → a.eval x = v := by
  intro x v hx
  cases x with
  | tmp t => exact (r.val t v hx).2
  | const u => cases hx; rfl
  | global g => cases hx; rfl
  | func f => cases hx; rfl

theorem Rel.put (r : Rel n w0 fr h a w) {dst : Option Nat} {ov : Option Value} {h' : Heap} {w' : World} {K : Fr → Prop} (hw : w'.heap = h') (hs : Same w w') (hk : putK n fr dst ov K) :
    ∃ fr', K fr' ∧ fr' = putF fr dst ov ∧ Rel n w0 fr' h' (a.put dst (ov.getD undef)) w' := by
  cases dst with
  | none => exact ⟨fr, hk, rfl, r.size, r.val, r.defers, hw, r.same.trans hs⟩
  | some d =>
    simp only [putK] at hk
    split at hk
    · rename_i hd
      have hd' : d < n := Nat.le_of_ble_eq_true hd
      cases ov with
      | some v =>
        refine ⟨_, hk, rfl, by simp [Act.put, r.size], fun t u ht => ?_, r.defers, hw, r.same.trans hs⟩
        unfold upd at ht
        simp only [Act.put, Option.getD_some]
        split at ht
        · rename_i ht1
          have := Nat.eq_of_beq_eq_true ht1
          subst this
          cases ht
          refine ⟨hd', ?_⟩
          simp [Array.getD_eq_getD_getElem?, r.size, hd']
        · rename_i ht1
          have hne := Nat.ne_of_beq_eq_false ht1
          have := r.val t u ht
          refine ⟨this.1, ?_⟩
          rw [← this.2]
          simp [Array.getD_eq_getD_getElem?, Ne.symm hne]
      | none =>
        refine ⟨_, hk, rfl, by simp [Act.put, r.size], fun t u ht => ?_, r.defers, hw, r.same.trans hs⟩
        unfold rmv upd at ht
        simp only [Act.put, Option.getD_none]
        split at ht
        · rename_i ht1
          have := Nat.eq_of_beq_eq_true ht1
          subst this
          cases ht
          refine ⟨hd', ?_⟩
          simp [Array.getD_eq_getD_getElem?, r.size, hd']
        · rename_i ht1
          have hne := Nat.ne_of_beq_eq_false ht1
          have := r.val t u ht
          refine ⟨this.1, ?_⟩
          rw [← this.2]
          simp [Array.getD_eq_getD_getElem?, Ne.symm hne]
    · exact hk.elim

theorem upd_self {d : Nat} {v : Value} (hv : fr d = some v) : upd fr d v = fr := by
  funext t
  unfold upd
  split
  · rename_i ht
    have := Nat.eq_of_beq_eq_true ht
    subst this
    exact hv.symm
  · rfl

/-- An operation that is carried out. -/
theorem op_step {o : Oper} {K : Fr → Heap → Prop} {next : Act → World → Prop} {Q : Exit → Act → World → Prop} (r : Rel n w0 fr h a w)
    (hh : opEv P T (opnd fr) o h fun ov h' => putK n fr o.dst ov fun fr' => K fr' h') (hn : ∀ fr' h' a' w', K fr' h' → Rel n w0 fr' h' a' w' → next a' w') : o.wp P a w next Q := by
  have h1 := opEv_sound r.opnd hh
  rw [← r.heap] at h1
  obtain ⟨nx, w', hrun, hk, hs⟩ := Hwp.run _ w _ h1
  unfold Oper.wp
  rw [hrun]
  cases nx <;> simp only [nextK] at hk <;> first | exact hk.elim | skip
  · obtain ⟨fr', k, _, r'⟩ := r.put rfl hs hk
    exact hn _ _ _ _ k r'
  · obtain ⟨fr', k, _, r'⟩ := r.put rfl hs hk
    exact hn _ _ _ _ k r'
  · rename_i f args
    refine (hk w' rfl).mono ?_
    rintro e w'' ⟨v, rfl, k, s⟩
    obtain ⟨fr', k, _, r'⟩ := r.put rfl (hs.trans s) k
    exact hn _ _ _ _ k r'

/-- What the machine does at an operation of a region. -/
def wpG (P : Program) (ops : Array Oper) (o : Oper) (a : Act) (w : World) (next : Act → World → Prop) (Q : Exit → Act → World → Prop) : Prop :=
  if Region.wanted o (yielded ops a.tmps) then o.wp P a w next Q ∨ (o.asks P a w ∧ LetsOut Q) else next (a.put o.dst undef) w

theorem Rel.yielded (r : Rel n w0 fr h a w) {j : Nat} {oj : Oper} {d : Nat} {b : Bool} (hj : ops[j]? = some oj) (hd : oj.dst = some d) (hb : fr d = some (.bool b)) : yielded ops a.tmps j = some b := by
  have := r.val d _ hb
  have hlt : d < a.tmps.size := by rw [r.size]; exact this.1
  have hv : a.tmps[d]? = some (.bool b) := by
    have h2 := this.2
    simp only [Array.getD_eq_getD_getElem?] at h2
    rw [Array.getElem?_eq_getElem hlt] at h2 ⊢
    simpa using h2
  simp [Go.yielded, hj, hd, hv]

theorem Rel.not_yielded (r : Rel n w0 fr h a w) {j : Nat} {oj : Oper} {d : Nat} {vs : Array Value} (hj : ops[j]? = some oj) (hd : oj.dst = some d) (hb : fr d = some (.tuple vs)) : Go.yielded ops a.tmps j = none := by
  have := r.val d _ hb
  have hlt : d < a.tmps.size := by rw [r.size]; exact this.1
  have hv : a.tmps[d]? = some (.tuple vs) := by
    have h2 := this.2
    simp only [Array.getD_eq_getD_getElem?] at h2
    rw [Array.getElem?_eq_getElem hlt] at h2 ⊢
    simpa using h2
  simp [Go.yielded, hj, hd, hv]

theorem evG_step {o : Oper} {K : Fr → Heap → Prop} {next : Act → World → Prop} {Q : Exit → Act → World → Prop} (r : Rel n w0 fr h a w)
    (hh : evG P T n ops o fr h K) (hn : ∀ fr' h' a' w', K fr' h' → Rel n w0 fr' h' a' w' → next a' w') : wpG P ops o a w next Q := by
  unfold evG at hh
  unfold wpG
  cases hg : o.guard with
  | none =>
    simp only [hg] at hh
    rw [if_pos (by simp [Region.wanted, hg])]
    exact .inl (op_step r hh hn)
  | some jg =>
    obtain ⟨j, g⟩ := jg
    simp only [hg] at hh
    split at hh
    · exact hh.elim
    · rename_i oj hj
      split at hh
      · exact hh.elim
      · rename_i d hd
        split at hh
        · rename_i b hb
          have hy := r.yielded hj hd hb
          have hself := upd_self hb
          cases g <;> cases b <;> simp only [splitB] at hh <;> rw [hself] at hh
          · rw [if_pos (by simp [Region.wanted, hg, hy])]; exact .inl (op_step r hh hn)
          · rw [if_neg (by simp [Region.wanted, hg, hy])]
            obtain ⟨fr', k, _, r'⟩ := r.put r.heap (Same.refl w) hh
            exact hn _ _ _ _ k r'
          · rw [if_neg (by simp [Region.wanted, hg, hy])]
            obtain ⟨fr', k, _, r'⟩ := r.put r.heap (Same.refl w) hh
            exact hn _ _ _ _ k r'
          · rw [if_pos (by simp [Region.wanted, hg, hy])]; exact .inl (op_step r hh hn)
        · rename_i vs hb
          have hy := r.not_yielded hj hd hb
          rw [if_neg (by simp [Region.wanted, hg, hy])]
          obtain ⟨fr', k, _, r'⟩ := r.put r.heap (Same.refl w) hh
          exact hn _ _ _ _ k r'
        · exact hh.elim

theorem evOps_step {Q : Exit → Act → World → Prop} : ∀ (l : List Oper) {fr : Fr} {h : Heap} {a : Act} {w : World} {K : Fr → Heap → Prop}, Rel n w0 fr h a w → evOps P T n ops l fr h K →
    (∀ fr' h' a' w', K fr' h' → Rel n w0 fr' h' a' w' → Q .normal a' w') → wpList P ops Q l a w := by
  intro l
  induction l with
  | nil => exact fun r hh hn => hn _ _ _ _ hh r
  | cons o l ih => exact fun r hh hn => evG_step r hh fun fr' h' a' w' k r' => ih r' k hn
end
end Go.Hw
