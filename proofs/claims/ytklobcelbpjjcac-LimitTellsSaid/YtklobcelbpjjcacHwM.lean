/- The forward reading of a function's code, from point to point, is sound for the machine. -/
import Derived.Test.YtklobcelbpjjcacHwL
namespace Go.Hw
open Go

inductive Ex where
  | normal | exit (id : Nat) | ret

def Ex.out : Ex → Exit
  | .normal => .normal
  | .exit id => .exit id
  | .ret => .ret

def eqP : List Bool → List Bool → Bool
  | [], [] => true
  | true :: a, true :: b => eqP a b
  | false :: a, false :: b => eqP a b
  | _, _ => false
def lookP {α : Type} : List (List Bool × α) → List Bool → Option α
  | [], _ => none
  | (k, v) :: r, p => match eqP k p with | true => some v | false => lookP r p

def mkFr (l : List (Nat × Value)) : Fr := fun t => look l t
def projL (fr : Fr) : List Nat → List (Nat × Value)
  | [] => []
  | t :: r => match fr t with | some v => (t, v) :: projL fr r | none => projL fr r

/-- The points of a function (paths, the last step first), and what is kept of the frame there. -/
abbrev Keep := List (List Bool × List Nat)

section
variable (P : Program) (T : Tab) (n : Nat) (kp : Keep) (X : List Bool → Fr → Heap → Prop)

def loopK (p : List Bool) (K : Ex → Fr → Heap → Prop) : Ex → Fr → Heap → Prop := fun e fr h =>
  match e with
  | .normal => match lookP kp p with | some l => X p (mkFr (projL fr l)) h | none => False
  | .exit id => K (.exit id) fr h
  | .ret => K .ret fr h
def blockK (id : Nat) (K : Ex → Fr → Heap → Prop) : Ex → Fr → Heap → Prop := fun e fr h =>
  match e with
  | .exit i => match Nat.beq i id with | true => K .normal fr h | false => K (.exit i) fr h
  | .normal => K .normal fr h
  | .ret => K .ret fr h
def seqK (p : List Bool) (next : Fr → Heap → Prop) (K : Ex → Fr → Heap → Prop) : Ex → Fr → Heap → Prop := fun e fr h =>
  match e with
  | .normal => match lookP kp p with | some l => X p (mkFr (projL fr l)) h | none => next fr h
  | .exit id => K (.exit id) fr h
  | .ret => K .ret fr h

def ev : Code → List Bool → Fr → Heap → (Ex → Fr → Heap → Prop) → Prop
  | .skip, _, fr, h, K => K .normal fr h
  | .region id ops draw, _, fr, h, K => match draw with
    | false => evOps P T n ops ops.toList fr h (K .normal)
    | true => match look T.plan id with
      | some p => evPlan P T n ops p fr h (K .normal)
      | none => False
  | .seq a b, p, fr, h, K => ev a (false :: p) fr h (seqK kp X (true :: p) (fun fr' h' => ev b (true :: p) fr' h' K) K)
  | .cond c a b, p, fr, h, K => match opnd fr c with
    | some (.bool t) => splitB t (ev a (false :: p) fr h K) (ev b (true :: p) fr h K)
    | _ => False
  | .block id c, p, fr, h, K => ev c (false :: p) fr h (blockK id K)
  | .loop _, p, fr, h, _ => match lookP kp (false :: p) with | some l => X (false :: p) (mkFr (projL fr l)) h | none => False
  | .exit id, _, fr, h, K => K (.exit id) fr h
  | .ret, _, fr, h, K => K .ret fr h
  | _, _, _, _, _ => False

def evFrom : List Bool → Code → List Bool → Fr → Heap → (Ex → Fr → Heap → Prop) → Prop
  | [], c, p, fr, h, K => ev P T n kp X c p fr h K
  | b :: bs, .seq x y, p, fr, h, K => match b with
    | false => evFrom bs x (false :: p) fr h (seqK kp X (true :: p) (fun fr' h' => ev P T n kp X y (true :: p) fr' h' K) K)
    | true => evFrom bs y (true :: p) fr h K
  | b :: bs, .cond _ x y, p, fr, h, K => match b with
    | false => evFrom bs x (false :: p) fr h K
    | true => evFrom bs y (true :: p) fr h K
  | b :: bs, .block id c, p, fr, h, K => match b with
    | false => evFrom bs c (false :: p) fr h (blockK id K)
    | true => False
  | b :: bs, .loop c, p, fr, h, K => match b with
    | false => evFrom bs c (false :: p) fr h (loopK kp X (false :: p) K)
    | true => False
  | _, _, _, _, _, _ => False
end

def goodCode (P : Program) (T : Tab) : Code → Bool
  | .region id ops true => match look T.plan id with
    | some p => goodPlan P T ops p
    | none => true
  | .seq a b => goodCode P T a && goodCode P T b
  | .cond _ a b => goodCode P T a && goodCode P T b
  | .block _ c => goodCode P T c
  | .loop c => goodCode P T c
  | _ => true

/-- At the head of a loop's body. -/
def loopwp (P : Program) (c : Code) (Q : Exit → Act → World → Prop) (a : Act) (w : World) : Prop :=
  ∀ (b : Frame) (k : List Item) (cs : List Frame), ∃ e a' w', Q e a' w' ∧ Arrives P (lone (b.at a (.code c :: .inLoop c :: k)) cs w) b k cs e a' w'

section
variable {P : Program} {Q : Exit → Act → World → Prop} {a : Act} {w : World}
theorem wp_of_loopwp {c : Code} (hh : loopwp P c Q a w) : (Code.loop c).wp P Q a w := by
  intro b k cs
  obtain ⟨e, a', w', q, r⟩ := hh b k cs
  exact ⟨e, a', w', q, .of_steps (.one step_loop) r⟩
theorem loopwp_of {c : Code} (hh : c.wp P (Exit.then (loopwp P c Q) Q) a w) : loopwp P c Q a w := by
  intro b k cs
  obtain ⟨e, a₁, w₁, hq, harr⟩ := hh b (.inLoop c :: k) cs
  cases e with
  | normal =>
    obtain ⟨e₂, a₂, w₂, hq₂, harr₂⟩ := hq b k cs
    exact ⟨e₂, a₂, w₂, hq₂, .of_steps (Steps.trans harr (.one step_inLoop)) harr₂⟩
  | exit id => exact ⟨_, a₁, w₁, hq, .pass (x := .inLoop c) rfl (fun _ _ => .inl (by simp)) harr⟩
  | goto l => exact ⟨_, a₁, w₁, hq, .pass (x := .inLoop c) rfl (fun _ _ => .inl (by simp)) harr⟩
  | ret => exact ⟨_, a₁, w₁, hq, .pass (x := .inLoop c) rfl (fun _ _ => .inl (by simp)) harr⟩
  | panic ch => exact ⟨_, a₁, w₁, hq, .pass (x := .inLoop c) rfl (fun _ _ => .inl (by simp)) harr⟩
  | outgrown => exact ⟨_, a₁, w₁, hq, .pass (x := .inLoop c) rfl (fun _ _ => .inl (by simp)) harr⟩

/-- The machine's own meaning of 'from this point on'. -/
def nav (P : Program) : List Bool → Code → (Exit → Act → World → Prop) → Act → World → Prop
  | [], c, Q, a, w => c.wp P Q a w
  | b :: bs, .seq x y, Q, a, w => match b with
    | false => nav P bs x (Exit.then (y.wp P Q) Q) a w
    | true => nav P bs y Q a w
  | b :: bs, .cond _ x y, Q, a, w => match b with
    | false => nav P bs x Q a w
    | true => nav P bs y Q a w
  | b :: bs, .block id c, Q, a, w => match b with
    | false => nav P bs c (Exit.inBlock id Q) a w
    | true => False
  | b :: bs, .loop c, Q, a, w => match b with
    | false => match bs with
      | [] => loopwp P c Q a w
      | _ :: _ => nav P bs c (Exit.then (loopwp P c Q) Q) a w
    | true => False
  | _, _, _, _, _ => False
end

theorem eqP_spec : ∀ {a b : List Bool}, eqP a b = true → a = b := by
  intro a
  induction a with
  | nil => intro b h; cases b <;> simp [eqP] at h ⊢
  | cons x a ih =>
    intro b h
    cases b with
    | nil => cases x <;> simp [eqP] at h
    | cons y b => cases x <;> cases y <;> simp only [eqP, Bool.false_eq_true] at h <;> rw [ih h]

section
variable {P : Program} {T : Tab} {n : Nat} {kp : Keep} {X : List Bool → Fr → Heap → Prop} {w0 : World} {root : Code} {Q0 : Exit → Act → World → Prop}

theorem Rel.proj {fr : Fr} {h : Heap} {a : Act} {w : World} (r : Rel n w0 fr h a w) (l : List Nat) : Rel n w0 (mkFr (projL fr l)) h a w := by
  refine ⟨r.size, fun t v ht => ?_, r.defers, r.heap, r.same⟩
  refine r.val t v ?_
  unfold mkFr at ht
  induction l with
  | nil => cases ht
  | cons x l ih =>
    simp only [projL] at ht
    split at ht
    · rename_i u hu
      simp only [look] at ht
      split at ht
      · rename_i hx; have := Nat.eq_of_beq_eq_true hx; subst this; rw [hu]; exact ht
      · exact ih ht
    · exact ih ht

/-- What a continuation of ours says of one of the machine's. -/
def Fits (n : Nat) (w0 : World) (K : Ex → Fr → Heap → Prop) (Q : Exit → Act → World → Prop) : Prop :=
  ∀ e fr h a w, K e fr h → Rel n w0 fr h a w → Q e.out a w

theorem ev_sound (hm : P.follows .mixedOrders = true) (hX : ∀ p fr h a w, X p fr h → Rel n w0 fr h a w → nav P p.reverse root Q0 a w) :
    ∀ (c : Code) (p : List Bool) (K : Ex → Fr → Heap → Prop) (Q : Exit → Act → World → Prop) (fr : Fr) (h : Heap) (a : Act) (w : World), goodCode P T c = true →
      (∀ b bs a w, nav P (p.reverse ++ b :: bs) root Q0 a w → nav P (b :: bs) c Q a w) → Fits n w0 K Q → Rel n w0 fr h a w → ev P T n kp X c p fr h K → c.wp P Q a w := by
  intro c
  induction c with
  | skip => exact fun p K Q fr h a w _ _ hf r hh => wp_skip (hf .normal fr h a w hh r)
  | region id ops draw =>
    intro p K Q fr h a w hg _ hf r hh
    simp only [ev] at hh
    cases draw with
    | false =>
      refine wp_region_list (evOps_step ops.toList r hh fun fr' h' a' w' k r' => hf .normal _ _ _ _ k r')
    | true =>
      simp only [] at hh
      split at hh
      · rename_i pl hpl
        simp only [goodCode, hpl] at hg
        exact plan_step hm hg r hh fun fr' h' a' w' k r' => hf .normal _ _ _ _ k r'
      · exact hh.elim
  | seq x y ihx ihy =>
    intro p K Q fr h a w hg hp hf r hh
    simp only [goodCode, Bool.and_eq_true] at hg
    simp only [ev] at hh
    have hp1 : ∀ b bs a w, nav P ((true :: p).reverse ++ b :: bs) root Q0 a w → nav P (b :: bs) y Q a w := fun b bs a w hn => by
      have := hp true (b :: bs) a w (by simpa using hn)
      exact this
    have hp0 : ∀ b bs a w, nav P ((false :: p).reverse ++ b :: bs) root Q0 a w → nav P (b :: bs) x (Exit.then (y.wp P Q) Q) a w := fun b bs a w hn => by
      have := hp false (b :: bs) a w (by simpa using hn)
      exact this
    refine wp_seq (ihx (false :: p) _ _ fr h a w hg.1 hp0 ?_ r hh)
    intro e fr' h' a' w' k r'
    cases e with
    | exit id => exact hf (.exit id) _ _ _ _ k r'
    | ret => exact hf .ret _ _ _ _ k r'
    | normal =>
      simp only [seqK] at k
      split at k
      · rename_i l _
        have h1 := hX _ _ _ a' w' k (r'.proj l)
        rw [List.reverse_cons] at h1
        exact hp true [] a' w' h1
      · exact ihy (true :: p) K Q fr' h' a' w' hg.2 hp1 hf r' k
  | cond c x y ihx ihy =>
    intro p K Q fr h a w hg hp hf r hh
    simp only [goodCode, Bool.and_eq_true] at hg
    simp only [ev] at hh
    split at hh
    · rename_i t ht
      refine wp_cond (t := t) (r.opnd _ _ ht) ?_
      cases t <;> simp only [splitB] at hh
      · exact ihy (true :: p) K Q fr h a w hg.2 (fun b bs a w hn => hp true (b :: bs) a w (by simpa using hn)) hf r hh
      · exact ihx (false :: p) K Q fr h a w hg.1 (fun b bs a w hn => hp false (b :: bs) a w (by simpa using hn)) hf r hh
    · exact hh.elim
  | block id c ih =>
    intro p K Q fr h a w hg hp hf r hh
    simp only [goodCode] at hg
    simp only [ev] at hh
    refine wp_block (ih (false :: p) _ _ fr h a w hg (fun b bs a w hn => hp false (b :: bs) a w (by simpa using hn)) ?_ r hh)
    intro e fr' h' a' w' k r'
    cases e with
    | normal => exact hf .normal _ _ _ _ k r'
    | ret => exact hf .ret _ _ _ _ k r'
    | exit i =>
      simp only [blockK] at k
      show (if i = id then Q .normal a' w' else Q (.exit i) a' w')
      split at k
      · rename_i hb
        rw [if_pos (Nat.eq_of_beq_eq_true hb)]
        exact hf .normal _ _ _ _ k r'
      · rename_i hb
        rw [if_neg (Nat.ne_of_beq_eq_false hb)]
        exact hf (.exit i) _ _ _ _ k r'
  | loop c ih =>
    intro p K Q fr h a w hg hp hf r hh
    simp only [ev] at hh
    split at hh
    · rename_i l _
      have h1 := hX _ _ _ a w hh (r.proj l)
      rw [List.reverse_cons] at h1
      exact wp_of_loopwp (hp false [] a w h1)
    · exact hh.elim
  | exit id => exact fun p K Q fr h a w _ _ hf r hh => wp_exit (hf (.exit id) fr h a w hh r)
  | ret => exact fun p K Q fr h a w _ _ hf r hh => wp_ret (hf .ret fr h a w hh r)
  | _ => exact fun p K Q fr h a w _ _ hf r hh => hh.elim

theorem from_sound (hm : P.follows .mixedOrders = true) (hX : ∀ p fr h a w, X p fr h → Rel n w0 fr h a w → nav P p.reverse root Q0 a w) :
    ∀ (bs : List Bool) (c : Code) (p : List Bool) (K : Ex → Fr → Heap → Prop) (Q : Exit → Act → World → Prop) (fr : Fr) (h : Heap) (a : Act) (w : World), goodCode P T c = true →
      (∀ b bs a w, nav P (p.reverse ++ b :: bs) root Q0 a w → nav P (b :: bs) c Q a w) → Fits n w0 K Q → Rel n w0 fr h a w → evFrom P T n kp X bs c p fr h K → nav P bs c Q a w := by
  intro bs
  induction bs with
  | nil => exact fun c p K Q fr h a w hg hp hf r hh => ev_sound hm hX c p K Q fr h a w hg hp hf r hh
  | cons b bs ih =>
    intro c p K Q fr h a w hg hp hf r hh
    cases c with
    | seq x y =>
      simp only [goodCode, Bool.and_eq_true] at hg
      simp only [evFrom] at hh
      cases b with
      | true => exact ih y (true :: p) K Q fr h a w hg.2 (fun b bs a w hn => hp true (b :: bs) a w (by simpa using hn)) hf r hh
      | false =>
        refine ih x (false :: p) _ _ fr h a w hg.1 (fun b bs a w hn => hp false (b :: bs) a w (by simpa using hn)) ?_ r hh
        intro e fr' h' a' w' k r'
        cases e with
        | exit id => exact hf (.exit id) _ _ _ _ k r'
        | ret => exact hf .ret _ _ _ _ k r'
        | normal =>
          simp only [seqK] at k
          split at k
          · rename_i l _
            have h1 := hX _ _ _ a' w' k (r'.proj l)
            rw [List.reverse_cons] at h1
            exact hp true [] a' w' h1
          · exact ev_sound hm hX y (true :: p) K Q fr' h' a' w' hg.2 (fun b bs a w hn => hp true (b :: bs) a w (by simpa using hn)) hf r' k
    | cond c x y =>
      simp only [goodCode, Bool.and_eq_true] at hg
      simp only [evFrom] at hh
      cases b with
      | true => exact ih y (true :: p) K Q fr h a w hg.2 (fun b bs a w hn => hp true (b :: bs) a w (by simpa using hn)) hf r hh
      | false => exact ih x (false :: p) K Q fr h a w hg.1 (fun b bs a w hn => hp false (b :: bs) a w (by simpa using hn)) hf r hh
    | block id c =>
      simp only [goodCode] at hg
      simp only [evFrom] at hh
      cases b with
      | true => exact hh.elim
      | false =>
        refine ih c (false :: p) _ _ fr h a w hg (fun b bs a w hn => hp false (b :: bs) a w (by simpa using hn)) ?_ r hh
        intro e fr' h' a' w' k r'
        cases e with
        | normal => exact hf .normal _ _ _ _ k r'
        | ret => exact hf .ret _ _ _ _ k r'
        | exit i =>
          simp only [blockK] at k
          show (if i = id then Q .normal a' w' else Q (.exit i) a' w')
          split at k
          · rename_i hb
            rw [if_pos (Nat.eq_of_beq_eq_true hb)]
            exact hf .normal _ _ _ _ k r'
          · rename_i hb
            rw [if_neg (Nat.ne_of_beq_eq_false hb)]
            exact hf (.exit i) _ _ _ _ k r'
    | loop c =>
      simp only [goodCode] at hg
      simp only [evFrom] at hh
      cases b with
      | true => exact hh.elim
      | false =>
        have hfit : Fits n w0 (loopK kp X (false :: p) K) (Exit.then (loopwp P c Q) Q) := by
          intro e fr' h' a' w' k r'
          cases e with
          | exit id => exact hf (.exit id) _ _ _ _ k r'
          | ret => exact hf .ret _ _ _ _ k r'
          | normal =>
            simp only [loopK] at k
            split at k
            · rename_i l _
              have h1 := hX _ _ _ a' w' k (r'.proj l)
              rw [List.reverse_cons] at h1
              exact hp false [] a' w' h1
            · exact k.elim
        have hp' : ∀ b bs a w, nav P ((false :: p).reverse ++ b :: bs) root Q0 a w → nav P (b :: bs) c (Exit.then (loopwp P c Q) Q) a w := fun b bs a w hn => hp false (b :: bs) a w (by simpa using hn)
        have h1 := ih c (false :: p) _ _ fr h a w hg hp' hfit r hh
        cases bs with
        | nil => exact loopwp_of h1
        | cons b' bs' => exact h1
    | _ => exact hh.elim
end

/-! ### A function -/
def resL (fr : Fr) (h : Heap) (P : Program) (T : Tab) : List ResultVar → (List Value → Prop) → Prop
  | [], K => K []
  | .tmp t :: r, K => val (fr t) fun v => resL fr h P T r fun vs => K (v :: vs)
  | .cell a t :: r, K => match lay P t with
    | some (s, g) => match fr a with
      | some (.pointer p) => ptrOk p fun a => ∃ v, ldv g s h a = some v ∧ resL fr h P T r fun vs => K (v :: vs)
      | _ => False
    | none => False
def oneV : List Value → Value
  | [v] => v
  | vs => .tuple vs.toArray
def retK (P : Program) (T : Tab) (res : List ResultVar) (R : Value → Heap → Prop) : Ex → Fr → Heap → Prop := fun e fr h =>
  match e with
  | .normal => resL fr h P T res fun vs => R (oneV vs) h
  | .ret => resL fr h P T res fun vs => R (oneV vs) h
  | .exit _ => False

/-- What is asked of the machine behind the call. -/
def postQ (P : Program) (fn : Func) (R : Value → Heap → Prop) (w0 : World) : Exit → Act → World → Prop :=
  bodyPost P fn fun e w' => ∃ v, e = .returned v ∧ R v w'.heap ∧ Same w0 w'

def rootOf (fn : Func) : Code := match fn.body with | some c => c | none => .skip

/-- From a point of the function on, with this much of the frame known, all goes to R. -/
def Pt (P : Program) (fn : Func) (R : Value → Heap → Prop) (p : List Bool) (fr : Fr) (h : Heap) : Prop :=
  ∀ w0 a w, Rel fn.ntmps w0 fr h a w → nav P p.reverse (rootOf fn) (postQ P fn R w0) a w

/-- The forward reading from a point on. -/
def Fwd (P : Program) (T : Tab) (kp : Keep) (fn : Func) (R : Value → Heap → Prop) (p : List Bool) (fr : Fr) (h : Heap) : Prop :=
  evFrom P T fn.ntmps kp (Pt P fn R) p.reverse (rootOf fn) [] fr h (retK P T fn.results.toList R)

section
variable {P : Program} {T : Tab} {kp : Keep} {fn : Func} {R : Value → Heap → Prop}

theorem resL_hwp {fr : Fr} {h : Heap} {a : Act} (hv : ∀ t v, fr t = some v → a.tmps.getD t undef = v) : ∀ (l : List ResultVar) (K : List Value → Prop) (K' : List Value → Heap → Prop), resL fr h P T l K → (∀ vs, K vs → K' vs h) →
    Hwp P (l.mapM (m := Sem) fun | .tmp t => pure (a.tmps.getD t undef) | .cell x t => do loadVar t (← asAddr (a.tmps.getD x undef))) h K' := by
  intro l
  induction l with
  | nil => exact fun K K' hh hk => hwp_pure (P := P) (hk _ hh)
  | cons x l ih =>
    intro K K' hh hk
    rw [List.mapM_cons]
    cases x with
    | tmp t =>
      simp only [resL] at hh
      obtain ⟨v, hvt, hh⟩ := val_elim hh
      refine hwp_bind (hwp_pure (P := P) ?_)
      rw [hv t v hvt]
      exact hwp_bind (ih _ _ hh fun vs k => hwp_pure (P := P) (hk _ k))
    | cell x t =>
      simp only [resL] at hh
      split at hh
      · rename_i s g hl
        split at hh
        · rename_i p hp
          obtain ⟨b, rfl, v, hld, hh⟩ := ptrOk_elim hh
          refine hwp_bind ?_
          simp only [hv x _ hp]
          refine hwp_bind (hwp_pure (P := P) (v := b) (hwp_loadVar hl hld ?_))
          exact hwp_bind (ih _ _ hh fun vs k => hwp_pure (P := P) (hk _ k))
        · exact hh.elim
      · exact hh.elim

/-- A computation that leaves the world alone. -/
inductive Calm {α : Type} : Sem α → Prop
  | pure (a : α) : Calm (.pure a)
  | load (m : Mode) (a : Addr) (k : Value → Sem α) (h : ∀ v, Calm (k v)) : Calm (.load m a k)
  | program (k : Program → Sem α) (h : ∀ v, Calm (k v)) : Calm (.program k)
  | halt (x : Halt) : Calm (.halt x)
theorem Calm.run {α : Type} {s : Sem α} (c : Calm s) : ∀ {w w' : World} {v : α}, s.run P w = .ok v w' → w' = w := by
  induction c with
  | pure a => intro w w' v h; simp only [Sem.run, Result.ok.injEq] at h; exact h.2.symm
  | load m a k hk ih =>
    intro w w' v h
    simp only [Sem.run] at h
    split at h
    · exact ih _ h
    · split at h
      · exact ih _ h
      · cases h
  | program k hk ih => intro w w' v h; exact ih _ h
  | halt x => intro w w' v h; cases h
theorem Calm.bind {α β : Type} {s : Sem α} {f : α → Sem β} (c : Calm s) (hf : ∀ a, Calm (f a)) : Calm (s >>= f) := by
  induction c with
  | pure a => exact hf a
  | load m a k hk ih => exact .load m a _ ih
  | program k hk ih => exact .program _ ih
  | halt x => exact .halt x

theorem calm_typeInfo (t : TypeId) : Calm (typeInfo t) := .program _ fun p => by
  show Calm (match p.info? t with | some i => pure i | none => stuck "no such type")
  split
  · exact .pure _
  · exact .halt _
theorem calm_underlying (t : TypeId) : Calm (underlying t) := .program _ fun p => by
  show Calm (match p.underlying t with | some i => pure i | none => stuck "no such type")
  split
  · exact .pure _
  · exact .halt _
theorem calm_loadCellsFrom (a : Addr) : ∀ (n i : Nat) (acc : Array Value), Calm (loadCellsFrom a i n acc) := by
  intro n
  induction n with
  | zero => exact fun i acc => .pure _
  | succ n ih => exact fun i acc => Calm.bind (.load _ _ _ fun v => .pure v) fun v => ih _ _
theorem calm_loadVar (t : TypeId) (a : Addr) : Calm (loadVar t a) := by
  unfold loadVar isAgg
  refine Calm.bind (Calm.bind (calm_underlying t) fun d => ?_) fun b => ?_
  · split <;> exact .pure _
  · split
    · exact Calm.bind (Calm.bind (calm_typeInfo t) fun i => .pure _) fun n => Calm.bind (calm_loadCellsFrom a n 0 #[]) fun cs => .pure _
    · exact .load _ _ _ fun v => .pure v
theorem calm_asAddr (v : Value) : Calm (asAddr v) := by
  unfold asAddr
  split
  · exact .pure _
  · exact .program _ fun p => .halt _
  · exact .halt _
theorem calm_mapM {tmps : Array Value} : ∀ (l : List ResultVar), Calm (l.mapM (m := Sem) fun | .tmp t => pure (tmps.getD t undef) | .cell x t => do loadVar t (← asAddr (tmps.getD x undef))) := by
  intro l
  induction l with
  | nil => exact .pure _
  | cons x l ih =>
    rw [List.mapM_cons]
    refine Calm.bind ?_ fun v => Calm.bind ih fun vs => .pure _
    cases x with
    | tmp t => exact .pure _
    | cell x t => exact Calm.bind (calm_asAddr _) fun a => calm_loadVar t a

theorem results_ok {fr : Fr} {h : Heap} {w0 w : World} {a : Act} (r : Rel fn.ntmps w0 fr h a w) (hh : resL fr h P T fn.results.toList fun vs => R (oneV vs) h) :
    ∃ v, (results fn a.tmps).run P w = .ok v w ∧ R v h := by
  have hcalm : Calm (results fn a.tmps) := by
    unfold results
    rw [Array.mapM_eq_mapM_toList]
    exact Calm.bind (Calm.bind (calm_mapM _) fun vs => .pure _) fun vs => .pure _
  have hw : Hwp P (results fn a.tmps) w.heap fun v h' => R v h' := by
    rw [r.heap]
    unfold results
    rw [Array.mapM_eq_mapM_toList]
    refine hwp_bind (hwp_bind (resL_hwp (fun t v hv => (r.val t v hv).2) _ _ _ hh fun vs k => hwp_pure (P := P) (hwp_pure (P := P) ?_)))
    have e : (if h : vs.toArray.size = 1 then vs.toArray[0] else Value.tuple vs.toArray) = oneV vs := by
      cases vs with
      | nil => rfl
      | cons v vs => cases vs with
        | nil => rfl
        | cons u vs => simp [oneV]
    rw [e]; exact k
  obtain ⟨v, w', hrun, hk, _⟩ := Hwp.run _ w _ hw
  have := hcalm.run hrun
  subst this
  exact ⟨v, hrun, r.heap ▸ hk⟩

theorem pt_intro (hm : P.follows .mixedOrders = true) (hg : goodCode P T (rootOf fn) = true) {p : List Bool} {fr : Fr} {h : Heap} (hh : Fwd P T kp fn R p fr h) : Pt P fn R p fr h := by
  intro w0 a w r
  refine from_sound (X := Pt P fn R) (root := rootOf fn) (Q0 := postQ P fn R w0) (n := fn.ntmps) (w0 := w0) hm (fun p fr h a w hp r => hp w0 a w r) p.reverse (rootOf fn) [] _ _ fr h a w hg (fun b bs a w hn => hn) ?_ r hh
  intro e fr' h' a' w' k r'
  cases e with
  | exit id => exact k.elim
  | normal =>
    obtain ⟨v, h1, h2⟩ := results_ok r' k
    exact ⟨r'.defers, v, h1, v, rfl, r'.heap.symm ▸ h2, r'.same⟩
  | ret =>
    obtain ⟨v, h1, h2⟩ := results_ok r' k
    exact ⟨r'.defers, v, h1, v, rfl, r'.heap.symm ▸ h2, r'.same⟩

def argL : List Value → Nat → List (Nat × Value)
  | [], _ => []
  | v :: r, i => (i, v) :: argL r (i + 1)

theorem argL_look : ∀ (l : List Value) (i t : Nat) (v : Value), look (argL l i) t = some v → ∃ j, t = i + j ∧ l[j]? = some v := by
  intro l
  induction l with
  | nil => intro i t v h; cases h
  | cons x l ih =>
    intro i t v h
    simp only [argL, look] at h
    split at h
    · rename_i hb
      have := Nat.eq_of_beq_eq_true hb
      cases h
      exact ⟨0, by omega, rfl⟩
    · obtain ⟨j, h1, h2⟩ := ih _ _ _ h
      exact ⟨j + 1, by omega, h2⟩

theorem run_of {f : FuncId} {args : List Value} {h : Heap} (hm : P.follows .mixedOrders = true) (hf : P.funcs[f]? = some fn) (hb : fn.body.isSome = true) (hs : Nat.ble args.length fn.ntmps = true) (hg : goodCode P T (rootOf fn) = true)
    (hh : Fwd P T kp fn R [] (mkFr (argL args 0)) h) : Run P f args.toArray h R := by
  intro w hw
  obtain ⟨c, hc⟩ := Option.isSome_iff_exists.1 hb
  have hroot : rootOf fn = c := by unfold rootOf; rw [hc]
  have hsz := Nat.le_of_ble_eq_true hs
  refine calls_of_wp hf hc ?_
  have := pt_intro hm hg hh w { tmps := args.toArray ++ Array.replicate (fn.ntmps - args.toArray.size) undef, defers := [] } w ?_
  · rw [hroot] at this
    exact this
  · refine ⟨by simp; omega, fun t v ht => ?_, rfl, hw, Same.refl w⟩
    obtain ⟨j, h1, h2⟩ := argL_look _ _ _ _ ht
    have hj : j < args.length := (List.getElem?_eq_some_iff.1 h2).1
    have ht' : t = j := by omega
    subst ht'
    refine ⟨by omega, ?_⟩
    simp only [Array.getD_eq_getD_getElem?]
    rw [Array.getElem?_append_left (by simpa using hj)]
    simp [h2]
end
/-- A new block. -/
def newH (h : Heap) (o : Obj) (K : Heap → Prop) : Prop := K (h.push o)

end Go.Hw
