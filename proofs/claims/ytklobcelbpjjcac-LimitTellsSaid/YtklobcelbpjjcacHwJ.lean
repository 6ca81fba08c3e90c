/- The forward reading of a region that draws its order is sound, whatever the order (2). -/
import Derived.Test.YtklobcelbpjjcacHwI
namespace Go.Hw
open Go
section
variable {P : Program} {T : Tab} {n : Nat} {ops : Array Oper}

theorem valsOf_congr {ρ ρ' : Operand → Option Value} : ∀ (l : List Operand), (∀ x ∈ l, ρ x = ρ' x) → valsOf ρ l = valsOf ρ' l := by
  intro l
  induction l with
  | nil => exact fun _ => rfl
  | cons x l ih => intro hx; simp only [valsOf]; rw [hx x (by simp), ih fun y hy => hx y (by simp [hy])]
theorem partsOf_congr {ρ ρ' : Operand → Option Value} {place : Nat → Option (Nat × Nat × Bool)} : ∀ (l : List (Nat × Operand)), (∀ x ∈ l, ρ x.2 = ρ' x.2) → partsOf ρ place l = partsOf ρ' place l := by
  intro l
  induction l with
  | nil => exact fun _ => rfl
  | cons x l ih =>
    obtain ⟨i, x⟩ := x
    intro hx
    simp only [partsOf]
    rw [hx (i, x) (by simp), ih fun y hy => hx y (by simp [hy])]
theorem optV_congr {ρ ρ' : Operand → Option Value} (o : Option Operand) (hx : ∀ x, o = some x → ρ x = ρ' x) : optV ρ o = optV ρ' o := by
  cases o with
  | none => rfl
  | some x => simp only [optV]; rw [hx x rfl]

theorem opEv_congr {ρ ρ' : Operand → Option Value} {o : Oper} {h : Heap} {K : Option Value → Heap → Prop} (hρ : ∀ x ∈ o.op.operands, ρ x = ρ' x) : opEv P T ρ o h K = opEv P T ρ' o h K := by
  unfold opEv
  cases ho : o.op with
  | call c =>
    simp only [ho, Op.operands, Call.operands] at hρ ⊢
    have ha : valsOf ρ c.args.toList = valsOf ρ' c.args.toList := valsOf_congr _ fun x hx => hρ x (by simp at hx; simp [hx])
    cases hc : c.callee with
    | value f => simp only [hc] at hρ ⊢; rw [ha, hρ f (by simp)]
    | invoke r m => rfl
    | builtin b => simp only []; rw [ha]
  | build t parts =>
    simp only [ho, Op.operands] at hρ ⊢
    have hp : ∀ place, partsOf ρ place parts.toList = partsOf ρ' place parts.toList := fun place => partsOf_congr _ fun x hx => hρ x.2 (by simp at hx ⊢; exact ⟨x.1, hx⟩)
    simp only [hp]
  | buildSlice t len parts =>
    simp only [ho, Op.operands] at hρ ⊢
    have hp : ∀ place, partsOf ρ place parts.toList = partsOf ρ' place parts.toList := fun place => partsOf_congr _ fun x hx => hρ x.2 (by simp at hx ⊢; exact ⟨x.1, hx⟩)
    simp only [hp]
  | makeFunc fn first captured =>
    simp only [ho, Op.operands] at hρ ⊢
    rw [valsOf_congr first.toList fun x hx => hρ x (by simp at hx; simp [hx]), valsOf_congr captured.toList fun x hx => hρ x (by simp at hx; simp [hx])]
  | makeMap t r =>
    simp only [ho, Op.operands] at hρ ⊢
    rw [optV_congr r fun x hx => hρ x (by simp [hx])]
  | slice t x lo hi mx =>
    simp only [ho, Op.operands] at hρ ⊢
    rw [hρ x (by simp), optV_congr lo fun x hx => hρ x (by simp [hx]), optV_congr hi fun x hx => hρ x (by simp [hx]), optV_congr mx fun x hx => hρ x (by simp [hx])]
  | _ =>
    simp only [ho, Op.operands] at hρ ⊢
    try simp [hρ]

theorem upd_ne {fr : Fr} {d t : Nat} {v : Value} (h : t ≠ d) : upd fr d v t = fr t := by
  unfold upd
  split
  · rename_i ht; exact absurd (Nat.eq_of_beq_eq_true ht) h
  · rfl
theorem rmv_ne {fr : Fr} {d t : Nat} (h : t ≠ d) : rmv fr d t = fr t := upd_ne h
theorem putF_ne {fr : Fr} {dst : Option Nat} {ov : Option Value} {t : Nat} (h : ∀ d, dst = some d → t ≠ d) : putF fr dst ov t = fr t := by
  cases dst with
  | none => rfl
  | some d => cases ov with
    | none => exact rmv_ne (h d rfl)
    | some v => exact upd_ne (h d rfl)
theorem putF_at {fr : Fr} {d : Nat} {ov : Option Value} : putF fr (some d) ov d = some (ov.getD undef) := by
  cases ov <;> simp [putF, upd, rmv]
theorem putF_comm {fr : Fr} {d d' : Option Nat} {u v : Option Value} (h : ∀ x, d = some x → d' ≠ some x) : putF (putF fr d u) d' v = putF (putF fr d' v) d u := by
  funext t
  by_cases h1 : d = some t
  · have h2 : ∀ x, d' = some x → t ≠ x := fun x hx e => h t h1 (e ▸ hx)
    rw [putF_ne h2]
    subst h1
    rw [putF_at, putF_at]
  · have h1' : ∀ x, d = some x → t ≠ x := fun x hx e => h1 (e ▸ hx)
    rw [putF_ne (dst := d) h1']
    by_cases h2 : d' = some t
    · subst h2; rw [putF_at, putF_at]
    · have h2' : ∀ x, d' = some x → t ≠ x := fun x hx e => h2 (e ▸ hx)
      rw [putF_ne h2', putF_ne h2', putF_ne h1']

theorem putK_eq {fr : Fr} {dst : Option Nat} {ov : Option Value} {K : Fr → Prop} (hk : putK n fr dst ov K) : K (putF fr dst ov) := by
  unfold putK at hk
  unfold putF
  split at hk
  · exact hk
  · split at hk
    · split at hk <;> exact hk
    · exact hk.elim
theorem putK_mk {fr : Fr} {dst : Option Nat} {ov : Option Value} {K : Fr → Prop} (hd : ∀ d, dst = some d → Nat.blt d n = true) (hk : K (putF fr dst ov)) : putK n fr dst ov K := by
  unfold putK
  cases dst with
  | none => exact hk
  | some d =>
    simp only [hd d rfl]
    cases ov <;> exact hk
theorem putK_lt {fr : Fr} {dst : Option Nat} {ov : Option Value} {K : Fr → Prop} (hk : putK n fr dst ov K) : ∀ d, dst = some d → Nat.blt d n = true := by
  rintro d rfl
  unfold putK at hk
  simp only [] at hk
  split at hk
  · assumption
  · exact hk.elim

theorem opEv_mono {ρ : Operand → Option Value} {o : Oper} {h : Heap} {K K' : Option Value → Heap → Prop} (hk : ∀ v h, K v h → K' v h) (hh : opEv P T ρ o h K) : opEv P T ρ o h K' := by
  have dm : ∀ {t : Nat} {v : Value} {C C' : Value → Prop}, (∀ v, C v → C' v) → T.dec t v C → T.dec t v C' := fun hc hd => (Tab.dec_val hd).2 _ (hc _ (Tab.dec_val hd).1)
  have vm : ∀ {x : Option Value} {C C' : Value → Prop}, (∀ v, C v → C' v) → Hw.val x C → Hw.val x C' := fun hc hd => by
    obtain ⟨v, rfl, k⟩ := val_elim hd; exact hc _ k
  have pm : ∀ {x : Option Addr} {C C' : Addr → Prop}, (∀ v, C v → C' v) → ptrOk x C → ptrOk x C' := fun hc hd => by
    obtain ⟨v, rfl, k⟩ := ptrOk_elim hd; exact hc _ k
  have fm : ∀ (n : Nat) (l : List (Nat × Nat × Bool × Value)) (cells : List Value) {C C' : List Value → Prop}, (∀ v, C v → C' v) → fillEv n cells l C → fillEv n cells l C' := by
    intro n l
    induction l with
    | nil => exact fun cells C C' hc hd => hc _ hd
    | cons x l ih =>
      obtain ⟨off, s, g, v⟩ := x
      intro cells C C' hc hd
      simp only [fillEv] at hd ⊢
      split at hd
      · exact hd.elim
      · split at hd
        · split at hd
          · have h1 := (oneCell_elim hd)
            cases v <;> simp only [oneCell] at hd ⊢ <;> first | exact hd.elim | exact ih _ hc hd
          · exact hd.elim
        · obtain ⟨vs, h1, h2, h3⟩ := hd
          exact ⟨vs, h1, h2, ih _ hc h3⟩
  have gm : ∀ {s : Sem Value} {h : Heap} {C C' : Value → Heap → Prop}, (∀ v h, C v h → C' v h) → Gen P s h C → Gen P s h C' := fun hc hd => Hwp.mono _ hc hd
  have iv := fun {op : BinOp} {k : IntKind} {x y : Int} {C C' : Value → Prop} (hc : ∀ v, C v → C' v) (hd : intEv op k x y C) => (show intEv op k x y C' from let ⟨v, h1, h2⟩ := intEv_val hd; h2 _ (hc _ h1))
  have sv := fun {op : BinOp} {x y : ByteArray} {C C' : Value → Prop} (hc : ∀ v, C v → C' v) (hd : strEv op x y C) => (show strEv op x y C' from let ⟨v, h1, h2⟩ := strEv_val hd; h2 _ (hc _ h1))
  have nv := fun {op : BinOp} {b : Bool} {C C' : Value → Prop} (hc : ∀ v, C v → C' v) (hd : nilB op b C) => (show nilB op b C' from let ⟨v, h1, h2⟩ := nilB_val hd; h2 _ (hc _ h1))
  have bm := fun {op : BinOp} {v : Value} {C C' : Value → Prop} (hc : ∀ v, C v → C' v) (hd : genB op v C) => (show genB op v C' by
    unfold genB at hd ⊢
    split at hd
    · obtain ⟨b, h1, k⟩ := hd; exact ⟨b, h1, hc _ k⟩
    · obtain ⟨b, h1, k⟩ := hd; exact ⟨b, h1, hc _ k⟩
    · exact hc _ hd)
  unfold opEv at hh ⊢
  cases ho : o.op with
  | move x => simp only [ho] at hh ⊢; exact vm (fun _ k => hk _ _ k) hh
  | assign x => simp only [ho] at hh ⊢; exact vm (fun _ k => hk _ _ k) hh
  | pick c a b =>
    simp only [ho] at hh ⊢
    split at hh
    · rename_i t _
      cases t <;> simp only [splitB] at hh ⊢ <;> exact vm (fun _ k => hk _ _ k) hh
    · exact hh.elim
  | binOp op t x y yt =>
    simp only [ho] at hh ⊢
    refine vm (fun a hh => vm (fun b hh => ?_) hh) hh
    unfold binEv at hh ⊢
    split at hh
    · split at hh
      · cases op <;> simp only [] at hh ⊢
        all_goals first
          | exact iv (fun _ k => hk _ _ k) hh
          | (split at hh
             · exact iv (fun _ k => hk _ _ k) hh
             · exact hh.elim)
      · exact hh.elim
    · split at hh
      · exact sv (fun _ k => hk _ _ k) hh
      · exact hh.elim
    · repeat' (split at hh)
      all_goals first | exact hh.elim | exact nv (fun _ k => hk _ _ k) hh
    · repeat' (split at hh)
      all_goals first | exact hh.elim | exact nv (fun _ k => hk _ _ k) hh | exact gm (fun _ _ k => bm (fun _ k => hk _ _ k) k) hh
    · repeat' (split at hh)
      all_goals first | exact hh.elim | exact nv (fun _ k => hk _ _ k) hh
    · exact gm (fun _ _ k => bm (fun _ k => hk _ _ k) k) hh
  | call c =>
    simp only [ho] at hh ⊢
    split at hh
    · split at hh
      · unfold builtEv at hh ⊢
        split at hh
        · repeat' (split at hh)
          all_goals first | exact hh.elim | exact hk _ _ hh | exact gm (fun _ _ k => dm (fun _ k => hk _ _ k) k) hh
        · repeat' (split at hh)
          all_goals first | exact hh.elim | exact hk _ _ hh
        · repeat' (split at hh)
          all_goals first | exact hh.elim | skip
          · obtain ⟨kx, m, e, hm1, hm2, hh⟩ := hh
            refine ⟨kx, m, e, hm1, hm2, ?_⟩
            rcases hh with ⟨h1, h2 | ⟨a, h', h2, h3, h4⟩⟩ | ⟨h1, h2, h3, h6, old, h4, h5⟩
            · exact .inl ⟨h1, .inl ⟨h2.1, dm (fun _ k => hk _ _ k) h2.2⟩⟩
            · exact .inl ⟨h1, .inr ⟨a, h', h2, h3, dm (fun _ k => hk _ _ k) h4⟩⟩
            · exact .inr ⟨h1, h2, h3, h6, old, h4, fun c' hc' => dm (fun _ k => hk _ _ k) (h5 c' hc')⟩
          obtain ⟨m, xs, hs, hh⟩ := hh
          refine ⟨m, xs, hs, ?_⟩
          rcases hh with ⟨h1, h2 | ⟨a, h', h2, h3, h4⟩⟩ | ⟨h1, h2, h3, old, h4, h5⟩
          · exact .inl ⟨h1, .inl ⟨h2.1, dm (fun _ k => hk _ _ k) h2.2⟩⟩
          · exact .inl ⟨h1, .inr ⟨a, h', h2, h3, dm (fun _ k => hk _ _ k) h4⟩⟩
          · exact .inr ⟨h1, h2, h3, old, h4, fun c' hc' => dm (fun _ k => hk _ _ k) (h5 c' hc')⟩
        · repeat' (split at hh)
          all_goals first | exact hh.elim | skip
          · obtain ⟨v, k, hv⟩ := minV_val hh; exact hv _ (hk _ _ k)
          · obtain ⟨v, hh, hv⟩ := minV_val hh; obtain ⟨u, k, hu⟩ := minV_val hh; exact hv _ (hu _ (hk _ _ k))
          · obtain ⟨v, hh, hv⟩ := minV_val hh; obtain ⟨u, hh, hu⟩ := minV_val hh; obtain ⟨q, k, hq⟩ := minV_val hh; exact hv _ (hu _ (hq _ (hk _ _ k)))
        · repeat' (split at hh)
          all_goals first | exact hh.elim | skip
          · obtain ⟨v, k, hv⟩ := maxV_val hh; exact hv _ (hk _ _ k)
          · obtain ⟨v, hh, hv⟩ := maxV_val hh; obtain ⟨u, k, hu⟩ := maxV_val hh; exact hv _ (hu _ (hk _ _ k))
          · obtain ⟨v, hh, hv⟩ := maxV_val hh; obtain ⟨u, hh, hu⟩ := maxV_val hh; obtain ⟨q, k, hq⟩ := maxV_val hh; exact hv _ (hu _ (hq _ (hk _ _ k)))
        all_goals first | exact hh.elim | exact gm (fun _ _ k => dm (fun _ k => hk _ _ k) k) hh
      · exact hh.elim
    · refine vm (fun f hh => ?_) hh
      split at hh
      · unfold CallF at hh ⊢
        split at hh
        · split at hh
          · exact hh.mono fun _ _ k => dm (fun _ k => hk _ _ k) k
          · exact ExtF.mono hh fun _ _ k => dm (fun _ k => hk _ _ k) k
        · exact hh.elim
      · exact hh.elim
    · exact hh.elim
  | slice t x lo hi mx =>
    simp only [ho] at hh ⊢
    refine vm (fun a hh => ?_) hh
    repeat' (split at hh)
    all_goals first | exact hh.elim | skip
    obtain ⟨v, k, hv⟩ := sliceEv_val hh
    exact hv _ _ (hk _ _ k)
  | nilCheck x =>
    simp only [ho] at hh ⊢
    split at hh
    · exact pm (fun _ k => hk _ _ k) hh
    all_goals first | exact hh.elim | exact hk _ _ hh
  | unOp op t x =>
    simp only [ho] at hh ⊢
    split at hh
    all_goals first | exact hh.elim | exact hk _ _ hh
  | load t x =>
    simp only [ho] at hh ⊢
    repeat' (split at hh)
    all_goals first | exact hh.elim | skip
    obtain ⟨a, rfl, v, h1, k⟩ := ptrOk_elim hh
    exact ⟨v, h1, dm (fun _ k => hk _ _ k) k⟩
  | store t x y =>
    simp only [ho] at hh ⊢
    split at hh
    · split at hh
      · obtain ⟨v, hv, hh⟩ := val_elim hh
        obtain ⟨a, rfl, hh⟩ := ptrOk_elim hh
        rw [hv]
        simp only [Hw.val, ptrOk]
        split at hh
        · obtain ⟨vs, h1, h2, h', h3, k⟩ := hh
          exact ⟨vs, h1, h2, h', h3, hk _ _ k⟩
        · split at hh
          · obtain ⟨h', h3, k⟩ := hh
            exact ⟨h', h3, hk _ _ k⟩
          · exact hh.elim
      · exact hh.elim
    · exact hh.elim
  | fieldAddr t x f =>
    simp only [ho] at hh ⊢
    repeat' (split at hh)
    all_goals first | exact hh.elim | skip
    exact pm (fun _ k => hk _ _ k) hh
  | field t x f =>
    simp only [ho] at hh ⊢
    repeat' (split at hh)
    all_goals first | exact hh.elim | skip
    obtain ⟨v, hv, u, h1, k⟩ := val_elim hh
    rw [hv]
    exact ⟨u, h1, dm (fun _ k => hk _ _ k) k⟩
  | indexAddr t x i =>
    simp only [ho] at hh ⊢
    repeat' (split at hh)
    all_goals first | exact hh.elim | skip
    all_goals
      obtain ⟨a, rfl, h1, h2, k⟩ := ptrOk_elim hh
      exact ⟨h1, h2, hk _ _ k⟩
  | index t x i =>
    simp only [ho] at hh ⊢
    repeat' (split at hh)
    all_goals first | exact hh.elim | skip
    · obtain ⟨h1, b, h2, k⟩ := hh
      exact ⟨h1, b, h2, hk _ _ k⟩
    · obtain ⟨v, hv, h1, h2, u, h3, k⟩ := val_elim hh
      rw [hv]
      exact ⟨h1, h2, u, h3, dm (fun _ k => hk _ _ k) k⟩
  | lookup t x i ok =>
    simp only [ho] at hh ⊢
    obtain ⟨a, ha, hh⟩ := val_elim hh
    obtain ⟨b, hb, hh⟩ := val_elim hh
    rw [ha, hb]
    exact gm (fun _ _ k => dm (fun _ k => hk _ _ k) k) hh
  | mapUpdate t m k x =>
    simp only [ho] at hh ⊢
    obtain ⟨a, ha, hh⟩ := val_elim hh
    obtain ⟨b, hb, hh⟩ := val_elim hh
    obtain ⟨c, hc, hh⟩ := val_elim hh
    rw [ha, hb, hc]
    exact Hwp.mono _ (fun _ _ k => hk _ _ k) hh
  | insert t m k x =>
    simp only [ho] at hh ⊢
    obtain ⟨a, ha, hh⟩ := val_elim hh
    obtain ⟨b, hb, hh⟩ := val_elim hh
    obtain ⟨c, hc, hh⟩ := val_elim hh
    rw [ha, hb, hc]
    exact Hwp.mono _ (fun _ _ k => hk _ _ k) hh
  | next x s =>
    simp only [ho] at hh ⊢
    exact vm (fun _ k => gm (fun _ _ k => dm (fun _ k => hk _ _ k) k) k) hh
  | convert src dst x =>
    simp only [ho] at hh ⊢
    split at hh
    · repeat' (split at hh)
      all_goals first | exact hh.elim | exact hk _ _ hh
    · split at hh
      · exact hk _ _ hh
      · exact hh.elim
    · exact vm (fun _ k => gm (fun _ _ k => dm (fun _ k => hk _ _ k) k) k) hh
    · exact hh.elim
  | makeSlice t l c =>
    simp only [ho] at hh ⊢
    repeat' (split at hh)
    all_goals first | exact hh.elim | skip
    obtain ⟨h1, h2, h3, h4, k⟩ := hh
    exact ⟨h1, h2, h3, h4, hk _ _ k⟩
  | _ =>
    simp only [ho] at hh ⊢
    first
      | exact hh
      | (repeat' (split at hh)
         all_goals first
           | exact hh.elim
           | exact hk _ _ hh
           | exact vm (fun _ k => hk _ _ k) hh
           | exact fm _ _ _ (fun _ k => hk _ _ k) hh
           | exact vm (fun _ k => gm (fun _ _ k => hk _ _ k) k) hh
           | exact gm (fun _ _ k => hk _ _ k) hh)
end
end Go.Hw
