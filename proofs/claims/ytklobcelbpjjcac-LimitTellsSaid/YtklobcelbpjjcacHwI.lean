/- The forward reading of a region that draws its order is sound, whatever the order. -/
import Derived.Test.YtklobcelbpjjcacHwH
namespace Go.Hw
open Go

theorem Ext.refl (h : Heap) : Ext h h := ⟨Nat.le_refl _, fun _ _ => rfl⟩
theorem Ext.trans {a b c : Heap} (h : Ext a b) (k : Ext b c) : Ext a c :=
  ⟨Nat.le_trans h.1 k.1, fun i hi => (k.2 i (Nat.lt_of_lt_of_le hi h.1)).trans (h.2 i hi)⟩

theorem Ext.cell {h h' : Heap} (e : Ext h h') {a : Addr} {v : Value} (hc : cellH h a = some v) : cellH h' a = some v := by
  have hb : a.block < h.size := by
    unfold cellH at hc
    rcases Nat.lt_or_ge a.block h.size with hlt | hge
    · exact hlt
    · rw [Array.getElem?_eq_none hge] at hc; cases hc
  unfold cellH at hc ⊢
  rw [e.2 _ hb]; exact hc
theorem Ext.cells {h h' : Heap} (e : Ext h h') {a : Addr} : ∀ (n i : Nat) {vs : List Value}, cellsH h a i n = some vs → cellsH h' a i n = some vs := by
  intro n
  induction n with
  | zero => exact fun i vs hc => hc
  | succ n ih =>
    intro i vs hc
    simp only [cellsH] at hc ⊢
    split at hc
    · rename_i v hv
      split at hc
      · rename_i ws hw
        rw [e.cell hv, ih _ hw]
        exact hc
      · cases hc
    · cases hc
theorem Ext.ldv {h h' : Heap} (e : Ext h h') {g : Bool} {n : Nat} {a : Addr} {v : Value} (hc : ldv g n h a = some v) : Hw.ldv g n h' a = some v := by
  cases g with
  | true =>
    simp only [Hw.ldv, Option.map_eq_some_iff] at hc ⊢
    obtain ⟨vs, h1, h2⟩ := hc
    exact ⟨vs, e.cells _ _ h1, h2⟩
  | false => exact e.cell hc

section
variable {P : Program} {T : Tab} {n : Nat} {ops : Array Oper}

theorem Sh.dec_val {s : Sh} {v : Value} {K : Value → Prop} (hh : s.dec v K) : K v ∧ ∀ K' : Value → Prop, K' v → s.dec v K' := by
  cases s <;> simp only [Sh.dec] at hh ⊢
  · obtain ⟨x, rfl, k⟩ := hh; exact ⟨k, fun K' k' => ⟨_, rfl, k'⟩⟩
  · obtain ⟨x, rfl, k⟩ := hh; exact ⟨k, fun K' k' => ⟨_, rfl, k'⟩⟩
  · obtain ⟨x, rfl, k⟩ := hh; exact ⟨k, fun K' k' => ⟨_, rfl, k'⟩⟩
  · obtain ⟨x, y, z, rfl, k⟩ := hh; exact ⟨k, fun K' k' => ⟨_, _, _, rfl, k'⟩⟩
  · obtain ⟨x, rfl, k⟩ := hh; exact ⟨k, fun K' k' => ⟨_, rfl, k'⟩⟩
  · exact ⟨hh, fun K' k' => k'⟩
theorem decs_val (ss : List Sh) : ∀ {K : List Value → Prop}, decs ss K → ∃ vs, K vs ∧ ∀ K' : List Value → Prop, K' vs → decs ss K' := by
  induction ss with
  | nil => exact fun h => ⟨_, h, fun K' k => k⟩
  | cons s ss ih =>
    intro K hh
    cases s <;> simp only [decs] at hh ⊢
    · obtain ⟨x, k⟩ := hh; obtain ⟨vs, k1, k2⟩ := ih k; exact ⟨_, k1, fun K' k' => ⟨_, k2 _ k'⟩⟩
    · obtain ⟨x, k⟩ := hh; obtain ⟨vs, k1, k2⟩ := ih k; exact ⟨_, k1, fun K' k' => ⟨_, k2 _ k'⟩⟩
    · obtain ⟨x, k⟩ := hh; obtain ⟨vs, k1, k2⟩ := ih k; exact ⟨_, k1, fun K' k' => ⟨_, k2 _ k'⟩⟩
    · obtain ⟨x, y, z, k⟩ := hh; obtain ⟨vs, k1, k2⟩ := ih k; exact ⟨_, k1, fun K' k' => ⟨_, _, _, k2 _ k'⟩⟩
    · obtain ⟨x, k⟩ := hh; obtain ⟨vs, k1, k2⟩ := ih k; exact ⟨_, k1, fun K' k' => ⟨_, k2 _ k'⟩⟩
    · obtain ⟨x, k⟩ := hh; obtain ⟨vs, k1, k2⟩ := ih k; exact ⟨_, k1, fun K' k' => ⟨_, k2 _ k'⟩⟩
theorem Tab.dec_val {t : Nat} {v : Value} {K : Value → Prop} (hh : T.dec t v K) : K v ∧ ∀ K' : Value → Prop, K' v → T.dec t v K' := by
  unfold Tab.dec at hh ⊢
  split at hh
  · exact Sh.dec_val hh
  · split at hh
    · obtain ⟨vs, ⟨hv, k1⟩, k2⟩ := decs_val _ hh
      exact ⟨hv ▸ k1, fun K' k' => k2 _ ⟨hv, hv ▸ k'⟩⟩
    · exact ⟨hh, fun K' k' => k'⟩

/-- An operation that yields one value, and touches nothing; 'E': in which heaps. -/
def Yld (P : Program) (T : Tab) (E : Heap → Heap → Prop) (ρ : Operand → Option Value) (o : Oper) (h : Heap) (v : Value) : Prop :=
  ∀ h', E h h' → ∀ K' : Option Value → Heap → Prop, K' (some v) h' → opEv P T ρ o h' K'

/-- 0: it looks at no memory; 1: it reads; 2: neither is known. -/
def cls (P : Program) (T : Tab) (o : Oper) : Nat :=
  match o.op with
  | .move _ | .assign _ | .fieldAddr .. | .field .. | .indexAddr .. | .index .. | .extract .. | .makeFunc .. | .unOp .. | .nilCheck _ | .pick .. | .slice .. => 0
  | .load .. => 1
  | .binOp _ t _ y _ => match look T.sh t with
    | some (.int _) | some .str | some .bool => 0
    | some .ptr => match y with | .const (.pointer none) => 0 | _ => 2
    | some .slice => 0
    | _ => 2
  | .convert src dst _ => match P.underlying src, P.underlying dst with
    | some (.int _), some (.int _) => 0
    | some .string, some .string => 0
    | _, _ => 2
  | .call c => match c.callee with
    | .builtin .len => match c.argTypes[0]? with
      | some t => match P.underlying t with
        | some (.slice _) | some .string | some (.array _ _) => 0
        | _ => 2
      | none => 2
    | .builtin .cap | .builtin .min | .builtin .max => 0
    | _ => 2
  | _ => 2

theorem intEv_val {op : BinOp} {k : IntKind} {x y : Int} {K : Value → Prop} (hh : intEv op k x y K) : ∃ v, K v ∧ ∀ K' : Value → Prop, K' v → intEv op k x y K' := by
  cases op <;> simp only [intEv] at hh ⊢ <;> first | exact ⟨_, hh, fun K' k => k⟩ | exact ⟨_, hh.2, fun K' k => ⟨hh.1, k⟩⟩
theorem strEv_val {op : BinOp} {x y : ByteArray} {K : Value → Prop} (hh : strEv op x y K) : ∃ v, K v ∧ ∀ K' : Value → Prop, K' v → strEv op x y K' := by
  cases op <;> simp only [strEv] at hh ⊢ <;> first | exact hh.elim | exact ⟨_, hh, fun K' k => k⟩ | exact ⟨_, hh.2, fun K' k => ⟨hh.1, k⟩⟩
theorem nilB_val {op : BinOp} {b : Bool} {K : Value → Prop} (hh : nilB op b K) : ∃ v, K v ∧ ∀ K' : Value → Prop, K' v → nilB op b K' := by
  cases op <;> simp only [nilB] at hh ⊢ <;> first | exact hh.elim | exact ⟨_, hh, fun K' k => k⟩
theorem minV_val {x y : Value} {K : Value → Prop} (hh : minV x y K) : ∃ v, K v ∧ ∀ K' : Value → Prop, K' v → minV x y K' := by
  unfold minV at hh ⊢
  split at hh
  · exact ⟨_, hh, fun K' k => k⟩
  · exact hh.elim
theorem maxV_val {x y : Value} {K : Value → Prop} (hh : maxV x y K) : ∃ v, K v ∧ ∀ K' : Value → Prop, K' v → maxV x y K' := by
  unfold maxV at hh ⊢
  split at hh
  · exact ⟨_, hh, fun K' k => k⟩
  · exact hh.elim
theorem bndEv_val {x : Option Value} {d : Nat} {K : Int → Prop} (hh : bndEv x d K) : ∃ i, K i ∧ ∀ K' : Int → Prop, K' i → bndEv x d K' := by
  unfold bndEv at hh ⊢
  split at hh
  · exact ⟨_, hh, fun K' k => k⟩
  · exact hh.elim
  · exact ⟨_, hh, fun K' k => k⟩
theorem ptrOk_val {p : Option Addr} {K : Addr → Prop} (hh : ptrOk p K) : ∃ i, K i ∧ ∀ K' : Addr → Prop, K' i → ptrOk p K' := by
  obtain ⟨a, rfl, k⟩ := ptrOk_elim hh
  exact ⟨a, k, fun K' k => k⟩

theorem sliceEv_val {t : TypeId} {x : Value} {lo hi mx : Option Value} {h : Heap} {K : Value → Heap → Prop} (hh : sliceEv P t x lo hi mx h K) :
    ∃ v, K v h ∧ ∀ (h' : Heap) (K' : Value → Heap → Prop), K' v h' → sliceEv P t x lo hi mx h' K' := by
  unfold sliceEv at hh ⊢
  split at hh
  · split at hh
    · split at hh
      · obtain ⟨e, hh, he⟩ := bndEv_val hh
        obtain ⟨b, ⟨h1, h2, h3, hk⟩, hb⟩ := bndEv_val hh
        exact ⟨_, hk, fun h' K' k => he _ (hb _ ⟨h1, h2, h3, k⟩)⟩
      · exact hh.elim
    · exact hh.elim
  · split at hh
    · split at hh
      · split at hh
        · obtain ⟨e, hh, he⟩ := bndEv_val hh
          obtain ⟨b, ⟨h1, h2, h3, hk⟩, hb⟩ := bndEv_val hh
          exact ⟨_, hk, fun h' K' k => he _ (hb _ ⟨h1, h2, h3, k⟩)⟩
        · split at hh
          · exact hh.elim
          · obtain ⟨m, hh, hm⟩ := bndEv_val hh
            obtain ⟨e, hh, he⟩ := bndEv_val hh
            obtain ⟨b, ⟨h1, h2, h3, h4, hk⟩, hb⟩ := bndEv_val hh
            exact ⟨_, hk, fun h' K' k => hm _ (he _ (hb _ ⟨h1, h2, h3, h4, k⟩))⟩
      · exact hh.elim
    · exact hh.elim
  · split at hh
    · split at hh
      · obtain ⟨a, hh, ha⟩ := ptrOk_val hh
        split at hh
        · obtain ⟨e, hh, he⟩ := bndEv_val hh
          obtain ⟨b, ⟨h1, h2, h3, hk⟩, hb⟩ := bndEv_val hh
          exact ⟨_, hk, fun h' K' k => ha _ (he _ (hb _ ⟨h1, h2, h3, k⟩))⟩
        · exact hh.elim
      · exact hh.elim
    · exact hh.elim
  · exact hh.elim

theorem cls_val {ρ : Operand → Option Value} (hρ : ∀ v, ρ (.const v) = some v) {o : Oper} {h : Heap} {K : Option Value → Heap → Prop} (hh : opEv P T ρ o h K) :
    (cls P T o = 0 → ∃ v, K (some v) h ∧ Yld P T (fun _ _ => True) ρ o h v) ∧ (cls P T o = 1 → ∃ v, K (some v) h ∧ Yld P T Ext ρ o h v) := by
  unfold opEv at hh
  unfold cls Yld opEv
  refine ⟨fun hc => ?_, fun hc => ?_⟩
  · cases ho : o.op with
    | move x => simp only [ho] at hh hc ⊢; obtain ⟨v, hv, hk⟩ := val_elim hh; exact ⟨v, hk, fun h' _ K' k => by rw [hv]; exact k⟩
    | assign x => simp only [ho] at hh hc ⊢; obtain ⟨v, hv, hk⟩ := val_elim hh; exact ⟨v, hk, fun h' _ K' k => by rw [hv]; exact k⟩
    | pick c a b =>
      simp only [ho] at hh hc ⊢
      split at hh
      · rename_i t hc
        cases t <;> simp only [splitB] at hh ⊢ <;> obtain ⟨v, hv, hk⟩ := val_elim hh <;> exact ⟨v, hk, fun h' _ K' k => by rw [hv]; exact k⟩
      · exact hh.elim
    | fieldAddr t x f =>
      simp only [ho] at hh hc ⊢
      repeat' (split at hh)
      all_goals first | exact hh.elim | skip
      obtain ⟨a, hk, ha⟩ := ptrOk_val hh
      exact ⟨_, hk, fun h' _ K' k => ha _ k⟩
    | field t x f =>
      simp only [ho] at hh hc ⊢
      repeat' (split at hh)
      all_goals first | exact hh.elim | skip
      obtain ⟨v, hv, u, hu, hk⟩ := val_elim hh
      exact ⟨u, (Tab.dec_val hk).1, fun h' _ K' k => by rw [hv]; exact ⟨u, hu, (Tab.dec_val hk).2 _ k⟩⟩
    | indexAddr t x i =>
      simp only [ho] at hh hc ⊢
      repeat' (split at hh)
      all_goals first | exact hh.elim | skip
      all_goals
        obtain ⟨a, ⟨h1, h2, hk⟩, ha⟩ := ptrOk_val hh
        exact ⟨_, hk, fun h' _ K' k => ha _ ⟨h1, h2, k⟩⟩
    | index t x i =>
      simp only [ho] at hh hc ⊢
      repeat' (split at hh)
      all_goals first | exact hh.elim | skip
      · obtain ⟨h1, b, hb, hk⟩ := hh
        exact ⟨_, hk, fun h' _ K' k => ⟨h1, b, hb, k⟩⟩
      · obtain ⟨v, hv, h1, h2, u, hu, hk⟩ := val_elim hh
        exact ⟨u, (Tab.dec_val hk).1, fun h' _ K' k => by rw [hv]; exact ⟨h1, h2, u, hu, (Tab.dec_val hk).2 _ k⟩⟩
    | extract x i =>
      simp only [ho] at hh hc ⊢
      repeat' (split at hh)
      all_goals first | exact hh.elim | skip
      exact ⟨_, hh, fun h' _ K' k => k⟩
    | makeFunc fn first captured =>
      simp only [ho] at hh hc ⊢
      repeat' (split at hh)
      all_goals first | exact hh.elim | skip
      exact ⟨_, hh, fun h' _ K' k => k⟩
    | unOp op t x =>
      simp only [ho] at hh hc ⊢
      split at hh
      all_goals first | exact hh.elim | exact ⟨_, hh, fun h' _ K' k => k⟩
    | nilCheck x =>
      simp only [ho] at hh hc ⊢
      split at hh
      · obtain ⟨a, hk, ha⟩ := ptrOk_val hh
        exact ⟨_, hk, fun h' _ K' k => ha _ k⟩
      all_goals first | exact hh.elim | exact ⟨_, hh, fun h' _ K' k => k⟩
    | slice t x lo hi mx =>
      simp only [ho] at hh hc ⊢
      obtain ⟨v, hv, hh⟩ := val_elim hh
      repeat' (split at hh)
      all_goals first | exact hh.elim | skip
      obtain ⟨u, hk, hs⟩ := sliceEv_val hh
      exact ⟨u, hk, fun h' _ K' k => by rw [hv]; exact hs h' (fun v h' => K' (some v) h') k⟩
    | binOp op t x y yt =>
      simp only [ho] at hh hc ⊢
      obtain ⟨a, ha, hh⟩ := val_elim hh
      obtain ⟨b, hb, hh⟩ := val_elim hh
      rw [ha, hb]
      simp only [Hw.val]
      unfold binEv at hh ⊢
      split at hh
      · split at hh
        · cases op <;> simp only [] at hh ⊢
          all_goals first
            | (obtain ⟨v, hk, hv⟩ := intEv_val hh; exact ⟨v, hk, fun h' _ K' k => hv _ k⟩)
            | (split at hh
               · obtain ⟨v, hk, hv⟩ := intEv_val hh; exact ⟨v, hk, fun h' _ K' k => hv _ k⟩
               · exact hh.elim)
        · exact hh.elim
      · split at hh
        · obtain ⟨v, hk, hv⟩ := strEv_val hh; exact ⟨v, hk, fun h' _ K' k => hv _ k⟩
        · exact hh.elim
      · repeat' (split at hh)
        all_goals first | exact hh.elim | skip
        obtain ⟨v, hk, hv⟩ := nilB_val hh; exact ⟨v, hk, fun h' _ K' k => hv _ k⟩
      · rename_i hs
        simp only [hs] at hc
        split at hc
        · repeat' (split at hh)
          all_goals first | exact hh.elim | skip
          · obtain ⟨v, hk, hv⟩ := nilB_val hh; exact ⟨v, hk, fun h' _ K' k => hv _ k⟩
          · rw [hρ] at hb; cases hb
        · cases hc
      · repeat' (split at hh)
        all_goals first | exact hh.elim | skip
        obtain ⟨v, hk, hv⟩ := nilB_val hh; exact ⟨v, hk, fun h' _ K' k => hv _ k⟩
      · rename_i n1 n2 n3 n4 n5
        split at hc
        · rename_i hl; exact absurd hl (n1 _)
        · rename_i hl; exact absurd hl n2
        · rename_i hl; exact absurd hl n3
        · rename_i hl; exact absurd hl n4
        · rename_i hl; exact absurd hl n5
        · cases hc
    | convert src dst x =>
      simp only [ho] at hh hc ⊢
      split at hc
      · rename_i k k' h1 h2
        simp only [h1, h2] at hh ⊢
        split at hh
        · exact ⟨_, hh, fun h' _ K' k => k⟩
        · exact hh.elim
      · rename_i h1 h2
        simp only [h1, h2] at hh ⊢
        split at hh
        · exact ⟨_, hh, fun h' _ K' k => k⟩
        · exact hh.elim
      · cases hc
    | call c =>
      simp only [ho] at hh hc ⊢
      split at hc
      · rename_i hb
        simp only [hb] at hh ⊢
        split at hh
        · rename_i vs hvs
          unfold builtEv at hh ⊢
          split at hc
          · rename_i t ht
            simp only [ht] at hh ⊢
            split at hc
            · rename_i e hu
              simp only [hu] at hh ⊢
              split at hh
              · exact ⟨_, hh, fun h' _ K' k => k⟩
              · exact hh.elim
            · rename_i hu
              simp only [hu] at hh ⊢
              split at hh
              · exact ⟨_, hh, fun h' _ K' k => k⟩
              · exact hh.elim
            · rename_i e1 e2 hu
              simp only [hu] at hh ⊢
              split at hh
              · exact ⟨_, hh, fun h' _ K' k => k⟩
              · exact hh.elim
            · cases hc
          · cases hc
        · exact hh.elim
      · rename_i hb
        simp only [hb] at hh ⊢
        split at hh
        · unfold builtEv at hh ⊢
          simp only [] at hh ⊢
          repeat' (split at hh)
          all_goals first | exact hh.elim | exact ⟨_, hh, fun h' _ K' k => k⟩
        · exact hh.elim
      · rename_i hb
        simp only [hb] at hh ⊢
        split at hh
        · unfold builtEv at hh ⊢
          simp only [] at hh ⊢
          split at hh
          · obtain ⟨v, hk, hv⟩ := minV_val hh; exact ⟨v, hk, fun h' _ K' k => hv _ k⟩
          · obtain ⟨v, hh, hv⟩ := minV_val hh; obtain ⟨u, hk, hu⟩ := minV_val hh; exact ⟨u, hk, fun h' _ K' k => hv _ (hu _ k)⟩
          · obtain ⟨v, hh, hv⟩ := minV_val hh; obtain ⟨u, hh, hu⟩ := minV_val hh; obtain ⟨q, hk, hq⟩ := minV_val hh; exact ⟨q, hk, fun h' _ K' k => hv _ (hu _ (hq _ k))⟩
          · exact hh.elim
        · exact hh.elim
      · rename_i hb
        simp only [hb] at hh ⊢
        split at hh
        · unfold builtEv at hh ⊢
          simp only [] at hh ⊢
          split at hh
          · obtain ⟨v, hk, hv⟩ := maxV_val hh; exact ⟨v, hk, fun h' _ K' k => hv _ k⟩
          · obtain ⟨v, hh, hv⟩ := maxV_val hh; obtain ⟨u, hk, hu⟩ := maxV_val hh; exact ⟨u, hk, fun h' _ K' k => hv _ (hu _ k)⟩
          · obtain ⟨v, hh, hv⟩ := maxV_val hh; obtain ⟨u, hh, hu⟩ := maxV_val hh; obtain ⟨q, hk, hq⟩ := maxV_val hh; exact ⟨q, hk, fun h' _ K' k => hv _ (hu _ (hq _ k))⟩
          · exact hh.elim
        · exact hh.elim
      · cases hc
    | _ => simp only [ho] at hc; cases hc
  · cases ho : o.op with
    | load t x =>
      simp only [ho] at hh hc ⊢
      repeat' (split at hh)
      all_goals first | exact hh.elim | skip
      obtain ⟨a, ⟨v, hv, hk⟩, ha⟩ := ptrOk_val hh
      exact ⟨v, (Tab.dec_val hk).1, fun h' e K' k => ha _ ⟨v, e.ldv hv, (Tab.dec_val hk).2 _ k⟩⟩
    | binOp op t x y yt => simp only [ho] at hc; repeat' (split at hc) <;> first | cases hc | skip
    | convert src dst x => simp only [ho] at hc; repeat' (split at hc) <;> first | cases hc | skip
    | call c => simp only [ho] at hc; repeat' (split at hc) <;> first | cases hc | skip
    | _ => simp only [ho] at hc; cases hc
end
end Go.Hw
