/- Words for the library's functions: Clone, Grow; strings out of bytes. -/
import Derived.Test.YtklobcelbpjjcacHwZ
namespace Go.Hw
open Go
section
variable {α : Type} {sz : Nat} {E : Heap → α → List Value → Prop} {m m' h h' h0 m0 : Heap} {A : Option Addr} {l : List α} {c n k : Nat} {x : Int} {W : Nat → Prop}
theorem Rd.void (r : Rd sz E m none l) : l = [] := by
  cases l with
  | nil => rfl
  | cons x l => obtain ⟨a, _, h1, _⟩ := r 0 (by simp); cases h1
theorem gen_b2s' {P : Program} {src dst e : TypeId} {bs : List Int} {K : Value → Heap → Prop} (hsrc : P.underlying src = some (.slice e)) (hdst : P.underlying dst = some .string) (he : P.underlying e = some (.int .u8)) (hr : Rd 1 (eInt .u8) h A bs) (hn : n = bs.length)
    (hk : K (.string (bytesOf bs)) h) : Gen P (convert src dst (.slice A n c)) h K := by
  subst hn; exact gen_b2s hsrc hdst he hr hk
def gro (B : Nat) (x : Int) : Bool := decide (0 ≤ x ∧ x * (B : Int) ≤ 140737488355328)
/-- slices.Grow of nil. -/
theorem grow_nil {e : TypeId} {bytes : Nat} {z : Array Value} {R : Value → Heap → Prop} (S : St W h0 m0 h m) (hz : z.size = sz) (hb0 : 0 < bytes) (g : gro bytes x = true)
    (hk : ∀ A' c' h', OS W h0 sz E h' m A' ([] : List α) c' → Ext h h' → R (.slice A' 0 c') h') :
    splitB (decide ((IntKind.wrap .i64 (x - (IntKind.wrap .i64 (((0 : Nat) : Int) - ((0 : Nat) : Int))))) > (0 : Int))) (0 ≤ (0 : Int) ∧ (0 : Int) ≤ ((0 : Nat) : Int) ∧ ((0 : Nat) : Int) ≤ ((0 : Nat) : Int) ∧
      (AppZ e sz bytes z (sliceA none (Int.toNat (0 : Int)) 0 sz) (Int.toNat ((0 : Nat) : Int) - Int.toNat (0 : Int)) (0 - Int.toNat (0 : Int)) (Value.int .i64 (IntKind.wrap .i64 (x - (IntKind.wrap .i64 (((0 : Nat) : Int) - ((0 : Nat) : Int)))))) h fun v1 h2 =>
        ∃ A3, ∃ n3, ∃ c3, v1 = (Value.slice A3 n3 c3) ∧ 0 ≤ (0 : Int) ∧ (0 : Int) ≤ ((0 : Nat) : Int) ∧ ((0 : Nat) : Int) ≤ ((c3 : Nat) : Int) ∧ (R (Value.slice (sliceA A3 (Int.toNat (0 : Int)) c3 sz) (Int.toNat ((0 : Nat) : Int) - Int.toNat (0 : Int)) (c3 - Int.toNat (0 : Int))) h2)))
      (R (Value.slice none 0 0) h) := by
  unfold gro at g
  obtain ⟨g1, g2⟩ := of_decide_eq_true g
  obtain ⟨k, rfl⟩ : ∃ k : Nat, x = k := ⟨x.toNat, by omega⟩
  have gN : k * bytes ≤ 140737488355328 := by
    have : ((k * bytes : Nat) : Int) = (k : Int) * (bytes : Int) := by push_cast; rfl
    omega
  have hk1 : k ≤ 140737488355328 := Nat.le_trans (Nat.le_mul_of_pos_right _ hb0) gN
  have hw : (IntKind.wrap .i64 ((k : Int) - (IntKind.wrap .i64 (((0 : Nat) : Int) - ((0 : Nat) : Int))))) = (k : Int) := by
    rw [show (IntKind.wrap .i64 (((0 : Nat) : Int) - ((0 : Nat) : Int))) = 0 from rfl]
    rw [wrap_in (by omega) (by omega)]; omega
  rw [hw]
  have nul : ∀ (A' : Option Addr) (c' : Nat), sliceA A' (Int.toNat (0 : Int)) c' sz = A' := by
    intro A' c'
    unfold sliceA
    split
    · rfl
    · cases A' with
      | none => rfl
      | some a => simp [Addr.add]
  refine split_dec (fun hp => ⟨by decide, by decide, by decide, ?_⟩) (fun _ => hk _ _ _ (.inl ⟨rfl, rfl⟩) (.refl _))
  refine ⟨.i64, k, rfl, gN, by omega, .inr ⟨?_, ?_, hb0, ?_, [], ?_, fun c' hc' => ?_⟩⟩
  · show 0 < 0 + k; omega
  · show (0 + k) * bytes ≤ _; rw [Nat.zero_add]; exact gN
  · show 0 + k ≤ _; omega
  · show oldCells sz (sliceA none (Int.toNat (0 : Int)) 0 sz) 0 h = some []
    rw [nul]; rfl
  · refine ⟨_, _, _, rfl, by decide, by decide, Int.natCast_nonneg _, ?_⟩
    rw [nul]
    have e1 := Ext.push h (Obj.cells (([] : List Value).toArray ++ (if k * sz = 0 then [] else (zcells z k).toList).toArray ++ zcells z (c' - (0 + k))) e)
    refine hk _ c' _ (.inr ⟨h.size, e, [], [], (if k * sz = 0 then [] else (zcells z k).toList) ++ (zcells z (c' - (0 + k))).toList, rfl, ?_, rfl, Nat.zero_le _, ?_, .inl S.size, St.notLive S.s⟩) e1
    · have := Blk.new h (([] : List Value).toArray ++ (if k * sz = 0 then [] else (zcells z k).toList).toArray ++ zcells z (c' - (0 + k))) e
      simpa using this
    · rw [List.length_append, zc_len, hz]
      have hc2 : k ≤ c' := by
        have : (Int.toNat ((0 : Nat) : Int) - Int.toNat (0 : Int)) + k ≤ c' := hc'
        simpa using this
      have e2 : (if k * sz = 0 then ([] : List Value) else (zcells z k).toList).length = k * sz := by
        by_cases hz0 : k * sz = 0
        · rw [if_pos hz0, hz0]; rfl
        · rw [if_neg hz0, zc_len, hz]
      rw [e2, ← Nat.add_mul]
      exact Nat.mul_le_mul_right _ (by simp; omega)
end

/-! ### Variables handed on by pointer -/
section
variable {α : Type} {sz : Nat} {E : Heap → α → List Value → Prop} {m m' mL h h' h0 m0 : Heap} {A : Option Addr} {l : List α} {c b : Nat} {cs : List Value} {t : TypeId} {W W' : Nat → Prop}
theorem OB.give (o : OB W h0 h m b cs t) (hW : W' b) : OB W' h h m b cs t := ⟨o.1, .inr hW, o.2.2⟩
theorem OB.take (o : OB W' h h' m' b cs t) (S : St W h0 m0 h m) (hw : ∀ i, W' i → h0.size ≤ i ∨ W i) : OB W h0 h' m' b cs t := ⟨o.1, o.2.1.elim (fun h => .inl (Nat.le_trans S.size h)) (hw b), o.2.2⟩
theorem OS.dead (o : OS W h0 sz E h m A l c) : ∀ i, fp A c i → ¬ Live m i := by
  rintro i ⟨hc, a, ha, rfl⟩
  rcases o with ⟨rfl, rfl⟩ | ⟨b, t, pre, cs, rest, h1, h2, h3, h4, h5, h6, h7⟩
  · exact (hc rfl).elim
  · rw [h1] at ha; cases ha; exact h7
theorem OB.dead (o : OB W h0 h m b cs t) : ∀ i, fb b i → ¬ Live m i := fun i hi => by unfold fb at hi; subst hi; exact o.2.2
theorem St.unlend (T : St W' h mL h' m') (s : Sub m h) (hd : ∀ b, W' b → ¬ Live m b) : St W' h m h' m where
  up := .refl _
  s b o h1 h2 := by
    rw [T.fr b (s.lt ⟨o, h1, h2⟩) (fun hw => hd b hw ⟨o, h1, h2⟩)]; exact s b o h1 h2
  size := T.size
  fr := T.fr
  lv b _ hl := .inl hl
theorem OS.unlend' (o : OS W' h sz E h' m' A l c) (hE : ∀ x cs, E m' x cs → E m x cs) (s : Sub m h) (hd : ∀ b, W' b → ¬ Live m b) : OS W' h sz E h' m A l c :=
  o.flat hE fun b hb _ hl => by
    rcases hb with hb | hb
    · have := s.lt hl; omega
    · exact hd b hb hl
theorem OB.unlend' (o : OB W' h h' m' b cs t) (s : Sub m h) (hd : ∀ b, W' b → ¬ Live m b) : OB W' h h' m b cs t := ⟨o.1, o.2.1, fun hl => by
    rcases o.2.1 with hb | hb
    · have := s.lt hl; omega
    · exact hd b hb hl⟩
theorem OB.new (o : OB W' h h' m' b cs t) : ∀ i, fb b i → W' i ∨ h.size ≤ i := fun i hi => by unfold fb at hi; subst hi; exact o.2.1.symm
theorem elim_none_e {β γ : Type} {o : Option γ} {A : Option β} {B : γ → Option β} {r : β} (e : Option.elim o A B = some r) (q : o = none) : A = some r := by subst q; exact e
theorem elim_some_e {β γ : Type} {o : Option γ} {A : Option β} {B : γ → Option β} {r : β} {z : γ} (e : Option.elim o A B = some r) (q : o = some z) : B z = some r := by subst q; exact e
theorem LeO.elim {β γ : Type} {o : Option γ} {A A' : Option β} {B B' : γ → Option β} (h : LeO A A') (k : ∀ z, LeO (B z) (B' z)) : LeO (Option.elim o A B) (Option.elim o A' B') := by
  cases o with
  | none => exact h
  | some z => exact k z
end

/-! ### Maps -/
section
variable {κ ν : Type} [DecidableEq κ] {h h' m m' h0 m0 : Heap} {b : Nat} {W W' : Nat → Prop} {kv : κ → Value} {es : List (κ × ν)} {vs : List (κ × Value)} {k : κ} {x zv : ν} {v z : Value} {P : Program} {t elem : TypeId} {sz : Nat}
def pget (es : List (κ × ν)) (k : κ) : Option ν := (es.find? fun x => decide (k = x.1)).map (·.2)
def pgd (es : List (κ × ν)) (k : κ) (z : ν) : ν := (pget es k).getD z
def pset : List (κ × ν) → κ → ν → List (κ × ν)
  | [], k, v => [(k, v)]
  | x :: es, k, v => if k = x.1 then (k, v) :: es else x :: pset es k v
theorem pget_nil (k : κ) : pget ([] : List (κ × ν)) k = none := rfl
theorem pget_cons (p : κ × ν) (es : List (κ × ν)) (k : κ) : pget (p :: es) k = if k = p.1 then some p.2 else pget es k := by
  unfold pget
  by_cases h : k = p.1
  · rw [if_pos h, List.find?_cons_of_pos (by simpa using h)]; rfl
  · rw [if_neg h, List.find?_cons_of_neg (by simpa using h)]
theorem pget_pset (es : List (κ × ν)) (k q : κ) (v : ν) : pget (pset es k v) q = if q = k then some v else pget es q := by
  induction es with
  | nil => unfold pset; rw [pget_cons, pget_nil]
  | cons x es ih =>
    unfold pset
    by_cases hk : k = x.1
    · rw [if_pos hk, pget_cons, pget_cons]
      by_cases h : q = k
      · rw [if_pos h, if_pos h]
      · rw [if_neg h, if_neg h, if_neg (by rw [← hk]; exact h)]
    · rw [if_neg hk, pget_cons, pget_cons, ih]
      by_cases h : q = x.1
      · rw [if_pos h, if_pos h, if_neg (fun hh => hk (by rw [← hh, h]))]
      · rw [if_neg h, if_neg h]
theorem mget_cons (p : κ × Value) (es : List (κ × Value)) (k : κ) : mget (p :: es) k = if k = p.1 then some p.2 else mget es k := pget_cons p es k
def eV0 (E : Heap → ν → List Value → Prop) (m : Heap) (x : ν) (v : Value) : Prop := E m x [v]
def eV1 (E : Heap → ν → List Value → Prop) (m : Heap) (x : ν) (v : Value) : Prop := ∃ cs : List Value, v = .agg cs.toArray ∧ E m x cs
def MonoV (EV : Heap → ν → Value → Prop) : Prop := ∀ m h x v, Sub m h → EV m x v → EV h x v
omit [DecidableEq κ] in
theorem monoV0 {E : Heap → ν → List Value → Prop} (T : Tell sz E) : MonoV (eV0 E) := fun _ _ _ _ s h => T.mono _ _ _ _ s h
omit [DecidableEq κ] in
theorem monoV1 {E : Heap → ν → List Value → Prop} (T : Tell sz E) : MonoV (eV1 E) := fun _ _ _ _ s ⟨cs, h1, h2⟩ => ⟨cs, h1, T.mono _ _ _ _ s h2⟩
def MR (EV : ν → Value → Prop) : List (κ × ν) → List (κ × Value) → Prop
  | [], vs => vs = []
  | p :: es, vs => ∃ v vs', vs = (p.1, v) :: vs' ∧ EV p.2 v ∧ MR EV es vs'
variable {EV : Heap → ν → Value → Prop}
omit [DecidableEq κ] in
theorem MR.sub (M : MonoV EV) (s : Sub m h) : ∀ {es : List (κ × ν)} {vs : List (κ × Value)}, MR (EV m) es vs → MR (EV h) es vs := by
  intro es
  induction es with
  | nil => intro vs hh; exact hh
  | cons p es ih => rintro vs ⟨v, vs', rfl, h1, h2⟩; exact ⟨v, vs', rfl, M _ _ _ _ s h1, ih h2⟩
omit [DecidableEq κ] in
theorem MR.len {EV : ν → Value → Prop} : ∀ {es : List (κ × ν)} {vs : List (κ × Value)}, MR EV es vs → vs.length = es.length := by
  intro es
  induction es with
  | nil => intro vs hh; rw [show vs = [] from hh]; rfl
  | cons p es ih => rintro vs ⟨v, vs', rfl, h1, h2⟩; simp [ih h2]
theorem MR.get {EV : ν → Value → Prop} (k : κ) : ∀ {es : List (κ × ν)} {vs : List (κ × Value)}, MR EV es vs → (mget vs k).isSome = (pget es k).isSome ∧ ∀ zv z, EV zv z → EV (pgd es k zv) ((mget vs k).getD z) := by
  intro es
  induction es with
  | nil => intro vs hh; rw [show vs = [] from hh]; exact ⟨rfl, fun _ _ h => h⟩
  | cons p es ih =>
    rintro vs ⟨v, vs', rfl, h1, h2⟩
    unfold pgd
    rw [mget_cons, pget_cons]
    by_cases hk : k = p.1
    · rw [if_pos hk, if_pos hk]; exact ⟨rfl, fun _ _ _ => h1⟩
    · rw [if_neg hk, if_neg hk]; exact ih h2
theorem MR.set {EV : ν → Value → Prop} (k : κ) (hx : EV x v) : ∀ {es : List (κ × ν)} {vs : List (κ × Value)}, MR EV es vs → MR EV (pset es k x) (mset vs k v) := by
  intro es
  induction es with
  | nil => intro vs hh; rw [show vs = [] from hh]; exact ⟨v, [], rfl, hx, rfl⟩
  | cons p es ih =>
    rintro vs ⟨w, vs', rfl, h1, h2⟩
    unfold pset mset
    by_cases hk : k = p.1
    · rw [if_pos hk, if_pos hk]; exact ⟨v, vs', rfl, hx, h2⟩
    · rw [if_neg hk, if_neg hk]; exact ⟨w, _, rfl, h1, ih h2⟩
/-- A map of its own. -/
def OM (W : Nat → Prop) (h0 : Heap) (EV : Heap → ν → Value → Prop) (kv : κ → Value) (h m : Heap) (b : Nat) (es : List (κ × ν)) : Prop :=
  ∃ vs, MapB kv h b vs ∧ MR (EV m) es vs ∧ (h0.size ≤ b ∨ W b) ∧ ¬ Live m b
omit [DecidableEq κ] in
theorem OM.lt (o : OM W h0 EV kv h m b es) : ∀ i, fb b i → i < h.size := fun i hi => by obtain ⟨vs, h1, _⟩ := o; unfold fb at hi; subst hi; exact h1.lt
omit [DecidableEq κ] in
theorem OM.wr (o : OM W h0 EV kv h m b es) : ∀ i, fb b i → h0.size ≤ i ∨ W i := fun i hi => by obtain ⟨vs, h1, h2, h3, h4⟩ := o; unfold fb at hi; subst hi; exact h3
omit [DecidableEq κ] in
theorem OM.step (o : OM W h0 EV kv h m b es) (M : MonoV EV) (S : St W' h m h' m') (d : Dj W' (fb b)) : OM W h0 EV kv h' m' b es := by
  obtain ⟨vs, h1, h2, h3, h4⟩ := o
  have hw : ¬ W' b := fun h => d b h rfl
  have hlt := h1.lt
  obtain ⟨e, c, k1, k2⟩ := h1
  exact ⟨vs, ⟨e, c, by rw [S.fr b hlt hw]; exact k1, k2⟩, h2.sub M S.up, h3, fun hl => (S.lv b hlt hl).elim h4 hw⟩
omit [DecidableEq κ] in
theorem OM.ext (o : OM W h0 EV kv h m b es) (e : Ext h h') : OM W h0 EV kv h' m b es := by
  obtain ⟨vs, h1, h2⟩ := o; exact ⟨vs, h1.ext e, h2⟩
omit [DecidableEq κ] in
theorem OM.made {K : Value → Heap → Prop} (S : St W h0 m0 h m) (hk : ∀ h', OM W h0 EV kv h' m h.size [] → Ext h h' → K (.map (some h.size)) h') : Gen P (Instr.makeMap t none) h K :=
  gen_makeMap (kv := kv) fun h' b e _ => hk h' ⟨[], b, rfl, .inl S.size, St.notLive S.s⟩ e
theorem OM.look {K : Value → Heap → Prop} (o : OM W h0 EV kv h m b es) (ok : KeyOk P t kv elem) (k : κ) (hz : zeroOf P elem = some z) (hE : EV m zv z) (hk : ∀ v, EV m (pgd es k zv) v → K v h) : Gen P (Instr.lookup t (.map (some b)) (kv k) false) h K := by
  obtain ⟨vs, h1, h2, _⟩ := o
  exact gen_lookup ok h1 k hz (hk _ ((h2.get k).2 _ _ hE))
theorem OM.look2 {K : Value → Heap → Prop} (o : OM W h0 EV kv h m b es) (ok : KeyOk P t kv elem) (k : κ) (hz : zeroOf P elem = some z) (hE : EV m zv z) (hk : ∀ v, EV m (pgd es k zv) v → K (.tuple #[v, .bool (pget es k).isSome]) h) : Gen P (Instr.lookup t (.map (some b)) (kv k) true) h K := by
  obtain ⟨vs, h1, h2, _⟩ := o
  refine gen_lookup2 ok h1 k hz ?_
  rw [(h2.get k).1]
  exact hk _ ((h2.get k).2 _ _ hE)
theorem OM.upd {K : Unit → Heap → Prop} (o : OM W h0 EV kv h m b es) (s : Sub m h) (ok : KeyOk P t kv elem) (k : κ) (he : EV m x v) (hk : ∀ h', OM W h0 EV kv h' m b (pset es k x) → St (fb b) h m h' m → K () h') : Hwp P (Instr.mapUpdate t (.map (some b)) (kv k) v) h K := by
  obtain ⟨vs, h1, h2, h3, h4⟩ := o
  exact gen_mapUpdate ok h1 k v fun h' b' o' => hk h' ⟨_, b', h2.set k he, h3, h4⟩ (.only s h4 o')
omit [DecidableEq κ] in
theorem OM.len {K : Value → Heap → Prop} {ats : Array TypeId} {ty key : TypeId} (o : OM W h0 EV kv h m b es) (h1 : ats[0]? = some t) (hu : P.underlying t = some (.map key elem)) (hk : K (.int .i64 (es.length : Nat)) h) : Gen P (Builtin.len_ ats ty #[.map (some b)]) h K := by
  obtain ⟨vs, ⟨e, c, k1, k2⟩, h2, _⟩ := o
  have hl : e.size = es.length := by
    have := congrArg List.length k2
    simp only [List.length_map, Array.length_toList] at this
    rw [this, h2.len]
  unfold Gen Builtin.len_
  simp only [h1]
  refine hwp_bind (hwp_underlying hu ?_)
  refine hwp_bind (hwp_getObj k1 (fun _ _ _ h => by cases h) ?_)
  refine hwp_pure (P := P) ?_
  rw [hl]; exact hk
end

/-! ### Arrays of plain elements -/
section
variable {α : Type} {f : α → Value} {d : α} {L : List α} {n : Nat}
def eArr (n : Nat) (f : α → Value) (d : α) (_ : Heap) (x : List α) (cs : List Value) : Prop := x.length = n ∧ cs = (List.range n).map fun j => f (x.getD j d)
theorem arr_lit (hl : L.length = n) : (List.range n).map (fun j => f (L.getD j d)) = L.map f := by
  subst hl
  apply List.ext_getElem
  · simp
  · intro i h1 h2
    have : i < L.length := by simpa using h1
    simp [List.getD_eq_getElem?_getD, this]
theorem tell_arr (hf : ∀ x, Flat (f x)) : Tell n (eArr n f d) := ⟨fun _ _ _ _ _ h => h, fun _ _ _ h => by rw [h.2]; simp, fun _ _ _ h => by
  rw [h.2]; intro v hv
  obtain ⟨j, _, rfl⟩ := List.mem_map.1 hv
  exact hf _⟩
theorem gi_ltn {i : Int} {y : α} (g : gi L i = some y) (hl : L.length = n) : i < ((n : Nat) : Int) := by have := gi_lt g; rw [hl] at this; exact this
theorem arr_get {i : Int} {y : α} (g : gi L i = some y) (hl : L.length = n) : ((List.range n).map fun j => f (L.getD j d))[i.toNat]? = some (f y) := by
  rw [arr_lit hl, List.getElem?_map, gi_get g]; rfl
theorem ldArr {m h : Heap} {a : Addr} {N off : Nat} {cs : List Value} {i : Int} {y : α} (s : Sub m h) (hc : cellsH m a 0 N = some cs) (hs : (cs.drop off).take n = (List.range n).map fun j => f (L.getD j d)) (hl : L.length = n) (g : gi L i = some y) :
    ldv false 1 h (Addr.add (Addr.add a off) (Int.toNat i * 1)) = some (f y) := by
  have h1 := arr_get (f := f) (d := d) g hl
  rw [← hs] at h1
  have hlt : i.toNat < n := by have := gi_ltN g; omega
  rw [List.getElem?_take_of_lt hlt, List.getElem?_drop] at h1
  rw [Nat.mul_one, add_add]
  exact ldk s hc h1
theorem ldArr0 {m h : Heap} {a : Addr} {N : Nat} {cs : List Value} {i : Int} {y : α} (s : Sub m h) (hc : cellsH m a 0 N = some cs) (hs : (cs.drop 0).take n = (List.range n).map fun j => f (L.getD j d)) (hl : L.length = n) (g : gi L i = some y) :
    ldv false 1 h (Addr.add a (Int.toNat i * 1)) = some (f y) := ldArr (off := 0) s hc hs hl g
theorem arr_set {i : Int} {v : α} (hl : L.length = n) : ((List.range n).map fun j => f (L.getD j d)).set i.toNat (f v) = (List.range n).map fun j => f ((L.set i.toNat v).getD j d) := by
  rw [arr_lit hl, arr_lit (by rw [List.length_set]; exact hl), List.map_set]
theorem OB.stArr {W : Nat → Prop} {h0 h m : Heap} {b off : Nat} {cs : List Value} {t : TypeId} {i : Int} {y v : α} (o : OB W h0 h m b cs t) (s : Sub m h) (hs : (cs.drop off).take n = (List.range n).map fun j => f (L.getD j d)) (hn : off + n ≤ cs.length) (hl : L.length = n) (g : gi L i = some y) (hf : Flat (f v)) :
    ∃ h', st1 h (Addr.add (Addr.add ⟨b, 0, none⟩ off) (Int.toNat i * 1)) (f v) = some h' ∧ OB W h0 h' m b (cs.take off ++ ((List.range n).map fun j => f ((L.set (Int.toNat i) v).getD j d)) ++ cs.drop (off + n)) t ∧ St (fb b) h m h' m := by
  have hlt : i.toNat < n := by have := gi_ltN g; omega
  rw [Nat.mul_one, add_add]
  obtain ⟨h', h1, h2, h3⟩ := o.st (k := off + i.toNat) (v := f v) s (by omega) hf
  refine ⟨h', h1, ?_, h3⟩
  have e : cs.set (off + i.toNat) (f v) = cs.take off ++ ((List.range n).map fun j => f ((L.set (Int.toNat i) v).getD j d)) ++ cs.drop (off + n) := by
    rw [← arr_set hl, ← hs]
    conv => lhs; rw [← List.take_append_drop off cs, List.set_append_right _ _ (by rw [List.length_take]; omega)]
    rw [show off + i.toNat - (cs.take off).length = i.toNat by rw [List.length_take]; omega, List.append_assoc]
    congr 1
    conv => lhs; rw [← List.take_append_drop n (cs.drop off), List.set_append_left _ _ (by rw [List.length_take, List.length_drop]; omega), List.drop_drop]
  rw [← e]; exact h2
theorem OB.stArr0 {W : Nat → Prop} {h0 h m : Heap} {b : Nat} {cs : List Value} {t : TypeId} {i : Int} {y v : α} (o : OB W h0 h m b cs t) (s : Sub m h) (hs : (cs.drop 0).take n = (List.range n).map fun j => f (L.getD j d)) (hn : 0 + n ≤ cs.length) (hl : L.length = n) (g : gi L i = some y) (hf : Flat (f v)) :
    ∃ h', st1 h (Addr.add ⟨b, 0, none⟩ (Int.toNat i * 1)) (f v) = some h' ∧ OB W h0 h' m b (cs.take 0 ++ ((List.range n).map fun j => f ((L.set (Int.toNat i) v).getD j d)) ++ cs.drop (0 + n)) t ∧ St (fb b) h m h' m := o.stArr (off := 0) s hs hn hl g hf
theorem fldArr {cs : List Value} {i : Int} {y : α} (hs : cs = (List.range n).map fun j => f (L.getD j d)) (hl : L.length = n) (g : gi L i = some y) : fldv false 1 (Int.toNat i * 1) (.agg cs.toArray) = some (f y) := by
  have h1 := arr_get (f := f) (d := d) g hl
  rw [← hs] at h1
  simpa [fldv] using h1
theorem eArr.keep {m h : Heap} {x : List α} {cs : List Value} (e : eArr n f d m x cs) : eArr n f d h x cs := e
end
/-! ### Told out of a row's data -/
section
variable {H : Type} {enc : TypeId × Value → H} {P : Program} {W : World}
theorem tells_i64 {t : TypeId} (hu : P.underlying t = some (.int .i64)) : Tells enc P W t (eInt .i64) (fun x => -9223372036854775808 ≤ x ∧ x ≤ 9223372036854775807) := tells_map (tells_int hu) fun a _ h q => ⟨a, h, wf_i64 q⟩
theorem tells_u64 {t : TypeId} (hu : P.underlying t = some (.int .u64)) : Tells enc P W t (eInt .u64) (fun x => 0 ≤ x ∧ x ≤ 18446744073709551615) := tells_map (tells_int hu) fun a _ h q => ⟨a, h, wf_u64 q⟩
theorem tells_u32 {t : TypeId} (hu : P.underlying t = some (.int .u32)) : Tells enc P W t (eInt .u32) (fun x => 0 ≤ x ∧ x ≤ 4294967295) := tells_map (tells_int hu) fun a _ h q => ⟨a, h, wf_u32 q⟩
theorem tells_u8 {t : TypeId} (hu : P.underlying t = some (.int .u8)) : Tells enc P W t (eInt .u8) (fun x => 0 ≤ x ∧ x ≤ 255) := tells_map (tells_int hu) fun a _ h q => ⟨a, h, wf_u8 q⟩
theorem tells_strL {t : TypeId} (hu : P.underlying t = some .string) : Tells enc P W t eStr (fun s => s.size ≤ 140737488351232) := tells_map (tells_str hu) fun a _ h q => ⟨a, h, q⟩
theorem tells_sliceL {α : Type} {t e : TypeId} {sz B : Nat} {E : Heap → α → List Value → Prop} {Q : α → Prop} (hu : P.underlying t = some (.slice e)) (hc : P.cellsOf e = sz) (hB : P.bytesOf e = B) (he : Tells enc P W e E Q) :
    Tells enc P W t (eRow sz E) (fun l => l.length * B ≤ 140737488351232 ∧ ∀ a ∈ l, Q a) := tells_map (tells_slice hu hc hB he) fun a _ h q => ⟨a, h, q⟩
end
end Go.Hw
