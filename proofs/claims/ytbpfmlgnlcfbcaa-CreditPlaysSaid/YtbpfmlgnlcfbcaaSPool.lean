/- What a pool of package credit does, and that the law CreditPlays holds, over heaps. -/
import Derived.Test.YtbpfmlgnlcfbcaaFwAll0
import Derived.Test.YtbpfmlgnlcfbcaaFwAll1
import Derived.Test.YtbpfmlgnlcfbcaaFwAll2
import Derived.Test.YtbpfmlgnlcfbcaaHwR
namespace Go.Proofs.Ytbpfmlgnlcfbcaa.Fw.CP
open Go Go.Hw Go.Proofs
set_option linter.unusedVariables false

theorem at_spec {h : Heap} {A : Option Addr} {c : Nat} {l : List Int} {i : Nat} {x : Int} (hr : Rd 1 (eInt .i64) h A l) (hx : x = i) :
    Run Try.prog 17 #[.slice A l.length c, .int .i64 x] h fun u h' => u = .int .i64 (l.getD i 0) ∧ h' = h := by
  refine f17.run ?_
  unfold f17.runT
  refine split_dec (fun c => ?_) (fun c => ?_)
  · refine hr.int hx rfl (by omega) ⟨?_, rfl⟩
    rw [List.getD_eq_getElem?_getD, List.getElem?_eq_getElem (by omega)]; rfl
  · refine ⟨?_, rfl⟩
    rw [List.getD_eq_getElem?_getD, List.getElem?_eq_none (by omega)]; rfl
theorem get {h : Heap} {b : Nat} {c : List Value} {t : TypeId} (hb : Blk h b c t) {a : Addr} {v : Value} (h1 : a.block = b) (h2 : a.spot = none) (h3 : c[a.off]? = some v) {K : Value → Prop} (hk : K v) : ∃ u, ldv false 1 h a = some u ∧ K u := ⟨v, hb.ld h1 h2 h3, hk⟩
theorem put {h : Heap} {b : Nat} {c : List Value} {t : TypeId} (hb : Blk h b c t) {a : Addr} {v : Value} (h1 : a.block = b) (h2 : a.spot = none) (h3 : a.off < c.length) (h4 : Flat v) {K : Heap → Prop} (hk : ∀ h', Blk h' b (c.set a.off v) t → Only h h' b → K h') : ∃ h', st1 h a v = some h' ∧ K h' := by
  obtain ⟨h', s, b', o⟩ := hb.st h1 h2 h3 h4
  exact ⟨h', s, hk h' b' o⟩

/-- A lane: what it wants, may use, and uses. -/
abbrev Lane := Int × Int × Int
def laneV (x : Lane) : List Value := [.int .i64 x.1, .int .i64 x.2.1, .int .i64 x.2.2]
theorem laneV_len (x : Lane) : (laneV x).length = 3 := rfl
theorem laneV_flat (x : Lane) : ∀ v ∈ laneV x, Flat v := by intro v hv; simp [laneV] at hv; rcases hv with rfl | rfl | rfl <;> trivial

section
variable {h : Heap} {b : Nat} {L : List Lane} {t : TypeId}
theorem lgetA (hb : Blk h b (L.flatMap laneV) t) {k j : Nat} (hk : k < L.length) (hj : j < 3) {v : Value} (hv : (laneV L[k])[j]? = some v) {K : Value → Prop} (hK : K v) : ∃ u, ldv false 1 h (((⟨b, 0, none⟩ : Addr).add (k * 3)).add j) = some u ∧ K u :=
  get hb (by rw [add_block, add_block]) (add_spot _ (add_spot _ rfl)) (by rw [add_off, add_off, Nat.zero_add, flatMap_get laneV_len L k hk hj]; exact hv) hK
theorem lget0 (hb : Blk h b (L.flatMap laneV) t) {k : Nat} (hk : k < L.length) {K : Value → Prop} (hK : K (.int .i64 L[k].1)) : ∃ u, ldv false 1 h ((⟨b, 0, none⟩ : Addr).add (k * 3)) = some u ∧ K u := by
  have := lgetA hb (j := 0) hk (by omega) rfl hK
  rwa [add_add, Nat.add_zero] at this
theorem lputA (hb : Blk h b (L.flatMap laneV) t) {k j : Nat} (hk : k < L.length) (hj : j < 3) {v : Value} (x : Lane) (hv : laneV x = (laneV L[k]).set j v) (hf : Flat v) {K : Heap → Prop} (hK : ∀ h', Blk h' b ((L.set k x).flatMap laneV) t → Only h h' b → K h') :
    ∃ h', st1 h (((⟨b, 0, none⟩ : Addr).add (k * 3)).add j) v = some h' ∧ K h' := by
  have hoff : (((⟨b, 0, none⟩ : Addr).add (k * 3)).add j).off = k * 3 + j := by rw [add_off, add_off, Nat.zero_add]
  refine put hb (by rw [add_block, add_block]) (add_spot _ (add_spot _ rfl)) (by rw [hoff, flatMap_len laneV_len]; exact mul_add_lt hk hj) hf fun h' b' o => hK h' ?_ o
  rw [hoff, flatMap_set laneV_len L k hk hj hv] at b'
  exact b'
theorem lput0 (hb : Blk h b (L.flatMap laneV) t) {k : Nat} (hk : k < L.length) {v : Int} {K : Heap → Prop} (hK : ∀ h', Blk h' b ((L.set k (v, L[k].2)).flatMap laneV) t → Only h h' b → K h') :
    ∃ h', st1 h ((⟨b, 0, none⟩ : Addr).add (k * 3)) (.int .i64 v) = some h' ∧ K h' := by
  have := lputA hb (j := 0) hk (by omega) (v := .int .i64 v) (v, L[k].2) rfl (by exact trivial) hK
  rwa [add_add, Nat.add_zero] at this
theorem lputAll (hb : Blk h b (L.flatMap laneV) t) {k : Nat} (hk : k < L.length) (x : Lane) {K : Heap → Prop} (hK : ∀ h', Blk h' b ((L.set k x).flatMap laneV) t → Only h h' b → K h') :
    ∃ h', stH h ((⟨b, 0, none⟩ : Addr).add (k * 3)) (laneV x) 0 = some h' ∧ K h' := by
  have e : L.flatMap laneV = (L.take k).flatMap laneV ++ laneV L[k] ++ (L.drop (k + 1)).flatMap laneV := by
    have h1 : L = L.take k ++ L[k] :: L.drop (k + 1) := by rw [← List.drop_eq_getElem_cons hk, List.take_append_drop]
    calc L.flatMap laneV = (L.take k ++ L[k] :: L.drop (k + 1)).flatMap laneV := by rw [← h1]
      _ = _ := by rw [List.flatMap_append, List.flatMap_cons, List.append_assoc]
  rw [e] at hb
  obtain ⟨h', s1, b1, o1⟩ := Blk.stH (laneV x) (a := (⟨b, 0, none⟩ : Addr).add (k * 3)) (i := 0) hb (by rw [add_block]) (add_spot _ rfl) (by rw [add_off, flatMap_len laneV_len, List.length_take]; simp; omega) rfl (laneV_flat x)
  refine ⟨h', s1, hK h' ?_ o1⟩
  have e2 : (L.set k x).flatMap laneV = (L.take k).flatMap laneV ++ laneV x ++ (L.drop (k + 1)).flatMap laneV := by
    rw [List.set_eq_take_append_cons_drop, if_pos hk, List.flatMap_append, List.flatMap_cons, List.append_assoc]
  rw [e2]; exact b1
theorem lall (hb : Blk h b (L.flatMap laneV) t) {k : Nat} (hk : k < L.length) : ldv true 3 h ((⟨b, 0, none⟩ : Addr).add (k * 3)) = some (.agg (laneV L[k]).toArray) := by
  have := hb.cells (a := (⟨b, 0, none⟩ : Addr).add (k * 3)) (by rw [add_block]) (add_spot _ rfl) 3 0 (by rw [add_off, flatMap_len laneV_len]; simp only [Nat.zero_add, Nat.add_zero]; omega)
  simp only [ldv, this, Option.map_some]
  rw [add_off]
  simp only [Nat.zero_add, Nat.add_zero]
  rw [flatMap_part laneV_len L k hk]
end

/-! ### The law's sums, and who is next -/
def held (L : List Lane) : Int := (L.map fun x => x.2.1 + x.2.2).sum
structure Inv (n : Nat) (room f : Int) (nx : Nat) (L : List Lane) : Prop where
  len : L.length = n
  n0 : 0 < n ∧ n ≤ 8
  nx : nx < n
  el : ∀ x ∈ L, 0 ≤ x.1 ∧ x.1 ≤ 64 ∧ 0 ≤ x.2.1 ∧ 0 ≤ x.2.2
  f0 : 0 ≤ f
  sum : f + held L = room
  rm : room ≤ 64
theorem held_set {L : List Lane} : ∀ {k : Nat} (hk : k < L.length) (x : Lane), held (L.set k x) = held L - (L[k].2.1 + L[k].2.2) + (x.2.1 + x.2.2) := by
  induction L with
  | nil => intro k hk; cases hk
  | cons y L ih =>
    intro k hk x
    cases k with
    | zero => simp [held]; omega
    | succ k =>
      have := ih (k := k) (by simpa using hk) x
      simp [held] at this ⊢; omega
theorem held_ge {L : List Lane} (h : ∀ x ∈ L, 0 ≤ x.2.1 ∧ 0 ≤ x.2.2) : 0 ≤ held L ∧ ∀ x ∈ L, x.2.1 + x.2.2 ≤ held L := by
  induction L with
  | nil => exact ⟨by simp [held], fun x hx => by cases hx⟩
  | cons y L ih =>
    have h1 := h y (List.mem_cons_self ..)
    obtain ⟨h2, h3⟩ := ih fun x hx => h x (List.mem_cons_of_mem _ hx)
    have e : held (y :: L) = y.2.1 + y.2.2 + held L := by simp [held]
    refine ⟨by omega, fun x hx => ?_⟩
    rcases List.mem_cons.1 hx with rfl | hx
    · omega
    · have := h3 x hx; omega
theorem Inv.at {n : Nat} {room f : Int} {nx : Nat} {L : List Lane} (i : Inv n room f nx L) {k : Nat} (hk : k < L.length) : 0 ≤ L[k].1 ∧ L[k].1 ≤ 64 ∧ 0 ≤ L[k].2.1 ∧ 0 ≤ L[k].2.2 ∧ L[k].2.1 + L[k].2.2 ≤ 64 ∧ f + (L[k].2.1 + L[k].2.2) ≤ 64 := by
  have h1 := i.el L[k] (List.getElem_mem hk)
  have h2 := (held_ge fun x hx => ⟨(i.el x hx).2.2.1, (i.el x hx).2.2.2⟩).2 L[k] (List.getElem_mem hk)
  have h3 := i.sum
  have h4 := i.rm
  have h5 := i.f0
  omega
theorem Inv.set {n : Nat} {room f f' : Int} {nx nx' : Nat} {L : List Lane} (i : Inv n room f nx L) {k : Nat} (hk : k < L.length) (x : Lane) (hx : 0 ≤ x.1 ∧ x.1 ≤ 64 ∧ 0 ≤ x.2.1 ∧ 0 ≤ x.2.2) (hn : nx' < n) (hf : 0 ≤ f') (hs : f' + (x.2.1 + x.2.2) = f + (L[k].2.1 + L[k].2.2)) : Inv n room f' nx' (L.set k x) where
  len := by rw [List.length_set]; exact i.len
  n0 := i.n0
  nx := hn
  el := fun y hy => by
    rcases List.mem_or_eq_of_mem_set hy with h | h
    · exact i.el y h
    · rw [h]; exact hx
  f0 := hf
  sum := by rw [held_set hk]; have := i.sum; omega
  rm := i.rm

def wants (L : List Lane) (k : Nat) : Bool := decide ((L.getD k (0, 0, 0)).1 > 0)
/-- Who is next, from place j of the round on. -/
def pickF (L : List Lane) (nx j d : Nat) : Option Nat := ((List.range' j d).find? fun j => wants L ((nx + j) % L.length)).map fun j => (nx + j) % L.length
def pick (L : List Lane) (nx : Nat) : Option Nat := pickF L nx 0 L.length
theorem pickF_succ (L : List Lane) (nx j d : Nat) : pickF L nx j (d + 1) = if wants L ((nx + j) % L.length) then some ((nx + j) % L.length) else pickF L nx (j + 1) d := by
  unfold pickF
  rw [List.range'_succ, List.find?_cons]
  split <;> simp_all
def give (L : List Lane) (k : Nat) : List Lane := L.set k ((L.getD k (0, 0, 0)).1 - 1, (L.getD k (0, 0, 0)).2.1 + 1, (L.getD k (0, 0, 0)).2.2)
theorem give_len (L : List Lane) (k : Nat) : (give L k).length = L.length := by unfold give; rw [List.length_set]
def shareF : Nat → List Lane → Nat → List Lane × Nat × Nat
  | 0, L, nx => (L, nx, 0)
  | g + 1, L, nx => match pick L nx with
    | none => (L, nx, g + 1)
    | some k => shareF g (give L k) ((k + 1) % L.length)
theorem lgetD {L : List Lane} {k : Nat} (h : k < L.length) : L.getD k (0, 0, 0) = L[k] := by rw [List.getD_eq_getElem?_getD, List.getElem?_eq_getElem h]; rfl
theorem pickF_some {L : List Lane} {nx j d k : Nat} (h0 : 0 < L.length) (h : pickF L nx j d = some k) : k < L.length ∧ wants L k = true := by
  unfold pickF at h
  rw [Option.map_eq_some_iff] at h
  obtain ⟨i, h1, rfl⟩ := h
  exact ⟨Nat.mod_lt _ h0, by have := List.find?_some h1; simpa using this⟩
theorem Inv.give {n : Nat} {room : Int} {g nx : Nat} {L : List Lane} (i : Inv n room ((g + 1 : Nat) : Int) nx L) {k : Nat} (hk : k < L.length) (hw : wants L k = true) : Inv n room (g : Int) ((k + 1) % L.length) (give L k) := by
  have h1 := i.at hk
  unfold wants at hw
  rw [lgetD hk, decide_eq_true_eq] at hw
  unfold CP.give
  rw [lgetD hk]
  refine i.set hk _ ⟨by show 0 ≤ L[k].1 - 1; omega, by show L[k].1 - 1 ≤ 64; omega, by show 0 ≤ L[k].2.1 + 1; omega, h1.2.2.2.1⟩ (by rw [i.len]; exact Nat.mod_lt _ i.n0.1) (by omega) ?_
  show (g : Int) + (L[k].2.1 + 1 + L[k].2.2) = _
  omega
theorem shareF_inv {n : Nat} {room : Int} : ∀ (g : Nat) (L : List Lane) (nx : Nat), Inv n room (g : Int) nx L → Inv n room ((shareF g L nx).2.2 : Int) (shareF g L nx).2.1 (shareF g L nx).1 ∧ ((shareF g L nx).2.2 = 0 ∨ pick (shareF g L nx).1 (shareF g L nx).2.1 = none) := by
  intro g
  induction g with
  | zero => intro L nx i; exact ⟨i, .inl rfl⟩
  | succ g ih =>
    intro L nx i
    unfold shareF
    cases hp : pick L nx with
    | none => exact ⟨i, .inr hp⟩
    | some k =>
      obtain ⟨h1, h2⟩ := pickF_some (by rw [i.len]; exact i.n0.1) hp
      exact ih _ _ (i.give h1 h2)
theorem shareF_done {g : Nat} {L : List Lane} {nx : Nat} (h : g = 0 ∨ pick L nx = none) : shareF g L nx = (L, nx, g) := by
  cases g with
  | zero => rfl
  | succ g =>
    rcases h with h | h
    · omega
    · unfold shareF; rw [h]
theorem pick_same {L : List Lane} {nx k : Nat} {x : Lane} (hk : k < L.length) (hx : x.1 = L[k].1) : pick (L.set k x) nx = pick L nx := by
  unfold pick pickF
  rw [List.length_set]
  have : (fun j => wants (L.set k x) ((nx + j) % L.length)) = fun j => wants L ((nx + j) % L.length) := by
    funext j
    unfold wants
    by_cases h : k = (nx + j) % L.length
    · rw [← h, lgetD (by rw [List.length_set]; exact hk), lgetD hk, List.getElem_set_self, hx]
    · rw [List.getD_eq_getElem?_getD, List.getElem?_set_ne h, ← List.getD_eq_getElem?_getD]
  rw [this]

/-! ### Heaps that keep all but two blocks -/
def But2 (z b : Nat) (h h' : Heap) : Prop := h.size ≤ h'.size ∧ ∀ i, i < h.size → i ≠ z → i ≠ b → h'[i]? = h[i]?
theorem But2.refl (z b : Nat) (h : Heap) : But2 z b h h := ⟨Nat.le_refl _, fun _ _ _ _ => rfl⟩
theorem But2.trans {z b : Nat} {h h' h'' : Heap} (e : But2 z b h h') (f : But2 z b h' h'') : But2 z b h h'' := ⟨Nat.le_trans e.1 f.1, fun i hi h1 h2 => by rw [f.2 i (by have := e.1; omega) h1 h2]; exact e.2 i hi h1 h2⟩
theorem But2.ofExt {z b : Nat} {h h' : Heap} (e : Ext h h') : But2 z b h h' := ⟨e.1, fun i hi _ _ => e.2 i hi⟩
theorem But2.only1 {z b : Nat} {h h' : Heap} (o : Only h h' z) : But2 z b h h' := ⟨by rw [o.1]; exact Nat.le_refl _, fun i _ h1 _ => o.2 i h1⟩
theorem But2.only2 {z b : Nat} {h h' : Heap} (o : Only h h' b) : But2 z b h h' := ⟨by rw [o.1]; exact Nat.le_refl _, fun i _ _ h2 => o.2 i h2⟩
theorem But2.blk {z b : Nat} {h h' : Heap} (e : But2 z b h h') {i : Nat} {c : List Value} {t : TypeId} (hb : Blk h i c t) (h1 : i ≠ z) (h2 : i ≠ b) : Blk h' i c t := by
  unfold Blk at *
  rw [e.2 i (Blk.lt hb) h1 h2]; exact hb
theorem But2.ext {z b : Nat} {h0 h h' : Heap} (e : But2 z b h h') (x : Ext h0 h) (h1 : h0.size ≤ z) (h2 : h0.size ≤ b) : Ext h0 h' :=
  ⟨Nat.le_trans x.1 e.1, fun i hi => by rw [e.2 i (by have := x.1; omega) (by omega) (by omega)]; exact x.2 i hi⟩

/-! ### The pool as it lies in memory -/
structure Pg (h : Heap) (z b n : Nat) (room f : Int) (nx : Nat) (L : List Lane) : Prop where
  pool : Blk h z [.int .i64 room, .int .i64 f, .int .i64 nx, .slice (some ⟨b, 0, none⟩) n n] 176
  row : Blk h b (L.flatMap laneV) 178
  ne : z ≠ b
  inv : Inv n room f nx L

section
variable {h : Heap} {z b n : Nat} {room f : Int} {nx : Nat} {L : List Lane} {R : Value → Heap → Prop}
theorem Pg.ext {h' : Heap} (p : Pg h z b n room f nx L) (e : Ext h h') : Pg h' z b n room f nx L := ⟨p.pool.ext e, p.row.ext e, p.ne, p.inv⟩
theorem is_spec (p : Pg h z b n room f nx L) {i : Int} : Run Try.prog 115 #[.pointer (some ⟨z, 0, none⟩), .int .i64 i] h fun u h' => u = .bool (decide (0 ≤ i ∧ i < n)) ∧ h' = h := by
  refine f115.run ?_
  unfold f115.runT
  refine split_dec (fun c => ?_) (fun c => ⟨?_, rfl⟩)
  · refine get p.pool rfl rfl rfl ⟨_, _, _, rfl, ?_, rfl⟩
    congr 1; exact decide_eq_decide.2 ⟨fun h => ⟨c, h⟩, fun h => h.2⟩
  · rw [decide_eq_false (by omega)]

theorem share_loop : ∀ (g : Nat) (L : List Lane) (nx : Nat) (h : Heap), Pg h z b n room (g : Int) nx L →
    (∀ h', Pg h' z b n room ((shareF g L nx).2.2 : Int) (shareF g L nx).2.1 (shareF g L nx).1 → But2 z b h h' → R (.tuple #[]) h') → f116.l0 R ⟨z, 0, none⟩ h := by
  intro g
  induction g with
  | zero =>
    intro L nx h p hR
    refine f116.l0_in ?_
    unfold f116.l0T
    refine get p.pool rfl rfl rfl ⟨_, rfl, ?_⟩
    exact split_dec (fun c => by omega) fun _ => hR h p (.refl _ _ _)
  | succ g ih =>
    intro L nx h p hR
    have hn := p.inv.n0
    have hlen := p.inv.len
    have hnx := p.inv.nx
    refine f116.l0_in ?_
    unfold f116.l0T
    refine get p.pool rfl rfl rfl ⟨_, rfl, ?_⟩
    refine split_dec (fun _ => ?_) (fun c => by omega)
    refine get p.pool rfl rfl rfl ⟨_, _, _, rfl, ?_⟩
    have search : ∀ (d j : Nat), j + d = n → pick L nx = pickF L nx j d → f116.l1 R ⟨z, 0, none⟩ (-1) (n : Int) (j : Int) h := by
      intro d
      induction d with
      | zero =>
        intro j hj hp
        refine f116.l1_in ?_
        unfold f116.l1T
        refine split_dec (fun c => by omega) fun _ => ?_
        refine f116.j0_in ?_
        unfold f116.j0T
        refine split_dec (fun _ => ?_) (fun c => by omega)
        have hs : shareF (g + 1) L nx = (L, nx, g + 1) := shareF_done (.inr (by rw [hp]; rfl))
        rw [hs] at hR
        exact hR h p (.refl _ _ _)
      | succ d ihd =>
        intro j hj hp
        rw [pickF_succ, hlen] at hp
        refine f116.l1_in ?_
        unfold f116.l1T
        refine split_dec (fun _ => ?_) (fun c => by omega)
        refine get p.pool rfl rfl rfl ⟨_, rfl, ?_⟩
        refine get p.pool rfl rfl rfl ⟨_, _, _, rfl, by omega, ?_⟩
        refine get p.pool rfl rfl rfl ⟨_, _, _, rfl, ?_⟩
        have em : Int.tmod (IntKind.wrap .i64 ((nx : Int) + (j : Int))) (n : Int) = (((nx + j) % n : Nat) : Int) := by
          rw [wrap_in (by omega) (by omega), show (nx : Int) + (j : Int) = ((nx + j : Nat) : Int) by omega, Int.tmod_eq_emod_of_nonneg (by omega)]; rfl
        rw [em]
        have hk : (nx + j) % n < L.length := by rw [hlen]; exact Nat.mod_lt _ hn.1
        refine ⟨by omega, by omega, ?_⟩
        refine lget0 p.row hk ⟨_, rfl, ?_⟩
        generalize (nx + j) % n = k at *
        have hwk : wants L k = decide (L[k].1 > 0) := by unfold wants; rw [lgetD hk]
        refine split_dec (fun c => ?_) (fun c => ?_)
        · rw [hwk, decide_eq_true c, if_pos rfl] at hp
          have hs : shareF (g + 1) L nx = shareF g (give L k) ((k + 1) % n) := by
            rw [← hlen]
            show (match pick L nx with | none => (L, nx, g + 1) | some k => shareF g (give L k) ((k + 1) % L.length)) = _
            rw [hp]
          rw [hs] at hR
          have hat := p.inv.at hk
          have hg := p.inv.give hk (by rw [hwk, decide_eq_true c])
          refine f116.j0_in ?_
          unfold f116.j0T
          refine split_dec (fun c => by omega) fun _ => ?_
          refine get p.pool rfl rfl rfl ⟨_, _, _, rfl, ?_⟩
          refine ⟨by omega, by omega, ?_⟩
          refine lget0 p.row hk ⟨_, rfl, by omega, by omega, ?_⟩
          rw [wrap_in (by omega) (by omega)]
          refine lput0 p.row hk fun h1 r1 o1 => ?_
          have p1 := p.pool.only o1 p.ne
          refine get p1 rfl rfl rfl ⟨_, _, _, rfl, ?_⟩
          refine ⟨by omega, by omega, ?_⟩
          have hk1 : k < (L.set k (L[k].1 - 1, L[k].2)).length := by rw [List.length_set]; exact hk
          have e1 : (L.set k (L[k].1 - 1, L[k].2))[k] = (L[k].1 - 1, L[k].2) := List.getElem_set_self _
          refine lgetA r1 (j := 1) hk1 (by omega) (v := .int .i64 L[k].2.1) (by rw [e1]; rfl) ⟨_, rfl, by omega, by omega, ?_⟩
          rw [wrap_in (by omega) (by omega)]
          refine lputA r1 (j := 1) hk1 (by omega) (L[k].1 - 1, L[k].2.1 + 1, L[k].2.2) (by rw [e1]; rfl) (by exact trivial) fun h2 r2 o2 => ?_
          have p2 := p1.only o2 p.ne
          refine get p2 rfl rfl rfl ⟨_, rfl, ?_⟩
          have eg : IntKind.wrap .i64 (((g + 1 : Nat) : Int) - 1) = (g : Int) := by
            have := p.inv.sum; have := p.inv.rm
            rw [wrap_in (by omega) (by omega)]; omega
          rw [eg]
          refine put p2 rfl rfl (by show 1 < 4; omega) (by exact trivial) fun h3 p3 o3 => ?_
          refine get p3 rfl rfl rfl ⟨_, _, _, rfl, by omega, ?_⟩
          have ek : Int.tmod (IntKind.wrap .i64 ((k : Int) + 1)) (n : Int) = (((k + 1) % n : Nat) : Int) := by
            rw [wrap_in (by omega) (by omega), show (k : Int) + 1 = ((k + 1 : Nat) : Int) by omega, Int.tmod_eq_emod_of_nonneg (by omega)]; rfl
          rw [ek]
          refine put p3 rfl rfl (by show 2 < 4; omega) (by exact trivial) fun h4 p4 o4 => ?_
          rw [List.set_set] at r2
          have r4 := (r2.only o3 (fun he => p.ne he.symm)).only o4 (fun he => p.ne he.symm)
          have egive : give L k = L.set k (L[k].1 - 1, L[k].2.1 + 1, L[k].2.2) := by unfold give; rw [lgetD hk]
          rw [hlen] at hg
          refine ih (give L k) ((k + 1) % n) h4 ⟨p4, by rw [egive]; exact r4, p.ne, hg⟩ fun h' p' e' => hR h' p' ?_
          exact (But2.only2 o1).trans ((But2.only2 o2).trans ((But2.only1 o3).trans ((But2.only1 o4).trans e')))
        · rw [hwk, decide_eq_false c, if_neg (by simp)] at hp
          have e1 : IntKind.wrap .i64 ((j : Int) + 1) = ((j + 1 : Nat) : Int) := by rw [wrap_in (by omega) (by omega)]; omega
          rw [e1]
          exact ihd (j + 1) (by omega) hp
    exact search n 0 (by omega) (by unfold pick; rw [hlen])

theorem share_spec (p : Pg h z b n room f nx L) {g : Nat} (hg : f = g) (hR : ∀ h', Pg h' z b n room ((shareF g L nx).2.2 : Int) (shareF g L nx).2.1 (shareF g L nx).1 → But2 z b h h' → R (.tuple #[]) h') : Run Try.prog 116 #[.pointer (some ⟨z, 0, none⟩)] h R := by
  refine f116.run ?_
  unfold f116.runT
  subst hg
  exact share_loop g L nx h p hR

theorem new_spec {room lanes : Int} (k1 : room < 1 ∨ room > 64 ∨ lanes < 1 ∨ lanes > 8 → R (.tuple #[.pointer none, .int .i64 1]) h)
    (k2 : ¬ (room < 1 ∨ room > 64 ∨ lanes < 1 ∨ lanes > 8) → ∀ h', Pg h' (h.size + 1) h.size lanes.toNat room room 0 (List.replicate lanes.toNat (0, 0, 0)) → Ext h h' → h'.size = h.size + 2 → R (.tuple #[.pointer (some ⟨h.size + 1, 0, none⟩), .int .i64 0]) h') :
    Run Try.prog 63 #[.int .i64 room, .int .i64 lanes] h R := by
  refine f63.run ?_
  unfold f63.runT
  have bad : room < 1 ∨ room > 64 ∨ lanes < 1 ∨ lanes > 8 → f63.j1 R room lanes true h := by
    intro hb
    refine f63.j1_in ?_
    unfold f63.j1T
    exact split_t (k1 hb)
  refine split_dec (fun c => bad (by omega)) (fun c1 => split_dec (fun c => bad (by omega)) (fun c2 => split_dec (fun c => bad (by omega)) (fun c3 => ?_)))
  by_cases c4 : lanes > 8
  · rw [decide_eq_true c4]; exact bad (by omega)
  rw [decide_eq_false c4]
  refine f63.j1_in ?_
  unfold f63.j1T
  refine split_f ?_
  refine f63.j0_in ?_
  unfold f63.j0T
  refine ⟨by omega, by omega, by omega, by omega, newH_in fun h1 b1 e1 s1 => newH_in fun h2 b2 e2 s2 => ?_⟩
  rw [s1] at b2 ⊢
  have er : (mkCells #[Value.int .i64 0, Value.int .i64 0, Value.int .i64 0] (lanes.toNat * 3)).toList = (List.replicate lanes.toNat ((0, 0, 0) : Lane)).flatMap laneV := by
    rcases (show lanes.toNat = 1 ∨ lanes.toNat = 2 ∨ lanes.toNat = 3 ∨ lanes.toNat = 4 ∨ lanes.toNat = 5 ∨ lanes.toNat = 6 ∨ lanes.toNat = 7 ∨ lanes.toNat = 8 by omega) with h | h | h | h | h | h | h | h <;> rw [h] <;> kernel_rfl
  rw [er] at b1
  refine k2 (by omega) h2 ⟨b2, b1.ext e2, by omega, ?_⟩ (e1.trans e2) (by omega)
  exact { len := by simp, n0 := by omega, nx := by omega, el := fun x hx => by rw [List.eq_of_mem_replicate hx]; simp, f0 := by omega, sum := by
            have : held (List.replicate lanes.toNat ((0, 0, 0) : Lane)) = 0 := by unfold held; simp
            rw [this]; omega
          rm := by omega }

/-! ### What is asked of a pool -/
def wantOk (n : Nat) (i m : Int) : Prop := (0 ≤ i ∧ i < n) ∧ 1 ≤ m ∧ m ≤ 64
theorem want_spec (p : Pg h z b n room f nx L) {i m : Int} (k1 : ¬ wantOk n i m → R (.int .i64 1) h)
    (k2 : wantOk n i m → ∀ (k : Nat) (hk : k < L.length), i = k → L[k].1 + m > 64 → R (.int .i64 6) h)
    (k3 : wantOk n i m → ∀ (k : Nat) (hk : k < L.length), i = k → L[k].1 + m ≤ 64 → Inv n room f nx (L.set k (L[k].1 + m, L[k].2)) → ∀ h' L' nx' g', shareF f.toNat (L.set k (L[k].1 + m, L[k].2)) nx = (L', nx', g') → Pg h' z b n room (g' : Int) nx' L' → But2 z b h h' → R (.int .i64 0) h') :
    Run Try.prog 64 #[.pointer (some ⟨z, 0, none⟩), .int .i64 i, .int .i64 m] h R := by
  unfold wantOk at *
  refine f64.run ?_
  unfold f64.runT
  refine (is_spec p).ret ⟨_, rfl, split_not (split_dec (fun c1 => ?_) (fun c1 => k1 (by omega)))⟩
  refine split_dec (fun c2 => k1 (by omega)) (fun c2 => split_dec (fun c3 => k1 (by omega)) (fun c3 => ?_))
  have hlen := p.inv.len
  have hn := p.inv.n0
  obtain ⟨k, rfl⟩ : ∃ k : Nat, i = k := ⟨i.toNat, by omega⟩
  have hk : k < L.length := by omega
  have hat := p.inv.at hk
  refine f64.j0_in ?_
  unfold f64.j0T
  refine get p.pool rfl rfl rfl ⟨_, _, _, rfl, ?_⟩
  refine ⟨by omega, by omega, ?_⟩
  refine lget0 p.row hk ⟨_, rfl, ?_⟩
  rw [wrap_in (by omega) (by omega)]
  refine split_dec (fun c4 => k2 (by omega) k hk rfl c4) (fun c4 => ?_)
  refine get p.pool rfl rfl rfl ⟨_, _, _, rfl, ?_⟩
  refine ⟨by omega, by omega, ?_⟩
  refine lget0 p.row hk ⟨_, rfl, by omega, by omega, ?_⟩
  rw [wrap_in (by omega) (by omega)]
  refine lput0 p.row hk fun h1 r1 o1 => ?_
  have i1 : Inv n room f nx (L.set k (L[k].1 + m, L[k].2)) := p.inv.set hk _ ⟨by show 0 ≤ L[k].1 + m; omega, by show L[k].1 + m ≤ 64; omega, hat.2.2.1, hat.2.2.2.1⟩ p.inv.nx p.inv.f0 rfl
  have f0 := p.inv.f0
  refine share_spec (g := f.toNat) ⟨p.pool.only o1 p.ne, r1, p.ne, i1⟩ (by omega) fun h2 p2 e2 => ⟨rfl, ?_⟩
  exact k3 (by omega) k hk rfl (by omega) i1 h2 _ _ _ rfl p2 ((But2.only2 o1).trans e2)

theorem use_spec (p : Pg h z b n room f nx L) {i : Int} (k1 : ¬ (0 ≤ i ∧ i < n) → R (.int .i64 1) h)
    (k2 : (0 ≤ i ∧ i < n) → ∀ (k : Nat) (hk : k < L.length), i = k → ¬ L[k].2.1 > 0 → R (.int .i64 9) h)
    (k3 : (0 ≤ i ∧ i < n) → ∀ (k : Nat) (hk : k < L.length), i = k → L[k].2.1 > 0 → ∀ h', Pg h' z b n room f nx (L.set k (L[k].1, L[k].2.1 - 1, L[k].2.2 + 1)) → But2 z b h h' → R (.int .i64 0) h') :
    Run Try.prog 65 #[.pointer (some ⟨z, 0, none⟩), .int .i64 i] h R := by
  refine f65.run ?_
  unfold f65.runT
  refine (is_spec p).ret ⟨_, rfl, split_not (split_dec (fun c1 => ?_) (fun c1 => k1 (by omega)))⟩
  have hlen := p.inv.len
  have hn := p.inv.n0
  obtain ⟨k, rfl⟩ : ∃ k : Nat, i = k := ⟨i.toNat, by omega⟩
  have hk : k < L.length := by omega
  have hat := p.inv.at hk
  refine get p.pool rfl rfl rfl ⟨_, _, _, rfl, ?_⟩
  refine ⟨by omega, by omega, ?_⟩
  refine lgetA p.row (j := 1) hk (by omega) rfl ⟨_, rfl, ?_⟩
  refine split_eq (fun c2 => k2 c1 k hk rfl (by omega)) (fun c2 => ?_)
  refine get p.pool rfl rfl rfl ⟨_, _, _, rfl, ?_⟩
  refine ⟨by omega, by omega, ?_⟩
  refine lgetA p.row (j := 1) hk (by omega) rfl ⟨_, rfl, by omega, by omega, ?_⟩
  rw [wrap_in (by omega) (by omega)]
  refine lputA p.row (j := 1) hk (by omega) (L[k].1, L[k].2.1 - 1, L[k].2.2) rfl (by exact trivial) fun h1 r1 o1 => ?_
  have p1 := p.pool.only o1 p.ne
  have hk1 : k < (L.set k (L[k].1, L[k].2.1 - 1, L[k].2.2)).length := by rw [List.length_set]; exact hk
  have e1 : (L.set k (L[k].1, L[k].2.1 - 1, L[k].2.2))[k] = (L[k].1, L[k].2.1 - 1, L[k].2.2) := List.getElem_set_self _
  refine get p1 rfl rfl rfl ⟨_, _, _, rfl, ?_⟩
  refine ⟨by omega, by omega, ?_⟩
  refine lgetA r1 (j := 2) hk1 (by omega) (v := .int .i64 L[k].2.2) (by rw [e1]; rfl) ⟨_, rfl, by omega, by omega, ?_⟩
  rw [wrap_in (by omega) (by omega)]
  refine lputA r1 (j := 2) hk1 (by omega) (L[k].1, L[k].2.1 - 1, L[k].2.2 + 1) (by rw [e1]; rfl) (by exact trivial) fun h2 r2 o2 => ?_
  rw [List.set_set] at r2
  refine k3 c1 k hk rfl (by omega) h2 ⟨p1.only o2 p.ne, r2, p.ne, ?_⟩ ((But2.only2 o1).trans (But2.only2 o2))
  exact p.inv.set hk _ ⟨hat.1, hat.2.1, by show 0 ≤ L[k].2.1 - 1; omega, by show 0 ≤ L[k].2.2 + 1; omega⟩ p.inv.nx p.inv.f0 (by show f + (L[k].2.1 - 1 + (L[k].2.2 + 1)) = _; omega)

theorem free_spec (p : Pg h z b n room f nx L) {i : Int} (k1 : ¬ (0 ≤ i ∧ i < n) → R (.int .i64 1) h)
    (k2 : (0 ≤ i ∧ i < n) → ∀ (k : Nat) (hk : k < L.length), i = k → ¬ L[k].2.2 > 0 → R (.int .i64 8) h)
    (k3 : (0 ≤ i ∧ i < n) → ∀ (k : Nat) (hk : k < L.length), i = k → L[k].2.2 > 0 → Inv n room (f + 1) nx (L.set k (L[k].1, L[k].2.1, L[k].2.2 - 1)) → ∀ h' L' nx' g', shareF (f + 1).toNat (L.set k (L[k].1, L[k].2.1, L[k].2.2 - 1)) nx = (L', nx', g') → Pg h' z b n room (g' : Int) nx' L' → But2 z b h h' → R (.int .i64 0) h') :
    Run Try.prog 66 #[.pointer (some ⟨z, 0, none⟩), .int .i64 i] h R := by
  refine f66.run ?_
  unfold f66.runT
  refine (is_spec p).ret ⟨_, rfl, split_not (split_dec (fun c1 => ?_) (fun c1 => k1 (by omega)))⟩
  have hlen := p.inv.len
  have hn := p.inv.n0
  obtain ⟨k, rfl⟩ : ∃ k : Nat, i = k := ⟨i.toNat, by omega⟩
  have hk : k < L.length := by omega
  have hat := p.inv.at hk
  have f0 := p.inv.f0
  refine get p.pool rfl rfl rfl ⟨_, _, _, rfl, ?_⟩
  refine ⟨by omega, by omega, ?_⟩
  refine lgetA p.row (j := 2) hk (by omega) rfl ⟨_, rfl, ?_⟩
  refine split_eq (fun c2 => k2 c1 k hk rfl (by omega)) (fun c2 => ?_)
  refine get p.pool rfl rfl rfl ⟨_, _, _, rfl, ?_⟩
  refine ⟨by omega, by omega, ?_⟩
  refine lgetA p.row (j := 2) hk (by omega) rfl ⟨_, rfl, by omega, by omega, ?_⟩
  rw [wrap_in (by omega) (by omega)]
  refine lputA p.row (j := 2) hk (by omega) (L[k].1, L[k].2.1, L[k].2.2 - 1) rfl (by exact trivial) fun h1 r1 o1 => ?_
  have p1 := p.pool.only o1 p.ne
  refine get p1 rfl rfl rfl ⟨_, rfl, ?_⟩
  rw [wrap_in (by omega) (by omega)]
  refine put p1 rfl rfl (by show 1 < 4; omega) (by exact trivial) fun h2 p2 o2 => ?_
  have i1 : Inv n room (f + 1) nx (L.set k (L[k].1, L[k].2.1, L[k].2.2 - 1)) := p.inv.set hk _ ⟨hat.1, hat.2.1, hat.2.2.1, by show 0 ≤ L[k].2.2 - 1; omega⟩ p.inv.nx (by omega) (by show f + 1 + (L[k].2.1 + (L[k].2.2 - 1)) = _; omega)
  refine share_spec (g := (f + 1).toNat) ⟨p2, r1.only o2 (fun he => p.ne he.symm), p.ne, i1⟩ (by omega) fun h3 p3 e3 => ⟨rfl, ?_⟩
  exact k3 c1 k hk rfl (by omega) i1 h3 _ _ _ rfl p3 ((But2.only2 o1).trans ((But2.only1 o2).trans e3))

theorem drop_spec (p : Pg h z b n room f nx L) {i : Int} (k1 : ¬ (0 ≤ i ∧ i < n) → R (.int .i64 1) h)
    (k3 : (0 ≤ i ∧ i < n) → ∀ (k : Nat) (hk : k < L.length), i = k → Inv n room (f + (L[k].2.1 + L[k].2.2)) nx (L.set k (0, 0, 0)) → ∀ h' L' nx' g', shareF (f + (L[k].2.1 + L[k].2.2)).toNat (L.set k (0, 0, 0)) nx = (L', nx', g') → Pg h' z b n room (g' : Int) nx' L' → But2 z b h h' → R (.int .i64 0) h') :
    Run Try.prog 67 #[.pointer (some ⟨z, 0, none⟩), .int .i64 i] h R := by
  refine f67.run ?_
  unfold f67.runT
  refine (is_spec p).ret ⟨_, rfl, split_not (split_dec (fun c1 => ?_) (fun c1 => k1 (by omega)))⟩
  have hlen := p.inv.len
  have hn := p.inv.n0
  obtain ⟨k, rfl⟩ : ∃ k : Nat, i = k := ⟨i.toNat, by omega⟩
  have hk : k < L.length := by omega
  have hat := p.inv.at hk
  have f0 := p.inv.f0
  refine get p.pool rfl rfl rfl ⟨_, rfl, ?_⟩
  refine get p.pool rfl rfl rfl ⟨_, _, _, rfl, ?_⟩
  refine ⟨by omega, by omega, ?_⟩
  refine lgetA p.row (j := 1) hk (by omega) rfl ⟨_, rfl, ?_⟩
  refine get p.pool rfl rfl rfl ⟨_, _, _, rfl, ?_⟩
  refine ⟨by omega, by omega, ?_⟩
  refine lgetA p.row (j := 2) hk (by omega) rfl ⟨_, rfl, ?_⟩
  rw [wrap_in (n := L[k].2.1 + L[k].2.2) (by omega) (by omega), wrap_in (by omega) (by omega)]
  refine put p.pool rfl rfl (by show 1 < 4; omega) (by exact trivial) fun h1 p1 o1 => ?_
  refine get p1 rfl rfl rfl ⟨_, _, _, rfl, ?_⟩
  refine ⟨by omega, by omega, laneV (0, 0, 0), rfl, rfl, ?_⟩
  have r1 := p.row.only o1 (fun he => p.ne he.symm)
  refine lputAll r1 hk (0, 0, 0) fun h2 r2 o2 => ?_
  have i1 : Inv n room (f + (L[k].2.1 + L[k].2.2)) nx (L.set k (0, 0, 0)) := p.inv.set hk _ ⟨by simp, by simp, by simp, by simp⟩ p.inv.nx (by omega) (by show f + (L[k].2.1 + L[k].2.2) + (0 + 0) = _; omega)
  refine share_spec (g := (f + (L[k].2.1 + L[k].2.2)).toNat) ⟨p1.only o2 p.ne, r2, p.ne, i1⟩ (by omega) fun h3 p3 e3 => ⟨rfl, ?_⟩
  exact k3 c1 k hk rfl i1 h3 _ _ _ rfl p3 ((But2.only1 o1).trans ((But2.only2 o2).trans e3))

theorem left_spec (p : Pg h z b n room f nx L) : Run Try.prog 69 #[.pointer (some ⟨z, 0, none⟩)] h fun u h' => u = .int .i64 f ∧ h' = h := by
  refine f69.run ?_
  unfold f69.runT
  exact get p.pool rfl rfl rfl ⟨_, rfl, rfl, rfl⟩
theorem lane_spec (p : Pg h z b n room f nx L) {i : Int} (k1 : ¬ (0 ≤ i ∧ i < n) → R (.tuple #[.int .i64 0, .int .i64 0, .int .i64 0, .int .i64 1]) h)
    (k2 : ∀ (k : Nat) (hk : k < L.length), i = k → ∀ h', Ext h h' → R (.tuple #[.int .i64 L[k].1, .int .i64 L[k].2.1, .int .i64 L[k].2.2, .int .i64 0]) h') : Run Try.prog 71 #[.pointer (some ⟨z, 0, none⟩), .int .i64 i] h R := by
  refine f71.run ?_
  unfold f71.runT
  refine (is_spec p).ret ⟨_, rfl, split_not (split_dec (fun c1 => ?_) (fun c1 => k1 (by omega)))⟩
  have hlen := p.inv.len
  obtain ⟨k, rfl⟩ : ∃ k : Nat, i = k := ⟨i.toNat, by omega⟩
  have hk : k < L.length := by omega
  refine get p.pool rfl rfl rfl ⟨_, _, _, rfl, ?_⟩
  refine ⟨by omega, by omega, _, lall p.row hk, ?_⟩
  refine box_in (laneV L[k]) rfl rfl rfl (laneV_flat _) fun h1 b1 e1 _ => ?_
  refine get b1 rfl rfl rfl ⟨_, rfl, get b1 rfl rfl rfl ⟨_, rfl, get b1 rfl rfl rfl ⟨_, rfl, k2 k hk rfl h1 e1⟩⟩⟩
end

/-! ### The law's model of a pool -/
structure Mo (h : Heap) (y b n : Nat) (room : Int) (nx : Nat) (L : List Lane) : Prop where
  pool : Blk h y [.int .i64 room, .int .i64 nx, .slice (some ⟨b, 0, none⟩) n n] 96
  row : Blk h b (L.flatMap laneV) 97
  ne : y ≠ b
theorem held_take {L : List Lane} (h : ∀ x ∈ L, 0 ≤ x.2.1 ∧ 0 ≤ x.2.2) (i : Nat) : 0 ≤ held (L.take i) ∧ held (L.take i) ≤ held L := by
  have e : held L = held (L.take i) + held (L.drop i) := by
    unfold held
    rw [← List.sum_append, ← List.map_append, List.take_append_drop]
  have h1 := (held_ge (L := L.take i) fun x hx => h x (List.mem_of_mem_take hx)).1
  have h2 := (held_ge (L := L.drop i) fun x hx => h x (List.mem_of_mem_drop hx)).1
  omega
theorem held_succ {L : List Lane} {i : Nat} (h : i < L.length) : held (L.take (i + 1)) = held (L.take i) + (L[i].2.1 + L[i].2.2) := by
  rw [List.take_succ_eq_append_getElem h]
  unfold held
  rw [List.map_append, List.sum_append]; simp

section
variable {h : Heap} {y b n : Nat} {room : Int} {nx : Nat} {L : List Lane} {R : Value → Heap → Prop}
theorem Mo.ext {h' : Heap} (p : Mo h y b n room nx L) (e : Ext h h') : Mo h' y b n room nx L := ⟨p.pool.ext e, p.row.ext e, p.ne⟩

theorem mleft_spec {f : Int} {nx' : Nat} (p : Mo h y b n room nx L) (hi : Inv n room f nx' L) : Run Try.prog 70 #[.pointer (some ⟨y, 0, none⟩)] h fun u h' => u = .int .i64 f ∧ Ext h h' := by
  refine f70.run ?_
  unfold f70.runT
  have hn := hi.n0
  have hlen := hi.len
  have hsum := hi.sum
  have hf0 := hi.f0
  have hrm := hi.rm
  have hpos : ∀ x ∈ L, 0 ≤ x.2.1 ∧ 0 ≤ x.2.2 := fun x hx => ⟨(hi.el x hx).2.2.1, (hi.el x hx).2.2.2⟩
  refine get p.pool rfl rfl rfl ⟨_, rfl, ?_⟩
  refine get p.pool rfl rfl rfl ⟨_, _, _, rfl, ?_⟩
  have loop : ∀ (d i : Nat) (h' : Heap), i + d = n → Ext h h' → f70.l0 (fun u h' => u = .int .i64 f ∧ Ext h h') (room - held (L.take i)) (some ⟨b, 0, none⟩) n n (n : Int) (i : Int) h' := by
    intro d
    induction d with
    | zero =>
      intro i h' hid e
      refine f70.l0_in ?_
      unfold f70.l0T
      refine split_dec (fun c => by omega) fun _ => ⟨?_, e⟩
      rw [List.take_of_length_le (by omega), ← hsum]; congr 1; omega
    | succ d ih =>
      intro i h' hid e
      have hk : i < L.length := by omega
      have hat := hi.at hk
      have ht := held_take hpos i
      have ht1 := held_take hpos (i + 1)
      have hs1 := held_succ hk
      refine f70.l0_in ?_
      unfold f70.l0T
      refine split_dec (fun _ => ?_) (fun c => by omega)
      refine ⟨by omega, by omega, _, lall (p.row.ext e) hk, ?_⟩
      refine box_in (laneV L[i]) rfl rfl rfl (laneV_flat _) fun h1 b1 e1 _ => ⟨by omega, by omega, ?_⟩
      refine get b1 rfl rfl rfl ⟨_, rfl, by omega, by omega, get b1 rfl rfl rfl ⟨_, rfl, ?_⟩⟩
      have e2 : IntKind.wrap .i64 ((i : Int) + 1) = ((i + 1 : Nat) : Int) := by rw [wrap_in (by omega) (by omega)]; omega
      rw [e2, wrap_in (n := L[i].2.1 + L[i].2.2) (by omega) (by omega), wrap_in (by omega) (by omega)]
      have := ih (i + 1) h1 (by omega) (e.trans e1)
      rwa [show room - held (L.take (i + 1)) = room - held (L.take i) - (L[i].2.1 + L[i].2.2) by omega] at this
  have := loop n 0 h (by omega) ⟨Nat.le_refl _, fun _ _ => rfl⟩
  simpa [held] using this

theorem mod_next (a n : Nat) (h : 0 < n) : (a % n + 1) % n = (a + 1) % n := by rw [Nat.add_mod, Nat.mod_mod, ← Nat.add_mod]

theorem mshare_loop : ∀ (g : Nat) (L : List Lane) (nx : Nat) (h : Heap), Mo h y b n room nx L → Inv n room (g : Int) nx L →
    (∀ h', Mo h' y b n room (shareF g L nx).2.1 (shareF g L nx).1 → But2 y b h h' → R (.tuple #[]) h') → f68.l0 R ⟨y, 0, none⟩ h := by
  intro g
  induction g with
  | zero =>
    intro L nx h p i hR
    refine f68.l0_in ?_
    unfold f68.l0T
    refine (mleft_spec p i).mono ?_
    rintro _ h1 ⟨rfl, e1⟩
    refine ⟨_, rfl, ?_⟩
    exact split_dec (fun c => by omega) fun _ => hR h1 (p.ext e1) (.ofExt e1)
  | succ g ih =>
    intro L nx h p i hR
    have hn := i.n0
    have hlen := i.len
    have hnx := i.nx
    refine f68.l0_in ?_
    unfold f68.l0T
    refine (mleft_spec p i).mono ?_
    rintro _ h1 ⟨rfl, e1⟩
    refine ⟨_, rfl, ?_⟩
    refine split_dec (fun _ => ?_) (fun c => by omega)
    have p1 := p.ext e1
    refine get p1.pool rfl rfl rfl ⟨_, _, _, rfl, ?_⟩
    have search : ∀ (d j : Nat) (h' : Heap), j + d = n → pick L nx = pickF L nx j d → Mo h' y b n room ((nx + j) % n) L → But2 y b h h' → f68.l1 R ⟨y, 0, none⟩ false (n : Int) (j : Int) h' := by
      intro d
      induction d with
      | zero =>
        intro j h' hj hp q e
        refine f68.l1_in ?_
        unfold f68.l1T
        refine split_dec (fun c => by omega) fun _ => ?_
        refine f68.j0_in ?_
        unfold f68.j0T
        refine split_not (split_f ?_)
        have hs : shareF (g + 1) L nx = (L, nx, g + 1) := shareF_done (.inr (by rw [hp]; rfl))
        rw [hs] at hR
        have hj' : (nx + j) % n = nx := by rw [show j = n by omega, Nat.add_mod_right, Nat.mod_eq_of_lt hnx]
        rw [hj'] at q
        exact hR h' q e
      | succ d ihd =>
        intro j h' hj hp q e
        rw [pickF_succ, hlen] at hp
        refine f68.l1_in ?_
        unfold f68.l1T
        refine split_dec (fun _ => ?_) (fun c => by omega)
        have hk : (nx + j) % n < L.length := by rw [hlen]; exact Nat.mod_lt _ hn.1
        have enext : ((nx + j) % n + 1) % n = (nx + (j + 1)) % n := by rw [mod_next _ _ hn.1, Nat.add_assoc]
        generalize hkk : (nx + j) % n = k at *
        refine get q.pool rfl rfl rfl ⟨_, _, _, rfl, ?_⟩
        refine get q.pool rfl rfl rfl ⟨_, rfl, ?_⟩
        refine ⟨by omega, by omega, ?_⟩
        refine get q.pool rfl rfl rfl ⟨_, rfl, ?_⟩
        refine get q.pool rfl rfl rfl ⟨_, _, _, rfl, by omega, ?_⟩
        have ek : Int.tmod (IntKind.wrap .i64 ((k : Int) + 1)) (n : Int) = (((k + 1) % n : Nat) : Int) := by
          rw [wrap_in (by omega) (by omega), show (k : Int) + 1 = ((k + 1 : Nat) : Int) by omega, Int.tmod_eq_emod_of_nonneg (by omega)]; rfl
        rw [ek]
        refine put q.pool rfl rfl (by show 1 < 3; omega) (by exact trivial) fun h2 p2 o2 => ⟨by omega, by omega, ?_⟩
        have r2 := q.row.only o2 (fun he => p.ne he.symm)
        refine lgetA r2 (j := 0) hk (by omega) rfl ⟨_, rfl, ?_⟩
        have hwk : wants L k = decide (L[k].1 > 0) := by unfold wants; rw [lgetD hk]
        refine split_dec (fun c => ?_) (fun c => ?_)
        · rw [hwk, decide_eq_true c, if_pos rfl] at hp
          have hs : shareF (g + 1) L nx = shareF g (give L k) ((k + 1) % n) := by
            rw [← hlen]
            show (match pick L nx with | none => (L, nx, g + 1) | some k => shareF g (give L k) ((k + 1) % L.length)) = _
            rw [hp]
          rw [hs] at hR
          have hat := i.at hk
          have hg := i.give hk (by rw [hwk, decide_eq_true c])
          refine ⟨by omega, by omega, ?_⟩
          refine lgetA r2 (j := 0) hk (by omega) rfl ⟨_, rfl, by omega, by omega, ?_⟩
          rw [wrap_in (by omega) (by omega)]
          refine lputA r2 (j := 0) hk (by omega) (L[k].1 - 1, L[k].2) rfl (by exact trivial) fun h3 r3 o3 => ⟨by omega, by omega, ?_⟩
          have hk1 : k < (L.set k (L[k].1 - 1, L[k].2)).length := by rw [List.length_set]; exact hk
          have e1' : (L.set k (L[k].1 - 1, L[k].2))[k] = (L[k].1 - 1, L[k].2) := List.getElem_set_self _
          refine lgetA r3 (j := 1) hk1 (by omega) (v := .int .i64 L[k].2.1) (by rw [e1']; rfl) ⟨_, rfl, by omega, by omega, ?_⟩
          rw [wrap_in (by omega) (by omega)]
          refine lputA r3 (j := 1) hk1 (by omega) (L[k].1 - 1, L[k].2.1 + 1, L[k].2.2) (by rw [e1']; rfl) (by exact trivial) fun h4 r4 o4 => ?_
          rw [List.set_set] at r4
          have p4 := (p2.only o3 p.ne).only o4 p.ne
          have egive : give L k = L.set k (L[k].1 - 1, L[k].2.1 + 1, L[k].2.2) := by unfold give; rw [lgetD hk]
          rw [hlen] at hg
          refine f68.j0_in ?_
          unfold f68.j0T
          refine split_not (split_t ?_)
          refine ih (give L k) ((k + 1) % n) h4 ⟨p4, by rw [egive]; exact r4, p.ne⟩ hg fun h' p' e' => hR h' p' ?_
          exact e.trans ((But2.only1 o2).trans ((But2.only2 o3).trans ((But2.only2 o4).trans e')))
        · rw [hwk, decide_eq_false c, if_neg (by simp)] at hp
          have e2 : IntKind.wrap .i64 ((j : Int) + 1) = ((j + 1 : Nat) : Int) := by rw [wrap_in (by omega) (by omega)]; omega
          rw [e2]
          rw [enext] at p2
          exact ihd (j + 1) h2 (by omega) hp ⟨p2, r2, p.ne⟩ (e.trans (But2.only1 o2))
    exact search n 0 h1 (by omega) (by unfold pick; rw [hlen]) (by rw [Nat.add_zero, Nat.mod_eq_of_lt hnx]; exact p1) (.ofExt e1)
theorem mshare_spec (p : Mo h y b n room nx L) {g : Nat} (i : Inv n room (g : Int) nx L) (hR : ∀ h', Mo h' y b n room (shareF g L nx).2.1 (shareF g L nx).1 → But2 y b h h' → R (.tuple #[]) h') : Run Try.prog 68 #[.pointer (some ⟨y, 0, none⟩)] h R := by
  refine f68.run ?_
  unfold f68.runT
  exact mshare_loop g L nx h p i hR
end

/-! ### The law -/
section
variable {h0 : Heap} {z b y b' n : Nat} {room : Int}
/-- Four blocks of their own, behind what was there. -/
structure Sep (h0 : Heap) (z b y b' : Nat) : Prop where
  z0 : h0.size ≤ z
  b0 : h0.size ≤ b
  y0 : h0.size ≤ y
  b0' : h0.size ≤ b'
  zy : z ≠ y
  zb' : z ≠ b'
  by' : b ≠ y
  bb' : b ≠ b'

theorem Mo.but {h h' : Heap} {nx : Nat} {L : List Lane} (sp : Sep h0 z b y b') (m : Mo h y b' n room nx L) (e : But2 z b h h') : Mo h' y b' n room nx L :=
  ⟨e.blk m.pool (fun he => sp.zy he.symm) (fun he => sp.by' he.symm), e.blk m.row (fun he => sp.zb' he.symm) (fun he => sp.bb' he.symm), m.ne⟩
theorem Pg.but {h h' : Heap} {f : Int} {nx : Nat} {L : List Lane} (sp : Sep h0 z b y b') (m : Pg h z b n room f nx L) (e : But2 y b' h h') : Pg h' z b n room f nx L :=
  ⟨e.blk m.pool sp.zy sp.zb', e.blk m.row sp.by' sp.bb', m.ne, m.inv⟩

set_option maxRecDepth 100000 in
/-- What the law looks at behind each play. -/
theorem look {R : Value → Heap → Prop} {AP : Option Addr} {nP cP : Nat} {x87 x88 e : Int} {h : Heap} {f1 nx nx' g' : Nat} {L1 L' : List Lane} (sp : Sep h0 z b y b') (eh : Ext h0 h) (m : Mo h y b' n room nx L1) (i1 : Inv n room (f1 : Int) nx L1) (hs : shareF f1 L1 nx = (L', nx', g')) (p : Pg h z b n room (g' : Int) nx' L')
    (hk : ∀ h', Ext h0 h' → Pg h' z b n room (g' : Int) nx' L' → Mo h' y b' n room nx' L' → (g' = 0 ∨ pick L' nx' = none) → f11.l0 R (n : Int) (some ⟨z, 0, none⟩) ⟨y, 0, none⟩ AP nP cP x87 (IntKind.wrap .i64 (x88 + 1)) h') :
    f11.j5 R (n : Int) (some ⟨z, 0, none⟩) ⟨y, 0, none⟩ e e AP nP cP x87 x88 h := by
  refine f11.j5_in ?_
  unfold f11.j5T
  have hdone := (shareF_inv f1 L1 nx i1).2
  rw [hs] at hdone
  refine mshare_spec m i1 fun h1 m1 e1 => ⟨rfl, split_ne (fun c => absurd rfl c) fun _ => ?_⟩
  rw [hs] at m1
  have p1 := p.but sp e1
  have eh1 := e1.ext eh sp.y0 sp.b0'
  refine (left_spec p1).ret ⟨_, rfl, ?_⟩
  refine (mleft_spec m1 p1.inv).mono ?_
  rintro _ h2 ⟨rfl, e2⟩
  refine ⟨_, rfl, split_ne (fun c => absurd rfl c) fun _ => ?_⟩
  refine f11.j6_in ?_
  unfold f11.j6T
  have hlen := p.inv.len
  have hn := p.inv.n0
  have loop : ∀ (d : Nat) (i : Int) (h' : Heap), i + d = (n : Int) + 1 → -1 ≤ i → Ext h2 h' → f11.l1 R (n : Int) (some ⟨z, 0, none⟩) ⟨y, 0, none⟩ i AP nP cP x87 x88 h' := by
    intro d
    induction d with
    | zero =>
      intro i h' hi _ e'
      refine f11.l1_in ?_
      unfold f11.l1T
      refine split_dec (fun c => by omega) fun _ => ?_
      exact hk h' (eh1.trans (e2.trans e')) (p1.ext (e2.trans e')) (m1.ext (e2.trans e')) hdone
    | succ d ih =>
      intro i h' hi hi1 e'
      have p2 := p1.ext (e2.trans e')
      have m2 := m1.ext (e2.trans e')
      have ew : IntKind.wrap .i64 (i + 1) = i + 1 := wrap_in (by omega) (by omega)
      refine f11.l1_in ?_
      unfold f11.l1T
      refine split_dec (fun _ => ?_) (fun c => by omega)
      refine lane_spec p2 (fun c => ⟨_, _, _, _, rfl, ?_⟩) (fun k hkl he h3 e3 => ⟨_, _, _, _, rfl, ?_⟩)
      · have hj : f11.j9 R (n : Int) (some ⟨z, 0, none⟩) ⟨y, 0, none⟩ i 0 0 0 1 AP nP cP x87 x88 true h' := by
          refine f11.j9_in ?_
          unfold f11.j9T
          refine split_t ?_
          refine split_ne (fun c => absurd rfl c) fun _ => split_ne (fun c => absurd rfl c) fun _ => split_ne (fun c => absurd rfl c) fun _ => split_ne (fun c => absurd rfl c) fun _ => ?_
          refine f11.j8_in ?_
          unfold f11.j8T
          rw [ew]
          exact ih (i + 1) h' (by omega) (by omega) e'
        refine split_dec (fun _ => hj) (fun c2 => ?_)
        rw [show (i == (n : Int)) = true from beq_iff_eq.2 (by omega)]
        exact hj
      · subst he
        refine split_dec (fun c => by omega) (fun _ => ?_)
        rw [show ((k : Int) == (n : Int)) = false from beq_eq_false_iff_ne.2 (by omega)]
        have m3 := m2.ext e3
        refine f11.j9_in ?_
        unfold f11.j9T
        refine split_f (split_ne (fun c => absurd rfl c) fun _ => ?_)
        refine get m3.pool rfl rfl rfl ⟨_, _, _, rfl, ?_⟩
        refine ⟨by omega, by omega, _, lall m3.row hkl, ?_⟩
        refine gen_neq (xs := #[.int .i64 L'[k].1, .int .i64 L'[k].2.1, .int .i64 L'[k].2.2]) (ys := (laneV L'[k]).toArray) (b := (L'[k].1 == L'[k].1 && (L'[k].2.1 == L'[k].2.1 && (L'[k].2.2 == L'[k].2.2 && true)))) (by kernel_rfl) ⟨_, rfl, ?_⟩
        rw [show (!(L'[k].1 == L'[k].1 && (L'[k].2.1 == L'[k].2.1 && (L'[k].2.2 == L'[k].2.2 && true)))) = false by simp]
        refine split_f ?_
        refine f11.j8_in ?_
        unfold f11.j8T
        rw [ew]
        exact ih ((k : Int) + 1) h3 (by omega) (by omega) (e'.trans e3)
  exact loop (n + 2) (-1) h2 (by omega) (by omega) ⟨Nat.le_refl _, fun _ _ => rfl⟩

/-- One play. -/
theorem play {R : Value → Heap → Prop} {AP A13 : Option Addr} {nP cP c13 : Nat} {x87 x88 : Int} {l : List Int} {h : Heap} {f nx : Nat} {L : List Lane} {b16 : Bool} (sp : Sep h0 z b y b') (eh : Ext h0 h) (p : Pg h z b n room (f : Int) nx L) (m : Mo h y b' n room nx L) (hd : f = 0 ∨ pick L nx = none)
    (hr : Rd 1 (eInt .i64) h A13 l) (hb : b16 = decide (0 ≤ l.getD 1 0 ∧ l.getD 1 0 < n))
    (hk : ∀ (h' : Heap) (f' nx' : Nat) (L' : List Lane), Ext h0 h' → Pg h' z b n room (f' : Int) nx' L' → Mo h' y b' n room nx' L' → (f' = 0 ∨ pick L' nx' = none) → f11.l0 R (n : Int) (some ⟨z, 0, none⟩) ⟨y, 0, none⟩ AP nP cP x87 (IntKind.wrap .i64 (x88 + 1)) h') :
    f11.j4 R (n : Int) (some ⟨z, 0, none⟩) ⟨y, 0, none⟩ A13 l.length c13 (l.getD 1 0) (l.getD 2 0) b16 AP nP cP x87 x88 h := by
  generalize l.getD 1 0 = i at *
  generalize l.getD 2 0 = q at *
  have hlen := p.inv.len
  have hn := p.inv.n0
  have stay : ∀ w, f11.j5 R (n : Int) (some ⟨z, 0, none⟩) ⟨y, 0, none⟩ w w AP nP cP x87 x88 h := fun w =>
    look sp eh m p.inv (shareF_done hd) p fun h' e' p' m' d' => hk h' f nx L e' p' m' d'
  refine f11.j4_in ?_
  unfold f11.j4T
  refine (at_spec hr (i := 0) rfl).ret ⟨_, rfl, ?_⟩
  refine split_eq (fun _ => ?_) (fun _ => split_eq (fun _ => ?_) (fun _ => split_eq (fun _ => ?_) (fun _ => split_eq (fun _ => ?_) (fun _ => stay 0))))
  · -- Want
    have in7 : ∀ (c w : Int) (h' : Heap), (0 ≤ i ∧ i < n) → 1 ≤ q → q ≤ 64 → f11.j7 R (n : Int) (some ⟨z, 0, none⟩) ⟨y, 0, none⟩ i q c w AP nP cP x87 x88 true h' →
        splitB b16 (splitB (decide (q ≥ 1)) (f11.j7 R (n : Int) (some ⟨z, 0, none⟩) ⟨y, 0, none⟩ i q c w AP nP cP x87 x88 (decide (q ≤ 64)) h') (f11.j7 R (n : Int) (some ⟨z, 0, none⟩) ⟨y, 0, none⟩ i q c w AP nP cP x87 x88 false h')) (f11.j7 R (n : Int) (some ⟨z, 0, none⟩) ⟨y, 0, none⟩ i q c w AP nP cP x87 x88 false h') := by
      intro c w h' h1 h2 h3 hj
      rw [hb, decide_eq_true h1]
      refine split_t (split_dec (fun _ => ?_) (fun c => by omega))
      rw [decide_eq_true h3]; exact hj
    refine want_spec p (fun c1 => ⟨_, rfl, ?_⟩) (fun c1 k hkl he c2 => ⟨_, rfl, in7 _ _ _ c1.1 c1.2.1 c1.2.2 ?_⟩) (fun c1 k hkl he c2 i1 h1 L' nx' g' hs p1 e1 => ⟨_, rfl, in7 _ _ _ c1.1 c1.2.1 c1.2.2 ?_⟩)
    · unfold wantOk at c1
      have hj : f11.j7 R (n : Int) (some ⟨z, 0, none⟩) ⟨y, 0, none⟩ i q 1 1 AP nP cP x87 x88 false h := by
        refine f11.j7_in ?_
        unfold f11.j7T
        exact split_f (stay 1)
      rw [hb]
      refine split_dec (fun c2 => split_dec (fun c3 => ?_) (fun _ => hj)) (fun _ => hj)
      rw [decide_eq_false (by omega)]; exact hj
    · subst he
      have hat := p.inv.at hkl
      refine f11.j7_in ?_
      unfold f11.j7T
      refine split_t ?_
      refine get m.pool rfl rfl rfl ⟨_, _, _, rfl, ?_⟩
      refine ⟨by omega, by omega, by omega, by omega, ?_⟩
      refine lgetA m.row (j := 0) hkl (by omega) rfl ⟨_, rfl, ?_⟩
      unfold wantOk at c1
      rw [wrap_in (by omega) (by omega)]
      exact split_dec (fun c => by omega) fun _ => stay 6
    · subst he
      have hat := p.inv.at hkl
      have m1 := m.but sp e1
      refine f11.j7_in ?_
      unfold f11.j7T
      refine split_t ?_
      unfold wantOk at c1
      refine get m1.pool rfl rfl rfl ⟨_, _, _, rfl, ?_⟩
      refine ⟨by omega, by omega, by omega, by omega, ?_⟩
      refine lgetA m1.row (j := 0) hkl (by omega) rfl ⟨_, rfl, ?_⟩
      rw [wrap_in (by omega) (by omega)]
      refine split_dec (fun _ => ?_) (fun c => by omega)
      refine get m1.pool rfl rfl rfl ⟨_, _, _, rfl, ?_⟩
      refine ⟨by omega, by omega, by omega, by omega, by omega, by omega, ?_⟩
      refine lgetA m1.row (j := 0) hkl (by omega) rfl ⟨_, rfl, by omega, by omega, ?_⟩
      rw [wrap_in (by omega) (by omega)]
      refine lputA m1.row (j := 0) hkl (by omega) (L[k].1 + q, L[k].2) rfl (by exact trivial) fun h2 r2 o2 => ?_
      have b2 : But2 y b' h1 h2 := But2.only2 o2
      have eh2 := b2.ext (e1.ext eh sp.z0 sp.b0) sp.y0 sp.b0'
      rw [Int.toNat_natCast] at hs
      exact look sp eh2 ⟨m1.pool.only o2 m.ne, r2, m.ne⟩ i1 hs (p1.but sp b2) fun h' e' p' m' d' => hk h' g' nx' L' e' p' m' d'
  · -- Use
    refine use_spec p (fun c1 => ⟨_, rfl, ?_⟩) (fun c1 k hkl he c2 => ⟨_, rfl, ?_⟩) (fun c1 k hkl he c2 h1 p1 e1 => ⟨_, rfl, ?_⟩)
    · rw [hb, decide_eq_false c1]
      exact split_f (stay 1)
    · subst he
      have hat := p.inv.at hkl
      rw [hb, decide_eq_true c1]
      refine split_t ?_
      refine get m.pool rfl rfl rfl ⟨_, _, _, rfl, ?_⟩
      refine ⟨by omega, by omega, by omega, by omega, ?_⟩
      refine lgetA m.row (j := 1) hkl (by omega) rfl ⟨_, rfl, ?_⟩
      exact split_dec (fun c => absurd c c2) fun _ => stay 9
    · subst he
      have hat := p.inv.at hkl
      have m1 := m.but sp e1
      rw [hb, decide_eq_true c1]
      refine split_t ?_
      refine get m1.pool rfl rfl rfl ⟨_, _, _, rfl, ?_⟩
      refine ⟨by omega, by omega, by omega, by omega, ?_⟩
      refine lgetA m1.row (j := 1) hkl (by omega) rfl ⟨_, rfl, ?_⟩
      refine split_dec (fun _ => ?_) (fun c => absurd c2 c)
      refine get m1.pool rfl rfl rfl ⟨_, _, _, rfl, ?_⟩
      refine ⟨by omega, by omega, by omega, by omega, by omega, by omega, ?_⟩
      refine lgetA m1.row (j := 1) hkl (by omega) rfl ⟨_, rfl, by omega, by omega, ?_⟩
      rw [wrap_in (by omega) (by omega)]
      refine lputA m1.row (j := 1) hkl (by omega) (L[k].1, L[k].2.1 - 1, L[k].2.2) rfl (by exact trivial) fun h2 r2 o2 => ?_
      have q2 := m1.pool.only o2 m.ne
      have hk1 : k < (L.set k (L[k].1, L[k].2.1 - 1, L[k].2.2)).length := by rw [List.length_set]; exact hkl
      have e1' : (L.set k (L[k].1, L[k].2.1 - 1, L[k].2.2))[k] = (L[k].1, L[k].2.1 - 1, L[k].2.2) := List.getElem_set_self _
      refine get q2 rfl rfl rfl ⟨_, _, _, rfl, ?_⟩
      refine ⟨by omega, by omega, by omega, by omega, by omega, by omega, ?_⟩
      refine lgetA r2 (j := 2) hk1 (by omega) (v := .int .i64 L[k].2.2) (by rw [e1']; rfl) ⟨_, rfl, by omega, by omega, ?_⟩
      rw [wrap_in (by omega) (by omega)]
      refine lputA r2 (j := 2) hk1 (by omega) (L[k].1, L[k].2.1 - 1, L[k].2.2 + 1) (by rw [e1']; rfl) (by exact trivial) fun h3 r3 o3 => ?_
      rw [List.set_set] at r3
      have b3 : But2 y b' h1 h3 := (But2.only2 o2).trans (But2.only2 o3)
      have eh3 := b3.ext (e1.ext eh sp.z0 sp.b0) sp.y0 sp.b0'
      have p3 := p1.but sp b3
      refine look sp eh3 ⟨q2.only o3 m.ne, r3, m.ne⟩ p1.inv (shareF_done ?_) p3 fun h' e' p' m' d' => hk h' f nx _ e' p' m' d'
      rcases hd with h | h
      · exact .inl h
      · exact .inr (by rw [pick_same hkl]; exact h; rfl)
  · -- Free
    refine free_spec p (fun c1 => ⟨_, rfl, ?_⟩) (fun c1 k hkl he c2 => ⟨_, rfl, ?_⟩) (fun c1 k hkl he c2 i1 h1 L' nx' g' hs p1 e1 => ⟨_, rfl, ?_⟩)
    · rw [hb, decide_eq_false c1]
      exact split_f (stay 1)
    · subst he
      rw [hb, decide_eq_true c1]
      refine split_t ?_
      refine get m.pool rfl rfl rfl ⟨_, _, _, rfl, ?_⟩
      refine ⟨by omega, by omega, by omega, by omega, ?_⟩
      refine lgetA m.row (j := 2) hkl (by omega) rfl ⟨_, rfl, ?_⟩
      exact split_dec (fun c => absurd c c2) fun _ => stay 8
    · subst he
      have hat := p.inv.at hkl
      have m1 := m.but sp e1
      rw [hb, decide_eq_true c1]
      refine split_t ?_
      refine get m1.pool rfl rfl rfl ⟨_, _, _, rfl, ?_⟩
      refine ⟨by omega, by omega, by omega, by omega, ?_⟩
      refine lgetA m1.row (j := 2) hkl (by omega) rfl ⟨_, rfl, ?_⟩
      refine split_dec (fun _ => ?_) (fun c => absurd c2 c)
      refine get m1.pool rfl rfl rfl ⟨_, _, _, rfl, ?_⟩
      refine ⟨by omega, by omega, by omega, by omega, by omega, by omega, ?_⟩
      refine lgetA m1.row (j := 2) hkl (by omega) rfl ⟨_, rfl, by omega, by omega, ?_⟩
      rw [wrap_in (by omega) (by omega)]
      refine lputA m1.row (j := 2) hkl (by omega) (L[k].1, L[k].2.1, L[k].2.2 - 1) rfl (by exact trivial) fun h2 r2 o2 => ?_
      have b2 : But2 y b' h1 h2 := But2.only2 o2
      have eh2 := b2.ext (e1.ext eh sp.z0 sp.b0) sp.y0 sp.b0'
      rw [show ((f : Int) + 1).toNat = f + 1 by omega] at hs
      exact look (f1 := f + 1) sp eh2 ⟨m1.pool.only o2 m.ne, r2, m.ne⟩ i1 hs (p1.but sp b2) fun h' e' p' m' d' => hk h' g' nx' L' e' p' m' d'
  · -- Drop
    refine drop_spec p (fun c1 => ⟨_, rfl, ?_⟩) (fun c1 k hkl he i1 h1 L' nx' g' hs p1 e1 => ⟨_, rfl, ?_⟩)
    · rw [hb, decide_eq_false c1]
      exact split_f (stay 1)
    · subst he
      have hat := p.inv.at hkl
      have m1 := m.but sp e1
      rw [hb, decide_eq_true c1]
      refine split_t ?_
      refine get m1.pool rfl rfl rfl ⟨_, _, _, rfl, ?_⟩
      refine ⟨by omega, by omega, laneV (0, 0, 0), rfl, rfl, ?_⟩
      refine lputAll m1.row hkl (0, 0, 0) fun h2 r2 o2 => ?_
      have b2 : But2 y b' h1 h2 := But2.only2 o2
      have eh2 := b2.ext (e1.ext eh sp.z0 sp.b0) sp.y0 sp.b0'
      have ef : (f : Int) + (L[k].2.1 + L[k].2.2) = (((f : Int) + (L[k].2.1 + L[k].2.2)).toNat : Int) := by omega
      rw [ef] at i1
      exact look sp eh2 ⟨m1.pool.only o2 m.ne, r2, m.ne⟩ i1 hs (p1.but sp b2) fun h' e' p' m' d' => hk h' g' nx' L' e' p' m' d'

theorem plays {AP : Option Addr} {cP : Nat} {Q : List (List Int)} (sp : Sep h0 z b y b') (hQ : (Q.length : Int) ≤ 9223372036854775806) (hr : Rd 1 (eRow 1 (eInt .i64)) h0 AP Q) :
    ∀ (d k : Nat) (h : Heap) (f nx : Nat) (L : List Lane), k + d = Q.length → Ext h0 h → Pg h z b n room (f : Int) nx L → Mo h y b' n room nx L → (f = 0 ∨ pick L nx = none) →
      f11.l0 (fun v h' => v = .bool true ∧ Ext h0 h') (n : Int) (some ⟨z, 0, none⟩) ⟨y, 0, none⟩ AP Q.length cP (Q.length : Int) (k : Int) h := by
  intro d
  induction d with
  | zero =>
    intro k h f nx L hk e p m hd
    refine f11.l0_in ?_
    unfold f11.l0T
    exact split_dec (fun c => by omega) fun _ => ⟨rfl, e⟩
  | succ d ih =>
    intro k h f nx L hk e p m hd
    refine f11.l0_in ?_
    unfold f11.l0T
    refine split_dec (fun _ => ?_) (fun c => by omega)
    refine (hr.ext (mono_row (mono_int _)) e).row rfl rfl (by omega) fun B cB hcB hB => ?_
    generalize Q[k] = l at *
    refine (at_spec hB (i := 1) rfl).ret ⟨_, rfl, ?_⟩
    refine (at_spec hB (i := 2) rfl).ret ⟨_, rfl, ?_⟩
    have next : ∀ (h' : Heap) (f' nx' : Nat) (L' : List Lane), Ext h0 h' → Pg h' z b n room (f' : Int) nx' L' → Mo h' y b' n room nx' L' → (f' = 0 ∨ pick L' nx' = none) →
        f11.l0 (fun v h' => v = .bool true ∧ Ext h0 h') (n : Int) (some ⟨z, 0, none⟩) ⟨y, 0, none⟩ AP Q.length cP (Q.length : Int) (IntKind.wrap .i64 ((k : Int) + 1)) h' := by
      intro h' f' nx' L' e' p' m' d'
      have e1 : IntKind.wrap .i64 ((k : Int) + 1) = ((k + 1 : Nat) : Int) := by rw [wrap_in (by omega) (by omega)]; omega
      rw [e1]
      exact ih (k + 1) h' f' nx' L' (by omega) e' p' m' d'
    refine split_dec (fun c1 => ?_) (fun c1 => ?_)
    · refine play sp e p m hd hB ?_ next
      exact decide_eq_decide.2 ⟨fun h => ⟨by omega, h⟩, fun h => h.2⟩
    · refine play sp e p m hd hB ?_ next
      rw [decide_eq_false (by omega)]
end

theorem pick_zero (n : Nat) : pick (List.replicate n ((0, 0, 0) : Lane)) 0 = none := by
  unfold pick pickF
  rw [Option.map_eq_none_iff, List.find?_eq_none]
  intro j hj
  unfold wants
  rw [List.length_replicate] at *
  rcases Nat.lt_or_ge ((0 + j) % n) n with h | h
  · rw [lgetD (by simpa using h), List.getElem_replicate]; simp
  · rw [List.getD_eq_getElem?_getD, List.getElem?_eq_none (by simpa using h)]; simp

theorem CreditPlays_run {h : Heap} {AP : Option Addr} {cP : Nat} {Q : List (List Int)} {room lanes : Int} (hr : Rd 1 (eRow 1 (eInt .i64)) h AP Q) (hQ : (Q.length : Int) ≤ 9223372036854775806) :
    Run Try.prog 11 #[.int .i64 room, .int .i64 lanes, .slice AP Q.length cP] h fun v h' => v = .bool true ∧ Ext h h' := by
  refine f11.run ?_
  unfold f11.runT
  refine new_spec (fun c => by omega) (fun _ h1 p1 e1 s1 => ⟨_, _, rfl, ?_⟩)
  refine split_ne (fun c => absurd rfl c) fun _ => split_f ?_
  refine want_spec p1 (fun c => by exfalso; apply c; unfold wantOk; omega) (fun c k hk he c2 => ?_) (fun c k hk he c2 i1 h2 L' nx' g' hs p2 e2 => ⟨_, rfl, ?_⟩)
  · exfalso
    have : k = 1 := by omega
    subst this
    simp at c2
  have hk1 : k = 1 := by omega
  subst hk1
  have hL : shareF 1 (((List.replicate 2 ((0, 0, 0) : Lane)).set 1 (2, 0, 0))) 0 = ([(0, 0, 0), (1, 1, 0)], 0, 0) := by decide
  have hs' : (L', nx', g') = ([(0, 0, 0), (1, 1, 0)], 0, 0) := by rw [← hs]; exact hL
  cases hs'
  refine split_ne (fun c => absurd rfl c) fun _ => ?_
  refine use_spec p2 (fun c => by exfalso; apply c; omega) (fun c k hk he c2 => ?_) (fun c k hk he c2 h3 p3 e3 => ⟨_, rfl, split_ne (fun c => absurd rfl c) fun _ => ?_⟩)
  · exfalso
    have : k = 1 := by omega
    subst this
    exact c2 (by show (1 : Int) > 0; omega)
  have hk2 : k = 1 := by omega
  subst hk2
  refine use_spec p3 (fun c => by exfalso; apply c; omega) (fun c k hk he c2 => ⟨_, rfl, split_ne (fun c => absurd rfl c) fun _ => ?_⟩) (fun c k hk he c2 h4 p4 e4 => ?_)
  · have eh3 : Ext h h3 := (e2.trans e3).ext e1 (by omega) (by omega)
    refine f11.j0_in ?_
    unfold f11.j0T
    have bad : ∀ (p : Option Addr) (x : Int) (h' : Heap), p = none → x = 1 → Ext h h' → f11.j2 (fun v h' => v = .bool true ∧ Ext h h') room lanes AP Q.length cP p x true h' := by
      rintro p x h' rfl rfl e'
      refine f11.j2_in ?_
      unfold f11.j2T
      exact split_t (split_eq (fun _ => ⟨rfl, e'⟩) (fun c => absurd rfl c))
    refine new_spec (fun c => ⟨_, _, rfl, ?_⟩) (fun c h5 p5 e5 s5 => ⟨_, _, rfl, ?_⟩)
    · refine split_dec (fun _ => bad _ _ _ rfl rfl eh3) (fun _ => split_dec (fun _ => bad _ _ _ rfl rfl eh3) (fun _ => split_dec (fun _ => bad _ _ _ rfl rfl eh3) (fun _ => ?_)))
      rw [decide_eq_true (by omega)]
      exact bad _ _ _ rfl rfl eh3
    · refine split_dec (fun _ => by omega) (fun _ => split_dec (fun _ => by omega) (fun _ => split_dec (fun _ => by omega) (fun _ => ?_)))
      rw [decide_eq_false (by omega)]
      refine f11.j2_in ?_
      unfold f11.j2T
      refine split_f ?_
      refine f11.j1_in ?_
      unfold f11.j1T
      refine split_ne (fun c => absurd rfl c) fun _ => split_f ?_
      refine f11.j3_in ?_
      unfold f11.j3T
      refine ⟨by omega, by omega, by omega, by omega, newH_in fun h6 b6 e6 s6 => newH_in fun h7 b7 e7 s7 => ?_⟩
      have er : (mkCells #[Value.int .i64 0, Value.int .i64 0, Value.int .i64 0] (lanes.toNat * 3)).toList = (List.replicate lanes.toNat ((0, 0, 0) : Lane)).flatMap laneV := by
        rcases (show lanes.toNat = 1 ∨ lanes.toNat = 2 ∨ lanes.toNat = 3 ∨ lanes.toNat = 4 ∨ lanes.toNat = 5 ∨ lanes.toNat = 6 ∨ lanes.toNat = 7 ∨ lanes.toNat = 8 by omega) with h | h | h | h | h | h | h | h <;> rw [h] <;> kernel_rfl
      rw [er] at b6
      obtain ⟨n, rfl⟩ : ∃ n : Nat, lanes = n := ⟨lanes.toNat, by omega⟩
      obtain ⟨r, rfl⟩ : ∃ r : Nat, room = r := ⟨room.toNat, by omega⟩
      rw [Int.toNat_natCast] at *
      have e37 := e6.trans e7
      have eh7 : Ext h h7 := eh3.trans (e5.trans e37)
      refine plays (h0 := h) (z := h3.size + 1) (b := h3.size) (y := h6.size) (b' := h5.size) (room := (r : Int)) ⟨by have := eh3.1; omega, by have := eh3.1; omega, by have := eh3.1; omega, by have := eh3.1; omega, by omega, by omega, by omega, by omega⟩ hQ hr Q.length 0 h7 r 0 _ (by omega) eh7 (p5.ext e37) ⟨b7, b6.ext e7, by omega⟩ (.inr (pick_zero n))
  · exfalso
    have : k = 1 := by omega
    subst this
    simp at c2
end Go.Proofs.Ytbpfmlgnlcfbcaa.Fw.CP
