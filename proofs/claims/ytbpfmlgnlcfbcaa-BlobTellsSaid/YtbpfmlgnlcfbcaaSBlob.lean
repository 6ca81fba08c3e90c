/- What package blob does, and that the law BlobTells holds, over heaps. -/
import Derived.Test.YtbpfmlgnlcfbcaaFwAll0
import Derived.Test.YtbpfmlgnlcfbcaaFwAll1
import Derived.Test.YtbpfmlgnlcfbcaaFwAll2
import Derived.Test.YtbpfmlgnlcfbcaaHwS
namespace Go.Proofs.Ytbpfmlgnlcfbcaa.Fw.BT
open Go Go.Hw Go.Proofs
set_option linter.unusedVariables false

theorem get {h : Heap} {b : Nat} {c : List Value} {t : TypeId} (hb : Blk h b c t) {a : Addr} {v : Value} (h1 : a.block = b) (h2 : a.spot = none) (h3 : c[a.off]? = some v) {K : Value → Prop} (hk : K v) : ∃ u, ldv false 1 h a = some u ∧ K u := ⟨v, hb.ld h1 h2 h3, hk⟩
theorem e0 (h : Heap) : Ext h h := ⟨Nat.le_refl _, fun _ _ => rfl⟩
theorem in_spec {h : Heap} {n a b : Int} : Run Try.prog 30 #[.int .i64 n, .int .i64 a, .int .i64 b] h fun u h' => u = .bool (decide (a ≤ n ∧ n ≤ b)) ∧ h' = h := by
  refine f30.run ?_
  unfold f30.runT
  refine split_dec (fun c => ⟨?_, rfl⟩) (fun c => ⟨?_, rfl⟩)
  · congr 1; exact decide_eq_decide.2 ⟨fun h => ⟨c, h⟩, fun h => h.2⟩
  · rw [decide_eq_false (by omega)]

/-- A piece: its text, and how often it is held. -/
abbrev Blob := ByteArray × Int × Unit
def blobV (x : Blob) : List Value := [.string x.1, .int .i64 x.2.1]
def eBlob : Heap → Blob → List Value → Prop := eCons eStr (eCons (eInt .i64) eNil)
theorem eBlob_of {h : Heap} {x : Blob} {cs : List Value} (e : eBlob h x cs) : cs = blobV x := by
  obtain ⟨a, b, rfl, h1, c, d, rfl, h2, h3⟩ := e
  rw [show a = _ from h1, show c = _ from h2, show d = _ from h3]; rfl
theorem blobV_len (x : Blob) : (blobV x).length = 2 := rfl
theorem blobV_flat (x : Blob) : ∀ v ∈ blobV x, Flat v := by intro v hv; simp [blobV] at hv; rcases hv with rfl | rfl <;> trivial
abbrev nilS : ByteArray := ByteArray.mk #[]
theorem str_beq (a b : ByteArray) : (a.toList == b.toList) = decide (a = b) := by rw [← beq_toListBytes, ba_beq]

def heldT (s : ByteArray) (x : Blob) : Bool := decide (x.2.1 > 0) && decide (x.1 = s)
def badB (x : Blob) : Prop := (x.1.size : Int) > 64 ∨ x.2.1 < 0 ∨ x.2.1 > 1000 ∨ (x.2.1 = 0 ∧ x.1 ≠ nilS)
instance (x : Blob) : Decidable (badB x) := by unfold badB; exact inferInstance
def scan : List Blob → List Blob → Int
  | _, [] => 0
  | pre, x :: r => if badB x then 1 else if x.2.1 > 0 ∧ pre.any (heldT x.1) = true then 5 else scan (pre ++ [x]) r
def code (l : List Blob) : Int := if l.length > 60 then 2 else scan [] l
theorem scan_at {l : List Blob} {k : Nat} (h : k < l.length) : scan (l.take k) (l.drop k) = if badB l[k] then 1 else if l[k].2.1 > 0 ∧ (l.take k).any (heldT l[k].1) = true then 5 else scan (l.take (k + 1)) (l.drop (k + 1)) := by
  rw [List.drop_eq_getElem_cons h]
  simp only [scan]
  rw [← List.take_succ_eq_append_getElem h]

/-! ### Searching -/
theorem index_loop {R : Value → Heap → Prop} {h0 : Heap} {A : Option Addr} {c n : Nat} {l : List Blob} {v : Value} {p : Blob → Bool} (hr : Rd 2 (eSt blobV) h0 A l) (hnl : n = l.length) (hl : (l.length : Int) ≤ 9223372036854775806)
    (hf : ∀ x ∈ l, ∀ h, Ext h0 h → CallF Try.prog v [.agg (blobV x).toArray] h fun u h' => u = .bool (p x) ∧ Ext h h') (hR : ∀ h, Ext h0 h → R (.int .i64 (idxOf p l)) h) :
    ∀ (d k : Nat) (h : Heap), k + d = l.length → (∀ x ∈ l.take k, p x = false) → Ext h0 h → f123.l0 R A n c v (l.length : Int) (k : Int) h := by
  intro d
  induction d with
  | zero =>
    intro k h hk hn e
    refine f123.l0_in ?_
    unfold f123.l0T
    refine split_dec (fun c => by omega) fun _ => ?_
    have : l.findIdx? p = none := by
      rw [List.findIdx?_eq_none_iff]
      rw [List.take_of_length_le (by omega)] at hn
      exact hn
    have h2 := hR h e
    rwa [show idxOf p l = -1 by simp [idxOf, this]] at h2
  | succ d ih =>
    intro k h hk hn e
    refine f123.l0_in ?_
    unfold f123.l0T
    refine split_dec (fun _ => ?_) (fun c => by omega)
    refine (hr.ext (mono_st _) e).agg rfl hnl (by omega) ?_
    refine (hf _ (List.getElem_mem _) h e).mono ?_
    rintro _ h1 ⟨rfl, e1⟩
    refine ⟨_, rfl, split_any (fun hp => ?_) (fun hp => ?_)⟩
    · have : l.findIdx? p = some k := by
        rw [List.findIdx?_eq_some_iff_getElem]
        refine ⟨by omega, hp, fun j hj => ?_⟩
        have := hn l[j] (by rw [List.mem_take_iff_getElem]; exact ⟨j, by omega, rfl⟩)
        simp [this]
      have h2 := hR h1 (e.trans e1)
      rwa [show idxOf p l = (k : Int) by simp [idxOf, this]] at h2
    · rw [wrap_in (by omega) (by omega)]
      refine ih (k + 1) h1 (by omega) (fun x hx => ?_) (e.trans e1)
      rw [List.take_succ_eq_append_getElem (by omega)] at hx
      rcases List.mem_append.1 hx with hx | hx
      · exact hn x hx
      · simp at hx; subst hx; exact hp
theorem index_spec {R : Value → Heap → Prop} {h : Heap} {A : Option Addr} {c n : Nat} {l : List Blob} {v : Value} (p : Blob → Bool) (hr : Rd 2 (eSt blobV) h A l) (hn : n = l.length) (hl : (l.length : Int) ≤ 9223372036854775806)
    (hf : ∀ x ∈ l, ∀ h1, Ext h h1 → CallF Try.prog v [.agg (blobV x).toArray] h1 fun u h' => u = .bool (p x) ∧ Ext h1 h') (hR : ∀ h', Ext h h' → R (.int .i64 (idxOf p l)) h') : Run Try.prog 123 #[.slice A n c, v] h R := by
  refine f123.run ?_
  unfold f123.runT
  subst hn
  exact index_loop (p := p) hr rfl hl hf hR l.length 0 h (by omega) (fun x hx => by simp at hx) (e0 h)

set_option maxRecDepth 100000 in
theorem held_call {h : Heap} {x : Blob} {b : Nat} {s : ByteArray} {t : TypeId} (hb : Blk h b [.string s] t) : CallF Try.prog (.func (.func 133) #[] #[.pointer (some ⟨b, 0, none⟩)]) [.agg (blobV x).toArray] h fun u h' => u = .bool (heldT s x) ∧ Ext h h' := by
  refine CallF.of [.agg (blobV x).toArray, .pointer (some ⟨b, 0, none⟩)] f133.ok rfl ?_
  refine f133.run ?_
  unfold f133.runT
  refine newH_in fun h1 b1 e1 _ => ?_
  have b1 : Blk h1 h.size (blobV x) 131 := by simpa [Value.cells] using b1
  refine get b1 rfl rfl rfl ⟨_, rfl, ?_⟩
  unfold heldT
  refine split_dec (fun c => ?_) (fun c => ⟨?_, e1⟩)
  · refine get b1 rfl rfl rfl ⟨_, rfl, ?_⟩
    refine get (hb.ext e1) rfl rfl rfl ⟨_, rfl, ?_, e1⟩
    rw [decide_eq_true c, Bool.true_and, str_beq]
  · rw [decide_eq_false c, Bool.false_and]
def freeB (x : Blob) : Bool := x.2.1 == 0
set_option maxRecDepth 100000 in
theorem free_call {h : Heap} {x : Blob} : CallF Try.prog (.func (.func 124) #[] #[]) [.agg (blobV x).toArray] h fun u h' => u = .bool (freeB x) ∧ Ext h h' := by
  refine CallF.of [.agg (blobV x).toArray] f124.ok rfl ?_
  refine f124.run ?_
  unfold f124.runT
  refine newH_in fun h1 b1 e1 _ => ?_
  have b1 : Blk h1 h.size (blobV x) 131 := by simpa [Value.cells] using b1
  exact get b1 rfl rfl rfl ⟨_, rfl, rfl, e1⟩
set_option maxRecDepth 100000 in
theorem find_spec {h : Heap} {A : Option Addr} {c n : Nat} {l : List Blob} {s : ByteArray} {R : Value → Heap → Prop} (hr : Rd 2 (eSt blobV) h A l) (hn : n = l.length) (hl : (l.length : Int) ≤ 9223372036854775806)
    (hR : ∀ h', Ext h h' → R (.int .i64 (idxOf (heldT s) l)) h') : Run Try.prog 122 #[.slice A n c, .string s] h R := by
  refine f122.run ?_
  unfold f122.runT
  refine newH_in fun h1 b1 e1 _ => ?_
  exact index_spec (heldT s) (hr.ext (mono_st _) e1) hn hl (fun x _ h2 e2 => held_call (b1.ext e2)) fun h' e' => ⟨_, rfl, hR h' (e1.trans e')⟩

/-! ### Checking -/
theorem cut_front {h : Heap} {A : Option Addr} {c : Nat} {l : List Blob} (hr : Rd 2 (eSt blobV) h A l) (hc : l.length ≤ c) {k : Nat} (hk : k ≤ l.length) : Rd 2 (eSt blobV) h (sliceA A (Int.toNat 0) c 2) (l.take k) := by
  have := (hr.drop (b := 0) (c := c) (by omega) hc).take k
  simpa using this
set_option maxRecDepth 100000 in
theorem check_spec {h0 : Heap} {A : Option Addr} {c : Nat} {l : List Blob} (hr : Rd 2 (eSt blobV) h0 A l) (hc : l.length ≤ c) : Run Try.prog 89 #[.slice A l.length c] h0 fun u h' => u = .int .i64 (code l) ∧ Ext h0 h' := by
  refine f89.run ?_
  unfold f89.runT
  unfold code
  refine split_dec (fun c1 => ⟨by rw [if_pos (by omega)], e0 _⟩) (fun c1 => ?_)
  rw [if_neg (by omega)]
  have loop : ∀ (d k : Nat) (h : Heap), k + d = l.length → scan [] l = scan (l.take k) (l.drop k) → Ext h0 h → f89.l0 (fun u h' => u = .int .i64 (scan [] l) ∧ Ext h0 h') A l.length c A l.length c (l.length : Int) (k : Int) h := by
    intro d
    induction d with
    | zero =>
      intro k h hk hs e
      refine f89.l0_in ?_
      unfold f89.l0T
      refine split_dec (fun c => by omega) fun _ => ⟨?_, e⟩
      rw [hs, List.drop_eq_nil_of_le (by omega)]; rfl
    | succ d ih =>
      intro k h hk hs e
      have hkl : k < l.length := by omega
      rw [scan_at hkl] at hs
      have e1' : IntKind.wrap .i64 ((k : Int) + 1) = ((k + 1 : Nat) : Int) := by rw [wrap_in (by omega) (by omega)]; omega
      refine f89.l0_in ?_
      unfold f89.l0T
      refine split_dec (fun _ => ?_) (fun c => by omega)
      refine (hr.ext (mono_st _) e).agg rfl rfl hkl ?_
      refine box_in (blobV l[k]) rfl rfl rfl (blobV_flat _) fun h1 b1 e1 s1 => ?_
      have bad : badB l[k] → f89.j0 (fun u h' => u = .int .i64 (scan [] l) ∧ Ext h0 h') A l.length c (k : Int) ⟨h.size, 0, none⟩ A l.length c (l.length : Int) (k : Int) true h1 := by
        intro hb
        rw [if_pos hb] at hs
        refine f89.j0_in ?_
        unfold f89.j0T
        exact split_t ⟨by rw [hs], e.trans e1⟩
      have good : ¬ badB l[k] → f89.j0 (fun u h' => u = .int .i64 (scan [] l) ∧ Ext h0 h') A l.length c (k : Int) ⟨h.size, 0, none⟩ A l.length c (l.length : Int) (k : Int) false h1 := by
        intro hb
        rw [if_neg hb] at hs
        refine f89.j0_in ?_
        unfold f89.j0T
        refine split_f ?_
        refine get b1 rfl rfl rfl ⟨_, rfl, ?_⟩
        rw [e1']
        refine split_dec (fun c2 => ⟨by omega, by omega, by omega, ?_⟩) (fun c2 => ?_)
        · refine get b1 rfl rfl rfl ⟨_, rfl, ?_⟩
          refine find_spec (l := l.take k) (cut_front ((hr.ext (mono_st _) e).ext (mono_st _) e1) hc (by omega)) (by simp; omega) (by rw [List.length_take]; omega) fun h2 e2 => ⟨_, rfl, ?_⟩
          rw [idxOf_ge]
          refine split_any (fun c3 => ?_) (fun c3 => ?_)
          · rw [if_pos ⟨c2, c3⟩] at hs
            exact ⟨by rw [hs], e.trans (e1.trans e2)⟩
          · rw [if_neg (by rw [c3]; simp)] at hs
            exact ih (k + 1) h2 (by omega) hs (e.trans (e1.trans e2))
        · rw [if_neg (fun hh => c2 hh.1)] at hs
          exact ih (k + 1) h1 (by omega) hs (e.trans e1)
      unfold badB at bad good
      refine get b1 rfl rfl rfl ⟨_, rfl, split_dec (fun c2 => bad (.inl c2)) (fun c2 => ?_)⟩
      refine get b1 rfl rfl rfl ⟨_, rfl, split_dec (fun c3 => bad (.inr (.inl c3))) (fun c3 => ?_)⟩
      refine get b1 rfl rfl rfl ⟨_, rfl, split_dec (fun c4 => bad (.inr (.inr (.inl c4)))) (fun c4 => ?_)⟩
      refine get b1 rfl rfl rfl ⟨_, rfl, split_eq (fun c5 => ?_) (fun c5 => ?_)⟩
      · refine get b1 rfl rfl rfl ⟨_, rfl, ?_⟩
        rw [str_beq]
        by_cases c6 : l[k].1 = nilS
        · rw [decide_eq_true c6]
          exact good (by rintro (h | h | h | h); exact c2 h; exact c3 h; exact c4 h; exact h.2 c6)
        · rw [decide_eq_false c6]
          exact bad (.inr (.inr (.inr ⟨c5, c6⟩)))
      · exact good (by rintro (h | h | h | h); exact c2 h; exact c3 h; exact c4 h; exact c5 h.1)
  exact loop l.length 0 h0 (by omega) rfl (e0 _)

set_option maxRecDepth 100000 in
theorem kOk : KeyOk Try.prog 191 (fun s : ByteArray => Value.string s) 4 := keyOk_str (key := 9) (by kernel_rfl) (by kernel_rfl)
set_option maxRecDepth 100000 in
theorem fault_spec {h0 : Heap} {A : Option Addr} {c : Nat} {l : List Blob} (hr : Rd 2 (eSt blobV) h0 A l) : Run Try.prog 88 #[.slice A l.length c] h0 fun u h' => u = .int .i64 (code l) ∧ Ext h0 h' := by
  refine f88.run ?_
  unfold f88.runT
  unfold code
  refine split_dec (fun c1 => ⟨by rw [if_pos (by omega)], e0 _⟩) (fun c1 => ?_)
  rw [if_neg (by omega)]
  refine gen_makeMap (kv := fun s : ByteArray => Value.string s) fun h1 m1 e1 s1 => ?_
  have loop : ∀ (d k : Nat) (h : Heap) (es : List (ByteArray × Value)), k + d = l.length → scan [] l = scan (l.take k) (l.drop k) → Ext h0 h → MapB (fun s : ByteArray => Value.string s) h h0.size es →
      (∀ s, (mget es s).getD (.bool false) = .bool ((l.take k).any (heldT s))) → f88.l0 (fun u h' => u = .int .i64 (scan [] l) ∧ Ext h0 h') (.map (some h0.size)) A l.length c (l.length : Int) (k : Int) h := by
    intro d
    induction d with
    | zero =>
      intro k h es hk hs e mb hm
      refine f88.l0_in ?_
      unfold f88.l0T
      refine split_dec (fun c => by omega) fun _ => ⟨?_, e⟩
      rw [hs, List.drop_eq_nil_of_le (by omega)]; rfl
    | succ d ih =>
      intro k h es hk hs e mb hm
      have hkl : k < l.length := by omega
      rw [scan_at hkl] at hs
      have e1' : IntKind.wrap .i64 ((k : Int) + 1) = ((k + 1 : Nat) : Int) := by rw [wrap_in (by omega) (by omega)]; omega
      refine f88.l0_in ?_
      unfold f88.l0T
      refine split_dec (fun _ => ?_) (fun c => by omega)
      refine (hr.ext (mono_st _) e).agg rfl rfl hkl ?_
      refine box_in (blobV l[k]) rfl rfl rfl (blobV_flat _) fun h1 b1 e1 s1 => ?_
      have ee := e.trans e1
      have mb1 := mb.ext e1
      have bad : badB l[k] → (fun (u : Value) (h' : Heap) => u = Value.int .i64 (scan [] l) ∧ Ext h0 h') (.int .i64 1) h1 := by
        intro hb
        rw [if_pos hb] at hs
        exact ⟨by rw [hs], ee⟩
      have nxt : ∀ s, (l.take (k + 1)).any (heldT s) = ((l.take k).any (heldT s) || heldT s l[k]) := by
        intro s
        rw [List.take_succ_eq_append_getElem hkl, List.any_append]; simp
      have good : ¬ badB l[k] → f88.j0 (fun u h' => u = .int .i64 (scan [] l) ∧ Ext h0 h') (.map (some h0.size)) ⟨h.size, 0, none⟩ A l.length c (l.length : Int) (k : Int) h1 := by
        intro hb
        rw [if_neg hb] at hs
        refine f88.j0_in ?_
        unfold f88.j0T
        refine get b1 rfl rfl rfl ⟨_, rfl, ?_⟩
        rw [e1']
        refine split_dec (fun c2 => ?_) (fun c2 => ?_)
        · refine get b1 rfl rfl rfl ⟨_, rfl, ?_⟩
          refine gen_lookup (z := .bool false) kOk mb1 l[k].1 (by kernel_rfl) ?_
          refine ⟨_, hm _, ?_⟩
          refine split_any (fun c3 => ?_) (fun c3 => ?_)
          · rw [if_pos ⟨c2, c3⟩] at hs
            exact ⟨by rw [hs], ee⟩
          · rw [if_neg (by rw [c3]; simp)] at hs
            refine get b1 rfl rfl rfl ⟨_, rfl, ?_⟩
            refine gen_mapUpdate kOk mb1 l[k].1 (.bool true) fun h2 mb2 o2 => ?_
            refine ih (k + 1) h2 _ (by omega) hs (ee.only o2 (Nat.le_refl _)) mb2 fun s => ?_
            rw [mget_mset, nxt]
            by_cases h3 : s = l[k].1
            · rw [if_pos h3]
              have : heldT s l[k] = true := by unfold heldT; rw [decide_eq_true c2, decide_eq_true h3.symm]; rfl
              rw [this, Bool.or_true]; rfl
            · rw [if_neg h3, hm]
              have : heldT s l[k] = false := by unfold heldT; rw [decide_eq_false (p := l[k].1 = s) (fun hh => h3 hh.symm), Bool.and_false]
              rw [this, Bool.or_false]
        · rw [if_neg (fun hh => c2 hh.1)] at hs
          refine ih (k + 1) h1 es (by omega) hs ee mb1 fun s => ?_
          rw [hm, nxt]
          have : heldT s l[k] = false := by unfold heldT; rw [decide_eq_false c2, Bool.false_and]
          rw [this, Bool.or_false]
      unfold badB at bad good
      refine get b1 rfl rfl rfl ⟨_, rfl, split_dec (fun c2 => bad (.inl c2)) (fun c2 => ?_)⟩
      refine get b1 rfl rfl rfl ⟨_, rfl, ?_⟩
      refine in_spec.ret ⟨_, rfl, split_not (split_dec (fun c3 => ?_) (fun c3 => bad (by omega)))⟩
      refine get b1 rfl rfl rfl ⟨_, rfl, split_eq (fun c5 => ?_) (fun c5 => ?_)⟩
      · refine get b1 rfl rfl rfl ⟨_, rfl, ?_⟩
        rw [str_beq]
        refine split_not (split_dec (fun c6 => ?_) (fun c6 => bad (.inr (.inr (.inr ⟨c5, c6⟩)))))
        exact good (by rintro (h | h | h | h); exact c2 h; omega; omega; exact h.2 c6)
      · exact good (by rintro (h | h | h | h); exact c2 h; omega; omega; exact c5 h.1)
  exact loop l.length 0 h1 [] (by omega) rfl e1 m1 (fun s => rfl)

/-! ### What a store without fault is like -/
theorem scan_ok {l : List Blob} : ∀ pre, scan pre l = 0 → ∀ x ∈ l, ¬ badB x := by
  induction l with
  | nil => intro pre _ x hx; cases hx
  | cons y r ih =>
    intro pre h x hx
    simp only [scan] at h
    split at h
    · omega
    · split at h
      · omega
      · rename_i h1 h2
        rcases List.mem_cons.1 hx with rfl | hx
        · exact h1
        · exact ih _ h x hx
theorem code_ok {l : List Blob} (h : code l = 0) : l.length ≤ 60 ∧ ∀ x ∈ l, (x.1.size : Int) ≤ 64 ∧ 0 ≤ x.2.1 ∧ x.2.1 ≤ 1000 ∧ (x.2.1 = 0 → x.1 = nilS) := by
  unfold code at h
  split at h
  · omega
  · refine ⟨by omega, fun x hx => ?_⟩
    have := scan_ok [] h x hx
    unfold badB at this
    refine ⟨by omega, by omega, by omega, fun h0 => ?_⟩
    exact Decidable.byContradiction fun hn => this (.inr (.inr (.inr ⟨h0, hn⟩)))

/-! ### Rows that are copied and changed -/
theorem clone_blobs {h : Heap} {A : Option Addr} {c : Nat} {l : List Blob} {R : Value → Heap → Prop} (hr : Rd 2 (eSt blobV) h A l) (hl : l.length ≤ 100) (hR : ∀ A' c' h', Own h.size 2 h' A' l.length c' (l.flatMap blobV) → Ext h h' → R (.slice A' l.length c') h') :
    Run Try.prog 125 #[.slice A l.length c] h R := by
  refine f125.run ?_
  unfold f125.runT
  cases A with
  | none =>
    have : l = [] := by
      cases l with
      | nil => rfl
      | cons x l => obtain ⟨a, _, h1, _⟩ := hr 0 (by simp); cases h1
    subst this
    exact split_t (hR none 0 h (by simpa using Own.nil) (e0 _))
  | some a =>
    refine split_f ?_
    refine newH_in fun h1 b1 e1 s1 => ?_
    have o1 : Own h.size 2 h1 (some ⟨h.size, 0, none⟩) 0 0 [] := ⟨rfl, Nat.le_refl _, .inr ⟨h.size, 131, [], [], rfl, Nat.le_refl _, by simpa using b1, by simp⟩⟩
    refine o1.app2 (by omega) rfl ((hr.ext (mono_st _) e1).src c) (flatMap_len blobV_len l) ?_ (by omega) (by omega) fun A' c' h' o r => ?_
    · intro v hv
      obtain ⟨x, _, hx⟩ := List.mem_flatMap.1 hv
      exact blobV_flat x v hx
    · rw [Nat.zero_add] at o ⊢
      exact ⟨_, _, _, rfl, hR _ _ _ (by simpa using o) (o1.keep r.1 e1 (Nat.le_refl _))⟩

/-- An element is written whole. -/
theorem own_putAll {lo : Nat} {h : Heap} {A : Option Addr} {n n1 c : Nat} {l : List Blob} (ho : Own lo 2 h A n c (l.flatMap blobV)) {k : Nat} {x : Int} (hx : x = k) (hn : n1 = n) (hk : k < l.length) (b : Blob) {K : Heap → Prop} (hK : ∀ h', Own lo 2 h' A n c ((l.set k b).flatMap blobV) → ButA A h h' → K h') :
    ptrOk A fun a => 0 ≤ x ∧ x < ((n1 : Nat) : Int) ∧ ∃ h', stH h (a.add (Int.toNat x * 2)) (blobV b) 0 = some h' ∧ K h' := by
  obtain ⟨h1, h2, h3⟩ := ho
  have hnl : n = l.length := by rw [flatMap_len blobV_len] at h1; omega
  rcases h3 with ⟨rfl, rfl, rfl⟩ | ⟨bb, t, pre, rest, rfl, h5, h6, h7⟩
  · omega
  · have e : l.flatMap blobV = (l.take k).flatMap blobV ++ blobV l[k] ++ (l.drop (k + 1)).flatMap blobV := by
      have h1 : l = l.take k ++ l[k] :: l.drop (k + 1) := by rw [← List.drop_eq_getElem_cons hk, List.take_append_drop]
      calc l.flatMap blobV = (l.take k ++ l[k] :: l.drop (k + 1)).flatMap blobV := by rw [← h1]
        _ = _ := by rw [List.flatMap_append, List.flatMap_cons, List.append_assoc]
    have e2 : (l.set k b).flatMap blobV = (l.take k).flatMap blobV ++ blobV b ++ (l.drop (k + 1)).flatMap blobV := by
      rw [List.set_eq_take_append_cons_drop, if_pos hk, List.flatMap_append, List.flatMap_cons, List.append_assoc]
    rw [e] at h6
    have h6 : Blk h bb ((pre ++ (l.take k).flatMap blobV) ++ blobV l[k] ++ ((l.drop (k + 1)).flatMap blobV ++ rest)) t := by simpa [List.append_assoc] using h6
    obtain ⟨h', s1, b1, o1⟩ := Blk.stH (blobV b) (a := (⟨bb, pre.length, none⟩ : Addr).add (k * 2)) (i := 0) h6 (by rw [add_block]) (add_spot _ rfl) (by rw [add_off, List.length_append, flatMap_len blobV_len, List.length_take, Nat.min_eq_left (by omega)]; show pre.length + k * 2 + 0 = _; omega) rfl (blobV_flat b)
    subst hx
    refine ⟨by omega, by omega, h', s1, hK h' ⟨?_, h2, .inr ⟨bb, t, pre, rest, rfl, h5, ?_, h7⟩⟩ ⟨by rw [o1.1]; exact Nat.le_refl _, fun i hi hne => o1.2 i fun hh => hne _ rfl hh.symm⟩⟩
    · rw [flatMap_len blobV_len, List.length_set]; omega
    · rw [e2]; simpa [List.append_assoc] using b1
/-- One piece is appended. -/
theorem push_blob {lo : Nat} {h : Heap} {A : Option Addr} {n c : Nat} {l : List Blob} {x : Blob} {K : Value → Heap → Prop} (ho : Own lo 2 h A n c (l.flatMap blobV)) (hlo : lo ≤ h.size) (hn : n ≤ 1000000000)
    (hk : ∀ A' c' h', Own lo 2 h' A' (n + 1) c' ((l ++ [x]).flatMap blobV) → AppR A A' h h' → K (.slice A' (n + 1) c') h') :
    newH h (.cells (blobV x).toArray 131) fun h1 => AppW 131 2 24 #[.string nilS, .int .i64 0] A n c (.slice (some ⟨h.size, 0, none⟩) 1 1) h1 K := by
  refine ho.app_new2 (m := 1) hlo rfl rfl (fun v hv => blobV_flat x v (by simpa using hv)) (by omega) (by omega) fun A' c' h' o b => hk A' c' h' ?_ b
  simpa [List.flatMap_append] using o
theorem own_rd {lo : Nat} {h : Heap} {A : Option Addr} {n c : Nat} {l : List Blob} (ho : Own lo 2 h A n c (l.flatMap blobV)) : Rd 2 (eSt blobV) h A l := ho.rd blobV_len (by omega) (fun _ _ => rfl)
theorem own_len {lo : Nat} {h : Heap} {A : Option Addr} {n c : Nat} {l : List Blob} (ho : Own lo 2 h A n c (l.flatMap blobV)) : n = l.length := by
  have := ho.1
  rw [flatMap_len blobV_len] at this; omega

/-! ### Hold, Get, Let, Size -/
/-- Where a text goes: where it is held, or the first free place, or behind all. -/
def place (l : List Blob) (s : ByteArray) : Int := if idxOf (heldT s) l ≥ 0 then idxOf (heldT s) l else if idxOf freeB l ≥ 0 then idxOf freeB l else l.length
theorem idxOf_lt {p : Blob → Bool} {l : List Blob} (h : idxOf p l ≥ 0) : ∃ k : Nat, idxOf p l = k ∧ k < l.length := by
  unfold idxOf at *
  cases hf : l.findIdx? p with
  | none => rw [hf] at h; simp at h
  | some i =>
    rw [List.findIdx?_eq_some_iff_getElem] at hf
    obtain ⟨h1, _⟩ := hf
    exact ⟨i, rfl, h1⟩
theorem idxOf_neg {p : Blob → Bool} {l : List Blob} (h : ¬ idxOf p l ≥ 0) : idxOf p l = -1 := by
  unfold idxOf at *
  cases hf : l.findIdx? p with
  | none => rfl
  | some i => rw [hf] at h; simp at h
theorem place_range (l : List Blob) (s : ByteArray) : ∃ k : Nat, place l s = k ∧ k ≤ l.length := by
  unfold place
  split
  · rename_i h; obtain ⟨k, h1, h2⟩ := idxOf_lt h; exact ⟨k, h1, by omega⟩
  · split
    · rename_i h; obtain ⟨k, h1, h2⟩ := idxOf_lt h; exact ⟨k, h1, by omega⟩
    · exact ⟨l.length, rfl, Nat.le_refl _⟩
def emptyB : Blob := (nilS, 0, ())
/-- The store behind a Hold at place k. -/
def heldAt (l : List Blob) (k : Nat) (s : ByteArray) : List Blob := if k < l.length then l.set k (s, (l.getD k emptyB).2.1 + 1, ()) else l ++ [(s, 1, ())]
def manyAt (l : List Blob) (k : Nat) : Int := (l.getD k emptyB).2.1
theorem bgetD {l : List Blob} {k : Nat} (h : k < l.length) : l.getD k emptyB = l[k] := by rw [List.getD_eq_getElem?_getD, List.getElem?_eq_getElem h]; rfl

set_option maxRecDepth 100000 in
theorem hold_spec {h : Heap} {A : Option Addr} {c : Nat} {l : List Blob} {s : ByteArray} {R : Value → Heap → Prop} (hr : Rd 2 (eSt blobV) h A l) (hc : l.length ≤ c)
    (k1 : code l ≠ 0 → ∀ h', Ext h h' → R (.tuple #[.slice none 0 0, .int .i64 0, .int .i64 (code l)]) h') (k2 : code l = 0 → (s.size : Int) > 64 → ∀ h', Ext h h' → R (.tuple #[.slice none 0 0, .int .i64 0, .int .i64 2]) h')
    (k3 : code l = 0 → ¬ (s.size : Int) > 64 → ∀ k : Nat, place l s = k → k ≤ l.length → (k = 60 ∨ manyAt l k = 1000) → ∀ h', Ext h h' → R (.tuple #[.slice none 0 0, .int .i64 0, .int .i64 6]) h')
    (k4 : code l = 0 → ¬ (s.size : Int) > 64 → ∀ k : Nat, place l s = k → k ≤ l.length → ¬ (k = 60 ∨ manyAt l k = 1000) → ∀ A' n' c' h', Own h.size 2 h' A' n' c' ((heldAt l k s).flatMap blobV) → Ext h h' → R (.tuple #[.slice A' n' c', .int .i64 k, .int .i64 0]) h') :
    Run Try.prog 84 #[.slice A l.length c, .string s] h R := by
  refine f84.run ?_
  unfold f84.runT
  refine (check_spec hr hc).mono ?_
  rintro _ h1 ⟨rfl, e1⟩
  refine ⟨_, rfl, split_ne (fun c1 => k1 c1 h1 e1) (fun c1 => ?_)⟩
  refine split_dec (fun c2 => k2 c1 c2 h1 e1) (fun c2 => ?_)
  obtain ⟨h60, hall⟩ := code_ok c1
  have hr1 := hr.ext (mono_st _) e1
  have j0 : ∀ (x : Int) (h2 : Heap), Ext h h2 → (x = place l s ∨ (x < 0 ∧ place l s = l.length)) → (x < 0 ∨ ∃ k : Nat, x = k ∧ k < l.length) → f84.j0 R A l.length c s x h2 := by
    intro x h2 e2 hx hx2
    refine f84.j0_in ?_
    unfold f84.j0T
    refine clone_blobs (hr.ext (mono_st _) e2) (by omega) fun A3 cc3 h3 o3 e3 => ⟨_, _, _, rfl, ?_⟩
    have e23 := e2.trans e3
    -- behind: the row that is written
    have j1 : ∀ (k : Nat) (m : List Blob) (A9 : Option Addr) (n9 c9 : Nat) (h9 : Heap), place l s = k → k ≤ l.length → k < m.length → (m = if k < l.length then l else l ++ [emptyB]) → Own h.size 2 h9 A9 n9 c9 (m.flatMap blobV) → Ext h h9 → f84.j1 R s (k : Int) A9 n9 c9 h9 := by
      intro k m A9 n9 c9 h9 hp hkl hkm hm o9 e9
      have hn9 := own_len o9
      have hr9 := own_rd o9
      have hmk : m[k].2.1 = manyAt l k := by
        unfold manyAt
        by_cases hlt : k < l.length
        · rw [if_pos hlt] at hm; subst hm; rw [bgetD hlt]
        · rw [if_neg hlt] at hm
          have : k = l.length := by omega
          subst this
          subst hm
          rw [List.getElem_append_right (Nat.le_refl _), List.getD_eq_getElem?_getD, List.getElem?_eq_none (Nat.le_refl _)]; simp
      have full : (k = 60 ∨ manyAt l k = 1000) → f84.j3 R s (k : Int) A9 n9 c9 true h9 := by
        intro hf
        refine f84.j3_in ?_
        unfold f84.j3T
        exact split_t (k3 c1 c2 k hp hkl hf h9 e9)
      refine f84.j1_in ?_
      unfold f84.j1T
      refine split_eq (fun c3 => full (.inl (by omega))) (fun c3 => ?_)
      refine hr9.fld (v := .int .i64 m[k].2.1) (i := k) (k := 1) rfl hn9 hkm rfl ⟨m[k].2.1, rfl, ?_⟩
      rw [hmk]
      by_cases c4 : manyAt l k = 1000
      · rw [beq_iff_eq.2 c4]; exact full (.inr c4)
      · rw [beq_eq_false_iff_ne.2 c4]
        have hmb : 0 ≤ manyAt l k ∧ manyAt l k ≤ 1000 := by
          unfold manyAt
          by_cases hlt : k < l.length
          · rw [bgetD hlt]; have := hall l[k] (List.getElem_mem hlt); omega
          · rw [List.getD_eq_getElem?_getD, List.getElem?_eq_none (by omega)]; simp [emptyB]
        refine f84.j3_in ?_
        unfold f84.j3T
        refine split_f ?_
        refine f84.j2_in ?_
        unfold f84.j2T
        refine hr9.fld (v := .int .i64 m[k].2.1) (i := k) (k := 1) rfl hn9 hkm rfl ⟨m[k].2.1, rfl, ?_⟩
        rw [hmk, wrap_in (by omega) (by omega)]
        have := own_putAll o9 (k := k) (x := (k : Int)) rfl (n1 := n9) rfl hkm (s, manyAt l k + 1, ()) (K := fun h' => R (.tuple #[.slice A9 n9 c9, .int .i64 k, .int .i64 0]) h') (fun h' o' b' => ?_)
        · cases A9 with
          | none => exact this
          | some a => exact ⟨this.1, this.2.1, _, rfl, rfl, this.2.2⟩
        · refine k4 c1 c2 k hp hkl (by omega) A9 n9 c9 h' ?_ (o9.keep b' e9 (Nat.le_refl _))
          have : heldAt l k s = m.set k (s, manyAt l k + 1, ()) := by
            unfold heldAt
            by_cases hlt : k < l.length
            · rw [if_pos hlt] at hm ⊢; subst hm; rfl
            · rw [if_neg hlt] at hm ⊢
              have hkk : k = l.length := by omega
              subst hkk
              subst hm
              have hz : manyAt l l.length = 0 := by unfold manyAt; rw [List.getD_eq_getElem?_getD, List.getElem?_eq_none (Nat.le_refl _)]; rfl
              rw [hz, List.set_append_right _ _ (Nat.le_refl _), Nat.sub_self]; rfl
          rw [this]; exact o'
    refine split_dec (fun c3 => ?_) (fun c3 => ?_)
    · have hpl : place l s = l.length := by
        rcases hx with h4 | h4
        · obtain ⟨k, h5, _⟩ := place_range l s; omega
        · exact h4.2
      refine ⟨blobV emptyB, rfl, rfl, ?_⟩
      have o3 : Own h2.size 2 h3 A3 l.length cc3 (l.flatMap blobV) := o3
      refine push_blob (x := emptyB) o3 e3.1 (by omega) fun A8 c8 h8 o8 r8 => ⟨_, _, _, rfl, ?_⟩
      refine j1 l.length (l ++ [emptyB]) A8 _ c8 h8 hpl (Nat.le_refl _) (by simp) (by rw [if_neg (by omega)]) (o8.low e2.1) (e2.trans (o3.keep r8.1 e3 (Nat.le_refl _)))
    · rcases hx2 with h4 | ⟨k, rfl, hk⟩
      · omega
      · refine j1 k l A3 _ cc3 h3 ?_ (by omega) hk (by rw [if_pos hk]) (o3.low e2.1) e23
        rcases hx with h4 | h4
        · exact h4.symm
        · omega
  refine find_spec hr1 rfl (by omega) fun h2 e2 => ⟨_, rfl, ?_⟩
  refine split_dec (fun c3 => ?_) (fun c3 => ?_)
  · refine index_spec freeB (hr1.ext (mono_st _) e2) rfl (by omega) (fun x _ h3 _ => free_call) fun h3 e3 => ⟨_, rfl, ?_⟩
    have hp : place l s = if idxOf freeB l ≥ 0 then idxOf freeB l else (l.length : Int) := by unfold place; rw [if_neg (by omega)]
    by_cases c4 : idxOf freeB l ≥ 0
    · rw [if_pos c4] at hp
      exact j0 _ h3 (e1.trans (e2.trans e3)) (.inl hp.symm) (.inr (idxOf_lt c4))
    · rw [if_neg c4] at hp
      exact j0 _ h3 (e1.trans (e2.trans e3)) (.inr ⟨by omega, hp⟩) (.inl (by omega))
  · have hp : place l s = idxOf (heldT s) l := by unfold place; rw [if_pos (by omega)]
    exact j0 _ h2 (e1.trans e2) (.inl hp.symm) (.inr (idxOf_lt (by omega)))

/-- Is a piece at a place held? The fault of asking for it. -/
def askC (l : List Blob) (i : Int) : Int := if code l ≠ 0 then code l else if 0 ≤ i ∧ i < l.length ∧ manyAt l i.toNat ≠ 0 then 0 else 4
set_option maxRecDepth 100000 in
theorem ask_spec {h : Heap} {A : Option Addr} {c : Nat} {l : List Blob} {i : Int} (hr : Rd 2 (eSt blobV) h A l) (hc : l.length ≤ c) : Run Try.prog 126 #[.slice A l.length c, .int .i64 i] h fun u h' => u = .int .i64 (askC l i) ∧ Ext h h' := by
  refine f126.run ?_
  unfold f126.runT
  unfold askC
  refine (check_spec hr hc).mono ?_
  rintro _ h1 ⟨rfl, e1⟩
  refine ⟨_, rfl, split_eq (fun c1 => ?_) (fun c1 => ⟨by rw [if_pos c1], e1⟩)⟩
  rw [if_neg (by simpa using c1)]
  refine split_dec (fun c2 => ⟨by rw [if_neg (by omega)], e1⟩) (fun c2 => split_dec (fun c3 => ⟨by rw [if_neg (by omega)], e1⟩) (fun c3 => ?_))
  obtain ⟨k, rfl⟩ : ∃ k : Nat, i = k := ⟨i.toNat, by omega⟩
  have hk : k < l.length := by omega
  refine (hr.ext (mono_st _) e1).fld (v := .int .i64 l[k].2.1) (i := k) (k := 1) rfl rfl hk rfl ⟨l[k].2.1, rfl, ?_⟩
  have hm : manyAt l (k : Int).toNat = l[k].2.1 := by unfold manyAt; rw [Int.toNat_natCast, bgetD hk]
  rw [hm]
  refine split_eq (fun c4 => ⟨by rw [if_neg (fun hh => hh.2.2 c4)], e1⟩) (fun c4 => ⟨by rw [if_pos ⟨by omega, by omega, c4⟩, c1], e1⟩)
theorem ask_ok {l : List Blob} {i : Int} (h : askC l i = 0) : code l = 0 ∧ ∃ k : Nat, i = k ∧ ∃ hk : k < l.length, l[k].2.1 ≠ 0 := by
  unfold askC at h
  split at h
  · rename_i h1; exact absurd h h1
  · rename_i h1
    split at h
    · rename_i h2
      refine ⟨Decidable.not_not.1 h1, i.toNat, by omega, by omega, ?_⟩
      have := h2.2.2
      unfold manyAt at this
      rwa [bgetD (by omega)] at this
    · omega

set_option maxRecDepth 100000 in
theorem get_spec {h : Heap} {A : Option Addr} {c : Nat} {l : List Blob} {i : Int} {R : Value → Heap → Prop} (hr : Rd 2 (eSt blobV) h A l) (hc : l.length ≤ c)
    (k1 : askC l i ≠ 0 → ∀ h', Ext h h' → R (.tuple #[.string nilS, .int .i64 (askC l i)]) h') (k2 : askC l i = 0 → ∀ (k : Nat) (hk : k < l.length), i = k → ∀ h', Ext h h' → R (.tuple #[.string l[k].1, .int .i64 0]) h') :
    Run Try.prog 85 #[.slice A l.length c, .int .i64 i] h R := by
  refine f85.run ?_
  unfold f85.runT
  refine (ask_spec hr hc).mono ?_
  rintro _ h1 ⟨rfl, e1⟩
  refine ⟨_, rfl, split_ne (fun c1 => k1 c1 h1 e1) (fun c1 => ?_)⟩
  obtain ⟨_, k, rfl, hk, _⟩ := ask_ok c1
  exact (hr.ext (mono_st _) e1).fld0 (v := .string l[k].1) (i := k) rfl rfl hk rfl ⟨l[k].1, rfl, k2 c1 k hk rfl h1 e1⟩
def leftB (x : Blob) : Blob := if x.2.1 - 1 = 0 then emptyB else (x.1, x.2.1 - 1, ())
theorem setMany (l : List Blob) (k : Nat) (hk : k < l.length) (v : Int) : (l.flatMap blobV).set (k * 2 + 1) (.int .i64 v) = (l.set k (l[k].1, v, ())).flatMap blobV := flatMap_set blobV_len l k hk (by omega) rfl
set_option maxRecDepth 100000 in
theorem let_spec {h : Heap} {A : Option Addr} {c : Nat} {l : List Blob} {i : Int} {R : Value → Heap → Prop} (hr : Rd 2 (eSt blobV) h A l) (hc : l.length ≤ c)
    (k1 : askC l i ≠ 0 → ∀ h', Ext h h' → R (.tuple #[.slice none 0 0, .bool false, .int .i64 (askC l i)]) h')
    (k2 : askC l i = 0 → ∀ (k : Nat) (hk : k < l.length), i = k → ∀ A' c' h', Own h.size 2 h' A' l.length c' ((l.set k (leftB l[k])).flatMap blobV) → Ext h h' → R (.tuple #[.slice A' l.length c', .bool ((leftB l[k]).2.1 == 0), .int .i64 0]) h') :
    Run Try.prog 86 #[.slice A l.length c, .int .i64 i] h R := by
  refine f86.run ?_
  unfold f86.runT
  refine (ask_spec hr hc).mono ?_
  rintro _ h1 ⟨rfl, e1⟩
  refine ⟨_, rfl, split_ne (fun c1 => k1 c1 h1 e1) (fun c1 => ?_)⟩
  obtain ⟨hcode, k, rfl, hk, hne⟩ := ask_ok c1
  obtain ⟨h60, hall⟩ := code_ok hcode
  have hb := hall l[k] (List.getElem_mem hk)
  refine clone_blobs (hr.ext (mono_st _) e1) (by omega) fun A3 c3 h3 o3 e3 => ⟨_, _, _, rfl, ?_⟩
  have o3 := o3.low e1.1
  refine (own_rd o3).fld (v := .int .i64 l[k].2.1) (i := k) (k := 1) rfl rfl hk rfl ⟨l[k].2.1, rfl, ?_⟩
  rw [wrap_in (by omega) (by omega)]
  refine o3.storeK (i := k) (k := 1) rfl rfl hk (by omega) (by exact trivial) fun h4 o4 b4 => ?_
  rw [setMany l k hk] at o4
  have e4 : Ext h h4 := o3.keep b4 (e1.trans e3) (Nat.le_refl _)
  have hk4 : k < (l.set k (l[k].1, l[k].2.1 - 1, ())).length := by rw [List.length_set]; exact hk
  have hg : (l.set k (l[k].1, l[k].2.1 - 1, ()))[k] = (l[k].1, l[k].2.1 - 1, ()) := List.getElem_set_self _
  refine (own_rd o4).fld (v := .int .i64 (l[k].2.1 - 1)) (i := k) (k := 1) rfl (by rw [List.length_set]) hk4 (by rw [hg]; rfl) ⟨l[k].2.1 - 1, rfl, ?_⟩
  refine split_eq (fun c2 => ?_) (fun c2 => ?_)
  · have hl : leftB l[k] = emptyB := by unfold leftB; rw [if_pos c2]
    have k2' := k2 c1 k hk rfl
    rw [hl] at k2'
    have := own_putAll o4 (k := k) (x := (k : Int)) rfl (n1 := l.length) rfl hk4 emptyB (K := fun h' => f86.j0 R (k : Int) A3 l.length c3 h') (fun h' o' b' => ?_)
    · cases A3 with
      | none => exact this
      | some a => exact ⟨this.1, this.2.1, _, rfl, rfl, this.2.2⟩
    · rw [List.set_set] at o'
      refine f86.j0_in ?_
      unfold f86.j0T
      have hk5 : k < (l.set k emptyB).length := by rw [List.length_set]; exact hk
      have hg5 : (l.set k emptyB)[k] = emptyB := List.getElem_set_self _
      refine (own_rd o').fld (v := .int .i64 0) (i := k) (k := 1) rfl (by rw [List.length_set]) hk5 (by rw [hg5]; rfl) ⟨0, rfl, ?_⟩
      exact k2' A3 c3 h' o' (o4.keep b' e4 (Nat.le_refl _))
  · have hl : leftB l[k] = (l[k].1, l[k].2.1 - 1, ()) := by unfold leftB; rw [if_neg c2]
    have k2' := k2 c1 k hk rfl
    rw [hl] at k2'
    refine f86.j0_in ?_
    unfold f86.j0T
    refine (own_rd o4).fld (v := .int .i64 (l[k].2.1 - 1)) (i := k) (k := 1) rfl (by rw [List.length_set]) hk4 (by rw [hg]; rfl) ⟨l[k].2.1 - 1, rfl, ?_⟩
    exact k2' A3 c3 h4 o4 e4

/-! ### Size -/
def w1 (x : Blob) : Int := if x.2.1 > 0 then 1 else 0
def w2 (x : Blob) : Int := if x.2.1 > 0 then x.2.1 else 0
def w3 (x : Blob) : Int := if x.2.1 > 0 then (x.1.size : Int) else 0
def S (w : Blob → Int) (l : List Blob) : Int := (l.map w).sum
theorem S_take (w : Blob → Int) {l : List Blob} {k : Nat} (h : k < l.length) : S w (l.take (k + 1)) = S w (l.take k) + w l[k] := by
  unfold S
  rw [List.take_succ_eq_append_getElem h, List.map_append, List.sum_append]; simp
theorem S_drop (w : Blob → Int) {l : List Blob} {k : Nat} (h : k < l.length) : S w (l.drop k) = w l[k] + S w (l.drop (k + 1)) := by
  unfold S
  rw [List.drop_eq_getElem_cons h, List.map_cons, List.sum_cons]
theorem S_le (w : Blob → Int) {l : List Blob} (h : ∀ x ∈ l, 0 ≤ w x ∧ w x ≤ 1000) : 0 ≤ S w l ∧ S w l ≤ 1000 * l.length := by
  induction l with
  | nil => simp [S]
  | cons x l ih =>
    have h1 := h x (List.mem_cons_self ..)
    have h2 := ih fun y hy => h y (List.mem_cons_of_mem _ hy)
    have e : S w (x :: l) = w x + S w l := by simp [S]
    rw [e, List.length_cons]
    omega
theorem w_bound {l : List Blob} (hall : ∀ x ∈ l, (x.1.size : Int) ≤ 64 ∧ 0 ≤ x.2.1 ∧ x.2.1 ≤ 1000 ∧ (x.2.1 = 0 → x.1 = nilS)) : ∀ x ∈ l, (0 ≤ w1 x ∧ w1 x ≤ 1000) ∧ (0 ≤ w2 x ∧ w2 x ≤ 1000) ∧ (0 ≤ w3 x ∧ w3 x ≤ 1000) := by
  intro x hx
  have := hall x hx
  unfold w1 w2 w3
  refine ⟨by split <;> omega, by split <;> omega, by split <;> omega⟩

theorem size_spec {h : Heap} {A : Option Addr} {c : Nat} {l : List Blob} {R : Value → Heap → Prop} (hr : Rd 2 (eSt blobV) h A l) (hc : l.length ≤ c)
    (k1 : code l ≠ 0 → ∀ h', Ext h h' → R (.tuple #[.int .i64 0, .int .i64 0, .int .i64 0, .int .i64 (code l)]) h') (k2 : code l = 0 → ∀ h', Ext h h' → R (.tuple #[.int .i64 (S w1 l), .int .i64 (S w2 l), .int .i64 (S w3 l), .int .i64 0]) h') :
    Run Try.prog 87 #[.slice A l.length c] h R := by
  refine f87.run ?_
  unfold f87.runT
  refine (check_spec hr hc).mono ?_
  rintro _ h1 ⟨rfl, e1⟩
  refine ⟨_, rfl, split_ne (fun c1 => k1 c1 h1 e1) (fun c1 => ?_)⟩
  obtain ⟨h60, hall⟩ := code_ok c1
  have hw := w_bound hall
  have loop : ∀ (d k : Nat) (h' : Heap), k + d = l.length → Ext h h' → f87.l0 R (S w1 (l.take k)) (S w2 (l.take k)) (S w3 (l.take k)) A l.length c (l.length : Int) (k : Int) h' := by
    intro d
    induction d with
    | zero =>
      intro k h' hk e
      refine f87.l0_in ?_
      unfold f87.l0T
      refine split_dec (fun c => by omega) fun _ => ?_
      rw [List.take_of_length_le (by omega)]
      exact k2 c1 h' e
    | succ d ih =>
      intro k h' hk e
      have hkl : k < l.length := by omega
      have e1' : IntKind.wrap .i64 ((k : Int) + 1) = ((k + 1 : Nat) : Int) := by rw [wrap_in (by omega) (by omega)]; omega
      have t1 := S_take w1 hkl
      have t2 := S_take w2 hkl
      have t3 := S_take w3 hkl
      have b1' := S_le w1 (l := l.take k) (fun x hx => (hw x (List.mem_of_mem_take hx)).1)
      have b2' := S_le w2 (l := l.take k) (fun x hx => (hw x (List.mem_of_mem_take hx)).2.1)
      have b3' := S_le w3 (l := l.take k) (fun x hx => (hw x (List.mem_of_mem_take hx)).2.2)
      have hlt : (l.take k).length ≤ 60 := by rw [List.length_take]; omega
      have hx := hall l[k] (List.getElem_mem hkl)
      refine f87.l0_in ?_
      unfold f87.l0T
      refine split_dec (fun _ => ?_) (fun c => by omega)
      refine (hr.ext (mono_st _) e).agg rfl rfl hkl ?_
      refine box_in (blobV l[k]) rfl rfl rfl (blobV_flat _) fun h2 b2 e2 s2 => ?_
      refine get b2 rfl rfl rfl ⟨_, rfl, ?_⟩
      rw [e1']
      have nx := ih (k + 1) h2 (by omega) (e.trans e2)
      refine split_dec (fun c2 => ?_) (fun c2 => ?_)
      · rw [show w1 l[k] = 1 from if_pos c2] at t1
        rw [show w2 l[k] = l[k].2.1 from if_pos c2] at t2
        rw [show w3 l[k] = (l[k].1.size : Int) from if_pos c2] at t3
        refine get b2 rfl rfl rfl ⟨_, rfl, ?_⟩
        refine get b2 rfl rfl rfl ⟨_, rfl, ?_⟩
        rw [wrap_in (by omega) (by omega), wrap_in (by omega) (by omega), wrap_in (by omega) (by omega)]
        rw [t1, t2, t3] at nx; exact nx
      · rw [show w1 l[k] = 0 from if_neg c2, Int.add_zero] at t1
        rw [show w2 l[k] = 0 from if_neg c2, Int.add_zero] at t2
        rw [show w3 l[k] = 0 from if_neg c2, Int.add_zero] at t3
        rw [t1, t2, t3] at nx; exact nx
  exact loop l.length 0 h1 (by omega) e1

/-! ### The document's own functions -/
theorem with_spec {h : Heap} {A : Option Addr} {c : Nat} {l : List Blob} {k : Nat} {x : Blob} {R : Value → Heap → Prop} (hr : Rd 2 (eSt blobV) h A l) (hl : l.length ≤ 60) (hk : k ≤ l.length)
    (hR : ∀ A' n' c' h', Own h.size 2 h' A' n' c' ((if k = l.length then l ++ [x] else l.set k x).flatMap blobV) → Ext h h' → R (.slice A' n' c') h') : Run Try.prog 91 #[.slice A l.length c, .int .i64 (k : Int), .agg (blobV x).toArray] h R := by
  refine f91.run ?_
  unfold f91.runT
  refine newH_in fun h1 b1 e1 s1 => ?_
  have b1 : Blk h1 h.size (blobV x) 131 := by simpa [Value.cells] using b1
  have hflat : ∀ v ∈ l.flatMap blobV, Flat v := by
    intro v hv
    obtain ⟨x, _, hx⟩ := List.mem_flatMap.1 hv
    exact blobV_flat x v hx
  refine (Own.nil (lo := h1.size) (sz := 2)).app2 (Nat.le_refl _) rfl ((hr.ext (mono_st _) e1).src c) (flatMap_len blobV_len l) hflat (by omega) (by omega) fun A4 c4 h3 o3 r3 => ⟨_, _, _, rfl, ?_⟩
  have o3 : Own h1.size 2 h3 A4 l.length c4 (l.flatMap blobV) := by simpa using o3
  have e3 := r3.1.none
  have b3 := b1.ext e3
  rw [Nat.zero_add]
  refine split_eq (fun c1 => ?_) (fun c1 => ?_)
  · refine ⟨_, b3.agg rfl, blobV x, rfl, rfl, ?_⟩
    refine push_blob (x := x) o3 e3.1 (by omega) fun A5 c5 h5 o5 r5 => ⟨_, _, _, rfl, ?_⟩
    refine hR A5 _ c5 h5 ?_ (e1.trans (o3.keep r5.1 e3 (Nat.le_refl _)))
    rw [if_pos (by omega)]; exact o5.low e1.1
  · refine ⟨_, b3.agg rfl, ?_⟩
    have hlt : k < l.length := by omega
    have := own_putAll o3 (k := k) (x := (k : Int)) rfl (n1 := l.length) rfl hlt x (K := fun h' => R (.slice A4 l.length c4) h') (fun h' o' b' => ?_)
    · cases A4 with
      | none => exact this
      | some a => exact ⟨this.1, this.2.1, _, rfl, rfl, this.2.2⟩
    · refine hR A4 _ c4 h' ?_ (e1.trans (o3.keep b' e3 (Nat.le_refl _)))
      rw [if_neg (by omega)]; exact o'.low e1.1

set_option maxRecDepth 100000 in
theorem same_spec {h : Heap} {A B : Option Addr} {c c' n n' : Nat} {l : List Blob} (ha : Rd 2 (eSt blobV) h A l) (hb : Rd 2 (eSt blobV) h B l) (hn : n = l.length) (hn' : n' = l.length) (hz : l.length ≤ 100) :
    Run Try.prog 90 #[.slice A n c, .slice B n' c'] h fun u h' => u = .bool true ∧ h' = h := by
  refine f90.run ?_
  unfold f90.runT
  subst hn
  subst hn'
  refine split_ne (fun c => absurd rfl c) fun _ => ?_
  have loop : ∀ (d k : Nat), k + d = l.length → f90.l0 (fun u h' => u = .bool true ∧ h' = h) A l.length c B l.length c' (l.length : Int) (k : Int) h := by
    intro d
    induction d with
    | zero =>
      intro k hk
      refine f90.l0_in ?_
      unfold f90.l0T
      exact split_dec (fun c => by omega) fun _ => ⟨rfl, rfl⟩
    | succ d ih =>
      intro k hk
      refine f90.l0_in ?_
      unfold f90.l0T
      refine split_dec (fun _ => ?_) (fun c => by omega)
      obtain ⟨a, cs, h1, h2, h3⟩ := ha k (by omega)
      obtain ⟨b, cs', h4, h5, h6⟩ := hb k (by omega)
      subst h1 h4
      rw [show cs = _ from h3] at h2
      rw [show cs' = _ from h6] at h5
      have hkk : (Int.toNat (k : Int)) = k := rfl
      refine ⟨by omega, by omega, by omega, by omega, .agg (blobV l[k]).toArray, by simp only [ldv, hkk, h2, Option.map_some], .agg (blobV l[k]).toArray, by simp only [ldv, hkk, h5, Option.map_some], ?_⟩
      refine gen_neq (b := (l[k].1 == l[k].1 && (l[k].2.1 == l[k].2.1 && true))) (by kernel_rfl) ⟨_, rfl, ?_⟩
      rw [show (!(l[k].1 == l[k].1 && (l[k].2.1 == l[k].2.1 && true))) = false by rw [ba_beq]; simp]
      refine split_f ?_
      rw [wrap_in (by omega) (by omega)]
      exact ih (k + 1) (by omega)
  exact loop l.length 0 (by omega)

/-! ### The law -/
def hcode (s : ByteArray) (l : List Blob) (p : Nat) : Int := if (s.size : Int) > 64 then 2 else if p = 60 ∨ manyAt l p = 1000 then 6 else 0
def HoldF (h : Heap) (l : List Blob) (s : ByteArray) (A : Option Addr) (n : Nat) (k e : Int) : Prop :=
  (code l ≠ 0 → n = 0 ∧ k = 0 ∧ e = code l) ∧ (code l = 0 → ∀ p : Nat, place l s = p → (hcode s l p ≠ 0 → n = 0 ∧ k = 0 ∧ e = hcode s l p) ∧ (hcode s l p = 0 → k = p ∧ e = 0 ∧ Rd 2 (eSt blobV) h A (heldAt l p s) ∧ n = (heldAt l p s).length))
def GetF (l : List Blob) (i : Int) (t : ByteArray) (f : Int) : Prop := (askC l i ≠ 0 → t = nilS ∧ f = askC l i) ∧ (askC l i = 0 → ∀ (k : Nat) (hk : k < l.length), i = k → t = l[k].1 ∧ f = 0)
def LetF (h : Heap) (l : List Blob) (i : Int) (A : Option Addr) (n : Nat) (b : Bool) (g : Int) : Prop :=
  (askC l i ≠ 0 → n = 0 ∧ b = false ∧ g = askC l i) ∧ (askC l i = 0 → ∀ (k : Nat) (hk : k < l.length), i = k → Rd 2 (eSt blobV) h A (l.set k (leftB l[k])) ∧ n = l.length ∧ b = ((leftB l[k]).2.1 == 0) ∧ g = 0)
def SizeF (l : List Blob) (a b d e : Int) : Prop := (code l ≠ 0 → a = 0 ∧ b = 0 ∧ d = 0 ∧ e = code l) ∧ (code l = 0 → a = S w1 l ∧ b = S w2 l ∧ d = S w3 l ∧ e = 0)

theorem HoldF.ext {h h' : Heap} {l : List Blob} {s : ByteArray} {A : Option Addr} {n : Nat} {k e : Int} (f : HoldF h l s A n k e) (x : Ext h h') : HoldF h' l s A n k e :=
  ⟨f.1, fun hc p hp => ⟨(f.2 hc p hp).1, fun h0 => let ⟨a, b, r, d⟩ := (f.2 hc p hp).2 h0; ⟨a, b, r.ext (mono_st _) x, d⟩⟩⟩
theorem LetF.ext {h h' : Heap} {l : List Blob} {i : Int} {A : Option Addr} {n : Nat} {b : Bool} {g : Int} (f : LetF h l i A n b g) (x : Ext h h') : LetF h' l i A n b g :=
  ⟨f.1, fun h0 k hk hi => let ⟨a, r⟩ := f.2 h0 k hk hi; ⟨a.ext (mono_st _) x, r⟩⟩

def findFrom (p : Blob → Bool) (l : List Blob) (k : Nat) : Int := match (l.drop k).findIdx? p with | some j => ((k + j : Nat) : Int) | none => -1
theorem ff_at {p : Blob → Bool} {l : List Blob} {k : Nat} (h : k < l.length) : findFrom p l k = if p l[k] = true then (k : Int) else findFrom p l (k + 1) := by
  unfold findFrom
  rw [List.drop_eq_getElem_cons h, List.findIdx?_cons]
  split
  · rename_i j hj
    split at hj
    · rename_i hp; cases hj; rw [if_pos hp]; rfl
    · rename_i hp
      rw [Option.map_eq_some_iff] at hj
      obtain ⟨q, hq, rfl⟩ := hj
      rw [if_neg hp, hq]
      show ((k + (q + 1) : Nat) : Int) = ((k + 1 + q : Nat) : Int)
      omega
  · rename_i hj
    split at hj
    · cases hj
    · rename_i hp
      rw [Option.map_eq_none_iff] at hj
      rw [if_neg hp, hj]
theorem ff_zero (p : Blob → Bool) (l : List Blob) : findFrom p l 0 = idxOf p l := by
  unfold findFrom idxOf
  rw [List.drop_zero]
  split
  · rename_i j hj; rw [hj]; simp
  · rename_i hj; rw [hj]
theorem ff_end (p : Blob → Bool) (l : List Blob) : findFrom p l l.length = -1 := by unfold findFrom; rw [List.drop_length]; rfl
def freeFrom (l : List Blob) (k : Nat) : Int := if findFrom freeB l k ≥ 0 then findFrom freeB l k else l.length

theorem law_tail {h s0 : Heap} {A A12 : Option Addr} {c c12 n12 : Nat} {l : List Blob} {i f g : Int} {t : ByteArray} {b13 : Bool} (hr : Rd 2 (eSt blobV) h A l) (e : Ext s0 h) (hcode : code l = 0) (G : GetF l i t f) (Lt : LetF h l i A12 n12 b13 g) :
    f13.j3 (fun v h' => v = .bool true ∧ Ext s0 h') A l.length c i t f A12 n12 c12 b13 g h := by
  obtain ⟨h60, hall⟩ := code_ok hcode
  refine f13.j3_in ?_
  unfold f13.j3T
  rw [wrap_in (by omega) (by omega)]
  refine in_spec.ret ⟨_, rfl, ?_⟩
  have none' : askC l i ≠ 0 → f13.j6 (fun v h' => v = .bool true ∧ Ext s0 h') A l.length c i t f A12 n12 c12 b13 g true h := by
    intro hne
    obtain ⟨rfl, rfl⟩ := G.1 hne
    obtain ⟨rfl, rfl, rfl⟩ := Lt.1 hne
    have h4 : askC l i = 4 := by
      unfold askC at hne ⊢
      rw [if_neg (by simpa using hcode)] at hne ⊢
      split
      · rename_i h1; rw [if_pos h1] at hne; omega
      · rfl
    refine f13.j6_in ?_
    unfold f13.j6T
    refine split_t ?_
    rw [h4, beq_self_eq_true]
    exact split_t (split_t (split_eq (fun _ => split_not (split_f ⟨rfl, e⟩)) (fun c => absurd rfl c)))
  refine split_not (split_dec (fun c1 => ?_) (fun c1 => ?_))
  · obtain ⟨k, rfl⟩ : ∃ k : Nat, i = k := ⟨i.toNat, by omega⟩
    have hk : k < l.length := by omega
    refine hr.fld (v := .int .i64 l[k].2.1) (i := k) (k := 1) rfl rfl hk rfl ⟨l[k].2.1, rfl, ?_⟩
    have hx := hall l[k] (List.getElem_mem hk)
    by_cases c2 : l[k].2.1 = 0
    · rw [beq_iff_eq.2 c2]
      refine none' ?_
      unfold askC
      rw [if_neg (by simpa using hcode), if_neg]
      · omega
      · intro hh
        apply hh.2.2
        unfold manyAt
        rw [Int.toNat_natCast, bgetD hk]; exact c2
    · rw [beq_eq_false_iff_ne.2 c2]
      have h0 : askC l (k : Int) = 0 := by
        unfold askC
        rw [if_neg (by simpa using hcode), if_pos]
        refine ⟨by omega, by omega, ?_⟩
        unfold manyAt
        rw [Int.toNat_natCast, bgetD hk]; exact c2
      obtain ⟨rfl, rfl⟩ := G.2 h0 k hk rfl
      obtain ⟨rb, rfl, rfl, rfl⟩ := Lt.2 h0 k hk rfl
      refine f13.j6_in ?_
      unfold f13.j6T
      refine split_f ?_
      have j7 : ∀ (h2 : Heap) (b : Nat) (ty : TypeId), Ext h h2 → Blk h2 b (blobV (leftB l[k])) ty → f13.j7 (fun v h' => v = .bool true ∧ Ext s0 h') A l.length c (k : Int) l[k].1 0 A12 l.length c12 ((leftB l[k]).2.1 == 0) 0 ⟨b, 0, none⟩ h2 := by
        intro h2 b ty e2 bb
        refine f13.j7_in ?_
        unfold f13.j7T
        refine (hr.ext (mono_st _) e2).fld0 (v := .string l[k].1) (i := k) rfl rfl hk rfl ⟨l[k].1, rfl, ?_⟩
        rw [show (l[k].1.toList == l[k].1.toList) = true from beq_self_eq_true _]
        refine split_t (split_t ⟨_, bb.agg rfl, ?_⟩)
        refine with_spec (hr.ext (mono_st _) e2) h60 (by omega) fun A7 n7 c7 h3 o3 e3 => ⟨_, _, _, rfl, ?_⟩
        rw [if_neg (by omega)] at o3
        have hl2 : (l.set k (leftB l[k])).length = l.length := List.length_set
        refine (same_spec (l := l.set k (leftB l[k])) ((rb.ext (mono_st _) e2).ext (mono_st _) e3) (own_rd o3) hl2.symm (own_len o3) (by omega)).ret ⟨_, rfl, split_t ?_⟩
        refine get (bb.ext e3) rfl rfl rfl ⟨_, rfl, ?_⟩
        rw [show (((leftB l[k]).2.1 == 0) == ((leftB l[k]).2.1 == 0)) = true by cases ((leftB l[k]).2.1 == 0) <;> rfl]
        exact split_t ⟨rfl, e.trans (e2.trans e3)⟩
      have order : newH h (.cells #[.string nilS, .int .i64 0] 131) fun h7 => Ext h h7 ∧ (∃ l9 : List Value, (Value.agg #[.string l[k].1, .int .i64 (IntKind.wrap .i64 (l[k].2.1 - 1))]) = .agg l9.toArray ∧ l9.length = 2 ∧ ∃ h8, stH h7 ⟨h.size, 0, none⟩ l9 0 = some h8 ∧
          ∃ v10, ldv false 1 h8 ((⟨h.size, 0, none⟩ : Addr).add 1) = some v10 ∧ ∃ x11, v10 = .int .i64 x11 ∧
            splitB (x11 == 0) (∃ l13 : List Value, (Value.agg #[.string nilS, .int .i64 0]) = .agg l13.toArray ∧ l13.length = 2 ∧ ∃ h12, stH h8 ⟨h.size, 0, none⟩ l13 0 = some h12 ∧ f13.j7 (fun v h' => v = .bool true ∧ Ext s0 h') A l.length c (k : Int) l[k].1 0 A12 l.length c12 ((leftB l[k]).2.1 == 0) 0 ⟨h.size, 0, none⟩ h12)
              (f13.j7 (fun v h' => v = .bool true ∧ Ext s0 h') A l.length c (k : Int) l[k].1 0 A12 l.length c12 ((leftB l[k]).2.1 == 0) 0 ⟨h.size, 0, none⟩ h8)) := by
        refine newH_in fun h7 b7 e7 s7 => ⟨e7, ?_⟩
        rw [wrap_in (by omega) (by omega)]
        obtain ⟨h8, st8, b8, o8⟩ := b7.stAll (blobV (l[k].1, l[k].2.1 - 1, ())) rfl (blobV_flat _)
        have e8 := e7.only o8 (Nat.le_refl _)
        refine ⟨blobV (l[k].1, l[k].2.1 - 1, ()), rfl, rfl, h8, st8, ?_⟩
        refine get b8 rfl rfl rfl ⟨_, rfl, split_eq (fun c3 => ?_) (fun c3 => ?_)⟩
        · obtain ⟨h9, st9, b9, o9⟩ := b8.stAll (blobV emptyB) rfl (blobV_flat _)
          have hl : leftB l[k] = emptyB := if_pos c3
          exact ⟨blobV emptyB, rfl, rfl, h9, st9, j7 h9 _ _ (e8.only o9 (Nat.le_refl _)) (by rw [hl]; exact b9)⟩
        · have hl : leftB l[k] = (l[k].1, l[k].2.1 - 1, ()) := if_neg c3
          exact j7 h8 _ _ e8 (by rw [hl]; exact b8)
      refine f13.j5_in ?_
      unfold f13.j5T
      have gt := hr.fld0 (v := .string l[k].1) (i := k) (x := (k : Int)) (n := l.length) rfl rfl hk rfl (K := fun v => v = .string l[k].1) rfl
      obtain ⟨a, cs, ha, hcs, hE⟩ := hr k hk
      subst ha
      rw [show cs = _ from hE] at hcs
      have g0 : ldv false 1 h (a.add (k * 2)) = some (.string l[k].1) := by
        have := cellsH_get hcs (k := 0) (v := .string l[k].1) rfl
        simpa [ldv, add_add] using this
      have g1 : ldv false 1 h ((a.add (k * 2)).add 1) = some (.int .i64 l[k].2.1) := by
        have := cellsH_get hcs (k := 1) (v := .int .i64 l[k].2.1) rfl
        simpa [ldv] using this
      exact ⟨by omega, by omega, by omega, by omega, _, g0, _, rfl, _, g1, _, rfl, order, order⟩
  · refine none' ?_
    unfold askC
    rw [if_neg (by simpa using hcode), if_neg (by omega)]
    omega

theorem law_loop {h s0 : Heap} {A A7 A12 : Option Addr} {c n7 c7 c12 n12 : Nat} {l : List Blob} {s : ByteArray} {i f g k7 e9 z1 z2 z3 z4 : Int} {t : ByteArray} {b13 : Bool} (hr : Rd 2 (eSt blobV) h A l) (e : Ext s0 h) (hcd : code l = 0) (H : HoldF h l s A7 n7 k7 e9) (G : GetF l i t f) (Lt : LetF h l i A12 n12 b13 g) (Z : SizeF l z1 z2 z3 z4) :
    ∀ d : Nat, d ≤ l.length → f13.l0 (fun v h' => v = .bool true ∧ Ext s0 h') A l.length c s i A7 n7 c7 k7 e9 t f A12 n12 c12 b13 g z1 z2 z3 z4 0 (findFrom (heldT s) l d) (freeFrom l d) (S w1 (l.drop d)) (S w2 (l.drop d)) (S w3 (l.drop d)) ((d : Int) - 1) h := by
  obtain ⟨h60, hall⟩ := code_ok hcd
  have hw := w_bound hall
  intro d
  induction d with
  | zero =>
    intro _
    obtain ⟨rfl, rfl, rfl, rfl⟩ := Z.2 hcd
    refine f13.l0_in ?_
    unfold f13.l0T
    refine split_dec (fun c => by omega) fun _ => ?_
    rw [List.drop_zero]
    refine split_ne (fun c => absurd rfl c) fun _ => split_ne (fun c => absurd rfl c) fun _ => split_ne (fun c => absurd rfl c) fun _ => split_ne (fun c => absurd rfl c) fun _ => ?_
    rw [ff_zero]
    obtain ⟨p, hp, hpl⟩ := place_range l s
    have H2 := H.2 hcd p hp
    have j2 : ∀ w, w = hcode s l p → f13.j2 (fun v h' => v = .bool true ∧ Ext s0 h') A l.length c s i A7 n7 c7 k7 e9 t f A12 n12 c12 b13 g w (p : Int) h := by
      rintro w rfl
      refine f13.j2_in ?_
      unfold f13.j2T
      refine split_ne (fun c1 => ?_) (fun c1 => ?_)
      · obtain ⟨rfl, rfl, rfl⟩ := H2.1 c1
        refine split_dec (fun c => by omega) fun _ => split_ne (fun c => absurd rfl c) fun _ => split_ne (fun c => absurd rfl c) fun _ => ?_
        exact law_tail hr e hcd G Lt
      · obtain ⟨rfl, rfl, rA, rfl⟩ := H2.2 c1
        have hlen : (heldAt l p s).length ≤ 61 := by
          unfold heldAt; split <;> simp <;> omega
        have j8 : ∀ x, x = manyAt l p + 1 → f13.j8 (fun v h' => v = .bool true ∧ Ext s0 h') A l.length c s i A7 (heldAt l p s).length c7 (p : Int) 0 t f A12 n12 c12 b13 g (p : Int) x h := by
          rintro x rfl
          refine f13.j8_in ?_
          unfold f13.j8T
          refine with_spec (x := (s, manyAt l p + 1, ())) hr h60 hpl fun A3 n3 c3 h3 o3 e3 => ⟨_, _, _, rfl, ?_⟩
          have hm : (if p = l.length then l ++ [(s, manyAt l p + 1, ())] else l.set p (s, manyAt l p + 1, ())) = heldAt l p s := by
            unfold heldAt
            by_cases hh : p = l.length
            · rw [if_pos hh, if_neg (by omega)]
              subst hh
              have : manyAt l l.length = 0 := by unfold manyAt; rw [List.getD_eq_getElem?_getD, List.getElem?_eq_none (Nat.le_refl _)]; rfl
              rw [this]; rfl
            · rw [if_neg hh, if_pos (by omega)]; rfl
          rw [hm] at o3
          refine (same_spec (rA.ext (mono_st _) e3) (own_rd o3) rfl (own_len o3) (by omega)).ret ⟨_, rfl, split_not (split_t ?_)⟩
          refine split_ne (fun c => absurd rfl c) fun _ => split_ne (fun c => absurd rfl c) fun _ => ?_
          exact law_tail (hr.ext (mono_st _) e3) (e.trans e3) hcd G (Lt.ext e3)
        refine split_dec (fun c2 => ?_) (fun c2 => j8 1 ?_)
        · have hk : p < l.length := by omega
          have hx := hall l[p] (List.getElem_mem hk)
          refine hr.fld (v := .int .i64 l[p].2.1) (i := p) (k := 1) rfl rfl hk rfl ⟨l[p].2.1, rfl, ?_⟩
          rw [wrap_in (by omega) (by omega)]
          exact j8 _ (by unfold manyAt; rw [bgetD hk]; omega)
        · unfold manyAt
          rw [List.getD_eq_getElem?_getD, List.getElem?_eq_none (by omega)]; rfl
    have j1 : f13.j1 (fun v h' => v = .bool true ∧ Ext s0 h') A l.length c s i A7 n7 c7 k7 e9 t f A12 n12 c12 b13 g 0 (p : Int) h := by
      refine f13.j1_in ?_
      unfold f13.j1T
      refine split_dec (fun c1 => j2 2 (by unfold hcode; rw [if_pos c1])) (fun c1 => ?_)
      refine split_eq (fun c2 => j2 6 (by unfold hcode; rw [if_neg c1, if_pos (.inl (by omega))])) (fun c2 => ?_)
      refine split_dec (fun c3 => ?_) (fun c3 => j2 0 ?_)
      · have hk : p < l.length := by omega
        refine hr.fld (v := .int .i64 l[p].2.1) (i := p) (k := 1) rfl rfl hk rfl ⟨l[p].2.1, rfl, ?_⟩
        have hm : manyAt l p = l[p].2.1 := by unfold manyAt; rw [bgetD hk]
        refine split_eq (fun c4 => j2 6 (by unfold hcode; rw [if_neg c1, if_pos (.inr (by rw [hm]; exact c4))])) (fun c4 => j2 0 (by unfold hcode; rw [if_neg c1, if_neg (by rw [hm]; omega)]))
      · have hm : manyAt l p = 0 := by unfold manyAt; rw [List.getD_eq_getElem?_getD, List.getElem?_eq_none (by omega)]; rfl
        unfold hcode; rw [if_neg c1, if_neg (by omega)]
    refine f13.j0_in ?_
    unfold f13.j0T
    unfold place at hp
    refine split_dec (fun c1 => ?_) (fun c1 => ?_)
    · rw [if_neg (by omega)] at hp
      have : freeFrom l 0 = p := by rw [← hp]; unfold freeFrom; rw [ff_zero]
      rw [this]; exact j1
    · rw [if_pos (by omega)] at hp
      rw [hp]; exact j1
  | succ d ih =>
    intro hd
    have hk : d < l.length := by omega
    have ih := ih (by omega)
    have hx := hall l[d] (List.getElem_mem hk)
    have f1 := ff_at (p := heldT s) hk
    have f2 := ff_at (p := freeB) hk
    have t1 := S_drop w1 hk
    have t2 := S_drop w2 hk
    have t3 := S_drop w3 hk
    have b1' := S_le w1 (l := l.drop (d + 1)) (fun x hx => (hw x (List.mem_of_mem_drop hx)).1)
    have b2' := S_le w2 (l := l.drop (d + 1)) (fun x hx => (hw x (List.mem_of_mem_drop hx)).2.1)
    have b3' := S_le w3 (l := l.drop (d + 1)) (fun x hx => (hw x (List.mem_of_mem_drop hx)).2.2)
    have hlt : (l.drop (d + 1)).length ≤ 60 := by rw [List.length_drop]; omega
    have ed : ((d + 1 : Nat) : Int) - 1 = (d : Int) := by omega
    rw [ed]
    refine f13.l0_in ?_
    unfold f13.l0T
    refine split_dec (fun _ => ?_) (fun c => by omega)
    refine hr.fld (v := .int .i64 l[d].2.1) (i := d) (k := 1) rfl rfl hk rfl ⟨l[d].2.1, rfl, ?_⟩
    have ew : IntKind.wrap .i64 ((d : Int) - 1) = (d : Int) - 1 := wrap_in (by omega) (by omega)
    refine split_eq (fun c1 => ?_) (fun c1 => ?_)
    · have hfree : freeB l[d] = true := by unfold freeB; exact beq_iff_eq.2 c1
      have hheld : ¬ heldT s l[d] = true := by unfold heldT; rw [decide_eq_false (p := l[d].2.1 > 0) (by omega)]; simp
      rw [show w1 l[d] = 0 from if_neg (by omega), Int.zero_add] at t1
      rw [show w2 l[d] = 0 from if_neg (by omega), Int.zero_add] at t2
      rw [show w3 l[d] = 0 from if_neg (by omega), Int.zero_add] at t3
      rw [if_neg hheld] at f1
      rw [if_pos hfree] at f2
      have f3 : freeFrom l d = (d : Int) := by unfold freeFrom; rw [f2, if_pos (by omega)]
      refine f13.j4_in ?_
      unfold f13.j4T
      rw [ew, ← f1, ← t1, ← t2, ← t3]
      rw [f3] at ih
      exact ih
    · have hpos : l[d].2.1 > 0 := by omega
      have hfree : ¬ freeB l[d] = true := by unfold freeB; rw [beq_iff_eq]; omega
      rw [show w1 l[d] = 1 from if_pos hpos] at t1
      rw [show w2 l[d] = l[d].2.1 from if_pos hpos] at t2
      rw [show w3 l[d] = (l[d].1.size : Int) from if_pos hpos] at t3
      rw [if_neg hfree] at f2
      have f3 : freeFrom l d = freeFrom l (d + 1) := by unfold freeFrom; rw [f2]
      have hheld : heldT s l[d] = decide (l[d].1 = s) := by unfold heldT; rw [decide_eq_true hpos, Bool.true_and]
      rw [hheld] at f1
      obtain ⟨a, cs, ha, hcs, hE⟩ := hr d hk
      subst ha
      rw [show cs = _ from hE] at hcs
      have g0 : ldv false 1 h (a.add (d * 2)) = some (.string l[d].1) := by
        have := cellsH_get hcs (k := 0) (v := .string l[d].1) rfl
        simpa [ldv, add_add] using this
      have g1 : ldv false 1 h ((a.add (d * 2)).add 1) = some (.int .i64 l[d].2.1) := by
        have := cellsH_get hcs (k := 1) (v := .int .i64 l[d].2.1) rfl
        simpa [ldv] using this
      refine ⟨by omega, by omega, by omega, by omega, _, g1, _, rfl, _, g0, _, rfl, by omega, by omega, _, g0, _, rfl, ?_⟩
      rw [wrap_in (n := S w1 (l.drop (d + 1)) + 1) (by omega) (by omega), wrap_in (n := S w2 (l.drop (d + 1)) + l[d].2.1) (by omega) (by omega), wrap_in (n := S w3 (l.drop (d + 1)) + (l[d].1.size : Int)) (by omega) (by omega)]
      rw [show S w1 (l.drop (d + 1)) + 1 = S w1 (l.drop d) by omega, show S w2 (l.drop (d + 1)) + l[d].2.1 = S w2 (l.drop d) by omega, show S w3 (l.drop (d + 1)) + (l[d].1.size : Int) = S w3 (l.drop d) by omega, ← f3, str_beq]
      refine split_dec (fun c2 => ?_) (fun c2 => ?_)
      · rw [decide_eq_true c2, if_pos rfl] at f1
        refine f13.j4_in ?_
        unfold f13.j4T
        rw [ew]
        rw [f1] at ih
        exact ih
      · rw [decide_eq_false c2, if_neg (by simp)] at f1
        refine f13.j4_in ?_
        unfold f13.j4T
        rw [ew, ← f1]
        exact ih

set_option maxRecDepth 100000 in
theorem BlobTells_run {h : Heap} {A : Option Addr} {c : Nat} {l : List Blob} {s : ByteArray} {i : Int} (hr0 : Rd 2 eBlob h A l) (hc : l.length ≤ c) (hl : (l.length : Int) ≤ 9223372036854775806) :
    Run Try.prog 13 #[.slice A l.length c, .string s, .int .i64 i] h fun v h' => v = .bool true ∧ Ext h h' := by
  have hr : Rd 2 (eSt blobV) h A l := hr0.conv fun x _ cs hx => eBlob_of hx
  refine f13.run ?_
  unfold f13.runT
  have hold : Run Try.prog 84 #[.slice A l.length c, .string s] h fun v h' => ∃ A3 n3 c3 k e, v = .tuple #[.slice A3 n3 c3, .int .i64 k, .int .i64 e] ∧ HoldF h' l s A3 n3 k e ∧ Ext h h' := by
    refine hold_spec hr hc (fun c1 h' e' => ⟨_, _, _, _, _, rfl, ⟨fun _ => ⟨rfl, rfl, rfl⟩, fun c => absurd c c1⟩, e'⟩) (fun c1 c2 h' e' => ⟨_, _, _, _, _, rfl, ⟨fun c => absurd c1 c, fun _ p hp => ?_⟩, e'⟩)
      (fun c1 c2 k hp hk c3 h' e' => ⟨_, _, _, _, _, rfl, ⟨fun c => absurd c1 c, fun _ p hp2 => ?_⟩, e'⟩) (fun c1 c2 k hp hk c3 A' n' c' h' o e' => ⟨_, _, _, _, _, rfl, ⟨fun c => absurd c1 c, fun _ p hp2 => ?_⟩, e'⟩)
    · have : hcode s l p = 2 := by unfold hcode; rw [if_pos c2]
      rw [this]; exact ⟨fun _ => ⟨rfl, rfl, rfl⟩, fun c => by omega⟩
    · have : p = k := by omega
      subst this
      have : hcode s l p = 6 := by unfold hcode; rw [if_neg c2, if_pos c3]
      rw [this]; exact ⟨fun _ => ⟨rfl, rfl, rfl⟩, fun c => by omega⟩
    · have : p = k := by omega
      subst this
      have : hcode s l p = 0 := by unfold hcode; rw [if_neg c2, if_neg c3]
      rw [this]; exact ⟨fun c => absurd rfl c, fun _ => ⟨rfl, rfl, own_rd o, own_len o⟩⟩
  refine hold.mono ?_
  rintro _ h1 ⟨A3, n3, c3, k3, x3, rfl, H, e1⟩
  refine ⟨_, _, _, _, _, rfl, ?_⟩
  have hr1 := hr.ext (mono_st _) e1
  have gett : Run Try.prog 85 #[.slice A l.length c, .int .i64 i] h1 fun v h' => ∃ t f, v = .tuple #[.string t, .int .i64 f] ∧ GetF l i t f ∧ Ext h1 h' := by
    refine get_spec hr1 hc (fun c1 h' e' => ⟨_, _, rfl, ⟨fun _ => ⟨rfl, rfl⟩, fun c => absurd c c1⟩, e'⟩) (fun c1 k hk hi h' e' => ⟨_, _, rfl, ⟨fun c => absurd c1 c, fun _ k2 hk2 hi2 => ?_⟩, e'⟩)
    have : k2 = k := by omega
    subst this
    exact ⟨rfl, rfl⟩
  refine gett.mono ?_
  rintro _ h2 ⟨t, f, rfl, G, e2⟩
  refine ⟨_, _, rfl, ?_⟩
  have hr2 := hr1.ext (mono_st _) e2
  have lett : Run Try.prog 86 #[.slice A l.length c, .int .i64 i] h2 fun v h' => ∃ A4 n4 c4 b g, v = .tuple #[.slice A4 n4 c4, .bool b, .int .i64 g] ∧ LetF h' l i A4 n4 b g ∧ Ext h2 h' := by
    refine let_spec hr2 hc (fun c1 h' e' => ⟨_, _, _, _, _, rfl, ⟨fun _ => ⟨rfl, rfl, rfl⟩, fun c => absurd c c1⟩, e'⟩) (fun c1 k hk hi A' c' h' o e' => ⟨_, _, _, _, _, rfl, ⟨fun c => absurd c1 c, fun _ k2 hk2 hi2 => ?_⟩, e'⟩)
    have : k2 = k := by omega
    subst this
    exact ⟨own_rd o, rfl, rfl, rfl⟩
  refine lett.mono ?_
  rintro _ h3 ⟨A4, n4, c4, b4, g4, rfl, Lt, e3⟩
  refine ⟨_, _, _, _, _, rfl, ?_⟩
  have hr3 := hr2.ext (mono_st _) e3
  have sizz : Run Try.prog 87 #[.slice A l.length c] h3 fun v h' => ∃ a b d e, v = .tuple #[.int .i64 a, .int .i64 b, .int .i64 d, .int .i64 e] ∧ SizeF l a b d e ∧ Ext h3 h' :=
    size_spec hr3 hc (fun c1 h' e' => ⟨_, _, _, _, rfl, ⟨fun _ => ⟨rfl, rfl, rfl, rfl⟩, fun c => absurd c c1⟩, e'⟩) (fun c1 h' e' => ⟨_, _, _, _, rfl, ⟨fun c => absurd c1 c, fun _ => ⟨rfl, rfl, rfl, rfl⟩⟩, e'⟩)
  refine sizz.mono ?_
  rintro _ h4 ⟨z1, z2, z3, z4, rfl, Z, e4⟩
  refine ⟨_, _, _, _, rfl, ?_⟩
  have hr4 := hr3.ext (mono_st _) e4
  refine (fault_spec hr4).mono ?_
  rintro _ h5 ⟨rfl, e5⟩
  refine ⟨_, rfl, ?_⟩
  have hr5 := hr4.ext (mono_st _) e5
  refine (check_spec hr5 hc).mono ?_
  rintro _ h6 ⟨rfl, e6⟩
  refine ⟨_, rfl, split_ne (fun c => absurd rfl c) fun _ => ?_⟩
  have eall : Ext h h6 := e1.trans (e2.trans (e3.trans (e4.trans (e5.trans e6))))
  refine split_ne (fun c1 => ?_) (fun c1 => ?_)
  · obtain ⟨rfl, rfl, rfl⟩ := H.1 c1
    have hask : askC l i = code l := by unfold askC; rw [if_pos c1]
    have hne : askC l i ≠ 0 := by rw [hask]; exact c1
    obtain ⟨rfl, rfl⟩ := G.1 hne
    obtain ⟨rfl, rfl, rfl⟩ := Lt.1 hne
    obtain ⟨rfl, rfl, rfl, rfl⟩ := Z.1 c1
    rw [hask]
    refine split_eq (fun _ => ?_) (fun c => absurd rfl c)
    refine split_eq (fun _ => ?_) (fun c => absurd rfl c)
    refine split_eq (fun _ => ?_) (fun c => absurd rfl c)
    refine split_any (fun _ => ?_) (fun c => by rw [show (ByteArray.toList nilS == ByteArray.toList nilS) = true from beq_self_eq_true _] at c; cases c)
    refine split_eq (fun _ => ?_) (fun c => absurd rfl c)
    refine split_not (split_f ?_)
    refine split_eq (fun _ => ?_) (fun c => absurd rfl c)
    refine split_eq (fun _ => ?_) (fun c => absurd rfl c)
    exact ⟨by rw [beq_self_eq_true], eall⟩
  · have hr6 := hr5.ext (mono_st _) e6
    have ew : IntKind.wrap .i64 ((l.length : Int) - 1) = (l.length : Int) - 1 := wrap_in (by omega) (by omega)
    rw [ew, c1]
    have := law_loop (c := c) (c7 := c3) (c12 := c4) hr6 eall c1 (H.ext (e2.trans (e3.trans (e4.trans (e5.trans e6))))) G (Lt.ext (e4.trans (e5.trans e6))) Z l.length (Nat.le_refl _)
    rw [ff_end, List.drop_length] at this
    have hf : freeFrom l l.length = (l.length : Int) := by unfold freeFrom; rw [ff_end, if_neg (by omega)]
    rw [hf] at this
    exact this
end Go.Proofs.Ytbpfmlgnlcfbcaa.Fw.BT
