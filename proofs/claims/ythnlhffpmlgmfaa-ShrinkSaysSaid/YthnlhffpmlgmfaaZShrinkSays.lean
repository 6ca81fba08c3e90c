/- Last part: what the law ShrinkSays needs, put together out of texts of this session. -/
import Derived.Test.YthnlhffpmlgmfaaRows
import Derived.WalkKit
import Derived.Test.YthnlhffpmlgmfaaZShrinkSaysa
section
namespace Go.Hw
open Go
section tests
variable {A B : Prop} {β γ : Type} {a b : Option β} {r : β}
theorem bind_e {a : Option γ} {f : γ → Option β} (e : a.bind f = some r) : ∃ x, a = some x ∧ f x = some r := by
  cases a with
  | none => cases e
  | some x => exact ⟨x, rfl, e⟩
theorem guard_e {p : Prop} [Decidable p] (e : (if p then a else none) = some r) : p ∧ a = some r := by
  by_cases h : p
  · rw [if_pos h] at e; exact ⟨h, e⟩
  · rw [if_neg h] at e; cases e
theorem split_dec_e {p : Prop} [Decidable p] (e : (if p then a else b) = some r) (hA : p → a = some r → A) (hB : ¬ p → b = some r → B) : splitB (decide p) A B := by
  by_cases h : p
  · rw [if_pos h] at e; rw [decide_eq_true h]; exact hA h e
  · rw [if_neg h] at e; rw [decide_eq_false h]; exact hB h e
theorem split_eq_e {x y : Int} (e : (if x = y then a else b) = some r) (hA : x = y → a = some r → A) (hB : x ≠ y → b = some r → B) : splitB (x == y) A B := by
  by_cases h : x = y
  · rw [if_pos h] at e; rw [show (x == y) = true from beq_iff_eq.2 h]; exact hA h e
  · rw [if_neg h] at e; rw [show (x == y) = false from beq_eq_false_iff_ne.2 h]; exact hB h e
theorem split_ne_e {x y : Int} (e : (if x = y then b else a) = some r) (hA : x ≠ y → a = some r → A) (hB : x = y → b = some r → B) : splitB (x != y) A B := by
  by_cases h : x = y
  · rw [if_pos h] at e; rw [show (x != y) = false from bne_eq_false_iff_eq.2 h]; exact hB h e
  · rw [if_neg h] at e; rw [show (x != y) = true from bne_iff_ne.2 h]; exact hA h e
theorem split_any_e {t : Bool} (e : (if t = true then a else b) = some r) (hA : t = true → a = some r → A) (hB : t = false → b = some r → B) : splitB t A B := by
  cases t
  · exact hB rfl e
  · exact hA rfl e
end tests
section
variable {α : Type} {l : List α} {x : Int} {y : α}
def gi (l : List α) (x : Int) : Option α := if 0 ≤ x then l[x.toNat]? else none
theorem gi_nat (l : List α) (k : Nat) : gi l (k : Int) = l[k]? := by unfold gi; rw [if_pos (by omega)]; rfl
theorem gi_le (g : gi l x = some y) : 0 ≤ x := by unfold gi at g; split at g; assumption; cases g
theorem gi_get (g : gi l x = some y) : l[x.toNat]? = some y := by unfold gi at g; split at g; exact g; cases g
theorem gi_lt (g : gi l x = some y) : x < (l.length : Int) := by
  have h1 := gi_get g
  have h2 := gi_le g
  have := (List.getElem?_eq_some_iff.1 h1).1
  omega
def sl (l : List α) (lo hi : Int) : List α := (l.take hi.toNat).drop lo.toNat
theorem sl_len {lo hi : Int} (h1 : 0 ≤ lo) (h2 : lo ≤ hi) (h3 : hi ≤ (l.length : Int)) : Int.toNat hi - Int.toNat lo = (sl l lo hi).length := by
  unfold sl; rw [List.length_drop, List.length_take]; omega
theorem sl_lo {lo : Int} : sl l lo (l.length : Int) = l.drop lo.toNat := by unfold sl; simp
theorem sl_hi {hi : Int} : sl l 0 hi = l.take hi.toNat := by unfold sl; simp
end
section
variable {α : Type} {sz : Nat} {E : Heap → α → List Value → Prop} {m m' h h' h0 m0 : Heap} {A : Option Addr} {l : List α} {c n k : Nat} {cs : List Value} {x : Int} {y : α} {W : Nat → Prop} {a : Addr} {v : Value} {b : Nat} {t : TypeId}
theorem Rd.addr {K : Addr → Prop} (r : Rd sz E m A l) (hn : n = l.length) (g : gi l x = some y) (hk : ∀ a cs, A = some a → cellsH m (a.add (Int.toNat x * sz)) 0 sz = some cs → E m y cs → K a) : ptrOk A fun a => 0 ≤ x ∧ x < ((n : Nat) : Int) ∧ K a := by
  subst hn
  have h1 := gi_get g
  obtain ⟨hi, h2⟩ := List.getElem?_eq_some_iff.1 h1
  obtain ⟨a, cs, rfl, h3, h4⟩ := r _ hi
  rw [h2] at h4
  exact ⟨gi_le g, gi_lt g, hk a cs rfl h3 h4⟩
theorem OS.cellsAt (o : OS W h0 sz E h m A l c) (g : gi l x = some y) : ∃ a cs, A = some a ∧ cellsH h (a.add (Int.toNat x * sz)) 0 sz = some cs ∧ E m y cs := by
  have h1 := gi_get g
  rcases o with ⟨rfl, rfl⟩ | ⟨b, t, pre, cs, rest, rfl, h3, h4, h5, h6, h7⟩
  · cases h1
  have h8 := h4.get h1
  refine ⟨_, _, rfl, ?_, h8.1⟩
  have := h3.cells (a := (⟨b, pre.length, none⟩ : Addr).add (x.toNat * sz)) (by rw [add_block]) (add_spot _ rfl) sz 0 (by rw [add_off, List.length_append, List.length_append]; simp only [Nat.add_zero]; omega)
  rw [this, add_off]
  simp only [Nat.add_zero]
  rw [List.append_assoc, ← List.drop_drop, List.drop_left, List.drop_append_of_le_length (by omega), List.take_append_of_le_length (by rw [List.length_drop]; omega)]
theorem OS.addr {K : Addr → Prop} (o : OS W h0 sz E h m A l c) (hn : n = l.length) (g : gi l x = some y) (hk : ∀ a cs, A = some a → cellsH h (a.add (Int.toNat x * sz)) 0 sz = some cs → E m y cs → K a) : ptrOk A fun a => 0 ≤ x ∧ x < ((n : Nat) : Int) ∧ K a := by
  subst hn
  obtain ⟨a, cs, rfl, h1, h2⟩ := o.cellsAt g
  exact ⟨gi_le g, gi_lt g, hk a cs rfl h1 h2⟩
theorem ld0 (s : Sub m h) (hc : cellsH m a 0 n = some cs) (hv : cs[0]? = some v) : ldv false 1 h a = some v := by
  have h1 : cellH h (a.add 0) = some v := cellsH_get (s.cells _ _ hc) hv
  exact h1
theorem OB.st (o : OB W h0 h m b cs t) (s : Sub m h) (hk : k < cs.length) (hf : Flat v) : ∃ h', st1 h (Addr.add ⟨b, 0, none⟩ k) v = some h' ∧ OB W h0 h' m b (cs.set k v) t ∧ St (fb b) h m h' m := by
  obtain ⟨h', h1, h2, h3⟩ := o.1.st (a := Addr.add ⟨b, 0, none⟩ k) (v := v) (add_block _ _) (add_spot _ rfl) (by rw [add_off]; simpa using hk) hf
  rw [add_off, Nat.zero_add] at h2
  exact ⟨h', h1, ⟨h2, o.2⟩, .only s o.2.2 h3⟩
theorem cap_in {hi : Int} (h1 : hi ≤ (l.length : Int)) (h2 : l.length ≤ c) : hi ≤ ((c : Nat) : Int) := by omega
theorem Rd.sl {lo hi : Int} {mx : Nat} (r : Rd sz E m A l) (h1 : 0 ≤ lo) (h2 : lo ≤ hi) (h3 : hi ≤ (l.length : Int)) (h4 : hi.toNat ≤ mx) : Rd sz E m (sliceA A (Int.toNat lo) mx sz) (sl l lo hi) := by
  intro i hi'
  rw [← sl_len h1 h2 h3] at hi'
  obtain ⟨a, cs, e1, e2, e3⟩ := r (lo.toNat + i) (by omega)
  refine ⟨a.add (lo.toNat * sz), cs, ?_, ?_, ?_⟩
  · unfold sliceA; rw [if_neg (by omega), e1]; rfl
  · rw [add_add, ← Nat.add_mul]; exact e2
  · simpa [Hw.sl] using e3
theorem zc_len {z : Array Value} {n : Nat} : (zcells z n).toList.length = n * z.size := by rw [Array.length_toList, zcells_size]
def Src (sz : Nat) (E : Heap → α → List Value → Prop) (h m : Heap) (x : Value) (xs : List α) : Prop := ∃ es, srcCells sz x h = some (xs.length, es) ∧ CsE sz E m xs es
theorem Rd.srcE (r : Rd sz E m A l) (T : Tell sz E) (s : Sub m h) (hn : n = l.length) : Src sz E h m (.slice A n c) l := by
  subst hn
  cases A with
  | none =>
    have : l = [] := by
      cases l with
      | nil => rfl
      | cons x l => obtain ⟨a, _, h1, _⟩ := r 0 (by simp); cases h1
    subst this
    exact ⟨[], rfl, rfl⟩
  | some a =>
    obtain ⟨es, h1, h2⟩ := Rd.cse T r
    exact ⟨es, by simp only [srcCells, s.cells _ _ h1, Option.map_some], h2⟩
def ap (B : Nat) (l xs : List α) : Option (List α) := if (l.length + xs.length) * B ≤ 140737488355328 then some (l ++ xs) else none
theorem ap_e {B : Nat} {l xs l' : List α} (g : ap B l xs = some l') : (l.length + xs.length) * B ≤ 140737488355328 ∧ l ++ xs = l' := by
  unfold ap at g
  obtain ⟨h, k⟩ := guard_e g
  exact ⟨h, Option.some.inj k⟩
def sls (l : List α) (lo hi : Int) : Option (List α) := if 0 ≤ lo ∧ lo ≤ hi ∧ hi ≤ (l.length : Int) then some (sl l lo hi) else none
theorem sls_e {lo hi : Int} {l' : List α} (g : sls l lo hi = some l') : 0 ≤ lo ∧ lo ≤ hi ∧ hi ≤ (l.length : Int) ∧ Int.toNat hi - Int.toNat lo = l'.length ∧ l' = Hw.sl l lo hi := by
  unfold sls at g
  obtain ⟨h, k⟩ := guard_e g
  cases k
  exact ⟨h.1, h.2.1, h.2.2, sl_len h.1 h.2.1 h.2.2, rfl⟩
theorem Rd.sls {lo hi : Int} {mx : Nat} {l' : List α} (r : Rd sz E m A l) (g : sls l lo hi = some l') (h4 : hi.toNat ≤ mx) : Rd sz E m (sliceA A (Int.toNat lo) mx sz) l' := by
  obtain ⟨h1, h2, h3, _, rfl⟩ := sls_e g
  exact r.sl h1 h2 h3 h4
theorem mkCells_flat {zc : Array Value} (hz : zc.size = sz) : ∀ n : Nat, (mkCells zc (n * sz)).toList = (List.replicate n zc.toList).flatten := by
  intro n
  unfold mkCells
  apply List.ext_getElem
  · simp [hz]
  · intro i h1 h2
    simp only [Array.toList_map, Array.toList_range, List.getElem_map, List.getElem_range]
    have hi : i < n * sz := by simpa using h1
    have : ∀ (n i : Nat) (hi : i < n * sz) (h2 : i < (List.replicate n zc.toList).flatten.length), zc[i % zc.size]! = (List.replicate n zc.toList).flatten[i] := by
      intro n
      induction n with
      | zero => intro i hi; simp at hi
      | succ n ih =>
        intro i hi h2
        simp only [List.replicate_succ, List.flatten_cons]
        by_cases hlt : i < zc.toList.length
        · rw [List.getElem_append_left hlt]
          have hlt' : i < zc.size := by simpa using hlt
          rw [Nat.mod_eq_of_lt hlt', getElem!_pos zc i hlt']; simp
        · have hge : sz ≤ i := by simpa [hz] using hlt
          rw [List.getElem_append_right (by rw [Array.length_toList, hz]; exact hge)]
          have e1 : i % zc.size = (i - zc.toList.length) % zc.size := by
            rw [Array.length_toList, hz]; exact (Nat.mod_eq_sub_mod hge)
          rw [e1]
          exact ih (i - zc.toList.length) (by rw [Array.length_toList, hz]; rw [Nat.succ_mul] at hi; omega) _
    exact this n i hi h2
theorem le_mx {hi : Int} (h1 : hi ≤ (l.length : Int)) (h2 : l.length ≤ c) : hi.toNat ≤ c := by omega
theorem sls_cap {lo hi : Int} {l' : List α} (g : Hw.sls l lo hi = some l') (h2 : l.length ≤ c) : l'.length ≤ c - Int.toNat lo := by
  obtain ⟨h1, h3, h4, h5, _⟩ := sls_e g
  omega
theorem OS.newNo {h' : Heap} (o : OS No h sz E h' m' A l c) : ∀ b, fp A c b → h.size ≤ b := fun b hb => (o.wr b hb).elim id (fun h => h.elim)
theorem nn {x : Value} {l : List Value} : x :: l ≠ [] := fun h => by cases h
end
end Go.Hw

end
section
namespace Go.Hw
open Go
section
variable {α : Type} {sz : Nat} {E : Heap → α → List Value → Prop} {m m' h h' h0 m0 : Heap} {A : Option Addr} {l : List α} {c n k : Nat} {x : Int} {W : Nat → Prop}
theorem Rd.void (r : Rd sz E m none l) : l = [] := by
  cases l with
  | nil => rfl
  | cons x l => obtain ⟨a, _, h1, _⟩ := r 0 (by simp); cases h1
def gro (B : Nat) (x : Int) : Bool := decide (0 ≤ x ∧ x * (B : Int) ≤ 140737488355328)
theorem grow_nil {e : TypeId} {bytes : Nat} {z : Array Value} {R : Value → Heap → Prop} (S : St W h0 m0 h m) (hz : z.size = sz) (hb0 : 0 < bytes) (g : gro bytes x = true)
    (hk : ∀ A' c' h', OS W h0 sz E h' m A' ([] : List α) c' → Ext h h' → R (.slice A' 0 c') h') :
    splitB (decide ((IntKind.wrap .i64 (x - (IntKind.wrap .i64 (((0 : Nat) : Int) - ((0 : Nat) : Int))))) > (0 : Int))) (0 ≤ (0 : Int) ∧ (0 : Int) ≤ ((0 : Nat) : Int) ∧ ((0 : Nat) : Int) ≤ ((0 : Nat) : Int) ∧
      (AppZ e sz bytes z (sliceA none (Int.toNat (0 : Int)) 0 sz) (Int.toNat ((0 : Nat) : Int) - Int.toNat (0 : Int)) (0 - Int.toNat (0 : Int)) (Value.int .i64 (IntKind.wrap .i64 (x - (IntKind.wrap .i64 (((0 : Nat) : Int) - ((0 : Nat) : Int)))))) h fun v1 h2 =>
        ∃ A3, ∃ n3, ∃ c3, v1 = (Value.slice A3 n3 c3) ∧ 0 ≤ (0 : Int) ∧ (0 : Int) ≤ ((0 : Nat) : Int) ∧ ((0 : Nat) : Int) ≤ ((c3 : Nat) : Int) ∧ (R (Value.slice (sliceA A3 (Int.toNat (0 : Int)) c3 sz) (Int.toNat ((0 : Nat) : Int) - Int.toNat (0 : Int)) (c3 - Int.toNat (0 : Int))) h2)))
      (R (Value.slice none 0 0) h) := by
  unfold gro at g
  obtain ⟨g1, g2⟩ := of_decide_eq_true g
  obtain ⟨k, rfl⟩ : ∃ k : Nat, x = k := ⟨x.toNat, by omega⟩
  have gN : k * bytes ≤ 140737488355328 := by
    have : ((k * bytes : Nat) : Int) = (k : Int) * (bytes : Int) := by push_cast; rfl
    omega
  have hk1 : k ≤ 140737488355328 := Nat.le_trans (Nat.le_mul_of_pos_right _ hb0) gN
  have hw : (IntKind.wrap .i64 ((k : Int) - (IntKind.wrap .i64 (((0 : Nat) : Int) - ((0 : Nat) : Int))))) = (k : Int) := by
    rw [show (IntKind.wrap .i64 (((0 : Nat) : Int) - ((0 : Nat) : Int))) = 0 from rfl]
    rw [wrap_in (by omega) (by omega)]; omega
  rw [hw]
  have nul : ∀ (A' : Option Addr) (c' : Nat), sliceA A' (Int.toNat (0 : Int)) c' sz = A' := by
    intro A' c'
    unfold sliceA
    split
    · rfl
    · cases A' with
      | none => rfl
      | some a => simp [Addr.add]
  refine split_dec (fun hp => ⟨by decide, by decide, by decide, ?_⟩) (fun _ => hk _ _ _ (.inl ⟨rfl, rfl⟩) (.refl _))
  refine ⟨.i64, k, rfl, gN, by omega, .inr ⟨?_, ?_, hb0, ?_, [], ?_, fun c' hc' => ?_⟩⟩
  · show 0 < 0 + k; omega
  · show (0 + k) * bytes ≤ _; rw [Nat.zero_add]; exact gN
  · show 0 + k ≤ _; omega
  · show oldCells sz (sliceA none (Int.toNat (0 : Int)) 0 sz) 0 h = some []
    rw [nul]; rfl
  · refine ⟨_, _, _, rfl, by decide, by decide, Int.natCast_nonneg _, ?_⟩
    rw [nul]
    have e1 := Ext.push h (Obj.cells (([] : List Value).toArray ++ (if k * sz = 0 then [] else (zcells z k).toList).toArray ++ zcells z (c' - (0 + k))) e)
    refine hk _ c' _ (.inr ⟨h.size, e, [], [], (if k * sz = 0 then [] else (zcells z k).toList) ++ (zcells z (c' - (0 + k))).toList, rfl, ?_, rfl, Nat.zero_le _, ?_, .inl S.size, St.notLive S.s⟩) e1
    · have := Blk.new h (([] : List Value).toArray ++ (if k * sz = 0 then [] else (zcells z k).toList).toArray ++ zcells z (c' - (0 + k))) e
      simpa using this
    · rw [List.length_append, zc_len, hz]
      have hc2 : k ≤ c' := by
        have : (Int.toNat ((0 : Nat) : Int) - Int.toNat (0 : Int)) + k ≤ c' := hc'
        simpa using this
      have e2 : (if k * sz = 0 then ([] : List Value) else (zcells z k).toList).length = k * sz := by
        by_cases hz0 : k * sz = 0
        · rw [if_pos hz0, hz0]; rfl
        · rw [if_neg hz0, zc_len, hz]
      rw [e2, ← Nat.add_mul]
      exact Nat.mul_le_mul_right _ (by simp; omega)
end
section
variable {α : Type} {sz : Nat} {E : Heap → α → List Value → Prop} {m m' mL h h' h0 m0 : Heap} {A : Option Addr} {l : List α} {c b : Nat} {cs : List Value} {t : TypeId} {W W' : Nat → Prop}
theorem St.unlend (T : St W' h mL h' m') (s : Sub m h) (hd : ∀ b, W' b → ¬ Live m b) : St W' h m h' m where
  up := .refl _
  s b o h1 h2 := by
    rw [T.fr b (s.lt ⟨o, h1, h2⟩) (fun hw => hd b hw ⟨o, h1, h2⟩)]; exact s b o h1 h2
  size := T.size
  fr := T.fr
  lv b _ hl := .inl hl
end
section
variable {κ ν : Type} [DecidableEq κ] {h h' m m' h0 m0 : Heap} {b : Nat} {W W' : Nat → Prop} {kv : κ → Value} {es : List (κ × ν)} {vs : List (κ × Value)} {k : κ} {x zv : ν} {v z : Value} {P : Program} {t elem : TypeId} {sz : Nat}
def MonoV (EV : Heap → ν → Value → Prop) : Prop := ∀ m h x v, Sub m h → EV m x v → EV h x v
variable {EV : Heap → ν → Value → Prop}
end
section
variable {H : Type} {enc : TypeId × Value → H} {P : Program} {W : World}
theorem tells_i64 {t : TypeId} (hu : P.underlying t = some (.int .i64)) : Tells enc P W t (eInt .i64) (fun x => -9223372036854775808 ≤ x ∧ x ≤ 9223372036854775807) := tells_map (tells_int hu) fun a _ h q => ⟨a, h, wf_i64 q⟩
theorem tells_sliceL {α : Type} {t e : TypeId} {sz B : Nat} {E : Heap → α → List Value → Prop} {Q : α → Prop} (hu : P.underlying t = some (.slice e)) (hc : P.cellsOf e = sz) (hB : P.bytesOf e = B) (he : Tells enc P W e E Q) :
    Tells enc P W t (eRow sz E) (fun l => l.length * B ≤ 140737488351232 ∧ ∀ a ∈ l, Q a) := tells_map (tells_slice hu hc hB he) fun a _ h q => ⟨a, h, q⟩
end
end Go.Hw

end
section
namespace Go.Hw
open Go
section
variable {α β : Type}
theorem ap_of {B : Nat} {l xs : List α} (h : (l.length + xs.length) * B ≤ 140737488355328) : ap B l xs = some (l ++ xs) := by unfold ap; rw [if_pos h]
theorem ap_nil {B : Nat} {xs : List α} (h : xs.length * B ≤ 140737488355328) : ap B ([] : List α) xs = some xs := by rw [ap_of (by simpa using h)]; rfl
theorem gi_at {l : List α} {k : Nat} (h : k < l.length) : gi l (k : Int) = some l[k] := by rw [gi_nat]; exact List.getElem?_eq_getElem h
theorem gi_cons {x : α} {l : List α} : gi (x :: l) 0 = some x := rfl
theorem sls_of {l : List α} {lo hi : Int} (h1 : 0 ≤ lo) (h2 : lo ≤ hi) (h3 : hi ≤ (l.length : Int)) : sls l lo hi = some (sl l lo hi) := by unfold sls; rw [if_pos ⟨h1, h2, h3⟩]
theorem sls_take {l : List α} {k : Nat} {x : Int} (hx : x = k) (h : k ≤ l.length) : sls l 0 x = some (l.take k) := by subst hx; rw [sls_of (by omega) (by omega) (by omega), sl_hi]; rfl
theorem sls_drop {l : List α} {k : Nat} {x : Int} (hx : x = k) (h : k ≤ l.length) : sls l x (l.length : Int) = some (l.drop k) := by subst hx; rw [sls_of (by omega) (by omega) (by omega), sl_lo]; rfl
theorem w_succ {k : Nat} (h : k < 9223372036854775807) : IntKind.wrap .i64 ((k : Int) + 1) = ((k + 1 : Nat) : Int) := by rw [wrap_in (by omega) (by omega)]; rfl
theorem find_val {f : List α → (α → Option Bool) → Int → Int → Option Int}
    (hf : ∀ a p n i, f a p n i = if i < n then (Option.bind (gi a i) fun y => Option.bind (p y) fun b => if b = true then some i else f a p n (IntKind.wrap .i64 (i + 1))) else some (-1))
    {l : List α} {p : α → Option Bool} (q : α → Bool) (hp : ∀ x ∈ l, p x = some (q x)) (hl : l.length ≤ 4611686018427387904) : f l p (l.length : Int) 0 = some (idxOf q l) := by
  have key : ∀ (d k : Nat), k + d = l.length → (∀ x ∈ l.take k, q x = false) → f l p (l.length : Int) (k : Int) = some (idxOf q l) := by
    intro d
    induction d with
    | zero =>
      intro k hk hn
      rw [hf, if_neg (by omega)]
      have : l.findIdx? q = none := by
        rw [List.findIdx?_eq_none_iff]
        rw [List.take_of_length_le (by omega)] at hn
        exact hn
      simp [idxOf, this]
    | succ d ih =>
      intro k hk hn
      have hlt : k < l.length := by omega
      rw [hf, if_pos (by omega), gi_at hlt, Option.bind_some, hp _ (List.getElem_mem hlt), Option.bind_some]
      by_cases hq : q l[k] = true
      · rw [if_pos hq]
        have : l.findIdx? q = some k := by
          rw [List.findIdx?_eq_some_iff_getElem]
          refine ⟨hlt, hq, fun j hj => ?_⟩
          have := hn l[j] (by rw [List.mem_take_iff_getElem]; exact ⟨j, by omega, rfl⟩)
          simp [this]
        simp [idxOf, this]
      · rw [if_neg hq, w_succ (by omega)]
        refine ih (k + 1) (by omega) (fun x hx => ?_)
        rw [List.take_succ_eq_append_getElem hlt] at hx
        rcases List.mem_append.1 hx with hx | hx
        · exact hn x hx
        · simp at hx; subst hx; simpa using hq
  exact key l.length 0 (by omega) (fun x hx => by simp at hx)
theorem findB_val {f : List α → (α → Option Bool) → Int → Int → Option Int} {g : List α → (α → Option Bool) → Option Int} {c : List α → (α → Option Bool) → Option Bool}
    (hf : ∀ a p n i, f a p n i = if i < n then (Option.bind (gi a i) fun y => Option.bind (p y) fun b => if b = true then some i else f a p n (IntKind.wrap .i64 (i + 1))) else some (-1))
    (hg : ∀ a p, g a p = f a p (a.length : Int) 0) (hc : ∀ a p, c a p = Option.bind (g a p) fun y => some (decide (y ≥ 0)))
    {l : List α} {p : α → Option Bool} (q : α → Bool) (hp : ∀ x ∈ l, p x = some (q x)) (hl : l.length ≤ 4611686018427387904) : c l p = some (l.any q) := by
  rw [hc, hg, find_val hf q hp hl, Option.bind_some, idxOf_ge]
theorem index_val [DecidableEq α] {f : List α → α → Int → Int → Option Int}
    (hf : ∀ a v n i, f a v n i = if i < n then (Option.bind (gi a i) fun y => if v = y then some i else f a v n (IntKind.wrap .i64 (i + 1))) else some (-1))
    {l : List α} (v : α) (hl : l.length ≤ 4611686018427387904) : f l v (l.length : Int) 0 = some (idxOf (fun y => decide (v = y)) l) := by
  have key : ∀ (d k : Nat), k + d = l.length → (∀ x ∈ l.take k, decide (v = x) = false) → f l v (l.length : Int) (k : Int) = some (idxOf (fun y => decide (v = y)) l) := by
    intro d
    induction d with
    | zero =>
      intro k hk hn
      rw [hf, if_neg (by omega)]
      have : l.findIdx? (fun y => decide (v = y)) = none := by
        rw [List.findIdx?_eq_none_iff]
        rw [List.take_of_length_le (by omega)] at hn
        exact hn
      simp [idxOf, this]
    | succ d ih =>
      intro k hk hn
      have hlt : k < l.length := by omega
      rw [hf, if_pos (by omega), gi_at hlt, Option.bind_some]
      by_cases hq : v = l[k]
      · rw [if_pos hq]
        have : l.findIdx? (fun y => decide (v = y)) = some k := by
          rw [List.findIdx?_eq_some_iff_getElem]
          refine ⟨hlt, decide_eq_true hq, fun j hj => ?_⟩
          have := hn l[j] (by rw [List.mem_take_iff_getElem]; exact ⟨j, by omega, rfl⟩)
          rw [this]; simp
        simp [idxOf, this]
      · rw [if_neg hq, w_succ (by omega)]
        refine ih (k + 1) (by omega) (fun x hx => ?_)
        rw [List.take_succ_eq_append_getElem hlt] at hx
        rcases List.mem_append.1 hx with hx | hx
        · exact hn x hx
        · simp at hx; subst hx; exact decide_eq_false hq
  exact key l.length 0 (by omega) (fun x hx => by simp at hx)
theorem any_eq [DecidableEq α] (v : α) (l : List α) : l.any (fun y => decide (v = y)) = decide (v ∈ l) := by
  induction l with
  | nil => simp
  | cons x l ih => simp [ih]
theorem contains_val [DecidableEq α] {f : List α → α → Int → Int → Option Int} {g : List α → α → Option Int} {c : List α → α → Option Bool}
    (hf : ∀ a v n i, f a v n i = if i < n then (Option.bind (gi a i) fun y => if v = y then some i else f a v n (IntKind.wrap .i64 (i + 1))) else some (-1))
    (hg : ∀ a v, g a v = f a v (a.length : Int) 0) (hc : ∀ a v, c a v = Option.bind (g a v) fun y => some (decide (y ≥ 0)))
    {l : List α} (v : α) (hl : l.length ≤ 4611686018427387904) : c l v = some (decide (v ∈ l)) := by
  rw [hc, hg, index_val hf v hl, Option.bind_some, idxOf_ge, any_eq]
theorem equal_val {R : α → α → Prop} [DecidableRel R] {f : List α → List α → Int → Int → Option Bool} {g : List α → List α → Option Bool}
    (hf : ∀ a b n i, f a b n i = if i < n then (Option.bind (gi a i) fun x => Option.bind (gi b i) fun y => if R x y then f a b n (IntKind.wrap .i64 (i + 1)) else some false) else some true)
    (hg : ∀ a b, g a b = if ((a.length : Nat) : Int) = ((b.length : Nat) : Int) then f a b (a.length : Int) 0 else some false) (hR : ∀ x y, R x y ↔ x = y)
    (l m : List α) (hl : l.length ≤ 4611686018427387904) : ∃ b, g l m = some b ∧ (b = true ↔ l = m) := by
  rw [hg]
  by_cases hlen : l.length = m.length
  · rw [if_pos (by omega)]
    have key : ∀ (d k : Nat), k + d = l.length → l.take k = m.take k → ∃ b, f l m (l.length : Int) (k : Int) = some b ∧ (b = true ↔ l = m) := by
      intro d
      induction d with
      | zero =>
        intro k hk he
        rw [List.take_of_length_le (by omega), List.take_of_length_le (by omega)] at he
        exact ⟨true, by rw [hf, if_neg (by omega)], by simp [he]⟩
      | succ d ih =>
        intro k hk he
        have h1 : k < l.length := by omega
        have h2 : k < m.length := by omega
        rw [hf, if_pos (by omega), gi_at h1, Option.bind_some, gi_at h2, Option.bind_some]
        by_cases hr : R l[k] m[k]
        · rw [if_pos hr, w_succ (by omega)]
          exact ih (k + 1) (by omega) (by rw [List.take_succ_eq_append_getElem h1, List.take_succ_eq_append_getElem h2, he, (hR _ _).1 hr])
        · rw [if_neg hr]
          refine ⟨false, rfl, by simp; intro e; exact hr ((hR _ _).2 (by simp [e]))⟩
    exact key l.length 0 (by omega) (by simp)
  · rw [if_neg (by omega)]
    exact ⟨false, rfl, by simp; intro e; exact hlen (by rw [e])⟩
theorem concat_val {B : Nat} (hB : 0 < B) {f1 : List α → List (List α) → Int → Int → Option (List α)} {f0 : List (List α) → Int → List (List α) → Int → Int → Option (List α)} {gr : Int → Option (List α)} {g : List (List α) → Option (List α)}
    (h1 : ∀ r a n i, f1 r a n i = if i < n then (Option.bind (gi a i) fun y => Option.bind (ap B r y) fun l => f1 l a n (IntKind.wrap .i64 (i + 1))) else some r)
    (h0 : ∀ a s b n i, f0 a s b n i = if i < n then (Option.bind (gi b i) fun y => if IntKind.wrap .i64 (s + ((y.length : Nat) : Int)) < 0 then none else f0 a (IntKind.wrap .i64 (s + ((y.length : Nat) : Int))) b n (IntKind.wrap .i64 (i + 1))) else Option.bind (gr s) fun y => f1 y a (a.length : Int) 0)
    (hgr : ∀ x, gr x = if gro B x = true then some [] else none) (hg : ∀ a, g a = f0 a 0 a (a.length : Int) 0)
    (ls : List (List α)) (hl : ls.length ≤ 4611686018427387904) (hs : ls.flatten.length * B ≤ 140737488355328) : g ls = some ls.flatten := by
  have hs' : ls.flatten.length ≤ 140737488355328 := Nat.le_trans (Nat.le_mul_of_pos_right _ hB) hs
  have pre : ∀ k, (ls.take k).flatten.length ≤ ls.flatten.length := by
    intro k
    conv => rhs; rw [← List.take_append_drop k ls, List.flatten_append, List.length_append]
    omega
  have key1 : ∀ (d k : Nat), k + d = ls.length → f1 (ls.take k).flatten ls (ls.length : Int) (k : Int) = some ls.flatten := by
    intro d
    induction d with
    | zero => intro k hk; rw [h1, if_neg (by omega), List.take_of_length_le (by omega)]
    | succ d ih =>
      intro k hk
      have hlt : k < ls.length := by omega
      have e : (ls.take (k + 1)).flatten = (ls.take k).flatten ++ ls[k] := by rw [List.take_succ_eq_append_getElem hlt, List.flatten_append]; simp
      have hle := pre (k + 1)
      rw [e, List.length_append] at hle
      rw [h1, if_pos (by omega), gi_at hlt, Option.bind_some, ap_of (Nat.le_trans (Nat.mul_le_mul_right _ hle) hs), Option.bind_some, w_succ (by omega), ← e]
      exact ih (k + 1) (by omega)
  have key0 : ∀ (d k : Nat), k + d = ls.length → f0 ls (((ls.take k).flatten.length : Nat) : Int) ls (ls.length : Int) (k : Int) = some ls.flatten := by
    intro d
    induction d with
    | zero =>
      intro k hk
      rw [h0, if_neg (by omega), List.take_of_length_le (by omega), hgr, if_pos, Option.bind_some]
      · exact key1 ls.length 0 (by omega)
      · unfold gro
        rw [decide_eq_true_eq]
        refine ⟨by omega, ?_⟩
        have : ((ls.flatten.length * B : Nat) : Int) = (ls.flatten.length : Int) * (B : Int) := by push_cast; rfl
        omega
    | succ d ih =>
      intro k hk
      have hlt : k < ls.length := by omega
      have e : (ls.take (k + 1)).flatten = (ls.take k).flatten ++ ls[k] := by rw [List.take_succ_eq_append_getElem hlt, List.flatten_append]; simp
      have hle := pre (k + 1)
      have e2 : (ls.take (k + 1)).flatten.length = (ls.take k).flatten.length + ls[k].length := by rw [e, List.length_append]
      have e3 : IntKind.wrap .i64 ((((ls.take k).flatten.length : Nat) : Int) + ((ls[k].length : Nat) : Int)) = (((ls.take (k + 1)).flatten.length : Nat) : Int) := by
        rw [wrap_in (by omega) (by omega), e2]; push_cast; rfl
      rw [h0, if_pos (by omega), gi_at hlt, Option.bind_some, e3, if_neg (by omega), w_succ (by omega)]
      exact ih (k + 1) (by omega)
  rw [hg]
  exact key0 ls.length 0 (by omega)
end
section
open Go.RowKit
variable {H : Type} {enc : TypeId × Value → H} {P : Program} {W : World} {N : Nat}
end
end Go.Hw

end
section
set_option linter.unusedVariables false
namespace Go.Hw
open Go
abbrev Foot := Nat → Prop
def U (F G : Foot) : Foot := fun b => F b ∨ G b
section
variable {F G H F' G' : Foot}
theorem U.no_left : U No F = F := funext fun _ => propext ⟨fun h => h.elim (fun h => h.elim) id, .inr⟩
theorem U.no_right : U F No = F := funext fun _ => propext ⟨fun h => h.elim id (fun h => h.elim), .inl⟩
theorem U.assoc : U (U F G) H = U F (U G H) := funext fun _ => propext or_assoc
theorem U.comm : U F G = U G F := funext fun _ => propext or_comm
theorem U.left_comm : U F (U G H) = U G (U F H) := by rw [← U.assoc, U.comm (F := F), U.assoc]
theorem Dj.u (d : Dj F H) (d' : Dj G H) : Dj (U F G) H := fun b h k => h.elim (fun h => d b h k) (fun h => d' b h k)
theorem Dj.ul (d : Dj (U F G) H) : Dj F H := fun b h k => d b (.inl h) k
theorem Dj.ur (d : Dj (U F G) H) : Dj G H := fun b h k => d b (.inr h) k
theorem Dj.u' (d : Dj H F) (d' : Dj H G) : Dj H (U F G) := fun b k h => h.elim (fun h => d b k h) (fun h => d' b k h)
theorem Dj.ul' (d : Dj H (U F G)) : Dj H F := fun b k h => d b k (.inl h)
theorem Dj.ur' (d : Dj H (U F G)) : Dj H G := fun b k h => d b k (.inr h)
theorem Dj.no' : Dj F No := fun _ _ h => h
theorem Dj.mono (d : Dj F G) (h1 : ∀ b, F' b → F b) (h2 : ∀ b, G' b → G b) : Dj F' G' := fun b k l => d b (h1 b k) (h2 b l)
end
structure Res where
  p : Heap → Heap → Foot → Prop
  z : Heap → Prop
  lt : ∀ {h m F}, p h m F → ∀ b, F b → b < h.size
  nl : ∀ {h m F}, p h m F → ∀ b, F b → ¬ Live m b
  fr : ∀ {h m F h' m'}, p h m F → (∀ b, F b → h'[b]? = h[b]?) → Sub m m' → (∀ b, F b → ¬ Live m' b) → p h' m' F
  fz : ∀ {h m F G}, p h m F → Sub m h → (∀ b, F b → G b) → z (addV m h G)
def Res.vf (R : Res) : Prop := ∀ h m m' F, R.p h m F → Sub m' h → (∀ b, F b → ¬ Live m' b) → R.p h m' F
def rE : Res where
  p _ _ F := F = No
  z _ := True
  lt := by rintro h m F rfl b hb; exact hb.elim
  nl := by rintro h m F rfl b hb; exact hb.elim
  fr := fun h _ _ _ => h
  fz := fun _ _ _ => trivial
def Sep : List Res → Heap → Heap → Foot → Prop
  | [], _, _, F => F = No
  | R :: Rs, h, m, F => ∃ F1 F2, R.p h m F1 ∧ Sep Rs h m F2 ∧ Dj F1 F2 ∧ F = U F1 F2
def ZAll (m : Heap) : List Res → Prop
  | [] => True
  | R :: Rs => R.z m ∧ ZAll m Rs
def takeL : List Res → List Nat → List Res
  | _, [] => []
  | Rs, i :: is => (match Rs[i]? with | some R => R | none => rE) :: takeL (Rs.set i rE) is
def dropL : List Res → List Nat → List Res
  | Rs, [] => Rs
  | Rs, i :: is => dropL (Rs.set i rE) is
section
variable {h h' m m' : Heap} {F F1 F2 G : Foot} {Rs Rs' : List Res} {R R' : Res} {k : Nat}
theorem Sep.lt : ∀ {Rs : List Res} {F : Foot}, Sep Rs h m F → ∀ b, F b → b < h.size
  | [], _, hs, b, hb => by rw [show _ = No from hs] at hb; exact hb.elim
  | _ :: _, _, ⟨_, _, h1, h2, _, rfl⟩, b, hb => hb.elim (Res.lt _ h1 b) (Sep.lt h2 b)
theorem Sep.nl : ∀ {Rs : List Res} {F : Foot}, Sep Rs h m F → ∀ b, F b → ¬ Live m b
  | [], _, hs, b, hb => by rw [show _ = No from hs] at hb; exact hb.elim
  | _ :: _, _, ⟨_, _, h1, h2, _, rfl⟩, b, hb => hb.elim (Res.nl _ h1 b) (Sep.nl h2 b)
theorem Sep.fr : ∀ {Rs : List Res} {F : Foot}, Sep Rs h m F → (∀ b, F b → h'[b]? = h[b]?) → Sub m m' → (∀ b, F b → ¬ Live m' b) → Sep Rs h' m' F
  | [], _, hs, _, _, _ => hs
  | _ :: _, _, ⟨F1, F2, h1, h2, h3, rfl⟩, k1, k2, k3 => ⟨F1, F2, Res.fr _ h1 (fun b hb => k1 b (.inl hb)) k2 (fun b hb => k3 b (.inl hb)), Sep.fr h2 (fun b hb => k1 b (.inr hb)) k2 (fun b hb => k3 b (.inr hb)), h3, rfl⟩
theorem Sep.fz : ∀ {Rs : List Res} {F : Foot}, Sep Rs h m F → Sub m h → (∀ b, F b → G b) → ZAll (addV m h G) Rs
  | [], _, _, _, _ => trivial
  | _ :: _, _, ⟨F1, F2, h1, h2, h3, rfl⟩, k1, k2 => ⟨Res.fz _ h1 k1 (fun b hb => k2 b (.inl hb)), Sep.fz h2 k1 (fun b hb => k2 b (.inr hb))⟩
theorem Sep.vf : ∀ {Rs : List Res} {F : Foot}, Sep Rs h m F → (∀ R ∈ Rs, R.vf) → Sub m' h → (∀ b, F b → ¬ Live m' b) → Sep Rs h m' F
  | [], _, hs, _, _, _ => hs
  | R :: Rs, _, ⟨F1, F2, h1, h2, h3, rfl⟩, v, k1, k2 => ⟨F1, F2, v R (List.mem_cons_self ..) _ _ _ _ h1 k1 (fun b hb => k2 b (.inl hb)), Sep.vf h2 (fun R hR => v R (List.mem_cons_of_mem _ hR)) k1 (fun b hb => k2 b (.inr hb)), h3, rfl⟩
theorem Sep.get : ∀ {Rs : List Res} {F : Foot} {k : Nat}, Sep Rs h m F → Rs[k]? = some R → ∃ F1 F2, R.p h m F1 ∧ Sep (Rs.set k rE) h m F2 ∧ Dj F1 F2 ∧ F = U F1 F2
  | [], _, _, _, hk => by cases hk
  | R' :: Rs, _, 0, ⟨F1, F2, h1, h2, h3, e⟩, hk => by
    cases hk
    exact ⟨F1, F2, h1, ⟨No, F2, rfl, h2, .no, U.no_left.symm⟩, h3, e⟩
  | R' :: Rs, _, k + 1, ⟨F1, F2, h1, h2, h3, e⟩, hk => by
    obtain ⟨G1, G2, k1, k2, k3, rfl⟩ := Sep.get h2 (show Rs[k]? = some R by simpa using hk)
    refine ⟨G1, U F1 G2, k1, ⟨F1, G2, h1, k2, h3.ur', rfl⟩, ?_, ?_⟩
    · exact Dj.u' h3.ul'.symm k3
    · rw [e, U.left_comm]
theorem Sep.put : ∀ {Rs : List Res} {F2 : Foot} {k : Nat}, Sep Rs h m F2 → Rs[k]? = some rE → R'.p h m F1 → Dj F1 F2 → Sep (Rs.set k R') h m (U F1 F2)
  | [], _, _, _, hk, _, _ => by cases hk
  | R :: Rs, _, 0, ⟨G1, G2, h1, h2, h3, e⟩, hk, hp, d => by
    cases hk
    have : G1 = No := h1
    subst this
    rw [U.no_left] at e
    subst e
    exact ⟨F1, _, hp, h2, d, rfl⟩
  | R :: Rs, _, k + 1, ⟨G1, G2, h1, h2, h3, e⟩, hk, hp, d => by
    subst e
    have := Sep.put h2 (show Rs[k]? = some rE by simpa using hk) hp d.ur'
    exact ⟨G1, _, h1, this, Dj.u' d.ul'.symm h3, by rw [U.left_comm]⟩
theorem Sep.app : ∀ {Rs : List Res} {F : Foot}, Sep Rs h m F → Sep Rs' h m G → Dj F G → Sep (Rs ++ Rs') h m (U F G)
  | [], _, hs, hs', _ => by rw [show _ = No from hs, U.no_left]; exact hs'
  | R :: Rs, _, ⟨F1, F2, h1, h2, h3, e⟩, hs', d => by
    subst e
    exact ⟨F1, _, h1, Sep.app h2 hs' d.ur, Dj.u' h3 d.ul, U.assoc⟩
theorem Sep.one (hp : R.p h m F) : Sep [R] h m F := ⟨F, No, hp, rfl, .no', U.no_right.symm⟩
theorem set_rE (hk : Rs[k]? = some R) : (Rs.set k rE)[k]? = some rE := by
  have : k < Rs.length := (List.getElem?_eq_some_iff.1 hk).1
  rw [List.getElem?_set_self this]
theorem Sep.part : ∀ (is : List Nat) {Rs : List Res} {F : Foot}, Sep Rs h m F → ∃ F1 F2, Sep (takeL Rs is) h m F1 ∧ Sep (dropL Rs is) h m F2 ∧ Dj F1 F2 ∧ F = U F1 F2
  | [], Rs, F, hs => ⟨No, F, rfl, hs, .no, U.no_left.symm⟩
  | i :: is, Rs, F, hs => by
    cases hi : Rs[i]? with
    | none =>
      have : Rs.set i rE = Rs := List.set_eq_of_length_le (List.getElem?_eq_none_iff.1 hi)
      obtain ⟨F1, F2, h1, h2, h3, h4⟩ := Sep.part is (Rs := Rs.set i rE) (by rw [this]; exact hs)
      refine ⟨F1, F2, ?_, h2, h3, h4⟩
      simp only [takeL, hi]
      exact ⟨No, F1, rfl, h1, .no, U.no_left.symm⟩
    | some R =>
      obtain ⟨G1, G2, k1, k2, k3, rfl⟩ := Sep.get hs hi
      obtain ⟨F1, F2, h1, h2, h3, rfl⟩ := Sep.part is k2
      refine ⟨U G1 F1, F2, ?_, h2, Dj.u k3.ur' h3, U.assoc.symm⟩
      simp only [takeL, hi]
      exact ⟨G1, F1, k1, h1, k3.ul', rfl⟩
end
structure Hold (W : Foot) (h0 m0 h m : Heap) (Rs : List Res) : Prop where
  S : St W h0 m0 h m
  q : ∃ F, Sep Rs h m F ∧ ∀ b, F b → h0.size ≤ b ∨ W b
section
variable {h0 m0 h h' m m' : Heap} {W F F' G : Foot} {Rs Rs' : List Res} {R R' : Res} {k : Nat}
theorem Hold.s (O : Hold W h0 m0 h m Rs) : Sub m h := O.S.s
theorem Hold.up (O : Hold W h0 m0 h m Rs) : Sub m0 m := O.S.up
theorem Hold.start (s : Sub m h) : Hold W h m h m [] := ⟨.refl s, No, rfl, fun _ h => h.elim⟩
theorem St.frame (T : St F h m h' m') (h2 : Dj F G) (h3 : ∀ b, G b → b < h.size) (h4 : ∀ b, G b → ¬ Live m b) : (∀ b, G b → h'[b]? = h[b]?) ∧ ∀ b, G b → ¬ Live m' b :=
  ⟨fun b hb => T.fr b (h3 b hb) (fun hf => h2 b hf hb), fun b hb hl => (T.lv b (h3 b hb) hl).elim (h4 b hb) (fun hf => h2 b hf hb)⟩
theorem Hold.get (O : Hold W h0 m0 h m Rs) (k : Nat) (hk : Rs[k]? = some R) : ∃ F, R.p h m F ∧ (∀ b, F b → h0.size ≤ b ∨ W b) ∧
    ∀ {h' m' : Heap} {R' : Res} {F' : Foot}, St F h m h' m' → R'.p h' m' F' → (∀ b, F' b → F b ∨ h.size ≤ b) → Hold W h0 m0 h' m' (Rs.set k R') := by
  obtain ⟨S, FF, hs, hw⟩ := O
  obtain ⟨F1, F2, h1, h2, h3, rfl⟩ := hs.get hk
  refine ⟨F1, h1, fun b hb => hw b (.inl hb), fun {h' m' R' F'} T hp hn => ?_⟩
  obtain ⟨f1, f2⟩ := T.frame h3 h2.lt h2.nl
  have s2 := Sep.fr h2 f1 T.up f2
  have d : Dj F' F2 := fun b hb hc => (hn b hb).elim (fun hf => h3 b hf hc) (fun hl => by have := h2.lt b hc; omega)
  have := Sep.put s2 (set_rE hk) hp d
  rw [List.set_set] at this
  refine ⟨S.then T (fun b _ hb => hw b (.inl hb)), _, this, fun b hb => hb.elim (fun hb => (hn b hb).elim (fun hf => hw b (.inl hf)) (fun hl => .inl (Nat.le_trans S.size hl))) (fun hb => hw b (.inr hb))⟩
theorem Hold.add (O : Hold W h0 m0 h m Rs) (T : St No h m h' m') (hp : R.p h' m' F') (hn : ∀ b, F' b → h.size ≤ b) : Hold W h0 m0 h' m' (Rs ++ [R]) := by
  obtain ⟨S, F, hs, hw⟩ := O
  obtain ⟨f1, f2⟩ := T.frame (G := F) .no hs.lt hs.nl
  refine ⟨S.grow T, _, (Sep.fr hs f1 T.up f2).app (.one hp) (fun b hb hc => by have := hs.lt b hb; have := hn b hc; omega), fun b hb => hb.elim (hw b) (fun hb => .inl (Nat.le_trans S.size (hn b hb)))⟩
theorem Hold.grow (O : Hold W h0 m0 h m Rs) (T : St No h m h' m') : Hold W h0 m0 h' m' Rs := by
  obtain ⟨S, F, hs, hw⟩ := O
  obtain ⟨f1, f2⟩ := T.frame (G := F) .no hs.lt hs.nl
  exact ⟨S.grow T, F, Sep.fr hs f1 T.up f2, hw⟩
theorem Hold.ext (O : Hold W h0 m0 h m Rs) (e : Ext h h') : Hold W h0 m0 h' m Rs := O.grow (St.of_ext O.s e)
theorem Hold.adds (O : Hold W h0 m0 h m Rs) (hp : R.p h m No) : Hold W h0 m0 h m (Rs ++ [R]) := O.add (.refl O.s) hp (fun _ h => h.elim)
theorem Hold.conv (O : Hold W h0 m0 h m Rs) (k : Nat) (hk : Rs[k]? = some R) (H : ∀ F, R.p h m F → ∃ F', R'.p h m F' ∧ ∀ b, F' b → F b) : Hold W h0 m0 h m (Rs.set k R') := by
  obtain ⟨F, h1, _, h3⟩ := O.get k hk
  obtain ⟨F', h4, h5⟩ := H F h1
  exact h3 (.refl O.s) h4 (fun b hb => .inl (h5 b hb))
theorem Hold.pick (O : Hold W h0 m0 h m Rs) (is : List Nat) : Hold W h0 m0 h m (takeL Rs is) := by
  obtain ⟨S, F, hs, hw⟩ := O
  obtain ⟨F1, F2, h1, h2, h3, rfl⟩ := hs.part is
  exact ⟨S, F1, h1, fun b hb => hw b (.inl hb)⟩
theorem Hold.call (O : Hold W h0 m0 h m Rs) (is : List Nat) : ∃ W', Hold W' h m h m (takeL Rs is) ∧ ∀ {h' m' : Heap} {Rs' : List Res}, Hold W' h m h' m' Rs' → Hold W h0 m0 h' m' (dropL Rs is ++ Rs') := by
  obtain ⟨S, F, hs, hw⟩ := O
  obtain ⟨F1, F2, h1, h2, h3, rfl⟩ := hs.part is
  refine ⟨F1, ⟨.refl S.s, F1, h1, fun b hb => .inr hb⟩, fun {h' m' Rs'} O' => ?_⟩
  obtain ⟨T, F', hs', hw'⟩ := O'
  obtain ⟨f1, f2⟩ := T.frame h3 h2.lt h2.nl
  refine ⟨S.then T (fun b _ hb => hw b (.inl hb)), _, (Sep.fr h2 f1 T.up f2).app hs' (fun b hb hc => (hw' b hc).elim (fun hl => by have := h2.lt b hb; omega) (fun hf => h3 b hf hb)), fun b hb => hb.elim (fun hb => hw b (.inr hb)) (fun hb => (hw' b hb).elim (fun hl => .inl (Nat.le_trans S.size hl)) (fun hf => hw b (.inl hf)))⟩
theorem Hold.callC (O : Hold W h0 m0 h m Rs) (is : List Nat) : ∃ W', Hold W' h m h m (takeL Rs is) ∧
    (∀ {h' m' : Heap} {Rs' : List Res}, Hold W' h m h' m' Rs' → Hold W h0 m0 h' m' (dropL Rs is ++ Rs')) ∧
    (∀ {h' m' : Heap} {Rs' : List Res}, Hold W' h m h' m' Rs' → (∀ R ∈ Rs', R.vf) → Hold W h0 m0 h' m (dropL Rs is ++ Rs')) := by
  obtain ⟨S, F, hs, hw⟩ := O
  obtain ⟨F1, F2, h1, h2, h3, rfl⟩ := hs.part is
  have key : ∀ {h' m' : Heap} {Rs' : List Res}, Hold F1 h m h' m' Rs' → Hold W h0 m0 h' m' (dropL Rs is ++ Rs') := fun {h' m' Rs'} O' => by
    obtain ⟨T, F', hs', hw'⟩ := O'
    obtain ⟨f1, f2⟩ := T.frame h3 h2.lt h2.nl
    exact ⟨S.then T (fun b _ hb => hw b (.inl hb)), _, (Sep.fr h2 f1 T.up f2).app hs' (fun b hb hc => (hw' b hc).elim (fun hl => by have := h2.lt b hb; omega) (fun hf => h3 b hf hb)), fun b hb => hb.elim (fun hb => hw b (.inr hb)) (fun hb => (hw' b hb).elim (fun hl => .inl (Nat.le_trans S.size hl)) (fun hf => hw b (.inl hf)))⟩
  refine ⟨F1, ⟨.refl S.s, F1, h1, fun b hb => .inr hb⟩, key, fun {h' m' Rs'} O' v => key ?_⟩
  obtain ⟨T, F', hs', hw'⟩ := O'
  have T' : St F1 h m h' m := T.unlend S.s h1.nl
  exact ⟨T', F', hs'.vf v T'.s (fun b hb hv => (hw' b hb).elim (fun hl => by have := S.s.lt hv; omega) (fun hf => h1.nl b hf hv)), hw'⟩
theorem Hold.lend (O : Hold W h0 m0 h m Rs) (is ls : List Nat) : ∃ m1 W', Sub m m1 ∧ Hold W' h m1 h m1 (takeL Rs is) ∧ ZAll m1 (takeL (dropL Rs is) ls) ∧
    (∀ {h' m' : Heap} {Rs' : List Res}, Hold W' h m1 h' m' Rs' → Hold W h0 m0 h' m' (dropL (dropL Rs is) ls ++ Rs')) ∧
    (∀ {h' m' : Heap} {Rs' : List Res}, Hold W' h m1 h' m' Rs' → (∀ R ∈ Rs', R.vf) → Hold W h0 m0 h' m (dropL Rs is ++ Rs')) := by
  obtain ⟨S, F, hs, hw⟩ := O
  obtain ⟨F1, F2, h1, h2, h3, rfl⟩ := hs.part is
  obtain ⟨F3, F4, k1, k2, k3, rfl⟩ := h2.part ls
  have hl : ∀ b, Live (addV m h F3) b → Live m b ∨ F3 b := fun b h => (addV_live h).1
  have n1 : ∀ b, F1 b → ¬ Live (addV m h F3) b := fun b hb hv => (hl b hv).elim (h1.nl b hb) (fun hf => h3 b hb (.inl hf))
  have n4 : ∀ b, F4 b → ¬ Live (addV m h F3) b := fun b hb hv => (hl b hv).elim (k2.nl b hb) (fun hf => k3 b hf hb)
  refine ⟨addV m h F3, F1, addV_up S.s, ⟨.refl addV_sub, F1, Sep.fr h1 (fun _ _ => rfl) (addV_up S.s) n1, fun b hb => .inr hb⟩, k1.fz S.s (fun _ h => h), fun {h' m' Rs'} O' => ?_, fun {h' m' Rs'} O' v => ?_⟩
  · obtain ⟨T, F', hs', hw'⟩ := O'
    have k4 := Sep.fr k2 (fun _ _ => rfl) (addV_up S.s) n4
    obtain ⟨f1, f2⟩ := T.frame h3.ur' k2.lt n4
    refine ⟨(S.then (St.settle S.s F3) (fun b _ hb => hw b (.inr (.inl hb)))).then T (fun b _ hb => hw b (.inl hb)), _, (Sep.fr k4 f1 T.up f2).app hs' (fun b hb hc => (hw' b hc).elim (fun hl => by have := k2.lt b hb; omega) (fun hf => h3 b hf (.inr hb))), fun b hb => hb.elim (fun hb => hw b (.inr (.inr hb))) (fun hb => (hw' b hb).elim (fun hl => .inl (Nat.le_trans S.size hl)) (fun hf => hw b (.inl hf)))⟩
  · obtain ⟨T, F', hs', hw'⟩ := O'
    have T' : St F1 h m h' m := T.unlend S.s h1.nl
    obtain ⟨f1, f2⟩ := T'.frame h3 h2.lt h2.nl
    have n' : ∀ b, F' b → ¬ Live m b := fun b hb hv => (hw' b hb).elim (fun hl => by have := S.s.lt hv; omega) (fun hf => h1.nl b hf hv)
    refine ⟨S.then T' (fun b _ hb => hw b (.inl hb)), _, (Sep.fr h2 f1 T'.up f2).app (hs'.vf v T'.s n') (fun b hb hc => (hw' b hc).elim (fun hl => by have := h2.lt b hb; omega) (fun hf => h3 b hf hb)), fun b hb => hb.elim (fun hb => hw b (.inr hb)) (fun hb => (hw' b hb).elim (fun hl => .inl (Nat.le_trans S.size hl)) (fun hf => hw b (.inl hf)))⟩
theorem Hold.frz (O : Hold W h0 m0 h m Rs) (k : Nat) (hk : Rs[k]? = some R) : ∃ m', Sub m m' ∧ R.z m' ∧ Hold W h0 m0 h m' (Rs.set k rE) := by
  obtain ⟨m1, W', h1, h2, h3, h4, _⟩ := O.lend [] [k]
  refine ⟨m1, h1, ?_, ?_⟩
  · have : takeL (dropL Rs []) [k] = [R] := by simp only [takeL, dropL, hk]
    rw [this] at h3
    exact h3.1
  · have := h4 h2
    simp only [takeL, dropL, List.append_nil] at this
    exact this
end
end Go.Hw

end
section
set_option linter.unusedVariables false
namespace Go.Hw
open Go
structure Asn (α : Type) (sz : Nat) where
  p : Heap → Heap → α → List Value → Foot → Prop
  E : Heap → α → List Value → Prop
  T : Tell sz E
  len : ∀ {h m x cs F}, p h m x cs F → cs.length = sz
  flat : ∀ {h m x cs F}, p h m x cs F → ∀ v ∈ cs, Flat v
  lt : ∀ {h m x cs F}, p h m x cs F → ∀ b, F b → b < h.size
  nl : ∀ {h m x cs F}, p h m x cs F → ∀ b, F b → ¬ Live m b
  fr : ∀ {h m x cs F h' m'}, p h m x cs F → (∀ b, F b → h'[b]? = h[b]?) → Sub m m' → (∀ b, F b → ¬ Live m' b) → p h' m' x cs F
  fz : ∀ {h m x cs F G}, p h m x cs F → Sub m h → (∀ b, F b → G b) → E (addV m h G) x cs
def aE {α : Type} {sz : Nat} {E : Heap → α → List Value → Prop} (T : Tell sz E) : Asn α sz where
  p _ m x cs F := E m x cs ∧ F = No
  E := E
  T := T
  len h := T.len _ _ _ h.1
  flat h := T.flat _ _ _ h.1
  lt := by rintro h m x cs F ⟨_, rfl⟩ b hb; exact hb.elim
  nl := by rintro h m x cs F ⟨_, rfl⟩ b hb; exact hb.elim
  fr := fun h _ s _ => ⟨T.mono _ _ _ _ s h.1, h.2⟩
  fz := fun h s _ => T.mono _ _ _ _ (addV_up s) h.1
def Asn.vf {α : Type} {sz : Nat} (a : Asn α sz) : Prop := ∀ h m m' x cs F, a.p h m x cs F → Sub m' h → (∀ b, F b → ¬ Live m' b) → a.p h m' x cs F
theorem aE_vf {α : Type} {sz : Nat} {E : Heap → α → List Value → Prop} {T : Tell sz E} (hE : ∀ m m' x cs, E m x cs → E m' x cs) : (aE T).vf := fun _ _ _ _ _ _ h _ _ => ⟨hE _ _ _ _ h.1, h.2⟩
theorem Blk.fr {h h' : Heap} {b : Nat} {c : List Value} {t : TypeId} (hb : Blk h b c t) (e : h'[b]? = h[b]?) : Blk h' b c t := by unfold Blk at *; rw [e]; exact hb
def rV (b : Nat) (t : TypeId) (cs : List Value) : Res where
  p h m F := Blk h b cs t ∧ ¬ Live m b ∧ F = fb b
  z m := Blk m b cs t
  lt := by rintro h m F ⟨h1, _, rfl⟩ i hi; unfold fb at hi; subst hi; exact h1.lt
  nl := by rintro h m F ⟨h1, h2, rfl⟩ i hi; unfold fb at hi; subst hi; exact h2
  fr := by rintro h m F h' m' ⟨h1, h2, rfl⟩ k1 _ k3; exact ⟨h1.fr (k1 b rfl), k3 b rfl, rfl⟩
  fz := by rintro h m F G ⟨h1, h2, rfl⟩ _ k2; exact h1.settle (k2 b rfl)
section
variable {α : Type} {sz : Nat}
def CsA (a : Asn α sz) (h m : Heap) : List α → List Value → Foot → Prop
  | [], cs, F => cs = [] ∧ F = No
  | x :: l, cs, F => ∃ c1 c2 F1 F2, cs = c1 ++ c2 ∧ a.p h m x c1 F1 ∧ CsA a h m l c2 F2 ∧ Dj F1 F2 ∧ F = U F1 F2
variable {a : Asn α sz} {h h' m m' : Heap} {l l' : List α} {cs ds : List Value} {F F' F1 F2 G : Foot} {x y : α}
theorem CsA.len : ∀ {l : List α} {cs : List Value} {F : Foot}, CsA a h m l cs F → cs.length = l.length * sz
  | [], _, _, ⟨e, _⟩ => by rw [e]; simp
  | x :: l, _, _, ⟨c1, c2, F1, F2, e, h1, h2, _, _⟩ => by rw [e, List.length_append, CsA.len h2, a.len h1, List.length_cons, Nat.succ_mul, Nat.add_comm]
theorem CsA.flat : ∀ {l : List α} {cs : List Value} {F : Foot}, CsA a h m l cs F → ∀ v ∈ cs, Flat v
  | [], _, _, ⟨e, _⟩ => by rw [e]; exact Flats.nil
  | x :: l, _, _, ⟨c1, c2, F1, F2, e, h1, h2, _, _⟩ => by
    rw [e]; intro v hv
    rcases List.mem_append.1 hv with hv | hv
    · exact a.flat h1 v hv
    · exact CsA.flat h2 v hv
theorem CsA.lt : ∀ {l : List α} {cs : List Value} {F : Foot}, CsA a h m l cs F → ∀ b, F b → b < h.size
  | [], _, _, ⟨_, e⟩, b, hb => by rw [e] at hb; exact hb.elim
  | x :: l, _, _, ⟨c1, c2, F1, F2, _, h1, h2, _, rfl⟩, b, hb => hb.elim (a.lt h1 b) (CsA.lt h2 b)
theorem CsA.nl : ∀ {l : List α} {cs : List Value} {F : Foot}, CsA a h m l cs F → ∀ b, F b → ¬ Live m b
  | [], _, _, ⟨_, e⟩, b, hb => by rw [e] at hb; exact hb.elim
  | x :: l, _, _, ⟨c1, c2, F1, F2, _, h1, h2, _, rfl⟩, b, hb => hb.elim (a.nl h1 b) (CsA.nl h2 b)
theorem CsA.fr : ∀ {l : List α} {cs : List Value} {F : Foot}, CsA a h m l cs F → (∀ b, F b → h'[b]? = h[b]?) → Sub m m' → (∀ b, F b → ¬ Live m' b) → CsA a h' m' l cs F
  | [], _, _, hs, _, _, _ => hs
  | x :: l, _, _, ⟨c1, c2, F1, F2, e, h1, h2, d, rfl⟩, k1, k2, k3 => ⟨c1, c2, F1, F2, e, a.fr h1 (fun b hb => k1 b (.inl hb)) k2 (fun b hb => k3 b (.inl hb)), CsA.fr h2 (fun b hb => k1 b (.inr hb)) k2 (fun b hb => k3 b (.inr hb)), d, rfl⟩
theorem CsA.vf (v : a.vf) : ∀ {l : List α} {cs : List Value} {F : Foot}, CsA a h m l cs F → Sub m' h → (∀ b, F b → ¬ Live m' b) → CsA a h m' l cs F
  | [], _, _, hs, _, _ => hs
  | x :: l, _, _, ⟨c1, c2, F1, F2, e, h1, h2, d, rfl⟩, k1, k2 => ⟨c1, c2, F1, F2, e, v _ _ _ _ _ _ h1 k1 (fun b hb => k2 b (.inl hb)), CsA.vf v h2 k1 (fun b hb => k2 b (.inr hb)), d, rfl⟩
theorem CsA.fz : ∀ {l : List α} {cs : List Value} {F : Foot}, CsA a h m l cs F → Sub m h → (∀ b, F b → G b) → CsE sz a.E (addV m h G) l cs
  | [], _, _, ⟨e, _⟩, _, _ => e
  | x :: l, _, _, ⟨c1, c2, F1, F2, e, h1, h2, d, rfl⟩, k1, k2 => ⟨c1, c2, e, a.len h1, a.fz h1 k1 (fun b hb => k2 b (.inl hb)), CsA.fz h2 k1 (fun b hb => k2 b (.inr hb))⟩
theorem CsA.append : ∀ {l : List α} {cs : List Value} {F : Foot}, CsA a h m l cs F → CsA a h m l' ds F' → Dj F F' → CsA a h m (l ++ l') (cs ++ ds) (U F F')
  | [], _, _, ⟨e, e'⟩, h', _ => by subst e; subst e'; rw [U.no_left]; exact h'
  | x :: l, _, _, ⟨c1, c2, F1, F2, e, h1, h2, d, e'⟩, h', dd => by
    subst e; subst e'
    rw [List.append_assoc]
    exact ⟨c1, _, F1, _, rfl, h1, CsA.append h2 h' dd.ur, Dj.u' d dd.ul, U.assoc⟩
theorem CsE.csa {E : Heap → α → List Value → Prop} {T : Tell sz E} : ∀ {l : List α} {cs : List Value}, CsE sz E m l cs → CsA (aE T) h m l cs No
  | [], _, e => ⟨e, rfl⟩
  | x :: l, _, ⟨c1, c2, e, h1, h2, h3⟩ => ⟨c1, c2, No, No, e, ⟨h2, rfl⟩, CsE.csa h3, .no, U.no_left.symm⟩
theorem CsA.cse {E : Heap → α → List Value → Prop} {T : Tell sz E} : ∀ {l : List α} {cs : List Value} {F : Foot}, CsA (aE T) h m l cs F → CsE sz E m l cs ∧ F = No
  | [], _, _, ⟨e, e'⟩ => ⟨e, e'⟩
  | x :: l, _, _, ⟨c1, c2, F1, F2, e, ⟨h1, h1'⟩, h2, _, e'⟩ => by
    obtain ⟨h3, h3'⟩ := CsA.cse h2
    subst h1'; subst h3'
    exact ⟨⟨c1, c2, e, T.len _ _ _ h1, h1, h3⟩, by rw [e', U.no_left]⟩
end
section
variable {α : Type} {sz : Nat}
def rowP (a : Asn α sz) (A : Option Addr) (c : Nat) (l : List α) (h m : Heap) (F : Foot) : Prop :=
  (l = [] ∧ c = 0 ∧ F = No) ∨ ∃ b t pre cs rest Fe, c ≠ 0 ∧ A = some ⟨b, pre.length, none⟩ ∧ Blk h b (pre ++ cs ++ rest) t ∧ CsA a h m l cs Fe ∧ l.length ≤ c ∧ (c - l.length) * sz ≤ rest.length ∧ ¬ Live m b ∧ ¬ Fe b ∧ F = U (fb b) Fe
def rR (a : Asn α sz) (A : Option Addr) (c : Nat) (l : List α) : Res where
  p := rowP a A c l
  z m := Rd sz a.E m A l ∧ l.length ≤ c
  lt := by
    rintro h m F (⟨_, _, rfl⟩ | ⟨b, t, pre, cs, rest, Fe, k0, k1, k2, k3, k4, k5, k6, k7, rfl⟩) i hi
    · exact hi.elim
    · rcases hi with hi | hi
      · unfold fb at hi; subst hi; exact k2.lt
      · exact k3.lt i hi
  nl := by
    rintro h m F (⟨_, _, rfl⟩ | ⟨b, t, pre, cs, rest, Fe, k0, k1, k2, k3, k4, k5, k6, k7, rfl⟩) i hi
    · exact hi.elim
    · rcases hi with hi | hi
      · unfold fb at hi; subst hi; exact k6
      · exact k3.nl i hi
  fr := by
    rintro h m F h' m' (⟨e1, e2, rfl⟩ | ⟨b, t, pre, cs, rest, Fe, k0, k1, k2, k3, k4, k5, k6, k7, rfl⟩) f1 f2 f3
    · exact .inl ⟨e1, e2, rfl⟩
    · exact .inr ⟨b, t, pre, cs, rest, Fe, k0, k1, k2.fr (f1 b (.inl rfl)), k3.fr (fun i hi => f1 i (.inr hi)) f2 (fun i hi => f3 i (.inr hi)), k4, k5, f3 b (.inl rfl), k7, rfl⟩
  fz := by
    rintro h m F G (⟨e1, e2, rfl⟩ | ⟨b, t, pre, cs, rest, Fe, k0, k1, k2, k3, k4, k5, k6, k7, rfl⟩) f1 f2
    · subst e1; exact ⟨.nil, Nat.zero_le _⟩
    · subst k1
      exact ⟨CsE.rd (k2.settle (f2 b (.inl rfl))) (k3.fz f1 (fun i hi => f2 i (.inr hi))) (fun _ _ h => h), k4⟩
variable {a : Asn α sz} {h h' h0 m m' m0 : Heap} {A : Option Addr} {c n k : Nat} {l l' : List α} {F F' G W : Foot} {x : Int} {y : α} {v : Value} {cs : List Value} {Rs : List Res} {b : Nat} {t : TypeId} {aa : Addr}
variable {E : Heap → α → List Value → Prop} {T : Tell sz E}
theorem rR_vf (v : a.vf) : (rR a A c l).vf := by
  rintro h m m' F (⟨e1, e2, rfl⟩ | ⟨b, t, pre, cs, rest, Fe, k0, k1, k2, k3, k4, k5, k6, k7, rfl⟩) f1 f2
  · exact .inl ⟨e1, e2, rfl⟩
  · exact .inr ⟨b, t, pre, cs, rest, Fe, k0, k1, k2, k3.vf v f1 (fun i hi => f2 i (.inr hi)), k4, k5, f2 b (.inl rfl), k7, rfl⟩
theorem rowP.os (o : rowP (aE T) A c l h m F) (hw : ∀ b, F b → h0.size ≤ b ∨ W b) : OS W h0 sz E h m A l c ∧ F = fp A c := by
  rcases o with ⟨rfl, rfl, rfl⟩ | ⟨b, t, pre, cs, rest, Fe, k0, k1, k2, k3, k4, k5, k6, k7, rfl⟩
  · exact ⟨.inl ⟨rfl, rfl⟩, funext fun b => propext ⟨fun h => h.elim, fun h => h.1 rfl⟩⟩
  · obtain ⟨k8, rfl⟩ := k3.cse
    refine ⟨.inr ⟨b, t, pre, cs, rest, k1, k2, k8, k4, k5, hw b (.inl rfl), k6⟩, ?_⟩
    rw [U.no_right]
    subst k1
    exact funext fun i => propext ⟨fun hi => ⟨k0, _, rfl, hi.symm⟩, fun ⟨_, a, e, hi⟩ => by cases e; exact hi.symm⟩
theorem OS.rowP (o : OS W h0 sz E h m A l c) : rowP (aE T) A c l h m (fp A c) := by
  by_cases hc : c = 0
  · subst hc
    have := o.cap
    exact .inl ⟨List.length_eq_zero_iff.1 (by omega), rfl, funext fun b => propext ⟨fun h => h.1 rfl, fun h => h.elim⟩⟩
  rcases o with ⟨rfl, rfl⟩ | ⟨b, t, pre, cs, rest, k1, k2, k3, k4, k5, k6, k7⟩
  · exact (hc rfl).elim
  · refine .inr ⟨b, t, pre, cs, rest, No, hc, k1, k2, k3.csa, k4, k5, k7, fun h => h, ?_⟩
    rw [U.no_right]
    subst k1
    exact funext fun i => propext ⟨fun ⟨_, a, e, hi⟩ => by cases e; exact hi.symm, fun hi => ⟨hc, _, rfl, hi.symm⟩⟩
theorem Hold.os (O : Hold W h0 m0 h m Rs) (k : Nat) (hk : Rs[k]? = some (rR (aE T) A c l)) : OS W h0 sz E h m A l c := by
  obtain ⟨F, h1, h2, _⟩ := O.get k hk
  exact (rowP.os h1 h2).1
theorem Hold.ob (O : Hold W h0 m0 h m Rs) (k : Nat) (hk : Rs[k]? = some (rV b t cs)) : OB W h0 h m b cs t := by
  obtain ⟨F, ⟨h1, h3, rfl⟩, h2, _⟩ := O.get k hk
  exact ⟨h1, h2 b rfl, h3⟩
theorem Hold.all (O : Hold W h0 m0 h m Rs) (k : Nat) (hk : Rs[k]? = some (rV b t cs)) : cellsH h ⟨b, 0, none⟩ 0 cs.length = some cs := (O.ob k hk).all
theorem Hold.setV (O : Hold W h0 m0 h m Rs) (k : Nat) (hk : Rs[k]? = some (rV b t cs)) {cs' : List Value} (o : OB W h0 h' m b cs' t) (S : St (fb b) h m h' m) : Hold W h0 m0 h' m (Rs.set k (rV b t cs')) := by
  obtain ⟨F, ⟨h1, h3, rfl⟩, h2, h4⟩ := O.get k hk
  exact h4 S ⟨o.1, o.2.2, rfl⟩ (fun _ h => .inl h)
theorem Hold.setR (O : Hold W h0 m0 h m Rs) (k : Nat) (hk : Rs[k]? = some (rR (aE T) A c l)) (o : OS W h0 sz E h' m A l' c) (S : St (fp A c) h m h' m) : Hold W h0 m0 h' m (Rs.set k (rR (aE T) A c l')) := by
  obtain ⟨F, h1, h2, h4⟩ := O.get k hk
  obtain ⟨_, rfl⟩ := rowP.os h1 h2
  exact h4 S o.rowP (fun _ h => .inl h)
variable {K : Heap → Prop}
theorem Hold.new {z : Array Value} (O : Hold W h0 m0 h m Rs) (H : ∀ h', Ext h h' → Hold W h0 m0 h' m (Rs ++ [rV h.size t z.toList]) → K h') : newH h (.cells z t) K :=
  newH_in fun h' hb e hs => H h' e (O.add (St.of_ext O.s e) ⟨hb, St.notLive O.s, rfl⟩ (fun i hi => by unfold fb at hi; omega))
theorem Hold.st (O : Hold W h0 m0 h m Rs) (k : Nat) (hk : Rs[k]? = some (rV b t cs)) (j : Nat) (hj : j < cs.length) (hf : Flat v) (H : ∀ h', Hold W h0 m0 h' m (Rs.set k (rV b t (cs.set j v))) → K h') : ∃ h', st1 h (Addr.add ⟨b, 0, none⟩ j) v = some h' ∧ K h' := by
  obtain ⟨h', h1, h2, h3⟩ := (O.ob k hk).st O.s hj hf
  exact ⟨h', h1, H h' (O.setV k hk h2 h3)⟩
theorem Hold.st0 (O : Hold W h0 m0 h m Rs) (k : Nat) (hk : Rs[k]? = some (rV b t cs)) (hj : 0 < cs.length) (hf : Flat v) (H : ∀ h', Hold W h0 m0 h' m (Rs.set k (rV b t (cs.set 0 v))) → K h') : ∃ h', st1 h ⟨b, 0, none⟩ v = some h' ∧ K h' := O.st k hk 0 hj hf H
theorem Hold.nil (O : Hold W h0 m0 h m Rs) (a : Asn α sz) (A : Option Addr) : Hold W h0 m0 h m (Rs ++ [rR a A 0 []]) := O.adds (R := rR a A 0 []) (.inl ⟨rfl, rfl, rfl⟩)
theorem Hold.row (O : Hold W h0 m0 h m Rs) (k : Nat) (hk : Rs[k]? = some (rV b t cs)) (a : Asn α sz) (hc : ∃ F, CsA a h m l cs F ∧ F = No) (hn : l.length = c) (h0' : c ≠ 0) : Hold W h0 m0 h m (Rs.set k (rR a (some ⟨b, 0, none⟩) c l)) :=
  O.conv k hk (R' := rR a (some ⟨b, 0, none⟩) c l) fun F hF => by
    obtain ⟨h1, h2, rfl⟩ := hF
    obtain ⟨_, hc, rfl⟩ := hc
    exact ⟨_, .inr ⟨b, t, [], cs, [], No, h0', rfl, by simpa using h1, hc, by omega, by simp [hn], h2, fun h => h, rfl⟩, fun i hi => hi.elim id (fun h => h.elim)⟩
theorem Hold.rowE (O : Hold W h0 m0 h m Rs) (k : Nat) (hk : Rs[k]? = some (rV b t cs)) (T : Tell sz E) (hc : CsE sz E m l cs) (hn : l.length = c) : Hold W h0 m0 h m (Rs.set k (rR (aE T) (some ⟨b, 0, none⟩) c l)) := by
  by_cases h0' : c = 0
  · subst h0'
    refine O.conv k hk (R' := rR (aE T) (some ⟨b, 0, none⟩) 0 l) fun F _ => ⟨No, .inl ⟨List.length_eq_zero_iff.1 hn, rfl, rfl⟩, fun _ h => h.elim⟩
  · exact O.row k hk (aE T) ⟨No, hc.csa, rfl⟩ hn h0'
end
section
variable {α : Type} {sz : Nat} {a : Asn α sz} {h h' h0 m m' m0 : Heap} {A : Option Addr} {c n k : Nat} {l l' xs : List α} {F F' G W : Foot} {x : Int} {y : α} {v X : Value} {cs es : List Value} {Rs : List Res} {b : Nat} {t e : TypeId} {aa : Addr}
variable {E : Heap → α → List Value → Prop} {T : Tell sz E}
theorem rowP.app {bytes : Nat} {z : Array Value} {K : Value → Heap → Prop} {F2 : Foot} (o : rowP a A c l h m F) (s : Sub m h) (hn : n = l.length) (hz : z.size = sz) (h1 : srcCells sz X h = some (xs.length, es)) (h2 : CsA a h m xs es F2) (hd : Dj F F2) (hb0 : 0 < bytes) (g : ap bytes l xs = some l')
    (hk : ∀ A' c' h' F', rowP a A' c' l' h' m F' → St F h m h' m → (∀ b, F' b → F b ∨ F2 b ∨ h.size ≤ b) → K (.slice A' l'.length c') h') : AppW e sz bytes z A n c X h K := by
  subst hn
  obtain ⟨hb, rfl⟩ := ap_e g
  have he := h2.len
  refine ⟨xs.length, es, h1, ?_⟩
  have hpush : ∀ (old : List Value) (Fo : Foot) (hold : oldCells sz A l.length h = some old) (hE : CsA a h m l old Fo) (hFo : ∀ b, Fo b → F b), c < l.length + xs.length →
      ∃ old, oldCells sz A l.length h = some old ∧ ∀ c', l.length + xs.length ≤ c' → K (.slice (some ⟨h.size, 0, none⟩) (l.length + xs.length) c') (h.push (.cells (old.toArray ++ es.toArray ++ zcells z (c' - (l.length + xs.length))) e)) := by
    intro old Fo hold hE hFo hlt
    refine ⟨old, hold, fun c' hc' => ?_⟩
    rw [show (Value.slice (some ⟨h.size, 0, none⟩) (l.length + xs.length) c') = .slice (some ⟨h.size, 0, none⟩) (l ++ xs).length c' by rw [List.length_append]]
    have e1 := Ext.push h (Obj.cells (old.toArray ++ es.toArray ++ zcells z (c' - (l.length + xs.length))) e)
    have S1 := St.of_ext (W := F) s e1
    have hA := hE.append h2 (hd.mono hFo (fun _ h => h))
    have hA' := hA.fr (fun i hi => e1.2 i (hA.lt i hi)) (.refl _) (fun i hi => hA.nl i hi)
    refine hk _ _ _ _ (.inr ⟨h.size, e, [], old ++ es, (zcells z (c' - (l.length + xs.length))).toList, _, by omega, rfl, ?_, hA', by rw [List.length_append]; exact hc', ?_, St.notLive s, fun hf => by have := hA.lt _ hf; omega, rfl⟩) S1 ?_
    · have := Blk.new h (old.toArray ++ es.toArray ++ zcells z (c' - (l.length + xs.length))) e
      simpa using this
    · rw [zc_len, hz, List.length_append]; exact Nat.le_refl _
    · rintro i (hi | hi | hi)
      · unfold fb at hi; exact .inr (.inr (by omega))
      · exact .inl (hFo i hi)
      · exact .inr (.inl hi)
  rcases o with ⟨rfl, rfl, rfl⟩ | ⟨b, t, pre, cs, rest, Fe, k0, rfl, k1, k2, k3, k4, k5, k6, rfl⟩
  · by_cases hx : xs.length = 0
    · have hxs : xs = [] := List.length_eq_zero_iff.1 hx
      subst hxs
      obtain ⟨rfl, rfl⟩ : es = [] ∧ F2 = No := h2
      refine .inl ⟨by simp, ?_⟩
      have fin := hk A 0 h No (.inl ⟨rfl, rfl, rfl⟩) (St.refl s) (fun b hb => .inl hb)
      cases A with
      | none => exact .inl ⟨rfl, fin⟩
      | some a => exact .inr ⟨a, h, rfl, by simp [stH], fin⟩
    · refine .inr ⟨by simp; omega, by simpa using hb, hb0, ?_⟩
      refine hpush [] No ?_ ⟨rfl, rfl⟩ (fun _ h => h) (by simp; omega)
      cases A with
      | none => rfl
      | some a => simp [oldCells, cellsH]
  · have hl := k2.len
    by_cases hle : l.length + xs.length ≤ c
    · refine .inl ⟨hle, .inr ?_⟩
      have hmul : (c - l.length) * sz = xs.length * sz + (c - l.length - xs.length) * sz := by rw [← Nat.add_mul]; congr 1; omega
      have k1' : Blk h b ((pre ++ cs) ++ rest.take (xs.length * sz) ++ rest.drop (xs.length * sz)) t := by rw [List.append_assoc, List.take_append_drop]; exact k1
      obtain ⟨h', s1, b1, o1⟩ := Blk.stH es (a := (⟨b, pre.length, none⟩ : Addr).add (l.length * sz)) (i := 0) k1' (by rw [add_block]) (add_spot _ rfl) (by rw [add_off, List.length_append, hl, Nat.add_zero]) (by rw [List.length_take, he]; omega) (h2.flat)
      refine ⟨_, h', rfl, s1, ?_⟩
      rw [show (Value.slice (some ⟨b, pre.length, none⟩) (l.length + xs.length) c) = .slice (some ⟨b, pre.length, none⟩) (l ++ xs).length c by rw [List.length_append]]
      have S : St (fb b) h m h' m := .only s k5 o1
      have S2 : St (U (fb b) Fe) h m h' m := ⟨S.up, S.s, S.size, fun i hi hn => S.fr i hi (fun h => hn (.inl h)), fun i hi hl => .inl hl⟩
      have hA := k2.append h2 hd.ur
      have nb : ∀ i, U Fe F2 i → i ≠ b := fun i hi e' => by subst e'; exact hi.elim k6 (fun hf => hd i (.inl rfl) hf)
      have hA' := hA.fr (fun i hi => S.fr i (hA.lt i hi) (fun e' => nb i hi e')) (.refl _) (fun i hi => hA.nl i hi)
      refine hk _ _ _ _ (.inr ⟨b, t, pre, cs ++ es, rest.drop (xs.length * sz), _, k0, rfl, by rw [← List.append_assoc pre]; exact b1, hA', by rw [List.length_append]; exact hle, ?_, k5, fun hf => nb b hf rfl, rfl⟩) S2 ?_
      · rw [List.length_drop, List.length_append, show c - (l.length + xs.length) = c - l.length - xs.length by omega]; omega
      · rintro i (hi | hi | hi)
        · exact .inl (.inl hi)
        · exact .inl (.inr hi)
        · exact .inr (.inl hi)
    · refine .inr ⟨by omega, hb, hb0, ?_⟩
      refine hpush cs Fe ?_ k2 (fun _ h => .inr h) (by omega)
      have := k1.cells (a := ⟨b, pre.length, none⟩) rfl rfl (l.length * sz) 0 (by simp [hl])
      simp only [oldCells, this, Nat.add_zero]
      rw [List.append_assoc, List.drop_left, List.take_append_of_le_length (by omega), List.take_of_length_le (by omega)]
variable {K : Value → Heap → Prop} {bytes : Nat} {z : Array Value}
theorem Hold.app (O : Hold W h0 m0 h m Rs) (k : Nat) (hk : Rs[k]? = some (rR (aE T) A c l)) (hn : n = l.length) (hz : z.size = sz) (hs : Src sz E h m X xs) (hb0 : 0 < bytes) (g : ap bytes l xs = some l')
    (H : ∀ A' c' h', Hold W h0 m0 h' m (Rs.set k (rR (aE T) A' c' l')) → K (.slice A' l'.length c') h') : AppW e sz bytes z A n c X h K := by
  obtain ⟨F, h1, h2, h3⟩ := O.get k hk
  obtain ⟨es, s1, s2⟩ := hs
  refine rowP.app h1 O.s hn hz s1 (s2.csa (T := T)) .no' hb0 g fun A' c' h' F' q1 q2 q3 => H A' c' h' (h3 (R' := rR (aE T) A' c' l') q2 q1 fun b hb => ?_)
  rcases q3 b hb with hb | hb | hb
  · exact .inl hb
  · exact hb.elim
  · exact .inr hb
theorem Hold.app0 (O : Hold W h0 m0 h m Rs) (a : Asn α sz) (hn : n = 0) (hz : z.size = sz) (h1 : srcCells sz X h = some (xs.length, es)) (h2 : ∃ F, CsA a h m xs es F ∧ F = No) (hb0 : 0 < bytes) (g : ap bytes ([] : List α) xs = some l')
    (H : ∀ A' c' h', Ext h h' → Hold W h0 m0 h' m (Rs ++ [rR a A' c' l']) → K (.slice A' l'.length c') h') : AppW e sz bytes z A n 0 X h K := by
  obtain ⟨_, h2, rfl⟩ := h2
  refine rowP.app (a := a) (l := []) (F := No) (.inl ⟨rfl, rfl, rfl⟩) O.s hn hz h1 h2 .no' hb0 g fun A' c' h' F' q1 q2 q3 => H A' c' h' q2.ext (O.add q2 q1 fun b hb => ?_)
  rcases q3 b hb with hb | hb | hb
  · exact hb.elim
  · exact hb.elim
  · exact hb
theorem Hold.appE0 (O : Hold W h0 m0 h m Rs) (T : Tell sz E) (hn : n = 0) (hz : z.size = sz) (hs : Src sz E h m X xs) (hb0 : 0 < bytes) (g : ap bytes ([] : List α) xs = some l')
    (H : ∀ A' c' h', Ext h h' → Hold W h0 m0 h' m (Rs ++ [rR (aE T) A' c' l']) → K (.slice A' l'.length c') h') : AppW e sz bytes z A n 0 X h K := by
  obtain ⟨es, s1, s2⟩ := hs
  exact O.app0 (aE T) hn hz s1 ⟨No, s2.csa, rfl⟩ hb0 g H
end
end Go.Hw

end
section
set_option linter.unusedVariables false
namespace Go.Hw
open Go
section
variable {α : Type} {sz : Nat} {a : Asn α sz} {h h' h0 m m' m0 : Heap} {A Ai : Option Addr} {c ci n k : Nat} {l li : List α} {ll ll' : List (List α)} {W : Foot} {x : Int} {y : α} {v : Value} {cs : List Value} {Rs Rs' : List Res} {b : Nat} {t : TypeId} {aa : Addr} {K : Heap → Prop}
variable {E : Heap → α → List Value → Prop} {T : Tell sz E}
theorem Hold.ret (O : Hold W h0 m0 h m Rs) (Q : Hold No h m h' m' Rs') : Hold W h0 m0 h' m' (Rs ++ Rs') := by
  obtain ⟨W', h1, h2⟩ := O.call []
  simp only [dropL, takeL] at h1 h2
  exact h2 ⟨⟨Q.S.up, Q.S.s, Q.S.size, fun b hb _ => Q.S.fr b hb (fun h => h), fun b hb hl => (Q.S.lv b hb hl).elim .inl (fun h => h.elim)⟩, by
    obtain ⟨F, k1, k2⟩ := Q.q
    exact ⟨F, k1, fun b hb => (k2 b hb).elim .inl (fun h => h.elim)⟩⟩
theorem vfs_nil : ∀ R ∈ ([] : List Res), R.vf := fun _ h => by cases h
theorem vfs_cons {R : Res} (v : R.vf) (w : ∀ R ∈ Rs, R.vf) : ∀ R' ∈ R :: Rs, R'.vf := fun R' h => by
  rcases List.mem_cons.1 h with rfl | h
  · exact v
  · exact w R' h
theorem Hold.retC (O : Hold W h0 m0 h m Rs) (Q : Hold No h m h' m' Rs') (v : ∀ R ∈ Rs', R.vf) : Hold W h0 m0 h' m (Rs ++ Rs') := by
  obtain ⟨m1, W', h1, h2, _, _, h5⟩ := O.lend [] []
  have s1 : Hold No h m h' m Rs' := by
    refine ⟨Q.S.unlend O.s (fun _ h => h.elim), ?_⟩
    obtain ⟨F, k1, k2⟩ := Q.q
    have T := Q.S.unlend O.s (fun _ h => h.elim)
    exact ⟨F, k1.vf v T.s (fun b hb hl => (k2 b hb).elim (fun h => by have := O.s.lt hl; omega) (fun h => h.elim)), k2⟩
  exact O.ret s1
theorem Hold.lend0 (O : Hold W h0 m0 h m Rs) (ls : List Nat) : ∃ m1, Sub m m1 ∧ Sub m1 h ∧ ZAll m1 (takeL Rs ls) ∧
    (∀ {h' m' : Heap} {Rs' : List Res}, Hold No h m1 h' m' Rs' → Hold W h0 m0 h' m' (dropL Rs ls ++ Rs')) ∧
    (∀ {h' m' : Heap} {Rs' : List Res}, Hold No h m1 h' m' Rs' → (∀ R ∈ Rs', R.vf) → Hold W h0 m0 h' m (Rs ++ Rs')) := by
  obtain ⟨m1, W', h1, h2, h3, h4, h5⟩ := O.lend [] ls
  simp only [dropL, takeL] at h2 h3 h4 h5
  have up : ∀ {h' m' : Heap} {Rs' : List Res}, Hold No h m1 h' m' Rs' → Hold W' h m1 h' m' Rs' := fun Q =>
    ⟨⟨Q.S.up, Q.S.s, Q.S.size, fun b hb _ => Q.S.fr b hb (fun h => h), fun b hb hl => (Q.S.lv b hb hl).elim .inl (fun h => h.elim)⟩, by
      obtain ⟨F, k1, k2⟩ := Q.q
      exact ⟨F, k1, fun b hb => (k2 b hb).elim .inl (fun h => h.elim)⟩⟩
  exact ⟨m1, h1, h2.s, h3, fun Q => h4 (up Q), fun Q v => h5 (up Q) v⟩
end
end Go.Hw
namespace Go.Hw
end Go.Hw
namespace Go.Hw
open Go
class SetAt (k : Nat) (L : List Res) (r : Res) (out : outParam (List Res)) : Prop where
  eq : L.set k r = out
instance {a r : Res} {l : List Res} : SetAt 0 (a :: l) r (r :: l) := ⟨rfl⟩
instance {k : Nat} {a r : Res} {l o : List Res} [S : SetAt k l r o] : SetAt (k + 1) (a :: l) r (a :: o) := ⟨by rw [List.set_cons_succ, S.eq]⟩
class GetAt (k : Nat) (L : List Res) (r : outParam Res) : Prop where
  eq : L[k]? = some r
instance {a : Res} {l : List Res} : GetAt 0 (a :: l) a := ⟨rfl⟩
instance {k : Nat} {a r : Res} {l : List Res} [S : GetAt k l r] : GetAt (k + 1) (a :: l) r := ⟨by rw [List.getElem?_cons_succ, S.eq]⟩
class Apd (L M : List Res) (out : outParam (List Res)) : Prop where
  eq : L ++ M = out
instance {M : List Res} : Apd [] M M := ⟨rfl⟩
instance {a : Res} {l M o : List Res} [S : Apd l M o] : Apd (a :: l) M (a :: o) := ⟨by rw [List.cons_append, S.eq]⟩
class PickT (L : List Res) (is : List Nat) (T D : outParam (List Res)) : Prop where
  t : takeL L is = T
  d : dropL L is = D
instance {L : List Res} : PickT L [] [] L := ⟨rfl, rfl⟩
instance {L L2 T D : List Res} {i : Nat} {is : List Nat} {r : Res} [G : GetAt i L r] [S : SetAt i L rE L2] [P : PickT L2 is T D] : PickT L (i :: is) (r :: T) D := ⟨by simp only [takeL, G.eq, S.eq, P.t], by simp only [dropL, S.eq, P.d]⟩
class Nm (L : List Res) (out : outParam (List Res)) : Prop where
  eq : L = out
instance : Nm [] [] := ⟨rfl⟩
instance {a : Res} {l : List Res} : Nm (a :: l) (a :: l) := ⟨rfl⟩
instance {L L' o : List Res} {k : Nat} {r : Res} [N : Nm L L'] [S : SetAt k L' r o] : Nm (L.set k r) o := ⟨by rw [N.eq, S.eq]⟩
instance {L L' M M' o : List Res} [N : Nm L L'] [N' : Nm M M'] [S : Apd L' M' o] : Nm (L ++ M) o := ⟨by rw [N.eq, N'.eq, S.eq]⟩
instance {L L' T D : List Res} {is : List Nat} [N : Nm L L'] [S : PickT L' is T D] : Nm (takeL L is) T := ⟨by rw [N.eq, S.t]⟩
instance {L L' T D : List Res} {is : List Nat} [N : Nm L L'] [S : PickT L' is T D] : Nm (dropL L is) D := ⟨by rw [N.eq, S.d]⟩
theorem Hold.nm {W : Foot} {h0 m0 h m : Heap} {Rs Rs' : List Res} (O : Hold W h0 m0 h m Rs) [N : Nm Rs Rs'] : Hold W h0 m0 h m Rs' := N.eq ▸ O
end Go.Hw

end
section
namespace Go.Hw
open Go Go.RowKit
end Go.Hw

end
section
namespace Go.Hw
open Go
section
variable {α : Type} {sz : Nat} {E : Heap → α → List Value → Prop} {m m' h h' h0 m0 : Heap} {A : Option Addr} {l : List α} {c n : Nat} {W : Nat → Prop}
theorem gen_clear0 {P : Program} {t e : TypeId} {cap : Nat} {K : Value → Heap → Prop} (hu : P.underlying t = some (.slice e)) (hk : K (.tuple #[]) h) : Gen P (Builtin.clear_ #[t] 0 #[.slice A 0 cap]) h K := by
  unfold Gen Builtin.clear_
  refine hwp_bind (hwp_underlying hu ?_)
  cases A <;> exact hwp_bind (hwp_pure (hwp_pure hk))
theorem gen_clear {P : Program} {t e : TypeId} {a : Addr} {k cap : Nat} {z : Value} {h' : Heap} {K : Value → Heap → Prop} (hu : P.underlying t = some (.slice e)) (hz : zeroOf P e = some z) (hs : stH h a (Builtin.zeroCells z.cells (k + 1)).toList 0 = some h') (hk : K (.tuple #[]) h') : Gen P (Builtin.clear_ #[t] 0 #[.slice (some a) (k + 1) cap]) h K := by
  unfold Gen Builtin.clear_
  refine hwp_bind (hwp_underlying hu ?_)
  refine hwp_bind (s := zeroValue e) (hwp_zero hz ?_)
  refine hwp_bind (hwp_storeCells a _ 0 hs ?_)
  exact hwp_pure hk
end
end Go.Hw

end
section
set_option linter.unusedVariables false
namespace Go.Hw
open Go
theorem zcells_mk (z : Array Value) (n : Nat) : zcells z n = mkCells z (n * z.size) := rfl
theorem sliceA_zero {A : Option Addr} {c sz : Nat} : sliceA A (Int.toNat (0 : Int)) c sz = A := by
  unfold sliceA
  split
  · rfl
  · cases A with
    | none => rfl
    | some a => simp [Addr.add]
section
variable {α : Type} {sz : Nat} {E : Heap → α → List Value → Prop} {T : Tell sz E} {m m' h h' h0 m0 : Heap} {A : Option Addr} {l l8 : List α} {c c2 n k : Nat} {W : Foot} {P : Program} {t e : TypeId} {zv : Value} {zp : α} {lo hi : Int} {Rs : List Res}
theorem zc_flat {z : Array Value} (hf : ∀ v ∈ z.toList, Flat v) (n : Nat) : ∀ v ∈ (zcells z n).toList, Flat v := by
  rw [zcells_mk, mkCells_flat rfl]
  intro v hv
  obtain ⟨l, h1, h2⟩ := List.mem_flatten.1 hv
  rw [(List.mem_replicate.1 h1).2] at h2
  exact hf v h2
theorem zc_cse {z : Array Value} (hE : E m zp z.toList) (T : Tell sz E) (n : Nat) : CsE sz E m (List.replicate n zp) (zcells z n).toList := by
  rw [zcells_mk, mkCells_flat rfl]
  exact CsE.rep hE (T.len _ _ _ hE) n
def clrL (l : List α) (lo hi : Int) (z : α) : List α := l.take lo.toNat ++ List.replicate (hi.toNat - lo.toNat) z ++ l.drop hi.toNat
theorem OS.clr (o : OS W h0 sz E h m A l c) (T : Tell sz E) (s : Sub m h) (h1 : 0 ≤ lo) (h2 : lo < hi) (h3 : hi ≤ (l.length : Int)) {z : Array Value} (hE : E m zp z.toList) : ∃ a h', sliceA A (Int.toNat lo) c sz = some a ∧ stH h a (zcells z (hi.toNat - lo.toNat)).toList 0 = some h' ∧ OS W h0 sz E h' m A (clrL l lo hi zp) c ∧ St (fp A c) h m h' m := by
  rcases o with ⟨rfl, rfl⟩ | ⟨b, t, pre, cs, rest, rfl, k1, k2, k3, k4, k5, k6⟩
  · simp at h3; omega
  have hl := k2.len
  have hzs : z.size = sz := by have := T.len _ _ _ hE; simpa using this
  have e2 : hi.toNat * sz ≤ l.length * sz := Nat.mul_le_mul_right _ (by omega)
  have e3 : lo.toNat * sz ≤ hi.toNat * sz := Nat.mul_le_mul_right _ (by omega)
  have hm : ¬ c = lo.toNat := by omega
  have hb : Blk h b ((pre ++ cs.take (lo.toNat * sz)) ++ (cs.take (hi.toNat * sz)).drop (lo.toNat * sz) ++ (cs.drop (hi.toNat * sz) ++ rest)) t := by
    have : (pre ++ cs.take (lo.toNat * sz)) ++ (cs.take (hi.toNat * sz)).drop (lo.toNat * sz) ++ (cs.drop (hi.toNat * sz) ++ rest) = pre ++ cs ++ rest := by
      have e4 : cs.take (lo.toNat * sz) = (cs.take (hi.toNat * sz)).take (lo.toNat * sz) := by rw [List.take_take, Nat.min_eq_left e3]
      rw [e4, List.append_assoc pre, List.take_append_drop, ← List.append_assoc, List.append_assoc pre, List.take_append_drop]
    rw [this]; exact k1
  have hzl : (zcells z (hi.toNat - lo.toNat)).toList.length = hi.toNat * sz - lo.toNat * sz := by rw [zc_len, hzs, Nat.sub_mul]
  obtain ⟨h', s1, b1, o1⟩ := Blk.stH (zcells z (hi.toNat - lo.toNat)).toList (a := (⟨b, pre.length, none⟩ : Addr).add (lo.toNat * sz)) (i := 0) hb (by rw [add_block]) (add_spot _ rfl)
    (by rw [add_off, List.length_append, List.length_take]; simp only [Nat.add_zero]; omega) (by rw [hzl, List.length_drop, List.length_take]; omega) (zc_flat (T.flat _ _ _ hE) _)
  refine ⟨_, h', ?_, s1, .inr ⟨b, t, pre, cs.take (lo.toNat * sz) ++ (zcells z (hi.toNat - lo.toNat)).toList ++ cs.drop (hi.toNat * sz), rest, rfl, ?_, ?_, ?_, ?_, k5, k6⟩, ?_⟩
  · unfold sliceA; rw [if_neg hm]; rfl
  · have : pre ++ (cs.take (lo.toNat * sz) ++ (zcells z (hi.toNat - lo.toNat)).toList ++ cs.drop (hi.toNat * sz)) ++ rest = (pre ++ cs.take (lo.toNat * sz)) ++ (zcells z (hi.toNat - lo.toNat)).toList ++ (cs.drop (hi.toNat * sz) ++ rest) := by simp only [List.append_assoc]
    rw [this]; exact b1
  · exact ((k2.take lo.toNat).append (zc_cse hE T _)).append (k2.drop hi.toNat)
  · unfold clrL; simp only [List.length_append, List.length_take, List.length_replicate, List.length_drop]; omega
  · have : (clrL l lo hi zp).length = l.length := by unfold clrL; simp only [List.length_append, List.length_take, List.length_replicate, List.length_drop]; omega
    rw [this]; exact k4
  · refine ⟨.refl _, fun i o1' j1 j2 => ?_, by rw [o1.1]; exact Nat.le_refl _, fun i hi hw => o1.2 i fun e => hw ⟨by omega, _, rfl, e.symm⟩, fun i _ hl => .inl hl⟩
    rw [o1.2 i (fun e => k6 (e ▸ ⟨o1', j1, j2⟩))]; exact s i o1' j1 j2
theorem Hold.clr {K : Value → Heap → Prop} (O : Hold W h0 m0 h m Rs) (k : Nat) (hk : Rs[k]? = some (rR (aE T) A c l)) (g : Hw.sls l lo hi = some l8) (hu : P.underlying t = some (.slice e)) (hz : zeroOf P e = some zv) (hE : E m zp zv.cells.toList)
    (H : ∀ h', Hold W h0 m0 h' m (Rs.set k (rR (aE T) A c (clrL l lo hi zp))) → K (.tuple #[]) h') : Gen P (Builtin.clear_ #[t] 0 #[.slice (sliceA A (Int.toNat lo) c sz) l8.length c2]) h K := by
  obtain ⟨h1, h2, h3, h4, _⟩ := sls_e g
  by_cases he : lo = hi
  · subst he
    have : l8.length = 0 := by omega
    rw [this]
    refine gen_clear0 hu (H h ?_)
    have e : clrL l lo lo zp = l := by unfold clrL; simp
    rw [e]
    exact O.conv k hk (R' := rR (aE T) A c l) fun F hF => ⟨F, hF, fun _ h => h⟩
  · obtain ⟨a, h', k1, k2, k3, k4⟩ := (O.os k hk).clr T O.s h1 (by omega) h3 hE
    rw [k1]
    obtain ⟨j, hj⟩ : ∃ j, l8.length = j + 1 := ⟨l8.length - 1, by omega⟩
    rw [hj]
    refine gen_clear hu hz (h' := h') ?_ (H h' (O.setR k hk k3 k4))
    have : j + 1 = hi.toNat - lo.toNat := by omega
    rw [this]; exact k2
end
end Go.Hw
namespace Go.Hw
open Go
end Go.Hw
namespace Go.Hw
open Go
end Go.Hw

end
section
set_option linter.unusedVariables false
namespace Go.Hw
open Go
end Go.Hw

end
section
set_option linter.unusedVariables false
namespace Go.Hw
open Go
end Go.Hw

end
section
set_option linter.unusedVariables false
namespace Go.Hw
open Go Go.RowKit
end Go.Hw

end
section
set_option linter.unusedVariables false
namespace Go.Hw
open Go
end Go.Hw
namespace Go.Hw
open Go
end Go.Hw
namespace Go.Hw
open Go
end Go.Hw
namespace Go.Hw
open Go
end Go.Hw
namespace Go.Hw
open Go
section
variable {α : Type} {sz : Nat} {E : Heap → α → List Value → Prop} {T : Tell sz E} {m h h0 m0 : Heap} {A : Option Addr} {l : List α} {c c2 n k : Nat} {W : Foot} {P : Program} {t e : TypeId} {zv : Value} {zp : α} {Rs : List Res}
theorem Hold.clrA {K : Value → Heap → Prop} (O : Hold W h0 m0 h m Rs) (k : Nat) (hk : Rs[k]? = some (rR (aE T) A c l)) (hn : n = l.length) (hu : P.underlying t = some (.slice e)) (hz : zeroOf P e = some zv) (hE : E m zp zv.cells.toList)
    (H : ∀ h', Hold W h0 m0 h' m (Rs.set k (rR (aE T) A c (List.replicate l.length zp))) → K (.tuple #[]) h') : Gen P (Builtin.clear_ #[t] 0 #[.slice A n c2]) h K := by
  subst hn
  have g : Hw.sls l 0 (l.length : Int) = some l := by have := sls_take (l := l) (k := l.length) (x := (l.length : Int)) rfl (Nat.le_refl _); rw [List.take_of_length_le (Nat.le_refl _)] at this; exact this
  have e : clrL l 0 (l.length : Int) zp = List.replicate l.length zp := by unfold clrL; simp
  have := O.clr (c2 := c2) (t := t) (K := K) k hk g hu hz hE (fun h' O' => H h' (by rw [e] at O'; exact O'))
  rw [sliceA_zero] at this
  exact this
end
end Go.Hw

end
section
set_option linter.unusedVariables false
namespace Go.Hw
open Go
end Go.Hw

end
section
namespace Go.Proofs.Ythnlhffpmlgmfaa.Fw
open Go Go.Hw Go.Proofs
set_option linter.unusedVariables false
set_option synthInstance.maxHeartbeats 400000
set_option synthInstance.maxSize 1000
def slices_Clone_16.post (W : Nat → Prop) (h0 m0 : Heap) (r : (List Int)) (v : Value) (h : Heap) : Prop := ∃ m A0 n0 c0, Hold W h0 m0 h m [rR (aE (tell_int .i64)) A0 c0 r] ∧ v = .slice A0 n0 c0 ∧ n0 = List.length r
noncomputable def slices_Clone_16 (a0 : List Int) : Option (List Int) := ap 8 ([] : List Int) a0
set_option maxRecDepth 100000 in
theorem slices_Clone_16.walk {W : Nat → Prop} {h m : Heap} {A0 : Option Addr} {n0 c0 : Nat} {a0 : List Int} (O : Hold W h m h m []) (ne0 : n0 = List.length a0) (k0 : List.length a0 ≤ c0) (r0 : Rd 1 (eInt .i64) m A0 a0) {r : List Int} (e : slices_Clone_16 a0 = some r) : Run Try.prog 16 #[Value.slice A0 n0 c0] h (slices_Clone_16.post W h m r) := by
  unfold slices_Clone_16 at e
  subst ne0
  refine f16.run ?_
  unfold f16.runT
  cases A0 with
  | none =>
    refine split_t ?_
    obtain rfl := Rd.void r0
    obtain rfl : [] = r := by have := (ap_e e).2; simpa using this
    exact ⟨m, none, 0, 0, O.nil (aE (tell_int .i64)) none, rfl, rfl⟩
  | some a =>
    refine split_f ?_
    refine O.new fun h1 x1 O1 => ?_
    refine O1.appE0 (tell_int .i64) rfl rfl (r0.srcE (tell_int .i64) O1.s rfl) (by decide) e fun A4 c4 h4 x4 O4 => ?_
    refine ⟨_, _, _, rfl, ?_⟩
    exact ⟨m, _, _, _, O4.pick [1], rfl, rfl⟩
theorem slices_Clone_16.val (l : List Int) (h : l.length * 8 ≤ 140737488355328) : slices_Clone_16 l = some l := ap_nil h
def slices_Grow_72.post (W : Nat → Prop) (h0 m0 : Heap) (r : (List Int)) (v : Value) (h : Heap) : Prop := ∃ m A0 n0 c0, Hold W h0 m0 h m [rR (aE (tell_int .i64)) A0 c0 r] ∧ v = .slice A0 n0 c0 ∧ n0 = List.length r
noncomputable def slices_Grow_72 (x1 : Int) : Option (List Int) := if gro 8 x1 = true then some [] else none
set_option maxRecDepth 100000 in
theorem slices_Grow_72.walk {W : Nat → Prop} {h m : Heap} {x1 : Int} (O : Hold W h m h m []) {r : List Int} (e : slices_Grow_72 x1 = some r) : Run Try.prog 72 #[Value.slice none 0 0, Value.int .i64 x1] h (slices_Grow_72.post W h m r) := by
  unfold slices_Grow_72 at e
  have S : St No h m h m := .refl O.s
  obtain ⟨g, e⟩ := guard_e e
  cases e
  refine f72.run ?_
  unfold f72.runT
  refine split_dec (fun c => absurd c (by have := of_decide_eq_true (show decide _ = true from g); omega)) (fun _ => ?_)
  refine f72.j0_in ?_
  unfold f72.j0T
  exact grow_nil S rfl (by decide) g (fun A' c' h' o' x' => ⟨m, _, _, _, O.add (R := rR (aE (tell_int .i64)) A' c' []) (St.of_ext O.s x') o'.rowP o'.newNo, rfl, rfl⟩)
def slices_Concat_18.post (W : Nat → Prop) (h0 m0 : Heap) (r : (List Int)) (v : Value) (h : Heap) : Prop := ∃ m A0 n0 c0, Hold W h0 m0 h m [rR (aE (tell_int .i64)) A0 c0 r] ∧ v = .slice A0 n0 c0 ∧ n0 = List.length r
inductive slices_Concat_18.l1_k.Pt where
  | l1 (a_6 : List Int) (a_25 : List (List Int)) (x_26 : Int) (x_27 : Int)
noncomputable def slices_Concat_18.l1_k.body (go : (p : slices_Concat_18.l1_k.Pt) → Option ((List Int))) : (p : slices_Concat_18.l1_k.Pt) → Option ((List Int))
  | .l1 a_6 a_25 x_26 x_27 => if x_27 < x_26 then (Option.bind (gi a_25 x_27) fun y1 => Option.bind (ap 8 a_6 y1) fun l8 => (go (.l1 l8 a_25 x_26 (IntKind.wrap .i64 (x_27 + (1 : Int)))))) else (some (a_6))
theorem slices_Concat_18.l1_k.mono : MonoF (β := fun _ => ((List Int))) slices_Concat_18.l1_k.body := fun f g hfg p => match p with
  | .l1 a_6 a_25 x_26 x_27 => LeO.ite (LeO.bind (LeO.refl _) fun y1 => LeO.bind (LeO.refl _) fun l8 => (hfg _)) (LeO.refl _)
noncomputable def slices_Concat_18.l1_k.go (p : slices_Concat_18.l1_k.Pt) : Option ((List Int)) := fixF (β := fun _ => ((List Int))) slices_Concat_18.l1_k.body p
noncomputable def slices_Concat_18.l1 (a_6 : List Int) (a_25 : List (List Int)) (x_26 : Int) (x_27 : Int) : Option ((List Int)) := slices_Concat_18.l1_k.go (.l1 a_6 a_25 x_26 x_27)
theorem slices_Concat_18.l1_eq (a_6 : List Int) (a_25 : List (List Int)) (x_26 : Int) (x_27 : Int) : slices_Concat_18.l1 a_6 a_25 x_26 x_27 = if x_27 < x_26 then (Option.bind (gi a_25 x_27) fun y1 => Option.bind (ap 8 a_6 y1) fun l8 => (slices_Concat_18.l1 l8 a_25 x_26 (IntKind.wrap .i64 (x_27 + (1 : Int))))) else (some (a_6)) := fixF_eq slices_Concat_18.l1_k.mono _
def slices_Concat_18.l1_k.I : (p : slices_Concat_18.l1_k.Pt) → ((List Int)) → Prop
  | .l1 a_6 a_25 x_26 x_27, r => ∀ (W : Nat → Prop) (h0 m0 h m : Heap) (A_6 : Option Addr) (n_6 c_6 : Nat) (A_25 : Option Addr) (n_25 c_25 : Nat) (O : Hold W h0 m0 h m [rR (aE (tell_int .i64)) A_6 c_6 a_6]) (ne_6 : n_6 = List.length a_6) (ne_25 : n_25 = List.length a_25) (k_25 : List.length a_25 ≤ c_25) (r_25 : Rd 1 (eRow 1 (eInt .i64)) m A_25 a_25), f18.l1 (slices_Concat_18.post W h0 m0 r) A_6 n_6 c_6 A_25 n_25 c_25 x_26 x_27 h
set_option maxRecDepth 100000 in
theorem slices_Concat_18.l1_k.step_l1 (go : (p : slices_Concat_18.l1_k.Pt) → Option ((List Int))) (ih : ∀ p r, go p = some r → slices_Concat_18.l1_k.I p r) (a_6 : List Int) (a_25 : List (List Int)) (x_26 : Int) (x_27 : Int) (r : (List Int)) (e : slices_Concat_18.l1_k.body go (.l1 a_6 a_25 x_26 x_27) = some r) : slices_Concat_18.l1_k.I (.l1 a_6 a_25 x_26 x_27) r := by
  unfold slices_Concat_18.l1_k.body at e
  intro W h0 m0 h m A_6 n_6 c_6 A_25 n_25 c_25 O ne_6 ne_25 k_25 r_25
  subst ne_6
  subst ne_25
  refine f18.l1_in ?_
  unfold f18.l1T
  refine split_dec_e e (fun c17 e => ?_) (fun c17 e => ?_)
  · obtain ⟨y1, g2, e⟩ := bind_e e
    refine r_25.addr rfl g2 fun a3 cs4 ha5 hc6 he7 => ?_
    obtain ⟨Acs4_0, ccs4_0, rfl, kcs4_0, rcs4_0⟩ := id he7
    refine ⟨_, ld0 O.s hc6 rfl, _, _, _, rfl, ?_⟩
    obtain ⟨l8, g9, e⟩ := bind_e e
    refine O.app 0 rfl rfl rfl (Rd.srcE rcs4_0 (tell_int .i64) O.s rfl) (by decide) g9 fun A10 c11 h12 O13 => ?_
    refine ⟨_, _, _, rfl, ?_⟩
    have O16 := O13.nm
    exact (ih _ _ e) _ _ _ _ _ _ _ _ _ _ _ (O16.pick [0]).nm rfl rfl k_25 r_25
  · cases e
    exact ⟨_, _, _, _, O.pick [0], rfl, rfl⟩
theorem slices_Concat_18.l1_k.all {p : slices_Concat_18.l1_k.Pt} {r : ((List Int))} (e : slices_Concat_18.l1_k.go p = some r) : slices_Concat_18.l1_k.I p r := fixF_ind (β := fun _ => ((List Int))) slices_Concat_18.l1_k.mono (I := slices_Concat_18.l1_k.I) (fun go ih p r e => match p with
  | .l1 a_6 a_25 x_26 x_27 => slices_Concat_18.l1_k.step_l1 go ih a_6 a_25 x_26 x_27 r e
  ) e
theorem slices_Concat_18.l1.walk {W : Nat → Prop} {h0 m0 h m : Heap} {A_6 : Option Addr} {n_6 c_6 : Nat} {A_25 : Option Addr} {n_25 c_25 : Nat} {a_6 : List Int} {a_25 : List (List Int)} {x_26 : Int} {x_27 : Int} (O : Hold W h0 m0 h m [rR (aE (tell_int .i64)) A_6 c_6 a_6]) (ne_6 : n_6 = List.length a_6) (ne_25 : n_25 = List.length a_25) (k_25 : List.length a_25 ≤ c_25) (r_25 : Rd 1 (eRow 1 (eInt .i64)) m A_25 a_25) {r : (List Int)} (e : slices_Concat_18.l1 a_6 a_25 x_26 x_27 = some r) : f18.l1 (slices_Concat_18.post W h0 m0 r) A_6 n_6 c_6 A_25 n_25 c_25 x_26 x_27 h := slices_Concat_18.l1_k.all (p := .l1 a_6 a_25 x_26 x_27) e W h0 m0 h m A_6 n_6 c_6 A_25 n_25 c_25 O ne_6 ne_25 k_25 r_25
inductive slices_Concat_18.l0_k.Pt where
  | l0 (a_0 : List (List Int)) (x_3 : Int) (a_9 : List (List Int)) (x_10 : Int) (x_11 : Int)
noncomputable def slices_Concat_18.l0_k.body (go : (p : slices_Concat_18.l0_k.Pt) → Option ((List Int))) : (p : slices_Concat_18.l0_k.Pt) → Option ((List Int))
  | .l0 a_0 x_3 a_9 x_10 x_11 => if x_11 < x_10 then (Option.bind (gi a_9 x_11) fun y1 => if (IntKind.wrap .i64 (x_3 + (((List.length y1) : Nat) : Int))) < (0 : Int) then ((none : Option _)) else ((go (.l0 a_0 (IntKind.wrap .i64 (x_3 + (((List.length y1) : Nat) : Int))) a_9 x_10 (IntKind.wrap .i64 (x_11 + (1 : Int))))))) else (Option.bind (slices_Grow_72 x_3) fun y9 => (slices_Concat_18.l1 y9 a_0 (((List.length a_0) : Nat) : Int) (0 : Int)))
theorem slices_Concat_18.l0_k.mono : MonoF (β := fun _ => ((List Int))) slices_Concat_18.l0_k.body := fun f g hfg p => match p with
  | .l0 a_0 x_3 a_9 x_10 x_11 => LeO.ite (LeO.bind (LeO.refl _) fun y1 => LeO.ite (LeO.refl _) ((hfg _))) (LeO.bind (LeO.refl _) fun y9 => (LeO.refl _))
noncomputable def slices_Concat_18.l0_k.go (p : slices_Concat_18.l0_k.Pt) : Option ((List Int)) := fixF (β := fun _ => ((List Int))) slices_Concat_18.l0_k.body p
noncomputable def slices_Concat_18.l0 (a_0 : List (List Int)) (x_3 : Int) (a_9 : List (List Int)) (x_10 : Int) (x_11 : Int) : Option ((List Int)) := slices_Concat_18.l0_k.go (.l0 a_0 x_3 a_9 x_10 x_11)
theorem slices_Concat_18.l0_eq (a_0 : List (List Int)) (x_3 : Int) (a_9 : List (List Int)) (x_10 : Int) (x_11 : Int) : slices_Concat_18.l0 a_0 x_3 a_9 x_10 x_11 = if x_11 < x_10 then (Option.bind (gi a_9 x_11) fun y1 => if (IntKind.wrap .i64 (x_3 + (((List.length y1) : Nat) : Int))) < (0 : Int) then ((none : Option _)) else ((slices_Concat_18.l0 a_0 (IntKind.wrap .i64 (x_3 + (((List.length y1) : Nat) : Int))) a_9 x_10 (IntKind.wrap .i64 (x_11 + (1 : Int)))))) else (Option.bind (slices_Grow_72 x_3) fun y9 => (slices_Concat_18.l1 y9 a_0 (((List.length a_0) : Nat) : Int) (0 : Int))) := fixF_eq slices_Concat_18.l0_k.mono _
def slices_Concat_18.l0_k.I : (p : slices_Concat_18.l0_k.Pt) → ((List Int)) → Prop
  | .l0 a_0 x_3 a_9 x_10 x_11, r => ∀ (W : Nat → Prop) (h0 m0 h m : Heap) (A_0 : Option Addr) (n_0 c_0 : Nat) (A_9 : Option Addr) (n_9 c_9 : Nat) (O : Hold W h0 m0 h m []) (ne_0 : n_0 = List.length a_0) (k_0 : List.length a_0 ≤ c_0) (r_0 : Rd 1 (eRow 1 (eInt .i64)) m A_0 a_0) (ne_9 : n_9 = List.length a_9) (k_9 : List.length a_9 ≤ c_9) (r_9 : Rd 1 (eRow 1 (eInt .i64)) m A_9 a_9), f18.l0 (slices_Concat_18.post W h0 m0 r) A_0 n_0 c_0 x_3 A_9 n_9 c_9 x_10 x_11 h
set_option maxRecDepth 100000 in
theorem slices_Concat_18.l0_k.step_l0 (go : (p : slices_Concat_18.l0_k.Pt) → Option ((List Int))) (ih : ∀ p r, go p = some r → slices_Concat_18.l0_k.I p r) (a_0 : List (List Int)) (x_3 : Int) (a_9 : List (List Int)) (x_10 : Int) (x_11 : Int) (r : (List Int)) (e : slices_Concat_18.l0_k.body go (.l0 a_0 x_3 a_9 x_10 x_11) = some r) : slices_Concat_18.l0_k.I (.l0 a_0 x_3 a_9 x_10 x_11) r := by
  unfold slices_Concat_18.l0_k.body at e
  intro W h0 m0 h m A_0 n_0 c_0 A_9 n_9 c_9 O ne_0 k_0 r_0 ne_9 k_9 r_9
  subst ne_0
  subst ne_9
  refine f18.l0_in ?_
  unfold f18.l0T
  refine split_dec_e e (fun c21 e => ?_) (fun c21 e => ?_)
  · obtain ⟨y1, g2, e⟩ := bind_e e
    refine r_9.addr rfl g2 fun a3 cs4 ha5 hc6 he7 => ?_
    obtain ⟨Acs4_0, ccs4_0, rfl, kcs4_0, rcs4_0⟩ := id he7
    refine ⟨_, ld0 O.s hc6 rfl, _, _, _, rfl, ?_⟩
    refine split_dec_e e (fun c8 e => ?_) (fun c8 e => ?_)
    · cases e
    · exact (ih _ _ e) _ _ _ _ _ _ _ _ _ _ _ (O.pick []).nm rfl k_0 r_0 rfl k_9 r_9
  · obtain ⟨y9, g10, e⟩ := bind_e e
    refine (slices_Grow_72.walk (Hold.start (W := No) O.s)  g10).mono ?_
    rintro _ h11 ⟨m12, A15, n16, c17, Q13, rfl, ne18⟩
    have O20 := Hold.nm (O.retC Q13 (vfs_cons (rR_vf (aE_vf (fun _ _ _ _ h => h))) vfs_nil))
    subst ne18
    refine ⟨_, _, _, rfl, ?_⟩
    exact slices_Concat_18.l1.walk (O20.pick [0]).nm rfl rfl k_0 r_0 e
theorem slices_Concat_18.l0_k.all {p : slices_Concat_18.l0_k.Pt} {r : ((List Int))} (e : slices_Concat_18.l0_k.go p = some r) : slices_Concat_18.l0_k.I p r := fixF_ind (β := fun _ => ((List Int))) slices_Concat_18.l0_k.mono (I := slices_Concat_18.l0_k.I) (fun go ih p r e => match p with
  | .l0 a_0 x_3 a_9 x_10 x_11 => slices_Concat_18.l0_k.step_l0 go ih a_0 x_3 a_9 x_10 x_11 r e
  ) e
theorem slices_Concat_18.l0.walk {W : Nat → Prop} {h0 m0 h m : Heap} {A_0 : Option Addr} {n_0 c_0 : Nat} {A_9 : Option Addr} {n_9 c_9 : Nat} {a_0 : List (List Int)} {x_3 : Int} {a_9 : List (List Int)} {x_10 : Int} {x_11 : Int} (O : Hold W h0 m0 h m []) (ne_0 : n_0 = List.length a_0) (k_0 : List.length a_0 ≤ c_0) (r_0 : Rd 1 (eRow 1 (eInt .i64)) m A_0 a_0) (ne_9 : n_9 = List.length a_9) (k_9 : List.length a_9 ≤ c_9) (r_9 : Rd 1 (eRow 1 (eInt .i64)) m A_9 a_9) {r : (List Int)} (e : slices_Concat_18.l0 a_0 x_3 a_9 x_10 x_11 = some r) : f18.l0 (slices_Concat_18.post W h0 m0 r) A_0 n_0 c_0 x_3 A_9 n_9 c_9 x_10 x_11 h := slices_Concat_18.l0_k.all (p := .l0 a_0 x_3 a_9 x_10 x_11) e W h0 m0 h m A_0 n_0 c_0 A_9 n_9 c_9 O ne_0 k_0 r_0 ne_9 k_9 r_9
noncomputable def slices_Concat_18 (a_0 : List (List Int)) : Option ((List Int)) :=
  (slices_Concat_18.l0 a_0 (0 : Int) a_0 (((List.length a_0) : Nat) : Int) (0 : Int))
set_option maxRecDepth 100000 in
theorem slices_Concat_18.walk {W : Nat → Prop} {h m : Heap} {A_0 : Option Addr} {n_0 c_0 : Nat} {a_0 : List (List Int)} (O : Hold W h m h m []) (ne_0 : n_0 = List.length a_0) (k_0 : List.length a_0 ≤ c_0) (r_0 : Rd 1 (eRow 1 (eInt .i64)) m A_0 a_0) {r : (List Int)} (e : slices_Concat_18 a_0 = some r) : Run Try.prog 18 #[Value.slice A_0 n_0 c_0] h (slices_Concat_18.post W h m r) := by
  unfold slices_Concat_18 at e
  subst ne_0
  refine f18.run ?_
  unfold f18.runT
  exact slices_Concat_18.l0.walk (O.pick []).nm rfl k_0 r_0 rfl k_0 r_0 e
theorem slices_Concat_18.val (ls : List (List Int)) (hl : ls.length ≤ 4611686018427387904) (hs : ls.flatten.length * 8 ≤ 140737488355328) : slices_Concat_18 ls = some ls.flatten := concat_val (B := 8) (by decide) (fun r a n i => slices_Concat_18.l1_eq r a n i) (fun a s b n i => slices_Concat_18.l0_eq a s b n i) (gr := slices_Grow_72) (fun _ => rfl) (fun _ => rfl) ls hl hs
def shrink_without.post (W : Nat → Prop) (h0 m0 : Heap) (r : (List Int)) (v : Value) (h : Heap) : Prop := ∃ m A0 n0 c0, Hold W h0 m0 h m [rR (aE (tell_int .i64)) A0 c0 r] ∧ v = .slice A0 n0 c0 ∧ n0 = List.length r
noncomputable def shrink_without (a_0 : List Int) (x_1 : Int) (x_2 : Int) : Option ((List Int)) :=
  Option.bind (sls a_0 (0 : Int) x_1) fun l1 => Option.bind (sls a_0 x_2 (((List.length a_0) : Nat) : Int)) fun l6 => Option.bind (slices_Concat_18 ([l1, l6] : List (List Int))) fun y16 => some (y16)
set_option maxRecDepth 100000 in
theorem shrink_without.walk {W : Nat → Prop} {h m : Heap} {A_0 : Option Addr} {n_0 c_0 : Nat} {a_0 : List Int} {x_1 : Int} {x_2 : Int} (O : Hold W h m h m []) (ne_0 : n_0 = List.length a_0) (k_0 : List.length a_0 ≤ c_0) (r_0 : Rd 1 (eInt .i64) m A_0 a_0) {r : (List Int)} (e : shrink_without a_0 x_1 x_2 = some r) : Run Try.prog 69 #[Value.slice A_0 n_0 c_0, Value.int .i64 x_1, Value.int .i64 x_2] h (shrink_without.post W h m r) := by
  unfold shrink_without at e
  subst ne_0
  refine f69.run ?_
  unfold f69.runT
  obtain ⟨l1, g2, e⟩ := bind_e e
  have q3 := sls_e g2
  refine ⟨q3.1, q3.2.1, cap_in q3.2.2.1 k_0, ?_⟩
  try rw [q3.2.2.2.1]
  have k4 : List.length l1 ≤ (c_0 - Int.toNat (0 : Int)) := sls_cap g2 k_0
  have r5 := r_0.sls g2 (le_mx q3.2.2.1 k_0)
  obtain ⟨l6, g7, e⟩ := bind_e e
  have q8 := sls_e g7
  refine ⟨q8.1, q8.2.1, cap_in q8.2.2.1 k_0, ?_⟩
  try rw [q8.2.2.2.1]
  have k9 : List.length l6 ≤ (c_0 - Int.toNat x_2) := sls_cap g7 k_0
  have r10 := r_0.sls g7 (le_mx q8.2.2.1 k_0)
  refine O.new fun h11 x12 O13 => ?_
  obtain ⟨y16, g17, e⟩ := bind_e e
  have O15 := O13.rowE (l := ([l1, l6] : List (List Int))) 0 rfl (tell_row (tell_int .i64)) (show CsE _ _ _ _ _ from (CsE.cons (c1 := [(Value.slice (sliceA A_0 (Int.toNat (0 : Int)) c_0 1) (List.length l1) (c_0 - Int.toNat (0 : Int)))]) ⟨_, _, rfl, k4, r5⟩ rfl (CsE.cons (c1 := [(Value.slice (sliceA A_0 (Int.toNat x_2) c_0 1) (List.length l6) (c_0 - Int.toNat x_2))]) ⟨_, _, rfl, k9, r10⟩ rfl CsE.nil))) rfl
  have O22 := O15.nm
  obtain ⟨m23, u24, s29, ⟨⟨r27, k28⟩, _⟩, B25, C26⟩ := O22.lend0 [0]
  replace r27 : Rd 1 (eRow 1 (eInt .i64)) m23 (some ⟨(Array.size h), 0, none⟩) ([l1, l6] : List (List Int)) := r27
  replace k28 : List.length ([l1, l6] : List (List Int)) ≤ 2 := k28
  refine (slices_Concat_18.walk (Hold.start (W := No) s29) rfl k28 r27 g17).mono ?_
  rintro _ h18 ⟨m19, A30, n31, c32, Q20, rfl, ne33⟩
  have O35 := Hold.nm (C26 Q20 (vfs_cons (rR_vf (aE_vf (fun _ _ _ _ h => h))) vfs_nil))
  subst ne33
  refine ⟨_, _, _, rfl, ?_⟩
  cases e
  exact ⟨_, _, _, _, O35.pick [1], rfl, rfl⟩
def shrink_List.post (W : Nat → Prop) (h0 m0 : Heap) (r : (List Int) × Int) (v : Value) (h : Heap) : Prop := ∃ m A0 n0 c0, Hold W h0 m0 h m [rR (aE (tell_int .i64)) A0 c0 r.1] ∧ v = .tuple #[.slice A0 n0 c0, .int .i64 r.2] ∧ n0 = List.length r.1
noncomputable def shrink_List.j0 (a_6 : List Int) : Option ((List Int) × Int) :=
  Option.bind (slices_Clone_16 a_6) fun y1 => some (y1, (0 : Int))
set_option maxRecDepth 100000 in
theorem shrink_List.j0.walk {W : Nat → Prop} {h0 m0 h m : Heap} {A_6 : Option Addr} {n_6 c_6 : Nat} {a_6 : List Int} (O : Hold W h0 m0 h m [rR (aE (tell_int .i64)) A_6 c_6 a_6]) (ne_6 : n_6 = List.length a_6) {r : (List Int) × Int} (e : shrink_List.j0 a_6 = some r) : f9.j0 (shrink_List.post W h0 m0 r) A_6 n_6 c_6 h := by
  unfold shrink_List.j0 at e
  subst ne_6
  refine f9.j0_in ?_
  unfold f9.j0T
  obtain ⟨y1, g2, e⟩ := bind_e e
  obtain ⟨m7, u8, s13, ⟨⟨r11, k12⟩, _⟩, B9, C10⟩ := O.lend0 [0]
  replace r11 : Rd 1 (eInt .i64) m7 A_6 a_6 := r11
  replace k12 : List.length a_6 ≤ c_6 := k12
  refine (slices_Clone_16.walk (Hold.start (W := No) s13) rfl k12 r11 g2).mono ?_
  rintro _ h3 ⟨m4, A14, n15, c16, Q5, rfl, ne17⟩
  have O19 := Hold.nm (C10 Q5 (vfs_cons (rR_vf (aE_vf (fun _ _ _ _ h => h))) vfs_nil))
  subst ne17
  refine ⟨_, _, _, rfl, ?_⟩
  cases e
  exact ⟨_, _, _, _, O19.pick [1], rfl, rfl⟩
inductive shrink_List.l0_k.Pt where
  | l0 (p_1 : (List Int) → Option Bool) (a_6 : List Int) (x_7 : Int)
  | l1 (p_1 : (List Int) → Option Bool) (a_6 : List Int) (x_7 : Int) (b_8 : Bool) (x_9 : Int)
  | j1 (p_1 : (List Int) → Option Bool) (a_6 : List Int) (x_7 : Int) (b_51 : Bool)
noncomputable def shrink_List.l0_k.body (go : (p : shrink_List.l0_k.Pt) → Option ((List Int) × Int)) : (p : shrink_List.l0_k.Pt) → Option ((List Int) × Int)
  | .l0 p_1 a_6 x_7 => if x_7 > (0 : Int) then ((go (.l1 p_1 a_6 x_7 false (0 : Int)))) else ((shrink_List.j0 a_6))
  | .l1 p_1 a_6 x_7 b_8 x_9 => if x_9 < (((List.length a_6) : Nat) : Int) then (Option.bind (shrink_without a_6 x_9 (if (IntKind.wrap .i64 (x_9 + x_7)) < (((List.length a_6) : Nat) : Int) then (IntKind.wrap .i64 (x_9 + x_7)) else (((List.length a_6) : Nat) : Int))) fun y1 => Option.bind (slices_Clone_16 y1) fun y20 => Option.bind (p_1 y20) fun y39 => if y39 = true then ((go (.l1 p_1 y1 x_7 true x_9))) else ((go (.l1 p_1 a_6 x_7 b_8 (if (IntKind.wrap .i64 (x_9 + x_7)) < (((List.length a_6) : Nat) : Int) then (IntKind.wrap .i64 (x_9 + x_7)) else (((List.length a_6) : Nat) : Int)))))) else (if b_8 = true then ((go (.j1 p_1 a_6 x_7 (decide (x_7 > (1 : Int)))))) else ((go (.j1 p_1 a_6 x_7 true))))
  | .j1 p_1 a_6 x_7 b_51 => if b_51 = true then (if x_7 = (1 : Int) then ((shrink_List.j0 a_6)) else ((go (.l0 p_1 a_6 (if (if (((List.length a_6) : Nat) : Int) > (1 : Int) then (((List.length a_6) : Nat) : Int) else (1 : Int)) < (IntKind.wrap .i64 (Int.tdiv x_7 (2 : Int))) then (if (((List.length a_6) : Nat) : Int) > (1 : Int) then (((List.length a_6) : Nat) : Int) else (1 : Int)) else (IntKind.wrap .i64 (Int.tdiv x_7 (2 : Int)))))))) else ((go (.l0 p_1 a_6 x_7)))
theorem shrink_List.l0_k.mono : MonoF (β := fun _ => ((List Int) × Int)) shrink_List.l0_k.body := fun f g hfg p => match p with
  | .l0 p_1 a_6 x_7 => LeO.ite ((hfg _)) ((LeO.refl _))
  | .l1 p_1 a_6 x_7 b_8 x_9 => LeO.ite (LeO.bind (LeO.refl _) fun y1 => LeO.bind (LeO.refl _) fun y20 => LeO.bind (LeO.refl _) fun y39 => LeO.ite ((hfg _)) ((hfg _))) (LeO.ite ((hfg _)) ((hfg _)))
  | .j1 p_1 a_6 x_7 b_51 => LeO.ite (LeO.ite ((LeO.refl _)) ((hfg _))) ((hfg _))
noncomputable def shrink_List.l0_k.go (p : shrink_List.l0_k.Pt) : Option ((List Int) × Int) := fixF (β := fun _ => ((List Int) × Int)) shrink_List.l0_k.body p
noncomputable def shrink_List.l0 (p_1 : (List Int) → Option Bool) (a_6 : List Int) (x_7 : Int) : Option ((List Int) × Int) := shrink_List.l0_k.go (.l0 p_1 a_6 x_7)
noncomputable def shrink_List.l1 (p_1 : (List Int) → Option Bool) (a_6 : List Int) (x_7 : Int) (b_8 : Bool) (x_9 : Int) : Option ((List Int) × Int) := shrink_List.l0_k.go (.l1 p_1 a_6 x_7 b_8 x_9)
noncomputable def shrink_List.j1 (p_1 : (List Int) → Option Bool) (a_6 : List Int) (x_7 : Int) (b_51 : Bool) : Option ((List Int) × Int) := shrink_List.l0_k.go (.j1 p_1 a_6 x_7 b_51)
theorem shrink_List.l0_eq (p_1 : (List Int) → Option Bool) (a_6 : List Int) (x_7 : Int) : shrink_List.l0 p_1 a_6 x_7 = if x_7 > (0 : Int) then ((shrink_List.l1 p_1 a_6 x_7 false (0 : Int))) else ((shrink_List.j0 a_6)) := fixF_eq shrink_List.l0_k.mono _
theorem shrink_List.l1_eq (p_1 : (List Int) → Option Bool) (a_6 : List Int) (x_7 : Int) (b_8 : Bool) (x_9 : Int) : shrink_List.l1 p_1 a_6 x_7 b_8 x_9 = if x_9 < (((List.length a_6) : Nat) : Int) then (Option.bind (shrink_without a_6 x_9 (if (IntKind.wrap .i64 (x_9 + x_7)) < (((List.length a_6) : Nat) : Int) then (IntKind.wrap .i64 (x_9 + x_7)) else (((List.length a_6) : Nat) : Int))) fun y1 => Option.bind (slices_Clone_16 y1) fun y20 => Option.bind (p_1 y20) fun y39 => if y39 = true then ((shrink_List.l1 p_1 y1 x_7 true x_9)) else ((shrink_List.l1 p_1 a_6 x_7 b_8 (if (IntKind.wrap .i64 (x_9 + x_7)) < (((List.length a_6) : Nat) : Int) then (IntKind.wrap .i64 (x_9 + x_7)) else (((List.length a_6) : Nat) : Int))))) else (if b_8 = true then ((shrink_List.j1 p_1 a_6 x_7 (decide (x_7 > (1 : Int))))) else ((shrink_List.j1 p_1 a_6 x_7 true))) := fixF_eq shrink_List.l0_k.mono _
theorem shrink_List.j1_eq (p_1 : (List Int) → Option Bool) (a_6 : List Int) (x_7 : Int) (b_51 : Bool) : shrink_List.j1 p_1 a_6 x_7 b_51 = if b_51 = true then (if x_7 = (1 : Int) then ((shrink_List.j0 a_6)) else ((shrink_List.l0 p_1 a_6 (if (if (((List.length a_6) : Nat) : Int) > (1 : Int) then (((List.length a_6) : Nat) : Int) else (1 : Int)) < (IntKind.wrap .i64 (Int.tdiv x_7 (2 : Int))) then (if (((List.length a_6) : Nat) : Int) > (1 : Int) then (((List.length a_6) : Nat) : Int) else (1 : Int)) else (IntKind.wrap .i64 (Int.tdiv x_7 (2 : Int))))))) else ((shrink_List.l0 p_1 a_6 x_7)) := fixF_eq shrink_List.l0_k.mono _
def shrink_List.l0_k.I : (p : shrink_List.l0_k.Pt) → ((List Int) × Int) → Prop
  | .l0 p_1 a_6 x_7, r => ∀ (W : Nat → Prop) (h0 m0 h m : Heap) (fv_1 : Value) (A_6 : Option Addr) (n_6 c_6 : Nat) (O : Hold W h0 m0 h m [rR (aE (tell_int .i64)) A_6 c_6 a_6]) (f_1 : ∀ h' m', Sub m0 m' → Sub m' h' → ∀ (A0 : Option Addr) (n0 c0 : Nat) (l0 : List Int) (_ : n0 = l0.length) (_ : l0.length ≤ c0) (_ : Rd 1 (eInt .i64) m' A0 l0) (r : Bool), p_1 l0 = some r → CallF Try.prog fv_1 [.slice A0 n0 c0] h' (fun v h'' => v = .bool r ∧ Ext h' h'')) (ne_6 : n_6 = List.length a_6), f9.l0 (shrink_List.post W h0 m0 r) fv_1 A_6 n_6 c_6 x_7 h
  | .l1 p_1 a_6 x_7 b_8 x_9, r => ∀ (W : Nat → Prop) (h0 m0 h m : Heap) (fv_1 : Value) (A_6 : Option Addr) (n_6 c_6 : Nat) (O : Hold W h0 m0 h m [rR (aE (tell_int .i64)) A_6 c_6 a_6]) (f_1 : ∀ h' m', Sub m0 m' → Sub m' h' → ∀ (A0 : Option Addr) (n0 c0 : Nat) (l0 : List Int) (_ : n0 = l0.length) (_ : l0.length ≤ c0) (_ : Rd 1 (eInt .i64) m' A0 l0) (r : Bool), p_1 l0 = some r → CallF Try.prog fv_1 [.slice A0 n0 c0] h' (fun v h'' => v = .bool r ∧ Ext h' h'')) (ne_6 : n_6 = List.length a_6), f9.l1 (shrink_List.post W h0 m0 r) fv_1 A_6 n_6 c_6 x_7 b_8 x_9 h
  | .j1 p_1 a_6 x_7 b_51, r => ∀ (W : Nat → Prop) (h0 m0 h m : Heap) (fv_1 : Value) (A_6 : Option Addr) (n_6 c_6 : Nat) (O : Hold W h0 m0 h m [rR (aE (tell_int .i64)) A_6 c_6 a_6]) (f_1 : ∀ h' m', Sub m0 m' → Sub m' h' → ∀ (A0 : Option Addr) (n0 c0 : Nat) (l0 : List Int) (_ : n0 = l0.length) (_ : l0.length ≤ c0) (_ : Rd 1 (eInt .i64) m' A0 l0) (r : Bool), p_1 l0 = some r → CallF Try.prog fv_1 [.slice A0 n0 c0] h' (fun v h'' => v = .bool r ∧ Ext h' h'')) (ne_6 : n_6 = List.length a_6), f9.j1 (shrink_List.post W h0 m0 r) fv_1 A_6 n_6 c_6 x_7 b_51 h
set_option maxRecDepth 100000 in
theorem shrink_List.l0_k.step_l0 (go : (p : shrink_List.l0_k.Pt) → Option ((List Int) × Int)) (ih : ∀ p r, go p = some r → shrink_List.l0_k.I p r) (p_1 : (List Int) → Option Bool) (a_6 : List Int) (x_7 : Int) (r : (List Int) × Int) (e : shrink_List.l0_k.body go (.l0 p_1 a_6 x_7) = some r) : shrink_List.l0_k.I (.l0 p_1 a_6 x_7) r := by
  unfold shrink_List.l0_k.body at e
  intro W h0 m0 h m fv_1 A_6 n_6 c_6 O f_1 ne_6
  subst ne_6
  refine f9.l0_in ?_
  unfold f9.l0T
  refine split_dec_e e (fun c1 e => ?_) (fun c1 e => ?_)
  · exact (ih _ _ e) _ _ _ _ _ _ _ _ _ (O.pick [0]).nm f_1 rfl
  · exact shrink_List.j0.walk (O.pick [0]).nm rfl e
set_option maxHeartbeats 4000000 in
set_option maxRecDepth 100000 in
theorem shrink_List.l0_k.step_l1 (go : (p : shrink_List.l0_k.Pt) → Option ((List Int) × Int)) (ih : ∀ p r, go p = some r → shrink_List.l0_k.I p r) (p_1 : (List Int) → Option Bool) (a_6 : List Int) (x_7 : Int) (b_8 : Bool) (x_9 : Int) (r : (List Int) × Int) (e : shrink_List.l0_k.body go (.l1 p_1 a_6 x_7 b_8 x_9) = some r) : shrink_List.l0_k.I (.l1 p_1 a_6 x_7 b_8 x_9) r := by
  unfold shrink_List.l0_k.body at e
  intro W h0 m0 h m fv_1 A_6 n_6 c_6 O f_1 ne_6
  subst ne_6
  refine f9.l1_in ?_
  unfold f9.l1T
  refine split_dec_e e (fun c53 e => ?_) (fun c53 e => ?_)
  · obtain ⟨y1, g2, e⟩ := bind_e e
    obtain ⟨m7, u8, s13, ⟨⟨r11, k12⟩, _⟩, B9, C10⟩ := O.lend0 [0]
    replace r11 : Rd 1 (eInt .i64) m7 A_6 a_6 := r11
    replace k12 : List.length a_6 ≤ c_6 := k12
    refine (shrink_without.walk (Hold.start (W := No) s13) rfl k12 r11 g2).mono ?_
    rintro _ h3 ⟨m4, A14, n15, c16, Q5, rfl, ne17⟩
    have O19 := Hold.nm (C10 Q5 (vfs_cons (rR_vf (aE_vf (fun _ _ _ _ h => h))) vfs_nil))
    subst ne17
    refine ⟨_, _, _, rfl, ?_⟩
    obtain ⟨y20, g21, e⟩ := bind_e e
    obtain ⟨m26, u27, s32, ⟨⟨r30, k31⟩, _⟩, B28, C29⟩ := O19.lend0 [1]
    replace r30 : Rd 1 (eInt .i64) m26 A14 y1 := r30
    replace k31 : List.length y1 ≤ c16 := k31
    refine (slices_Clone_16.walk (Hold.start (W := No) s32) rfl k31 r30 g21).mono ?_
    rintro _ h22 ⟨m23, A33, n34, c35, Q24, rfl, ne36⟩
    have O38 := Hold.nm (C29 Q24 (vfs_cons (rR_vf (aE_vf (fun _ _ _ _ h => h))) vfs_nil))
    subst ne36
    refine ⟨_, _, _, rfl, ?_⟩
    obtain ⟨y39, g40, e⟩ := bind_e e
    obtain ⟨m44, u45, s50, ⟨⟨r48, k49⟩, _⟩, B46, C47⟩ := O38.lend0 [2]
    replace r48 : Rd 1 (eInt .i64) m44 A33 y20 := r48
    replace k49 : List.length y20 ≤ c35 := k49
    refine CallF.mono (f_1 _ _ (O.up.trans u45) s50 _ _ _ _ rfl k49 r48 _ g40) ?_
    rintro _ h41 ⟨rfl, x42⟩
    have O43 := O38.ext x42
    refine ⟨_, rfl, ?_⟩
    refine split_any_e e (fun c51 e => ?_) (fun c51 e => ?_)
    · exact (ih _ _ e) _ _ _ _ _ _ _ _ _ (O43.pick [1]).nm f_1 rfl
    · exact (ih _ _ e) _ _ _ _ _ _ _ _ _ (O43.pick [0]).nm f_1 rfl
  · refine split_not ?_
    refine split_any_e e (fun c52 e => ?_) (fun c52 e => ?_)
    · exact (ih _ _ e) _ _ _ _ _ _ _ _ _ (O.pick [0]).nm f_1 rfl
    · exact (ih _ _ e) _ _ _ _ _ _ _ _ _ (O.pick [0]).nm f_1 rfl
set_option maxRecDepth 100000 in
theorem shrink_List.l0_k.step_j1 (go : (p : shrink_List.l0_k.Pt) → Option ((List Int) × Int)) (ih : ∀ p r, go p = some r → shrink_List.l0_k.I p r) (p_1 : (List Int) → Option Bool) (a_6 : List Int) (x_7 : Int) (b_51 : Bool) (r : (List Int) × Int) (e : shrink_List.l0_k.body go (.j1 p_1 a_6 x_7 b_51) = some r) : shrink_List.l0_k.I (.j1 p_1 a_6 x_7 b_51) r := by
  unfold shrink_List.l0_k.body at e
  intro W h0 m0 h m fv_1 A_6 n_6 c_6 O f_1 ne_6
  subst ne_6
  refine f9.j1_in ?_
  unfold f9.j1T
  refine split_any_e e (fun c2 e => ?_) (fun c2 e => ?_)
  · refine split_eq_e e (fun c1 e => ?_) (fun c1 e => ?_)
    · exact shrink_List.j0.walk (O.pick [0]).nm rfl e
    · refine ⟨by decide, ?_⟩
      exact (ih _ _ e) _ _ _ _ _ _ _ _ _ (O.pick [0]).nm f_1 rfl
  · exact (ih _ _ e) _ _ _ _ _ _ _ _ _ (O.pick [0]).nm f_1 rfl
theorem shrink_List.l0_k.all {p : shrink_List.l0_k.Pt} {r : ((List Int) × Int)} (e : shrink_List.l0_k.go p = some r) : shrink_List.l0_k.I p r := fixF_ind (β := fun _ => ((List Int) × Int)) shrink_List.l0_k.mono (I := shrink_List.l0_k.I) (fun go ih p r e => match p with
  | .l0 p_1 a_6 x_7 => shrink_List.l0_k.step_l0 go ih p_1 a_6 x_7 r e
  | .l1 p_1 a_6 x_7 b_8 x_9 => shrink_List.l0_k.step_l1 go ih p_1 a_6 x_7 b_8 x_9 r e
  | .j1 p_1 a_6 x_7 b_51 => shrink_List.l0_k.step_j1 go ih p_1 a_6 x_7 b_51 r e
  ) e
theorem shrink_List.l0.walk {W : Nat → Prop} {h0 m0 h m : Heap} {fv_1 : Value} {A_6 : Option Addr} {n_6 c_6 : Nat} {p_1 : (List Int) → Option Bool} {a_6 : List Int} {x_7 : Int} (O : Hold W h0 m0 h m [rR (aE (tell_int .i64)) A_6 c_6 a_6]) (f_1 : ∀ h' m', Sub m0 m' → Sub m' h' → ∀ (A0 : Option Addr) (n0 c0 : Nat) (l0 : List Int) (_ : n0 = l0.length) (_ : l0.length ≤ c0) (_ : Rd 1 (eInt .i64) m' A0 l0) (r : Bool), p_1 l0 = some r → CallF Try.prog fv_1 [.slice A0 n0 c0] h' (fun v h'' => v = .bool r ∧ Ext h' h'')) (ne_6 : n_6 = List.length a_6) {r : (List Int) × Int} (e : shrink_List.l0 p_1 a_6 x_7 = some r) : f9.l0 (shrink_List.post W h0 m0 r) fv_1 A_6 n_6 c_6 x_7 h := shrink_List.l0_k.all (p := .l0 p_1 a_6 x_7) e W h0 m0 h m fv_1 A_6 n_6 c_6 O f_1 ne_6
noncomputable def shrink_List (a_0 : List Int) (p_1 : (List Int) → Option Bool) : Option ((List Int) × Int) :=
  if (((List.length a_0) : Nat) : Int) > (200 : Int) then (some (([] : List Int), (2 : Int))) else (Option.bind (slices_Clone_16 a_0) fun y4 => Option.bind (slices_Clone_16 y4) fun y16 => Option.bind (p_1 y16) fun y35 => if y35 = true then ((shrink_List.l0 p_1 y4 (((List.length y4) : Nat) : Int))) else (some (([] : List Int), (4 : Int))))
set_option maxHeartbeats 4000000 in
set_option maxRecDepth 100000 in
theorem shrink_List.walk {W : Nat → Prop} {h m : Heap} {A_0 : Option Addr} {n_0 c_0 : Nat} {fv_1 : Value} {a_0 : List Int} {p_1 : (List Int) → Option Bool} (O : Hold W h m h m []) (ne_0 : n_0 = List.length a_0) (k_0 : List.length a_0 ≤ c_0) (r_0 : Rd 1 (eInt .i64) m A_0 a_0) (f_1 : ∀ h' m', Sub m m' → Sub m' h' → ∀ (A0 : Option Addr) (n0 c0 : Nat) (l0 : List Int) (_ : n0 = l0.length) (_ : l0.length ≤ c0) (_ : Rd 1 (eInt .i64) m' A0 l0) (r : Bool), p_1 l0 = some r → CallF Try.prog fv_1 [.slice A0 n0 c0] h' (fun v h'' => v = .bool r ∧ Ext h' h'')) {r : (List Int) × Int} (e : shrink_List a_0 p_1 = some r) : Run Try.prog 9 #[Value.slice A_0 n_0 c_0, fv_1] h (shrink_List.post W h m r) := by
  unfold shrink_List at e
  subst ne_0
  refine f9.run ?_
  unfold f9.runT
  refine split_dec_e e (fun c51 e => ?_) (fun c51 e => ?_)
  · have O1 := O.nil (aE (tell_int .i64)) none
    have O3 := O1.nm
    cases e
    exact ⟨_, _, _, _, O3.pick [0], rfl, rfl⟩
  · obtain ⟨y4, g5, e⟩ := bind_e e
    refine (slices_Clone_16.walk (Hold.start (W := No) O.s) rfl k_0 r_0 g5).mono ?_
    rintro _ h6 ⟨m7, A10, n11, c12, Q8, rfl, ne13⟩
    have O15 := Hold.nm (O.retC Q8 (vfs_cons (rR_vf (aE_vf (fun _ _ _ _ h => h))) vfs_nil))
    subst ne13
    refine ⟨_, _, _, rfl, ?_⟩
    obtain ⟨y16, g17, e⟩ := bind_e e
    obtain ⟨m22, u23, s28, ⟨⟨r26, k27⟩, _⟩, B24, C25⟩ := O15.lend0 [0]
    replace r26 : Rd 1 (eInt .i64) m22 A10 y4 := r26
    replace k27 : List.length y4 ≤ c12 := k27
    refine (slices_Clone_16.walk (Hold.start (W := No) s28) rfl k27 r26 g17).mono ?_
    rintro _ h18 ⟨m19, A29, n30, c31, Q20, rfl, ne32⟩
    have O34 := Hold.nm (C25 Q20 (vfs_cons (rR_vf (aE_vf (fun _ _ _ _ h => h))) vfs_nil))
    subst ne32
    refine ⟨_, _, _, rfl, ?_⟩
    obtain ⟨y35, g36, e⟩ := bind_e e
    obtain ⟨m40, u41, s46, ⟨⟨r44, k45⟩, _⟩, B42, C43⟩ := O34.lend0 [1]
    replace r44 : Rd 1 (eInt .i64) m40 A29 y16 := r44
    replace k45 : List.length y16 ≤ c31 := k45
    refine CallF.mono (f_1 _ _ u41 s46 _ _ _ _ rfl k45 r44 _ g36) ?_
    rintro _ h37 ⟨rfl, x38⟩
    have O39 := O34.ext x38
    refine ⟨_, rfl, ?_⟩
    refine split_not ?_
    refine split_any_e e (fun c50 e => ?_) (fun c50 e => ?_)
    · exact shrink_List.l0.walk (O39.pick [0]).nm f_1 rfl e
    · have O47 := O39.nil (aE (tell_int .i64)) none
      have O49 := O47.nm
      cases e
      exact ⟨_, _, _, _, O49.pick [2], rfl, rfl⟩
def slices_Index_70.post (W : Nat → Prop) (h0 m0 : Heap) (r : Int) (v : Value) (h : Heap) : Prop := ∃ m , Hold W h0 m0 h m [] ∧ v = .int .i64 r
inductive slices_Index_70.l0_k.Pt where
  | l0 (a_0 : List Int) (x_1 : Int) (x_7 : Int) (x_8 : Int)
noncomputable def slices_Index_70.l0_k.body (go : (p : slices_Index_70.l0_k.Pt) → Option (Int)) : (p : slices_Index_70.l0_k.Pt) → Option (Int)
  | .l0 a_0 x_1 x_7 x_8 => if x_8 < x_7 then (Option.bind (gi a_0 x_8) fun y1 => if x_1 = y1 then (some (x_8)) else ((go (.l0 a_0 x_1 x_7 (IntKind.wrap .i64 (x_8 + (1 : Int))))))) else (some ((-1 : Int)))
theorem slices_Index_70.l0_k.mono : MonoF (β := fun _ => (Int)) slices_Index_70.l0_k.body := fun f g hfg p => match p with
  | .l0 a_0 x_1 x_7 x_8 => LeO.ite (LeO.bind (LeO.refl _) fun y1 => LeO.ite (LeO.refl _) ((hfg _))) (LeO.refl _)
noncomputable def slices_Index_70.l0_k.go (p : slices_Index_70.l0_k.Pt) : Option (Int) := fixF (β := fun _ => (Int)) slices_Index_70.l0_k.body p
noncomputable def slices_Index_70.l0 (a_0 : List Int) (x_1 : Int) (x_7 : Int) (x_8 : Int) : Option (Int) := slices_Index_70.l0_k.go (.l0 a_0 x_1 x_7 x_8)
theorem slices_Index_70.l0_eq (a_0 : List Int) (x_1 : Int) (x_7 : Int) (x_8 : Int) : slices_Index_70.l0 a_0 x_1 x_7 x_8 = if x_8 < x_7 then (Option.bind (gi a_0 x_8) fun y1 => if x_1 = y1 then (some (x_8)) else ((slices_Index_70.l0 a_0 x_1 x_7 (IntKind.wrap .i64 (x_8 + (1 : Int)))))) else (some ((-1 : Int))) := fixF_eq slices_Index_70.l0_k.mono _
def slices_Index_70.l0_k.I : (p : slices_Index_70.l0_k.Pt) → (Int) → Prop
  | .l0 a_0 x_1 x_7 x_8, r => ∀ (W : Nat → Prop) (h0 m0 h m : Heap) (A_0 : Option Addr) (n_0 c_0 : Nat) (O : Hold W h0 m0 h m []) (ne_0 : n_0 = List.length a_0) (k_0 : List.length a_0 ≤ c_0) (r_0 : Rd 1 (eInt .i64) m A_0 a_0), f70.l0 (slices_Index_70.post W h0 m0 r) A_0 n_0 c_0 x_1 x_7 x_8 h
set_option maxRecDepth 100000 in
theorem slices_Index_70.l0_k.step_l0 (go : (p : slices_Index_70.l0_k.Pt) → Option (Int)) (ih : ∀ p r, go p = some r → slices_Index_70.l0_k.I p r) (a_0 : List Int) (x_1 : Int) (x_7 : Int) (x_8 : Int) (r : Int) (e : slices_Index_70.l0_k.body go (.l0 a_0 x_1 x_7 x_8) = some r) : slices_Index_70.l0_k.I (.l0 a_0 x_1 x_7 x_8) r := by
  unfold slices_Index_70.l0_k.body at e
  intro W h0 m0 h m A_0 n_0 c_0 O ne_0 k_0 r_0
  subst ne_0
  refine f70.l0_in ?_
  unfold f70.l0T
  refine split_dec_e e (fun c9 e => ?_) (fun c9 e => ?_)
  · obtain ⟨y1, g2, e⟩ := bind_e e
    refine r_0.addr rfl g2 fun a3 cs4 ha5 hc6 he7 => ?_
    obtain rfl : cs4 = [(Value.int .i64 y1)] := he7
    refine ⟨_, ld0 O.s hc6 rfl, _, rfl, ?_⟩
    refine split_eq_e e (fun c8 e => ?_) (fun c8 e => ?_)
    · cases e
      exact ⟨_, O.pick [], rfl⟩
    · exact (ih _ _ e) _ _ _ _ _ _ _ _ (O.pick []).nm rfl k_0 r_0
  · cases e
    exact ⟨_, O.pick [], rfl⟩
theorem slices_Index_70.l0_k.all {p : slices_Index_70.l0_k.Pt} {r : (Int)} (e : slices_Index_70.l0_k.go p = some r) : slices_Index_70.l0_k.I p r := fixF_ind (β := fun _ => (Int)) slices_Index_70.l0_k.mono (I := slices_Index_70.l0_k.I) (fun go ih p r e => match p with
  | .l0 a_0 x_1 x_7 x_8 => slices_Index_70.l0_k.step_l0 go ih a_0 x_1 x_7 x_8 r e
  ) e
theorem slices_Index_70.l0.walk {W : Nat → Prop} {h0 m0 h m : Heap} {A_0 : Option Addr} {n_0 c_0 : Nat} {a_0 : List Int} {x_1 : Int} {x_7 : Int} {x_8 : Int} (O : Hold W h0 m0 h m []) (ne_0 : n_0 = List.length a_0) (k_0 : List.length a_0 ≤ c_0) (r_0 : Rd 1 (eInt .i64) m A_0 a_0) {r : Int} (e : slices_Index_70.l0 a_0 x_1 x_7 x_8 = some r) : f70.l0 (slices_Index_70.post W h0 m0 r) A_0 n_0 c_0 x_1 x_7 x_8 h := slices_Index_70.l0_k.all (p := .l0 a_0 x_1 x_7 x_8) e W h0 m0 h m A_0 n_0 c_0 O ne_0 k_0 r_0
noncomputable def slices_Index_70 (a_0 : List Int) (x_1 : Int) : Option (Int) :=
  (slices_Index_70.l0 a_0 x_1 (((List.length a_0) : Nat) : Int) (0 : Int))
set_option maxRecDepth 100000 in
theorem slices_Index_70.walk {W : Nat → Prop} {h m : Heap} {A_0 : Option Addr} {n_0 c_0 : Nat} {a_0 : List Int} {x_1 : Int} (O : Hold W h m h m []) (ne_0 : n_0 = List.length a_0) (k_0 : List.length a_0 ≤ c_0) (r_0 : Rd 1 (eInt .i64) m A_0 a_0) {r : Int} (e : slices_Index_70 a_0 x_1 = some r) : Run Try.prog 70 #[Value.slice A_0 n_0 c_0, Value.int .i64 x_1] h (slices_Index_70.post W h m r) := by
  unfold slices_Index_70 at e
  subst ne_0
  refine f70.run ?_
  unfold f70.runT
  exact slices_Index_70.l0.walk (O.pick []).nm rfl k_0 r_0 e
def slices_Contains_11.post (W : Nat → Prop) (h0 m0 : Heap) (r : Bool) (v : Value) (h : Heap) : Prop := ∃ m , Hold W h0 m0 h m [] ∧ v = .bool r
noncomputable def slices_Contains_11 (a_0 : List Int) (x_1 : Int) : Option (Bool) :=
  Option.bind (slices_Index_70 a_0 x_1) fun y1 => some ((decide (y1 ≥ (0 : Int))))
set_option maxRecDepth 100000 in
theorem slices_Contains_11.walk {W : Nat → Prop} {h m : Heap} {A_0 : Option Addr} {n_0 c_0 : Nat} {a_0 : List Int} {x_1 : Int} (O : Hold W h m h m []) (ne_0 : n_0 = List.length a_0) (k_0 : List.length a_0 ≤ c_0) (r_0 : Rd 1 (eInt .i64) m A_0 a_0) {r : Bool} (e : slices_Contains_11 a_0 x_1 = some r) : Run Try.prog 11 #[Value.slice A_0 n_0 c_0, Value.int .i64 x_1] h (slices_Contains_11.post W h m r) := by
  unfold slices_Contains_11 at e
  subst ne_0
  refine f11.run ?_
  unfold f11.runT
  obtain ⟨y1, g2, e⟩ := bind_e e
  refine (slices_Index_70.walk (Hold.start (W := No) O.s) rfl k_0 r_0 g2).mono ?_
  rintro _ h3 ⟨m4, Q5, rfl⟩
  have O7 := Hold.nm (O.retC Q5 vfs_nil)
  refine ⟨_, rfl, ?_⟩
  cases e
  exact ⟨_, O7.pick [], rfl⟩
theorem slices_Contains_11.val {l : List Int} (v : Int) (hl : l.length ≤ 4611686018427387904) : slices_Contains_11 l v = some (decide (v ∈ l)) := contains_val (fun a p n i => slices_Index_70.l0_eq a p n i) (fun _ _ => rfl) (fun _ _ => rfl) v hl
def roadlaw4_ShrinkSays_1.post (W : Nat → Prop) (h0 m0 : Heap) (r : Bool) (v : Value) (h : Heap) : Prop := ∃ m , Hold W h0 m0 h m [] ∧ v = .bool r
noncomputable def roadlaw4_ShrinkSays_1 (a_0 : List Int) : Option (Bool) :=
  Option.bind (slices_Contains_11 a_0 (9 : Int)) fun y1 => some (y1)
set_option maxRecDepth 100000 in
theorem roadlaw4_ShrinkSays_1.walk {W : Nat → Prop} {h m : Heap} {A_0 : Option Addr} {n_0 c_0 : Nat} {a_0 : List Int} (O : Hold W h m h m []) (ne_0 : n_0 = List.length a_0) (k_0 : List.length a_0 ≤ c_0) (r_0 : Rd 1 (eInt .i64) m A_0 a_0) {r : Bool} (e : roadlaw4_ShrinkSays_1 a_0 = some r) : Run Try.prog 10 #[Value.slice A_0 n_0 c_0] h (roadlaw4_ShrinkSays_1.post W h m r) := by
  unfold roadlaw4_ShrinkSays_1 at e
  subst ne_0
  refine f10.run ?_
  unfold f10.runT
  obtain ⟨y1, g2, e⟩ := bind_e e
  refine (slices_Contains_11.walk (Hold.start (W := No) O.s) rfl k_0 r_0 g2).mono ?_
  rintro _ h3 ⟨m4, Q5, rfl⟩
  have O7 := Hold.nm (O.retC Q5 vfs_nil)
  refine ⟨_, rfl, ?_⟩
  cases e
  exact ⟨_, O7.pick [], rfl⟩
def slices_Equal_12.post (W : Nat → Prop) (h0 m0 : Heap) (r : Bool) (v : Value) (h : Heap) : Prop := ∃ m , Hold W h0 m0 h m [] ∧ v = .bool r
inductive slices_Equal_12.l0_k.Pt where
  | l0 (a_0 : List Int) (a_1 : List Int) (x_12 : Int) (x_13 : Int)
noncomputable def slices_Equal_12.l0_k.body (go : (p : slices_Equal_12.l0_k.Pt) → Option (Bool)) : (p : slices_Equal_12.l0_k.Pt) → Option (Bool)
  | .l0 a_0 a_1 x_12 x_13 => if x_13 < x_12 then (Option.bind (gi a_0 x_13) fun y1 => Option.bind (gi a_1 x_13) fun y8 => if y1 = y8 then ((go (.l0 a_0 a_1 x_12 (IntKind.wrap .i64 (x_13 + (1 : Int)))))) else (some (false))) else (some (true))
theorem slices_Equal_12.l0_k.mono : MonoF (β := fun _ => (Bool)) slices_Equal_12.l0_k.body := fun f g hfg p => match p with
  | .l0 a_0 a_1 x_12 x_13 => LeO.ite (LeO.bind (LeO.refl _) fun y1 => LeO.bind (LeO.refl _) fun y8 => LeO.ite ((hfg _)) (LeO.refl _)) (LeO.refl _)
noncomputable def slices_Equal_12.l0_k.go (p : slices_Equal_12.l0_k.Pt) : Option (Bool) := fixF (β := fun _ => (Bool)) slices_Equal_12.l0_k.body p
noncomputable def slices_Equal_12.l0 (a_0 : List Int) (a_1 : List Int) (x_12 : Int) (x_13 : Int) : Option (Bool) := slices_Equal_12.l0_k.go (.l0 a_0 a_1 x_12 x_13)
theorem slices_Equal_12.l0_eq (a_0 : List Int) (a_1 : List Int) (x_12 : Int) (x_13 : Int) : slices_Equal_12.l0 a_0 a_1 x_12 x_13 = if x_13 < x_12 then (Option.bind (gi a_0 x_13) fun y1 => Option.bind (gi a_1 x_13) fun y8 => if y1 = y8 then ((slices_Equal_12.l0 a_0 a_1 x_12 (IntKind.wrap .i64 (x_13 + (1 : Int))))) else (some (false))) else (some (true)) := fixF_eq slices_Equal_12.l0_k.mono _
def slices_Equal_12.l0_k.I : (p : slices_Equal_12.l0_k.Pt) → (Bool) → Prop
  | .l0 a_0 a_1 x_12 x_13, r => ∀ (W : Nat → Prop) (h0 m0 h m : Heap) (A_0 : Option Addr) (n_0 c_0 : Nat) (A_1 : Option Addr) (n_1 c_1 : Nat) (O : Hold W h0 m0 h m []) (ne_0 : n_0 = List.length a_0) (k_0 : List.length a_0 ≤ c_0) (r_0 : Rd 1 (eInt .i64) m A_0 a_0) (ne_1 : n_1 = List.length a_1) (k_1 : List.length a_1 ≤ c_1) (r_1 : Rd 1 (eInt .i64) m A_1 a_1), f12.l0 (slices_Equal_12.post W h0 m0 r) A_0 n_0 c_0 A_1 n_1 c_1 x_12 x_13 h
set_option maxRecDepth 100000 in
theorem slices_Equal_12.l0_k.step_l0 (go : (p : slices_Equal_12.l0_k.Pt) → Option (Bool)) (ih : ∀ p r, go p = some r → slices_Equal_12.l0_k.I p r) (a_0 : List Int) (a_1 : List Int) (x_12 : Int) (x_13 : Int) (r : Bool) (e : slices_Equal_12.l0_k.body go (.l0 a_0 a_1 x_12 x_13) = some r) : slices_Equal_12.l0_k.I (.l0 a_0 a_1 x_12 x_13) r := by
  unfold slices_Equal_12.l0_k.body at e
  intro W h0 m0 h m A_0 n_0 c_0 A_1 n_1 c_1 O ne_0 k_0 r_0 ne_1 k_1 r_1
  subst ne_0
  subst ne_1
  refine f12.l0_in ?_
  unfold f12.l0T
  refine split_dec_e e (fun c16 e => ?_) (fun c16 e => ?_)
  · obtain ⟨y1, g2, e⟩ := bind_e e
    refine r_0.addr rfl g2 fun a3 cs4 ha5 hc6 he7 => ?_
    obtain rfl : cs4 = [(Value.int .i64 y1)] := he7
    obtain ⟨y8, g9, e⟩ := bind_e e
    refine r_1.addr rfl g9 fun a10 cs11 ha12 hc13 he14 => ?_
    obtain rfl : cs11 = [(Value.int .i64 y8)] := he14
    refine ⟨_, ld0 O.s hc6 rfl, _, rfl, ?_⟩
    refine ⟨_, ld0 O.s hc13 rfl, _, rfl, ?_⟩
    refine split_ne_e e (fun c15 e => ?_) (fun c15 e => ?_)
    · cases e
      exact ⟨_, O.pick [], rfl⟩
    · exact (ih _ _ e) _ _ _ _ _ _ _ _ _ _ _ (O.pick []).nm rfl k_0 r_0 rfl k_1 r_1
  · cases e
    exact ⟨_, O.pick [], rfl⟩
theorem slices_Equal_12.l0_k.all {p : slices_Equal_12.l0_k.Pt} {r : (Bool)} (e : slices_Equal_12.l0_k.go p = some r) : slices_Equal_12.l0_k.I p r := fixF_ind (β := fun _ => (Bool)) slices_Equal_12.l0_k.mono (I := slices_Equal_12.l0_k.I) (fun go ih p r e => match p with
  | .l0 a_0 a_1 x_12 x_13 => slices_Equal_12.l0_k.step_l0 go ih a_0 a_1 x_12 x_13 r e
  ) e
theorem slices_Equal_12.l0.walk {W : Nat → Prop} {h0 m0 h m : Heap} {A_0 : Option Addr} {n_0 c_0 : Nat} {A_1 : Option Addr} {n_1 c_1 : Nat} {a_0 : List Int} {a_1 : List Int} {x_12 : Int} {x_13 : Int} (O : Hold W h0 m0 h m []) (ne_0 : n_0 = List.length a_0) (k_0 : List.length a_0 ≤ c_0) (r_0 : Rd 1 (eInt .i64) m A_0 a_0) (ne_1 : n_1 = List.length a_1) (k_1 : List.length a_1 ≤ c_1) (r_1 : Rd 1 (eInt .i64) m A_1 a_1) {r : Bool} (e : slices_Equal_12.l0 a_0 a_1 x_12 x_13 = some r) : f12.l0 (slices_Equal_12.post W h0 m0 r) A_0 n_0 c_0 A_1 n_1 c_1 x_12 x_13 h := slices_Equal_12.l0_k.all (p := .l0 a_0 a_1 x_12 x_13) e W h0 m0 h m A_0 n_0 c_0 A_1 n_1 c_1 O ne_0 k_0 r_0 ne_1 k_1 r_1
noncomputable def slices_Equal_12 (a_0 : List Int) (a_1 : List Int) : Option (Bool) :=
  if (((List.length a_0) : Nat) : Int) = (((List.length a_1) : Nat) : Int) then ((slices_Equal_12.l0 a_0 a_1 (((List.length a_0) : Nat) : Int) (0 : Int))) else (some (false))
set_option maxRecDepth 100000 in
theorem slices_Equal_12.walk {W : Nat → Prop} {h m : Heap} {A_0 : Option Addr} {n_0 c_0 : Nat} {A_1 : Option Addr} {n_1 c_1 : Nat} {a_0 : List Int} {a_1 : List Int} (O : Hold W h m h m []) (ne_0 : n_0 = List.length a_0) (k_0 : List.length a_0 ≤ c_0) (r_0 : Rd 1 (eInt .i64) m A_0 a_0) (ne_1 : n_1 = List.length a_1) (k_1 : List.length a_1 ≤ c_1) (r_1 : Rd 1 (eInt .i64) m A_1 a_1) {r : Bool} (e : slices_Equal_12 a_0 a_1 = some r) : Run Try.prog 12 #[Value.slice A_0 n_0 c_0, Value.slice A_1 n_1 c_1] h (slices_Equal_12.post W h m r) := by
  unfold slices_Equal_12 at e
  subst ne_0
  subst ne_1
  refine f12.run ?_
  unfold f12.runT
  refine split_ne_e e (fun c1 e => ?_) (fun c1 e => ?_)
  · cases e
    exact ⟨_, O.pick [], rfl⟩
  · exact slices_Equal_12.l0.walk (O.pick []).nm rfl k_0 r_0 rfl k_1 r_1 e
theorem slices_Equal_12.val (l m : List Int) (hl : l.length ≤ 4611686018427387904) : ∃ b, slices_Equal_12 l m = some b ∧ (b = true ↔ l = m) := equal_val (R := fun x y => x = y) (fun a b n i => slices_Equal_12.l0_eq a b n i) (fun _ _ => rfl) (fun _ _ => Iff.rfl) l m hl
def slices_IndexFunc_71.post (W : Nat → Prop) (h0 m0 : Heap) (r : Int) (v : Value) (h : Heap) : Prop := ∃ m , Hold W h0 m0 h m [] ∧ v = .int .i64 r
inductive slices_IndexFunc_71.l0_k.Pt where
  | l0 (a_0 : List Int) (p_1 : Int → Option Bool) (x_7 : Int) (x_8 : Int)
noncomputable def slices_IndexFunc_71.l0_k.body (go : (p : slices_IndexFunc_71.l0_k.Pt) → Option (Int)) : (p : slices_IndexFunc_71.l0_k.Pt) → Option (Int)
  | .l0 a_0 p_1 x_7 x_8 => if x_8 < x_7 then (Option.bind (gi a_0 x_8) fun y1 => Option.bind (p_1 y1) fun y8 => if y8 = true then (some (x_8)) else ((go (.l0 a_0 p_1 x_7 (IntKind.wrap .i64 (x_8 + (1 : Int))))))) else (some ((-1 : Int)))
theorem slices_IndexFunc_71.l0_k.mono : MonoF (β := fun _ => (Int)) slices_IndexFunc_71.l0_k.body := fun f g hfg p => match p with
  | .l0 a_0 p_1 x_7 x_8 => LeO.ite (LeO.bind (LeO.refl _) fun y1 => LeO.bind (LeO.refl _) fun y8 => LeO.ite (LeO.refl _) ((hfg _))) (LeO.refl _)
noncomputable def slices_IndexFunc_71.l0_k.go (p : slices_IndexFunc_71.l0_k.Pt) : Option (Int) := fixF (β := fun _ => (Int)) slices_IndexFunc_71.l0_k.body p
noncomputable def slices_IndexFunc_71.l0 (a_0 : List Int) (p_1 : Int → Option Bool) (x_7 : Int) (x_8 : Int) : Option (Int) := slices_IndexFunc_71.l0_k.go (.l0 a_0 p_1 x_7 x_8)
theorem slices_IndexFunc_71.l0_eq (a_0 : List Int) (p_1 : Int → Option Bool) (x_7 : Int) (x_8 : Int) : slices_IndexFunc_71.l0 a_0 p_1 x_7 x_8 = if x_8 < x_7 then (Option.bind (gi a_0 x_8) fun y1 => Option.bind (p_1 y1) fun y8 => if y8 = true then (some (x_8)) else ((slices_IndexFunc_71.l0 a_0 p_1 x_7 (IntKind.wrap .i64 (x_8 + (1 : Int)))))) else (some ((-1 : Int))) := fixF_eq slices_IndexFunc_71.l0_k.mono _
def slices_IndexFunc_71.l0_k.I : (p : slices_IndexFunc_71.l0_k.Pt) → (Int) → Prop
  | .l0 a_0 p_1 x_7 x_8, r => ∀ (W : Nat → Prop) (h0 m0 h m : Heap) (A_0 : Option Addr) (n_0 c_0 : Nat) (fv_1 : Value) (O : Hold W h0 m0 h m []) (ne_0 : n_0 = List.length a_0) (k_0 : List.length a_0 ≤ c_0) (r_0 : Rd 1 (eInt .i64) m A_0 a_0) (f_1 : ∀ h' m', Sub m0 m' → Sub m' h' → ∀ (x0 : Int) (r : Bool), p_1 x0 = some r → CallF Try.prog fv_1 [.int .i64 x0] h' (fun v h'' => v = .bool r ∧ Ext h' h'')), f71.l0 (slices_IndexFunc_71.post W h0 m0 r) A_0 n_0 c_0 fv_1 x_7 x_8 h
set_option maxRecDepth 100000 in
theorem slices_IndexFunc_71.l0_k.step_l0 (go : (p : slices_IndexFunc_71.l0_k.Pt) → Option (Int)) (ih : ∀ p r, go p = some r → slices_IndexFunc_71.l0_k.I p r) (a_0 : List Int) (p_1 : Int → Option Bool) (x_7 : Int) (x_8 : Int) (r : Int) (e : slices_IndexFunc_71.l0_k.body go (.l0 a_0 p_1 x_7 x_8) = some r) : slices_IndexFunc_71.l0_k.I (.l0 a_0 p_1 x_7 x_8) r := by
  unfold slices_IndexFunc_71.l0_k.body at e
  intro W h0 m0 h m A_0 n_0 c_0 fv_1 O ne_0 k_0 r_0 f_1
  subst ne_0
  refine f71.l0_in ?_
  unfold f71.l0T
  refine split_dec_e e (fun c14 e => ?_) (fun c14 e => ?_)
  · obtain ⟨y1, g2, e⟩ := bind_e e
    refine r_0.addr rfl g2 fun a3 cs4 ha5 hc6 he7 => ?_
    obtain rfl : cs4 = [(Value.int .i64 y1)] := he7
    refine ⟨_, ld0 O.s hc6 rfl, _, rfl, ?_⟩
    obtain ⟨y8, g9, e⟩ := bind_e e
    refine CallF.mono (f_1 _ _ O.up O.s _ _ g9) ?_
    rintro _ h10 ⟨rfl, x11⟩
    have O12 := O.ext x11
    refine ⟨_, rfl, ?_⟩
    refine split_any_e e (fun c13 e => ?_) (fun c13 e => ?_)
    · cases e
      exact ⟨_, O12.pick [], rfl⟩
    · exact (ih _ _ e) _ _ _ _ _ _ _ _ _ (O12.pick []).nm rfl k_0 r_0 f_1
  · cases e
    exact ⟨_, O.pick [], rfl⟩
theorem slices_IndexFunc_71.l0_k.all {p : slices_IndexFunc_71.l0_k.Pt} {r : (Int)} (e : slices_IndexFunc_71.l0_k.go p = some r) : slices_IndexFunc_71.l0_k.I p r := fixF_ind (β := fun _ => (Int)) slices_IndexFunc_71.l0_k.mono (I := slices_IndexFunc_71.l0_k.I) (fun go ih p r e => match p with
  | .l0 a_0 p_1 x_7 x_8 => slices_IndexFunc_71.l0_k.step_l0 go ih a_0 p_1 x_7 x_8 r e
  ) e
theorem slices_IndexFunc_71.l0.walk {W : Nat → Prop} {h0 m0 h m : Heap} {A_0 : Option Addr} {n_0 c_0 : Nat} {fv_1 : Value} {a_0 : List Int} {p_1 : Int → Option Bool} {x_7 : Int} {x_8 : Int} (O : Hold W h0 m0 h m []) (ne_0 : n_0 = List.length a_0) (k_0 : List.length a_0 ≤ c_0) (r_0 : Rd 1 (eInt .i64) m A_0 a_0) (f_1 : ∀ h' m', Sub m0 m' → Sub m' h' → ∀ (x0 : Int) (r : Bool), p_1 x0 = some r → CallF Try.prog fv_1 [.int .i64 x0] h' (fun v h'' => v = .bool r ∧ Ext h' h'')) {r : Int} (e : slices_IndexFunc_71.l0 a_0 p_1 x_7 x_8 = some r) : f71.l0 (slices_IndexFunc_71.post W h0 m0 r) A_0 n_0 c_0 fv_1 x_7 x_8 h := slices_IndexFunc_71.l0_k.all (p := .l0 a_0 p_1 x_7 x_8) e W h0 m0 h m A_0 n_0 c_0 fv_1 O ne_0 k_0 r_0 f_1
noncomputable def slices_IndexFunc_71 (a_0 : List Int) (p_1 : Int → Option Bool) : Option (Int) :=
  (slices_IndexFunc_71.l0 a_0 p_1 (((List.length a_0) : Nat) : Int) (0 : Int))
set_option maxRecDepth 100000 in
theorem slices_IndexFunc_71.walk {W : Nat → Prop} {h m : Heap} {A_0 : Option Addr} {n_0 c_0 : Nat} {fv_1 : Value} {a_0 : List Int} {p_1 : Int → Option Bool} (O : Hold W h m h m []) (ne_0 : n_0 = List.length a_0) (k_0 : List.length a_0 ≤ c_0) (r_0 : Rd 1 (eInt .i64) m A_0 a_0) (f_1 : ∀ h' m', Sub m m' → Sub m' h' → ∀ (x0 : Int) (r : Bool), p_1 x0 = some r → CallF Try.prog fv_1 [.int .i64 x0] h' (fun v h'' => v = .bool r ∧ Ext h' h'')) {r : Int} (e : slices_IndexFunc_71 a_0 p_1 = some r) : Run Try.prog 71 #[Value.slice A_0 n_0 c_0, fv_1] h (slices_IndexFunc_71.post W h m r) := by
  unfold slices_IndexFunc_71 at e
  subst ne_0
  refine f71.run ?_
  unfold f71.runT
  exact slices_IndexFunc_71.l0.walk (O.pick []).nm rfl k_0 r_0 f_1 e
def slices_ContainsFunc_14.post (W : Nat → Prop) (h0 m0 : Heap) (r : Bool) (v : Value) (h : Heap) : Prop := ∃ m , Hold W h0 m0 h m [] ∧ v = .bool r
noncomputable def slices_ContainsFunc_14 (a_0 : List Int) (p_1 : Int → Option Bool) : Option (Bool) :=
  Option.bind (slices_IndexFunc_71 a_0 p_1) fun y1 => some ((decide (y1 ≥ (0 : Int))))
set_option maxRecDepth 100000 in
theorem slices_ContainsFunc_14.walk {W : Nat → Prop} {h m : Heap} {A_0 : Option Addr} {n_0 c_0 : Nat} {fv_1 : Value} {a_0 : List Int} {p_1 : Int → Option Bool} (O : Hold W h m h m []) (ne_0 : n_0 = List.length a_0) (k_0 : List.length a_0 ≤ c_0) (r_0 : Rd 1 (eInt .i64) m A_0 a_0) (f_1 : ∀ h' m', Sub m m' → Sub m' h' → ∀ (x0 : Int) (r : Bool), p_1 x0 = some r → CallF Try.prog fv_1 [.int .i64 x0] h' (fun v h'' => v = .bool r ∧ Ext h' h'')) {r : Bool} (e : slices_ContainsFunc_14 a_0 p_1 = some r) : Run Try.prog 14 #[Value.slice A_0 n_0 c_0, fv_1] h (slices_ContainsFunc_14.post W h m r) := by
  unfold slices_ContainsFunc_14 at e
  subst ne_0
  refine f14.run ?_
  unfold f14.runT
  obtain ⟨y1, g2, e⟩ := bind_e e
  refine (slices_IndexFunc_71.walk (Hold.start (W := No) O.s) rfl k_0 r_0 f_1 g2).mono ?_
  rintro _ h3 ⟨m4, Q5, rfl⟩
  have O7 := Hold.nm (O.retC Q5 vfs_nil)
  refine ⟨_, rfl, ?_⟩
  cases e
  exact ⟨_, O7.pick [], rfl⟩
theorem slices_ContainsFunc_14.val {l : List Int} {p : Int → Option Bool} (q : Int → Bool) (hp : ∀ x ∈ l, p x = some (q x)) (hl : l.length ≤ 4611686018427387904) : slices_ContainsFunc_14 l p = some (l.any q) := findB_val (fun a p n i => slices_IndexFunc_71.l0_eq a p n i) (fun _ _ => rfl) (fun _ _ => rfl) q hp hl
def roadlaw4_ShrinkSays_2_1.post (W : Nat → Prop) (h0 m0 : Heap) (r : Bool) (v : Value) (h : Heap) : Prop := ∃ m , Hold W h0 m0 h m [] ∧ v = .bool r
noncomputable def roadlaw4_ShrinkSays_2_1 (x_0 : Int) (y_1 : (List Int)) : Option (Bool) :=
  Option.bind (slices_Contains_11 y_1 x_0) fun y1 => some ((!y1))
set_option maxRecDepth 100000 in
theorem roadlaw4_ShrinkSays_2_1.walk {W : Nat → Prop} {h m : Heap} {bk_1 : Nat} {x_0 : Int} {y_1 : (List Int)} (O : Hold W h m h m []) (v_1 : VB (eRow 1 (eInt .i64)) m bk_1 y_1) {r : Bool} (e : roadlaw4_ShrinkSays_2_1 x_0 y_1 = some r) : Run Try.prog 15 #[Value.int .i64 x_0, Value.pointer (some ⟨bk_1, 0, none⟩)] h (roadlaw4_ShrinkSays_2_1.post W h m r) := by
  unfold roadlaw4_ShrinkSays_2_1 at e
  obtain ⟨cs_1, t_1, hb_1, nn_1, e_1⟩ := id v_1
  obtain ⟨Ae_1_0, ce_1_0, rfl, ke_1_0, re_1_0⟩ := id e_1
  refine f15.run ?_
  unfold f15.runT
  refine ⟨_, ld0 O.s (Blk.all' hb_1) rfl, _, _, _, rfl, ?_⟩
  obtain ⟨y1, g2, e⟩ := bind_e e
  refine (slices_Contains_11.walk (Hold.start (W := No) O.s) rfl ke_1_0 re_1_0 g2).mono ?_
  rintro _ h3 ⟨m4, Q5, rfl⟩
  have O7 := Hold.nm (O.retC Q5 vfs_nil)
  refine ⟨_, rfl, ?_⟩
  cases e
  exact ⟨_, O7.pick [], rfl⟩
def roadlaw4_ShrinkSays_2.post (W : Nat → Prop) (h0 m0 : Heap) (r : Bool) (v : Value) (h : Heap) : Prop := ∃ m , Hold W h0 m0 h m [] ∧ v = .bool r
noncomputable def roadlaw4_ShrinkSays_2.j0 (a_3_0 : (List Int)) (b_8 : Bool) : Option (Bool) :=
  some (b_8)
set_option maxRecDepth 100000 in
theorem roadlaw4_ShrinkSays_2.j0.walk {W : Nat → Prop} {h0 m0 h m : Heap} {bk_3 : Nat} {A_3_0_0 : Option Addr} {n_3_0_0 : Nat} {c_3_0_0 : Nat} {a_3_0 : (List Int)} {b_8 : Bool} (O : Hold W h0 m0 h m [rV bk_3 22 [(Value.slice A_3_0_0 n_3_0_0 c_3_0_0)], rR (aE (tell_int .i64)) A_3_0_0 c_3_0_0 a_3_0]) (ne_3_0_0 : n_3_0_0 = List.length a_3_0) {r : Bool} (e : roadlaw4_ShrinkSays_2.j0 a_3_0 b_8 = some r) : f13.j0 (roadlaw4_ShrinkSays_2.post W h0 m0 r) (⟨bk_3, 0, none⟩ : Addr) b_8 h := by
  unfold roadlaw4_ShrinkSays_2.j0 at e
  subst ne_3_0_0
  refine f13.j0_in ?_
  unfold f13.j0T
  refine ⟨_, ld0 (Sub.refl _) (O.all 0 rfl) rfl, _, _, _, rfl, ?_⟩
  refine O.clrA (e := 3) (zv := (Value.int .i64 (0 : Int))) (zp := (0 : Int)) 1 rfl rfl (by kernel_rfl) (by kernel_rfl) (show (eInt .i64) m (0 : Int) [(Value.int .i64 (0 : Int))] from rfl) fun h1 O2 => ?_
  refine ⟨rfl, ?_⟩
  have O3 := O2.nm
  cases e
  exact ⟨_, O3.pick [], rfl⟩
inductive roadlaw4_ShrinkSays_2.l0_k.Pt where
  | l0 (y_1 : Int) (y_2 : (List Int)) (a_3_0 : (List Int)) (x_5 : Int) (x_10 : Int) (x_11 : Int)
noncomputable def roadlaw4_ShrinkSays_2.l0_k.body (go : (p : roadlaw4_ShrinkSays_2.l0_k.Pt) → Option (Bool)) : (p : roadlaw4_ShrinkSays_2.l0_k.Pt) → Option (Bool)
  | .l0 y_1 y_2 a_3_0 x_5 x_10 x_11 => if x_11 < x_10 then (Option.bind (gi a_3_0 x_11) fun y1 => (go (.l0 y_1 y_2 a_3_0 (IntKind.wrap .i64 (x_5 + (if (if (1000 : Int) < y1 then (1000 : Int) else y1) > (0 : Int) then (if (1000 : Int) < y1 then (1000 : Int) else y1) else (0 : Int)))) x_10 (IntKind.wrap .i64 (x_11 + (1 : Int)))))) else (if x_5 ≥ y_1 then (Option.bind (slices_ContainsFunc_14 y_2 (fun z22 => roadlaw4_ShrinkSays_2_1 z22 a_3_0)) fun y8 => (roadlaw4_ShrinkSays_2.j0 a_3_0 (!y8))) else ((roadlaw4_ShrinkSays_2.j0 a_3_0 false)))
theorem roadlaw4_ShrinkSays_2.l0_k.mono : MonoF (β := fun _ => (Bool)) roadlaw4_ShrinkSays_2.l0_k.body := fun f g hfg p => match p with
  | .l0 y_1 y_2 a_3_0 x_5 x_10 x_11 => LeO.ite (LeO.bind (LeO.refl _) fun y1 => (hfg _)) (LeO.ite (LeO.bind (LeO.refl _) fun y8 => (LeO.refl _)) ((LeO.refl _)))
noncomputable def roadlaw4_ShrinkSays_2.l0_k.go (p : roadlaw4_ShrinkSays_2.l0_k.Pt) : Option (Bool) := fixF (β := fun _ => (Bool)) roadlaw4_ShrinkSays_2.l0_k.body p
noncomputable def roadlaw4_ShrinkSays_2.l0 (y_1 : Int) (y_2 : (List Int)) (a_3_0 : (List Int)) (x_5 : Int) (x_10 : Int) (x_11 : Int) : Option (Bool) := roadlaw4_ShrinkSays_2.l0_k.go (.l0 y_1 y_2 a_3_0 x_5 x_10 x_11)
theorem roadlaw4_ShrinkSays_2.l0_eq (y_1 : Int) (y_2 : (List Int)) (a_3_0 : (List Int)) (x_5 : Int) (x_10 : Int) (x_11 : Int) : roadlaw4_ShrinkSays_2.l0 y_1 y_2 a_3_0 x_5 x_10 x_11 = if x_11 < x_10 then (Option.bind (gi a_3_0 x_11) fun y1 => (roadlaw4_ShrinkSays_2.l0 y_1 y_2 a_3_0 (IntKind.wrap .i64 (x_5 + (if (if (1000 : Int) < y1 then (1000 : Int) else y1) > (0 : Int) then (if (1000 : Int) < y1 then (1000 : Int) else y1) else (0 : Int)))) x_10 (IntKind.wrap .i64 (x_11 + (1 : Int))))) else (if x_5 ≥ y_1 then (Option.bind (slices_ContainsFunc_14 y_2 (fun z22 => roadlaw4_ShrinkSays_2_1 z22 a_3_0)) fun y8 => (roadlaw4_ShrinkSays_2.j0 a_3_0 (!y8))) else ((roadlaw4_ShrinkSays_2.j0 a_3_0 false))) := fixF_eq roadlaw4_ShrinkSays_2.l0_k.mono _
def roadlaw4_ShrinkSays_2.l0_k.I : (p : roadlaw4_ShrinkSays_2.l0_k.Pt) → (Bool) → Prop
  | .l0 y_1 y_2 a_3_0 x_5 x_10 x_11, r => ∀ (W : Nat → Prop) (h0 m0 h m : Heap) (bk_1 : Nat) (bk_2 : Nat) (bk_3 : Nat) (A_3_0_0 : Option Addr) (n_3_0_0 : Nat) (c_3_0_0 : Nat) (O : Hold W h0 m0 h m [rV bk_3 22 [(Value.slice A_3_0_0 n_3_0_0 c_3_0_0)], rR (aE (tell_int .i64)) A_3_0_0 c_3_0_0 a_3_0]) (v_1 : VB (eInt .i64) m bk_1 y_1) (v_2 : VB (eRow 1 (eInt .i64)) m bk_2 y_2) (ne_3_0_0 : n_3_0_0 = List.length a_3_0), f13.l0 (roadlaw4_ShrinkSays_2.post W h0 m0 r) (⟨bk_1, 0, none⟩ : Addr) (⟨bk_2, 0, none⟩ : Addr) (⟨bk_3, 0, none⟩ : Addr) x_5 A_3_0_0 n_3_0_0 c_3_0_0 x_10 x_11 h
set_option maxRecDepth 100000 in
theorem roadlaw4_ShrinkSays_2.l0_k.step_l0 (go : (p : roadlaw4_ShrinkSays_2.l0_k.Pt) → Option (Bool)) (ih : ∀ p r, go p = some r → roadlaw4_ShrinkSays_2.l0_k.I p r) (y_1 : Int) (y_2 : (List Int)) (a_3_0 : (List Int)) (x_5 : Int) (x_10 : Int) (x_11 : Int) (r : Bool) (e : roadlaw4_ShrinkSays_2.l0_k.body go (.l0 y_1 y_2 a_3_0 x_5 x_10 x_11) = some r) : roadlaw4_ShrinkSays_2.l0_k.I (.l0 y_1 y_2 a_3_0 x_5 x_10 x_11) r := by
  unfold roadlaw4_ShrinkSays_2.l0_k.body at e
  intro W h0 m0 h m bk_1 bk_2 bk_3 A_3_0_0 n_3_0_0 c_3_0_0 O v_1 v_2 ne_3_0_0
  obtain ⟨cs_1, t_1, hb_1, nn_1, e_1⟩ := id v_1
  obtain rfl : cs_1 = [(Value.int .i64 y_1)] := e_1
  obtain ⟨cs_2, t_2, hb_2, nn_2, e_2⟩ := id v_2
  obtain ⟨Ae_2_0, ce_2_0, rfl, ke_2_0, re_2_0⟩ := id e_2
  subst ne_3_0_0
  refine f13.l0_in ?_
  unfold f13.l0T
  refine split_dec_e e (fun c32 e => ?_) (fun c32 e => ?_)
  · obtain ⟨y1, g2, e⟩ := bind_e e
    refine (O.os 1 rfl).addr rfl g2 fun a3 cs4 ha5 hc6 he7 => ?_
    obtain rfl : cs4 = [(Value.int .i64 y1)] := he7
    refine ⟨_, ld0 (Sub.refl _) hc6 rfl, _, rfl, ?_⟩
    exact (ih _ _ e) _ _ _ _ _ _ _ _ _ _ _ (O.pick [0, 1]).nm v_1 v_2 rfl
  · refine ⟨_, ld0 O.s (Blk.all' hb_1) rfl, _, rfl, ?_⟩
    refine split_dec_e e (fun c31 e => ?_) (fun c31 e => ?_)
    · refine ⟨_, ld0 O.s (Blk.all' hb_2) rfl, _, _, _, rfl, ?_⟩
      obtain ⟨y8, g9, e⟩ := bind_e e
      obtain ⟨m14, u15, s21, ⟨⟨r18, k19⟩, hb20, _⟩, B16, C17⟩ := O.lend0 [1, 0]
      replace r18 : Rd 1 (eInt .i64) m14 A_3_0_0 a_3_0 := r18
      replace k19 : List.length a_3_0 ≤ c_3_0_0 := k19
      refine (slices_ContainsFunc_14.walk (Hold.start (W := No) s21) rfl ke_2_0 (re_2_0.sub (tell_int .i64) u15) (fun h23 m24 u25 s26 x29 r27 e28 => CallF.of [Value.int .i64 x29, Value.pointer (some ⟨bk_3, 0, none⟩)] f15.ok rfl ((roadlaw4_ShrinkSays_2_1.walk (Hold.start (W := No) s26) (VB.sub (show VB (eRow 1 (eInt .i64)) _ _ _ from ⟨_, _, hb20, nn, ⟨_, _, rfl, k19, r18⟩⟩) (tell_row (tell_int .i64)) u25) e28).mono (fun _ _ h => let ⟨_, t, e⟩ := h; ⟨e, t.S.ext⟩))) g9).mono ?_
      rintro _ h10 ⟨m11, Q12, rfl⟩
      have O30 := Hold.nm (C17 Q12 vfs_nil)
      refine ⟨_, rfl, ?_⟩
      exact roadlaw4_ShrinkSays_2.j0.walk (O30.pick [0, 1]).nm rfl e
    · exact roadlaw4_ShrinkSays_2.j0.walk (O.pick [0, 1]).nm rfl e
theorem roadlaw4_ShrinkSays_2.l0_k.all {p : roadlaw4_ShrinkSays_2.l0_k.Pt} {r : (Bool)} (e : roadlaw4_ShrinkSays_2.l0_k.go p = some r) : roadlaw4_ShrinkSays_2.l0_k.I p r := fixF_ind (β := fun _ => (Bool)) roadlaw4_ShrinkSays_2.l0_k.mono (I := roadlaw4_ShrinkSays_2.l0_k.I) (fun go ih p r e => match p with
  | .l0 y_1 y_2 a_3_0 x_5 x_10 x_11 => roadlaw4_ShrinkSays_2.l0_k.step_l0 go ih y_1 y_2 a_3_0 x_5 x_10 x_11 r e
  ) e
theorem roadlaw4_ShrinkSays_2.l0.walk {W : Nat → Prop} {h0 m0 h m : Heap} {bk_1 : Nat} {bk_2 : Nat} {bk_3 : Nat} {A_3_0_0 : Option Addr} {n_3_0_0 : Nat} {c_3_0_0 : Nat} {y_1 : Int} {y_2 : (List Int)} {a_3_0 : (List Int)} {x_5 : Int} {x_10 : Int} {x_11 : Int} (O : Hold W h0 m0 h m [rV bk_3 22 [(Value.slice A_3_0_0 n_3_0_0 c_3_0_0)], rR (aE (tell_int .i64)) A_3_0_0 c_3_0_0 a_3_0]) (v_1 : VB (eInt .i64) m bk_1 y_1) (v_2 : VB (eRow 1 (eInt .i64)) m bk_2 y_2) (ne_3_0_0 : n_3_0_0 = List.length a_3_0) {r : Bool} (e : roadlaw4_ShrinkSays_2.l0 y_1 y_2 a_3_0 x_5 x_10 x_11 = some r) : f13.l0 (roadlaw4_ShrinkSays_2.post W h0 m0 r) (⟨bk_1, 0, none⟩ : Addr) (⟨bk_2, 0, none⟩ : Addr) (⟨bk_3, 0, none⟩ : Addr) x_5 A_3_0_0 n_3_0_0 c_3_0_0 x_10 x_11 h := roadlaw4_ShrinkSays_2.l0_k.all (p := .l0 y_1 y_2 a_3_0 x_5 x_10 x_11) e W h0 m0 h m bk_1 bk_2 bk_3 A_3_0_0 n_3_0_0 c_3_0_0 O v_1 v_2 ne_3_0_0
noncomputable def roadlaw4_ShrinkSays_2 (a_0 : List Int) (y_1 : Int) (y_2 : (List Int)) : Option (Bool) :=
  (roadlaw4_ShrinkSays_2.l0 y_1 y_2 a_0 (0 : Int) (((List.length a_0) : Nat) : Int) (0 : Int))
set_option maxRecDepth 100000 in
theorem roadlaw4_ShrinkSays_2.walk {W : Nat → Prop} {h m : Heap} {A_0 : Option Addr} {n_0 c_0 : Nat} {bk_1 : Nat} {bk_2 : Nat} {a_0 : List Int} {y_1 : Int} {y_2 : (List Int)} (O : Hold W h m h m [rR (aE (tell_int .i64)) A_0 c_0 a_0]) (ne_0 : n_0 = List.length a_0) (v_1 : VB (eInt .i64) m bk_1 y_1) (v_2 : VB (eRow 1 (eInt .i64)) m bk_2 y_2) {r : Bool} (e : roadlaw4_ShrinkSays_2 a_0 y_1 y_2 = some r) : Run Try.prog 13 #[Value.slice A_0 n_0 c_0, Value.pointer (some ⟨bk_1, 0, none⟩), Value.pointer (some ⟨bk_2, 0, none⟩)] h (roadlaw4_ShrinkSays_2.post W h m r) := by
  unfold roadlaw4_ShrinkSays_2 at e
  subst ne_0
  obtain ⟨cs_1, t_1, hb_1, nn_1, e_1⟩ := id v_1
  obtain rfl : cs_1 = [(Value.int .i64 y_1)] := e_1
  obtain ⟨cs_2, t_2, hb_2, nn_2, e_2⟩ := id v_2
  obtain ⟨Ae_2_0, ce_2_0, rfl, ke_2_0, re_2_0⟩ := id e_2
  refine f13.run ?_
  unfold f13.runT
  refine O.new fun h1 x2 O3 => ?_
  refine ⟨_, ld0 (Sub.refl _) (O3.all 1 rfl) rfl, _, _, _, rfl, ?_⟩
  have O5 := O3.nm
  exact roadlaw4_ShrinkSays_2.l0.walk (O5.pick [1, 0]).nm v_1 v_2 rfl e
def roadlaw4_within.post (W : Nat → Prop) (h0 m0 : Heap) (r : Bool) (v : Value) (h : Heap) : Prop := ∃ m , Hold W h0 m0 h m [] ∧ v = .bool r
inductive roadlaw4_within.l0_k.Pt where
  | l0 (a_0 : List Int) (a_7 : List Int) (x_8 : Int) (x_9 : Int)
  | j0 (a_0 : List Int) (a_7 : List Int) (x_8 : Int) (x_9 : Int) (b_22 : Bool)
noncomputable def roadlaw4_within.l0_k.body (go : (p : roadlaw4_within.l0_k.Pt) → Option (Bool)) : (p : roadlaw4_within.l0_k.Pt) → Option (Bool)
  | .l0 a_0 a_7 x_8 x_9 => if x_9 < x_8 then (Option.bind (gi a_7 x_9) fun y1 => if (((List.length a_0) : Nat) : Int) > (0 : Int) then (Option.bind (gi a_0 (0 : Int)) fun y8 => (go (.j0 a_0 a_7 x_8 x_9 (y8 == y1)))) else ((go (.j0 a_0 a_7 x_8 x_9 false)))) else (some (((((List.length a_0) : Nat) : Int) == (0 : Int))))
  | .j0 a_0 a_7 x_8 x_9 b_22 => if b_22 = true then (Option.bind (sls a_0 (1 : Int) (((List.length a_0) : Nat) : Int)) fun l1 => (go (.l0 l1 a_7 x_8 (IntKind.wrap .i64 (x_9 + (1 : Int)))))) else ((go (.l0 a_0 a_7 x_8 (IntKind.wrap .i64 (x_9 + (1 : Int))))))
theorem roadlaw4_within.l0_k.mono : MonoF (β := fun _ => (Bool)) roadlaw4_within.l0_k.body := fun f g hfg p => match p with
  | .l0 a_0 a_7 x_8 x_9 => LeO.ite (LeO.bind (LeO.refl _) fun y1 => LeO.ite (LeO.bind (LeO.refl _) fun y8 => (hfg _)) ((hfg _))) (LeO.refl _)
  | .j0 a_0 a_7 x_8 x_9 b_22 => LeO.ite (LeO.bind (LeO.refl _) fun l1 => (hfg _)) ((hfg _))
noncomputable def roadlaw4_within.l0_k.go (p : roadlaw4_within.l0_k.Pt) : Option (Bool) := fixF (β := fun _ => (Bool)) roadlaw4_within.l0_k.body p
noncomputable def roadlaw4_within.l0 (a_0 : List Int) (a_7 : List Int) (x_8 : Int) (x_9 : Int) : Option (Bool) := roadlaw4_within.l0_k.go (.l0 a_0 a_7 x_8 x_9)
noncomputable def roadlaw4_within.j0 (a_0 : List Int) (a_7 : List Int) (x_8 : Int) (x_9 : Int) (b_22 : Bool) : Option (Bool) := roadlaw4_within.l0_k.go (.j0 a_0 a_7 x_8 x_9 b_22)
theorem roadlaw4_within.l0_eq (a_0 : List Int) (a_7 : List Int) (x_8 : Int) (x_9 : Int) : roadlaw4_within.l0 a_0 a_7 x_8 x_9 = if x_9 < x_8 then (Option.bind (gi a_7 x_9) fun y1 => if (((List.length a_0) : Nat) : Int) > (0 : Int) then (Option.bind (gi a_0 (0 : Int)) fun y8 => (roadlaw4_within.j0 a_0 a_7 x_8 x_9 (y8 == y1))) else ((roadlaw4_within.j0 a_0 a_7 x_8 x_9 false))) else (some (((((List.length a_0) : Nat) : Int) == (0 : Int)))) := fixF_eq roadlaw4_within.l0_k.mono _
theorem roadlaw4_within.j0_eq (a_0 : List Int) (a_7 : List Int) (x_8 : Int) (x_9 : Int) (b_22 : Bool) : roadlaw4_within.j0 a_0 a_7 x_8 x_9 b_22 = if b_22 = true then (Option.bind (sls a_0 (1 : Int) (((List.length a_0) : Nat) : Int)) fun l1 => (roadlaw4_within.l0 l1 a_7 x_8 (IntKind.wrap .i64 (x_9 + (1 : Int))))) else ((roadlaw4_within.l0 a_0 a_7 x_8 (IntKind.wrap .i64 (x_9 + (1 : Int))))) := fixF_eq roadlaw4_within.l0_k.mono _
def roadlaw4_within.l0_k.I : (p : roadlaw4_within.l0_k.Pt) → (Bool) → Prop
  | .l0 a_0 a_7 x_8 x_9, r => ∀ (W : Nat → Prop) (h0 m0 h m : Heap) (A_0 : Option Addr) (n_0 c_0 : Nat) (A_7 : Option Addr) (n_7 c_7 : Nat) (O : Hold W h0 m0 h m []) (ne_0 : n_0 = List.length a_0) (k_0 : List.length a_0 ≤ c_0) (r_0 : Rd 1 (eInt .i64) m A_0 a_0) (ne_7 : n_7 = List.length a_7) (k_7 : List.length a_7 ≤ c_7) (r_7 : Rd 1 (eInt .i64) m A_7 a_7), f17.l0 (roadlaw4_within.post W h0 m0 r) A_0 n_0 c_0 A_7 n_7 c_7 x_8 x_9 h
  | .j0 a_0 a_7 x_8 x_9 b_22, r => ∀ (W : Nat → Prop) (h0 m0 h m : Heap) (A_0 : Option Addr) (n_0 c_0 : Nat) (A_7 : Option Addr) (n_7 c_7 : Nat) (O : Hold W h0 m0 h m []) (ne_0 : n_0 = List.length a_0) (k_0 : List.length a_0 ≤ c_0) (r_0 : Rd 1 (eInt .i64) m A_0 a_0) (ne_7 : n_7 = List.length a_7) (k_7 : List.length a_7 ≤ c_7) (r_7 : Rd 1 (eInt .i64) m A_7 a_7), f17.j0 (roadlaw4_within.post W h0 m0 r) A_0 n_0 c_0 A_7 n_7 c_7 x_8 x_9 b_22 h
set_option maxRecDepth 100000 in
theorem roadlaw4_within.l0_k.step_l0 (go : (p : roadlaw4_within.l0_k.Pt) → Option (Bool)) (ih : ∀ p r, go p = some r → roadlaw4_within.l0_k.I p r) (a_0 : List Int) (a_7 : List Int) (x_8 : Int) (x_9 : Int) (r : Bool) (e : roadlaw4_within.l0_k.body go (.l0 a_0 a_7 x_8 x_9) = some r) : roadlaw4_within.l0_k.I (.l0 a_0 a_7 x_8 x_9) r := by
  unfold roadlaw4_within.l0_k.body at e
  intro W h0 m0 h m A_0 n_0 c_0 A_7 n_7 c_7 O ne_0 k_0 r_0 ne_7 k_7 r_7
  subst ne_0
  subst ne_7
  refine f17.l0_in ?_
  unfold f17.l0T
  refine split_dec_e e (fun c16 e => ?_) (fun c16 e => ?_)
  · obtain ⟨y1, g2, e⟩ := bind_e e
    refine r_7.addr rfl g2 fun a3 cs4 ha5 hc6 he7 => ?_
    obtain rfl : cs4 = [(Value.int .i64 y1)] := he7
    refine ⟨_, ld0 O.s hc6 rfl, _, rfl, ?_⟩
    refine split_dec_e e (fun c15 e => ?_) (fun c15 e => ?_)
    · obtain ⟨y8, g9, e⟩ := bind_e e
      refine r_0.addr rfl g9 fun a10 cs11 ha12 hc13 he14 => ?_
      obtain rfl : cs11 = [(Value.int .i64 y8)] := he14
      refine ⟨_, ld0 O.s hc13 rfl, _, rfl, ?_⟩
      exact (ih _ _ e) _ _ _ _ _ _ _ _ _ _ _ (O.pick []).nm rfl k_0 r_0 rfl k_7 r_7
    · exact (ih _ _ e) _ _ _ _ _ _ _ _ _ _ _ (O.pick []).nm rfl k_0 r_0 rfl k_7 r_7
  · cases e
    exact ⟨_, O.pick [], rfl⟩
set_option maxRecDepth 100000 in
theorem roadlaw4_within.l0_k.step_j0 (go : (p : roadlaw4_within.l0_k.Pt) → Option (Bool)) (ih : ∀ p r, go p = some r → roadlaw4_within.l0_k.I p r) (a_0 : List Int) (a_7 : List Int) (x_8 : Int) (x_9 : Int) (b_22 : Bool) (r : Bool) (e : roadlaw4_within.l0_k.body go (.j0 a_0 a_7 x_8 x_9 b_22) = some r) : roadlaw4_within.l0_k.I (.j0 a_0 a_7 x_8 x_9 b_22) r := by
  unfold roadlaw4_within.l0_k.body at e
  intro W h0 m0 h m A_0 n_0 c_0 A_7 n_7 c_7 O ne_0 k_0 r_0 ne_7 k_7 r_7
  subst ne_0
  subst ne_7
  refine f17.j0_in ?_
  unfold f17.j0T
  refine split_any_e e (fun c6 e => ?_) (fun c6 e => ?_)
  · obtain ⟨l1, g2, e⟩ := bind_e e
    have q3 := sls_e g2
    refine ⟨q3.1, q3.2.1, cap_in q3.2.2.1 k_0, ?_⟩
    try rw [q3.2.2.2.1]
    have k4 : List.length l1 ≤ (c_0 - Int.toNat (1 : Int)) := sls_cap g2 k_0
    have r5 := r_0.sls g2 (le_mx q3.2.2.1 k_0)
    exact (ih _ _ e) _ _ _ _ _ _ _ _ _ _ _ (O.pick []).nm rfl k4 r5 rfl k_7 r_7
  · exact (ih _ _ e) _ _ _ _ _ _ _ _ _ _ _ (O.pick []).nm rfl k_0 r_0 rfl k_7 r_7
theorem roadlaw4_within.l0_k.all {p : roadlaw4_within.l0_k.Pt} {r : (Bool)} (e : roadlaw4_within.l0_k.go p = some r) : roadlaw4_within.l0_k.I p r := fixF_ind (β := fun _ => (Bool)) roadlaw4_within.l0_k.mono (I := roadlaw4_within.l0_k.I) (fun go ih p r e => match p with
  | .l0 a_0 a_7 x_8 x_9 => roadlaw4_within.l0_k.step_l0 go ih a_0 a_7 x_8 x_9 r e
  | .j0 a_0 a_7 x_8 x_9 b_22 => roadlaw4_within.l0_k.step_j0 go ih a_0 a_7 x_8 x_9 b_22 r e
  ) e
theorem roadlaw4_within.l0.walk {W : Nat → Prop} {h0 m0 h m : Heap} {A_0 : Option Addr} {n_0 c_0 : Nat} {A_7 : Option Addr} {n_7 c_7 : Nat} {a_0 : List Int} {a_7 : List Int} {x_8 : Int} {x_9 : Int} (O : Hold W h0 m0 h m []) (ne_0 : n_0 = List.length a_0) (k_0 : List.length a_0 ≤ c_0) (r_0 : Rd 1 (eInt .i64) m A_0 a_0) (ne_7 : n_7 = List.length a_7) (k_7 : List.length a_7 ≤ c_7) (r_7 : Rd 1 (eInt .i64) m A_7 a_7) {r : Bool} (e : roadlaw4_within.l0 a_0 a_7 x_8 x_9 = some r) : f17.l0 (roadlaw4_within.post W h0 m0 r) A_0 n_0 c_0 A_7 n_7 c_7 x_8 x_9 h := roadlaw4_within.l0_k.all (p := .l0 a_0 a_7 x_8 x_9) e W h0 m0 h m A_0 n_0 c_0 A_7 n_7 c_7 O ne_0 k_0 r_0 ne_7 k_7 r_7
noncomputable def roadlaw4_within (a_0 : List Int) (a_1 : List Int) : Option (Bool) :=
  (roadlaw4_within.l0 a_0 a_1 (((List.length a_1) : Nat) : Int) (0 : Int))
set_option maxRecDepth 100000 in
theorem roadlaw4_within.walk {W : Nat → Prop} {h m : Heap} {A_0 : Option Addr} {n_0 c_0 : Nat} {A_1 : Option Addr} {n_1 c_1 : Nat} {a_0 : List Int} {a_1 : List Int} (O : Hold W h m h m []) (ne_0 : n_0 = List.length a_0) (k_0 : List.length a_0 ≤ c_0) (r_0 : Rd 1 (eInt .i64) m A_0 a_0) (ne_1 : n_1 = List.length a_1) (k_1 : List.length a_1 ≤ c_1) (r_1 : Rd 1 (eInt .i64) m A_1 a_1) {r : Bool} (e : roadlaw4_within a_0 a_1 = some r) : Run Try.prog 17 #[Value.slice A_0 n_0 c_0, Value.slice A_1 n_1 c_1] h (roadlaw4_within.post W h m r) := by
  unfold roadlaw4_within at e
  subst ne_0
  subst ne_1
  refine f17.run ?_
  unfold f17.runT
  exact roadlaw4_within.l0.walk (O.pick []).nm rfl k_0 r_0 rfl k_1 r_1 e
def shrink_List_s1.post (W : Nat → Prop) (h0 m0 : Heap) (r : (List Int) × Int) (v : Value) (h : Heap) : Prop := ∃ m A0 n0 c0, Hold W h0 m0 h m [rR (aE (tell_int .i64)) A0 c0 r.1] ∧ v = .tuple #[.slice A0 n0 c0, .int .i64 r.2] ∧ n0 = List.length r.1
noncomputable def shrink_List_s1.j0 (a_6 : List Int) : Option ((List Int) × Int) :=
  Option.bind (slices_Clone_16 a_6) fun y1 => some (y1, (0 : Int))
set_option maxRecDepth 100000 in
theorem shrink_List_s1.j0.walk {W : Nat → Prop} {h0 m0 h m : Heap} {A_6 : Option Addr} {n_6 c_6 : Nat} {a_6 : List Int} (O : Hold W h0 m0 h m [rR (aE (tell_int .i64)) A_6 c_6 a_6]) (ne_6 : n_6 = List.length a_6) {r : (List Int) × Int} (e : shrink_List_s1.j0 a_6 = some r) : f9.j0 (shrink_List_s1.post W h0 m0 r) A_6 n_6 c_6 h := by
  unfold shrink_List_s1.j0 at e
  subst ne_6
  refine f9.j0_in ?_
  unfold f9.j0T
  obtain ⟨y1, g2, e⟩ := bind_e e
  obtain ⟨m7, u8, s13, ⟨⟨r11, k12⟩, _⟩, B9, C10⟩ := O.lend0 [0]
  replace r11 : Rd 1 (eInt .i64) m7 A_6 a_6 := r11
  replace k12 : List.length a_6 ≤ c_6 := k12
  refine (slices_Clone_16.walk (Hold.start (W := No) s13) rfl k12 r11 g2).mono ?_
  rintro _ h3 ⟨m4, A14, n15, c16, Q5, rfl, ne17⟩
  have O19 := Hold.nm (C10 Q5 (vfs_cons (rR_vf (aE_vf (fun _ _ _ _ h => h))) vfs_nil))
  subst ne17
  refine ⟨_, _, _, rfl, ?_⟩
  cases e
  exact ⟨_, _, _, _, O19.pick [1], rfl, rfl⟩
inductive shrink_List_s1.l0_k.Pt where
  | l0 (y_1_0 : Int) (y_1_1 : (List Int)) (a_6 : List Int) (x_7 : Int)
  | l1 (y_1_0 : Int) (y_1_1 : (List Int)) (a_6 : List Int) (x_7 : Int) (b_8 : Bool) (x_9 : Int)
  | j1 (y_1_0 : Int) (y_1_1 : (List Int)) (a_6 : List Int) (x_7 : Int) (b_51 : Bool)
noncomputable def shrink_List_s1.l0_k.body (go : (p : shrink_List_s1.l0_k.Pt) → Option ((List Int) × Int)) : (p : shrink_List_s1.l0_k.Pt) → Option ((List Int) × Int)
  | .l0 y_1_0 y_1_1 a_6 x_7 => if x_7 > (0 : Int) then ((go (.l1 y_1_0 y_1_1 a_6 x_7 false (0 : Int)))) else ((shrink_List_s1.j0 a_6))
  | .l1 y_1_0 y_1_1 a_6 x_7 b_8 x_9 => if x_9 < (((List.length a_6) : Nat) : Int) then (Option.bind (shrink_without a_6 x_9 (if (IntKind.wrap .i64 (x_9 + x_7)) < (((List.length a_6) : Nat) : Int) then (IntKind.wrap .i64 (x_9 + x_7)) else (((List.length a_6) : Nat) : Int))) fun y1 => Option.bind (slices_Clone_16 y1) fun y20 => Option.bind (roadlaw4_ShrinkSays_2 y20 y_1_0 y_1_1) fun y39 => if y39 = true then ((go (.l1 y_1_0 y_1_1 y1 x_7 true x_9))) else ((go (.l1 y_1_0 y_1_1 a_6 x_7 b_8 (if (IntKind.wrap .i64 (x_9 + x_7)) < (((List.length a_6) : Nat) : Int) then (IntKind.wrap .i64 (x_9 + x_7)) else (((List.length a_6) : Nat) : Int)))))) else (if b_8 = true then ((go (.j1 y_1_0 y_1_1 a_6 x_7 (decide (x_7 > (1 : Int)))))) else ((go (.j1 y_1_0 y_1_1 a_6 x_7 true))))
  | .j1 y_1_0 y_1_1 a_6 x_7 b_51 => if b_51 = true then (if x_7 = (1 : Int) then ((shrink_List_s1.j0 a_6)) else ((go (.l0 y_1_0 y_1_1 a_6 (if (if (((List.length a_6) : Nat) : Int) > (1 : Int) then (((List.length a_6) : Nat) : Int) else (1 : Int)) < (IntKind.wrap .i64 (Int.tdiv x_7 (2 : Int))) then (if (((List.length a_6) : Nat) : Int) > (1 : Int) then (((List.length a_6) : Nat) : Int) else (1 : Int)) else (IntKind.wrap .i64 (Int.tdiv x_7 (2 : Int)))))))) else ((go (.l0 y_1_0 y_1_1 a_6 x_7)))
theorem shrink_List_s1.l0_k.mono : MonoF (β := fun _ => ((List Int) × Int)) shrink_List_s1.l0_k.body := fun f g hfg p => match p with
  | .l0 y_1_0 y_1_1 a_6 x_7 => LeO.ite ((hfg _)) ((LeO.refl _))
  | .l1 y_1_0 y_1_1 a_6 x_7 b_8 x_9 => LeO.ite (LeO.bind (LeO.refl _) fun y1 => LeO.bind (LeO.refl _) fun y20 => LeO.bind (LeO.refl _) fun y39 => LeO.ite ((hfg _)) ((hfg _))) (LeO.ite ((hfg _)) ((hfg _)))
  | .j1 y_1_0 y_1_1 a_6 x_7 b_51 => LeO.ite (LeO.ite ((LeO.refl _)) ((hfg _))) ((hfg _))
noncomputable def shrink_List_s1.l0_k.go (p : shrink_List_s1.l0_k.Pt) : Option ((List Int) × Int) := fixF (β := fun _ => ((List Int) × Int)) shrink_List_s1.l0_k.body p
noncomputable def shrink_List_s1.l0 (y_1_0 : Int) (y_1_1 : (List Int)) (a_6 : List Int) (x_7 : Int) : Option ((List Int) × Int) := shrink_List_s1.l0_k.go (.l0 y_1_0 y_1_1 a_6 x_7)
noncomputable def shrink_List_s1.l1 (y_1_0 : Int) (y_1_1 : (List Int)) (a_6 : List Int) (x_7 : Int) (b_8 : Bool) (x_9 : Int) : Option ((List Int) × Int) := shrink_List_s1.l0_k.go (.l1 y_1_0 y_1_1 a_6 x_7 b_8 x_9)
noncomputable def shrink_List_s1.j1 (y_1_0 : Int) (y_1_1 : (List Int)) (a_6 : List Int) (x_7 : Int) (b_51 : Bool) : Option ((List Int) × Int) := shrink_List_s1.l0_k.go (.j1 y_1_0 y_1_1 a_6 x_7 b_51)
theorem shrink_List_s1.l0_eq (y_1_0 : Int) (y_1_1 : (List Int)) (a_6 : List Int) (x_7 : Int) : shrink_List_s1.l0 y_1_0 y_1_1 a_6 x_7 = if x_7 > (0 : Int) then ((shrink_List_s1.l1 y_1_0 y_1_1 a_6 x_7 false (0 : Int))) else ((shrink_List_s1.j0 a_6)) := fixF_eq shrink_List_s1.l0_k.mono _
theorem shrink_List_s1.l1_eq (y_1_0 : Int) (y_1_1 : (List Int)) (a_6 : List Int) (x_7 : Int) (b_8 : Bool) (x_9 : Int) : shrink_List_s1.l1 y_1_0 y_1_1 a_6 x_7 b_8 x_9 = if x_9 < (((List.length a_6) : Nat) : Int) then (Option.bind (shrink_without a_6 x_9 (if (IntKind.wrap .i64 (x_9 + x_7)) < (((List.length a_6) : Nat) : Int) then (IntKind.wrap .i64 (x_9 + x_7)) else (((List.length a_6) : Nat) : Int))) fun y1 => Option.bind (slices_Clone_16 y1) fun y20 => Option.bind (roadlaw4_ShrinkSays_2 y20 y_1_0 y_1_1) fun y39 => if y39 = true then ((shrink_List_s1.l1 y_1_0 y_1_1 y1 x_7 true x_9)) else ((shrink_List_s1.l1 y_1_0 y_1_1 a_6 x_7 b_8 (if (IntKind.wrap .i64 (x_9 + x_7)) < (((List.length a_6) : Nat) : Int) then (IntKind.wrap .i64 (x_9 + x_7)) else (((List.length a_6) : Nat) : Int))))) else (if b_8 = true then ((shrink_List_s1.j1 y_1_0 y_1_1 a_6 x_7 (decide (x_7 > (1 : Int))))) else ((shrink_List_s1.j1 y_1_0 y_1_1 a_6 x_7 true))) := fixF_eq shrink_List_s1.l0_k.mono _
theorem shrink_List_s1.j1_eq (y_1_0 : Int) (y_1_1 : (List Int)) (a_6 : List Int) (x_7 : Int) (b_51 : Bool) : shrink_List_s1.j1 y_1_0 y_1_1 a_6 x_7 b_51 = if b_51 = true then (if x_7 = (1 : Int) then ((shrink_List_s1.j0 a_6)) else ((shrink_List_s1.l0 y_1_0 y_1_1 a_6 (if (if (((List.length a_6) : Nat) : Int) > (1 : Int) then (((List.length a_6) : Nat) : Int) else (1 : Int)) < (IntKind.wrap .i64 (Int.tdiv x_7 (2 : Int))) then (if (((List.length a_6) : Nat) : Int) > (1 : Int) then (((List.length a_6) : Nat) : Int) else (1 : Int)) else (IntKind.wrap .i64 (Int.tdiv x_7 (2 : Int))))))) else ((shrink_List_s1.l0 y_1_0 y_1_1 a_6 x_7)) := fixF_eq shrink_List_s1.l0_k.mono _
def shrink_List_s1.l0_k.I : (p : shrink_List_s1.l0_k.Pt) → ((List Int) × Int) → Prop
  | .l0 y_1_0 y_1_1 a_6 x_7, r => ∀ (W : Nat → Prop) (h0 m0 h m : Heap) (bk_1_0 : Nat) (bk_1_1 : Nat) (A_6 : Option Addr) (n_6 c_6 : Nat) (O : Hold W h0 m0 h m [rR (aE (tell_int .i64)) A_6 c_6 a_6]) (v_1_0 : VB (eInt .i64) m bk_1_0 y_1_0) (v_1_1 : VB (eRow 1 (eInt .i64)) m bk_1_1 y_1_1) (ne_6 : n_6 = List.length a_6), f9.l0 (shrink_List_s1.post W h0 m0 r) (Value.func (.func 13) #[] #[(Value.pointer (some ⟨bk_1_0, 0, none⟩)), (Value.pointer (some ⟨bk_1_1, 0, none⟩))]) A_6 n_6 c_6 x_7 h
  | .l1 y_1_0 y_1_1 a_6 x_7 b_8 x_9, r => ∀ (W : Nat → Prop) (h0 m0 h m : Heap) (bk_1_0 : Nat) (bk_1_1 : Nat) (A_6 : Option Addr) (n_6 c_6 : Nat) (O : Hold W h0 m0 h m [rR (aE (tell_int .i64)) A_6 c_6 a_6]) (v_1_0 : VB (eInt .i64) m bk_1_0 y_1_0) (v_1_1 : VB (eRow 1 (eInt .i64)) m bk_1_1 y_1_1) (ne_6 : n_6 = List.length a_6), f9.l1 (shrink_List_s1.post W h0 m0 r) (Value.func (.func 13) #[] #[(Value.pointer (some ⟨bk_1_0, 0, none⟩)), (Value.pointer (some ⟨bk_1_1, 0, none⟩))]) A_6 n_6 c_6 x_7 b_8 x_9 h
  | .j1 y_1_0 y_1_1 a_6 x_7 b_51, r => ∀ (W : Nat → Prop) (h0 m0 h m : Heap) (bk_1_0 : Nat) (bk_1_1 : Nat) (A_6 : Option Addr) (n_6 c_6 : Nat) (O : Hold W h0 m0 h m [rR (aE (tell_int .i64)) A_6 c_6 a_6]) (v_1_0 : VB (eInt .i64) m bk_1_0 y_1_0) (v_1_1 : VB (eRow 1 (eInt .i64)) m bk_1_1 y_1_1) (ne_6 : n_6 = List.length a_6), f9.j1 (shrink_List_s1.post W h0 m0 r) (Value.func (.func 13) #[] #[(Value.pointer (some ⟨bk_1_0, 0, none⟩)), (Value.pointer (some ⟨bk_1_1, 0, none⟩))]) A_6 n_6 c_6 x_7 b_51 h
set_option maxRecDepth 100000 in
theorem shrink_List_s1.l0_k.step_l0 (go : (p : shrink_List_s1.l0_k.Pt) → Option ((List Int) × Int)) (ih : ∀ p r, go p = some r → shrink_List_s1.l0_k.I p r) (y_1_0 : Int) (y_1_1 : (List Int)) (a_6 : List Int) (x_7 : Int) (r : (List Int) × Int) (e : shrink_List_s1.l0_k.body go (.l0 y_1_0 y_1_1 a_6 x_7) = some r) : shrink_List_s1.l0_k.I (.l0 y_1_0 y_1_1 a_6 x_7) r := by
  unfold shrink_List_s1.l0_k.body at e
  intro W h0 m0 h m bk_1_0 bk_1_1 A_6 n_6 c_6 O v_1_0 v_1_1 ne_6
  obtain ⟨cs_1_0, t_1_0, hb_1_0, nn_1_0, e_1_0⟩ := id v_1_0
  obtain rfl : cs_1_0 = [(Value.int .i64 y_1_0)] := e_1_0
  obtain ⟨cs_1_1, t_1_1, hb_1_1, nn_1_1, e_1_1⟩ := id v_1_1
  obtain ⟨Ae_1_1_0, ce_1_1_0, rfl, ke_1_1_0, re_1_1_0⟩ := id e_1_1
  subst ne_6
  refine f9.l0_in ?_
  unfold f9.l0T
  refine split_dec_e e (fun c1 e => ?_) (fun c1 e => ?_)
  · exact (ih _ _ e) _ _ _ _ _ _ _ _ _ _ (O.pick [0]).nm v_1_0 v_1_1 rfl
  · exact shrink_List_s1.j0.walk (O.pick [0]).nm rfl e
set_option maxHeartbeats 4000000 in
set_option maxRecDepth 100000 in
theorem shrink_List_s1.l0_k.step_l1 (go : (p : shrink_List_s1.l0_k.Pt) → Option ((List Int) × Int)) (ih : ∀ p r, go p = some r → shrink_List_s1.l0_k.I p r) (y_1_0 : Int) (y_1_1 : (List Int)) (a_6 : List Int) (x_7 : Int) (b_8 : Bool) (x_9 : Int) (r : (List Int) × Int) (e : shrink_List_s1.l0_k.body go (.l1 y_1_0 y_1_1 a_6 x_7 b_8 x_9) = some r) : shrink_List_s1.l0_k.I (.l1 y_1_0 y_1_1 a_6 x_7 b_8 x_9) r := by
  unfold shrink_List_s1.l0_k.body at e
  intro W h0 m0 h m bk_1_0 bk_1_1 A_6 n_6 c_6 O v_1_0 v_1_1 ne_6
  obtain ⟨cs_1_0, t_1_0, hb_1_0, nn_1_0, e_1_0⟩ := id v_1_0
  obtain rfl : cs_1_0 = [(Value.int .i64 y_1_0)] := e_1_0
  obtain ⟨cs_1_1, t_1_1, hb_1_1, nn_1_1, e_1_1⟩ := id v_1_1
  obtain ⟨Ae_1_1_0, ce_1_1_0, rfl, ke_1_1_0, re_1_1_0⟩ := id e_1_1
  subst ne_6
  refine f9.l1_in ?_
  unfold f9.l1T
  refine split_dec_e e (fun c52 e => ?_) (fun c52 e => ?_)
  · obtain ⟨y1, g2, e⟩ := bind_e e
    obtain ⟨m7, u8, s13, ⟨⟨r11, k12⟩, _⟩, B9, C10⟩ := O.lend0 [0]
    replace r11 : Rd 1 (eInt .i64) m7 A_6 a_6 := r11
    replace k12 : List.length a_6 ≤ c_6 := k12
    refine (shrink_without.walk (Hold.start (W := No) s13) rfl k12 r11 g2).mono ?_
    rintro _ h3 ⟨m4, A14, n15, c16, Q5, rfl, ne17⟩
    have O19 := Hold.nm (C10 Q5 (vfs_cons (rR_vf (aE_vf (fun _ _ _ _ h => h))) vfs_nil))
    subst ne17
    refine ⟨_, _, _, rfl, ?_⟩
    obtain ⟨y20, g21, e⟩ := bind_e e
    obtain ⟨m26, u27, s32, ⟨⟨r30, k31⟩, _⟩, B28, C29⟩ := O19.lend0 [1]
    replace r30 : Rd 1 (eInt .i64) m26 A14 y1 := r30
    replace k31 : List.length y1 ≤ c16 := k31
    refine (slices_Clone_16.walk (Hold.start (W := No) s32) rfl k31 r30 g21).mono ?_
    rintro _ h22 ⟨m23, A33, n34, c35, Q24, rfl, ne36⟩
    have O38 := Hold.nm (C29 Q24 (vfs_cons (rR_vf (aE_vf (fun _ _ _ _ h => h))) vfs_nil))
    subst ne36
    refine ⟨_, _, _, rfl, ?_⟩
    obtain ⟨y39, g40, e⟩ := bind_e e
    refine CallF.of [(Value.slice A33 (List.length y20) c35), (Value.pointer (some ⟨bk_1_0, 0, none⟩)), (Value.pointer (some ⟨bk_1_1, 0, none⟩))] f13.ok rfl ?_
    obtain ⟨W45, P46, B47, C48⟩ := O38.callC [2]
    refine (roadlaw4_ShrinkSays_2.walk P46 rfl v_1_0 v_1_1 g40).mono ?_
    rintro _ h41 ⟨m42, Q43, rfl⟩
    have O49 := Hold.nm (C48 Q43 vfs_nil)
    refine ⟨_, rfl, ?_⟩
    refine split_any_e e (fun c50 e => ?_) (fun c50 e => ?_)
    · exact (ih _ _ e) _ _ _ _ _ _ _ _ _ _ (O49.pick [1]).nm v_1_0 v_1_1 rfl
    · exact (ih _ _ e) _ _ _ _ _ _ _ _ _ _ (O49.pick [0]).nm v_1_0 v_1_1 rfl
  · refine split_not ?_
    refine split_any_e e (fun c51 e => ?_) (fun c51 e => ?_)
    · exact (ih _ _ e) _ _ _ _ _ _ _ _ _ _ (O.pick [0]).nm v_1_0 v_1_1 rfl
    · exact (ih _ _ e) _ _ _ _ _ _ _ _ _ _ (O.pick [0]).nm v_1_0 v_1_1 rfl
set_option maxRecDepth 100000 in
theorem shrink_List_s1.l0_k.step_j1 (go : (p : shrink_List_s1.l0_k.Pt) → Option ((List Int) × Int)) (ih : ∀ p r, go p = some r → shrink_List_s1.l0_k.I p r) (y_1_0 : Int) (y_1_1 : (List Int)) (a_6 : List Int) (x_7 : Int) (b_51 : Bool) (r : (List Int) × Int) (e : shrink_List_s1.l0_k.body go (.j1 y_1_0 y_1_1 a_6 x_7 b_51) = some r) : shrink_List_s1.l0_k.I (.j1 y_1_0 y_1_1 a_6 x_7 b_51) r := by
  unfold shrink_List_s1.l0_k.body at e
  intro W h0 m0 h m bk_1_0 bk_1_1 A_6 n_6 c_6 O v_1_0 v_1_1 ne_6
  obtain ⟨cs_1_0, t_1_0, hb_1_0, nn_1_0, e_1_0⟩ := id v_1_0
  obtain rfl : cs_1_0 = [(Value.int .i64 y_1_0)] := e_1_0
  obtain ⟨cs_1_1, t_1_1, hb_1_1, nn_1_1, e_1_1⟩ := id v_1_1
  obtain ⟨Ae_1_1_0, ce_1_1_0, rfl, ke_1_1_0, re_1_1_0⟩ := id e_1_1
  subst ne_6
  refine f9.j1_in ?_
  unfold f9.j1T
  refine split_any_e e (fun c2 e => ?_) (fun c2 e => ?_)
  · refine split_eq_e e (fun c1 e => ?_) (fun c1 e => ?_)
    · exact shrink_List_s1.j0.walk (O.pick [0]).nm rfl e
    · refine ⟨by decide, ?_⟩
      exact (ih _ _ e) _ _ _ _ _ _ _ _ _ _ (O.pick [0]).nm v_1_0 v_1_1 rfl
  · exact (ih _ _ e) _ _ _ _ _ _ _ _ _ _ (O.pick [0]).nm v_1_0 v_1_1 rfl
theorem shrink_List_s1.l0_k.all {p : shrink_List_s1.l0_k.Pt} {r : ((List Int) × Int)} (e : shrink_List_s1.l0_k.go p = some r) : shrink_List_s1.l0_k.I p r := fixF_ind (β := fun _ => ((List Int) × Int)) shrink_List_s1.l0_k.mono (I := shrink_List_s1.l0_k.I) (fun go ih p r e => match p with
  | .l0 y_1_0 y_1_1 a_6 x_7 => shrink_List_s1.l0_k.step_l0 go ih y_1_0 y_1_1 a_6 x_7 r e
  | .l1 y_1_0 y_1_1 a_6 x_7 b_8 x_9 => shrink_List_s1.l0_k.step_l1 go ih y_1_0 y_1_1 a_6 x_7 b_8 x_9 r e
  | .j1 y_1_0 y_1_1 a_6 x_7 b_51 => shrink_List_s1.l0_k.step_j1 go ih y_1_0 y_1_1 a_6 x_7 b_51 r e
  ) e
theorem shrink_List_s1.l0.walk {W : Nat → Prop} {h0 m0 h m : Heap} {bk_1_0 : Nat} {bk_1_1 : Nat} {A_6 : Option Addr} {n_6 c_6 : Nat} {y_1_0 : Int} {y_1_1 : (List Int)} {a_6 : List Int} {x_7 : Int} (O : Hold W h0 m0 h m [rR (aE (tell_int .i64)) A_6 c_6 a_6]) (v_1_0 : VB (eInt .i64) m bk_1_0 y_1_0) (v_1_1 : VB (eRow 1 (eInt .i64)) m bk_1_1 y_1_1) (ne_6 : n_6 = List.length a_6) {r : (List Int) × Int} (e : shrink_List_s1.l0 y_1_0 y_1_1 a_6 x_7 = some r) : f9.l0 (shrink_List_s1.post W h0 m0 r) (Value.func (.func 13) #[] #[(Value.pointer (some ⟨bk_1_0, 0, none⟩)), (Value.pointer (some ⟨bk_1_1, 0, none⟩))]) A_6 n_6 c_6 x_7 h := shrink_List_s1.l0_k.all (p := .l0 y_1_0 y_1_1 a_6 x_7) e W h0 m0 h m bk_1_0 bk_1_1 A_6 n_6 c_6 O v_1_0 v_1_1 ne_6
noncomputable def shrink_List_s1 (a_0 : List Int) (y_1020 : Int) (y_1021 : (List Int)) : Option ((List Int) × Int) :=
  if (((List.length a_0) : Nat) : Int) > (200 : Int) then (some (([] : List Int), (2 : Int))) else (Option.bind (slices_Clone_16 a_0) fun y4 => Option.bind (slices_Clone_16 y4) fun y16 => Option.bind (roadlaw4_ShrinkSays_2 y16 y_1020 y_1021) fun y35 => if y35 = true then ((shrink_List_s1.l0 y_1020 y_1021 y4 (((List.length y4) : Nat) : Int))) else (some (([] : List Int), (4 : Int))))
set_option maxHeartbeats 4000000 in
set_option maxRecDepth 100000 in
theorem shrink_List_s1.walk {W : Nat → Prop} {h m : Heap} {A_0 : Option Addr} {n_0 c_0 : Nat} {bk_1020 : Nat} {bk_1021 : Nat} {a_0 : List Int} {y_1020 : Int} {y_1021 : (List Int)} (O : Hold W h m h m []) (ne_0 : n_0 = List.length a_0) (k_0 : List.length a_0 ≤ c_0) (r_0 : Rd 1 (eInt .i64) m A_0 a_0) (v_1020 : VB (eInt .i64) m bk_1020 y_1020) (v_1021 : VB (eRow 1 (eInt .i64)) m bk_1021 y_1021) {r : (List Int) × Int} (e : shrink_List_s1 a_0 y_1020 y_1021 = some r) : Run Try.prog 9 #[Value.slice A_0 n_0 c_0, (Value.func (.func 13) #[] #[(Value.pointer (some ⟨bk_1020, 0, none⟩)), (Value.pointer (some ⟨bk_1021, 0, none⟩))])] h (shrink_List_s1.post W h m r) := by
  unfold shrink_List_s1 at e
  subst ne_0
  obtain ⟨cs_1020, t_1020, hb_1020, nn_1020, e_1020⟩ := id v_1020
  obtain rfl : cs_1020 = [(Value.int .i64 y_1020)] := e_1020
  obtain ⟨cs_1021, t_1021, hb_1021, nn_1021, e_1021⟩ := id v_1021
  obtain ⟨Ae_1021_0, ce_1021_0, rfl, ke_1021_0, re_1021_0⟩ := id e_1021
  refine f9.run ?_
  unfold f9.runT
  refine split_dec_e e (fun c50 e => ?_) (fun c50 e => ?_)
  · have O1 := O.nil (aE (tell_int .i64)) none
    have O3 := O1.nm
    cases e
    exact ⟨_, _, _, _, O3.pick [0], rfl, rfl⟩
  · obtain ⟨y4, g5, e⟩ := bind_e e
    refine (slices_Clone_16.walk (Hold.start (W := No) O.s) rfl k_0 r_0 g5).mono ?_
    rintro _ h6 ⟨m7, A10, n11, c12, Q8, rfl, ne13⟩
    have O15 := Hold.nm (O.retC Q8 (vfs_cons (rR_vf (aE_vf (fun _ _ _ _ h => h))) vfs_nil))
    subst ne13
    refine ⟨_, _, _, rfl, ?_⟩
    obtain ⟨y16, g17, e⟩ := bind_e e
    obtain ⟨m22, u23, s28, ⟨⟨r26, k27⟩, _⟩, B24, C25⟩ := O15.lend0 [0]
    replace r26 : Rd 1 (eInt .i64) m22 A10 y4 := r26
    replace k27 : List.length y4 ≤ c12 := k27
    refine (slices_Clone_16.walk (Hold.start (W := No) s28) rfl k27 r26 g17).mono ?_
    rintro _ h18 ⟨m19, A29, n30, c31, Q20, rfl, ne32⟩
    have O34 := Hold.nm (C25 Q20 (vfs_cons (rR_vf (aE_vf (fun _ _ _ _ h => h))) vfs_nil))
    subst ne32
    refine ⟨_, _, _, rfl, ?_⟩
    obtain ⟨y35, g36, e⟩ := bind_e e
    refine CallF.of [(Value.slice A29 (List.length y16) c31), (Value.pointer (some ⟨bk_1020, 0, none⟩)), (Value.pointer (some ⟨bk_1021, 0, none⟩))] f13.ok rfl ?_
    obtain ⟨W41, P42, B43, C44⟩ := O34.callC [1]
    refine (roadlaw4_ShrinkSays_2.walk P42 rfl v_1020 v_1021 g36).mono ?_
    rintro _ h37 ⟨m38, Q39, rfl⟩
    have O45 := Hold.nm (C44 Q39 vfs_nil)
    refine ⟨_, rfl, ?_⟩
    refine split_not ?_
    refine split_any_e e (fun c49 e => ?_) (fun c49 e => ?_)
    · exact shrink_List_s1.l0.walk (O45.pick [0]).nm v_1020 v_1021 rfl e
    · have O46 := O45.nil (aE (tell_int .i64)) none
      have O48 := O46.nm
      cases e
      exact ⟨_, _, _, _, O48.pick [2], rfl, rfl⟩
def roadlaw4_ShrinkSays.post (W : Nat → Prop) (h0 m0 : Heap) (r : Bool) (v : Value) (h : Heap) : Prop := ∃ m , Hold W h0 m0 h m [] ∧ v = .bool r
inductive roadlaw4_ShrinkSays.l0_k.Pt where
  | l0 (y_9_c_0 : Int) (y_9_c_1 : (List Int)) (a_10 : List Int) (x_82 : Int) (x_83 : Int)
noncomputable def roadlaw4_ShrinkSays.l0_k.body (go : (p : roadlaw4_ShrinkSays.l0_k.Pt) → Option (Bool)) : (p : roadlaw4_ShrinkSays.l0_k.Pt) → Option (Bool)
  | .l0 y_9_c_0 y_9_c_1 a_10 x_82 x_83 => if x_83 < x_82 then (Option.bind (sls a_10 (0 : Int) x_83) fun l1 => Option.bind (sls a_10 (IntKind.wrap .i64 (x_83 + (1 : Int))) (((List.length a_10) : Nat) : Int)) fun l6 => Option.bind (slices_Concat_18 ([l1, l6] : List (List Int))) fun y16 => Option.bind (roadlaw4_ShrinkSays_2 y16 y_9_c_0 y_9_c_1) fun y36 => if y36 = true then (some (false)) else ((go (.l0 y_9_c_0 y_9_c_1 a_10 x_82 (IntKind.wrap .i64 (x_83 + (1 : Int))))))) else (some (true))
theorem roadlaw4_ShrinkSays.l0_k.mono : MonoF (β := fun _ => (Bool)) roadlaw4_ShrinkSays.l0_k.body := fun f g hfg p => match p with
  | .l0 y_9_c_0 y_9_c_1 a_10 x_82 x_83 => LeO.ite (LeO.bind (LeO.refl _) fun l1 => LeO.bind (LeO.refl _) fun l6 => LeO.bind (LeO.refl _) fun y16 => LeO.bind (LeO.refl _) fun y36 => LeO.ite (LeO.refl _) ((hfg _))) (LeO.refl _)
noncomputable def roadlaw4_ShrinkSays.l0_k.go (p : roadlaw4_ShrinkSays.l0_k.Pt) : Option (Bool) := fixF (β := fun _ => (Bool)) roadlaw4_ShrinkSays.l0_k.body p
noncomputable def roadlaw4_ShrinkSays.l0 (y_9_c_0 : Int) (y_9_c_1 : (List Int)) (a_10 : List Int) (x_82 : Int) (x_83 : Int) : Option (Bool) := roadlaw4_ShrinkSays.l0_k.go (.l0 y_9_c_0 y_9_c_1 a_10 x_82 x_83)
theorem roadlaw4_ShrinkSays.l0_eq (y_9_c_0 : Int) (y_9_c_1 : (List Int)) (a_10 : List Int) (x_82 : Int) (x_83 : Int) : roadlaw4_ShrinkSays.l0 y_9_c_0 y_9_c_1 a_10 x_82 x_83 = if x_83 < x_82 then (Option.bind (sls a_10 (0 : Int) x_83) fun l1 => Option.bind (sls a_10 (IntKind.wrap .i64 (x_83 + (1 : Int))) (((List.length a_10) : Nat) : Int)) fun l6 => Option.bind (slices_Concat_18 ([l1, l6] : List (List Int))) fun y16 => Option.bind (roadlaw4_ShrinkSays_2 y16 y_9_c_0 y_9_c_1) fun y36 => if y36 = true then (some (false)) else ((roadlaw4_ShrinkSays.l0 y_9_c_0 y_9_c_1 a_10 x_82 (IntKind.wrap .i64 (x_83 + (1 : Int)))))) else (some (true)) := fixF_eq roadlaw4_ShrinkSays.l0_k.mono _
def roadlaw4_ShrinkSays.l0_k.I : (p : roadlaw4_ShrinkSays.l0_k.Pt) → (Bool) → Prop
  | .l0 y_9_c_0 y_9_c_1 a_10 x_82 x_83, r => ∀ (W : Nat → Prop) (h0 m0 h m : Heap) (bk_9_c_0 : Nat) (cs_9_c_0 : List Value) (bk_9_c_1 : Nat) (cs_9_c_1 : List Value) (A_10 : Option Addr) (n_10 c_10 : Nat) (O : Hold W h0 m0 h m [rV bk_9_c_0 3 cs_9_c_0, rV bk_9_c_1 22 cs_9_c_1]) (e_9_c_0 : (eInt .i64) m y_9_c_0 cs_9_c_0) (e_9_c_1 : (eRow 1 (eInt .i64)) m y_9_c_1 cs_9_c_1) (ne_10 : n_10 = List.length a_10) (k_10 : List.length a_10 ≤ c_10) (r_10 : Rd 1 (eInt .i64) m A_10 a_10), f3.l0 (roadlaw4_ShrinkSays.post W h0 m0 r) (⟨bk_9_c_0, 0, none⟩ : Addr) (⟨bk_9_c_1, 0, none⟩ : Addr) A_10 n_10 c_10 x_82 x_83 h
set_option maxHeartbeats 4000000 in
set_option maxRecDepth 100000 in
theorem roadlaw4_ShrinkSays.l0_k.step_l0 (go : (p : roadlaw4_ShrinkSays.l0_k.Pt) → Option (Bool)) (ih : ∀ p r, go p = some r → roadlaw4_ShrinkSays.l0_k.I p r) (y_9_c_0 : Int) (y_9_c_1 : (List Int)) (a_10 : List Int) (x_82 : Int) (x_83 : Int) (r : Bool) (e : roadlaw4_ShrinkSays.l0_k.body go (.l0 y_9_c_0 y_9_c_1 a_10 x_82 x_83) = some r) : roadlaw4_ShrinkSays.l0_k.I (.l0 y_9_c_0 y_9_c_1 a_10 x_82 x_83) r := by
  unfold roadlaw4_ShrinkSays.l0_k.body at e
  intro W h0 m0 h m bk_9_c_0 cs_9_c_0 bk_9_c_1 cs_9_c_1 A_10 n_10 c_10 O e_9_c_0 e_9_c_1 ne_10 k_10 r_10
  obtain rfl : cs_9_c_0 = [(Value.int .i64 y_9_c_0)] := e_9_c_0
  obtain ⟨Ae_9_c_1_0, ce_9_c_1_0, rfl, ke_9_c_1_0, re_9_c_1_0⟩ := id e_9_c_1
  subst ne_10
  refine f3.l0_in ?_
  unfold f3.l0T
  refine split_dec_e e (fun c52 e => ?_) (fun c52 e => ?_)
  · obtain ⟨l1, g2, e⟩ := bind_e e
    have q3 := sls_e g2
    refine ⟨q3.1, q3.2.1, cap_in q3.2.2.1 k_10, ?_⟩
    try rw [q3.2.2.2.1]
    have k4 : List.length l1 ≤ (c_10 - Int.toNat (0 : Int)) := sls_cap g2 k_10
    have r5 := r_10.sls g2 (le_mx q3.2.2.1 k_10)
    obtain ⟨l6, g7, e⟩ := bind_e e
    have q8 := sls_e g7
    refine ⟨q8.1, q8.2.1, cap_in q8.2.2.1 k_10, ?_⟩
    try rw [q8.2.2.2.1]
    have k9 : List.length l6 ≤ (c_10 - Int.toNat (IntKind.wrap .i64 (x_83 + (1 : Int)))) := sls_cap g7 k_10
    have r10 := r_10.sls g7 (le_mx q8.2.2.1 k_10)
    refine O.new fun h11 x12 O13 => ?_
    obtain ⟨y16, g17, e⟩ := bind_e e
    have O15 := O13.rowE (l := ([l1, l6] : List (List Int))) 2 rfl (tell_row (tell_int .i64)) (show CsE _ _ _ _ _ from (CsE.cons (c1 := [(Value.slice (sliceA A_10 (Int.toNat (0 : Int)) c_10 1) (List.length l1) (c_10 - Int.toNat (0 : Int)))]) ⟨_, _, rfl, k4, r5⟩ rfl (CsE.cons (c1 := [(Value.slice (sliceA A_10 (Int.toNat (IntKind.wrap .i64 (x_83 + (1 : Int)))) c_10 1) (List.length l6) (c_10 - Int.toNat (IntKind.wrap .i64 (x_83 + (1 : Int)))))]) ⟨_, _, rfl, k9, r10⟩ rfl CsE.nil))) rfl
    have O22 := O15.nm
    obtain ⟨m23, u24, s29, ⟨⟨r27, k28⟩, _⟩, B25, C26⟩ := O22.lend0 [2]
    replace r27 : Rd 1 (eRow 1 (eInt .i64)) m23 (some ⟨(Array.size h), 0, none⟩) ([l1, l6] : List (List Int)) := r27
    replace k28 : List.length ([l1, l6] : List (List Int)) ≤ 2 := k28
    refine (slices_Concat_18.walk (Hold.start (W := No) s29) rfl k28 r27 g17).mono ?_
    rintro _ h18 ⟨m19, A30, n31, c32, Q20, rfl, ne33⟩
    have O35 := Hold.nm (C26 Q20 (vfs_cons (rR_vf (aE_vf (fun _ _ _ _ h => h))) vfs_nil))
    subst ne33
    refine ⟨_, _, _, rfl, ?_⟩
    obtain ⟨y36, g37, e⟩ := bind_e e
    obtain ⟨m42, W48, u43, P49, ⟨hb46, hb47, _⟩, B44, C45⟩ := O35.lend [3] [0, 1]
    refine (roadlaw4_ShrinkSays_2.walk P49 rfl ⟨_, _, hb46, nn, rfl⟩ ⟨_, _, hb47, nn, ⟨_, _, rfl, ke_9_c_1_0, (re_9_c_1_0.sub (tell_int .i64) u43)⟩⟩ g37).mono ?_
    rintro _ h38 ⟨m39, Q40, rfl⟩
    have O50 := Hold.nm (C45 Q40 vfs_nil)
    refine ⟨_, rfl, ?_⟩
    refine split_any_e e (fun c51 e => ?_) (fun c51 e => ?_)
    · cases e
      exact ⟨_, O50.pick [], rfl⟩
    · exact (ih _ _ e) _ _ _ _ _ _ _ _ _ _ _ _ (O50.pick [0, 1]).nm rfl ⟨_, _, rfl, ke_9_c_1_0, re_9_c_1_0⟩ rfl k_10 r_10
  · cases e
    exact ⟨_, O.pick [], rfl⟩
theorem roadlaw4_ShrinkSays.l0_k.all {p : roadlaw4_ShrinkSays.l0_k.Pt} {r : (Bool)} (e : roadlaw4_ShrinkSays.l0_k.go p = some r) : roadlaw4_ShrinkSays.l0_k.I p r := fixF_ind (β := fun _ => (Bool)) roadlaw4_ShrinkSays.l0_k.mono (I := roadlaw4_ShrinkSays.l0_k.I) (fun go ih p r e => match p with
  | .l0 y_9_c_0 y_9_c_1 a_10 x_82 x_83 => roadlaw4_ShrinkSays.l0_k.step_l0 go ih y_9_c_0 y_9_c_1 a_10 x_82 x_83 r e
  ) e
theorem roadlaw4_ShrinkSays.l0.walk {W : Nat → Prop} {h0 m0 h m : Heap} {bk_9_c_0 : Nat} {cs_9_c_0 : List Value} {bk_9_c_1 : Nat} {cs_9_c_1 : List Value} {A_10 : Option Addr} {n_10 c_10 : Nat} {y_9_c_0 : Int} {y_9_c_1 : (List Int)} {a_10 : List Int} {x_82 : Int} {x_83 : Int} (O : Hold W h0 m0 h m [rV bk_9_c_0 3 cs_9_c_0, rV bk_9_c_1 22 cs_9_c_1]) (e_9_c_0 : (eInt .i64) m y_9_c_0 cs_9_c_0) (e_9_c_1 : (eRow 1 (eInt .i64)) m y_9_c_1 cs_9_c_1) (ne_10 : n_10 = List.length a_10) (k_10 : List.length a_10 ≤ c_10) (r_10 : Rd 1 (eInt .i64) m A_10 a_10) {r : Bool} (e : roadlaw4_ShrinkSays.l0 y_9_c_0 y_9_c_1 a_10 x_82 x_83 = some r) : f3.l0 (roadlaw4_ShrinkSays.post W h0 m0 r) (⟨bk_9_c_0, 0, none⟩ : Addr) (⟨bk_9_c_1, 0, none⟩ : Addr) A_10 n_10 c_10 x_82 x_83 h := roadlaw4_ShrinkSays.l0_k.all (p := .l0 y_9_c_0 y_9_c_1 a_10 x_82 x_83) e W h0 m0 h m bk_9_c_0 cs_9_c_0 bk_9_c_1 cs_9_c_1 A_10 n_10 c_10 O e_9_c_0 e_9_c_1 ne_10 k_10 r_10
noncomputable def roadlaw4_ShrinkSays.j1 (y_9_c_0 : Int) (y_9_c_1 : (List Int)) (a_10 : List Int) : Option (Bool) :=
  (roadlaw4_ShrinkSays.l0 y_9_c_0 y_9_c_1 a_10 (((List.length a_10) : Nat) : Int) (0 : Int))
set_option maxRecDepth 100000 in
theorem roadlaw4_ShrinkSays.j1.walk {W : Nat → Prop} {h0 m0 h m : Heap} {bk_9_c_0 : Nat} {cs_9_c_0 : List Value} {bk_9_c_1 : Nat} {cs_9_c_1 : List Value} {A_10 : Option Addr} {n_10 c_10 : Nat} {y_9_c_0 : Int} {y_9_c_1 : (List Int)} {a_10 : List Int} (O : Hold W h0 m0 h m [rV bk_9_c_0 3 cs_9_c_0, rV bk_9_c_1 22 cs_9_c_1, rR (aE (tell_int .i64)) A_10 c_10 a_10]) (e_9_c_0 : (eInt .i64) m y_9_c_0 cs_9_c_0) (e_9_c_1 : (eRow 1 (eInt .i64)) m y_9_c_1 cs_9_c_1) (ne_10 : n_10 = List.length a_10) {r : Bool} (e : roadlaw4_ShrinkSays.j1 y_9_c_0 y_9_c_1 a_10 = some r) : f3.j1 (roadlaw4_ShrinkSays.post W h0 m0 r) (⟨bk_9_c_0, 0, none⟩ : Addr) (⟨bk_9_c_1, 0, none⟩ : Addr) A_10 n_10 c_10 h := by
  unfold roadlaw4_ShrinkSays.j1 at e
  obtain rfl : cs_9_c_0 = [(Value.int .i64 y_9_c_0)] := e_9_c_0
  obtain ⟨Ae_9_c_1_0, ce_9_c_1_0, rfl, ke_9_c_1_0, re_9_c_1_0⟩ := id e_9_c_1
  subst ne_10
  refine f3.j1_in ?_
  unfold f3.j1T
  obtain ⟨m1, u2, ⟨r3, k4⟩, O5⟩ := O.frz 2 rfl
  replace r3 : Rd 1 (eInt .i64) m1 A_10 a_10 := r3
  have O6 := O5.nm
  exact roadlaw4_ShrinkSays.l0.walk (O6.pick [0, 1]).nm rfl ⟨_, _, rfl, ke_9_c_1_0, (re_9_c_1_0.sub (tell_int .i64) u2)⟩ rfl k4 r3 e
noncomputable def roadlaw4_ShrinkSays.j0 (a_0 : List Int) (y_4 : (List Int)) (y_5 : Int) : Option (Bool) :=
  Option.bind (sls y_4 (0 : Int) (if (5 : Int) < (((List.length y_4) : Nat) : Int) then (5 : Int) else (((List.length y_4) : Nat) : Int))) fun l3 => Option.bind (shrink_List_s1 a_0 (IntKind.wrap .i64 (Int.tmod (IntKind.wrap .u64 y_5) (2000 : Int))) l3) fun y10 => if (((List.length a_0) : Nat) : Int) > (200 : Int) then (if y10.2 = (2 : Int) then (some (((((List.length y10.1) : Nat) : Int) == (0 : Int)))) else (some (false))) else (Option.bind (slices_Clone_16 a_0) fun y31 => Option.bind (roadlaw4_ShrinkSays_2 y31 (IntKind.wrap .i64 (Int.tmod (IntKind.wrap .u64 y_5) (2000 : Int))) l3) fun y43 => if y43 = true then (if y10.2 = (0 : Int) then (Option.bind (roadlaw4_within y10.1 a_0) fun y58 => if y58 = true then (Option.bind (slices_Clone_16 y10.1) fun y72 => Option.bind (roadlaw4_ShrinkSays_2 y72 (IntKind.wrap .i64 (Int.tmod (IntKind.wrap .u64 y_5) (2000 : Int))) l3) fun y91 => if y91 = true then ((roadlaw4_ShrinkSays.j1 (IntKind.wrap .i64 (Int.tmod (IntKind.wrap .u64 y_5) (2000 : Int))) l3 y10.1)) else (some (false))) else (some (false))) else (some (false))) else (if y10.2 = (4 : Int) then (some (((((List.length y10.1) : Nat) : Int) == (0 : Int)))) else (some (false))))
set_option maxHeartbeats 4000000 in
set_option maxRecDepth 100000 in
theorem roadlaw4_ShrinkSays.j0.walk {W : Nat → Prop} {h0 m0 h m : Heap} {A_0 : Option Addr} {n_0 c_0 : Nat} {bk_4 : Nat} {cs_4 : List Value} {bk_5 : Nat} {cs_5 : List Value} {a_0 : List Int} {y_4 : (List Int)} {y_5 : Int} (O : Hold W h0 m0 h m [rV bk_4 22 cs_4, rV bk_5 3 cs_5]) (ne_0 : n_0 = List.length a_0) (k_0 : List.length a_0 ≤ c_0) (r_0 : Rd 1 (eInt .i64) m A_0 a_0) (e_4 : (eRow 1 (eInt .i64)) m y_4 cs_4) (e_5 : (eInt .i64) m y_5 cs_5) {r : Bool} (e : roadlaw4_ShrinkSays.j0 a_0 y_4 y_5 = some r) : f3.j0 (roadlaw4_ShrinkSays.post W h0 m0 r) A_0 n_0 c_0 (⟨bk_4, 0, none⟩ : Addr) (⟨bk_5, 0, none⟩ : Addr) h := by
  unfold roadlaw4_ShrinkSays.j0 at e
  subst ne_0
  obtain ⟨Ae_4_0, ce_4_0, rfl, ke_4_0, re_4_0⟩ := id e_4
  obtain rfl : cs_5 = [(Value.int .i64 y_5)] := e_5
  refine f3.j0_in ?_
  unfold f3.j0T
  refine ⟨_, ld0 (Sub.refl _) (O.all 1 rfl) rfl, _, rfl, ?_⟩
  refine ⟨by decide, ?_⟩
  refine O.st0 1 rfl (Nat.le_of_ble_eq_true rfl) trivial fun h1 O2 => ?_
  refine ⟨_, ld0 (Sub.refl _) (O2.all 0 rfl) rfl, _, _, _, rfl, ?_⟩
  refine ⟨_, ld0 (Sub.refl _) (O2.all 0 rfl) rfl, _, _, _, rfl, ?_⟩
  obtain ⟨l3, g4, e⟩ := bind_e e
  have q5 := sls_e g4
  refine ⟨q5.1, q5.2.1, cap_in q5.2.2.1 ke_4_0, ?_⟩
  try rw [q5.2.2.2.1]
  have k6 : List.length l3 ≤ (ce_4_0 - Int.toNat (0 : Int)) := sls_cap g4 ke_4_0
  have r7 := re_4_0.sls g4 (le_mx q5.2.2.1 ke_4_0)
  refine O2.st0 0 rfl (Nat.le_of_ble_eq_true rfl) trivial fun h8 O9 => ?_
  obtain ⟨y10, g11, e⟩ := bind_e e
  have O16 := O9.nm
  obtain ⟨m17, u18, s23, ⟨hb21, hb22, _⟩, B19, C20⟩ := O16.lend0 [1, 0]
  refine (shrink_List_s1.walk (Hold.start (W := No) s23) rfl k_0 (r_0.sub (tell_int .i64) u18) ⟨_, _, hb21, nn, rfl⟩ ⟨_, _, hb22, nn, ⟨_, _, rfl, k6, (r7.sub (tell_int .i64) u18)⟩⟩ g11).mono ?_
  rintro _ h12 ⟨m13, A24, n25, c26, Q14, rfl, ne27⟩
  have O29 := Hold.nm (C20 Q14 (vfs_cons (rR_vf (aE_vf (fun _ _ _ _ h => h))) vfs_nil))
  subst ne27
  refine ⟨_, _, _, _, rfl, ?_⟩
  refine split_dec_e e (fun c111 e => ?_) (fun c111 e => ?_)
  · refine split_eq_e e (fun c30 e => ?_) (fun c30 e => ?_)
    · cases e
      exact ⟨_, O29.pick [], rfl⟩
    · cases e
      exact ⟨_, O29.pick [], rfl⟩
  · obtain ⟨y31, g32, e⟩ := bind_e e
    refine (slices_Clone_16.walk (Hold.start (W := No) O29.s) rfl k_0 r_0 g32).mono ?_
    rintro _ h33 ⟨m34, A37, n38, c39, Q35, rfl, ne40⟩
    have O42 := Hold.nm (O29.retC Q35 (vfs_cons (rR_vf (aE_vf (fun _ _ _ _ h => h))) vfs_nil))
    subst ne40
    refine ⟨_, _, _, rfl, ?_⟩
    obtain ⟨y43, g44, e⟩ := bind_e e
    obtain ⟨m49, W55, u50, P56, ⟨hb53, hb54, _⟩, B51, C52⟩ := O42.lend [3] [1, 0]
    refine (roadlaw4_ShrinkSays_2.walk P56 rfl ⟨_, _, hb53, nn, rfl⟩ ⟨_, _, hb54, nn, ⟨_, _, rfl, k6, (r7.sub (tell_int .i64) u50)⟩⟩ g44).mono ?_
    rintro _ h45 ⟨m46, Q47, rfl⟩
    have O57 := Hold.nm (C52 Q47 vfs_nil)
    refine ⟨_, rfl, ?_⟩
    refine split_not ?_
    refine split_any_e e (fun c110 e => ?_) (fun c110 e => ?_)
    · refine split_ne_e e (fun c108 e => ?_) (fun c108 e => ?_)
      · cases e
        exact ⟨_, O57.pick [], rfl⟩
      · obtain ⟨y58, g59, e⟩ := bind_e e
        obtain ⟨m64, u65, s70, ⟨⟨r68, k69⟩, _⟩, B66, C67⟩ := O57.lend0 [2]
        replace r68 : Rd 1 (eInt .i64) m64 A24 y10.1 := r68
        replace k69 : List.length y10.1 ≤ c26 := k69
        refine (roadlaw4_within.walk (Hold.start (W := No) s70) rfl k69 r68 rfl k_0 (r_0.sub (tell_int .i64) u65) g59).mono ?_
        rintro _ h60 ⟨m61, Q62, rfl⟩
        have O71 := Hold.nm (C67 Q62 vfs_nil)
        refine ⟨_, rfl, ?_⟩
        refine split_not ?_
        refine split_any_e e (fun c107 e => ?_) (fun c107 e => ?_)
        · obtain ⟨y72, g73, e⟩ := bind_e e
          obtain ⟨m78, u79, s84, ⟨⟨r82, k83⟩, _⟩, B80, C81⟩ := O71.lend0 [2]
          replace r82 : Rd 1 (eInt .i64) m78 A24 y10.1 := r82
          replace k83 : List.length y10.1 ≤ c26 := k83
          refine (slices_Clone_16.walk (Hold.start (W := No) s84) rfl k83 r82 g73).mono ?_
          rintro _ h74 ⟨m75, A85, n86, c87, Q76, rfl, ne88⟩
          have O90 := Hold.nm (C81 Q76 (vfs_cons (rR_vf (aE_vf (fun _ _ _ _ h => h))) vfs_nil))
          subst ne88
          refine ⟨_, _, _, rfl, ?_⟩
          obtain ⟨y91, g92, e⟩ := bind_e e
          obtain ⟨m97, W103, u98, P104, ⟨hb101, hb102, _⟩, B99, C100⟩ := O90.lend [4] [1, 0]
          refine (roadlaw4_ShrinkSays_2.walk P104 rfl ⟨_, _, hb101, nn, rfl⟩ ⟨_, _, hb102, nn, ⟨_, _, rfl, k6, (r7.sub (tell_int .i64) u98)⟩⟩ g92).mono ?_
          rintro _ h93 ⟨m94, Q95, rfl⟩
          have O105 := Hold.nm (C100 Q95 vfs_nil)
          refine ⟨_, rfl, ?_⟩
          refine split_not ?_
          refine split_any_e e (fun c106 e => ?_) (fun c106 e => ?_)
          · exact roadlaw4_ShrinkSays.j1.walk (O105.pick [1, 0, 2]).nm rfl ⟨_, _, rfl, k6, r7⟩ rfl e
          · cases e
            exact ⟨_, O105.pick [], rfl⟩
        · cases e
          exact ⟨_, O71.pick [], rfl⟩
    · refine split_eq_e e (fun c109 e => ?_) (fun c109 e => ?_)
      · cases e
        exact ⟨_, O57.pick [], rfl⟩
      · cases e
        exact ⟨_, O57.pick [], rfl⟩
noncomputable def roadlaw4_ShrinkSays (a_0 : List Int) (a_1 : List Int) (x_2 : Int) : Option (Bool) :=
  Option.bind (shrink_List ([(4 : Int), (9 : Int), (4 : Int)] : List Int) (fun z28 => roadlaw4_ShrinkSays_1 z28)) fun y14 => if y14.2 = (0 : Int) then (Option.bind (slices_Equal_12 y14.1 ([(9 : Int)] : List Int)) fun y47 => if y47 = true then ((roadlaw4_ShrinkSays.j0 a_0 a_1 x_2)) else (some (false))) else (some (false))
set_option maxHeartbeats 4000000 in
set_option maxRecDepth 100000 in
theorem roadlaw4_ShrinkSays.walk {W : Nat → Prop} {h m : Heap} {A_0 : Option Addr} {n_0 c_0 : Nat} {A_1 : Option Addr} {n_1 c_1 : Nat} {a_0 : List Int} {a_1 : List Int} {x_2 : Int} (O : Hold W h m h m []) (ne_0 : n_0 = List.length a_0) (k_0 : List.length a_0 ≤ c_0) (r_0 : Rd 1 (eInt .i64) m A_0 a_0) (ne_1 : n_1 = List.length a_1) (k_1 : List.length a_1 ≤ c_1) (r_1 : Rd 1 (eInt .i64) m A_1 a_1) {r : Bool} (e : roadlaw4_ShrinkSays a_0 a_1 x_2 = some r) : Run Try.prog 3 #[Value.slice A_0 n_0 c_0, Value.slice A_1 n_1 c_1, Value.int .i64 x_2] h (roadlaw4_ShrinkSays.post W h m r) := by
  unfold roadlaw4_ShrinkSays at e
  subst ne_0
  subst ne_1
  refine f3.run ?_
  unfold f3.runT
  refine O.new fun h1 x2 O3 => ?_
  refine O3.new fun h5 x6 O7 => ?_
  refine O7.new fun h9 x10 O11 => ?_
  obtain ⟨y14, g15, e⟩ := bind_e e
  have O13 := O11.rowE (l := ([(4 : Int), (9 : Int), (4 : Int)] : List Int)) 2 rfl (tell_int .i64) (show CsE _ _ _ _ _ from (CsE.cons (c1 := [(Value.int .i64 (4 : Int))]) rfl rfl (CsE.cons (c1 := [(Value.int .i64 (9 : Int))]) rfl rfl (CsE.cons (c1 := [(Value.int .i64 (4 : Int))]) rfl rfl CsE.nil)))) rfl
  have O20 := O13.nm
  obtain ⟨m21, u22, s27, ⟨⟨r25, k26⟩, _⟩, B23, C24⟩ := O20.lend0 [2]
  replace r25 : Rd 1 (eInt .i64) m21 (some ⟨(Array.size h5), 0, none⟩) ([(4 : Int), (9 : Int), (4 : Int)] : List Int) := r25
  replace k26 : List.length ([(4 : Int), (9 : Int), (4 : Int)] : List Int) ≤ 3 := k26
  refine (shrink_List.walk (Hold.start (W := No) s27) rfl k26 r25 (fun h29 m30 u31 s32 A35 n35 c35 l35 hn35 k35 r35 r33 e34 => CallF.of [Value.slice A35 n35 c35] f10.ok rfl ((roadlaw4_ShrinkSays_1.walk (Hold.start (W := No) s32) hn35 k35 r35 e34).mono (fun _ _ h => let ⟨_, t, e⟩ := h; ⟨e, t.S.ext⟩))) g15).mono ?_
  rintro _ h16 ⟨m17, A36, n37, c38, Q18, rfl, ne39⟩
  have O41 := Hold.nm (C24 Q18 (vfs_cons (rR_vf (aE_vf (fun _ _ _ _ h => h))) vfs_nil))
  subst ne39
  refine ⟨_, _, _, _, rfl, ?_⟩
  refine split_ne_e e (fun c65 e => ?_) (fun c65 e => ?_)
  · cases e
    exact ⟨_, O41.pick [], rfl⟩
  · refine O41.new fun h42 x43 O44 => ?_
    obtain ⟨y47, g48, e⟩ := bind_e e
    have O46 := O44.rowE (l := ([(9 : Int)] : List Int)) 4 rfl (tell_int .i64) (show CsE _ _ _ _ _ from (CsE.cons (c1 := [(Value.int .i64 (9 : Int))]) rfl rfl CsE.nil)) rfl
    have O53 := O46.nm
    obtain ⟨m54, u55, s62, ⟨⟨r58, k59⟩, ⟨r60, k61⟩, _⟩, B56, C57⟩ := O53.lend0 [3, 4]
    replace r58 : Rd 1 (eInt .i64) m54 A36 y14.1 := r58
    replace k59 : List.length y14.1 ≤ c38 := k59
    replace r60 : Rd 1 (eInt .i64) m54 (some ⟨(Array.size h16), 0, none⟩) ([(9 : Int)] : List Int) := r60
    replace k61 : List.length ([(9 : Int)] : List Int) ≤ 1 := k61
    refine (slices_Equal_12.walk (Hold.start (W := No) s62) rfl k59 r58 rfl k61 r60 g48).mono ?_
    rintro _ h49 ⟨m50, Q51, rfl⟩
    have O63 := Hold.nm (C57 Q51 vfs_nil)
    refine ⟨_, rfl, ?_⟩
    refine split_not ?_
    refine split_any_e e (fun c64 e => ?_) (fun c64 e => ?_)
    · exact roadlaw4_ShrinkSays.j0.walk (O63.pick [0, 1]).nm rfl k_0 r_0 ⟨_, _, rfl, k_1, r_1⟩ rfl e
    · cases e
      exact ⟨_, O63.pick [], rfl⟩
end Go.Proofs.Ythnlhffpmlgmfaa.Fw

end
section
namespace Go.Proofs.Ythnlhffpmlgmfaa.Fw
open Go Go.Hw Go.Proofs
set_option linter.unusedVariables false
theorem without_val {a : List Int} (ha : a.length ≤ 200) {i j : Nat} (hij : i ≤ j) (hj : j ≤ a.length) : shrink_without a (i : Int) (j : Int) = some (a.take i ++ a.drop j) := by
  unfold shrink_without
  rw [sls_take rfl (by omega), Option.bind_some, sls_drop rfl hj, Option.bind_some, slices_Concat_18.val _ (by simp) (by simp; omega)]
  simp
theorem min_txt {a : List Int} {i s : Nat} (hi : i ≤ 200) (hs : s ≤ 200) : (if IntKind.wrap .i64 ((i : Int) + (s : Int)) < ((a.length : Nat) : Int) then IntKind.wrap .i64 ((i : Int) + (s : Int)) else ((a.length : Nat) : Int)) = ((min (i + s) a.length : Nat) : Int) := by
  rw [wrap_in (by omega) (by omega)]
  split <;> omega
theorem half_txt {a : List Int} {s : Nat} (hs : s ≤ 200) : (if (if ((a.length : Nat) : Int) > 1 then ((a.length : Nat) : Int) else 1) < IntKind.wrap .i64 (Int.tdiv (s : Int) 2) then (if ((a.length : Nat) : Int) > 1 then ((a.length : Nat) : Int) else 1) else IntKind.wrap .i64 (Int.tdiv (s : Int) 2)) = ((min (max 1 a.length) (s / 2) : Nat) : Int) := by
  have : Int.tdiv (s : Int) 2 = ((s / 2 : Nat) : Int) := by rw [Int.tdiv_eq_ediv_of_nonneg (by omega)]; omega
  rw [this, wrap_in (by omega) (by omega)]
  split <;> split <;> omega
section
variable {l0 : List Int → Int → Option (List Int × Int)} {l1 : List Int → Int → Bool → Int → Option (List Int × Int)} {j1 : List Int → Int → Bool → Option (List Int × Int)} {P : List Int → Option Bool} {q : List Int → Bool}
  (hq : ∀ x, x.length ≤ 200 → P x = some (q x))
  (e0 : ∀ a s, l0 a s = if s > 0 then l1 a s false 0 else shrink_List.j0 a)
  (e1 : ∀ a s b i, l1 a s b i = if i < ((a.length : Nat) : Int) then (Option.bind (shrink_without a i (if IntKind.wrap .i64 (i + s) < ((a.length : Nat) : Int) then IntKind.wrap .i64 (i + s) else ((a.length : Nat) : Int))) fun y1 => Option.bind (slices_Clone_16 y1) fun y20 => Option.bind (P y20) fun y39 => if y39 = true then l1 y1 s true i else l1 a s b (if IntKind.wrap .i64 (i + s) < ((a.length : Nat) : Int) then IntKind.wrap .i64 (i + s) else ((a.length : Nat) : Int))) else (if b = true then j1 a s (decide (s > 1)) else j1 a s true))
  (ej : ∀ a s b, j1 a s b = if b = true then (if s = 1 then shrink_List.j0 a else l0 a (if (if ((a.length : Nat) : Int) > 1 then ((a.length : Nat) : Int) else 1) < IntKind.wrap .i64 (Int.tdiv s 2) then (if ((a.length : Nat) : Int) > 1 then ((a.length : Nat) : Int) else 1) else IntKind.wrap .i64 (Int.tdiv s 2))) else l0 a s)
include hq e1 in
theorem pass_val {s : Nat} (hs : 1 ≤ s) (hs2 : s ≤ 200) : ∀ (d i : Nat) (a : List Int) (b : Bool), a.length ≤ i + d → i ≤ 200 → a.length ≤ 200 → q a = true →
    ∃ a' b', a'.Sublist a ∧ q a' = true ∧ l1 a (s : Int) b (i : Int) = (if b' = true then j1 a' (s : Int) (decide ((s : Int) > 1)) else j1 a' (s : Int) true) ∧ (b' = true → b = true ∨ a'.length < a.length) ∧ (b = true → b' = true) ∧
      (b' = false → a' = a ∧ (s = 1 → ∀ k, i ≤ k → k < a.length → q (a.take k ++ a.drop (k + 1)) = false)) := by
  intro d
  induction d with
  | zero =>
    intro i a b h1 h2 h3 h4
    refine ⟨a, b, .refl _, h4, by rw [e1, if_neg (by omega)], .inl, id, fun _ => ⟨rfl, fun _ k _ _ => by omega⟩⟩
  | succ d ih =>
    intro i a b h1 h2 h3 h4
    rw [e1]
    by_cases c : i < a.length
    · rw [if_pos (by omega), min_txt (by omega) hs2, without_val h3 (by omega) (by omega), Option.bind_some]
      have hl : (a.take i ++ a.drop (min (i + s) a.length)).length ≤ 200 := by rw [List.length_append, List.length_take, List.length_drop]; omega
      rw [slices_Clone_16.val _ (by omega), Option.bind_some, hq _ hl, Option.bind_some]
      have hsub : (a.take i ++ a.drop (min (i + s) a.length)).Sublist a := by
        have h5 : a.Sublist a := .refl _
        conv => rhs; rw [← List.take_append_drop i a]
        refine List.Sublist.append_left ?_ _
        rw [show min (i + s) a.length = i + (min (i + s) a.length - i) by omega, ← List.drop_drop]
        exact List.drop_sublist _ _
      have hlt : (a.take i ++ a.drop (min (i + s) a.length)).length < a.length := by rw [List.length_append, List.length_take, List.length_drop]; omega
      by_cases g : q (a.take i ++ a.drop (min (i + s) a.length)) = true
      · rw [if_pos g]
        obtain ⟨a', b', k1, k2, k3, k4, k6, k5⟩ := ih i _ true (by omega) h2 hl g
        refine ⟨a', b', k1.trans hsub, k2, k3, fun hb => .inr (Nat.lt_of_le_of_lt k1.length_le hlt), fun _ => k6 rfl, fun hb => ?_⟩
        rw [k6 rfl] at hb; cases hb
      · rw [if_neg g]
        obtain ⟨a', b', k1, k2, k3, k4, k6, k5⟩ := ih (min (i + s) a.length) a b (by omega) (by omega) h3 h4
        refine ⟨a', b', k1, k2, k3, k4, k6, fun hb => ⟨(k5 hb).1, fun hs1 k hk1 hk2 => ?_⟩⟩
        by_cases hk : k = i
        · subst hk; subst hs1
          rw [show min (k + 1) a.length = k + 1 by omega] at g
          exact Bool.eq_false_iff.2 g
        · exact (k5 hb).2 hs1 k (by omega) hk2
    · rw [if_neg (by omega)]
      exact ⟨a, b, .refl _, h4, rfl, .inl, id, fun _ => ⟨rfl, fun _ k _ _ => by omega⟩⟩
include hq e0 e1 ej in
theorem list_val : ∀ (n s : Nat) (a : List Int), a.length + s ≤ n → 1 ≤ s → s ≤ 200 → a.length ≤ 200 → q a = true →
    ∃ r, l0 a (s : Int) = some (r, 0) ∧ r.Sublist a ∧ q r = true ∧ ∀ k, k < r.length → q (r.take k ++ r.drop (k + 1)) = false := by
  intro n
  induction n with
  | zero => intro s a h1 h2; omega
  | succ n ih =>
    intro s a h1 h2 h3 h4 h5
    rw [e0, if_pos (by omega)]
    obtain ⟨a', b', k1, k2, k3, k4, k6, k5⟩ := pass_val hq e1 h2 h3 a.length 0 a false (by omega) (by omega) h4 h5
    have hl := k1.length_le
    have half : 2 ≤ s → ∃ r, j1 a' (s : Int) true = some (r, 0) ∧ r.Sublist a' ∧ q r = true ∧ ∀ k, k < r.length → q (r.take k ++ r.drop (k + 1)) = false := by
      intro h2s
      rw [ej, if_pos rfl, if_neg (by omega), half_txt h3]
      exact ih _ a' (by omega) (by omega) (by omega) (by omega) k2
    rw [show ((0 : Nat) : Int) = 0 from rfl] at k3
    rw [k3]
    by_cases hb : b' = true
    · rw [if_pos hb]
      by_cases c : s = 1
      · subst c
        rw [decide_eq_false (by omega), ej, if_neg (by decide)]
        have : a'.length < a.length := (k4 hb).elim (fun h => by cases h) id
        obtain ⟨r, r1, r2, r3, r4⟩ := ih 1 a' (by omega) (by omega) (by omega) (by omega) k2
        exact ⟨r, r1, r2.trans k1, r3, r4⟩
      · rw [decide_eq_true (by omega)]
        obtain ⟨r, r1, r2, r3, r4⟩ := half (by omega)
        exact ⟨r, r1, r2.trans k1, r3, r4⟩
    · rw [if_neg hb]
      obtain ⟨rfl, k7⟩ := k5 (Bool.eq_false_iff.2 hb)
      by_cases c : s = 1
      · subst c
        rw [ej, if_pos rfl, if_pos (show ((1 : Nat) : Int) = 1 from rfl)]
        unfold shrink_List.j0
        rw [slices_Clone_16.val _ (by omega), Option.bind_some]
        exact ⟨_, rfl, .refl _, h5, fun k hk => k7 rfl k (Nat.zero_le _) hk⟩
      · obtain ⟨r, r1, r2, r3, r4⟩ := half (by omega)
        exact ⟨r, r1, r2, r3, r4⟩
end
def cl (n : Int) : Int := if (if 1000 < n then 1000 else n) > 0 then (if 1000 < n then 1000 else n) else 0
theorem cl_in (n : Int) : 0 ≤ cl n ∧ cl n ≤ 1000 := by unfold cl; split <;> split at * <;> omega
def F (least : Int) (need x : List Int) : Bool := decide ((x.map cl).sum ≥ least) && need.all fun n => decide (n ∈ x)
theorem fails_loop {x : List Int} (hx : x.length ≤ 1000000) (least : Int) {need : List Int} (hn : need.length ≤ 4611686018427387904) : ∀ (d i : Nat) (acc : Int), i + d = x.length → 0 ≤ acc → acc ≤ 1000 * (i : Int) → acc + ((x.drop i).map cl).sum = (x.map cl).sum →
    roadlaw4_ShrinkSays_2.l0 least need x acc (x.length : Int) (i : Int) = some (F least need x) := by
  intro d
  induction d with
  | zero =>
    intro i acc h1 h2 h3 h4
    rw [roadlaw4_ShrinkSays_2.l0_eq, if_neg (by omega)]
    rw [List.drop_eq_nil_of_le (by omega)] at h4
    simp only [List.map_nil, List.sum_nil, Int.add_zero] at h4
    unfold F
    by_cases c : acc ≥ least
    · rw [if_pos c, slices_ContainsFunc_14.val (fun z => !decide (z ∈ x)) (fun z _ => by unfold roadlaw4_ShrinkSays_2_1; rw [slices_Contains_11.val _ (by omega), Option.bind_some]) hn, Option.bind_some]
      unfold roadlaw4_ShrinkSays_2.j0
      rw [decide_eq_true (by rw [← h4]; exact c), Bool.true_and]
      congr 1
      rw [List.any_eq_not_all_not, Bool.not_not]
      simp
    · rw [if_neg c, decide_eq_false (by rw [← h4]; exact c)]; rfl
  | succ d ih =>
    intro i acc h1 h2 h3 h4
    have hi : i < x.length := by omega
    rw [roadlaw4_ShrinkSays_2.l0_eq, if_pos (by omega), gi_at hi, Option.bind_some]
    have hc := cl_in x[i]
    show roadlaw4_ShrinkSays_2.l0 least need x (IntKind.wrap .i64 (acc + cl x[i])) _ _ = _
    rw [wrap_in (by omega) (by omega), w_succ (by omega)]
    refine ih (i + 1) _ (by omega) (by omega) (by omega) ?_
    rw [List.drop_eq_getElem_cons hi, List.map_cons, List.sum_cons] at h4
    omega
theorem fails_val {x : List Int} (hx : x.length ≤ 1000000) (least : Int) {need : List Int} (hn : need.length ≤ 4611686018427387904) : roadlaw4_ShrinkSays_2 x least need = some (F least need x) := by
  unfold roadlaw4_ShrinkSays_2
  exact fails_loop hx least hn x.length 0 0 (by omega) (by omega) (by omega) (by simp)
theorem within_loop {l : List Int} (hl : l.length ≤ 4611686018427387904) : ∀ (d i : Nat) (x : List Int), i + d = l.length → x.Sublist (l.drop i) → x.length ≤ 4611686018427387904 → roadlaw4_within.l0 x l (l.length : Int) (i : Int) = some true := by
  intro d
  induction d with
  | zero =>
    intro i x h1 h2 h3
    rw [List.drop_eq_nil_of_le (by omega)] at h2
    have := List.sublist_nil.1 h2
    subst this
    rw [roadlaw4_within.l0_eq, if_neg (by omega)]; rfl
  | succ d ih =>
    intro i x h1 h2 h3
    have hi : i < l.length := by omega
    rw [List.drop_eq_getElem_cons hi] at h2
    rw [roadlaw4_within.l0_eq, if_pos (by omega), gi_at hi, Option.bind_some]
    cases x with
    | nil =>
      rw [if_neg (by simp), roadlaw4_within.j0_eq, if_neg (by decide), w_succ (by omega)]
      exact ih (i + 1) [] (by omega) (List.nil_sublist _) (by simp)
    | cons y t =>
      rw [if_pos (by simp only [List.length_cons]; omega), gi_cons, Option.bind_some, roadlaw4_within.j0_eq]
      simp only [List.length_cons] at h3
      by_cases c : y = l[i]
      · rw [if_pos (by simp [c])]
        have hd : sls (y :: t) 1 ((List.length (y :: t) : Nat) : Int) = some t := by have := sls_drop (l := y :: t) (k := 1) (x := 1) rfl (by simp); exact this
        rw [hd, Option.bind_some, w_succ (by omega)]
        refine ih (i + 1) t (by omega) ?_ (by omega)
        rw [c] at h2
        exact List.cons_sublist_cons.1 h2
      · rw [if_neg (by simp [c]), w_succ (by omega)]
        refine ih (i + 1) (y :: t) (by omega) ?_ (by simp only [List.length_cons]; omega)
        rcases List.sublist_cons_iff.1 h2 with h | ⟨r, h, _⟩
        · exact h
        · cases h; exact absurd rfl c
theorem within_val {x l : List Int} (hl : l.length ≤ 4611686018427387904) (h : x.Sublist l) : roadlaw4_within x l = some true := by
  unfold roadlaw4_within
  exact within_loop hl l.length 0 x (by omega) (by simpa using h) (Nat.le_trans h.length_le hl)
theorem law_loop {x : List Int} (hx : x.length ≤ 200) (least : Int) {need : List Int} (hn : need.length ≤ 4611686018427387904) (hm : ∀ k, k < x.length → F least need (x.take k ++ x.drop (k + 1)) = false) : ∀ (d i : Nat), i + d = x.length → roadlaw4_ShrinkSays.l0 least need x (x.length : Int) (i : Int) = some true := by
  intro d
  induction d with
  | zero => intro i h; rw [roadlaw4_ShrinkSays.l0_eq, if_neg (by omega)]
  | succ d ih =>
    intro i h
    rw [roadlaw4_ShrinkSays.l0_eq, if_pos (by omega), sls_take rfl (by omega), Option.bind_some, w_succ (by omega), sls_drop rfl (by omega), Option.bind_some, slices_Concat_18.val _ (by simp) (by simp; omega), Option.bind_some]
    have e : ([x.take i, x.drop (i + 1)] : List (List Int)).flatten = x.take i ++ x.drop (i + 1) := by simp
    rw [e, fails_val (by rw [List.length_append, List.length_take, List.length_drop]; omega) least hn, Option.bind_some, hm i (by omega), if_neg (by decide)]
    exact ih (i + 1) (by omega)
theorem first_val : shrink_List ([4, 9, 4] : List Int) (fun z28 => roadlaw4_ShrinkSays_1 z28) = some ([9], 0) := by
  have hq : ∀ x : List Int, x.length ≤ 200 → roadlaw4_ShrinkSays_1 x = some (decide (9 ∈ x)) := fun x hx => by unfold roadlaw4_ShrinkSays_1; rw [slices_Contains_11.val _ (by omega), Option.bind_some]
  unfold shrink_List
  rw [if_neg (by decide), slices_Clone_16.val _ (by decide), Option.bind_some, slices_Clone_16.val _ (by decide), Option.bind_some]
  show Option.bind (roadlaw4_ShrinkSays_1 [4, 9, 4]) _ = _
  rw [hq _ (by decide), Option.bind_some, if_pos (by decide)]
  obtain ⟨r, r1, r2, r3, r4⟩ := list_val (l0 := fun a s => shrink_List.l0 (fun z28 => roadlaw4_ShrinkSays_1 z28) a s) (l1 := fun a s b i => shrink_List.l1 (fun z28 => roadlaw4_ShrinkSays_1 z28) a s b i) (j1 := fun a s b => shrink_List.j1 (fun z28 => roadlaw4_ShrinkSays_1 z28) a s b) hq
    (fun a s => shrink_List.l0_eq _ a s) (fun a s b i => shrink_List.l1_eq _ a s b i) (fun a s b => shrink_List.j1_eq _ a s b) 6 3 [4, 9, 4] (by decide) (by decide) (by decide) (by decide) (by decide)
  have h9 : 9 ∈ r := of_decide_eq_true r3
  obtain ⟨p, hp, e⟩ := List.mem_iff_getElem.1 h9
  have hone : r.length = 1 := by
    rcases Nat.lt_or_ge 1 r.length with h | h
    · exfalso
      -- another one is left out
      have main : ∀ k, k < r.length → k ≠ p → False := by
        intro k hk hkp
        have := r4 k hk
        refine absurd (of_decide_eq_false this) (fun hh => hh ?_)
        rcases Nat.lt_or_ge p k with g | g
        · exact List.mem_append_left _ (List.mem_take_iff_getElem.2 ⟨p, by omega, e⟩)
        · exact List.mem_append_right _ (List.mem_drop_iff_getElem.2 ⟨p - (k + 1), by omega, by simp only [show p - (k + 1) + (k + 1) = p by omega, show k + 1 + (p - (k + 1)) = p by omega]; exact e⟩)
      by_cases h0 : p = 0
      · exact main 1 h (by omega)
      · exact main 0 (by omega) (fun hh => h0 hh.symm)
    · omega
  have : r = [9] := by
    match r, hone, h9 with
    | [y], _, h => simp at h; rw [h]
  rw [this] at r1
  exact r1
theorem ShrinkSays (l need : List Int) (x : Int) (hl : l.length * 8 ≤ 140737488351232 ∧ ∀ y ∈ l, -9223372036854775808 ≤ y ∧ y ≤ 9223372036854775807) (hn : need.length * 8 ≤ 140737488351232 ∧ ∀ y ∈ need, -9223372036854775808 ≤ y ∧ y ≤ 9223372036854775807) (hx : -9223372036854775808 ≤ x ∧ x ≤ 9223372036854775807) : roadlaw4_ShrinkSays l need x = some true := by
  unfold roadlaw4_ShrinkSays
  rw [first_val, Option.bind_some, if_pos rfl]
  obtain ⟨b, b1, b2⟩ := slices_Equal_12.val [9] [9] (by decide)
  rw [b1, Option.bind_some, if_pos (b2.2 rfl)]
  unfold roadlaw4_ShrinkSays.j0
  have e5 : (if (5 : Int) < ((need.length : Nat) : Int) then (5 : Int) else ((need.length : Nat) : Int)) = ((min 5 need.length : Nat) : Int) := by split <;> omega
  rw [e5, sls_take rfl (by omega), Option.bind_some]
  generalize hL : IntKind.wrap .i64 (Int.tmod (IntKind.wrap .u64 x) 2000) = least
  generalize hN : need.take (min 5 need.length) = nd
  have hnd : nd.length ≤ 4611686018427387904 := by rw [← hN, List.length_take]; omega
  unfold shrink_List_s1
  by_cases c : l.length > 200
  · rw [if_pos (by omega), Option.bind_some, if_pos (by omega)]; rfl
  · rw [if_neg (by omega), slices_Clone_16.val _ (by omega), Option.bind_some, slices_Clone_16.val _ (by omega), Option.bind_some, fails_val (by omega) least hnd, Option.bind_some]
    by_cases g : F least nd l = true
    · rw [if_pos g]
      have key : ∃ r, shrink_List_s1.l0 least nd l ((l.length : Nat) : Int) = some (r, 0) ∧ r.Sublist l ∧ F least nd r = true ∧ ∀ k, k < r.length → F least nd (r.take k ++ r.drop (k + 1)) = false := by
        by_cases h0 : l.length = 0
        · have : l = [] := List.length_eq_zero_iff.1 h0
          subst this
          rw [shrink_List_s1.l0_eq, if_neg (by simp)]
          unfold shrink_List_s1.j0
          rw [slices_Clone_16.val _ (by simp), Option.bind_some]
          exact ⟨[], rfl, .refl _, g, fun k hk => by simp at hk⟩
        · exact list_val (P := fun x => roadlaw4_ShrinkSays_2 x least nd) (l0 := fun a s => shrink_List_s1.l0 least nd a s) (l1 := fun a s b i => shrink_List_s1.l1 least nd a s b i) (j1 := fun a s b => shrink_List_s1.j1 least nd a s b) (fun x hx => fails_val (by omega) least hnd)
            (fun a s => shrink_List_s1.l0_eq _ _ a s) (fun a s b i => shrink_List_s1.l1_eq _ _ a s b i) (fun a s b => shrink_List_s1.j1_eq _ _ a s b) (l.length + l.length) l.length l (by omega) (by omega) (by omega) (by omega) g
      obtain ⟨r, r1, r2, r3, r4⟩ := key
      have hr := r2.length_le
      rw [r1, Option.bind_some, if_neg (by omega), Option.bind_some, fails_val (by omega) least hnd, Option.bind_some, if_pos g, if_pos rfl, within_val (by omega) r2, Option.bind_some, if_pos rfl, slices_Clone_16.val _ (by show r.length * 8 ≤ _; omega), Option.bind_some, fails_val (by show r.length ≤ _; omega) least hnd, Option.bind_some]
      show (if F least nd r = true then _ else _) = _
      rw [if_pos r3]
      unfold roadlaw4_ShrinkSays.j1
      exact law_loop (by omega) least hnd r4 r.length 0 (by omega)
    · rw [if_neg g, Option.bind_some, if_neg (by omega), Option.bind_some, fails_val (by omega) least hnd, Option.bind_some, if_neg g]; rfl
end Go.Proofs.Ythnlhffpmlgmfaa.Fw

end
section
namespace Go.Proofs.Ythnlhffpmlgmfaa.shrinkSays
open Go Go.Hw Go.ChangeShapes Go.WideShapes Go.ChangeAt Go.RowKit Go.Proofs.Ythnlhffpmlgmfaa.Fw
open Go.ChangeMaps (open_string shut_string)
set_option linter.unusedVariables false
theorem own : ownKnob Try.prog.godebug = none := by kernel_rfl
theorem laidOut : laidOutB Try.prog = true := by kernel_rfl
set_option maxRecDepth 100000 in
theorem lifted (os : Os) (started : os.Started) (H : Type) (enc : TypeId × Value → H) :
    ReturnsInHanded {} Try.checked os 3 .any (Rows.shrinkSaysSpec.pre6 enc Try.prog Try.f3 Rows.shrinkSaysRow.domain false) (Rows.shrinkSaysSpec.post enc Try.prog Try.f3 false true false false) := by
  refine returnsInHanded_of_change_sized (C := Try.checked) own started (by kernel_rfl) Try.func3
    (ChangeSpec.witness6 (enc := enc) (C := Try.checked) false ⟨#[], #[(.slice none 0 0), (.slice none 0 0), (.int .i64 (0 : Int))], []⟩ 8 (by kernel_rfl) (by kernel_rfl) (by kernel_rfl) (by kernel_rfl)) ?_
  intro W base args ds gs before hval0 hW hcnd hsz0 _
  have hsz : (DataW.weightsEach Try.prog (Try.f3.params.toList ++ Rows.shrinkSaysSpec.plain.varTypes Try.prog) (ds ++ gs)).all (· ≤ reachBytes) = true := hsz0
  have hval : ∀ (j : Nat) t v, Try.f3.params[j]? = some t → args[j]? = some v → Value.okWide Try.prog W .any base t v := hval0
  have hW' := hW
  obtain ⟨p, q, hA0, hV, rfl, hfz, hnd⟩ := hW
  have hA : DataW.TrodAll enc Try.prog W 0 (fun _ => true) true Try.f3.params.toList args.toList ds p := hA0
  rw [Try.params3] at hA hval hsz
  obtain ⟨v0, vs0, d0, ds0, p0, q0_, hargs, rfl, rfl, h0, r0_⟩ := trodAll_cons hA
  obtain ⟨v1, vs1, d1, ds1, p1, q1_, rfl, rfl, rfl, h1, r1_⟩ := trodAll_cons r0_
  obtain ⟨v2, vs2, d2, ds2, p2, q2_, rfl, rfl, rfl, h2, r2_⟩ := trodAll_cons r1_
  obtain ⟨rfl, rfl, rfl⟩ := trodAll_nil r2_
  obtain rfl : args = #[v0, v1, v2] := by cases args; simp_all
  obtain ⟨rfl, rfl⟩ := trodVars_none hV
  have hs : (DataW.weightsEach Try.prog [22, 22, 3] [d0, d1, d2]).all (· ≤ reachBytes) = true := hsz
  simp only [DataW.weightsEach, List.append_nil, List.all_append, Bool.and_eq_true] at hs
  obtain ⟨hw0, hw1, hw2⟩ := hs
  have k0 := h0
  have lt0 : ∀ x ∈ p0, x.block < W.heap.size := by obtain ⟨m, hm⟩ := k0; exact DataW.trod_lt m _ _ _ hm
  obtain ⟨A0, n0, c0, rfl⟩ := okWide_slice (show Try.prog.underlying 22 = some (.slice 3) by kernel_rfl) (hval 0 22 v0 rfl rfl)
  obtain ⟨fuel0, hf0⟩ := h0
  obtain ⟨l0, ⟨A0', c0', hcs0, hle0, r0⟩, q0⟩ := (tells_sliceL (t := 22) (e := 3) (sz := 1) (B := 8) (by kernel_rfl) (by kernel_rfl) (by kernel_rfl) (tells_i64 (t := 3) (by kernel_rfl))) fuel0 _ _ hf0 hw0
  simp only [Value.cells, List.cons.injEq, Value.slice.injEq, and_true] at hcs0
  obtain ⟨rfl, rfl, rfl⟩ := hcs0
  have k1 := h1
  have lt1 : ∀ x ∈ p1, x.block < W.heap.size := by obtain ⟨m, hm⟩ := k1; exact DataW.trod_lt m _ _ _ hm
  obtain ⟨A1, n1, c1, rfl⟩ := okWide_slice (show Try.prog.underlying 22 = some (.slice 3) by kernel_rfl) (hval 1 22 v1 rfl rfl)
  obtain ⟨fuel1, hf1⟩ := h1
  obtain ⟨l1, ⟨A1', c1', hcs1, hle1, r1⟩, q1⟩ := (tells_sliceL (t := 22) (e := 3) (sz := 1) (B := 8) (by kernel_rfl) (by kernel_rfl) (by kernel_rfl) (tells_i64 (t := 3) (by kernel_rfl))) fuel1 _ _ hf1 hw1
  simp only [Value.cells, List.cons.injEq, Value.slice.injEq, and_true] at hcs1
  obtain ⟨rfl, rfl, rfl⟩ := hcs1
  have k2 := h2
  have lt2 : ∀ x ∈ p2, x.block < W.heap.size := by obtain ⟨m, hm⟩ := k2; exact DataW.trod_lt m _ _ _ hm
  obtain ⟨a2, rfl, rfl, rfl, w2⟩ := open_int (show Try.prog.underlying 3 = some (.int .i64) by kernel_rfl) (hval 2 3 v2 rfl rfl) h2
  refine ((Run.mono (R' := fun v h' => v = Value.bool true ∧ Ext W.heap h') (Fw.roadlaw4_ShrinkSays.walk (W := No) (Hold.start (Sub.refl _)) rfl hle0 r0 rfl hle1 r1 (Fw.ShrinkSays l0 l1 a2 q0 q1 (wf_i64 w2))) (fun v h' hp => by obtain ⟨m', st, hv⟩ := hp; exact ⟨hv, st.S.ext⟩)) W rfl).mono fun e W' he => ?_
  obtain ⟨v, rfl, ⟨rfl, ext⟩, same⟩ := he
  have bel := below_of ext same
  exact ⟨_, rfl, _, _, _, [], _, [], hW', trodAll_mk1 (shut_bool (show Try.prog.underlying 4 = some .bool by kernel_rfl) _), (trodAll_cons_mk (Below.trod laidOut (by kernel_rfl) (of_decide_eq_true (by kernel_rfl)) k0 bel lt0) (trodAll_cons_mk (Below.trod laidOut (by kernel_rfl) (of_decide_eq_true (by kernel_rfl)) k1 bel lt1) (trodAll_cons_mk (Below.trod laidOut (by kernel_rfl) (of_decide_eq_true (by kernel_rfl)) k2 bel lt2) trodAll_mk0))), rfl, bel.frame _, fun h => by cases h⟩
theorem over : Rows.shrinkSaysRow.holds Try.pinned (OpenSpec.ofChange Rows.shrinkSaysSpec) :=
  OpenClaim.holds_of_wide 3 Try.f3 rfl rfl rfl rfl rfl rfl rfl ⟨rfl, rfl, rfl, rfl, rfl⟩ rfl rfl rfl rfl rfl (by kernel_rfl) Try.func3 (by kernel_rfl)
    (of_decide_eq_true (by kernel_rfl)) (by unfold Func.isWrapper; first | (rw [if_pos (by decide +kernel)]; kernel_rfl) | (rw [if_neg (by decide +kernel)]; exact ⟨rfl, rfl⟩))
    (fun os started H enc _ => lifted os started H enc)
end Go.Proofs.Ythnlhffpmlgmfaa.shrinkSays
namespace Go.Proofs.Ythnlhffpmlgmfaa
theorem shrinkSays_holds : Rows.ShrinkSaysSaid := shrinkSays.over
end Go.Proofs.Ythnlhffpmlgmfaa

end
