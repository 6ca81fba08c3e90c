/- clear, slices.Delete; elements of a row at a place that is not known; arrays of any elements. -/
import Derived.Test.YtklobcelbpjjcacHwOc
import Derived.Test.YtklobcelbpjjcacHwWb
set_option linter.unusedVariables false
namespace Go.Hw
open Go
theorem zcells_mk (z : Array Value) (n : Nat) : zcells z n = mkCells z (n * z.size) := rfl
theorem sliceA_zero {A : Option Addr} {c sz : Nat} : sliceA A (Int.toNat (0 : Int)) c sz = A := by
  unfold sliceA
  split
  · rfl
  · cases A with
    | none => rfl
    | some a => simp [Addr.add]
section
variable {α : Type} {sz : Nat} {E : Heap → α → List Value → Prop} {T : Tell sz E} {m m' h h' h0 m0 : Heap} {A : Option Addr} {l l8 : List α} {c c2 n k : Nat} {W : Foot} {P : Program} {t e : TypeId} {zv : Value} {zp : α} {lo hi : Int} {Rs : List Res}
theorem zc_flat {z : Array Value} (hf : ∀ v ∈ z.toList, Flat v) (n : Nat) : ∀ v ∈ (zcells z n).toList, Flat v := by
  rw [zcells_mk, mkCells_flat rfl]
  intro v hv
  obtain ⟨l, h1, h2⟩ := List.mem_flatten.1 hv
  rw [(List.mem_replicate.1 h1).2] at h2
  exact hf v h2
theorem zc_cse {z : Array Value} (hE : E m zp z.toList) (T : Tell sz E) (n : Nat) : CsE sz E m (List.replicate n zp) (zcells z n).toList := by
  rw [zcells_mk, mkCells_flat rfl]
  exact CsE.rep hE (T.len _ _ _ hE) n
/-- What clear makes of a part of a row. -/
def clrL (l : List α) (lo hi : Int) (z : α) : List α := l.take lo.toNat ++ List.replicate (hi.toNat - lo.toNat) z ++ l.drop hi.toNat
theorem OS.clr (o : OS W h0 sz E h m A l c) (T : Tell sz E) (s : Sub m h) (h1 : 0 ≤ lo) (h2 : lo < hi) (h3 : hi ≤ (l.length : Int)) {z : Array Value} (hE : E m zp z.toList) : ∃ a h', sliceA A (Int.toNat lo) c sz = some a ∧ stH h a (zcells z (hi.toNat - lo.toNat)).toList 0 = some h' ∧ OS W h0 sz E h' m A (clrL l lo hi zp) c ∧ St (fp A c) h m h' m := by
  rcases o with ⟨rfl, rfl⟩ | ⟨b, t, pre, cs, rest, rfl, k1, k2, k3, k4, k5, k6⟩
  · simp at h3; omega
  have hl := k2.len
  have hzs : z.size = sz := by have := T.len _ _ _ hE; simpa using this
  have e2 : hi.toNat * sz ≤ l.length * sz := Nat.mul_le_mul_right _ (by omega)
  have e3 : lo.toNat * sz ≤ hi.toNat * sz := Nat.mul_le_mul_right _ (by omega)
  have hm : ¬ c = lo.toNat := by omega
  have hb : Blk h b ((pre ++ cs.take (lo.toNat * sz)) ++ (cs.take (hi.toNat * sz)).drop (lo.toNat * sz) ++ (cs.drop (hi.toNat * sz) ++ rest)) t := by
    have : (pre ++ cs.take (lo.toNat * sz)) ++ (cs.take (hi.toNat * sz)).drop (lo.toNat * sz) ++ (cs.drop (hi.toNat * sz) ++ rest) = pre ++ cs ++ rest := by
      have e4 : cs.take (lo.toNat * sz) = (cs.take (hi.toNat * sz)).take (lo.toNat * sz) := by rw [List.take_take, Nat.min_eq_left e3]
      rw [e4, List.append_assoc pre, List.take_append_drop, ← List.append_assoc, List.append_assoc pre, List.take_append_drop]
    rw [this]; exact k1
  have hzl : (zcells z (hi.toNat - lo.toNat)).toList.length = hi.toNat * sz - lo.toNat * sz := by rw [zc_len, hzs, Nat.sub_mul]
  obtain ⟨h', s1, b1, o1⟩ := Blk.stH (zcells z (hi.toNat - lo.toNat)).toList (a := (⟨b, pre.length, none⟩ : Addr).add (lo.toNat * sz)) (i := 0) hb (by rw [add_block]) (add_spot _ rfl)
    (by rw [add_off, List.length_append, List.length_take]; simp only [Nat.add_zero]; omega) (by rw [hzl, List.length_drop, List.length_take]; omega) (zc_flat (T.flat _ _ _ hE) _)
  refine ⟨_, h', ?_, s1, .inr ⟨b, t, pre, cs.take (lo.toNat * sz) ++ (zcells z (hi.toNat - lo.toNat)).toList ++ cs.drop (hi.toNat * sz), rest, rfl, ?_, ?_, ?_, ?_, k5, k6⟩, ?_⟩
  · unfold sliceA; rw [if_neg hm]; rfl
  · have : pre ++ (cs.take (lo.toNat * sz) ++ (zcells z (hi.toNat - lo.toNat)).toList ++ cs.drop (hi.toNat * sz)) ++ rest = (pre ++ cs.take (lo.toNat * sz)) ++ (zcells z (hi.toNat - lo.toNat)).toList ++ (cs.drop (hi.toNat * sz) ++ rest) := by simp only [List.append_assoc]
    rw [this]; exact b1
  · exact ((k2.take lo.toNat).append (zc_cse hE T _)).append (k2.drop hi.toNat)
  · unfold clrL; simp only [List.length_append, List.length_take, List.length_replicate, List.length_drop]; omega
  · have : (clrL l lo hi zp).length = l.length := by unfold clrL; simp only [List.length_append, List.length_take, List.length_replicate, List.length_drop]; omega
    rw [this]; exact k4
  · refine ⟨.refl _, fun i o1' j1 j2 => ?_, by rw [o1.1]; exact Nat.le_refl _, fun i hi hw => o1.2 i fun e => hw ⟨by omega, _, rfl, e.symm⟩, fun i _ hl => .inl hl⟩
    rw [o1.2 i (fun e => k6 (e ▸ ⟨o1', j1, j2⟩))]; exact s i o1' j1 j2
theorem clrL_len {l : List α} {lo hi : Int} {z : α} (h2 : lo ≤ hi) (h3 : hi ≤ (l.length : Int)) : l.length = (clrL l lo hi z).length := by
  unfold clrL; simp only [List.length_append, List.length_take, List.length_replicate, List.length_drop]; omega
theorem Hold.clr {K : Value → Heap → Prop} (O : Hold W h0 m0 h m Rs) (k : Nat) (hk : Rs[k]? = some (rR (aE T) A c l)) (g : Hw.sls l lo hi = some l8) (hu : P.underlying t = some (.slice e)) (hz : zeroOf P e = some zv) (hE : E m zp zv.cells.toList)
    (H : ∀ h', Hold W h0 m0 h' m (Rs.set k (rR (aE T) A c (clrL l lo hi zp))) → K (.tuple #[]) h') : Gen P (Builtin.clear_ #[t] 0 #[.slice (sliceA A (Int.toNat lo) c sz) l8.length c2]) h K := by
  obtain ⟨h1, h2, h3, h4, _⟩ := sls_e g
  by_cases he : lo = hi
  · subst he
    have : l8.length = 0 := by omega
    rw [this]
    refine gen_clear0 hu (H h ?_)
    have e : clrL l lo lo zp = l := by unfold clrL; simp
    rw [e]
    exact O.conv k hk (R' := rR (aE T) A c l) fun F hF => ⟨F, hF, fun _ h => h⟩
  · obtain ⟨a, h', k1, k2, k3, k4⟩ := (O.os k hk).clr T O.s h1 (by omega) h3 hE
    rw [k1]
    obtain ⟨j, hj⟩ : ∃ j, l8.length = j + 1 := ⟨l8.length - 1, by omega⟩
    rw [hj]
    refine gen_clear hu hz (h' := h') ?_ (H h' (O.setR k hk k3 k4))
    have : j + 1 = hi.toNat - lo.toNat := by omega
    rw [this]; exact k2
/-- slices.Delete. -/
theorem delete_ok {R : Value → Heap → Prop} {x1 x2 : Int} {bytes : Nat} {z : Array Value} (O : Hold W h0 m0 h m Rs) (k : Nat) (hk : Rs[k]? = some (rR (aE T) A c l)) (hu : P.underlying t = some (.slice e)) (hz : zeroOf P e = some zv) (hE : E m zp zv.cells.toList) (g : 0 ≤ x1 ∧ x1 ≤ x2 ∧ x2 ≤ (l.length : Int))
    (H : ∀ h', Hold W h0 m0 h' m (Rs.set k (rR (aE T) A c (l.take x1.toNat ++ l.drop x2.toNat))) → R (.slice A (l.take x1.toNat ++ l.drop x2.toNat).length c) h') :
    0 ≤ x1 ∧ x1 ≤ x2 ∧ x2 ≤ ((l.length : Nat) : Int) ∧ ((l.length : Nat) : Int) ≤ ((c : Nat) : Int) ∧ (splitB (x1 == x2) (R (Value.slice A l.length c) h) (0 ≤ (0 : Int) ∧ (0 : Int) ≤ x1 ∧ x1 ≤ ((c : Nat) : Int) ∧ (0 ≤ x2 ∧ x2 ≤ ((l.length : Nat) : Int) ∧ ((l.length : Nat) : Int) ≤ ((c : Nat) : Int) ∧ (AppW e sz bytes z (sliceA A (Int.toNat (0 : Int)) c sz) (Int.toNat x1 - Int.toNat (0 : Int)) (c - Int.toNat (0 : Int)) (Value.slice (sliceA A (Int.toNat x2) c sz) (Int.toNat ((l.length : Nat) : Int) - Int.toNat x2) (c - Int.toNat x2)) h fun v1_ h2_ => ∃ A3_, ∃ n3_, ∃ c3_, v1_ = (Value.slice A3_ n3_ c3_) ∧ 0 ≤ ((n3_ : Nat) : Int) ∧ ((n3_ : Nat) : Int) ≤ ((l.length : Nat) : Int) ∧ ((l.length : Nat) : Int) ≤ ((c3_ : Nat) : Int) ∧ (Gen P (Builtin.clear_ #[t] 0 #[(Value.slice (sliceA A3_ (Int.toNat ((n3_ : Nat) : Int)) c3_ sz) (Int.toNat ((l.length : Nat) : Int) - Int.toNat ((n3_ : Nat) : Int)) (c3_ - Int.toNat ((n3_ : Nat) : Int)))]) h2_ fun v4_ h5_ => v4_ = (Value.tuple #[]) ∧ R (Value.slice A3_ n3_ c3_) h5_))))) := by
  obtain ⟨g1, g2, g3⟩ := g
  have hc := O.cap k hk
  have o := O.os k hk
  refine ⟨g1, g2, g3, by omega, ?_⟩
  refine split_eq (fun q => ?_) (fun q => ?_)
  · subst q
    have e1 : l.take x1.toNat ++ l.drop x1.toNat = l := List.take_append_drop _ _
    have := H h (by rw [e1]; exact O.conv k hk (R' := rR (aE T) A c l) fun F hF => ⟨F, hF, fun _ h => h⟩)
    rw [e1] at this
    exact this
  · refine ⟨by decide, g1, by omega, by omega, g3, by omega, ?_⟩
    have w1 : sls l 0 x1 = some (l.take x1.toNat) := by rw [sls_of (by omega) g1 (by omega), sl_hi]
    have w2 : sls l x2 (l.length : Int) = some (l.drop x2.toNat) := by rw [sls_of (by omega) g3 (by omega), sl_lo]
    have o1 := o.sls w1 (mx := c) (by omega) (Nat.le_refl _)
    rw [sliceA_zero] at o1 ⊢
    have o2 := o.sls w2 (mx := c) (by omega) (Nat.le_refl _)
    have e1 : Int.toNat x1 - Int.toNat (0 : Int) = (l.take x1.toNat).length := by rw [List.length_take]; omega
    have e2 : Int.toNat ((l.length : Nat) : Int) - Int.toNat x2 = (l.drop x2.toNat).length := by rw [List.length_drop]; omega
    have hlen : (l.take x1.toNat).length + (l.drop x2.toNat).length ≤ l.length := by rw [List.length_take, List.length_drop]; omega
    refine OS.app_in o1 T O.S e1 (o2.srcE e2) (by rw [show c - Int.toNat (0 : Int) = c by simp]; omega) fun h2 o3 S3 => ?_
    rw [show c - Int.toNat (0 : Int) = c by simp] at o3 S3 ⊢
    refine ⟨_, _, _, rfl, Int.natCast_nonneg _, by rw [List.length_append]; omega, by omega, ?_⟩
    rw [show Int.toNat (((l.take x1.toNat ++ l.drop x2.toNat).length : Nat) : Int) = (l.take x1.toNat ++ l.drop x2.toNat).length from rfl, show Int.toNat ((l.length : Nat) : Int) = l.length from rfl]
    by_cases hd : l.length - (l.take x1.toNat ++ l.drop x2.toNat).length = 0
    · rw [hd]
      exact gen_clear0 hu ⟨rfl, H h2 (O.setR k hk o3 S3)⟩
    · obtain ⟨j, hj⟩ : ∃ j, l.length - (l.take x1.toNat ++ l.drop x2.toNat).length = j + 1 := ⟨l.length - (l.take x1.toNat ++ l.drop x2.toNat).length - 1, by omega⟩
      rw [hj]
      have hzs : zv.cells.size = sz := by have := T.len _ _ _ hE; simpa using this
      have hcne : c ≠ 0 := by omega
      obtain ⟨a, ha⟩ : ∃ a, A = some a := by
        rcases o with ⟨rfl, hc0⟩ | ⟨b, t, pre, cs, rest, rfl, _⟩
        · exact absurd hc0 hcne
        · exact ⟨_, rfl⟩
      obtain ⟨h5, s5, o5, S5⟩ := o3.spare (O.setR k hk o3 S3).s (ds := (zcells zv.cells (j + 1)).toList) (by
        rw [zc_len, hzs, ← Nat.add_mul]; exact Nat.mul_le_mul_right _ (by omega)) (zc_flat (T.flat _ _ _ hE) _) ha hcne
      have e5 : sliceA A (l.take x1.toNat ++ l.drop x2.toNat).length c sz = some (a.add ((l.take x1.toNat ++ l.drop x2.toNat).length * sz)) := by
        unfold sliceA; rw [if_neg (by omega), ha]; rfl
      rw [e5]
      refine gen_clear hu hz (h' := h5) s5 ⟨rfl, H h5 (O.setR k hk o5 (S3.then S5 fun b _ hb => .inr hb))⟩
end
end Go.Hw
namespace Go.Hw
open Go
section
variable {α : Type} {sz n : Nat} {E : Heap → α → List Value → Prop} {T : Tell sz E} {m m' h h' h0 m0 : Heap} {A : Option Addr} {l l' : List α} {c k : Nat} {W : Foot} {x j : Int} {y y' : α} {v : Value} {Rs : List Res} {aa : Addr} {K : Heap → Prop} {cs : List Value}
theorem gi_put (g : gi l x = some y) (e : l.set (Int.toNat x) y' = l') : gi l' x = some y' := by
  subst e
  have h1 := gi_le g
  have h2 := gi_ltN g
  unfold gi
  rw [if_pos h1, List.getElem?_set_self h2]
/-- Into an array that is an element of a row. -/
theorem Hold.elArr {β : Type} {f : β → Value} {d : β} {l l' : List (List β)} {y : List β} {w u : β} {T : Tell n (eArr n f d)} (O : Hold W h0 m0 h m Rs) (k : Nat) (hk : Rs[k]? = some (rR (aE T) A c l)) (g : gi l x = some y) (ha : A = some aa) (hc : cellsH h (Addr.add aa (Int.toNat x * n)) 0 n = some ((List.range n).map fun j => f (y.getD j d))) (ql : y.length = n) (gj : gi y j = some w) (hf : Flat (f u)) (e : l.set (Int.toNat x) (y.set (Int.toNat j) u) = l')
    (H : ∀ h', Hold W h0 m0 h' m (Rs.set k (rR (aE T) A c l')) → K h') : ∃ h', st1 h (Addr.add (Addr.add aa (Int.toNat x * n)) (Int.toNat j * 1)) (f u) = some h' ∧ K h' := by
  rw [Nat.mul_one]
  have hlt : j.toNat < n := by have := gi_ltN gj; omega
  refine O.elst k hk g ha hc j.toNat hlt (y' := y.set (Int.toNat j) u) ⟨by rw [List.length_set]; exact ql, ?_⟩ hf e H
  rw [arr_set ql]
/-! ### Arrays of any elements, told -/
def eArrE (n sz : Nat) (E : Heap → α → List Value → Prop) (m : Heap) (l : List α) (cs : List Value) : Prop := CsE sz E m l cs ∧ l.length = n
theorem tell_arrE (n : Nat) (T : Tell sz E) : Tell (n * sz) (eArrE n sz E) := ⟨fun _ _ _ _ s h => ⟨h.1.sub T s, h.2⟩, fun _ _ _ h => by rw [h.1.len, h.2], fun _ _ _ h => h.1.flat T⟩
theorem arrE_zero {z : α} {zc : List Value} (hz : E m z zc) (T : Tell sz E) (n : Nat) : eArrE n sz E m (List.replicate n z) ((List.replicate n zc).flatten) := ⟨CsE.rep hz (T.len _ _ _ hz) n, by simp⟩
theorem eArrE.get1 {E : Heap → α → List Value → Prop} (e : eArrE n 1 E m l cs) (g : gi l x = some y) : ∃ v, cs[Int.toNat x * 1]? = some v ∧ E m y [v] := by
  obtain ⟨h1, h2⟩ := e.1.get (gi_get g)
  simp only [Nat.mul_one] at h1 h2 ⊢
  refine ⟨cs[x.toNat]'(by omega), List.getElem?_eq_getElem _, ?_⟩
  have : (cs.drop x.toNat).take 1 = [cs[x.toNat]'(by omega)] := by
    rw [List.drop_eq_getElem_cons (by omega), List.take_succ_cons, List.take_zero]
  rwa [this] at h1
theorem eArrE.set1 {E : Heap → α → List Value → Prop} (e : eArrE n 1 E m l cs) (g : gi l x = some y) (he : E m y' [v]) (e' : l.set (Int.toNat x) y' = l') : eArrE n 1 E m l' (cs.set (Int.toNat x * 1) v) := by
  subst e'
  have hlt := gi_ltN g
  have := CsE.set (sz := 1) (c1 := [v]) he rfl e.1 hlt
  have hl := e.1.len
  refine ⟨?_, by rw [List.length_set]; exact e.2⟩
  have e2 : cs.set (x.toNat * 1) v = List.take (x.toNat * 1) cs ++ [v] ++ List.drop (x.toNat * 1 + 1) cs := by
    rw [List.set_eq_take_append_cons_drop, if_pos (by omega), List.append_assoc]; rfl
  rw [e2]; exact this
theorem eArrE.lt {E : Heap → α → List Value → Prop} (e : eArrE n 1 E m l cs) (g : gi l x = some y) : Int.toNat x * 1 < cs.length := by
  have hlt := gi_ltN g
  have hl := e.1.len
  omega
theorem eArrE.ltn {E : Heap → α → List Value → Prop} (e : eArrE n sz E m l cs) (g : gi l x = some y) : x < ((n : Nat) : Int) := by
  have := gi_lt g; rw [e.2] at this; exact this
end
/-! ### Maps that may be nil, settled -/
section
variable {κ ν : Type} [DecidableEq κ] {h m : Heap} {p : Option Nat} {kv : κ → Value} {es : List (κ × ν)} {q : κ} {zv : ν} {z : Value} {P : Program} {t elem : TypeId} {EV : Heap → ν → Value → Prop}
def FMo (EV : Heap → ν → Value → Prop) (kv : κ → Value) (m : Heap) (p : Option Nat) (es : List (κ × ν)) : Prop := match p with | none => es = [] | some b => FM EV kv m b es
omit [DecidableEq κ] in
theorem FMo.sub (f : FMo EV kv m p es) (M : MonoV EV) (s : Sub m h) : FMo EV kv h p es := by
  cases p with
  | none => exact f
  | some b => exact FM.sub M f s
end
end Go.Hw
namespace Go.Hw
open Go
section
variable {α : Type} {f : α → Value} {d : α} {L : List α} {n off b : Nat} {m : Heap} {cs : List Value} {t : TypeId} {E : Heap → α → List Value → Prop} {ad : Addr}
/-- A part of a settled variable that is an array, as a row. -/
theorem arrRd (hb : Blk m b cs t) (off : Nat) (had : ad = (⟨b, 0, none⟩ : Addr).add off) (hs : (cs.drop off).take n = (List.range n).map fun j => f (L.getD j d)) (ql : L.length = n) (hE : ∀ x, E m x [f x]) : Rd 1 E m (some (if n = Int.toNat (0 : Int) then ad else Addr.add ad (Int.toNat (0 : Int) * 1))) L := by
  intro i hi
  subst had
  rw [if_neg (by simp; omega)]
  refine ⟨_, [f L[i]], rfl, ?_, hE _⟩
  rw [arr_lit ql] at hs
  have h1 : ((cs.drop off).take n)[i]? = some (f L[i]) := by
    rw [hs, List.getElem?_map, List.getElem?_eq_getElem hi]; rfl
  rw [List.getElem?_take_of_lt (by omega), List.getElem?_drop] at h1
  have hlt : off + i < cs.length := (List.getElem?_eq_some_iff.1 h1).1
  have := hb.cells (a := ((⟨b, 0, none⟩ : Addr).add off).add (i * 1)) (by rw [add_block, add_block]) (add_spot _ (add_spot _ rfl)) 1 0 (by rw [add_off, add_off]; simp; omega)
  have e1 : Addr.add ((⟨b, 0, none⟩ : Addr).add off) (Int.toNat (0 : Int) * 1) = (⟨b, 0, none⟩ : Addr).add off := by simp [Addr.add]
  rw [e1, this, add_off, add_off]
  simp only [Nat.add_zero, Nat.zero_add, Nat.mul_one]
  rw [List.drop_eq_getElem_cons hlt, List.take_succ_cons, List.take_zero]
  congr 2
  rw [List.getElem?_eq_getElem hlt] at h1
  exact Option.some.inj h1
end
/-! ### Keys that are arrays of numbers -/
section
variable {P : Program} {t : TypeId}
def arrKey (n : Nat) (f : Int → Value) (l : List Int) : Value := .agg ((List.range n).map fun j => f (l.getD j 0)).toArray
end
end Go.Hw
