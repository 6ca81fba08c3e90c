/- slices.Insert of a row that was taken over: in its place, or in a new row. -/
import Derived.Test.YtklobcelbpjjcacHwOh
set_option linter.unusedVariables false
namespace Go.Hw
open Go
section
variable {α : Type} {sz : Nat} {E : Heap → α → List Value → Prop} {T : Tell sz E} {m h h' h0 m0 : Heap} {A B : Option Addr} {l vs : List α} {c cB : Nat} {W : Foot} {P : Program} {e t ty : TypeId} {rs : Array TypeId} {i : TypeInfo}
/-- Something that can be read lies in memory that stays. -/
theorem cell_live {a : Addr} {v : Value} (hc : cellH m a = some v) : Live m a.block ∧ ∃ cA t f, m[a.block]? = some (.cells cA t f) ∧ cA.size ≠ 0 := by
  unfold cellH at hc
  split at hc
  · rename_i cA t f hm
    have hsz : cA.size ≠ 0 := by
      intro h0
      split at hc
      · cases hc
      · have := (Array.getElem?_eq_some_iff.1 hc).1; omega
    exact ⟨⟨_, hm, fun hd => by unfold dead at hd; injection hd with h1; subst h1; exact hsz rfl⟩, cA, t, f, hm, hsz⟩
  · cases hc
theorem Rd.live (r : Rd sz E m B vs) (hn : vs ≠ []) (hs : 0 < sz) : ∃ b, B = some b ∧ Live m b.block ∧ ∃ cA t f, m[b.block]? = some (.cells cA t f) ∧ cA.size ≠ 0 := by
  have hl : 0 < vs.length := by cases vs with | nil => exact absurd rfl hn | cons => simp
  obtain ⟨a, cs, hB, hc, _⟩ := r 0 hl
  obtain ⟨n, rfl⟩ : ∃ n, sz = n + 1 := ⟨sz - 1, by omega⟩
  unfold cellsH at hc
  split at hc
  · rename_i v hv
    have := cell_live hv
    rw [add_block, add_block] at this
    exact ⟨a, hB, this⟩
  · cases hc
theorem Only.sub {b : Nat} (s : Sub m h) (hn : ¬ Live m b) (o : Only h h' b) : Sub m h' := fun i o1 j1 j2 => by rw [o.2 i (fun e => hn (e ▸ ⟨o1, j1, j2⟩))]; exact s i o1 j1 j2
theorem St.fpOnly {b : Nat} {o : Nat} (s : Sub m h) (hn : ¬ Live m b) (hc : c ≠ 0) (o' : Only h h' b) : St (fp (some ⟨b, o, none⟩) c) h m h' m :=
  ⟨.refl _, o'.sub s hn, by rw [o'.1]; exact Nat.le_refl _, fun i hi hw => o'.2 i fun e => hw ⟨hc, _, rfl, e.symm⟩, fun i _ hl => .inl hl⟩
theorem src_cells (r : Rd sz E m B vs) (T : Tell sz E) (s : Sub m h) {b : Addr} (hB : B = some b) : ∃ es, cellsH h b 0 (vs.length * sz) = some es ∧ CsE sz E m vs es := by
  subst hB
  obtain ⟨es, h1, h2⟩ := r.srcE (c := 0) T s rfl
  unfold srcCells at h1
  simp only [Option.map_eq_some_iff] at h1
  obtain ⟨l, h3, h4⟩ := h1
  cases h4
  exact ⟨_, h3, h2⟩
def infoB (P : Program) (e : TypeId) (sz : Nat) : Bool := match P.info? e with | some i => i.size == sz | none => false
theorem infoB_e (h : infoB P e sz = true) : ∃ i, P.info? e = some i ∧ i.size = sz := by
  unfold infoB at h
  split at h
  · rename_i i hi; exact ⟨i, hi, beq_iff_eq.1 h⟩
  · cases h
set_option maxHeartbeats 1000000 in
theorem insert_ok {R : Value → Heap → Prop} {x1 : Int} {bytes ov rot : Nat} {z : Array Value} {fn : Func} (O : Hold W h m h m [rR (aE T) A c l]) (r2 : Rd sz E m B vs) (hsz : 0 < sz) (hu : P.underlying t = some (.slice e)) (hinf : infoB P e sz = true) (hz : z.size = sz) (hb0 : 0 < bytes)
    (x1f : P.funcs[ov]? = some fn) (x2f : (fn.name == "runtime.NumGoroutine") = false) (x3f : fn.body.isNone = true) (x4f : Extern.findNext fn = none) (x5f : Extern.find fn = some (Extern.SlicesOverlaps.overlaps #[t, t] rs))
    (g : 0 ≤ x1 ∧ x1 ≤ (l.length : Int)) (gb : (l.length + vs.length) * bytes ≤ 140737488355328) (gn : l.length + vs.length ≤ 4611686018427387904)
    (H : ∀ A' c' h', Hold W h m h' m [rR (aE T) A' c' (l.take x1.toNat ++ vs ++ l.drop x1.toNat)] → R (.slice A' (l.length + vs.length) c') h') :
    0 ≤ x1 ∧ x1 ≤ ((l.length : Nat) : Int) ∧ ((l.length : Nat) : Int) ≤ ((c : Nat) : Int) ∧ (splitB (((vs.length : Nat) : Int) == (0 : Int)) (R (Value.slice A l.length c) h) (splitB (x1 == ((l.length : Nat) : Int)) (AppW e sz bytes z A l.length c (Value.slice B vs.length cB) h fun v1_ h2_ => ∃ A3_, ∃ n3_, ∃ c3_, v1_ = (Value.slice A3_ n3_ c3_) ∧ R (Value.slice A3_ n3_ c3_) h2_) (splitB (decide ((IntKind.wrap .i64 (((l.length : Nat) : Int) + ((vs.length : Nat) : Int))) > ((c : Nat) : Int))) (0 ≤ (0 : Int) ∧ (0 : Int) ≤ x1 ∧ x1 ≤ ((c : Nat) : Int) ∧ (AppZ e sz bytes z (sliceA A (Int.toNat (0 : Int)) c sz) (Int.toNat x1 - Int.toNat (0 : Int)) (c - Int.toNat (0 : Int)) (Value.int .i64 (IntKind.wrap .i64 ((IntKind.wrap .i64 (((l.length : Nat) : Int) + ((vs.length : Nat) : Int))) - x1))) h fun v4_ h5_ => ∃ A6_, ∃ n6_, ∃ c6_, v4_ = (Value.slice A6_ n6_ c6_) ∧ 0 ≤ x1 ∧ x1 ≤ ((n6_ : Nat) : Int) ∧ ((n6_ : Nat) : Int) ≤ ((c6_ : Nat) : Int) ∧ (Gen P (Builtin.copy_ #[t, t] ty #[(Value.slice (sliceA A6_ (Int.toNat x1) c6_ sz) (Int.toNat ((n6_ : Nat) : Int) - Int.toNat x1) (c6_ - Int.toNat x1)), (Value.slice B vs.length cB)]) h5_ fun v7_ h8_ => ∃ x9_, v7_ = (Value.int .i64 x9_) ∧ 0 ≤ (IntKind.wrap .i64 (x1 + ((vs.length : Nat) : Int))) ∧ (IntKind.wrap .i64 (x1 + ((vs.length : Nat) : Int))) ≤ ((n6_ : Nat) : Int) ∧ ((n6_ : Nat) : Int) ≤ ((c6_ : Nat) : Int) ∧ (0 ≤ x1 ∧ x1 ≤ ((l.length : Nat) : Int) ∧ ((l.length : Nat) : Int) ≤ ((c : Nat) : Int) ∧ (Gen P (Builtin.copy_ #[t, t] ty #[(Value.slice (sliceA A6_ (Int.toNat (IntKind.wrap .i64 (x1 + ((vs.length : Nat) : Int)))) c6_ sz) (Int.toNat ((n6_ : Nat) : Int) - Int.toNat (IntKind.wrap .i64 (x1 + ((vs.length : Nat) : Int)))) (c6_ - Int.toNat (IntKind.wrap .i64 (x1 + ((vs.length : Nat) : Int))))), (Value.slice (sliceA A (Int.toNat x1) c sz) (Int.toNat ((l.length : Nat) : Int) - Int.toNat x1) (c - Int.toNat x1))]) h8_ fun v10_ h11_ => ∃ x12_, v10_ = (Value.int .i64 x12_) ∧ R (Value.slice A6_ n6_ c6_) h11_))))) (0 ≤ (0 : Int) ∧ (0 : Int) ≤ (IntKind.wrap .i64 (((l.length : Nat) : Int) + ((vs.length : Nat) : Int))) ∧ (IntKind.wrap .i64 (((l.length : Nat) : Int) + ((vs.length : Nat) : Int))) ≤ ((c : Nat) : Int) ∧ (0 ≤ (IntKind.wrap .i64 (x1 + ((vs.length : Nat) : Int))) ∧ (IntKind.wrap .i64 (x1 + ((vs.length : Nat) : Int))) ≤ (((Int.toNat (IntKind.wrap .i64 (((l.length : Nat) : Int) + ((vs.length : Nat) : Int))) - Int.toNat (0 : Int)) : Nat) : Int) ∧ (((Int.toNat (IntKind.wrap .i64 (((l.length : Nat) : Int) + ((vs.length : Nat) : Int))) - Int.toNat (0 : Int)) : Nat) : Int) ≤ (((c - Int.toNat (0 : Int)) : Nat) : Int) ∧ (ExtF P ov #[(Value.slice B vs.length cB), (Value.slice (sliceA (sliceA A (Int.toNat (0 : Int)) c sz) (Int.toNat (IntKind.wrap .i64 (x1 + ((vs.length : Nat) : Int)))) (c - Int.toNat (0 : Int)) sz) (Int.toNat (((Int.toNat (IntKind.wrap .i64 (((l.length : Nat) : Int) + ((vs.length : Nat) : Int))) - Int.toNat (0 : Int)) : Nat) : Int) - Int.toNat (IntKind.wrap .i64 (x1 + ((vs.length : Nat) : Int)))) ((c - Int.toNat (0 : Int)) - Int.toNat (IntKind.wrap .i64 (x1 + ((vs.length : Nat) : Int)))))] h fun v13_ h14_ => ∃ b15_, v13_ = (Value.bool b15_) ∧ splitB (!b15_) (0 ≤ (IntKind.wrap .i64 (x1 + ((vs.length : Nat) : Int))) ∧ (IntKind.wrap .i64 (x1 + ((vs.length : Nat) : Int))) ≤ (((Int.toNat (IntKind.wrap .i64 (((l.length : Nat) : Int) + ((vs.length : Nat) : Int))) - Int.toNat (0 : Int)) : Nat) : Int) ∧ (((Int.toNat (IntKind.wrap .i64 (((l.length : Nat) : Int) + ((vs.length : Nat) : Int))) - Int.toNat (0 : Int)) : Nat) : Int) ≤ (((c - Int.toNat (0 : Int)) : Nat) : Int) ∧ (0 ≤ x1 ∧ x1 ≤ (((Int.toNat (IntKind.wrap .i64 (((l.length : Nat) : Int) + ((vs.length : Nat) : Int))) - Int.toNat (0 : Int)) : Nat) : Int) ∧ (((Int.toNat (IntKind.wrap .i64 (((l.length : Nat) : Int) + ((vs.length : Nat) : Int))) - Int.toNat (0 : Int)) : Nat) : Int) ≤ (((c - Int.toNat (0 : Int)) : Nat) : Int) ∧ (Gen P (Builtin.copy_ #[t, t] ty #[(Value.slice (sliceA (sliceA A (Int.toNat (0 : Int)) c sz) (Int.toNat (IntKind.wrap .i64 (x1 + ((vs.length : Nat) : Int)))) (c - Int.toNat (0 : Int)) sz) (Int.toNat (((Int.toNat (IntKind.wrap .i64 (((l.length : Nat) : Int) + ((vs.length : Nat) : Int))) - Int.toNat (0 : Int)) : Nat) : Int) - Int.toNat (IntKind.wrap .i64 (x1 + ((vs.length : Nat) : Int)))) ((c - Int.toNat (0 : Int)) - Int.toNat (IntKind.wrap .i64 (x1 + ((vs.length : Nat) : Int))))), (Value.slice (sliceA (sliceA A (Int.toNat (0 : Int)) c sz) (Int.toNat x1) (c - Int.toNat (0 : Int)) sz) (Int.toNat (((Int.toNat (IntKind.wrap .i64 (((l.length : Nat) : Int) + ((vs.length : Nat) : Int))) - Int.toNat (0 : Int)) : Nat) : Int) - Int.toNat x1) ((c - Int.toNat (0 : Int)) - Int.toNat x1))]) h14_ fun v16_ h17_ => ∃ x18_, v16_ = (Value.int .i64 x18_) ∧ 0 ≤ x1 ∧ x1 ≤ (((Int.toNat (IntKind.wrap .i64 (((l.length : Nat) : Int) + ((vs.length : Nat) : Int))) - Int.toNat (0 : Int)) : Nat) : Int) ∧ (((Int.toNat (IntKind.wrap .i64 (((l.length : Nat) : Int) + ((vs.length : Nat) : Int))) - Int.toNat (0 : Int)) : Nat) : Int) ≤ (((c - Int.toNat (0 : Int)) : Nat) : Int) ∧ (Gen P (Builtin.copy_ #[t, t] ty #[(Value.slice (sliceA (sliceA A (Int.toNat (0 : Int)) c sz) (Int.toNat x1) (c - Int.toNat (0 : Int)) sz) (Int.toNat (((Int.toNat (IntKind.wrap .i64 (((l.length : Nat) : Int) + ((vs.length : Nat) : Int))) - Int.toNat (0 : Int)) : Nat) : Int) - Int.toNat x1) ((c - Int.toNat (0 : Int)) - Int.toNat x1)), (Value.slice B vs.length cB)]) h17_ fun v19_ h20_ => ∃ x21_, v19_ = (Value.int .i64 x21_) ∧ R (Value.slice (sliceA A (Int.toNat (0 : Int)) c sz) (Int.toNat (IntKind.wrap .i64 (((l.length : Nat) : Int) + ((vs.length : Nat) : Int))) - Int.toNat (0 : Int)) (c - Int.toNat (0 : Int))) h20_)))) (0 ≤ ((l.length : Nat) : Int) ∧ ((l.length : Nat) : Int) ≤ (((Int.toNat (IntKind.wrap .i64 (((l.length : Nat) : Int) + ((vs.length : Nat) : Int))) - Int.toNat (0 : Int)) : Nat) : Int) ∧ (((Int.toNat (IntKind.wrap .i64 (((l.length : Nat) : Int) + ((vs.length : Nat) : Int))) - Int.toNat (0 : Int)) : Nat) : Int) ≤ (((c - Int.toNat (0 : Int)) : Nat) : Int) ∧ (Gen P (Builtin.copy_ #[t, t] ty #[(Value.slice (sliceA (sliceA A (Int.toNat (0 : Int)) c sz) (Int.toNat ((l.length : Nat) : Int)) (c - Int.toNat (0 : Int)) sz) (Int.toNat (((Int.toNat (IntKind.wrap .i64 (((l.length : Nat) : Int) + ((vs.length : Nat) : Int))) - Int.toNat (0 : Int)) : Nat) : Int) - Int.toNat ((l.length : Nat) : Int)) ((c - Int.toNat (0 : Int)) - Int.toNat ((l.length : Nat) : Int))), (Value.slice B vs.length cB)]) h14_ fun v22_ h23_ => ∃ x24_, v22_ = (Value.int .i64 x24_) ∧ 0 ≤ x1 ∧ x1 ≤ (((Int.toNat (IntKind.wrap .i64 (((l.length : Nat) : Int) + ((vs.length : Nat) : Int))) - Int.toNat (0 : Int)) : Nat) : Int) ∧ (((Int.toNat (IntKind.wrap .i64 (((l.length : Nat) : Int) + ((vs.length : Nat) : Int))) - Int.toNat (0 : Int)) : Nat) : Int) ≤ (((c - Int.toNat (0 : Int)) : Nat) : Int) ∧ (Run P rot #[(Value.slice (sliceA (sliceA A (Int.toNat (0 : Int)) c sz) (Int.toNat x1) (c - Int.toNat (0 : Int)) sz) (Int.toNat (((Int.toNat (IntKind.wrap .i64 (((l.length : Nat) : Int) + ((vs.length : Nat) : Int))) - Int.toNat (0 : Int)) : Nat) : Int) - Int.toNat x1) ((c - Int.toNat (0 : Int)) - Int.toNat x1)), (Value.int .i64 ((vs.length : Nat) : Int))] h23_ fun v25_ h26_ => v25_ = (Value.tuple #[]) ∧ R (Value.slice (sliceA A (Int.toNat (0 : Int)) c sz) (Int.toNat (IntKind.wrap .i64 (((l.length : Nat) : Int) + ((vs.length : Nat) : Int))) - Int.toNat (0 : Int)) (c - Int.toNat (0 : Int))) h26_))))))))) := by
  obtain ⟨i, hi, his⟩ := infoB_e hinf
  obtain ⟨i0, rfl⟩ : ∃ n : Nat, x1 = (n : Int) := ⟨x1.toNat, by omega⟩
  have hil : i0 ≤ l.length := by omega
  have hc := O.cap 0 rfl
  have o := O.os 0 rfl
  have w1 : IntKind.wrap .i64 ((l.length : Int) + (vs.length : Int)) = ((l.length + vs.length : Nat) : Int) := by rw [wrap_in (by omega) (by omega)]; omega
  have w2 : IntKind.wrap .i64 ((i0 : Int) + (vs.length : Int)) = ((i0 + vs.length : Nat) : Int) := by rw [wrap_in (by omega) (by omega)]; omega
  have w3 : IntKind.wrap .i64 (((l.length + vs.length : Nat) : Int) - (i0 : Int)) = ((l.length + vs.length - i0 : Nat) : Int) := by rw [wrap_in (by omega) (by omega)]; omega
  rw [Int.toNat_natCast] at H
  simp only [w1, w2, w3, Int.toNat_natCast, show Int.toNat (0 : Int) = 0 from rfl, Nat.sub_zero]
  have sA0 : sliceA A 0 c sz = A := sliceA_zero
  rw [sA0]
  refine ⟨by omega, by omega, by omega, ?_⟩
  refine split_eq (fun q => ?_) (fun q => ?_)
  · have hv : vs = [] := List.length_eq_zero_iff.1 (by omega)
    subst hv
    refine H A c h ?_
    rw [List.append_nil, List.take_append_drop]
    exact O
  have hvn : vs ≠ [] := by rintro rfl; exact q rfl
  obtain ⟨bv, hB, hlv, cA, tA, fA, hcv, hcs⟩ := r2.live hvn hsz
  refine split_eq (fun q1 => ?_) (fun q1 => ?_)
  · have hi0 : i0 = l.length := by omega
    refine O.app 0 rfl rfl hz (r2.srcE T O.s rfl) hb0 (ap_of gb) fun A' c' h' O' => ?_
    refine ⟨_, _, _, rfl, ?_⟩
    rw [List.length_append]
    refine H A' c' h' ?_
    rw [hi0, List.take_length, List.drop_length, List.append_nil]
    exact O'
  have hlt : i0 < l.length := by omega
  have hAne : c ≠ 0 := by omega
  rcases o with ⟨rfl, hc0⟩ | ⟨b, t0, pre, cs, rest, rfl, k1, k2, k3, k4, k5, k6⟩
  · exact absurd hc0 hAne
  have hcl := k2.len
  have hvb : bv.block ≠ b := fun e => k6 (e ▸ hlv)
  have hA' : (cs.take (i0 * sz)).length = i0 * sz := by rw [List.length_take]; have := Nat.mul_le_mul_right sz hil; omega
  have hB' : (cs.drop (i0 * sz)).length = (l.length - i0) * sz := by rw [List.length_drop, hcl, Nat.sub_mul]
  have hcat : cs.take (i0 * sz) ++ cs.drop (i0 * sz) = cs := List.take_append_drop _ _
  have cA := k2.take i0
  have cB' := k2.drop i0
  have hls : i0 * sz + (l.length - i0) * sz = l.length * sz := by rw [← Nat.add_mul, Nat.add_sub_cancel' hil]
  generalize cs.take (i0 * sz) = csA at *
  generalize cs.drop (i0 * sz) = csB at *
  subst hcat
  have s1 : sliceA (some (⟨b, pre.length, none⟩ : Addr)) i0 c sz = some ((⟨b, pre.length, none⟩ : Addr).add (i0 * sz)) := by unfold sliceA; rw [if_neg (by omega)]; rfl
  refine split_dec (fun q2 => ?_) (fun q2 => ?_)
  · have hm0 : l.length + vs.length - i0 ≠ 0 := by omega
    have him : i0 + (l.length + vs.length - i0) = l.length + vs.length := by omega
    have hle : (l.length + vs.length - i0) * bytes ≤ (l.length + vs.length) * bytes := Nat.mul_le_mul_right _ (by omega)
    rw [s1]
    refine ⟨by decide, by omega, by omega, .i64, l.length + vs.length - i0, rfl, by omega, by omega, .inr ⟨by omega, by rw [him]; exact gb, hb0, by omega, csA, ?_, fun c' hc' => ?_⟩⟩
    · show cellsH h ⟨b, pre.length, none⟩ 0 (i0 * sz) = some csA
      rw [k1.cells rfl rfl _ _ (by simp only [List.length_append]; omega)]
      congr 1
      rw [List.append_assoc, List.append_assoc, Nat.add_zero, List.drop_left, ← hA', List.take_left]
    rw [him] at hc' ⊢
    rw [if_neg (Nat.mul_ne_zero hm0 (by omega))]
    have hZ : (zcells z (l.length + vs.length - i0)).toList.length = (l.length + vs.length - i0) * sz := by rw [zc_len, hz]
    have hZ' : (zcells z (c' - (l.length + vs.length))).toList.length = (c' - (l.length + vs.length)) * sz := by rw [zc_len, hz]
    have kb : Blk (h.push (.cells (csA.toArray ++ (zcells z (l.length + vs.length - i0)).toList.toArray ++ zcells z (c' - (l.length + vs.length))) e)) h.size (csA ++ (zcells z (l.length + vs.length - i0)).toList ++ (zcells z (c' - (l.length + vs.length))).toList) e := by
      have := Blk.new h (csA.toArray ++ (zcells z (l.length + vs.length - i0)).toList.toArray ++ zcells z (c' - (l.length + vs.length))) e
      simpa using this
    have ex := Ext.push h (.cells (csA.toArray ++ (zcells z (l.length + vs.length - i0)).toList.toArray ++ zcells z (c' - (l.length + vs.length))) e)
    generalize (zcells z (l.length + vs.length - i0)).toList = Zl at *
    generalize hZg : (zcells z (c' - (l.length + vs.length))).toList = Zr at *
    generalize h.push (.cells (csA.toArray ++ Zl.toArray ++ zcells z (c' - (l.length + vs.length))) e) = h5 at *
    have sb5 : Sub m h5 := O.s.ext ex
    have n1 : sliceA (some (⟨h.size, 0, none⟩ : Addr)) i0 c' sz = some ((⟨h.size, 0, none⟩ : Addr).add (i0 * sz)) := by unfold sliceA; rw [if_neg (by omega)]; rfl
    have n2 : sliceA (some (⟨h.size, 0, none⟩ : Addr)) (i0 + vs.length) c' sz = some ((⟨h.size, 0, none⟩ : Addr).add ((i0 + vs.length) * sz)) := by unfold sliceA; rw [if_neg (by omega)]; rfl
    refine ⟨_, _, _, rfl, by omega, by omega, by omega, ?_⟩
    subst hB
    rw [n1]
    obtain ⟨csV, v1, v2⟩ := src_cells r2 T sb5 rfl
    have hV := v2.len
    have hmul : (i0 + vs.length) * sz = i0 * sz + vs.length * sz := Nat.add_mul ..
    have hmm : (l.length + vs.length - i0) * sz = vs.length * sz + (l.length - i0) * sz := by rw [← Nat.add_mul]; congr 1; omega
    have e2 : Nat.min vs.length (l.length + vs.length - i0) = vs.length := by show min _ _ = _; omega
    have kb' : Blk h5 h.size (csA ++ Zl.take (vs.length * sz) ++ (Zl.drop (vs.length * sz) ++ Zr)) e := by
      rw [← List.append_assoc, List.append_assoc csA, List.take_append_drop]; exact kb
    obtain ⟨h8, st1, b1, o1⟩ := Blk.stH csV (a := (⟨h.size, 0, none⟩ : Addr).add (i0 * sz)) (i := 0) kb' (by rw [add_block]) (add_spot _ rfl)
      (by rw [add_off]; simp only []; omega) (by rw [List.length_take]; omega) (v2.flat T)
    refine gen_copy hu hi (by rw [e2, his]; exact v1) st1 ?_
    refine ⟨_, rfl, by omega, by omega, by omega, by omega, by omega, by omega, ?_⟩
    rw [n2]
    have e3 : Nat.min (l.length - i0) (l.length + vs.length - (i0 + vs.length)) = l.length - i0 := by show min _ _ = _; omega
    have hbl : b < h.size := k1.lt
    have k8 : Blk h8 b (pre ++ (csA ++ csB) ++ rest) t0 := (k1.ext ex).only o1 (by omega)
    have r8 : cellsH h8 ((⟨b, pre.length, none⟩ : Addr).add (i0 * sz)) 0 (Nat.min (l.length - i0) (l.length + vs.length - (i0 + vs.length)) * i.size) = some csB := by
      rw [e3, his, k8.cells (by rw [add_block]) (add_spot _ rfl) _ _ (by rw [add_off]; simp only [List.length_append]; omega), add_off]
      congr 1
      rw [List.append_assoc, List.append_assoc, Nat.add_zero, ← List.drop_drop, List.drop_left, show i0 * sz = csA.length from hA'.symm, List.drop_left, ← hB', List.take_left]
    have b1' : Blk h8 h.size ((csA ++ csV) ++ Zl.drop (vs.length * sz) ++ Zr) e := by rw [List.append_assoc (csA ++ csV)]; exact b1
    obtain ⟨h11, st2, b2, o2⟩ := Blk.stH csB (a := (⟨h.size, 0, none⟩ : Addr).add ((i0 + vs.length) * sz)) (i := 0) b1' (by rw [add_block]) (add_spot _ rfl)
      (by rw [add_off]; simp only [List.length_append]; omega) (by rw [List.length_drop]; omega) (cB'.flat T)
    refine gen_copy hu hi r8 st2 ?_
    refine ⟨_, rfl, ?_⟩
    have o' : OS No h sz E h11 m (some ⟨h.size, 0, none⟩) (l.take i0 ++ vs ++ l.drop i0) c' := .inr ⟨h.size, e, [], csA ++ csV ++ csB, Zr, rfl, by rw [List.nil_append]; exact b2, (cA.append v2).append cB', by simp only [List.length_append, List.length_take, List.length_drop]; omega, by
      rw [hZ']
      simp only [List.length_append, List.length_take, List.length_drop]
      exact Nat.mul_le_mul_right _ (by omega), .inl (Nat.le_refl _), St.notLive O.s⟩
    exact H _ c' h11 ((O.add (R := rR (aE T) (some ⟨h.size, 0, none⟩) c' (l.take i0 ++ vs ++ l.drop i0)) (St.of_ext O.s ((ex.only o1 (Nat.le_refl _)).only o2 (Nat.le_refl _))) o'.rowP o'.newNo).pick [1])
  · have hnk : l.length + vs.length ≤ c := by omega
    have s2 : sliceA (some (⟨b, pre.length, none⟩ : Addr)) (i0 + vs.length) c sz = some ((⟨b, pre.length, none⟩ : Addr).add ((i0 + vs.length) * sz)) := by unfold sliceA; rw [if_neg (by omega)]; rfl
    rw [s1, s2]
    refine ⟨by decide, by omega, by omega, by omega, by omega, by omega, fn, _, x1f, x2f, x3f, x4f, x5f, ?_⟩
    subst hB
    refine overlaps_apart (cB := pre ++ (csA ++ csB) ++ rest) hu hi (by rw [add_block]; exact hvb) (O.s _ _ hcv (by
      intro hd; unfold dead at hd; injection hd with h1; subst h1; exact hcs rfl)) hcs (by rw [add_block]; exact k1) ?_
    refine ⟨_, rfl, ?_⟩
    refine split_t ?_
    refine ⟨by omega, by omega, by omega, by omega, by omega, by omega, ?_⟩
    have e1 : Nat.min (l.length + vs.length - i0) (l.length + vs.length - (i0 + vs.length)) = l.length - i0 := by show min _ _ = _; omega
    have hrest : vs.length * sz + (c - l.length - vs.length) * sz ≤ rest.length := by
      have : vs.length * sz + (c - l.length - vs.length) * sz = (c - l.length) * sz := by rw [← Nat.add_mul]; congr 1; omega
      omega
    have hmul : (i0 + vs.length) * sz = i0 * sz + vs.length * sz := Nat.add_mul ..
    have r1 : cellsH h ((⟨b, pre.length, none⟩ : Addr).add (i0 * sz)) 0 (Nat.min (l.length + vs.length - i0) (l.length + vs.length - (i0 + vs.length)) * i.size) = some csB := by
      rw [e1, his, k1.cells (by rw [add_block]) (add_spot _ rfl) _ _ (by rw [add_off]; simp only [List.length_append]; omega), add_off]
      congr 1
      rw [List.append_assoc, List.append_assoc, Nat.add_zero, ← List.drop_drop, List.drop_left, show i0 * sz = csA.length from hA'.symm, List.drop_left, ← hB', List.take_left]
    have k1' : Blk h b ((pre ++ csA ++ (csB ++ rest).take (vs.length * sz)) ++ ((csB ++ rest).drop (vs.length * sz)).take csB.length ++ (((csB ++ rest).drop (vs.length * sz)).drop csB.length)) t0 := by
      have : (pre ++ csA ++ (csB ++ rest).take (vs.length * sz)) ++ ((csB ++ rest).drop (vs.length * sz)).take csB.length ++ (((csB ++ rest).drop (vs.length * sz)).drop csB.length) = pre ++ (csA ++ csB) ++ rest := by
        rw [List.append_assoc _ (List.take _ _), List.take_append_drop, List.append_assoc (pre ++ csA), List.take_append_drop]; simp
      rw [this]; exact k1
    have hL : (csB ++ rest).length = csB.length + rest.length := List.length_append
    obtain ⟨h1, st1, b1, o1⟩ := Blk.stH csB (a := (⟨b, pre.length, none⟩ : Addr).add ((i0 + vs.length) * sz)) (i := 0) k1' (by rw [add_block]) (add_spot _ rfl)
      (by rw [add_off]; simp only [List.length_append, List.length_take]; omega) (by rw [List.length_take, List.length_drop]; omega) (cB'.flat T)
    refine gen_copy hu hi r1 st1 ?_
    refine ⟨_, rfl, by omega, by omega, by omega, ?_⟩
    have sb1 : Sub m h1 := o1.sub O.s k6
    obtain ⟨csV, v1, v2⟩ := src_cells r2 T sb1 rfl
    have hV := v2.len
    have e2 : Nat.min vs.length (l.length + vs.length - i0) = vs.length := by show min _ _ = _; omega
    have b1' : Blk h1 b ((pre ++ csA) ++ (csB ++ rest).take (vs.length * sz) ++ (csB ++ (((csB ++ rest).drop (vs.length * sz)).drop csB.length))) t0 := by
      rw [List.append_assoc _ csB] at b1
      exact b1
    obtain ⟨h2, st2, b2, o2⟩ := Blk.stH csV (a := (⟨b, pre.length, none⟩ : Addr).add (i0 * sz)) (i := 0) b1' (by rw [add_block]) (add_spot _ rfl)
      (by rw [add_off]; simp only [List.length_append]; omega) (by rw [List.length_take]; omega) (v2.flat T)
    refine gen_copy hu hi (by rw [e2, his]; exact v1) st2 ?_
    refine ⟨_, rfl, ?_⟩
    refine H _ c h2 ?_
    have := O.setR 0 rfl (l' := l.take i0 ++ vs ++ l.drop i0) (h' := h2) (.inr ⟨b, t0, pre, csA ++ csV ++ csB, ((csB ++ rest).drop (vs.length * sz)).drop csB.length, rfl, ?_, (cA.append v2).append cB', ?_, ?_, k5, k6⟩) (St.fpOnly O.s k6 hAne (o1.trans o2))
    · exact this
    · have e3 : pre ++ (csA ++ csV ++ csB) ++ ((csB ++ rest).drop (vs.length * sz)).drop csB.length = (pre ++ csA) ++ csV ++ (csB ++ (((csB ++ rest).drop (vs.length * sz)).drop csB.length)) := by simp
      rw [e3]; exact b2
    · simp only [List.length_append, List.length_take, List.length_drop]; omega
    · simp only [List.length_append, List.length_take, List.length_drop]
      rw [show c - (min i0 l.length + vs.length + (l.length - i0)) = c - l.length - vs.length by omega]
      omega
end
end Go.Hw
