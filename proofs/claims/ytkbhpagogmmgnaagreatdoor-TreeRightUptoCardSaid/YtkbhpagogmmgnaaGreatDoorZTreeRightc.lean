/- Part 3: what the law TreeRight needs, put together out of texts of this session. -/
import Derived.ProofKit
import Derived.OpenShut
import Derived.ShutString
import Derived.ChangeOld
import Derived.Below
import Derived.SizedLaws
import Derived.ChangeArms
import Derived.Laws.StructEq
import Derived.Lib.LaidTab
import Derived.Lib.ItoaNum
import Derived.Sort.Grow
import Derived.Deep.Draws
import Derived.Lib.Space
import Derived.Lib.Fields
import Derived.Lib.SlTrimSet
import Derived.Lib.Bytealg
import Derived.Shelf.Bodies
import Derived.Shelf.LaysM
import Derived.Shelf.Strconv.Itoa3
import Derived.Shelf.Lays
import Derived.Shelf.Small.Strs
import Derived.Shelf.Strings.SplitShaped
import Derived.Shelf.Strings.SlTrimAscii
import Derived.Test.YtkbhpagogmmgnaaGreatDoorProg
import Derived.Test.YtkbhpagogmmgnaaGreatDoorZTreeRightb
section
namespace Go.Hw
open Go
section tests
variable {A B : Prop}
theorem split_not {b : Bool} (h : splitB b B A) : splitB (!b) A B := by cases b <;> exact h
end tests
theorem wrap_in {n : Int} (h0 : -9223372036854775808 ≤ n) (h1 : n ≤ 9223372036854775807) : IntKind.wrap .i64 n = n := by
 rcases Int.le_total 0 n with h | h
 · exact wrap_nat h h1
 · rcases (show n = 0 ∨ n < 0 by omega) with h2 | h2
   · subst h2; rfl
   have e : n % (2 ^ 64 : Int) = n + 2 ^ 64 := by omega
   simp only [IntKind.wrap, IntKind.signed, IntKind.bits, e, Bool.true_and]
   rw [if_pos (by simp only [decide_eq_true_eq]; omega)]
   omega
theorem add_add (a : Addr) (m n : Nat) : (a.add m).add n = a.add (m + n) := by
 unfold Addr.add
 by_cases h1 : m = 0
 · subst h1; simp
 · by_cases h2 : n = 0
   · subst h2; simp
   · have h3 : m + n ≠ 0 := by omega
     simp only [if_neg h1, if_neg h2, if_neg h3]
     rw [Nat.add_assoc]
theorem add_block (a : Addr) (n : Nat) : (a.add n).block = a.block := by unfold Addr.add; split <;> rfl
theorem add_off (a : Addr) (n : Nat) : (a.add n).off = a.off + n := by
 unfold Addr.add
 split
 · rename_i h; subst h; rfl
 · rfl
theorem add_spot {a : Addr} (n : Nat) (h : a.spot = none) : (a.add n).spot = none := by unfold Addr.add; split; exact h; rfl
def Blk (h : Heap) (b : Nat) (c : List Value) (t : TypeId) : Prop := h[b]? = some (.cells c.toArray t (0, 0))
def Only (h h' : Heap) (b : Nat) : Prop := h'.size = h.size ∧ ∀ i, i ≠ b → h'[i]? = h[i]?
section
variable {h h' : Heap} {b : Nat} {c : List Value} {t : TypeId}
theorem Blk.lt (hb : Blk h b c t) : b < h.size := (Array.getElem?_eq_some_iff.1 hb).1
theorem Blk.cell (hb : Blk h b c t) {a : Addr} {v : Value} (h1 : a.block = b) (h2 : a.spot = none) (h3 : c[a.off]? = some v) : cellH h a = some v := by
 unfold cellH Blk at *
 rw [h1, hb, h2]
 simpa using h3
theorem Blk.cells (hb : Blk h b c t) {a : Addr} (h1 : a.block = b) (h2 : a.spot = none) : ∀ (n i : Nat), a.off + i + n ≤ c.length → cellsH h a i n = some ((c.drop (a.off + i)).take n) := by
 intro n
 induction n with
 | zero => intro i _; simp [cellsH]
 | succ n ih =>
   intro i hle
   have hlt : a.off + i < c.length := by omega
   have h3 : c[(a.add i).off]? = some c[a.off + i] := by rw [add_off]; exact List.getElem?_eq_getElem hlt
   simp only [cellsH, hb.cell (a := a.add i) (by rw [add_block]; exact h1) (add_spot i h2) h3, ih (i + 1) (by omega)]
   rw [List.drop_eq_getElem_cons hlt, List.take_succ_cons]
   rfl
theorem Blk.st (hb : Blk h b c t) {a : Addr} {v : Value} (h1 : a.block = b) (h2 : a.spot = none) (h3 : a.off < c.length) (h4 : oneCell v True) :
   ∃ h', st1 h a v = some h' ∧ Blk h' b (c.set a.off v) t ∧ Only h h' b := by
 have hc : cellH h a = some c[a.off] := hb.cell h1 h2 (List.getElem?_eq_getElem h3)
 have hf : frozenH h a = false := by
   unfold frozenH
   rw [h1, show h[b]? = some (.cells c.toArray t (0, 0)) from hb]
   simp
 refine ⟨setH h a v, ?_, ?_, ?_⟩
 · cases v <;> simp_all [st1, oneCell]
 · unfold Blk setH
   rw [Array.getElem?_modify, if_pos h1.symm.symm, show h[b]? = some (.cells c.toArray t (0, 0)) from hb]
   simp [h2]
 · refine ⟨by simp [setH], fun i hi => ?_⟩
   unfold setH
   rw [Array.getElem?_modify, if_neg (by rw [h1]; exact fun e => hi e.symm)]
theorem Blk.new (h : Heap) (c : Array Value) (t : TypeId) : Blk (h.push (.cells c t)) h.size c.toList t := by
 unfold Blk; simp
theorem Ext.push (h : Heap) (o : Obj) : Ext h (h.push o) := ⟨by simp, fun i hi => by rw [Array.getElem?_push, if_neg (by omega)]⟩
theorem Only.refl (h : Heap) (b : Nat) : Only h h b := ⟨rfl, fun _ _ => rfl⟩
theorem Only.trans {h'' : Heap} {b : Nat} (o : Only h h' b) (p : Only h' h'' b) : Only h h'' b := ⟨p.1.trans o.1, fun i hi => (p.2 i hi).trans (o.2 i hi)⟩
end
def Rd {α : Type} (sz : Nat) (E : Heap → α → List Value → Prop) (h : Heap) (A : Option Addr) (l : List α) : Prop :=
 ∀ i (hi : i < l.length), ∃ a cs, A = some a ∧ cellsH h (a.add (i * sz)) 0 sz = some cs ∧ E h l[i] cs
def eInt (k : IntKind) (_ : Heap) (x : Int) (cs : List Value) : Prop := cs = [.int k x]
def eStr (_ : Heap) (x : ByteArray) (cs : List Value) : Prop := cs = [.string x]
def eRow {α : Type} (sz : Nat) (E : Heap → α → List Value → Prop) (h : Heap) (l : List α) (cs : List Value) : Prop := ∃ A c, cs = [.slice A l.length c] ∧ l.length ≤ c ∧ Rd sz E h A l
section
variable {α : Type} {sz : Nat} {E : Heap → α → List Value → Prop} {h h' : Heap} {A : Option Addr} {l : List α}
theorem Rd.nil : Rd sz E h A ([] : List α) := fun i hi => by cases hi
end
theorem CallF.of {P : Program} {f : FuncId} {first captured : Array Value} {args : List Value} {h : Heap} {R : Value → Heap → Prop} (l : List Value) (hc : calleeOk P f = true) (hl : first.toList ++ args ++ captured.toList = l) (hr : Run P f l.toArray h R) :
   CallF P (.func (.func f) first captured) args h R := by
 unfold CallF
 simp only [hc, hl]
 exact hr
theorem newH_in {h : Heap} {c : Array Value} {t : TypeId} {K : Heap → Prop} (H : ∀ h', Blk h' h.size c.toList t → Ext h h' → h'.size = h.size + 1 → K h') : newH h (.cells c t) K :=
 H _ (Blk.new _ _ _) (Ext.push _ _) (by simp)
theorem CallF.mono {P : Program} {v : Value} {args : List Value} {h : Heap} {R R' : Value → Heap → Prop} (hh : CallF P v args h R) (hr : ∀ v h, R v h → R' v h) : CallF P v args h R' := by
 unfold CallF at hh ⊢
 split at hh
 · split at hh
   · exact hh.mono hr
   · exact ExtF.mono hh hr
 · exact hh.elim
def idxOf {α : Type} (p : α → Bool) (l : List α) : Int := match l.findIdx? p with | some i => i | none => -1
theorem idxOf_ge {α : Type} (p : α → Bool) (l : List α) : decide (idxOf p l ≥ 0) = l.any p := by
 unfold idxOf
 cases h : l.findIdx? p with
 | none =>
   rw [List.findIdx?_eq_none_iff] at h
   have : l.any p = false := by simpa using h
   simp [this]
 | some i =>
   have hs : (l.findIdx? p).isSome = true := by rw [h]; rfl
   rw [List.findIdx?_isSome] at hs
   simp [hs]
end Go.Hw

end
section
namespace Go.Hw
open Go Go.RowKit
theorem below_of {W W' : World} (e : Ext W.heap W'.heap) (s : Same W W') : Below W.heap.size W W' := ⟨s.os, s.tape, s.output, e.1, e.2⟩
section
variable {H : Type} {enc : TypeId × Value → H} {P : Program} {W : World}
theorem cells_of {base : Nat} {a : Addr} {n : Nat} {cs : List Value} (hc : W.cells? base a n = some cs) : cellsH W.heap a 0 n = some cs := by
 obtain ⟨_, hlen, hget⟩ := World.cells?_some hc
 have key : ∀ (m i : Nat), i + m = n → cellsH W.heap a i m = some (cs.drop i) := by
   intro m
   induction m with
   | zero =>
     intro i hi
     rw [List.drop_eq_nil_of_le (by omega)]
     rfl
   | succ m ih =>
     intro i hi
     have hlt : i < cs.length := by omega
     have h1 : cellH W.heap (a.add i) = some cs[i] := (hget i (by omega)).trans (List.getElem?_eq_getElem hlt)
     simp only [cellsH, h1, ih (i + 1) (by omega)]
     rw [List.drop_eq_getElem_cons hlt]
 simpa using key n 0 (by omega)
def Tells {α : Type} (enc : TypeId × Value → H) (P : Program) (W : World) (t : TypeId) (E : Heap → α → List Value → Prop) (Q : α → Prop) : Prop :=
 ∀ (fuel : Nat) (cs : List Value) (x : DataW H × List MemPlace), DataW.trod enc P W 0 (fun _ => true) true fuel t cs = some x → (x.1.weights P t).all (· ≤ reachBytes) = true → ∃ a, E W.heap a cs ∧ Q a
theorem tells_int {t : TypeId} {k : IntKind} (hu : P.underlying t = some (.int k)) : Tells enc P W t (eInt k) (fun x => (Lit.int k x).wf = true) := by
 intro fuel cs x h _
 obtain ⟨n, h1, _, h3⟩ := DataW.trod_int hu h
 exact ⟨n, h1, h3⟩
theorem tells_str {t : TypeId} (hu : P.underlying t = some .string) : Tells enc P W t eStr (fun s => s.size ≤ reachBytes) := by
 intro fuel cs x h hw
 obtain ⟨s, h1, h2, _⟩ := DataW.trod_string hu h
 refine ⟨s, h1, ?_⟩
 rw [h2] at hw
 simp only [DataW.weights, List.all_cons, List.all_nil, Bool.and_true, decide_eq_true_eq] at hw
 simpa using hw
theorem weightsAll_all {e : TypeId} : ∀ (l : List (DataW H)), (DataW.weightsAll P e l).all (· ≤ reachBytes) = true → ∀ d ∈ l, (d.weights P e).all (· ≤ reachBytes) = true := by
 intro l
 induction l with
 | nil => intro _ d hd; cases hd
 | cons x l ih =>
   intro h d hd
   simp only [DataW.weightsAll, List.all_append, Bool.and_eq_true] at h
   rcases List.mem_cons.1 hd with rfl | hd
   · exact h.1
   · exact ih h.2 d hd
theorem list_choose {α : Type} {n : Nat} {p : Nat → α → Prop} (h : ∀ i, i < n → ∃ x, p i x) : ∃ l : List α, l.length = n ∧ ∀ i (hi : i < l.length), p i l[i] := by
 induction n with
 | zero => exact ⟨[], rfl, fun i hi => by cases hi⟩
 | succ n ih =>
   obtain ⟨l, h1, h2⟩ := ih fun i hi => h i (by omega)
   obtain ⟨x, hx⟩ := h n (by omega)
   refine ⟨l ++ [x], by simp [h1], fun i hi => ?_⟩
   rw [List.length_append, List.length_singleton] at hi
   by_cases hin : i < l.length
   · rw [List.getElem_append_left hin]; exact h2 i hin
   · have : i = l.length := by omega
     subst this
     rw [List.getElem_append_right (Nat.le_refl _)]
     simp only [Nat.sub_self, List.getElem_cons_zero]
     rw [h1]; exact hx
theorem tells_slice {α : Type} {t e : TypeId} {sz B : Nat} {E : Heap → α → List Value → Prop} {Q : α → Prop} (hu : P.underlying t = some (.slice e)) (hc : P.cellsOf e = sz) (hB : P.bytesOf e = B) (he : Tells enc P W e E Q) :
   Tells enc P W t (eRow sz E) (fun l => l.length * B ≤ reachBytes ∧ ∀ a ∈ l, Q a) := by
 intro fuel cs x h hw
 rcases DataW.trod_slice hu h with ⟨h1, h2⟩ | ⟨a, len, cap, elems, rest, n, _, h1, h2, _, hl, hm, hlen, hel, _, _⟩
 · exact ⟨[], ⟨none, 0, h1, Nat.le_refl _, Rd.nil⟩, by simp, fun a ha => by cases ha⟩
 · rw [h2] at hw
   simp only [DataW.weights, hu, List.all_cons, List.all_append, Bool.and_eq_true, decide_eq_true_eq] at hw
   obtain ⟨hw1, hw2, _⟩ := hw
   have hall := weightsAll_all _ hw2
   obtain ⟨l, h3, h4⟩ := list_choose (n := len) (p := fun i x => (∃ cs', cellsH W.heap (a.add (i * sz)) 0 sz = some cs' ∧ E W.heap x cs') ∧ Q x) (fun i hi => by
     have h5 := hel i hi
     have hlt : i < elems.length := by omega
     rw [List.getElem?_eq_getElem hlt] at h5
     obtain ⟨cs', h6, h7⟩ := Option.bind_eq_some_iff.1 h5
     obtain ⟨x, h8, h9⟩ := he _ _ _ h7 (hall _ (List.mem_map.2 ⟨_, List.getElem_mem hlt, rfl⟩))
     rw [hc] at h6
     exact ⟨x, ⟨cs', cells_of h6, h8⟩, h9⟩)
   refine ⟨l, ⟨some a, cap, by rw [h1, h3], by omega, fun i hi => ?_⟩, ?_, fun x hx => ?_⟩
   · obtain ⟨⟨cs', h5, h6⟩, _⟩ := h4 i hi
     exact ⟨a, cs', rfl, h5, h6⟩
   · rw [hB] at hw1
     have : l.length ≤ (List.map (·.1) elems).length + (List.map (·.1) rest).length := by simp; omega
     exact Nat.le_trans (Nat.mul_le_mul_right _ this) hw1
   · obtain ⟨i, hi, rfl⟩ := List.getElem_of_mem hx
     exact (h4 i hi).2
end
theorem wf_i64 {x : Int} (h : (Lit.int .i64 x).wf = true) : -9223372036854775808 ≤ x ∧ x ≤ 9223372036854775807 := by
 simpa [Lit.wf, IntKind.min, IntKind.max, IntKind.signed, IntKind.bits] using h
end Go.Hw

end
section
namespace Go.Hw
open Go
def Flat (v : Value) : Prop := oneCell v True
theorem Blk.stH {b : Nat} {t : TypeId} : ∀ (xs : List Value) {h : Heap} {p q r : List Value} {a : Addr} {i : Nat}, Blk h b (p ++ q ++ r) t → a.block = b → a.spot = none → a.off + i = p.length → q.length = xs.length → (∀ v ∈ xs, Flat v) →
   ∃ h', stH h a xs i = some h' ∧ Blk h' b (p ++ xs ++ r) t ∧ Only h h' b := by
 intro xs
 induction xs with
 | nil =>
   intro h p q r a i hb h1 h2 h3 h4 h5
   rw [List.length_eq_zero_iff.1 h4] at hb
   exact ⟨h, rfl, hb, .refl _ _⟩
 | cons v xs ih =>
   intro h p q r a i hb h1 h2 h3 h4 h5
   obtain ⟨u, q', rfl⟩ : ∃ u q', q = u :: q' := by cases q with | nil => cases h4 | cons u q' => exact ⟨u, q', rfl⟩
   have hoff : (a.add i).off = p.length := by rw [add_off, h3]
   obtain ⟨h', s1, b1, o1⟩ := hb.st (a := a.add i) (v := v) (by rw [add_block, h1]) (add_spot _ h2) (by rw [hoff]; simp) (h5 v (List.mem_cons_self ..))
   rw [hoff] at b1
   have e : (p ++ u :: q' ++ r).set p.length v = (p ++ [v]) ++ q' ++ r := by
     rw [List.append_assoc, List.set_append_right _ _ (Nat.le_refl _)]; simp
   rw [e] at b1
   obtain ⟨h'', s2, b2, o2⟩ := ih (p := p ++ [v]) (q := q') (r := r) (a := a) (i := i + 1) b1 h1 h2 (by simp; omega) (by simpa using h4) (fun x hx => h5 x (List.mem_cons_of_mem _ hx))
   refine ⟨h'', ?_, by simpa using b2, o1.trans o2⟩
   simp only [Go.Hw.stH, s1, s2]
theorem zcells_size (z : Array Value) (n : Nat) : (zcells z n).size = n * z.size := by
 unfold zcells Builtin.zeroCells
 simp
end Go.Hw

end
section
namespace Go.Hw
open Go Go.RowKit
theorem cellsH_get {h : Heap} {a : Addr} : ∀ {n i : Nat} {cs : List Value} {k : Nat} {v : Value}, cellsH h a i n = some cs → cs[k]? = some v → cellH h (a.add (i + k)) = some v := by
 intro n
 induction n with
 | zero => intro i cs k v hc hv; simp only [cellsH, Option.some.injEq] at hc; subst hc; cases hv
 | succ n ih =>
   intro i cs k v hc hv
   simp only [cellsH] at hc
   split at hc
   · rename_i u hu
     split at hc
     · rename_i vs hvs
       cases hc
       cases k with
       | zero => cases hv; exact hu
       | succ k => rw [show i + (k + 1) = i + 1 + k by omega]; exact ih hvs (by simpa using hv)
     · cases hc
   · cases hc
section
variable {α : Type} {sz : Nat} {E : Heap → α → List Value → Prop} {h h' : Heap} {A : Option Addr} {l : List α}
theorem cellsH_append {h : Heap} {a : Addr} : ∀ {m i n : Nat} {cs ds : List Value}, cellsH h a i m = some cs → cellsH h a (i + m) n = some ds → cellsH h a i (m + n) = some (cs ++ ds) := by
 intro m
 induction m with
 | zero => intro i n cs ds h1 h2; simp only [cellsH, Option.some.injEq] at h1; subst h1; simpa using h2
 | succ m ih =>
   intro i n cs ds h1 h2
   simp only [cellsH] at h1
   split at h1
   · rename_i u hu
     split at h1
     · rename_i vs hvs
       cases h1
       rw [show m + 1 + n = (m + n) + 1 by omega]
       have h3 := ih hvs (n := n) (ds := ds) (by rw [show i + 1 + m = i + (m + 1) by omega]; exact h2)
       simp only [cellsH, hu, h3, List.cons_append]
     · cases h1
   · cases h1
theorem cellsH_shift {h : Heap} {a : Addr} {j : Nat} : ∀ {n i : Nat}, cellsH h (a.add j) i n = cellsH h a (j + i) n := by
 intro n
 induction n with
 | zero => intro i; rfl
 | succ n ih =>
   intro i
   simp only [cellsH, add_add]
   rw [ih, Nat.add_assoc]
end
theorem Blk.stAll {h : Heap} {b : Nat} {c : List Value} {t : TypeId} (hb : Blk h b c t) (l : List Value) (hn : l.length = c.length) (hf : ∀ v ∈ l, Flat v) :
   ∃ h', Go.Hw.stH h ⟨b, 0, none⟩ l 0 = some h' ∧ Blk h' b l t ∧ Only h h' b := by
 obtain ⟨h', s1, b1, o1⟩ := Blk.stH l (p := []) (q := c) (r := []) (a := ⟨b, 0, none⟩) (i := 0) (by simpa using hb) rfl rfl rfl hn.symm hf
 exact ⟨h', s1, by simpa using b1, o1⟩
section
variable {P : Program} {d : Nat} {t : TypeId}
def flatB (P : Program) (t : TypeId) (x y : Value) : Option Bool :=
 match P.underlying t, x, y with
 | some (.int _), .int k a, .int k' b => match kindB k k' with | true => some (a == b) | false => none
 | some .bool, .bool a, .bool b => some (a == b)
 | some .string, .string a, .string b => some (a == b)
 | _, _, _ => none
end
section
variable {H : Type} {enc : TypeId × Value → H} {P : Program} {W : World}
def TellsF {α : Type} (enc : TypeId × Value → H) (P : Program) (W : World) (T o : Nat) (fs : List (TypeId × Nat)) (F : Heap → α → List Value → Prop) (Q : α → Prop) : Prop :=
 ∀ (n : Nat) (cs : List Value) (xs : List (DataW H × List MemPlace)), cs.length = T → xs.length = fs.length → (∀ (i : Nat) (f : TypeId × Nat), fs[i]? = some f → DataW.trod enc P W 0 (fun _ => true) true n f.1 ((cs.drop f.2).take (P.cellsOf f.1)) = xs[i]?) →
   (DataW.weightsEach P (fs.map (·.1)) (xs.map (·.1))).all (· ≤ reachBytes) = true → ∃ b, F W.heap b (cs.drop o) ∧ Q b
def eNil (_ : Heap) (_ : Unit) (cs : List Value) : Prop := cs = []
def eCons {α β : Type} (E : Heap → α → List Value → Prop) (F : Heap → β → List Value → Prop) (h : Heap) (x : α × β) (cs : List Value) : Prop := ∃ c1 c2, cs = c1 ++ c2 ∧ E h x.1 c1 ∧ F h x.2 c2
theorem tf_nil {T : Nat} : TellsF enc P W T T [] eNil (fun _ => True) := fun n cs xs hl _ _ _ => ⟨(), by unfold eNil; rw [List.drop_eq_nil_of_le (by omega)], trivial⟩
theorem tf_cons {α β : Type} {E : Heap → α → List Value → Prop} {F : Heap → β → List Value → Prop} {Q : α → Prop} {Q' : β → Prop} {T o s : Nat} {f : TypeId} {fs : List (TypeId × Nat)} (hs : P.cellsOf f = s)
   (he : Tells enc P W f E Q) (hf : TellsF enc P W T (o + s) fs F Q') : TellsF enc P W T o ((f, o) :: fs) (eCons E F) (fun x => Q x.1 ∧ Q' x.2) := by
 intro n cs xs hl hx hi hw
 cases xs with
 | nil => cases hx
 | cons x xs =>
   have h0 := hi 0 (f, o) rfl
   simp only [hs] at h0
   simp only [List.map_cons, DataW.weightsEach, List.all_append, Bool.and_eq_true] at hw
   obtain ⟨a, ha, qa⟩ := he n _ _ h0 hw.1
   obtain ⟨b, hb, qb⟩ := hf n cs xs hl (by simpa using hx) (fun i g hg => by simpa using hi (i + 1) g hg) hw.2
   exact ⟨(a, b), ⟨_, _, by rw [← List.drop_drop, List.take_append_drop], ha, hb⟩, qa, qb⟩
def shapeOf (P : Program) (t : TypeId) : Option (List (TypeId × Nat)) := match P.underlying t with | some (.struct fs) => some (fs.toList.map fun f => (f.type, f.offset)) | _ => none
theorem tells_struct {α : Type} {F : Heap → α → List Value → Prop} {Q : α → Prop} {t : TypeId} {fs : List (TypeId × Nat)} {T : Nat} (hs : shapeOf P t = some fs) (hc : P.cellsOf t = T) (hf : TellsF enc P W T 0 fs F Q) : Tells enc P W t F Q := by
 intro fuel cs x h hw
 unfold shapeOf at hs
 split at hs
 · rename_i fa hu
   cases hs
   obtain ⟨xs, n, _, rfl, hl, hlen, hi⟩ := DataW.trod_struct hu h
   simp only [DataW.weights, hu] at hw
   obtain ⟨b, hb, qb⟩ := hf n cs xs (by rw [hl, hc]) (by simpa using hlen) (fun i f hif => by
     rw [List.getElem?_map, Option.map_eq_some_iff] at hif
     obtain ⟨g, hg, rfl⟩ := hif
     exact hi i g (by simpa using hg)) (by rw [List.map_map]; exact hw)
   exact ⟨b, by simpa using hb, qb⟩
 · cases hs
theorem tells_map {α β : Type} {E : Heap → α → List Value → Prop} {F : Heap → β → List Value → Prop} {Q : α → Prop} {Q' : β → Prop} {t : TypeId} (he : Tells enc P W t E Q) (hm : ∀ a cs, E W.heap a cs → Q a → ∃ b, F W.heap b cs ∧ Q' b) : Tells enc P W t F Q' :=
 fun fuel cs x h hw => let ⟨a, ha, qa⟩ := he fuel cs x h hw; hm a cs ha qa
theorem okWide_agg_of {t : TypeId} {fs : List (TypeId × Nat)} {v : Value} {r : Reach} {base : Nat} (hs : shapeOf P t = some fs) (h : Value.okWide P W r base t v) : ∃ cs : List Value, v = .agg cs.toArray := by
 unfold shapeOf at hs
 split at hs
 · rename_i fa hu
   simp only [Value.okWide, hu] at h
   cases v <;> simp_all
   rename_i xs
   exact ⟨xs.toList, by simp⟩
 · cases hs
end
end Go.Hw

end
section
namespace Go.Hw
open Go
theorem ba_toList {a b : ByteArray} (h : a.toList = b.toList) : a = b := by
 rw [ByteArray.toList_eq, ByteArray.toList_eq] at h
 obtain ⟨⟨x⟩⟩ := a
 obtain ⟨⟨y⟩⟩ := b
 have : x = y := h
 rw [this]
end Go.Hw

end
section
namespace Go.Hw
open Go
end Go.Hw

end
section
namespace Go.Hw
open Go
end Go.Hw

end
section
namespace Go.Hw
open Go
def dead : Obj := .cells #[] 0 (0, 0)
def Live (m : Heap) (b : Nat) : Prop := ∃ o, m[b]? = some o ∧ o ≠ dead
def Sub (m h : Heap) : Prop := ∀ (b : Nat) (o : Obj), m[b]? = some o → o ≠ dead → h[b]? = some o
abbrev No : Nat → Prop := fun _ => False
section
variable {m m' h h' k h0 m0 : Heap} {b : Nat} {W W' : Nat → Prop}
theorem Sub.refl (h : Heap) : Sub h h := fun _ _ h _ => h
theorem Sub.trans (s : Sub m h) (t : Sub h k) : Sub m k := fun b o h1 h2 => t b o (s b o h1 h2) h2
theorem Sub.lt (s : Sub m h) (l : Live m b) : b < h.size := by
 obtain ⟨o, h1, h2⟩ := l
 exact (Array.getElem?_eq_some_iff.1 (s b o h1 h2)).1
theorem Sub.ext (s : Sub m h) (e : Ext h h') : Sub m h' := fun b o h1 h2 => by rw [e.2 b (s.lt ⟨o, h1, h2⟩)]; exact s b o h1 h2
theorem Sub.cell (s : Sub m h) {a : Addr} {v : Value} (hc : cellH m a = some v) : cellH h a = some v := by
 unfold cellH at hc
 split at hc
 · rename_i c e f hm
   have hne : (Obj.cells c e f) ≠ dead := by
     intro hd
     unfold dead at hd
     cases hd
     split at hc <;> simp at hc
   unfold cellH
   rw [s _ _ hm hne]; exact hc
 · cases hc
theorem Sub.cells (s : Sub m h) {a : Addr} : ∀ (n i : Nat) {vs : List Value}, cellsH m a i n = some vs → cellsH h a i n = some vs := by
 intro n
 induction n with
 | zero => intro i vs hc; exact hc
 | succ n ih =>
   intro i vs hc
   simp only [cellsH] at hc ⊢
   split at hc
   · rename_i v hv
     rw [s.cell hv]
     split at hc
     · rename_i us hu
       rw [ih _ hu]; exact hc
     · cases hc
   · cases hc
end
structure Tell {α : Type} (sz : Nat) (E : Heap → α → List Value → Prop) : Prop where
 mono : ∀ m h x cs, Sub m h → E m x cs → E h x cs
 len : ∀ h x cs, E h x cs → cs.length = sz
 flat : ∀ h x cs, E h x cs → ∀ v ∈ cs, Flat v
theorem Flats.nil : ∀ v ∈ ([] : List Value), Flat v := fun v hv => by cases hv
theorem Flats.cons {x : Value} {l : List Value} (h : Flat x) (t : ∀ v ∈ l, Flat v) : ∀ v ∈ x :: l, Flat v := fun v hv => by
 rcases List.mem_cons.1 hv with rfl | hv
 · exact h
 · exact t v hv
theorem tell_int (k : IntKind) : Tell 1 (eInt k) := ⟨fun _ _ _ _ _ h => h, fun _ _ _ h => by rw [h]; rfl, fun _ _ _ h => by rw [h]; exact Flats.cons trivial Flats.nil⟩
theorem tell_str : Tell 1 eStr := ⟨fun _ _ _ _ _ h => h, fun _ _ _ h => by rw [h]; rfl, fun _ _ _ h => by rw [h]; exact Flats.cons trivial Flats.nil⟩
section
variable {α : Type} {sz : Nat} {E : Heap → α → List Value → Prop} {m m' h h' : Heap} {A : Option Addr} {l : List α} {c : Nat}
theorem Rd.sub (r : Rd sz E m A l) (T : Tell sz E) (s : Sub m h) : Rd sz E h A l := fun i hi =>
 let ⟨a, cs, h1, h2, h3⟩ := r i hi
 ⟨a, cs, h1, s.cells _ _ h2, T.mono _ _ _ _ s h3⟩
theorem tell_row (T : Tell sz E) : Tell 1 (eRow sz E) := ⟨fun _ _ _ _ s ⟨A, c, h1, h2, h3⟩ => ⟨A, c, h1, h2, h3.sub T s⟩, fun _ _ _ ⟨A, c, h1, _, _⟩ => by rw [h1]; rfl, fun _ _ _ ⟨A, c, h1, _, _⟩ => by rw [h1]; exact Flats.cons trivial Flats.nil⟩
end
structure St (W : Nat → Prop) (h0 m0 h m : Heap) : Prop where
 up : Sub m0 m
 s : Sub m h
 size : h0.size ≤ h.size
 fr : ∀ b, b < h0.size → ¬ W b → h[b]? = h0[b]?
 lv : ∀ b, b < h0.size → Live m b → Live m0 b ∨ W b
def fb (b0 b : Nat) : Prop := b = b0
def fp (A : Option Addr) (c : Nat) (b : Nat) : Prop := c ≠ 0 ∧ ∃ a, A = some a ∧ a.block = b
def Dj (F G : Nat → Prop) : Prop := ∀ b, F b → G b → False
section
variable {m m' h h' h0 m0 : Heap} {b b' : Nat} {W W' F G G' : Nat → Prop}
theorem Dj.symm (d : Dj F G) : Dj G F := fun b h1 h2 => d b h2 h1
theorem Dj.no : Dj No F := fun _ h _ => h
theorem St.refl (s : Sub m h) : St W h m h m := ⟨.refl _, s, Nat.le_refl _, fun _ _ _ => rfl, fun _ _ h => .inl h⟩
theorem St.of_ext (s : Sub m h) (e : Ext h h') : St W h m h' m := ⟨.refl _, s.ext e, e.1, fun b hb _ => e.2 b hb, fun _ _ h => .inl h⟩
theorem St.ext (S : St No h m h' m') : Ext h h' := ⟨S.size, fun b hb => S.fr b hb (fun h => h)⟩
theorem St.then (S : St W h0 m0 h m) (T : St W' h m h' m') (hw : ∀ b, b < h.size → W' b → h0.size ≤ b ∨ W b) : St W h0 m0 h' m' where
 up := S.up.trans T.up
 s := T.s
 size := Nat.le_trans S.size T.size
 fr b hb hn := by
   rw [T.fr b (by have := S.size; omega) (fun hw' => (hw b (by have := S.size; omega) hw').elim (fun h => by omega) hn)]
   exact S.fr b hb hn
 lv b hb hl := by
   rcases T.lv b (by have := S.size; omega) hl with h1 | h1
   · exact S.lv b hb h1
   · exact .inr ((hw b (by have := S.size; omega) h1).elim (fun h => by omega) id)
theorem St.grow (S : St W h0 m0 h m) (T : St No h m h' m') : St W h0 m0 h' m' := S.then T fun _ _ h => h.elim
theorem St.notLive (s : Sub m h) : ¬ Live m h.size := fun l => by have := s.lt l; omega
theorem St.only (s : Sub m h) (hn : ¬ Live m b) (o : Only h h' b) : St (fb b) h m h' m where
 up := .refl _
 s i x h1 h2 := by
   rw [o.2 i (fun e => hn (e ▸ ⟨x, h1, h2⟩))]; exact s i x h1 h2
 size := by rw [o.1]; exact Nat.le_refl _
 fr i _ hw := o.2 i hw
 lv i _ hl := .inl hl
end
open Classical in
noncomputable def addV (m h : Heap) (F : Nat → Prop) : Heap := Array.ofFn (n := h.size) fun i => if Live m i.1 ∨ F i.1 then h[i.1] else dead
section
variable {m h : Heap} {b : Nat} {F : Nat → Prop}
theorem addV_get (hb : b < h.size) (hl : Live m b ∨ F b) : (addV m h F)[b]? = h[b]? := by
 unfold addV
 rw [Array.getElem?_ofFn, dif_pos hb, if_pos hl, Array.getElem?_eq_getElem hb]
theorem addV_live (hl : Live (addV m h F) b) : (Live m b ∨ F b) ∧ b < h.size := by
 obtain ⟨o, h1, h2⟩ := hl
 unfold addV at h1
 rw [Array.getElem?_ofFn] at h1
 split at h1
 · rename_i hb
   refine ⟨?_, hb⟩
   by_cases hc : Live m b ∨ F b
   · exact hc
   · rw [if_neg hc] at h1; cases h1; exact (h2 rfl).elim
 · cases h1
theorem addV_sub : Sub (addV m h F) h := fun b o h1 h2 => by
 have := addV_live ⟨o, h1, h2⟩
 rw [← addV_get this.2 this.1]; exact h1
theorem addV_up (s : Sub m h) : Sub m (addV m h F) := fun b o h1 h2 => by
 rw [addV_get (s.lt ⟨o, h1, h2⟩) (.inl ⟨o, h1, h2⟩)]; exact s b o h1 h2
theorem St.settle (s : Sub m h) (F : Nat → Prop) : St F h m h (addV m h F) := ⟨addV_up s, addV_sub, Nat.le_refl _, fun _ _ _ => rfl, fun _ _ hl => (addV_live hl).1⟩
theorem Blk.settle {c : List Value} {t : TypeId} (hb : Blk h b c t) (hF : F b) : Blk (addV m h F) b c t := by
 unfold Blk at *
 rw [addV_get (Blk.lt hb) (.inr hF)]; exact hb
end
section
variable {α : Type} {sz : Nat} {E : Heap → α → List Value → Prop} {m m' h h' h0 m0 : Heap} {A : Option Addr} {l l' : List α} {c : Nat} {cs ds : List Value} {x y : α} {W W' : Nat → Prop}
def CsE (sz : Nat) (E : Heap → α → List Value → Prop) (m : Heap) : List α → List Value → Prop
 | [], cs => cs = []
 | x :: l, cs => ∃ c1 c2, cs = c1 ++ c2 ∧ c1.length = sz ∧ E m x c1 ∧ CsE sz E m l c2
theorem CsE.nil : CsE sz E m ([] : List α) [] := rfl
theorem CsE.cons {c1 : List Value} (h1 : E m x c1) (h2 : c1.length = sz) (h : CsE sz E m l cs) : CsE sz E m (x :: l) (c1 ++ cs) := ⟨c1, cs, rfl, h2, h1, h⟩
theorem CsE.len : ∀ {l : List α} {cs : List Value}, CsE sz E m l cs → cs.length = l.length * sz := by
 intro l
 induction l with
 | nil => intro cs h; rw [show cs = [] from h]; simp
 | cons x l ih => rintro cs ⟨c1, c2, rfl, h1, h2, h3⟩; rw [List.length_append, ih h3, h1, List.length_cons, Nat.succ_mul, Nat.add_comm]
theorem CsE.get : ∀ {l : List α} {cs : List Value} {i : Nat}, CsE sz E m l cs → l[i]? = some y → E m y ((cs.drop (i * sz)).take sz) ∧ i * sz + sz ≤ cs.length := by
 intro l
 induction l with
 | nil => intro cs i h h'; cases h'
 | cons x l ih =>
   rintro cs i ⟨c1, c2, rfl, h1, h2, h3⟩ hy
   cases i with
   | zero =>
     cases hy
     simp only [Nat.zero_mul, List.drop_zero]
     rw [← h1, List.take_left]
     exact ⟨h2, by simp⟩
   | succ i =>
     have := ih (i := i) h3 (by simpa using hy)
     rw [show (i + 1) * sz = c1.length + i * sz by rw [h1, Nat.succ_mul, Nat.add_comm], ← List.drop_drop, List.drop_left, List.length_append]
     exact ⟨this.1, by omega⟩
theorem Rd.tail (r : Rd sz E m A (x :: l)) : ∀ a, A = some a → Rd sz E m (some (a.add sz)) l := by
 intro a ha i hi
 obtain ⟨a', cs, h1, h2, h3⟩ := r (i + 1) (by simpa using hi)
 rw [ha] at h1; cases h1
 refine ⟨_, cs, rfl, ?_, h3⟩
 rw [add_add, show sz + i * sz = (i + 1) * sz by rw [Nat.succ_mul, Nat.add_comm]]; exact h2
theorem Rd.cse (T : Tell sz E) : ∀ {l : List α} {a : Addr}, Rd sz E m (some a) l → ∃ cs, cellsH m a 0 (l.length * sz) = some cs ∧ CsE sz E m l cs := by
 intro l
 induction l with
 | nil => intro a r; exact ⟨[], by simp [cellsH], rfl⟩
 | cons x l ih =>
   intro a r
   obtain ⟨cs, h1, h2⟩ := ih (r.tail a rfl)
   obtain ⟨a', c1, h3, h4, h5⟩ := r 0 (by simp)
   cases h3
   rw [Nat.zero_mul, show a.add 0 = a from rfl] at h4
   refine ⟨c1 ++ cs, ?_, c1, cs, rfl, T.len _ _ _ h5, h5, h2⟩
   rw [List.length_cons, Nat.succ_mul, Nat.add_comm]
   refine cellsH_append h4 ?_
   rw [cellsH_shift] at h1
   simpa using h1
theorem CsE.rd {b : Nat} {t : TypeId} {pre rest : List Value} (hb : Blk h b (pre ++ cs ++ rest) t) (hc : CsE sz E m l cs) (hm : ∀ x cs, E m x cs → E h x cs) : Rd sz E h (some ⟨b, pre.length, none⟩) l := by
 intro i hi
 have hg := hc.get (List.getElem?_eq_getElem hi)
 refine ⟨_, _, rfl, ?_, hm _ _ hg.1⟩
 have := hb.cells (a := (⟨b, pre.length, none⟩ : Addr).add (i * sz)) (by rw [add_block]) (add_spot _ rfl) sz 0 (by rw [add_off, List.length_append, List.length_append]; simp only [Nat.add_zero]; omega)
 rw [this, add_off]
 simp only [Nat.add_zero]
 rw [List.append_assoc, ← List.drop_drop, List.drop_left, List.drop_append_of_le_length (by omega), List.take_append_of_le_length (by rw [List.length_drop]; omega)]
def OS (W : Nat → Prop) (h0 : Heap) (sz : Nat) (E : Heap → α → List Value → Prop) (h m : Heap) (A : Option Addr) (l : List α) (c : Nat) : Prop :=
 (l = [] ∧ c = 0) ∨ ∃ b t pre cs rest, A = some ⟨b, pre.length, none⟩ ∧ Blk h b (pre ++ cs ++ rest) t ∧ CsE sz E m l cs ∧ l.length ≤ c ∧ (c - l.length) * sz ≤ rest.length ∧ (h0.size ≤ b ∨ W b) ∧ ¬ Live m b
def OB (W : Nat → Prop) (h0 h m : Heap) (b : Nat) (cs : List Value) (t : TypeId) : Prop := Blk h b cs t ∧ (h0.size ≤ b ∨ W b) ∧ ¬ Live m b
variable {b : Nat} {t : TypeId}
theorem OB.all (o : OB W h0 h m b cs t) : cellsH h ⟨b, 0, none⟩ 0 cs.length = some cs := by
 have := o.1.cells (a := ⟨b, 0, none⟩) rfl rfl cs.length 0 (by simp)
 simpa using this
end
end Go.Hw

end
section
namespace Go.Hw
def LeO {β : Type} (a b : Option β) : Prop := ∀ r, a = some r → b = some r
theorem LeO.refl {β : Type} (a : Option β) : LeO a a := fun _ h => h
theorem LeO.bind {β γ : Type} {a b : Option β} {f g : β → Option γ} (h : LeO a b) (k : ∀ x, LeO (f x) (g x)) : LeO (a.bind f) (b.bind g) := by
 intro r hr
 cases a with
 | none => cases hr
 | some x => rw [h x rfl]; exact k x r hr
theorem LeO.ite {β : Type} {p : Prop} [Decidable p] {a b a' b' : Option β} (h : LeO a a') (k : LeO b b') : LeO (if p then a else b) (if p then a' else b') := by
 by_cases c : p
 · rw [if_pos c, if_pos c]; exact h
 · rw [if_neg c, if_neg c]; exact k
section
variable {α : Type} {β : α → Type} {F : ((x : α) → Option (β x)) → (x : α) → Option (β x)}
def MonoF (F : ((x : α) → Option (β x)) → (x : α) → Option (β x)) : Prop := ∀ f g, (∀ x, LeO (f x) (g x)) → ∀ x, LeO (F f x) (F g x)
def FixR (F : ((x : α) → Option (β x)) → (x : α) → Option (β x)) (x : α) (r : β x) : Prop :=
 ∀ I : (x : α) → β x → Prop, (∀ f, (∀ x r, f x = some r → I x r) → ∀ x r, F f x = some r → I x r) → I x r
theorem FixR.close {f : (x : α) → Option (β x)} (hf : ∀ x r, f x = some r → FixR F x r) {x : α} {r : β x} (h : F f x = some r) : FixR F x r :=
 fun I hI => hI f (fun y s hs => hf y s hs I hI) x r h
theorem FixR.uniq (M : MonoF F) {x : α} {r r' : β x} (h : FixR F x r) (h' : FixR F x r') : r = r' := by
 refine (h (fun x r => FixR F x r ∧ ∀ r', FixR F x r' → r = r') ?_).2 r' h'
 intro f hf x r hr
 refine ⟨FixR.close (fun y s hs => (hf y s hs).1) hr, fun s hs => ?_⟩
 have key := hs (fun y s => FixR F y s ∧ ∀ e : x = y, (e ▸ r) = s) ?_
 · exact key.2 rfl
 intro f' hf' y t ht
 refine ⟨FixR.close (fun z s hs => (hf' z s hs).1) ht, ?_⟩
 rintro rfl
 let g : (x : α) → Option (β x) := fun z => match f z with | some u => some u | none => f' z
 have hfg : ∀ z, LeO (f z) (g z) := fun z u hu => by simp only [g, hu]
 have hfg' : ∀ z, LeO (f' z) (g z) := by
   intro z u hu
   simp only [g]
   cases hz : f z with
   | none => exact hu
   | some w => simp only; rw [(hf z w hz).2 u (hf' z u hu).1]
 have e1 := M f g hfg _ _ hr
 have e2 := M f' g hfg' _ _ ht
 rw [e1] at e2
 exact Option.some.inj e2
open Classical in
noncomputable def fixF (F : ((x : α) → Option (β x)) → (x : α) → Option (β x)) (x : α) : Option (β x) := if h : ∃ r, FixR F x r then some (Classical.choose h) else none
theorem fixF_iff (M : MonoF F) {x : α} {r : β x} : fixF F x = some r ↔ FixR F x r := by
 unfold fixF
 constructor
 · intro h
   split at h
   · rename_i hx; cases h; exact Classical.choose_spec hx
   · cases h
 · intro h
   rw [dif_pos ⟨r, h⟩, FixR.uniq M (Classical.choose_spec (⟨r, h⟩ : ∃ r, FixR F x r)) h]
theorem fixF_eq (M : MonoF F) (x : α) : fixF F x = F (fixF F) x := by
 have h1 : ∀ r, fixF F x = some r → F (fixF F) x = some r := by
   intro r hr
   refine ((fixF_iff M).1 hr (fun x r => FixR F x r ∧ F (fixF F) x = some r) ?_).2
   intro f hf y s hs
   refine ⟨FixR.close (fun z s hs => (hf z s hs).1) hs, ?_⟩
   exact M f (fixF F) (fun z u hu => (fixF_iff M).2 (hf z u hu).1) _ _ hs
 have h2 : ∀ r, F (fixF F) x = some r → fixF F x = some r := fun r hr => (fixF_iff M).2 (FixR.close (fun y s hs => (fixF_iff M).1 hs) hr)
 cases h : fixF F x with
 | some r => exact (h1 r h).symm
 | none =>
   cases k : F (fixF F) x with
   | none => rfl
   | some r => rw [h2 r k] at h; cases h
theorem fixF_ind (M : MonoF F) {I : (x : α) → β x → Prop} (hI : ∀ f, (∀ x r, f x = some r → I x r) → ∀ x r, F f x = some r → I x r) {x : α} {r : β x} (h : fixF F x = some r) : I x r := (fixF_iff M).1 h I hI
end
end Go.Hw

end
section
namespace Go.Hw
open Go
section tests
variable {A B : Prop} {β γ : Type} {a b : Option β} {r : β}
theorem bind_e {a : Option γ} {f : γ → Option β} (e : a.bind f = some r) : ∃ x, a = some x ∧ f x = some r := by
 cases a with
 | none => cases e
 | some x => exact ⟨x, rfl, e⟩
theorem guard_e {p : Prop} [Decidable p] (e : (if p then a else none) = some r) : p ∧ a = some r := by
 by_cases h : p
 · rw [if_pos h] at e; exact ⟨h, e⟩
 · rw [if_neg h] at e; cases e
theorem split_dec_e {p : Prop} [Decidable p] (e : (if p then a else b) = some r) (hA : p → a = some r → A) (hB : ¬ p → b = some r → B) : splitB (decide p) A B := by
 by_cases h : p
 · rw [if_pos h] at e; rw [decide_eq_true h]; exact hA h e
 · rw [if_neg h] at e; rw [decide_eq_false h]; exact hB h e
theorem split_eq_e {x y : Int} (e : (if x = y then a else b) = some r) (hA : x = y → a = some r → A) (hB : x ≠ y → b = some r → B) : splitB (x == y) A B := by
 by_cases h : x = y
 · rw [if_pos h] at e; rw [show (x == y) = true from beq_iff_eq.2 h]; exact hA h e
 · rw [if_neg h] at e; rw [show (x == y) = false from beq_eq_false_iff_ne.2 h]; exact hB h e
theorem split_ne_e {x y : Int} (e : (if x = y then b else a) = some r) (hA : x ≠ y → a = some r → A) (hB : x = y → b = some r → B) : splitB (x != y) A B := by
 by_cases h : x = y
 · rw [if_pos h] at e; rw [show (x != y) = false from bne_eq_false_iff_eq.2 h]; exact hB h e
 · rw [if_neg h] at e; rw [show (x != y) = true from bne_iff_ne.2 h]; exact hA h e
theorem split_any_e {t : Bool} (e : (if t = true then a else b) = some r) (hA : t = true → a = some r → A) (hB : t = false → b = some r → B) : splitB t A B := by
 cases t
 · exact hB rfl e
 · exact hA rfl e
theorem ba_list (s t : ByteArray) : (ByteArray.toList s == ByteArray.toList t) = decide (s = t) := by
 by_cases h : s = t
 · subst h; simp
 · rw [decide_eq_false h]
   exact beq_eq_false_iff_ne.2 fun e => h (ba_toList e)
end tests
section
variable {α : Type} {l : List α} {x : Int} {y : α}
def gi (l : List α) (x : Int) : Option α := if 0 ≤ x then l[x.toNat]? else none
theorem gi_nat (l : List α) (k : Nat) : gi l (k : Int) = l[k]? := by unfold gi; rw [if_pos (by omega)]; rfl
theorem gi_le (g : gi l x = some y) : 0 ≤ x := by unfold gi at g; split at g; assumption; cases g
theorem gi_get (g : gi l x = some y) : l[x.toNat]? = some y := by unfold gi at g; split at g; exact g; cases g
theorem gi_lt (g : gi l x = some y) : x < (l.length : Int) := by
 have h1 := gi_get g
 have h2 := gi_le g
 have := (List.getElem?_eq_some_iff.1 h1).1
 omega
def gb (s : ByteArray) (x : Int) : Option Int := if 0 ≤ x then s[x.toNat]?.map fun b => ((UInt8.toNat b : Nat) : Int) else none
theorem gb_e {s : ByteArray} {x y : Int} (g : gb s x = some y) : 0 ≤ x ∧ ∃ b, s[x.toNat]? = some b ∧ y = ((UInt8.toNat b : Nat) : Int) := by
 unfold gb at g
 split at g
 · rename_i h
   cases hb : s[x.toNat]? with
   | none => rw [hb] at g; cases g
   | some b => rw [hb] at g; cases g; exact ⟨h, b, rfl, rfl⟩
 · cases g
def sl (l : List α) (lo hi : Int) : List α := (l.take hi.toNat).drop lo.toNat
theorem sl_len {lo hi : Int} (h1 : 0 ≤ lo) (h2 : lo ≤ hi) (h3 : hi ≤ (l.length : Int)) : Int.toNat hi - Int.toNat lo = (sl l lo hi).length := by
 unfold sl; rw [List.length_drop, List.length_take]; omega
theorem sl_hi {hi : Int} : sl l 0 hi = l.take hi.toNat := by unfold sl; simp
end
section
variable {α : Type} {sz : Nat} {E : Heap → α → List Value → Prop} {m m' h h' h0 m0 : Heap} {A : Option Addr} {l : List α} {c n k : Nat} {cs : List Value} {x : Int} {y : α} {W : Nat → Prop} {a : Addr} {v : Value} {b : Nat} {t : TypeId}
theorem Rd.addr {K : Addr → Prop} (r : Rd sz E m A l) (hn : n = l.length) (g : gi l x = some y) (hk : ∀ a cs, A = some a → cellsH m (a.add (Int.toNat x * sz)) 0 sz = some cs → E m y cs → K a) : ptrOk A fun a => 0 ≤ x ∧ x < ((n : Nat) : Int) ∧ K a := by
 subst hn
 have h1 := gi_get g
 obtain ⟨hi, h2⟩ := List.getElem?_eq_some_iff.1 h1
 obtain ⟨a, cs, rfl, h3, h4⟩ := r _ hi
 rw [h2] at h4
 exact ⟨gi_le g, gi_lt g, hk a cs rfl h3 h4⟩
theorem OS.cellsAt (o : OS W h0 sz E h m A l c) (g : gi l x = some y) : ∃ a cs, A = some a ∧ cellsH h (a.add (Int.toNat x * sz)) 0 sz = some cs ∧ E m y cs := by
 have h1 := gi_get g
 rcases o with ⟨rfl, rfl⟩ | ⟨b, t, pre, cs, rest, rfl, h3, h4, h5, h6, h7⟩
 · cases h1
 have h8 := h4.get h1
 refine ⟨_, _, rfl, ?_, h8.1⟩
 have := h3.cells (a := (⟨b, pre.length, none⟩ : Addr).add (x.toNat * sz)) (by rw [add_block]) (add_spot _ rfl) sz 0 (by rw [add_off, List.length_append, List.length_append]; simp only [Nat.add_zero]; omega)
 rw [this, add_off]
 simp only [Nat.add_zero]
 rw [List.append_assoc, ← List.drop_drop, List.drop_left, List.drop_append_of_le_length (by omega), List.take_append_of_le_length (by rw [List.length_drop]; omega)]
theorem OS.addr {K : Addr → Prop} (o : OS W h0 sz E h m A l c) (hn : n = l.length) (g : gi l x = some y) (hk : ∀ a cs, A = some a → cellsH h (a.add (Int.toNat x * sz)) 0 sz = some cs → E m y cs → K a) : ptrOk A fun a => 0 ≤ x ∧ x < ((n : Nat) : Int) ∧ K a := by
 subst hn
 obtain ⟨a, cs, rfl, h1, h2⟩ := o.cellsAt g
 exact ⟨gi_le g, gi_lt g, hk a cs rfl h1 h2⟩
theorem ld0 (s : Sub m h) (hc : cellsH m a 0 n = some cs) (hv : cs[0]? = some v) : ldv false 1 h a = some v := by
 have h1 : cellH h (a.add 0) = some v := cellsH_get (s.cells _ _ hc) hv
 exact h1
theorem ldk (s : Sub m h) (hc : cellsH m a 0 n = some cs) (hv : cs[k]? = some v) : ldv false 1 h (Addr.add a k) = some v := by
 have := cellsH_get (s.cells _ _ hc) hv
 simpa [ldv] using this
theorem ldA (s : Sub m h) (hc : cellsH m a 0 n = some cs) : ldv true n h a = some (.agg cs.toArray) := by
 simp only [ldv, s.cells _ _ hc, Option.map_some]
theorem cellsH_part : ∀ {n i : Nat} {cs : List Value} (k j : Nat), cellsH h a i n = some cs → k + j ≤ n → cellsH h a (i + k) j = some ((cs.drop k).take j) := by
 intro n
 induction n with
 | zero =>
   intro i cs k j hc hk
   obtain ⟨rfl, rfl⟩ : k = 0 ∧ j = 0 := by omega
   simp [cellsH]
 | succ n ih =>
   intro i cs k j hc hk
   cases k with
   | succ k =>
     simp only [cellsH] at hc
     split at hc
     · split at hc
       · rename_i vs hvs
         cases hc
         have := ih k j hvs (by omega)
         rw [show i + (k + 1) = i + 1 + k by omega, this]; simp
       · cases hc
     · cases hc
   | zero =>
     cases j with
     | zero => simp [cellsH]
     | succ j =>
       simp only [cellsH] at hc
       split at hc
       · rename_i u hu
         split at hc
         · rename_i vs hvs
           cases hc
           have := ih 0 j hvs (by omega)
           simp only [Nat.add_zero, List.drop_zero] at this
           simp only [Nat.add_zero, cellsH, hu, this, List.drop_zero, List.take_succ_cons]
         · cases hc
       · cases hc
theorem ldAk {j : Nat} (s : Sub m h) (hc : cellsH m a 0 n = some cs) (hk : k + j ≤ n) : ldv true j h (Addr.add a k) = some (.agg ((cs.drop k).take j).toArray) := by
 have := cellsH_part k j (s.cells _ _ hc) hk
 simp only [ldv, cellsH_shift]
 simp only [Nat.zero_add] at this
 simp only [Nat.add_zero, this, Option.map_some]
theorem OB.st (o : OB W h0 h m b cs t) (s : Sub m h) (hk : k < cs.length) (hf : Flat v) : ∃ h', st1 h (Addr.add ⟨b, 0, none⟩ k) v = some h' ∧ OB W h0 h' m b (cs.set k v) t ∧ St (fb b) h m h' m := by
 obtain ⟨h', h1, h2, h3⟩ := o.1.st (a := Addr.add ⟨b, 0, none⟩ k) (v := v) (add_block _ _) (add_spot _ rfl) (by rw [add_off]; simpa using hk) hf
 rw [add_off, Nat.zero_add] at h2
 exact ⟨h', h1, ⟨h2, o.2⟩, .only s o.2.2 h3⟩
theorem OB.stA (o : OB W h0 h m b cs t) (s : Sub m h) (l : List Value) (hn : l.length = cs.length) (hf : ∀ v ∈ l, Flat v) : ∃ h', stH h ⟨b, 0, none⟩ l 0 = some h' ∧ OB W h0 h' m b l t ∧ St (fb b) h m h' m := by
 obtain ⟨h', h1, h2, h3⟩ := o.1.stAll l hn hf
 exact ⟨h', h1, ⟨h2, o.2⟩, .only s o.2.2 h3⟩
theorem cap_in {hi : Int} (h1 : hi ≤ (l.length : Int)) (h2 : l.length ≤ c) : hi ≤ ((c : Nat) : Int) := by omega
theorem sl_cap {lo hi : Int} {mx : Nat} (h1 : 0 ≤ lo) (h2 : lo ≤ hi) (h3 : hi ≤ (l.length : Int)) (h4 : hi.toNat ≤ mx) : (sl l lo hi).length ≤ mx - Int.toNat lo := by rw [← sl_len h1 h2 h3]; omega
theorem zc_len {z : Array Value} {n : Nat} : (zcells z n).toList.length = n * z.size := by rw [Array.length_toList, zcells_size]
def Src (sz : Nat) (E : Heap → α → List Value → Prop) (h m : Heap) (x : Value) (xs : List α) : Prop := ∃ es, srcCells sz x h = some (xs.length, es) ∧ CsE sz E m xs es
theorem Rd.srcE (r : Rd sz E m A l) (T : Tell sz E) (s : Sub m h) (hn : n = l.length) : Src sz E h m (.slice A n c) l := by
 subst hn
 cases A with
 | none =>
   have : l = [] := by
     cases l with
     | nil => rfl
     | cons x l => obtain ⟨a, _, h1, _⟩ := r 0 (by simp); cases h1
   subst this
   exact ⟨[], rfl, rfl⟩
 | some a =>
   obtain ⟨es, h1, h2⟩ := Rd.cse T r
   exact ⟨es, by simp only [srcCells, s.cells _ _ h1, Option.map_some], h2⟩
theorem OS.srcE {c' : Nat} (o : OS W h0 sz E h m A l c) (hn : n = l.length) : Src sz E h m (.slice A n c') l := by
 subst hn
 rcases o with ⟨rfl, rfl⟩ | ⟨b, t, pre, cs, rest, rfl, k1, k2, k3, k4, k5⟩
 · refine ⟨[], ?_, rfl⟩
   cases A with
   | none => rfl
   | some a => simp [srcCells, cellsH]
 · refine ⟨cs, ?_, k2⟩
   have hl := k2.len
   have := k1.cells (a := ⟨b, pre.length, none⟩) rfl rfl (l.length * sz) 0 (by simp [hl])
   simp only [srcCells, this, Nat.add_zero]
   rw [List.append_assoc, List.drop_left, List.take_append_of_le_length (by omega), List.take_of_length_le (by omega)]; rfl
def ap (B : Nat) (l xs : List α) : Option (List α) := if (l.length + xs.length) * B ≤ 140737488355328 then some (l ++ xs) else none
theorem ap_e {B : Nat} {l xs l' : List α} (g : ap B l xs = some l') : (l.length + xs.length) * B ≤ 140737488355328 ∧ l ++ xs = l' := by
 unfold ap at g
 obtain ⟨h, k⟩ := guard_e g
 exact ⟨h, Option.some.inj k⟩
def sls (l : List α) (lo hi : Int) : Option (List α) := if 0 ≤ lo ∧ lo ≤ hi ∧ hi ≤ (l.length : Int) then some (sl l lo hi) else none
theorem sls_e {lo hi : Int} {l' : List α} (g : sls l lo hi = some l') : 0 ≤ lo ∧ lo ≤ hi ∧ hi ≤ (l.length : Int) ∧ Int.toNat hi - Int.toNat lo = l'.length ∧ l' = Hw.sl l lo hi := by
 unfold sls at g
 obtain ⟨h, k⟩ := guard_e g
 cases k
 exact ⟨h.1, h.2.1, h.2.2, sl_len h.1 h.2.1 h.2.2, rfl⟩
end
end Go.Hw

end
section
namespace Go.Hw
open Go
section
variable {α : Type} {sz : Nat} {E : Heap → α → List Value → Prop} {m m' mL h h' h0 m0 : Heap} {A : Option Addr} {l : List α} {c b : Nat} {cs : List Value} {t : TypeId} {W W' : Nat → Prop}
theorem St.unlend (T : St W' h mL h' m') (s : Sub m h) (hd : ∀ b, W' b → ¬ Live m b) : St W' h m h' m where
 up := .refl _
 s b o h1 h2 := by
   rw [T.fr b (s.lt ⟨o, h1, h2⟩) (fun hw => hd b hw ⟨o, h1, h2⟩)]; exact s b o h1 h2
 size := T.size
 fr := T.fr
 lv b _ hl := .inl hl
end
section
variable {κ ν : Type} [DecidableEq κ] {h h' m m' h0 m0 : Heap} {b : Nat} {W W' : Nat → Prop} {kv : κ → Value} {es : List (κ × ν)} {vs : List (κ × Value)} {k : κ} {x zv : ν} {v z : Value} {P : Program} {t elem : TypeId} {sz : Nat}
def MonoV (EV : Heap → ν → Value → Prop) : Prop := ∀ m h x v, Sub m h → EV m x v → EV h x v
variable {EV : Heap → ν → Value → Prop}
end
section
variable {H : Type} {enc : TypeId × Value → H} {P : Program} {W : World}
theorem tells_i64 {t : TypeId} (hu : P.underlying t = some (.int .i64)) : Tells enc P W t (eInt .i64) (fun x => -9223372036854775808 ≤ x ∧ x ≤ 9223372036854775807) := tells_map (tells_int hu) fun a _ h q => ⟨a, h, wf_i64 q⟩
theorem tells_strL {t : TypeId} (hu : P.underlying t = some .string) : Tells enc P W t eStr (fun s => s.size ≤ 140737488351232) := tells_map (tells_str hu) fun a _ h q => ⟨a, h, q⟩
theorem tells_sliceL {α : Type} {t e : TypeId} {sz B : Nat} {E : Heap → α → List Value → Prop} {Q : α → Prop} (hu : P.underlying t = some (.slice e)) (hc : P.cellsOf e = sz) (hB : P.bytesOf e = B) (he : Tells enc P W e E Q) :
   Tells enc P W t (eRow sz E) (fun l => l.length * B ≤ 140737488351232 ∧ ∀ a ∈ l, Q a) := tells_map (tells_slice hu hc hB he) fun a _ h q => ⟨a, h, q⟩
end
end Go.Hw

end
section
namespace Go.Hw
open Go
section
variable {α β : Type}
theorem ap_of {B : Nat} {l xs : List α} (h : (l.length + xs.length) * B ≤ 140737488355328) : ap B l xs = some (l ++ xs) := by unfold ap; rw [if_pos h]
theorem ap_one {B : Nat} {l : List α} {x : α} (h : (l.length + 1) * B ≤ 140737488355328) : ap B l [x] = some (l ++ [x]) := ap_of (by simpa using h)
theorem gi_some {l : List α} {k : Nat} {x : Int} {y : α} (hx : x = k) (h : l[k]? = some y) : gi l x = some y := by subst hx; rw [gi_nat]; exact h
theorem gi_at {l : List α} {k : Nat} (h : k < l.length) : gi l (k : Int) = some l[k] := by rw [gi_nat]; exact List.getElem?_eq_getElem h
theorem sls_of {l : List α} {lo hi : Int} (h1 : 0 ≤ lo) (h2 : lo ≤ hi) (h3 : hi ≤ (l.length : Int)) : sls l lo hi = some (sl l lo hi) := by unfold sls; rw [if_pos ⟨h1, h2, h3⟩]
theorem sls_take {l : List α} {k : Nat} {x : Int} (hx : x = k) (h : k ≤ l.length) : sls l 0 x = some (l.take k) := by subst hx; rw [sls_of (by omega) (by omega) (by omega), sl_hi]; rfl
theorem w_succ {k : Nat} (h : k < 9223372036854775807) : IntKind.wrap .i64 ((k : Int) + 1) = ((k + 1 : Nat) : Int) := by rw [wrap_in (by omega) (by omega)]; rfl
theorem index_val [DecidableEq α] {f : List α → α → Int → Int → Option Int}
   (hf : ∀ a v n i, f a v n i = if i < n then (Option.bind (gi a i) fun y => if v = y then some i else f a v n (IntKind.wrap .i64 (i + 1))) else some (-1))
   {l : List α} (v : α) (hl : l.length ≤ 4611686018427387904) : f l v (l.length : Int) 0 = some (idxOf (fun y => decide (v = y)) l) := by
 have key : ∀ (d k : Nat), k + d = l.length → (∀ x ∈ l.take k, decide (v = x) = false) → f l v (l.length : Int) (k : Int) = some (idxOf (fun y => decide (v = y)) l) := by
   intro d
   induction d with
   | zero =>
     intro k hk hn
     rw [hf, if_neg (by omega)]
     have : l.findIdx? (fun y => decide (v = y)) = none := by
       rw [List.findIdx?_eq_none_iff]
       rw [List.take_of_length_le (by omega)] at hn
       exact hn
     simp [idxOf, this]
   | succ d ih =>
     intro k hk hn
     have hlt : k < l.length := by omega
     rw [hf, if_pos (by omega), gi_at hlt, Option.bind_some]
     by_cases hq : v = l[k]
     · rw [if_pos hq]
       have : l.findIdx? (fun y => decide (v = y)) = some k := by
         rw [List.findIdx?_eq_some_iff_getElem]
         refine ⟨hlt, decide_eq_true hq, fun j hj => ?_⟩
         have := hn l[j] (by rw [List.mem_take_iff_getElem]; exact ⟨j, by omega, rfl⟩)
         rw [this]; simp
       simp [idxOf, this]
     · rw [if_neg hq, w_succ (by omega)]
       refine ih (k + 1) (by omega) (fun x hx => ?_)
       rw [List.take_succ_eq_append_getElem hlt] at hx
       rcases List.mem_append.1 hx with hx | hx
       · exact hn x hx
       · simp at hx; subst hx; exact decide_eq_false hq
 exact key l.length 0 (by omega) (fun x hx => by simp at hx)
theorem contains_any [DecidableEq α] {f : List α → α → Int → Int → Option Int} {g : List α → α → Option Int} {c : List α → α → Option Bool}
   (hf : ∀ a v n i, f a v n i = if i < n then (Option.bind (gi a i) fun y => if v = y then some i else f a v n (IntKind.wrap .i64 (i + 1))) else some (-1))
   (hg : ∀ a v, g a v = f a v (a.length : Int) 0) (hc : ∀ a v, c a v = Option.bind (g a v) fun y => some (decide (y ≥ 0)))
   {l : List α} (v : α) (hl : l.length ≤ 4611686018427387904) : c l v = some (l.any fun y => decide (v = y)) := by
 rw [hc, hg, index_val hf v hl, Option.bind_some, idxOf_ge]
end
section
theorem forall_get {α : Type} {l : List α} {p : α → Prop} : (∀ i (hi : i < l.length), p l[i]) ↔ ∀ a ∈ l, p a :=
 ⟨fun h a ha => by obtain ⟨i, hi, rfl⟩ := List.getElem_of_mem ha; exact h i hi, fun h i hi => h _ (List.getElem_mem hi)⟩
open Go.RowKit
variable {H : Type} {enc : TypeId × Value → H} {P : Program} {W : World} {N : Nat}
def TellsU (N : Nat) {α : Type} (enc : TypeId × Value → H) (P : Program) (W : World) (t : TypeId) (E : Heap → α → List Value → Prop) (Q : α → Prop) : Prop :=
 ∀ (fuel : Nat), fuel < N → ∀ (cs : List Value) (x : DataW H × List MemPlace), DataW.trod enc P W 0 (fun _ => true) true fuel t cs = some x → (x.1.weights P t).all (· ≤ reachBytes) = true → ∃ a, E W.heap a cs ∧ Q a
theorem Tells.up {α : Type} {t : TypeId} {E : Heap → α → List Value → Prop} {Q : α → Prop} (he : Tells enc P W t E Q) : TellsU N enc P W t E Q := fun fuel _ => he fuel
theorem tells_rec {α : Type} {t : TypeId} {E : Heap → α → List Value → Prop} {Q : α → Prop} (step : ∀ N, TellsU N enc P W t E Q → TellsU (N + 1) enc P W t E Q) : Tells enc P W t E Q := by
 have key : ∀ N, TellsU N enc P W t E Q := by
   intro N
   induction N with
   | zero => intro fuel hf; omega
   | succ N ih => exact step N ih
 exact fun fuel => key (fuel + 1) fuel (Nat.lt_succ_self _)
theorem tellsU_map {α β : Type} {E : Heap → α → List Value → Prop} {F : Heap → β → List Value → Prop} {Q : α → Prop} {Q' : β → Prop} {t : TypeId} (he : TellsU N enc P W t E Q) (hm : ∀ a cs, E W.heap a cs → Q a → ∃ b, F W.heap b cs ∧ Q' b) : TellsU N enc P W t F Q' :=
 fun fuel hf cs x h hw => let ⟨a, ha, qa⟩ := he fuel hf cs x h hw; hm a cs ha qa
theorem tellsU_slice {α : Type} {t e : TypeId} {sz B : Nat} {E : Heap → α → List Value → Prop} {Q : α → Prop} (hu : P.underlying t = some (.slice e)) (hc : P.cellsOf e = sz) (hB : P.bytesOf e = B) (he : TellsU N enc P W e E Q) :
   TellsU N enc P W t (eRow sz E) (fun l => l.length * B ≤ 140737488351232 ∧ ∀ a ∈ l, Q a) := by
 intro fuel hf cs x h hw
 rcases DataW.trod_slice hu h with ⟨h1, h2⟩ | ⟨a, len, cap, elems, rest, n, hfn, h1, h2, _, hl, hm, hlen, hel, _, _⟩
 · exact ⟨[], ⟨none, 0, h1, Nat.le_refl _, Rd.nil⟩, by simp, fun a ha => by cases ha⟩
 · rw [h2] at hw
   simp only [DataW.weights, hu, List.all_cons, List.all_append, Bool.and_eq_true, decide_eq_true_eq] at hw
   obtain ⟨hw1, hw2, _⟩ := hw
   have hall := weightsAll_all _ hw2
   obtain ⟨l, h3, h4⟩ := list_choose (n := len) (p := fun i x => (∃ cs', cellsH W.heap (a.add (i * sz)) 0 sz = some cs' ∧ E W.heap x cs') ∧ Q x) (fun i hi => by
     have h5 := hel i hi
     have hlt : i < elems.length := by omega
     rw [List.getElem?_eq_getElem hlt] at h5
     obtain ⟨cs', h6, h7⟩ := Option.bind_eq_some_iff.1 h5
     obtain ⟨x, h8, h9⟩ := he _ (by omega) _ _ h7 (hall _ (List.mem_map.2 ⟨_, List.getElem_mem hlt, rfl⟩))
     rw [hc] at h6
     exact ⟨x, ⟨cs', cells_of h6, h8⟩, h9⟩)
   refine ⟨l, ⟨some a, cap, by rw [h1, h3], by omega, fun i hi => ?_⟩, ?_, fun x hx => ?_⟩
   · obtain ⟨⟨cs', h5, h6⟩, _⟩ := h4 i hi
     exact ⟨a, cs', rfl, h5, h6⟩
   · rw [hB] at hw1
     have h9 : l.length ≤ (List.map (·.1) elems).length + (List.map (·.1) rest).length := by simp; omega
     exact Nat.le_trans (Nat.mul_le_mul_right _ h9) hw1
   · obtain ⟨i, hi, rfl⟩ := List.getElem_of_mem hx
     exact (h4 i hi).2
theorem tellsU_down {α : Type} {t : TypeId} {E : Heap → α → List Value → Prop} {Q : α → Prop} (he : TellsU (N + 1) enc P W t E Q) : TellsU N enc P W t E Q := fun fuel hf => he fuel (by omega)
def TellsFU (N : Nat) {α : Type} (enc : TypeId × Value → H) (P : Program) (W : World) (T o : Nat) (fs : List (TypeId × Nat)) (F : Heap → α → List Value → Prop) (Q : α → Prop) : Prop :=
 ∀ (n : Nat), n < N → ∀ (cs : List Value) (xs : List (DataW H × List MemPlace)), cs.length = T → xs.length = fs.length → (∀ (i : Nat) (f : TypeId × Nat), fs[i]? = some f → DataW.trod enc P W 0 (fun _ => true) true n f.1 ((cs.drop f.2).take (P.cellsOf f.1)) = xs[i]?) →
   (DataW.weightsEach P (fs.map (·.1)) (xs.map (·.1))).all (· ≤ reachBytes) = true → ∃ b, F W.heap b (cs.drop o) ∧ Q b
theorem tfU_nil {T : Nat} : TellsFU N enc P W T T [] eNil (fun _ => True) := fun n _ cs xs hl _ _ _ => ⟨(), by unfold eNil; rw [List.drop_eq_nil_of_le (by omega)], trivial⟩
theorem tfU_cons {α β : Type} {E : Heap → α → List Value → Prop} {F : Heap → β → List Value → Prop} {Q : α → Prop} {Q' : β → Prop} {T o s : Nat} {f : TypeId} {fs : List (TypeId × Nat)} (hs : P.cellsOf f = s)
   (he : TellsU N enc P W f E Q) (hf : TellsFU N enc P W T (o + s) fs F Q') : TellsFU N enc P W T o ((f, o) :: fs) (eCons E F) (fun x => Q x.1 ∧ Q' x.2) := by
 intro n hn cs xs hl hx hi hw
 cases xs with
 | nil => cases hx
 | cons x xs =>
   have h0 := hi 0 (f, o) rfl
   simp only [hs] at h0
   simp only [List.map_cons, DataW.weightsEach, List.all_append, Bool.and_eq_true] at hw
   obtain ⟨a, ha, qa⟩ := he n hn _ _ h0 hw.1
   obtain ⟨b, hb, qb⟩ := hf n hn cs xs hl (by simpa using hx) (fun i g hg => by simpa using hi (i + 1) g hg) hw.2
   exact ⟨(a, b), ⟨_, _, by rw [← List.drop_drop, List.take_append_drop], ha, hb⟩, qa, qb⟩
theorem tellsU_struct {α : Type} {F : Heap → α → List Value → Prop} {Q : α → Prop} {t : TypeId} {fs : List (TypeId × Nat)} {T : Nat} (hs : shapeOf P t = some fs) (hc : P.cellsOf t = T) (hf : TellsFU N enc P W T 0 fs F Q) : TellsU (N + 1) enc P W t F Q := by
 intro fuel hfl cs x h hw
 unfold shapeOf at hs
 split at hs
 · rename_i fa hu
   cases hs
   obtain ⟨xs, n, hn, rfl, hl, hlen, hi⟩ := DataW.trod_struct hu h
   simp only [DataW.weights, hu] at hw
   obtain ⟨b, hb, qb⟩ := hf n (by omega) cs xs (by rw [hl, hc]) (by simpa using hlen) (fun i f hif => by
     rw [List.getElem?_map, Option.map_eq_some_iff] at hif
     obtain ⟨g, hg, rfl⟩ := hif
     exact hi i g (by simpa using hg)) (by rw [List.map_map]; exact hw)
   exact ⟨b, by simpa using hb, qb⟩
 · cases hs
end
end Go.Hw

end
section
set_option linter.unusedVariables false
namespace Go.Hw
open Go
abbrev Foot := Nat → Prop
def U (F G : Foot) : Foot := fun b => F b ∨ G b
section
variable {F G H F' G' : Foot}
theorem U.no_left : U No F = F := funext fun _ => propext ⟨fun h => h.elim (fun h => h.elim) id, .inr⟩
theorem U.no_right : U F No = F := funext fun _ => propext ⟨fun h => h.elim id (fun h => h.elim), .inl⟩
theorem U.assoc : U (U F G) H = U F (U G H) := funext fun _ => propext or_assoc
theorem U.comm : U F G = U G F := funext fun _ => propext or_comm
theorem U.left_comm : U F (U G H) = U G (U F H) := by rw [← U.assoc, U.comm (F := F), U.assoc]
theorem Dj.u (d : Dj F H) (d' : Dj G H) : Dj (U F G) H := fun b h k => h.elim (fun h => d b h k) (fun h => d' b h k)
theorem Dj.ul (d : Dj (U F G) H) : Dj F H := fun b h k => d b (.inl h) k
theorem Dj.ur (d : Dj (U F G) H) : Dj G H := fun b h k => d b (.inr h) k
theorem Dj.u' (d : Dj H F) (d' : Dj H G) : Dj H (U F G) := fun b k h => h.elim (fun h => d b k h) (fun h => d' b k h)
theorem Dj.ul' (d : Dj H (U F G)) : Dj H F := fun b k h => d b k (.inl h)
theorem Dj.ur' (d : Dj H (U F G)) : Dj H G := fun b k h => d b k (.inr h)
theorem Dj.no' : Dj F No := fun _ _ h => h
theorem Dj.mono (d : Dj F G) (h1 : ∀ b, F' b → F b) (h2 : ∀ b, G' b → G b) : Dj F' G' := fun b k l => d b (h1 b k) (h2 b l)
end
structure Res where
 p : Heap → Heap → Foot → Prop
 z : Heap → Prop
 lt : ∀ {h m F}, p h m F → ∀ b, F b → b < h.size
 nl : ∀ {h m F}, p h m F → ∀ b, F b → ¬ Live m b
 fr : ∀ {h m F h' m'}, p h m F → (∀ b, F b → h'[b]? = h[b]?) → Sub m m' → (∀ b, F b → ¬ Live m' b) → p h' m' F
 fz : ∀ {h m F G}, p h m F → Sub m h → (∀ b, F b → G b) → z (addV m h G)
def Res.vf (R : Res) : Prop := ∀ h m m' F, R.p h m F → Sub m' h → (∀ b, F b → ¬ Live m' b) → R.p h m' F
def rE : Res where
 p _ _ F := F = No
 z _ := True
 lt := by rintro h m F rfl b hb; exact hb.elim
 nl := by rintro h m F rfl b hb; exact hb.elim
 fr := fun h _ _ _ => h
 fz := fun _ _ _ => trivial
def Sep : List Res → Heap → Heap → Foot → Prop
 | [], _, _, F => F = No
 | R :: Rs, h, m, F => ∃ F1 F2, R.p h m F1 ∧ Sep Rs h m F2 ∧ Dj F1 F2 ∧ F = U F1 F2
def ZAll (m : Heap) : List Res → Prop
 | [] => True
 | R :: Rs => R.z m ∧ ZAll m Rs
def takeL : List Res → List Nat → List Res
 | _, [] => []
 | Rs, i :: is => (match Rs[i]? with | some R => R | none => rE) :: takeL (Rs.set i rE) is
def dropL : List Res → List Nat → List Res
 | Rs, [] => Rs
 | Rs, i :: is => dropL (Rs.set i rE) is
section
variable {h h' m m' : Heap} {F F1 F2 G : Foot} {Rs Rs' : List Res} {R R' : Res} {k : Nat}
theorem Sep.lt : ∀ {Rs : List Res} {F : Foot}, Sep Rs h m F → ∀ b, F b → b < h.size
 | [], _, hs, b, hb => by rw [show _ = No from hs] at hb; exact hb.elim
 | _ :: _, _, ⟨_, _, h1, h2, _, rfl⟩, b, hb => hb.elim (Res.lt _ h1 b) (Sep.lt h2 b)
theorem Sep.nl : ∀ {Rs : List Res} {F : Foot}, Sep Rs h m F → ∀ b, F b → ¬ Live m b
 | [], _, hs, b, hb => by rw [show _ = No from hs] at hb; exact hb.elim
 | _ :: _, _, ⟨_, _, h1, h2, _, rfl⟩, b, hb => hb.elim (Res.nl _ h1 b) (Sep.nl h2 b)
theorem Sep.fr : ∀ {Rs : List Res} {F : Foot}, Sep Rs h m F → (∀ b, F b → h'[b]? = h[b]?) → Sub m m' → (∀ b, F b → ¬ Live m' b) → Sep Rs h' m' F
 | [], _, hs, _, _, _ => hs
 | _ :: _, _, ⟨F1, F2, h1, h2, h3, rfl⟩, k1, k2, k3 => ⟨F1, F2, Res.fr _ h1 (fun b hb => k1 b (.inl hb)) k2 (fun b hb => k3 b (.inl hb)), Sep.fr h2 (fun b hb => k1 b (.inr hb)) k2 (fun b hb => k3 b (.inr hb)), h3, rfl⟩
theorem Sep.fz : ∀ {Rs : List Res} {F : Foot}, Sep Rs h m F → Sub m h → (∀ b, F b → G b) → ZAll (addV m h G) Rs
 | [], _, _, _, _ => trivial
 | _ :: _, _, ⟨F1, F2, h1, h2, h3, rfl⟩, k1, k2 => ⟨Res.fz _ h1 k1 (fun b hb => k2 b (.inl hb)), Sep.fz h2 k1 (fun b hb => k2 b (.inr hb))⟩
theorem Sep.vf : ∀ {Rs : List Res} {F : Foot}, Sep Rs h m F → (∀ R ∈ Rs, R.vf) → Sub m' h → (∀ b, F b → ¬ Live m' b) → Sep Rs h m' F
 | [], _, hs, _, _, _ => hs
 | R :: Rs, _, ⟨F1, F2, h1, h2, h3, rfl⟩, v, k1, k2 => ⟨F1, F2, v R (List.mem_cons_self ..) _ _ _ _ h1 k1 (fun b hb => k2 b (.inl hb)), Sep.vf h2 (fun R hR => v R (List.mem_cons_of_mem _ hR)) k1 (fun b hb => k2 b (.inr hb)), h3, rfl⟩
theorem Sep.get : ∀ {Rs : List Res} {F : Foot} {k : Nat}, Sep Rs h m F → Rs[k]? = some R → ∃ F1 F2, R.p h m F1 ∧ Sep (Rs.set k rE) h m F2 ∧ Dj F1 F2 ∧ F = U F1 F2
 | [], _, _, _, hk => by cases hk
 | R' :: Rs, _, 0, ⟨F1, F2, h1, h2, h3, e⟩, hk => by
   cases hk
   exact ⟨F1, F2, h1, ⟨No, F2, rfl, h2, .no, U.no_left.symm⟩, h3, e⟩
 | R' :: Rs, _, k + 1, ⟨F1, F2, h1, h2, h3, e⟩, hk => by
   obtain ⟨G1, G2, k1, k2, k3, rfl⟩ := Sep.get h2 (show Rs[k]? = some R by simpa using hk)
   refine ⟨G1, U F1 G2, k1, ⟨F1, G2, h1, k2, h3.ur', rfl⟩, ?_, ?_⟩
   · exact Dj.u' h3.ul'.symm k3
   · rw [e, U.left_comm]
theorem Sep.put : ∀ {Rs : List Res} {F2 : Foot} {k : Nat}, Sep Rs h m F2 → Rs[k]? = some rE → R'.p h m F1 → Dj F1 F2 → Sep (Rs.set k R') h m (U F1 F2)
 | [], _, _, _, hk, _, _ => by cases hk
 | R :: Rs, _, 0, ⟨G1, G2, h1, h2, h3, e⟩, hk, hp, d => by
   cases hk
   have : G1 = No := h1
   subst this
   rw [U.no_left] at e
   subst e
   exact ⟨F1, _, hp, h2, d, rfl⟩
 | R :: Rs, _, k + 1, ⟨G1, G2, h1, h2, h3, e⟩, hk, hp, d => by
   subst e
   have := Sep.put h2 (show Rs[k]? = some rE by simpa using hk) hp d.ur'
   exact ⟨G1, _, h1, this, Dj.u' d.ul'.symm h3, by rw [U.left_comm]⟩
theorem Sep.app : ∀ {Rs : List Res} {F : Foot}, Sep Rs h m F → Sep Rs' h m G → Dj F G → Sep (Rs ++ Rs') h m (U F G)
 | [], _, hs, hs', _ => by rw [show _ = No from hs, U.no_left]; exact hs'
 | R :: Rs, _, ⟨F1, F2, h1, h2, h3, e⟩, hs', d => by
   subst e
   exact ⟨F1, _, h1, Sep.app h2 hs' d.ur, Dj.u' h3 d.ul, U.assoc⟩
theorem Sep.one (hp : R.p h m F) : Sep [R] h m F := ⟨F, No, hp, rfl, .no', U.no_right.symm⟩
theorem set_rE (hk : Rs[k]? = some R) : (Rs.set k rE)[k]? = some rE := by
 have : k < Rs.length := (List.getElem?_eq_some_iff.1 hk).1
 rw [List.getElem?_set_self this]
theorem Sep.part : ∀ (is : List Nat) {Rs : List Res} {F : Foot}, Sep Rs h m F → ∃ F1 F2, Sep (takeL Rs is) h m F1 ∧ Sep (dropL Rs is) h m F2 ∧ Dj F1 F2 ∧ F = U F1 F2
 | [], Rs, F, hs => ⟨No, F, rfl, hs, .no, U.no_left.symm⟩
 | i :: is, Rs, F, hs => by
   cases hi : Rs[i]? with
   | none =>
     have : Rs.set i rE = Rs := List.set_eq_of_length_le (List.getElem?_eq_none_iff.1 hi)
     obtain ⟨F1, F2, h1, h2, h3, h4⟩ := Sep.part is (Rs := Rs.set i rE) (by rw [this]; exact hs)
     refine ⟨F1, F2, ?_, h2, h3, h4⟩
     simp only [takeL, hi]
     exact ⟨No, F1, rfl, h1, .no, U.no_left.symm⟩
   | some R =>
     obtain ⟨G1, G2, k1, k2, k3, rfl⟩ := Sep.get hs hi
     obtain ⟨F1, F2, h1, h2, h3, rfl⟩ := Sep.part is k2
     refine ⟨U G1 F1, F2, ?_, h2, Dj.u k3.ur' h3, U.assoc.symm⟩
     simp only [takeL, hi]
     exact ⟨G1, F1, k1, h1, k3.ul', rfl⟩
end
structure Hold (W : Foot) (h0 m0 h m : Heap) (Rs : List Res) : Prop where
 S : St W h0 m0 h m
 q : ∃ F, Sep Rs h m F ∧ ∀ b, F b → h0.size ≤ b ∨ W b
section
variable {h0 m0 h h' m m' : Heap} {W F F' G : Foot} {Rs Rs' : List Res} {R R' : Res} {k : Nat}
theorem Hold.s (O : Hold W h0 m0 h m Rs) : Sub m h := O.S.s
theorem Hold.start (s : Sub m h) : Hold W h m h m [] := ⟨.refl s, No, rfl, fun _ h => h.elim⟩
theorem St.frame (T : St F h m h' m') (h2 : Dj F G) (h3 : ∀ b, G b → b < h.size) (h4 : ∀ b, G b → ¬ Live m b) : (∀ b, G b → h'[b]? = h[b]?) ∧ ∀ b, G b → ¬ Live m' b :=
 ⟨fun b hb => T.fr b (h3 b hb) (fun hf => h2 b hf hb), fun b hb hl => (T.lv b (h3 b hb) hl).elim (h4 b hb) (fun hf => h2 b hf hb)⟩
theorem Hold.get (O : Hold W h0 m0 h m Rs) (k : Nat) (hk : Rs[k]? = some R) : ∃ F, R.p h m F ∧ (∀ b, F b → h0.size ≤ b ∨ W b) ∧
   ∀ {h' m' : Heap} {R' : Res} {F' : Foot}, St F h m h' m' → R'.p h' m' F' → (∀ b, F' b → F b ∨ h.size ≤ b) → Hold W h0 m0 h' m' (Rs.set k R') := by
 obtain ⟨S, FF, hs, hw⟩ := O
 obtain ⟨F1, F2, h1, h2, h3, rfl⟩ := hs.get hk
 refine ⟨F1, h1, fun b hb => hw b (.inl hb), fun {h' m' R' F'} T hp hn => ?_⟩
 obtain ⟨f1, f2⟩ := T.frame h3 h2.lt h2.nl
 have s2 := Sep.fr h2 f1 T.up f2
 have d : Dj F' F2 := fun b hb hc => (hn b hb).elim (fun hf => h3 b hf hc) (fun hl => by have := h2.lt b hc; omega)
 have := Sep.put s2 (set_rE hk) hp d
 rw [List.set_set] at this
 refine ⟨S.then T (fun b _ hb => hw b (.inl hb)), _, this, fun b hb => hb.elim (fun hb => (hn b hb).elim (fun hf => hw b (.inl hf)) (fun hl => .inl (Nat.le_trans S.size hl))) (fun hb => hw b (.inr hb))⟩
theorem Hold.add (O : Hold W h0 m0 h m Rs) (T : St No h m h' m') (hp : R.p h' m' F') (hn : ∀ b, F' b → h.size ≤ b) : Hold W h0 m0 h' m' (Rs ++ [R]) := by
 obtain ⟨S, F, hs, hw⟩ := O
 obtain ⟨f1, f2⟩ := T.frame (G := F) .no hs.lt hs.nl
 refine ⟨S.grow T, _, (Sep.fr hs f1 T.up f2).app (.one hp) (fun b hb hc => by have := hs.lt b hb; have := hn b hc; omega), fun b hb => hb.elim (hw b) (fun hb => .inl (Nat.le_trans S.size (hn b hb)))⟩
theorem Hold.grow (O : Hold W h0 m0 h m Rs) (T : St No h m h' m') : Hold W h0 m0 h' m' Rs := by
 obtain ⟨S, F, hs, hw⟩ := O
 obtain ⟨f1, f2⟩ := T.frame (G := F) .no hs.lt hs.nl
 exact ⟨S.grow T, F, Sep.fr hs f1 T.up f2, hw⟩
theorem Hold.ext (O : Hold W h0 m0 h m Rs) (e : Ext h h') : Hold W h0 m0 h' m Rs := O.grow (St.of_ext O.s e)
theorem Hold.adds (O : Hold W h0 m0 h m Rs) (hp : R.p h m No) : Hold W h0 m0 h m (Rs ++ [R]) := O.add (.refl O.s) hp (fun _ h => h.elim)
theorem Hold.conv (O : Hold W h0 m0 h m Rs) (k : Nat) (hk : Rs[k]? = some R) (H : ∀ F, R.p h m F → ∃ F', R'.p h m F' ∧ ∀ b, F' b → F b) : Hold W h0 m0 h m (Rs.set k R') := by
 obtain ⟨F, h1, _, h3⟩ := O.get k hk
 obtain ⟨F', h4, h5⟩ := H F h1
 exact h3 (.refl O.s) h4 (fun b hb => .inl (h5 b hb))
theorem Hold.pick (O : Hold W h0 m0 h m Rs) (is : List Nat) : Hold W h0 m0 h m (takeL Rs is) := by
 obtain ⟨S, F, hs, hw⟩ := O
 obtain ⟨F1, F2, h1, h2, h3, rfl⟩ := hs.part is
 exact ⟨S, F1, h1, fun b hb => hw b (.inl hb)⟩
theorem Hold.call (O : Hold W h0 m0 h m Rs) (is : List Nat) : ∃ W', Hold W' h m h m (takeL Rs is) ∧ ∀ {h' m' : Heap} {Rs' : List Res}, Hold W' h m h' m' Rs' → Hold W h0 m0 h' m' (dropL Rs is ++ Rs') := by
 obtain ⟨S, F, hs, hw⟩ := O
 obtain ⟨F1, F2, h1, h2, h3, rfl⟩ := hs.part is
 refine ⟨F1, ⟨.refl S.s, F1, h1, fun b hb => .inr hb⟩, fun {h' m' Rs'} O' => ?_⟩
 obtain ⟨T, F', hs', hw'⟩ := O'
 obtain ⟨f1, f2⟩ := T.frame h3 h2.lt h2.nl
 refine ⟨S.then T (fun b _ hb => hw b (.inl hb)), _, (Sep.fr h2 f1 T.up f2).app hs' (fun b hb hc => (hw' b hc).elim (fun hl => by have := h2.lt b hb; omega) (fun hf => h3 b hf hb)), fun b hb => hb.elim (fun hb => hw b (.inr hb)) (fun hb => (hw' b hb).elim (fun hl => .inl (Nat.le_trans S.size hl)) (fun hf => hw b (.inl hf)))⟩
theorem Hold.callC (O : Hold W h0 m0 h m Rs) (is : List Nat) : ∃ W', Hold W' h m h m (takeL Rs is) ∧
   (∀ {h' m' : Heap} {Rs' : List Res}, Hold W' h m h' m' Rs' → Hold W h0 m0 h' m' (dropL Rs is ++ Rs')) ∧
   (∀ {h' m' : Heap} {Rs' : List Res}, Hold W' h m h' m' Rs' → (∀ R ∈ Rs', R.vf) → Hold W h0 m0 h' m (dropL Rs is ++ Rs')) := by
 obtain ⟨S, F, hs, hw⟩ := O
 obtain ⟨F1, F2, h1, h2, h3, rfl⟩ := hs.part is
 have key : ∀ {h' m' : Heap} {Rs' : List Res}, Hold F1 h m h' m' Rs' → Hold W h0 m0 h' m' (dropL Rs is ++ Rs') := fun {h' m' Rs'} O' => by
   obtain ⟨T, F', hs', hw'⟩ := O'
   obtain ⟨f1, f2⟩ := T.frame h3 h2.lt h2.nl
   exact ⟨S.then T (fun b _ hb => hw b (.inl hb)), _, (Sep.fr h2 f1 T.up f2).app hs' (fun b hb hc => (hw' b hc).elim (fun hl => by have := h2.lt b hb; omega) (fun hf => h3 b hf hb)), fun b hb => hb.elim (fun hb => hw b (.inr hb)) (fun hb => (hw' b hb).elim (fun hl => .inl (Nat.le_trans S.size hl)) (fun hf => hw b (.inl hf)))⟩
 refine ⟨F1, ⟨.refl S.s, F1, h1, fun b hb => .inr hb⟩, key, fun {h' m' Rs'} O' v => key ?_⟩
 obtain ⟨T, F', hs', hw'⟩ := O'
 have T' : St F1 h m h' m := T.unlend S.s h1.nl
 exact ⟨T', F', hs'.vf v T'.s (fun b hb hv => (hw' b hb).elim (fun hl => by have := S.s.lt hv; omega) (fun hf => h1.nl b hf hv)), hw'⟩
theorem Hold.lend (O : Hold W h0 m0 h m Rs) (is ls : List Nat) : ∃ m1 W', Sub m m1 ∧ Hold W' h m1 h m1 (takeL Rs is) ∧ ZAll m1 (takeL (dropL Rs is) ls) ∧
   (∀ {h' m' : Heap} {Rs' : List Res}, Hold W' h m1 h' m' Rs' → Hold W h0 m0 h' m' (dropL (dropL Rs is) ls ++ Rs')) ∧
   (∀ {h' m' : Heap} {Rs' : List Res}, Hold W' h m1 h' m' Rs' → (∀ R ∈ Rs', R.vf) → Hold W h0 m0 h' m (dropL Rs is ++ Rs')) := by
 obtain ⟨S, F, hs, hw⟩ := O
 obtain ⟨F1, F2, h1, h2, h3, rfl⟩ := hs.part is
 obtain ⟨F3, F4, k1, k2, k3, rfl⟩ := h2.part ls
 have hl : ∀ b, Live (addV m h F3) b → Live m b ∨ F3 b := fun b h => (addV_live h).1
 have n1 : ∀ b, F1 b → ¬ Live (addV m h F3) b := fun b hb hv => (hl b hv).elim (h1.nl b hb) (fun hf => h3 b hb (.inl hf))
 have n4 : ∀ b, F4 b → ¬ Live (addV m h F3) b := fun b hb hv => (hl b hv).elim (k2.nl b hb) (fun hf => k3 b hf hb)
 refine ⟨addV m h F3, F1, addV_up S.s, ⟨.refl addV_sub, F1, Sep.fr h1 (fun _ _ => rfl) (addV_up S.s) n1, fun b hb => .inr hb⟩, k1.fz S.s (fun _ h => h), fun {h' m' Rs'} O' => ?_, fun {h' m' Rs'} O' v => ?_⟩
 · obtain ⟨T, F', hs', hw'⟩ := O'
   have k4 := Sep.fr k2 (fun _ _ => rfl) (addV_up S.s) n4
   obtain ⟨f1, f2⟩ := T.frame h3.ur' k2.lt n4
   refine ⟨(S.then (St.settle S.s F3) (fun b _ hb => hw b (.inr (.inl hb)))).then T (fun b _ hb => hw b (.inl hb)), _, (Sep.fr k4 f1 T.up f2).app hs' (fun b hb hc => (hw' b hc).elim (fun hl => by have := k2.lt b hb; omega) (fun hf => h3 b hf (.inr hb))), fun b hb => hb.elim (fun hb => hw b (.inr (.inr hb))) (fun hb => (hw' b hb).elim (fun hl => .inl (Nat.le_trans S.size hl)) (fun hf => hw b (.inl hf)))⟩
 · obtain ⟨T, F', hs', hw'⟩ := O'
   have T' : St F1 h m h' m := T.unlend S.s h1.nl
   obtain ⟨f1, f2⟩ := T'.frame h3 h2.lt h2.nl
   have n' : ∀ b, F' b → ¬ Live m b := fun b hb hv => (hw' b hb).elim (fun hl => by have := S.s.lt hv; omega) (fun hf => h1.nl b hf hv)
   refine ⟨S.then T' (fun b _ hb => hw b (.inl hb)), _, (Sep.fr h2 f1 T'.up f2).app (hs'.vf v T'.s n') (fun b hb hc => (hw' b hc).elim (fun hl => by have := h2.lt b hb; omega) (fun hf => h3 b hf hb)), fun b hb => hb.elim (fun hb => hw b (.inr hb)) (fun hb => (hw' b hb).elim (fun hl => .inl (Nat.le_trans S.size hl)) (fun hf => hw b (.inl hf)))⟩
end
end Go.Hw

end
section
set_option linter.unusedVariables false
namespace Go.Hw
open Go
structure Asn (α : Type) (sz : Nat) where
 p : Heap → Heap → α → List Value → Foot → Prop
 E : Heap → α → List Value → Prop
 T : Tell sz E
 len : ∀ {h m x cs F}, p h m x cs F → cs.length = sz
 flat : ∀ {h m x cs F}, p h m x cs F → ∀ v ∈ cs, Flat v
 lt : ∀ {h m x cs F}, p h m x cs F → ∀ b, F b → b < h.size
 nl : ∀ {h m x cs F}, p h m x cs F → ∀ b, F b → ¬ Live m b
 fr : ∀ {h m x cs F h' m'}, p h m x cs F → (∀ b, F b → h'[b]? = h[b]?) → Sub m m' → (∀ b, F b → ¬ Live m' b) → p h' m' x cs F
 fz : ∀ {h m x cs F G}, p h m x cs F → Sub m h → (∀ b, F b → G b) → E (addV m h G) x cs
def aE {α : Type} {sz : Nat} {E : Heap → α → List Value → Prop} (T : Tell sz E) : Asn α sz where
 p _ m x cs F := E m x cs ∧ F = No
 E := E
 T := T
 len h := T.len _ _ _ h.1
 flat h := T.flat _ _ _ h.1
 lt := by rintro h m x cs F ⟨_, rfl⟩ b hb; exact hb.elim
 nl := by rintro h m x cs F ⟨_, rfl⟩ b hb; exact hb.elim
 fr := fun h _ s _ => ⟨T.mono _ _ _ _ s h.1, h.2⟩
 fz := fun h s _ => T.mono _ _ _ _ (addV_up s) h.1
def Asn.vf {α : Type} {sz : Nat} (a : Asn α sz) : Prop := ∀ h m m' x cs F, a.p h m x cs F → Sub m' h → (∀ b, F b → ¬ Live m' b) → a.p h m' x cs F
theorem aE_vf {α : Type} {sz : Nat} {E : Heap → α → List Value → Prop} {T : Tell sz E} (hE : ∀ m m' x cs, E m x cs → E m' x cs) : (aE T).vf := fun _ _ _ _ _ _ h _ _ => ⟨hE _ _ _ _ h.1, h.2⟩
theorem Blk.fr {h h' : Heap} {b : Nat} {c : List Value} {t : TypeId} (hb : Blk h b c t) (e : h'[b]? = h[b]?) : Blk h' b c t := by unfold Blk at *; rw [e]; exact hb
def rV (b : Nat) (t : TypeId) (cs : List Value) : Res where
 p h m F := Blk h b cs t ∧ ¬ Live m b ∧ F = fb b
 z m := Blk m b cs t
 lt := by rintro h m F ⟨h1, _, rfl⟩ i hi; unfold fb at hi; subst hi; exact h1.lt
 nl := by rintro h m F ⟨h1, h2, rfl⟩ i hi; unfold fb at hi; subst hi; exact h2
 fr := by rintro h m F h' m' ⟨h1, h2, rfl⟩ k1 _ k3; exact ⟨h1.fr (k1 b rfl), k3 b rfl, rfl⟩
 fz := by rintro h m F G ⟨h1, h2, rfl⟩ _ k2; exact h1.settle (k2 b rfl)
theorem rV_vf {b : Nat} {t : TypeId} {cs : List Value} : (rV b t cs).vf := by rintro h m m' F ⟨h1, _, rfl⟩ _ k2; exact ⟨h1, k2 b rfl, rfl⟩
section
variable {α : Type} {sz : Nat}
def CsA (a : Asn α sz) (h m : Heap) : List α → List Value → Foot → Prop
 | [], cs, F => cs = [] ∧ F = No
 | x :: l, cs, F => ∃ c1 c2 F1 F2, cs = c1 ++ c2 ∧ a.p h m x c1 F1 ∧ CsA a h m l c2 F2 ∧ Dj F1 F2 ∧ F = U F1 F2
variable {a : Asn α sz} {h h' m m' : Heap} {l l' : List α} {cs ds : List Value} {F F' F1 F2 G : Foot} {x y : α}
theorem CsA.len : ∀ {l : List α} {cs : List Value} {F : Foot}, CsA a h m l cs F → cs.length = l.length * sz
 | [], _, _, ⟨e, _⟩ => by rw [e]; simp
 | x :: l, _, _, ⟨c1, c2, F1, F2, e, h1, h2, _, _⟩ => by rw [e, List.length_append, CsA.len h2, a.len h1, List.length_cons, Nat.succ_mul, Nat.add_comm]
theorem CsA.flat : ∀ {l : List α} {cs : List Value} {F : Foot}, CsA a h m l cs F → ∀ v ∈ cs, Flat v
 | [], _, _, ⟨e, _⟩ => by rw [e]; exact Flats.nil
 | x :: l, _, _, ⟨c1, c2, F1, F2, e, h1, h2, _, _⟩ => by
   rw [e]; intro v hv
   rcases List.mem_append.1 hv with hv | hv
   · exact a.flat h1 v hv
   · exact CsA.flat h2 v hv
theorem CsA.lt : ∀ {l : List α} {cs : List Value} {F : Foot}, CsA a h m l cs F → ∀ b, F b → b < h.size
 | [], _, _, ⟨_, e⟩, b, hb => by rw [e] at hb; exact hb.elim
 | x :: l, _, _, ⟨c1, c2, F1, F2, _, h1, h2, _, rfl⟩, b, hb => hb.elim (a.lt h1 b) (CsA.lt h2 b)
theorem CsA.nl : ∀ {l : List α} {cs : List Value} {F : Foot}, CsA a h m l cs F → ∀ b, F b → ¬ Live m b
 | [], _, _, ⟨_, e⟩, b, hb => by rw [e] at hb; exact hb.elim
 | x :: l, _, _, ⟨c1, c2, F1, F2, _, h1, h2, _, rfl⟩, b, hb => hb.elim (a.nl h1 b) (CsA.nl h2 b)
theorem CsA.fr : ∀ {l : List α} {cs : List Value} {F : Foot}, CsA a h m l cs F → (∀ b, F b → h'[b]? = h[b]?) → Sub m m' → (∀ b, F b → ¬ Live m' b) → CsA a h' m' l cs F
 | [], _, _, hs, _, _, _ => hs
 | x :: l, _, _, ⟨c1, c2, F1, F2, e, h1, h2, d, rfl⟩, k1, k2, k3 => ⟨c1, c2, F1, F2, e, a.fr h1 (fun b hb => k1 b (.inl hb)) k2 (fun b hb => k3 b (.inl hb)), CsA.fr h2 (fun b hb => k1 b (.inr hb)) k2 (fun b hb => k3 b (.inr hb)), d, rfl⟩
theorem CsA.vf (v : a.vf) : ∀ {l : List α} {cs : List Value} {F : Foot}, CsA a h m l cs F → Sub m' h → (∀ b, F b → ¬ Live m' b) → CsA a h m' l cs F
 | [], _, _, hs, _, _ => hs
 | x :: l, _, _, ⟨c1, c2, F1, F2, e, h1, h2, d, rfl⟩, k1, k2 => ⟨c1, c2, F1, F2, e, v _ _ _ _ _ _ h1 k1 (fun b hb => k2 b (.inl hb)), CsA.vf v h2 k1 (fun b hb => k2 b (.inr hb)), d, rfl⟩
theorem CsA.fz : ∀ {l : List α} {cs : List Value} {F : Foot}, CsA a h m l cs F → Sub m h → (∀ b, F b → G b) → CsE sz a.E (addV m h G) l cs
 | [], _, _, ⟨e, _⟩, _, _ => e
 | x :: l, _, _, ⟨c1, c2, F1, F2, e, h1, h2, d, rfl⟩, k1, k2 => ⟨c1, c2, e, a.len h1, a.fz h1 k1 (fun b hb => k2 b (.inl hb)), CsA.fz h2 k1 (fun b hb => k2 b (.inr hb))⟩
theorem CsA.append : ∀ {l : List α} {cs : List Value} {F : Foot}, CsA a h m l cs F → CsA a h m l' ds F' → Dj F F' → CsA a h m (l ++ l') (cs ++ ds) (U F F')
 | [], _, _, ⟨e, e'⟩, h', _ => by subst e; subst e'; rw [U.no_left]; exact h'
 | x :: l, _, _, ⟨c1, c2, F1, F2, e, h1, h2, d, e'⟩, h', dd => by
   subst e; subst e'
   rw [List.append_assoc]
   exact ⟨c1, _, F1, _, rfl, h1, CsA.append h2 h' dd.ur, Dj.u' d dd.ul, U.assoc⟩
theorem CsA.drop : ∀ {l : List α} {cs : List Value} {F : Foot} (k : Nat), CsA a h m l cs F → ∃ F', CsA a h m (l.drop k) (cs.drop (k * sz)) F' ∧ ∀ b, F' b → F b
 | [], _, F, k, ⟨e, e'⟩ => by subst e; subst e'; exact ⟨No, by simp [CsA], fun _ h => h⟩
 | x :: l, _, F, 0, hh => by rw [Nat.zero_mul, List.drop_zero, List.drop_zero]; exact ⟨F, hh, fun _ h => h⟩
 | x :: l, _, F, k + 1, ⟨c1, c2, F1, F2, e, h1, h2, d, e'⟩ => by
   obtain ⟨F', h3, h4⟩ := CsA.drop k h2
   refine ⟨F', ?_, fun b hb => by rw [e']; exact .inr (h4 b hb)⟩
   rw [e, show (k + 1) * sz = c1.length + k * sz by rw [a.len h1, Nat.succ_mul, Nat.add_comm], ← List.drop_drop (l := c1 ++ c2), List.drop_left, List.drop_succ_cons]
   exact h3
theorem CsA.take : ∀ {l : List α} {cs : List Value} {F : Foot} (k : Nat), CsA a h m l cs F → ∃ F', CsA a h m (l.take k) (cs.take (k * sz)) F' ∧ ∀ b, F' b → F b
 | [], _, F, k, ⟨e, e'⟩ => by subst e; subst e'; exact ⟨No, by simp [CsA], fun _ h => h⟩
 | x :: l, _, F, 0, hh => ⟨No, by simp [CsA], fun _ h => h.elim⟩
 | x :: l, _, F, k + 1, ⟨c1, c2, F1, F2, e, h1, h2, d, e'⟩ => by
   obtain ⟨F', h3, h4⟩ := CsA.take k h2
   refine ⟨U F1 F', ?_, fun b hb => by rw [e']; exact hb.elim .inl (fun hb => .inr (h4 b hb))⟩
   rw [e, show (k + 1) * sz = c1.length + k * sz by rw [a.len h1, Nat.succ_mul, Nat.add_comm], List.take_length_add_append, List.take_succ_cons]
   exact ⟨c1, _, F1, F', rfl, h1, h3, d.mono (fun _ h => h) h4, rfl⟩
theorem CsE.csa {E : Heap → α → List Value → Prop} {T : Tell sz E} : ∀ {l : List α} {cs : List Value}, CsE sz E m l cs → CsA (aE T) h m l cs No
 | [], _, e => ⟨e, rfl⟩
 | x :: l, _, ⟨c1, c2, e, h1, h2, h3⟩ => ⟨c1, c2, No, No, e, ⟨h2, rfl⟩, CsE.csa h3, .no, U.no_left.symm⟩
theorem CsA.cse {E : Heap → α → List Value → Prop} {T : Tell sz E} : ∀ {l : List α} {cs : List Value} {F : Foot}, CsA (aE T) h m l cs F → CsE sz E m l cs ∧ F = No
 | [], _, _, ⟨e, e'⟩ => ⟨e, e'⟩
 | x :: l, _, _, ⟨c1, c2, F1, F2, e, ⟨h1, h1'⟩, h2, _, e'⟩ => by
   obtain ⟨h3, h3'⟩ := CsA.cse h2
   subst h1'; subst h3'
   exact ⟨⟨c1, c2, e, T.len _ _ _ h1, h1, h3⟩, by rw [e', U.no_left]⟩
end
section
variable {α : Type} {sz : Nat}
def rowP (a : Asn α sz) (A : Option Addr) (c : Nat) (l : List α) (h m : Heap) (F : Foot) : Prop :=
 (l = [] ∧ c = 0 ∧ F = No) ∨ ∃ b t pre cs rest Fe, c ≠ 0 ∧ A = some ⟨b, pre.length, none⟩ ∧ Blk h b (pre ++ cs ++ rest) t ∧ CsA a h m l cs Fe ∧ l.length ≤ c ∧ (c - l.length) * sz ≤ rest.length ∧ ¬ Live m b ∧ ¬ Fe b ∧ F = U (fb b) Fe
def rR (a : Asn α sz) (A : Option Addr) (c : Nat) (l : List α) : Res where
 p := rowP a A c l
 z m := Rd sz a.E m A l ∧ l.length ≤ c
 lt := by
   rintro h m F (⟨_, _, rfl⟩ | ⟨b, t, pre, cs, rest, Fe, k0, k1, k2, k3, k4, k5, k6, k7, rfl⟩) i hi
   · exact hi.elim
   · rcases hi with hi | hi
     · unfold fb at hi; subst hi; exact k2.lt
     · exact k3.lt i hi
 nl := by
   rintro h m F (⟨_, _, rfl⟩ | ⟨b, t, pre, cs, rest, Fe, k0, k1, k2, k3, k4, k5, k6, k7, rfl⟩) i hi
   · exact hi.elim
   · rcases hi with hi | hi
     · unfold fb at hi; subst hi; exact k6
     · exact k3.nl i hi
 fr := by
   rintro h m F h' m' (⟨e1, e2, rfl⟩ | ⟨b, t, pre, cs, rest, Fe, k0, k1, k2, k3, k4, k5, k6, k7, rfl⟩) f1 f2 f3
   · exact .inl ⟨e1, e2, rfl⟩
   · exact .inr ⟨b, t, pre, cs, rest, Fe, k0, k1, k2.fr (f1 b (.inl rfl)), k3.fr (fun i hi => f1 i (.inr hi)) f2 (fun i hi => f3 i (.inr hi)), k4, k5, f3 b (.inl rfl), k7, rfl⟩
 fz := by
   rintro h m F G (⟨e1, e2, rfl⟩ | ⟨b, t, pre, cs, rest, Fe, k0, k1, k2, k3, k4, k5, k6, k7, rfl⟩) f1 f2
   · subst e1; exact ⟨.nil, Nat.zero_le _⟩
   · subst k1
     exact ⟨CsE.rd (k2.settle (f2 b (.inl rfl))) (k3.fz f1 (fun i hi => f2 i (.inr hi))) (fun _ _ h => h), k4⟩
variable {a : Asn α sz} {h h' h0 m m' m0 : Heap} {A : Option Addr} {c n k : Nat} {l l' : List α} {F F' G W : Foot} {x : Int} {y : α} {v : Value} {cs : List Value} {Rs : List Res} {b : Nat} {t : TypeId} {aa : Addr}
variable {E : Heap → α → List Value → Prop} {T : Tell sz E}
theorem rR_vf (v : a.vf) : (rR a A c l).vf := by
 rintro h m m' F (⟨e1, e2, rfl⟩ | ⟨b, t, pre, cs, rest, Fe, k0, k1, k2, k3, k4, k5, k6, k7, rfl⟩) f1 f2
 · exact .inl ⟨e1, e2, rfl⟩
 · exact .inr ⟨b, t, pre, cs, rest, Fe, k0, k1, k2, k3.vf v f1 (fun i hi => f2 i (.inr hi)), k4, k5, f2 b (.inl rfl), k7, rfl⟩
theorem rowP.cap (o : rowP a A c l h m F) : l.length ≤ c := by
 rcases o with ⟨rfl, rfl, _⟩ | ⟨b, t, pre, cs, rest, Fe, k0, k1, k2, k3, k4, _⟩
 · exact Nat.le_refl _
 · exact k4
theorem rowP.os (o : rowP (aE T) A c l h m F) (hw : ∀ b, F b → h0.size ≤ b ∨ W b) : OS W h0 sz E h m A l c ∧ F = fp A c := by
 rcases o with ⟨rfl, rfl, rfl⟩ | ⟨b, t, pre, cs, rest, Fe, k0, k1, k2, k3, k4, k5, k6, k7, rfl⟩
 · exact ⟨.inl ⟨rfl, rfl⟩, funext fun b => propext ⟨fun h => h.elim, fun h => h.1 rfl⟩⟩
 · obtain ⟨k8, rfl⟩ := k3.cse
   refine ⟨.inr ⟨b, t, pre, cs, rest, k1, k2, k8, k4, k5, hw b (.inl rfl), k6⟩, ?_⟩
   rw [U.no_right]
   subst k1
   exact funext fun i => propext ⟨fun hi => ⟨k0, _, rfl, hi.symm⟩, fun ⟨_, a, e, hi⟩ => by cases e; exact hi.symm⟩
theorem Hold.os (O : Hold W h0 m0 h m Rs) (k : Nat) (hk : Rs[k]? = some (rR (aE T) A c l)) : OS W h0 sz E h m A l c := by
 obtain ⟨F, h1, h2, _⟩ := O.get k hk
 exact (rowP.os h1 h2).1
theorem Hold.ob (O : Hold W h0 m0 h m Rs) (k : Nat) (hk : Rs[k]? = some (rV b t cs)) : OB W h0 h m b cs t := by
 obtain ⟨F, ⟨h1, h3, rfl⟩, h2, _⟩ := O.get k hk
 exact ⟨h1, h2 b rfl, h3⟩
theorem Hold.cap (O : Hold W h0 m0 h m Rs) (k : Nat) (hk : Rs[k]? = some (rR a A c l)) : l.length ≤ c := by
 obtain ⟨F, h1, _⟩ := O.get k hk
 exact rowP.cap h1
theorem Hold.all (O : Hold W h0 m0 h m Rs) (k : Nat) (hk : Rs[k]? = some (rV b t cs)) : cellsH h ⟨b, 0, none⟩ 0 cs.length = some cs := (O.ob k hk).all
theorem Hold.setV (O : Hold W h0 m0 h m Rs) (k : Nat) (hk : Rs[k]? = some (rV b t cs)) {cs' : List Value} (o : OB W h0 h' m b cs' t) (S : St (fb b) h m h' m) : Hold W h0 m0 h' m (Rs.set k (rV b t cs')) := by
 obtain ⟨F, ⟨h1, h3, rfl⟩, h2, h4⟩ := O.get k hk
 exact h4 S ⟨o.1, o.2.2, rfl⟩ (fun _ h => .inl h)
variable {K : Heap → Prop}
theorem Hold.new {z : Array Value} (O : Hold W h0 m0 h m Rs) (H : ∀ h', Ext h h' → Hold W h0 m0 h' m (Rs ++ [rV h.size t z.toList]) → K h') : newH h (.cells z t) K :=
 newH_in fun h' hb e hs => H h' e (O.add (St.of_ext O.s e) ⟨hb, St.notLive O.s, rfl⟩ (fun i hi => by unfold fb at hi; omega))
theorem Hold.st (O : Hold W h0 m0 h m Rs) (k : Nat) (hk : Rs[k]? = some (rV b t cs)) (j : Nat) (hj : j < cs.length) (hf : Flat v) (H : ∀ h', Hold W h0 m0 h' m (Rs.set k (rV b t (cs.set j v))) → K h') : ∃ h', st1 h (Addr.add ⟨b, 0, none⟩ j) v = some h' ∧ K h' := by
 obtain ⟨h', h1, h2, h3⟩ := (O.ob k hk).st O.s hj hf
 exact ⟨h', h1, H h' (O.setV k hk h2 h3)⟩
theorem Hold.st0 (O : Hold W h0 m0 h m Rs) (k : Nat) (hk : Rs[k]? = some (rV b t cs)) (hj : 0 < cs.length) (hf : Flat v) (H : ∀ h', Hold W h0 m0 h' m (Rs.set k (rV b t (cs.set 0 v))) → K h') : ∃ h', st1 h ⟨b, 0, none⟩ v = some h' ∧ K h' := O.st k hk 0 hj hf H
theorem Hold.stA (O : Hold W h0 m0 h m Rs) (k : Nat) (hk : Rs[k]? = some (rV b t cs)) {ds : List Value} (hn : ds.length = cs.length) (hf : ∀ v ∈ ds, Flat v) (H : ∀ h', Hold W h0 m0 h' m (Rs.set k (rV b t ds)) → K h') : ∃ h', stH h ⟨b, 0, none⟩ ds 0 = some h' ∧ K h' := by
 obtain ⟨h', h1, h2, h3⟩ := (O.ob k hk).stA O.s ds hn hf
 exact ⟨h', h1, H h' (O.setV k hk h2 h3)⟩
theorem Hold.nil (O : Hold W h0 m0 h m Rs) (a : Asn α sz) (A : Option Addr) : Hold W h0 m0 h m (Rs ++ [rR a A 0 []]) := O.adds (R := rR a A 0 []) (.inl ⟨rfl, rfl, rfl⟩)
theorem Hold.row (O : Hold W h0 m0 h m Rs) (k : Nat) (hk : Rs[k]? = some (rV b t cs)) (a : Asn α sz) (hc : ∃ F, CsA a h m l cs F ∧ F = No) (hn : l.length = c) (h0' : c ≠ 0) : Hold W h0 m0 h m (Rs.set k (rR a (some ⟨b, 0, none⟩) c l)) :=
 O.conv k hk (R' := rR a (some ⟨b, 0, none⟩) c l) fun F hF => by
   obtain ⟨h1, h2, rfl⟩ := hF
   obtain ⟨_, hc, rfl⟩ := hc
   exact ⟨_, .inr ⟨b, t, [], cs, [], No, h0', rfl, by simpa using h1, hc, by omega, by simp [hn], h2, fun h => h, rfl⟩, fun i hi => hi.elim id (fun h => h.elim)⟩
theorem Hold.rowE (O : Hold W h0 m0 h m Rs) (k : Nat) (hk : Rs[k]? = some (rV b t cs)) (T : Tell sz E) (hc : CsE sz E m l cs) (hn : l.length = c) : Hold W h0 m0 h m (Rs.set k (rR (aE T) (some ⟨b, 0, none⟩) c l)) := by
 by_cases h0' : c = 0
 · subst h0'
   refine O.conv k hk (R' := rR (aE T) (some ⟨b, 0, none⟩) 0 l) fun F _ => ⟨No, .inl ⟨List.length_eq_zero_iff.1 hn, rfl, rfl⟩, fun _ h => h.elim⟩
 · exact O.row k hk (aE T) ⟨No, hc.csa, rfl⟩ hn h0'
theorem rowP.sl {lo hi : Int} {mx : Nat} (o : rowP a A c l h m F) (h1 : 0 ≤ lo) (h2 : lo ≤ hi) (h3 : hi ≤ (l.length : Int)) (h4 : hi.toNat ≤ mx) (h5 : mx ≤ c) : ∃ F', rowP a (sliceA A (Int.toNat lo) mx sz) (mx - Int.toNat lo) (Hw.sl l lo hi) h m F' ∧ ∀ b, F' b → F b := by
 rcases o with ⟨rfl, rfl, rfl⟩ | ⟨b, t, pre, cs, rest, Fe, k0, rfl, k1, k2, k3, k4, k5, k6, rfl⟩
 · exact ⟨No, .inl ⟨by unfold Hw.sl; simp, by omega, rfl⟩, fun _ h => h⟩
 by_cases hm : mx = lo.toNat
 · exact ⟨No, .inl ⟨List.length_eq_zero_iff.1 (by rw [← sl_len h1 h2 h3]; omega), by omega, rfl⟩, fun _ h => h.elim⟩
 have hl := k2.len
 have e1 : (cs.take (lo.toNat * sz)).length = lo.toNat * sz := by
   rw [List.length_take, hl]; have := Nat.mul_le_mul_right sz (show lo.toNat ≤ l.length by omega); omega
 have e2 : hi.toNat * sz ≤ l.length * sz := Nat.mul_le_mul_right _ (by omega)
 have e3 : lo.toNat * sz ≤ hi.toNat * sz := Nat.mul_le_mul_right _ (by omega)
 obtain ⟨F1, q1, q2⟩ := k2.take hi.toNat
 obtain ⟨F2, q3, q4⟩ := q1.drop lo.toNat
 refine ⟨U (fb b) F2, .inr ⟨b, t, pre ++ cs.take (lo.toNat * sz), (cs.take (hi.toNat * sz)).drop (lo.toNat * sz), cs.drop (hi.toNat * sz) ++ rest, F2, by omega, ?_, ?_, q3, sl_cap h1 h2 h3 h4, ?_, k5, fun hb => k6 (q2 b (q4 b hb)), rfl⟩, fun i hi => hi.elim .inl (fun hi => .inr (q2 i (q4 i hi)))⟩
 · unfold sliceA
   rw [if_neg hm, Option.map_some, List.length_append, e1]
   unfold Addr.add
   split
   · rename_i h9; rw [h9]; rfl
   · rfl
 · have : pre ++ cs.take (lo.toNat * sz) ++ (cs.take (hi.toNat * sz)).drop (lo.toNat * sz) ++ (cs.drop (hi.toNat * sz) ++ rest) = pre ++ cs ++ rest := by
     have e4 : cs.take (lo.toNat * sz) = (cs.take (hi.toNat * sz)).take (lo.toNat * sz) := by rw [List.take_take, Nat.min_eq_left e3]
     rw [e4, List.append_assoc pre, List.take_append_drop, ← List.append_assoc, List.append_assoc pre, List.take_append_drop]
   rw [this]; exact k1
 · rw [List.length_append, List.length_drop, hl, ← sl_len h1 h2 h3]
   have e5 : (mx - lo.toNat - (hi.toNat - lo.toNat)) * sz + hi.toNat * sz ≤ c * sz := by rw [← Nat.add_mul]; exact Nat.mul_le_mul_right _ (by omega)
   have e6 : (c - l.length) * sz + l.length * sz = c * sz := by rw [← Nat.add_mul, Nat.sub_add_cancel k3]
   omega
theorem Hold.sls {lo hi : Int} (O : Hold W h0 m0 h m Rs) (k : Nat) (hk : Rs[k]? = some (rR a A c l)) (g : sls l lo hi = some l') : Hold W h0 m0 h m (Rs.set k (rR a (sliceA A (Int.toNat lo) c sz) (c - Int.toNat lo) l')) := by
 have hc := O.cap k hk
 obtain ⟨h1, h2, h3, _, rfl⟩ := sls_e g
 exact O.conv k hk (R' := rR a (sliceA A (Int.toNat lo) c sz) (c - Int.toNat lo) (Hw.sl l lo hi)) fun F hF => rowP.sl hF h1 h2 h3 (by omega) (Nat.le_refl _)
end
section
variable {α : Type} {sz : Nat} {a : Asn α sz} {h h' h0 m m' m0 : Heap} {A : Option Addr} {c n k : Nat} {l l' xs : List α} {F F' G W : Foot} {x : Int} {y : α} {v X : Value} {cs es : List Value} {Rs : List Res} {b : Nat} {t e : TypeId} {aa : Addr}
variable {E : Heap → α → List Value → Prop} {T : Tell sz E}
theorem rowP.app {bytes : Nat} {z : Array Value} {K : Value → Heap → Prop} {F2 : Foot} (o : rowP a A c l h m F) (s : Sub m h) (hn : n = l.length) (hz : z.size = sz) (h1 : srcCells sz X h = some (xs.length, es)) (h2 : CsA a h m xs es F2) (hd : Dj F F2) (hb0 : 0 < bytes) (g : ap bytes l xs = some l')
   (hk : ∀ A' c' h' F', rowP a A' c' l' h' m F' → St F h m h' m → (∀ b, F' b → F b ∨ F2 b ∨ h.size ≤ b) → K (.slice A' l'.length c') h') : AppW e sz bytes z A n c X h K := by
 subst hn
 obtain ⟨hb, rfl⟩ := ap_e g
 have he := h2.len
 refine ⟨xs.length, es, h1, ?_⟩
 have hpush : ∀ (old : List Value) (Fo : Foot) (hold : oldCells sz A l.length h = some old) (hE : CsA a h m l old Fo) (hFo : ∀ b, Fo b → F b), c < l.length + xs.length →
     ∃ old, oldCells sz A l.length h = some old ∧ ∀ c', l.length + xs.length ≤ c' → K (.slice (some ⟨h.size, 0, none⟩) (l.length + xs.length) c') (h.push (.cells (old.toArray ++ es.toArray ++ zcells z (c' - (l.length + xs.length))) e)) := by
   intro old Fo hold hE hFo hlt
   refine ⟨old, hold, fun c' hc' => ?_⟩
   rw [show (Value.slice (some ⟨h.size, 0, none⟩) (l.length + xs.length) c') = .slice (some ⟨h.size, 0, none⟩) (l ++ xs).length c' by rw [List.length_append]]
   have e1 := Ext.push h (Obj.cells (old.toArray ++ es.toArray ++ zcells z (c' - (l.length + xs.length))) e)
   have S1 := St.of_ext (W := F) s e1
   have hA := hE.append h2 (hd.mono hFo (fun _ h => h))
   have hA' := hA.fr (fun i hi => e1.2 i (hA.lt i hi)) (.refl _) (fun i hi => hA.nl i hi)
   refine hk _ _ _ _ (.inr ⟨h.size, e, [], old ++ es, (zcells z (c' - (l.length + xs.length))).toList, _, by omega, rfl, ?_, hA', by rw [List.length_append]; exact hc', ?_, St.notLive s, fun hf => by have := hA.lt _ hf; omega, rfl⟩) S1 ?_
   · have := Blk.new h (old.toArray ++ es.toArray ++ zcells z (c' - (l.length + xs.length))) e
     simpa using this
   · rw [zc_len, hz, List.length_append]; exact Nat.le_refl _
   · rintro i (hi | hi | hi)
     · unfold fb at hi; exact .inr (.inr (by omega))
     · exact .inl (hFo i hi)
     · exact .inr (.inl hi)
 rcases o with ⟨rfl, rfl, rfl⟩ | ⟨b, t, pre, cs, rest, Fe, k0, rfl, k1, k2, k3, k4, k5, k6, rfl⟩
 · by_cases hx : xs.length = 0
   · have hxs : xs = [] := List.length_eq_zero_iff.1 hx
     subst hxs
     obtain ⟨rfl, rfl⟩ : es = [] ∧ F2 = No := h2
     refine .inl ⟨by simp, ?_⟩
     have fin := hk A 0 h No (.inl ⟨rfl, rfl, rfl⟩) (St.refl s) (fun b hb => .inl hb)
     cases A with
     | none => exact .inl ⟨rfl, fin⟩
     | some a => exact .inr ⟨a, h, rfl, by simp [stH], fin⟩
   · refine .inr ⟨by simp; omega, by simpa using hb, hb0, ?_⟩
     refine hpush [] No ?_ ⟨rfl, rfl⟩ (fun _ h => h) (by simp; omega)
     cases A with
     | none => rfl
     | some a => simp [oldCells, cellsH]
 · have hl := k2.len
   by_cases hle : l.length + xs.length ≤ c
   · refine .inl ⟨hle, .inr ?_⟩
     have hmul : (c - l.length) * sz = xs.length * sz + (c - l.length - xs.length) * sz := by rw [← Nat.add_mul]; congr 1; omega
     have k1' : Blk h b ((pre ++ cs) ++ rest.take (xs.length * sz) ++ rest.drop (xs.length * sz)) t := by rw [List.append_assoc, List.take_append_drop]; exact k1
     obtain ⟨h', s1, b1, o1⟩ := Blk.stH es (a := (⟨b, pre.length, none⟩ : Addr).add (l.length * sz)) (i := 0) k1' (by rw [add_block]) (add_spot _ rfl) (by rw [add_off, List.length_append, hl, Nat.add_zero]) (by rw [List.length_take, he]; omega) (h2.flat)
     refine ⟨_, h', rfl, s1, ?_⟩
     rw [show (Value.slice (some ⟨b, pre.length, none⟩) (l.length + xs.length) c) = .slice (some ⟨b, pre.length, none⟩) (l ++ xs).length c by rw [List.length_append]]
     have S : St (fb b) h m h' m := .only s k5 o1
     have S2 : St (U (fb b) Fe) h m h' m := ⟨S.up, S.s, S.size, fun i hi hn => S.fr i hi (fun h => hn (.inl h)), fun i hi hl => .inl hl⟩
     have hA := k2.append h2 hd.ur
     have nb : ∀ i, U Fe F2 i → i ≠ b := fun i hi e' => by subst e'; exact hi.elim k6 (fun hf => hd i (.inl rfl) hf)
     have hA' := hA.fr (fun i hi => S.fr i (hA.lt i hi) (fun e' => nb i hi e')) (.refl _) (fun i hi => hA.nl i hi)
     refine hk _ _ _ _ (.inr ⟨b, t, pre, cs ++ es, rest.drop (xs.length * sz), _, k0, rfl, by rw [← List.append_assoc pre]; exact b1, hA', by rw [List.length_append]; exact hle, ?_, k5, fun hf => nb b hf rfl, rfl⟩) S2 ?_
     · rw [List.length_drop, List.length_append, show c - (l.length + xs.length) = c - l.length - xs.length by omega]; omega
     · rintro i (hi | hi | hi)
       · exact .inl (.inl hi)
       · exact .inl (.inr hi)
       · exact .inr (.inl hi)
   · refine .inr ⟨by omega, hb, hb0, ?_⟩
     refine hpush cs Fe ?_ k2 (fun _ h => .inr h) (by omega)
     have := k1.cells (a := ⟨b, pre.length, none⟩) rfl rfl (l.length * sz) 0 (by simp [hl])
     simp only [oldCells, this, Nat.add_zero]
     rw [List.append_assoc, List.drop_left, List.take_append_of_le_length (by omega), List.take_of_length_le (by omega)]
variable {K : Value → Heap → Prop} {bytes : Nat} {z : Array Value}
theorem Hold.app (O : Hold W h0 m0 h m Rs) (k : Nat) (hk : Rs[k]? = some (rR (aE T) A c l)) (hn : n = l.length) (hz : z.size = sz) (hs : Src sz E h m X xs) (hb0 : 0 < bytes) (g : ap bytes l xs = some l')
   (H : ∀ A' c' h', Hold W h0 m0 h' m (Rs.set k (rR (aE T) A' c' l')) → K (.slice A' l'.length c') h') : AppW e sz bytes z A n c X h K := by
 obtain ⟨F, h1, h2, h3⟩ := O.get k hk
 obtain ⟨es, s1, s2⟩ := hs
 refine rowP.app h1 O.s hn hz s1 (s2.csa (T := T)) .no' hb0 g fun A' c' h' F' q1 q2 q3 => H A' c' h' (h3 (R' := rR (aE T) A' c' l') q2 q1 fun b hb => ?_)
 rcases q3 b hb with hb | hb | hb
 · exact .inl hb
 · exact hb.elim
 · exact .inr hb
end
end Go.Hw

end
section
set_option linter.unusedVariables false
namespace Go.Hw
open Go
section
variable {m h : Heap} {a : Addr} {cs ds : List Value} {N n k j : Nat} {v : Value}
theorem ldAn (s : Sub m h) (hc : cellsH m a 0 N = some cs) (hn : N = n) : ldv true n h a = some (.agg cs.toArray) := by subst hn; exact ldA s hc
theorem ldAkn (s : Sub m h) (hc : cellsH m a 0 N = some cs) (k j : Nat) (hk : k + j ≤ N) : ldv true j h (Addr.add a k) = some (.agg ((cs.drop k).take j).toArray) := ldAk s hc hk
theorem ldA0n (s : Sub m h) (hc : cellsH m a 0 N = some cs) (j : Nat) (hk : 0 + j ≤ N) : ldv true j h a = some (.agg ((cs.drop 0).take j).toArray) := ldAk (k := 0) s hc hk
end
section
variable {α : Type} {sz : Nat} {a : Asn α sz} {h h' h0 m m' m0 : Heap} {A Ai : Option Addr} {c ci n k : Nat} {l li : List α} {ll ll' : List (List α)} {W : Foot} {x : Int} {y : α} {v : Value} {cs : List Value} {Rs Rs' : List Res} {b : Nat} {t : TypeId} {aa : Addr} {K : Heap → Prop}
variable {E : Heap → α → List Value → Prop} {T : Tell sz E}
theorem Hold.ret (O : Hold W h0 m0 h m Rs) (Q : Hold No h m h' m' Rs') : Hold W h0 m0 h' m' (Rs ++ Rs') := by
 obtain ⟨W', h1, h2⟩ := O.call []
 simp only [dropL, takeL] at h1 h2
 exact h2 ⟨⟨Q.S.up, Q.S.s, Q.S.size, fun b hb _ => Q.S.fr b hb (fun h => h), fun b hb hl => (Q.S.lv b hb hl).elim .inl (fun h => h.elim)⟩, by
   obtain ⟨F, k1, k2⟩ := Q.q
   exact ⟨F, k1, fun b hb => (k2 b hb).elim .inl (fun h => h.elim)⟩⟩
theorem vfs_nil : ∀ R ∈ ([] : List Res), R.vf := fun _ h => by cases h
theorem vfs_cons {R : Res} (v : R.vf) (w : ∀ R ∈ Rs, R.vf) : ∀ R' ∈ R :: Rs, R'.vf := fun R' h => by
 rcases List.mem_cons.1 h with rfl | h
 · exact v
 · exact w R' h
theorem Hold.retC (O : Hold W h0 m0 h m Rs) (Q : Hold No h m h' m' Rs') (v : ∀ R ∈ Rs', R.vf) : Hold W h0 m0 h' m (Rs ++ Rs') := by
 obtain ⟨m1, W', h1, h2, _, _, h5⟩ := O.lend [] []
 have s1 : Hold No h m h' m Rs' := by
   refine ⟨Q.S.unlend O.s (fun _ h => h.elim), ?_⟩
   obtain ⟨F, k1, k2⟩ := Q.q
   have T := Q.S.unlend O.s (fun _ h => h.elim)
   exact ⟨F, k1.vf v T.s (fun b hb hl => (k2 b hb).elim (fun h => by have := O.s.lt hl; omega) (fun h => h.elim)), k2⟩
 exact O.ret s1
theorem Hold.lend0 (O : Hold W h0 m0 h m Rs) (ls : List Nat) : ∃ m1, Sub m m1 ∧ Sub m1 h ∧ ZAll m1 (takeL Rs ls) ∧
   (∀ {h' m' : Heap} {Rs' : List Res}, Hold No h m1 h' m' Rs' → Hold W h0 m0 h' m' (dropL Rs ls ++ Rs')) ∧
   (∀ {h' m' : Heap} {Rs' : List Res}, Hold No h m1 h' m' Rs' → (∀ R ∈ Rs', R.vf) → Hold W h0 m0 h' m (Rs ++ Rs')) := by
 obtain ⟨m1, W', h1, h2, h3, h4, h5⟩ := O.lend [] ls
 simp only [dropL, takeL] at h2 h3 h4 h5
 have up : ∀ {h' m' : Heap} {Rs' : List Res}, Hold No h m1 h' m' Rs' → Hold W' h m1 h' m' Rs' := fun Q =>
   ⟨⟨Q.S.up, Q.S.s, Q.S.size, fun b hb _ => Q.S.fr b hb (fun h => h), fun b hb hl => (Q.S.lv b hb hl).elim .inl (fun h => h.elim)⟩, by
     obtain ⟨F, k1, k2⟩ := Q.q
     exact ⟨F, k1, fun b hb => (k2 b hb).elim .inl (fun h => h.elim)⟩⟩
 exact ⟨m1, h1, h2.s, h3, fun Q => h4 (up Q), fun Q v => h5 (up Q) v⟩
theorem Hold.stE0 {β : Type} {D : Heap → β → List Value → Prop} {z : β} (O : Hold W h0 m0 h m Rs) (k : Nat) (hk : Rs[k]? = some (rV b t cs)) (hj : 0 < cs.length) (hf : Flat v) (e : D m z (cs.set 0 v)) (H : ∀ h' cs', D m z cs' → Hold W h0 m0 h' m (Rs.set k (rV b t cs')) → K h') : ∃ h', st1 h ⟨b, 0, none⟩ v = some h' ∧ K h' :=
 O.st0 k hk hj hf fun h' O' => H h' _ e O'
theorem Hold.recell (O : Hold W h0 m0 h m Rs) (k : Nat) (hk : Rs[k]? = some (rV b t cs)) {cs' : List Value} (e : cs = cs') : Hold W h0 m0 h m (Rs.set k (rV b t cs')) := by
 subst e
 exact O.conv k hk (R' := rV b t cs) fun F hF => ⟨F, hF, fun _ h => h⟩
end
end Go.Hw
namespace Go.Hw
theorem lt_len {α : Type} {l : List α} {n k : Nat} (h : l.length = n) (hk : k < n) : k < l.length := by omega
theorem le_len {α : Type} {l : List α} {n k j : Nat} (h : l.length = n) (hk : k + j ≤ n) : k + j ≤ l.length := by omega
end Go.Hw
namespace Go.Hw
open Go
class SetAt (k : Nat) (L : List Res) (r : Res) (out : outParam (List Res)) : Prop where
 eq : L.set k r = out
instance {a r : Res} {l : List Res} : SetAt 0 (a :: l) r (r :: l) := ⟨rfl⟩
instance {k : Nat} {a r : Res} {l o : List Res} [S : SetAt k l r o] : SetAt (k + 1) (a :: l) r (a :: o) := ⟨by rw [List.set_cons_succ, S.eq]⟩
class GetAt (k : Nat) (L : List Res) (r : outParam Res) : Prop where
 eq : L[k]? = some r
instance {a : Res} {l : List Res} : GetAt 0 (a :: l) a := ⟨rfl⟩
instance {k : Nat} {a r : Res} {l : List Res} [S : GetAt k l r] : GetAt (k + 1) (a :: l) r := ⟨by rw [List.getElem?_cons_succ, S.eq]⟩
class Apd (L M : List Res) (out : outParam (List Res)) : Prop where
 eq : L ++ M = out
instance {M : List Res} : Apd [] M M := ⟨rfl⟩
instance {a : Res} {l M o : List Res} [S : Apd l M o] : Apd (a :: l) M (a :: o) := ⟨by rw [List.cons_append, S.eq]⟩
class PickT (L : List Res) (is : List Nat) (T D : outParam (List Res)) : Prop where
 t : takeL L is = T
 d : dropL L is = D
instance {L : List Res} : PickT L [] [] L := ⟨rfl, rfl⟩
instance {L L2 T D : List Res} {i : Nat} {is : List Nat} {r : Res} [G : GetAt i L r] [S : SetAt i L rE L2] [P : PickT L2 is T D] : PickT L (i :: is) (r :: T) D := ⟨by simp only [takeL, G.eq, S.eq, P.t], by simp only [dropL, S.eq, P.d]⟩
class Nm (L : List Res) (out : outParam (List Res)) : Prop where
 eq : L = out
instance : Nm [] [] := ⟨rfl⟩
instance {a : Res} {l : List Res} : Nm (a :: l) (a :: l) := ⟨rfl⟩
instance {L L' o : List Res} {k : Nat} {r : Res} [N : Nm L L'] [S : SetAt k L' r o] : Nm (L.set k r) o := ⟨by rw [N.eq, S.eq]⟩
instance {L L' M M' o : List Res} [N : Nm L L'] [N' : Nm M M'] [S : Apd L' M' o] : Nm (L ++ M) o := ⟨by rw [N.eq, N'.eq, S.eq]⟩
instance {L L' T D : List Res} {is : List Nat} [N : Nm L L'] [S : PickT L' is T D] : Nm (takeL L is) T := ⟨by rw [N.eq, S.t]⟩
instance {L L' T D : List Res} {is : List Nat} [N : Nm L L'] [S : PickT L' is T D] : Nm (dropL L is) D := ⟨by rw [N.eq, S.d]⟩
theorem Hold.nm {W : Foot} {h0 m0 h m : Heap} {Rs Rs' : List Res} (O : Hold W h0 m0 h m Rs) [N : Nm Rs Rs'] : Hold W h0 m0 h m Rs' := N.eq ▸ O
end Go.Hw

end
section
namespace Go.Hw
open Go Go.RowKit
structure Measure {H : Type} (bk : DataW H → Nat) : Prop where
 pos : ∀ d, 1 ≤ bk d
 str : ∀ b, b.length + 1 ≤ bk (.lit (.string b))
 slice : ∀ e s, (e.map bk).sum + 1 ≤ bk (.slice e s)
 agg : ∀ ps, (ps.map bk).sum + 1 ≤ bk (.agg ps)
section
variable {H : Type} {bk : DataW H → Nat} {enc : TypeId × Value → H} {P : Program} {W : World} {N : Nat}
def KT (N : Nat) {α : Type} (bk : DataW H → Nat) (enc : TypeId × Value → H) (P : Program) (W : World) (t : TypeId) (E : Heap → α → List Value → Prop) (K : α → Nat) : Prop :=
 ∀ (fuel : Nat), fuel < N → ∀ (cs : List Value) (x : DataW H × List MemPlace), DataW.trod enc P W 0 (fun _ => true) true fuel t cs = some x → ∀ a, E W.heap a cs → K a ≤ bk x.1
theorem kt_one (M : Measure bk) {α : Type} {t : TypeId} {E : Heap → α → List Value → Prop} : KT N bk enc P W t E (fun _ => 1) := fun _ _ _ _ _ _ _ => M.pos _
theorem kt_str (M : Measure bk) {t : TypeId} (hu : P.underlying t = some .string) : KT N bk enc P W t eStr (fun s => s.size + 1) := by
 intro fuel _ cs x h a ha
 obtain ⟨s, h1, h2, _⟩ := DataW.trod_string hu h
 rw [h2]
 have e : cs = [.string a] := ha
 rw [e] at h1
 cases h1
 have := M.str a.data.toList
 simpa using this
theorem kt_map {α β : Type} {t : TypeId} {E : Heap → α → List Value → Prop} {F : Heap → β → List Value → Prop} {K : α → Nat} {L : β → Nat} (he : KT N bk enc P W t E K) (hm : ∀ b cs, F W.heap b cs → ∃ a, E W.heap a cs ∧ L b ≤ K a) : KT N bk enc P W t F L :=
 fun fuel hf cs x h b hb => let ⟨a, ha, hl⟩ := hm b cs hb; Nat.le_trans hl (he fuel hf cs x h a ha)
theorem kt_down {α : Type} {t : TypeId} {E : Heap → α → List Value → Prop} {K : α → Nat} (he : KT (N + 1) bk enc P W t E K) : KT N bk enc P W t E K := fun fuel hf => he fuel (by omega)
theorem kt_rec {α : Type} {t : TypeId} {E : Heap → α → List Value → Prop} {K : α → Nat} (step : ∀ N, KT N bk enc P W t E K → KT (N + 1) bk enc P W t E K) : ∀ N, KT N bk enc P W t E K := by
 intro N
 induction N with
 | zero => intro fuel hf; omega
 | succ N ih => exact step N ih
theorem sum_map_le {α β : Type} {f : α → Nat} {g : β → Nat} : ∀ {l : List α} {m : List β}, l.length ≤ m.length → (∀ i (h1 : i < l.length) (h2 : i < m.length), f l[i] ≤ g m[i]) → (l.map f).sum ≤ (m.map g).sum := by
 intro l
 induction l with
 | nil => intro m _ _; simp
 | cons x l ih =>
   intro m hl h
   cases m with
   | nil => simp at hl
   | cons y m =>
     have h0 := h 0 (by simp) (by simp)
     have h1 := ih (m := m) (by simpa using hl) (fun i h1 h2 => h (i + 1) (Nat.succ_lt_succ h1) (Nat.succ_lt_succ h2))
     simp only [List.map_cons, List.sum_cons]
     simp only [List.getElem_cons_zero] at h0
     omega
theorem kt_slice (M : Measure bk) {α : Type} {t e : TypeId} {sz : Nat} {E : Heap → α → List Value → Prop} {K : α → Nat} (hu : P.underlying t = some (.slice e)) (hc : P.cellsOf e = sz) (he : KT N bk enc P W e E K) :
   KT N bk enc P W t (eRow sz E) (fun l => (l.map K).sum + 1) := by
 intro fuel hf cs x h l hl
 obtain ⟨A, c, hcs, hlc, hr⟩ := hl
 rcases DataW.trod_slice hu h with ⟨h1, h2⟩ | ⟨a, len, cap, elems, rest, n, hfn, h1, h2, _, hl', hm, hlen, hel, _, _⟩
 · rw [hcs] at h1
   simp only [List.cons.injEq, Value.slice.injEq, and_true] at h1
   have hl0 : l = [] := List.length_eq_zero_iff.1 h1.2.1
   subst hl0
   have := M.pos x.1
   simpa using this
 · rw [hcs] at h1
   simp only [List.cons.injEq, Value.slice.injEq, and_true] at h1
   obtain ⟨rfl, rfl, rfl⟩ := h1
   rw [h2]
   have hs := M.slice (elems.map (·.1)) (rest.map (·.1))
   have : (l.map K).sum ≤ ((elems.map (·.1)).map bk).sum := by
     refine sum_map_le (by simp [hlen]) (fun i i1 i2 => ?_)
     have h5 := hel i i1
     have hlt : i < elems.length := by omega
     rw [List.getElem?_eq_getElem hlt] at h5
     obtain ⟨cs', h6, h7⟩ := Option.bind_eq_some_iff.1 h5
     obtain ⟨a', ds, e1, e2, e3⟩ := hr i i1
     cases e1
     rw [hc] at h6
     have := cells_of h6
     rw [this] at e2
     cases e2
     have := he _ (by omega) _ _ h7 _ e3
     simpa using this
   exact Nat.le_trans (Nat.succ_le_succ this) hs
def KTF (N : Nat) {α : Type} (bk : DataW H → Nat) (enc : TypeId × Value → H) (P : Program) (W : World) (T o : Nat) (fs : List (TypeId × Nat)) (F : Heap → α → List Value → Prop) (K : α → Nat) : Prop :=
 ∀ (n : Nat), n < N → ∀ (cs : List Value) (xs : List (DataW H × List MemPlace)), cs.length = T → xs.length = fs.length → (∀ (i : Nat) (f : TypeId × Nat), fs[i]? = some f → DataW.trod enc P W 0 (fun _ => true) true n f.1 ((cs.drop f.2).take (P.cellsOf f.1)) = xs[i]?) →
   ∀ b, F W.heap b (cs.drop o) → K b ≤ ((xs.map (·.1)).map bk).sum
theorem ktf_nil {T : Nat} : KTF N bk enc P W T T [] eNil (fun _ => 0) := fun _ _ _ _ _ _ _ _ _ => Nat.zero_le _
theorem ktf_cons {α β : Type} {E : Heap → α → List Value → Prop} {F : Heap → β → List Value → Prop} {K : α → Nat} {L : β → Nat} {T o s : Nat} {f : TypeId} {fs : List (TypeId × Nat)} (hs : P.cellsOf f = s) (ht : Tell s E)
   (he : KT N bk enc P W f E K) (hf : KTF N bk enc P W T (o + s) fs F L) : KTF N bk enc P W T o ((f, o) :: fs) (eCons E F) (fun x => K x.1 + L x.2) := by
 intro n hn cs xs hl hx hi b hb
 cases xs with
 | nil => cases hx
 | cons x xs =>
   have h0 := hi 0 (f, o) rfl
   simp only [hs] at h0
   obtain ⟨c1, c2, e1, e2, e3⟩ := hb
   have hlen := ht.len _ _ _ e2
   have ec1 : (cs.drop o).take s = c1 := by rw [e1, ← hlen, List.take_left]
   have ec2 : cs.drop (o + s) = c2 := by rw [← List.drop_drop, e1, ← hlen, List.drop_left]
   rw [ec1] at h0
   have k1 := he n hn _ _ h0 _ e2
   have k2 := hf n hn cs xs hl (by simpa using hx) (fun i g hg => by simpa using hi (i + 1) g hg) b.2 (by rw [ec2]; exact e3)
   simp only [List.map_cons, List.sum_cons]
   omega
theorem kt_struct (M : Measure bk) {α : Type} {F : Heap → α → List Value → Prop} {K : α → Nat} {t : TypeId} {fs : List (TypeId × Nat)} {T : Nat} (hs : shapeOf P t = some fs) (hc : P.cellsOf t = T) (hf : KTF N bk enc P W T 0 fs F K) : KT (N + 1) bk enc P W t F (fun x => K x + 1) := by
 intro fuel hfl cs x h b hb
 unfold shapeOf at hs
 split at hs
 · rename_i fa hu
   cases hs
   obtain ⟨xs, n, hn, rfl, hl, hlen, hi⟩ := DataW.trod_struct hu h
   have := hf n (by omega) cs xs (by rw [hl, hc]) (by simpa using hlen) (fun i f hif => by
     rw [List.getElem?_map, Option.map_eq_some_iff] at hif
     obtain ⟨g, hg, rfl⟩ := hif
     exact hi i g (by simpa using hg)) b (by simpa using hb)
   have h2 := M.agg (xs.map (·.1))
   exact Nat.le_trans (Nat.succ_le_succ this) h2
 · cases hs
end
end Go.Hw

end
section
namespace Go.Hw
open Go
end Go.Hw

end
section
set_option linter.unusedVariables false
namespace Go.Hw
open Go
end Go.Hw
namespace Go.Hw
open Go
end Go.Hw
namespace Go.Hw
open Go
end Go.Hw

end
section
set_option linter.unusedVariables false
namespace Go.Hw
open Go
end Go.Hw

end
section
set_option linter.unusedVariables false
namespace Go.Hw
open Go
end Go.Hw

end
section
set_option linter.unusedVariables false
namespace Go.Hw
open Go Go.RowKit
end Go.Hw

end
section
set_option linter.unusedVariables false
namespace Go.Hw
open Go
end Go.Hw
namespace Go.Hw
open Go
end Go.Hw
namespace Go.Hw
open Go
end Go.Hw
namespace Go.Hw
open Go
end Go.Hw
namespace Go.Hw
open Go
end Go.Hw

end
section
set_option linter.unusedVariables false
namespace Go.Hw
open Go
end Go.Hw

end
section
set_option linter.unusedVariables false
namespace Go.Hw
open Go
section
noncomputable def agreeF {R : Type} (n : Nat) (f : Nat → Option R) : Option R :=
 open Classical in if ∃ r, ∀ j, j < n → f j = some r then f 0 else none
noncomputable def pickF {α R : Type} (left : List α) (over : Option R) (go : α → List α → Option R) : Option R :=
 match left with
 | [] => over
 | _ :: _ => agreeF left.length fun j => (left[j]?).bind fun c => go c (left.eraseIdx j)
variable {α R : Type} {left : List α} {over over' : Option R} {go go' : α → List α → Option R} {r : R}
end
attribute [irreducible] pickF agreeF
end Go.Hw
namespace Go.Hw
open Go
end Go.Hw

end
section
set_option linter.unusedVariables false
namespace Go.Hw
open Go
end Go.Hw

end
section
set_option linter.unusedVariables false
namespace Go.Hw
open Go
def bytesI (s : ByteArray) : List Int := s.data.toList.map fun b => ((UInt8.toNat b : Nat) : Int)
theorem bytesI_len (s : ByteArray) : (bytesI s).length = s.size := by rw [bytesI, List.length_map]; rfl
theorem hwp_mark {P : Program} {h : Heap} {b : Nat} {X : Array Value} {e : TypeId} {K : Unit → Heap → Prop} (hb : h[b]? = some (.cells X e (0, 0))) (hk : K () (freezeH h ⟨b, X.size, none⟩ 1)) : Hwp P (markStringish ⟨b, 0, none⟩) h K := by
 unfold markStringish
 refine hwp_bind (show Hwp P (shape b) h _ from ?_)
 show Hwp P (match shapeH h b with | some (_, n) => freeze { block := b, off := n } 1 | _ => pure ()) h K
 have : shapeH h b = some (e, X.size) := by unfold shapeH; rw [hb]
 rw [this]
 exact hk
theorem freeze_push {h : Heap} {X : Array Value} {e : TypeId} : freezeH (h.push (.cells X e (0, 0))) ⟨h.size, X.size, none⟩ 1 = h.push (.cells X e (X.size, X.size + 1)) := by
 unfold freezeH
 rw [if_neg (by decide)]
 apply Array.ext_getElem?
 intro i
 rw [Array.getElem?_modify]
 by_cases hi : i = h.size
 · subst hi; simp
 · rw [if_neg (by simpa using Ne.symm hi), Array.getElem?_push, Array.getElem?_push, if_neg hi, if_neg hi]
theorem gen_s2b {P : Program} {src dst e : TypeId} {u : TypeDesc} {s : ByteArray} {h : Heap} {K : Value → Heap → Prop} (hs : P.underlying src = some u) (hd : P.underlying dst = some (.slice e)) (he : P.underlying e = some (.int .u8))
   (hk : ∀ c n, s.size ≤ c → K (.slice (some ⟨h.size, 0, none⟩) s.size c) (h.push (.cells ((s.data.map fun b => Value.int .u8 b.toNat) ++ Array.replicate (c - s.size) (.int .u8 0)) e (n, n + 1)))) : Gen P (convert src dst (.string s)) h K := by
 unfold Gen convert
 refine hwp_bind (hwp_underlying hs (hwp_bind (hwp_underlying hd ?_)))
 refine hwp_bind (hwp_underlying he ?_)
 unfold Conv.stringToBytes
 have hch : ∀ (f : Nat → Sem Value), (∀ c', s.size ≤ c' → Hwp P (f c') h K) → Hwp P (choose (Question.appendCap s.size 0 e) >>= f) h K := fun f hf => by
   refine hwp_bind ?_
   show (if Question.forced (Question.appendCap s.size 0 e) then _ else _)
   rw [if_neg (by simp [Question.forced])]
   intro t
   exact hf _ (Nat.le_add_right _ _)
 refine hch _ fun c hc => ?_
 show Hwp P (newRow e ((s.data.map fun b => Value.int .u8 b.toNat) ++ Array.replicate (c - s.size) (.int .u8 0)) >>= _) h K
 generalize hX : (s.data.map fun b => Value.int .u8 b.toNat) ++ Array.replicate (c - s.size) (.int .u8 0) = X at *
 refine hwp_bind ?_
 show Hwp P (markStringish ⟨h.size, 0, none⟩ >>= fun _ => _) (h.push (.cells X e (0, 0))) K
 refine hwp_bind (hwp_mark (X := X) (e := e) (by simp) ?_)
 rw [freeze_push]
 have := hk c X.size hc
 rw [hX] at this
 exact this
section
variable {h0 m0 h h' m m' : Heap} {W F F' G : Foot} {Rs Rs' : List Res}
theorem Hold.s2b {P : Program} {src dst e : TypeId} {u : TypeDesc} {s : ByteArray} {K : Value → Heap → Prop} (O : Hold W h0 m0 h m Rs) (hs : P.underlying src = some u) (hd : P.underlying dst = some (.slice e)) (he : P.underlying e = some (.int .u8))
   (H : ∀ h' m' A c, Ext h h' → Sub m m' → Rd 1 (eInt .u8) m' A (bytesI s) → (bytesI s).length ≤ c → Hold W h0 m0 h' m' Rs → K (.slice A (bytesI s).length c) h') : Gen P (convert src dst (.string s)) h K := by
 refine gen_s2b hs hd he fun c n hc => ?_
 generalize hX : (s.data.map fun b => Value.int .u8 b.toNat) ++ Array.replicate (c - s.size) (.int .u8 0) = X
 have e1 : Ext h (h.push (.cells X e (n, n + 1))) := ⟨by simp, fun b hb => by rw [Array.getElem?_push, if_neg (by omega)]⟩
 have s1 : Sub m (h.push (.cells X e (n, n + 1))) := O.s.ext e1
 have hl : ¬ Live m h.size := St.notLive O.s
 have T : St No h m (h.push (.cells X e (n, n + 1))) (addV m (h.push (.cells X e (n, n + 1))) (fb h.size)) :=
   ⟨addV_up s1, addV_sub, e1.1, fun b hb _ => e1.2 b hb, fun b hb hv => (addV_live hv).1.elim .inl (fun hf => by unfold fb at hf; omega)⟩
 rw [← bytesI_len]
 refine H _ _ _ _ e1 (addV_up s1) ?_ (by rw [bytesI_len]; exact hc) (O.grow T)
 intro i hi
 refine ⟨_, _, rfl, ?_, rfl⟩
 have hi' : i < s.data.size := by rw [bytesI_len] at hi; exact hi
 have hb : (addV m (h.push (.cells X e (n, n + 1))) (fb h.size))[h.size]? = some (.cells X e (n, n + 1)) := by
   rw [addV_get (F := fb h.size) (by simp) (.inr rfl)]; simp
 have hx : X[i]? = some (.int .u8 (bytesI s)[i]) := by
   subst hX
   rw [Array.getElem?_append_left (by simpa using hi'), Array.getElem?_map, Array.getElem?_eq_getElem hi']
   simp [bytesI]
 have hc1 : cellH (addV m (h.push (.cells X e (n, n + 1))) (fb h.size)) ((Addr.add ⟨h.size, 0, none⟩ (i * 1)).add 0) = some (.int .u8 (bytesI s)[i]) := by
   unfold cellH
   have hb2 : (addV m (h.push (.cells X e (n, n + 1))) (fb h.size))[((Addr.add ⟨h.size, 0, none⟩ (i * 1)).add 0).block]? = some (.cells X e (n, n + 1)) := by rw [add_block, add_block]; exact hb
   rw [hb2]
   have h1 : ((Addr.add ⟨h.size, 0, none⟩ (i * 1)).add 0).off = i := by rw [add_off, add_off]; simp
   have h2 : ((Addr.add ⟨h.size, 0, none⟩ (i * 1)).add 0).spot = none := add_spot _ (add_spot _ rfl)
   simp only [h1, h2]
   exact hx
 unfold cellsH
 rw [hc1]
 rfl
end
end Go.Hw

end
section
set_option linter.unusedVariables false
namespace Go.Hw
open Go
def pow10V : List Value := Lib.pow10Tab.map fun z => Value.int .u64 z
def TBg (g : Nat) (m : Heap) : Prop := ∃ t f, m[g]? = some (.cells pow10V.toArray t f)
theorem TBg.sub {g : Nat} {m h : Heap} (t : TBg g m) (s : Sub m h) : TBg g h := by
 obtain ⟨t, f, h1⟩ := t
 refine ⟨t, f, s _ _ h1 fun e => ?_⟩
 unfold dead at e
 have := congrArg (fun o => match o with | Obj.cells c _ _ => c.size | _ => 0) e
 simp [pow10V, Lib.pow10Tab] at this
def itoaB (n : Int) : ByteArray := ⟨(Lib.itoa n).toArray⟩
theorem TBg.var {P : Program} {g : Nat} {w : World} (hg : P.globalNamed "internal/strconv.uint64pow10" = some g) (t : TBg g w.heap) : Lib.TabIs P w "internal/strconv.uint64pow10" .u64 Lib.pow10Tab := by
 obtain ⟨t, f, h1⟩ := t
 unfold Lib.TabIs World.var?
 rw [hg]
 show (match w.heap[g]? with | some (.cells cs _ _) => some cs | _ => none) = _
 rw [h1]; rfl
theorem TBg.of {P : Program} {g : Nat} {w : World} (hg : P.globalNamed "internal/strconv.uint64pow10" = some g) (t : Lib.TabIs P w "internal/strconv.uint64pow10" .u64 Lib.pow10Tab) : TBg g w.heap := by
 unfold Lib.TabIs World.var? at t
 rw [hg] at t
 have t' : (match w.heap[g]? with | some (.cells cs _ _) => some cs | _ => none) = some pow10V.toArray := t
 cases h : w.heap[g]? with
 | none => rw [h] at t'; cases t'
 | some o =>
   rw [h] at t'
   cases o with
   | cells c e f => cases t'; exact ⟨e, f, h⟩
   | _ => cases t'
theorem itoa_run {P : Program} {k g : Nat} {W : Foot} {h m : Heap} {x : Int} {r : ByteArray} (hg : P.globalNamed "internal/strconv.uint64pow10" = some g)
   (c : ∀ (n : Int) (_ : -9223372036854775808 ≤ n) (_ : n ≤ 9223372036854775807) (w : World) (_ : Lib.TabIs P w "internal/strconv.uint64pow10" .u64 Lib.pow10Tab), Calls P k #[.int .i64 n] w fun e w' => e = .returned (.string ⟨(Lib.itoa n).toArray⟩) ∧ ∃ k os, w' = Go.Sort.grow (w.drewN k) os)
   (O : Hold W h m h m []) (tab : TBg g m) (e : (if -9223372036854775808 ≤ x ∧ x ≤ 9223372036854775807 then some (itoaB x) else none) = some r) : Run P k #[Value.int .i64 x] h fun v h' => ∃ m', Hold W h m h' m' [] ∧ v = .string r := by
 obtain ⟨g1, e⟩ := guard_e e
 cases e
 intro w hw
 subst hw
 refine (c x g1.1 g1.2 w ((tab.sub O.s).var hg)).mono fun e w' he => ?_
 obtain ⟨rfl, k, os, rfl⟩ := he
 refine ⟨_, rfl, ⟨m, O.ext ?_, rfl⟩, ⟨rfl, rfl, rfl⟩⟩
 refine ⟨?_, fun i hi => ?_⟩
 · show w.heap.size ≤ (w.heap ++ os).size
   simp
 · show (w.heap ++ os)[i]? = w.heap[i]?
   rw [Array.getElem?_append_left hi]
end Go.Hw

end
section
set_option linter.unusedVariables false
namespace Go.Hw
open Go
def spaceV : List Value := Lib.asciiSpaceTab.map fun z => Value.int .u8 z
def TBs (g : Nat) (m : Heap) : Prop := ∃ t f, m[g]? = some (.cells spaceV.toArray t f)
theorem TBs.sub {g : Nat} {m h : Heap} (t : TBs g m) (s : Sub m h) : TBs g h := by
 obtain ⟨t, f, h1⟩ := t
 refine ⟨t, f, s _ _ h1 fun e => ?_⟩
 unfold dead at e
 have := congrArg (fun o => match o with | Obj.cells c _ _ => c.size | _ => 0) e
 simp [spaceV, Lib.asciiSpaceTab] at this
theorem TBs.var {P : Program} {g : Nat} {w : World} (hg : P.globalNamed "strings.asciiSpace" = some g) (t : TBs g w.heap) : Lib.TabIs P w "strings.asciiSpace" .u8 Lib.asciiSpaceTab := by
 obtain ⟨t, f, h1⟩ := t
 unfold Lib.TabIs World.var?
 rw [hg]
 show (match w.heap[g]? with | some (.cells cs _ _) => some cs | _ => none) = _
 rw [h1]; rfl
theorem TBs.of {P : Program} {g : Nat} {w : World} (hg : P.globalNamed "strings.asciiSpace" = some g) (t : Lib.TabIs P w "strings.asciiSpace" .u8 Lib.asciiSpaceTab) : TBs g w.heap := by
 unfold Lib.TabIs World.var? at t
 rw [hg] at t
 have t' : (match w.heap[g]? with | some (.cells cs _ _) => some cs | _ => none) = some spaceV.toArray := t
 cases h : w.heap[g]? with
 | none => rw [h] at t'; cases t'
 | some o =>
   rw [h] at t'
   cases o with
   | cells c e f => cases t'; exact ⟨e, f, h⟩
   | _ => cases t'
def TBb (g g' : Nat) (m : Heap) : Prop := TBg g m ∧ TBs g' m
theorem TBb.sub {g g' : Nat} {m h : Heap} (t : TBb g g' m) (s : Sub m h) : TBb g g' h := ⟨t.1.sub s, t.2.sub s⟩
def ascii (s : ByteArray) : Bool := s.data.toList.all fun b => decide (b.toNat < 128)
theorem ascii_at {s : ByteArray} (h : ascii s = true) : ∀ (j : Nat) b, s.data.toList[j]? = some b → b.toNat < 128 := fun j b hb => by
 unfold ascii at h
 rw [List.all_eq_true] at h
 exact of_decide_eq_true (h b (List.mem_of_getElem? hb))
def fieldsB (s : ByteArray) : List ByteArray := (Lib.fields s.data.toList).map fun l => ⟨l.toArray⟩
def trimB (s c : ByteArray) : ByteArray := ⟨(Lib.trimS s.data.toList c.data.toList).toArray⟩
def ibyteB (s : ByteArray) (c : Int) : Int := Lib.indexByte s.data.toList c.toNat.toUInt8
theorem ibyte_run {P : Program} {k : Nat} {W : Foot} {h m : Heap} {s : ByteArray} {x r : Int}
   (c : ∀ (s : ByteArray) (c : Int) (w : World), Calls P k #[.string s, .int .u8 c] w fun e w' => e = .returned (.int .i64 (Lib.indexByte s.data.toList c.toNat.toUInt8)) ∧ w' = w)
   (O : Hold W h m h m []) (e : some (ibyteB s x) = some r) : Run P k #[Value.string s, Value.int .u8 x] h fun v h' => ∃ m', Hold W h m h' m' [] ∧ v = .int .i64 r := by
 cases e
 intro w hw
 subst hw
 refine (c s x w).mono fun e w' he => ?_
 obtain ⟨rfl, rfl⟩ := he
 exact ⟨_, rfl, ⟨m, O, rfl⟩, ⟨rfl, rfl, rfl⟩⟩
theorem trim_run {P : Program} {k : Nat} {W : Foot} {h m : Heap} {s t r : ByteArray}
   (c : ∀ (s t : ByteArray) (w : World) (_ : s.size ≤ 9223372036854775807) (_ : t.size < 4294967281) (_ : ∀ (j : Nat) b, t.data.toList[j]? = some b → b.toNat < 128), Calls P k #[.string s, .string t] w fun e w' => e = .returned (.string ⟨(Lib.trimS s.data.toList t.data.toList).toArray⟩) ∧ Go.RowKit.Below w.heap.size w w')
   (O : Hold W h m h m []) (e : (if s.size ≤ 9223372036854775807 ∧ t.size < 4294967281 ∧ ascii t = true then some (trimB s t) else none) = some r) : Run P k #[Value.string s, Value.string t] h fun v h' => ∃ m', Hold W h m h' m' [] ∧ v = .string r := by
 obtain ⟨g1, e⟩ := guard_e e
 cases e
 intro w hw
 subst hw
 refine (c s t w g1.1 g1.2.1 (ascii_at g1.2.2)).mono fun e w' he => ?_
 obtain ⟨rfl, b⟩ := he
 exact ⟨_, rfl, ⟨m, O.ext ⟨b.size, b.block⟩, rfl⟩, ⟨b.tape, b.os, b.output⟩⟩
theorem strs_cse {m : Heap} : ∀ l : List ByteArray, CsE 1 eStr m l (l.map Value.string)
 | [] => rfl
 | x :: l => ⟨[.string x], l.map Value.string, rfl, rfl, rfl, strs_cse l⟩
theorem fields_run {P : Program} {k g t : Nat} {W : Foot} {h m : Heap} {s : ByteArray} {r : List ByteArray} (hg : P.globalNamed "strings.asciiSpace" = some g)
   (c : ∀ (s : ByteArray) (w : World) (_ : s.size < 4294967281) (_ : ∀ (j : Nat) b, s.data.toList[j]? = some b → b.toNat < 128) (_ : Lib.TabIs P w "strings.asciiSpace" .u8 Lib.asciiSpaceTab), Calls P k #[.string s] w fun e w' =>
     e = .returned (.slice (some ⟨w.heap.size, 0, none⟩) (Lib.fields s.data.toList).length (Lib.fields s.data.toList).length) ∧ w' = w.alloc (.cells ((Lib.fields s.data.toList).map fun l => Value.string ⟨l.toArray⟩).toArray t))
   (O : Hold W h m h m []) (tab : TBs g m) (e : (if s.size < 4294967281 ∧ ascii s = true then some (fieldsB s) else none) = some r) :
   Run P k #[Value.string s] h fun v h' => ∃ m' A n c, Hold W h m h' m' [rR (aE tell_str) A c r] ∧ v = .slice A n c ∧ n = List.length r := by
 obtain ⟨g1, e⟩ := guard_e e
 cases e
 intro w hw
 subst hw
 refine (c s w g1.1 (ascii_at g1.2) ((tab.sub O.s).var hg)).mono fun e w' he => ?_
 obtain ⟨rfl, rfl⟩ := he
 have hl : (fieldsB s).length = (Lib.fields s.data.toList).length := by unfold fieldsB; rw [List.length_map]
 have main : newH w.heap (.cells ((Lib.fields s.data.toList).map fun l => Value.string ⟨l.toArray⟩).toArray t) fun h' => Hold W w.heap m h' m [rR (aE tell_str) (some ⟨w.heap.size, 0, none⟩) (Lib.fields s.data.toList).length (fieldsB s)] :=
   O.new fun h' x O' => O'.rowE 0 rfl tell_str (by
     have := strs_cse (m := m) (fieldsB s)
     unfold fieldsB at this ⊢
     rw [List.map_map] at this
     exact this) hl
 exact ⟨_, rfl, ⟨m, _, _, _, main, rfl, hl.symm⟩, ⟨rfl, rfl, rfl⟩⟩
end Go.Hw

end
section
namespace Go.Proofs
open Go.Shelf
def Tryz.laysM171_ren : Go.Shelf.Ren := ⟨fun | 171 => 85 | 243 => 94 | 246 => 100 | 283 => 104 | 284 => 105 | 285 => 106 | 286 => 107 | 129 => 109 | 317 => 108 | 318 => 110 | 319 => 111 | 320 => 112 | 337 => 113 | 338 => 114 | n => n, fun | 3 => 3 | 9 => 9 | 2 => 2 | 4 => 4 | 171 => 163 | 0 => 0 | 53 => 164 | 37 => 86 | 5 => 5 | 173 => 167 | 212 => 170 | 51 => 139 | 20 => 20 | 213 => 171 | 46 => 155 | 232 => 174 | 233 => 175 | n => n, fun | 17 => 5 | 18 => 6 | 19 => 7 | n => n⟩
theorem Tryz.laysM171 : Go.Proofs.LaysM.n171 Tryz.prog Tryz.laysM171_ren := {
 mixed := by kernel_rfl
 f129 := Tryz.func109.trans (congrArg some (by kernel_rfl))
 f171 := Tryz.func85.trans (congrArg some (by kernel_rfl))
 f243 := Tryz.func94.trans (congrArg some (by kernel_rfl))
 f246 := Tryz.func100.trans (congrArg some (by kernel_rfl))
 f283 := Tryz.func104.trans (congrArg some (by kernel_rfl))
 f284 := Tryz.func105.trans (congrArg some (by kernel_rfl))
 f285 := Tryz.func106.trans (congrArg some (by kernel_rfl))
 f286 := Tryz.func107.trans (congrArg some (by kernel_rfl))
 f317 := Tryz.func108.trans (congrArg some (by kernel_rfl))
 f318 := Tryz.func110.trans (congrArg some (by kernel_rfl))
 f319 := Tryz.func111.trans (congrArg some (by kernel_rfl))
 f320 := Tryz.func112.trans (congrArg some (by kernel_rfl))
 f337 := Tryz.func113.trans (congrArg some (by kernel_rfl))
 f338 := Tryz.func114.trans (congrArg some (by kernel_rfl))
 t0 := Tryz.underlying0
 a0 := Tryz.isAgg0
 z0 := Tryz.sizeOf0
 v0 := Tryz.zeroValue0
 t2 := Tryz.underlying2
 a2 := Tryz.isAgg2
 z2 := Tryz.sizeOf2
 v2 := Tryz.zeroValue2
 t3 := Tryz.underlying3
 a3 := Tryz.isAgg3
 z3 := Tryz.sizeOf3
 v3 := Tryz.zeroValue3
 t4 := Tryz.underlying4
 a4 := Tryz.isAgg4
 z4 := Tryz.sizeOf4
 v4 := Tryz.zeroValue4
 t5 := Tryz.underlying5
 a5 := Tryz.isAgg5
 z5 := Tryz.sizeOf5
 v5 := Tryz.zeroValue5
 t9 := Tryz.underlying9
 a9 := Tryz.isAgg9
 z9 := Tryz.sizeOf9
 v9 := Tryz.zeroValue9
 t20 := Tryz.underlying20
 a20 := Tryz.isAgg20
 z20 := Tryz.sizeOf20
 v20 := Tryz.zeroValue20
 t37 := Tryz.underlying86
 a37 := Tryz.isAgg86
 z37 := Tryz.sizeOf86
 v37 := Tryz.zeroValue86
 t46 := Tryz.underlying155
 a46 := Tryz.isAgg155
 z46 := Tryz.sizeOf155
 v46 := Tryz.zeroValue155
 t51 := Tryz.underlying139
 a51 := Tryz.isAgg139
 z51 := Tryz.sizeOf139
 v51 := Tryz.zeroValue139
 t53 := Tryz.underlying164
 a53 := Tryz.isAgg164
 z53 := Tryz.sizeOf164
 v53 := Tryz.zeroValue164
 t171 := Tryz.underlying163
 a171 := Tryz.isAgg163
 z171 := Tryz.sizeOf163
 v171 := Tryz.zeroValue163
 t173 := Tryz.underlying167
 a173 := Tryz.isAgg167
 z173 := Tryz.sizeOf167
 v173 := Tryz.zeroValue167
 t212 := Tryz.underlying170
 a212 := Tryz.isAgg170
 z212 := Tryz.sizeOf170
 v212 := Tryz.zeroValue170
 t213 := Tryz.underlying171
 a213 := Tryz.isAgg171
 z213 := Tryz.sizeOf171
 t232 := Tryz.underlying174
 a232 := Tryz.isAgg174
 z232 := Tryz.sizeOf174
 v232 := Tryz.zeroValue174
 t233 := Tryz.underlying175
 a233 := Tryz.isAgg175
 z233 := Tryz.sizeOf175
 v233 := Tryz.zeroValue175
 g17 := by kernel_rfl
 g18 := by kernel_rfl
 g19 := by kernel_rfl
 i0 := by kernel_rfl
 i2 := by kernel_rfl
 i3 := by kernel_rfl
 i4 := by kernel_rfl
 i5 := by kernel_rfl
 i9 := by kernel_rfl
 i20 := by kernel_rfl
 i37 := by kernel_rfl
 i46 := by kernel_rfl
 i51 := by kernel_rfl
 i53 := by kernel_rfl
 i171 := by kernel_rfl
 i173 := by kernel_rfl
 i212 := by kernel_rfl
 i232 := by kernel_rfl
 i233 := by kernel_rfl
 m17 := by kernel_rfl
 m18 := by kernel_rfl
 m19 := by kernel_rfl }
theorem Tryz.strconv_Itoa (n : Int) (h0 : -9223372036854775808 ≤ n) (h1 : n ≤ 9223372036854775807) (w : World)
   (htab : Lib.TabIs Tryz.prog w "internal/strconv.uint64pow10" .u64 Lib.pow10Tab) :
   Calls Tryz.prog 85 #[.int .i64 n] w fun e w' => e = .returned (.string ⟨(Lib.itoa n).toArray⟩) ∧ ∃ k os, w' = Go.Sort.grow (w.drewN k) os := Any.strconv_Itoa Tryz.laysM171 n h0 h1 w htab
def Tryz.lays137_ren : Go.Shelf.Ren := ⟨fun | 137 => 53 | 217 => 75 | 266 => 88 | n => n, fun | 9 => 9 | 5 => 5 | 3 => 3 | n => n, fun | n => n⟩
theorem Tryz.lays137 : Go.Proofs.Lays.n137 Tryz.prog Tryz.lays137_ren := {
 mixed := by kernel_rfl
 f137 := Tryz.func53.trans (congrArg some (by kernel_rfl))
 f217 := Tryz.func75.trans (congrArg some (by kernel_rfl))
 f266 := Tryz.func88.trans (congrArg some (by kernel_rfl))
 t3 := Tryz.underlying3
 a3 := Tryz.isAgg3
 z3 := Tryz.sizeOf3
 v3 := Tryz.zeroValue3
 t5 := Tryz.underlying5
 a5 := Tryz.isAgg5
 z5 := Tryz.sizeOf5
 v5 := Tryz.zeroValue5
 t9 := Tryz.underlying9
 a9 := Tryz.isAgg9
 z9 := Tryz.sizeOf9
 v9 := Tryz.zeroValue9 }
theorem Tryz.strings_IndexByte (s : ByteArray) (c : Int) (w : World) :
   Calls Tryz.prog 53 #[.string s, .int .u8 c] w fun e w' => e = .returned (.int .i64 (Lib.indexByte s.data.toList c.toNat.toUInt8)) ∧ w' = w := Any.strings_IndexByte Tryz.lays137 s c w
def Tryz.laysM157_ren : Go.Shelf.Ren := ⟨fun | 157 => 55 | 229 => 83 | 199 => 84 | 261 => 93 | 311 => 98 | 312 => 99 | n => n, fun | 9 => 9 | 31 => 37 | 3 => 3 | 5 => 5 | 4 => 4 | 119 => 128 | 0 => 0 | 40 => 130 | 152 => 136 | 21 => 21 | 154 => 138 | 51 => 139 | 141 => 141 | 196 => 146 | 193 => 143 | 198 => 149 | 49 => 147 | 194 => 144 | 201 => 152 | 226 => 161 | 46 => 155 | 227 => 162 | n => n, fun | 0 => 0 | 6 => 1 | n => n⟩
theorem Tryz.laysM157 : Go.Proofs.LaysM.n157 Tryz.prog Tryz.laysM157_ren := {
 mixed := by kernel_rfl
 f157 := Tryz.func55.trans (congrArg some (by kernel_rfl))
 f199 := Tryz.func84.trans (congrArg some (by kernel_rfl))
 f229 := Tryz.func83.trans (congrArg some (by kernel_rfl))
 f261 := Tryz.func93.trans (congrArg some (by kernel_rfl))
 f311 := Tryz.func98.trans (congrArg some (by kernel_rfl))
 f312 := Tryz.func99.trans (congrArg some (by kernel_rfl))
 t0 := Tryz.underlying0
 a0 := Tryz.isAgg0
 z0 := Tryz.sizeOf0
 v0 := Tryz.zeroValue0
 t3 := Tryz.underlying3
 a3 := Tryz.isAgg3
 z3 := Tryz.sizeOf3
 v3 := Tryz.zeroValue3
 t4 := Tryz.underlying4
 a4 := Tryz.isAgg4
 z4 := Tryz.sizeOf4
 v4 := Tryz.zeroValue4
 t5 := Tryz.underlying5
 a5 := Tryz.isAgg5
 z5 := Tryz.sizeOf5
 v5 := Tryz.zeroValue5
 t9 := Tryz.underlying9
 a9 := Tryz.isAgg9
 z9 := Tryz.sizeOf9
 v9 := Tryz.zeroValue9
 t21 := Tryz.underlying21
 a21 := Tryz.isAgg21
 z21 := Tryz.sizeOf21
 v21 := Tryz.zeroValue21
 t31 := Tryz.underlying37
 a31 := Tryz.isAgg37
 z31 := Tryz.sizeOf37
 v31 := Tryz.zeroValue37
 t40 := Tryz.underlying130
 a40 := Tryz.isAgg130
 z40 := Tryz.sizeOf130
 v40 := Tryz.zeroValue130
 t46 := Tryz.underlying155
 a46 := Tryz.isAgg155
 z46 := Tryz.sizeOf155
 v46 := Tryz.zeroValue155
 t49 := Tryz.underlying147
 a49 := Tryz.isAgg147
 z49 := Tryz.sizeOf147
 v49 := Tryz.zeroValue147
 t51 := Tryz.underlying139
 a51 := Tryz.isAgg139
 z51 := Tryz.sizeOf139
 v51 := Tryz.zeroValue139
 t119 := Tryz.underlying128
 a119 := Tryz.isAgg128
 z119 := Tryz.sizeOf128
 t141 := Tryz.underlying141
 a141 := Tryz.isAgg141
 z141 := Tryz.sizeOf141
 v141 := Tryz.zeroValue141
 t152 := Tryz.underlying136
 a152 := Tryz.isAgg136
 z152 := Tryz.sizeOf136
 v152 := Tryz.zeroValue136
 t154 := Tryz.underlying138
 a154 := Tryz.isAgg138
 z154 := Tryz.sizeOf138
 v154 := Tryz.zeroValue138
 t193 := Tryz.underlying143
 a193 := Tryz.isAgg143
 z193 := Tryz.sizeOf143
 v193 := Tryz.zeroValue143
 t194 := Tryz.underlying144
 a194 := Tryz.isAgg144
 z194 := Tryz.sizeOf144
 v194 := Tryz.zeroValue144
 t196 := Tryz.underlying146
 a196 := Tryz.isAgg146
 z196 := Tryz.sizeOf146
 v196 := Tryz.zeroValue146
 t198 := Tryz.underlying149
 a198 := Tryz.isAgg149
 z198 := Tryz.sizeOf149
 v198 := Tryz.zeroValue149
 t201 := Tryz.underlying152
 a201 := Tryz.isAgg152
 z201 := Tryz.sizeOf152
 v201 := Tryz.zeroValue152
 t226 := Tryz.underlying161
 a226 := Tryz.isAgg161
 z226 := Tryz.sizeOf161
 v226 := Tryz.zeroValue161
 t227 := Tryz.underlying162
 a227 := Tryz.isAgg162
 z227 := Tryz.sizeOf162
 v227 := Tryz.zeroValue162
 g0 := by kernel_rfl
 g6 := by kernel_rfl
 i0 := by kernel_rfl
 i3 := by kernel_rfl
 i4 := by kernel_rfl
 i5 := by kernel_rfl
 i9 := by kernel_rfl
 i21 := by kernel_rfl
 i31 := by kernel_rfl
 i40 := by kernel_rfl
 i46 := by kernel_rfl
 i49 := by kernel_rfl
 i51 := by kernel_rfl
 i141 := by kernel_rfl
 i152 := by kernel_rfl
 i154 := by kernel_rfl
 i193 := by kernel_rfl
 i194 := by kernel_rfl
 i196 := by kernel_rfl
 i198 := by kernel_rfl
 i201 := by kernel_rfl
 i226 := by kernel_rfl
 i227 := by kernel_rfl
 m0 := by kernel_rfl
 m6 := by kernel_rfl }
theorem Tryz.strings_Fields (s : ByteArray) (w : World) (hs : s.size < 4294967281) (ha : ∀ (j : Nat) b, s.data.toList[j]? = some b → b.toNat < 128) (htab : Lib.TabIs Tryz.prog w "strings.asciiSpace" .u8 Lib.asciiSpaceTab) :
   Calls Tryz.prog 55 #[.string s] w fun e w' => e = .returned (.slice (some ⟨w.heap.size, 0, none⟩) (Lib.fields s.data.toList).length (Lib.fields s.data.toList).length) ∧ w' = w.alloc (.cells ((Lib.fields s.data.toList).map fun l => Value.string ⟨l.toArray⟩).toArray 9) := Any.strings_Fields_laid Tryz.laysM157 s w hs ha htab
def Tryz.lays160_ren : Go.Shelf.Ren := ⟨fun | 160 => 54 | 232 => 77 | 231 => 76 | 227 => 78 | 234 => 80 | 233 => 79 | 236 => 82 | 235 => 81 | 228 => 89 | 271 => 92 | 151 => 91 | 197 => 90 | 120 => 97 | 152 => 96 | 260 => 95 | 137 => 53 | 119 => 101 | 224 => 102 | 225 => 103 | 217 => 75 | 266 => 88 | n => n, fun | 9 => 9 | 4 => 4 | 3 => 3 | 5 => 5 | 117 => 124 | 116 => 123 | 0 => 0 | 124 => 127 | 21 => 21 | 105 => 133 | 46 => 155 | 119 => 128 | 139 => 158 | 138 => 157 | n => n, fun | 3 => 3 | 4 => 4 | n => n⟩
theorem Tryz.lays160 : Go.Proofs.Lays.n160 Tryz.prog Tryz.lays160_ren := {
 mixed := by kernel_rfl
 f119 := Tryz.func101.trans (congrArg some (by kernel_rfl))
 f120 := Tryz.func97.trans (congrArg some (by kernel_rfl))
 f137 := Tryz.func53.trans (congrArg some (by kernel_rfl))
 f151 := Tryz.func91.trans (congrArg some (by kernel_rfl))
 f152 := Tryz.func96.trans (congrArg some (by kernel_rfl))
 f160 := Tryz.func54.trans (congrArg some (by kernel_rfl))
 f197 := Tryz.func90.trans (congrArg some (by kernel_rfl))
 f217 := Tryz.func75.trans (congrArg some (by kernel_rfl))
 f224 := Tryz.func102.trans (congrArg some (by kernel_rfl))
 f225 := Tryz.func103.trans (congrArg some (by kernel_rfl))
 f227 := Tryz.func78.trans (congrArg some (by kernel_rfl))
 f228 := Tryz.func89.trans (congrArg some (by kernel_rfl))
 f231 := Tryz.func76.trans (congrArg some (by kernel_rfl))
 f232 := Tryz.func77.trans (congrArg some (by kernel_rfl))
 f233 := Tryz.func79.trans (congrArg some (by kernel_rfl))
 f234 := Tryz.func80.trans (congrArg some (by kernel_rfl))
 f235 := Tryz.func81.trans (congrArg some (by kernel_rfl))
 f236 := Tryz.func82.trans (congrArg some (by kernel_rfl))
 f260 := Tryz.func95.trans (congrArg some (by kernel_rfl))
 f266 := Tryz.func88.trans (congrArg some (by kernel_rfl))
 f271 := Tryz.func92.trans (congrArg some (by kernel_rfl))
 t0 := Tryz.underlying0
 a0 := Tryz.isAgg0
 z0 := Tryz.sizeOf0
 v0 := Tryz.zeroValue0
 t3 := Tryz.underlying3
 a3 := Tryz.isAgg3
 z3 := Tryz.sizeOf3
 v3 := Tryz.zeroValue3
 t4 := Tryz.underlying4
 a4 := Tryz.isAgg4
 z4 := Tryz.sizeOf4
 v4 := Tryz.zeroValue4
 t5 := Tryz.underlying5
 a5 := Tryz.isAgg5
 z5 := Tryz.sizeOf5
 v5 := Tryz.zeroValue5
 t9 := Tryz.underlying9
 a9 := Tryz.isAgg9
 z9 := Tryz.sizeOf9
 v9 := Tryz.zeroValue9
 t21 := Tryz.underlying21
 a21 := Tryz.isAgg21
 z21 := Tryz.sizeOf21
 v21 := Tryz.zeroValue21
 t46 := Tryz.underlying155
 a46 := Tryz.isAgg155
 z46 := Tryz.sizeOf155
 v46 := Tryz.zeroValue155
 t105 := Tryz.underlying133
 a105 := Tryz.isAgg133
 z105 := Tryz.sizeOf133
 v105 := Tryz.zeroValue133
 t116 := Tryz.underlying123
 a116 := Tryz.isAgg123
 z116 := Tryz.sizeOf123
 t117 := Tryz.underlying124
 a117 := Tryz.isAgg124
 z117 := Tryz.sizeOf124
 v117 := Tryz.zeroValue124
 t119 := Tryz.underlying128
 a119 := Tryz.isAgg128
 z119 := Tryz.sizeOf128
 t124 := Tryz.underlying127
 a124 := Tryz.isAgg127
 z124 := Tryz.sizeOf127
 v124 := Tryz.zeroValue127
 t138 := Tryz.underlying157
 a138 := Tryz.isAgg157
 z138 := Tryz.sizeOf157
 v138 := Tryz.zeroValue157
 t139 := Tryz.underlying158
 a139 := Tryz.isAgg158
 z139 := Tryz.sizeOf158
 v139 := Tryz.zeroValue158
 g3 := by kernel_rfl
 g4 := by kernel_rfl }
theorem Tryz.strings_Trim (s t : ByteArray) (w : World) (hs : s.size ≤ 9223372036854775807) (ht : t.size < 4294967281) (ha : ∀ (j : Nat) b, t.data.toList[j]? = some b → b.toNat < 128) :
   Calls Tryz.prog 54 #[.string s, .string t] w fun e w' => e = .returned (.string ⟨(Lib.trimS s.data.toList t.data.toList).toArray⟩) ∧ Go.RowKit.Below w.heap.size w w' := Any.strings_Trim_laid Tryz.lays160 (by kernel_rfl) s t w hs ht ha
end Go.Proofs

end
