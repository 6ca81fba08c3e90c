/- Last part: what the law NamesPlay needs, put together out of texts of this session. -/
import Derived.Test.YtaiehkhjmplodaaDoorRows
import Derived.WalkKit
import Derived.ProofKit
import Derived.OpenShut
import Derived.Deep.DeepHandedRow
import Derived.Deep.DeepWitnessRowRef
import Derived.Deep.DeepLaidRun
import Derived.Lib.LaidTab
import Derived.Stop.LaidErr
import Derived.Test.YtaiehkhjmplodaaDoorCards
import Derived.Test.YtaiehkhjmplodaaDoorTie
import Derived.Test.YtaiehkhjmplodaaDoorZNamesPlaye
section
namespace Go.Proofs.YtaiehkhjmplodaaDoor.Fw
open Go Go.Hw Go.Proofs
set_option linter.unusedVariables false
set_option linter.unusedSectionVars false
set_option linter.unusedSimpArgs false
def lt (a b : ByteArray) : Bool := Op.bytesLess a.toList b.toList
theorem lt_asym {a b : ByteArray} (h : lt a b = true) : lt b a = false := bl_asym h
theorem lt_irr (a : ByteArray) : lt a a = false := by
 cases h : lt a a
 · rfl
 · have := lt_asym h; rw [h] at this; cases this
theorem lt_anti {a b : ByteArray} (h : lt a b = false) (k : lt b a = false) : a = b := ba_anti a b k h
theorem lt_le {a b c : ByteArray} (h : lt a b = true) (k : lt c b = false) : lt a c = true := by
 cases e : lt a c
 · have : lt a b = false := bl_tr (a := b.toList) (b := c.toList) (c := a.toList) k e
   rw [h] at this; cases this
 · rfl
theorem lt_tr {a b c : ByteArray} (h : lt a b = true) (k : lt b c = true) : lt a c = true := lt_le h (lt_asym k)
theorem lt_ne {a b : ByteArray} (h : lt a b = true) : a ≠ b := fun e => by subst e; rw [lt_irr] at h; cases h
theorem cb_lt : ∀ a b : List UInt8, Lib.compareBytes a b < 0 ↔ Op.bytesLess a b = true
 | [], [] => by simp [Lib.compareBytes, Op.bytesLess]
 | [], _ :: _ => by simp [Lib.compareBytes, Op.bytesLess]
 | _ :: _, [] => by simp [Lib.compareBytes, Op.bytesLess]
 | x :: a, y :: b => by
   unfold Lib.compareBytes Op.bytesLess
   by_cases h : x < y
   · simp [h]
   · by_cases k : y < x
     · have : x ≠ y := fun e => by subst e; exact h k
       simp [h, k, this]
     · have e : x = y := UInt8.le_antisymm (UInt8.not_lt.1 k) (UInt8.not_lt.1 h)
       subst e
       rw [if_neg h, if_neg h, cb_lt a b]
       simp
theorem cb_eq : ∀ a b : List UInt8, Lib.compareBytes a b = 0 ↔ a = b
 | [], [] => by simp [Lib.compareBytes]
 | [], _ :: _ => by simp [Lib.compareBytes]
 | _ :: _, [] => by simp [Lib.compareBytes]
 | x :: a, y :: b => by
   unfold Lib.compareBytes
   by_cases h : x < y
   · have : x ≠ y := fun e => by subst e; exact UInt8.lt_irrefl _ h
     simp [h, this]
   · by_cases k : y < x
     · have : x ≠ y := fun e => by subst e; exact h k
       simp [h, k, this]
     · have e : x = y := UInt8.le_antisymm (UInt8.not_lt.1 k) (UInt8.not_lt.1 h)
       subst e
       rw [if_neg h, if_neg h, cb_eq a b]
       simp
theorem ba_data (a b : ByteArray) : a.data.toList = b.data.toList ↔ a = b := by
 constructor
 · intro h
   obtain ⟨⟨x⟩⟩ := a
   obtain ⟨⟨y⟩⟩ := b
   simp only at h
   rw [h]
 · rintro rfl; rfl
theorem data_toList (a : ByteArray) : a.toList = a.data.toList := ByteArray.toList_eq a
theorem cmp_lt (a b : ByteArray) : cmpB a b < 0 ↔ lt a b = true := by
 unfold cmpB lt
 rw [data_toList, data_toList]
 exact cb_lt _ _
theorem cmp_eq0 (a b : ByteArray) : cmpB a b = 0 ↔ a = b := by
 unfold cmpB
 rw [cb_eq, ba_data]
def alph : ByteArray := ByteArray.mk #[97, 98, 99, 100, 101, 102, 103, 104, 105, 106, 107, 108, 109, 110, 111, 112, 113, 114, 115, 116, 117, 118, 119, 120, 121, 122, 48, 49, 50, 51, 52, 53, 54, 55, 56, 57]
def alphL : List UInt8 := [97, 98, 99, 100, 101, 102, 103, 104, 105, 106, 107, 108, 109, 110, 111, 112, 113, 114, 115, 116, 117, 118, 119, 120, 121, 122, 48, 49, 50, 51, 52, 53, 54, 55, 56, 57]
def wd (s : ByteArray) : Bool := decide (1 ≤ s.size) && decide (s.size ≤ 16) && s.data.toList.all (alphL.contains ·)
theorem dwn {p : UInt8 → Bool} : ∀ l : List UInt8, l.dropWhile p = [] ↔ ∀ x ∈ l, p x = true
 | [] => by simp
 | x :: l => by
   rw [List.dropWhile_cons]
   by_cases h : p x = true
   · rw [if_pos h, dwn l]
     simp [h]
   · rw [if_neg h]
     simp [h]
theorem trim_nil (l cs : List UInt8) : Lib.trimS l cs = [] ↔ l.all (cs.contains ·) = true := by
 unfold Lib.trimS Lib.trimLeftS Lib.trimRightS
 rw [dwn, List.all_eq_true]
 constructor
 · intro h
   have h0 : l.reverse.dropWhile (fun x => cs.contains x) = [] := by
     cases e : l.reverse.dropWhile (fun x => cs.contains x) with
     | nil => rfl
     | cons x r =>
       have h1 := h x (by rw [e]; simp)
       have h2 := List.head_dropWhile_not (fun x => cs.contains x) (by rw [e]; simp : l.reverse.dropWhile (fun x => cs.contains x) ≠ [])
       simp only [e, List.head_cons] at h2
       rw [h1] at h2; cases h2
   rw [dwn] at h0
   exact fun x hx => h0 x (List.mem_reverse.2 hx)
 · intro h x hx
   rw [List.mem_reverse] at hx
   exact h x (List.mem_reverse.1 ((List.dropWhile_suffix _).subset hx))
theorem word_val (s : ByteArray) : names_word s = some (wd s) := by
 unfold names_word wd
 by_cases h0 : s = ByteArray.mk #[]
 · rw [if_pos h0, h0]; rfl
 rw [if_neg h0]
 have h1 : 1 ≤ s.size := by
   have : s.data.toList ≠ [] := fun e => h0 ((ba_data s (ByteArray.mk #[])).1 e)
   have := List.length_pos_iff.2 this
   exact this
 rw [decide_eq_true h1, Bool.true_and]
 by_cases h2 : s.size ≤ 16
 · rw [if_pos (by omega), decide_eq_true h2, Bool.true_and]
   unfold strings_Trim
   rw [if_pos ⟨by omega, by decide, by decide +kernel⟩, Option.bind_some]
   congr 1
   rw [← Bool.coe_iff_coe, decide_eq_true_eq, ← trim_nil]
   unfold trimB
   rw [← ba_data]
   exact Iff.rfl
 · rw [if_neg (by omega), decide_eq_false h2]; rfl
theorem has_all : ∀ n, n < 256 → strings_Contains alph (bytesOf [((n : Nat) : Int)]) = some (alphL.contains (UInt8.ofNat n)) := by decide +kernel
theorem Word_loop (l : List UInt8) (hl : l.length ≤ 1000) : ∀ (d i : Nat), d + i = l.length → roadref4_Word.l0 (l.map fun b => ((UInt8.toNat b : Nat) : Int)) (l.length : Int) (i : Int) = some ((l.drop i).all (alphL.contains ·))
 | 0, i, h => by
   rw [roadref4_Word.l0_eq, if_neg (by omega), List.drop_of_length_le (by omega)]; rfl
 | d + 1, i, h => by
   have hi : i < l.length := by omega
   rw [roadref4_Word.l0_eq, if_pos (by omega), gi_some (k := i) (y := ((UInt8.toNat l[i] : Nat) : Int)) rfl (by simp [hi]), Option.bind_some]
   have := has_all l[i].toNat (UInt8.toNat_lt _)
   unfold alph at this
   rw [this, Option.bind_some, UInt8.ofNat_toNat, List.drop_eq_getElem_cons hi, List.all_cons]
   cases alphL.contains l[i]
   · rfl
   · rw [if_pos rfl, w_succ (by omega), Word_loop l hl d (i + 1) (by omega)]; rfl
theorem Word_val (s : ByteArray) : roadref4_Word s = some (wd s) := by
 unfold roadref4_Word roadref4_within wd
 by_cases h1 : 1 ≤ s.size
 · rw [if_pos (by omega), Option.bind_some, decide_eq_true h1, Bool.true_and]
   by_cases h2 : s.size ≤ 16
   · rw [decide_eq_true (show ((s.size : Nat) : Int) ≤ 16 by omega), if_pos rfl, decide_eq_true h2, Bool.true_and]
     have e : (bytesI s).length = s.data.toList.length := by unfold bytesI; rw [List.length_map]
     have h3 : s.data.toList.length = s.size := rfl
     rw [e]
     have := Word_loop s.data.toList (by omega) s.data.toList.length 0 (by omega)
     exact this
   · rw [decide_eq_false (show ¬ ((s.size : Nat) : Int) ≤ 16 by omega), decide_eq_false h2]; rfl
 · rw [if_neg (by omega), Option.bind_some, decide_eq_false h1]; rfl
def St (l : List T_names_Row) : Prop := l.Pairwise fun x y => lt x.Name y.Name = true
def hasH (s : ByteArray) : List T_names_Row → Bool
 | [] => false
 | r :: _ => decide (r.Name = s)
structure Cut (s : ByteArray) (rows pre post : List T_names_Row) : Prop where
 eq : rows = pre ++ post
 lo : ∀ r ∈ pre, lt r.Name s = true
 hi : ∀ r ∈ post, lt r.Name s = false
theorem half_at {i j : Nat} (h : i + j < 9223372036854775807) : IntKind.wrap .i64 (shrI .u64 (IntKind.wrap .u64 (IntKind.wrap .i64 ((i : Int) + (j : Int)))) 1) = (((i + j) / 2 : Nat) : Int) := by
 have e1 : IntKind.wrap .i64 ((i : Int) + (j : Int)) = ((i + j : Nat) : Int) := by rw [wrap_in (by omega) (by omega)]; omega
 have e2 : IntKind.wrap .u64 ((i + j : Nat) : Int) = ((i + j : Nat) : Int) := by
   show ((i + j : Nat) : Int) % 18446744073709551616 = _
   omega
 rw [e1, e2]
 have e3 : shrI .u64 ((i + j : Nat) : Int) 1 = (((i + j) / 2 : Nat) : Int) := by
   show Int.fdiv ((i + j : Nat) : Int) (2 ^ 1) = _
   rw [Int.fdiv_eq_ediv_of_nonneg _ (by omega)]
   omega
 rw [e3, wrap_in (by omega) (by omega)]
theorem find1_val (r : T_names_Row) (s : ByteArray) : names_Names_find_1 r s = some (cmpB r.Name s) := rfl
theorem merge1_val (r : T_names_Row) (s : ByteArray) : names_Names_Merge_1 r s = some (cmpB r.Name s) := rfl
theorem bs_loop {rows : List T_names_Row} {s : ByteArray} {p : T_names_Row → ByteArray → Option Int} (hp : ∀ r, p r s = some (cmpB r.Name s)) (so : St rows) (hn : rows.length ≤ 1000000) :
   ∀ (d i j : Nat), j - i = d → i ≤ j → j ≤ rows.length → (∀ r ∈ rows.take i, lt r.Name s = true) → (∀ r ∈ rows.drop j, lt r.Name s = false) →
   ∃ pre post, Cut s rows pre post ∧ slices_BinarySearchFunc_23.l0 rows s p (rows.length : Int) (i : Int) (j : Int) = some ((pre.length : Int), hasH s post) := by
 intro d
 induction d using Nat.strongRecOn with
 | _ d ih =>
   intro i j hd hij hj lo hi
   rw [slices_BinarySearchFunc_23.l0_eq]
   by_cases h : i < j
   · rw [if_pos (by omega), half_at (by omega)]
     have hk : (i + j) / 2 < rows.length := by omega
     rw [gi_at hk, Option.bind_some, hp, Option.bind_some]
     by_cases c : cmpB rows[(i + j) / 2].Name s < 0
     · rw [if_pos c, w_succ (by omega)]
       refine ih (j - ((i + j) / 2 + 1)) (by omega) _ _ rfl (by omega) hj (fun r hr => ?_) hi
       rw [cmp_lt] at c
       rw [List.take_succ_eq_append_getElem hk, List.mem_append, List.mem_singleton] at hr
       rcases hr with hr | rfl
       · obtain ⟨q, hq, rfl⟩ := List.mem_iff_getElem.1 hr
         rw [List.length_take] at hq
         rw [List.getElem_take]
         exact lt_tr (List.pairwise_iff_getElem.1 so q _ (by omega) hk (by omega)) c
       · exact c
     · rw [if_neg c]
       refine ih ((i + j) / 2 - i) (by omega) _ _ rfl (by omega) (by omega) lo (fun r hr => ?_)
       rw [cmp_lt, Bool.not_eq_true] at c
       rw [List.drop_eq_getElem_cons hk, List.mem_cons] at hr
       rcases hr with rfl | hr
       · exact c
       · obtain ⟨q, hq, rfl⟩ := List.mem_iff_getElem.1 hr
         rw [List.length_drop] at hq
         rw [List.getElem_drop]
         cases e : lt rows[(i + j) / 2 + 1 + q].Name s
         · rfl
         · have := lt_tr (List.pairwise_iff_getElem.1 so ((i + j) / 2) ((i + j) / 2 + 1 + q) hk (by omega) (by omega)) e
           rw [c] at this; cases this
   · obtain rfl : i = j := by omega
     rw [if_neg (by omega)]
     refine ⟨rows.take i, rows.drop i, ⟨(List.take_append_drop i rows).symm, lo, hi⟩, ?_⟩
     rw [List.length_take, Nat.min_eq_left hj]
     by_cases h : i < rows.length
     · rw [if_pos (by omega), gi_at h, Option.bind_some, hp, Option.bind_some, List.drop_eq_getElem_cons h]
       unfold hasH
       congr 2
       rw [← Bool.coe_iff_coe, beq_iff_eq, decide_eq_true_eq]
       exact cmp_eq0 _ _
     · rw [if_neg (by omega), List.drop_of_length_le (by omega)]; rfl
theorem bs_val {rows : List T_names_Row} {s : ByteArray} {p : T_names_Row → ByteArray → Option Int} (hp : ∀ r, p r s = some (cmpB r.Name s)) (so : St rows) (hn : rows.length ≤ 1000000) :
   ∃ pre post, Cut s rows pre post ∧ slices_BinarySearchFunc_23 rows s p = some ((pre.length : Int), hasH s post) :=
 bs_loop hp so hn rows.length 0 rows.length (by omega) (by omega) (by omega) (by simp) (by simp)
def mean (r : T_names_Row) : T_roadref4_Meaning := ⟨r.Ref, r.Count, r.Node⟩
def en (r : T_names_Row) : ByteArray × T_roadref4_Meaning := (r.Name, mean r)
structure Sim (rows : List T_names_Row) (es : List (ByteArray × T_roadref4_Meaning)) : Prop where
 so : St rows
 pm : (rows.map en).Perm es
theorem St.nd {rows : List T_names_Row} (h : St rows) : (rows.map (·.Name)).Nodup := by
 unfold List.Nodup
 rw [List.pairwise_map]
 exact h.imp fun h => lt_ne h
theorem Sim.nd {rows es} (S : Sim rows es) : (es.map (·.1)).Nodup := by
 have := S.so.nd
 have e : rows.map (·.Name) = (rows.map en).map (·.1) := by rw [List.map_map]; rfl
 rw [e] at this
 exact (S.pm.map _).nodup_iff.1 this
theorem Sim.len {rows es} (S : Sim rows es) : es.length = rows.length := by rw [← S.pm.length_eq, List.length_map]
theorem pget_mem {es : List (ByteArray × T_roadref4_Meaning)} (nd : (es.map (·.1)).Nodup) {k : ByteArray} {v : T_roadref4_Meaning} (h : (k, v) ∈ es) : pget es k = some v := by
 induction es with
 | nil => cases h
 | cons x es ih =>
   rw [List.map_cons, List.nodup_cons] at nd
   rw [pget_cons]
   rcases List.mem_cons.1 h with rfl | h
   · rw [if_pos rfl]
   · rw [if_neg (fun e => nd.1 (by rw [← e]; exact List.mem_map.2 ⟨_, h, rfl⟩)), ih nd.2 h]
theorem pget_no {es : List (ByteArray × T_roadref4_Meaning)} {k : ByteArray} (h : ∀ x ∈ es, x.1 ≠ k) : pget es k = none := by
 induction es with
 | nil => rfl
 | cons x es ih => rw [pget_cons, if_neg (fun e => h x (List.mem_cons_self ..) e.symm), ih fun y hy => h y (List.mem_cons_of_mem _ hy)]
theorem pset_no {es : List (ByteArray × T_roadref4_Meaning)} {k : ByteArray} {v} (h : ∀ x ∈ es, x.1 ≠ k) : pset es k v = es ++ [(k, v)] := by
 induction es with
 | nil => rfl
 | cons x es ih => unfold pset; rw [if_neg (fun e => h x (List.mem_cons_self ..) e.symm), ih fun y hy => h y (List.mem_cons_of_mem _ hy)]; rfl
theorem pset_mid {a b : List (ByteArray × T_roadref4_Meaning)} {k : ByteArray} {w v} (h : ∀ x ∈ a, x.1 ≠ k) : pset (a ++ (k, w) :: b) k v = a ++ (k, v) :: b := by
 induction a with
 | nil => unfold pset; rw [List.nil_append]; simp
 | cons x a ih => rw [List.cons_append]; unfold pset; rw [if_neg (fun e => h x (List.mem_cons_self ..) e.symm), ih fun y hy => h y (List.mem_cons_of_mem _ hy)]; rfl
theorem Sim.look {rows es} (S : Sim rows es) {r : T_names_Row} (h : r ∈ rows) : pget es r.Name = some (mean r) :=
 pget_mem S.nd (S.pm.mem_iff.1 (List.mem_map.2 ⟨r, h, rfl⟩))
theorem Sim.gone {rows es} (S : Sim rows es) {s : ByteArray} (h : ∀ r ∈ rows, r.Name ≠ s) : ∀ x ∈ es, x.1 ≠ s := fun x hx => by
 obtain ⟨r, hr, rfl⟩ := List.mem_map.1 (S.pm.mem_iff.2 hx)
 exact h r hr
theorem Cut.none {s rows pre post} (C : Cut s rows pre post) (so : St rows) (h : hasH s post = false) : (∀ r ∈ rows, r.Name ≠ s) ∧ ∀ r ∈ post, lt s r.Name = true := by
 have h2 : ∀ r ∈ post, lt s r.Name = true := by
   intro r hr
   cases post with
   | nil => cases hr
   | cons x post =>
     have hx : lt s x.Name = true := by
       cases e : lt s x.Name
       · have := lt_anti (C.hi x (List.mem_cons_self ..)) e
         have h' : decide (x.Name = s) = false := h
         rw [decide_eq_true this] at h'
         cases h'
       · rfl
     rcases List.mem_cons.1 hr with rfl | hr
     · exact hx
     · have := so
       rw [C.eq] at this
       exact lt_tr hx ((List.pairwise_cons.1 (List.pairwise_append.1 this).2.1).1 r hr)
 refine ⟨fun r hr => ?_, h2⟩
 rw [C.eq] at hr
 rcases List.mem_append.1 hr with hr | hr
 · exact lt_ne (C.lo r hr)
 · exact (lt_ne (h2 r hr)).symm
theorem Cut.some {s rows pre post} (C : Cut s rows pre post) (h : hasH s post = true) : ∃ r l, post = r :: l ∧ r.Name = s := by
 cases post with
 | nil => cases h
 | cons r l => exact ⟨r, l, rfl, of_decide_eq_true h⟩
theorem Sim.upd {pre post es} {r r' : T_names_Row} (S : Sim (pre ++ r :: post) es) (hr : r'.Name = r.Name) : Sim (pre ++ r' :: post) (pset es r.Name (mean r')) ∧ (pset es r.Name (mean r')).length = es.length := by
 have hm : (r.Name, mean r) ∈ es := S.pm.mem_iff.1 (List.mem_map.2 ⟨r, by simp, rfl⟩)
 obtain ⟨a, b, rfl⟩ := List.append_of_mem hm
 have nd := S.nd
 rw [List.map_append, List.map_cons, List.nodup_append] at nd
 have ha : ∀ x ∈ a, x.1 ≠ r.Name := fun x hx e => nd.2.2 _ (List.mem_map.2 ⟨x, hx, rfl⟩) _ (List.mem_cons_self ..) e
 rw [pset_mid ha]
 refine ⟨⟨?_, ?_⟩, by simp⟩
 · have := S.so
   unfold St at this ⊢
   rw [List.pairwise_append] at this ⊢
   rw [List.pairwise_cons] at this ⊢
   refine ⟨this.1, ⟨fun y hy => by rw [hr]; exact this.2.1.1 y hy, this.2.1.2⟩, fun x hx y hy => ?_⟩
   rcases List.mem_cons.1 hy with rfl | hy
   · rw [hr]; exact this.2.2 x hx r (List.mem_cons_self ..)
   · exact this.2.2 x hx y (List.mem_cons_of_mem _ hy)
 · have p := S.pm
   rw [List.map_append, List.map_cons] at p ⊢
   have p1 : ((en r) :: (pre.map en ++ post.map en)).Perm ((r.Name, mean r) :: (a ++ b)) := (List.perm_middle.symm.trans p).trans List.perm_middle
   have p2 := (List.perm_cons (en r)).1 p1
   have e : en r' = (r.Name, mean r') := by unfold en; rw [hr]
   rw [e]
   exact (List.perm_middle.trans (p2.cons _)).trans List.perm_middle.symm
theorem Sim.ins {pre post es} {r' : T_names_Row} (S : Sim (pre ++ post) es) (C : Cut r'.Name (pre ++ post) pre post) (h : hasH r'.Name post = false) : Sim (pre ++ r' :: post) (pset es r'.Name (mean r')) ∧ (pset es r'.Name (mean r')).length = es.length + 1 ∧ pget es r'.Name = none := by
 have hn := C.none S.so h
 have hg := S.gone hn.1
 rw [pset_no hg]
 refine ⟨⟨?_, ?_⟩, by simp, pget_no hg⟩
 · have := S.so
   unfold St at this ⊢
   rw [List.pairwise_append] at this ⊢
   rw [List.pairwise_cons]
   refine ⟨this.1, ⟨hn.2, this.2.1⟩, fun x hx y hy => ?_⟩
   rcases List.mem_cons.1 hy with rfl | hy
   · exact C.lo x hx
   · exact this.2.2 x hx y hy
 · have p := S.pm
   rw [List.map_append] at p
   rw [List.map_append, List.map_cons]
   exact (List.perm_middle.trans (p.cons _)).trans (List.perm_append_comm (l₁ := [en r']))
theorem find_val {X : T_names_Names} {s : ByteArray} (so : St X.rows_) (hn : X.rows_.length ≤ 1000) : ∃ pre post, Cut s X.rows_ pre post ∧ names_Names_find X s = some ((pre.length : Int), hasH s post) := by
 obtain ⟨pre, post, C, e⟩ := bs_val (p := fun z12 z13 => names_Names_find_1 z12 z13) (s := s) (fun r => find1_val r s) so (by omega)
 refine ⟨pre, post, C, ?_⟩
 unfold names_Names_find
 rw [e, Option.bind_some]
def putL (s : ByteArray) (pre post : List T_names_Row) (r : T_names_Row) : List T_names_Row := if hasH s post = true then pre ++ r :: post.tail else pre ++ r :: post
def putR (n c : Int) (s : ByteArray) (ref : Int) (rows pre post : List T_names_Row) : Int × T_names_Names :=
 if hasH s post = false ∧ rows.length = 60 then (6, ⟨n, c, rows⟩) else if c = 1099511627776 then (2, ⟨n, c, rows⟩) else (0, ⟨n, c + 1, putL s pre post ⟨s, ref, c + 1, n⟩⟩)
theorem put_val {n c : Int} {rows : List T_names_Row} {s : ByteArray} {ref : Int} (so : St rows) (hn : rows.length ≤ 1000) (h0 : 0 ≤ c) (h1 : c ≤ 1099511627776) :
   ∃ pre post, Cut s rows pre post ∧ names_Names_put ⟨n, c, rows⟩ s ref = some (putR n c s ref rows pre post) := by
 obtain ⟨pre, post, C, e⟩ := find_val (X := ⟨n, c, rows⟩) (s := s) so hn
 refine ⟨pre, post, C, ?_⟩
 have ce : rows = pre ++ post := C.eq
 have e0 : names_Names_put.j0 n c rows s ref (pre.length : Int) (hasH s post) = some (if c = 1099511627776 then (2, ⟨n, c, rows⟩) else (0, ⟨n, c + 1, putL s pre post ⟨s, ref, c + 1, n⟩⟩)) := by
   unfold names_Names_put.j0
   by_cases hc : c = 1099511627776
   · rw [if_pos hc, if_pos hc]
   rw [if_neg hc, if_neg hc, wrap_in (by omega) (by omega)]
   unfold names_Names_put.j1 putL
   by_cases hh : hasH s post = true
   · rw [if_pos hh, if_pos hh]
     obtain ⟨r, l, rfl, hr⟩ := C.some hh
     rw [gi_some (k := pre.length) (y := r) rfl (by rw [ce]; simp), Option.bind_some, Option.bind_some, ce]
     simp
   · rw [if_neg hh, if_neg hh]
     have hl := congrArg List.length ce
     rw [List.length_append] at hl
     unfold slices_Insert_26
     rw [if_pos ⟨⟨by omega, by omega⟩, by simp; omega⟩, Option.bind_some, ce]
     simp
 unfold names_Names_put putR
 rw [e, Option.bind_some]
 by_cases hh : hasH s post = true
 · rw [if_pos hh, e0, if_neg (show ¬ (hasH s post = false ∧ rows.length = 60) from by rw [hh]; simp)]
 · rw [if_neg hh, e0]
   have hf : hasH s post = false := by simpa using hh
   by_cases hl : rows.length = 60
   · rw [if_pos (by simp; omega), if_pos ⟨hf, hl⟩]
   · rw [if_neg (by simp; omega), if_neg (show ¬ (hasH s post = false ∧ rows.length = 60) from fun h => hl h.2)]
structure Rel (n : Int) (X : T_names_Names) (M : T_roadref4_Names) : Prop where
 nd : X.node_ = n
 ct : M.Count = X.count_
 c0 : 0 ≤ X.count_
 c1 : X.count_ ≤ 1099511627776
 le : X.rows_.length ≤ 60
 sim : Sim X.rows_ M.Rows
 wds : ∀ r ∈ X.rows_, wd r.Name = true
def z0 : T_roadref4_Meaning := ⟨0, 0, 0⟩
theorem Rel.got {n X M} (R : Rel n X M) {s pre post} (C : Cut s X.rows_ pre post) : (hasH s post = true → ∃ r l, post = r :: l ∧ r.Name = s ∧ pget M.Rows s = some (mean r)) ∧ (hasH s post = false → pget M.Rows s = none) := by
 refine ⟨fun h => ?_, fun h => pget_no (R.sim.gone (C.none R.sim.so h).1)⟩
 obtain ⟨r, l, rfl, rfl⟩ := C.some h
 exact ⟨r, l, rfl, rfl, R.sim.look (by rw [C.eq]; simp)⟩
theorem Find_val {n X M} (R : Rel n X M) (s : ByteArray) : names_Names_Find X s = some (if wd s = true then (if (pgd M.Rows s z0).Ref = 0 then (0, 4) else ((pgd M.Rows s z0).Ref, 0)) else (0, 3)) := by
 unfold names_Names_Find
 rw [word_val, Option.bind_some]
 by_cases w : wd s = true
 · rw [if_pos w, if_pos w]
   obtain ⟨pre, post, C, e⟩ := find_val (s := s) R.sim.so (by have := R.le; omega)
   obtain ⟨g1, g2⟩ := R.got C
   rw [e, Option.bind_some]
   unfold pgd
   by_cases h : hasH s post = true
   · obtain ⟨r, l, rfl, hr, g⟩ := g1 h
     have gg : gi X.rows_ (pre.length : Int) = some r := gi_some (k := pre.length) rfl (by rw [C.eq]; simp)
     rw [if_pos h, gg, Option.bind_some, g]
     unfold names_Names_Find.j1 names_Names_Find.j0
     rw [gg, Option.bind_some]
     simp only [Option.getD_some, mean]
     by_cases h0 : r.Ref = 0
     · rw [if_pos (by simp [h0])]; simp [h0]
     · rw [if_neg (by simp [h0])]; simp [h0]
   · have h' : hasH s post = false := by simpa using h
     rw [if_neg h, g2 h']
     unfold names_Names_Find.j1
     rw [if_pos rfl]
     simp [z0]
 · rw [if_neg w, if_neg w]
theorem wd_not {n X M} (R : Rel n X M) {s : ByteArray} (w : wd s = false) : pget M.Rows s = none :=
 pget_no (R.sim.gone fun r hr e => by have := R.wds r hr; rw [e, w] at this; cases this)
def doM (n : Int) (M : T_roadref4_Names) (s : ByteArray) (ref : Int) : Int × T_roadref4_Names :=
 if pget M.Rows s = none ∧ M.Rows.length = 60 then (6, M) else if M.Count = 1099511627776 then (2, M) else (0, ⟨M.Node, M.Count + 1, pset M.Rows s ⟨ref, M.Count + 1, n⟩⟩)
theorem put_rel {n X M} (R : Rel n X M) {s : ByteArray} (w : wd s = true) (ref : Int) : ∃ X', names_Names_put X s ref = some ((doM n M s ref).1, X') ∧ Rel n X' (doM n M s ref).2 := by
 obtain ⟨xn, xc, rows⟩ := X
 obtain ⟨pre, post, C, e⟩ := put_val (n := xn) (c := xc) (rows := rows) (s := s) (ref := ref) R.sim.so (by have := R.le; simp only at this; omega) R.c0 R.c1
 have rn : xn = n := R.nd
 have rc : M.Count = xc := R.ct
 have r0 : 0 ≤ xc := R.c0
 have r1 : xc ≤ 1099511627776 := R.c1
 have rl : rows.length ≤ 60 := R.le
 have rs : Sim rows M.Rows := R.sim
 have rw' : ∀ r ∈ rows, wd r.Name = true := R.wds
 have sl := rs.len
 subst rn
 obtain ⟨g1, g2⟩ := R.got C
 rw [e]
 unfold putR doM
 rw [rc, sl]
 by_cases h : hasH s post = true
 · obtain ⟨r, l, rfl, hr, g⟩ := g1 h
   rw [if_neg (show ¬ (hasH s (r :: l) = false ∧ rows.length = 60) from by rw [h]; simp), if_neg (show ¬ (pget M.Rows s = none ∧ rows.length = 60) from by rw [g]; simp)]
   by_cases hc : xc = 1099511627776
   · rw [if_pos hc, if_pos hc]
     exact ⟨_, rfl, R⟩
   rw [if_neg hc, if_neg hc]
   refine ⟨_, rfl, ?_⟩
   have ce : rows = pre ++ r :: l := C.eq
   subst ce
   unfold putL
   rw [if_pos h]
   subst hr
   obtain ⟨S, SL⟩ := rs.upd (r' := ⟨r.Name, ref, xc + 1, xn⟩) rfl
   refine ⟨rfl, rfl, by simp only; omega, by simp only; omega, ?_, S, ?_⟩
   · simp only [List.length_append, List.length_cons, List.tail_cons] at rl ⊢; omega
   · intro x hx
     rcases List.mem_append.1 hx with hx | hx
     · exact rw' x (List.mem_append.2 (.inl hx))
     · rcases List.mem_cons.1 hx with rfl | hx
       · exact w
       · exact rw' x (List.mem_append.2 (.inr (List.mem_cons_of_mem _ hx)))
 · have h' : hasH s post = false := by simpa using h
   have g := g2 h'
   by_cases hl : rows.length = 60
   · rw [if_pos ⟨h', hl⟩, if_pos ⟨g, hl⟩]
     exact ⟨_, rfl, R⟩
   rw [if_neg (show ¬ (hasH s post = false ∧ rows.length = 60) from fun k => hl k.2), if_neg (show ¬ (pget M.Rows s = none ∧ rows.length = 60) from fun k => hl k.2)]
   by_cases hc : xc = 1099511627776
   · rw [if_pos hc, if_pos hc]
     exact ⟨_, rfl, R⟩
   rw [if_neg hc, if_neg hc]
   refine ⟨_, rfl, ?_⟩
   have ce : rows = pre ++ post := C.eq
   subst ce
   unfold putL
   rw [if_neg h]
   obtain ⟨S, SL, _⟩ := rs.ins (r' := ⟨s, ref, xc + 1, xn⟩) C h'
   refine ⟨rfl, rfl, by simp only; omega, by simp only; omega, ?_, S, ?_⟩
   · simp only [List.length_append, List.length_cons] at rl hl ⊢; omega
   · intro x hx
     rcases List.mem_append.1 hx with hx | hx
     · exact rw' x (List.mem_append.2 (.inl hx))
     · rcases List.mem_cons.1 hx with rfl | hx
       · exact w
       · exact rw' x (List.mem_append.2 (.inr hx))
theorem Set_val {n X M} (R : Rel n X M) (s : ByteArray) (ref : Int) : ∃ X', names_Names_Set X s ref = some ((if wd s = true then (if ref < 1 then (1, M) else doM n M s ref) else (3, M)).1, X') ∧ Rel n X' (if wd s = true then (if ref < 1 then (1, M) else doM n M s ref) else (3, M)).2 := by
 unfold names_Names_Set
 rw [word_val, Option.bind_some]
 by_cases w : wd s = true
 · rw [if_pos w, if_pos w]
   by_cases h : ref < 1
   · rw [if_pos h, if_pos h]
     exact ⟨_, rfl, R⟩
   · rw [if_neg h, if_neg h]
     obtain ⟨X', e, R'⟩ := put_rel R w ref
     rw [e, Option.bind_some]
     exact ⟨_, rfl, R'⟩
 · rw [if_neg w, if_neg w]
   exact ⟨_, rfl, R⟩
theorem Drop_val {n X M} (R : Rel n X M) (s : ByteArray) : ∃ X', names_Names_Drop X s = some ((if wd s = true then (if (pgd M.Rows s z0).Ref = 0 then (4, M) else doM n M s 0) else (3, M)).1, X') ∧ Rel n X' (if wd s = true then (if (pgd M.Rows s z0).Ref = 0 then (4, M) else doM n M s 0) else (3, M)).2 := by
 unfold names_Names_Drop
 rw [Find_val R s, Option.bind_some]
 by_cases w : wd s = true
 · rw [if_pos w, if_pos w]
   by_cases h : (pgd M.Rows s z0).Ref = 0
   · rw [if_pos h, if_pos h]
     exact ⟨_, rfl, R⟩
   · rw [if_neg h, if_neg h]
     obtain ⟨X', e, R'⟩ := put_rel R w 0
     simp only [if_true]
     rw [e, Option.bind_some]
     exact ⟨_, rfl, R'⟩
 · rw [if_neg w, if_neg w]
   exact ⟨_, rfl, R⟩
theorem uniq_sort {rows : List T_names_Row} (so : St rows) {r l : List ByteArray} (hp : r.Perm l) (hs : r.Pairwise (· ≤ ·)) (h : l.Perm (rows.map (·.Name))) : r = rows.map (·.Name) := by
 refine List.Perm.eq_of_pairwise (le := fun a b : ByteArray => a ≤ b) (fun a b _ _ h1 h2 => ba_anti a b h1 h2) hs ?_ (hp.trans h)
 rw [List.pairwise_map]
 exact so.imp fun h => lt_asym h
theorem Sorted_loop {rows : List T_names_Row} (so : St rows) (hn : rows.length ≤ 1000) (a b : Int) (es : List (ByteArray × T_roadref4_Meaning)) : ∀ (k : Nat) (left : List (ByteArray × T_roadref4_Meaning)) (acc : List ByteArray), left.length = k → (acc ++ left.map (·.1)).Perm (rows.map (·.Name)) →
   roadref4_Names_Sorted.l0 acc a b es left = some (rows.map (·.Name), ⟨a, b, es⟩) := by
 intro k
 induction k with
 | zero =>
   intro left acc hk hp
   obtain rfl := List.length_eq_zero_iff.1 hk
   rw [List.map_nil, List.append_nil] at hp
   have hl := hp.length_eq
   rw [List.length_map] at hl
   rw [roadref4_Names_Sorted.l0_eq, pick_nil]
   obtain ⟨r, r1, r2, r3⟩ := slices_Sort_53.val acc (by omega)
   unfold sort_Strings
   rw [r1, Option.bind_some, Option.bind_some, uniq_sort so r2 r3 hp]
 | succ k ih =>
   intro left acc hk hp
   have hl := hp.length_eq
   rw [List.length_append, List.length_map, List.length_map] at hl
   rw [roadref4_Names_Sorted.l0_eq]
   refine pick_all (fun e => by rw [e] at hk; cases hk) fun j c hj => ?_
   have hj' := (List.getElem?_eq_some_iff.1 hj).1
   rw [ap_of (by simp; omega), Option.bind_some]
   refine ih _ _ (by rw [List.length_eraseIdx_of_lt hj']; omega) (List.Perm.trans ?_ hp)
   rw [List.append_assoc]
   refine List.Perm.append_left acc ?_
   have e : left = left.take j ++ c :: left.drop (j + 1) := by
     have := List.getElem?_eq_some_iff.1 hj
     obtain ⟨h1, rfl⟩ := this
     rw [← List.drop_eq_getElem_cons h1, List.take_append_drop]
   rw [List.eraseIdx_eq_take_drop_succ]
   conv => rhs; rw [e]
   rw [List.map_append, List.map_append, List.map_cons, List.singleton_append]
   exact List.perm_middle.symm
theorem Sorted_val {rows : List T_names_Row} {M : T_roadref4_Names} (S : Sim rows M.Rows) (hn : rows.length ≤ 1000) : roadref4_Names_Sorted ⟨M.Node, M.Count, M.Rows⟩ = some (rows.map (·.Name), M) := by
 unfold roadref4_Names_Sorted
 refine Sorted_loop S.so hn _ _ _ _ M.Rows [] rfl ?_
 have := S.pm.map (·.1)
 rw [List.map_map] at this
 exact this.symm
def als (l : List T_names_Row) : List T_names_Name := (l.filter fun r => decide (r.Ref > 0)).map fun r => ⟨r.Name, r.Ref⟩
theorem als_snoc (l : List T_names_Row) (r : T_names_Row) : als (l ++ [r]) = als l ++ if r.Ref > 0 then [⟨r.Name, r.Ref⟩] else [] := by
 unfold als
 rw [List.filter_append, List.map_append]
 by_cases h : r.Ref > 0
 · rw [if_pos h]; simp [h]
 · rw [if_neg h]; simp [h]
theorem als_len (l : List T_names_Row) : (als l).length ≤ l.length := by
 unfold als
 rw [List.length_map]
 exact List.length_filter_le _ _
theorem All_loop {l : List T_names_Row} (hl : l.length ≤ 1000) : ∀ (d i : Nat), d + i = l.length → names_Names_All.l0 (als (l.take i)) l (l.length : Int) (i : Int) = some (als l)
 | 0, i, h => by
   rw [names_Names_All.l0_eq, if_neg (by omega), List.take_of_length_le (by omega)]
 | d + 1, i, h => by
   have hi : i < l.length := by omega
   have ih := All_loop hl d (i + 1) (by omega)
   rw [List.take_succ_eq_append_getElem hi, als_snoc] at ih
   have la := als_len (l.take i)
   rw [List.length_take] at la
   rw [names_Names_All.l0_eq, if_pos (by omega), gi_at hi, Option.bind_some, w_succ (by omega)]
   by_cases hr : l[i].Ref > 0
   · rw [if_pos hr] at ih ⊢
     rw [ap_of (by simp; omega), Option.bind_some, ih]
   · rw [if_neg hr, List.append_nil] at ih
     rw [if_neg hr, ih]
theorem All_val {X : T_names_Names} (hl : X.rows_.length ≤ 1000) : names_Names_All X = some (als X.rows_) := by
 unfold names_Names_All
 exact All_loop hl X.rows_.length 0 rfl
theorem State_val {X : T_names_Names} (hl : X.rows_.length ≤ 1000) : names_Names_State X = some X.rows_ := by
 unfold names_Names_State slices_Clone_18
 rw [ap_of (by simp; omega), Option.bind_some]; rfl
theorem Eq6_loop {l : List T_names_Row} (hl : l.length ≤ 1000) : ∀ (d i : Nat), d + i = l.length → slices_Equal_6.l0 l l (l.length : Int) (i : Int) = some true
 | 0, i, h => by rw [slices_Equal_6.l0_eq, if_neg (by omega)]
 | d + 1, i, h => by
   have hi : i < l.length := by omega
   rw [slices_Equal_6.l0_eq, if_pos (by omega), gi_at hi, Option.bind_some, Option.bind_some, w_succ (by omega), Eq6_loop hl d (i + 1) (by omega), if_pos (by simp [ba_beq])]
theorem Eq6 {l : List T_names_Row} (hl : l.length ≤ 1000) : slices_Equal_6 l l = some true := by
 unfold slices_Equal_6
 rw [if_pos rfl]
 exact Eq6_loop hl l.length 0 rfl
theorem Eq30_loop {l : List T_names_Name} (hl : l.length ≤ 1000) : ∀ (d i : Nat), d + i = l.length → slices_Equal_30.l0 l l (l.length : Int) (i : Int) = some true
 | 0, i, h => by rw [slices_Equal_30.l0_eq, if_neg (by omega)]
 | d + 1, i, h => by
   have hi : i < l.length := by omega
   rw [slices_Equal_30.l0_eq, if_pos (by omega), gi_at hi, Option.bind_some, Option.bind_some, w_succ (by omega), Eq30_loop hl d (i + 1) (by omega), if_pos (by simp [ba_beq])]
theorem Eq30 {l : List T_names_Name} (hl : l.length ≤ 1000) : slices_Equal_30 l l = some true := by
 unfold slices_Equal_30
 rw [if_pos rfl]
 exact Eq30_loop hl l.length 0 rfl
theorem tell_end {n X M} (R : Rel n X M) (s : ByteArray) (g k : Int) : roadlaw4_namesTell.j0 X X.rows_ (als X.rows_) g k k g M.Node M.Count M.Rows = some (true, M) := by
 have hl := R.le
 have la := als_len X.rows_
 unfold roadlaw4_namesTell.j0
 rw [if_pos rfl, if_pos rfl, State_val (by omega), Option.bind_some, Eq6 (by omega), Option.bind_some, if_pos rfl, All_val (by omega), Option.bind_some, Eq30 (by omega), Option.bind_some]
theorem tell_loop {n X M} (R : Rel n X M) (s : ByteArray) : ∀ (d i : Nat), d + i = X.rows_.length → roadlaw4_namesTell.l0 X M.Node M.Count M.Rows s (X.rows_.take i) (als (X.rows_.take i)) (X.rows_.map (·.Name)) (((X.rows_.map (·.Name)).length : Nat) : Int) (i : Int) = some (true, M)
 | 0, i, h => by
   rw [roadlaw4_namesTell.l0_eq, if_neg (by rw [List.length_map]; omega), List.take_of_length_le (by omega), Find_val R s, Option.bind_some, Word_val, Option.bind_some]
   by_cases w : wd s = true
   · rw [if_pos w, if_pos w]
     by_cases z : (pgd M.Rows s z0).Ref = 0
     · have z' : (pgd M.Rows s (T_roadref4_Meaning.mk 0 0 0)).Ref = 0 := z
       rw [if_pos z, if_pos z', z']
       exact tell_end R s 0 4
     · have z' : ¬ (pgd M.Rows s (T_roadref4_Meaning.mk 0 0 0)).Ref = 0 := z
       rw [if_neg z, if_neg z']
       exact tell_end R s _ 0
   · rw [if_neg w, if_neg w]
     have : (pgd M.Rows s (T_roadref4_Meaning.mk 0 0 0)).Ref = 0 := by
       unfold pgd
       rw [wd_not R (by simpa using w)]; rfl
     rw [this]
     exact tell_end R s 0 3
 | d + 1, i, h => by
   have hl := R.le
   have hi : i < X.rows_.length := by omega
   have ih := tell_loop R s d (i + 1) (by omega)
   have la := als_len (X.rows_.take i)
   rw [List.length_take] at la
   rw [List.take_succ_eq_append_getElem hi, als_snoc] at ih
   have g : pgd M.Rows X.rows_[i].Name (T_roadref4_Meaning.mk 0 0 0) = mean X.rows_[i] := by
     unfold pgd
     rw [R.sim.look (List.getElem_mem hi)]; rfl
   rw [roadlaw4_namesTell.l0_eq, if_pos (by rw [List.length_map]; omega), gi_some (k := i) (y := X.rows_[i].Name) rfl (by simp [hi]), Option.bind_some, g, ap_of (by simp; omega), Option.bind_some, w_succ (by omega)]
   have e : T_names_Row.mk X.rows_[i].Name (mean X.rows_[i]).Ref (mean X.rows_[i]).Count (mean X.rows_[i]).Node = X.rows_[i] := rfl
   rw [e]
   by_cases hr : X.rows_[i].Ref > 0
   · have hr' : (mean X.rows_[i]).Ref > 0 := hr
     rw [if_pos hr] at ih
     rw [if_pos hr', ap_of (by simp; omega), Option.bind_some]
     exact ih
   · have hr' : ¬ (mean X.rows_[i]).Ref > 0 := hr
     rw [if_neg hr, List.append_nil] at ih
     rw [if_neg hr']
     exact ih
theorem tell_val {n X M} (R : Rel n X M) (s : ByteArray) : roadlaw4_namesTell X M s = some (true, M) := by
 unfold roadlaw4_namesTell
 rw [Sorted_val R.sim (by have := R.le; omega), Option.bind_some]
 exact tell_loop R s X.rows_.length 0 rfl
theorem nan52 (x : Int) : cmp_isNaN_52 x = some false := by
 unfold cmp_isNaN_52
 simp
def cc (x y : Int) : Int := if x < y then -1 else if x > y then 1 else 0
theorem Compare_val (x y : Int) : cmp_Compare_39 x y = some (cc x y) := by
 unfold cmp_Compare_39 cc
 rw [nan52, nan52, Option.bind_some, Option.bind_some, if_neg (by decide), if_neg (by decide)]
 by_cases h : x < y
 · rw [if_pos h, if_pos h]
 · rw [if_neg h, if_neg h]
   by_cases k : x > y
   · rw [if_pos k, if_pos k]
   · rw [if_neg k, if_neg k]
theorem Or_val (a b c : Int) : cmp_Or_38 [a, b, c] = some (if a = 0 then if b = 0 then c else b else a) := by
 have w1 : IntKind.wrap .i64 (0 + 1) = 1 := by decide
 have w2 : IntKind.wrap .i64 (1 + 1) = 2 := by decide
 have w3 : IntKind.wrap .i64 (2 + 1) = 3 := by decide
 have e3 : cmp_Or_38.l0 0 [a, b, c] 3 3 = some 0 := by rw [cmp_Or_38.l0_eq, if_neg (by decide)]
 have e2 : cmp_Or_38.l0 0 [a, b, c] 3 2 = some c := by
   rw [cmp_Or_38.l0_eq, if_pos (by decide), show gi [a, b, c] 2 = some c from rfl, Option.bind_some, w3, e3]
   by_cases hc : c = 0
   · rw [if_pos hc, hc]
   · rw [if_neg hc]
 have e1 : cmp_Or_38.l0 0 [a, b, c] 3 1 = some (if b = 0 then c else b) := by
   rw [cmp_Or_38.l0_eq, if_pos (by decide), show gi [a, b, c] 1 = some b from rfl, Option.bind_some, w2, e2]
   by_cases hc : b = 0
   · rw [if_pos hc, if_pos hc]
   · rw [if_neg hc, if_neg hc]
 unfold cmp_Or_38
 show cmp_Or_38.l0 0 [a, b, c] 3 0 = _
 rw [cmp_Or_38.l0_eq, if_pos (by decide), show gi [a, b, c] 0 = some a from rfl, Option.bind_some, w1, e1]
 by_cases hc : a = 0
 · rw [if_pos hc, if_pos hc]
 · rw [if_neg hc, if_neg hc]
def cnts (m x : T_roadref4_Meaning) : Bool := if m.Count = x.Count then (if m.Node = x.Node then decide (x.Ref > m.Ref) else decide (x.Node > m.Node)) else decide (x.Count > m.Count)
theorem Counts_val (m x : T_roadref4_Meaning) : roadref4_Meaning_Counts m x = some (cnts m x) := by
 unfold roadref4_Meaning_Counts cnts
 by_cases h : m.Count = x.Count
 · rw [if_pos h, if_pos h]
   by_cases k : m.Node = x.Node
   · rw [if_pos k, if_pos k]
   · rw [if_neg k, if_neg k]
 · rw [if_neg h, if_neg h]
theorem order_val (a b : T_names_Row) : ∃ k, names_order a b = some k ∧ (k < 0 ↔ cnts (mean a) (mean b) = true) := by
 unfold names_order
 rw [Compare_val, Compare_val, Compare_val, Option.bind_some, Option.bind_some, Option.bind_some, Or_val, Option.bind_some]
 refine ⟨_, rfl, ?_⟩
 unfold cnts mean cc
 simp only
 by_cases h1 : a.Count < b.Count
 · have : ¬ a.Count = b.Count := by omega
   simp [h1, this]
 by_cases h2 : a.Count > b.Count
 · have : ¬ a.Count = b.Count := by omega
   simp [h1, h2, this]
 have e : a.Count = b.Count := by omega
 simp only [e, Int.lt_irrefl, gt_iff_lt, if_false, if_true]
 by_cases h3 : a.Node < b.Node
 · have : ¬ a.Node = b.Node := by omega
   simp [h3, this]
 by_cases h4 : a.Node > b.Node
 · have : ¬ a.Node = b.Node := by omega
   simp [h3, h4, this]
 have e2 : a.Node = b.Node := by omega
 simp only [e2, Int.lt_irrefl, gt_iff_lt, if_false, if_true]
 by_cases h5 : a.Ref < b.Ref
 · simp [h5]
 · by_cases h6 : a.Ref > b.Ref
   · simp [h5, h6]
   · simp [h5, h6]
theorem not_lt_or (a b : ByteArray) : (Op.bytesLess b.toList a.toList || decide (b = a)) = !lt a b := by
 show (lt b a || decide (b = a)) = !lt a b
 cases h : lt a b
 · cases k : lt b a
   · simp [lt_anti k h]
   · rfl
 · simp [lt_asym h, (lt_ne h).symm]
def okAt (l : List T_names_Row) (k : Nat) (hk : k < l.length) : Prop := wd l[k].Name = true ∧ 1 ≤ l[k].Count ∧ l[k].Count ≤ 1099511627776 ∧ ∀ h : 0 < k, lt (l[k - 1]'(by omega)).Name l[k].Name = true
theorem check_loop {l : List T_names_Row} (hl : l.length ≤ 1000) (a b : Int) (es : List (ByteArray × T_roadref4_Meaning)) : ∀ (d i : Nat), d + i = l.length →
   ∃ e, names_check.l0 l l (l.length : Int) (i : Int) = some e ∧ (e ≠ 0 → roadlaw4_merged.l0 a b es l l (l.length : Int) (i : Int) = some (e, ⟨a, b, es⟩)) ∧
     (e = 0 → roadlaw4_merged.l0 a b es l l (l.length : Int) (i : Int) = roadlaw4_merged.l1 a b es l 0 l (l.length : Int) 0 ∧ ∀ k, i ≤ k → ∀ hk : k < l.length, okAt l k hk)
 | 0, i, h => by
   refine ⟨0, ?_, fun e => absurd rfl e, fun _ => ⟨?_, fun k hk hk' => absurd hk' (by omega)⟩⟩
   · rw [names_check.l0_eq, if_neg (by omega)]
   · rw [roadlaw4_merged.l0_eq, if_neg (by omega)]
 | d + 1, i, h => by
   have hi : i < l.length := by omega
   obtain ⟨e, e1, e2, e3⟩ := check_loop hl a b es d (i + 1) (by omega)
   have fin : ∀ c : Int, c ≠ 0 → names_check.l0 l l (l.length : Int) (i : Int) = some c → roadlaw4_merged.l0 a b es l l (l.length : Int) (i : Int) = some (c, ⟨a, b, es⟩) →
       ∃ e, names_check.l0 l l (l.length : Int) (i : Int) = some e ∧ (e ≠ 0 → roadlaw4_merged.l0 a b es l l (l.length : Int) (i : Int) = some (e, ⟨a, b, es⟩)) ∧
     (e = 0 → roadlaw4_merged.l0 a b es l l (l.length : Int) (i : Int) = roadlaw4_merged.l1 a b es l 0 l (l.length : Int) 0 ∧ ∀ k, i ≤ k → ∀ hk : k < l.length, okAt l k hk) :=
     fun c hc h1 h2 => ⟨c, h1, fun _ => h2, fun h => absurd h hc⟩
   have q1 : ∀ c : Int, c ≠ 0 → True := fun _ _ => trivial
   by_cases w : wd l[i].Name = true
   case neg =>
     refine fin 3 (by decide) ?_ ?_
     · rw [names_check.l0_eq, if_pos (by omega), gi_at hi, Option.bind_some, word_val, Option.bind_some, if_neg w]
     · rw [roadlaw4_merged.l0_eq, if_pos (by omega), gi_at hi, Option.bind_some, Word_val, Option.bind_some, if_neg w]
   have s1 : names_check.l0 l l (l.length : Int) (i : Int) = if l[i].Ref < 0 then some 1 else if l[i].Count < 1 then some 1 else if l[i].Count > 1099511627776 then some 1 else if l[i].Node < 1 then some 1 else if l[i].Node > 8 then some 1 else names_check.j0 l (i : Int) l[i] l (l.length : Int) (i : Int) := by
     rw [names_check.l0_eq, if_pos (by omega), gi_at hi, Option.bind_some, word_val, Option.bind_some, if_pos w]
   have s2 : roadlaw4_merged.l0 a b es l l (l.length : Int) (i : Int) = if l[i].Ref < 0 then some (1, ⟨a, b, es⟩) else if l[i].Count < 1 then some (1, ⟨a, b, es⟩) else if l[i].Count > 1099511627776 then some (1, ⟨a, b, es⟩) else if l[i].Node < 1 then some (1, ⟨a, b, es⟩) else roadlaw4_merged.j1 a b es l (i : Int) l[i] l (l.length : Int) (i : Int) (decide (l[i].Node > 8)) := by
     have j1 : roadlaw4_merged.j1 a b es l (i : Int) l[i] l (l.length : Int) (i : Int) true = some (1, ⟨a, b, es⟩) := by rw [roadlaw4_merged.j1_eq, if_pos rfl]
     rw [roadlaw4_merged.l0_eq, if_pos (by omega), gi_at hi, Option.bind_some, Word_val, Option.bind_some, if_pos w, j1]
   by_cases c1 : l[i].Ref < 0
   · rw [if_pos c1] at s1 s2; exact fin 1 (by decide) s1 s2
   rw [if_neg c1] at s1 s2
   by_cases c2 : l[i].Count < 1
   · rw [if_pos c2] at s1 s2; exact fin 1 (by decide) s1 s2
   rw [if_neg c2] at s1 s2
   by_cases c3 : l[i].Count > 1099511627776
   · rw [if_pos c3] at s1 s2; exact fin 1 (by decide) s1 s2
   rw [if_neg c3] at s1 s2
   by_cases c4 : l[i].Node < 1
   · rw [if_pos c4] at s1 s2; exact fin 1 (by decide) s1 s2
   rw [if_neg c4] at s1 s2
   by_cases c5 : l[i].Node > 8
   · rw [if_pos c5] at s1; rw [decide_eq_true c5, roadlaw4_merged.j1_eq, if_pos rfl] at s2; exact fin 1 (by decide) s1 s2
   rw [if_neg c5] at s1
   rw [decide_eq_false c5, roadlaw4_merged.j1_eq] at s2
   simp only [Bool.false_eq_true, if_false] at s2
   rw [names_check.j0_eq] at s1
   by_cases h0 : 0 < i
   · have hp : i - 1 < l.length := by omega
     have ew : IntKind.wrap .i64 ((i : Int) - 1) = ((i - 1 : Nat) : Int) := by rw [wrap_in (by omega) (by omega)]; omega
     rw [if_pos (show ((i : Nat) : Int) > 0 by omega), ew, gi_at hp, Option.bind_some] at s1 s2
     rw [not_lt_or] at s2
     by_cases o : lt l[i - 1].Name l[i].Name = true
     · have o' : Op.bytesLess (ByteArray.toList l[i - 1].Name) (ByteArray.toList l[i].Name) = true := o
       rw [if_pos o', w_succ (by omega)] at s1
       rw [o, if_neg (by decide), w_succ (by omega)] at s2
       refine ⟨e, s1.trans e1, fun he => s2.trans (e2 he), fun he => ⟨s2.trans (e3 he).1, fun k hk hk' => ?_⟩⟩
       by_cases k1 : k = i
       · subst k1; exact ⟨w, by omega, by omega, fun _ => o⟩
       · exact (e3 he).2 k (by omega) hk'
     · have o' : ¬ Op.bytesLess (ByteArray.toList l[i - 1].Name) (ByteArray.toList l[i].Name) = true := o
       rw [if_neg o'] at s1
       rw [if_pos (by simpa using o)] at s2
       exact fin 21 (by decide) s1 s2
   · rw [if_neg (show ¬ ((i : Nat) : Int) > 0 by omega), w_succ (by omega)] at s1 s2
     refine ⟨e, s1.trans e1, fun he => s2.trans (e2 he), fun he => ⟨s2.trans (e3 he).1, fun k hk hk' => ?_⟩⟩
     by_cases k1 : k = i
     · subst k1; exact ⟨w, by omega, by omega, fun h => absurd h h0⟩
     · exact (e3 he).2 k (by omega) hk'
theorem ok_St {l : List T_names_Row} (h : ∀ k, ∀ hk : k < l.length, okAt l k hk) : St l := by
 unfold St
 rw [List.pairwise_iff_getElem]
 intro i j hi hj hij
 induction j with
 | zero => omega
 | succ j ih =>
   have o : lt l[j].Name l[j + 1].Name = true := (h (j + 1) hj).2.2.2 (by omega)
   by_cases e : i = j
   · subst e; exact o
   · exact lt_tr (ih (by omega) (by omega)) o
def cntA (es : List (ByteArray × T_roadref4_Meaning)) (l : List T_names_Row) : Nat := (l.filter fun r => (pget es r.Name).isNone).length
theorem cntA_cons (es) (r : T_names_Row) (l : List T_names_Row) : cntA es (r :: l) = (if (pget es r.Name).isNone = true then 1 else 0) + cntA es l := by
 unfold cntA
 by_cases h : (pget es r.Name).isNone = true
 · rw [if_pos h, List.filter_cons_of_pos (p := fun r : T_names_Row => (pget es r.Name).isNone) h, List.length_cons]; omega
 · rw [if_neg h, List.filter_cons_of_neg (p := fun r : T_names_Row => (pget es r.Name).isNone) h]; omega
theorem more_loop {l : List T_names_Row} (hl : l.length ≤ 1000) (a b : Int) (es : List (ByteArray × T_roadref4_Meaning)) (he : es.length ≤ 1000) : ∀ (d i m : Nat), d + i = l.length → m ≤ i →
   roadlaw4_merged.l1 a b es l (m : Int) l (l.length : Int) (i : Int) = if es.length + (m + cntA es (l.drop i)) > 60 then some (6, ⟨a, b, es⟩) else roadlaw4_merged.l2 a b es l (l.length : Int) 0
 | 0, i, m, h, hm => by
   have e : cntA es (l.drop i) = 0 := by rw [List.drop_of_length_le (by omega)]; rfl
   rw [roadlaw4_merged.l1_eq, if_neg (by omega), wrap_in (by omega) (by omega), e]
   by_cases c : es.length + (m + 0) > 60
   · rw [if_pos c, if_pos (by omega)]
   · rw [if_neg c, if_neg (by omega)]
 | d + 1, i, m, h, hm => by
   have hi : i < l.length := by omega
   rw [roadlaw4_merged.l1_eq, if_pos (by omega), gi_at hi, Option.bind_some, roadlaw4_merged.j0_eq, List.drop_eq_getElem_cons hi, cntA_cons, w_succ (by omega)]
   cases g : pget es l[i].Name with
   | none =>
     simp only [Option.isSome_none, Option.isNone_none, Bool.false_eq_true, if_false, if_true]
     rw [w_succ (by omega), more_loop hl a b es he d (i + 1) (m + 1) (by omega) (by omega)]
     have : m + 1 + cntA es (l.drop (i + 1)) = m + (1 + cntA es (l.drop (i + 1))) := by omega
     rw [this]
   | some v =>
     simp only [Option.isSome_some, Option.isNone_some, Bool.false_eq_true, if_false, if_true]
     rw [more_loop hl a b es he d (i + 1) m (by omega) (by omega)]
     have : m + cntA es (l.drop (i + 1)) = m + (0 + cntA es (l.drop (i + 1))) := by omega
     rw [this]
theorem cntA_set (es) (k : ByteArray) (v) {l : List T_names_Row} (h : ∀ r ∈ l, k ≠ r.Name) : cntA (pset es k v) l = cntA es l := by
 unfold cntA
 congr 1
 refine List.filter_congr fun r hr => ?_
 rw [pget_pset, if_neg (fun e => h r hr e.symm)]
def step (es : List (ByteArray × T_roadref4_Meaning)) (r : T_names_Row) : List (ByteArray × T_roadref4_Meaning) :=
 match pget es r.Name with
 | none => pset es r.Name (mean r)
 | some m => if cnts m (mean r) = true then pset es r.Name (mean r) else es
def mx (r : T_names_Row) (c : Int) : Int := if r.Count > c then r.Count else c
theorem l2_step {l : List T_names_Row} (hl : l.length ≤ 1000) (a c : Int) (es : List (ByteArray × T_roadref4_Meaning)) {i : Nat} (hi : i < l.length) : roadlaw4_merged.l2 a c es l (l.length : Int) (i : Int) = roadlaw4_merged.l2 a (mx l[i] c) (step es l[i]) l (l.length : Int) ((i + 1 : Nat) : Int) := by
 rw [roadlaw4_merged.l2_eq, if_pos (by omega), gi_at hi, Option.bind_some, roadlaw4_merged.j3_eq]
 have e2 : ∀ es', roadlaw4_merged.j2 a c es' l[i] l (l.length : Int) (i : Int) = roadlaw4_merged.l2 a (mx l[i] c) es' l (l.length : Int) ((i + 1 : Nat) : Int) := fun es' => by
   rw [roadlaw4_merged.j2_eq, w_succ (by omega)]; rfl
 have e4 : ∀ b : Bool, roadlaw4_merged.j4 a c es l[i] (mean l[i]) l (l.length : Int) (i : Int) b = roadlaw4_merged.l2 a (mx l[i] c) (if b = true then pset es l[i].Name (mean l[i]) else es) l (l.length : Int) ((i + 1 : Nat) : Int) := fun b => by
   rw [roadlaw4_merged.j4_eq]
   cases b
   · rw [if_neg (by decide), if_neg (by decide), e2]
   · rw [if_pos rfl, if_pos rfl, Option.bind_some, e2]
 have hm : T_roadref4_Meaning.mk l[i].Ref l[i].Count l[i].Node = mean l[i] := rfl
 unfold step pgd
 rw [hm]
 cases g : pget es l[i].Name with
 | none =>
   simp only [Option.isSome_none, Bool.false_eq_true, if_false]
   rw [e4, if_pos rfl]
 | some m =>
   simp only [Option.isSome_some, if_true, Option.getD_some]
   rw [Counts_val, Option.bind_some, e4]
theorem merge_loop {l : List T_names_Row} (hl : l.length ≤ 60) (ok : ∀ k, ∀ hk : k < l.length, okAt l k hk) (so : St l) (a xn xc : Int) (rows : List T_names_Row) : ∀ (d i : Nat), d + i = l.length →
   ∀ (out : List T_names_Row) (es : List (ByteArray × T_roadref4_Meaning)) (c : Int), Sim out es → (∀ r ∈ out, wd r.Name = true) → 0 ≤ c → c ≤ 1099511627776 → out.length ≤ 60 + i →
   ∃ out' es' c', Sim out' es' ∧ (∀ r ∈ out', wd r.Name = true) ∧ 0 ≤ c' ∧ c' ≤ 1099511627776 ∧ es'.length = es.length + cntA es (l.drop i) ∧
     names_Names_Merge.l0 xn xc rows out c l (l.length : Int) (i : Int) = some (if out'.length > 60 then (6, ⟨xn, xc, rows⟩) else (0, ⟨xn, c', out'⟩)) ∧
     roadlaw4_merged.l2 a c es l (l.length : Int) (i : Int) = some (0, ⟨a, c', es'⟩)
 | 0, i, h, out, es, c, S, ws, h0, h1, ho => by
   refine ⟨out, es, c, S, ws, h0, h1, by rw [List.drop_of_length_le (by omega)]; rfl, ?_, by rw [roadlaw4_merged.l2_eq, if_neg (by omega)]⟩
   rw [names_Names_Merge.l0_eq, if_neg (by omega)]
   by_cases k : out.length > 60
   · rw [if_pos (by omega), if_pos k]
   · rw [if_neg (by omega), if_neg k]
 | d + 1, i, h, out, es, c, S, ws, h0, h1, ho => by
   have hi : i < l.length := by omega
   have okI := ok i hi
   have m0 : 0 ≤ mx l[i] c := by unfold mx; split <;> omega
   have m1 : mx l[i] c ≤ 1099511627776 := by
     have := okI.2.2.1
     unfold mx; split <;> omega
   have dist : ∀ r ∈ l.drop (i + 1), l[i].Name ≠ r.Name := by
     intro r hr
     obtain ⟨q, hq, rfl⟩ := List.mem_iff_getElem.1 hr
     rw [List.length_drop] at hq
     rw [List.getElem_drop]
     exact lt_ne (List.pairwise_iff_getElem.1 so i (i + 1 + q) hi (by omega) (by omega))
   -- the step of both
   have key : ∃ out2, Sim out2 (step es l[i]) ∧ (∀ r ∈ out2, wd r.Name = true) ∧ out2.length ≤ out.length + 1 ∧ (step es l[i]).length = es.length + (if (pget es l[i].Name).isNone = true then 1 else 0) ∧ cntA (step es l[i]) (l.drop (i + 1)) = cntA es (l.drop (i + 1)) ∧
       names_Names_Merge.l0 xn xc rows out c l (l.length : Int) (i : Int) = names_Names_Merge.l0 xn xc rows out2 (mx l[i] c) l (l.length : Int) ((i + 1 : Nat) : Int) := by
     obtain ⟨pre, post, C, e⟩ := bs_val (p := fun z28 z29 => names_Names_Merge_1 z28 z29) (s := l[i].Name) (fun r => merge1_val r _) S.so (by omega : out.length ≤ 1000000)
     have e0 : names_Names_Merge.l0 xn xc rows out c l (l.length : Int) (i : Int) = (if hasH l[i].Name post = true then (Option.bind (gi out (pre.length : Int)) fun y39 => Option.bind (names_order y39 l[i]) fun y46 => if y46 < 0 then (Option.bind (gi out (pre.length : Int)) fun y53 => Option.bind (some (List.set out (Int.toNat (pre.length : Int)) l[i])) fun l62 => names_Names_Merge.l0 xn xc rows l62 (mx l[i] c) l (l.length : Int) ((i + 1 : Nat) : Int)) else names_Names_Merge.l0 xn xc rows out (mx l[i] c) l (l.length : Int) ((i + 1 : Nat) : Int)) else Option.bind (slices_Insert_26 out (pre.length : Int) [l[i]]) fun y72 => names_Names_Merge.l0 xn xc rows y72 (mx l[i] c) l (l.length : Int) ((i + 1 : Nat) : Int)) := by
       rw [names_Names_Merge.l0_eq, if_pos (by omega), gi_at hi, Option.bind_some, e, Option.bind_some, w_succ (by omega)]; rfl
     rw [e0]
     have ce := C.eq
     subst ce
     by_cases hh : hasH l[i].Name post = true
     · obtain ⟨r, q, rfl, hr⟩ := C.some hh
       have g : pget es l[i].Name = some (mean r) := by rw [← hr]; exact S.look (by simp)
       have gg : gi (pre ++ r :: q) (pre.length : Int) = some r := gi_some (k := pre.length) rfl (by simp)
       obtain ⟨k, k1, k2⟩ := order_val r l[i]
       rw [if_pos hh, gg, Option.bind_some, k1, Option.bind_some]
       unfold step
       rw [g]
       simp only [Option.isNone_some, Bool.false_eq_true, if_false, Nat.add_zero]
       by_cases cn : cnts (mean r) (mean l[i]) = true
       · rw [if_pos (k2.2 cn), if_pos cn, Option.bind_some, Option.bind_some]
         obtain ⟨S', SL⟩ := S.upd (r' := l[i]) hr.symm
         rw [hr] at S' SL
         refine ⟨pre ++ l[i] :: q, S', ?_, by simp, SL, cntA_set _ _ _ dist, ?_⟩
         · intro x hx
           rcases List.mem_append.1 hx with hx | hx
           · exact ws x (List.mem_append.2 (.inl hx))
           · rcases List.mem_cons.1 hx with rfl | hx
             · exact okI.1
             · exact ws x (List.mem_append.2 (.inr (List.mem_cons_of_mem _ hx)))
         · congr 1
           simp
       · rw [if_neg (fun h => cn (k2.1 h)), if_neg cn]
         exact ⟨_, S, ws, by omega, rfl, rfl, rfl⟩
     · have h' : hasH l[i].Name post = false := by simpa using hh
       obtain ⟨S', SL, g⟩ := S.ins (r' := l[i]) C h'
       rw [if_neg hh]
       unfold slices_Insert_26
       rw [if_pos (show (0 ≤ ((pre.length : Nat) : Int) ∧ ((pre.length : Nat) : Int) ≤ (((pre ++ post).length : Nat) : Int)) ∧ ((pre ++ post).length + [l[i]].length) * 40 ≤ 140737488355328 from ⟨⟨by omega, by simp; omega⟩, by simp only [List.length_append, List.length_cons, List.length_nil] at ho ⊢; omega⟩), Option.bind_some]
       unfold step
       rw [g]
       simp only [Option.isNone_none, if_true]
       refine ⟨pre ++ l[i] :: post, S', ?_, by simp; omega, SL, cntA_set _ _ _ dist, ?_⟩
       · intro x hx
         rcases List.mem_append.1 hx with hx | hx
         · exact ws x (List.mem_append.2 (.inl hx))
         · rcases List.mem_cons.1 hx with rfl | hx
           · exact okI.1
           · exact ws x (List.mem_append.2 (.inr hx))
       · congr 1
         simp
   obtain ⟨out2, S2, w2, l2, n2, c2, e2⟩ := key
   obtain ⟨o3, e3, c3, S3, w3, z3, y3, n3, x3, m3⟩ := merge_loop hl ok so a xn xc rows d (i + 1) (by omega) out2 (step es l[i]) (mx l[i] c) S2 w2 m0 m1 (by omega)
   refine ⟨o3, e3, c3, S3, w3, z3, y3, ?_, by rw [e2, x3], by rw [l2_step (by omega) a c es hi, m3]⟩
   rw [n3, n2, c2, List.drop_eq_getElem_cons hi, cntA_cons]
   omega
theorem merge_rel {n X M} (R : Rel n X M) (l : List T_names_Row) : ∃ k X' M', names_Names_Merge X l = some (k, X') ∧ roadlaw4_merged M l = some (k, M') ∧ Rel n X' M' := by
 obtain ⟨xn, xc, rows⟩ := X
 obtain ⟨mn, mc, es⟩ := M
 have rc : mc = xc := R.ct
 subst rc
 have r0 : 0 ≤ mc := R.c0
 have r1 : mc ≤ 1099511627776 := R.c1
 have rl : rows.length ≤ 60 := R.le
 have rs : Sim rows es := R.sim
 have rw' : ∀ r ∈ rows, wd r.Name = true := R.wds
 have sl := rs.len
 unfold names_Names_Merge roadlaw4_merged names_check
 by_cases hl : l.length > 60
 · rw [if_pos (by omega), if_pos (by omega), Option.bind_some, if_neg (by decide)]
   exact ⟨_, _, _, rfl, rfl, R⟩
 rw [if_neg (by omega), if_neg (by omega)]
 obtain ⟨e, e1, e2, e3⟩ := check_loop (l := l) (by omega) mn mc es l.length 0 rfl
 have e1' : names_check.l0 l l (l.length : Int) 0 = some e := e1
 rw [e1', Option.bind_some]
 by_cases he : e = 0
 · obtain ⟨e4, ok⟩ := e3 he
   have e4' : roadlaw4_merged.l0 mn mc es l l (l.length : Int) 0 = _ := e4
   have ok' : ∀ k, ∀ hk : k < l.length, okAt l k hk := fun k hk => ok k (by omega) hk
   rw [if_pos he, e4']
   unfold slices_Clone_18
   rw [ap_of (by simp; omega), Option.bind_some, List.nil_append]
   have ml := more_loop (l := l) (by omega) mn mc es (by omega) l.length 0 0 rfl (by omega)
   have ml' : roadlaw4_merged.l1 mn mc es l 0 l (l.length : Int) 0 = _ := ml
   rw [ml', Nat.zero_add, List.drop_zero]
   obtain ⟨out', es', c', S, ws, z1, z2, z3, z4, z5⟩ := merge_loop (l := l) (by omega) ok' (ok_St ok') mn xn mc rows l.length 0 rfl rows es mc rs rw' r0 r1 (by omega)
   have z4' : names_Names_Merge.l0 xn mc rows rows mc l (l.length : Int) 0 = _ := z4
   have z5' : roadlaw4_merged.l2 mn mc es l (l.length : Int) 0 = _ := z5
   have ol := S.len
   rw [List.drop_zero] at z3
   rw [z4', z5']
   by_cases o : out'.length > 60
   · rw [if_pos o, if_pos (by omega)]
     exact ⟨_, _, _, rfl, rfl, R⟩
   · rw [if_neg o, if_neg (by omega)]
     exact ⟨_, _, _, rfl, rfl, ⟨R.nd, rfl, z1, z2, by simp only; omega, S, ws⟩⟩
 · rw [if_neg he]
   have e2' : roadlaw4_merged.l0 mn mc es l l (l.length : Int) 0 = _ := e2 he
   rw [e2']
   exact ⟨_, _, _, rfl, rfl, R⟩
theorem wu64 (x : Int) : IntKind.wrap .u64 x = x % 18446744073709551616 := rfl
theorem pick8 {a : List ByteArray} (ha : a.length ≤ 8796093022208) (k : Int) : ∃ b, roadlaw4_pick_8 a k = some b := by
 unfold roadlaw4_pick_8
 by_cases h : (a.length : Int) = 0
 · rw [if_pos h]; exact ⟨_, rfl⟩
 rw [if_neg h, wu64, wu64, if_pos (by omega)]
 have e : (a.length : Int) % 18446744073709551616 = a.length := by omega
 rw [e]
 have h1 := Int.tmod_nonneg (a.length : Int) (show 0 ≤ k % 18446744073709551616 by omega)
 have h2 := Int.tmod_lt_of_pos (k % 18446744073709551616) (show (0 : Int) < a.length by omega)
 rw [wrap_in (by omega) (by omega)]
 obtain ⟨n, hn⟩ : ∃ n : Nat, (k % 18446744073709551616).tmod (a.length : Int) = n := ⟨((k % 18446744073709551616).tmod (a.length : Int)).toNat, by omega⟩
 rw [hn, gi_at (by omega)]
 exact ⟨_, rfl⟩
theorem pick12 {a : List (List T_names_Row)} (ha : a.length ≤ 8796093022208) (k : Int) : ∃ b, roadlaw4_pick_12 a k = some b := by
 unfold roadlaw4_pick_12
 by_cases h : (a.length : Int) = 0
 · rw [if_pos h]; exact ⟨_, rfl⟩
 rw [if_neg h, wu64, wu64, if_pos (by omega)]
 have e : (a.length : Int) % 18446744073709551616 = a.length := by omega
 rw [e]
 have h1 := Int.tmod_nonneg (a.length : Int) (show 0 ≤ k % 18446744073709551616 by omega)
 have h2 := Int.tmod_lt_of_pos (k % 18446744073709551616) (show (0 : Int) < a.length by omega)
 rw [wrap_in (by omega) (by omega)]
 obtain ⟨n, hn⟩ : ∃ n : Nat, (k % 18446744073709551616).tmod (a.length : Int) = n := ⟨((k % 18446744073709551616).tmod (a.length : Int)).toNat, by omega⟩
 rw [hn, gi_at (by omega)]
 exact ⟨_, rfl⟩
theorem at_some (c : List Int) (k : Nat) : ∃ x, roadlaw4_at c (k : Int) = some x := by
 unfold roadlaw4_at
 by_cases h : (k : Int) < (c.length : Int)
 · rw [if_pos h, gi_at (by omega)]; exact ⟨_, rfl⟩
 · rw [if_neg h]; exact ⟨_, rfl⟩
section
variable {n : Int} {ws : List ByteArray} {told : List (List T_names_Row)} {plays : List (List Int)}
def Rest (n : Int) (ws : List ByteArray) (told : List (List T_names_Row)) (plays : List (List Int)) (i : Nat) : Prop :=
 ∀ X M, Rel n X M → roadlaw4_NamesPlay.l0 n ws told X.node_ X.count_ X.rows_ M.Node M.Count M.Rows plays (plays.length : Int) ((i : Nat) : Int) = some true
theorem j4_val {i : Nat} (hi : i < 9223372036854775807) (ih : Rest n ws told plays (i + 1)) {X M} (R : Rel n X M) (s : ByteArray) :
   roadlaw4_NamesPlay.j4 n ws told X.node_ X.count_ X.rows_ M.Node M.Count M.Rows s plays (plays.length : Int) (i : Int) = some true := by
 rw [roadlaw4_NamesPlay.j4_eq]
 have e : roadlaw4_namesTell (T_names_Names.mk X.node_ X.count_ X.rows_) (T_roadref4_Names.mk M.Node M.Count M.Rows) s = some (true, M) := tell_val R s
 rw [e, Option.bind_some, if_pos rfl, w_succ hi]
 exact ih X M R
theorem j7_val {i : Nat} (hi : i < 9223372036854775807) (ih : Rest n ws told plays (i + 1)) {X M} (R : Rel n X M) (s : ByteArray) (k : Int) :
   roadlaw4_NamesPlay.j7 n ws told X.node_ X.count_ X.rows_ M.Node M.Count M.Rows s k k plays (plays.length : Int) (i : Int) = some true := by
 rw [roadlaw4_NamesPlay.j7_eq, if_pos rfl]
 exact j4_val hi ih R s
theorem j9_val {i : Nat} (hi : i < 9223372036854775807) (ih : Rest n ws told plays (i + 1)) {X' M} {s : ByteArray} {ref : Int} {k : Int} (h1 : M.Count ≤ 1099511627776) (h0 : 0 ≤ M.Count) (hk : k = (doM n M s ref).1) (R : Rel n X' (doM n M s ref).2) :
   roadlaw4_NamesPlay.j9 n ws told X'.node_ X'.count_ X'.rows_ M.Node M.Count M.Rows s ref (Option.isSome (pget M.Rows s)) k 0 plays (plays.length : Int) (i : Int) false = some true := by
 rw [roadlaw4_NamesPlay.j9_eq, if_neg (by decide)]
 subst hk
 unfold doM at R ⊢
 have e10 : (if pget M.Rows s = none ∧ M.Rows.length = 60 then (6, M) else if M.Count = 1099511627776 then (2, M) else (0, ⟨M.Node, M.Count + 1, pset M.Rows s ⟨ref, M.Count + 1, n⟩⟩) : Int × T_roadref4_Names) = doM n M s ref := rfl
 have t10 : ∀ b : Bool, (b = true ↔ (pget M.Rows s = none ∧ M.Rows.length = 60)) → roadlaw4_NamesPlay.j10 n ws told X'.node_ X'.count_ X'.rows_ M.Node M.Count M.Rows s ref (if pget M.Rows s = none ∧ M.Rows.length = 60 then (6, M) else if M.Count = 1099511627776 then (2, M) else (0, ⟨M.Node, M.Count + 1, pset M.Rows s ⟨ref, M.Count + 1, n⟩⟩) : Int × T_roadref4_Names).1 0 plays (plays.length : Int) (i : Int) b = some true := by
   intro b hb
   rw [roadlaw4_NamesPlay.j10_eq]
   by_cases c : pget M.Rows s = none ∧ M.Rows.length = 60
   · rw [if_pos (hb.2 c)]
     rw [if_pos c] at R ⊢
     exact j7_val hi ih R s 6
   · rw [if_neg (fun h => c (hb.1 h))]
     rw [if_neg c] at R ⊢
     by_cases d : M.Count = 1099511627776
     · rw [if_pos d] at R ⊢
       rw [if_pos d]
       exact j7_val hi ih R s 2
     · rw [if_neg d] at R ⊢
       rw [if_neg d, Option.bind_some, wrap_in (by omega) (by omega)]
       exact j7_val hi ih R s 0
 cases g : pget M.Rows s with
 | none =>
   rw [g] at t10
   rw [if_neg (by simp)]
   refine t10 _ ?_
   simp only [true_and, beq_iff_eq]
   omega
 | some v =>
   rw [g] at t10
   rw [if_pos (by simp)]
   refine t10 false ?_
   simp
theorem plays_val (hp : plays.length ≤ 8796093022208) (hw : ws.length ≤ 8796093022208) (ht : told.length ≤ 8796093022208) : ∀ (d i : Nat), d + i = plays.length → Rest n ws told plays i
 | 0, i, h => fun X M R => by rw [roadlaw4_NamesPlay.l0_eq, if_neg (by omega)]
 | d + 1, i, h => fun X M R => by
   have hi : i < plays.length := by omega
   have ih := plays_val hp hw ht d (i + 1) (by omega)
   have hi' : i < 9223372036854775807 := by omega
   obtain ⟨k0, a0⟩ := at_some plays[i] 0
   obtain ⟨k1, a1⟩ := at_some plays[i] 1
   obtain ⟨k2, a2⟩ := at_some plays[i] 2
   obtain ⟨s, hs⟩ := pick8 hw k1
   have a0' : roadlaw4_at plays[i] 0 = some k0 := a0
   have a1' : roadlaw4_at plays[i] 1 = some k1 := a1
   have a2' : roadlaw4_at plays[i] 2 = some k2 := a2
   have c0 : 0 ≤ M.Count := by rw [R.ct]; exact R.c0
   have c1 : M.Count ≤ 1099511627776 := by rw [R.ct]; exact R.c1
   have j6 : ∀ (X' : T_names_Names) (ref : Int) (k : Int) (F : Int × T_roadref4_Names), k0 = 1 ∨ (k0 = 2 ∧ ref = 0) → F = (if wd s = true then (if (k0 = 1 ∧ ref < 1) then (1, M) else if (k0 = 2 ∧ (pgd M.Rows s z0).Ref = 0) then (4, M) else doM n M s ref) else (3, M)) → k = F.1 → Rel n X' F.2 →
       roadlaw4_NamesPlay.j6 n ws told X'.node_ X'.count_ X'.rows_ M.Node M.Count M.Rows plays[i] s ref (pgd M.Rows s z0) (Option.isSome (pget M.Rows s)) k 0 plays (plays.length : Int) (i : Int) = some true := by
     intro X' ref k F hk0 hF hk R'
     rw [roadlaw4_NamesPlay.j6_eq, Word_val, Option.bind_some]
     by_cases w : wd s = true
     · rw [if_pos w] at hF
       rw [if_pos w, a0', Option.bind_some]
       have t9 : ¬ (k0 = 1 ∧ ref < 1) → roadlaw4_NamesPlay.j8 n ws told X'.node_ X'.count_ X'.rows_ M.Node M.Count M.Rows plays[i] s ref (pgd M.Rows s z0) (Option.isSome (pget M.Rows s)) k 0 plays (plays.length : Int) (i : Int) false = some true := by
         intro hn
         rw [if_neg hn] at hF
         rw [roadlaw4_NamesPlay.j8_eq, if_neg (by decide), a0', Option.bind_some]
         by_cases h2 : k0 = 2
         · rw [if_pos h2]
           by_cases z : (pgd M.Rows s z0).Ref = 0
           · rw [if_pos ⟨h2, z⟩] at hF
             subst hF; subst hk
             rw [roadlaw4_NamesPlay.j9_eq, if_pos (by simp [z])]
             exact j7_val hi' ih R' s 4
           · rw [if_neg (fun h => z h.2)] at hF
             subst hF
             rw [show ((pgd M.Rows s z0).Ref == 0) = false by simpa using z]
             exact j9_val hi' ih c1 c0 hk R'
         · rw [if_neg h2]
           rw [if_neg (fun h => h2 h.1)] at hF
           subst hF
           exact j9_val hi' ih c1 c0 hk R'
       by_cases h1 : k0 = 1
       · rw [if_pos h1]
         by_cases r1 : ref < 1
         · rw [if_pos ⟨h1, r1⟩] at hF
           subst hF; subst hk
           rw [decide_eq_true r1, roadlaw4_NamesPlay.j8_eq, if_pos rfl]
           exact j7_val hi' ih R' s 1
         · rw [decide_eq_false r1]
           exact t9 fun h => r1 h.2
       · rw [if_neg h1]
         exact t9 fun h => h1 h.1
     · rw [if_neg w] at hF
       subst hF; subst hk
       rw [if_neg w]
       exact j7_val hi' ih R' s 3
   have hz : T_roadref4_Meaning.mk 0 0 0 = z0 := rfl
   rw [roadlaw4_NamesPlay.l0_eq, if_pos (by omega), gi_at hi, Option.bind_some, a1', Option.bind_some, hs, Option.bind_some, a2', Option.bind_some, a0', Option.bind_some, hz]
   have setC : k0 = 1 → roadlaw4_NamesPlay.j5 n ws told X.node_ X.count_ X.rows_ M.Node M.Count M.Rows plays[i] s k2 (pgd M.Rows s z0) (Option.isSome (pget M.Rows s)) plays (plays.length : Int) (i : Int) k0 true = some true := by
     intro h1
     rw [roadlaw4_NamesPlay.j5_eq, if_pos rfl, a0', Option.bind_some, if_pos h1]
     obtain ⟨X', e, R'⟩ := Set_val R s k2
     have e' : names_Names_Set (T_names_Names.mk X.node_ X.count_ X.rows_) s k2 = _ := e
     rw [e', Option.bind_some]
     refine j6 X' k2 _ _ (.inl h1) ?_ rfl R'
     by_cases w : wd s = true
     · rw [if_pos w, if_pos w]
       by_cases r1 : k2 < 1
       · rw [if_pos r1, if_pos ⟨h1, r1⟩]
       · rw [if_neg r1, if_neg (fun h => r1 h.2), if_neg (fun h => by omega)]
     · rw [if_neg w, if_neg w]
   have dropC : k0 = 2 → roadlaw4_NamesPlay.j5 n ws told X.node_ X.count_ X.rows_ M.Node M.Count M.Rows plays[i] s k2 (pgd M.Rows s z0) (Option.isSome (pget M.Rows s)) plays (plays.length : Int) (i : Int) k0 true = some true := by
     intro h2
     rw [roadlaw4_NamesPlay.j5_eq, if_pos rfl, a0', Option.bind_some, if_neg (by omega)]
     obtain ⟨X', e, R'⟩ := Drop_val R s
     have e' : names_Names_Drop (T_names_Names.mk X.node_ X.count_ X.rows_) s = _ := e
     rw [e', Option.bind_some]
     refine j6 X' 0 _ _ (.inr ⟨h2, rfl⟩) ?_ rfl R'
     by_cases w : wd s = true
     · rw [if_pos w, if_pos w, if_neg (show ¬ (k0 = 1 ∧ (0 : Int) < 1) from fun h => by omega)]
       by_cases z : (pgd M.Rows s z0).Ref = 0
       · rw [if_pos z, if_pos ⟨h2, z⟩]
       · rw [if_neg z, if_neg (fun h => z h.2)]
     · rw [if_neg w, if_neg w]
   by_cases h1 : k0 = 1
   · rw [if_pos h1, show (k0 == 1) = true by simp [h1]]
     exact setC h1
   rw [if_neg h1]
   by_cases h2 : k0 = 2
   · rw [show (k0 == 2) = true by simp [h2]]
     exact dropC h2
   rw [show (k0 == 2) = false by simpa using h2, roadlaw4_NamesPlay.j5_eq, if_neg (by decide)]
   by_cases h3 : k0 = 3
   · rw [if_pos h3, a1', Option.bind_some]
     obtain ⟨l, hl⟩ := pick12 ht k1
     rw [hl, Option.bind_some]
     obtain ⟨k, X', M', e1, e2, R'⟩ := merge_rel R l
     have e1' : names_Names_Merge (T_names_Names.mk X.node_ X.count_ X.rows_) l = _ := e1
     have e2' : roadlaw4_merged (T_roadref4_Names.mk M.Node M.Count M.Rows) l = _ := e2
     rw [e1', Option.bind_some, e2', Option.bind_some, if_pos rfl]
     exact j4_val hi' ih R' s
   · rw [if_neg h3]
     exact j4_val hi' ih R s
end
theorem Rel.start (n : Int) : Rel n ⟨n, 0, []⟩ ⟨n, 0, []⟩ := ⟨rfl, rfl, Int.le_refl 0, show (0 : Int) ≤ 1099511627776 by decide, Nat.zero_le 60, ⟨.nil, .nil⟩, fun _ h => by cases h⟩
theorem New_val (n : Int) : names_New n = some (if n < 1 ∨ n > 8 then (none, 1) else (some ⟨n, 0, []⟩, 0)) := by
 unfold names_New names_New.j1 names_New.j0
 by_cases h : n < 1
 · rw [if_pos h, if_pos rfl, if_pos (.inl h)]
 · rw [if_neg h]
   by_cases k : n > 8
   · rw [if_pos (by simp [k]), if_pos (.inr k)]
   · rw [if_neg (by simp [k]), if_neg (by omega)]
theorem NamesPlay (x0 : Int) (plays : List (List Int)) (ws : List ByteArray) (told : List (List T_names_Row)) (q0 : -9223372036854775808 ≤ x0 ∧ x0 ≤ 9223372036854775807)
   (q1 : plays.length * 24 ≤ 140737488351232 ∧ ∀ a ∈ plays, (a.length * 8 ≤ 140737488351232 ∧ ∀ a' ∈ a, (-9223372036854775808 ≤ a' ∧ a' ≤ 9223372036854775807)))
   (q2 : ws.length * 16 ≤ 140737488351232 ∧ ∀ a ∈ ws, (a.size ≤ 140737488351232))
   (q3 : told.length * 24 ≤ 140737488351232 ∧ ∀ a ∈ told, (a.length * 40 ≤ 140737488351232 ∧ ∀ a' ∈ a, (T_names_Row.Q a'))) : roadlaw4_NamesPlay x0 plays ws told = some true := by
 have main : roadlaw4_NamesPlay.j0 x0 plays ws told = some true := by
   unfold roadlaw4_NamesPlay.j0
   rw [New_val, Option.bind_some]
   by_cases h : x0 < 1 ∨ x0 > 8
   · rw [if_pos h]
     simp only [Option.elim]
     unfold roadlaw4_NamesPlay.j2_n11
     by_cases a : x0 < 1
     · rw [if_pos a, if_pos rfl, if_pos rfl]
     · rw [if_neg a, if_pos (by simp; omega), if_pos rfl]
   · rw [if_neg h]
     simp only [Option.elim]
     unfold roadlaw4_NamesPlay.j2 roadlaw4_NamesPlay.j1 roadlaw4_NamesPlay.j3
     rw [if_neg (show ¬ x0 < 1 by omega), if_neg (show ¬ (decide (x0 > 8)) = true by simp; omega), if_pos rfl]
     exact plays_val (by omega) (by omega) (by omega) plays.length 0 rfl _ _ (Rel.start x0)
 have first : ∃ X', names_Names_Set ⟨2, 0, []⟩ (ByteArray.mk #[97]) 5 = some (0, X') ∧ X'.rows_ = [⟨ByteArray.mk #[97], 5, 1, 2⟩] := by
   unfold names_Names_Set
   rw [word_val, Option.bind_some, if_pos (by decide), if_neg (by decide)]
   obtain ⟨pre, post, C, e⟩ := put_val (n := 2) (c := 0) (rows := []) (s := ByteArray.mk #[97]) (ref := 5) .nil (by decide) (by decide) (by decide)
   have := C.eq
   have h1 := List.append_eq_nil_iff.1 this.symm
   obtain ⟨rfl, rfl⟩ := h1
   rw [e, Option.bind_some]
   refine ⟨⟨2, 1, [⟨ByteArray.mk #[97], 5, 1, 2⟩]⟩, ?_, rfl⟩
   rfl
 obtain ⟨X', e, hx⟩ := first
 unfold roadlaw4_NamesPlay
 rw [New_val, if_neg (by decide), Option.bind_some]
 simp only [Option.elim, if_true]
 rw [e, Option.bind_some, if_pos rfl, State_val (by rw [hx]; decide), Option.bind_some, hx, Eq6 (by decide), Option.bind_some, if_pos rfl]
 exact main
end Go.Proofs.YtaiehkhjmplodaaDoor.Fw

end
section
namespace Go.Proofs.YtaiehkhjmplodaaDoor.namesPlay
open Go Go.Hw Go.ChangeShapes Go.WideShapes Go.ChangeAt Go.RowKit Go.Proofs.YtaiehkhjmplodaaDoor.Fw
open Go.ChangeMaps (open_string shut_string)
set_option linter.unusedVariables false
theorem own : ownKnob Tryd.prog.godebug = none := by kernel_rfl
theorem laidOut : laidOutB Tryd.prog = true := by kernel_rfl
noncomputable def laidHeap (os : Os) : Array Obj :=
 (((World.holding Tryd.prog os ⟨#[], #[], []⟩).heap).modify 2 (fun
     | .cells _ t frozen => .cells #[(.int .u8 128), (.int .u8 191), (.int .u8 160), (.int .u8 191), (.int .u8 128), (.int .u8 159), (.int .u8 144), (.int .u8 191), (.int .u8 128), (.int .u8 143), (.int .u8 0), (.int .u8 0), (.int .u8 0), (.int .u8 0), (.int .u8 0), (.int .u8 0), (.int .u8 0), (.int .u8 0), (.int .u8 0), (.int .u8 0), (.int .u8 0), (.int .u8 0), (.int .u8 0), (.int .u8 0), (.int .u8 0), (.int .u8 0), (.int .u8 0), (.int .u8 0), (.int .u8 0), (.int .u8 0), (.int .u8 0), (.int .u8 0)] t frozen
     | o => o)).modify 1 (fun
     | .cells _ t frozen => .cells #[(.int .u8 240), (.int .u8 240), (.int .u8 240), (.int .u8 240), (.int .u8 240), (.int .u8 240), (.int .u8 240), (.int .u8 240), (.int .u8 240), (.int .u8 240), (.int .u8 240), (.int .u8 240), (.int .u8 240), (.int .u8 240), (.int .u8 240), (.int .u8 240), (.int .u8 240), (.int .u8 240), (.int .u8 240), (.int .u8 240), (.int .u8 240), (.int .u8 240), (.int .u8 240), (.int .u8 240), (.int .u8 240), (.int .u8 240), (.int .u8 240), (.int .u8 240), (.int .u8 240), (.int .u8 240), (.int .u8 240), (.int .u8 240), (.int .u8 240), (.int .u8 240), (.int .u8 240), (.int .u8 240), (.int .u8 240), (.int .u8 240), (.int .u8 240), (.int .u8 240), (.int .u8 240), (.int .u8 240), (.int .u8 240), (.int .u8 240), (.int .u8 240), (.int .u8 240), (.int .u8 240), (.int .u8 240), (.int .u8 240), (.int .u8 240), (.int .u8 240), (.int .u8 240), (.int .u8 240), (.int .u8 240), (.int .u8 240), (.int .u8 240), (.int .u8 240), (.int .u8 240), (.int .u8 240), (.int .u8 240), (.int .u8 240), (.int .u8 240), (.int .u8 240), (.int .u8 240), (.int .u8 240), (.int .u8 240), (.int .u8 240), (.int .u8 240), (.int .u8 240), (.int .u8 240), (.int .u8 240), (.int .u8 240), (.int .u8 240), (.int .u8 240), (.int .u8 240), (.int .u8 240), (.int .u8 240), (.int .u8 240), (.int .u8 240), (.int .u8 240), (.int .u8 240), (.int .u8 240), (.int .u8 240), (.int .u8 240), (.int .u8 240), (.int .u8 240), (.int .u8 240), (.int .u8 240), (.int .u8 240), (.int .u8 240), (.int .u8 240), (.int .u8 240), (.int .u8 240), (.int .u8 240), (.int .u8 240), (.int .u8 240), (.int .u8 240), (.int .u8 240), (.int .u8 240), (.int .u8 240), (.int .u8 240), (.int .u8 240), (.int .u8 240), (.int .u8 240), (.int .u8 240), (.int .u8 240), (.int .u8 240), (.int .u8 240), (.int .u8 240), (.int .u8 240), (.int .u8 240), (.int .u8 240), (.int .u8 240), (.int .u8 240), (.int .u8 240), (.int .u8 240), (.int .u8 240), (.int .u8 240), (.int .u8 240), (.int .u8 240), (.int .u8 240), (.int .u8 240), (.int .u8 240), (.int .u8 240), (.int .u8 240), (.int .u8 240), (.int .u8 240), (.int .u8 240), (.int .u8 241), (.int .u8 241), (.int .u8 241), (.int .u8 241), (.int .u8 241), (.int .u8 241), (.int .u8 241), (.int .u8 241), (.int .u8 241), (.int .u8 241), (.int .u8 241), (.int .u8 241), (.int .u8 241), (.int .u8 241), (.int .u8 241), (.int .u8 241), (.int .u8 241), (.int .u8 241), (.int .u8 241), (.int .u8 241), (.int .u8 241), (.int .u8 241), (.int .u8 241), (.int .u8 241), (.int .u8 241), (.int .u8 241), (.int .u8 241), (.int .u8 241), (.int .u8 241), (.int .u8 241), (.int .u8 241), (.int .u8 241), (.int .u8 241), (.int .u8 241), (.int .u8 241), (.int .u8 241), (.int .u8 241), (.int .u8 241), (.int .u8 241), (.int .u8 241), (.int .u8 241), (.int .u8 241), (.int .u8 241), (.int .u8 241), (.int .u8 241), (.int .u8 241), (.int .u8 241), (.int .u8 241), (.int .u8 241), (.int .u8 241), (.int .u8 241), (.int .u8 241), (.int .u8 241), (.int .u8 241), (.int .u8 241), (.int .u8 241), (.int .u8 241), (.int .u8 241), (.int .u8 241), (.int .u8 241), (.int .u8 241), (.int .u8 241), (.int .u8 241), (.int .u8 241), (.int .u8 241), (.int .u8 241), (.int .u8 2), (.int .u8 2), (.int .u8 2), (.int .u8 2), (.int .u8 2), (.int .u8 2), (.int .u8 2), (.int .u8 2), (.int .u8 2), (.int .u8 2), (.int .u8 2), (.int .u8 2), (.int .u8 2), (.int .u8 2), (.int .u8 2), (.int .u8 2), (.int .u8 2), (.int .u8 2), (.int .u8 2), (.int .u8 2), (.int .u8 2), (.int .u8 2), (.int .u8 2), (.int .u8 2), (.int .u8 2), (.int .u8 2), (.int .u8 2), (.int .u8 2), (.int .u8 2), (.int .u8 2), (.int .u8 19), (.int .u8 3), (.int .u8 3), (.int .u8 3), (.int .u8 3), (.int .u8 3), (.int .u8 3), (.int .u8 3), (.int .u8 3), (.int .u8 3), (.int .u8 3), (.int .u8 3), (.int .u8 3), (.int .u8 35), (.int .u8 3), (.int .u8 3), (.int .u8 52), (.int .u8 4), (.int .u8 4), (.int .u8 4), (.int .u8 68), (.int .u8 241), (.int .u8 241), (.int .u8 241), (.int .u8 241), (.int .u8 241), (.int .u8 241), (.int .u8 241), (.int .u8 241), (.int .u8 241), (.int .u8 241), (.int .u8 241)] t frozen
     | o => o)
noncomputable def laidWorld (os : Os) : World :=
 { World.holding Tryd.prog os ⟨#[], #[], []⟩ with heap := laidHeap os }
set_option maxRecDepth 100000 in
theorem laid_met (os : Os) : laidMet Tryd.prog Rows.namesPlayRow.laid ((laidWorld os).forCall (fun _ _ => 0) ⟨#[], #[(.int .i64 (0 : Int)), (.slice none 0 0), (.slice none 0 0), (.slice none 0 0)], []⟩).memory :=
 laidMet_of_run3 8 (by kernel_rfl) (by kernel_rfl) (by kernel_rfl)
set_option maxRecDepth 100000 in
theorem reads (os : Os) {H : Type} (enc : TypeId × Value → H) : ∃ places, DataW.whole enc Tryd.prog ((laidWorld os).forCall (fun _ _ => 0) ⟨#[], #[(.int .i64 (0 : Int)), (.slice none 0 0), (.slice none 0 0), (.slice none 0 0)], []⟩).memory Tryd.f3.params.toList Rows.namesPlaySpec.vars false (#[(.int .i64 (0 : Int)), (.slice none 0 0), (.slice none 0 0), (.slice none 0 0)] : Array Value).toList 8 = some ([DataW.lit (.int .i64 0), DataW.nil, DataW.nil, DataW.nil], [], places) :=
 ⟨[], by kernel_rfl⟩
set_option maxRecDepth 100000 in
theorem lifted (os : Os) (started : os.Started) (H : Type) (enc : TypeId × Value → H) (F : Stop.Interp) :
   ReturnsInHanded {} Tryd.checked os 3 .any ((OpenSpec.ofChange Rows.namesPlaySpec).preRow enc Tryd.prog Tryd.f3 Rows.namesPlayRow.domain false Rows.namesPlayRow.laid) (((OpenSpec.ofChange Rows.namesPlaySpec).at F).post enc Tryd.prog Tryd.f3 false true false false) := by
 obtain ⟨places, hx⟩ := reads os enc
 refine returnsInHanded_of_row (C := Tryd.checked) (s := (OpenSpec.ofChange Rows.namesPlaySpec)) own started (by kernel_rfl) Tryd.func3
   (witness_row_atRef (enc := enc) (C := Tryd.checked) false (laidWorld os) #[(.int .i64 (0 : Int)), (.slice none 0 0), (.slice none 0 0), (.slice none 0 0)] rfl (by kernel_rfl) (by kernel_rfl) (by kernel_rfl)
     (OpenSpec.preRow_of_cond 8 hx (by kernel_rfl) (fun k hk => by cases hk) (by kernel_rfl) (laid_met os))) ?_
 intro W base args ds gs before hval0 hW hcnd hkk0 hsz0 hL _ _
 have hsz : (DataW.weightsEach Tryd.prog (Tryd.f3.params.toList ++ Rows.namesPlaySpec.plain.varTypes Tryd.prog) (ds ++ gs)).all (· ≤ reachBytes) = true := hsz0
 have hval : ∀ (j : Nat) t v, Tryd.f3.params[j]? = some t → args[j]? = some v → Value.okWide Tryd.prog W .any base t v := hval0
 have hW' := hW
 obtain ⟨p, q, hA0, hV, rfl, hfz, hnd⟩ := hW
 have hA : DataW.TrodAll enc Tryd.prog W 0 (fun _ => true) true Tryd.f3.params.toList args.toList ds p := hA0
 rw [Tryd.params3] at hA hval hsz
 obtain ⟨v0, vs0, d0, ds0, p0, q0_, hargs, rfl, rfl, h0, r0_⟩ := trodAll_cons hA
 obtain ⟨v1, vs1, d1, ds1, p1, q1_, rfl, rfl, rfl, h1, r1_⟩ := trodAll_cons r0_
 obtain ⟨v2, vs2, d2, ds2, p2, q2_, rfl, rfl, rfl, h2, r2_⟩ := trodAll_cons r1_
 obtain ⟨v3, vs3, d3, ds3, p3, q3_, rfl, rfl, rfl, h3, r3_⟩ := trodAll_cons r2_
 obtain ⟨rfl, rfl, rfl⟩ := trodAll_nil r3_
 obtain rfl : args = #[v0, v1, v2, v3] := by cases args; simp_all
 obtain ⟨rfl, rfl⟩ := trodVars_none hV
 have hs : (DataW.weightsEach Tryd.prog [3, 22, 23, 24] [d0, d1, d2, d3]).all (· ≤ reachBytes) = true := hsz
 simp only [DataW.weightsEach, List.append_nil, List.all_append, Bool.and_eq_true] at hs
 obtain ⟨hw0, hw1, hw2, hw3⟩ := hs
 have k0 := h0
 have lt0 : ∀ x ∈ p0, x.block < W.heap.size := by obtain ⟨m, hm⟩ := k0; exact DataW.trod_lt m _ _ _ hm
 obtain ⟨a0, rfl, rfl, rfl, w0⟩ := open_int (show Tryd.prog.underlying 3 = some (.int .i64) by kernel_rfl) (hval 0 3 v0 rfl rfl) h0
 have k1 := h1
 have lt1 : ∀ x ∈ p1, x.block < W.heap.size := by obtain ⟨m, hm⟩ := k1; exact DataW.trod_lt m _ _ _ hm
 obtain ⟨A1, n1, c1, rfl⟩ := okWide_slice (show Tryd.prog.underlying 22 = some (.slice 39) by kernel_rfl) (hval 1 22 v1 rfl rfl)
 obtain ⟨fuel1, hf1⟩ := h1
 obtain ⟨l1, ⟨A1', c1', hcs1, hle1, r1⟩, q1⟩ := (tells_sliceL (t := 22) (e := 39) (sz := 1) (B := 24) (by kernel_rfl) (by kernel_rfl) (by kernel_rfl) (tells_sliceL (t := 39) (e := 3) (sz := 1) (B := 8) (by kernel_rfl) (by kernel_rfl) (by kernel_rfl) (tells_i64 (t := 3) (by kernel_rfl)))) fuel1 _ _ hf1 hw1
 simp only [Value.cells, List.cons.injEq, Value.slice.injEq, and_true] at hcs1
 obtain ⟨rfl, rfl, rfl⟩ := hcs1
 have k2 := h2
 have lt2 : ∀ x ∈ p2, x.block < W.heap.size := by obtain ⟨m, hm⟩ := k2; exact DataW.trod_lt m _ _ _ hm
 obtain ⟨A2, n2, c2, rfl⟩ := okWide_slice (show Tryd.prog.underlying 23 = some (.slice 9) by kernel_rfl) (hval 2 23 v2 rfl rfl)
 obtain ⟨fuel2, hf2⟩ := h2
 obtain ⟨l2, ⟨A2', c2', hcs2, hle2, r2⟩, q2⟩ := (tells_sliceL (t := 23) (e := 9) (sz := 1) (B := 16) (by kernel_rfl) (by kernel_rfl) (by kernel_rfl) (tells_strL (t := 9) (by kernel_rfl))) fuel2 _ _ hf2 hw2
 simp only [Value.cells, List.cons.injEq, Value.slice.injEq, and_true] at hcs2
 obtain ⟨rfl, rfl, rfl⟩ := hcs2
 have k3 := h3
 have lt3 : ∀ x ∈ p3, x.block < W.heap.size := by obtain ⟨m, hm⟩ := k3; exact DataW.trod_lt m _ _ _ hm
 obtain ⟨A3, n3, c3, rfl⟩ := okWide_slice (show Tryd.prog.underlying 24 = some (.slice 31) by kernel_rfl) (hval 3 24 v3 rfl rfl)
 obtain ⟨fuel3, hf3⟩ := h3
 obtain ⟨l3, ⟨A3', c3', hcs3, hle3, r3⟩, q3⟩ := (tells_sliceL (t := 24) (e := 31) (sz := 1) (B := 24) (by kernel_rfl) (by kernel_rfl) (by kernel_rfl) (tells_sliceL (t := 31) (e := 33) (sz := 4) (B := 40) (by kernel_rfl) (by kernel_rfl) (by kernel_rfl) T_names_Row.tells)) fuel3 _ _ hf3 hw3
 simp only [Value.cells, List.cons.injEq, Value.slice.injEq, and_true] at hcs3
 obtain ⟨rfl, rfl, rfl⟩ := hcs3
 refine ((Run.mono (R' := fun v h' => v = Value.bool true ∧ Ext W.heap h') (Fw.roadlaw4_NamesPlay.walk (W := No) (Hold.start (Sub.refl _)) rfl hle1 r1 rfl hle2 r2 rfl hle3 r3 (Fw.NamesPlay a0 l1 l2 l3 (wf_i64 w0) q1 q2 q3)) (fun v h' hp => by obtain ⟨m', st, hv⟩ := hp; exact ⟨hv, st.S.ext⟩)) W rfl).mono fun e W' he => ?_
 obtain ⟨v, rfl, ⟨rfl, ext⟩, same⟩ := he
 have bel := below_of ext same
 exact ⟨_, rfl, _, _, _, [], _, [], hW', trodAll_mk1 (shut_bool (show Tryd.prog.underlying 4 = some .bool by kernel_rfl) _), (trodAll_cons_mk (Below.trod laidOut (by kernel_rfl) (of_decide_eq_true (by kernel_rfl)) k0 bel lt0) (trodAll_cons_mk (Below.trod laidOut (by kernel_rfl) (of_decide_eq_true (by kernel_rfl)) k1 bel lt1) (trodAll_cons_mk (Below.trod laidOut (by kernel_rfl) (of_decide_eq_true (by kernel_rfl)) k2 bel lt2) (trodAll_cons_mk (Below.trod laidOut (by kernel_rfl) (of_decide_eq_true (by kernel_rfl)) k3 bel lt3) trodAll_mk0)))), rfl, bel.frame _, fun h => by cases h⟩
theorem over : Rows.namesPlayRow.holds Tryd.pinned (OpenSpec.ofChange Rows.namesPlaySpec) :=
 OpenClaim.holds_of_cond 3 Tryd.f3 rfl rfl rfl rfl rfl rfl rfl ⟨rfl, rfl, rfl, rfl, rfl⟩ rfl rfl rfl rfl rfl (by kernel_rfl) Tryd.func3 (by kernel_rfl)
   (of_decide_eq_true (by kernel_rfl)) (by unfold Func.isWrapper; first | (rw [if_pos (by decide +kernel)]; kernel_rfl) | (rw [if_neg (by decide +kernel)]; exact ⟨rfl, rfl⟩))
   (fun os started H enc _ F => by rw [OpenClaim.pre_eq_preRow]; exact lifted os started H enc F)
theorem plain (f : FuncId) (fn : Func) (hf : Tryd.pinned.checked.prog.funcNamed "roadstead/roadlaw4.NamesPlay" = some f) (hfn : Tryd.pinned.checked.prog.funcs[f]? = some fn) :
   false = Tryd.pinned.checked.prog.looks [] ∧ ∀ (j : Nat) t, fn.params[j]? = some t → Tryd.pinned.checked.prog.wantsStandIn t = false := by
 obtain rfl : f = 3 := Option.some.inj ((show Tryd.prog.funcNamed "roadstead/roadlaw4.NamesPlay" = some 3 by kernel_rfl).symm.trans hf) |>.symm
 obtain rfl : fn = Tryd.f3 := (Option.some.inj (Tryd.func3.symm.trans hfn)).symm
 refine ⟨by kernel_rfl, fun j t ht => ?_⟩
 rw [Tryd.params3] at ht
 have hm : t ∈ [3, 22, 23, 24] := by simpa using Array.mem_of_getElem? ht
 have hall : ([3, 22, 23, 24].all fun u => !Tryd.prog.wantsStandIn u) = true := by kernel_rfl
 exact (show Tryd.prog.wantsStandIn t = false by simpa using List.all_eq_true.1 hall t hm)
end Go.Proofs.YtaiehkhjmplodaaDoor.namesPlay
namespace Go.Proofs.YtaiehkhjmplodaaDoor
theorem namesPlay_holds : Rows.NamesPlayCardSaid :=
 Claim7.holds_tied_plain_at .later [] _ _ _ _ namesPlay.over (fun _ h => by cases h) (by kernel_rfl) (fun _ h => by cases h) namesPlay_row_tie rfl ⟨rfl, rfl⟩ (by kernel_rfl) rfl namesPlay.plain (by kernel_rfl)
end Go.Proofs.YtaiehkhjmplodaaDoor

end
