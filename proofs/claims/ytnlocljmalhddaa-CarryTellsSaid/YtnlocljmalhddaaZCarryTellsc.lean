/- Part 3: what the law CarryTells needs, put together out of texts of this session. -/
import Derived.Test.YtnlocljmalhddaaZCarryTellsb
section
set_option linter.unusedVariables false
namespace Go.Hw
open Go
end Go.Hw

end
section
set_option linter.unusedVariables false
namespace Go.Hw
open Go
section
noncomputable def agreeF {R : Type} (n : Nat) (f : Nat → Option R) : Option R :=
  open Classical in if ∃ r, ∀ j, j < n → f j = some r then f 0 else none
noncomputable def pickF {α R : Type} (left : List α) (over : Option R) (go : α → List α → Option R) : Option R :=
  match left with
  | [] => over
  | _ :: _ => agreeF left.length fun j => (left[j]?).bind fun c => go c (left.eraseIdx j)
variable {α R : Type} {left : List α} {over over' : Option R} {go go' : α → List α → Option R} {r : R}
theorem pick_e (e : pickF left over go = some r) : (left = [] ∧ over = some r) ∨ (left ≠ [] ∧ ∀ (j : Nat) (c : α), left[j]? = some c → go c (left.eraseIdx j) = some r) := by
  cases left with
  | nil => exact .inl ⟨rfl, e⟩
  | cons x l =>
    refine .inr ⟨by simp, fun j c hj => ?_⟩
    unfold pickF agreeF at e
    simp only at e
    split at e
    · rename_i h
      obtain ⟨r', h⟩ := h
      have h0 := h 0 (by simp)
      rw [h0] at e
      cases e
      have := h j (List.getElem?_eq_some_iff.1 hj).1
      rw [hj] at this
      exact this
    · cases e
theorem pick_a (e : pickF left over go = some r) (h : left = []) : over = some r := by
  rcases pick_e e with ⟨_, k⟩ | ⟨k, _⟩
  · exact k
  · exact (k h).elim
theorem pick_b {j : Nat} {c : α} {l2 : List α} (e : pickF left over go = some r) (h : left[j]? = some c) (q : l2 = left.eraseIdx j) : go c l2 = some r := by
  subst q
  rcases pick_e e with ⟨k, _⟩ | ⟨_, k⟩
  · subst k; cases h
  · exact k j c h
theorem pick_nil : pickF [] over go = over := rfl
theorem pick_all (hne : left ≠ []) (h : ∀ (j : Nat) (c : α), left[j]? = some c → go c (left.eraseIdx j) = some r) : pickF left over go = some r := by
  cases left with
  | nil => exact (hne rfl).elim
  | cons x l =>
    unfold pickF agreeF
    simp only
    have h' : ∀ j, j < (x :: l).length → ((x :: l)[j]?).bind (fun c => go c ((x :: l).eraseIdx j)) = some r := fun j hj => by
      rw [List.getElem?_eq_getElem hj]; exact h j _ (List.getElem?_eq_getElem hj)
    rw [if_pos ⟨r, h'⟩]
    exact h' 0 (by simp)
theorem LeO.pick (h : LeO over over') (k : ∀ c l, LeO (go c l) (go' c l)) : LeO (pickF left over go) (pickF left over' go') := by
  cases left with
  | nil => exact h
  | cons x l =>
    intro r e
    rcases pick_e e with ⟨h1, _⟩ | ⟨h1, h2⟩
    · cases h1
    · exact pick_all h1 fun j c hj => k _ _ _ (h2 j c hj)
end
attribute [irreducible] pickF agreeF
section
variable {κ ν : Type} [DecidableEq κ] {h h' m m' h0 m0 : Heap} {b i k : Nat} {W : Foot} {kv : κ → Value} {es left : List (κ × ν)} {q : κ} {x zv : ν} {v z : Value} {P : Program} {t elem : TypeId} {EV : Heap → ν → Value → Prop} {M : MonoV EV} {Rs : List Res}
def rMI (M : MonoV EV) (kv : κ → Value) (b i : Nat) (es left : List (κ × ν)) : Res where
  p h m F := (∃ (e : Array MapEntry) (c : Nat) (seen : Array Nat), h[b]? = some (.map e c) ∧ h[i]? = some (.mapIter (some b) c seen c) ∧ Brn e.toList c ∧
    (∃ vs : List (κ × Value), e.toList.map (fun x => (x.key, x.val)) = vs.map (fun x => (kv x.1, x.2)) ∧ MR (EV m) es vs) ∧
    ∃ vs : List (κ × Value), (e.toList.filter fun x => !seen.contains x.born).map (fun x => (x.key, x.val)) = vs.map (fun x => (kv x.1, x.2)) ∧ MR (EV m) left vs) ∧ ¬ Live m b ∧ ¬ Live m i ∧ b ≠ i ∧ F = U (fb b) (fb i)
  z m := FM EV kv m b es
  lt := by
    rintro h m F ⟨⟨e, c, seen, h1, h2, _⟩, _, _, _, rfl⟩ j hj
    rcases hj with hj | hj
    · unfold fb at hj; subst hj; exact (Array.getElem?_eq_some_iff.1 h1).1
    · unfold fb at hj; subst hj; exact (Array.getElem?_eq_some_iff.1 h2).1
  nl := by
    rintro h m F ⟨_, k1, k2, _, rfl⟩ j hj
    rcases hj with hj | hj
    · unfold fb at hj; subst hj; exact k1
    · unfold fb at hj; subst hj; exact k2
  fr := by
    rintro h m F h' m' ⟨⟨e, c, seen, h1, h2, h3, ⟨vs, h4, h5⟩, us, h6, h7⟩, k1, k2, k3, rfl⟩ q1 q2 q3
    exact ⟨⟨e, c, seen, by rw [q1 b (.inl rfl)]; exact h1, by rw [q1 i (.inr rfl)]; exact h2, h3, ⟨vs, h4, h5.sub M q2⟩, us, h6, h7.sub M q2⟩, q3 b (.inl rfl), q3 i (.inr rfl), k3, rfl⟩
  fz := by
    rintro h m F G ⟨⟨e, c, seen, h1, h2, h3, ⟨vs, h4, h5⟩, us, h6, h7⟩, k1, k2, k3, rfl⟩ q1 q2
    exact ⟨vs, ⟨e, c, by rw [addV_get (Array.getElem?_eq_some_iff.1 h1).1 (.inr (q2 b (.inl rfl)))]; exact h1, h4, h3⟩, h5.sub M (addV_up q1)⟩
omit [DecidableEq κ] in
theorem Hold.itEnd (O : Hold W h0 m0 h m Rs) (k : Nat) (hk : Rs[k]? = some (rMI M kv b i es left)) : Hold W h0 m0 h m (Rs.set k (rM M kv b es)) :=
  O.conv k hk (R' := rM M kv b es) fun F hF => by
    obtain ⟨⟨e, c, seen, h1, h2, h3, ⟨vs, h4, h5⟩, _⟩, k1, k2, k3, rfl⟩ := hF
    exact ⟨fb b, ⟨⟨vs, ⟨e, c, h1, h4, h3⟩, h5⟩, k1, rfl⟩, fun _ h => .inl h⟩
omit [DecidableEq κ] in
theorem Hold.mapRange {key : TypeId} {K : Value → Heap → Prop} (O : Hold W h0 m0 h m Rs) (k : Nat) (hk : Rs[k]? = some (rM M kv b es)) (hu : P.underlying t = some (.map key elem)) (H : ∀ h', Ext h h' → Hold W h0 m0 h' m (Rs.set k (rMI M kv b h.size es es)) → K (.pointer (some ⟨h.size, 0, none⟩)) h') : Gen P (Instr.range t (.map (some b))) h K := by
  obtain ⟨F, ⟨⟨vs, ⟨e, c, h1, h2, h3⟩, h4⟩, k1, rfl⟩, h5, h6⟩ := O.get k hk
  have hlt := (Array.getElem?_eq_some_iff.1 h1).1
  unfold Gen Instr.range
  refine hwp_bind (hwp_underlying hu ?_)
  refine hwp_bind (hwp_bind (hwp_getObj h1 (fun _ _ _ hh => by cases hh) ?_))
  refine hwp_pure (P := P) ?_
  show K (.pointer (some ⟨h.size, 0, none⟩)) (h.push (.mapIter (some b) c #[] c))
  have e1 : Ext h (h.push (.mapIter (some b) c #[] c)) := Ext.push _ _
  have hg : (h.push (.mapIter (some b) c #[] c))[b]? = some (.map e c) := by rw [e1.2 b hlt]; exact h1
  refine H _ e1 ?_
  refine h6 (R' := rMI M kv b h.size es es) (St.of_ext O.s e1) ⟨⟨e, c, #[], hg, by simp, h3, ⟨vs, h2, h4⟩, vs, ?_, h4⟩, k1, St.notLive O.s, by omega, rfl⟩ (fun j hj => ?_)
  · rw [← h2]; congr 1; rw [List.filter_eq_self]; intro a _; simp
  · rcases hj with hj | hj
    · exact .inl hj
    · unfold fb at hj; exact .inr (by omega)
omit [DecidableEq κ] in
theorem MR.at {EV : ν → Value → Prop} {c : κ × ν} : ∀ {es : List (κ × ν)} {vs : List (κ × Value)} {j : Nat}, MR EV es vs → es[j]? = some c → ∃ v, vs[j]? = some (c.1, v) ∧ EV c.2 v ∧ MR EV (es.eraseIdx j) (vs.eraseIdx j) := by
  intro es
  induction es with
  | nil => intro vs j _ hj; cases hj
  | cons p es ih =>
    rintro vs j ⟨v, vs', rfl, h1, h2⟩ hj
    cases j with
    | zero => cases hj; exact ⟨v, rfl, h1, h2⟩
    | succ j =>
      obtain ⟨u, k1, k2, k3⟩ := ih h2 (show es[j]? = some c by simpa using hj)
      exact ⟨u, by simpa using k1, k2, v, _, rfl, h1, k3⟩
theorem erase_filter {l : List MapEntry} (hd : (l.map (·.born)).Pairwise (· < ·)) {j : Nat} {x : MapEntry} (hx : l[j]? = some x) : l.filter (fun y => y.born != x.born) = l.eraseIdx j := by
  induction l generalizing j with
  | nil => cases hx
  | cons y l ih =>
    rw [List.map_cons, List.pairwise_cons] at hd
    cases j with
    | zero =>
      cases hx
      rw [List.filter_cons_of_neg (by simp), List.eraseIdx_cons_zero, List.filter_eq_self]
      intro z hz
      have := hd.1 z.born (List.mem_map.2 ⟨z, hz, rfl⟩)
      simp; omega
    | succ j =>
      have hx' : l[j]? = some x := by simpa using hx
      have := hd.1 x.born (List.mem_map.2 ⟨x, List.mem_of_getElem? hx', rfl⟩)
      rw [List.filter_cons_of_pos (by simp; omega), List.eraseIdx_cons_succ, ih hd.2 hx']
theorem filter_pw {l : List MapEntry} (p : MapEntry → Bool) (hd : (l.map (·.born)).Pairwise (· < ·)) : ((l.filter p).map (·.born)).Pairwise (· < ·) :=
  List.Pairwise.sublist (List.Sublist.map _ (List.filter_sublist)) hd
theorem eraseIdx_map {α β : Type} (f : α → β) : ∀ (l : List α) (j : Nat), (l.eraseIdx j).map f = (l.map f).eraseIdx j
  | [], _ => rfl
  | x :: l, 0 => rfl
  | x :: l, j + 1 => by simp [eraseIdx_map f l j]
theorem find_born {l : List MapEntry} (hd : (l.map (·.born)).Pairwise (· < ·)) {x : MapEntry} (hx : x ∈ l) : l.find? (fun y => y.born == x.born) = some x := by
  induction l with
  | nil => cases hx
  | cons y l ih =>
    rw [List.map_cons, List.pairwise_cons] at hd
    rcases List.mem_cons.1 hx with rfl | hx
    · rw [List.find?_cons_of_pos (by simp)]
    · have := hd.1 x.born (List.mem_map.2 ⟨x, hx, rfl⟩)
      rw [List.find?_cons_of_neg (by simp; omega), ih hd.2 hx]
theorem hwp_mapNext {P : Program} {h : Heap} {n : Nat} {K : Nat → Heap → Prop} (hpos : 0 < n) (H : ∀ j, j < n → K j h) : Hwp P (choose (.mapNext n)) h K := by
  show Hwp P (Sem.choose (.mapNext n) Sem.pure) h K
  unfold Hwp
  by_cases hf : (Question.mapNext n).forced = true
  · rw [if_pos hf]; exact H 0 hpos
  · rw [if_neg hf]; exact fun t => H (t % n) (Nat.mod_lt _ hpos)
omit [DecidableEq κ] in
theorem Hold.mapNext {ty : TypeId} {A : Heap → Prop} {B : Value → Value → Heap → Prop} (O : Hold W h0 m0 h m Rs) (k : Nat) (hk : Rs[k]? = some (rMI M kv b i es left))
    (HA : left = [] → Hold W h0 m0 h m (Rs.set k (rM M kv b es)) → A h)
    (HB : ∀ (j : Nat) (c : κ × ν) (l2 : List (κ × ν)) (v : Value) (h' : Heap), left[j]? = some c → l2 = left.eraseIdx j → EV m c.2 v → Hold W h0 m0 h' m (Rs.set k (rMI M kv b i es l2)) →
      (∀ K : Value → Heap → Prop, K (.tuple #[kv c.1, v]) h' → Gen P (Instr.entry (.pointer (some ⟨i, 0, none⟩))) h' K) → B (kv c.1) v h') :
    NextEv P (.pointer (some ⟨i, 0, none⟩)) ty h A B := by
  obtain ⟨F, ⟨⟨e, c, seen, h1, h2, h3, ⟨vs, h4, h5⟩, us, h6, h7⟩, k1, k2, k3, rfl⟩, h8, h9⟩ := O.get k hk
  unfold NextEv Gen Instr.next
  simp only [pure_bind]
  refine hwp_bind (hwp_getObj h2 (fun _ _ _ hh => by cases hh) ?_)
  simp only
  refine hwp_bind (hwp_getObj h1 (fun _ _ _ hh => by cases hh) ?_)
  simp only
  have hnot : ¬ ((!seen.isEmpty && !e.isEmpty && e.all (fun x => decide (x.born ≥ c))) = true) := by
    intro hh
    simp only [Bool.and_eq_true] at hh
    obtain ⟨⟨_, q1⟩, q2⟩ := hh
    have hne : 0 < e.size := by
      by_cases h0 : e.size = 0
      · have : e.isEmpty = true := by simp [Array.isEmpty, h0]
        rw [this] at q1; cases q1
      · omega
    rw [Array.all_eq_true] at q2
    have q3 := q2 0 hne
    have q4 := h3.2 (e[0]) (by simp)
    simp at q3; omega
  rw [if_neg hnot]
  have hold : ((e.filter fun x => !seen.contains x.born).filter fun x => decide (x.born < c)) = e.filter fun x => !seen.contains x.born := by
    rw [Array.filter_eq_self]
    intro x hx
    have := h3.2 x (by have := (Array.mem_filter.1 hx).1; simpa using this)
    simpa using this
  have hnew : ((e.filter fun x => !seen.contains x.born).filter fun x => decide (x.born ≥ c)) = #[] := by
    rw [Array.filter_eq_empty_iff]
    intro x hx
    have := h3.2 x (by have := (Array.mem_filter.1 hx).1; simpa using this)
    simp; omega
  rw [hold, hnew]
  have hl : (e.filter fun x => !seen.contains x.born).toList = e.toList.filter fun x => !seen.contains x.born := by simp
  generalize hL : (e.filter fun x => !seen.contains x.born) = L at *
  rw [← hl] at h6
  have hlen : L.size = left.length := by
    have a1 := congrArg List.length h6
    rw [List.length_map, List.length_map, h7.len] at a1
    simpa using a1
  by_cases h0 : left = []
  · have hs0 : L = #[] := by
      have : L.size = 0 := by rw [hlen, h0]; rfl
      exact Array.eq_empty_of_size_eq_zero this
    rw [hs0]
    have hcand : (if (#[] : Array MapEntry).isEmpty = true then #[(none : Option MapEntry)] else #[]) ++ ((#[] : Array MapEntry) ++ #[]).map some = #[none] := by simp
    rw [hcand]
    refine hwp_bind (hwp_mapNext (Nat.lt_succ_self 0) fun j hj => ?_)
    obtain rfl : j = 0 := by
      have : j < 1 := hj
      omega
    show Hwp P (pure (Value.tuple #[Value.bool false]) : Sem Value) h _
    refine hwp_pure (P := P) (Or.inl ⟨rfl, HA h0 ?_⟩)
    exact O.itEnd k hk
  · have hpos : 0 < L.size := by rw [hlen]; exact List.length_pos_iff.2 h0
    have hemp : L.isEmpty = false := by
      by_cases h00 : L.isEmpty = true
      · rw [Array.isEmpty_iff] at h00; rw [h00] at hpos; exact absurd hpos (by decide)
      · simpa using h00
    rw [hemp]
    have hcand : (if false = true then #[(none : Option MapEntry)] else #[]) ++ (L ++ #[]).map some = L.map some := by simp
    rw [hcand]
    have key : ∀ j, j < L.size → Hwp P (match (L.map some)[j]? with
        | some (some x) => do setObj i (Obj.mapIter (some b) c (seen.push x.born) c); pure (Value.tuple #[Value.bool true, x.key, x.val])
        | some none => pure (Value.tuple #[Value.bool false])
        | none => stuck "Next: no such candidate") h fun v h' => (v = Value.tuple #[Value.bool false] ∧ A h') ∨ ∃ k u, v = Value.tuple #[Value.bool true, k, u] ∧ B k u h' := by
      intro j hj
      have hx : L[j]? = some L[j] := Array.getElem?_eq_getElem hj
      have hx' : (L.map some)[j]? = some (some L[j]) := by rw [Array.getElem?_map, hx]; rfl
      rw [hx']
      generalize hxx : L[j] = x at *
      have hxl : L.toList[j]? = some x := by rw [Array.getElem?_toList]; exact hx
      obtain ⟨cc, hc⟩ : ∃ cc, left[j]? = some cc := ⟨left[j]'(by omega), List.getElem?_eq_getElem _⟩
      obtain ⟨v, p1, p2, p3⟩ := h7.at hc
      have p4 : (x.key, x.val) = (kv cc.1, v) := by
        have := congrArg (fun l => l[j]?) h6
        simp only [List.getElem?_map, hxl, p1, Option.map_some] at this
        exact Option.some.inj this
      have p5 : x.key = kv cc.1 := congrArg Prod.fst p4
      have p6 : x.val = v := congrArg Prod.snd p4
      have hxe : x ∈ e.toList := by
        have : x ∈ L.toList := List.mem_of_getElem? hxl
        rw [hl] at this
        exact (List.mem_filter.1 this).1
      have hilt := (Array.getElem?_eq_some_iff.1 h2).1
      have o1 : Only h (h.setIfInBounds i (.mapIter (some b) c (seen.push x.born) c)) i := ⟨by simp, fun q hq => by rw [Array.getElem?_setIfInBounds, if_neg (fun hh => hq hh.symm)]⟩
      have hg1 : (h.setIfInBounds i (.mapIter (some b) c (seen.push x.born) c))[i]? = some (.mapIter (some b) c (seen.push x.born) c) := by rw [Array.getElem?_setIfInBounds, if_pos rfl, if_pos hilt]
      have hg2 : (h.setIfInBounds i (.mapIter (some b) c (seen.push x.born) c))[b]? = some (.map e c) := by rw [o1.2 b k3]; exact h1
      refine hwp_bind (hwp_setObj h2 (fun _ _ _ hh => by cases hh) (hwp_pure (P := P) (.inr ⟨x.key, x.val, rfl, ?_⟩)))
      rw [p5, p6]
      have hfil : e.toList.filter (fun y => !(seen.push x.born).contains y.born) = L.toList.eraseIdx j := by
        rw [← erase_filter (by rw [hl]; exact filter_pw _ h3.1) hxl, hl, List.filter_filter]
        refine List.filter_congr fun y _ => ?_
        by_cases hy : y.born = x.born
        · simp [hy]
        · have : seen.contains y.born = (seen.push x.born).contains y.born := by
            rw [Bool.eq_iff_iff]; simp [hy]
          rw [← this]; simp [hy]
      have hSt : St (U (fb b) (fb i)) h m (h.setIfInBounds i (.mapIter (some b) c (seen.push x.born) c)) m := by
        refine ⟨.refl _, fun q o' j1 j2 => ?_, by simp, fun q hq hw => o1.2 q (fun hh => hw (.inr (show fb i q from hh))), fun q _ hl' => .inl hl'⟩
        rw [o1.2 q (fun hh => k2 (hh ▸ ⟨o', j1, j2⟩))]
        exact O.s q o' j1 j2
      refine HB j cc _ v _ hc rfl p2 (h9 (R' := rMI M kv b i es (left.eraseIdx j)) hSt ⟨⟨e, c, seen.push x.born, hg2, hg1, h3, ⟨vs, h4, h5⟩, us.eraseIdx j, ?_, p3⟩, k1, k2, k3, rfl⟩ (fun q hq => .inl hq)) fun K hK => ?_
      · rw [hfil, eraseIdx_map, h6, eraseIdx_map]
      · unfold Gen Instr.entry
        simp only [pure_bind]
        refine hwp_bind (hwp_getObj hg1 (fun _ _ _ hh => by cases hh) ?_)
        simp only
        rw [Array.back?_push]
        simp only
        refine hwp_bind (hwp_getObj hg2 (fun _ _ _ hh => by cases hh) ?_)
        simp only
        rw [if_neg (by simp)]
        have hfind : e.find? (fun y => y.born == x.born) = some x := by
          rw [← Array.find?_toList]
          exact find_born h3.1 hxe
        rw [hfind]
        refine hwp_pure (P := P) ?_
        rw [p5, p6]; exact hK
    refine hwp_bind (hwp_mapNext (by simpa using hpos) fun j hj => key j (by simpa using hj))
end
end Go.Hw
namespace Go.Hw
open Go
section
variable {α : Type} {sz : Nat} {E : Heap → α → List Value → Prop} {T : Tell sz E} {m h h0 m0 : Heap} {A B : Option Addr} {l l8 xs : List α} {c c2 k sn sc : Nat} {W : Foot} {P : Program} {t t' e ty : TypeId} {lo hi : Int} {Rs : List Res}
theorem Hold.cpyI {K : Value → Heap → Prop} (O : Hold W h0 m0 h m Rs) (k : Nat) (hk : Rs[k]? = some (rR (aE T) A c l)) (g : Hw.sls l lo hi = some l8) (hs : Src sz E h m (.slice B sn sc) xs) (hu : P.underlying t = some (.slice e)) (hi : (P.info? e).map (·.size) = some sz) (hp : 0 < sz)
    (H : ∀ h', Hold W h0 m0 h' m (Rs.set k (rR (aE T) A c (cpyL l (Int.toNat lo) l8.length xs))) → K (.int .i64 ((min xs.length l8.length : Nat) : Int)) h') : Gen P (Builtin.copy_ #[t, t'] ty #[.slice (sliceA A (Int.toNat lo) c sz) l8.length c2, .slice B sn sc]) h K := by
  cases hh : P.info? e with
  | none => rw [hh] at hi; cases hi
  | some i =>
    rw [hh] at hi
    exact O.cpy k hk g hs hu hh (Option.some.inj hi) hp H
end
end Go.Hw

end
section
namespace Go.Proofs.Ytnlocljmalhddaa.Fw
open Go Go.Hw Go.Proofs
set_option linter.unusedVariables false
set_option synthInstance.maxHeartbeats 400000
set_option synthInstance.maxSize 1000
structure T_heap_Object where
  At : Int
  Kind : Int
  Num : Int
  Text : ByteArray
  Parts : (List Int)
def T_heap_Object.E (h : Heap) (x : T_heap_Object) (cs : List Value) : Prop := ∃ A4 c4, cs = [.int .i64 x.At, .int .i64 x.Kind, .int .i64 x.Num, .string x.Text, .slice A4 x.Parts.length c4] ∧ x.Parts.length ≤ c4 ∧ Rd 1 (eInt .u64) h A4 x.Parts
theorem T_heap_Object.T : Tell 5 T_heap_Object.E := ⟨by rintro m h x _ s ⟨A4, c4, rfl, k4, r4⟩; exact ⟨_, _, rfl, k4, r4.sub (tell_int .u64) s⟩, by rintro h x _ ⟨A4, c4, rfl, k4, r4⟩; rfl, by rintro h x _ ⟨A4, c4, rfl, k4, r4⟩; exact Flats.cons trivial (Flats.cons trivial (Flats.cons trivial (Flats.cons trivial (Flats.cons trivial Flats.nil))))⟩
structure T_carry_copier where
  from_ : (List Int)
  left_ : (List Int)
  to_ : (List Int)
  moved_ : (List (Int × Int))
theorem T_heap_Object.g3 {m : Heap} {x : T_heap_Object} {cs : List Value} (e : T_heap_Object.E m x cs) : cs[3]? = some (Value.string x.Text) := by
  obtain ⟨A4, c4, rfl, k4, r4⟩ := e
  exact rfl
theorem T_heap_Object.g4 {m : Heap} {x : T_heap_Object} {cs : List Value} (e : T_heap_Object.E m x cs) : ∃ A c, cs[4]? = some (.slice A (List.length x.Parts) c) ∧ List.length x.Parts ≤ c ∧ Rd 1 (eInt .u64) m A x.Parts := by
  obtain ⟨A4, c4, rfl, k4, r4⟩ := e
  exact ⟨_, _, rfl, k4, r4⟩
theorem T_heap_Object.g1 {m : Heap} {x : T_heap_Object} {cs : List Value} (e : T_heap_Object.E m x cs) : cs[1]? = some (Value.int .i64 x.Kind) := by
  obtain ⟨A4, c4, rfl, k4, r4⟩ := e
  exact rfl
theorem T_heap_Object.g2 {m : Heap} {x : T_heap_Object} {cs : List Value} (e : T_heap_Object.E m x cs) : cs[2]? = some (Value.int .i64 x.Num) := by
  obtain ⟨A4, c4, rfl, k4, r4⟩ := e
  exact rfl
theorem T_heap_Object.g0 {m : Heap} {x : T_heap_Object} {cs : List Value} (e : T_heap_Object.E m x cs) : cs[0]? = some (Value.int .i64 x.At) := by
  obtain ⟨A4, c4, rfl, k4, r4⟩ := e
  exact rfl
def slices_Clone_42.post (W : Nat → Prop) (h0 m0 : Heap) (r : (List Int)) (v : Value) (h : Heap) : Prop := ∃ m A0 n0 c0, Hold W h0 m0 h m [rR (aE (tell_int .u64)) A0 c0 r] ∧ v = .slice A0 n0 c0 ∧ n0 = List.length r
noncomputable def slices_Clone_42 (a0 : List Int) : Option (List Int) := ap 8 ([] : List Int) a0
set_option maxRecDepth 100000 in
theorem slices_Clone_42.walk {W : Nat → Prop} {h m : Heap} {A0 : Option Addr} {n0 c0 : Nat} {a0 : List Int} (O : Hold W h m h m []) (ne0 : n0 = List.length a0) (k0 : List.length a0 ≤ c0) (r0 : Rd 1 (eInt .u64) m A0 a0) {r : List Int} (e : slices_Clone_42 a0 = some r) : Run Try.prog 42 #[Value.slice A0 n0 c0] h (slices_Clone_42.post W h m r) := by
  unfold slices_Clone_42 at e
  subst ne0
  refine f42.run ?_
  unfold f42.runT
  cases A0 with
  | none =>
    refine split_t ?_
    obtain rfl := Rd.void r0
    obtain rfl : [] = r := by have := (ap_e e).2; simpa using this
    exact ⟨m, none, 0, 0, O.nil (aE (tell_int .u64)) none, rfl, rfl⟩
  | some a =>
    refine split_f ?_
    refine O.new fun h1 x1 O1 => ?_
    refine O1.appE0 (tell_int .u64) rfl rfl (r0.srcE (tell_int .u64) O1.s rfl) (by decide) e fun A4 c4 h4 x4 O4 => ?_
    refine ⟨_, _, _, rfl, ?_⟩
    exact ⟨m, _, _, _, O4.pick [1], rfl, rfl⟩
theorem slices_Clone_42.val (l : List Int) (h : l.length * 8 ≤ 140737488355328) : slices_Clone_42 l = some l := ap_nil h
def heap_room.post (W : Nat → Prop) (h0 m0 : Heap) (r : Int) (v : Value) (h : Heap) : Prop := ∃ m , Hold W h0 m0 h m [] ∧ v = .int .i64 r
noncomputable def heap_room.j0 (x_7 : Int) (b_19 : Bool) : Option (Int) :=
  if b_19 = true then (some ((IntKind.wrap .i64 (x_7 + (1 : Int))))) else (some (x_7))
set_option maxRecDepth 100000 in
theorem heap_room.j0.walk {W : Nat → Prop} {h0 m0 h m : Heap} {x_7 : Int} {b_19 : Bool} (O : Hold W h0 m0 h m []) {r : Int} (e : heap_room.j0 x_7 b_19 = some r) : f97.j0 (heap_room.post W h0 m0 r) x_7 b_19 h := by
  unfold heap_room.j0 at e
  refine f97.j0_in ?_
  unfold f97.j0T
  refine split_any_e e (fun c1 e => ?_) (fun c1 e => ?_)
  · cases e
    exact ⟨_, O.pick [], rfl⟩
  · cases e
    exact ⟨_, O.pick [], rfl⟩
noncomputable def heap_room (x_0 : Int) (x_1 : Int) (x_2 : Int) : Option (Int) :=
  if x_0 = (1 : Int) then ((heap_room.j0 (IntKind.wrap .i64 ((IntKind.wrap .i64 ((1 : Int) + (IntKind.wrap .i64 (Int.tdiv (IntKind.wrap .i64 (x_1 + (7 : Int))) (8 : Int))))) + x_2)) true)) else ((heap_room.j0 (IntKind.wrap .i64 ((IntKind.wrap .i64 ((1 : Int) + (IntKind.wrap .i64 (Int.tdiv (IntKind.wrap .i64 (x_1 + (7 : Int))) (8 : Int))))) + x_2)) (x_0 == (4 : Int))))
set_option maxRecDepth 100000 in
theorem heap_room.walk {W : Nat → Prop} {h m : Heap} {x_0 : Int} {x_1 : Int} {x_2 : Int} (O : Hold W h m h m []) {r : Int} (e : heap_room x_0 x_1 x_2 = some r) : Run Try.prog 97 #[Value.int .i64 x_0, Value.int .i64 x_1, Value.int .i64 x_2] h (heap_room.post W h m r) := by
  unfold heap_room at e
  refine f97.run ?_
  unfold f97.runT
  refine ⟨by decide, ?_⟩
  refine split_eq_e e (fun c1 e => ?_) (fun c1 e => ?_)
  · exact heap_room.j0.walk (O.pick []).nm  e
  · exact heap_room.j0.walk (O.pick []).nm  e
def heap_right.post (W : Nat → Prop) (h0 m0 : Heap) (r : Bool) (v : Value) (h : Heap) : Prop := ∃ m , Hold W h0 m0 h m [] ∧ v = .bool r
noncomputable def heap_right.j0 (y_1 : T_heap_Object) : Option (Bool) :=
  if y_1.Kind = (5 : Int) then (some ((decide ((((List.length y_1.Parts) : Nat) : Int) ≤ (1 : Int))))) else (some (true))
set_option maxRecDepth 100000 in
theorem heap_right.j0.walk {W : Nat → Prop} {h0 m0 h m : Heap} {bk_1 : Nat} {cs_1 : List Value} {y_1 : T_heap_Object} (O : Hold W h0 m0 h m [rV bk_1 152 cs_1]) (e_1 : T_heap_Object.E m y_1 cs_1) {r : Bool} (e : heap_right.j0 y_1 = some r) : f106.j0 (heap_right.post W h0 m0 r) (⟨bk_1, 0, none⟩ : Addr) h := by
  unfold heap_right.j0 at e
  refine f106.j0_in ?_
  unfold f106.j0T
  refine ⟨_, ldk (k := 1) (Sub.refl _) (O.all 0 rfl) (T_heap_Object.g1 e_1), _, rfl, ?_⟩
  refine split_ne_e e (fun c6 e => ?_) (fun c6 e => ?_)
  · cases e
    exact ⟨_, O.pick [], rfl⟩
  · obtain ⟨A1, c2, q3, k4, r5⟩ := T_heap_Object.g4 e_1
    refine ⟨_, ldk (k := 4) (Sub.refl _) (O.all 0 rfl) q3, _, _, _, rfl, ?_⟩
    cases e
    exact ⟨_, O.pick [], rfl⟩
noncomputable def heap_right.j3 (y_1 : T_heap_Object) (b_24 : Bool) : Option (Bool) :=
  if b_24 = true then (if b_24 = true then (some (false)) else ((heap_right.j0 y_1))) else (if y_1.Kind = (1 : Int) then ((heap_right.j0 y_1)) else (if y_1.Kind = (4 : Int) then ((heap_right.j0 y_1)) else (if y_1.Num = (0 : Int) then ((heap_right.j0 y_1)) else (some (false)))))
set_option maxRecDepth 100000 in
theorem heap_right.j3.walk {W : Nat → Prop} {h0 m0 h m : Heap} {bk_1 : Nat} {cs_1 : List Value} {y_1 : T_heap_Object} {b_24 : Bool} (O : Hold W h0 m0 h m [rV bk_1 152 cs_1]) (e_1 : T_heap_Object.E m y_1 cs_1) {r : Bool} (e : heap_right.j3 y_1 b_24 = some r) : f106.j3 (heap_right.post W h0 m0 r) (⟨bk_1, 0, none⟩ : Addr) b_24 h := by
  unfold heap_right.j3 at e
  refine f106.j3_in ?_
  unfold f106.j3T
  refine split_any_e e (fun c5 e => ?_) (fun c5 e => ?_)
  · refine split_any_e e (fun c1 e => ?_) (fun c1 e => ?_)
    · cases e
      exact ⟨_, O.pick [], rfl⟩
    · exact heap_right.j0.walk (O.pick [0]).nm e_1 e
  · refine ⟨_, ldk (k := 1) (Sub.refl _) (O.all 0 rfl) (T_heap_Object.g1 e_1), _, rfl, ?_⟩
    refine split_ne_e e (fun c4 e => ?_) (fun c4 e => ?_)
    · refine ⟨_, ldk (k := 1) (Sub.refl _) (O.all 0 rfl) (T_heap_Object.g1 e_1), _, rfl, ?_⟩
      refine split_ne_e e (fun c3 e => ?_) (fun c3 e => ?_)
      · refine ⟨_, ldk (k := 2) (Sub.refl _) (O.all 0 rfl) (T_heap_Object.g2 e_1), _, rfl, ?_⟩
        refine split_ne_e e (fun c2 e => ?_) (fun c2 e => ?_)
        · cases e
          exact ⟨_, O.pick [], rfl⟩
        · exact heap_right.j0.walk (O.pick [0]).nm e_1 e
      · exact heap_right.j0.walk (O.pick [0]).nm e_1 e
    · exact heap_right.j0.walk (O.pick [0]).nm e_1 e
noncomputable def heap_right.j2 (y_1 : T_heap_Object) (b_24 : Bool) : Option (Bool) :=
  if b_24 = true then (if b_24 = true then (some (false)) else ((heap_right.j0 y_1))) else (if y_1.Kind = (2 : Int) then ((heap_right.j3 y_1 false)) else (if y_1.Kind = (3 : Int) then ((heap_right.j3 y_1 false)) else ((heap_right.j3 y_1 (!(decide (y_1.Text = (ByteArray.mk #[]))))))))
set_option maxRecDepth 100000 in
theorem heap_right.j2.walk {W : Nat → Prop} {h0 m0 h m : Heap} {bk_1 : Nat} {cs_1 : List Value} {y_1 : T_heap_Object} {b_24 : Bool} (O : Hold W h0 m0 h m [rV bk_1 152 cs_1]) (e_1 : T_heap_Object.E m y_1 cs_1) {r : Bool} (e : heap_right.j2 y_1 b_24 = some r) : f106.j2 (heap_right.post W h0 m0 r) (⟨bk_1, 0, none⟩ : Addr) b_24 h := by
  unfold heap_right.j2 at e
  refine f106.j2_in ?_
  unfold f106.j2T
  refine split_any_e e (fun c4 e => ?_) (fun c4 e => ?_)
  · refine split_any_e e (fun c1 e => ?_) (fun c1 e => ?_)
    · cases e
      exact ⟨_, O.pick [], rfl⟩
    · exact heap_right.j0.walk (O.pick [0]).nm e_1 e
  · refine ⟨_, ldk (k := 1) (Sub.refl _) (O.all 0 rfl) (T_heap_Object.g1 e_1), _, rfl, ?_⟩
    refine split_ne_e e (fun c3 e => ?_) (fun c3 e => ?_)
    · refine ⟨_, ldk (k := 1) (Sub.refl _) (O.all 0 rfl) (T_heap_Object.g1 e_1), _, rfl, ?_⟩
      refine split_ne_e e (fun c2 e => ?_) (fun c2 e => ?_)
      · refine ⟨_, ldk (k := 3) (Sub.refl _) (O.all 0 rfl) (T_heap_Object.g3 e_1), _, rfl, ?_⟩
        try rw [ba_list y_1.Text (ByteArray.mk #[])]
        exact heap_right.j3.walk (O.pick [0]).nm e_1 e
      · exact heap_right.j3.walk (O.pick [0]).nm e_1 e
    · exact heap_right.j3.walk (O.pick [0]).nm e_1 e
noncomputable def heap_right.j1 (y_1 : T_heap_Object) (b_3 : Bool) : Option (Bool) :=
  if b_3 = true then (some (false)) else (if y_1.Kind = (1 : Int) then ((heap_right.j2 y_1 (decide ((((List.length y_1.Parts) : Nat) : Int) > (0 : Int))))) else (if y_1.Kind = (2 : Int) then ((heap_right.j2 y_1 (decide ((((List.length y_1.Parts) : Nat) : Int) > (0 : Int))))) else ((heap_right.j2 y_1 false))))
set_option maxRecDepth 100000 in
theorem heap_right.j1.walk {W : Nat → Prop} {h0 m0 h m : Heap} {bk_1 : Nat} {cs_1 : List Value} {y_1 : T_heap_Object} {b_3 : Bool} (O : Hold W h0 m0 h m [rV bk_1 152 cs_1]) (e_1 : T_heap_Object.E m y_1 cs_1) {r : Bool} (e : heap_right.j1 y_1 b_3 = some r) : f106.j1 (heap_right.post W h0 m0 r) (⟨bk_1, 0, none⟩ : Addr) b_3 h := by
  unfold heap_right.j1 at e
  refine f106.j1_in ?_
  unfold f106.j1T
  refine split_any_e e (fun c13 e => ?_) (fun c13 e => ?_)
  · cases e
    exact ⟨_, O.pick [], rfl⟩
  · refine ⟨_, ldk (k := 1) (Sub.refl _) (O.all 0 rfl) (T_heap_Object.g1 e_1), _, rfl, ?_⟩
    refine split_eq_e e (fun c12 e => ?_) (fun c12 e => ?_)
    · obtain ⟨A1, c2, q3, k4, r5⟩ := T_heap_Object.g4 e_1
      refine ⟨_, ldk (k := 4) (Sub.refl _) (O.all 0 rfl) q3, _, _, _, rfl, ?_⟩
      exact heap_right.j2.walk (O.pick [0]).nm e_1 e
    · refine ⟨_, ldk (k := 1) (Sub.refl _) (O.all 0 rfl) (T_heap_Object.g1 e_1), _, rfl, ?_⟩
      refine split_eq_e e (fun c11 e => ?_) (fun c11 e => ?_)
      · obtain ⟨A6, c7, q8, k9, r10⟩ := T_heap_Object.g4 e_1
        refine ⟨_, ldk (k := 4) (Sub.refl _) (O.all 0 rfl) q8, _, _, _, rfl, ?_⟩
        exact heap_right.j2.walk (O.pick [0]).nm e_1 e
      · exact heap_right.j2.walk (O.pick [0]).nm e_1 e
noncomputable def heap_right (y_0 : T_heap_Object) : Option (Bool) :=
  if ((ByteArray.size y_0.Text : Nat) : Int) > (64 : Int) then ((heap_right.j1 y_0 true)) else (if (((List.length y_0.Parts) : Nat) : Int) > (400 : Int) then ((heap_right.j1 y_0 true)) else (if y_0.Kind < (1 : Int) then ((heap_right.j1 y_0 true)) else ((heap_right.j1 y_0 (decide (y_0.Kind > (5 : Int)))))))
set_option maxRecDepth 100000 in
theorem heap_right.walk {W : Nat → Prop} {h m : Heap} {cs_0 : List Value} {y_0 : T_heap_Object} (O : Hold W h m h m []) (e_0 : T_heap_Object.E m y_0 cs_0) {r : Bool} (e : heap_right y_0 = some r) : Run Try.prog 106 #[Value.agg cs_0.toArray] h (heap_right.post W h m r) := by
  unfold heap_right at e
  refine f106.run ?_
  unfold f106.runT
  refine O.new fun h1 x2 O3 => ?_
  refine ⟨_, ldk (k := 3) (Sub.refl _) (O3.all 0 rfl) (T_heap_Object.g3 e_0), _, rfl, ?_⟩
  refine split_dec_e e (fun c16 e => ?_) (fun c16 e => ?_)
  · have O5 := O3.nm
    exact heap_right.j1.walk (O5.pick [0]).nm e_0 e
  · obtain ⟨A6, c7, q8, k9, r10⟩ := T_heap_Object.g4 e_0
    refine ⟨_, ldk (k := 4) (Sub.refl _) (O3.all 0 rfl) q8, _, _, _, rfl, ?_⟩
    refine split_dec_e e (fun c15 e => ?_) (fun c15 e => ?_)
    · have O11 := O3.nm
      exact heap_right.j1.walk (O11.pick [0]).nm e_0 e
    · refine ⟨_, ldk (k := 1) (Sub.refl _) (O3.all 0 rfl) (T_heap_Object.g1 e_0), _, rfl, ?_⟩
      refine split_dec_e e (fun c14 e => ?_) (fun c14 e => ?_)
      · have O12 := O3.nm
        exact heap_right.j1.walk (O12.pick [0]).nm e_0 e
      · refine ⟨_, ldk (k := 1) (Sub.refl _) (O3.all 0 rfl) (T_heap_Object.g1 e_0), _, rfl, ?_⟩
        have O13 := O3.nm
        exact heap_right.j1.walk (O13.pick [0]).nm e_0 e
def heap_head.post (W : Nat → Prop) (h0 m0 : Heap) (r : Int) (v : Value) (h : Heap) : Prop := ∃ m , Hold W h0 m0 h m [] ∧ v = .int .u64 r
noncomputable def heap_head (y_0 : T_heap_Object) : Option (Int) :=
  some ((bitsI .or .u64 (bitsI .or .u64 (IntKind.wrap .u64 y_0.Kind) (shlI .u64 (IntKind.wrap .u64 ((ByteArray.size y_0.Text : Nat) : Int)) (8 : Int))) (shlI .u64 (IntKind.wrap .u64 (((List.length y_0.Parts) : Nat) : Int)) (20 : Int))))
set_option maxRecDepth 100000 in
theorem heap_head.walk {W : Nat → Prop} {h m : Heap} {cs_0 : List Value} {y_0 : T_heap_Object} (O : Hold W h m h m []) (e_0 : T_heap_Object.E m y_0 cs_0) {r : Int} (e : heap_head y_0 = some r) : Run Try.prog 107 #[Value.agg cs_0.toArray] h (heap_head.post W h m r) := by
  unfold heap_head at e
  refine f107.run ?_
  unfold f107.runT
  refine O.new fun h1 x2 O3 => ?_
  refine ⟨_, ldk (k := 1) (Sub.refl _) (O3.all 0 rfl) (T_heap_Object.g1 e_0), _, rfl, ?_⟩
  refine ⟨_, ldk (k := 3) (Sub.refl _) (O3.all 0 rfl) (T_heap_Object.g3 e_0), _, rfl, ?_⟩
  refine ⟨by decide, ?_⟩
  obtain ⟨A5, c6, q7, k8, r9⟩ := T_heap_Object.g4 e_0
  refine ⟨_, ldk (k := 4) (Sub.refl _) (O3.all 0 rfl) q7, _, _, _, rfl, ?_⟩
  refine ⟨by decide, ?_⟩
  have O10 := O3.nm
  cases e
  exact ⟨_, O10.pick [], rfl⟩
def heap_Put.post (W : Nat → Prop) (h0 m0 : Heap) (r : (List Int) × Int × Int) (v : Value) (h : Heap) : Prop := ∃ m A0 n0 c0, Hold W h0 m0 h m [rR (aE (tell_int .u64)) A0 c0 r.1] ∧ v = .tuple #[.slice A0 n0 c0, .int .i64 r.2.1, .int .i64 r.2.2] ∧ n0 = List.length r.1
inductive heap_Put.l0_k.Pt where
  | l0 (a_0 : List Int) (y_3 : T_heap_Object) (a_7 : List Int) (x_8 : Int)
  | l1 (a_0 : List Int) (y_3 : T_heap_Object) (a_7 : List Int) (x_8 : Int) (x_9 : Int) (x_56 : Int)
noncomputable def heap_Put.l0_k.body (go : (p : heap_Put.l0_k.Pt) → Option ((List Int) × Int × Int)) : (p : heap_Put.l0_k.Pt) → Option ((List Int) × Int × Int)
  | .l0 a_0 y_3 a_7 x_8 => if x_8 < ((ByteArray.size y_3.Text : Nat) : Int) then ((go (.l1 a_0 y_3 a_7 x_8 (0 : Int) (0 : Int)))) else (Option.bind (ap 8 a_7 y_3.Parts) fun l6 => some (l6, (((List.length a_0) : Nat) : Int), (0 : Int)))
  | .l1 a_0 y_3 a_7 x_8 x_9 x_56 => if x_56 < (8 : Int) then (if (IntKind.wrap .i64 (x_8 + x_56)) < ((ByteArray.size y_3.Text : Nat) : Int) then (Option.bind (gb y_3.Text (IntKind.wrap .i64 (x_8 + x_56))) fun y1 => if 0 ≤ (IntKind.wrap .i64 ((8 : Int) * x_56)) then ((go (.l1 a_0 y_3 a_7 x_8 (bitsI .or .u64 x_9 (shlI .u64 (IntKind.wrap .u64 y1) (IntKind.wrap .i64 ((8 : Int) * x_56)))) (IntKind.wrap .i64 (x_56 + (1 : Int)))))) else none) else ((go (.l1 a_0 y_3 a_7 x_8 x_9 (IntKind.wrap .i64 (x_56 + (1 : Int))))))) else (Option.bind (ap 8 a_7 ([x_9] : List Int)) fun l13 => (go (.l0 a_0 y_3 l13 (IntKind.wrap .i64 (x_8 + (8 : Int))))))
theorem heap_Put.l0_k.mono : MonoF (β := fun _ => ((List Int) × Int × Int)) heap_Put.l0_k.body := fun f g hfg p => match p with
  | .l0 a_0 y_3 a_7 x_8 => LeO.ite ((hfg _)) (LeO.bind (LeO.refl _) fun l6 => LeO.refl _)
  | .l1 a_0 y_3 a_7 x_8 x_9 x_56 => LeO.ite (LeO.ite (LeO.bind (LeO.refl _) fun y1 => LeO.ite ((hfg _)) (LeO.refl _)) ((hfg _))) (LeO.bind (LeO.refl _) fun l13 => (hfg _))
noncomputable def heap_Put.l0_k.go (p : heap_Put.l0_k.Pt) : Option ((List Int) × Int × Int) := fixF (β := fun _ => ((List Int) × Int × Int)) heap_Put.l0_k.body p
noncomputable def heap_Put.l0 (a_0 : List Int) (y_3 : T_heap_Object) (a_7 : List Int) (x_8 : Int) : Option ((List Int) × Int × Int) := heap_Put.l0_k.go (.l0 a_0 y_3 a_7 x_8)
noncomputable def heap_Put.l1 (a_0 : List Int) (y_3 : T_heap_Object) (a_7 : List Int) (x_8 : Int) (x_9 : Int) (x_56 : Int) : Option ((List Int) × Int × Int) := heap_Put.l0_k.go (.l1 a_0 y_3 a_7 x_8 x_9 x_56)
theorem heap_Put.l0_eq (a_0 : List Int) (y_3 : T_heap_Object) (a_7 : List Int) (x_8 : Int) : heap_Put.l0 a_0 y_3 a_7 x_8 = if x_8 < ((ByteArray.size y_3.Text : Nat) : Int) then ((heap_Put.l1 a_0 y_3 a_7 x_8 (0 : Int) (0 : Int))) else (Option.bind (ap 8 a_7 y_3.Parts) fun l6 => some (l6, (((List.length a_0) : Nat) : Int), (0 : Int))) := fixF_eq heap_Put.l0_k.mono _
theorem heap_Put.l1_eq (a_0 : List Int) (y_3 : T_heap_Object) (a_7 : List Int) (x_8 : Int) (x_9 : Int) (x_56 : Int) : heap_Put.l1 a_0 y_3 a_7 x_8 x_9 x_56 = if x_56 < (8 : Int) then (if (IntKind.wrap .i64 (x_8 + x_56)) < ((ByteArray.size y_3.Text : Nat) : Int) then (Option.bind (gb y_3.Text (IntKind.wrap .i64 (x_8 + x_56))) fun y1 => if 0 ≤ (IntKind.wrap .i64 ((8 : Int) * x_56)) then ((heap_Put.l1 a_0 y_3 a_7 x_8 (bitsI .or .u64 x_9 (shlI .u64 (IntKind.wrap .u64 y1) (IntKind.wrap .i64 ((8 : Int) * x_56)))) (IntKind.wrap .i64 (x_56 + (1 : Int))))) else none) else ((heap_Put.l1 a_0 y_3 a_7 x_8 x_9 (IntKind.wrap .i64 (x_56 + (1 : Int)))))) else (Option.bind (ap 8 a_7 ([x_9] : List Int)) fun l13 => (heap_Put.l0 a_0 y_3 l13 (IntKind.wrap .i64 (x_8 + (8 : Int))))) := fixF_eq heap_Put.l0_k.mono _
def heap_Put.l0_k.I : (p : heap_Put.l0_k.Pt) → ((List Int) × Int × Int) → Prop
  | .l0 a_0 y_3 a_7 x_8, r => ∀ (W : Nat → Prop) (h0 m0 h m : Heap) (A_0 : Option Addr) (n_0 c_0 : Nat) (bk_3 : Nat) (cs_3 : List Value) (A_7 : Option Addr) (n_7 c_7 : Nat) (O : Hold W h0 m0 h m [rV bk_3 152 cs_3, rR (aE (tell_int .u64)) A_7 c_7 a_7]) (ne_0 : n_0 = List.length a_0) (k_0 : List.length a_0 ≤ c_0) (r_0 : Rd 1 (eInt .u64) m A_0 a_0) (e_3 : T_heap_Object.E m y_3 cs_3) (ne_7 : n_7 = List.length a_7), f103.l0 (heap_Put.post W h0 m0 r) A_0 n_0 c_0 (⟨bk_3, 0, none⟩ : Addr) A_7 n_7 c_7 x_8 h
  | .l1 a_0 y_3 a_7 x_8 x_9 x_56, r => ∀ (W : Nat → Prop) (h0 m0 h m : Heap) (A_0 : Option Addr) (n_0 c_0 : Nat) (bk_3 : Nat) (cs_3 : List Value) (A_7 : Option Addr) (n_7 c_7 : Nat) (O : Hold W h0 m0 h m [rV bk_3 152 cs_3, rR (aE (tell_int .u64)) A_7 c_7 a_7]) (ne_0 : n_0 = List.length a_0) (k_0 : List.length a_0 ≤ c_0) (r_0 : Rd 1 (eInt .u64) m A_0 a_0) (e_3 : T_heap_Object.E m y_3 cs_3) (ne_7 : n_7 = List.length a_7), f103.l1 (heap_Put.post W h0 m0 r) A_0 n_0 c_0 (⟨bk_3, 0, none⟩ : Addr) A_7 n_7 c_7 x_8 x_9 x_56 h
set_option maxRecDepth 100000 in
theorem heap_Put.l0_k.step_l0 (go : (p : heap_Put.l0_k.Pt) → Option ((List Int) × Int × Int)) (ih : ∀ p r, go p = some r → heap_Put.l0_k.I p r) (a_0 : List Int) (y_3 : T_heap_Object) (a_7 : List Int) (x_8 : Int) (r : (List Int) × Int × Int) (e : heap_Put.l0_k.body go (.l0 a_0 y_3 a_7 x_8) = some r) : heap_Put.l0_k.I (.l0 a_0 y_3 a_7 x_8) r := by
  unfold heap_Put.l0_k.body at e
  intro W h0 m0 h m A_0 n_0 c_0 bk_3 cs_3 A_7 n_7 c_7 O ne_0 k_0 r_0 e_3 ne_7
  subst ne_0
  subst ne_7
  refine f103.l0_in ?_
  unfold f103.l0T
  refine ⟨_, ldk (k := 3) (Sub.refl _) (O.all 0 rfl) (T_heap_Object.g3 e_3), _, rfl, ?_⟩
  refine split_dec_e e (fun c15 e => ?_) (fun c15 e => ?_)
  · exact (ih _ _ e) _ _ _ _ _ _ _ _ _ _ _ _ _ (O.pick [0, 1]).nm rfl k_0 r_0 e_3 rfl
  · obtain ⟨A1, c2, q3, k4, r5⟩ := T_heap_Object.g4 e_3
    refine ⟨_, ldk (k := 4) (Sub.refl _) (O.all 0 rfl) q3, _, _, _, rfl, ?_⟩
    obtain ⟨l6, g7, e⟩ := bind_e e
    refine O.app 1 rfl rfl rfl (Rd.srcE r5 (tell_int .u64) O.s rfl) (by decide) g7 fun A8 c9 h10 O11 => ?_
    refine ⟨_, _, _, rfl, ?_⟩
    have O14 := O11.nm
    cases e
    exact ⟨_, _, _, _, O14.pick [1], rfl, rfl⟩
set_option maxRecDepth 100000 in
theorem heap_Put.l0_k.step_l1 (go : (p : heap_Put.l0_k.Pt) → Option ((List Int) × Int × Int)) (ih : ∀ p r, go p = some r → heap_Put.l0_k.I p r) (a_0 : List Int) (y_3 : T_heap_Object) (a_7 : List Int) (x_8 : Int) (x_9 : Int) (x_56 : Int) (r : (List Int) × Int × Int) (e : heap_Put.l0_k.body go (.l1 a_0 y_3 a_7 x_8 x_9 x_56) = some r) : heap_Put.l0_k.I (.l1 a_0 y_3 a_7 x_8 x_9 x_56) r := by
  unfold heap_Put.l0_k.body at e
  intro W h0 m0 h m A_0 n_0 c_0 bk_3 cs_3 A_7 n_7 c_7 O ne_0 k_0 r_0 e_3 ne_7
  subst ne_0
  subst ne_7
  refine f103.l1_in ?_
  unfold f103.l1T
  refine split_dec_e e (fun c23 e => ?_) (fun c23 e => ?_)
  · refine ⟨_, ldk (k := 3) (Sub.refl _) (O.all 0 rfl) (T_heap_Object.g3 e_3), _, rfl, ?_⟩
    refine split_dec_e e (fun c8 e => ?_) (fun c8 e => ?_)
    · refine ⟨_, ldk (k := 3) (Sub.refl _) (O.all 0 rfl) (T_heap_Object.g3 e_3), _, rfl, ?_⟩
      obtain ⟨y1, g2, e⟩ := bind_e e
      obtain ⟨q3, b4, q5, q6⟩ := gb_e g2
      refine ⟨q3, _, q5, ?_⟩
      try rw [← q6]
      obtain ⟨g7, e⟩ := guard_e e
      refine ⟨g7, ?_⟩
      exact (ih _ _ e) _ _ _ _ _ _ _ _ _ _ _ _ _ (O.pick [0, 1]).nm rfl k_0 r_0 e_3 rfl
    · exact (ih _ _ e) _ _ _ _ _ _ _ _ _ _ _ _ _ (O.pick [0, 1]).nm rfl k_0 r_0 e_3 rfl
  · refine O.new fun h9 x10 O11 => ?_
    obtain ⟨l13, g14, e⟩ := bind_e e
    have O21 := O11.rowE (l := ([x_9] : List Int)) 2 rfl (tell_int .u64) (show CsE _ _ _ _ _ from (CsE.cons (c1 := [(Value.int .u64 x_9)]) rfl rfl CsE.nil)) rfl
    refine O21.app 1 rfl rfl rfl ((O21.os 2 rfl).srcE rfl) (by decide) g14 fun A15 c16 h17 O18 => ?_
    refine ⟨_, _, _, rfl, ?_⟩
    have O22 := O18.nm
    exact (ih _ _ e) _ _ _ _ _ _ _ _ _ _ _ _ _ (O22.pick [0, 1]).nm rfl k_0 r_0 e_3 rfl
theorem heap_Put.l0_k.all {p : heap_Put.l0_k.Pt} {r : ((List Int) × Int × Int)} (e : heap_Put.l0_k.go p = some r) : heap_Put.l0_k.I p r := fixF_ind (β := fun _ => ((List Int) × Int × Int)) heap_Put.l0_k.mono (I := heap_Put.l0_k.I) (fun go ih p r e => match p with
  | .l0 a_0 y_3 a_7 x_8 => heap_Put.l0_k.step_l0 go ih a_0 y_3 a_7 x_8 r e
  | .l1 a_0 y_3 a_7 x_8 x_9 x_56 => heap_Put.l0_k.step_l1 go ih a_0 y_3 a_7 x_8 x_9 x_56 r e
  ) e
theorem heap_Put.l0.walk {W : Nat → Prop} {h0 m0 h m : Heap} {A_0 : Option Addr} {n_0 c_0 : Nat} {bk_3 : Nat} {cs_3 : List Value} {A_7 : Option Addr} {n_7 c_7 : Nat} {a_0 : List Int} {y_3 : T_heap_Object} {a_7 : List Int} {x_8 : Int} (O : Hold W h0 m0 h m [rV bk_3 152 cs_3, rR (aE (tell_int .u64)) A_7 c_7 a_7]) (ne_0 : n_0 = List.length a_0) (k_0 : List.length a_0 ≤ c_0) (r_0 : Rd 1 (eInt .u64) m A_0 a_0) (e_3 : T_heap_Object.E m y_3 cs_3) (ne_7 : n_7 = List.length a_7) {r : (List Int) × Int × Int} (e : heap_Put.l0 a_0 y_3 a_7 x_8 = some r) : f103.l0 (heap_Put.post W h0 m0 r) A_0 n_0 c_0 (⟨bk_3, 0, none⟩ : Addr) A_7 n_7 c_7 x_8 h := heap_Put.l0_k.all (p := .l0 a_0 y_3 a_7 x_8) e W h0 m0 h m A_0 n_0 c_0 bk_3 cs_3 A_7 n_7 c_7 O ne_0 k_0 r_0 e_3 ne_7
noncomputable def heap_Put.j0 (a_0 : List Int) (y_3 : T_heap_Object) (a_7 : List Int) : Option ((List Int) × Int × Int) :=
  (heap_Put.l0 a_0 y_3 a_7 (0 : Int))
set_option maxRecDepth 100000 in
theorem heap_Put.j0.walk {W : Nat → Prop} {h0 m0 h m : Heap} {A_0 : Option Addr} {n_0 c_0 : Nat} {bk_3 : Nat} {cs_3 : List Value} {A_7 : Option Addr} {n_7 c_7 : Nat} {a_0 : List Int} {y_3 : T_heap_Object} {a_7 : List Int} (O : Hold W h0 m0 h m [rV bk_3 152 cs_3, rR (aE (tell_int .u64)) A_7 c_7 a_7]) (ne_0 : n_0 = List.length a_0) (k_0 : List.length a_0 ≤ c_0) (r_0 : Rd 1 (eInt .u64) m A_0 a_0) (e_3 : T_heap_Object.E m y_3 cs_3) (ne_7 : n_7 = List.length a_7) {r : (List Int) × Int × Int} (e : heap_Put.j0 a_0 y_3 a_7 = some r) : f103.j0 (heap_Put.post W h0 m0 r) A_0 n_0 c_0 (⟨bk_3, 0, none⟩ : Addr) A_7 n_7 c_7 h := by
  unfold heap_Put.j0 at e
  subst ne_0
  subst ne_7
  refine f103.j0_in ?_
  unfold f103.j0T
  exact heap_Put.l0.walk (O.pick [0, 1]).nm rfl k_0 r_0 e_3 rfl e
noncomputable def heap_Put.j1 (a_0 : List Int) (y_3 : T_heap_Object) (a_7 : List Int) (b_42 : Bool) : Option ((List Int) × Int × Int) :=
  if b_42 = true then (Option.bind (ap 8 a_7 ([(IntKind.wrap .u64 y_3.Num)] : List Int)) fun l5 => (heap_Put.j0 a_0 y_3 l5)) else ((heap_Put.j0 a_0 y_3 a_7))
set_option maxRecDepth 100000 in
theorem heap_Put.j1.walk {W : Nat → Prop} {h0 m0 h m : Heap} {A_0 : Option Addr} {n_0 c_0 : Nat} {bk_3 : Nat} {cs_3 : List Value} {A_7 : Option Addr} {n_7 c_7 : Nat} {a_0 : List Int} {y_3 : T_heap_Object} {a_7 : List Int} {b_42 : Bool} (O : Hold W h0 m0 h m [rV bk_3 152 cs_3, rR (aE (tell_int .u64)) A_7 c_7 a_7]) (ne_0 : n_0 = List.length a_0) (k_0 : List.length a_0 ≤ c_0) (r_0 : Rd 1 (eInt .u64) m A_0 a_0) (e_3 : T_heap_Object.E m y_3 cs_3) (ne_7 : n_7 = List.length a_7) {r : (List Int) × Int × Int} (e : heap_Put.j1 a_0 y_3 a_7 b_42 = some r) : f103.j1 (heap_Put.post W h0 m0 r) A_0 n_0 c_0 (⟨bk_3, 0, none⟩ : Addr) A_7 n_7 c_7 b_42 h := by
  unfold heap_Put.j1 at e
  subst ne_0
  subst ne_7
  refine f103.j1_in ?_
  unfold f103.j1T
  refine split_any_e e (fun c15 e => ?_) (fun c15 e => ?_)
  · refine ⟨_, ldk (k := 2) (Sub.refl _) (O.all 0 rfl) (T_heap_Object.g2 e_3), _, rfl, ?_⟩
    refine O.new fun h1 x2 O3 => ?_
    obtain ⟨l5, g6, e⟩ := bind_e e
    have O13 := O3.rowE (l := ([(IntKind.wrap .u64 y_3.Num)] : List Int)) 2 rfl (tell_int .u64) (show CsE _ _ _ _ _ from (CsE.cons (c1 := [(Value.int .u64 (IntKind.wrap .u64 y_3.Num))]) rfl rfl CsE.nil)) rfl
    refine O13.app 1 rfl rfl rfl ((O13.os 2 rfl).srcE rfl) (by decide) g6 fun A7 c8 h9 O10 => ?_
    refine ⟨_, _, _, rfl, ?_⟩
    have O14 := O10.nm
    exact heap_Put.j0.walk (O14.pick [0, 1]).nm rfl k_0 r_0 e_3 rfl e
  · exact heap_Put.j0.walk (O.pick [0, 1]).nm rfl k_0 r_0 e_3 rfl e
noncomputable def heap_Put (a_0 : List Int) (y_1 : T_heap_Object) : Option ((List Int) × Int × Int) :=
  Option.bind (heap_right y_1) fun y5 => if y5 = true then (Option.bind (heap_room y_1.Kind ((ByteArray.size y_1.Text : Nat) : Int) (((List.length y_1.Parts) : Nat) : Int)) fun y17 => if (((List.length a_0) : Nat) : Int) > (IntKind.wrap .i64 ((4000 : Int) - y17)) then (some (([] : List Int), (0 : Int), (6 : Int))) else (Option.bind (slices_Clone_42 a_0) fun y27 => Option.bind (heap_head y_1) fun y39 => Option.bind (ap 8 y27 ([y39] : List Int)) fun l50 => if y_1.Kind = (1 : Int) then ((heap_Put.j1 a_0 y_1 l50 true)) else ((heap_Put.j1 a_0 y_1 l50 (y_1.Kind == (4 : Int)))))) else (some (([] : List Int), (0 : Int), (1 : Int)))
set_option maxHeartbeats 4000000 in
set_option maxRecDepth 100000 in
theorem heap_Put.walk {W : Nat → Prop} {h m : Heap} {A_0 : Option Addr} {n_0 c_0 : Nat} {cs_1 : List Value} {a_0 : List Int} {y_1 : T_heap_Object} (O : Hold W h m h m []) (ne_0 : n_0 = List.length a_0) (k_0 : List.length a_0 ≤ c_0) (r_0 : Rd 1 (eInt .u64) m A_0 a_0) (e_1 : T_heap_Object.E m y_1 cs_1) {r : (List Int) × Int × Int} (e : heap_Put a_0 y_1 = some r) : Run Try.prog 103 #[Value.slice A_0 n_0 c_0, Value.agg cs_1.toArray] h (heap_Put.post W h m r) := by
  unfold heap_Put at e
  subst ne_0
  refine f103.run ?_
  unfold f103.runT
  refine O.new fun h1 x2 O3 => ?_
  refine ⟨_, ldAn (Sub.refl _) (O3.all 0 rfl) (T_heap_Object.T.len _ _ _ e_1), ?_⟩
  obtain ⟨y5, g6, e⟩ := bind_e e
  refine (heap_right.walk (Hold.start (W := No) O3.s) e_1 g6).mono ?_
  rintro _ h7 ⟨m8, Q9, rfl⟩
  have O11 := Hold.nm (O3.retC Q9 vfs_nil)
  refine ⟨_, rfl, ?_⟩
  refine split_not ?_
  refine split_any_e e (fun c66 e => ?_) (fun c66 e => ?_)
  · refine ⟨_, ldk (k := 1) (Sub.refl _) (O11.all 0 rfl) (T_heap_Object.g1 e_1), _, rfl, ?_⟩
    refine ⟨_, ldk (k := 3) (Sub.refl _) (O11.all 0 rfl) (T_heap_Object.g3 e_1), _, rfl, ?_⟩
    obtain ⟨A12, c13, q14, k15, r16⟩ := T_heap_Object.g4 e_1
    refine ⟨_, ldk (k := 4) (Sub.refl _) (O11.all 0 rfl) q14, _, _, _, rfl, ?_⟩
    obtain ⟨y17, g18, e⟩ := bind_e e
    refine (heap_room.walk (Hold.start (W := No) O11.s)  g18).mono ?_
    rintro _ h19 ⟨m20, Q21, rfl⟩
    have O23 := Hold.nm (O11.retC Q21 vfs_nil)
    refine ⟨_, rfl, ?_⟩
    refine split_dec_e e (fun c62 e => ?_) (fun c62 e => ?_)
    · have O24 := O23.nil (aE (tell_int .u64)) none
      have O26 := O24.nm
      cases e
      exact ⟨_, _, _, _, O26.pick [1], rfl, rfl⟩
    · refine ⟨_, ldAn (Sub.refl _) (O23.all 0 rfl) (T_heap_Object.T.len _ _ _ e_1), ?_⟩
      obtain ⟨y27, g28, e⟩ := bind_e e
      refine (slices_Clone_42.walk (Hold.start (W := No) O23.s) rfl k_0 r_0 g28).mono ?_
      rintro _ h29 ⟨m30, A33, n34, c35, Q31, rfl, ne36⟩
      have O38 := Hold.nm (O23.retC Q31 (vfs_cons (rR_vf (aE_vf (fun _ _ _ _ h => h))) vfs_nil))
      subst ne36
      refine ⟨_, _, _, rfl, ?_⟩
      refine ⟨Q31.S.ext, ?_⟩
      obtain ⟨y39, g40, e⟩ := bind_e e
      refine (heap_head.walk (Hold.start (W := No) O38.s) e_1 g40).mono ?_
      rintro _ h41 ⟨m42, Q43, rfl⟩
      have O45 := Hold.nm (O38.retC Q43 vfs_nil)
      refine ⟨_, rfl, ?_⟩
      refine O45.new fun h46 x47 O48 => ?_
      obtain ⟨l50, g51, e⟩ := bind_e e
      have O58 := O48.rowE (l := ([y39] : List Int)) 2 rfl (tell_int .u64) (show CsE _ _ _ _ _ from (CsE.cons (c1 := [(Value.int .u64 y39)]) rfl rfl CsE.nil)) rfl
      refine O58.app 1 rfl rfl rfl ((O58.os 2 rfl).srcE rfl) (by decide) g51 fun A52 c53 h54 O55 => ?_
      refine ⟨_, _, _, rfl, ?_⟩
      refine ⟨_, ldk (k := 1) (Sub.refl _) (O55.all 0 rfl) (T_heap_Object.g1 e_1), _, rfl, ?_⟩
      refine split_eq_e e (fun c61 e => ?_) (fun c61 e => ?_)
      · have O59 := O55.nm
        exact heap_Put.j1.walk (O59.pick [0, 1]).nm rfl k_0 r_0 e_1 rfl e
      · refine ⟨_, ldk (k := 1) (Sub.refl _) (O55.all 0 rfl) (T_heap_Object.g1 e_1), _, rfl, ?_⟩
        have O60 := O55.nm
        exact heap_Put.j1.walk (O60.pick [0, 1]).nm rfl k_0 r_0 e_1 rfl e
  · have O63 := O11.nil (aE (tell_int .u64)) none
    have O65 := O63.nm
    cases e
    exact ⟨_, _, _, _, O65.pick [1], rfl, rfl⟩
def slices_Equal_104.post (W : Nat → Prop) (h0 m0 : Heap) (r : Bool) (v : Value) (h : Heap) : Prop := ∃ m , Hold W h0 m0 h m [] ∧ v = .bool r
inductive slices_Equal_104.l0_k.Pt where
  | l0 (a_0 : List Int) (a_1 : List Int) (x_12 : Int) (x_13 : Int)
noncomputable def slices_Equal_104.l0_k.body (go : (p : slices_Equal_104.l0_k.Pt) → Option (Bool)) : (p : slices_Equal_104.l0_k.Pt) → Option (Bool)
  | .l0 a_0 a_1 x_12 x_13 => if x_13 < x_12 then (Option.bind (gi a_0 x_13) fun y1 => Option.bind (gi a_1 x_13) fun y8 => if y1 = y8 then ((go (.l0 a_0 a_1 x_12 (IntKind.wrap .i64 (x_13 + (1 : Int)))))) else (some (false))) else (some (true))
theorem slices_Equal_104.l0_k.mono : MonoF (β := fun _ => (Bool)) slices_Equal_104.l0_k.body := fun f g hfg p => match p with
  | .l0 a_0 a_1 x_12 x_13 => LeO.ite (LeO.bind (LeO.refl _) fun y1 => LeO.bind (LeO.refl _) fun y8 => LeO.ite ((hfg _)) (LeO.refl _)) (LeO.refl _)
noncomputable def slices_Equal_104.l0_k.go (p : slices_Equal_104.l0_k.Pt) : Option (Bool) := fixF (β := fun _ => (Bool)) slices_Equal_104.l0_k.body p
noncomputable def slices_Equal_104.l0 (a_0 : List Int) (a_1 : List Int) (x_12 : Int) (x_13 : Int) : Option (Bool) := slices_Equal_104.l0_k.go (.l0 a_0 a_1 x_12 x_13)
theorem slices_Equal_104.l0_eq (a_0 : List Int) (a_1 : List Int) (x_12 : Int) (x_13 : Int) : slices_Equal_104.l0 a_0 a_1 x_12 x_13 = if x_13 < x_12 then (Option.bind (gi a_0 x_13) fun y1 => Option.bind (gi a_1 x_13) fun y8 => if y1 = y8 then ((slices_Equal_104.l0 a_0 a_1 x_12 (IntKind.wrap .i64 (x_13 + (1 : Int))))) else (some (false))) else (some (true)) := fixF_eq slices_Equal_104.l0_k.mono _
def slices_Equal_104.l0_k.I : (p : slices_Equal_104.l0_k.Pt) → (Bool) → Prop
  | .l0 a_0 a_1 x_12 x_13, r => ∀ (W : Nat → Prop) (h0 m0 h m : Heap) (A_0 : Option Addr) (n_0 c_0 : Nat) (A_1 : Option Addr) (n_1 c_1 : Nat) (O : Hold W h0 m0 h m []) (ne_0 : n_0 = List.length a_0) (k_0 : List.length a_0 ≤ c_0) (r_0 : Rd 1 (eInt .u64) m A_0 a_0) (ne_1 : n_1 = List.length a_1) (k_1 : List.length a_1 ≤ c_1) (r_1 : Rd 1 (eInt .u64) m A_1 a_1), f104.l0 (slices_Equal_104.post W h0 m0 r) A_0 n_0 c_0 A_1 n_1 c_1 x_12 x_13 h
set_option maxRecDepth 100000 in
theorem slices_Equal_104.l0_k.step_l0 (go : (p : slices_Equal_104.l0_k.Pt) → Option (Bool)) (ih : ∀ p r, go p = some r → slices_Equal_104.l0_k.I p r) (a_0 : List Int) (a_1 : List Int) (x_12 : Int) (x_13 : Int) (r : Bool) (e : slices_Equal_104.l0_k.body go (.l0 a_0 a_1 x_12 x_13) = some r) : slices_Equal_104.l0_k.I (.l0 a_0 a_1 x_12 x_13) r := by
  unfold slices_Equal_104.l0_k.body at e
  intro W h0 m0 h m A_0 n_0 c_0 A_1 n_1 c_1 O ne_0 k_0 r_0 ne_1 k_1 r_1
  subst ne_0
  subst ne_1
  refine f104.l0_in ?_
  unfold f104.l0T
  refine split_dec_e e (fun c16 e => ?_) (fun c16 e => ?_)
  · obtain ⟨y1, g2, e⟩ := bind_e e
    refine r_0.addr rfl g2 fun a3 cs4 ha5 hc6 he7 => ?_
    obtain rfl : cs4 = [(Value.int .u64 y1)] := he7
    obtain ⟨y8, g9, e⟩ := bind_e e
    refine r_1.addr rfl g9 fun a10 cs11 ha12 hc13 he14 => ?_
    obtain rfl : cs11 = [(Value.int .u64 y8)] := he14
    refine ⟨_, ld0 O.s hc6 rfl, _, rfl, ?_⟩
    refine ⟨_, ld0 O.s hc13 rfl, _, rfl, ?_⟩
    refine split_ne_e e (fun c15 e => ?_) (fun c15 e => ?_)
    · cases e
      exact ⟨_, O.pick [], rfl⟩
    · exact (ih _ _ e) _ _ _ _ _ _ _ _ _ _ _ (O.pick []).nm rfl k_0 r_0 rfl k_1 r_1
  · cases e
    exact ⟨_, O.pick [], rfl⟩
theorem slices_Equal_104.l0_k.all {p : slices_Equal_104.l0_k.Pt} {r : (Bool)} (e : slices_Equal_104.l0_k.go p = some r) : slices_Equal_104.l0_k.I p r := fixF_ind (β := fun _ => (Bool)) slices_Equal_104.l0_k.mono (I := slices_Equal_104.l0_k.I) (fun go ih p r e => match p with
  | .l0 a_0 a_1 x_12 x_13 => slices_Equal_104.l0_k.step_l0 go ih a_0 a_1 x_12 x_13 r e
  ) e
theorem slices_Equal_104.l0.walk {W : Nat → Prop} {h0 m0 h m : Heap} {A_0 : Option Addr} {n_0 c_0 : Nat} {A_1 : Option Addr} {n_1 c_1 : Nat} {a_0 : List Int} {a_1 : List Int} {x_12 : Int} {x_13 : Int} (O : Hold W h0 m0 h m []) (ne_0 : n_0 = List.length a_0) (k_0 : List.length a_0 ≤ c_0) (r_0 : Rd 1 (eInt .u64) m A_0 a_0) (ne_1 : n_1 = List.length a_1) (k_1 : List.length a_1 ≤ c_1) (r_1 : Rd 1 (eInt .u64) m A_1 a_1) {r : Bool} (e : slices_Equal_104.l0 a_0 a_1 x_12 x_13 = some r) : f104.l0 (slices_Equal_104.post W h0 m0 r) A_0 n_0 c_0 A_1 n_1 c_1 x_12 x_13 h := slices_Equal_104.l0_k.all (p := .l0 a_0 a_1 x_12 x_13) e W h0 m0 h m A_0 n_0 c_0 A_1 n_1 c_1 O ne_0 k_0 r_0 ne_1 k_1 r_1
noncomputable def slices_Equal_104 (a_0 : List Int) (a_1 : List Int) : Option (Bool) :=
  if (((List.length a_0) : Nat) : Int) = (((List.length a_1) : Nat) : Int) then ((slices_Equal_104.l0 a_0 a_1 (((List.length a_0) : Nat) : Int) (0 : Int))) else (some (false))
set_option maxRecDepth 100000 in
theorem slices_Equal_104.walk {W : Nat → Prop} {h m : Heap} {A_0 : Option Addr} {n_0 c_0 : Nat} {A_1 : Option Addr} {n_1 c_1 : Nat} {a_0 : List Int} {a_1 : List Int} (O : Hold W h m h m []) (ne_0 : n_0 = List.length a_0) (k_0 : List.length a_0 ≤ c_0) (r_0 : Rd 1 (eInt .u64) m A_0 a_0) (ne_1 : n_1 = List.length a_1) (k_1 : List.length a_1 ≤ c_1) (r_1 : Rd 1 (eInt .u64) m A_1 a_1) {r : Bool} (e : slices_Equal_104 a_0 a_1 = some r) : Run Try.prog 104 #[Value.slice A_0 n_0 c_0, Value.slice A_1 n_1 c_1] h (slices_Equal_104.post W h m r) := by
  unfold slices_Equal_104 at e
  subst ne_0
  subst ne_1
  refine f104.run ?_
  unfold f104.runT
  refine split_ne_e e (fun c1 e => ?_) (fun c1 e => ?_)
  · cases e
    exact ⟨_, O.pick [], rfl⟩
  · exact slices_Equal_104.l0.walk (O.pick []).nm rfl k_0 r_0 rfl k_1 r_1 e
theorem slices_Equal_104.val (l m : List Int) (hl : l.length ≤ 4611686018427387904) : ∃ b, slices_Equal_104 l m = some b ∧ (b = true ↔ l = m) := equal_val (R := fun x y => x = y) (fun a b n i => slices_Equal_104.l0_eq a b n i) (fun _ _ => rfl) (fun _ _ => Iff.rfl) l m hl
def heap_At.post (W : Nat → Prop) (h0 m0 : Heap) (r : T_heap_Object × Int) (v : Value) (h : Heap) : Prop := ∃ m A0_4 n0_4 c0_4, Hold W h0 m0 h m [rR (aE (tell_int .u64)) A0_4 c0_4 r.1.Parts] ∧ v = .tuple #[.agg #[(Value.int .i64 r.1.At), (Value.int .i64 r.1.Kind), (Value.int .i64 r.1.Num), (Value.string r.1.Text), (Value.slice A0_4 n0_4 c0_4)], .int .i64 r.2] ∧ n0_4 = List.length r.1.Parts
noncomputable def heap_At.j6 (y_4 : T_heap_Object) (x_10_0 : Int) (x_10_1 : Int) (x_10_2 : Int) (s_10_3 : ByteArray) (a_10_4 : (List Int)) : Option (T_heap_Object × Int) :=
  some ((T_heap_Object.mk x_10_0 x_10_1 x_10_2 s_10_3 a_10_4), (0 : Int))
set_option maxRecDepth 100000 in
theorem heap_At.j6.walk {W : Nat → Prop} {h0 m0 h m : Heap} {bk_4 : Nat} {cs_4 : List Value} {bk_10 : Nat} {A_10_4_0 : Option Addr} {n_10_4_0 : Nat} {c_10_4_0 : Nat} {y_4 : T_heap_Object} {x_10_0 : Int} {x_10_1 : Int} {x_10_2 : Int} {s_10_3 : ByteArray} {a_10_4 : (List Int)} (O : Hold W h0 m0 h m [rV bk_4 152 cs_4, rV bk_10 152 [(Value.int .i64 x_10_0), (Value.int .i64 x_10_1), (Value.int .i64 x_10_2), (Value.string s_10_3), (Value.slice A_10_4_0 n_10_4_0 c_10_4_0)], rR (aE (tell_int .u64)) A_10_4_0 c_10_4_0 a_10_4]) (e_4 : T_heap_Object.E m y_4 cs_4) (ne_10_4_0 : n_10_4_0 = List.length a_10_4) {r : T_heap_Object × Int} (e : heap_At.j6 y_4 x_10_0 x_10_1 x_10_2 s_10_3 a_10_4 = some r) : f96.j6 (heap_At.post W h0 m0 r) (⟨bk_4, 0, none⟩ : Addr) (⟨bk_10, 0, none⟩ : Addr) h := by
  unfold heap_At.j6 at e
  subst ne_10_4_0
  refine f96.j6_in ?_
  unfold f96.j6T
  refine ⟨_, ldAn (Sub.refl _) (O.all 1 rfl) rfl, ?_⟩
  refine ⟨_, rfl, rfl, ?_⟩
  refine O.stA 0 rfl ((T_heap_Object.T.len _ _ _ e_4)).symm (Flats.cons trivial (Flats.cons trivial (Flats.cons trivial (Flats.cons trivial (Flats.cons trivial Flats.nil))))) fun h1 O2 => ?_
  refine ⟨_, ldAn (Sub.refl _) (O2.all 0 rfl) rfl, ?_⟩
  have O3 := O2.nm
  cases e
  exact ⟨_, _, _, _, O3.pick [2], rfl, rfl⟩
noncomputable def heap_At.j7 (y_4 : T_heap_Object) (x_10_0 : Int) (x_10_1 : Int) (x_10_2 : Int) (s_10_3 : ByteArray) (a_10_4 : (List Int)) (b_131 : Bool) : Option (T_heap_Object × Int) :=
  if b_131 = true then (some ((T_heap_Object.mk (0 : Int) (0 : Int) (0 : Int) (ByteArray.mk #[]) ([] : List Int)), (3 : Int))) else ((heap_At.j6 y_4 x_10_0 x_10_1 x_10_2 s_10_3 a_10_4))
set_option maxRecDepth 100000 in
theorem heap_At.j7.walk {W : Nat → Prop} {h0 m0 h m : Heap} {bk_4 : Nat} {cs_4 : List Value} {bk_10 : Nat} {A_10_4_0 : Option Addr} {n_10_4_0 : Nat} {c_10_4_0 : Nat} {y_4 : T_heap_Object} {x_10_0 : Int} {x_10_1 : Int} {x_10_2 : Int} {s_10_3 : ByteArray} {a_10_4 : (List Int)} {b_131 : Bool} (O : Hold W h0 m0 h m [rV bk_4 152 cs_4, rV bk_10 152 [(Value.int .i64 x_10_0), (Value.int .i64 x_10_1), (Value.int .i64 x_10_2), (Value.string s_10_3), (Value.slice A_10_4_0 n_10_4_0 c_10_4_0)], rR (aE (tell_int .u64)) A_10_4_0 c_10_4_0 a_10_4]) (e_4 : T_heap_Object.E m y_4 cs_4) (ne_10_4_0 : n_10_4_0 = List.length a_10_4) {r : T_heap_Object × Int} (e : heap_At.j7 y_4 x_10_0 x_10_1 x_10_2 s_10_3 a_10_4 b_131 = some r) : f96.j7 (heap_At.post W h0 m0 r) (⟨bk_4, 0, none⟩ : Addr) (⟨bk_10, 0, none⟩ : Addr) b_131 h := by
  unfold heap_At.j7 at e
  subst ne_10_4_0
  refine f96.j7_in ?_
  unfold f96.j7T
  refine split_any_e e (fun c6 e => ?_) (fun c6 e => ?_)
  · refine ⟨_, rfl, rfl, ?_⟩
    refine O.stA 0 rfl ((T_heap_Object.T.len _ _ _ e_4)).symm (Flats.cons trivial (Flats.cons trivial (Flats.cons trivial (Flats.cons trivial (Flats.cons trivial Flats.nil))))) fun h1 O2 => ?_
    refine ⟨_, ldAn (Sub.refl _) (O2.all 0 rfl) rfl, ?_⟩
    have O3 := O2.nil (aE (tell_int .u64)) none
    have O5 := O3.nm
    cases e
    exact ⟨_, _, _, _, O5.pick [3], rfl, rfl⟩
  · exact heap_At.j6.walk (O.pick [0, 1, 2]).nm e_4 rfl e
inductive heap_At.l0_k.Pt where
  | l0 (a_0 : List Int) (x_1 : Int) (y_4 : T_heap_Object) (x_8 : Int) (x_9 : Int) (x_10_0 : Int) (x_10_1 : Int) (x_10_2 : Int) (s_10_3 : ByteArray) (a_10_4 : (List Int)) (a_11 : List Int) (x_74 : Int) (x_75 : Int)
noncomputable def heap_At.l0_k.body (go : (p : heap_At.l0_k.Pt) → Option (T_heap_Object × Int)) : (p : heap_At.l0_k.Pt) → Option (T_heap_Object × Int)
  | .l0 a_0 x_1 y_4 x_8 x_9 x_10_0 x_10_1 x_10_2 s_10_3 a_10_4 a_11 x_74 x_75 => if x_75 < x_74 then (Option.bind (gi a_0 (IntKind.wrap .i64 (x_1 + (IntKind.wrap .i64 (Int.tdiv x_75 (8 : Int)))))) fun y1 => if 0 ≤ (IntKind.wrap .i64 ((8 : Int) * (Int.tmod x_75 (8 : Int)))) then (Option.bind (ap 1 a_11 ([(IntKind.wrap .u8 (shrI .u64 y1 (IntKind.wrap .i64 ((8 : Int) * (Int.tmod x_75 (8 : Int))))))] : List Int)) fun l13 => (go (.l0 a_0 x_1 y_4 x_8 x_9 x_10_0 x_10_1 x_10_2 s_10_3 a_10_4 l13 x_74 (IntKind.wrap .i64 (x_75 + (1 : Int)))))) else none) else (Option.bind (sls a_0 (IntKind.wrap .i64 (x_1 + (IntKind.wrap .i64 (Int.tdiv (IntKind.wrap .i64 (x_8 + (7 : Int))) (8 : Int))))) (IntKind.wrap .i64 ((IntKind.wrap .i64 (x_1 + (IntKind.wrap .i64 (Int.tdiv (IntKind.wrap .i64 (x_8 + (7 : Int))) (8 : Int))))) + x_9))) fun l25 => Option.bind (ap 8 a_10_4 l25) fun l30 => Option.bind (heap_Put ([] : List Int) (T_heap_Object.mk x_10_0 x_10_1 x_10_2 (bytesOf a_11) l30)) fun y40 => if y40.2.2 = (0 : Int) then (Option.bind (sls a_0 x_10_0 (IntKind.wrap .i64 ((IntKind.wrap .i64 (x_1 + (IntKind.wrap .i64 (Int.tdiv (IntKind.wrap .i64 (x_8 + (7 : Int))) (8 : Int))))) + x_9))) fun l60 => Option.bind (slices_Equal_104 y40.1 l60) fun y65 => (heap_At.j7 y_4 x_10_0 x_10_1 x_10_2 (bytesOf a_11) l30 (!y65))) else ((heap_At.j7 y_4 x_10_0 x_10_1 x_10_2 (bytesOf a_11) l30 true)))
theorem heap_At.l0_k.mono : MonoF (β := fun _ => (T_heap_Object × Int)) heap_At.l0_k.body := fun f g hfg p => match p with
  | .l0 a_0 x_1 y_4 x_8 x_9 x_10_0 x_10_1 x_10_2 s_10_3 a_10_4 a_11 x_74 x_75 => LeO.ite (LeO.bind (LeO.refl _) fun y1 => LeO.ite (LeO.bind (LeO.refl _) fun l13 => (hfg _)) (LeO.refl _)) (LeO.bind (LeO.refl _) fun l25 => LeO.bind (LeO.refl _) fun l30 => LeO.bind (LeO.refl _) fun y40 => LeO.ite (LeO.bind (LeO.refl _) fun l60 => LeO.bind (LeO.refl _) fun y65 => (LeO.refl _)) ((LeO.refl _)))
noncomputable def heap_At.l0_k.go (p : heap_At.l0_k.Pt) : Option (T_heap_Object × Int) := fixF (β := fun _ => (T_heap_Object × Int)) heap_At.l0_k.body p
noncomputable def heap_At.l0 (a_0 : List Int) (x_1 : Int) (y_4 : T_heap_Object) (x_8 : Int) (x_9 : Int) (x_10_0 : Int) (x_10_1 : Int) (x_10_2 : Int) (s_10_3 : ByteArray) (a_10_4 : (List Int)) (a_11 : List Int) (x_74 : Int) (x_75 : Int) : Option (T_heap_Object × Int) := heap_At.l0_k.go (.l0 a_0 x_1 y_4 x_8 x_9 x_10_0 x_10_1 x_10_2 s_10_3 a_10_4 a_11 x_74 x_75)
theorem heap_At.l0_eq (a_0 : List Int) (x_1 : Int) (y_4 : T_heap_Object) (x_8 : Int) (x_9 : Int) (x_10_0 : Int) (x_10_1 : Int) (x_10_2 : Int) (s_10_3 : ByteArray) (a_10_4 : (List Int)) (a_11 : List Int) (x_74 : Int) (x_75 : Int) : heap_At.l0 a_0 x_1 y_4 x_8 x_9 x_10_0 x_10_1 x_10_2 s_10_3 a_10_4 a_11 x_74 x_75 = if x_75 < x_74 then (Option.bind (gi a_0 (IntKind.wrap .i64 (x_1 + (IntKind.wrap .i64 (Int.tdiv x_75 (8 : Int)))))) fun y1 => if 0 ≤ (IntKind.wrap .i64 ((8 : Int) * (Int.tmod x_75 (8 : Int)))) then (Option.bind (ap 1 a_11 ([(IntKind.wrap .u8 (shrI .u64 y1 (IntKind.wrap .i64 ((8 : Int) * (Int.tmod x_75 (8 : Int))))))] : List Int)) fun l13 => (heap_At.l0 a_0 x_1 y_4 x_8 x_9 x_10_0 x_10_1 x_10_2 s_10_3 a_10_4 l13 x_74 (IntKind.wrap .i64 (x_75 + (1 : Int))))) else none) else (Option.bind (sls a_0 (IntKind.wrap .i64 (x_1 + (IntKind.wrap .i64 (Int.tdiv (IntKind.wrap .i64 (x_8 + (7 : Int))) (8 : Int))))) (IntKind.wrap .i64 ((IntKind.wrap .i64 (x_1 + (IntKind.wrap .i64 (Int.tdiv (IntKind.wrap .i64 (x_8 + (7 : Int))) (8 : Int))))) + x_9))) fun l25 => Option.bind (ap 8 a_10_4 l25) fun l30 => Option.bind (heap_Put ([] : List Int) (T_heap_Object.mk x_10_0 x_10_1 x_10_2 (bytesOf a_11) l30)) fun y40 => if y40.2.2 = (0 : Int) then (Option.bind (sls a_0 x_10_0 (IntKind.wrap .i64 ((IntKind.wrap .i64 (x_1 + (IntKind.wrap .i64 (Int.tdiv (IntKind.wrap .i64 (x_8 + (7 : Int))) (8 : Int))))) + x_9))) fun l60 => Option.bind (slices_Equal_104 y40.1 l60) fun y65 => (heap_At.j7 y_4 x_10_0 x_10_1 x_10_2 (bytesOf a_11) l30 (!y65))) else ((heap_At.j7 y_4 x_10_0 x_10_1 x_10_2 (bytesOf a_11) l30 true))) := fixF_eq heap_At.l0_k.mono _
def heap_At.l0_k.I : (p : heap_At.l0_k.Pt) → (T_heap_Object × Int) → Prop
  | .l0 a_0 x_1 y_4 x_8 x_9 x_10_0 x_10_1 x_10_2 s_10_3 a_10_4 a_11 x_74 x_75, r => ∀ (W : Nat → Prop) (h0 m0 h m : Heap) (A_0 : Option Addr) (n_0 c_0 : Nat) (bk_4 : Nat) (cs_4 : List Value) (bk_10 : Nat) (A_10_4_0 : Option Addr) (n_10_4_0 : Nat) (c_10_4_0 : Nat) (A_11 : Option Addr) (n_11 c_11 : Nat) (O : Hold W h0 m0 h m [rV bk_4 152 cs_4, rV bk_10 152 [(Value.int .i64 x_10_0), (Value.int .i64 x_10_1), (Value.int .i64 x_10_2), (Value.string s_10_3), (Value.slice A_10_4_0 n_10_4_0 c_10_4_0)], rR (aE (tell_int .u64)) A_10_4_0 c_10_4_0 a_10_4, rR (aE (tell_int .u8)) A_11 c_11 a_11]) (ne_0 : n_0 = List.length a_0) (k_0 : List.length a_0 ≤ c_0) (r_0 : Rd 1 (eInt .u64) m A_0 a_0) (e_4 : T_heap_Object.E m y_4 cs_4) (ne_10_4_0 : n_10_4_0 = List.length a_10_4) (ne_11 : n_11 = List.length a_11), f96.l0 (heap_At.post W h0 m0 r) A_0 n_0 c_0 x_1 (⟨bk_4, 0, none⟩ : Addr) x_8 x_9 (⟨bk_10, 0, none⟩ : Addr) A_11 n_11 c_11 x_74 x_75 h
set_option maxHeartbeats 4000000 in
set_option maxRecDepth 100000 in
theorem heap_At.l0_k.step_l0 (go : (p : heap_At.l0_k.Pt) → Option (T_heap_Object × Int)) (ih : ∀ p r, go p = some r → heap_At.l0_k.I p r) (a_0 : List Int) (x_1 : Int) (y_4 : T_heap_Object) (x_8 : Int) (x_9 : Int) (x_10_0 : Int) (x_10_1 : Int) (x_10_2 : Int) (s_10_3 : ByteArray) (a_10_4 : (List Int)) (a_11 : List Int) (x_74 : Int) (x_75 : Int) (r : T_heap_Object × Int) (e : heap_At.l0_k.body go (.l0 a_0 x_1 y_4 x_8 x_9 x_10_0 x_10_1 x_10_2 s_10_3 a_10_4 a_11 x_74 x_75) = some r) : heap_At.l0_k.I (.l0 a_0 x_1 y_4 x_8 x_9 x_10_0 x_10_1 x_10_2 s_10_3 a_10_4 a_11 x_74 x_75) r := by
  unfold heap_At.l0_k.body at e
  intro W h0 m0 h m A_0 n_0 c_0 bk_4 cs_4 bk_10 A_10_4_0 n_10_4_0 c_10_4_0 A_11 n_11 c_11 O ne_0 k_0 r_0 e_4 ne_10_4_0 ne_11
  subst ne_0
  subst ne_10_4_0
  subst ne_11
  refine f96.l0_in ?_
  unfold f96.l0T
  refine split_dec_e e (fun c80 e => ?_) (fun c80 e => ?_)
  · refine ⟨by decide, ?_⟩
    obtain ⟨y1, g2, e⟩ := bind_e e
    refine r_0.addr rfl g2 fun a3 cs4 ha5 hc6 he7 => ?_
    obtain rfl : cs4 = [(Value.int .u64 y1)] := he7
    refine ⟨_, ld0 O.s hc6 rfl, _, rfl, ?_⟩
    refine ⟨by decide, ?_⟩
    obtain ⟨g8, e⟩ := guard_e e
    refine ⟨g8, ?_⟩
    refine O.new fun h9 x10 O11 => ?_
    obtain ⟨l13, g14, e⟩ := bind_e e
    have O21 := O11.rowE (l := ([(IntKind.wrap .u8 (shrI .u64 y1 (IntKind.wrap .i64 ((8 : Int) * (Int.tmod x_75 (8 : Int))))))] : List Int)) 4 rfl (tell_int .u8) (show CsE _ _ _ _ _ from (CsE.cons (c1 := [(Value.int .u8 (IntKind.wrap .u8 (shrI .u64 y1 (IntKind.wrap .i64 ((8 : Int) * (Int.tmod x_75 (8 : Int)))))))]) rfl rfl CsE.nil)) rfl
    refine O21.app 3 rfl rfl rfl ((O21.os 4 rfl).srcE rfl) (by decide) g14 fun A15 c16 h17 O18 => ?_
    refine ⟨_, _, _, rfl, ?_⟩
    have O22 := O18.nm
    exact (ih _ _ e) _ _ _ _ _ _ _ _ _ _ _ _ _ _ _ _ _ (O22.pick [0, 1, 2, 3]).nm rfl k_0 r_0 e_4 rfl rfl
  · refine gen_b2s' (e := 5) (by kernel_rfl) (by kernel_rfl) (by kernel_rfl) ((O.os 3 rfl).rd (tell_int .u8) O.s) rfl ?_
    refine ⟨_, rfl, ?_⟩
    refine ⟨by decide, ?_⟩
    refine O.st 1 rfl 3 (Nat.le_of_ble_eq_true rfl) trivial fun h23 O24 => ?_
    obtain ⟨l25, g26, e⟩ := bind_e e
    have q27 := sls_e g26
    refine ⟨q27.1, q27.2.1, cap_in q27.2.2.1 k_0, ?_⟩
    try rw [q27.2.2.2.1]
    have k28 : List.length l25 ≤ (c_0 - Int.toNat (IntKind.wrap .i64 (x_1 + (IntKind.wrap .i64 (Int.tdiv (IntKind.wrap .i64 (x_8 + (7 : Int))) (8 : Int)))))) := sls_cap g26 k_0
    have r29 := r_0.sls g26 (le_mx q27.2.2.1 k_0)
    refine ⟨_, ldk (k := 4) (Sub.refl _) (O24.all 1 rfl) rfl, _, _, _, rfl, ?_⟩
    obtain ⟨l30, g31, e⟩ := bind_e e
    refine O24.app 2 rfl rfl rfl (Rd.srcE r29 (tell_int .u64) O24.s rfl) (by decide) g31 fun A32 c33 h34 O35 => ?_
    refine ⟨_, _, _, rfl, ?_⟩
    refine O35.st 1 rfl 4 (Nat.le_of_ble_eq_true rfl) trivial fun h38 O39 => ?_
    refine ⟨_, ldAn (Sub.refl _) (O39.all 1 rfl) rfl, ?_⟩
    obtain ⟨y40, g41, e⟩ := bind_e e
    have O46 := O39.nm
    obtain ⟨m47, u48, s53, ⟨⟨r51, k52⟩, _⟩, B49, C50⟩ := O46.lend0 [2]
    replace r51 : Rd 1 (eInt .u64) m47 A32 l30 := r51
    replace k52 : List.length l30 ≤ c33 := k52
    refine (heap_Put.walk (Hold.start (W := No) s53) rfl (by exact Nat.le_refl 0) Rd.nil (show T_heap_Object.E _ (T_heap_Object.mk x_10_0 x_10_1 x_10_2 (bytesOf a_11) l30) [(Value.int .i64 x_10_0), (Value.int .i64 x_10_1), (Value.int .i64 x_10_2), (Value.string (bytesOf a_11)), (Value.slice A32 (List.length l30) c33)] from ⟨_, _, rfl, k52, r51⟩) g41).mono ?_
    rintro _ h42 ⟨m43, A54, n55, c56, Q44, rfl, ne57⟩
    have O59 := Hold.nm (C50 Q44 (vfs_cons (rR_vf (aE_vf (fun _ _ _ _ h => h))) vfs_nil))
    subst ne57
    refine ⟨_, _, _, _, _, rfl, ?_⟩
    refine split_ne_e e (fun c79 e => ?_) (fun c79 e => ?_)
    · exact heap_At.j7.walk (O59.pick [0, 1, 2]).nm e_4 rfl e
    · refine ⟨_, ld0 (Sub.refl _) (O59.all 1 rfl) rfl, _, rfl, ?_⟩
      obtain ⟨l60, g61, e⟩ := bind_e e
      have q62 := sls_e g61
      refine ⟨q62.1, q62.2.1, cap_in q62.2.2.1 k_0, ?_⟩
      try rw [q62.2.2.2.1]
      have k63 : List.length l60 ≤ (c_0 - Int.toNat x_10_0) := sls_cap g61 k_0
      have r64 := r_0.sls g61 (le_mx q62.2.2.1 k_0)
      obtain ⟨y65, g66, e⟩ := bind_e e
      obtain ⟨m71, u72, s77, ⟨⟨r75, k76⟩, _⟩, B73, C74⟩ := O59.lend0 [4]
      replace r75 : Rd 1 (eInt .u64) m71 A54 y40.1 := r75
      replace k76 : List.length y40.1 ≤ c56 := k76
      refine (slices_Equal_104.walk (Hold.start (W := No) s77) rfl k76 r75 rfl k63 (r64.sub (tell_int .u64) u72) g66).mono ?_
      rintro _ h67 ⟨m68, Q69, rfl⟩
      have O78 := Hold.nm (C74 Q69 vfs_nil)
      refine ⟨_, rfl, ?_⟩
      exact heap_At.j7.walk (O78.pick [0, 1, 2]).nm e_4 rfl e
theorem heap_At.l0_k.all {p : heap_At.l0_k.Pt} {r : (T_heap_Object × Int)} (e : heap_At.l0_k.go p = some r) : heap_At.l0_k.I p r := fixF_ind (β := fun _ => (T_heap_Object × Int)) heap_At.l0_k.mono (I := heap_At.l0_k.I) (fun go ih p r e => match p with
  | .l0 a_0 x_1 y_4 x_8 x_9 x_10_0 x_10_1 x_10_2 s_10_3 a_10_4 a_11 x_74 x_75 => heap_At.l0_k.step_l0 go ih a_0 x_1 y_4 x_8 x_9 x_10_0 x_10_1 x_10_2 s_10_3 a_10_4 a_11 x_74 x_75 r e
  ) e
theorem heap_At.l0.walk {W : Nat → Prop} {h0 m0 h m : Heap} {A_0 : Option Addr} {n_0 c_0 : Nat} {bk_4 : Nat} {cs_4 : List Value} {bk_10 : Nat} {A_10_4_0 : Option Addr} {n_10_4_0 : Nat} {c_10_4_0 : Nat} {A_11 : Option Addr} {n_11 c_11 : Nat} {a_0 : List Int} {x_1 : Int} {y_4 : T_heap_Object} {x_8 : Int} {x_9 : Int} {x_10_0 : Int} {x_10_1 : Int} {x_10_2 : Int} {s_10_3 : ByteArray} {a_10_4 : (List Int)} {a_11 : List Int} {x_74 : Int} {x_75 : Int} (O : Hold W h0 m0 h m [rV bk_4 152 cs_4, rV bk_10 152 [(Value.int .i64 x_10_0), (Value.int .i64 x_10_1), (Value.int .i64 x_10_2), (Value.string s_10_3), (Value.slice A_10_4_0 n_10_4_0 c_10_4_0)], rR (aE (tell_int .u64)) A_10_4_0 c_10_4_0 a_10_4, rR (aE (tell_int .u8)) A_11 c_11 a_11]) (ne_0 : n_0 = List.length a_0) (k_0 : List.length a_0 ≤ c_0) (r_0 : Rd 1 (eInt .u64) m A_0 a_0) (e_4 : T_heap_Object.E m y_4 cs_4) (ne_10_4_0 : n_10_4_0 = List.length a_10_4) (ne_11 : n_11 = List.length a_11) {r : T_heap_Object × Int} (e : heap_At.l0 a_0 x_1 y_4 x_8 x_9 x_10_0 x_10_1 x_10_2 s_10_3 a_10_4 a_11 x_74 x_75 = some r) : f96.l0 (heap_At.post W h0 m0 r) A_0 n_0 c_0 x_1 (⟨bk_4, 0, none⟩ : Addr) x_8 x_9 (⟨bk_10, 0, none⟩ : Addr) A_11 n_11 c_11 x_74 x_75 h := heap_At.l0_k.all (p := .l0 a_0 x_1 y_4 x_8 x_9 x_10_0 x_10_1 x_10_2 s_10_3 a_10_4 a_11 x_74 x_75) e W h0 m0 h m A_0 n_0 c_0 bk_4 cs_4 bk_10 A_10_4_0 n_10_4_0 c_10_4_0 A_11 n_11 c_11 O ne_0 k_0 r_0 e_4 ne_10_4_0 ne_11
noncomputable def heap_At.j4 (a_0 : List Int) (x_1 : Int) (y_4 : T_heap_Object) (x_8 : Int) (x_9 : Int) (x_10_0 : Int) (x_10_1 : Int) (x_10_2 : Int) (s_10_3 : ByteArray) (a_10_4 : (List Int)) : Option (T_heap_Object × Int) :=
  (heap_At.l0 a_0 x_1 y_4 x_8 x_9 x_10_0 x_10_1 x_10_2 s_10_3 a_10_4 ([] : List Int) x_8 (0 : Int))
set_option maxRecDepth 100000 in
theorem heap_At.j4.walk {W : Nat → Prop} {h0 m0 h m : Heap} {A_0 : Option Addr} {n_0 c_0 : Nat} {bk_4 : Nat} {cs_4 : List Value} {bk_10 : Nat} {A_10_4_0 : Option Addr} {n_10_4_0 : Nat} {c_10_4_0 : Nat} {a_0 : List Int} {x_1 : Int} {y_4 : T_heap_Object} {x_8 : Int} {x_9 : Int} {x_10_0 : Int} {x_10_1 : Int} {x_10_2 : Int} {s_10_3 : ByteArray} {a_10_4 : (List Int)} (O : Hold W h0 m0 h m [rV bk_4 152 cs_4, rV bk_10 152 [(Value.int .i64 x_10_0), (Value.int .i64 x_10_1), (Value.int .i64 x_10_2), (Value.string s_10_3), (Value.slice A_10_4_0 n_10_4_0 c_10_4_0)], rR (aE (tell_int .u64)) A_10_4_0 c_10_4_0 a_10_4]) (ne_0 : n_0 = List.length a_0) (k_0 : List.length a_0 ≤ c_0) (r_0 : Rd 1 (eInt .u64) m A_0 a_0) (e_4 : T_heap_Object.E m y_4 cs_4) (ne_10_4_0 : n_10_4_0 = List.length a_10_4) {r : T_heap_Object × Int} (e : heap_At.j4 a_0 x_1 y_4 x_8 x_9 x_10_0 x_10_1 x_10_2 s_10_3 a_10_4 = some r) : f96.j4 (heap_At.post W h0 m0 r) A_0 n_0 c_0 x_1 (⟨bk_4, 0, none⟩ : Addr) x_8 x_9 (⟨bk_10, 0, none⟩ : Addr) h := by
  unfold heap_At.j4 at e
  subst ne_0
  subst ne_10_4_0
  refine f96.j4_in ?_
  unfold f96.j4T
  have O1 := O.nil (aE (tell_int .u8)) none
  have O3 := O1.nm
  exact heap_At.l0.walk (O3.pick [0, 1, 2, 3]).nm rfl k_0 r_0 e_4 rfl rfl e
noncomputable def heap_At.j5 (a_0 : List Int) (x_1 : Int) (y_4 : T_heap_Object) (x_8 : Int) (x_9 : Int) (x_10_0 : Int) (x_10_1 : Int) (x_10_2 : Int) (s_10_3 : ByteArray) (a_10_4 : (List Int)) (b_65 : Bool) : Option (T_heap_Object × Int) :=
  if b_65 = true then (Option.bind (gi a_0 x_1) fun y1 => (heap_At.j4 a_0 (IntKind.wrap .i64 (x_1 + (1 : Int))) y_4 x_8 x_9 x_10_0 x_10_1 (IntKind.wrap .i64 y1) s_10_3 a_10_4)) else ((heap_At.j4 a_0 x_1 y_4 x_8 x_9 x_10_0 x_10_1 x_10_2 s_10_3 a_10_4))
set_option maxRecDepth 100000 in
theorem heap_At.j5.walk {W : Nat → Prop} {h0 m0 h m : Heap} {A_0 : Option Addr} {n_0 c_0 : Nat} {bk_4 : Nat} {cs_4 : List Value} {bk_10 : Nat} {A_10_4_0 : Option Addr} {n_10_4_0 : Nat} {c_10_4_0 : Nat} {a_0 : List Int} {x_1 : Int} {y_4 : T_heap_Object} {x_8 : Int} {x_9 : Int} {x_10_0 : Int} {x_10_1 : Int} {x_10_2 : Int} {s_10_3 : ByteArray} {a_10_4 : (List Int)} {b_65 : Bool} (O : Hold W h0 m0 h m [rV bk_4 152 cs_4, rV bk_10 152 [(Value.int .i64 x_10_0), (Value.int .i64 x_10_1), (Value.int .i64 x_10_2), (Value.string s_10_3), (Value.slice A_10_4_0 n_10_4_0 c_10_4_0)], rR (aE (tell_int .u64)) A_10_4_0 c_10_4_0 a_10_4]) (ne_0 : n_0 = List.length a_0) (k_0 : List.length a_0 ≤ c_0) (r_0 : Rd 1 (eInt .u64) m A_0 a_0) (e_4 : T_heap_Object.E m y_4 cs_4) (ne_10_4_0 : n_10_4_0 = List.length a_10_4) {r : T_heap_Object × Int} (e : heap_At.j5 a_0 x_1 y_4 x_8 x_9 x_10_0 x_10_1 x_10_2 s_10_3 a_10_4 b_65 = some r) : f96.j5 (heap_At.post W h0 m0 r) A_0 n_0 c_0 x_1 (⟨bk_4, 0, none⟩ : Addr) x_8 x_9 (⟨bk_10, 0, none⟩ : Addr) b_65 h := by
  unfold heap_At.j5 at e
  subst ne_0
  subst ne_10_4_0
  refine f96.j5_in ?_
  unfold f96.j5T
  refine split_any_e e (fun c11 e => ?_) (fun c11 e => ?_)
  · obtain ⟨y1, g2, e⟩ := bind_e e
    refine r_0.addr rfl g2 fun a3 cs4 ha5 hc6 he7 => ?_
    obtain rfl : cs4 = [(Value.int .u64 y1)] := he7
    refine ⟨_, ld0 O.s hc6 rfl, _, rfl, ?_⟩
    refine O.st 1 rfl 2 (Nat.le_of_ble_eq_true rfl) trivial fun h8 O9 => ?_
    have O10 := O9.nm
    exact heap_At.j4.walk (O10.pick [0, 1, 2]).nm rfl k_0 r_0 e_4 rfl e
  · exact heap_At.j4.walk (O.pick [0, 1, 2]).nm rfl k_0 r_0 e_4 rfl e
noncomputable def heap_At.j2 (a_0 : List Int) (x_1 : Int) (y_4 : T_heap_Object) (x_7 : Int) (x_8 : Int) (x_9 : Int) : Option (T_heap_Object × Int) :=
  if x_7 = (1 : Int) then ((heap_At.j5 a_0 (IntKind.wrap .i64 (x_1 + (1 : Int))) y_4 x_8 x_9 x_1 x_7 (0 : Int) (ByteArray.mk #[]) ([] : List Int) true)) else ((heap_At.j5 a_0 (IntKind.wrap .i64 (x_1 + (1 : Int))) y_4 x_8 x_9 x_1 x_7 (0 : Int) (ByteArray.mk #[]) ([] : List Int) (x_7 == (4 : Int))))
set_option maxRecDepth 100000 in
theorem heap_At.j2.walk {W : Nat → Prop} {h0 m0 h m : Heap} {A_0 : Option Addr} {n_0 c_0 : Nat} {bk_4 : Nat} {cs_4 : List Value} {a_0 : List Int} {x_1 : Int} {y_4 : T_heap_Object} {x_7 : Int} {x_8 : Int} {x_9 : Int} (O : Hold W h0 m0 h m [rV bk_4 152 cs_4]) (ne_0 : n_0 = List.length a_0) (k_0 : List.length a_0 ≤ c_0) (r_0 : Rd 1 (eInt .u64) m A_0 a_0) (e_4 : T_heap_Object.E m y_4 cs_4) {r : T_heap_Object × Int} (e : heap_At.j2 a_0 x_1 y_4 x_7 x_8 x_9 = some r) : f96.j2 (heap_At.post W h0 m0 r) A_0 n_0 c_0 x_1 (⟨bk_4, 0, none⟩ : Addr) x_7 x_8 x_9 h := by
  unfold heap_At.j2 at e
  subst ne_0
  refine f96.j2_in ?_
  unfold f96.j2T
  refine O.new fun h1 x2 O3 => ?_
  refine ⟨_, rfl, rfl, ?_⟩
  refine O3.stA 1 rfl rfl (Flats.cons trivial (Flats.cons trivial (Flats.cons trivial (Flats.cons trivial (Flats.cons trivial Flats.nil))))) fun h5 O6 => ?_
  refine split_eq_e e (fun c13 e => ?_) (fun c13 e => ?_)
  · have O7 := O6.nil (aE (tell_int .u64)) none
    have O9 := O7.nm
    exact heap_At.j5.walk (O9.pick [0, 1, 2]).nm rfl k_0 r_0 e_4 rfl e
  · have O10 := O6.nil (aE (tell_int .u64)) none
    have O12 := O10.nm
    exact heap_At.j5.walk (O12.pick [0, 1, 2]).nm rfl k_0 r_0 e_4 rfl e
noncomputable def heap_At.j3 (a_0 : List Int) (x_1 : Int) (y_4 : T_heap_Object) (x_7 : Int) (x_8 : Int) (x_9 : Int) (b_53 : Bool) : Option (T_heap_Object × Int) :=
  if b_53 = true then (some ((T_heap_Object.mk (0 : Int) (0 : Int) (0 : Int) (ByteArray.mk #[]) ([] : List Int)), (3 : Int))) else ((heap_At.j2 a_0 x_1 y_4 x_7 x_8 x_9))
set_option maxRecDepth 100000 in
theorem heap_At.j3.walk {W : Nat → Prop} {h0 m0 h m : Heap} {A_0 : Option Addr} {n_0 c_0 : Nat} {bk_4 : Nat} {cs_4 : List Value} {a_0 : List Int} {x_1 : Int} {y_4 : T_heap_Object} {x_7 : Int} {x_8 : Int} {x_9 : Int} {b_53 : Bool} (O : Hold W h0 m0 h m [rV bk_4 152 cs_4]) (ne_0 : n_0 = List.length a_0) (k_0 : List.length a_0 ≤ c_0) (r_0 : Rd 1 (eInt .u64) m A_0 a_0) (e_4 : T_heap_Object.E m y_4 cs_4) {r : T_heap_Object × Int} (e : heap_At.j3 a_0 x_1 y_4 x_7 x_8 x_9 b_53 = some r) : f96.j3 (heap_At.post W h0 m0 r) A_0 n_0 c_0 x_1 (⟨bk_4, 0, none⟩ : Addr) x_7 x_8 x_9 b_53 h := by
  unfold heap_At.j3 at e
  subst ne_0
  refine f96.j3_in ?_
  unfold f96.j3T
  refine split_any_e e (fun c6 e => ?_) (fun c6 e => ?_)
  · refine ⟨_, rfl, rfl, ?_⟩
    refine O.stA 0 rfl ((T_heap_Object.T.len _ _ _ e_4)).symm (Flats.cons trivial (Flats.cons trivial (Flats.cons trivial (Flats.cons trivial (Flats.cons trivial Flats.nil))))) fun h1 O2 => ?_
    refine ⟨_, ldAn (Sub.refl _) (O2.all 0 rfl) rfl, ?_⟩
    have O3 := O2.nil (aE (tell_int .u64)) none
    have O5 := O3.nm
    cases e
    exact ⟨_, _, _, _, O5.pick [1], rfl, rfl⟩
  · exact heap_At.j2.walk (O.pick [0]).nm rfl k_0 r_0 e_4 e
noncomputable def heap_At.j0 (a_0 : List Int) (x_1 : Int) (y_4 : T_heap_Object) : Option (T_heap_Object × Int) :=
  Option.bind (gi a_0 x_1) fun y1 => if (shrI .u64 y1 (32 : Int)) = (0 : Int) then (Option.bind (heap_room (IntKind.wrap .i64 (bitsI .and .u64 y1 (255 : Int))) (IntKind.wrap .i64 (bitsI .and .u64 (shrI .u64 y1 (8 : Int)) (4095 : Int))) (IntKind.wrap .i64 (bitsI .and .u64 (shrI .u64 y1 (20 : Int)) (4095 : Int)))) fun y8 => (heap_At.j3 a_0 x_1 y_4 (IntKind.wrap .i64 (bitsI .and .u64 y1 (255 : Int))) (IntKind.wrap .i64 (bitsI .and .u64 (shrI .u64 y1 (8 : Int)) (4095 : Int))) (IntKind.wrap .i64 (bitsI .and .u64 (shrI .u64 y1 (20 : Int)) (4095 : Int))) (decide (y8 > (IntKind.wrap .i64 ((((List.length a_0) : Nat) : Int) - x_1)))))) else ((heap_At.j3 a_0 x_1 y_4 (IntKind.wrap .i64 (bitsI .and .u64 y1 (255 : Int))) (IntKind.wrap .i64 (bitsI .and .u64 (shrI .u64 y1 (8 : Int)) (4095 : Int))) (IntKind.wrap .i64 (bitsI .and .u64 (shrI .u64 y1 (20 : Int)) (4095 : Int))) true))
set_option maxRecDepth 100000 in
theorem heap_At.j0.walk {W : Nat → Prop} {h0 m0 h m : Heap} {A_0 : Option Addr} {n_0 c_0 : Nat} {bk_4 : Nat} {cs_4 : List Value} {a_0 : List Int} {x_1 : Int} {y_4 : T_heap_Object} (O : Hold W h0 m0 h m [rV bk_4 152 cs_4]) (ne_0 : n_0 = List.length a_0) (k_0 : List.length a_0 ≤ c_0) (r_0 : Rd 1 (eInt .u64) m A_0 a_0) (e_4 : T_heap_Object.E m y_4 cs_4) {r : T_heap_Object × Int} (e : heap_At.j0 a_0 x_1 y_4 = some r) : f96.j0 (heap_At.post W h0 m0 r) A_0 n_0 c_0 x_1 (⟨bk_4, 0, none⟩ : Addr) h := by
  unfold heap_At.j0 at e
  subst ne_0
  refine f96.j0_in ?_
  unfold f96.j0T
  obtain ⟨y1, g2, e⟩ := bind_e e
  refine r_0.addr rfl g2 fun a3 cs4 ha5 hc6 he7 => ?_
  obtain rfl : cs4 = [(Value.int .u64 y1)] := he7
  refine ⟨_, ld0 O.s hc6 rfl, _, rfl, ?_⟩
  refine ⟨by decide, ?_⟩
  refine ⟨by decide, ?_⟩
  refine ⟨by decide, ?_⟩
  refine split_ne_e e (fun c15 e => ?_) (fun c15 e => ?_)
  · exact heap_At.j3.walk (O.pick [0]).nm rfl k_0 r_0 e_4 e
  · obtain ⟨y8, g9, e⟩ := bind_e e
    refine (heap_room.walk (Hold.start (W := No) O.s)  g9).mono ?_
    rintro _ h10 ⟨m11, Q12, rfl⟩
    have O14 := Hold.nm (O.retC Q12 vfs_nil)
    refine ⟨_, rfl, ?_⟩
    exact heap_At.j3.walk (O14.pick [0]).nm rfl k_0 r_0 e_4 e
noncomputable def heap_At.j1 (a_0 : List Int) (x_1 : Int) (y_4 : T_heap_Object) (b_23 : Bool) : Option (T_heap_Object × Int) :=
  if b_23 = true then (some ((T_heap_Object.mk (0 : Int) (0 : Int) (0 : Int) (ByteArray.mk #[]) ([] : List Int)), (4 : Int))) else ((heap_At.j0 a_0 x_1 y_4))
set_option maxRecDepth 100000 in
theorem heap_At.j1.walk {W : Nat → Prop} {h0 m0 h m : Heap} {A_0 : Option Addr} {n_0 c_0 : Nat} {bk_4 : Nat} {cs_4 : List Value} {a_0 : List Int} {x_1 : Int} {y_4 : T_heap_Object} {b_23 : Bool} (O : Hold W h0 m0 h m [rV bk_4 152 cs_4]) (ne_0 : n_0 = List.length a_0) (k_0 : List.length a_0 ≤ c_0) (r_0 : Rd 1 (eInt .u64) m A_0 a_0) (e_4 : T_heap_Object.E m y_4 cs_4) {r : T_heap_Object × Int} (e : heap_At.j1 a_0 x_1 y_4 b_23 = some r) : f96.j1 (heap_At.post W h0 m0 r) A_0 n_0 c_0 x_1 (⟨bk_4, 0, none⟩ : Addr) b_23 h := by
  unfold heap_At.j1 at e
  subst ne_0
  refine f96.j1_in ?_
  unfold f96.j1T
  refine split_any_e e (fun c6 e => ?_) (fun c6 e => ?_)
  · refine ⟨_, rfl, rfl, ?_⟩
    refine O.stA 0 rfl ((T_heap_Object.T.len _ _ _ e_4)).symm (Flats.cons trivial (Flats.cons trivial (Flats.cons trivial (Flats.cons trivial (Flats.cons trivial Flats.nil))))) fun h1 O2 => ?_
    refine ⟨_, ldAn (Sub.refl _) (O2.all 0 rfl) rfl, ?_⟩
    have O3 := O2.nil (aE (tell_int .u64)) none
    have O5 := O3.nm
    cases e
    exact ⟨_, _, _, _, O5.pick [1], rfl, rfl⟩
  · exact heap_At.j0.walk (O.pick [0]).nm rfl k_0 r_0 e_4 e
noncomputable def heap_At (a_0 : List Int) (x_1 : Int) : Option (T_heap_Object × Int) :=
  if x_1 < (0 : Int) then ((heap_At.j1 a_0 x_1 (T_heap_Object.mk (0 : Int) (0 : Int) (0 : Int) (ByteArray.mk #[]) ([] : List Int)) true)) else ((heap_At.j1 a_0 x_1 (T_heap_Object.mk (0 : Int) (0 : Int) (0 : Int) (ByteArray.mk #[]) ([] : List Int)) (decide (x_1 ≥ (((List.length a_0) : Nat) : Int)))))
set_option maxRecDepth 100000 in
theorem heap_At.walk {W : Nat → Prop} {h m : Heap} {A_0 : Option Addr} {n_0 c_0 : Nat} {a_0 : List Int} {x_1 : Int} (O : Hold W h m h m []) (ne_0 : n_0 = List.length a_0) (k_0 : List.length a_0 ≤ c_0) (r_0 : Rd 1 (eInt .u64) m A_0 a_0) {r : T_heap_Object × Int} (e : heap_At a_0 x_1 = some r) : Run Try.prog 96 #[Value.slice A_0 n_0 c_0, Value.int .i64 x_1] h (heap_At.post W h m r) := by
  unfold heap_At at e
  subst ne_0
  refine f96.run ?_
  unfold f96.runT
  refine O.new fun h1 x2 O3 => ?_
  refine split_dec_e e (fun c7 e => ?_) (fun c7 e => ?_)
  · have O5 := O3.nm
    exact heap_At.j1.walk (O5.pick [0]).nm rfl k_0 r_0 (show T_heap_Object.E _ (T_heap_Object.mk (0 : Int) (0 : Int) (0 : Int) (ByteArray.mk #[]) ([] : List Int)) [(Value.int .i64 (0 : Int)), (Value.int .i64 (0 : Int)), (Value.int .i64 (0 : Int)), (Value.string (ByteArray.mk #[])), (Value.slice none 0 0)] from ⟨_, _, rfl, (by exact Nat.le_refl 0), Rd.nil⟩) e
  · have O6 := O3.nm
    exact heap_At.j1.walk (O6.pick [0]).nm rfl k_0 r_0 (show T_heap_Object.E _ (T_heap_Object.mk (0 : Int) (0 : Int) (0 : Int) (ByteArray.mk #[]) ([] : List Int)) [(Value.int .i64 (0 : Int)), (Value.int .i64 (0 : Int)), (Value.int .i64 (0 : Int)), (Value.string (ByteArray.mk #[])), (Value.slice none 0 0)] from ⟨_, _, rfl, (by exact Nat.le_refl 0), Rd.nil⟩) e
def heap_Objects.post (W : Nat → Prop) (h0 m0 : Heap) (r : (List T_heap_Object) × Int) (v : Value) (h : Heap) : Prop := ∃ m A0 n0 c0, Hold W h0 m0 h m [rR (aE T_heap_Object.T) A0 c0 r.1] ∧ v = .tuple #[.slice A0 n0 c0, .int .i64 r.2] ∧ n0 = List.length r.1
inductive heap_Objects.l0_k.Pt where
  | l0 (a_0 : List Int) (a_4 : List T_heap_Object) (x_5 : Int)
noncomputable def heap_Objects.l0_k.body (go : (p : heap_Objects.l0_k.Pt) → Option ((List T_heap_Object) × Int)) : (p : heap_Objects.l0_k.Pt) → Option ((List T_heap_Object) × Int)
  | .l0 a_0 a_4 x_5 => if x_5 < (((List.length a_0) : Nat) : Int) then (Option.bind (heap_At a_0 x_5) fun y1 => if y1.2 = (0 : Int) then (Option.bind (ap 64 a_4 ([y1.1] : List T_heap_Object)) fun l23 => Option.bind (heap_room y1.1.Kind ((ByteArray.size y1.1.Text : Nat) : Int) (((List.length y1.1.Parts) : Nat) : Int)) fun y38 => (go (.l0 a_0 l23 (IntKind.wrap .i64 (x_5 + y38))))) else (some (([] : List T_heap_Object), (3 : Int)))) else (some (a_4, (0 : Int)))
theorem heap_Objects.l0_k.mono : MonoF (β := fun _ => ((List T_heap_Object) × Int)) heap_Objects.l0_k.body := fun f g hfg p => match p with
  | .l0 a_0 a_4 x_5 => LeO.ite (LeO.bind (LeO.refl _) fun y1 => LeO.ite (LeO.bind (LeO.refl _) fun l23 => LeO.bind (LeO.refl _) fun y38 => (hfg _)) (LeO.refl _)) (LeO.refl _)
noncomputable def heap_Objects.l0_k.go (p : heap_Objects.l0_k.Pt) : Option ((List T_heap_Object) × Int) := fixF (β := fun _ => ((List T_heap_Object) × Int)) heap_Objects.l0_k.body p
noncomputable def heap_Objects.l0 (a_0 : List Int) (a_4 : List T_heap_Object) (x_5 : Int) : Option ((List T_heap_Object) × Int) := heap_Objects.l0_k.go (.l0 a_0 a_4 x_5)
theorem heap_Objects.l0_eq (a_0 : List Int) (a_4 : List T_heap_Object) (x_5 : Int) : heap_Objects.l0 a_0 a_4 x_5 = if x_5 < (((List.length a_0) : Nat) : Int) then (Option.bind (heap_At a_0 x_5) fun y1 => if y1.2 = (0 : Int) then (Option.bind (ap 64 a_4 ([y1.1] : List T_heap_Object)) fun l23 => Option.bind (heap_room y1.1.Kind ((ByteArray.size y1.1.Text : Nat) : Int) (((List.length y1.1.Parts) : Nat) : Int)) fun y38 => (heap_Objects.l0 a_0 l23 (IntKind.wrap .i64 (x_5 + y38)))) else (some (([] : List T_heap_Object), (3 : Int)))) else (some (a_4, (0 : Int))) := fixF_eq heap_Objects.l0_k.mono _
def heap_Objects.l0_k.I : (p : heap_Objects.l0_k.Pt) → ((List T_heap_Object) × Int) → Prop
  | .l0 a_0 a_4 x_5, r => ∀ (W : Nat → Prop) (h0 m0 h m : Heap) (A_0 : Option Addr) (n_0 c_0 : Nat) (A_4 : Option Addr) (n_4 c_4 : Nat) (O : Hold W h0 m0 h m [rR (aE T_heap_Object.T) A_4 c_4 a_4]) (ne_0 : n_0 = List.length a_0) (k_0 : List.length a_0 ≤ c_0) (r_0 : Rd 1 (eInt .u64) m A_0 a_0) (ne_4 : n_4 = List.length a_4), f75.l0 (heap_Objects.post W h0 m0 r) A_0 n_0 c_0 A_4 n_4 c_4 x_5 h
set_option maxHeartbeats 4000000 in
set_option maxRecDepth 100000 in
theorem heap_Objects.l0_k.step_l0 (go : (p : heap_Objects.l0_k.Pt) → Option ((List T_heap_Object) × Int)) (ih : ∀ p r, go p = some r → heap_Objects.l0_k.I p r) (a_0 : List Int) (a_4 : List T_heap_Object) (x_5 : Int) (r : (List T_heap_Object) × Int) (e : heap_Objects.l0_k.body go (.l0 a_0 a_4 x_5) = some r) : heap_Objects.l0_k.I (.l0 a_0 a_4 x_5) r := by
  unfold heap_Objects.l0_k.body at e
  intro W h0 m0 h m A_0 n_0 c_0 A_4 n_4 c_4 O ne_0 k_0 r_0 ne_4
  subst ne_0
  subst ne_4
  refine f75.l0_in ?_
  unfold f75.l0T
  refine split_dec_e e (fun c46 e => ?_) (fun c46 e => ?_)
  · obtain ⟨y1, g2, e⟩ := bind_e e
    refine (heap_At.walk (Hold.start (W := No) O.s) rfl k_0 r_0 g2).mono ?_
    rintro _ h3 ⟨m4, A_7_4, n_7_4, c_7_4, Q5, rfl, ne_7_4⟩
    have O9 := Hold.nm (O.retC Q5 (vfs_cons (rR_vf (aE_vf (fun _ _ _ _ h => h))) vfs_nil))
    subst ne_7_4
    refine ⟨_, _, rfl, ?_⟩
    refine O9.new fun h10 x11 O12 => ?_
    refine ⟨_, rfl, rfl, ?_⟩
    refine O12.stA 2 rfl rfl (Flats.cons trivial (Flats.cons trivial (Flats.cons trivial (Flats.cons trivial (Flats.cons trivial Flats.nil))))) fun h14 O15 => ?_
    refine split_ne_e e (fun c45 e => ?_) (fun c45 e => ?_)
    · have O16 := O15.nil (aE T_heap_Object.T) none
      have O18 := O16.nm
      cases e
      exact ⟨_, _, _, _, O18.pick [3], rfl, rfl⟩
    · refine ⟨_, ldAn (Sub.refl _) (O15.all 2 rfl) rfl, ?_⟩
      refine ⟨[(Value.int .i64 y1.1.At), (Value.int .i64 y1.1.Kind), (Value.int .i64 y1.1.Num), (Value.string y1.1.Text), (Value.slice A_7_4 (List.length y1.1.Parts) c_7_4)], rfl, rfl, ?_⟩
      refine O15.new fun h19 x20 O21 => ?_
      obtain ⟨l23, g24, e⟩ := bind_e e
      obtain ⟨m31, u32, ⟨r33, k34⟩, O35⟩ := O21.frz 1 rfl
      replace r33 : Rd 1 (eInt .u64) m31 A_7_4 y1.1.Parts := r33
      have O36 := O35.rowE (l := ([y1.1] : List T_heap_Object)) 3 rfl T_heap_Object.T (show CsE _ _ _ _ _ from (CsE.cons (c1 := [(Value.int .i64 y1.1.At), (Value.int .i64 y1.1.Kind), (Value.int .i64 y1.1.Num), (Value.string y1.1.Text), (Value.slice A_7_4 (List.length y1.1.Parts) c_7_4)]) (show T_heap_Object.E _ y1.1 [(Value.int .i64 y1.1.At), (Value.int .i64 y1.1.Kind), (Value.int .i64 y1.1.Num), (Value.string y1.1.Text), (Value.slice A_7_4 (List.length y1.1.Parts) c_7_4)] from ⟨_, _, rfl, k34, r33⟩) rfl CsE.nil)) rfl
      refine O36.app 0 rfl rfl rfl ((O36.os 3 rfl).srcE rfl) (by decide) g24 fun A25 c26 h27 O28 => ?_
      refine ⟨_, _, _, rfl, ?_⟩
      have O37 := O28.nm
      refine ⟨_, ldk (k := 1) (Sub.refl _) (O37.all 2 rfl) rfl, _, rfl, ?_⟩
      refine ⟨_, ldk (k := 3) (Sub.refl _) (O37.all 2 rfl) rfl, _, rfl, ?_⟩
      refine ⟨_, ldk (k := 4) (Sub.refl _) (O37.all 2 rfl) rfl, _, _, _, rfl, ?_⟩
      obtain ⟨y38, g39, e⟩ := bind_e e
      refine (heap_room.walk (Hold.start (W := No) O37.s)  g39).mono ?_
      rintro _ h40 ⟨m41, Q42, rfl⟩
      have O44 := Hold.nm (O37.retC Q42 vfs_nil)
      refine ⟨_, rfl, ?_⟩
      exact (ih _ _ e) _ _ _ _ _ _ _ _ _ _ _ (O44.pick [0]).nm rfl k_0 (r_0.sub (tell_int .u64) u32) rfl
  · cases e
    exact ⟨_, _, _, _, O.pick [0], rfl, rfl⟩
theorem heap_Objects.l0_k.all {p : heap_Objects.l0_k.Pt} {r : ((List T_heap_Object) × Int)} (e : heap_Objects.l0_k.go p = some r) : heap_Objects.l0_k.I p r := fixF_ind (β := fun _ => ((List T_heap_Object) × Int)) heap_Objects.l0_k.mono (I := heap_Objects.l0_k.I) (fun go ih p r e => match p with
  | .l0 a_0 a_4 x_5 => heap_Objects.l0_k.step_l0 go ih a_0 a_4 x_5 r e
  ) e
theorem heap_Objects.l0.walk {W : Nat → Prop} {h0 m0 h m : Heap} {A_0 : Option Addr} {n_0 c_0 : Nat} {A_4 : Option Addr} {n_4 c_4 : Nat} {a_0 : List Int} {a_4 : List T_heap_Object} {x_5 : Int} (O : Hold W h0 m0 h m [rR (aE T_heap_Object.T) A_4 c_4 a_4]) (ne_0 : n_0 = List.length a_0) (k_0 : List.length a_0 ≤ c_0) (r_0 : Rd 1 (eInt .u64) m A_0 a_0) (ne_4 : n_4 = List.length a_4) {r : (List T_heap_Object) × Int} (e : heap_Objects.l0 a_0 a_4 x_5 = some r) : f75.l0 (heap_Objects.post W h0 m0 r) A_0 n_0 c_0 A_4 n_4 c_4 x_5 h := heap_Objects.l0_k.all (p := .l0 a_0 a_4 x_5) e W h0 m0 h m A_0 n_0 c_0 A_4 n_4 c_4 O ne_0 k_0 r_0 ne_4
noncomputable def heap_Objects (a_0 : List Int) : Option ((List T_heap_Object) × Int) :=
  if (((List.length a_0) : Nat) : Int) > (4000 : Int) then (some (([] : List T_heap_Object), (2 : Int))) else ((heap_Objects.l0 a_0 ([] : List T_heap_Object) (0 : Int)))
set_option maxRecDepth 100000 in
theorem heap_Objects.walk {W : Nat → Prop} {h m : Heap} {A_0 : Option Addr} {n_0 c_0 : Nat} {a_0 : List Int} (O : Hold W h m h m []) (ne_0 : n_0 = List.length a_0) (k_0 : List.length a_0 ≤ c_0) (r_0 : Rd 1 (eInt .u64) m A_0 a_0) {r : (List T_heap_Object) × Int} (e : heap_Objects a_0 = some r) : Run Try.prog 75 #[Value.slice A_0 n_0 c_0] h (heap_Objects.post W h m r) := by
  unfold heap_Objects at e
  subst ne_0
  refine f75.run ?_
  unfold f75.runT
  refine split_dec_e e (fun c7 e => ?_) (fun c7 e => ?_)
  · have O1 := O.nil (aE T_heap_Object.T) none
    have O3 := O1.nm
    cases e
    exact ⟨_, _, _, _, O3.pick [0], rfl, rfl⟩
  · have O4 := O.nil (aE T_heap_Object.T) none
    have O6 := O4.nm
    exact heap_Objects.l0.walk (O6.pick [0]).nm rfl k_0 r_0 rfl e
def term_Small.post (W : Nat → Prop) (h0 m0 : Heap) (r : Bool) (v : Value) (h : Heap) : Prop := ∃ m , Hold W h0 m0 h m [] ∧ v = .bool r
noncomputable def term_Small (x_0 : Int) : Option (Bool) :=
  if x_0 ≥ (-1152921504606846976 : Int) then (some ((decide (x_0 < (1152921504606846976 : Int))))) else (some (false))
set_option maxRecDepth 100000 in
theorem term_Small.walk {W : Nat → Prop} {h m : Heap} {x_0 : Int} (O : Hold W h m h m []) {r : Bool} (e : term_Small x_0 = some r) : Run Try.prog 108 #[Value.int .i64 x_0] h (term_Small.post W h m r) := by
  unfold term_Small at e
  refine f108.run ?_
  unfold f108.runT
  refine split_dec_e e (fun c1 e => ?_) (fun c1 e => ?_)
  · cases e
    exact ⟨_, O.pick [], rfl⟩
  · cases e
    exact ⟨_, O.pick [], rfl⟩
def term_Word.post (W : Nat → Prop) (h0 m0 : Heap) (r : Int × Int) (v : Value) (h : Heap) : Prop := ∃ m , Hold W h0 m0 h m [] ∧ v = .tuple #[.int .u64 r.1, .int .i64 r.2]
noncomputable def term_Word.j2 (b_49 : Bool) : Option (Int × Int) :=
  if b_49 = true then (some ((0 : Int), (1 : Int))) else (some ((0 : Int), (2 : Int)))
set_option maxRecDepth 100000 in
theorem term_Word.j2.walk {W : Nat → Prop} {h0 m0 h m : Heap} {b_49 : Bool} (O : Hold W h0 m0 h m []) {r : Int × Int} (e : term_Word.j2 b_49 = some r) : f105.j2 (term_Word.post W h0 m0 r) b_49 h := by
  unfold term_Word.j2 at e
  refine f105.j2_in ?_
  unfold f105.j2T
  refine split_any_e e (fun c1 e => ?_) (fun c1 e => ?_)
  · cases e
    exact ⟨_, O.pick [], rfl⟩
  · cases e
    exact ⟨_, O.pick [], rfl⟩
noncomputable def term_Word.j0 (x_0 : Int) (x_1 : Int) (b_6 : Bool) : Option (Int × Int) :=
  if b_6 = true then (some ((bitsI .or .u64 (shlI .u64 (IntKind.wrap .u64 x_1) (3 : Int)) (IntKind.wrap .u64 x_0)), (0 : Int))) else (if x_0 < (0 : Int) then ((term_Word.j2 true)) else ((term_Word.j2 (decide (x_0 > (4 : Int))))))
set_option maxRecDepth 100000 in
theorem term_Word.j0.walk {W : Nat → Prop} {h0 m0 h m : Heap} {x_0 : Int} {x_1 : Int} {b_6 : Bool} (O : Hold W h0 m0 h m []) {r : Int × Int} (e : term_Word.j0 x_0 x_1 b_6 = some r) : f105.j0 (term_Word.post W h0 m0 r) x_0 x_1 b_6 h := by
  unfold term_Word.j0 at e
  refine f105.j0_in ?_
  unfold f105.j0T
  refine split_any_e e (fun c2 e => ?_) (fun c2 e => ?_)
  · refine ⟨by decide, ?_⟩
    cases e
    exact ⟨_, O.pick [], rfl⟩
  · refine split_dec_e e (fun c1 e => ?_) (fun c1 e => ?_)
    · exact term_Word.j2.walk (O.pick []).nm  e
    · exact term_Word.j2.walk (O.pick []).nm  e
noncomputable def term_Word.j4 (x_0 : Int) (x_1 : Int) (b_6 : Bool) : Option (Int × Int) :=
  if b_6 = true then ((term_Word.j0 x_0 x_1 b_6)) else (if x_0 = (3 : Int) then (if x_1 ≥ (0 : Int) then ((term_Word.j0 x_0 x_1 (decide (x_1 < (1152921504606846976 : Int))))) else ((term_Word.j0 x_0 x_1 false))) else (if x_0 = (4 : Int) then (if x_1 ≥ (0 : Int) then ((term_Word.j0 x_0 x_1 (decide (x_1 < (1152921504606846976 : Int))))) else ((term_Word.j0 x_0 x_1 false))) else ((term_Word.j0 x_0 x_1 false))))
set_option maxRecDepth 100000 in
theorem term_Word.j4.walk {W : Nat → Prop} {h0 m0 h m : Heap} {x_0 : Int} {x_1 : Int} {b_6 : Bool} (O : Hold W h0 m0 h m []) {r : Int × Int} (e : term_Word.j4 x_0 x_1 b_6 = some r) : f105.j4 (term_Word.post W h0 m0 r) x_0 x_1 b_6 h := by
  unfold term_Word.j4 at e
  refine f105.j4_in ?_
  unfold f105.j4T
  refine split_any_e e (fun c5 e => ?_) (fun c5 e => ?_)
  · exact term_Word.j0.walk (O.pick []).nm  e
  · refine split_eq_e e (fun c4 e => ?_) (fun c4 e => ?_)
    · refine split_dec_e e (fun c1 e => ?_) (fun c1 e => ?_)
      · exact term_Word.j0.walk (O.pick []).nm  e
      · exact term_Word.j0.walk (O.pick []).nm  e
    · refine split_eq_e e (fun c3 e => ?_) (fun c3 e => ?_)
      · refine split_dec_e e (fun c2 e => ?_) (fun c2 e => ?_)
        · exact term_Word.j0.walk (O.pick []).nm  e
        · exact term_Word.j0.walk (O.pick []).nm  e
      · exact term_Word.j0.walk (O.pick []).nm  e
noncomputable def term_Word.j3 (x_0 : Int) (x_1 : Int) (b_6 : Bool) : Option (Int × Int) :=
  if b_6 = true then ((term_Word.j0 x_0 x_1 b_6)) else (if x_0 = (1 : Int) then (Option.bind (term_Small x_1) fun y1 => (term_Word.j4 x_0 x_1 y1)) else ((term_Word.j4 x_0 x_1 false)))
set_option maxRecDepth 100000 in
theorem term_Word.j3.walk {W : Nat → Prop} {h0 m0 h m : Heap} {x_0 : Int} {x_1 : Int} {b_6 : Bool} (O : Hold W h0 m0 h m []) {r : Int × Int} (e : term_Word.j3 x_0 x_1 b_6 = some r) : f105.j3 (term_Word.post W h0 m0 r) x_0 x_1 b_6 h := by
  unfold term_Word.j3 at e
  refine f105.j3_in ?_
  unfold f105.j3T
  refine split_any_e e (fun c9 e => ?_) (fun c9 e => ?_)
  · exact term_Word.j0.walk (O.pick []).nm  e
  · refine split_eq_e e (fun c8 e => ?_) (fun c8 e => ?_)
    · obtain ⟨y1, g2, e⟩ := bind_e e
      refine (term_Small.walk (Hold.start (W := No) O.s)  g2).mono ?_
      rintro _ h3 ⟨m4, Q5, rfl⟩
      have O7 := Hold.nm (O.retC Q5 vfs_nil)
      refine ⟨_, rfl, ?_⟩
      exact term_Word.j4.walk (O7.pick []).nm  e
    · exact term_Word.j4.walk (O.pick []).nm  e
noncomputable def term_Word.j1 (x_0 : Int) (x_1 : Int) (b_6 : Bool) : Option (Int × Int) :=
  if b_6 = true then ((term_Word.j0 x_0 x_1 b_6)) else (if x_0 = (2 : Int) then (if x_1 = (0 : Int) then ((term_Word.j3 x_0 x_1 true)) else ((term_Word.j3 x_0 x_1 (x_1 == (1 : Int))))) else ((term_Word.j3 x_0 x_1 false)))
set_option maxRecDepth 100000 in
theorem term_Word.j1.walk {W : Nat → Prop} {h0 m0 h m : Heap} {x_0 : Int} {x_1 : Int} {b_6 : Bool} (O : Hold W h0 m0 h m []) {r : Int × Int} (e : term_Word.j1 x_0 x_1 b_6 = some r) : f105.j1 (term_Word.post W h0 m0 r) x_0 x_1 b_6 h := by
  unfold term_Word.j1 at e
  refine f105.j1_in ?_
  unfold f105.j1T
  refine split_any_e e (fun c3 e => ?_) (fun c3 e => ?_)
  · exact term_Word.j0.walk (O.pick []).nm  e
  · refine split_eq_e e (fun c2 e => ?_) (fun c2 e => ?_)
    · refine split_eq_e e (fun c1 e => ?_) (fun c1 e => ?_)
      · exact term_Word.j3.walk (O.pick []).nm  e
      · exact term_Word.j3.walk (O.pick []).nm  e
    · exact term_Word.j3.walk (O.pick []).nm  e
noncomputable def term_Word (x_0 : Int) (x_1 : Int) : Option (Int × Int) :=
  if x_0 = (0 : Int) then ((term_Word.j1 x_0 x_1 (x_1 == (0 : Int)))) else ((term_Word.j1 x_0 x_1 false))
set_option maxRecDepth 100000 in
theorem term_Word.walk {W : Nat → Prop} {h m : Heap} {x_0 : Int} {x_1 : Int} (O : Hold W h m h m []) {r : Int × Int} (e : term_Word x_0 x_1 = some r) : Run Try.prog 105 #[Value.int .i64 x_0, Value.int .i64 x_1] h (term_Word.post W h m r) := by
  unfold term_Word at e
  refine f105.run ?_
  unfold f105.runT
  refine split_eq_e e (fun c1 e => ?_) (fun c1 e => ?_)
  · exact term_Word.j1.walk (O.pick []).nm  e
  · exact term_Word.j1.walk (O.pick []).nm  e
def term_Read.post (W : Nat → Prop) (h0 m0 : Heap) (r : Int × Int × Int) (v : Value) (h : Heap) : Prop := ∃ m , Hold W h0 m0 h m [] ∧ v = .tuple #[.int .i64 r.1, .int .i64 r.2.1, .int .i64 r.2.2]
noncomputable def term_Read.j1 (x_5 : Int) (x_6 : Int) : Option (Int × Int × Int) :=
  some (x_5, x_6, (0 : Int))
set_option maxRecDepth 100000 in
theorem term_Read.j1.walk {W : Nat → Prop} {h0 m0 h m : Heap} {x_5 : Int} {x_6 : Int} (O : Hold W h0 m0 h m []) {r : Int × Int × Int} (e : term_Read.j1 x_5 x_6 = some r) : f98.j1 (term_Read.post W h0 m0 r) x_5 x_6 h := by
  unfold term_Read.j1 at e
  refine f98.j1_in ?_
  unfold f98.j1T
  cases e
  exact ⟨_, O.pick [], rfl⟩
noncomputable def term_Read.j2 (x_5 : Int) (x_6 : Int) (b_32 : Bool) : Option (Int × Int × Int) :=
  if b_32 = true then (some ((0 : Int), (0 : Int), (3 : Int))) else ((term_Read.j1 x_5 x_6))
set_option maxRecDepth 100000 in
theorem term_Read.j2.walk {W : Nat → Prop} {h0 m0 h m : Heap} {x_5 : Int} {x_6 : Int} {b_32 : Bool} (O : Hold W h0 m0 h m []) {r : Int × Int × Int} (e : term_Read.j2 x_5 x_6 b_32 = some r) : f98.j2 (term_Read.post W h0 m0 r) x_5 x_6 b_32 h := by
  unfold term_Read.j2 at e
  refine f98.j2_in ?_
  unfold f98.j2T
  refine split_any_e e (fun c1 e => ?_) (fun c1 e => ?_)
  · cases e
    exact ⟨_, O.pick [], rfl⟩
  · exact term_Read.j1.walk (O.pick []).nm  e
noncomputable def term_Read.j0 (x_0 : Int) (x_5 : Int) (x_6 : Int) : Option (Int × Int × Int) :=
  Option.bind (term_Word x_5 x_6) fun y1 => if y1.2 = (0 : Int) then ((term_Read.j2 x_5 x_6 (y1.1 != x_0))) else ((term_Read.j2 x_5 x_6 true))
set_option maxRecDepth 100000 in
theorem term_Read.j0.walk {W : Nat → Prop} {h0 m0 h m : Heap} {x_0 : Int} {x_5 : Int} {x_6 : Int} (O : Hold W h0 m0 h m []) {r : Int × Int × Int} (e : term_Read.j0 x_0 x_5 x_6 = some r) : f98.j0 (term_Read.post W h0 m0 r) x_0 x_5 x_6 h := by
  unfold term_Read.j0 at e
  refine f98.j0_in ?_
  unfold f98.j0T
  obtain ⟨y1, g2, e⟩ := bind_e e
  refine (term_Word.walk (Hold.start (W := No) O.s)  g2).mono ?_
  rintro _ h3 ⟨m4, Q5, rfl⟩
  have O7 := Hold.nm (O.retC Q5 vfs_nil)
  refine ⟨_, _, rfl, ?_⟩
  refine split_ne_e e (fun c8 e => ?_) (fun c8 e => ?_)
  · exact term_Read.j2.walk (O7.pick []).nm  e
  · exact term_Read.j2.walk (O7.pick []).nm  e
noncomputable def term_Read (x_0 : Int) : Option (Int × Int × Int) :=
  if (IntKind.wrap .i64 (Int.tmod x_0 (8 : Int))) = (1 : Int) then ((term_Read.j0 x_0 (IntKind.wrap .i64 (Int.tmod x_0 (8 : Int))) (shrI .i64 (IntKind.wrap .i64 x_0) (3 : Int)))) else ((term_Read.j0 x_0 (IntKind.wrap .i64 (Int.tmod x_0 (8 : Int))) (IntKind.wrap .i64 (shrI .u64 x_0 (3 : Int)))))
set_option maxRecDepth 100000 in
theorem term_Read.walk {W : Nat → Prop} {h m : Heap} {x_0 : Int} (O : Hold W h m h m []) {r : Int × Int × Int} (e : term_Read x_0 = some r) : Run Try.prog 98 #[Value.int .u64 x_0] h (term_Read.post W h m r) := by
  unfold term_Read at e
  refine f98.run ?_
  unfold f98.runT
  refine ⟨by decide, ?_⟩
  refine ⟨by decide, ?_⟩
  refine split_eq_e e (fun c1 e => ?_) (fun c1 e => ?_)
  · refine ⟨by decide, ?_⟩
    exact term_Read.j0.walk (O.pick []).nm  e
  · exact term_Read.j0.walk (O.pick []).nm  e
def carry_copier_put.post (W : Nat → Prop) (bkio0 : Nat) (h0 m0 : Heap) (r : Int × Int × T_carry_copier) (v : Value) (h : Heap) : Prop := ∃ m Aio0_0 nio0_0 cio0_0 Aio0_1 nio0_1 cio0_1 Aio0_2 nio0_2 cio0_2 bio0_3, Hold W h0 m0 h m [rV bkio0 148 [(Value.slice Aio0_0 nio0_0 cio0_0), (Value.slice Aio0_1 nio0_1 cio0_1), (Value.slice Aio0_2 nio0_2 cio0_2), (Value.map (some bio0_3))], rR (aE (tell_int .u64)) Aio0_1 cio0_1 r.2.2.left_, rM (monoV0 (tell_int .u64)) (fun n : Int => Value.int .i64 n) bio0_3 r.2.2.moved_] ∧ v = .tuple #[.int .u64 r.1, .int .i64 r.2.1] ∧ nio0_0 = List.length r.2.2.from_ ∧ List.length r.2.2.from_ ≤ cio0_0 ∧ Rd 1 (eInt .u64) m Aio0_0 r.2.2.from_ ∧ nio0_1 = List.length r.2.2.left_ ∧ nio0_2 = List.length r.2.2.to_ ∧ List.length r.2.2.to_ ≤ cio0_2 ∧ Rd 1 (eInt .u64) m Aio0_2 r.2.2.to_
noncomputable def carry_copier_put.j0 (a_io0_0 : (List Int)) (a_io0_1 : (List Int)) (a_io0_2 : (List Int)) (a_io0_3 : (List (Int × Int))) (y_3 : T_heap_Object) (x_7 : Int) : Option (Int × Int × T_carry_copier) :=
  Option.bind (term_Word (4 : Int) x_7) fun y1 => Option.bind (some (pset a_io0_3 y_3.At y1.1)) fun l10 => some (y1.1, y1.2, (T_carry_copier.mk a_io0_0 a_io0_1 a_io0_2 l10))
set_option maxRecDepth 100000 in
theorem carry_copier_put.j0.walk {W : Nat → Prop} {h0 m0 h m : Heap} {bk_io0 : Nat} {A_io0_0_0 : Option Addr} {n_io0_0_0 : Nat} {c_io0_0_0 : Nat} {A_io0_1_0 : Option Addr} {n_io0_1_0 : Nat} {c_io0_1_0 : Nat} {A_io0_2_0 : Option Addr} {n_io0_2_0 : Nat} {c_io0_2_0 : Nat} {b_io0_3_0 : Nat} {bk_3 : Nat} {cs_3 : List Value} {a_io0_0 : (List Int)} {a_io0_1 : (List Int)} {a_io0_2 : (List Int)} {a_io0_3 : (List (Int × Int))} {y_3 : T_heap_Object} {x_7 : Int} (O : Hold W h0 m0 h m [rV bk_io0 148 [(Value.slice A_io0_0_0 n_io0_0_0 c_io0_0_0), (Value.slice A_io0_1_0 n_io0_1_0 c_io0_1_0), (Value.slice A_io0_2_0 n_io0_2_0 c_io0_2_0), (Value.map (some b_io0_3_0))], rR (aE (tell_int .u64)) A_io0_1_0 c_io0_1_0 a_io0_1, rM (monoV0 (tell_int .u64)) (fun n : Int => Value.int .i64 n) b_io0_3_0 a_io0_3, rV bk_3 152 cs_3]) (ne_io0_0_0 : n_io0_0_0 = List.length a_io0_0) (k_io0_0_0 : List.length a_io0_0 ≤ c_io0_0_0) (r_io0_0_0 : Rd 1 (eInt .u64) m A_io0_0_0 a_io0_0) (ne_io0_1_0 : n_io0_1_0 = List.length a_io0_1) (ne_io0_2_0 : n_io0_2_0 = List.length a_io0_2) (k_io0_2_0 : List.length a_io0_2 ≤ c_io0_2_0) (r_io0_2_0 : Rd 1 (eInt .u64) m A_io0_2_0 a_io0_2) (e_3 : T_heap_Object.E m y_3 cs_3) {r : Int × Int × T_carry_copier} (e : carry_copier_put.j0 a_io0_0 a_io0_1 a_io0_2 a_io0_3 y_3 x_7 = some r) : f99.j0 (carry_copier_put.post W bk_io0 h0 m0 r) (⟨bk_io0, 0, none⟩ : Addr) (⟨bk_3, 0, none⟩ : Addr) x_7 h := by
  unfold carry_copier_put.j0 at e
  subst ne_io0_0_0
  subst ne_io0_1_0
  subst ne_io0_2_0
  refine f99.j0_in ?_
  unfold f99.j0T
  obtain ⟨y1, g2, e⟩ := bind_e e
  refine (term_Word.walk (Hold.start (W := No) O.s)  g2).mono ?_
  rintro _ h3 ⟨m4, Q5, rfl⟩
  have O7 := Hold.nm (O.retC Q5 vfs_nil)
  refine ⟨_, _, rfl, ?_⟩
  refine ⟨_, ldk (k := 3) (Sub.refl _) (O7.all 0 rfl) rfl, ?_⟩
  refine ⟨_, ld0 (Sub.refl _) (O7.all 3 rfl) (T_heap_Object.g0 e_3), _, rfl, ?_⟩
  obtain ⟨l10, g11, e⟩ := bind_e e
  replace g11 := Option.some.inj g11
  refine O7.mapUpd (x := y1.1) (v := (Value.int .u64 y1.1)) 2 rfl (keyOk_int (key := 3) (elem := 77) (by kernel_rfl) (by kernel_rfl)) y_3.At (show (eV0 (eInt .u64)) m y1.1 (Value.int .u64 y1.1) from rfl) g11 fun h8 O9 => ?_
  have O12 := O9.nm
  cases e
  exact ⟨_, _, _, _, _, _, _, _, _, _, _, O12.pick [0, 1, 2], rfl, rfl, k_io0_0_0, r_io0_0_0, rfl, rfl, k_io0_2_0, r_io0_2_0⟩
noncomputable def carry_copier_put.j1 (a_io0_0 : (List Int)) (a_io0_1 : (List Int)) (a_io0_2 : (List Int)) (a_io0_3 : (List (Int × Int))) (y_3 : T_heap_Object) (x_7 : Int) (b_38 : Bool) : Option (Int × Int × T_carry_copier) :=
  if b_38 = true then (Option.bind (heap_Put ([] : List Int) (T_heap_Object.mk (0 : Int) (1 : Int) (0 : Int) (ByteArray.mk #[]) ([] : List Int))) fun y1 => Option.bind (sls a_io0_1 y_3.At (((List.length a_io0_1) : Nat) : Int)) fun l13 => (carry_copier_put.j0 a_io0_0 (cpyL a_io0_1 (Int.toNat y_3.At) (List.length l13) y1.1) a_io0_2 a_io0_3 y_3 x_7)) else ((carry_copier_put.j0 a_io0_0 a_io0_1 a_io0_2 a_io0_3 y_3 x_7))
set_option maxRecDepth 100000 in
theorem carry_copier_put.j1.walk {W : Nat → Prop} {h0 m0 h m : Heap} {bk_io0 : Nat} {A_io0_0_0 : Option Addr} {n_io0_0_0 : Nat} {c_io0_0_0 : Nat} {A_io0_1_0 : Option Addr} {n_io0_1_0 : Nat} {c_io0_1_0 : Nat} {A_io0_2_0 : Option Addr} {n_io0_2_0 : Nat} {c_io0_2_0 : Nat} {b_io0_3_0 : Nat} {bk_3 : Nat} {cs_3 : List Value} {a_io0_0 : (List Int)} {a_io0_1 : (List Int)} {a_io0_2 : (List Int)} {a_io0_3 : (List (Int × Int))} {y_3 : T_heap_Object} {x_7 : Int} {b_38 : Bool} (O : Hold W h0 m0 h m [rV bk_io0 148 [(Value.slice A_io0_0_0 n_io0_0_0 c_io0_0_0), (Value.slice A_io0_1_0 n_io0_1_0 c_io0_1_0), (Value.slice A_io0_2_0 n_io0_2_0 c_io0_2_0), (Value.map (some b_io0_3_0))], rR (aE (tell_int .u64)) A_io0_1_0 c_io0_1_0 a_io0_1, rM (monoV0 (tell_int .u64)) (fun n : Int => Value.int .i64 n) b_io0_3_0 a_io0_3, rV bk_3 152 cs_3]) (ne_io0_0_0 : n_io0_0_0 = List.length a_io0_0) (k_io0_0_0 : List.length a_io0_0 ≤ c_io0_0_0) (r_io0_0_0 : Rd 1 (eInt .u64) m A_io0_0_0 a_io0_0) (ne_io0_1_0 : n_io0_1_0 = List.length a_io0_1) (ne_io0_2_0 : n_io0_2_0 = List.length a_io0_2) (k_io0_2_0 : List.length a_io0_2 ≤ c_io0_2_0) (r_io0_2_0 : Rd 1 (eInt .u64) m A_io0_2_0 a_io0_2) (e_3 : T_heap_Object.E m y_3 cs_3) {r : Int × Int × T_carry_copier} (e : carry_copier_put.j1 a_io0_0 a_io0_1 a_io0_2 a_io0_3 y_3 x_7 b_38 = some r) : f99.j1 (carry_copier_put.post W bk_io0 h0 m0 r) (⟨bk_io0, 0, none⟩ : Addr) (⟨bk_3, 0, none⟩ : Addr) x_7 b_38 h := by
  unfold carry_copier_put.j1 at e
  subst ne_io0_0_0
  subst ne_io0_1_0
  subst ne_io0_2_0
  refine f99.j1_in ?_
  unfold f99.j1T
  refine split_any_e e (fun c19 e => ?_) (fun c19 e => ?_)
  · obtain ⟨y1, g2, e⟩ := bind_e e
    refine (heap_Put.walk (Hold.start (W := No) O.s) rfl (by exact Nat.le_refl 0) Rd.nil (show T_heap_Object.E _ (T_heap_Object.mk (0 : Int) (1 : Int) (0 : Int) (ByteArray.mk #[]) ([] : List Int)) [(Value.int .i64 (0 : Int)), (Value.int .i64 (1 : Int)), (Value.int .i64 (0 : Int)), (Value.string (ByteArray.mk #[])), (Value.slice none 0 0)] from ⟨_, _, rfl, (by exact Nat.le_refl 0), Rd.nil⟩) g2).mono ?_
    rintro _ h3 ⟨m4, A7, n8, c9, Q5, rfl, ne10⟩
    have O12 := Hold.nm (O.retC Q5 (vfs_cons (rR_vf (aE_vf (fun _ _ _ _ h => h))) vfs_nil))
    subst ne10
    refine ⟨_, _, _, _, _, rfl, ?_⟩
    refine ⟨_, ldk (k := 1) (Sub.refl _) (O12.all 0 rfl) rfl, _, _, _, rfl, ?_⟩
    refine ⟨_, ld0 (Sub.refl _) (O12.all 3 rfl) (T_heap_Object.g0 e_3), _, rfl, ?_⟩
    obtain ⟨l13, g14, e⟩ := bind_e e
    have q15 := sls_e g14
    refine ⟨q15.1, q15.2.1, cap_in q15.2.2.1 (O12.cap 1 rfl), ?_⟩
    try rw [q15.2.2.2.1]
    refine O12.cpyI (e := 77) (l8 := l13) 1 rfl g14 ((O12.os 4 rfl).srcE rfl) (by kernel_rfl) (by kernel_rfl) (by decide) fun h16 O17 => ?_
    refine ⟨_, rfl, ?_⟩
    have O18 := O17.nm
    exact carry_copier_put.j0.walk (O18.pick [0, 1, 2, 3]).nm rfl k_io0_0_0 r_io0_0_0 (cpyL_len (by have := q15; omega)) rfl k_io0_2_0 r_io0_2_0 e_3 e
  · exact carry_copier_put.j0.walk (O.pick [0, 1, 2, 3]).nm rfl k_io0_0_0 r_io0_0_0 rfl rfl k_io0_2_0 r_io0_2_0 e_3 e
noncomputable def carry_copier_put (y_0 : T_carry_copier) (y_1 : T_heap_Object) : Option (Int × Int × T_carry_copier) :=
  Option.bind (heap_Put y_0.to_ y_1) fun y5 => if y5.2.2 = (0 : Int) then (if y_1.Kind = (5 : Int) then ((carry_copier_put.j1 y_0.from_ y_0.left_ y5.1 y_0.moved_ y_1 y5.2.1 ((((List.length y_1.Parts) : Nat) : Int) == (1 : Int)))) else ((carry_copier_put.j1 y_0.from_ y_0.left_ y5.1 y_0.moved_ y_1 y5.2.1 false))) else (some ((0 : Int), y5.2.2, (T_carry_copier.mk y_0.from_ y_0.left_ y_0.to_ y_0.moved_)))
set_option maxRecDepth 100000 in
theorem carry_copier_put.walk {W : Nat → Prop} {h m : Heap} {bkio0 : Nat} {A_0_0 : Option Addr} {n_0_0 : Nat} {c_0_0 : Nat} {A_0_1 : Option Addr} {n_0_1 : Nat} {c_0_1 : Nat} {A_0_2 : Option Addr} {n_0_2 : Nat} {c_0_2 : Nat} {b_0_3 : Nat} {cs_1 : List Value} {y_0 : T_carry_copier} {y_1 : T_heap_Object} (O : Hold W h m h m [rV bkio0 148 [(Value.slice A_0_0 n_0_0 c_0_0), (Value.slice A_0_1 n_0_1 c_0_1), (Value.slice A_0_2 n_0_2 c_0_2), (Value.map (some b_0_3))], rR (aE (tell_int .u64)) A_0_1 c_0_1 y_0.left_, rM (monoV0 (tell_int .u64)) (fun n : Int => Value.int .i64 n) b_0_3 y_0.moved_]) (ne_0_0 : n_0_0 = List.length y_0.from_) (k_0_0 : List.length y_0.from_ ≤ c_0_0) (r_0_0 : Rd 1 (eInt .u64) m A_0_0 y_0.from_) (ne_0_1 : n_0_1 = List.length y_0.left_) (ne_0_2 : n_0_2 = List.length y_0.to_) (k_0_2 : List.length y_0.to_ ≤ c_0_2) (r_0_2 : Rd 1 (eInt .u64) m A_0_2 y_0.to_) (e_1 : T_heap_Object.E m y_1 cs_1) {r : Int × Int × T_carry_copier} (e : carry_copier_put y_0 y_1 = some r) : Run Try.prog 99 #[Value.pointer (some ⟨bkio0, 0, none⟩), Value.agg cs_1.toArray] h (carry_copier_put.post W bkio0 h m r) := by
  unfold carry_copier_put at e
  subst ne_0_0
  subst ne_0_1
  subst ne_0_2
  refine f99.run ?_
  unfold f99.runT
  refine O.new fun h1 x2 O3 => ?_
  refine ⟨_, ldk (k := 2) (Sub.refl _) (O3.all 0 rfl) rfl, _, _, _, rfl, ?_⟩
  refine ⟨_, ldAn (Sub.refl _) (O3.all 3 rfl) (T_heap_Object.T.len _ _ _ e_1), ?_⟩
  obtain ⟨y5, g6, e⟩ := bind_e e
  refine (heap_Put.walk (Hold.start (W := No) O3.s) rfl k_0_2 r_0_2 e_1 g6).mono ?_
  rintro _ h7 ⟨m8, A11, n12, c13, Q9, rfl, ne14⟩
  have O16 := Hold.nm (O3.retC Q9 (vfs_cons (rR_vf (aE_vf (fun _ _ _ _ h => h))) vfs_nil))
  subst ne14
  refine ⟨_, _, _, _, _, rfl, ?_⟩
  refine split_ne_e e (fun c37 e => ?_) (fun c37 e => ?_)
  · cases e
    exact ⟨_, _, _, _, _, _, _, _, _, _, _, O16.pick [0, 1, 2], rfl, rfl, k_0_0, r_0_0, rfl, rfl, k_0_2, r_0_2⟩
  · refine O16.st 0 rfl 2 (Nat.le_of_ble_eq_true rfl) trivial fun h17 O18 => ?_
    refine ⟨_, ldk (k := 1) (Sub.refl _) (O18.all 3 rfl) (T_heap_Object.g1 e_1), _, rfl, ?_⟩
    refine split_eq_e e (fun c36 e => ?_) (fun c36 e => ?_)
    · obtain ⟨A19, c20, q21, k22, r23⟩ := T_heap_Object.g4 e_1
      refine ⟨_, ldk (k := 4) (Sub.refl _) (O18.all 3 rfl) q21, _, _, _, rfl, ?_⟩
      obtain ⟨m24, u25, ⟨r26, k27⟩, O28⟩ := O18.frz 4 rfl
      replace r26 : Rd 1 (eInt .u64) m24 A11 y5.1 := r26
      have O29 := O28.nm
      exact carry_copier_put.j1.walk (O29.pick [0, 1, 2, 3]).nm rfl k_0_0 (r_0_0.sub (tell_int .u64) u25) rfl rfl k27 r26 (T_heap_Object.T.mono _ _ _ _ u25 e_1) e
    · obtain ⟨m30, u31, ⟨r32, k33⟩, O34⟩ := O18.frz 4 rfl
      replace r32 : Rd 1 (eInt .u64) m30 A11 y5.1 := r32
      have O35 := O34.nm
      exact carry_copier_put.j1.walk (O35.pick [0, 1, 2, 3]).nm rfl k_0_0 (r_0_0.sub (tell_int .u64) u31) rfl rfl k33 r32 (T_heap_Object.T.mono _ _ _ _ u31 e_1) e
def carry_copier_word.post (W : Nat → Prop) (bkio0 : Nat) (h0 m0 : Heap) (r : Int × Int × T_carry_copier) (v : Value) (h : Heap) : Prop := ∃ m Aio0_0 nio0_0 cio0_0 Aio0_1 nio0_1 cio0_1 Aio0_2 nio0_2 cio0_2 bio0_3, Hold W h0 m0 h m [rV bkio0 148 [(Value.slice Aio0_0 nio0_0 cio0_0), (Value.slice Aio0_1 nio0_1 cio0_1), (Value.slice Aio0_2 nio0_2 cio0_2), (Value.map (some bio0_3))], rR (aE (tell_int .u64)) Aio0_1 cio0_1 r.2.2.left_, rM (monoV0 (tell_int .u64)) (fun n : Int => Value.int .i64 n) bio0_3 r.2.2.moved_] ∧ v = .tuple #[.int .u64 r.1, .int .i64 r.2.1] ∧ nio0_0 = List.length r.2.2.from_ ∧ List.length r.2.2.from_ ≤ cio0_0 ∧ Rd 1 (eInt .u64) m Aio0_0 r.2.2.from_ ∧ nio0_1 = List.length r.2.2.left_ ∧ nio0_2 = List.length r.2.2.to_ ∧ List.length r.2.2.to_ ≤ cio0_2 ∧ Rd 1 (eInt .u64) m Aio0_2 r.2.2.to_
inductive carry_copier_word_k.Pt where
  | f (y_0 : T_carry_copier) (x_1 : Int) (x_2 : Int)
  | j1 (a_io0_0 : (List Int)) (a_io0_1 : (List Int)) (a_io0_2 : (List Int)) (a_io0_3 : (List (Int × Int))) (x_1 : Int) (x_2 : Int) (x_9 : Int) (x_10 : Int) (b_27 : Bool)
  | j0 (a_io0_0 : (List Int)) (a_io0_1 : (List Int)) (a_io0_2 : (List Int)) (a_io0_3 : (List (Int × Int))) (x_2 : Int) (x_9 : Int)
  | l0 (a_io0_0 : (List Int)) (a_io0_1 : (List Int)) (a_io0_2 : (List Int)) (a_io0_3 : (List (Int × Int))) (x_2 : Int) (x_13_0 : Int) (x_13_1 : Int) (x_13_2 : Int) (s_13_3 : ByteArray) (a_13_4 : (List Int)) (x_57 : Int) (x_58 : Int)
  | j2 (a_io0_0 : (List Int)) (a_io0_1 : (List Int)) (a_io0_2 : (List Int)) (a_io0_3 : (List (Int × Int))) (x_2 : Int) (x_10 : Int) (x_13_0 : Int) (x_13_1 : Int) (x_13_2 : Int) (s_13_3 : ByteArray) (a_13_4 : (List Int)) (x_57 : Int) (x_58 : Int)
noncomputable def carry_copier_word_k.body (go : (p : carry_copier_word_k.Pt) → Option (Int × Int × T_carry_copier)) : (p : carry_copier_word_k.Pt) → Option (Int × Int × T_carry_copier)
  | .f y_0 x_1 x_2 => Option.bind (term_Read x_1) fun y1 => if y1.2.2 = (0 : Int) then ((go (.j1 y_0.from_ y_0.left_ y_0.to_ y_0.moved_ x_1 x_2 y1.2.1 y1.2.2 (y1.1 != (4 : Int))))) else ((go (.j1 y_0.from_ y_0.left_ y_0.to_ y_0.moved_ x_1 x_2 y1.2.1 y1.2.2 true)))
  | .j1 a_io0_0 a_io0_1 a_io0_2 a_io0_3 x_1 x_2 x_9 x_10 b_27 => if b_27 = true then (some (x_1, x_10, (T_carry_copier.mk a_io0_0 a_io0_1 a_io0_2 a_io0_3))) else ((go (.j0 a_io0_0 a_io0_1 a_io0_2 a_io0_3 x_2 x_9)))
  | .j0 a_io0_0 a_io0_1 a_io0_2 a_io0_3 x_2 x_9 => if (Option.isSome (pget a_io0_3 x_9)) = true then (some ((pgd a_io0_3 x_9 (0 : Int)), (0 : Int), (T_carry_copier.mk a_io0_0 a_io0_1 a_io0_2 a_io0_3))) else (if x_2 < (1 : Int) then (some ((0 : Int), (2 : Int), (T_carry_copier.mk a_io0_0 a_io0_1 a_io0_2 a_io0_3))) else (Option.bind (heap_At a_io0_0 x_9) fun y3 => if y3.2 = (0 : Int) then ((go (.l0 a_io0_0 a_io0_1 a_io0_2 a_io0_3 x_2 y3.1.At y3.1.Kind y3.1.Num y3.1.Text y3.1.Parts (((List.length y3.1.Parts) : Nat) : Int) (0 : Int)))) else (some ((0 : Int), y3.2, (T_carry_copier.mk a_io0_0 a_io0_1 a_io0_2 a_io0_3)))))
  | .l0 a_io0_0 a_io0_1 a_io0_2 a_io0_3 x_2 x_13_0 x_13_1 x_13_2 s_13_3 a_13_4 x_57 x_58 => if x_58 < x_57 then (Option.bind (gi a_13_4 x_58) fun y1 => Option.bind ((go (.f (T_carry_copier.mk a_io0_0 a_io0_1 a_io0_2 a_io0_3) y1 (IntKind.wrap .i64 (x_2 - (1 : Int)))))) fun y8 => Option.bind (gi a_13_4 x_58) fun y22 => Option.bind (some (List.set a_13_4 (Int.toNat x_58) y8.1)) fun l31 => (go (.j2 y8.2.2.from_ y8.2.2.left_ y8.2.2.to_ y8.2.2.moved_ x_2 y8.2.1 x_13_0 x_13_1 x_13_2 s_13_3 l31 x_57 x_58))) else (Option.bind (carry_copier_put (T_carry_copier.mk a_io0_0 a_io0_1 a_io0_2 a_io0_3) (T_heap_Object.mk x_13_0 x_13_1 x_13_2 s_13_3 a_13_4)) fun y86 => some (y86.1, y86.2.1, (T_carry_copier.mk y86.2.2.from_ y86.2.2.left_ y86.2.2.to_ y86.2.2.moved_)))
  | .j2 a_io0_0 a_io0_1 a_io0_2 a_io0_3 x_2 x_10 x_13_0 x_13_1 x_13_2 s_13_3 a_13_4 x_57 x_58 => if x_10 = (0 : Int) then ((go (.l0 a_io0_0 a_io0_1 a_io0_2 a_io0_3 x_2 x_13_0 x_13_1 x_13_2 s_13_3 a_13_4 x_57 (IntKind.wrap .i64 (x_58 + (1 : Int)))))) else (some ((0 : Int), x_10, (T_carry_copier.mk a_io0_0 a_io0_1 a_io0_2 a_io0_3)))
theorem carry_copier_word_k.mono : MonoF (β := fun _ => (Int × Int × T_carry_copier)) carry_copier_word_k.body := fun f g hfg p => match p with
  | .f y_0 x_1 x_2 => LeO.bind (LeO.refl _) fun y1 => LeO.ite ((hfg _)) ((hfg _))
  | .j1 a_io0_0 a_io0_1 a_io0_2 a_io0_3 x_1 x_2 x_9 x_10 b_27 => LeO.ite (LeO.refl _) ((hfg _))
  | .j0 a_io0_0 a_io0_1 a_io0_2 a_io0_3 x_2 x_9 => LeO.ite (LeO.refl _) (LeO.ite (LeO.refl _) (LeO.bind (LeO.refl _) fun y3 => LeO.ite ((hfg _)) (LeO.refl _)))
  | .l0 a_io0_0 a_io0_1 a_io0_2 a_io0_3 x_2 x_13_0 x_13_1 x_13_2 s_13_3 a_13_4 x_57 x_58 => LeO.ite (LeO.bind (LeO.refl _) fun y1 => LeO.bind ((hfg _)) fun y8 => LeO.bind (LeO.refl _) fun y22 => LeO.bind (LeO.refl _) fun l31 => (hfg _)) (LeO.bind (LeO.refl _) fun y86 => LeO.refl _)
  | .j2 a_io0_0 a_io0_1 a_io0_2 a_io0_3 x_2 x_10 x_13_0 x_13_1 x_13_2 s_13_3 a_13_4 x_57 x_58 => LeO.ite ((hfg _)) (LeO.refl _)
noncomputable def carry_copier_word_k.go (p : carry_copier_word_k.Pt) : Option (Int × Int × T_carry_copier) := fixF (β := fun _ => (Int × Int × T_carry_copier)) carry_copier_word_k.body p
noncomputable def carry_copier_word (y_0 : T_carry_copier) (x_1 : Int) (x_2 : Int) : Option (Int × Int × T_carry_copier) := carry_copier_word_k.go (.f y_0 x_1 x_2)
noncomputable def carry_copier_word.j1 (a_io0_0 : (List Int)) (a_io0_1 : (List Int)) (a_io0_2 : (List Int)) (a_io0_3 : (List (Int × Int))) (x_1 : Int) (x_2 : Int) (x_9 : Int) (x_10 : Int) (b_27 : Bool) : Option (Int × Int × T_carry_copier) := carry_copier_word_k.go (.j1 a_io0_0 a_io0_1 a_io0_2 a_io0_3 x_1 x_2 x_9 x_10 b_27)
noncomputable def carry_copier_word.j0 (a_io0_0 : (List Int)) (a_io0_1 : (List Int)) (a_io0_2 : (List Int)) (a_io0_3 : (List (Int × Int))) (x_2 : Int) (x_9 : Int) : Option (Int × Int × T_carry_copier) := carry_copier_word_k.go (.j0 a_io0_0 a_io0_1 a_io0_2 a_io0_3 x_2 x_9)
noncomputable def carry_copier_word.l0 (a_io0_0 : (List Int)) (a_io0_1 : (List Int)) (a_io0_2 : (List Int)) (a_io0_3 : (List (Int × Int))) (x_2 : Int) (x_13_0 : Int) (x_13_1 : Int) (x_13_2 : Int) (s_13_3 : ByteArray) (a_13_4 : (List Int)) (x_57 : Int) (x_58 : Int) : Option (Int × Int × T_carry_copier) := carry_copier_word_k.go (.l0 a_io0_0 a_io0_1 a_io0_2 a_io0_3 x_2 x_13_0 x_13_1 x_13_2 s_13_3 a_13_4 x_57 x_58)
noncomputable def carry_copier_word.j2 (a_io0_0 : (List Int)) (a_io0_1 : (List Int)) (a_io0_2 : (List Int)) (a_io0_3 : (List (Int × Int))) (x_2 : Int) (x_10 : Int) (x_13_0 : Int) (x_13_1 : Int) (x_13_2 : Int) (s_13_3 : ByteArray) (a_13_4 : (List Int)) (x_57 : Int) (x_58 : Int) : Option (Int × Int × T_carry_copier) := carry_copier_word_k.go (.j2 a_io0_0 a_io0_1 a_io0_2 a_io0_3 x_2 x_10 x_13_0 x_13_1 x_13_2 s_13_3 a_13_4 x_57 x_58)
theorem carry_copier_word_eq (y_0 : T_carry_copier) (x_1 : Int) (x_2 : Int) : carry_copier_word y_0 x_1 x_2 = Option.bind (term_Read x_1) fun y1 => if y1.2.2 = (0 : Int) then ((carry_copier_word.j1 y_0.from_ y_0.left_ y_0.to_ y_0.moved_ x_1 x_2 y1.2.1 y1.2.2 (y1.1 != (4 : Int)))) else ((carry_copier_word.j1 y_0.from_ y_0.left_ y_0.to_ y_0.moved_ x_1 x_2 y1.2.1 y1.2.2 true)) := fixF_eq carry_copier_word_k.mono _
theorem carry_copier_word.j1_eq (a_io0_0 : (List Int)) (a_io0_1 : (List Int)) (a_io0_2 : (List Int)) (a_io0_3 : (List (Int × Int))) (x_1 : Int) (x_2 : Int) (x_9 : Int) (x_10 : Int) (b_27 : Bool) : carry_copier_word.j1 a_io0_0 a_io0_1 a_io0_2 a_io0_3 x_1 x_2 x_9 x_10 b_27 = if b_27 = true then (some (x_1, x_10, (T_carry_copier.mk a_io0_0 a_io0_1 a_io0_2 a_io0_3))) else ((carry_copier_word.j0 a_io0_0 a_io0_1 a_io0_2 a_io0_3 x_2 x_9)) := fixF_eq carry_copier_word_k.mono _
theorem carry_copier_word.j0_eq (a_io0_0 : (List Int)) (a_io0_1 : (List Int)) (a_io0_2 : (List Int)) (a_io0_3 : (List (Int × Int))) (x_2 : Int) (x_9 : Int) : carry_copier_word.j0 a_io0_0 a_io0_1 a_io0_2 a_io0_3 x_2 x_9 = if (Option.isSome (pget a_io0_3 x_9)) = true then (some ((pgd a_io0_3 x_9 (0 : Int)), (0 : Int), (T_carry_copier.mk a_io0_0 a_io0_1 a_io0_2 a_io0_3))) else (if x_2 < (1 : Int) then (some ((0 : Int), (2 : Int), (T_carry_copier.mk a_io0_0 a_io0_1 a_io0_2 a_io0_3))) else (Option.bind (heap_At a_io0_0 x_9) fun y3 => if y3.2 = (0 : Int) then ((carry_copier_word.l0 a_io0_0 a_io0_1 a_io0_2 a_io0_3 x_2 y3.1.At y3.1.Kind y3.1.Num y3.1.Text y3.1.Parts (((List.length y3.1.Parts) : Nat) : Int) (0 : Int))) else (some ((0 : Int), y3.2, (T_carry_copier.mk a_io0_0 a_io0_1 a_io0_2 a_io0_3))))) := fixF_eq carry_copier_word_k.mono _
theorem carry_copier_word.l0_eq (a_io0_0 : (List Int)) (a_io0_1 : (List Int)) (a_io0_2 : (List Int)) (a_io0_3 : (List (Int × Int))) (x_2 : Int) (x_13_0 : Int) (x_13_1 : Int) (x_13_2 : Int) (s_13_3 : ByteArray) (a_13_4 : (List Int)) (x_57 : Int) (x_58 : Int) : carry_copier_word.l0 a_io0_0 a_io0_1 a_io0_2 a_io0_3 x_2 x_13_0 x_13_1 x_13_2 s_13_3 a_13_4 x_57 x_58 = if x_58 < x_57 then (Option.bind (gi a_13_4 x_58) fun y1 => Option.bind ((carry_copier_word (T_carry_copier.mk a_io0_0 a_io0_1 a_io0_2 a_io0_3) y1 (IntKind.wrap .i64 (x_2 - (1 : Int))))) fun y8 => Option.bind (gi a_13_4 x_58) fun y22 => Option.bind (some (List.set a_13_4 (Int.toNat x_58) y8.1)) fun l31 => (carry_copier_word.j2 y8.2.2.from_ y8.2.2.left_ y8.2.2.to_ y8.2.2.moved_ x_2 y8.2.1 x_13_0 x_13_1 x_13_2 s_13_3 l31 x_57 x_58)) else (Option.bind (carry_copier_put (T_carry_copier.mk a_io0_0 a_io0_1 a_io0_2 a_io0_3) (T_heap_Object.mk x_13_0 x_13_1 x_13_2 s_13_3 a_13_4)) fun y86 => some (y86.1, y86.2.1, (T_carry_copier.mk y86.2.2.from_ y86.2.2.left_ y86.2.2.to_ y86.2.2.moved_))) := fixF_eq carry_copier_word_k.mono _
theorem carry_copier_word.j2_eq (a_io0_0 : (List Int)) (a_io0_1 : (List Int)) (a_io0_2 : (List Int)) (a_io0_3 : (List (Int × Int))) (x_2 : Int) (x_10 : Int) (x_13_0 : Int) (x_13_1 : Int) (x_13_2 : Int) (s_13_3 : ByteArray) (a_13_4 : (List Int)) (x_57 : Int) (x_58 : Int) : carry_copier_word.j2 a_io0_0 a_io0_1 a_io0_2 a_io0_3 x_2 x_10 x_13_0 x_13_1 x_13_2 s_13_3 a_13_4 x_57 x_58 = if x_10 = (0 : Int) then ((carry_copier_word.l0 a_io0_0 a_io0_1 a_io0_2 a_io0_3 x_2 x_13_0 x_13_1 x_13_2 s_13_3 a_13_4 x_57 (IntKind.wrap .i64 (x_58 + (1 : Int))))) else (some ((0 : Int), x_10, (T_carry_copier.mk a_io0_0 a_io0_1 a_io0_2 a_io0_3))) := fixF_eq carry_copier_word_k.mono _
def carry_copier_word_k.I : (p : carry_copier_word_k.Pt) → (Int × Int × T_carry_copier) → Prop
  | .f y_0 x_1 x_2, r => ∀ (W : Nat → Prop) (h m : Heap) (bkio0 : Nat) (A_0_0 : Option Addr) (n_0_0 : Nat) (c_0_0 : Nat) (A_0_1 : Option Addr) (n_0_1 : Nat) (c_0_1 : Nat) (A_0_2 : Option Addr) (n_0_2 : Nat) (c_0_2 : Nat) (b_0_3 : Nat) (O : Hold W h m h m [rV bkio0 148 [(Value.slice A_0_0 n_0_0 c_0_0), (Value.slice A_0_1 n_0_1 c_0_1), (Value.slice A_0_2 n_0_2 c_0_2), (Value.map (some b_0_3))], rR (aE (tell_int .u64)) A_0_1 c_0_1 y_0.left_, rM (monoV0 (tell_int .u64)) (fun n : Int => Value.int .i64 n) b_0_3 y_0.moved_]) (ne_0_0 : n_0_0 = List.length y_0.from_) (k_0_0 : List.length y_0.from_ ≤ c_0_0) (r_0_0 : Rd 1 (eInt .u64) m A_0_0 y_0.from_) (ne_0_1 : n_0_1 = List.length y_0.left_) (ne_0_2 : n_0_2 = List.length y_0.to_) (k_0_2 : List.length y_0.to_ ≤ c_0_2) (r_0_2 : Rd 1 (eInt .u64) m A_0_2 y_0.to_), Run Try.prog 76 #[Value.pointer (some ⟨bkio0, 0, none⟩), Value.int .u64 x_1, Value.int .i64 x_2] h (carry_copier_word.post W bkio0 h m r)
  | .j1 a_io0_0 a_io0_1 a_io0_2 a_io0_3 x_1 x_2 x_9 x_10 b_27, r => ∀ (W : Nat → Prop) (h0 m0 h m : Heap) (bk_io0 : Nat) (A_io0_0_0 : Option Addr) (n_io0_0_0 : Nat) (c_io0_0_0 : Nat) (A_io0_1_0 : Option Addr) (n_io0_1_0 : Nat) (c_io0_1_0 : Nat) (A_io0_2_0 : Option Addr) (n_io0_2_0 : Nat) (c_io0_2_0 : Nat) (b_io0_3_0 : Nat) (O : Hold W h0 m0 h m [rV bk_io0 148 [(Value.slice A_io0_0_0 n_io0_0_0 c_io0_0_0), (Value.slice A_io0_1_0 n_io0_1_0 c_io0_1_0), (Value.slice A_io0_2_0 n_io0_2_0 c_io0_2_0), (Value.map (some b_io0_3_0))], rR (aE (tell_int .u64)) A_io0_1_0 c_io0_1_0 a_io0_1, rM (monoV0 (tell_int .u64)) (fun n : Int => Value.int .i64 n) b_io0_3_0 a_io0_3]) (ne_io0_0_0 : n_io0_0_0 = List.length a_io0_0) (k_io0_0_0 : List.length a_io0_0 ≤ c_io0_0_0) (r_io0_0_0 : Rd 1 (eInt .u64) m A_io0_0_0 a_io0_0) (ne_io0_1_0 : n_io0_1_0 = List.length a_io0_1) (ne_io0_2_0 : n_io0_2_0 = List.length a_io0_2) (k_io0_2_0 : List.length a_io0_2 ≤ c_io0_2_0) (r_io0_2_0 : Rd 1 (eInt .u64) m A_io0_2_0 a_io0_2), f76.j1 (carry_copier_word.post W bk_io0 h0 m0 r) (⟨bk_io0, 0, none⟩ : Addr) x_1 x_2 x_9 x_10 b_27 h
  | .j0 a_io0_0 a_io0_1 a_io0_2 a_io0_3 x_2 x_9, r => ∀ (W : Nat → Prop) (h0 m0 h m : Heap) (bk_io0 : Nat) (A_io0_0_0 : Option Addr) (n_io0_0_0 : Nat) (c_io0_0_0 : Nat) (A_io0_1_0 : Option Addr) (n_io0_1_0 : Nat) (c_io0_1_0 : Nat) (A_io0_2_0 : Option Addr) (n_io0_2_0 : Nat) (c_io0_2_0 : Nat) (b_io0_3_0 : Nat) (O : Hold W h0 m0 h m [rV bk_io0 148 [(Value.slice A_io0_0_0 n_io0_0_0 c_io0_0_0), (Value.slice A_io0_1_0 n_io0_1_0 c_io0_1_0), (Value.slice A_io0_2_0 n_io0_2_0 c_io0_2_0), (Value.map (some b_io0_3_0))], rR (aE (tell_int .u64)) A_io0_1_0 c_io0_1_0 a_io0_1, rM (monoV0 (tell_int .u64)) (fun n : Int => Value.int .i64 n) b_io0_3_0 a_io0_3]) (ne_io0_0_0 : n_io0_0_0 = List.length a_io0_0) (k_io0_0_0 : List.length a_io0_0 ≤ c_io0_0_0) (r_io0_0_0 : Rd 1 (eInt .u64) m A_io0_0_0 a_io0_0) (ne_io0_1_0 : n_io0_1_0 = List.length a_io0_1) (ne_io0_2_0 : n_io0_2_0 = List.length a_io0_2) (k_io0_2_0 : List.length a_io0_2 ≤ c_io0_2_0) (r_io0_2_0 : Rd 1 (eInt .u64) m A_io0_2_0 a_io0_2), f76.j0 (carry_copier_word.post W bk_io0 h0 m0 r) (⟨bk_io0, 0, none⟩ : Addr) x_2 x_9 h
  | .l0 a_io0_0 a_io0_1 a_io0_2 a_io0_3 x_2 x_13_0 x_13_1 x_13_2 s_13_3 a_13_4 x_57 x_58, r => ∀ (W : Nat → Prop) (h0 m0 h m : Heap) (bk_io0 : Nat) (A_io0_0_0 : Option Addr) (n_io0_0_0 : Nat) (c_io0_0_0 : Nat) (A_io0_1_0 : Option Addr) (n_io0_1_0 : Nat) (c_io0_1_0 : Nat) (A_io0_2_0 : Option Addr) (n_io0_2_0 : Nat) (c_io0_2_0 : Nat) (b_io0_3_0 : Nat) (bk_13 : Nat) (A_13_4_0 : Option Addr) (n_13_4_0 : Nat) (c_13_4_0 : Nat) (O : Hold W h0 m0 h m [rV bk_io0 148 [(Value.slice A_io0_0_0 n_io0_0_0 c_io0_0_0), (Value.slice A_io0_1_0 n_io0_1_0 c_io0_1_0), (Value.slice A_io0_2_0 n_io0_2_0 c_io0_2_0), (Value.map (some b_io0_3_0))], rR (aE (tell_int .u64)) A_io0_1_0 c_io0_1_0 a_io0_1, rM (monoV0 (tell_int .u64)) (fun n : Int => Value.int .i64 n) b_io0_3_0 a_io0_3, rV bk_13 152 [(Value.int .i64 x_13_0), (Value.int .i64 x_13_1), (Value.int .i64 x_13_2), (Value.string s_13_3), (Value.slice A_13_4_0 n_13_4_0 c_13_4_0)], rR (aE (tell_int .u64)) A_13_4_0 c_13_4_0 a_13_4]) (ne_io0_0_0 : n_io0_0_0 = List.length a_io0_0) (k_io0_0_0 : List.length a_io0_0 ≤ c_io0_0_0) (r_io0_0_0 : Rd 1 (eInt .u64) m A_io0_0_0 a_io0_0) (ne_io0_1_0 : n_io0_1_0 = List.length a_io0_1) (ne_io0_2_0 : n_io0_2_0 = List.length a_io0_2) (k_io0_2_0 : List.length a_io0_2 ≤ c_io0_2_0) (r_io0_2_0 : Rd 1 (eInt .u64) m A_io0_2_0 a_io0_2) (ne_13_4_0 : n_13_4_0 = List.length a_13_4), f76.l0 (carry_copier_word.post W bk_io0 h0 m0 r) (⟨bk_io0, 0, none⟩ : Addr) x_2 (⟨bk_13, 0, none⟩ : Addr) A_13_4_0 n_13_4_0 c_13_4_0 x_57 x_58 h
  | .j2 a_io0_0 a_io0_1 a_io0_2 a_io0_3 x_2 x_10 x_13_0 x_13_1 x_13_2 s_13_3 a_13_4 x_57 x_58, r => ∀ (W : Nat → Prop) (h0 m0 h m : Heap) (bk_io0 : Nat) (A_io0_0_0 : Option Addr) (n_io0_0_0 : Nat) (c_io0_0_0 : Nat) (A_io0_1_0 : Option Addr) (n_io0_1_0 : Nat) (c_io0_1_0 : Nat) (A_io0_2_0 : Option Addr) (n_io0_2_0 : Nat) (c_io0_2_0 : Nat) (b_io0_3_0 : Nat) (bk_13 : Nat) (A_13_4_0 : Option Addr) (n_13_4_0 : Nat) (c_13_4_0 : Nat) (O : Hold W h0 m0 h m [rV bk_io0 148 [(Value.slice A_io0_0_0 n_io0_0_0 c_io0_0_0), (Value.slice A_io0_1_0 n_io0_1_0 c_io0_1_0), (Value.slice A_io0_2_0 n_io0_2_0 c_io0_2_0), (Value.map (some b_io0_3_0))], rR (aE (tell_int .u64)) A_io0_1_0 c_io0_1_0 a_io0_1, rM (monoV0 (tell_int .u64)) (fun n : Int => Value.int .i64 n) b_io0_3_0 a_io0_3, rV bk_13 152 [(Value.int .i64 x_13_0), (Value.int .i64 x_13_1), (Value.int .i64 x_13_2), (Value.string s_13_3), (Value.slice A_13_4_0 n_13_4_0 c_13_4_0)], rR (aE (tell_int .u64)) A_13_4_0 c_13_4_0 a_13_4]) (ne_io0_0_0 : n_io0_0_0 = List.length a_io0_0) (k_io0_0_0 : List.length a_io0_0 ≤ c_io0_0_0) (r_io0_0_0 : Rd 1 (eInt .u64) m A_io0_0_0 a_io0_0) (ne_io0_1_0 : n_io0_1_0 = List.length a_io0_1) (ne_io0_2_0 : n_io0_2_0 = List.length a_io0_2) (k_io0_2_0 : List.length a_io0_2 ≤ c_io0_2_0) (r_io0_2_0 : Rd 1 (eInt .u64) m A_io0_2_0 a_io0_2) (ne_13_4_0 : n_13_4_0 = List.length a_13_4), f76.j2 (carry_copier_word.post W bk_io0 h0 m0 r) (⟨bk_io0, 0, none⟩ : Addr) x_2 x_10 (⟨bk_13, 0, none⟩ : Addr) A_13_4_0 n_13_4_0 c_13_4_0 x_57 x_58 h
set_option maxRecDepth 100000 in
theorem carry_copier_word_k.step_f (go : (p : carry_copier_word_k.Pt) → Option (Int × Int × T_carry_copier)) (ih : ∀ p r, go p = some r → carry_copier_word_k.I p r) (y_0 : T_carry_copier) (x_1 : Int) (x_2 : Int) (r : Int × Int × T_carry_copier) (e : carry_copier_word_k.body go (.f y_0 x_1 x_2) = some r) : carry_copier_word_k.I (.f y_0 x_1 x_2) r := by
  unfold carry_copier_word_k.body at e
  intro W h m bkio0 A_0_0 n_0_0 c_0_0 A_0_1 n_0_1 c_0_1 A_0_2 n_0_2 c_0_2 b_0_3 O ne_0_0 k_0_0 r_0_0 ne_0_1 ne_0_2 k_0_2 r_0_2
  subst ne_0_0
  subst ne_0_1
  subst ne_0_2
  refine f76.run ?_
  unfold f76.runT
  obtain ⟨y1, g2, e⟩ := bind_e e
  refine (term_Read.walk (Hold.start (W := No) O.s)  g2).mono ?_
  rintro _ h3 ⟨m4, Q5, rfl⟩
  have O7 := Hold.nm (O.retC Q5 vfs_nil)
  refine ⟨_, _, _, rfl, ?_⟩
  refine split_ne_e e (fun c8 e => ?_) (fun c8 e => ?_)
  · exact (ih _ _ e) _ _ _ _ _ _ _ _ _ _ _ _ _ _ _ _ (O7.pick [0, 1, 2]).nm rfl k_0_0 r_0_0 rfl rfl k_0_2 r_0_2
  · exact (ih _ _ e) _ _ _ _ _ _ _ _ _ _ _ _ _ _ _ _ (O7.pick [0, 1, 2]).nm rfl k_0_0 r_0_0 rfl rfl k_0_2 r_0_2
set_option maxRecDepth 100000 in
theorem carry_copier_word_k.step_j1 (go : (p : carry_copier_word_k.Pt) → Option (Int × Int × T_carry_copier)) (ih : ∀ p r, go p = some r → carry_copier_word_k.I p r) (a_io0_0 : (List Int)) (a_io0_1 : (List Int)) (a_io0_2 : (List Int)) (a_io0_3 : (List (Int × Int))) (x_1 : Int) (x_2 : Int) (x_9 : Int) (x_10 : Int) (b_27 : Bool) (r : Int × Int × T_carry_copier) (e : carry_copier_word_k.body go (.j1 a_io0_0 a_io0_1 a_io0_2 a_io0_3 x_1 x_2 x_9 x_10 b_27) = some r) : carry_copier_word_k.I (.j1 a_io0_0 a_io0_1 a_io0_2 a_io0_3 x_1 x_2 x_9 x_10 b_27) r := by
  unfold carry_copier_word_k.body at e
  intro W h0 m0 h m bk_io0 A_io0_0_0 n_io0_0_0 c_io0_0_0 A_io0_1_0 n_io0_1_0 c_io0_1_0 A_io0_2_0 n_io0_2_0 c_io0_2_0 b_io0_3_0 O ne_io0_0_0 k_io0_0_0 r_io0_0_0 ne_io0_1_0 ne_io0_2_0 k_io0_2_0 r_io0_2_0
  subst ne_io0_0_0
  subst ne_io0_1_0
  subst ne_io0_2_0
  refine f76.j1_in ?_
  unfold f76.j1T
  refine split_any_e e (fun c1 e => ?_) (fun c1 e => ?_)
  · cases e
    exact ⟨_, _, _, _, _, _, _, _, _, _, _, O.pick [0, 1, 2], rfl, rfl, k_io0_0_0, r_io0_0_0, rfl, rfl, k_io0_2_0, r_io0_2_0⟩
  · exact (ih _ _ e) _ _ _ _ _ _ _ _ _ _ _ _ _ _ _ _ (O.pick [0, 1, 2]).nm rfl k_io0_0_0 r_io0_0_0 rfl rfl k_io0_2_0 r_io0_2_0
set_option maxRecDepth 100000 in
theorem carry_copier_word_k.step_j0 (go : (p : carry_copier_word_k.Pt) → Option (Int × Int × T_carry_copier)) (ih : ∀ p r, go p = some r → carry_copier_word_k.I p r) (a_io0_0 : (List Int)) (a_io0_1 : (List Int)) (a_io0_2 : (List Int)) (a_io0_3 : (List (Int × Int))) (x_2 : Int) (x_9 : Int) (r : Int × Int × T_carry_copier) (e : carry_copier_word_k.body go (.j0 a_io0_0 a_io0_1 a_io0_2 a_io0_3 x_2 x_9) = some r) : carry_copier_word_k.I (.j0 a_io0_0 a_io0_1 a_io0_2 a_io0_3 x_2 x_9) r := by
  unfold carry_copier_word_k.body at e
  intro W h0 m0 h m bk_io0 A_io0_0_0 n_io0_0_0 c_io0_0_0 A_io0_1_0 n_io0_1_0 c_io0_1_0 A_io0_2_0 n_io0_2_0 c_io0_2_0 b_io0_3_0 O ne_io0_0_0 k_io0_0_0 r_io0_0_0 ne_io0_1_0 ne_io0_2_0 k_io0_2_0 r_io0_2_0
  subst ne_io0_0_0
  subst ne_io0_1_0
  subst ne_io0_2_0
  refine f76.j0_in ?_
  unfold f76.j0T
  refine ⟨_, ldk (k := 3) (Sub.refl _) (O.all 0 rfl) rfl, ?_⟩
  refine (O.om 2 rfl).look2 (zv := (0 : Int)) (z := (Value.int .u64 (0 : Int))) (keyOk_int (key := 3) (elem := 77) (by kernel_rfl) (by kernel_rfl)) x_9 (by kernel_rfl) rfl (fun v1 hv2 => ?_)
  obtain rfl : v1 = (Value.int .u64 (pgd a_io0_3 x_9 (0 : Int))) := (List.cons.inj (show [v1] = [(Value.int .u64 (pgd a_io0_3 x_9 (0 : Int)))] from hv2)).1
  refine ⟨_, _, rfl, ?_⟩
  refine split_any_e e (fun c22 e => ?_) (fun c22 e => ?_)
  · cases e
    exact ⟨_, _, _, _, _, _, _, _, _, _, _, O.pick [0, 1, 2], rfl, rfl, k_io0_0_0, r_io0_0_0, rfl, rfl, k_io0_2_0, r_io0_2_0⟩
  · refine split_dec_e e (fun c21 e => ?_) (fun c21 e => ?_)
    · cases e
      exact ⟨_, _, _, _, _, _, _, _, _, _, _, O.pick [0, 1, 2], rfl, rfl, k_io0_0_0, r_io0_0_0, rfl, rfl, k_io0_2_0, r_io0_2_0⟩
    · refine ⟨_, ld0 (Sub.refl _) (O.all 0 rfl) rfl, _, _, _, rfl, ?_⟩
      obtain ⟨y3, g4, e⟩ := bind_e e
      refine (heap_At.walk (Hold.start (W := No) O.s) rfl k_io0_0_0 r_io0_0_0 g4).mono ?_
      rintro _ h5 ⟨m6, A_9_4, n_9_4, c_9_4, Q7, rfl, ne_9_4⟩
      have O11 := Hold.nm (O.retC Q7 (vfs_cons (rR_vf (aE_vf (fun _ _ _ _ h => h))) vfs_nil))
      subst ne_9_4
      refine ⟨_, _, rfl, ?_⟩
      refine O11.new fun h12 x13 O14 => ?_
      refine ⟨_, rfl, rfl, ?_⟩
      refine O14.stA 4 rfl rfl (Flats.cons trivial (Flats.cons trivial (Flats.cons trivial (Flats.cons trivial (Flats.cons trivial Flats.nil))))) fun h16 O17 => ?_
      refine split_ne_e e (fun c20 e => ?_) (fun c20 e => ?_)
      · have O18 := O17.nm
        cases e
        exact ⟨_, _, _, _, _, _, _, _, _, _, _, O18.pick [0, 1, 2], rfl, rfl, k_io0_0_0, r_io0_0_0, rfl, rfl, k_io0_2_0, r_io0_2_0⟩
      · refine ⟨_, ldk (k := 4) (Sub.refl _) (O17.all 4 rfl) rfl, _, _, _, rfl, ?_⟩
        have O19 := O17.nm
        exact (ih _ _ e) _ _ _ _ _ _ _ _ _ _ _ _ _ _ _ _ _ _ _ _ (O19.pick [0, 1, 2, 4, 3]).nm rfl k_io0_0_0 r_io0_0_0 rfl rfl k_io0_2_0 r_io0_2_0 rfl
set_option maxHeartbeats 4000000 in
set_option maxRecDepth 100000 in
theorem carry_copier_word_k.step_l0 (go : (p : carry_copier_word_k.Pt) → Option (Int × Int × T_carry_copier)) (ih : ∀ p r, go p = some r → carry_copier_word_k.I p r) (a_io0_0 : (List Int)) (a_io0_1 : (List Int)) (a_io0_2 : (List Int)) (a_io0_3 : (List (Int × Int))) (x_2 : Int) (x_13_0 : Int) (x_13_1 : Int) (x_13_2 : Int) (s_13_3 : ByteArray) (a_13_4 : (List Int)) (x_57 : Int) (x_58 : Int) (r : Int × Int × T_carry_copier) (e : carry_copier_word_k.body go (.l0 a_io0_0 a_io0_1 a_io0_2 a_io0_3 x_2 x_13_0 x_13_1 x_13_2 s_13_3 a_13_4 x_57 x_58) = some r) : carry_copier_word_k.I (.l0 a_io0_0 a_io0_1 a_io0_2 a_io0_3 x_2 x_13_0 x_13_1 x_13_2 s_13_3 a_13_4 x_57 x_58) r := by
  unfold carry_copier_word_k.body at e
  intro W h0 m0 h m bk_io0 A_io0_0_0 n_io0_0_0 c_io0_0_0 A_io0_1_0 n_io0_1_0 c_io0_1_0 A_io0_2_0 n_io0_2_0 c_io0_2_0 b_io0_3_0 bk_13 A_13_4_0 n_13_4_0 c_13_4_0 O ne_io0_0_0 k_io0_0_0 r_io0_0_0 ne_io0_1_0 ne_io0_2_0 k_io0_2_0 r_io0_2_0 ne_13_4_0
  subst ne_io0_0_0
  subst ne_io0_1_0
  subst ne_io0_2_0
  subst ne_13_4_0
  refine f76.l0_in ?_
  unfold f76.l0T
  refine split_dec_e e (fun c104 e => ?_) (fun c104 e => ?_)
  · obtain ⟨y1, g2, e⟩ := bind_e e
    refine (O.os 4 rfl).addr rfl g2 fun a3 cs4 ha5 hc6 he7 => ?_
    obtain rfl : cs4 = [(Value.int .u64 y1)] := he7
    refine ⟨_, ld0 (Sub.refl _) hc6 rfl, _, rfl, ?_⟩
    obtain ⟨y8, g9, e⟩ := bind_e e
    obtain ⟨y22, g23, e⟩ := bind_e e
    obtain ⟨l31, g32, e⟩ := bind_e e
    refine ⟨?_, ?_⟩
    · refine ⟨_, ldk (k := 4) (Sub.refl _) (O.all 3 rfl) rfl, _, _, _, rfl, ?_⟩
      obtain ⟨W40, P41, B42, C43⟩ := O.callC [0, 1, 2]
      refine ((ih _ _ g9) _ _ _ _ _ _ _ _ _ _ _ _ _ _ P41 rfl k_io0_0_0 r_io0_0_0 rfl rfl k_io0_2_0 r_io0_2_0).mono ?_
      rintro _ h36 ⟨m37, A_44_0, n_44_0, c_44_0, A_44_1, n_44_1, c_44_1, A_44_2, n_44_2, c_44_2, b_44_3, Q38, rfl, ne_44_0, k_44_0, r_44_0, ne_44_1, ne_44_2, k_44_2, r_44_2⟩
      have O47 := Hold.nm (B42 Q38)
      subst ne_44_0
      subst ne_44_1
      subst ne_44_2
      refine ⟨_, _, rfl, ?_⟩
      refine (O47.os 4 rfl).addr rfl g23 fun a50 cs51 ha52 hc53 he54 => ?_
      obtain rfl : cs51 = [(Value.int .u64 y22)] := he54
      replace g32 := Option.some.inj g32
      refine O47.elst0 4 rfl g23 ha52 hc53 (by decide) (y' := y8.1) rfl trivial g32 fun h55 O56 => ?_
      have O59 := O56.nm
      exact (ih _ _ e) _ _ _ _ _ _ _ _ _ _ _ _ _ _ _ _ _ _ _ _ (O59.pick [5, 6, 7, 3, 4]).nm rfl k_44_0 r_44_0 rfl rfl k_44_2 r_44_2 (lset' g32)
    · obtain ⟨W66, P67, B68, C69⟩ := O.callC [0, 1, 2]
      refine ((ih _ _ g9) _ _ _ _ _ _ _ _ _ _ _ _ _ _ P67 rfl k_io0_0_0 r_io0_0_0 rfl rfl k_io0_2_0 r_io0_2_0).mono ?_
      rintro _ h62 ⟨m63, A_70_0, n_70_0, c_70_0, A_70_1, n_70_1, c_70_1, A_70_2, n_70_2, c_70_2, b_70_3, Q64, rfl, ne_70_0, k_70_0, r_70_0, ne_70_1, ne_70_2, k_70_2, r_70_2⟩
      have O73 := Hold.nm (B68 Q64)
      subst ne_70_0
      subst ne_70_1
      subst ne_70_2
      refine ⟨_, _, rfl, ?_⟩
      refine ⟨_, ldk (k := 4) (Sub.refl _) (O73.all 3 rfl) rfl, _, _, _, rfl, ?_⟩
      refine (O73.os 4 rfl).addr rfl g23 fun a76 cs77 ha78 hc79 he80 => ?_
      obtain rfl : cs77 = [(Value.int .u64 y22)] := he80
      replace g32 := Option.some.inj g32
      refine O73.elst0 4 rfl g23 ha78 hc79 (by decide) (y' := y8.1) rfl trivial g32 fun h81 O82 => ?_
      have O85 := O82.nm
      exact (ih _ _ e) _ _ _ _ _ _ _ _ _ _ _ _ _ _ _ _ _ _ _ _ (O85.pick [5, 6, 7, 3, 4]).nm rfl k_70_0 r_70_0 rfl rfl k_70_2 r_70_2 (lset' g32)
  · refine ⟨_, ldAn (Sub.refl _) (O.all 3 rfl) rfl, ?_⟩
    obtain ⟨y86, g87, e⟩ := bind_e e
    obtain ⟨m92, W98, u93, P99, ⟨⟨r96, k97⟩, _⟩, B94, C95⟩ := O.lend [0, 1, 2] [4]
    replace r96 : Rd 1 (eInt .u64) m92 A_13_4_0 a_13_4 := r96
    replace k97 : List.length a_13_4 ≤ c_13_4_0 := k97
    refine (carry_copier_put.walk (y_0 := (T_carry_copier.mk a_io0_0 a_io0_1 a_io0_2 a_io0_3)) P99 rfl k_io0_0_0 (r_io0_0_0.sub (tell_int .u64) u93) rfl rfl k_io0_2_0 (r_io0_2_0.sub (tell_int .u64) u93) (show T_heap_Object.E _ (T_heap_Object.mk x_13_0 x_13_1 x_13_2 s_13_3 a_13_4) [(Value.int .i64 x_13_0), (Value.int .i64 x_13_1), (Value.int .i64 x_13_2), (Value.string s_13_3), (Value.slice A_13_4_0 (List.length a_13_4) c_13_4_0)] from ⟨_, _, rfl, k97, r96⟩) g87).mono ?_
    rintro _ h88 ⟨m89, A_100_0, n_100_0, c_100_0, A_100_1, n_100_1, c_100_1, A_100_2, n_100_2, c_100_2, b_100_3, Q90, rfl, ne_100_0, k_100_0, r_100_0, ne_100_1, ne_100_2, k_100_2, r_100_2⟩
    have O103 := Hold.nm (B94 Q90)
    subst ne_100_0
    subst ne_100_1
    subst ne_100_2
    refine ⟨_, _, rfl, ?_⟩
    cases e
    exact ⟨_, _, _, _, _, _, _, _, _, _, _, O103.pick [5, 6, 7], rfl, rfl, k_100_0, r_100_0, rfl, rfl, k_100_2, r_100_2⟩
set_option maxRecDepth 100000 in
theorem carry_copier_word_k.step_j2 (go : (p : carry_copier_word_k.Pt) → Option (Int × Int × T_carry_copier)) (ih : ∀ p r, go p = some r → carry_copier_word_k.I p r) (a_io0_0 : (List Int)) (a_io0_1 : (List Int)) (a_io0_2 : (List Int)) (a_io0_3 : (List (Int × Int))) (x_2 : Int) (x_10 : Int) (x_13_0 : Int) (x_13_1 : Int) (x_13_2 : Int) (s_13_3 : ByteArray) (a_13_4 : (List Int)) (x_57 : Int) (x_58 : Int) (r : Int × Int × T_carry_copier) (e : carry_copier_word_k.body go (.j2 a_io0_0 a_io0_1 a_io0_2 a_io0_3 x_2 x_10 x_13_0 x_13_1 x_13_2 s_13_3 a_13_4 x_57 x_58) = some r) : carry_copier_word_k.I (.j2 a_io0_0 a_io0_1 a_io0_2 a_io0_3 x_2 x_10 x_13_0 x_13_1 x_13_2 s_13_3 a_13_4 x_57 x_58) r := by
  unfold carry_copier_word_k.body at e
  intro W h0 m0 h m bk_io0 A_io0_0_0 n_io0_0_0 c_io0_0_0 A_io0_1_0 n_io0_1_0 c_io0_1_0 A_io0_2_0 n_io0_2_0 c_io0_2_0 b_io0_3_0 bk_13 A_13_4_0 n_13_4_0 c_13_4_0 O ne_io0_0_0 k_io0_0_0 r_io0_0_0 ne_io0_1_0 ne_io0_2_0 k_io0_2_0 r_io0_2_0 ne_13_4_0
  subst ne_io0_0_0
  subst ne_io0_1_0
  subst ne_io0_2_0
  subst ne_13_4_0
  refine f76.j2_in ?_
  unfold f76.j2T
  refine split_ne_e e (fun c1 e => ?_) (fun c1 e => ?_)
  · cases e
    exact ⟨_, _, _, _, _, _, _, _, _, _, _, O.pick [0, 1, 2], rfl, rfl, k_io0_0_0, r_io0_0_0, rfl, rfl, k_io0_2_0, r_io0_2_0⟩
  · exact (ih _ _ e) _ _ _ _ _ _ _ _ _ _ _ _ _ _ _ _ _ _ _ _ (O.pick [0, 1, 2, 3, 4]).nm rfl k_io0_0_0 r_io0_0_0 rfl rfl k_io0_2_0 r_io0_2_0 rfl
theorem carry_copier_word_k.all {p : carry_copier_word_k.Pt} {r : (Int × Int × T_carry_copier)} (e : carry_copier_word_k.go p = some r) : carry_copier_word_k.I p r := fixF_ind (β := fun _ => (Int × Int × T_carry_copier)) carry_copier_word_k.mono (I := carry_copier_word_k.I) (fun go ih p r e => match p with
  | .f y_0 x_1 x_2 => carry_copier_word_k.step_f go ih y_0 x_1 x_2 r e
  | .j1 a_io0_0 a_io0_1 a_io0_2 a_io0_3 x_1 x_2 x_9 x_10 b_27 => carry_copier_word_k.step_j1 go ih a_io0_0 a_io0_1 a_io0_2 a_io0_3 x_1 x_2 x_9 x_10 b_27 r e
  | .j0 a_io0_0 a_io0_1 a_io0_2 a_io0_3 x_2 x_9 => carry_copier_word_k.step_j0 go ih a_io0_0 a_io0_1 a_io0_2 a_io0_3 x_2 x_9 r e
  | .l0 a_io0_0 a_io0_1 a_io0_2 a_io0_3 x_2 x_13_0 x_13_1 x_13_2 s_13_3 a_13_4 x_57 x_58 => carry_copier_word_k.step_l0 go ih a_io0_0 a_io0_1 a_io0_2 a_io0_3 x_2 x_13_0 x_13_1 x_13_2 s_13_3 a_13_4 x_57 x_58 r e
  | .j2 a_io0_0 a_io0_1 a_io0_2 a_io0_3 x_2 x_10 x_13_0 x_13_1 x_13_2 s_13_3 a_13_4 x_57 x_58 => carry_copier_word_k.step_j2 go ih a_io0_0 a_io0_1 a_io0_2 a_io0_3 x_2 x_10 x_13_0 x_13_1 x_13_2 s_13_3 a_13_4 x_57 x_58 r e
  ) e
theorem carry_copier_word.walk {W : Nat → Prop} {h m : Heap} {bkio0 : Nat} {A_0_0 : Option Addr} {n_0_0 : Nat} {c_0_0 : Nat} {A_0_1 : Option Addr} {n_0_1 : Nat} {c_0_1 : Nat} {A_0_2 : Option Addr} {n_0_2 : Nat} {c_0_2 : Nat} {b_0_3 : Nat} {y_0 : T_carry_copier} {x_1 : Int} {x_2 : Int} (O : Hold W h m h m [rV bkio0 148 [(Value.slice A_0_0 n_0_0 c_0_0), (Value.slice A_0_1 n_0_1 c_0_1), (Value.slice A_0_2 n_0_2 c_0_2), (Value.map (some b_0_3))], rR (aE (tell_int .u64)) A_0_1 c_0_1 y_0.left_, rM (monoV0 (tell_int .u64)) (fun n : Int => Value.int .i64 n) b_0_3 y_0.moved_]) (ne_0_0 : n_0_0 = List.length y_0.from_) (k_0_0 : List.length y_0.from_ ≤ c_0_0) (r_0_0 : Rd 1 (eInt .u64) m A_0_0 y_0.from_) (ne_0_1 : n_0_1 = List.length y_0.left_) (ne_0_2 : n_0_2 = List.length y_0.to_) (k_0_2 : List.length y_0.to_ ≤ c_0_2) (r_0_2 : Rd 1 (eInt .u64) m A_0_2 y_0.to_) {r : Int × Int × T_carry_copier} (e : carry_copier_word y_0 x_1 x_2 = some r) : Run Try.prog 76 #[Value.pointer (some ⟨bkio0, 0, none⟩), Value.int .u64 x_1, Value.int .i64 x_2] h (carry_copier_word.post W bkio0 h m r) := carry_copier_word_k.all (p := .f y_0 x_1 x_2) e W h m bkio0 A_0_0 n_0_0 c_0_0 A_0_1 n_0_1 c_0_1 A_0_2 n_0_2 c_0_2 b_0_3 O ne_0_0 k_0_0 r_0_0 ne_0_1 ne_0_2 k_0_2 r_0_2
def carry_Over.post (W : Nat → Prop) (h0 m0 : Heap) (r : (List Int) × (List Int) × Int × Int) (v : Value) (h : Heap) : Prop := ∃ m A0 n0 c0 A1 n1 c1, Hold W h0 m0 h m [rR (aE (tell_int .u64)) A0 c0 r.1] ∧ v = .tuple #[.slice A0 n0 c0, .slice A1 n1 c1, .int .u64 r.2.2.1, .int .i64 r.2.2.2] ∧ n0 = List.length r.1 ∧ n1 = List.length r.2.1 ∧ List.length r.2.1 ≤ c1 ∧ Rd 1 (eInt .u64) m A1 r.2.1
inductive carry_Over.l0_k.Pt where
  | l0 (a_0 : List Int) (a_1 : List Int) (x_2 : Int) (y_19 : (List (List Int))) (x_20 : Int)
noncomputable def carry_Over.l0_k.body (go : (p : carry_Over.l0_k.Pt) → Option ((List Int) × (List Int) × Int × Int)) : (p : carry_Over.l0_k.Pt) → Option ((List Int) × (List Int) × Int × Int)
  | .l0 a_0 a_1 x_2 y_19 x_20 => if x_20 < (2 : Int) then (Option.bind (gi y_19 x_20) fun y1 => Option.bind (heap_Objects y1) fun y11 => if y11.2 = (0 : Int) then ((go (.l0 a_0 a_1 x_2 y_19 (IntKind.wrap .i64 (x_20 + (1 : Int)))))) else (some (([] : List Int), ([] : List Int), (0 : Int), y11.2))) else (Option.bind (slices_Clone_42 a_0) fun y27 => Option.bind (slices_Clone_42 a_1) fun y39 => Option.bind (carry_copier_word (T_carry_copier.mk a_0 y27 y39 ([] : (List (Int × Int)))) x_2 (40 : Int)) fun y64 => if y64.2.1 = (0 : Int) then (some (y64.2.2.left_, y64.2.2.to_, y64.1, (0 : Int))) else (some (([] : List Int), ([] : List Int), (0 : Int), y64.2.1)))
theorem carry_Over.l0_k.mono : MonoF (β := fun _ => ((List Int) × (List Int) × Int × Int)) carry_Over.l0_k.body := fun f g hfg p => match p with
  | .l0 a_0 a_1 x_2 y_19 x_20 => LeO.ite (LeO.bind (LeO.refl _) fun y1 => LeO.bind (LeO.refl _) fun y11 => LeO.ite ((hfg _)) (LeO.refl _)) (LeO.bind (LeO.refl _) fun y27 => LeO.bind (LeO.refl _) fun y39 => LeO.bind (LeO.refl _) fun y64 => LeO.ite (LeO.refl _) (LeO.refl _))
noncomputable def carry_Over.l0_k.go (p : carry_Over.l0_k.Pt) : Option ((List Int) × (List Int) × Int × Int) := fixF (β := fun _ => ((List Int) × (List Int) × Int × Int)) carry_Over.l0_k.body p
noncomputable def carry_Over.l0 (a_0 : List Int) (a_1 : List Int) (x_2 : Int) (y_19 : (List (List Int))) (x_20 : Int) : Option ((List Int) × (List Int) × Int × Int) := carry_Over.l0_k.go (.l0 a_0 a_1 x_2 y_19 x_20)
theorem carry_Over.l0_eq (a_0 : List Int) (a_1 : List Int) (x_2 : Int) (y_19 : (List (List Int))) (x_20 : Int) : carry_Over.l0 a_0 a_1 x_2 y_19 x_20 = if x_20 < (2 : Int) then (Option.bind (gi y_19 x_20) fun y1 => Option.bind (heap_Objects y1) fun y11 => if y11.2 = (0 : Int) then ((carry_Over.l0 a_0 a_1 x_2 y_19 (IntKind.wrap .i64 (x_20 + (1 : Int))))) else (some (([] : List Int), ([] : List Int), (0 : Int), y11.2))) else (Option.bind (slices_Clone_42 a_0) fun y27 => Option.bind (slices_Clone_42 a_1) fun y39 => Option.bind (carry_copier_word (T_carry_copier.mk a_0 y27 y39 ([] : (List (Int × Int)))) x_2 (40 : Int)) fun y64 => if y64.2.1 = (0 : Int) then (some (y64.2.2.left_, y64.2.2.to_, y64.1, (0 : Int))) else (some (([] : List Int), ([] : List Int), (0 : Int), y64.2.1))) := fixF_eq carry_Over.l0_k.mono _
def carry_Over.l0_k.I : (p : carry_Over.l0_k.Pt) → ((List Int) × (List Int) × Int × Int) → Prop
  | .l0 a_0 a_1 x_2 y_19 x_20, r => ∀ (W : Nat → Prop) (h0 m0 h m : Heap) (A_0 : Option Addr) (n_0 c_0 : Nat) (A_1 : Option Addr) (n_1 c_1 : Nat) (cs_19 : List Value) (O : Hold W h0 m0 h m []) (ne_0 : n_0 = List.length a_0) (k_0 : List.length a_0 ≤ c_0) (r_0 : Rd 1 (eInt .u64) m A_0 a_0) (ne_1 : n_1 = List.length a_1) (k_1 : List.length a_1 ≤ c_1) (r_1 : Rd 1 (eInt .u64) m A_1 a_1) (e_19 : (eArrE 2 1 (eRow 1 (eInt .u64))) m y_19 cs_19), f39.l0 (carry_Over.post W h0 m0 r) A_0 n_0 c_0 A_1 n_1 c_1 x_2 (Value.agg cs_19.toArray) x_20 h
set_option maxHeartbeats 4000000 in
set_option maxRecDepth 100000 in
theorem carry_Over.l0_k.step_l0 (go : (p : carry_Over.l0_k.Pt) → Option ((List Int) × (List Int) × Int × Int)) (ih : ∀ p r, go p = some r → carry_Over.l0_k.I p r) (a_0 : List Int) (a_1 : List Int) (x_2 : Int) (y_19 : (List (List Int))) (x_20 : Int) (r : (List Int) × (List Int) × Int × Int) (e : carry_Over.l0_k.body go (.l0 a_0 a_1 x_2 y_19 x_20) = some r) : carry_Over.l0_k.I (.l0 a_0 a_1 x_2 y_19 x_20) r := by
  unfold carry_Over.l0_k.body at e
  intro W h0 m0 h m A_0 n_0 c_0 A_1 n_1 c_1 cs_19 O ne_0 k_0 r_0 ne_1 k_1 r_1 e_19
  subst ne_0
  subst ne_1
  refine f39.l0_in ?_
  unfold f39.l0T
  refine split_dec_e e (fun c83 e => ?_) (fun c83 e => ?_)
  · obtain ⟨y1, g2, e⟩ := bind_e e
    obtain ⟨v3, q4, he5⟩ := eArrE.get1 e_19 g2
    obtain ⟨A6, c7, q8, k9, r10⟩ := he5
    obtain rfl := (List.cons.inj q8).1
    refine ⟨gi_le g2, eArrE.ltn e_19 g2, _, fld1 q4, _, _, _, rfl, ?_⟩
    obtain ⟨y11, g12, e⟩ := bind_e e
    refine (heap_Objects.walk (Hold.start (W := No) O.s) rfl k9 r10 g12).mono ?_
    rintro _ h13 ⟨m14, A17, n18, c19, Q15, rfl, ne20⟩
    have O22 := Hold.nm (O.ret Q15)
    subst ne20
    refine ⟨_, _, _, _, rfl, ?_⟩
    refine split_ne_e e (fun c26 e => ?_) (fun c26 e => ?_)
    · have O23 := O22.nil (aE (tell_int .u64)) none
      have O25 := O23.nm
      cases e
      exact ⟨_, _, _, _, _, _, _, O25.pick [1], rfl, rfl, rfl, (by exact Nat.le_refl 0), Rd.nil⟩
    · exact (ih _ _ e) _ _ _ _ _ _ _ _ _ _ _ _ (O22.pick []).nm rfl k_0 (r_0.sub (tell_int .u64) Q15.S.up) rfl k_1 (r_1.sub (tell_int .u64) Q15.S.up) ((tell_arrE 2 (tell_row (tell_int .u64))).mono _ _ _ _ Q15.S.up e_19)
  · obtain ⟨y27, g28, e⟩ := bind_e e
    refine (slices_Clone_42.walk (Hold.start (W := No) O.s) rfl k_0 r_0 g28).mono ?_
    rintro _ h29 ⟨m30, A33, n34, c35, Q31, rfl, ne36⟩
    have O38 := Hold.nm (O.retC Q31 (vfs_cons (rR_vf (aE_vf (fun _ _ _ _ h => h))) vfs_nil))
    subst ne36
    refine ⟨_, _, _, rfl, ?_⟩
    obtain ⟨y39, g40, e⟩ := bind_e e
    refine (slices_Clone_42.walk (Hold.start (W := No) O38.s) rfl k_1 r_1 g40).mono ?_
    rintro _ h41 ⟨m42, A45, n46, c47, Q43, rfl, ne48⟩
    have O50 := Hold.nm (O38.retC Q43 (vfs_cons (rR_vf (aE_vf (fun _ _ _ _ h => h))) vfs_nil))
    subst ne48
    refine ⟨_, _, _, rfl, ?_⟩
    refine O50.mkMap (ν := Int) (monoV0 (tell_int .u64)) (fun n : Int => Value.int .i64 n) fun h51 x52 O53 => ?_
    refine oneCell_map ?_
    refine O53.new fun h55 x56 O57 => ?_
    obtain ⟨y64, g65, e⟩ := bind_e e
    obtain ⟨m59, u60, ⟨r61, k62⟩, O63⟩ := O57.frz 1 rfl
    replace r61 : Rd 1 (eInt .u64) m59 A45 y39 := r61
    have O70 := O63.nm
    obtain ⟨W71, P72, B73, C74⟩ := O70.callC [3, 0, 2]
    refine (carry_copier_word.walk (y_0 := (T_carry_copier.mk a_0 y27 y39 ([] : (List (Int × Int))))) P72 rfl k_0 (r_0.sub (tell_int .u64) u60) rfl rfl k62 r61 g65).mono ?_
    rintro _ h66 ⟨m67, A_75_0, n_75_0, c_75_0, A_75_1, n_75_1, c_75_1, A_75_2, n_75_2, c_75_2, b_75_3, Q68, rfl, ne_75_0, k_75_0, r_75_0, ne_75_1, ne_75_2, k_75_2, r_75_2⟩
    have O78 := Hold.nm (B73 Q68)
    subst ne_75_0
    subst ne_75_1
    subst ne_75_2
    refine ⟨_, _, rfl, ?_⟩
    refine split_ne_e e (fun c82 e => ?_) (fun c82 e => ?_)
    · have O79 := O78.nil (aE (tell_int .u64)) none
      have O81 := O79.nm
      cases e
      exact ⟨_, _, _, _, _, _, _, O81.pick [7], rfl, rfl, rfl, (by exact Nat.le_refl 0), Rd.nil⟩
    · refine ⟨_, ldk (k := 1) (Sub.refl _) (O78.all 4 rfl) rfl, _, _, _, rfl, ?_⟩
      refine ⟨_, ldk (k := 2) (Sub.refl _) (O78.all 4 rfl) rfl, _, _, _, rfl, ?_⟩
      cases e
      exact ⟨_, _, _, _, _, _, _, O78.pick [5], rfl, rfl, rfl, k_75_2, r_75_2⟩
theorem carry_Over.l0_k.all {p : carry_Over.l0_k.Pt} {r : ((List Int) × (List Int) × Int × Int)} (e : carry_Over.l0_k.go p = some r) : carry_Over.l0_k.I p r := fixF_ind (β := fun _ => ((List Int) × (List Int) × Int × Int)) carry_Over.l0_k.mono (I := carry_Over.l0_k.I) (fun go ih p r e => match p with
  | .l0 a_0 a_1 x_2 y_19 x_20 => carry_Over.l0_k.step_l0 go ih a_0 a_1 x_2 y_19 x_20 r e
  ) e
theorem carry_Over.l0.walk {W : Nat → Prop} {h0 m0 h m : Heap} {A_0 : Option Addr} {n_0 c_0 : Nat} {A_1 : Option Addr} {n_1 c_1 : Nat} {cs_19 : List Value} {a_0 : List Int} {a_1 : List Int} {x_2 : Int} {y_19 : (List (List Int))} {x_20 : Int} (O : Hold W h0 m0 h m []) (ne_0 : n_0 = List.length a_0) (k_0 : List.length a_0 ≤ c_0) (r_0 : Rd 1 (eInt .u64) m A_0 a_0) (ne_1 : n_1 = List.length a_1) (k_1 : List.length a_1 ≤ c_1) (r_1 : Rd 1 (eInt .u64) m A_1 a_1) (e_19 : (eArrE 2 1 (eRow 1 (eInt .u64))) m y_19 cs_19) {r : (List Int) × (List Int) × Int × Int} (e : carry_Over.l0 a_0 a_1 x_2 y_19 x_20 = some r) : f39.l0 (carry_Over.post W h0 m0 r) A_0 n_0 c_0 A_1 n_1 c_1 x_2 (Value.agg cs_19.toArray) x_20 h := carry_Over.l0_k.all (p := .l0 a_0 a_1 x_2 y_19 x_20) e W h0 m0 h m A_0 n_0 c_0 A_1 n_1 c_1 cs_19 O ne_0 k_0 r_0 ne_1 k_1 r_1 e_19
noncomputable def carry_Over (a_0 : List Int) (a_1 : List Int) (x_2 : Int) : Option ((List Int) × (List Int) × Int × Int) :=
  (carry_Over.l0 a_0 a_1 x_2 ([a_0, a_1] : List (List Int)) (0 : Int))
set_option maxRecDepth 100000 in
theorem carry_Over.walk {W : Nat → Prop} {h m : Heap} {A_0 : Option Addr} {n_0 c_0 : Nat} {A_1 : Option Addr} {n_1 c_1 : Nat} {a_0 : List Int} {a_1 : List Int} {x_2 : Int} (O : Hold W h m h m []) (ne_0 : n_0 = List.length a_0) (k_0 : List.length a_0 ≤ c_0) (r_0 : Rd 1 (eInt .u64) m A_0 a_0) (ne_1 : n_1 = List.length a_1) (k_1 : List.length a_1 ≤ c_1) (r_1 : Rd 1 (eInt .u64) m A_1 a_1) {r : (List Int) × (List Int) × Int × Int} (e : carry_Over a_0 a_1 x_2 = some r) : Run Try.prog 39 #[Value.slice A_0 n_0 c_0, Value.slice A_1 n_1 c_1, Value.int .u64 x_2] h (carry_Over.post W h m r) := by
  unfold carry_Over at e
  subst ne_0
  subst ne_1
  refine f39.run ?_
  unfold f39.runT
  exact carry_Over.l0.walk (O.pick []).nm rfl k_0 r_0 rfl k_1 r_1 (show (eArrE 2 1 (eRow 1 (eInt .u64))) m ([a_0, a_1] : List (List Int)) [(Value.slice A_0 (List.length a_0) c_0), (Value.slice A_1 (List.length a_1) c_1)] from ⟨show CsE _ _ _ _ _ from (CsE.cons (c1 := [(Value.slice A_0 (List.length a_0) c_0)]) ⟨_, _, rfl, k_0, r_0⟩ rfl (CsE.cons (c1 := [(Value.slice A_1 (List.length a_1) c_1)]) ⟨_, _, rfl, k_1, r_1⟩ rfl CsE.nil)), rfl⟩) e
def roadref3_In.post (W : Nat → Prop) (h0 m0 : Heap) (r : Bool) (v : Value) (h : Heap) : Prop := ∃ m , Hold W h0 m0 h m [] ∧ v = .bool r
noncomputable def roadref3_In (x_0 : Int) (x_1 : Int) (x_2 : Int) : Option (Bool) :=
  if x_0 ≥ x_1 then (some ((decide (x_0 ≤ x_2)))) else (some (false))
set_option maxRecDepth 100000 in
theorem roadref3_In.walk {W : Nat → Prop} {h m : Heap} {x_0 : Int} {x_1 : Int} {x_2 : Int} (O : Hold W h m h m []) {r : Bool} (e : roadref3_In x_0 x_1 x_2 = some r) : Run Try.prog 30 #[Value.int .i64 x_0, Value.int .i64 x_1, Value.int .i64 x_2] h (roadref3_In.post W h m r) := by
  unfold roadref3_In at e
  refine f30.run ?_
  unfold f30.runT
  refine split_dec_e e (fun c1 e => ?_) (fun c1 e => ?_)
  · cases e
    exact ⟨_, O.pick [], rfl⟩
  · cases e
    exact ⟨_, O.pick [], rfl⟩
def roadref3_ObjectWords.post (W : Nat → Prop) (h0 m0 : Heap) (r : (List Int)) (v : Value) (h : Heap) : Prop := ∃ m A0 n0 c0, Hold W h0 m0 h m [rR (aE (tell_int .u64)) A0 c0 r] ∧ v = .slice A0 n0 c0 ∧ n0 = List.length r
inductive roadref3_ObjectWords.l0_k.Pt where
  | l0 (y_1 : T_heap_Object) (a_3 : List Int) (s_4 : ByteArray)
  | l1 (y_1 : T_heap_Object) (a_3 : List Int) (s_4 : ByteArray) (x_5 : Int) (x_6 : Int) (x_7 : Int)
noncomputable def roadref3_ObjectWords.l0_k.body (go : (p : roadref3_ObjectWords.l0_k.Pt) → Option ((List Int))) : (p : roadref3_ObjectWords.l0_k.Pt) → Option ((List Int))
  | .l0 y_1 a_3 s_4 => if s_4 = (ByteArray.mk #[]) then (Option.bind (ap 8 a_3 y_1.Parts) fun l6 => some (l6)) else ((go (.l1 y_1 a_3 s_4 (if ((ByteArray.size s_4 : Nat) : Int) < (8 : Int) then ((ByteArray.size s_4 : Nat) : Int) else (8 : Int)) (0 : Int) (IntKind.wrap .i64 ((if ((ByteArray.size s_4 : Nat) : Int) < (8 : Int) then ((ByteArray.size s_4 : Nat) : Int) else (8 : Int)) - (1 : Int))))))
  | .l1 y_1 a_3 s_4 x_5 x_6 x_7 => if x_7 ≥ (0 : Int) then (Option.bind (gb s_4 x_7) fun y1 => (go (.l1 y_1 a_3 s_4 x_5 (IntKind.wrap .u64 ((IntKind.wrap .u64 ((256 : Int) * x_6)) + (IntKind.wrap .u64 y1))) (IntKind.wrap .i64 (x_7 - (1 : Int)))))) else (if 0 ≤ x_5 ∧ x_5 ≤ ((ByteArray.size s_4 : Nat) : Int) ∧ ((ByteArray.size s_4 : Nat) : Int) ≤ ((ByteArray.size s_4 : Nat) : Int) then (Option.bind (ap 8 a_3 ([x_6] : List Int)) fun l12 => (go (.l0 y_1 l12 (ByteArray.extract s_4 (Int.toNat x_5) (Int.toNat ((ByteArray.size s_4 : Nat) : Int)))))) else none)
theorem roadref3_ObjectWords.l0_k.mono : MonoF (β := fun _ => ((List Int))) roadref3_ObjectWords.l0_k.body := fun f g hfg p => match p with
  | .l0 y_1 a_3 s_4 => LeO.ite (LeO.bind (LeO.refl _) fun l6 => LeO.refl _) ((hfg _))
  | .l1 y_1 a_3 s_4 x_5 x_6 x_7 => LeO.ite (LeO.bind (LeO.refl _) fun y1 => (hfg _)) (LeO.ite (LeO.bind (LeO.refl _) fun l12 => (hfg _)) (LeO.refl _))
noncomputable def roadref3_ObjectWords.l0_k.go (p : roadref3_ObjectWords.l0_k.Pt) : Option ((List Int)) := fixF (β := fun _ => ((List Int))) roadref3_ObjectWords.l0_k.body p
noncomputable def roadref3_ObjectWords.l0 (y_1 : T_heap_Object) (a_3 : List Int) (s_4 : ByteArray) : Option ((List Int)) := roadref3_ObjectWords.l0_k.go (.l0 y_1 a_3 s_4)
noncomputable def roadref3_ObjectWords.l1 (y_1 : T_heap_Object) (a_3 : List Int) (s_4 : ByteArray) (x_5 : Int) (x_6 : Int) (x_7 : Int) : Option ((List Int)) := roadref3_ObjectWords.l0_k.go (.l1 y_1 a_3 s_4 x_5 x_6 x_7)
theorem roadref3_ObjectWords.l0_eq (y_1 : T_heap_Object) (a_3 : List Int) (s_4 : ByteArray) : roadref3_ObjectWords.l0 y_1 a_3 s_4 = if s_4 = (ByteArray.mk #[]) then (Option.bind (ap 8 a_3 y_1.Parts) fun l6 => some (l6)) else ((roadref3_ObjectWords.l1 y_1 a_3 s_4 (if ((ByteArray.size s_4 : Nat) : Int) < (8 : Int) then ((ByteArray.size s_4 : Nat) : Int) else (8 : Int)) (0 : Int) (IntKind.wrap .i64 ((if ((ByteArray.size s_4 : Nat) : Int) < (8 : Int) then ((ByteArray.size s_4 : Nat) : Int) else (8 : Int)) - (1 : Int))))) := fixF_eq roadref3_ObjectWords.l0_k.mono _
theorem roadref3_ObjectWords.l1_eq (y_1 : T_heap_Object) (a_3 : List Int) (s_4 : ByteArray) (x_5 : Int) (x_6 : Int) (x_7 : Int) : roadref3_ObjectWords.l1 y_1 a_3 s_4 x_5 x_6 x_7 = if x_7 ≥ (0 : Int) then (Option.bind (gb s_4 x_7) fun y1 => (roadref3_ObjectWords.l1 y_1 a_3 s_4 x_5 (IntKind.wrap .u64 ((IntKind.wrap .u64 ((256 : Int) * x_6)) + (IntKind.wrap .u64 y1))) (IntKind.wrap .i64 (x_7 - (1 : Int))))) else (if 0 ≤ x_5 ∧ x_5 ≤ ((ByteArray.size s_4 : Nat) : Int) ∧ ((ByteArray.size s_4 : Nat) : Int) ≤ ((ByteArray.size s_4 : Nat) : Int) then (Option.bind (ap 8 a_3 ([x_6] : List Int)) fun l12 => (roadref3_ObjectWords.l0 y_1 l12 (ByteArray.extract s_4 (Int.toNat x_5) (Int.toNat ((ByteArray.size s_4 : Nat) : Int))))) else none) := fixF_eq roadref3_ObjectWords.l0_k.mono _
def roadref3_ObjectWords.l0_k.I : (p : roadref3_ObjectWords.l0_k.Pt) → ((List Int)) → Prop
  | .l0 y_1 a_3 s_4, r => ∀ (W : Nat → Prop) (h0 m0 h m : Heap) (bk_1 : Nat) (cs_1 : List Value) (A_3 : Option Addr) (n_3 c_3 : Nat) (O : Hold W h0 m0 h m [rV bk_1 152 cs_1, rR (aE (tell_int .u64)) A_3 c_3 a_3]) (e_1 : T_heap_Object.E m y_1 cs_1) (ne_3 : n_3 = List.length a_3), f78.l0 (roadref3_ObjectWords.post W h0 m0 r) (⟨bk_1, 0, none⟩ : Addr) A_3 n_3 c_3 s_4 h
  | .l1 y_1 a_3 s_4 x_5 x_6 x_7, r => ∀ (W : Nat → Prop) (h0 m0 h m : Heap) (bk_1 : Nat) (cs_1 : List Value) (A_3 : Option Addr) (n_3 c_3 : Nat) (O : Hold W h0 m0 h m [rV bk_1 152 cs_1, rR (aE (tell_int .u64)) A_3 c_3 a_3]) (e_1 : T_heap_Object.E m y_1 cs_1) (ne_3 : n_3 = List.length a_3), f78.l1 (roadref3_ObjectWords.post W h0 m0 r) (⟨bk_1, 0, none⟩ : Addr) A_3 n_3 c_3 s_4 x_5 x_6 x_7 h
set_option maxRecDepth 100000 in
theorem roadref3_ObjectWords.l0_k.step_l0 (go : (p : roadref3_ObjectWords.l0_k.Pt) → Option ((List Int))) (ih : ∀ p r, go p = some r → roadref3_ObjectWords.l0_k.I p r) (y_1 : T_heap_Object) (a_3 : List Int) (s_4 : ByteArray) (r : (List Int)) (e : roadref3_ObjectWords.l0_k.body go (.l0 y_1 a_3 s_4) = some r) : roadref3_ObjectWords.l0_k.I (.l0 y_1 a_3 s_4) r := by
  unfold roadref3_ObjectWords.l0_k.body at e
  intro W h0 m0 h m bk_1 cs_1 A_3 n_3 c_3 O e_1 ne_3
  subst ne_3
  refine f78.l0_in ?_
  unfold f78.l0T
  try rw [ba_list s_4 (ByteArray.mk #[])]
  refine split_not ?_
  refine split_dec_e e (fun c15 e => ?_) (fun c15 e => ?_)
  · obtain ⟨A1, c2, q3, k4, r5⟩ := T_heap_Object.g4 e_1
    refine ⟨_, ldk (k := 4) (Sub.refl _) (O.all 0 rfl) q3, _, _, _, rfl, ?_⟩
    obtain ⟨l6, g7, e⟩ := bind_e e
    refine O.app 1 rfl rfl rfl (Rd.srcE r5 (tell_int .u64) O.s rfl) (by decide) g7 fun A8 c9 h10 O11 => ?_
    refine ⟨_, _, _, rfl, ?_⟩
    have O14 := O11.nm
    cases e
    exact ⟨_, _, _, _, O14.pick [1], rfl, rfl⟩
  · exact (ih _ _ e) _ _ _ _ _ _ _ _ _ _ (O.pick [0, 1]).nm e_1 rfl
set_option maxRecDepth 100000 in
theorem roadref3_ObjectWords.l0_k.step_l1 (go : (p : roadref3_ObjectWords.l0_k.Pt) → Option ((List Int))) (ih : ∀ p r, go p = some r → roadref3_ObjectWords.l0_k.I p r) (y_1 : T_heap_Object) (a_3 : List Int) (s_4 : ByteArray) (x_5 : Int) (x_6 : Int) (x_7 : Int) (r : (List Int)) (e : roadref3_ObjectWords.l0_k.body go (.l1 y_1 a_3 s_4 x_5 x_6 x_7) = some r) : roadref3_ObjectWords.l0_k.I (.l1 y_1 a_3 s_4 x_5 x_6 x_7) r := by
  unfold roadref3_ObjectWords.l0_k.body at e
  intro W h0 m0 h m bk_1 cs_1 A_3 n_3 c_3 O e_1 ne_3
  subst ne_3
  refine f78.l1_in ?_
  unfold f78.l1T
  refine split_dec_e e (fun c22 e => ?_) (fun c22 e => ?_)
  · obtain ⟨y1, g2, e⟩ := bind_e e
    obtain ⟨q3, b4, q5, q6⟩ := gb_e g2
    refine ⟨q3, _, q5, ?_⟩
    try rw [← q6]
    exact (ih _ _ e) _ _ _ _ _ _ _ _ _ _ (O.pick [0, 1]).nm e_1 rfl
  · obtain ⟨g7, e⟩ := guard_e e
    refine ⟨g7.1, g7.2.1, g7.2.2, ?_⟩
    refine O.new fun h8 x9 O10 => ?_
    obtain ⟨l12, g13, e⟩ := bind_e e
    have O20 := O10.rowE (l := ([x_6] : List Int)) 2 rfl (tell_int .u64) (show CsE _ _ _ _ _ from (CsE.cons (c1 := [(Value.int .u64 x_6)]) rfl rfl CsE.nil)) rfl
    refine O20.app 1 rfl rfl rfl ((O20.os 2 rfl).srcE rfl) (by decide) g13 fun A14 c15 h16 O17 => ?_
    refine ⟨_, _, _, rfl, ?_⟩
    have O21 := O17.nm
    exact (ih _ _ e) _ _ _ _ _ _ _ _ _ _ (O21.pick [0, 1]).nm e_1 rfl
theorem roadref3_ObjectWords.l0_k.all {p : roadref3_ObjectWords.l0_k.Pt} {r : ((List Int))} (e : roadref3_ObjectWords.l0_k.go p = some r) : roadref3_ObjectWords.l0_k.I p r := fixF_ind (β := fun _ => ((List Int))) roadref3_ObjectWords.l0_k.mono (I := roadref3_ObjectWords.l0_k.I) (fun go ih p r e => match p with
  | .l0 y_1 a_3 s_4 => roadref3_ObjectWords.l0_k.step_l0 go ih y_1 a_3 s_4 r e
  | .l1 y_1 a_3 s_4 x_5 x_6 x_7 => roadref3_ObjectWords.l0_k.step_l1 go ih y_1 a_3 s_4 x_5 x_6 x_7 r e
  ) e
theorem roadref3_ObjectWords.l0.walk {W : Nat → Prop} {h0 m0 h m : Heap} {bk_1 : Nat} {cs_1 : List Value} {A_3 : Option Addr} {n_3 c_3 : Nat} {y_1 : T_heap_Object} {a_3 : List Int} {s_4 : ByteArray} (O : Hold W h0 m0 h m [rV bk_1 152 cs_1, rR (aE (tell_int .u64)) A_3 c_3 a_3]) (e_1 : T_heap_Object.E m y_1 cs_1) (ne_3 : n_3 = List.length a_3) {r : (List Int)} (e : roadref3_ObjectWords.l0 y_1 a_3 s_4 = some r) : f78.l0 (roadref3_ObjectWords.post W h0 m0 r) (⟨bk_1, 0, none⟩ : Addr) A_3 n_3 c_3 s_4 h := roadref3_ObjectWords.l0_k.all (p := .l0 y_1 a_3 s_4) e W h0 m0 h m bk_1 cs_1 A_3 n_3 c_3 O e_1 ne_3
noncomputable def roadref3_ObjectWords.j0 (y_1 : T_heap_Object) (a_3 : List Int) : Option ((List Int)) :=
  (roadref3_ObjectWords.l0 y_1 a_3 y_1.Text)
set_option maxRecDepth 100000 in
theorem roadref3_ObjectWords.j0.walk {W : Nat → Prop} {h0 m0 h m : Heap} {bk_1 : Nat} {cs_1 : List Value} {A_3 : Option Addr} {n_3 c_3 : Nat} {y_1 : T_heap_Object} {a_3 : List Int} (O : Hold W h0 m0 h m [rV bk_1 152 cs_1, rR (aE (tell_int .u64)) A_3 c_3 a_3]) (e_1 : T_heap_Object.E m y_1 cs_1) (ne_3 : n_3 = List.length a_3) {r : (List Int)} (e : roadref3_ObjectWords.j0 y_1 a_3 = some r) : f78.j0 (roadref3_ObjectWords.post W h0 m0 r) (⟨bk_1, 0, none⟩ : Addr) A_3 n_3 c_3 h := by
  unfold roadref3_ObjectWords.j0 at e
  subst ne_3
  refine f78.j0_in ?_
  unfold f78.j0T
  refine ⟨_, ldk (k := 3) (Sub.refl _) (O.all 0 rfl) (T_heap_Object.g3 e_1), _, rfl, ?_⟩
  exact roadref3_ObjectWords.l0.walk (O.pick [0, 1]).nm e_1 rfl e
noncomputable def roadref3_ObjectWords.j1 (y_1 : T_heap_Object) (a_3 : List Int) (b_31 : Bool) : Option ((List Int)) :=
  if b_31 = true then (Option.bind (ap 8 a_3 ([(IntKind.wrap .u64 y_1.Num)] : List Int)) fun l5 => (roadref3_ObjectWords.j0 y_1 l5)) else ((roadref3_ObjectWords.j0 y_1 a_3))
set_option maxRecDepth 100000 in
theorem roadref3_ObjectWords.j1.walk {W : Nat → Prop} {h0 m0 h m : Heap} {bk_1 : Nat} {cs_1 : List Value} {A_3 : Option Addr} {n_3 c_3 : Nat} {y_1 : T_heap_Object} {a_3 : List Int} {b_31 : Bool} (O : Hold W h0 m0 h m [rV bk_1 152 cs_1, rR (aE (tell_int .u64)) A_3 c_3 a_3]) (e_1 : T_heap_Object.E m y_1 cs_1) (ne_3 : n_3 = List.length a_3) {r : (List Int)} (e : roadref3_ObjectWords.j1 y_1 a_3 b_31 = some r) : f78.j1 (roadref3_ObjectWords.post W h0 m0 r) (⟨bk_1, 0, none⟩ : Addr) A_3 n_3 c_3 b_31 h := by
  unfold roadref3_ObjectWords.j1 at e
  subst ne_3
  refine f78.j1_in ?_
  unfold f78.j1T
  refine split_any_e e (fun c15 e => ?_) (fun c15 e => ?_)
  · refine ⟨_, ldk (k := 2) (Sub.refl _) (O.all 0 rfl) (T_heap_Object.g2 e_1), _, rfl, ?_⟩
    refine O.new fun h1 x2 O3 => ?_
    obtain ⟨l5, g6, e⟩ := bind_e e
    have O13 := O3.rowE (l := ([(IntKind.wrap .u64 y_1.Num)] : List Int)) 2 rfl (tell_int .u64) (show CsE _ _ _ _ _ from (CsE.cons (c1 := [(Value.int .u64 (IntKind.wrap .u64 y_1.Num))]) rfl rfl CsE.nil)) rfl
    refine O13.app 1 rfl rfl rfl ((O13.os 2 rfl).srcE rfl) (by decide) g6 fun A7 c8 h9 O10 => ?_
    refine ⟨_, _, _, rfl, ?_⟩
    have O14 := O10.nm
    exact roadref3_ObjectWords.j0.walk (O14.pick [0, 1]).nm e_1 rfl e
  · exact roadref3_ObjectWords.j0.walk (O.pick [0, 1]).nm e_1 rfl e
noncomputable def roadref3_ObjectWords (y_0 : T_heap_Object) : Option ((List Int)) :=
  if y_0.Kind = (1 : Int) then ((roadref3_ObjectWords.j1 y_0 ([(IntKind.wrap .u64 ((IntKind.wrap .u64 ((IntKind.wrap .u64 y_0.Kind) + (IntKind.wrap .u64 ((256 : Int) * (IntKind.wrap .u64 ((ByteArray.size y_0.Text : Nat) : Int)))))) + (IntKind.wrap .u64 ((1048576 : Int) * (IntKind.wrap .u64 (((List.length y_0.Parts) : Nat) : Int))))))] : List Int) true)) else ((roadref3_ObjectWords.j1 y_0 ([(IntKind.wrap .u64 ((IntKind.wrap .u64 ((IntKind.wrap .u64 y_0.Kind) + (IntKind.wrap .u64 ((256 : Int) * (IntKind.wrap .u64 ((ByteArray.size y_0.Text : Nat) : Int)))))) + (IntKind.wrap .u64 ((1048576 : Int) * (IntKind.wrap .u64 (((List.length y_0.Parts) : Nat) : Int))))))] : List Int) (y_0.Kind == (4 : Int))))
set_option maxRecDepth 100000 in
theorem roadref3_ObjectWords.walk {W : Nat → Prop} {h m : Heap} {cs_0 : List Value} {y_0 : T_heap_Object} (O : Hold W h m h m []) (e_0 : T_heap_Object.E m y_0 cs_0) {r : (List Int)} (e : roadref3_ObjectWords y_0 = some r) : Run Try.prog 78 #[Value.agg cs_0.toArray] h (roadref3_ObjectWords.post W h m r) := by
  unfold roadref3_ObjectWords at e
  refine f78.run ?_
  unfold f78.runT
  refine O.new fun h1 x2 O3 => ?_
  refine ⟨_, ldk (k := 1) (Sub.refl _) (O3.all 0 rfl) (T_heap_Object.g1 e_0), _, rfl, ?_⟩
  refine ⟨_, ldk (k := 3) (Sub.refl _) (O3.all 0 rfl) (T_heap_Object.g3 e_0), _, rfl, ?_⟩
  obtain ⟨A5, c6, q7, k8, r9⟩ := T_heap_Object.g4 e_0
  refine ⟨_, ldk (k := 4) (Sub.refl _) (O3.all 0 rfl) q7, _, _, _, rfl, ?_⟩
  refine O3.new fun h10 x11 O12 => ?_
  refine ⟨_, ldk (k := 1) (Sub.refl _) (O12.all 0 rfl) (T_heap_Object.g1 e_0), _, rfl, ?_⟩
  refine split_eq_e e (fun c18 e => ?_) (fun c18 e => ?_)
  · have O14 := O12.rowE (l := ([(IntKind.wrap .u64 ((IntKind.wrap .u64 ((IntKind.wrap .u64 y_0.Kind) + (IntKind.wrap .u64 ((256 : Int) * (IntKind.wrap .u64 ((ByteArray.size y_0.Text : Nat) : Int)))))) + (IntKind.wrap .u64 ((1048576 : Int) * (IntKind.wrap .u64 (((List.length y_0.Parts) : Nat) : Int))))))] : List Int)) 1 rfl (tell_int .u64) (show CsE _ _ _ _ _ from (CsE.cons (c1 := [(Value.int .u64 (IntKind.wrap .u64 ((IntKind.wrap .u64 ((IntKind.wrap .u64 y_0.Kind) + (IntKind.wrap .u64 ((256 : Int) * (IntKind.wrap .u64 ((ByteArray.size y_0.Text : Nat) : Int)))))) + (IntKind.wrap .u64 ((1048576 : Int) * (IntKind.wrap .u64 (((List.length y_0.Parts) : Nat) : Int)))))))]) rfl rfl CsE.nil)) rfl
    have O15 := O14.nm
    exact roadref3_ObjectWords.j1.walk (O15.pick [0, 1]).nm e_0 rfl e
  · refine ⟨_, ldk (k := 1) (Sub.refl _) (O12.all 0 rfl) (T_heap_Object.g1 e_0), _, rfl, ?_⟩
    have O16 := O12.rowE (l := ([(IntKind.wrap .u64 ((IntKind.wrap .u64 ((IntKind.wrap .u64 y_0.Kind) + (IntKind.wrap .u64 ((256 : Int) * (IntKind.wrap .u64 ((ByteArray.size y_0.Text : Nat) : Int)))))) + (IntKind.wrap .u64 ((1048576 : Int) * (IntKind.wrap .u64 (((List.length y_0.Parts) : Nat) : Int))))))] : List Int)) 1 rfl (tell_int .u64) (show CsE _ _ _ _ _ from (CsE.cons (c1 := [(Value.int .u64 (IntKind.wrap .u64 ((IntKind.wrap .u64 ((IntKind.wrap .u64 y_0.Kind) + (IntKind.wrap .u64 ((256 : Int) * (IntKind.wrap .u64 ((ByteArray.size y_0.Text : Nat) : Int)))))) + (IntKind.wrap .u64 ((1048576 : Int) * (IntKind.wrap .u64 (((List.length y_0.Parts) : Nat) : Int)))))))]) rfl rfl CsE.nil)) rfl
    have O17 := O16.nm
    exact roadref3_ObjectWords.j1.walk (O17.pick [0, 1]).nm e_0 rfl e
def roadref3_ObjectIs.post (W : Nat → Prop) (h0 m0 : Heap) (r : Bool) (v : Value) (h : Heap) : Prop := ∃ m , Hold W h0 m0 h m [] ∧ v = .bool r
noncomputable def roadref3_ObjectIs.j1 (y_1 : T_heap_Object) (b_3 : Bool) (b_4 : Bool) (b_5 : Bool) : Option (Bool) :=
  if b_3 = true then (if b_4 = true then (if b_5 = true then (some (true)) else (some (((((List.length y_1.Parts) : Nat) : Int) == (0 : Int))))) else (if y_1.Num = (0 : Int) then (if b_5 = true then (some (true)) else (some (((((List.length y_1.Parts) : Nat) : Int) == (0 : Int))))) else (some (false)))) else (if y_1.Text = (ByteArray.mk #[]) then (if b_4 = true then (if b_5 = true then (some (true)) else (some (((((List.length y_1.Parts) : Nat) : Int) == (0 : Int))))) else (if y_1.Num = (0 : Int) then (if b_5 = true then (some (true)) else (some (((((List.length y_1.Parts) : Nat) : Int) == (0 : Int))))) else (some (false)))) else (some (false)))
set_option maxHeartbeats 4000000 in
set_option maxRecDepth 100000 in
theorem roadref3_ObjectIs.j1.walk {W : Nat → Prop} {h0 m0 h m : Heap} {bk_1 : Nat} {cs_1 : List Value} {y_1 : T_heap_Object} {b_3 : Bool} {b_4 : Bool} {b_5 : Bool} (O : Hold W h0 m0 h m [rV bk_1 152 cs_1]) (e_1 : T_heap_Object.E m y_1 cs_1) {r : Bool} (e : roadref3_ObjectIs.j1 y_1 b_3 b_4 b_5 = some r) : f100.j1 (roadref3_ObjectIs.post W h0 m0 r) (⟨bk_1, 0, none⟩ : Addr) b_3 b_4 b_5 h := by
  unfold roadref3_ObjectIs.j1 at e
  refine f100.j1_in ?_
  unfold f100.j1T
  refine split_any_e e (fun c30 e => ?_) (fun c30 e => ?_)
  · refine split_any_e e (fun c14 e => ?_) (fun c14 e => ?_)
    · refine split_any_e e (fun c6 e => ?_) (fun c6 e => ?_)
      · cases e
        exact ⟨_, O.pick [], rfl⟩
      · obtain ⟨A1, c2, q3, k4, r5⟩ := T_heap_Object.g4 e_1
        refine ⟨_, ldk (k := 4) (Sub.refl _) (O.all 0 rfl) q3, _, _, _, rfl, ?_⟩
        cases e
        exact ⟨_, O.pick [], rfl⟩
    · refine ⟨_, ldk (k := 2) (Sub.refl _) (O.all 0 rfl) (T_heap_Object.g2 e_1), _, rfl, ?_⟩
      refine split_eq_e e (fun c13 e => ?_) (fun c13 e => ?_)
      · refine split_any_e e (fun c12 e => ?_) (fun c12 e => ?_)
        · cases e
          exact ⟨_, O.pick [], rfl⟩
        · obtain ⟨A7, c8, q9, k10, r11⟩ := T_heap_Object.g4 e_1
          refine ⟨_, ldk (k := 4) (Sub.refl _) (O.all 0 rfl) q9, _, _, _, rfl, ?_⟩
          cases e
          exact ⟨_, O.pick [], rfl⟩
      · cases e
        exact ⟨_, O.pick [], rfl⟩
  · refine ⟨_, ldk (k := 3) (Sub.refl _) (O.all 0 rfl) (T_heap_Object.g3 e_1), _, rfl, ?_⟩
    try rw [ba_list y_1.Text (ByteArray.mk #[])]
    refine split_dec_e e (fun c29 e => ?_) (fun c29 e => ?_)
    · refine split_any_e e (fun c28 e => ?_) (fun c28 e => ?_)
      · refine split_any_e e (fun c20 e => ?_) (fun c20 e => ?_)
        · cases e
          exact ⟨_, O.pick [], rfl⟩
        · obtain ⟨A15, c16, q17, k18, r19⟩ := T_heap_Object.g4 e_1
          refine ⟨_, ldk (k := 4) (Sub.refl _) (O.all 0 rfl) q17, _, _, _, rfl, ?_⟩
          cases e
          exact ⟨_, O.pick [], rfl⟩
      · refine ⟨_, ldk (k := 2) (Sub.refl _) (O.all 0 rfl) (T_heap_Object.g2 e_1), _, rfl, ?_⟩
        refine split_eq_e e (fun c27 e => ?_) (fun c27 e => ?_)
        · refine split_any_e e (fun c26 e => ?_) (fun c26 e => ?_)
          · cases e
            exact ⟨_, O.pick [], rfl⟩
          · obtain ⟨A21, c22, q23, k24, r25⟩ := T_heap_Object.g4 e_1
            refine ⟨_, ldk (k := 4) (Sub.refl _) (O.all 0 rfl) q23, _, _, _, rfl, ?_⟩
            cases e
            exact ⟨_, O.pick [], rfl⟩
        · cases e
          exact ⟨_, O.pick [], rfl⟩
    · cases e
      exact ⟨_, O.pick [], rfl⟩
noncomputable def roadref3_ObjectIs.j0 (y_1 : T_heap_Object) (b_3 : Bool) (b_4 : Bool) (b_5 : Bool) : Option (Bool) :=
  Option.bind (roadref3_In y_1.Kind (1 : Int) (5 : Int)) fun y1 => if y1 = true then (if ((ByteArray.size y_1.Text : Nat) : Int) > (64 : Int) then (some (false)) else (if (((List.length y_1.Parts) : Nat) : Int) > (400 : Int) then (some (false)) else (if y_1.Kind = (5 : Int) then (if (((List.length y_1.Parts) : Nat) : Int) > (1 : Int) then (some (false)) else ((roadref3_ObjectIs.j1 y_1 b_3 b_4 b_5))) else ((roadref3_ObjectIs.j1 y_1 b_3 b_4 b_5))))) else (some (false))
set_option maxRecDepth 100000 in
theorem roadref3_ObjectIs.j0.walk {W : Nat → Prop} {h0 m0 h m : Heap} {bk_1 : Nat} {cs_1 : List Value} {y_1 : T_heap_Object} {b_3 : Bool} {b_4 : Bool} {b_5 : Bool} (O : Hold W h0 m0 h m [rV bk_1 152 cs_1]) (e_1 : T_heap_Object.E m y_1 cs_1) {r : Bool} (e : roadref3_ObjectIs.j0 y_1 b_3 b_4 b_5 = some r) : f100.j0 (roadref3_ObjectIs.post W h0 m0 r) (⟨bk_1, 0, none⟩ : Addr) b_3 b_4 b_5 h := by
  unfold roadref3_ObjectIs.j0 at e
  refine f100.j0_in ?_
  unfold f100.j0T
  refine ⟨_, ldk (k := 1) (Sub.refl _) (O.all 0 rfl) (T_heap_Object.g1 e_1), _, rfl, ?_⟩
  obtain ⟨y1, g2, e⟩ := bind_e e
  refine (roadref3_In.walk (Hold.start (W := No) O.s)  g2).mono ?_
  rintro _ h3 ⟨m4, Q5, rfl⟩
  have O7 := Hold.nm (O.retC Q5 vfs_nil)
  refine ⟨_, rfl, ?_⟩
  refine split_not ?_
  refine split_any_e e (fun c22 e => ?_) (fun c22 e => ?_)
  · refine ⟨_, ldk (k := 3) (Sub.refl _) (O7.all 0 rfl) (T_heap_Object.g3 e_1), _, rfl, ?_⟩
    refine split_dec_e e (fun c21 e => ?_) (fun c21 e => ?_)
    · cases e
      exact ⟨_, O7.pick [], rfl⟩
    · obtain ⟨A8, c9, q10, k11, r12⟩ := T_heap_Object.g4 e_1
      refine ⟨_, ldk (k := 4) (Sub.refl _) (O7.all 0 rfl) q10, _, _, _, rfl, ?_⟩
      refine split_dec_e e (fun c20 e => ?_) (fun c20 e => ?_)
      · cases e
        exact ⟨_, O7.pick [], rfl⟩
      · refine ⟨_, ldk (k := 1) (Sub.refl _) (O7.all 0 rfl) (T_heap_Object.g1 e_1), _, rfl, ?_⟩
        refine split_eq_e e (fun c19 e => ?_) (fun c19 e => ?_)
        · obtain ⟨A13, c14, q15, k16, r17⟩ := T_heap_Object.g4 e_1
          refine ⟨_, ldk (k := 4) (Sub.refl _) (O7.all 0 rfl) q15, _, _, _, rfl, ?_⟩
          refine split_dec_e e (fun c18 e => ?_) (fun c18 e => ?_)
          · cases e
            exact ⟨_, O7.pick [], rfl⟩
          · exact roadref3_ObjectIs.j1.walk (O7.pick [0]).nm e_1 e
        · exact roadref3_ObjectIs.j1.walk (O7.pick [0]).nm e_1 e
  · cases e
    exact ⟨_, O7.pick [], rfl⟩
noncomputable def roadref3_ObjectIs (y_0 : T_heap_Object) : Option (Bool) :=
  if y_0.Kind = (2 : Int) then (if y_0.Kind = (1 : Int) then ((roadref3_ObjectIs.j0 y_0 true true (decide (y_0.Kind > (2 : Int))))) else ((roadref3_ObjectIs.j0 y_0 true (y_0.Kind == (4 : Int)) (decide (y_0.Kind > (2 : Int)))))) else (if y_0.Kind = (1 : Int) then ((roadref3_ObjectIs.j0 y_0 (y_0.Kind == (3 : Int)) true (decide (y_0.Kind > (2 : Int))))) else ((roadref3_ObjectIs.j0 y_0 (y_0.Kind == (3 : Int)) (y_0.Kind == (4 : Int)) (decide (y_0.Kind > (2 : Int))))))
set_option maxRecDepth 100000 in
theorem roadref3_ObjectIs.walk {W : Nat → Prop} {h m : Heap} {cs_0 : List Value} {y_0 : T_heap_Object} (O : Hold W h m h m []) (e_0 : T_heap_Object.E m y_0 cs_0) {r : Bool} (e : roadref3_ObjectIs y_0 = some r) : Run Try.prog 100 #[Value.agg cs_0.toArray] h (roadref3_ObjectIs.post W h m r) := by
  unfold roadref3_ObjectIs at e
  refine f100.run ?_
  unfold f100.runT
  refine O.new fun h1 x2 O3 => ?_
  refine ⟨_, ldk (k := 1) (Sub.refl _) (O3.all 0 rfl) (T_heap_Object.g1 e_0), _, rfl, ?_⟩
  refine split_eq_e e (fun c11 e => ?_) (fun c11 e => ?_)
  · refine ⟨_, ldk (k := 1) (Sub.refl _) (O3.all 0 rfl) (T_heap_Object.g1 e_0), _, rfl, ?_⟩
    refine split_eq_e e (fun c7 e => ?_) (fun c7 e => ?_)
    · refine ⟨_, ldk (k := 1) (Sub.refl _) (O3.all 0 rfl) (T_heap_Object.g1 e_0), _, rfl, ?_⟩
      have O5 := O3.nm
      exact roadref3_ObjectIs.j0.walk (O5.pick [0]).nm e_0 e
    · refine ⟨_, ldk (k := 1) (Sub.refl _) (O3.all 0 rfl) (T_heap_Object.g1 e_0), _, rfl, ?_⟩
      refine ⟨_, ldk (k := 1) (Sub.refl _) (O3.all 0 rfl) (T_heap_Object.g1 e_0), _, rfl, ?_⟩
      have O6 := O3.nm
      exact roadref3_ObjectIs.j0.walk (O6.pick [0]).nm e_0 e
  · refine ⟨_, ldk (k := 1) (Sub.refl _) (O3.all 0 rfl) (T_heap_Object.g1 e_0), _, rfl, ?_⟩
    refine ⟨_, ldk (k := 1) (Sub.refl _) (O3.all 0 rfl) (T_heap_Object.g1 e_0), _, rfl, ?_⟩
    refine split_eq_e e (fun c10 e => ?_) (fun c10 e => ?_)
    · refine ⟨_, ldk (k := 1) (Sub.refl _) (O3.all 0 rfl) (T_heap_Object.g1 e_0), _, rfl, ?_⟩
      have O8 := O3.nm
      exact roadref3_ObjectIs.j0.walk (O8.pick [0]).nm e_0 e
    · refine ⟨_, ldk (k := 1) (Sub.refl _) (O3.all 0 rfl) (T_heap_Object.g1 e_0), _, rfl, ?_⟩
      refine ⟨_, ldk (k := 1) (Sub.refl _) (O3.all 0 rfl) (T_heap_Object.g1 e_0), _, rfl, ?_⟩
      have O9 := O3.nm
      exact roadref3_ObjectIs.j0.walk (O9.pick [0]).nm e_0 e
def roadref3_ObjectAt.post (W : Nat → Prop) (h0 m0 : Heap) (r : T_heap_Object × Bool) (v : Value) (h : Heap) : Prop := ∃ m cs0, Hold W h0 m0 h m [] ∧ v = .tuple #[.agg cs0.toArray, .bool r.2] ∧ T_heap_Object.E m r.1 cs0
inductive roadref3_ObjectAt.l1_k.Pt where
  | l1 (a_0 : List Int) (x_1 : Int) (y_4 : T_heap_Object) (y_6 : T_heap_Object) (a_125 : List Int) (x_126 : Int) (x_127 : Int)
noncomputable def roadref3_ObjectAt.l1_k.body (go : (p : roadref3_ObjectAt.l1_k.Pt) → Option (T_heap_Object × Bool)) : (p : roadref3_ObjectAt.l1_k.Pt) → Option (T_heap_Object × Bool)
  | .l1 a_0 x_1 y_4 y_6 a_125 x_126 x_127 => if x_127 < x_126 then (Option.bind (gi a_125 x_127) fun y1 => Option.bind (gi a_0 (IntKind.wrap .i64 (x_1 + x_127))) fun y8 => if y8 = y1 then ((go (.l1 a_0 x_1 y_4 y_6 a_125 x_126 (IntKind.wrap .i64 (x_127 + (1 : Int)))))) else (some ((T_heap_Object.mk (0 : Int) (0 : Int) (0 : Int) (ByteArray.mk #[]) ([] : List Int)), false))) else (some (y_6, true))
theorem roadref3_ObjectAt.l1_k.mono : MonoF (β := fun _ => (T_heap_Object × Bool)) roadref3_ObjectAt.l1_k.body := fun f g hfg p => match p with
  | .l1 a_0 x_1 y_4 y_6 a_125 x_126 x_127 => LeO.ite (LeO.bind (LeO.refl _) fun y1 => LeO.bind (LeO.refl _) fun y8 => LeO.ite ((hfg _)) (LeO.refl _)) (LeO.refl _)
noncomputable def roadref3_ObjectAt.l1_k.go (p : roadref3_ObjectAt.l1_k.Pt) : Option (T_heap_Object × Bool) := fixF (β := fun _ => (T_heap_Object × Bool)) roadref3_ObjectAt.l1_k.body p
noncomputable def roadref3_ObjectAt.l1 (a_0 : List Int) (x_1 : Int) (y_4 : T_heap_Object) (y_6 : T_heap_Object) (a_125 : List Int) (x_126 : Int) (x_127 : Int) : Option (T_heap_Object × Bool) := roadref3_ObjectAt.l1_k.go (.l1 a_0 x_1 y_4 y_6 a_125 x_126 x_127)
theorem roadref3_ObjectAt.l1_eq (a_0 : List Int) (x_1 : Int) (y_4 : T_heap_Object) (y_6 : T_heap_Object) (a_125 : List Int) (x_126 : Int) (x_127 : Int) : roadref3_ObjectAt.l1 a_0 x_1 y_4 y_6 a_125 x_126 x_127 = if x_127 < x_126 then (Option.bind (gi a_125 x_127) fun y1 => Option.bind (gi a_0 (IntKind.wrap .i64 (x_1 + x_127))) fun y8 => if y8 = y1 then ((roadref3_ObjectAt.l1 a_0 x_1 y_4 y_6 a_125 x_126 (IntKind.wrap .i64 (x_127 + (1 : Int))))) else (some ((T_heap_Object.mk (0 : Int) (0 : Int) (0 : Int) (ByteArray.mk #[]) ([] : List Int)), false))) else (some (y_6, true)) := fixF_eq roadref3_ObjectAt.l1_k.mono _
def roadref3_ObjectAt.l1_k.I : (p : roadref3_ObjectAt.l1_k.Pt) → (T_heap_Object × Bool) → Prop
  | .l1 a_0 x_1 y_4 y_6 a_125 x_126 x_127, r => ∀ (W : Nat → Prop) (h0 m0 h m : Heap) (A_0 : Option Addr) (n_0 c_0 : Nat) (bk_4 : Nat) (cs_4 : List Value) (bk_6 : Nat) (cs_6 : List Value) (A_125 : Option Addr) (n_125 c_125 : Nat) (O : Hold W h0 m0 h m [rV bk_4 152 cs_4, rV bk_6 152 cs_6, rR (aE (tell_int .u64)) A_125 c_125 a_125]) (ne_0 : n_0 = List.length a_0) (k_0 : List.length a_0 ≤ c_0) (r_0 : Rd 1 (eInt .u64) m A_0 a_0) (e_4 : T_heap_Object.E m y_4 cs_4) (e_6 : T_heap_Object.E m y_6 cs_6) (ne_125 : n_125 = List.length a_125), f77.l1 (roadref3_ObjectAt.post W h0 m0 r) A_0 n_0 c_0 x_1 (⟨bk_4, 0, none⟩ : Addr) (⟨bk_6, 0, none⟩ : Addr) A_125 n_125 c_125 x_126 x_127 h
set_option maxRecDepth 100000 in
theorem roadref3_ObjectAt.l1_k.step_l1 (go : (p : roadref3_ObjectAt.l1_k.Pt) → Option (T_heap_Object × Bool)) (ih : ∀ p r, go p = some r → roadref3_ObjectAt.l1_k.I p r) (a_0 : List Int) (x_1 : Int) (y_4 : T_heap_Object) (y_6 : T_heap_Object) (a_125 : List Int) (x_126 : Int) (x_127 : Int) (r : T_heap_Object × Bool) (e : roadref3_ObjectAt.l1_k.body go (.l1 a_0 x_1 y_4 y_6 a_125 x_126 x_127) = some r) : roadref3_ObjectAt.l1_k.I (.l1 a_0 x_1 y_4 y_6 a_125 x_126 x_127) r := by
  unfold roadref3_ObjectAt.l1_k.body at e
  intro W h0 m0 h m A_0 n_0 c_0 bk_4 cs_4 bk_6 cs_6 A_125 n_125 c_125 O ne_0 k_0 r_0 e_4 e_6 ne_125
  subst ne_0
  subst ne_125
  refine f77.l1_in ?_
  unfold f77.l1T
  refine split_dec_e e (fun c22 e => ?_) (fun c22 e => ?_)
  · obtain ⟨y1, g2, e⟩ := bind_e e
    refine (O.os 2 rfl).addr rfl g2 fun a3 cs4 ha5 hc6 he7 => ?_
    obtain rfl : cs4 = [(Value.int .u64 y1)] := he7
    refine ⟨_, ld0 (Sub.refl _) hc6 rfl, _, rfl, ?_⟩
    obtain ⟨y8, g9, e⟩ := bind_e e
    refine r_0.addr rfl g9 fun a10 cs11 ha12 hc13 he14 => ?_
    obtain rfl : cs11 = [(Value.int .u64 y8)] := he14
    refine ⟨_, ld0 O.s hc13 rfl, _, rfl, ?_⟩
    refine split_ne_e e (fun c18 e => ?_) (fun c18 e => ?_)
    · refine ⟨_, rfl, rfl, ?_⟩
      refine O.stA 0 rfl ((T_heap_Object.T.len _ _ _ e_4)).symm (Flats.cons trivial (Flats.cons trivial (Flats.cons trivial (Flats.cons trivial (Flats.cons trivial Flats.nil))))) fun h15 O16 => ?_
      refine ⟨_, ldAn (Sub.refl _) (O16.all 0 rfl) rfl, ?_⟩
      have O17 := O16.nm
      cases e
      exact ⟨_, _, O17.pick [], rfl, (show T_heap_Object.E _ (T_heap_Object.mk (0 : Int) (0 : Int) (0 : Int) (ByteArray.mk #[]) ([] : List Int)) [(Value.int .i64 (0 : Int)), (Value.int .i64 (0 : Int)), (Value.int .i64 (0 : Int)), (Value.string (ByteArray.mk #[])), (Value.slice none 0 0)] from ⟨_, _, rfl, (by exact Nat.le_refl 0), Rd.nil⟩)⟩
    · exact (ih _ _ e) _ _ _ _ _ _ _ _ _ _ _ _ _ _ _ (O.pick [0, 1, 2]).nm rfl k_0 r_0 e_4 e_6 rfl
  · refine ⟨_, ldAn (Sub.refl _) (O.all 1 rfl) (T_heap_Object.T.len _ _ _ e_6), ?_⟩
    refine ⟨_, rfl, (T_heap_Object.T.len _ _ _ e_6), ?_⟩
    refine O.stA 0 rfl ((T_heap_Object.T.len _ _ _ e_6).trans ((T_heap_Object.T.len _ _ _ e_4)).symm) (T_heap_Object.T.flat _ _ _ e_6) fun h19 O20 => ?_
    refine ⟨_, ldAn (Sub.refl _) (O20.all 0 rfl) (T_heap_Object.T.len _ _ _ e_6), ?_⟩
    have O21 := O20.nm
    cases e
    exact ⟨_, _, O21.pick [], rfl, e_6⟩
theorem roadref3_ObjectAt.l1_k.all {p : roadref3_ObjectAt.l1_k.Pt} {r : (T_heap_Object × Bool)} (e : roadref3_ObjectAt.l1_k.go p = some r) : roadref3_ObjectAt.l1_k.I p r := fixF_ind (β := fun _ => (T_heap_Object × Bool)) roadref3_ObjectAt.l1_k.mono (I := roadref3_ObjectAt.l1_k.I) (fun go ih p r e => match p with
  | .l1 a_0 x_1 y_4 y_6 a_125 x_126 x_127 => roadref3_ObjectAt.l1_k.step_l1 go ih a_0 x_1 y_4 y_6 a_125 x_126 x_127 r e
  ) e
theorem roadref3_ObjectAt.l1.walk {W : Nat → Prop} {h0 m0 h m : Heap} {A_0 : Option Addr} {n_0 c_0 : Nat} {bk_4 : Nat} {cs_4 : List Value} {bk_6 : Nat} {cs_6 : List Value} {A_125 : Option Addr} {n_125 c_125 : Nat} {a_0 : List Int} {x_1 : Int} {y_4 : T_heap_Object} {y_6 : T_heap_Object} {a_125 : List Int} {x_126 : Int} {x_127 : Int} (O : Hold W h0 m0 h m [rV bk_4 152 cs_4, rV bk_6 152 cs_6, rR (aE (tell_int .u64)) A_125 c_125 a_125]) (ne_0 : n_0 = List.length a_0) (k_0 : List.length a_0 ≤ c_0) (r_0 : Rd 1 (eInt .u64) m A_0 a_0) (e_4 : T_heap_Object.E m y_4 cs_4) (e_6 : T_heap_Object.E m y_6 cs_6) (ne_125 : n_125 = List.length a_125) {r : T_heap_Object × Bool} (e : roadref3_ObjectAt.l1 a_0 x_1 y_4 y_6 a_125 x_126 x_127 = some r) : f77.l1 (roadref3_ObjectAt.post W h0 m0 r) A_0 n_0 c_0 x_1 (⟨bk_4, 0, none⟩ : Addr) (⟨bk_6, 0, none⟩ : Addr) A_125 n_125 c_125 x_126 x_127 h := roadref3_ObjectAt.l1_k.all (p := .l1 a_0 x_1 y_4 y_6 a_125 x_126 x_127) e W h0 m0 h m A_0 n_0 c_0 bk_4 cs_4 bk_6 cs_6 A_125 n_125 c_125 O ne_0 k_0 r_0 e_4 e_6 ne_125
inductive roadref3_ObjectAt.l0_k.Pt where
  | l0 (a_0 : List Int) (x_1 : Int) (y_4 : T_heap_Object) (x_6_0 : Int) (x_6_1 : Int) (x_6_2 : Int) (s_6_3 : ByteArray) (a_6_4 : (List Int)) (x_8 : Int) (a_9 : List Int) (x_10 : Int) (x_84 : Int) (x_85 : Int)
  | l2 (a_0 : List Int) (x_1 : Int) (y_4 : T_heap_Object) (x_6_0 : Int) (x_6_1 : Int) (x_6_2 : Int) (s_6_3 : ByteArray) (a_6_4 : (List Int)) (x_8 : Int) (a_9 : List Int) (x_10 : Int) (x_12 : Int) (x_84 : Int) (x_85 : Int) (x_94 : Int) (x_95 : Int)
noncomputable def roadref3_ObjectAt.l0_k.body (go : (p : roadref3_ObjectAt.l0_k.Pt) → Option (T_heap_Object × Bool)) : (p : roadref3_ObjectAt.l0_k.Pt) → Option (T_heap_Object × Bool)
  | .l0 a_0 x_1 y_4 x_6_0 x_6_1 x_6_2 s_6_3 a_6_4 x_8 a_9 x_10 x_84 x_85 => if x_85 < x_84 then (Option.bind (gi a_9 (IntKind.wrap .i64 (Int.tdiv x_85 (8 : Int)))) fun y1 => (go (.l2 a_0 x_1 y_4 x_6_0 x_6_1 x_6_2 s_6_3 a_6_4 x_8 a_9 x_10 y1 x_84 x_85 (Int.tmod x_85 (8 : Int)) (0 : Int)))) else (Option.bind (sls a_9 x_10 (IntKind.wrap .i64 (x_10 + x_8))) fun l8 => Option.bind (ap 8 a_6_4 l8) fun l13 => Option.bind (roadref3_ObjectIs (T_heap_Object.mk x_6_0 x_6_1 x_6_2 s_6_3 l13)) fun y23 => if y23 = true then (Option.bind (roadref3_ObjectWords (T_heap_Object.mk x_6_0 x_6_1 x_6_2 s_6_3 l13)) fun y38 => (roadref3_ObjectAt.l1 a_0 x_1 y_4 (T_heap_Object.mk x_6_0 x_6_1 x_6_2 s_6_3 l13) y38 (((List.length y38) : Nat) : Int) (0 : Int))) else (some ((T_heap_Object.mk (0 : Int) (0 : Int) (0 : Int) (ByteArray.mk #[]) ([] : List Int)), false)))
  | .l2 a_0 x_1 y_4 x_6_0 x_6_1 x_6_2 s_6_3 a_6_4 x_8 a_9 x_10 x_12 x_84 x_85 x_94 x_95 => if x_95 < x_94 then ((go (.l2 a_0 x_1 y_4 x_6_0 x_6_1 x_6_2 s_6_3 a_6_4 x_8 a_9 x_10 (IntKind.wrap .u64 (Int.tdiv x_12 (256 : Int))) x_84 x_85 x_94 (IntKind.wrap .i64 (x_95 + (1 : Int)))))) else (if ByteArray.size s_6_3 + ByteArray.size (bytesOf ([(IntKind.wrap .u8 (Int.tmod x_12 (256 : Int)))] : List Int)) ≤ 9223372036854775807 then ((go (.l0 a_0 x_1 y_4 x_6_0 x_6_1 x_6_2 (s_6_3 ++ (bytesOf ([(IntKind.wrap .u8 (Int.tmod x_12 (256 : Int)))] : List Int))) a_6_4 x_8 a_9 x_10 x_84 (IntKind.wrap .i64 (x_85 + (1 : Int)))))) else none)
theorem roadref3_ObjectAt.l0_k.mono : MonoF (β := fun _ => (T_heap_Object × Bool)) roadref3_ObjectAt.l0_k.body := fun f g hfg p => match p with
  | .l0 a_0 x_1 y_4 x_6_0 x_6_1 x_6_2 s_6_3 a_6_4 x_8 a_9 x_10 x_84 x_85 => LeO.ite (LeO.bind (LeO.refl _) fun y1 => (hfg _)) (LeO.bind (LeO.refl _) fun l8 => LeO.bind (LeO.refl _) fun l13 => LeO.bind (LeO.refl _) fun y23 => LeO.ite (LeO.bind (LeO.refl _) fun y38 => (LeO.refl _)) (LeO.refl _))
  | .l2 a_0 x_1 y_4 x_6_0 x_6_1 x_6_2 s_6_3 a_6_4 x_8 a_9 x_10 x_12 x_84 x_85 x_94 x_95 => LeO.ite ((hfg _)) (LeO.ite ((hfg _)) (LeO.refl _))
noncomputable def roadref3_ObjectAt.l0_k.go (p : roadref3_ObjectAt.l0_k.Pt) : Option (T_heap_Object × Bool) := fixF (β := fun _ => (T_heap_Object × Bool)) roadref3_ObjectAt.l0_k.body p
noncomputable def roadref3_ObjectAt.l0 (a_0 : List Int) (x_1 : Int) (y_4 : T_heap_Object) (x_6_0 : Int) (x_6_1 : Int) (x_6_2 : Int) (s_6_3 : ByteArray) (a_6_4 : (List Int)) (x_8 : Int) (a_9 : List Int) (x_10 : Int) (x_84 : Int) (x_85 : Int) : Option (T_heap_Object × Bool) := roadref3_ObjectAt.l0_k.go (.l0 a_0 x_1 y_4 x_6_0 x_6_1 x_6_2 s_6_3 a_6_4 x_8 a_9 x_10 x_84 x_85)
noncomputable def roadref3_ObjectAt.l2 (a_0 : List Int) (x_1 : Int) (y_4 : T_heap_Object) (x_6_0 : Int) (x_6_1 : Int) (x_6_2 : Int) (s_6_3 : ByteArray) (a_6_4 : (List Int)) (x_8 : Int) (a_9 : List Int) (x_10 : Int) (x_12 : Int) (x_84 : Int) (x_85 : Int) (x_94 : Int) (x_95 : Int) : Option (T_heap_Object × Bool) := roadref3_ObjectAt.l0_k.go (.l2 a_0 x_1 y_4 x_6_0 x_6_1 x_6_2 s_6_3 a_6_4 x_8 a_9 x_10 x_12 x_84 x_85 x_94 x_95)
theorem roadref3_ObjectAt.l0_eq (a_0 : List Int) (x_1 : Int) (y_4 : T_heap_Object) (x_6_0 : Int) (x_6_1 : Int) (x_6_2 : Int) (s_6_3 : ByteArray) (a_6_4 : (List Int)) (x_8 : Int) (a_9 : List Int) (x_10 : Int) (x_84 : Int) (x_85 : Int) : roadref3_ObjectAt.l0 a_0 x_1 y_4 x_6_0 x_6_1 x_6_2 s_6_3 a_6_4 x_8 a_9 x_10 x_84 x_85 = if x_85 < x_84 then (Option.bind (gi a_9 (IntKind.wrap .i64 (Int.tdiv x_85 (8 : Int)))) fun y1 => (roadref3_ObjectAt.l2 a_0 x_1 y_4 x_6_0 x_6_1 x_6_2 s_6_3 a_6_4 x_8 a_9 x_10 y1 x_84 x_85 (Int.tmod x_85 (8 : Int)) (0 : Int))) else (Option.bind (sls a_9 x_10 (IntKind.wrap .i64 (x_10 + x_8))) fun l8 => Option.bind (ap 8 a_6_4 l8) fun l13 => Option.bind (roadref3_ObjectIs (T_heap_Object.mk x_6_0 x_6_1 x_6_2 s_6_3 l13)) fun y23 => if y23 = true then (Option.bind (roadref3_ObjectWords (T_heap_Object.mk x_6_0 x_6_1 x_6_2 s_6_3 l13)) fun y38 => (roadref3_ObjectAt.l1 a_0 x_1 y_4 (T_heap_Object.mk x_6_0 x_6_1 x_6_2 s_6_3 l13) y38 (((List.length y38) : Nat) : Int) (0 : Int))) else (some ((T_heap_Object.mk (0 : Int) (0 : Int) (0 : Int) (ByteArray.mk #[]) ([] : List Int)), false))) := fixF_eq roadref3_ObjectAt.l0_k.mono _
theorem roadref3_ObjectAt.l2_eq (a_0 : List Int) (x_1 : Int) (y_4 : T_heap_Object) (x_6_0 : Int) (x_6_1 : Int) (x_6_2 : Int) (s_6_3 : ByteArray) (a_6_4 : (List Int)) (x_8 : Int) (a_9 : List Int) (x_10 : Int) (x_12 : Int) (x_84 : Int) (x_85 : Int) (x_94 : Int) (x_95 : Int) : roadref3_ObjectAt.l2 a_0 x_1 y_4 x_6_0 x_6_1 x_6_2 s_6_3 a_6_4 x_8 a_9 x_10 x_12 x_84 x_85 x_94 x_95 = if x_95 < x_94 then ((roadref3_ObjectAt.l2 a_0 x_1 y_4 x_6_0 x_6_1 x_6_2 s_6_3 a_6_4 x_8 a_9 x_10 (IntKind.wrap .u64 (Int.tdiv x_12 (256 : Int))) x_84 x_85 x_94 (IntKind.wrap .i64 (x_95 + (1 : Int))))) else (if ByteArray.size s_6_3 + ByteArray.size (bytesOf ([(IntKind.wrap .u8 (Int.tmod x_12 (256 : Int)))] : List Int)) ≤ 9223372036854775807 then ((roadref3_ObjectAt.l0 a_0 x_1 y_4 x_6_0 x_6_1 x_6_2 (s_6_3 ++ (bytesOf ([(IntKind.wrap .u8 (Int.tmod x_12 (256 : Int)))] : List Int))) a_6_4 x_8 a_9 x_10 x_84 (IntKind.wrap .i64 (x_85 + (1 : Int))))) else none) := fixF_eq roadref3_ObjectAt.l0_k.mono _
def roadref3_ObjectAt.l0_k.I : (p : roadref3_ObjectAt.l0_k.Pt) → (T_heap_Object × Bool) → Prop
  | .l0 a_0 x_1 y_4 x_6_0 x_6_1 x_6_2 s_6_3 a_6_4 x_8 a_9 x_10 x_84 x_85, r => ∀ (W : Nat → Prop) (h0 m0 h m : Heap) (A_0 : Option Addr) (n_0 c_0 : Nat) (bk_4 : Nat) (cs_4 : List Value) (bk_6 : Nat) (A_6_4_0 : Option Addr) (n_6_4_0 : Nat) (c_6_4_0 : Nat) (A_9 : Option Addr) (n_9 c_9 : Nat) (O : Hold W h0 m0 h m [rV bk_4 152 cs_4, rV bk_6 152 [(Value.int .i64 x_6_0), (Value.int .i64 x_6_1), (Value.int .i64 x_6_2), (Value.string s_6_3), (Value.slice A_6_4_0 n_6_4_0 c_6_4_0)], rR (aE (tell_int .u64)) A_6_4_0 c_6_4_0 a_6_4]) (ne_0 : n_0 = List.length a_0) (k_0 : List.length a_0 ≤ c_0) (r_0 : Rd 1 (eInt .u64) m A_0 a_0) (e_4 : T_heap_Object.E m y_4 cs_4) (ne_6_4_0 : n_6_4_0 = List.length a_6_4) (ne_9 : n_9 = List.length a_9) (k_9 : List.length a_9 ≤ c_9) (r_9 : Rd 1 (eInt .u64) m A_9 a_9), f77.l0 (roadref3_ObjectAt.post W h0 m0 r) A_0 n_0 c_0 x_1 (⟨bk_4, 0, none⟩ : Addr) (⟨bk_6, 0, none⟩ : Addr) x_8 A_9 n_9 c_9 x_10 x_84 x_85 h
  | .l2 a_0 x_1 y_4 x_6_0 x_6_1 x_6_2 s_6_3 a_6_4 x_8 a_9 x_10 x_12 x_84 x_85 x_94 x_95, r => ∀ (W : Nat → Prop) (h0 m0 h m : Heap) (A_0 : Option Addr) (n_0 c_0 : Nat) (bk_4 : Nat) (cs_4 : List Value) (bk_6 : Nat) (A_6_4_0 : Option Addr) (n_6_4_0 : Nat) (c_6_4_0 : Nat) (A_9 : Option Addr) (n_9 c_9 : Nat) (O : Hold W h0 m0 h m [rV bk_4 152 cs_4, rV bk_6 152 [(Value.int .i64 x_6_0), (Value.int .i64 x_6_1), (Value.int .i64 x_6_2), (Value.string s_6_3), (Value.slice A_6_4_0 n_6_4_0 c_6_4_0)], rR (aE (tell_int .u64)) A_6_4_0 c_6_4_0 a_6_4]) (ne_0 : n_0 = List.length a_0) (k_0 : List.length a_0 ≤ c_0) (r_0 : Rd 1 (eInt .u64) m A_0 a_0) (e_4 : T_heap_Object.E m y_4 cs_4) (ne_6_4_0 : n_6_4_0 = List.length a_6_4) (ne_9 : n_9 = List.length a_9) (k_9 : List.length a_9 ≤ c_9) (r_9 : Rd 1 (eInt .u64) m A_9 a_9), f77.l2 (roadref3_ObjectAt.post W h0 m0 r) A_0 n_0 c_0 x_1 (⟨bk_4, 0, none⟩ : Addr) (⟨bk_6, 0, none⟩ : Addr) x_8 A_9 n_9 c_9 x_10 x_12 x_84 x_85 x_94 x_95 h
set_option maxHeartbeats 4000000 in
set_option maxRecDepth 100000 in
theorem roadref3_ObjectAt.l0_k.step_l0 (go : (p : roadref3_ObjectAt.l0_k.Pt) → Option (T_heap_Object × Bool)) (ih : ∀ p r, go p = some r → roadref3_ObjectAt.l0_k.I p r) (a_0 : List Int) (x_1 : Int) (y_4 : T_heap_Object) (x_6_0 : Int) (x_6_1 : Int) (x_6_2 : Int) (s_6_3 : ByteArray) (a_6_4 : (List Int)) (x_8 : Int) (a_9 : List Int) (x_10 : Int) (x_84 : Int) (x_85 : Int) (r : T_heap_Object × Bool) (e : roadref3_ObjectAt.l0_k.body go (.l0 a_0 x_1 y_4 x_6_0 x_6_1 x_6_2 s_6_3 a_6_4 x_8 a_9 x_10 x_84 x_85) = some r) : roadref3_ObjectAt.l0_k.I (.l0 a_0 x_1 y_4 x_6_0 x_6_1 x_6_2 s_6_3 a_6_4 x_8 a_9 x_10 x_84 x_85) r := by
  unfold roadref3_ObjectAt.l0_k.body at e
  intro W h0 m0 h m A_0 n_0 c_0 bk_4 cs_4 bk_6 A_6_4_0 n_6_4_0 c_6_4_0 A_9 n_9 c_9 O ne_0 k_0 r_0 e_4 ne_6_4_0 ne_9 k_9 r_9
  subst ne_0
  subst ne_6_4_0
  subst ne_9
  refine f77.l0_in ?_
  unfold f77.l0T
  refine split_dec_e e (fun c67 e => ?_) (fun c67 e => ?_)
  · refine ⟨by decide, ?_⟩
    obtain ⟨y1, g2, e⟩ := bind_e e
    refine r_9.addr rfl g2 fun a3 cs4 ha5 hc6 he7 => ?_
    obtain rfl : cs4 = [(Value.int .u64 y1)] := he7
    refine ⟨_, ld0 O.s hc6 rfl, _, rfl, ?_⟩
    refine ⟨by decide, ?_⟩
    exact (ih _ _ e) _ _ _ _ _ _ _ _ _ _ _ _ _ _ _ _ _ (O.pick [0, 1, 2]).nm rfl k_0 r_0 e_4 rfl rfl k_9 r_9
  · obtain ⟨l8, g9, e⟩ := bind_e e
    have q10 := sls_e g9
    refine ⟨q10.1, q10.2.1, cap_in q10.2.2.1 k_9, ?_⟩
    try rw [q10.2.2.2.1]
    have k11 : List.length l8 ≤ (c_9 - Int.toNat x_10) := sls_cap g9 k_9
    have r12 := r_9.sls g9 (le_mx q10.2.2.1 k_9)
    refine ⟨_, ldk (k := 4) (Sub.refl _) (O.all 1 rfl) rfl, _, _, _, rfl, ?_⟩
    obtain ⟨l13, g14, e⟩ := bind_e e
    refine O.app 2 rfl rfl rfl (Rd.srcE r12 (tell_int .u64) O.s rfl) (by decide) g14 fun A15 c16 h17 O18 => ?_
    refine ⟨_, _, _, rfl, ?_⟩
    refine O18.st 1 rfl 4 (Nat.le_of_ble_eq_true rfl) trivial fun h21 O22 => ?_
    refine ⟨_, ldAn (Sub.refl _) (O22.all 1 rfl) rfl, ?_⟩
    obtain ⟨y23, g24, e⟩ := bind_e e
    have O29 := O22.nm
    obtain ⟨m30, u31, s36, ⟨⟨r34, k35⟩, _⟩, B32, C33⟩ := O29.lend0 [2]
    replace r34 : Rd 1 (eInt .u64) m30 A15 l13 := r34
    replace k35 : List.length l13 ≤ c16 := k35
    refine (roadref3_ObjectIs.walk (Hold.start (W := No) s36) (show T_heap_Object.E _ (T_heap_Object.mk x_6_0 x_6_1 x_6_2 s_6_3 l13) [(Value.int .i64 x_6_0), (Value.int .i64 x_6_1), (Value.int .i64 x_6_2), (Value.string s_6_3), (Value.slice A15 (List.length l13) c16)] from ⟨_, _, rfl, k35, r34⟩) g24).mono ?_
    rintro _ h25 ⟨m26, Q27, rfl⟩
    have O37 := Hold.nm (C33 Q27 vfs_nil)
    refine ⟨_, rfl, ?_⟩
    refine split_not ?_
    refine split_any_e e (fun c66 e => ?_) (fun c66 e => ?_)
    · refine ⟨_, ldAn (Sub.refl _) (O37.all 1 rfl) rfl, ?_⟩
      obtain ⟨y38, g39, e⟩ := bind_e e
      obtain ⟨m44, u45, s50, ⟨⟨r48, k49⟩, _⟩, B46, C47⟩ := O37.lend0 [2]
      replace r48 : Rd 1 (eInt .u64) m44 A15 l13 := r48
      replace k49 : List.length l13 ≤ c16 := k49
      refine (roadref3_ObjectWords.walk (Hold.start (W := No) s50) (show T_heap_Object.E _ (T_heap_Object.mk x_6_0 x_6_1 x_6_2 s_6_3 l13) [(Value.int .i64 x_6_0), (Value.int .i64 x_6_1), (Value.int .i64 x_6_2), (Value.string s_6_3), (Value.slice A15 (List.length l13) c16)] from ⟨_, _, rfl, k49, r48⟩) g39).mono ?_
      rintro _ h40 ⟨m41, A51, n52, c53, Q42, rfl, ne54⟩
      have O56 := Hold.nm (C47 Q42 (vfs_cons (rR_vf (aE_vf (fun _ _ _ _ h => h))) vfs_nil))
      subst ne54
      refine ⟨_, _, _, rfl, ?_⟩
      obtain ⟨m57, u58, ⟨r59, k60⟩, O61⟩ := O56.frz 2 rfl
      replace r59 : Rd 1 (eInt .u64) m57 A15 l13 := r59
      have O62 := O61.nm
      exact roadref3_ObjectAt.l1.walk (O62.pick [0, 1, 3]).nm rfl k_0 (r_0.sub (tell_int .u64) u58) (T_heap_Object.T.mono _ _ _ _ u58 e_4) (show T_heap_Object.E _ (T_heap_Object.mk x_6_0 x_6_1 x_6_2 s_6_3 l13) [(Value.int .i64 x_6_0), (Value.int .i64 x_6_1), (Value.int .i64 x_6_2), (Value.string s_6_3), (Value.slice A15 (List.length l13) c16)] from ⟨_, _, rfl, k60, r59⟩) rfl e
    · refine ⟨_, rfl, rfl, ?_⟩
      refine O37.stA 0 rfl ((T_heap_Object.T.len _ _ _ e_4)).symm (Flats.cons trivial (Flats.cons trivial (Flats.cons trivial (Flats.cons trivial (Flats.cons trivial Flats.nil))))) fun h63 O64 => ?_
      refine ⟨_, ldAn (Sub.refl _) (O64.all 0 rfl) rfl, ?_⟩
      have O65 := O64.nm
      cases e
      exact ⟨_, _, O65.pick [], rfl, (show T_heap_Object.E _ (T_heap_Object.mk (0 : Int) (0 : Int) (0 : Int) (ByteArray.mk #[]) ([] : List Int)) [(Value.int .i64 (0 : Int)), (Value.int .i64 (0 : Int)), (Value.int .i64 (0 : Int)), (Value.string (ByteArray.mk #[])), (Value.slice none 0 0)] from ⟨_, _, rfl, (by exact Nat.le_refl 0), Rd.nil⟩)⟩
set_option maxRecDepth 100000 in
theorem roadref3_ObjectAt.l0_k.step_l2 (go : (p : roadref3_ObjectAt.l0_k.Pt) → Option (T_heap_Object × Bool)) (ih : ∀ p r, go p = some r → roadref3_ObjectAt.l0_k.I p r) (a_0 : List Int) (x_1 : Int) (y_4 : T_heap_Object) (x_6_0 : Int) (x_6_1 : Int) (x_6_2 : Int) (s_6_3 : ByteArray) (a_6_4 : (List Int)) (x_8 : Int) (a_9 : List Int) (x_10 : Int) (x_12 : Int) (x_84 : Int) (x_85 : Int) (x_94 : Int) (x_95 : Int) (r : T_heap_Object × Bool) (e : roadref3_ObjectAt.l0_k.body go (.l2 a_0 x_1 y_4 x_6_0 x_6_1 x_6_2 s_6_3 a_6_4 x_8 a_9 x_10 x_12 x_84 x_85 x_94 x_95) = some r) : roadref3_ObjectAt.l0_k.I (.l2 a_0 x_1 y_4 x_6_0 x_6_1 x_6_2 s_6_3 a_6_4 x_8 a_9 x_10 x_12 x_84 x_85 x_94 x_95) r := by
  unfold roadref3_ObjectAt.l0_k.body at e
  intro W h0 m0 h m A_0 n_0 c_0 bk_4 cs_4 bk_6 A_6_4_0 n_6_4_0 c_6_4_0 A_9 n_9 c_9 O ne_0 k_0 r_0 e_4 ne_6_4_0 ne_9 k_9 r_9
  subst ne_0
  subst ne_6_4_0
  subst ne_9
  refine f77.l2_in ?_
  unfold f77.l2T
  refine split_dec_e e (fun c10 e => ?_) (fun c10 e => ?_)
  · refine ⟨by decide, ?_⟩
    exact (ih _ _ e) _ _ _ _ _ _ _ _ _ _ _ _ _ _ _ _ _ (O.pick [0, 1, 2]).nm rfl k_0 r_0 e_4 rfl rfl k_9 r_9
  · refine ⟨_, ldk (k := 3) (Sub.refl _) (O.all 1 rfl) rfl, _, rfl, ?_⟩
    refine ⟨by decide, ?_⟩
    refine O.new fun h1 x2 O3 => ?_
    have O5 := O3.rowE (l := ([(IntKind.wrap .u8 (Int.tmod x_12 (256 : Int)))] : List Int)) 3 rfl (tell_int .u8) (show CsE _ _ _ _ _ from (CsE.cons (c1 := [(Value.int .u8 (IntKind.wrap .u8 (Int.tmod x_12 (256 : Int))))]) rfl rfl CsE.nil)) rfl
    refine gen_b2s' (e := 5) (by kernel_rfl) (by kernel_rfl) (by kernel_rfl) ((O5.os 3 rfl).rd (tell_int .u8) O5.s) rfl ?_
    refine ⟨_, rfl, ?_⟩
    obtain ⟨g6, e⟩ := guard_e e
    refine ⟨g6, ?_⟩
    refine O5.st 1 rfl 3 (Nat.le_of_ble_eq_true rfl) trivial fun h7 O8 => ?_
    have O9 := O8.nm
    exact (ih _ _ e) _ _ _ _ _ _ _ _ _ _ _ _ _ _ _ _ _ (O9.pick [0, 1, 2]).nm rfl k_0 r_0 e_4 rfl rfl k_9 r_9
theorem roadref3_ObjectAt.l0_k.all {p : roadref3_ObjectAt.l0_k.Pt} {r : (T_heap_Object × Bool)} (e : roadref3_ObjectAt.l0_k.go p = some r) : roadref3_ObjectAt.l0_k.I p r := fixF_ind (β := fun _ => (T_heap_Object × Bool)) roadref3_ObjectAt.l0_k.mono (I := roadref3_ObjectAt.l0_k.I) (fun go ih p r e => match p with
  | .l0 a_0 x_1 y_4 x_6_0 x_6_1 x_6_2 s_6_3 a_6_4 x_8 a_9 x_10 x_84 x_85 => roadref3_ObjectAt.l0_k.step_l0 go ih a_0 x_1 y_4 x_6_0 x_6_1 x_6_2 s_6_3 a_6_4 x_8 a_9 x_10 x_84 x_85 r e
  | .l2 a_0 x_1 y_4 x_6_0 x_6_1 x_6_2 s_6_3 a_6_4 x_8 a_9 x_10 x_12 x_84 x_85 x_94 x_95 => roadref3_ObjectAt.l0_k.step_l2 go ih a_0 x_1 y_4 x_6_0 x_6_1 x_6_2 s_6_3 a_6_4 x_8 a_9 x_10 x_12 x_84 x_85 x_94 x_95 r e
  ) e
theorem roadref3_ObjectAt.l0.walk {W : Nat → Prop} {h0 m0 h m : Heap} {A_0 : Option Addr} {n_0 c_0 : Nat} {bk_4 : Nat} {cs_4 : List Value} {bk_6 : Nat} {A_6_4_0 : Option Addr} {n_6_4_0 : Nat} {c_6_4_0 : Nat} {A_9 : Option Addr} {n_9 c_9 : Nat} {a_0 : List Int} {x_1 : Int} {y_4 : T_heap_Object} {x_6_0 : Int} {x_6_1 : Int} {x_6_2 : Int} {s_6_3 : ByteArray} {a_6_4 : (List Int)} {x_8 : Int} {a_9 : List Int} {x_10 : Int} {x_84 : Int} {x_85 : Int} (O : Hold W h0 m0 h m [rV bk_4 152 cs_4, rV bk_6 152 [(Value.int .i64 x_6_0), (Value.int .i64 x_6_1), (Value.int .i64 x_6_2), (Value.string s_6_3), (Value.slice A_6_4_0 n_6_4_0 c_6_4_0)], rR (aE (tell_int .u64)) A_6_4_0 c_6_4_0 a_6_4]) (ne_0 : n_0 = List.length a_0) (k_0 : List.length a_0 ≤ c_0) (r_0 : Rd 1 (eInt .u64) m A_0 a_0) (e_4 : T_heap_Object.E m y_4 cs_4) (ne_6_4_0 : n_6_4_0 = List.length a_6_4) (ne_9 : n_9 = List.length a_9) (k_9 : List.length a_9 ≤ c_9) (r_9 : Rd 1 (eInt .u64) m A_9 a_9) {r : T_heap_Object × Bool} (e : roadref3_ObjectAt.l0 a_0 x_1 y_4 x_6_0 x_6_1 x_6_2 s_6_3 a_6_4 x_8 a_9 x_10 x_84 x_85 = some r) : f77.l0 (roadref3_ObjectAt.post W h0 m0 r) A_0 n_0 c_0 x_1 (⟨bk_4, 0, none⟩ : Addr) (⟨bk_6, 0, none⟩ : Addr) x_8 A_9 n_9 c_9 x_10 x_84 x_85 h := roadref3_ObjectAt.l0_k.all (p := .l0 a_0 x_1 y_4 x_6_0 x_6_1 x_6_2 s_6_3 a_6_4 x_8 a_9 x_10 x_84 x_85) e W h0 m0 h m A_0 n_0 c_0 bk_4 cs_4 bk_6 A_6_4_0 n_6_4_0 c_6_4_0 A_9 n_9 c_9 O ne_0 k_0 r_0 e_4 ne_6_4_0 ne_9 k_9 r_9
noncomputable def roadref3_ObjectAt.j2 (a_0 : List Int) (x_1 : Int) (y_4 : T_heap_Object) (x_6_0 : Int) (x_6_1 : Int) (x_6_2 : Int) (s_6_3 : ByteArray) (a_6_4 : (List Int)) (x_7 : Int) (x_8 : Int) (a_9 : List Int) : Option (T_heap_Object × Bool) :=
  if (((List.length a_9) : Nat) : Int) < (IntKind.wrap .i64 ((IntKind.wrap .i64 (Int.tdiv (IntKind.wrap .i64 (x_7 + (7 : Int))) (8 : Int))) + x_8)) then (some ((T_heap_Object.mk (0 : Int) (0 : Int) (0 : Int) (ByteArray.mk #[]) ([] : List Int)), false)) else ((roadref3_ObjectAt.l0 a_0 x_1 y_4 x_6_0 x_6_1 x_6_2 s_6_3 a_6_4 x_8 a_9 (IntKind.wrap .i64 (Int.tdiv (IntKind.wrap .i64 (x_7 + (7 : Int))) (8 : Int))) x_7 (0 : Int)))
set_option maxRecDepth 100000 in
theorem roadref3_ObjectAt.j2.walk {W : Nat → Prop} {h0 m0 h m : Heap} {A_0 : Option Addr} {n_0 c_0 : Nat} {bk_4 : Nat} {cs_4 : List Value} {bk_6 : Nat} {A_6_4_0 : Option Addr} {n_6_4_0 : Nat} {c_6_4_0 : Nat} {A_9 : Option Addr} {n_9 c_9 : Nat} {a_0 : List Int} {x_1 : Int} {y_4 : T_heap_Object} {x_6_0 : Int} {x_6_1 : Int} {x_6_2 : Int} {s_6_3 : ByteArray} {a_6_4 : (List Int)} {x_7 : Int} {x_8 : Int} {a_9 : List Int} (O : Hold W h0 m0 h m [rV bk_4 152 cs_4, rV bk_6 152 [(Value.int .i64 x_6_0), (Value.int .i64 x_6_1), (Value.int .i64 x_6_2), (Value.string s_6_3), (Value.slice A_6_4_0 n_6_4_0 c_6_4_0)], rR (aE (tell_int .u64)) A_6_4_0 c_6_4_0 a_6_4]) (ne_0 : n_0 = List.length a_0) (k_0 : List.length a_0 ≤ c_0) (r_0 : Rd 1 (eInt .u64) m A_0 a_0) (e_4 : T_heap_Object.E m y_4 cs_4) (ne_6_4_0 : n_6_4_0 = List.length a_6_4) (ne_9 : n_9 = List.length a_9) (k_9 : List.length a_9 ≤ c_9) (r_9 : Rd 1 (eInt .u64) m A_9 a_9) {r : T_heap_Object × Bool} (e : roadref3_ObjectAt.j2 a_0 x_1 y_4 x_6_0 x_6_1 x_6_2 s_6_3 a_6_4 x_7 x_8 a_9 = some r) : f77.j2 (roadref3_ObjectAt.post W h0 m0 r) A_0 n_0 c_0 x_1 (⟨bk_4, 0, none⟩ : Addr) (⟨bk_6, 0, none⟩ : Addr) x_7 x_8 A_9 n_9 c_9 h := by
  unfold roadref3_ObjectAt.j2 at e
  subst ne_0
  subst ne_6_4_0
  subst ne_9
  refine f77.j2_in ?_
  unfold f77.j2T
  refine ⟨by decide, ?_⟩
  refine split_dec_e e (fun c4 e => ?_) (fun c4 e => ?_)
  · refine ⟨_, rfl, rfl, ?_⟩
    refine O.stA 0 rfl ((T_heap_Object.T.len _ _ _ e_4)).symm (Flats.cons trivial (Flats.cons trivial (Flats.cons trivial (Flats.cons trivial (Flats.cons trivial Flats.nil))))) fun h1 O2 => ?_
    refine ⟨_, ldAn (Sub.refl _) (O2.all 0 rfl) rfl, ?_⟩
    have O3 := O2.nm
    cases e
    exact ⟨_, _, O3.pick [], rfl, (show T_heap_Object.E _ (T_heap_Object.mk (0 : Int) (0 : Int) (0 : Int) (ByteArray.mk #[]) ([] : List Int)) [(Value.int .i64 (0 : Int)), (Value.int .i64 (0 : Int)), (Value.int .i64 (0 : Int)), (Value.string (ByteArray.mk #[])), (Value.slice none 0 0)] from ⟨_, _, rfl, (by exact Nat.le_refl 0), Rd.nil⟩)⟩
  · exact roadref3_ObjectAt.l0.walk (O.pick [0, 1, 2]).nm rfl k_0 r_0 e_4 rfl rfl k_9 r_9 e
noncomputable def roadref3_ObjectAt.j3 (a_0 : List Int) (x_1 : Int) (y_4 : T_heap_Object) (x_6_0 : Int) (x_6_1 : Int) (x_6_2 : Int) (s_6_3 : ByteArray) (a_6_4 : (List Int)) (x_7 : Int) (x_8 : Int) (a_9 : List Int) (b_62 : Bool) : Option (T_heap_Object × Bool) :=
  if b_62 = true then (if (((List.length a_9) : Nat) : Int) = (0 : Int) then (some ((T_heap_Object.mk (0 : Int) (0 : Int) (0 : Int) (ByteArray.mk #[]) ([] : List Int)), false)) else (Option.bind (gi a_9 (0 : Int)) fun y4 => Option.bind (sls a_9 (1 : Int) (((List.length a_9) : Nat) : Int)) fun l11 => (roadref3_ObjectAt.j2 a_0 x_1 y_4 x_6_0 x_6_1 (IntKind.wrap .i64 y4) s_6_3 a_6_4 x_7 x_8 l11))) else ((roadref3_ObjectAt.j2 a_0 x_1 y_4 x_6_0 x_6_1 x_6_2 s_6_3 a_6_4 x_7 x_8 a_9))
set_option maxRecDepth 100000 in
theorem roadref3_ObjectAt.j3.walk {W : Nat → Prop} {h0 m0 h m : Heap} {A_0 : Option Addr} {n_0 c_0 : Nat} {bk_4 : Nat} {cs_4 : List Value} {bk_6 : Nat} {A_6_4_0 : Option Addr} {n_6_4_0 : Nat} {c_6_4_0 : Nat} {A_9 : Option Addr} {n_9 c_9 : Nat} {a_0 : List Int} {x_1 : Int} {y_4 : T_heap_Object} {x_6_0 : Int} {x_6_1 : Int} {x_6_2 : Int} {s_6_3 : ByteArray} {a_6_4 : (List Int)} {x_7 : Int} {x_8 : Int} {a_9 : List Int} {b_62 : Bool} (O : Hold W h0 m0 h m [rV bk_4 152 cs_4, rV bk_6 152 [(Value.int .i64 x_6_0), (Value.int .i64 x_6_1), (Value.int .i64 x_6_2), (Value.string s_6_3), (Value.slice A_6_4_0 n_6_4_0 c_6_4_0)], rR (aE (tell_int .u64)) A_6_4_0 c_6_4_0 a_6_4]) (ne_0 : n_0 = List.length a_0) (k_0 : List.length a_0 ≤ c_0) (r_0 : Rd 1 (eInt .u64) m A_0 a_0) (e_4 : T_heap_Object.E m y_4 cs_4) (ne_6_4_0 : n_6_4_0 = List.length a_6_4) (ne_9 : n_9 = List.length a_9) (k_9 : List.length a_9 ≤ c_9) (r_9 : Rd 1 (eInt .u64) m A_9 a_9) {r : T_heap_Object × Bool} (e : roadref3_ObjectAt.j3 a_0 x_1 y_4 x_6_0 x_6_1 x_6_2 s_6_3 a_6_4 x_7 x_8 a_9 b_62 = some r) : f77.j3 (roadref3_ObjectAt.post W h0 m0 r) A_0 n_0 c_0 x_1 (⟨bk_4, 0, none⟩ : Addr) (⟨bk_6, 0, none⟩ : Addr) x_7 x_8 A_9 n_9 c_9 b_62 h := by
  unfold roadref3_ObjectAt.j3 at e
  subst ne_0
  subst ne_6_4_0
  subst ne_9
  refine f77.j3_in ?_
  unfold f77.j3T
  refine split_any_e e (fun c20 e => ?_) (fun c20 e => ?_)
  · refine split_eq_e e (fun c19 e => ?_) (fun c19 e => ?_)
    · refine ⟨_, rfl, rfl, ?_⟩
      refine O.stA 0 rfl ((T_heap_Object.T.len _ _ _ e_4)).symm (Flats.cons trivial (Flats.cons trivial (Flats.cons trivial (Flats.cons trivial (Flats.cons trivial Flats.nil))))) fun h1 O2 => ?_
      refine ⟨_, ldAn (Sub.refl _) (O2.all 0 rfl) rfl, ?_⟩
      have O3 := O2.nm
      cases e
      exact ⟨_, _, O3.pick [], rfl, (show T_heap_Object.E _ (T_heap_Object.mk (0 : Int) (0 : Int) (0 : Int) (ByteArray.mk #[]) ([] : List Int)) [(Value.int .i64 (0 : Int)), (Value.int .i64 (0 : Int)), (Value.int .i64 (0 : Int)), (Value.string (ByteArray.mk #[])), (Value.slice none 0 0)] from ⟨_, _, rfl, (by exact Nat.le_refl 0), Rd.nil⟩)⟩
    · obtain ⟨y4, g5, e⟩ := bind_e e
      refine r_9.addr rfl g5 fun a6 cs7 ha8 hc9 he10 => ?_
      obtain rfl : cs7 = [(Value.int .u64 y4)] := he10
      obtain ⟨l11, g12, e⟩ := bind_e e
      have q13 := sls_e g12
      refine ⟨q13.1, q13.2.1, cap_in q13.2.2.1 k_9, ?_⟩
      try rw [q13.2.2.2.1]
      have k14 : List.length l11 ≤ (c_9 - Int.toNat (1 : Int)) := sls_cap g12 k_9
      have r15 := r_9.sls g12 (le_mx q13.2.2.1 k_9)
      refine ⟨_, ld0 O.s hc9 rfl, _, rfl, ?_⟩
      refine O.st 1 rfl 2 (Nat.le_of_ble_eq_true rfl) trivial fun h16 O17 => ?_
      have O18 := O17.nm
      exact roadref3_ObjectAt.j2.walk (O18.pick [0, 1, 2]).nm rfl k_0 r_0 e_4 rfl rfl k14 r15 e
  · exact roadref3_ObjectAt.j2.walk (O.pick [0, 1, 2]).nm rfl k_0 r_0 e_4 rfl rfl k_9 r_9 e
noncomputable def roadref3_ObjectAt.j0 (a_0 : List Int) (x_1 : Int) (y_4 : T_heap_Object) : Option (T_heap_Object × Bool) :=
  Option.bind (gi a_0 x_1) fun y1 => Option.bind (gi a_0 x_1) fun y14 => Option.bind (gi a_0 x_1) fun y21 => Option.bind (sls a_0 (IntKind.wrap .i64 (x_1 + (1 : Int))) (((List.length a_0) : Nat) : Int)) fun l28 => if (IntKind.wrap .i64 (Int.tmod y1 (256 : Int))) = (1 : Int) then ((roadref3_ObjectAt.j3 a_0 x_1 y_4 x_1 (IntKind.wrap .i64 (Int.tmod y1 (256 : Int))) (0 : Int) (ByteArray.mk #[]) ([] : List Int) (IntKind.wrap .i64 (Int.tmod (IntKind.wrap .u64 (Int.tdiv y14 (256 : Int))) (4096 : Int))) (IntKind.wrap .i64 (IntKind.wrap .u64 (Int.tdiv y21 (1048576 : Int)))) l28 true)) else ((roadref3_ObjectAt.j3 a_0 x_1 y_4 x_1 (IntKind.wrap .i64 (Int.tmod y1 (256 : Int))) (0 : Int) (ByteArray.mk #[]) ([] : List Int) (IntKind.wrap .i64 (Int.tmod (IntKind.wrap .u64 (Int.tdiv y14 (256 : Int))) (4096 : Int))) (IntKind.wrap .i64 (IntKind.wrap .u64 (Int.tdiv y21 (1048576 : Int)))) l28 ((IntKind.wrap .i64 (Int.tmod y1 (256 : Int))) == (4 : Int))))
set_option maxHeartbeats 4000000 in
set_option maxRecDepth 100000 in
theorem roadref3_ObjectAt.j0.walk {W : Nat → Prop} {h0 m0 h m : Heap} {A_0 : Option Addr} {n_0 c_0 : Nat} {bk_4 : Nat} {cs_4 : List Value} {a_0 : List Int} {x_1 : Int} {y_4 : T_heap_Object} (O : Hold W h0 m0 h m [rV bk_4 152 cs_4]) (ne_0 : n_0 = List.length a_0) (k_0 : List.length a_0 ≤ c_0) (r_0 : Rd 1 (eInt .u64) m A_0 a_0) (e_4 : T_heap_Object.E m y_4 cs_4) {r : T_heap_Object × Bool} (e : roadref3_ObjectAt.j0 a_0 x_1 y_4 = some r) : f77.j0 (roadref3_ObjectAt.post W h0 m0 r) A_0 n_0 c_0 x_1 (⟨bk_4, 0, none⟩ : Addr) h := by
  unfold roadref3_ObjectAt.j0 at e
  subst ne_0
  refine f77.j0_in ?_
  unfold f77.j0T
  obtain ⟨y1, g2, e⟩ := bind_e e
  refine r_0.addr rfl g2 fun a3 cs4 ha5 hc6 he7 => ?_
  obtain rfl : cs4 = [(Value.int .u64 y1)] := he7
  refine ⟨_, ld0 O.s hc6 rfl, _, rfl, ?_⟩
  refine ⟨by decide, ?_⟩
  refine O.new fun h8 x9 O10 => ?_
  refine ⟨_, rfl, rfl, ?_⟩
  refine O10.stA 1 rfl rfl (Flats.cons trivial (Flats.cons trivial (Flats.cons trivial (Flats.cons trivial (Flats.cons trivial Flats.nil))))) fun h12 O13 => ?_
  obtain ⟨y14, g15, e⟩ := bind_e e
  refine r_0.addr rfl g15 fun a16 cs17 ha18 hc19 he20 => ?_
  obtain rfl : cs17 = [(Value.int .u64 y14)] := he20
  obtain ⟨y21, g22, e⟩ := bind_e e
  refine r_0.addr rfl g22 fun a23 cs24 ha25 hc26 he27 => ?_
  obtain rfl : cs24 = [(Value.int .u64 y21)] := he27
  refine ⟨_, ld0 O13.s hc19 rfl, _, rfl, ?_⟩
  refine ⟨by decide, ?_⟩
  refine ⟨by decide, ?_⟩
  refine ⟨_, ld0 O13.s hc26 rfl, _, rfl, ?_⟩
  refine ⟨by decide, ?_⟩
  obtain ⟨l28, g29, e⟩ := bind_e e
  have q30 := sls_e g29
  refine ⟨q30.1, q30.2.1, cap_in q30.2.2.1 k_0, ?_⟩
  try rw [q30.2.2.2.1]
  have k31 : List.length l28 ≤ (c_0 - Int.toNat (IntKind.wrap .i64 (x_1 + (1 : Int)))) := sls_cap g29 k_0
  have r32 := r_0.sls g29 (le_mx q30.2.2.1 k_0)
  refine ⟨_, ldk (k := 1) (Sub.refl _) (O13.all 1 rfl) rfl, _, rfl, ?_⟩
  refine split_eq_e e (fun c39 e => ?_) (fun c39 e => ?_)
  · have O33 := O13.nil (aE (tell_int .u64)) none
    have O35 := O33.nm
    exact roadref3_ObjectAt.j3.walk (O35.pick [0, 1, 2]).nm rfl k_0 r_0 e_4 rfl rfl k31 r32 e
  · refine ⟨_, ldk (k := 1) (Sub.refl _) (O13.all 1 rfl) rfl, _, rfl, ?_⟩
    have O36 := O13.nil (aE (tell_int .u64)) none
    have O38 := O36.nm
    exact roadref3_ObjectAt.j3.walk (O38.pick [0, 1, 2]).nm rfl k_0 r_0 e_4 rfl rfl k31 r32 e
noncomputable def roadref3_ObjectAt.j1 (a_0 : List Int) (x_1 : Int) (y_4 : T_heap_Object) (b_28 : Bool) : Option (T_heap_Object × Bool) :=
  if b_28 = true then (some ((T_heap_Object.mk (0 : Int) (0 : Int) (0 : Int) (ByteArray.mk #[]) ([] : List Int)), false)) else ((roadref3_ObjectAt.j0 a_0 x_1 y_4))
set_option maxRecDepth 100000 in
theorem roadref3_ObjectAt.j1.walk {W : Nat → Prop} {h0 m0 h m : Heap} {A_0 : Option Addr} {n_0 c_0 : Nat} {bk_4 : Nat} {cs_4 : List Value} {a_0 : List Int} {x_1 : Int} {y_4 : T_heap_Object} {b_28 : Bool} (O : Hold W h0 m0 h m [rV bk_4 152 cs_4]) (ne_0 : n_0 = List.length a_0) (k_0 : List.length a_0 ≤ c_0) (r_0 : Rd 1 (eInt .u64) m A_0 a_0) (e_4 : T_heap_Object.E m y_4 cs_4) {r : T_heap_Object × Bool} (e : roadref3_ObjectAt.j1 a_0 x_1 y_4 b_28 = some r) : f77.j1 (roadref3_ObjectAt.post W h0 m0 r) A_0 n_0 c_0 x_1 (⟨bk_4, 0, none⟩ : Addr) b_28 h := by
  unfold roadref3_ObjectAt.j1 at e
  subst ne_0
  refine f77.j1_in ?_
  unfold f77.j1T
  refine split_any_e e (fun c4 e => ?_) (fun c4 e => ?_)
  · refine ⟨_, rfl, rfl, ?_⟩
    refine O.stA 0 rfl ((T_heap_Object.T.len _ _ _ e_4)).symm (Flats.cons trivial (Flats.cons trivial (Flats.cons trivial (Flats.cons trivial (Flats.cons trivial Flats.nil))))) fun h1 O2 => ?_
    refine ⟨_, ldAn (Sub.refl _) (O2.all 0 rfl) rfl, ?_⟩
    have O3 := O2.nm
    cases e
    exact ⟨_, _, O3.pick [], rfl, (show T_heap_Object.E _ (T_heap_Object.mk (0 : Int) (0 : Int) (0 : Int) (ByteArray.mk #[]) ([] : List Int)) [(Value.int .i64 (0 : Int)), (Value.int .i64 (0 : Int)), (Value.int .i64 (0 : Int)), (Value.string (ByteArray.mk #[])), (Value.slice none 0 0)] from ⟨_, _, rfl, (by exact Nat.le_refl 0), Rd.nil⟩)⟩
  · exact roadref3_ObjectAt.j0.walk (O.pick [0]).nm rfl k_0 r_0 e_4 e
noncomputable def roadref3_ObjectAt (a_0 : List Int) (x_1 : Int) : Option (T_heap_Object × Bool) :=
  Option.bind (roadref3_In x_1 (0 : Int) (IntKind.wrap .i64 ((((List.length a_0) : Nat) : Int) - (1 : Int)))) fun y5 => if y5 = true then (Option.bind (gi a_0 x_1) fun y12 => (roadref3_ObjectAt.j1 a_0 x_1 (T_heap_Object.mk (0 : Int) (0 : Int) (0 : Int) (ByteArray.mk #[]) ([] : List Int)) (decide ((IntKind.wrap .u64 (Int.tdiv y12 (4294967296 : Int))) > (0 : Int))))) else ((roadref3_ObjectAt.j1 a_0 x_1 (T_heap_Object.mk (0 : Int) (0 : Int) (0 : Int) (ByteArray.mk #[]) ([] : List Int)) true))
set_option maxRecDepth 100000 in
theorem roadref3_ObjectAt.walk {W : Nat → Prop} {h m : Heap} {A_0 : Option Addr} {n_0 c_0 : Nat} {a_0 : List Int} {x_1 : Int} (O : Hold W h m h m []) (ne_0 : n_0 = List.length a_0) (k_0 : List.length a_0 ≤ c_0) (r_0 : Rd 1 (eInt .u64) m A_0 a_0) {r : T_heap_Object × Bool} (e : roadref3_ObjectAt a_0 x_1 = some r) : Run Try.prog 77 #[Value.slice A_0 n_0 c_0, Value.int .i64 x_1] h (roadref3_ObjectAt.post W h m r) := by
  unfold roadref3_ObjectAt at e
  subst ne_0
  refine f77.run ?_
  unfold f77.runT
  refine O.new fun h1 x2 O3 => ?_
  obtain ⟨y5, g6, e⟩ := bind_e e
  refine (roadref3_In.walk (Hold.start (W := No) O3.s)  g6).mono ?_
  rintro _ h7 ⟨m8, Q9, rfl⟩
  have O11 := Hold.nm (O3.retC Q9 vfs_nil)
  refine ⟨_, rfl, ?_⟩
  refine split_not ?_
  refine split_any_e e (fun c19 e => ?_) (fun c19 e => ?_)
  · obtain ⟨y12, g13, e⟩ := bind_e e
    refine r_0.addr rfl g13 fun a14 cs15 ha16 hc17 he18 => ?_
    obtain rfl : cs15 = [(Value.int .u64 y12)] := he18
    refine ⟨_, ld0 O11.s hc17 rfl, _, rfl, ?_⟩
    refine ⟨by decide, ?_⟩
    exact roadref3_ObjectAt.j1.walk (O11.pick [0]).nm rfl k_0 r_0 (show T_heap_Object.E _ (T_heap_Object.mk (0 : Int) (0 : Int) (0 : Int) (ByteArray.mk #[]) ([] : List Int)) [(Value.int .i64 (0 : Int)), (Value.int .i64 (0 : Int)), (Value.int .i64 (0 : Int)), (Value.string (ByteArray.mk #[])), (Value.slice none 0 0)] from ⟨_, _, rfl, (by exact Nat.le_refl 0), Rd.nil⟩) e
  · exact roadref3_ObjectAt.j1.walk (O11.pick [0]).nm rfl k_0 r_0 (show T_heap_Object.E _ (T_heap_Object.mk (0 : Int) (0 : Int) (0 : Int) (ByteArray.mk #[]) ([] : List Int)) [(Value.int .i64 (0 : Int)), (Value.int .i64 (0 : Int)), (Value.int .i64 (0 : Int)), (Value.string (ByteArray.mk #[])), (Value.slice none 0 0)] from ⟨_, _, rfl, (by exact Nat.le_refl 0), Rd.nil⟩) e
def roadref3_HeapObjects.post (W : Nat → Prop) (h0 m0 : Heap) (r : (List T_heap_Object) × Int) (v : Value) (h : Heap) : Prop := ∃ m A0 n0 c0, Hold W h0 m0 h m [rR (aE T_heap_Object.T) A0 c0 r.1] ∧ v = .tuple #[.slice A0 n0 c0, .int .i64 r.2] ∧ n0 = List.length r.1
inductive roadref3_HeapObjects.l0_k.Pt where
  | l0 (a_0 : List Int) (a_4 : List T_heap_Object) (x_5 : Int)
noncomputable def roadref3_HeapObjects.l0_k.body (go : (p : roadref3_HeapObjects.l0_k.Pt) → Option ((List T_heap_Object) × Int)) : (p : roadref3_HeapObjects.l0_k.Pt) → Option ((List T_heap_Object) × Int)
  | .l0 a_0 a_4 x_5 => if x_5 < (((List.length a_0) : Nat) : Int) then (Option.bind (roadref3_ObjectAt a_0 x_5) fun y1 => if y1.2 = true then (Option.bind (ap 64 a_4 ([y1.1] : List T_heap_Object)) fun l22 => Option.bind (roadref3_ObjectWords y1.1) fun y32 => (go (.l0 a_0 l22 (IntKind.wrap .i64 (x_5 + (((List.length y32) : Nat) : Int)))))) else (some (([] : List T_heap_Object), (3 : Int)))) else (some (a_4, (0 : Int)))
theorem roadref3_HeapObjects.l0_k.mono : MonoF (β := fun _ => ((List T_heap_Object) × Int)) roadref3_HeapObjects.l0_k.body := fun f g hfg p => match p with
  | .l0 a_0 a_4 x_5 => LeO.ite (LeO.bind (LeO.refl _) fun y1 => LeO.ite (LeO.bind (LeO.refl _) fun l22 => LeO.bind (LeO.refl _) fun y32 => (hfg _)) (LeO.refl _)) (LeO.refl _)
noncomputable def roadref3_HeapObjects.l0_k.go (p : roadref3_HeapObjects.l0_k.Pt) : Option ((List T_heap_Object) × Int) := fixF (β := fun _ => ((List T_heap_Object) × Int)) roadref3_HeapObjects.l0_k.body p
noncomputable def roadref3_HeapObjects.l0 (a_0 : List Int) (a_4 : List T_heap_Object) (x_5 : Int) : Option ((List T_heap_Object) × Int) := roadref3_HeapObjects.l0_k.go (.l0 a_0 a_4 x_5)
theorem roadref3_HeapObjects.l0_eq (a_0 : List Int) (a_4 : List T_heap_Object) (x_5 : Int) : roadref3_HeapObjects.l0 a_0 a_4 x_5 = if x_5 < (((List.length a_0) : Nat) : Int) then (Option.bind (roadref3_ObjectAt a_0 x_5) fun y1 => if y1.2 = true then (Option.bind (ap 64 a_4 ([y1.1] : List T_heap_Object)) fun l22 => Option.bind (roadref3_ObjectWords y1.1) fun y32 => (roadref3_HeapObjects.l0 a_0 l22 (IntKind.wrap .i64 (x_5 + (((List.length y32) : Nat) : Int))))) else (some (([] : List T_heap_Object), (3 : Int)))) else (some (a_4, (0 : Int))) := fixF_eq roadref3_HeapObjects.l0_k.mono _
def roadref3_HeapObjects.l0_k.I : (p : roadref3_HeapObjects.l0_k.Pt) → ((List T_heap_Object) × Int) → Prop
  | .l0 a_0 a_4 x_5, r => ∀ (W : Nat → Prop) (h0 m0 h m : Heap) (A_0 : Option Addr) (n_0 c_0 : Nat) (A_4 : Option Addr) (n_4 c_4 : Nat) (O : Hold W h0 m0 h m [rR (aE T_heap_Object.T) A_4 c_4 a_4]) (ne_0 : n_0 = List.length a_0) (k_0 : List.length a_0 ≤ c_0) (r_0 : Rd 1 (eInt .u64) m A_0 a_0) (ne_4 : n_4 = List.length a_4), f40.l0 (roadref3_HeapObjects.post W h0 m0 r) A_0 n_0 c_0 A_4 n_4 c_4 x_5 h
set_option maxHeartbeats 4000000 in
set_option maxRecDepth 100000 in
theorem roadref3_HeapObjects.l0_k.step_l0 (go : (p : roadref3_HeapObjects.l0_k.Pt) → Option ((List T_heap_Object) × Int)) (ih : ∀ p r, go p = some r → roadref3_HeapObjects.l0_k.I p r) (a_0 : List Int) (a_4 : List T_heap_Object) (x_5 : Int) (r : (List T_heap_Object) × Int) (e : roadref3_HeapObjects.l0_k.body go (.l0 a_0 a_4 x_5) = some r) : roadref3_HeapObjects.l0_k.I (.l0 a_0 a_4 x_5) r := by
  unfold roadref3_HeapObjects.l0_k.body at e
  intro W h0 m0 h m A_0 n_0 c_0 A_4 n_4 c_4 O ne_0 k_0 r_0 ne_4
  subst ne_0
  subst ne_4
  refine f40.l0_in ?_
  unfold f40.l0T
  refine split_dec_e e (fun c48 e => ?_) (fun c48 e => ?_)
  · obtain ⟨y1, g2, e⟩ := bind_e e
    refine (roadref3_ObjectAt.walk (Hold.start (W := No) O.s) rfl k_0 r_0 g2).mono ?_
    rintro _ h3 ⟨m4, cs8, Q5, rfl, he9⟩
    have O10 := Hold.nm (O.ret Q5)
    refine ⟨_, _, rfl, ?_⟩
    refine O10.new fun h11 x12 O13 => ?_
    refine ⟨_, rfl, (T_heap_Object.T.len _ _ _ he9), ?_⟩
    refine O13.stA 1 rfl (T_heap_Object.T.len _ _ _ he9) (T_heap_Object.T.flat _ _ _ he9) fun h15 O16 => ?_
    refine split_not ?_
    refine split_any_e e (fun c47 e => ?_) (fun c47 e => ?_)
    · refine ⟨_, ldAn (Sub.refl _) (O16.all 1 rfl) (T_heap_Object.T.len _ _ _ he9), ?_⟩
      refine ⟨cs8, rfl, (T_heap_Object.T.len _ _ _ he9), ?_⟩
      refine O16.new fun h17 x18 O19 => ?_
      have O21 := O19.recell 2 rfl (cs' := cs8 ++ []) rfl
      obtain ⟨l22, g23, e⟩ := bind_e e
      have O30 := O21.rowE (l := ([y1.1] : List T_heap_Object)) 2 rfl T_heap_Object.T (show CsE _ _ _ _ _ from (CsE.cons he9 (T_heap_Object.T.len _ _ _ he9) CsE.nil)) rfl
      refine O30.app 0 rfl rfl rfl ((O30.os 2 rfl).srcE rfl) (by decide) g23 fun A24 c25 h26 O27 => ?_
      refine ⟨_, _, _, rfl, ?_⟩
      have O31 := O27.nm
      refine ⟨_, ldAn (Sub.refl _) (O31.all 1 rfl) (T_heap_Object.T.len _ _ _ he9), ?_⟩
      obtain ⟨y32, g33, e⟩ := bind_e e
      refine (roadref3_ObjectWords.walk (Hold.start (W := No) O31.s) he9 g33).mono ?_
      rintro _ h34 ⟨m35, A38, n39, c40, Q36, rfl, ne41⟩
      have O43 := Hold.nm (O31.retC Q36 (vfs_cons (rR_vf (aE_vf (fun _ _ _ _ h => h))) vfs_nil))
      subst ne41
      refine ⟨_, _, _, rfl, ?_⟩
      exact (ih _ _ e) _ _ _ _ _ _ _ _ _ _ _ (O43.pick [0]).nm rfl k_0 (r_0.sub (tell_int .u64) Q5.S.up) rfl
    · have O44 := O16.nil (aE T_heap_Object.T) none
      have O46 := O44.nm
      cases e
      exact ⟨_, _, _, _, O46.pick [2], rfl, rfl⟩
  · cases e
    exact ⟨_, _, _, _, O.pick [0], rfl, rfl⟩
theorem roadref3_HeapObjects.l0_k.all {p : roadref3_HeapObjects.l0_k.Pt} {r : ((List T_heap_Object) × Int)} (e : roadref3_HeapObjects.l0_k.go p = some r) : roadref3_HeapObjects.l0_k.I p r := fixF_ind (β := fun _ => ((List T_heap_Object) × Int)) roadref3_HeapObjects.l0_k.mono (I := roadref3_HeapObjects.l0_k.I) (fun go ih p r e => match p with
  | .l0 a_0 a_4 x_5 => roadref3_HeapObjects.l0_k.step_l0 go ih a_0 a_4 x_5 r e
  ) e
theorem roadref3_HeapObjects.l0.walk {W : Nat → Prop} {h0 m0 h m : Heap} {A_0 : Option Addr} {n_0 c_0 : Nat} {A_4 : Option Addr} {n_4 c_4 : Nat} {a_0 : List Int} {a_4 : List T_heap_Object} {x_5 : Int} (O : Hold W h0 m0 h m [rR (aE T_heap_Object.T) A_4 c_4 a_4]) (ne_0 : n_0 = List.length a_0) (k_0 : List.length a_0 ≤ c_0) (r_0 : Rd 1 (eInt .u64) m A_0 a_0) (ne_4 : n_4 = List.length a_4) {r : (List T_heap_Object) × Int} (e : roadref3_HeapObjects.l0 a_0 a_4 x_5 = some r) : f40.l0 (roadref3_HeapObjects.post W h0 m0 r) A_0 n_0 c_0 A_4 n_4 c_4 x_5 h := roadref3_HeapObjects.l0_k.all (p := .l0 a_0 a_4 x_5) e W h0 m0 h m A_0 n_0 c_0 A_4 n_4 c_4 O ne_0 k_0 r_0 ne_4
noncomputable def roadref3_HeapObjects (a_0 : List Int) : Option ((List T_heap_Object) × Int) :=
  if (((List.length a_0) : Nat) : Int) > (4000 : Int) then (some (([] : List T_heap_Object), (2 : Int))) else ((roadref3_HeapObjects.l0 a_0 ([] : List T_heap_Object) (0 : Int)))
set_option maxRecDepth 100000 in
theorem roadref3_HeapObjects.walk {W : Nat → Prop} {h m : Heap} {A_0 : Option Addr} {n_0 c_0 : Nat} {a_0 : List Int} (O : Hold W h m h m []) (ne_0 : n_0 = List.length a_0) (k_0 : List.length a_0 ≤ c_0) (r_0 : Rd 1 (eInt .u64) m A_0 a_0) {r : (List T_heap_Object) × Int} (e : roadref3_HeapObjects a_0 = some r) : Run Try.prog 40 #[Value.slice A_0 n_0 c_0] h (roadref3_HeapObjects.post W h m r) := by
  unfold roadref3_HeapObjects at e
  subst ne_0
  refine f40.run ?_
  unfold f40.runT
  refine split_dec_e e (fun c7 e => ?_) (fun c7 e => ?_)
  · have O1 := O.nil (aE T_heap_Object.T) none
    have O3 := O1.nm
    cases e
    exact ⟨_, _, _, _, O3.pick [0], rfl, rfl⟩
  · have O4 := O.nil (aE T_heap_Object.T) none
    have O6 := O4.nm
    exact roadref3_HeapObjects.l0.walk (O6.pick [0]).nm rfl k_0 r_0 rfl e
def roadref3_TagWord.post (W : Nat → Prop) (h0 m0 : Heap) (r : Int) (v : Value) (h : Heap) : Prop := ∃ m , Hold W h0 m0 h m [] ∧ v = .int .u64 r
noncomputable def roadref3_TagWord (x_0 : Int) (x_1 : Int) : Option (Int) :=
  some ((IntKind.wrap .u64 ((IntKind.wrap .u64 ((8 : Int) * (IntKind.wrap .u64 x_1))) + (IntKind.wrap .u64 x_0))))
set_option maxRecDepth 100000 in
theorem roadref3_TagWord.walk {W : Nat → Prop} {h m : Heap} {x_0 : Int} {x_1 : Int} (O : Hold W h m h m []) {r : Int} (e : roadref3_TagWord x_0 x_1 = some r) : Run Try.prog 80 #[Value.int .i64 x_0, Value.int .i64 x_1] h (roadref3_TagWord.post W h m r) := by
  unfold roadref3_TagWord at e
  refine f80.run ?_
  unfold f80.runT
  cases e
  exact ⟨_, O.pick [], rfl⟩
def roadref3_TagFits.post (W : Nat → Prop) (h0 m0 : Heap) (r : Bool) (v : Value) (h : Heap) : Prop := ∃ m , Hold W h0 m0 h m [] ∧ v = .bool r
noncomputable def roadref3_TagFits.j0 (x_0 : Int) (x_1 : Int) (x_5 : Int) (x_6 : Int) : Option (Bool) :=
  Option.bind (roadref3_In x_0 (0 : Int) (4 : Int)) fun y1 => if y1 = true then (Option.bind (roadref3_In x_1 x_5 x_6) fun y8 => some (y8)) else (some (false))
set_option maxRecDepth 100000 in
theorem roadref3_TagFits.j0.walk {W : Nat → Prop} {h0 m0 h m : Heap} {x_0 : Int} {x_1 : Int} {x_5 : Int} {x_6 : Int} (O : Hold W h0 m0 h m []) {r : Bool} (e : roadref3_TagFits.j0 x_0 x_1 x_5 x_6 = some r) : f101.j0 (roadref3_TagFits.post W h0 m0 r) x_0 x_1 x_5 x_6 h := by
  unfold roadref3_TagFits.j0 at e
  refine f101.j0_in ?_
  unfold f101.j0T
  obtain ⟨y1, g2, e⟩ := bind_e e
  refine (roadref3_In.walk (Hold.start (W := No) O.s)  g2).mono ?_
  rintro _ h3 ⟨m4, Q5, rfl⟩
  have O7 := Hold.nm (O.retC Q5 vfs_nil)
  refine ⟨_, rfl, ?_⟩
  refine split_any_e e (fun c15 e => ?_) (fun c15 e => ?_)
  · obtain ⟨y8, g9, e⟩ := bind_e e
    refine (roadref3_In.walk (Hold.start (W := No) O7.s)  g9).mono ?_
    rintro _ h10 ⟨m11, Q12, rfl⟩
    have O14 := Hold.nm (O7.retC Q12 vfs_nil)
    refine ⟨_, rfl, ?_⟩
    cases e
    exact ⟨_, O14.pick [], rfl⟩
  · cases e
    exact ⟨_, O7.pick [], rfl⟩
noncomputable def roadref3_TagFits (x_0 : Int) (x_1 : Int) : Option (Bool) :=
  if x_0 = (0 : Int) then ((roadref3_TagFits.j0 x_0 x_1 (0 : Int) (0 : Int))) else (if x_0 = (1 : Int) then ((roadref3_TagFits.j0 x_0 x_1 (-1152921504606846976 : Int) (1152921504606846975 : Int))) else (if x_0 = (2 : Int) then ((roadref3_TagFits.j0 x_0 x_1 (0 : Int) (1 : Int))) else ((roadref3_TagFits.j0 x_0 x_1 (0 : Int) (1152921504606846975 : Int)))))
set_option maxRecDepth 100000 in
theorem roadref3_TagFits.walk {W : Nat → Prop} {h m : Heap} {x_0 : Int} {x_1 : Int} (O : Hold W h m h m []) {r : Bool} (e : roadref3_TagFits x_0 x_1 = some r) : Run Try.prog 101 #[Value.int .i64 x_0, Value.int .i64 x_1] h (roadref3_TagFits.post W h m r) := by
  unfold roadref3_TagFits at e
  refine f101.run ?_
  unfold f101.runT
  refine split_eq_e e (fun c3 e => ?_) (fun c3 e => ?_)
  · exact roadref3_TagFits.j0.walk (O.pick []).nm  e
  · refine split_eq_e e (fun c2 e => ?_) (fun c2 e => ?_)
    · exact roadref3_TagFits.j0.walk (O.pick []).nm  e
    · refine split_eq_e e (fun c1 e => ?_) (fun c1 e => ?_)
      · exact roadref3_TagFits.j0.walk (O.pick []).nm  e
      · exact roadref3_TagFits.j0.walk (O.pick []).nm  e
def roadref3_TagRead.post (W : Nat → Prop) (h0 m0 : Heap) (r : Int × Int × Bool) (v : Value) (h : Heap) : Prop := ∃ m , Hold W h0 m0 h m [] ∧ v = .tuple #[.int .i64 r.1, .int .i64 r.2.1, .bool r.2.2]
noncomputable def roadref3_TagRead.j2 (x_5 : Int) (x_6 : Int) : Option (Int × Int × Bool) :=
  some (x_5, x_6, true)
set_option maxRecDepth 100000 in
theorem roadref3_TagRead.j2.walk {W : Nat → Prop} {h0 m0 h m : Heap} {x_5 : Int} {x_6 : Int} (O : Hold W h0 m0 h m []) {r : Int × Int × Bool} (e : roadref3_TagRead.j2 x_5 x_6 = some r) : f79.j2 (roadref3_TagRead.post W h0 m0 r) x_5 x_6 h := by
  unfold roadref3_TagRead.j2 at e
  refine f79.j2_in ?_
  unfold f79.j2T
  cases e
  exact ⟨_, O.pick [], rfl⟩
noncomputable def roadref3_TagRead.j3 (x_5 : Int) (x_6 : Int) (b_31 : Bool) : Option (Int × Int × Bool) :=
  if b_31 = true then (some ((0 : Int), (0 : Int), false)) else ((roadref3_TagRead.j2 x_5 x_6))
set_option maxRecDepth 100000 in
theorem roadref3_TagRead.j3.walk {W : Nat → Prop} {h0 m0 h m : Heap} {x_5 : Int} {x_6 : Int} {b_31 : Bool} (O : Hold W h0 m0 h m []) {r : Int × Int × Bool} (e : roadref3_TagRead.j3 x_5 x_6 b_31 = some r) : f79.j3 (roadref3_TagRead.post W h0 m0 r) x_5 x_6 b_31 h := by
  unfold roadref3_TagRead.j3 at e
  refine f79.j3_in ?_
  unfold f79.j3T
  refine split_any_e e (fun c1 e => ?_) (fun c1 e => ?_)
  · cases e
    exact ⟨_, O.pick [], rfl⟩
  · exact roadref3_TagRead.j2.walk (O.pick []).nm  e
noncomputable def roadref3_TagRead.j0 (x_0 : Int) (x_5 : Int) (x_6 : Int) : Option (Int × Int × Bool) :=
  Option.bind (roadref3_TagFits x_5 x_6) fun y1 => if y1 = true then (Option.bind (roadref3_TagWord x_5 x_6) fun y8 => (roadref3_TagRead.j3 x_5 x_6 (y8 != x_0))) else ((roadref3_TagRead.j3 x_5 x_6 true))
set_option maxRecDepth 100000 in
theorem roadref3_TagRead.j0.walk {W : Nat → Prop} {h0 m0 h m : Heap} {x_0 : Int} {x_5 : Int} {x_6 : Int} (O : Hold W h0 m0 h m []) {r : Int × Int × Bool} (e : roadref3_TagRead.j0 x_0 x_5 x_6 = some r) : f79.j0 (roadref3_TagRead.post W h0 m0 r) x_0 x_5 x_6 h := by
  unfold roadref3_TagRead.j0 at e
  refine f79.j0_in ?_
  unfold f79.j0T
  obtain ⟨y1, g2, e⟩ := bind_e e
  refine (roadref3_TagFits.walk (Hold.start (W := No) O.s)  g2).mono ?_
  rintro _ h3 ⟨m4, Q5, rfl⟩
  have O7 := Hold.nm (O.retC Q5 vfs_nil)
  refine ⟨_, rfl, ?_⟩
  refine split_not ?_
  refine split_any_e e (fun c15 e => ?_) (fun c15 e => ?_)
  · obtain ⟨y8, g9, e⟩ := bind_e e
    refine (roadref3_TagWord.walk (Hold.start (W := No) O7.s)  g9).mono ?_
    rintro _ h10 ⟨m11, Q12, rfl⟩
    have O14 := Hold.nm (O7.retC Q12 vfs_nil)
    refine ⟨_, rfl, ?_⟩
    exact roadref3_TagRead.j3.walk (O14.pick []).nm  e
  · exact roadref3_TagRead.j3.walk (O7.pick []).nm  e
noncomputable def roadref3_TagRead.j1 (x_0 : Int) (x_5 : Int) (x_6 : Int) (b_18 : Bool) : Option (Int × Int × Bool) :=
  if b_18 = true then ((roadref3_TagRead.j0 x_0 x_5 (IntKind.wrap .i64 (x_6 - (2305843009213693952 : Int))))) else ((roadref3_TagRead.j0 x_0 x_5 x_6))
set_option maxRecDepth 100000 in
theorem roadref3_TagRead.j1.walk {W : Nat → Prop} {h0 m0 h m : Heap} {x_0 : Int} {x_5 : Int} {x_6 : Int} {b_18 : Bool} (O : Hold W h0 m0 h m []) {r : Int × Int × Bool} (e : roadref3_TagRead.j1 x_0 x_5 x_6 b_18 = some r) : f79.j1 (roadref3_TagRead.post W h0 m0 r) x_0 x_5 x_6 b_18 h := by
  unfold roadref3_TagRead.j1 at e
  refine f79.j1_in ?_
  unfold f79.j1T
  refine split_any_e e (fun c1 e => ?_) (fun c1 e => ?_)
  · exact roadref3_TagRead.j0.walk (O.pick []).nm  e
  · exact roadref3_TagRead.j0.walk (O.pick []).nm  e
noncomputable def roadref3_TagRead (x_0 : Int) : Option (Int × Int × Bool) :=
  if (IntKind.wrap .i64 (Int.tmod x_0 (8 : Int))) = (1 : Int) then ((roadref3_TagRead.j1 x_0 (IntKind.wrap .i64 (Int.tmod x_0 (8 : Int))) (IntKind.wrap .i64 (IntKind.wrap .u64 (Int.tdiv x_0 (8 : Int)))) (decide ((IntKind.wrap .i64 (IntKind.wrap .u64 (Int.tdiv x_0 (8 : Int)))) ≥ (1152921504606846976 : Int))))) else ((roadref3_TagRead.j1 x_0 (IntKind.wrap .i64 (Int.tmod x_0 (8 : Int))) (IntKind.wrap .i64 (IntKind.wrap .u64 (Int.tdiv x_0 (8 : Int)))) false))
set_option maxRecDepth 100000 in
theorem roadref3_TagRead.walk {W : Nat → Prop} {h m : Heap} {x_0 : Int} (O : Hold W h m h m []) {r : Int × Int × Bool} (e : roadref3_TagRead x_0 = some r) : Run Try.prog 79 #[Value.int .u64 x_0] h (roadref3_TagRead.post W h m r) := by
  unfold roadref3_TagRead at e
  refine f79.run ?_
  unfold f79.runT
  refine ⟨by decide, ?_⟩
  refine ⟨by decide, ?_⟩
  refine split_eq_e e (fun c1 e => ?_) (fun c1 e => ?_)
  · exact roadref3_TagRead.j1.walk (O.pick []).nm  e
  · exact roadref3_TagRead.j1.walk (O.pick []).nm  e
end Go.Proofs.Ytnlocljmalhddaa.Fw

end
section
namespace Go.Proofs.Ytnlocljmalhddaa.Fw
open Go Go.Hw Go.Proofs
set_option linter.unusedVariables false
set_option synthInstance.maxHeartbeats 400000
set_option synthInstance.maxSize 1000
def roadref3_Carried.post (W : Nat → Prop) (bkio4 : Nat) (bkio5 : Nat) (h0 m0 : Heap) (r : (List Int) × Int × Int × (List (Int × Int)) × (List (Int × Bool))) (v : Value) (h : Heap) : Prop := ∃ m A0 n0 c0, Hold W h0 m0 h m [rM (monoV0 (tell_int .u64)) (fun n : Int => Value.int .i64 n) bkio4 r.2.2.2.1, rM (monoV0 tell_bool) (fun n : Int => Value.int .i64 n) bkio5 r.2.2.2.2] ∧ v = .tuple #[.slice A0 n0 c0, .int .u64 r.2.1, .int .i64 r.2.2.1] ∧ n0 = List.length r.1 ∧ List.length r.1 ≤ c0 ∧ Rd 1 (eInt .u64) m A0 r.1
noncomputable def roadref3_Carried.j0 (a_1 : List Int) (es_io4 : (List (Int × Int))) (x_16 : Int) (a_27 : List Int) (es_io5 : (List (Int × Bool))) : Option ((List Int) × Int × Int × (List (Int × Int)) × (List (Int × Bool))) :=
  Option.bind (roadref3_TagWord (4 : Int) (((List.length a_1) : Nat) : Int)) fun y1 => Option.bind (some (pset es_io4 x_16 y1)) fun l10 => Option.bind (ap 8 ([] : List Int) a_1) fun l12 => Option.bind (ap 8 l12 a_27) fun l20 => some (l20, (pgd l10 x_16 (0 : Int)), (0 : Int), l10, es_io5)
set_option maxHeartbeats 4000000 in
set_option maxRecDepth 100000 in
theorem roadref3_Carried.j0.walk {W : Nat → Prop} {h0 m0 h m : Heap} {A_1 : Option Addr} {n_1 c_1 : Nat} {bk_io4 : Nat} {A_27 : Option Addr} {n_27 c_27 : Nat} {bk_io5 : Nat} {a_1 : List Int} {es_io4 : (List (Int × Int))} {x_16 : Int} {a_27 : List Int} {es_io5 : (List (Int × Bool))} (O : Hold W h0 m0 h m [rM (monoV0 (tell_int .u64)) (fun n : Int => Value.int .i64 n) bk_io4 es_io4, rR (aE (tell_int .u64)) A_27 c_27 a_27, rM (monoV0 tell_bool) (fun n : Int => Value.int .i64 n) bk_io5 es_io5]) (ne_1 : n_1 = List.length a_1) (k_1 : List.length a_1 ≤ c_1) (r_1 : Rd 1 (eInt .u64) m A_1 a_1) (ne_27 : n_27 = List.length a_27) {r : (List Int) × Int × Int × (List (Int × Int)) × (List (Int × Bool))} (e : roadref3_Carried.j0 a_1 es_io4 x_16 a_27 es_io5 = some r) : f41.j0 (roadref3_Carried.post W bk_io4 bk_io5 h0 m0 r) A_1 n_1 c_1 (Value.map (some bk_io4)) x_16 A_27 n_27 c_27 h := by
  unfold roadref3_Carried.j0 at e
  subst ne_1
  subst ne_27
  refine f41.j0_in ?_
  unfold f41.j0T
  obtain ⟨y1, g2, e⟩ := bind_e e
  refine (roadref3_TagWord.walk (Hold.start (W := No) O.s)  g2).mono ?_
  rintro _ h3 ⟨m4, Q5, rfl⟩
  have O7 := Hold.nm (O.retC Q5 vfs_nil)
  refine ⟨_, rfl, ?_⟩
  obtain ⟨l10, g11, e⟩ := bind_e e
  replace g11 := Option.some.inj g11
  refine O7.mapUpd (x := y1) (v := (Value.int .u64 y1)) 0 rfl (keyOk_int (key := 3) (elem := 77) (by kernel_rfl) (by kernel_rfl)) x_16 (show (eV0 (eInt .u64)) m y1 (Value.int .u64 y1) from rfl) g11 fun h8 O9 => ?_
  obtain ⟨l12, g13, e⟩ := bind_e e
  obtain ⟨l20, g21, e⟩ := bind_e e
  refine ⟨?_, ?_⟩
  · refine O9.appE0 (tell_int .u64) rfl rfl (Rd.srcE r_1 (tell_int .u64) O9.s rfl) (by decide) g13 fun A38 c39 h40 x42 O41 => ?_
    refine ⟨_, _, _, rfl, ?_⟩
    refine ⟨?_, ?_⟩
    · refine O41.app 3 rfl rfl rfl ((O41.os 1 rfl).srcE rfl) (by decide) g21 fun A46 c47 h48 O49 => ?_
      refine ⟨_, _, _, rfl, ?_⟩
      refine (O49.om 0 rfl).look (zv := (0 : Int)) (z := (Value.int .u64 (0 : Int))) (keyOk_int (key := 3) (elem := 77) (by kernel_rfl) (by kernel_rfl)) x_16 (by kernel_rfl) rfl (fun v52 hv53 => ?_)
      obtain rfl : v52 = (Value.int .u64 (pgd l10 x_16 (0 : Int))) := (List.cons.inj (show [v52] = [(Value.int .u64 (pgd l10 x_16 (0 : Int)))] from hv53)).1
      refine ⟨_, rfl, ?_⟩
      obtain ⟨m54, u55, ⟨r56, k57⟩, O58⟩ := O49.frz 3 rfl
      replace r56 : Rd 1 (eInt .u64) m54 A46 l20 := r56
      have O59 := O58.nm
      cases e
      exact ⟨_, _, _, _, O59.pick [0, 2], rfl, rfl, k57, r56⟩
    · refine (O41.om 0 rfl).look (zv := (0 : Int)) (z := (Value.int .u64 (0 : Int))) (keyOk_int (key := 3) (elem := 77) (by kernel_rfl) (by kernel_rfl)) x_16 (by kernel_rfl) rfl (fun v60 hv61 => ?_)
      obtain rfl : v60 = (Value.int .u64 (pgd l10 x_16 (0 : Int))) := (List.cons.inj (show [v60] = [(Value.int .u64 (pgd l10 x_16 (0 : Int)))] from hv61)).1
      refine ⟨_, rfl, ?_⟩
      refine O41.app 3 rfl rfl rfl ((O41.os 1 rfl).srcE rfl) (by decide) g21 fun A64 c65 h66 O67 => ?_
      refine ⟨_, _, _, rfl, ?_⟩
      obtain ⟨m70, u71, ⟨r72, k73⟩, O74⟩ := O67.frz 3 rfl
      replace r72 : Rd 1 (eInt .u64) m70 A64 l20 := r72
      have O75 := O74.nm
      cases e
      exact ⟨_, _, _, _, O75.pick [0, 2], rfl, rfl, k73, r72⟩
  · refine (O9.om 0 rfl).look (zv := (0 : Int)) (z := (Value.int .u64 (0 : Int))) (keyOk_int (key := 3) (elem := 77) (by kernel_rfl) (by kernel_rfl)) x_16 (by kernel_rfl) rfl (fun v76 hv77 => ?_)
    obtain rfl : v76 = (Value.int .u64 (pgd l10 x_16 (0 : Int))) := (List.cons.inj (show [v76] = [(Value.int .u64 (pgd l10 x_16 (0 : Int)))] from hv77)).1
    refine ⟨_, rfl, ?_⟩
    refine O9.appE0 (tell_int .u64) rfl rfl (Rd.srcE r_1 (tell_int .u64) O9.s rfl) (by decide) g13 fun A80 c81 h82 x84 O83 => ?_
    refine ⟨_, _, _, rfl, ?_⟩
    refine O83.app 3 rfl rfl rfl ((O83.os 1 rfl).srcE rfl) (by decide) g21 fun A88 c89 h90 O91 => ?_
    refine ⟨_, _, _, rfl, ?_⟩
    obtain ⟨m94, u95, ⟨r96, k97⟩, O98⟩ := O91.frz 3 rfl
    replace r96 : Rd 1 (eInt .u64) m94 A88 l20 := r96
    have O99 := O98.nm
    cases e
    exact ⟨_, _, _, _, O99.pick [0, 2], rfl, rfl, k97, r96⟩
noncomputable def roadref3_Carried.j1 (a_1 : List Int) (es_io4 : (List (Int × Int))) (es_io5 : (List (Int × Bool))) (x_16 : Int) (a_27 : List Int) (b_108 : Bool) : Option ((List Int) × Int × Int × (List (Int × Int)) × (List (Int × Bool))) :=
  if b_108 = true then (Option.bind (some (pset es_io5 x_16 true)) fun l3 => (roadref3_Carried.j0 a_1 es_io4 x_16 a_27 l3)) else ((roadref3_Carried.j0 a_1 es_io4 x_16 a_27 es_io5))
set_option maxRecDepth 100000 in
theorem roadref3_Carried.j1.walk {W : Nat → Prop} {h0 m0 h m : Heap} {A_1 : Option Addr} {n_1 c_1 : Nat} {bk_io4 : Nat} {bk_io5 : Nat} {A_27 : Option Addr} {n_27 c_27 : Nat} {a_1 : List Int} {es_io4 : (List (Int × Int))} {es_io5 : (List (Int × Bool))} {x_16 : Int} {a_27 : List Int} {b_108 : Bool} (O : Hold W h0 m0 h m [rM (monoV0 (tell_int .u64)) (fun n : Int => Value.int .i64 n) bk_io4 es_io4, rM (monoV0 tell_bool) (fun n : Int => Value.int .i64 n) bk_io5 es_io5, rR (aE (tell_int .u64)) A_27 c_27 a_27]) (ne_1 : n_1 = List.length a_1) (k_1 : List.length a_1 ≤ c_1) (r_1 : Rd 1 (eInt .u64) m A_1 a_1) (ne_27 : n_27 = List.length a_27) {r : (List Int) × Int × Int × (List (Int × Int)) × (List (Int × Bool))} (e : roadref3_Carried.j1 a_1 es_io4 es_io5 x_16 a_27 b_108 = some r) : f41.j1 (roadref3_Carried.post W bk_io4 bk_io5 h0 m0 r) A_1 n_1 c_1 (Value.map (some bk_io4)) (Value.map (some bk_io5)) x_16 A_27 n_27 c_27 b_108 h := by
  unfold roadref3_Carried.j1 at e
  subst ne_1
  subst ne_27
  refine f41.j1_in ?_
  unfold f41.j1T
  refine split_any_e e (fun c6 e => ?_) (fun c6 e => ?_)
  · obtain ⟨l3, g4, e⟩ := bind_e e
    replace g4 := Option.some.inj g4
    refine O.mapUpd (x := true) (v := (Value.bool true)) 1 rfl (keyOk_int (key := 3) (elem := 4) (by kernel_rfl) (by kernel_rfl)) x_16 (show (eV0 eBool) m true (Value.bool true) from rfl) g4 fun h1 O2 => ?_
    have O5 := O2.nm
    exact roadref3_Carried.j0.walk (O5.pick [0, 2, 1]).nm rfl k_1 r_1 rfl e
  · exact roadref3_Carried.j0.walk (O.pick [0, 2, 1]).nm rfl k_1 r_1 rfl e
inductive roadref3_Carried_k.Pt where
  | f (a_0 : List Int) (a_1 : List Int) (x_2 : Int) (x_3 : Int) (es_4 : (List (Int × Int))) (es_5 : (List (Int × Bool)))
  | l0 (a_0 : List Int) (a_1 : List Int) (x_3 : Int) (es_io4 : (List (Int × Int))) (es_io5 : (List (Int × Bool))) (x_16 : Int) (y_20 : T_heap_Object) (a_21 : List Int) (a_64 : List Int) (x_65 : Int) (x_66 : Int)
noncomputable def roadref3_Carried_k.body (go : (p : roadref3_Carried_k.Pt) → Option ((List Int) × Int × Int × (List (Int × Int)) × (List (Int × Bool)))) : (p : roadref3_Carried_k.Pt) → Option ((List Int) × Int × Int × (List (Int × Int)) × (List (Int × Bool)))
  | .f a_0 a_1 x_2 x_3 es_4 es_5 => Option.bind (roadref3_TagRead x_2) fun y1 => if y1.2.2 = true then (if y1.1 = (4 : Int) then (if (Option.isSome (pget es_4 y1.2.1)) = true then (some (a_1, (pgd es_4 y1.2.1 (0 : Int)), (0 : Int), es_4, es_5)) else (if x_3 > (40 : Int) then (some (([] : List Int), (0 : Int), (2 : Int), es_4, es_5)) else (if y1.2.1 ≥ (((List.length a_0) : Nat) : Int) then (some (([] : List Int), (0 : Int), (4 : Int), es_4, es_5)) else (Option.bind (roadref3_ObjectAt a_0 y1.2.1) fun y10 => if y10.2 = true then ((go (.l0 a_0 a_1 x_3 es_4 es_5 y1.2.1 y10.1 ([] : List Int) y10.1.Parts (((List.length y10.1.Parts) : Nat) : Int) (0 : Int)))) else (some (([] : List Int), (0 : Int), (3 : Int), es_4, es_5)))))) else (some (a_1, x_2, (0 : Int), es_4, es_5))) else (some (([] : List Int), (0 : Int), (3 : Int), es_4, es_5))
  | .l0 a_0 a_1 x_3 es_io4 es_io5 x_16 y_20 a_21 a_64 x_65 x_66 => if x_66 < x_65 then (Option.bind (gi a_64 x_66) fun y1 => Option.bind ((go (.f a_0 a_1 y1 (IntKind.wrap .i64 (x_3 + (1 : Int))) es_io4 es_io5))) fun y8 => if y8.2.2.1 = (0 : Int) then (Option.bind (ap 8 a_21 ([y8.2.1] : List Int)) fun l29 => (go (.l0 a_0 y8.1 x_3 y8.2.2.2.1 y8.2.2.2.2 x_16 y_20 l29 a_64 x_65 (IntKind.wrap .i64 (x_66 + (1 : Int)))))) else (some (([] : List Int), (0 : Int), y8.2.2.1, y8.2.2.2.1, y8.2.2.2.2))) else (Option.bind (roadref3_ObjectWords (T_heap_Object.mk y_20.At y_20.Kind y_20.Num y_20.Text a_21)) fun y45 => if (IntKind.wrap .i64 ((((List.length a_1) : Nat) : Int) + (((List.length y45) : Nat) : Int))) > (4000 : Int) then (some (([] : List Int), (0 : Int), (6 : Int), es_io4, es_io5)) else (if y_20.Kind = (5 : Int) then ((roadref3_Carried.j1 a_1 es_io4 es_io5 x_16 y45 (decide ((((List.length a_21) : Nat) : Int) > (0 : Int))))) else ((roadref3_Carried.j1 a_1 es_io4 es_io5 x_16 y45 false))))
theorem roadref3_Carried_k.mono : MonoF (β := fun _ => ((List Int) × Int × Int × (List (Int × Int)) × (List (Int × Bool)))) roadref3_Carried_k.body := fun f g hfg p => match p with
  | .f a_0 a_1 x_2 x_3 es_4 es_5 => LeO.bind (LeO.refl _) fun y1 => LeO.ite (LeO.ite (LeO.ite (LeO.refl _) (LeO.ite (LeO.refl _) (LeO.ite (LeO.refl _) (LeO.bind (LeO.refl _) fun y10 => LeO.ite ((hfg _)) (LeO.refl _))))) (LeO.refl _)) (LeO.refl _)
  | .l0 a_0 a_1 x_3 es_io4 es_io5 x_16 y_20 a_21 a_64 x_65 x_66 => LeO.ite (LeO.bind (LeO.refl _) fun y1 => LeO.bind ((hfg _)) fun y8 => LeO.ite (LeO.bind (LeO.refl _) fun l29 => (hfg _)) (LeO.refl _)) (LeO.bind (LeO.refl _) fun y45 => LeO.ite (LeO.refl _) (LeO.ite ((LeO.refl _)) ((LeO.refl _))))
noncomputable def roadref3_Carried_k.go (p : roadref3_Carried_k.Pt) : Option ((List Int) × Int × Int × (List (Int × Int)) × (List (Int × Bool))) := fixF (β := fun _ => ((List Int) × Int × Int × (List (Int × Int)) × (List (Int × Bool)))) roadref3_Carried_k.body p
noncomputable def roadref3_Carried (a_0 : List Int) (a_1 : List Int) (x_2 : Int) (x_3 : Int) (es_4 : (List (Int × Int))) (es_5 : (List (Int × Bool))) : Option ((List Int) × Int × Int × (List (Int × Int)) × (List (Int × Bool))) := roadref3_Carried_k.go (.f a_0 a_1 x_2 x_3 es_4 es_5)
noncomputable def roadref3_Carried.l0 (a_0 : List Int) (a_1 : List Int) (x_3 : Int) (es_io4 : (List (Int × Int))) (es_io5 : (List (Int × Bool))) (x_16 : Int) (y_20 : T_heap_Object) (a_21 : List Int) (a_64 : List Int) (x_65 : Int) (x_66 : Int) : Option ((List Int) × Int × Int × (List (Int × Int)) × (List (Int × Bool))) := roadref3_Carried_k.go (.l0 a_0 a_1 x_3 es_io4 es_io5 x_16 y_20 a_21 a_64 x_65 x_66)
theorem roadref3_Carried_eq (a_0 : List Int) (a_1 : List Int) (x_2 : Int) (x_3 : Int) (es_4 : (List (Int × Int))) (es_5 : (List (Int × Bool))) : roadref3_Carried a_0 a_1 x_2 x_3 es_4 es_5 = Option.bind (roadref3_TagRead x_2) fun y1 => if y1.2.2 = true then (if y1.1 = (4 : Int) then (if (Option.isSome (pget es_4 y1.2.1)) = true then (some (a_1, (pgd es_4 y1.2.1 (0 : Int)), (0 : Int), es_4, es_5)) else (if x_3 > (40 : Int) then (some (([] : List Int), (0 : Int), (2 : Int), es_4, es_5)) else (if y1.2.1 ≥ (((List.length a_0) : Nat) : Int) then (some (([] : List Int), (0 : Int), (4 : Int), es_4, es_5)) else (Option.bind (roadref3_ObjectAt a_0 y1.2.1) fun y10 => if y10.2 = true then ((roadref3_Carried.l0 a_0 a_1 x_3 es_4 es_5 y1.2.1 y10.1 ([] : List Int) y10.1.Parts (((List.length y10.1.Parts) : Nat) : Int) (0 : Int))) else (some (([] : List Int), (0 : Int), (3 : Int), es_4, es_5)))))) else (some (a_1, x_2, (0 : Int), es_4, es_5))) else (some (([] : List Int), (0 : Int), (3 : Int), es_4, es_5)) := fixF_eq roadref3_Carried_k.mono _
theorem roadref3_Carried.l0_eq (a_0 : List Int) (a_1 : List Int) (x_3 : Int) (es_io4 : (List (Int × Int))) (es_io5 : (List (Int × Bool))) (x_16 : Int) (y_20 : T_heap_Object) (a_21 : List Int) (a_64 : List Int) (x_65 : Int) (x_66 : Int) : roadref3_Carried.l0 a_0 a_1 x_3 es_io4 es_io5 x_16 y_20 a_21 a_64 x_65 x_66 = if x_66 < x_65 then (Option.bind (gi a_64 x_66) fun y1 => Option.bind ((roadref3_Carried a_0 a_1 y1 (IntKind.wrap .i64 (x_3 + (1 : Int))) es_io4 es_io5)) fun y8 => if y8.2.2.1 = (0 : Int) then (Option.bind (ap 8 a_21 ([y8.2.1] : List Int)) fun l29 => (roadref3_Carried.l0 a_0 y8.1 x_3 y8.2.2.2.1 y8.2.2.2.2 x_16 y_20 l29 a_64 x_65 (IntKind.wrap .i64 (x_66 + (1 : Int))))) else (some (([] : List Int), (0 : Int), y8.2.2.1, y8.2.2.2.1, y8.2.2.2.2))) else (Option.bind (roadref3_ObjectWords (T_heap_Object.mk y_20.At y_20.Kind y_20.Num y_20.Text a_21)) fun y45 => if (IntKind.wrap .i64 ((((List.length a_1) : Nat) : Int) + (((List.length y45) : Nat) : Int))) > (4000 : Int) then (some (([] : List Int), (0 : Int), (6 : Int), es_io4, es_io5)) else (if y_20.Kind = (5 : Int) then ((roadref3_Carried.j1 a_1 es_io4 es_io5 x_16 y45 (decide ((((List.length a_21) : Nat) : Int) > (0 : Int))))) else ((roadref3_Carried.j1 a_1 es_io4 es_io5 x_16 y45 false)))) := fixF_eq roadref3_Carried_k.mono _
def roadref3_Carried_k.I : (p : roadref3_Carried_k.Pt) → ((List Int) × Int × Int × (List (Int × Int)) × (List (Int × Bool))) → Prop
  | .f a_0 a_1 x_2 x_3 es_4 es_5, r => ∀ (W : Nat → Prop) (h m : Heap) (A_0 : Option Addr) (n_0 c_0 : Nat) (A_1 : Option Addr) (n_1 c_1 : Nat) (bkio4 : Nat) (bkio5 : Nat) (O : Hold W h m h m [rM (monoV0 (tell_int .u64)) (fun n : Int => Value.int .i64 n) bkio4 es_4, rM (monoV0 tell_bool) (fun n : Int => Value.int .i64 n) bkio5 es_5]) (ne_0 : n_0 = List.length a_0) (k_0 : List.length a_0 ≤ c_0) (r_0 : Rd 1 (eInt .u64) m A_0 a_0) (ne_1 : n_1 = List.length a_1) (k_1 : List.length a_1 ≤ c_1) (r_1 : Rd 1 (eInt .u64) m A_1 a_1), Run Try.prog 41 #[Value.slice A_0 n_0 c_0, Value.slice A_1 n_1 c_1, Value.int .u64 x_2, Value.int .i64 x_3, Value.map (some bkio4), Value.map (some bkio5)] h (roadref3_Carried.post W bkio4 bkio5 h m r)
  | .l0 a_0 a_1 x_3 es_io4 es_io5 x_16 y_20 a_21 a_64 x_65 x_66, r => ∀ (W : Nat → Prop) (h0 m0 h m : Heap) (A_0 : Option Addr) (n_0 c_0 : Nat) (A_1 : Option Addr) (n_1 c_1 : Nat) (bk_io4 : Nat) (bk_io5 : Nat) (bk_20 : Nat) (cs_20 : List Value) (A_21 : Option Addr) (n_21 c_21 : Nat) (A_64 : Option Addr) (n_64 c_64 : Nat) (O : Hold W h0 m0 h m [rM (monoV0 (tell_int .u64)) (fun n : Int => Value.int .i64 n) bk_io4 es_io4, rM (monoV0 tell_bool) (fun n : Int => Value.int .i64 n) bk_io5 es_io5, rV bk_20 152 cs_20, rR (aE (tell_int .u64)) A_21 c_21 a_21]) (ne_0 : n_0 = List.length a_0) (k_0 : List.length a_0 ≤ c_0) (r_0 : Rd 1 (eInt .u64) m A_0 a_0) (ne_1 : n_1 = List.length a_1) (k_1 : List.length a_1 ≤ c_1) (r_1 : Rd 1 (eInt .u64) m A_1 a_1) (e_20 : T_heap_Object.E m y_20 cs_20) (ne_21 : n_21 = List.length a_21) (ne_64 : n_64 = List.length a_64) (k_64 : List.length a_64 ≤ c_64) (r_64 : Rd 1 (eInt .u64) m A_64 a_64), f41.l0 (roadref3_Carried.post W bk_io4 bk_io5 h0 m0 r) A_0 n_0 c_0 A_1 n_1 c_1 x_3 (Value.map (some bk_io4)) (Value.map (some bk_io5)) x_16 (⟨bk_20, 0, none⟩ : Addr) A_21 n_21 c_21 A_64 n_64 c_64 x_65 x_66 h
set_option maxHeartbeats 4000000 in
set_option maxRecDepth 100000 in
theorem roadref3_Carried_k.step_f (go : (p : roadref3_Carried_k.Pt) → Option ((List Int) × Int × Int × (List (Int × Int)) × (List (Int × Bool)))) (ih : ∀ p r, go p = some r → roadref3_Carried_k.I p r) (a_0 : List Int) (a_1 : List Int) (x_2 : Int) (x_3 : Int) (es_4 : (List (Int × Int))) (es_5 : (List (Int × Bool))) (r : (List Int) × Int × Int × (List (Int × Int)) × (List (Int × Bool))) (e : roadref3_Carried_k.body go (.f a_0 a_1 x_2 x_3 es_4 es_5) = some r) : roadref3_Carried_k.I (.f a_0 a_1 x_2 x_3 es_4 es_5) r := by
  unfold roadref3_Carried_k.body at e
  intro W h m A_0 n_0 c_0 A_1 n_1 c_1 bkio4 bkio5 O ne_0 k_0 r_0 ne_1 k_1 r_1
  subst ne_0
  subst ne_1
  refine f41.run ?_
  unfold f41.runT
  obtain ⟨y1, g2, e⟩ := bind_e e
  refine (roadref3_TagRead.walk (Hold.start (W := No) O.s)  g2).mono ?_
  rintro _ h3 ⟨m4, Q5, rfl⟩
  have O7 := Hold.nm (O.retC Q5 vfs_nil)
  refine ⟨_, _, _, rfl, ?_⟩
  refine split_not ?_
  refine split_any_e e (fun c40 e => ?_) (fun c40 e => ?_)
  · refine split_ne_e e (fun c39 e => ?_) (fun c39 e => ?_)
    · cases e
      exact ⟨_, _, _, _, O7.pick [0, 1], rfl, rfl, k_1, r_1⟩
    · refine (O7.om 0 rfl).look2 (zv := (0 : Int)) (z := (Value.int .u64 (0 : Int))) (keyOk_int (key := 3) (elem := 77) (by kernel_rfl) (by kernel_rfl)) y1.2.1 (by kernel_rfl) rfl (fun v8 hv9 => ?_)
      obtain rfl : v8 = (Value.int .u64 (pgd es_4 y1.2.1 (0 : Int))) := (List.cons.inj (show [v8] = [(Value.int .u64 (pgd es_4 y1.2.1 (0 : Int)))] from hv9)).1
      refine ⟨_, _, rfl, ?_⟩
      refine split_any_e e (fun c38 e => ?_) (fun c38 e => ?_)
      · cases e
        exact ⟨_, _, _, _, O7.pick [0, 1], rfl, rfl, k_1, r_1⟩
      · refine split_dec_e e (fun c37 e => ?_) (fun c37 e => ?_)
        · cases e
          exact ⟨_, _, _, _, O7.pick [0, 1], rfl, rfl, (by exact Nat.le_refl 0), Rd.nil⟩
        · refine split_dec_e e (fun c36 e => ?_) (fun c36 e => ?_)
          · cases e
            exact ⟨_, _, _, _, O7.pick [0, 1], rfl, rfl, (by exact Nat.le_refl 0), Rd.nil⟩
          · obtain ⟨y10, g11, e⟩ := bind_e e
            refine (roadref3_ObjectAt.walk (Hold.start (W := No) O7.s) rfl k_0 r_0 g11).mono ?_
            rintro _ h12 ⟨m13, cs17, Q14, rfl, he18⟩
            have O19 := Hold.nm (O7.ret Q14)
            refine ⟨_, _, rfl, ?_⟩
            refine O19.new fun h20 x21 O22 => ?_
            refine ⟨_, rfl, (T_heap_Object.T.len _ _ _ he18), ?_⟩
            refine O22.stA 2 rfl (T_heap_Object.T.len _ _ _ he18) (T_heap_Object.T.flat _ _ _ he18) fun h24 O25 => ?_
            refine split_not ?_
            refine split_any_e e (fun c35 e => ?_) (fun c35 e => ?_)
            · obtain ⟨A26, c27, q28, k29, r30⟩ := T_heap_Object.g4 he18
              refine ⟨_, ldk (k := 4) (Sub.refl _) (O25.all 2 rfl) q28, _, _, _, rfl, ?_⟩
              have O31 := O25.nil (aE (tell_int .u64)) none
              have O33 := O31.nm
              exact (ih _ _ e) _ _ _ _ _ _ _ _ _ _ _ _ _ _ _ _ _ _ _ _ _ (O33.pick [0, 1, 2, 3]).nm rfl k_0 (r_0.sub (tell_int .u64) Q14.S.up) rfl k_1 (r_1.sub (tell_int .u64) Q14.S.up) he18 rfl rfl k29 r30
            · have O34 := O25.nm
              cases e
              exact ⟨_, _, _, _, O34.pick [0, 1], rfl, rfl, (by exact Nat.le_refl 0), Rd.nil⟩
  · cases e
    exact ⟨_, _, _, _, O7.pick [0, 1], rfl, rfl, (by exact Nat.le_refl 0), Rd.nil⟩
set_option maxHeartbeats 4000000 in
set_option maxRecDepth 100000 in
theorem roadref3_Carried_k.step_l0 (go : (p : roadref3_Carried_k.Pt) → Option ((List Int) × Int × Int × (List (Int × Int)) × (List (Int × Bool)))) (ih : ∀ p r, go p = some r → roadref3_Carried_k.I p r) (a_0 : List Int) (a_1 : List Int) (x_3 : Int) (es_io4 : (List (Int × Int))) (es_io5 : (List (Int × Bool))) (x_16 : Int) (y_20 : T_heap_Object) (a_21 : List Int) (a_64 : List Int) (x_65 : Int) (x_66 : Int) (r : (List Int) × Int × Int × (List (Int × Int)) × (List (Int × Bool))) (e : roadref3_Carried_k.body go (.l0 a_0 a_1 x_3 es_io4 es_io5 x_16 y_20 a_21 a_64 x_65 x_66) = some r) : roadref3_Carried_k.I (.l0 a_0 a_1 x_3 es_io4 es_io5 x_16 y_20 a_21 a_64 x_65 x_66) r := by
  unfold roadref3_Carried_k.body at e
  intro W h0 m0 h m A_0 n_0 c_0 A_1 n_1 c_1 bk_io4 bk_io5 bk_20 cs_20 A_21 n_21 c_21 A_64 n_64 c_64 O ne_0 k_0 r_0 ne_1 k_1 r_1 e_20 ne_21 ne_64 k_64 r_64
  subst ne_0
  subst ne_1
  subst ne_21
  subst ne_64
  refine f41.l0_in ?_
  unfold f41.l0T
  refine split_dec_e e (fun c67 e => ?_) (fun c67 e => ?_)
  · obtain ⟨y1, g2, e⟩ := bind_e e
    refine r_64.addr rfl g2 fun a3 cs4 ha5 hc6 he7 => ?_
    obtain rfl : cs4 = [(Value.int .u64 y1)] := he7
    refine ⟨_, ld0 O.s hc6 rfl, _, rfl, ?_⟩
    obtain ⟨y8, g9, e⟩ := bind_e e
    obtain ⟨W14, P15, B16, C17⟩ := O.callC [0, 1]
    refine ((ih _ _ g9) _ _ _ _ _ _ _ _ _ _ _ P15 rfl k_0 r_0 rfl k_1 r_1).mono ?_
    rintro _ h10 ⟨m11, A18, n19, c20, Q12, rfl, ne21, k22, r23⟩
    have O24 := Hold.nm (B16 Q12)
    subst ne21
    refine ⟨_, _, _, _, _, rfl, ?_⟩
    refine split_ne_e e (fun c39 e => ?_) (fun c39 e => ?_)
    · cases e
      exact ⟨_, _, _, _, O24.pick [4, 5], rfl, rfl, (by exact Nat.le_refl 0), Rd.nil⟩
    · refine O24.new fun h25 x26 O27 => ?_
      obtain ⟨l29, g30, e⟩ := bind_e e
      have O37 := O27.rowE (l := ([y8.2.1] : List Int)) 6 rfl (tell_int .u64) (show CsE _ _ _ _ _ from (CsE.cons (c1 := [(Value.int .u64 y8.2.1)]) rfl rfl CsE.nil)) rfl
      refine O37.app 3 rfl rfl rfl ((O37.os 6 rfl).srcE rfl) (by decide) g30 fun A31 c32 h33 O34 => ?_
      refine ⟨_, _, _, rfl, ?_⟩
      have O38 := O34.nm
      exact (ih _ _ e) _ _ _ _ _ _ _ _ _ _ _ _ _ _ _ _ _ _ _ _ _ (O38.pick [4, 5, 2, 3]).nm rfl k_0 (r_0.sub (tell_int .u64) Q12.S.up) rfl k22 r23 (T_heap_Object.T.mono _ _ _ _ Q12.S.up e_20) rfl rfl k_64 (r_64.sub (tell_int .u64) Q12.S.up)
  · obtain ⟨Ae42_4, ce42_4, rfl, ke42_4, re42_4⟩ := id e_20
    refine O.st 2 rfl 4 (Nat.le_of_ble_eq_true rfl) trivial fun h43 O44 => ?_
    refine ⟨_, ldAn (Sub.refl _) (O44.all 2 rfl) rfl, ?_⟩
    obtain ⟨y45, g46, e⟩ := bind_e e
    have O51 := O44.nm
    obtain ⟨m52, u53, s58, ⟨⟨r56, k57⟩, _⟩, B54, C55⟩ := O51.lend0 [3]
    replace r56 : Rd 1 (eInt .u64) m52 A_21 a_21 := r56
    replace k57 : List.length a_21 ≤ c_21 := k57
    refine (roadref3_ObjectWords.walk (Hold.start (W := No) s58) (show T_heap_Object.E _ (T_heap_Object.mk y_20.At y_20.Kind y_20.Num y_20.Text a_21) [(Value.int .i64 y_20.At), (Value.int .i64 y_20.Kind), (Value.int .i64 y_20.Num), (Value.string y_20.Text), (Value.slice A_21 (List.length a_21) c_21)] from ⟨_, _, rfl, k57, r56⟩) g46).mono ?_
    rintro _ h47 ⟨m48, A59, n60, c61, Q49, rfl, ne62⟩
    have O64 := Hold.nm (C55 Q49 (vfs_cons (rR_vf (aE_vf (fun _ _ _ _ h => h))) vfs_nil))
    subst ne62
    refine ⟨_, _, _, rfl, ?_⟩
    refine split_dec_e e (fun c66 e => ?_) (fun c66 e => ?_)
    · cases e
      exact ⟨_, _, _, _, O64.pick [0, 1], rfl, rfl, (by exact Nat.le_refl 0), Rd.nil⟩
    · refine ⟨_, ldk (k := 1) (Sub.refl _) (O64.all 2 rfl) rfl, _, rfl, ?_⟩
      refine split_eq_e e (fun c65 e => ?_) (fun c65 e => ?_)
      · exact roadref3_Carried.j1.walk (O64.pick [0, 1, 4]).nm rfl k_1 r_1 rfl e
      · exact roadref3_Carried.j1.walk (O64.pick [0, 1, 4]).nm rfl k_1 r_1 rfl e
theorem roadref3_Carried_k.all {p : roadref3_Carried_k.Pt} {r : ((List Int) × Int × Int × (List (Int × Int)) × (List (Int × Bool)))} (e : roadref3_Carried_k.go p = some r) : roadref3_Carried_k.I p r := fixF_ind (β := fun _ => ((List Int) × Int × Int × (List (Int × Int)) × (List (Int × Bool)))) roadref3_Carried_k.mono (I := roadref3_Carried_k.I) (fun go ih p r e => match p with
  | .f a_0 a_1 x_2 x_3 es_4 es_5 => roadref3_Carried_k.step_f go ih a_0 a_1 x_2 x_3 es_4 es_5 r e
  | .l0 a_0 a_1 x_3 es_io4 es_io5 x_16 y_20 a_21 a_64 x_65 x_66 => roadref3_Carried_k.step_l0 go ih a_0 a_1 x_3 es_io4 es_io5 x_16 y_20 a_21 a_64 x_65 x_66 r e
  ) e
theorem roadref3_Carried.walk {W : Nat → Prop} {h m : Heap} {A_0 : Option Addr} {n_0 c_0 : Nat} {A_1 : Option Addr} {n_1 c_1 : Nat} {bkio4 : Nat} {bkio5 : Nat} {a_0 : List Int} {a_1 : List Int} {x_2 : Int} {x_3 : Int} {es_4 : (List (Int × Int))} {es_5 : (List (Int × Bool))} (O : Hold W h m h m [rM (monoV0 (tell_int .u64)) (fun n : Int => Value.int .i64 n) bkio4 es_4, rM (monoV0 tell_bool) (fun n : Int => Value.int .i64 n) bkio5 es_5]) (ne_0 : n_0 = List.length a_0) (k_0 : List.length a_0 ≤ c_0) (r_0 : Rd 1 (eInt .u64) m A_0 a_0) (ne_1 : n_1 = List.length a_1) (k_1 : List.length a_1 ≤ c_1) (r_1 : Rd 1 (eInt .u64) m A_1 a_1) {r : (List Int) × Int × Int × (List (Int × Int)) × (List (Int × Bool))} (e : roadref3_Carried a_0 a_1 x_2 x_3 es_4 es_5 = some r) : Run Try.prog 41 #[Value.slice A_0 n_0 c_0, Value.slice A_1 n_1 c_1, Value.int .u64 x_2, Value.int .i64 x_3, Value.map (some bkio4), Value.map (some bkio5)] h (roadref3_Carried.post W bkio4 bkio5 h m r) := roadref3_Carried_k.all (p := .f a_0 a_1 x_2 x_3 es_4 es_5) e W h m A_0 n_0 c_0 A_1 n_1 c_1 bkio4 bkio5 O ne_0 k_0 r_0 ne_1 k_1 r_1
def roadref3_SameWords.post (W : Nat → Prop) (h0 m0 : Heap) (r : Bool) (v : Value) (h : Heap) : Prop := ∃ m , Hold W h0 m0 h m [] ∧ v = .bool r
inductive roadref3_SameWords.l0_k.Pt where
  | l0 (a_0 : List Int) (a_1 : List Int) (x_12 : Int) (x_13 : Int)
noncomputable def roadref3_SameWords.l0_k.body (go : (p : roadref3_SameWords.l0_k.Pt) → Option (Bool)) : (p : roadref3_SameWords.l0_k.Pt) → Option (Bool)
  | .l0 a_0 a_1 x_12 x_13 => if x_13 < x_12 then (Option.bind (gi a_0 x_13) fun y1 => Option.bind (gi a_1 x_13) fun y8 => if y1 = y8 then ((go (.l0 a_0 a_1 x_12 (IntKind.wrap .i64 (x_13 + (1 : Int)))))) else (some (false))) else (some (true))
theorem roadref3_SameWords.l0_k.mono : MonoF (β := fun _ => (Bool)) roadref3_SameWords.l0_k.body := fun f g hfg p => match p with
  | .l0 a_0 a_1 x_12 x_13 => LeO.ite (LeO.bind (LeO.refl _) fun y1 => LeO.bind (LeO.refl _) fun y8 => LeO.ite ((hfg _)) (LeO.refl _)) (LeO.refl _)
noncomputable def roadref3_SameWords.l0_k.go (p : roadref3_SameWords.l0_k.Pt) : Option (Bool) := fixF (β := fun _ => (Bool)) roadref3_SameWords.l0_k.body p
noncomputable def roadref3_SameWords.l0 (a_0 : List Int) (a_1 : List Int) (x_12 : Int) (x_13 : Int) : Option (Bool) := roadref3_SameWords.l0_k.go (.l0 a_0 a_1 x_12 x_13)
theorem roadref3_SameWords.l0_eq (a_0 : List Int) (a_1 : List Int) (x_12 : Int) (x_13 : Int) : roadref3_SameWords.l0 a_0 a_1 x_12 x_13 = if x_13 < x_12 then (Option.bind (gi a_0 x_13) fun y1 => Option.bind (gi a_1 x_13) fun y8 => if y1 = y8 then ((roadref3_SameWords.l0 a_0 a_1 x_12 (IntKind.wrap .i64 (x_13 + (1 : Int))))) else (some (false))) else (some (true)) := fixF_eq roadref3_SameWords.l0_k.mono _
def roadref3_SameWords.l0_k.I : (p : roadref3_SameWords.l0_k.Pt) → (Bool) → Prop
  | .l0 a_0 a_1 x_12 x_13, r => ∀ (W : Nat → Prop) (h0 m0 h m : Heap) (A_0 : Option Addr) (n_0 c_0 : Nat) (A_1 : Option Addr) (n_1 c_1 : Nat) (O : Hold W h0 m0 h m []) (ne_0 : n_0 = List.length a_0) (k_0 : List.length a_0 ≤ c_0) (r_0 : Rd 1 (eInt .u64) m A_0 a_0) (ne_1 : n_1 = List.length a_1) (k_1 : List.length a_1 ≤ c_1) (r_1 : Rd 1 (eInt .u64) m A_1 a_1), f43.l0 (roadref3_SameWords.post W h0 m0 r) A_0 n_0 c_0 A_1 n_1 c_1 x_12 x_13 h
set_option maxRecDepth 100000 in
theorem roadref3_SameWords.l0_k.step_l0 (go : (p : roadref3_SameWords.l0_k.Pt) → Option (Bool)) (ih : ∀ p r, go p = some r → roadref3_SameWords.l0_k.I p r) (a_0 : List Int) (a_1 : List Int) (x_12 : Int) (x_13 : Int) (r : Bool) (e : roadref3_SameWords.l0_k.body go (.l0 a_0 a_1 x_12 x_13) = some r) : roadref3_SameWords.l0_k.I (.l0 a_0 a_1 x_12 x_13) r := by
  unfold roadref3_SameWords.l0_k.body at e
  intro W h0 m0 h m A_0 n_0 c_0 A_1 n_1 c_1 O ne_0 k_0 r_0 ne_1 k_1 r_1
  subst ne_0
  subst ne_1
  refine f43.l0_in ?_
  unfold f43.l0T
  refine split_dec_e e (fun c16 e => ?_) (fun c16 e => ?_)
  · obtain ⟨y1, g2, e⟩ := bind_e e
    refine r_0.addr rfl g2 fun a3 cs4 ha5 hc6 he7 => ?_
    obtain rfl : cs4 = [(Value.int .u64 y1)] := he7
    obtain ⟨y8, g9, e⟩ := bind_e e
    refine r_1.addr rfl g9 fun a10 cs11 ha12 hc13 he14 => ?_
    obtain rfl : cs11 = [(Value.int .u64 y8)] := he14
    refine ⟨_, ld0 O.s hc6 rfl, _, rfl, ?_⟩
    refine ⟨_, ld0 O.s hc13 rfl, _, rfl, ?_⟩
    refine split_ne_e e (fun c15 e => ?_) (fun c15 e => ?_)
    · cases e
      exact ⟨_, O.pick [], rfl⟩
    · exact (ih _ _ e) _ _ _ _ _ _ _ _ _ _ _ (O.pick []).nm rfl k_0 r_0 rfl k_1 r_1
  · cases e
    exact ⟨_, O.pick [], rfl⟩
theorem roadref3_SameWords.l0_k.all {p : roadref3_SameWords.l0_k.Pt} {r : (Bool)} (e : roadref3_SameWords.l0_k.go p = some r) : roadref3_SameWords.l0_k.I p r := fixF_ind (β := fun _ => (Bool)) roadref3_SameWords.l0_k.mono (I := roadref3_SameWords.l0_k.I) (fun go ih p r e => match p with
  | .l0 a_0 a_1 x_12 x_13 => roadref3_SameWords.l0_k.step_l0 go ih a_0 a_1 x_12 x_13 r e
  ) e
theorem roadref3_SameWords.l0.walk {W : Nat → Prop} {h0 m0 h m : Heap} {A_0 : Option Addr} {n_0 c_0 : Nat} {A_1 : Option Addr} {n_1 c_1 : Nat} {a_0 : List Int} {a_1 : List Int} {x_12 : Int} {x_13 : Int} (O : Hold W h0 m0 h m []) (ne_0 : n_0 = List.length a_0) (k_0 : List.length a_0 ≤ c_0) (r_0 : Rd 1 (eInt .u64) m A_0 a_0) (ne_1 : n_1 = List.length a_1) (k_1 : List.length a_1 ≤ c_1) (r_1 : Rd 1 (eInt .u64) m A_1 a_1) {r : Bool} (e : roadref3_SameWords.l0 a_0 a_1 x_12 x_13 = some r) : f43.l0 (roadref3_SameWords.post W h0 m0 r) A_0 n_0 c_0 A_1 n_1 c_1 x_12 x_13 h := roadref3_SameWords.l0_k.all (p := .l0 a_0 a_1 x_12 x_13) e W h0 m0 h m A_0 n_0 c_0 A_1 n_1 c_1 O ne_0 k_0 r_0 ne_1 k_1 r_1
noncomputable def roadref3_SameWords (a_0 : List Int) (a_1 : List Int) : Option (Bool) :=
  if (((List.length a_0) : Nat) : Int) = (((List.length a_1) : Nat) : Int) then ((roadref3_SameWords.l0 a_0 a_1 (((List.length a_0) : Nat) : Int) (0 : Int))) else (some (false))
set_option maxRecDepth 100000 in
theorem roadref3_SameWords.walk {W : Nat → Prop} {h m : Heap} {A_0 : Option Addr} {n_0 c_0 : Nat} {A_1 : Option Addr} {n_1 c_1 : Nat} {a_0 : List Int} {a_1 : List Int} (O : Hold W h m h m []) (ne_0 : n_0 = List.length a_0) (k_0 : List.length a_0 ≤ c_0) (r_0 : Rd 1 (eInt .u64) m A_0 a_0) (ne_1 : n_1 = List.length a_1) (k_1 : List.length a_1 ≤ c_1) (r_1 : Rd 1 (eInt .u64) m A_1 a_1) {r : Bool} (e : roadref3_SameWords a_0 a_1 = some r) : Run Try.prog 43 #[Value.slice A_0 n_0 c_0, Value.slice A_1 n_1 c_1] h (roadref3_SameWords.post W h m r) := by
  unfold roadref3_SameWords at e
  subst ne_0
  subst ne_1
  refine f43.run ?_
  unfold f43.runT
  refine split_ne_e e (fun c1 e => ?_) (fun c1 e => ?_)
  · cases e
    exact ⟨_, O.pick [], rfl⟩
  · exact roadref3_SameWords.l0.walk (O.pick []).nm rfl k_0 r_0 rfl k_1 r_1 e
def roadlaw3_CarryTells.post (W : Nat → Prop) (h0 m0 : Heap) (r : Bool) (v : Value) (h : Heap) : Prop := ∃ m , Hold W h0 m0 h m [] ∧ v = .bool r
inductive roadlaw3_CarryTells.l0_k.Pt where
  | l0 (a_7 : List Int) (a_8 : List Int) (x_9 : Int) (x_10 : Int) (a_13 : List Int) (x_14 : Int) (a_16 : List Int) (es_72 : (List (Int × Bool))) (left_72 : (List (Int × Bool)))
noncomputable def roadlaw3_CarryTells.l0_k.body (go : (p : roadlaw3_CarryTells.l0_k.Pt) → Option (Bool)) : (p : roadlaw3_CarryTells.l0_k.Pt) → Option (Bool)
  | .l0 a_7 a_8 x_9 x_10 a_13 x_14 a_16 es_72 left_72 => pickF left_72 (Option.bind (roadref3_SameWords a_7 a_16) fun y13 => if y13 = true then (Option.bind (roadref3_SameWords a_8 a_13) fun y30 => if y30 = true then (if x_9 = x_14 then (some ((x_10 == (0 : Int)))) else (some (false))) else (some (false))) else (some (false))) fun z4 l10 => Option.bind (gi a_16 z4.1) fun y40 => Option.bind (some (List.set a_16 (Int.toNat z4.1) (1 : Int))) fun l49 => Option.bind (gi l49 (IntKind.wrap .i64 (z4.1 + (1 : Int)))) fun y51 => Option.bind (some (List.set l49 (Int.toNat (IntKind.wrap .i64 (z4.1 + (1 : Int)))) (0 : Int))) fun l60 => (go (.l0 a_7 a_8 x_9 x_10 a_13 x_14 l60 es_72 l10))
theorem roadlaw3_CarryTells.l0_k.mono : MonoF (β := fun _ => (Bool)) roadlaw3_CarryTells.l0_k.body := fun f g hfg p => match p with
  | .l0 a_7 a_8 x_9 x_10 a_13 x_14 a_16 es_72 left_72 => LeO.pick (LeO.bind (LeO.refl _) fun y13 => LeO.ite (LeO.bind (LeO.refl _) fun y30 => LeO.ite (LeO.ite (LeO.refl _) (LeO.refl _)) (LeO.refl _)) (LeO.refl _)) fun z4 l10 => LeO.bind (LeO.refl _) fun y40 => LeO.bind (LeO.refl _) fun l49 => LeO.bind (LeO.refl _) fun y51 => LeO.bind (LeO.refl _) fun l60 => (hfg _)
noncomputable def roadlaw3_CarryTells.l0_k.go (p : roadlaw3_CarryTells.l0_k.Pt) : Option (Bool) := fixF (β := fun _ => (Bool)) roadlaw3_CarryTells.l0_k.body p
noncomputable def roadlaw3_CarryTells.l0 (a_7 : List Int) (a_8 : List Int) (x_9 : Int) (x_10 : Int) (a_13 : List Int) (x_14 : Int) (a_16 : List Int) (es_72 : (List (Int × Bool))) (left_72 : (List (Int × Bool))) : Option (Bool) := roadlaw3_CarryTells.l0_k.go (.l0 a_7 a_8 x_9 x_10 a_13 x_14 a_16 es_72 left_72)
theorem roadlaw3_CarryTells.l0_eq (a_7 : List Int) (a_8 : List Int) (x_9 : Int) (x_10 : Int) (a_13 : List Int) (x_14 : Int) (a_16 : List Int) (es_72 : (List (Int × Bool))) (left_72 : (List (Int × Bool))) : roadlaw3_CarryTells.l0 a_7 a_8 x_9 x_10 a_13 x_14 a_16 es_72 left_72 = pickF left_72 (Option.bind (roadref3_SameWords a_7 a_16) fun y13 => if y13 = true then (Option.bind (roadref3_SameWords a_8 a_13) fun y30 => if y30 = true then (if x_9 = x_14 then (some ((x_10 == (0 : Int)))) else (some (false))) else (some (false))) else (some (false))) fun z4 l10 => Option.bind (gi a_16 z4.1) fun y40 => Option.bind (some (List.set a_16 (Int.toNat z4.1) (1 : Int))) fun l49 => Option.bind (gi l49 (IntKind.wrap .i64 (z4.1 + (1 : Int)))) fun y51 => Option.bind (some (List.set l49 (Int.toNat (IntKind.wrap .i64 (z4.1 + (1 : Int)))) (0 : Int))) fun l60 => (roadlaw3_CarryTells.l0 a_7 a_8 x_9 x_10 a_13 x_14 l60 es_72 l10) := fixF_eq roadlaw3_CarryTells.l0_k.mono _
def roadlaw3_CarryTells.l0_k.I : (p : roadlaw3_CarryTells.l0_k.Pt) → (Bool) → Prop
  | .l0 a_7 a_8 x_9 x_10 a_13 x_14 a_16 es_72 left_72, r => ∀ (W : Nat → Prop) (h0 m0 h m : Heap) (A_7 : Option Addr) (n_7 c_7 : Nat) (A_8 : Option Addr) (n_8 c_8 : Nat) (A_13 : Option Addr) (n_13 c_13 : Nat) (A_16 : Option Addr) (n_16 c_16 : Nat) (bk_72 : Nat) (it_72 : Nat) (O : Hold W h0 m0 h m [rR (aE (tell_int .u64)) A_7 c_7 a_7, rR (aE (tell_int .u64)) A_16 c_16 a_16, rMI (monoV0 tell_bool) (fun n : Int => Value.int .i64 n) bk_72 it_72 es_72 left_72]) (ne_7 : n_7 = List.length a_7) (ne_8 : n_8 = List.length a_8) (k_8 : List.length a_8 ≤ c_8) (r_8 : Rd 1 (eInt .u64) m A_8 a_8) (ne_13 : n_13 = List.length a_13) (k_13 : List.length a_13 ≤ c_13) (r_13 : Rd 1 (eInt .u64) m A_13 a_13) (ne_16 : n_16 = List.length a_16), f6.l0 (roadlaw3_CarryTells.post W h0 m0 r) A_7 n_7 c_7 A_8 n_8 c_8 x_9 x_10 A_13 n_13 c_13 x_14 A_16 n_16 c_16 (Value.pointer (some ⟨it_72, 0, none⟩)) h
set_option maxHeartbeats 4000000 in
set_option maxRecDepth 100000 in
theorem roadlaw3_CarryTells.l0_k.step_l0 (go : (p : roadlaw3_CarryTells.l0_k.Pt) → Option (Bool)) (ih : ∀ p r, go p = some r → roadlaw3_CarryTells.l0_k.I p r) (a_7 : List Int) (a_8 : List Int) (x_9 : Int) (x_10 : Int) (a_13 : List Int) (x_14 : Int) (a_16 : List Int) (es_72 : (List (Int × Bool))) (left_72 : (List (Int × Bool))) (r : Bool) (e : roadlaw3_CarryTells.l0_k.body go (.l0 a_7 a_8 x_9 x_10 a_13 x_14 a_16 es_72 left_72) = some r) : roadlaw3_CarryTells.l0_k.I (.l0 a_7 a_8 x_9 x_10 a_13 x_14 a_16 es_72 left_72) r := by
  unfold roadlaw3_CarryTells.l0_k.body at e
  intro W h0 m0 h m A_7 n_7 c_7 A_8 n_8 c_8 A_13 n_13 c_13 A_16 n_16 c_16 bk_72 it_72 O ne_7 ne_8 k_8 r_8 ne_13 k_13 r_13 ne_16
  subst ne_7
  subst ne_8
  subst ne_13
  subst ne_16
  refine f6.l0_in ?_
  unfold f6.l0T
  refine O.mapNext 2 rfl (fun w12 O1 => ?_) (fun j3 z4 l10 v5 h6 g7 q11 hv8 O2 hn9 => ?_)
  · replace e := pick_a e w12
    obtain ⟨y13, g14, e⟩ := bind_e e
    have O19 := O1.nm
    obtain ⟨m20, u21, s28, ⟨⟨r24, k25⟩, ⟨r26, k27⟩, _⟩, B22, C23⟩ := O19.lend0 [0, 1]
    replace r24 : Rd 1 (eInt .u64) m20 A_7 a_7 := r24
    replace k25 : List.length a_7 ≤ c_7 := k25
    replace r26 : Rd 1 (eInt .u64) m20 A_16 a_16 := r26
    replace k27 : List.length a_16 ≤ c_16 := k27
    refine (roadref3_SameWords.walk (Hold.start (W := No) s28) rfl k25 r24 rfl k27 r26 g14).mono ?_
    rintro _ h15 ⟨m16, Q17, rfl⟩
    have O29 := Hold.nm (C23 Q17 vfs_nil)
    refine ⟨_, rfl, ?_⟩
    refine split_any_e e (fun c39 e => ?_) (fun c39 e => ?_)
    · obtain ⟨y30, g31, e⟩ := bind_e e
      refine (roadref3_SameWords.walk (Hold.start (W := No) O29.s) rfl k_8 r_8 rfl k_13 r_13 g31).mono ?_
      rintro _ h32 ⟨m33, Q34, rfl⟩
      have O36 := Hold.nm (O29.retC Q34 vfs_nil)
      refine ⟨_, rfl, ?_⟩
      refine split_any_e e (fun c38 e => ?_) (fun c38 e => ?_)
      · refine split_eq_e e (fun c37 e => ?_) (fun c37 e => ?_)
        · cases e
          exact ⟨_, O36.pick [], rfl⟩
        · cases e
          exact ⟨_, O36.pick [], rfl⟩
      · cases e
        exact ⟨_, O36.pick [], rfl⟩
    · cases e
      exact ⟨_, O29.pick [], rfl⟩
  · replace e := pick_b e g7 q11
    refine hn9 _ ?_
    obtain rfl : v5 = (Value.bool z4.2) := (List.cons.inj (show [v5] = [(Value.bool z4.2)] from hv8)).1
    refine ⟨_, _, rfl, ?_⟩
    obtain ⟨y40, g41, e⟩ := bind_e e
    refine (O2.os 1 rfl).addr rfl g41 fun a42 cs43 ha44 hc45 he46 => ?_
    obtain rfl : cs43 = [(Value.int .u64 y40)] := he46
    obtain ⟨l49, g50, e⟩ := bind_e e
    replace g50 := Option.some.inj g50
    refine O2.elst0 1 rfl g41 ha44 hc45 (by decide) (y' := (1 : Int)) rfl trivial g50 fun h47 O48 => ?_
    obtain ⟨y51, g52, e⟩ := bind_e e
    refine (O48.os 1 rfl).addr (lset' g50) g52 fun a53 cs54 ha55 hc56 he57 => ?_
    obtain rfl : cs54 = [(Value.int .u64 y51)] := he57
    obtain ⟨l60, g61, e⟩ := bind_e e
    replace g61 := Option.some.inj g61
    refine O48.elst0 1 rfl g52 ha55 hc56 (by decide) (y' := (0 : Int)) rfl trivial g61 fun h58 O59 => ?_
    have O62 := O59.nm
    exact (ih _ _ e) _ _ _ _ _ _ _ _ _ _ _ _ _ _ _ _ _ _ _ (O62.pick [0, 1, 2]).nm rfl rfl k_8 r_8 rfl k_13 r_13 ((lset' g50).trans (lset' g61))
theorem roadlaw3_CarryTells.l0_k.all {p : roadlaw3_CarryTells.l0_k.Pt} {r : (Bool)} (e : roadlaw3_CarryTells.l0_k.go p = some r) : roadlaw3_CarryTells.l0_k.I p r := fixF_ind (β := fun _ => (Bool)) roadlaw3_CarryTells.l0_k.mono (I := roadlaw3_CarryTells.l0_k.I) (fun go ih p r e => match p with
  | .l0 a_7 a_8 x_9 x_10 a_13 x_14 a_16 es_72 left_72 => roadlaw3_CarryTells.l0_k.step_l0 go ih a_7 a_8 x_9 x_10 a_13 x_14 a_16 es_72 left_72 r e
  ) e
theorem roadlaw3_CarryTells.l0.walk {W : Nat → Prop} {h0 m0 h m : Heap} {A_7 : Option Addr} {n_7 c_7 : Nat} {A_8 : Option Addr} {n_8 c_8 : Nat} {A_13 : Option Addr} {n_13 c_13 : Nat} {A_16 : Option Addr} {n_16 c_16 : Nat} {bk_72 : Nat} {it_72 : Nat} {a_7 : List Int} {a_8 : List Int} {x_9 : Int} {x_10 : Int} {a_13 : List Int} {x_14 : Int} {a_16 : List Int} {es_72 : (List (Int × Bool))} {left_72 : (List (Int × Bool))} (O : Hold W h0 m0 h m [rR (aE (tell_int .u64)) A_7 c_7 a_7, rR (aE (tell_int .u64)) A_16 c_16 a_16, rMI (monoV0 tell_bool) (fun n : Int => Value.int .i64 n) bk_72 it_72 es_72 left_72]) (ne_7 : n_7 = List.length a_7) (ne_8 : n_8 = List.length a_8) (k_8 : List.length a_8 ≤ c_8) (r_8 : Rd 1 (eInt .u64) m A_8 a_8) (ne_13 : n_13 = List.length a_13) (k_13 : List.length a_13 ≤ c_13) (r_13 : Rd 1 (eInt .u64) m A_13 a_13) (ne_16 : n_16 = List.length a_16) {r : Bool} (e : roadlaw3_CarryTells.l0 a_7 a_8 x_9 x_10 a_13 x_14 a_16 es_72 left_72 = some r) : f6.l0 (roadlaw3_CarryTells.post W h0 m0 r) A_7 n_7 c_7 A_8 n_8 c_8 x_9 x_10 A_13 n_13 c_13 x_14 A_16 n_16 c_16 (Value.pointer (some ⟨it_72, 0, none⟩)) h := roadlaw3_CarryTells.l0_k.all (p := .l0 a_7 a_8 x_9 x_10 a_13 x_14 a_16 es_72 left_72) e W h0 m0 h m A_7 n_7 c_7 A_8 n_8 c_8 A_13 n_13 c_13 A_16 n_16 c_16 bk_72 it_72 O ne_7 ne_8 k_8 r_8 ne_13 k_13 r_13 ne_16
noncomputable def roadlaw3_CarryTells.j1 (a_0 : List Int) (a_7 : List Int) (a_8 : List Int) (x_9 : Int) (x_10 : Int) (x_12 : Int) (a_13 : List Int) (x_14 : Int) (es_15 : (List (Int × Bool))) : Option (Bool) :=
  if x_12 = (0 : Int) then (Option.bind (slices_Clone_42 a_0) fun y3 => (roadlaw3_CarryTells.l0 a_7 a_8 x_9 x_10 a_13 x_14 y3 es_15 es_15)) else (if (IntKind.wrap .i64 ((((List.length a_7) : Nat) : Int) + (((List.length a_8) : Nat) : Int))) = (0 : Int) then (if x_9 = (0 : Int) then (some ((x_10 == x_12))) else (some (false))) else (some (false)))
set_option maxRecDepth 100000 in
theorem roadlaw3_CarryTells.j1.walk {W : Nat → Prop} {h0 m0 h m : Heap} {A_0 : Option Addr} {n_0 c_0 : Nat} {A_7 : Option Addr} {n_7 c_7 : Nat} {A_8 : Option Addr} {n_8 c_8 : Nat} {A_13 : Option Addr} {n_13 c_13 : Nat} {bk_15 : Nat} {a_0 : List Int} {a_7 : List Int} {a_8 : List Int} {x_9 : Int} {x_10 : Int} {x_12 : Int} {a_13 : List Int} {x_14 : Int} {es_15 : (List (Int × Bool))} (O : Hold W h0 m0 h m [rR (aE (tell_int .u64)) A_7 c_7 a_7, rM (monoV0 tell_bool) (fun n : Int => Value.int .i64 n) bk_15 es_15]) (ne_0 : n_0 = List.length a_0) (k_0 : List.length a_0 ≤ c_0) (r_0 : Rd 1 (eInt .u64) m A_0 a_0) (ne_7 : n_7 = List.length a_7) (ne_8 : n_8 = List.length a_8) (k_8 : List.length a_8 ≤ c_8) (r_8 : Rd 1 (eInt .u64) m A_8 a_8) (ne_13 : n_13 = List.length a_13) (k_13 : List.length a_13 ≤ c_13) (r_13 : Rd 1 (eInt .u64) m A_13 a_13) {r : Bool} (e : roadlaw3_CarryTells.j1 a_0 a_7 a_8 x_9 x_10 x_12 a_13 x_14 es_15 = some r) : f6.j1 (roadlaw3_CarryTells.post W h0 m0 r) A_0 n_0 c_0 A_7 n_7 c_7 A_8 n_8 c_8 x_9 x_10 x_12 A_13 n_13 c_13 x_14 (Value.map (some bk_15)) h := by
  unfold roadlaw3_CarryTells.j1 at e
  subst ne_0
  subst ne_7
  subst ne_8
  subst ne_13
  refine f6.j1_in ?_
  unfold f6.j1T
  refine split_ne_e e (fun c19 e => ?_) (fun c19 e => ?_)
  · refine split_eq_e e (fun c2 e => ?_) (fun c2 e => ?_)
    · refine split_eq_e e (fun c1 e => ?_) (fun c1 e => ?_)
      · cases e
        exact ⟨_, O.pick [], rfl⟩
      · cases e
        exact ⟨_, O.pick [], rfl⟩
    · cases e
      exact ⟨_, O.pick [], rfl⟩
  · obtain ⟨y3, g4, e⟩ := bind_e e
    refine (slices_Clone_42.walk (Hold.start (W := No) O.s) rfl k_0 r_0 g4).mono ?_
    rintro _ h5 ⟨m6, A9, n10, c11, Q7, rfl, ne12⟩
    have O14 := Hold.nm (O.retC Q7 (vfs_cons (rR_vf (aE_vf (fun _ _ _ _ h => h))) vfs_nil))
    subst ne12
    refine ⟨_, _, _, rfl, ?_⟩
    refine O14.mapRange (key := 3) (elem := 4) 1 rfl (by kernel_rfl) fun h15 x16 O17 => ?_
    have O18 := O17.nm
    exact roadlaw3_CarryTells.l0.walk (O18.pick [0, 2, 1]).nm rfl rfl k_8 r_8 rfl k_13 r_13 rfl e
noncomputable def roadlaw3_CarryTells.j0 (a_0 : List Int) (a_1 : List Int) (x_2 : Int) (a_7 : List Int) (a_8 : List Int) (x_9 : Int) (x_10 : Int) (x_12 : Int) : Option (Bool) :=
  if x_12 = (0 : Int) then (Option.bind (roadref3_Carried a_0 a_1 x_2 (1 : Int) ([] : (List (Int × Int))) ([] : (List (Int × Bool)))) fun y9 => (roadlaw3_CarryTells.j1 a_0 a_7 a_8 x_9 x_10 y9.2.2.1 y9.1 y9.2.1 y9.2.2.2.2)) else ((roadlaw3_CarryTells.j1 a_0 a_7 a_8 x_9 x_10 x_12 ([] : List Int) (0 : Int) ([] : (List (Int × Bool)))))
set_option maxRecDepth 100000 in
theorem roadlaw3_CarryTells.j0.walk {W : Nat → Prop} {h0 m0 h m : Heap} {A_0 : Option Addr} {n_0 c_0 : Nat} {A_1 : Option Addr} {n_1 c_1 : Nat} {A_7 : Option Addr} {n_7 c_7 : Nat} {A_8 : Option Addr} {n_8 c_8 : Nat} {a_0 : List Int} {a_1 : List Int} {x_2 : Int} {a_7 : List Int} {a_8 : List Int} {x_9 : Int} {x_10 : Int} {x_12 : Int} (O : Hold W h0 m0 h m [rR (aE (tell_int .u64)) A_7 c_7 a_7]) (ne_0 : n_0 = List.length a_0) (k_0 : List.length a_0 ≤ c_0) (r_0 : Rd 1 (eInt .u64) m A_0 a_0) (ne_1 : n_1 = List.length a_1) (k_1 : List.length a_1 ≤ c_1) (r_1 : Rd 1 (eInt .u64) m A_1 a_1) (ne_7 : n_7 = List.length a_7) (ne_8 : n_8 = List.length a_8) (k_8 : List.length a_8 ≤ c_8) (r_8 : Rd 1 (eInt .u64) m A_8 a_8) {r : Bool} (e : roadlaw3_CarryTells.j0 a_0 a_1 x_2 a_7 a_8 x_9 x_10 x_12 = some r) : f6.j0 (roadlaw3_CarryTells.post W h0 m0 r) A_0 n_0 c_0 A_1 n_1 c_1 x_2 A_7 n_7 c_7 A_8 n_8 c_8 x_9 x_10 x_12 h := by
  unfold roadlaw3_CarryTells.j0 at e
  subst ne_0
  subst ne_1
  subst ne_7
  subst ne_8
  refine f6.j0_in ?_
  unfold f6.j0T
  refine O.mkMap (ν := Bool) (monoV0 tell_bool) (fun n : Int => Value.int .i64 n) fun h1 x2 O3 => ?_
  refine split_eq_e e (fun c28 e => ?_) (fun c28 e => ?_)
  · refine O3.mkMap (ν := Int) (monoV0 (tell_int .u64)) (fun n : Int => Value.int .i64 n) fun h5 x6 O7 => ?_
    obtain ⟨y9, g10, e⟩ := bind_e e
    have O15 := O7.nm
    obtain ⟨W16, P17, B18, C19⟩ := O15.callC [2, 1]
    refine (roadref3_Carried.walk P17 rfl k_0 r_0 rfl k_1 r_1 g10).mono ?_
    rintro _ h11 ⟨m12, A20, n21, c22, Q13, rfl, ne23, k24, r25⟩
    have O26 := Hold.nm (B18 Q13)
    subst ne23
    refine ⟨_, _, _, _, _, rfl, ?_⟩
    exact roadlaw3_CarryTells.j1.walk (O26.pick [0, 4]).nm rfl k_0 (r_0.sub (tell_int .u64) Q13.S.up) rfl rfl k_8 (r_8.sub (tell_int .u64) Q13.S.up) rfl k24 r25 e
  · have O27 := O3.nm
    exact roadlaw3_CarryTells.j1.walk (O27.pick [0, 1]).nm rfl k_0 r_0 rfl rfl k_8 r_8 rfl (by exact Nat.le_refl 0) Rd.nil e
noncomputable def roadlaw3_CarryTells (a_0 : List Int) (a_1 : List Int) (x_2 : Int) : Option (Bool) :=
  Option.bind (carry_Over a_0 a_1 x_2) fun y1 => Option.bind (roadref3_HeapObjects a_0) fun y19 => if y19.2 = (0 : Int) then (Option.bind (roadref3_HeapObjects a_1) fun y31 => (roadlaw3_CarryTells.j0 a_0 a_1 x_2 y1.1 y1.2.1 y1.2.2.1 y1.2.2.2 y31.2)) else ((roadlaw3_CarryTells.j0 a_0 a_1 x_2 y1.1 y1.2.1 y1.2.2.1 y1.2.2.2 y19.2))
set_option maxRecDepth 100000 in
theorem roadlaw3_CarryTells.walk {W : Nat → Prop} {h m : Heap} {A_0 : Option Addr} {n_0 c_0 : Nat} {A_1 : Option Addr} {n_1 c_1 : Nat} {a_0 : List Int} {a_1 : List Int} {x_2 : Int} (O : Hold W h m h m []) (ne_0 : n_0 = List.length a_0) (k_0 : List.length a_0 ≤ c_0) (r_0 : Rd 1 (eInt .u64) m A_0 a_0) (ne_1 : n_1 = List.length a_1) (k_1 : List.length a_1 ≤ c_1) (r_1 : Rd 1 (eInt .u64) m A_1 a_1) {r : Bool} (e : roadlaw3_CarryTells a_0 a_1 x_2 = some r) : Run Try.prog 6 #[Value.slice A_0 n_0 c_0, Value.slice A_1 n_1 c_1, Value.int .u64 x_2] h (roadlaw3_CarryTells.post W h m r) := by
  unfold roadlaw3_CarryTells at e
  subst ne_0
  subst ne_1
  refine f6.run ?_
  unfold f6.runT
  obtain ⟨y1, g2, e⟩ := bind_e e
  refine (carry_Over.walk (Hold.start (W := No) O.s) rfl k_0 r_0 rfl k_1 r_1 g2).mono ?_
  rintro _ h3 ⟨m4, A7, n8, c9, A12, n13, c14, Q5, rfl, ne10, ne15, k16, r17⟩
  have O18 := Hold.nm (O.ret Q5)
  subst ne10
  subst ne15
  refine ⟨_, _, _, _, _, _, _, _, rfl, ?_⟩
  obtain ⟨y19, g20, e⟩ := bind_e e
  refine (roadref3_HeapObjects.walk (Hold.start (W := No) O18.s) rfl k_0 (r_0.sub (tell_int .u64) Q5.S.up) g20).mono ?_
  rintro _ h21 ⟨m22, A25, n26, c27, Q23, rfl, ne28⟩
  have O30 := Hold.nm (O18.ret Q23)
  subst ne28
  refine ⟨_, _, _, _, rfl, ?_⟩
  refine split_eq_e e (fun c43 e => ?_) (fun c43 e => ?_)
  · obtain ⟨y31, g32, e⟩ := bind_e e
    refine (roadref3_HeapObjects.walk (Hold.start (W := No) O30.s) rfl k_1 (r_1.sub (tell_int .u64) (Q5.S.up.trans Q23.S.up)) g32).mono ?_
    rintro _ h33 ⟨m34, A37, n38, c39, Q35, rfl, ne40⟩
    have O42 := Hold.nm (O30.ret Q35)
    subst ne40
    refine ⟨_, _, _, _, rfl, ?_⟩
    exact roadlaw3_CarryTells.j0.walk (O42.pick [0]).nm rfl k_0 (r_0.sub (tell_int .u64) (Q5.S.up.trans (Q23.S.up.trans Q35.S.up))) rfl k_1 (r_1.sub (tell_int .u64) (Q5.S.up.trans (Q23.S.up.trans Q35.S.up))) rfl rfl k16 (r17.sub (tell_int .u64) (Q23.S.up.trans Q35.S.up)) e
  · exact roadlaw3_CarryTells.j0.walk (O30.pick [0]).nm rfl k_0 (r_0.sub (tell_int .u64) (Q5.S.up.trans Q23.S.up)) rfl k_1 (r_1.sub (tell_int .u64) (Q5.S.up.trans Q23.S.up)) rfl rfl k16 (r17.sub (tell_int .u64) Q23.S.up) e
end Go.Proofs.Ytnlocljmalhddaa.Fw

end
