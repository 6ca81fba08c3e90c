/- Structs and arrays within each other, compared. -/
import Derived.Test.YtklobcelbpjjcacHwOf
set_option linter.unusedVariables false
namespace Go.Hw
open Go Go.RowKit
def partB (P : Program) (t : TypeId) (cs : Array Value) (off : Nat) : Option Value :=
  match P.underlying t with
  | some D => match isAggD D with
    | true => match P.info? t with
      | some i => some (.agg ((cs.toList.drop off).take i.size).toArray)
      | none => none
    | false => cs[off]?
  | none => none
def fldsB (P : Program) (q : TypeId → Value → Value → Option Bool) (xs ys : Array Value) : List Field → Option Bool
  | [] => some true
  | f :: fs => match decide (f.name ≠ "_") with
    | false => fldsB P q xs ys fs
    | true => match partB P f.type xs f.offset, partB P f.type ys f.offset with
      | some x, some y => match q f.type x y with
        | some b => match fldsB P q xs ys fs with
          | some c => some (b && c)
          | none => none
        | none => none
      | _, _ => none
def elsB (P : Program) (q : TypeId → Value → Value → Option Bool) (e : TypeId) (s : Nat) (xs ys : Array Value) : List Nat → Option Bool
  | [] => some true
  | i :: r => match partB P e xs (i * s), partB P e ys (i * s) with
    | some x, some y => match q e x y with
      | some b => match elsB P q e s xs ys r with
        | some c => some (b && c)
        | none => none
      | none => none
    | _, _ => none
def eqB (P : Program) : Nat → TypeId → Value → Value → Option Bool
  | 0, _, _, _ => none
  | d + 1, t, x, y => match x, y with
    | .agg xs, .agg ys => match P.underlying t with
      | some (.struct fs) => match P.stoodInHeld t with
        | false => fldsB P (eqB P d) xs ys fs.toList
        | true => none
      | some (.array n e) => match P.info? e with
        | some i => elsB P (eqB P d) e i.size xs ys (List.range' 0 n)
        | none => none
      | _ => none
    | x, y => flatB P t x y
def aggN (P : Program) (t : TypeId) (xs ys : Array Value) : Option Bool :=
  match P.eqGuardType P.depth t with
  | false => eqB P 8 t (.agg xs) (.agg ys)
  | true => none
section
variable {P : Program} {t : TypeId}
theorem hwp_partB {cs : Array Value} {off : Nat} {v : Value} {h : Heap} {K : Value → Heap → Prop} (hv : partB P t cs off = some v) (hk : K v h) : Hwp P (part t cs off) h K := by
  unfold partB at hv
  split at hv
  · rename_i D hu
    unfold part
    refine hwp_bind (hwp_isAgg hu ?_)
    cases hd : isAggD D with
    | true =>
      rw [hd] at hv
      simp only at hv
      split at hv
      · rename_i i hi
        cases hv
        rw [if_pos rfl]
        refine hwp_bind (hwp_sizeOf hi ?_)
        have : cs.extract off (off + i.size) = ((cs.toList.drop off).take i.size).toArray := by
          apply Array.ext'
          rw [Array.toList_extract]
          simp [List.extract_eq_take_drop]
        rw [this]
        exact hk
      · cases hv
    | false =>
      rw [hd] at hv
      simp only at hv
      simp only [Bool.false_eq_true, if_false, hv]
      exact hk
  · cases hv
theorem eqB_spec : ∀ (d : Nat) {t : TypeId} {x y : Value} {b : Bool}, eqB P d t x y = some b → ∀ k, EqF P (d + 1 + k) t x y b := by
  intro d
  induction d with
  | zero => intro t x y b h; cases h
  | succ d ih =>
    intro t x y b hb k
    unfold eqB at hb
    split at hb
    · rename_i xs ys
      split at hb
      · rename_i fs hu
        split at hb
        · rename_i hp
          intro h K hk
          rw [show d + 1 + 1 + k = (d + 1 + k) + 1 by omega]
          unfold Op.equalIn
          refine hwp_bind (hwp_underlying hu ?_)
          refine hwp_bind (hwp_program ?_)
          rw [hp]
          simp only [Bool.false_eq_true, if_false]
          rw [← Array.forIn_toList]
          clear hu
          generalize fs.toList = l at *
          refine hwp_bind ?_
          induction l generalizing b with
          | nil => cases hb; exact hk
          | cons f l ih2 =>
            rw [List.forIn_cons]
            unfold fldsB at hb
            by_cases hn : f.name ≠ "_"
            · rw [decide_eq_true hn] at hb
              rw [if_pos hn]
              simp only at hb
              split at hb
              · rename_i x y hx hy
                split at hb
                · rename_i b1 h1
                  split at hb
                  · rename_i c hc
                    cases hb
                    have he := ih h1 k
                    refine hwp_bind (hwp_bind (hwp_partB hx (hwp_bind (hwp_partB hy (hwp_bind (he _ _ ?_))))))
                    cases b1 with
                    | false => exact hk
                    | true => exact ih2 hk hc
                  · cases hb
                · cases hb
              · cases hb
            · rw [decide_eq_false hn] at hb
              rw [if_neg hn]
              exact hwp_bind (hwp_pure (P := P) (ih2 hk hb))
        · cases hb
      · rename_i n e hu
        split at hb
        · rename_i i hi
          intro h K hk
          rw [show d + 1 + 1 + k = (d + 1 + k) + 1 by omega]
          unfold Op.equalIn
          refine hwp_bind (hwp_underlying hu ?_)
          refine hwp_bind (hwp_sizeOf hi ?_)
          simp only [Std.Legacy.Range.forIn_eq_forIn_range', Std.Legacy.Range.size, Nat.sub_zero, Nat.add_sub_cancel, Nat.div_one]
          clear hu
          generalize List.range' 0 n = l at *
          refine hwp_bind ?_
          induction l generalizing b with
          | nil => cases hb; exact hk
          | cons f l ih2 =>
            rw [List.forIn_cons]
            unfold elsB at hb
            split at hb
            · rename_i x y hx hy
              split at hb
              · rename_i b1 h1
                split at hb
                · rename_i c hc
                  cases hb
                  have he := ih h1 k
                  refine hwp_bind (hwp_bind (hwp_partB hx (hwp_bind (hwp_partB hy (hwp_bind (he _ _ ?_))))))
                  cases b1 with
                  | false => exact hk
                  | true => exact ih2 hk hc
                · cases hb
              · cases hb
            · cases hb
        · cases hb
      · cases hb
    · rw [show d + 1 + 1 + k = (d + 1 + k) + 1 by omega]
      exact (flatB_spec (d := d + 1 + k) hb).1
theorem equal_aggN {xs ys : Array Value} {b : Bool} {h : Heap} {K : Bool → Heap → Prop} (hb : aggN P t xs ys = some b) (hk : K b h) : Hwp P (Op.equal t (.agg xs) (.agg ys)) h K := by
  unfold aggN at hb
  split at hb
  · exact eqB_spec 8 hb 9991 h K hk
  · cases hb
theorem guard_aggN {xs ys : Array Value} {b : Bool} {h : Heap} {op : BinOp} {xo yo : Operand} {K : Unit → Heap → Prop} (hb : aggN P t xs ys = some b) (hk : K () h) : Hwp P (eqGuard op t xo yo (.agg xs) (.agg ys)) h K := by
  have h1 : P.eqGuardType P.depth t = false := by
    unfold aggN at hb
    split at hb
    · assumption
    · cases hb
  cases op <;> first | exact hk | (unfold eqGuard; refine hwp_bind (hwp_program (hwp_bind (hwp_program ?_))); rw [h1]; exact hk)
theorem gen_neqN {xs ys : Array Value} {b : Bool} {h : Heap} {xo yo : Operand} {K : Value → Heap → Prop} (hb : aggN P t xs ys = some b) (hk : K (.bool (!b)) h) :
    Gen P (do eqGuard .neq t xo yo (.agg xs) (.agg ys); binOp .neq t (.agg xs) (.agg ys)) h K := hwp_bind (guard_aggN hb (hwp_bind (equal_aggN hb hk)))
theorem gen_eqlN {xs ys : Array Value} {b : Bool} {h : Heap} {xo yo : Operand} {K : Value → Heap → Prop} (hb : aggN P t xs ys = some b) (hk : K (.bool b) h) :
    Gen P (do eqGuard .eql t xo yo (.agg xs) (.agg ys); binOp .eql t (.agg xs) (.agg ys)) h K := hwp_bind (guard_aggN hb (hwp_bind (equal_aggN hb hk)))
end
end Go.Hw
