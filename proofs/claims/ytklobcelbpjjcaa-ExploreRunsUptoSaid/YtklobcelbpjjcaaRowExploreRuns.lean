/- The law ExploreRuns holds: whatever the input (within the row's reach, its arguments together of bulk at most 1048576), the call returns true, and each argument reads as it did. No condition beside the row's own. -/
import Derived.Test.YtklobcelbpjjcaaRows
import Derived.Test.YtklobcelbpjjcaaPuExploreRuns
import Derived.Test.YtklobcelbpjjcaaHwO
import Derived.WalkKit
import Derived.JoinedCond
import Derived.Deep.CondSized
import Derived.Test.YtklobcelbpjjcaaHwWa
namespace Go.Proofs.Ytklobcelbpjjcaa.exploreRuns
open Go Go.Hw Go.ChangeShapes Go.WideShapes Go.ChangeAt Go.RowKit Go.Proofs.Ytklobcelbpjjcaa.Fw
open Go.ChangeMaps (open_string shut_string)
set_option linter.unusedVariables false
theorem own : ownKnob Try.prog.godebug = none := by kernel_rfl
theorem laidOut : laidOutB Try.prog = true := by kernel_rfl
theorem bulkAll {H : Type} : ∀ l : List (DataW H), Rows.uptoBulkAll l = (l.map Rows.uptoBulk).sum
  | [] => rfl
  | d :: r => by rw [Rows.uptoBulkAll, List.map_cons, List.sum_cons, bulkAll r]
theorem measure {H : Type} : Measure (Rows.uptoBulk (H := H)) where
  pos d := by
    cases d with
    | lit l => cases l <;> simp [Rows.uptoBulk]
    | _ => simp [Rows.uptoBulk]
  str b := by simp [Rows.uptoBulk]
  slice e s := by rw [Rows.uptoBulk, bulkAll]; omega
  agg ps := by rw [Rows.uptoBulk, bulkAll]; omega
set_option maxRecDepth 100000 in
theorem lifted (os : Os) (started : os.Started) (H : Type) (enc : TypeId × Value → H) :
    ReturnsInHanded {} Try.checked os 7 .any ((Rows.OpenSpec.upto Rows.exploreRunsSpec).pre6 enc Try.prog Try.f7 Rows.exploreRunsUptoRow.domain false) (Rows.exploreRunsSpec.post enc Try.prog Try.f7 false true false false) := by
  refine returnsInHanded_of_cond_sized (s := Rows.OpenSpec.upto Rows.exploreRunsSpec) (k := Rows.uptoSmall) (F := fun _ _ _ => 0) rfl (C := Try.checked) own started (by kernel_rfl) Try.func7
    (OpenSpec.witness (s := Rows.OpenSpec.upto Rows.exploreRunsSpec) (k := Rows.uptoSmall) rfl (enc := enc) (C := Try.checked) false ⟨#[], #[(.slice none 0 0), (.slice none 0 0)], []⟩ 8 (by kernel_rfl) (by kernel_rfl) (by kernel_rfl) (x := ([DataW.nil, DataW.nil], [], [])) (by kernel_rfl) (by kernel_rfl) (by kernel_rfl)) ?_
  intro W base args ds gs before hval0 hW hcnd hkk hsz0 _
  have hsz : (DataW.weightsEach Try.prog (Try.f7.params.toList ++ (Rows.OpenSpec.upto Rows.exploreRunsSpec).bare.plain.varTypes Try.prog) (ds ++ gs)).all (· ≤ reachBytes) = true := hsz0
  have hval : ∀ (j : Nat) t v, Try.f7.params[j]? = some t → args[j]? = some v → Value.okWide Try.prog W .any base t v := hval0
  have hW' := hW
  obtain ⟨p, q, hA0, hV, rfl, hfz, hnd⟩ := hW
  have hA : DataW.TrodAll enc Try.prog W 0 (fun _ => true) true Try.f7.params.toList args.toList ds p := hA0
  rw [Try.params7] at hA hval hsz
  obtain ⟨v0, vs0, d0, ds0, p0, q0_, hargs, rfl, rfl, h0, r0_⟩ := trodAll_cons hA
  obtain ⟨v1, vs1, d1, ds1, p1, q1_, rfl, rfl, rfl, h1, r1_⟩ := trodAll_cons r0_
  obtain ⟨rfl, rfl, rfl⟩ := trodAll_nil r1_
  obtain rfl : args = #[v0, v1] := by cases args; simp_all
  obtain ⟨rfl, rfl⟩ := trodVars_none hV
  have hs : (DataW.weightsEach Try.prog [98, 62] [d0, d1]).all (· ≤ reachBytes) = true := hsz
  simp only [DataW.weightsEach, List.append_nil, List.all_append, Bool.and_eq_true] at hs
  obtain ⟨hw0, hw1⟩ := hs
  have k0 := h0
  have lt0 : ∀ x ∈ p0, x.block < W.heap.size := by obtain ⟨m, hm⟩ := k0; exact DataW.trod_lt m _ _ _ hm
  obtain ⟨A0, n0, c0, rfl⟩ := okWide_slice (show Try.prog.underlying 98 = some (.slice 118) by kernel_rfl) (hval 0 98 v0 rfl rfl)
  obtain ⟨fuel0, hf0⟩ := h0
  obtain ⟨l0, E0, q0⟩ := (tells_sliceL (t := 98) (e := 118) (sz := 1) (B := 24) (by kernel_rfl) (by kernel_rfl) (by kernel_rfl) (tells_sliceL (t := 118) (e := 122) (sz := 3) (B := 24) (by kernel_rfl) (by kernel_rfl) (by kernel_rfl) T_roadref4_Do.tells)) fuel0 _ _ hf0 hw0
  have b0 := (let M := measure (H := H); (kt_slice M (t := 98) (e := 118) (sz := 1) (by kernel_rfl) (by kernel_rfl) (kt_slice M (t := 118) (e := 122) (sz := 3) (by kernel_rfl) (by kernel_rfl) (T_roadref4_Do.kt M))) : KT (fuel0 + 1) Rows.uptoBulk enc Try.prog W 98 (eRow 1 (eRow 3 T_roadref4_Do.E)) (fun l : (List (List T_roadref4_Do)) => (List.map (fun l : (List T_roadref4_Do) => (List.map T_roadref4_Do.bulk l).sum + 1) l).sum + 1)) fuel0 (Nat.lt_succ_self _) _ _ hf0 _ E0
  obtain ⟨A0', c0', hcs0, hle0, r0⟩ := E0
  simp only [Value.cells, List.cons.injEq, Value.slice.injEq, and_true] at hcs0
  obtain ⟨rfl, rfl, rfl⟩ := hcs0
  have k1 := h1
  have lt1 : ∀ x ∈ p1, x.block < W.heap.size := by obtain ⟨m, hm⟩ := k1; exact DataW.trod_lt m _ _ _ hm
  obtain ⟨A1, n1, c1, rfl⟩ := okWide_slice (show Try.prog.underlying 62 = some (.slice 3) by kernel_rfl) (hval 1 62 v1 rfl rfl)
  obtain ⟨fuel1, hf1⟩ := h1
  obtain ⟨l1, E1, q1⟩ := (tells_sliceL (t := 62) (e := 3) (sz := 1) (B := 8) (by kernel_rfl) (by kernel_rfl) (by kernel_rfl) (tells_i64 (t := 3) (by kernel_rfl))) fuel1 _ _ hf1 hw1
  have b1 := (let M := measure (H := H); (kt_slice M (t := 62) (e := 3) (sz := 1) (by kernel_rfl) (by kernel_rfl) (kt_one M)) : KT (fuel1 + 1) Rows.uptoBulk enc Try.prog W 62 (eRow 1 (eInt .i64)) (fun l : (List Int) => (List.map (fun _ => 1) l).sum + 1)) fuel1 (Nat.lt_succ_self _) _ _ hf1 _ E1
  obtain ⟨A1', c1', hcs1, hle1, r1⟩ := E1
  simp only [Value.cells, List.cons.injEq, Value.slice.injEq, and_true] at hcs1
  obtain ⟨rfl, rfl, rfl⟩ := hcs1
  have hb : ((fun l => (List.map (fun l : (List T_roadref4_Do) => (List.map T_roadref4_Do.bulk l).sum + 1) l).sum + 1) l0) + ((fun l => (List.map (fun _ => 1) l).sum + 1) l1) ≤ 1048576 := by
    have hk : Rows.uptoBulkAll ([d0, d1] ++ []) ≤ 1048576 := of_decide_eq_true hkk
    have := b0
    have := b1
    simp only [List.append_nil, Rows.uptoBulkAll] at hk
    simp only at *
    omega
  refine ((Run.mono (R' := fun v h' => v = Value.bool true ∧ Ext W.heap h') (Fw.roadlaw4_ExploreRuns.walk (W := No) (Hold.start (Sub.refl _)) rfl hle0 r0 rfl hle1 r1 (Fw.ExploreRuns l0 l1 q0 q1 hb)) (fun v h' hp => by obtain ⟨m', st, hv⟩ := hp; exact ⟨hv, st.S.ext⟩)) W rfl).mono fun e W' he => ?_
  obtain ⟨v, rfl, ⟨rfl, ext⟩, same⟩ := he
  have bel := below_of ext same
  exact ⟨_, rfl, _, _, _, [], _, [], hW', trodAll_mk1 (shut_bool (show Try.prog.underlying 4 = some .bool by kernel_rfl) _), (trodAll_cons_mk (Below.trod laidOut (by kernel_rfl) (of_decide_eq_true (by kernel_rfl)) k0 bel lt0) (trodAll_cons_mk (Below.trod laidOut (by kernel_rfl) (of_decide_eq_true (by kernel_rfl)) k1 bel lt1) trodAll_mk0)), rfl, bel.frame _, fun h => by cases h⟩
theorem over : Rows.exploreRunsUptoRow.holds Try.pinned (Rows.OpenSpec.upto Rows.exploreRunsSpec) :=
  OpenClaim.holds_of_cond 7 Try.f7 rfl rfl rfl rfl rfl rfl rfl ⟨rfl, rfl, rfl, rfl, rfl⟩ rfl rfl rfl rfl rfl (by kernel_rfl) Try.func7 (by kernel_rfl)
    (of_decide_eq_true (by kernel_rfl)) (by unfold Func.isWrapper; first | (rw [if_pos (by decide +kernel)]; kernel_rfl) | (rw [if_neg (by decide +kernel)]; exact ⟨rfl, rfl⟩))
    (fun os started H enc _ F => lifted os started H enc)
end Go.Proofs.Ytklobcelbpjjcaa.exploreRuns
namespace Go.Proofs.Ytklobcelbpjjcaa
/-- The row, under a short name, for the claim. -/
theorem exploreRuns_holds : Rows.ExploreRunsUptoSaid := exploreRuns.over
#print axioms exploreRuns_holds
end Go.Proofs.Ytklobcelbpjjcaa
