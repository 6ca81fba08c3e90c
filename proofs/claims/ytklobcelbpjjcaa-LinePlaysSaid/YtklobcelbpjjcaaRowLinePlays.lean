/- The law LinePlays holds: whatever the input (within the row's reach), the call returns true, and each argument reads as it did. No condition beside the row's own. -/
import Derived.Test.YtklobcelbpjjcaaRows
import Derived.Test.YtklobcelbpjjcaaPuLinePlays
import Derived.Test.YtklobcelbpjjcaaHwO
import Derived.WalkKit
namespace Go.Proofs.Ytklobcelbpjjcaa.linePlays
open Go Go.Hw Go.ChangeShapes Go.WideShapes Go.ChangeAt Go.RowKit Go.Proofs.Ytklobcelbpjjcaa.Fw
open Go.ChangeMaps (open_string shut_string)
set_option linter.unusedVariables false
theorem own : ownKnob Try.prog.godebug = none := by kernel_rfl
theorem laidOut : laidOutB Try.prog = true := by kernel_rfl
set_option maxRecDepth 100000 in
theorem lifted (os : Os) (started : os.Started) (H : Type) (enc : TypeId × Value → H) :
    ReturnsInHanded {} Try.checked os 4 .any (Rows.linePlaysSpec.pre6 enc Try.prog Try.f4 Rows.linePlaysRow.domain false) (Rows.linePlaysSpec.post enc Try.prog Try.f4 false true false false) := by
  refine returnsInHanded_of_change_sized (C := Try.checked) own started (by kernel_rfl) Try.func4
    (ChangeSpec.witness6 (enc := enc) (C := Try.checked) false ⟨#[], #[(.int .i64 (0 : Int)), (.slice none 0 0), (.slice none 0 0), (.slice none 0 0)], []⟩ 8 (by kernel_rfl) (by kernel_rfl) (by kernel_rfl) (by kernel_rfl)) ?_
  intro W base args ds gs before hval0 hW hcnd hsz0 _
  have hsz : (DataW.weightsEach Try.prog (Try.f4.params.toList ++ Rows.linePlaysSpec.plain.varTypes Try.prog) (ds ++ gs)).all (· ≤ reachBytes) = true := hsz0
  have hval : ∀ (j : Nat) t v, Try.f4.params[j]? = some t → args[j]? = some v → Value.okWide Try.prog W .any base t v := hval0
  have hW' := hW
  obtain ⟨p, q, hA0, hV, rfl, hfz, hnd⟩ := hW
  have hA : DataW.TrodAll enc Try.prog W 0 (fun _ => true) true Try.f4.params.toList args.toList ds p := hA0
  rw [Try.params4] at hA hval hsz
  obtain ⟨v0, vs0, d0, ds0, p0, q0_, hargs, rfl, rfl, h0, r0_⟩ := trodAll_cons hA
  obtain ⟨v1, vs1, d1, ds1, p1, q1_, rfl, rfl, rfl, h1, r1_⟩ := trodAll_cons r0_
  obtain ⟨v2, vs2, d2, ds2, p2, q2_, rfl, rfl, rfl, h2, r2_⟩ := trodAll_cons r1_
  obtain ⟨v3, vs3, d3, ds3, p3, q3_, rfl, rfl, rfl, h3, r3_⟩ := trodAll_cons r2_
  obtain ⟨rfl, rfl, rfl⟩ := trodAll_nil r3_
  obtain rfl : args = #[v0, v1, v2, v3] := by cases args; simp_all
  obtain ⟨rfl, rfl⟩ := trodVars_none hV
  have hs : (DataW.weightsEach Try.prog [3, 46, 47, 48] [d0, d1, d2, d3]).all (· ≤ reachBytes) = true := hsz
  simp only [DataW.weightsEach, List.append_nil, List.all_append, Bool.and_eq_true] at hs
  obtain ⟨hw0, hw1, hw2, hw3⟩ := hs
  have k0 := h0
  have lt0 : ∀ x ∈ p0, x.block < W.heap.size := by obtain ⟨m, hm⟩ := k0; exact DataW.trod_lt m _ _ _ hm
  obtain ⟨a0, rfl, rfl, rfl, w0⟩ := open_int (show Try.prog.underlying 3 = some (.int .i64) by kernel_rfl) (hval 0 3 v0 rfl rfl) h0
  have k1 := h1
  have lt1 : ∀ x ∈ p1, x.block < W.heap.size := by obtain ⟨m, hm⟩ := k1; exact DataW.trod_lt m _ _ _ hm
  obtain ⟨A1, n1, c1, rfl⟩ := okWide_slice (show Try.prog.underlying 46 = some (.slice 62) by kernel_rfl) (hval 1 46 v1 rfl rfl)
  obtain ⟨fuel1, hf1⟩ := h1
  obtain ⟨l1, ⟨A1', c1', hcs1, hle1, r1⟩, q1⟩ := (tells_sliceL (t := 46) (e := 62) (sz := 1) (B := 24) (by kernel_rfl) (by kernel_rfl) (by kernel_rfl) (tells_sliceL (t := 62) (e := 3) (sz := 1) (B := 8) (by kernel_rfl) (by kernel_rfl) (by kernel_rfl) (tells_i64 (t := 3) (by kernel_rfl)))) fuel1 _ _ hf1 hw1
  simp only [Value.cells, List.cons.injEq, Value.slice.injEq, and_true] at hcs1
  obtain ⟨rfl, rfl, rfl⟩ := hcs1
  have k2 := h2
  have lt2 : ∀ x ∈ p2, x.block < W.heap.size := by obtain ⟨m, hm⟩ := k2; exact DataW.trod_lt m _ _ _ hm
  obtain ⟨A2, n2, c2, rfl⟩ := okWide_slice (show Try.prog.underlying 47 = some (.slice 53) by kernel_rfl) (hval 2 47 v2 rfl rfl)
  obtain ⟨fuel2, hf2⟩ := h2
  obtain ⟨l2, ⟨A2', c2', hcs2, hle2, r2⟩, q2⟩ := (tells_sliceL (t := 47) (e := 53) (sz := 1) (B := 24) (by kernel_rfl) (by kernel_rfl) (by kernel_rfl) (tells_sliceL (t := 53) (e := 5) (sz := 1) (B := 1) (by kernel_rfl) (by kernel_rfl) (by kernel_rfl) (tells_u8 (t := 5) (by kernel_rfl)))) fuel2 _ _ hf2 hw2
  simp only [Value.cells, List.cons.injEq, Value.slice.injEq, and_true] at hcs2
  obtain ⟨rfl, rfl, rfl⟩ := hcs2
  have k3 := h3
  have lt3 : ∀ x ∈ p3, x.block < W.heap.size := by obtain ⟨m, hm⟩ := k3; exact DataW.trod_lt m _ _ _ hm
  obtain ⟨A3, n3, c3, rfl⟩ := okWide_slice (show Try.prog.underlying 48 = some (.slice 66) by kernel_rfl) (hval 3 48 v3 rfl rfl)
  obtain ⟨fuel3, hf3⟩ := h3
  obtain ⟨l3, ⟨A3', c3', hcs3, hle3, r3⟩, q3⟩ := (tells_sliceL (t := 48) (e := 66) (sz := 5) (B := 48) (by kernel_rfl) (by kernel_rfl) (by kernel_rfl) T_roadref4_Packet.tells) fuel3 _ _ hf3 hw3
  simp only [Value.cells, List.cons.injEq, Value.slice.injEq, and_true] at hcs3
  obtain ⟨rfl, rfl, rfl⟩ := hcs3
  refine ((Run.mono (R' := fun v h' => v = Value.bool true ∧ Ext W.heap h') (Fw.roadlaw4_LinePlays.walk (W := No) (Hold.start (Sub.refl _)) rfl hle1 r1 rfl hle2 r2 rfl hle3 r3 (Fw.LinePlays a0 l1 l2 l3 (wf_i64 w0) q1 q2 q3)) (fun v h' hp => by obtain ⟨m', st, hv⟩ := hp; exact ⟨hv, st.S.ext⟩)) W rfl).mono fun e W' he => ?_
  obtain ⟨v, rfl, ⟨rfl, ext⟩, same⟩ := he
  have bel := below_of ext same
  exact ⟨_, rfl, _, _, _, [], _, [], hW', trodAll_mk1 (shut_bool (show Try.prog.underlying 4 = some .bool by kernel_rfl) _), (trodAll_cons_mk (Below.trod laidOut (by kernel_rfl) (of_decide_eq_true (by kernel_rfl)) k0 bel lt0) (trodAll_cons_mk (Below.trod laidOut (by kernel_rfl) (of_decide_eq_true (by kernel_rfl)) k1 bel lt1) (trodAll_cons_mk (Below.trod laidOut (by kernel_rfl) (of_decide_eq_true (by kernel_rfl)) k2 bel lt2) (trodAll_cons_mk (Below.trod laidOut (by kernel_rfl) (of_decide_eq_true (by kernel_rfl)) k3 bel lt3) trodAll_mk0)))), rfl, bel.frame _, fun h => by cases h⟩
theorem over : Rows.linePlaysRow.holds Try.pinned (OpenSpec.ofChange Rows.linePlaysSpec) :=
  OpenClaim.holds_of_wide 4 Try.f4 rfl rfl rfl rfl rfl rfl rfl ⟨rfl, rfl, rfl, rfl, rfl⟩ rfl rfl rfl rfl rfl (by kernel_rfl) Try.func4 (by kernel_rfl)
    (of_decide_eq_true (by kernel_rfl)) (by unfold Func.isWrapper; first | (rw [if_pos (by decide +kernel)]; kernel_rfl) | (rw [if_neg (by decide +kernel)]; exact ⟨rfl, rfl⟩))
    (fun os started H enc _ => lifted os started H enc)
end Go.Proofs.Ytklobcelbpjjcaa.linePlays
namespace Go.Proofs.Ytklobcelbpjjcaa
/-- The row, under a short name, for the claim. -/
theorem linePlays_holds : Rows.LinePlaysSaid := linePlays.over
#print axioms linePlays_holds
end Go.Proofs.Ytklobcelbpjjcaa
