/- Byte slices as strings. -/
import Derived.Test.YtklobcelbpjjcacHwS
namespace Go.Hw
open Go

/-- The string of these bytes. -/
def bytesOf (l : List Int) : ByteArray := ⟨(l.map fun n => UInt8.ofNat n.toNat).toArray⟩
theorem bytesOf_inj {l m : List Int} (hl : ∀ x ∈ l, 0 ≤ x ∧ x ≤ 255) (hm : ∀ x ∈ m, 0 ≤ x ∧ x ≤ 255) (h : bytesOf l = bytesOf m) : l = m := by
  unfold bytesOf at h
  have h1 : l.map (fun n : Int => UInt8.ofNat n.toNat) = m.map fun n : Int => UInt8.ofNat n.toNat := by
    have := congrArg ByteArray.data h
    simpa using congrArg Array.toList this
  clear h
  induction l generalizing m with
  | nil => cases m with
    | nil => rfl
    | cons y m => cases h1
  | cons x l ih =>
    cases m with
    | nil => cases h1
    | cons y m =>
      simp only [List.map_cons, List.cons.injEq] at h1
      have hx := hl x (List.mem_cons_self ..)
      have hy := hm y (List.mem_cons_self ..)
      have e : x = y := by
        have := congrArg UInt8.toNat h1.1
        rw [UInt8.toNat_ofNat', UInt8.toNat_ofNat'] at this
        omega
      rw [e, ih (fun z hz => hl z (List.mem_cons_of_mem _ hz)) (fun z hz => hm z (List.mem_cons_of_mem _ hz)) h1.2]

section
variable {P : Program} {h : Heap}
theorem row_cells {A : Option Addr} {l : List Int} {k : IntKind} (hr : Rd 1 (eInt k) h A l) {a : Addr} (ha : A = some a) : cellsH h a 0 l.length = some (l.map (.int k)) := by
  have := hr.srcInt 0
  subst ha
  simp only [srcCells, Nat.mul_one] at this
  cases hc : cellsH h a 0 l.length with
  | none => rw [hc] at this; simp at this
  | some cs => rw [hc] at this; simp at this; rw [this]

theorem gen_b2s {src dst e : TypeId} {A : Option Addr} {c : Nat} {l : List Int} {K : Value → Heap → Prop} (hsrc : P.underlying src = some (.slice e)) (hdst : P.underlying dst = some .string) (he : P.underlying e = some (.int .u8)) (hr : Rd 1 (eInt .u8) h A l)
    (hk : K (.string (bytesOf l)) h) : Gen P (convert src dst (.slice A l.length c)) h K := by
  unfold Gen convert
  refine hwp_bind (hwp_underlying hsrc (hwp_bind (hwp_underlying hdst ?_)))
  refine hwp_bind (hwp_underlying he ?_)
  unfold Conv.bytesToString
  cases A with
  | none =>
    have : l = [] := by
      cases l with
      | nil => rfl
      | cons x l => obtain ⟨a, _, h1, _⟩ := hr 0 (by simp); cases h1
    subst this
    exact hk
  | some a =>
    refine hwp_bind (hwp_loadCells (row_cells hr rfl) ?_)
    refine hwp_bind ?_
    rw [← Array.forIn_toList]
    have key : ∀ (m : List Int) (s : ByteArray) (K' : ByteArray → Heap → Prop), K' ⟨s.data ++ (m.map fun n => UInt8.ofNat n.toNat).toArray⟩ h → Hwp P (forIn (m.map (Value.int .u8)) s fun c s => match c with | .int .u8 n => pure (ForInStep.yield (s.push (UInt8.ofNat n.toNat))) | _ => stuck "bytesToString: byte expected") h K' := by
      intro m
      induction m with
      | nil => intro s K' hk; exact hwp_pure (P := P) (by simpa using hk)
      | cons x m ih =>
        intro s K' hk
        rw [List.map_cons, List.forIn_cons]
        refine hwp_bind (hwp_pure (P := P) (ih _ K' ?_))
        have : (⟨(s.push (UInt8.ofNat x.toNat)).data ++ (m.map fun n => UInt8.ofNat n.toNat).toArray⟩ : ByteArray) = ⟨s.data ++ ((x :: m).map fun n => UInt8.ofNat n.toNat).toArray⟩ := by
          cases s; simp [ByteArray.push]
        rw [this]; exact hk
    refine key l ByteArray.empty _ ?_
    have e : (⟨ByteArray.empty.data ++ (l.map fun n => UInt8.ofNat n.toNat).toArray⟩ : ByteArray) = bytesOf l := by
      simp [bytesOf, ByteArray.empty, ByteArray.emptyWithCapacity]
      rfl
    rw [e]
    exact hk
end
end Go.Hw
