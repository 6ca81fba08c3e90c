/-
  NARROWER THAN 'FOR EVERY INPUT', by the rows' own cells (each row's printed sentence says how): PickTells: loops.
  DERIVED. THE GIVEN ROWS OF THIS SEAT. 6 by the template 'for every input the law returns true; each argument reads behind the call as it read before'; 0 by the template 'total and deterministic' (their statements: YthnlhffpmlgmfaaTotals.lean).
  GIVEN WITH THE SEED: the statements are not yours to turn. If you find one false, say at which input.
  Laid BY PROGRAM, IN A SANDBOX (cutbox-rows.mjs): the forced cells as the released guide's own fill.sh prints them over the translation 1b802c8ffae99c09… (all of the seat's roots in one cut). By AI agents, Wed Nov 11 2026. No macro, syntax, notation, axiom, sorry.
-/
import Derived.Test.YthnlhffpmlgmfaaChecked
import GoSem.Claim
import GoSem.ClaimJoined
import GoSem.ClaimMapViews
import Derived.JoinedTies
import Derived.KernelRfl
namespace Go.Proofs.Ythnlhffpmlgmfaa
/- THE CELL 'sum', in the pinned program and in every row, IS THE sha256 OF THE DUMP (.gsa) THAT YthnlhffpmlgmfaaProg.lean LOADS. Nothing in Lean hashes anything: it is a label: what it is worth is what the hold of that sum in a sandbox is worth. -/
noncomputable def Try.pinned : Pinned := { name := "ythnlhffpmlgmfaa", sum := "1b802c8ffae99c09f750cdb0944c81b3bd590c64a7d7e539c8bec756015d3c17", checked := Try.checked }
namespace Rows
def none {H : Type} : Left H := { results := [], args := [] }

/-- 'roadlaw4.ShrinkSays': WHATEVER THE INPUT: true; the input reads as it did. -/
def shrinkSaysSpec : ChangeSpec := { name := "shrinkSays", fn := fun _ => fun
  | [d1, d2, d3] => { results := [.lit (.bool true)], args := [d1, d2, d3] }
  | _ => none }
def shrinkSaysRow : OpenClaim := { program := "ythnlhffpmlgmfaa", sum := "1b802c8ffae99c09f750cdb0944c81b3bd590c64a7d7e539c8bec756015d3c17", func := "roadstead/roadlaw4.ShrinkSays", spec := "shrinkSays", unfollowed := true, recurses := true, plainKeys := false, apart := false }
def ShrinkSaysSaid : Prop := shrinkSaysRow.holds Try.pinned (OpenSpec.ofChange shrinkSaysSpec)

/-- ITS FALSE NEIGHBOUR: 'it returns false'. Refute it at one input. -/
def shrinkSaysWrong : ChangeSpec := { name := "shrinkSays", fn := fun _ => fun
  | [d1, d2, d3] => { results := [.lit (.bool false)], args := [d1, d2, d3] }
  | _ => none }
def ShrinkSaysWrongFalsely : Prop := shrinkSaysRow.holds Try.pinned (OpenSpec.ofChange shrinkSaysWrong)

/-- 'roadlaw4.CutAll': WHATEVER THE INPUT: true; the input reads as it did. -/
def cutAllSpec : ChangeSpec := { name := "cutAll", fn := fun _ => fun
  | [d] => { results := [.lit (.bool true)], args := [d] }
  | _ => none }
def cutAllRow : OpenClaim := { program := "ythnlhffpmlgmfaa", sum := "1b802c8ffae99c09f750cdb0944c81b3bd590c64a7d7e539c8bec756015d3c17", func := "roadstead/roadlaw4.CutAll", spec := "cutAll", unfollowed := true, recurses := true, plainKeys := false, apart := false }
def CutAllSaid : Prop := cutAllRow.holds Try.pinned (OpenSpec.ofChange cutAllSpec)

/-- ITS FALSE NEIGHBOUR: 'it returns false'. Refute it at one input. -/
def cutAllWrong : ChangeSpec := { name := "cutAll", fn := fun _ => fun
  | [d] => { results := [.lit (.bool false)], args := [d] }
  | _ => none }
def CutAllWrongFalsely : Prop := cutAllRow.holds Try.pinned (OpenSpec.ofChange cutAllWrong)

/-- 'roadlaw3.PickTells': WHATEVER THE INPUT: true; the input reads as it did. -/
def pickTellsSpec : ChangeSpec := { name := "pickTells", fn := fun _ => fun
  | [d1, d2, d3] => { results := [.lit (.bool true)], args := [d1, d2, d3] }
  | _ => none }
def pickTellsRow : OpenClaim := { program := "ythnlhffpmlgmfaa", sum := "1b802c8ffae99c09f750cdb0944c81b3bd590c64a7d7e539c8bec756015d3c17", func := "roadstead/roadlaw3.PickTells", spec := "pickTells", unfollowed := true, recurses := true, loops := true, plainKeys := false, apart := false }
def PickTellsSaid : Prop := pickTellsRow.holds Try.pinned (OpenSpec.ofChange pickTellsSpec)

/-- ITS FALSE NEIGHBOUR: 'it returns false'. Refute it at one input. -/
def pickTellsWrong : ChangeSpec := { name := "pickTells", fn := fun _ => fun
  | [d1, d2, d3] => { results := [.lit (.bool false)], args := [d1, d2, d3] }
  | _ => none }
def PickTellsWrongFalsely : Prop := pickTellsRow.holds Try.pinned (OpenSpec.ofChange pickTellsWrong)

/-- 'roadlaw4.WeightPlays': WHATEVER THE INPUT: true; the input reads as it did. -/
def weightPlaysSpec : ChangeSpec := { name := "weightPlays", fn := fun _ => fun
  | [d1, d2] => { results := [.lit (.bool true)], args := [d1, d2] }
  | _ => none }
def weightPlaysRow : OpenClaim := { program := "ythnlhffpmlgmfaa", sum := "1b802c8ffae99c09f750cdb0944c81b3bd590c64a7d7e539c8bec756015d3c17", func := "roadstead/roadlaw4.WeightPlays", spec := "weightPlays", plainKeys := false, apart := false }
def WeightPlaysSaid : Prop := weightPlaysRow.holds Try.pinned (OpenSpec.ofChange weightPlaysSpec)

/-- ITS FALSE NEIGHBOUR: 'it returns false'. Refute it at one input. -/
def weightPlaysWrong : ChangeSpec := { name := "weightPlays", fn := fun _ => fun
  | [d1, d2] => { results := [.lit (.bool false)], args := [d1, d2] }
  | _ => none }
def WeightPlaysWrongFalsely : Prop := weightPlaysRow.holds Try.pinned (OpenSpec.ofChange weightPlaysWrong)

/-- 'roadlaw3.StealTells': WHATEVER THE INPUT: true; the input reads as it did. -/
def stealTellsSpec : ChangeSpec := { name := "stealTells", fn := fun _ => fun
  | [d1, d2, d3, d4] => { results := [.lit (.bool true)], args := [d1, d2, d3, d4] }
  | _ => none }
def stealTellsRow : OpenClaim := { program := "ythnlhffpmlgmfaa", sum := "1b802c8ffae99c09f750cdb0944c81b3bd590c64a7d7e539c8bec756015d3c17", func := "roadstead/roadlaw3.StealTells", spec := "stealTells", plainKeys := false, apart := false }
def StealTellsSaid : Prop := stealTellsRow.holds Try.pinned (OpenSpec.ofChange stealTellsSpec)

/-- ITS FALSE NEIGHBOUR: 'it returns false'. Refute it at one input. -/
def stealTellsWrong : ChangeSpec := { name := "stealTells", fn := fun _ => fun
  | [d1, d2, d3, d4] => { results := [.lit (.bool false)], args := [d1, d2, d3, d4] }
  | _ => none }
def StealTellsWrongFalsely : Prop := stealTellsRow.holds Try.pinned (OpenSpec.ofChange stealTellsWrong)

/-- 'roadlaw3.CarryTells': WHATEVER THE INPUT: true; the input reads as it did. -/
def carryTellsSpec : ChangeSpec := { name := "carryTells", fn := fun _ => fun
  | [d1, d2, d3] => { results := [.lit (.bool true)], args := [d1, d2, d3] }
  | _ => none }
def carryTellsRow : OpenClaim := { program := "ythnlhffpmlgmfaa", sum := "1b802c8ffae99c09f750cdb0944c81b3bd590c64a7d7e539c8bec756015d3c17", func := "roadstead/roadlaw3.CarryTells", spec := "carryTells", recurses := true, plainKeys := false, apart := false }
def CarryTellsSaid : Prop := carryTellsRow.holds Try.pinned (OpenSpec.ofChange carryTellsSpec)

/-- ITS FALSE NEIGHBOUR: 'it returns false'. Refute it at one input. -/
def carryTellsWrong : ChangeSpec := { name := "carryTells", fn := fun _ => fun
  | [d1, d2, d3] => { results := [.lit (.bool false)], args := [d1, d2, d3] }
  | _ => none }
def CarryTellsWrongFalsely : Prop := carryTellsRow.holds Try.pinned (OpenSpec.ofChange carryTellsWrong)

/- THE SECOND FORM. 'bulk': how many values and letters a reading holds, each counted each time it is reached (what is shared counts as often as it is met; a slice's spare places count too). A statement '..UptoSaid' is the law's where the arguments, and the package variables that the reading takes, are together of bulk at most 1048576: NARROWER than '..Said'. Prove '..Said' where nothing that the law and all that it calls make is longer than what came in: it says more and counts as full. Else prove '..UptoSaid'. A law counts once. -/
mutual
def uptoBulk {H : Type} : DataW H → Nat
  | .lit (.string bytes) => bytes.length + 1
  | .lit _ => 1
  | .nil => 1
  | .ptr d => uptoBulk d + 1
  | .slice elems spare => uptoBulkAll elems + uptoBulkAll spare + 1
  | .agg parts => uptoBulkAll parts + 1
  | .iface _ d => uptoBulk d + 1
  | .map entries => uptoBulkEntries entries + 1
  | .held _ => 1
def uptoBulkAll {H : Type} : List (DataW H) → Nat
  | [] => 0
  | d :: r => uptoBulk d + uptoBulkAll r
def uptoBulkEntries {H : Type} : List (Lit × DataW H) → Nat
  | [] => 0
  | x :: r => uptoBulkEntry x + uptoBulkEntries r
def uptoBulkEntry {H : Type} : Lit × DataW H → Nat
  | (.string bytes, d) => bytes.length + uptoBulk d + 1
  | (_, d) => uptoBulk d + 1
 end
def uptoSmall : (H : Type) → List (DataW H) → Bool := fun _ ds => decide (uptoBulkAll ds ≤ 1048576)
def OpenSpec.upto (s : _root_.Go.ChangeSpec) : _root_.Go.OpenSpec := { _root_.Go.OpenSpec.ofChange s with cond := some uptoSmall }

/-- 'roadlaw4.ShrinkSays', WHERE WHAT IT READS IS OF BULK AT MOST 1048576: true; the input reads as it did. -/
def shrinkSaysUptoRow : OpenClaim := { program := "ythnlhffpmlgmfaa", sum := "1b802c8ffae99c09f750cdb0944c81b3bd590c64a7d7e539c8bec756015d3c17", func := "roadstead/roadlaw4.ShrinkSays", spec := "shrinkSays", unfollowed := true, recurses := true, plainKeys := false, apart := false, narrowed := true }
def ShrinkSaysUptoSaid : Prop := shrinkSaysUptoRow.holds Try.pinned (OpenSpec.upto shrinkSaysSpec)

/-- 'roadlaw4.CutAll', WHERE WHAT IT READS IS OF BULK AT MOST 1048576: true; the input reads as it did. -/
def cutAllUptoRow : OpenClaim := { program := "ythnlhffpmlgmfaa", sum := "1b802c8ffae99c09f750cdb0944c81b3bd590c64a7d7e539c8bec756015d3c17", func := "roadstead/roadlaw4.CutAll", spec := "cutAll", unfollowed := true, recurses := true, plainKeys := false, apart := false, narrowed := true }
def CutAllUptoSaid : Prop := cutAllUptoRow.holds Try.pinned (OpenSpec.upto cutAllSpec)

/-- 'roadlaw3.PickTells', WHERE WHAT IT READS IS OF BULK AT MOST 1048576: true; the input reads as it did. -/
def pickTellsUptoRow : OpenClaim := { program := "ythnlhffpmlgmfaa", sum := "1b802c8ffae99c09f750cdb0944c81b3bd590c64a7d7e539c8bec756015d3c17", func := "roadstead/roadlaw3.PickTells", spec := "pickTells", unfollowed := true, recurses := true, loops := true, plainKeys := false, apart := false, narrowed := true }
def PickTellsUptoSaid : Prop := pickTellsUptoRow.holds Try.pinned (OpenSpec.upto pickTellsSpec)

/-- 'roadlaw4.WeightPlays', WHERE WHAT IT READS IS OF BULK AT MOST 1048576: true; the input reads as it did. -/
def weightPlaysUptoRow : OpenClaim := { program := "ythnlhffpmlgmfaa", sum := "1b802c8ffae99c09f750cdb0944c81b3bd590c64a7d7e539c8bec756015d3c17", func := "roadstead/roadlaw4.WeightPlays", spec := "weightPlays", plainKeys := false, apart := false, narrowed := true }
def WeightPlaysUptoSaid : Prop := weightPlaysUptoRow.holds Try.pinned (OpenSpec.upto weightPlaysSpec)

/-- 'roadlaw3.StealTells', WHERE WHAT IT READS IS OF BULK AT MOST 1048576: true; the input reads as it did. -/
def stealTellsUptoRow : OpenClaim := { program := "ythnlhffpmlgmfaa", sum := "1b802c8ffae99c09f750cdb0944c81b3bd590c64a7d7e539c8bec756015d3c17", func := "roadstead/roadlaw3.StealTells", spec := "stealTells", plainKeys := false, apart := false, narrowed := true }
def StealTellsUptoSaid : Prop := stealTellsUptoRow.holds Try.pinned (OpenSpec.upto stealTellsSpec)

/-- 'roadlaw3.CarryTells', WHERE WHAT IT READS IS OF BULK AT MOST 1048576: true; the input reads as it did. -/
def carryTellsUptoRow : OpenClaim := { program := "ythnlhffpmlgmfaa", sum := "1b802c8ffae99c09f750cdb0944c81b3bd590c64a7d7e539c8bec756015d3c17", func := "roadstead/roadlaw3.CarryTells", spec := "carryTells", recurses := true, plainKeys := false, apart := false, narrowed := true }
def CarryTellsUptoSaid : Prop := carryTellsUptoRow.holds Try.pinned (OpenSpec.upto carryTellsSpec)

end Rows
end Go.Proofs.Ythnlhffpmlgmfaa
