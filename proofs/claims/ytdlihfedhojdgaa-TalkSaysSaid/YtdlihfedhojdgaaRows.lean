/-
  No cell of these rows narrows 'for every input' (looked for: loops, veiled, ifaces, maps, wideKeys, modest, calm, conditions, laid).
  DERIVED. THE GIVEN ROWS OF THIS SEAT. 4 by the template 'for every input the law returns true; each argument reads behind the call as it read before'; 0 by the template 'total and deterministic' (their statements: YtdlihfedhojdgaaTotals.lean).
  GIVEN WITH THE SEED: the statements are not yours to turn. If you find one false, say at which input.
  Laid BY PROGRAM, IN A SANDBOX (cutbox-rows.mjs): the forced cells as the released guide's own fill.sh prints them over the translation 214a16c84776e5e7… (all of the seat's roots in one cut). By AI agents, Wed Nov 11 2026. No macro, syntax, notation, axiom, sorry.
-/
import Derived.Test.YtdlihfedhojdgaaChecked
import GoSem.Claim
import GoSem.ClaimJoined
import GoSem.ClaimMapViews
import Derived.JoinedTies
import Derived.KernelRfl
namespace Go.Proofs.Ytdlihfedhojdgaa
/- THE CELL 'sum', in the pinned program and in every row, IS THE sha256 OF THE DUMP (.gsa) THAT YtdlihfedhojdgaaProg.lean LOADS. Nothing in Lean hashes anything: it is a label: what it is worth is what the hold of that sum in a sandbox is worth. -/
noncomputable def Try.pinned : Pinned := { name := "ytdlihfedhojdgaa", sum := "214a16c84776e5e7f07a1cf46b9fea1c9d7817d8327cd4148c53ae8da932a9f3", checked := Try.checked }
namespace Rows
def none {H : Type} : Left H := { results := [], args := [] }

/-- 'roadlaw4.CutAll': WHATEVER THE INPUT: true; the input reads as it did. -/
def cutAllSpec : ChangeSpec := { name := "cutAll", fn := fun _ => fun
  | [d] => { results := [.lit (.bool true)], args := [d] }
  | _ => none }
def cutAllRow : OpenClaim := { program := "ytdlihfedhojdgaa", sum := "214a16c84776e5e7f07a1cf46b9fea1c9d7817d8327cd4148c53ae8da932a9f3", func := "roadstead/roadlaw4.CutAll", spec := "cutAll", unfollowed := true, recurses := true, plainKeys := false, apart := false }
def CutAllSaid : Prop := cutAllRow.holds Try.pinned (OpenSpec.ofChange cutAllSpec)

/-- ITS FALSE NEIGHBOUR: 'it returns false'. Refute it at one input. -/
def cutAllWrong : ChangeSpec := { name := "cutAll", fn := fun _ => fun
  | [d] => { results := [.lit (.bool false)], args := [d] }
  | _ => none }
def CutAllWrongFalsely : Prop := cutAllRow.holds Try.pinned (OpenSpec.ofChange cutAllWrong)

/-- 'roadlaw4.WeightPlays': WHATEVER THE INPUT: true; the input reads as it did. -/
def weightPlaysSpec : ChangeSpec := { name := "weightPlays", fn := fun _ => fun
  | [d1, d2] => { results := [.lit (.bool true)], args := [d1, d2] }
  | _ => none }
def weightPlaysRow : OpenClaim := { program := "ytdlihfedhojdgaa", sum := "214a16c84776e5e7f07a1cf46b9fea1c9d7817d8327cd4148c53ae8da932a9f3", func := "roadstead/roadlaw4.WeightPlays", spec := "weightPlays", plainKeys := false, apart := false }
def WeightPlaysSaid : Prop := weightPlaysRow.holds Try.pinned (OpenSpec.ofChange weightPlaysSpec)

/-- ITS FALSE NEIGHBOUR: 'it returns false'. Refute it at one input. -/
def weightPlaysWrong : ChangeSpec := { name := "weightPlays", fn := fun _ => fun
  | [d1, d2] => { results := [.lit (.bool false)], args := [d1, d2] }
  | _ => none }
def WeightPlaysWrongFalsely : Prop := weightPlaysRow.holds Try.pinned (OpenSpec.ofChange weightPlaysWrong)

/-- 'roadlaw3.StealTells': WHATEVER THE INPUT: true; the input reads as it did. -/
def stealTellsSpec : ChangeSpec := { name := "stealTells", fn := fun _ => fun
  | [d1, d2, d3, d4] => { results := [.lit (.bool true)], args := [d1, d2, d3, d4] }
  | _ => none }
def stealTellsRow : OpenClaim := { program := "ytdlihfedhojdgaa", sum := "214a16c84776e5e7f07a1cf46b9fea1c9d7817d8327cd4148c53ae8da932a9f3", func := "roadstead/roadlaw3.StealTells", spec := "stealTells", plainKeys := false, apart := false }
def StealTellsSaid : Prop := stealTellsRow.holds Try.pinned (OpenSpec.ofChange stealTellsSpec)

/-- ITS FALSE NEIGHBOUR: 'it returns false'. Refute it at one input. -/
def stealTellsWrong : ChangeSpec := { name := "stealTells", fn := fun _ => fun
  | [d1, d2, d3, d4] => { results := [.lit (.bool false)], args := [d1, d2, d3, d4] }
  | _ => none }
def StealTellsWrongFalsely : Prop := stealTellsRow.holds Try.pinned (OpenSpec.ofChange stealTellsWrong)

/-- 'roadlaw2.TalkSays': WHATEVER THE INPUT: true; the input reads as it did. -/
def talkSaysSpec : ChangeSpec := { name := "talkSays", fn := fun _ => fun
  | [d1, d2, d3] => { results := [.lit (.bool true)], args := [d1, d2, d3] }
  | _ => none }
def talkSaysRow : OpenClaim := { program := "ytdlihfedhojdgaa", sum := "214a16c84776e5e7f07a1cf46b9fea1c9d7817d8327cd4148c53ae8da932a9f3", func := "roadstead/roadlaw2.TalkSays", spec := "talkSays", unfollowed := true, recurses := true, plainKeys := false, apart := false }
def TalkSaysSaid : Prop := talkSaysRow.holds Try.pinned (OpenSpec.ofChange talkSaysSpec)

/-- ITS FALSE NEIGHBOUR: 'it returns false'. Refute it at one input. -/
def talkSaysWrong : ChangeSpec := { name := "talkSays", fn := fun _ => fun
  | [d1, d2, d3] => { results := [.lit (.bool false)], args := [d1, d2, d3] }
  | _ => none }
def TalkSaysWrongFalsely : Prop := talkSaysRow.holds Try.pinned (OpenSpec.ofChange talkSaysWrong)

/- THE SECOND FORM. 'bulk': how many values and letters a reading holds, each counted each time it is reached (what is shared counts as often as it is met; a slice's spare places count too). A statement '..UptoSaid' is the law's where the arguments, and the package variables that the reading takes, are together of bulk at most 1048576: NARROWER than '..Said'. Prove '..Said' where nothing that the law and all that it calls make is longer than what came in: it says more and counts as full. Else prove '..UptoSaid'. A law counts once. -/
mutual
def uptoBulk {H : Type} : DataW H → Nat
  | .lit (.string bytes) => bytes.length + 1
  | .lit _ => 1
  | .nil => 1
  | .ptr d => uptoBulk d + 1
  | .slice elems spare => uptoBulkAll elems + uptoBulkAll spare + 1
  | .agg parts => uptoBulkAll parts + 1
  | .iface _ d => uptoBulk d + 1
  | .map entries => uptoBulkEntries entries + 1
  | .held _ => 1
def uptoBulkAll {H : Type} : List (DataW H) → Nat
  | [] => 0
  | d :: r => uptoBulk d + uptoBulkAll r
def uptoBulkEntries {H : Type} : List (Lit × DataW H) → Nat
  | [] => 0
  | x :: r => uptoBulkEntry x + uptoBulkEntries r
def uptoBulkEntry {H : Type} : Lit × DataW H → Nat
  | (.string bytes, d) => bytes.length + uptoBulk d + 1
  | (_, d) => uptoBulk d + 1
 end
def uptoSmall : (H : Type) → List (DataW H) → Bool := fun _ ds => decide (uptoBulkAll ds ≤ 1048576)
def OpenSpec.upto (s : _root_.Go.ChangeSpec) : _root_.Go.OpenSpec := { _root_.Go.OpenSpec.ofChange s with cond := some uptoSmall }

/-- 'roadlaw4.CutAll', WHERE WHAT IT READS IS OF BULK AT MOST 1048576: true; the input reads as it did. -/
def cutAllUptoRow : OpenClaim := { program := "ytdlihfedhojdgaa", sum := "214a16c84776e5e7f07a1cf46b9fea1c9d7817d8327cd4148c53ae8da932a9f3", func := "roadstead/roadlaw4.CutAll", spec := "cutAll", unfollowed := true, recurses := true, plainKeys := false, apart := false, narrowed := true }
def CutAllUptoSaid : Prop := cutAllUptoRow.holds Try.pinned (OpenSpec.upto cutAllSpec)

/-- 'roadlaw4.WeightPlays', WHERE WHAT IT READS IS OF BULK AT MOST 1048576: true; the input reads as it did. -/
def weightPlaysUptoRow : OpenClaim := { program := "ytdlihfedhojdgaa", sum := "214a16c84776e5e7f07a1cf46b9fea1c9d7817d8327cd4148c53ae8da932a9f3", func := "roadstead/roadlaw4.WeightPlays", spec := "weightPlays", plainKeys := false, apart := false, narrowed := true }
def WeightPlaysUptoSaid : Prop := weightPlaysUptoRow.holds Try.pinned (OpenSpec.upto weightPlaysSpec)

/-- 'roadlaw3.StealTells', WHERE WHAT IT READS IS OF BULK AT MOST 1048576: true; the input reads as it did. -/
def stealTellsUptoRow : OpenClaim := { program := "ytdlihfedhojdgaa", sum := "214a16c84776e5e7f07a1cf46b9fea1c9d7817d8327cd4148c53ae8da932a9f3", func := "roadstead/roadlaw3.StealTells", spec := "stealTells", plainKeys := false, apart := false, narrowed := true }
def StealTellsUptoSaid : Prop := stealTellsUptoRow.holds Try.pinned (OpenSpec.upto stealTellsSpec)

/-- 'roadlaw2.TalkSays', WHERE WHAT IT READS IS OF BULK AT MOST 1048576: true; the input reads as it did. -/
def talkSaysUptoRow : OpenClaim := { program := "ytdlihfedhojdgaa", sum := "214a16c84776e5e7f07a1cf46b9fea1c9d7817d8327cd4148c53ae8da932a9f3", func := "roadstead/roadlaw2.TalkSays", spec := "talkSays", unfollowed := true, recurses := true, plainKeys := false, apart := false, narrowed := true }
def TalkSaysUptoSaid : Prop := talkSaysUptoRow.holds Try.pinned (OpenSpec.upto talkSaysSpec)

end Rows
end Go.Proofs.Ytdlihfedhojdgaa
