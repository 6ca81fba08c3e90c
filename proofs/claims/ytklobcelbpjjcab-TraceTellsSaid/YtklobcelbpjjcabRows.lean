/-
  No cell of these rows narrows 'for every input' (looked for: loops, veiled, ifaces, maps, wideKeys, modest, calm, conditions, laid).
  DERIVED. THE GIVEN ROWS OF THIS SEAT. 6 by the template 'for every input the law returns true; each argument reads behind the call as it read before'; 0 by the template 'total and deterministic' (their statements: YtklobcelbpjjcabTotals.lean).
  GIVEN WITH THE SEED: the statements are not yours to turn. If you find one false, say at which input.
  Laid BY PROGRAM, IN A SANDBOX (cutbox-rows.mjs): the forced cells as the released guide's own fill.sh prints them over the translation dc16d7cd2b166f70… (all of the seat's roots in one cut). By AI agents, Wed Nov 11 2026. No macro, syntax, notation, axiom, sorry.
-/
import Derived.Test.YtklobcelbpjjcabChecked
import GoSem.Claim
import GoSem.ClaimJoined
import GoSem.ClaimMapViews
import Derived.JoinedTies
import Derived.KernelRfl
namespace Go.Proofs.Ytklobcelbpjjcab
/- THE CELL 'sum', in the pinned program and in every row, IS THE sha256 OF THE DUMP (.gsa) THAT YtklobcelbpjjcabProg.lean LOADS. Nothing in Lean hashes anything: it is a label: what it is worth is what the hold of that sum in a sandbox is worth. -/
noncomputable def Try.pinned : Pinned := { name := "ytklobcelbpjjcab", sum := "dc16d7cd2b166f7011148e8c2dac73be5680fd65f4a79ca85d9373d2f7b7d6d6", checked := Try.checked }
namespace Rows
def none {H : Type} : Left H := { results := [], args := [] }

/-- 'roadlaw4.WeightPlays': WHATEVER THE INPUT: true; the input reads as it did. -/
def weightPlaysSpec : ChangeSpec := { name := "weightPlays", fn := fun _ => fun
  | [d1, d2] => { results := [.lit (.bool true)], args := [d1, d2] }
  | _ => none }
def weightPlaysRow : OpenClaim := { program := "ytklobcelbpjjcab", sum := "dc16d7cd2b166f7011148e8c2dac73be5680fd65f4a79ca85d9373d2f7b7d6d6", func := "roadstead/roadlaw4.WeightPlays", spec := "weightPlays", apart := false }
def WeightPlaysSaid : Prop := weightPlaysRow.holds Try.pinned (OpenSpec.ofChange weightPlaysSpec)

/-- ITS FALSE NEIGHBOUR: 'it returns false'. Refute it at one input. -/
def weightPlaysWrong : ChangeSpec := { name := "weightPlays", fn := fun _ => fun
  | [d1, d2] => { results := [.lit (.bool false)], args := [d1, d2] }
  | _ => none }
def WeightPlaysWrongFalsely : Prop := weightPlaysRow.holds Try.pinned (OpenSpec.ofChange weightPlaysWrong)

/-- 'roadlaw4.ClockSays': WHATEVER THE INPUT: true; the input reads as it did. -/
def clockSaysSpec : ChangeSpec := { name := "clockSays", fn := fun _ => fun
  | [d1, d2, d3] => { results := [.lit (.bool true)], args := [d1, d2, d3] }
  | _ => none }
def clockSaysRow : OpenClaim := { program := "ytklobcelbpjjcab", sum := "dc16d7cd2b166f7011148e8c2dac73be5680fd65f4a79ca85d9373d2f7b7d6d6", func := "roadstead/roadlaw4.ClockSays", spec := "clockSays", unfollowed := true, recurses := true, apart := false }
def ClockSaysSaid : Prop := clockSaysRow.holds Try.pinned (OpenSpec.ofChange clockSaysSpec)

/-- ITS FALSE NEIGHBOUR: 'it returns false'. Refute it at one input. -/
def clockSaysWrong : ChangeSpec := { name := "clockSays", fn := fun _ => fun
  | [d1, d2, d3] => { results := [.lit (.bool false)], args := [d1, d2, d3] }
  | _ => none }
def ClockSaysWrongFalsely : Prop := clockSaysRow.holds Try.pinned (OpenSpec.ofChange clockSaysWrong)

/-- 'roadlaw3.StealTells': WHATEVER THE INPUT: true; the input reads as it did. -/
def stealTellsSpec : ChangeSpec := { name := "stealTells", fn := fun _ => fun
  | [d1, d2, d3, d4] => { results := [.lit (.bool true)], args := [d1, d2, d3, d4] }
  | _ => none }
def stealTellsRow : OpenClaim := { program := "ytklobcelbpjjcab", sum := "dc16d7cd2b166f7011148e8c2dac73be5680fd65f4a79ca85d9373d2f7b7d6d6", func := "roadstead/roadlaw3.StealTells", spec := "stealTells", apart := false }
def StealTellsSaid : Prop := stealTellsRow.holds Try.pinned (OpenSpec.ofChange stealTellsSpec)

/-- ITS FALSE NEIGHBOUR: 'it returns false'. Refute it at one input. -/
def stealTellsWrong : ChangeSpec := { name := "stealTells", fn := fun _ => fun
  | [d1, d2, d3, d4] => { results := [.lit (.bool false)], args := [d1, d2, d3, d4] }
  | _ => none }
def StealTellsWrongFalsely : Prop := stealTellsRow.holds Try.pinned (OpenSpec.ofChange stealTellsWrong)

/-- 'roadlaw4.TraceTells': WHATEVER THE INPUT: true; the input reads as it did. -/
def traceTellsSpec : ChangeSpec := { name := "traceTells", fn := fun _ => fun
  | [d1, d2, d3, d4] => { results := [.lit (.bool true)], args := [d1, d2, d3, d4] }
  | _ => none }
def traceTellsRow : OpenClaim := { program := "ytklobcelbpjjcab", sum := "dc16d7cd2b166f7011148e8c2dac73be5680fd65f4a79ca85d9373d2f7b7d6d6", func := "roadstead/roadlaw4.TraceTells", spec := "traceTells", unfollowed := true, recurses := true, apart := false }
def TraceTellsSaid : Prop := traceTellsRow.holds Try.pinned (OpenSpec.ofChange traceTellsSpec)

/-- ITS FALSE NEIGHBOUR: 'it returns false'. Refute it at one input. -/
def traceTellsWrong : ChangeSpec := { name := "traceTells", fn := fun _ => fun
  | [d1, d2, d3, d4] => { results := [.lit (.bool false)], args := [d1, d2, d3, d4] }
  | _ => none }
def TraceTellsWrongFalsely : Prop := traceTellsRow.holds Try.pinned (OpenSpec.ofChange traceTellsWrong)

/-- 'roadlaw3.CarryTells': WHATEVER THE INPUT: true; the input reads as it did. -/
def carryTellsSpec : ChangeSpec := { name := "carryTells", fn := fun _ => fun
  | [d1, d2, d3] => { results := [.lit (.bool true)], args := [d1, d2, d3] }
  | _ => none }
def carryTellsRow : OpenClaim := { program := "ytklobcelbpjjcab", sum := "dc16d7cd2b166f7011148e8c2dac73be5680fd65f4a79ca85d9373d2f7b7d6d6", func := "roadstead/roadlaw3.CarryTells", spec := "carryTells", recurses := true, apart := false }
def CarryTellsSaid : Prop := carryTellsRow.holds Try.pinned (OpenSpec.ofChange carryTellsSpec)

/-- ITS FALSE NEIGHBOUR: 'it returns false'. Refute it at one input. -/
def carryTellsWrong : ChangeSpec := { name := "carryTells", fn := fun _ => fun
  | [d1, d2, d3] => { results := [.lit (.bool false)], args := [d1, d2, d3] }
  | _ => none }
def CarryTellsWrongFalsely : Prop := carryTellsRow.holds Try.pinned (OpenSpec.ofChange carryTellsWrong)

/-- 'roadlaw3.WardTells': WHATEVER THE INPUT: true; the input reads as it did. -/
def wardTellsSpec : ChangeSpec := { name := "wardTells", fn := fun _ => fun
  | [d1, d2, d3, d4, d5] => { results := [.lit (.bool true)], args := [d1, d2, d3, d4, d5] }
  | _ => none }
def wardTellsRow : OpenClaim := { program := "ytklobcelbpjjcab", sum := "dc16d7cd2b166f7011148e8c2dac73be5680fd65f4a79ca85d9373d2f7b7d6d6", func := "roadstead/roadlaw3.WardTells", spec := "wardTells", unfollowed := true, recurses := true, apart := false }
def WardTellsSaid : Prop := wardTellsRow.holds Try.pinned (OpenSpec.ofChange wardTellsSpec)

/-- ITS FALSE NEIGHBOUR: 'it returns false'. Refute it at one input. -/
def wardTellsWrong : ChangeSpec := { name := "wardTells", fn := fun _ => fun
  | [d1, d2, d3, d4, d5] => { results := [.lit (.bool false)], args := [d1, d2, d3, d4, d5] }
  | _ => none }
def WardTellsWrongFalsely : Prop := wardTellsRow.holds Try.pinned (OpenSpec.ofChange wardTellsWrong)

/- THE SECOND FORM. 'bulk': how many values and letters a reading holds, each counted each time it is reached (what is shared counts as often as it is met; a slice's spare places count too). A statement '..UptoSaid' is the law's where the arguments, and the package variables that the reading takes, are together of bulk at most 1048576: NARROWER than '..Said'. Prove '..Said' where nothing that the law and all that it calls make is longer than what came in: it says more and counts as full. Else prove '..UptoSaid'. A law counts once. -/
mutual
def uptoBulk {H : Type} : DataW H → Nat
  | .lit (.string bytes) => bytes.length + 1
  | .lit _ => 1
  | .nil => 1
  | .ptr d => uptoBulk d + 1
  | .slice elems spare => uptoBulkAll elems + uptoBulkAll spare + 1
  | .agg parts => uptoBulkAll parts + 1
  | .iface _ d => uptoBulk d + 1
  | .map entries => uptoBulkEntries entries + 1
  | .held _ => 1
def uptoBulkAll {H : Type} : List (DataW H) → Nat
  | [] => 0
  | d :: r => uptoBulk d + uptoBulkAll r
def uptoBulkEntries {H : Type} : List (Lit × DataW H) → Nat
  | [] => 0
  | x :: r => uptoBulkEntry x + uptoBulkEntries r
def uptoBulkEntry {H : Type} : Lit × DataW H → Nat
  | (.string bytes, d) => bytes.length + uptoBulk d + 1
  | (_, d) => uptoBulk d + 1
 end
def uptoSmall : (H : Type) → List (DataW H) → Bool := fun _ ds => decide (uptoBulkAll ds ≤ 1048576)
def OpenSpec.upto (s : _root_.Go.ChangeSpec) : _root_.Go.OpenSpec := { _root_.Go.OpenSpec.ofChange s with cond := some uptoSmall }

/-- 'roadlaw4.WeightPlays', WHERE WHAT IT READS IS OF BULK AT MOST 1048576: true; the input reads as it did. -/
def weightPlaysUptoRow : OpenClaim := { program := "ytklobcelbpjjcab", sum := "dc16d7cd2b166f7011148e8c2dac73be5680fd65f4a79ca85d9373d2f7b7d6d6", func := "roadstead/roadlaw4.WeightPlays", spec := "weightPlays", apart := false, narrowed := true }
def WeightPlaysUptoSaid : Prop := weightPlaysUptoRow.holds Try.pinned (OpenSpec.upto weightPlaysSpec)

/-- 'roadlaw4.ClockSays', WHERE WHAT IT READS IS OF BULK AT MOST 1048576: true; the input reads as it did. -/
def clockSaysUptoRow : OpenClaim := { program := "ytklobcelbpjjcab", sum := "dc16d7cd2b166f7011148e8c2dac73be5680fd65f4a79ca85d9373d2f7b7d6d6", func := "roadstead/roadlaw4.ClockSays", spec := "clockSays", unfollowed := true, recurses := true, apart := false, narrowed := true }
def ClockSaysUptoSaid : Prop := clockSaysUptoRow.holds Try.pinned (OpenSpec.upto clockSaysSpec)

/-- 'roadlaw3.StealTells', WHERE WHAT IT READS IS OF BULK AT MOST 1048576: true; the input reads as it did. -/
def stealTellsUptoRow : OpenClaim := { program := "ytklobcelbpjjcab", sum := "dc16d7cd2b166f7011148e8c2dac73be5680fd65f4a79ca85d9373d2f7b7d6d6", func := "roadstead/roadlaw3.StealTells", spec := "stealTells", apart := false, narrowed := true }
def StealTellsUptoSaid : Prop := stealTellsUptoRow.holds Try.pinned (OpenSpec.upto stealTellsSpec)

/-- 'roadlaw4.TraceTells', WHERE WHAT IT READS IS OF BULK AT MOST 1048576: true; the input reads as it did. -/
def traceTellsUptoRow : OpenClaim := { program := "ytklobcelbpjjcab", sum := "dc16d7cd2b166f7011148e8c2dac73be5680fd65f4a79ca85d9373d2f7b7d6d6", func := "roadstead/roadlaw4.TraceTells", spec := "traceTells", unfollowed := true, recurses := true, apart := false, narrowed := true }
def TraceTellsUptoSaid : Prop := traceTellsUptoRow.holds Try.pinned (OpenSpec.upto traceTellsSpec)

/-- 'roadlaw3.CarryTells', WHERE WHAT IT READS IS OF BULK AT MOST 1048576: true; the input reads as it did. -/
def carryTellsUptoRow : OpenClaim := { program := "ytklobcelbpjjcab", sum := "dc16d7cd2b166f7011148e8c2dac73be5680fd65f4a79ca85d9373d2f7b7d6d6", func := "roadstead/roadlaw3.CarryTells", spec := "carryTells", recurses := true, apart := false, narrowed := true }
def CarryTellsUptoSaid : Prop := carryTellsUptoRow.holds Try.pinned (OpenSpec.upto carryTellsSpec)

/-- 'roadlaw3.WardTells', WHERE WHAT IT READS IS OF BULK AT MOST 1048576: true; the input reads as it did. -/
def wardTellsUptoRow : OpenClaim := { program := "ytklobcelbpjjcab", sum := "dc16d7cd2b166f7011148e8c2dac73be5680fd65f4a79ca85d9373d2f7b7d6d6", func := "roadstead/roadlaw3.WardTells", spec := "wardTells", unfollowed := true, recurses := true, apart := false, narrowed := true }
def WardTellsUptoSaid : Prop := wardTellsUptoRow.holds Try.pinned (OpenSpec.upto wardTellsSpec)

end Rows
end Go.Proofs.Ytklobcelbpjjcab
