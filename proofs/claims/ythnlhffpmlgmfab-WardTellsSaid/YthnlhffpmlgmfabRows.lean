/-
  No cell of these rows narrows 'for every input' (looked for: loops, veiled, ifaces, maps, wideKeys, modest, calm, conditions, laid).
  DERIVED. THE GIVEN ROWS OF THIS SEAT. 4 by the template 'for every input the law returns true; each argument reads behind the call as it read before'; 0 by the template 'total and deterministic' (their statements: YthnlhffpmlgmfabTotals.lean).
  GIVEN WITH THE SEED: the statements are not yours to turn. If you find one false, say at which input.
  Laid BY PROGRAM, IN A SANDBOX (cutbox-rows.mjs): the forced cells as the released guide's own fill.sh prints them over the translation 18f6801dc24d8da4… (all of the seat's roots in one cut). By AI agents, Wed Nov 11 2026. No macro, syntax, notation, axiom, sorry.
-/
import Derived.Test.YthnlhffpmlgmfabChecked
import GoSem.Claim
import GoSem.ClaimJoined
import GoSem.ClaimMapViews
import Derived.JoinedTies
import Derived.KernelRfl
namespace Go.Proofs.Ythnlhffpmlgmfab
/- THE CELL 'sum', in the pinned program and in every row, IS THE sha256 OF THE DUMP (.gsa) THAT YthnlhffpmlgmfabProg.lean LOADS. Nothing in Lean hashes anything: it is a label: what it is worth is what the hold of that sum in a sandbox is worth. -/
noncomputable def Try.pinned : Pinned := { name := "ythnlhffpmlgmfab", sum := "18f6801dc24d8da41a9211cd2acd4f480d999c1e4122c609c8371cfe57ae463a", checked := Try.checked }
namespace Rows
def none {H : Type} : Left H := { results := [], args := [] }

/-- 'roadlaw3.WardTells': WHATEVER THE INPUT: true; the input reads as it did. -/
def wardTellsSpec : ChangeSpec := { name := "wardTells", fn := fun _ => fun
  | [d1, d2, d3, d4, d5] => { results := [.lit (.bool true)], args := [d1, d2, d3, d4, d5] }
  | _ => none }
def wardTellsRow : OpenClaim := { program := "ythnlhffpmlgmfab", sum := "18f6801dc24d8da41a9211cd2acd4f480d999c1e4122c609c8371cfe57ae463a", func := "roadstead/roadlaw3.WardTells", spec := "wardTells", unfollowed := true, recurses := true, apart := false }
def WardTellsSaid : Prop := wardTellsRow.holds Try.pinned (OpenSpec.ofChange wardTellsSpec)

/-- ITS FALSE NEIGHBOUR: 'it returns false'. Refute it at one input. -/
def wardTellsWrong : ChangeSpec := { name := "wardTells", fn := fun _ => fun
  | [d1, d2, d3, d4, d5] => { results := [.lit (.bool false)], args := [d1, d2, d3, d4, d5] }
  | _ => none }
def WardTellsWrongFalsely : Prop := wardTellsRow.holds Try.pinned (OpenSpec.ofChange wardTellsWrong)

/-- 'roadlaw2.TalkSays': WHATEVER THE INPUT: true; the input reads as it did. -/
def talkSaysSpec : ChangeSpec := { name := "talkSays", fn := fun _ => fun
  | [d1, d2, d3] => { results := [.lit (.bool true)], args := [d1, d2, d3] }
  | _ => none }
def talkSaysRow : OpenClaim := { program := "ythnlhffpmlgmfab", sum := "18f6801dc24d8da41a9211cd2acd4f480d999c1e4122c609c8371cfe57ae463a", func := "roadstead/roadlaw2.TalkSays", spec := "talkSays", unfollowed := true, recurses := true, apart := false }
def TalkSaysSaid : Prop := talkSaysRow.holds Try.pinned (OpenSpec.ofChange talkSaysSpec)

/-- ITS FALSE NEIGHBOUR: 'it returns false'. Refute it at one input. -/
def talkSaysWrong : ChangeSpec := { name := "talkSays", fn := fun _ => fun
  | [d1, d2, d3] => { results := [.lit (.bool false)], args := [d1, d2, d3] }
  | _ => none }
def TalkSaysWrongFalsely : Prop := talkSaysRow.holds Try.pinned (OpenSpec.ofChange talkSaysWrong)

/-- 'roadlaw3.YoungCopies': WHATEVER THE INPUT: true; the input reads as it did. -/
def youngCopiesSpec : ChangeSpec := { name := "youngCopies", fn := fun _ => fun
  | [d1, d2] => { results := [.lit (.bool true)], args := [d1, d2] }
  | _ => none }
def youngCopiesRow : OpenClaim := { program := "ythnlhffpmlgmfab", sum := "18f6801dc24d8da41a9211cd2acd4f480d999c1e4122c609c8371cfe57ae463a", func := "roadstead/roadlaw3.YoungCopies", spec := "youngCopies", unfollowed := true, recurses := true, apart := false }
def YoungCopiesSaid : Prop := youngCopiesRow.holds Try.pinned (OpenSpec.ofChange youngCopiesSpec)

/-- ITS FALSE NEIGHBOUR: 'it returns false'. Refute it at one input. -/
def youngCopiesWrong : ChangeSpec := { name := "youngCopies", fn := fun _ => fun
  | [d1, d2] => { results := [.lit (.bool false)], args := [d1, d2] }
  | _ => none }
def YoungCopiesWrongFalsely : Prop := youngCopiesRow.holds Try.pinned (OpenSpec.ofChange youngCopiesWrong)

/-- 'roadlaw3.TimerTells': WHATEVER THE INPUT: true; the input reads as it did. -/
def timerTellsSpec : ChangeSpec := { name := "timerTells", fn := fun _ => fun
  | [d1, d2, d3] => { results := [.lit (.bool true)], args := [d1, d2, d3] }
  | _ => none }
def timerTellsRow : OpenClaim := { program := "ythnlhffpmlgmfab", sum := "18f6801dc24d8da41a9211cd2acd4f480d999c1e4122c609c8371cfe57ae463a", func := "roadstead/roadlaw3.TimerTells", spec := "timerTells", inPlace := ["slices.overlaps[roadstead/timer.Due]"], unfollowed := true, recurses := true, apart := false }
def TimerTellsSaid : Prop := timerTellsRow.holds Try.pinned (OpenSpec.ofChange timerTellsSpec)

/-- ITS FALSE NEIGHBOUR: 'it returns false'. Refute it at one input. -/
def timerTellsWrong : ChangeSpec := { name := "timerTells", fn := fun _ => fun
  | [d1, d2, d3] => { results := [.lit (.bool false)], args := [d1, d2, d3] }
  | _ => none }
def TimerTellsWrongFalsely : Prop := timerTellsRow.holds Try.pinned (OpenSpec.ofChange timerTellsWrong)

/- THE SECOND FORM. 'bulk': how many values and letters a reading holds, each counted each time it is reached (what is shared counts as often as it is met; a slice's spare places count too). A statement '..UptoSaid' is the law's where the arguments, and the package variables that the reading takes, are together of bulk at most 1048576: NARROWER than '..Said'. Prove '..Said' where nothing that the law and all that it calls make is longer than what came in: it says more and counts as full. Else prove '..UptoSaid'. A law counts once. -/
mutual
def uptoBulk {H : Type} : DataW H → Nat
  | .lit (.string bytes) => bytes.length + 1
  | .lit _ => 1
  | .nil => 1
  | .ptr d => uptoBulk d + 1
  | .slice elems spare => uptoBulkAll elems + uptoBulkAll spare + 1
  | .agg parts => uptoBulkAll parts + 1
  | .iface _ d => uptoBulk d + 1
  | .map entries => uptoBulkEntries entries + 1
  | .held _ => 1
def uptoBulkAll {H : Type} : List (DataW H) → Nat
  | [] => 0
  | d :: r => uptoBulk d + uptoBulkAll r
def uptoBulkEntries {H : Type} : List (Lit × DataW H) → Nat
  | [] => 0
  | x :: r => uptoBulkEntry x + uptoBulkEntries r
def uptoBulkEntry {H : Type} : Lit × DataW H → Nat
  | (.string bytes, d) => bytes.length + uptoBulk d + 1
  | (_, d) => uptoBulk d + 1
 end
def uptoSmall : (H : Type) → List (DataW H) → Bool := fun _ ds => decide (uptoBulkAll ds ≤ 1048576)
def OpenSpec.upto (s : _root_.Go.ChangeSpec) : _root_.Go.OpenSpec := { _root_.Go.OpenSpec.ofChange s with cond := some uptoSmall }

/-- 'roadlaw3.WardTells', WHERE WHAT IT READS IS OF BULK AT MOST 1048576: true; the input reads as it did. -/
def wardTellsUptoRow : OpenClaim := { program := "ythnlhffpmlgmfab", sum := "18f6801dc24d8da41a9211cd2acd4f480d999c1e4122c609c8371cfe57ae463a", func := "roadstead/roadlaw3.WardTells", spec := "wardTells", unfollowed := true, recurses := true, apart := false, narrowed := true }
def WardTellsUptoSaid : Prop := wardTellsUptoRow.holds Try.pinned (OpenSpec.upto wardTellsSpec)

/-- 'roadlaw2.TalkSays', WHERE WHAT IT READS IS OF BULK AT MOST 1048576: true; the input reads as it did. -/
def talkSaysUptoRow : OpenClaim := { program := "ythnlhffpmlgmfab", sum := "18f6801dc24d8da41a9211cd2acd4f480d999c1e4122c609c8371cfe57ae463a", func := "roadstead/roadlaw2.TalkSays", spec := "talkSays", unfollowed := true, recurses := true, apart := false, narrowed := true }
def TalkSaysUptoSaid : Prop := talkSaysUptoRow.holds Try.pinned (OpenSpec.upto talkSaysSpec)

/-- 'roadlaw3.YoungCopies', WHERE WHAT IT READS IS OF BULK AT MOST 1048576: true; the input reads as it did. -/
def youngCopiesUptoRow : OpenClaim := { program := "ythnlhffpmlgmfab", sum := "18f6801dc24d8da41a9211cd2acd4f480d999c1e4122c609c8371cfe57ae463a", func := "roadstead/roadlaw3.YoungCopies", spec := "youngCopies", unfollowed := true, recurses := true, apart := false, narrowed := true }
def YoungCopiesUptoSaid : Prop := youngCopiesUptoRow.holds Try.pinned (OpenSpec.upto youngCopiesSpec)

/-- 'roadlaw3.TimerTells', WHERE WHAT IT READS IS OF BULK AT MOST 1048576: true; the input reads as it did. -/
def timerTellsUptoRow : OpenClaim := { program := "ythnlhffpmlgmfab", sum := "18f6801dc24d8da41a9211cd2acd4f480d999c1e4122c609c8371cfe57ae463a", func := "roadstead/roadlaw3.TimerTells", spec := "timerTells", inPlace := ["slices.overlaps[roadstead/timer.Due]"], unfollowed := true, recurses := true, apart := false, narrowed := true }
def TimerTellsUptoSaid : Prop := timerTellsUptoRow.holds Try.pinned (OpenSpec.upto timerTellsSpec)

end Rows
end Go.Proofs.Ythnlhffpmlgmfab
