/-
  NARROWER THAN 'FOR EVERY INPUT', by the rows' own cells (each row's printed sentence says how): LimitTells: loops · LinkTells: loops.
  DERIVED. THE GIVEN ROWS OF THIS SEAT. 6 by the template 'for every input the law returns true; each argument reads behind the call as it read before'; 0 by the template 'total and deterministic' (their statements: YtklobcelbpjjcacTotals.lean).
  GIVEN WITH THE SEED: the statements are not yours to turn. If you find one false, say at which input.
  Laid BY PROGRAM, IN A SANDBOX (cutbox-rows.mjs): the forced cells as the released guide's own fill.sh prints them over the translation ea2bb21c040ad346… (all of the seat's roots in one cut). By AI agents, Wed Nov 11 2026. No macro, syntax, notation, axiom, sorry.
-/
import Derived.Test.YtklobcelbpjjcacChecked
import GoSem.Claim
import GoSem.ClaimJoined
import GoSem.ClaimMapViews
import Derived.JoinedTies
import Derived.KernelRfl
namespace Go.Proofs.Ytklobcelbpjjcac
/- THE CELL 'sum', in the pinned program and in every row, IS THE sha256 OF THE DUMP (.gsa) THAT YtklobcelbpjjcacProg.lean LOADS. Nothing in Lean hashes anything: it is a label: what it is worth is what the hold of that sum in a sandbox is worth. -/
noncomputable def Try.pinned : Pinned := { name := "ytklobcelbpjjcac", sum := "ea2bb21c040ad346ab1cc5ab7777c503baafc576d25416241d7310693c3193d2", checked := Try.checked }
namespace Rows
def none {H : Type} : Left H := { results := [], args := [] }

/-- 'roadlaw2.TalkSays': WHATEVER THE INPUT: true; the input reads as it did. -/
def talkSaysSpec : ChangeSpec := { name := "talkSays", fn := fun _ => fun
  | [d1, d2, d3] => { results := [.lit (.bool true)], args := [d1, d2, d3] }
  | _ => none }
def talkSaysRow : OpenClaim := { program := "ytklobcelbpjjcac", sum := "ea2bb21c040ad346ab1cc5ab7777c503baafc576d25416241d7310693c3193d2", func := "roadstead/roadlaw2.TalkSays", spec := "talkSays", unfollowed := true, recurses := true, apart := false }
def TalkSaysSaid : Prop := talkSaysRow.holds Try.pinned (OpenSpec.ofChange talkSaysSpec)

/-- ITS FALSE NEIGHBOUR: 'it returns false'. Refute it at one input. -/
def talkSaysWrong : ChangeSpec := { name := "talkSays", fn := fun _ => fun
  | [d1, d2, d3] => { results := [.lit (.bool false)], args := [d1, d2, d3] }
  | _ => none }
def TalkSaysWrongFalsely : Prop := talkSaysRow.holds Try.pinned (OpenSpec.ofChange talkSaysWrong)

/-- 'roadlaw3.YoungCopies': WHATEVER THE INPUT: true; the input reads as it did. -/
def youngCopiesSpec : ChangeSpec := { name := "youngCopies", fn := fun _ => fun
  | [d1, d2] => { results := [.lit (.bool true)], args := [d1, d2] }
  | _ => none }
def youngCopiesRow : OpenClaim := { program := "ytklobcelbpjjcac", sum := "ea2bb21c040ad346ab1cc5ab7777c503baafc576d25416241d7310693c3193d2", func := "roadstead/roadlaw3.YoungCopies", spec := "youngCopies", unfollowed := true, recurses := true, apart := false }
def YoungCopiesSaid : Prop := youngCopiesRow.holds Try.pinned (OpenSpec.ofChange youngCopiesSpec)

/-- ITS FALSE NEIGHBOUR: 'it returns false'. Refute it at one input. -/
def youngCopiesWrong : ChangeSpec := { name := "youngCopies", fn := fun _ => fun
  | [d1, d2] => { results := [.lit (.bool false)], args := [d1, d2] }
  | _ => none }
def YoungCopiesWrongFalsely : Prop := youngCopiesRow.holds Try.pinned (OpenSpec.ofChange youngCopiesWrong)

/-- 'roadlaw3.TimerTells': WHATEVER THE INPUT: true; the input reads as it did. -/
def timerTellsSpec : ChangeSpec := { name := "timerTells", fn := fun _ => fun
  | [d1, d2, d3] => { results := [.lit (.bool true)], args := [d1, d2, d3] }
  | _ => none }
def timerTellsRow : OpenClaim := { program := "ytklobcelbpjjcac", sum := "ea2bb21c040ad346ab1cc5ab7777c503baafc576d25416241d7310693c3193d2", func := "roadstead/roadlaw3.TimerTells", spec := "timerTells", inPlace := ["slices.overlaps[roadstead/timer.Due]"], unfollowed := true, recurses := true, apart := false }
def TimerTellsSaid : Prop := timerTellsRow.holds Try.pinned (OpenSpec.ofChange timerTellsSpec)

/-- ITS FALSE NEIGHBOUR: 'it returns false'. Refute it at one input. -/
def timerTellsWrong : ChangeSpec := { name := "timerTells", fn := fun _ => fun
  | [d1, d2, d3] => { results := [.lit (.bool false)], args := [d1, d2, d3] }
  | _ => none }
def TimerTellsWrongFalsely : Prop := timerTellsRow.holds Try.pinned (OpenSpec.ofChange timerTellsWrong)

/-- 'roadlaw4.GossipPlays': WHATEVER THE INPUT: true; the input reads as it did. -/
def gossipPlaysSpec : ChangeSpec := { name := "gossipPlays", fn := fun _ => fun
  | [d1, d2, d3, d4] => { results := [.lit (.bool true)], args := [d1, d2, d3, d4] }
  | _ => none }
def gossipPlaysRow : OpenClaim := { program := "ytklobcelbpjjcac", sum := "ea2bb21c040ad346ab1cc5ab7777c503baafc576d25416241d7310693c3193d2", func := "roadstead/roadlaw4.GossipPlays", spec := "gossipPlays", inPlace := ["slices.overlaps[roadstead/gossip.Row]"], unfollowed := true, recurses := true, apart := false }
def GossipPlaysSaid : Prop := gossipPlaysRow.holds Try.pinned (OpenSpec.ofChange gossipPlaysSpec)

/-- ITS FALSE NEIGHBOUR: 'it returns false'. Refute it at one input. -/
def gossipPlaysWrong : ChangeSpec := { name := "gossipPlays", fn := fun _ => fun
  | [d1, d2, d3, d4] => { results := [.lit (.bool false)], args := [d1, d2, d3, d4] }
  | _ => none }
def GossipPlaysWrongFalsely : Prop := gossipPlaysRow.holds Try.pinned (OpenSpec.ofChange gossipPlaysWrong)

/-- 'roadlaw3.LimitTells': WHATEVER THE INPUT: true; the input reads as it did. -/
def limitTellsSpec : ChangeSpec := { name := "limitTells", fn := fun _ => fun
  | [d1, d2, d3, d4, d5, d6] => { results := [.lit (.bool true)], args := [d1, d2, d3, d4, d5, d6] }
  | _ => none }
def limitTellsRow : OpenClaim := { program := "ytklobcelbpjjcac", sum := "ea2bb21c040ad346ab1cc5ab7777c503baafc576d25416241d7310693c3193d2", func := "roadstead/roadlaw3.LimitTells", spec := "limitTells", inPlace := ["slices.overlaps[roadstead/limit.Row]"], unfollowed := true, recurses := true, loops := true, apart := false }
def LimitTellsSaid : Prop := limitTellsRow.holds Try.pinned (OpenSpec.ofChange limitTellsSpec)

/-- ITS FALSE NEIGHBOUR: 'it returns false'. Refute it at one input. -/
def limitTellsWrong : ChangeSpec := { name := "limitTells", fn := fun _ => fun
  | [d1, d2, d3, d4, d5, d6] => { results := [.lit (.bool false)], args := [d1, d2, d3, d4, d5, d6] }
  | _ => none }
def LimitTellsWrongFalsely : Prop := limitTellsRow.holds Try.pinned (OpenSpec.ofChange limitTellsWrong)

/-- 'roadlaw3.LinkTells': WHATEVER THE INPUT: true; the input reads as it did. -/
def linkTellsSpec : ChangeSpec := { name := "linkTells", fn := fun _ => fun
  | [d1, d2, d3, d4, d5, d6] => { results := [.lit (.bool true)], args := [d1, d2, d3, d4, d5, d6] }
  | _ => none }
def linkTellsRow : OpenClaim := { program := "ytklobcelbpjjcac", sum := "ea2bb21c040ad346ab1cc5ab7777c503baafc576d25416241d7310693c3193d2", func := "roadstead/roadlaw3.LinkTells", spec := "linkTells", inPlace := ["slices.overlaps[roadstead/link.Row]"], unfollowed := true, recurses := true, loops := true, apart := false }
def LinkTellsSaid : Prop := linkTellsRow.holds Try.pinned (OpenSpec.ofChange linkTellsSpec)

/-- ITS FALSE NEIGHBOUR: 'it returns false'. Refute it at one input. -/
def linkTellsWrong : ChangeSpec := { name := "linkTells", fn := fun _ => fun
  | [d1, d2, d3, d4, d5, d6] => { results := [.lit (.bool false)], args := [d1, d2, d3, d4, d5, d6] }
  | _ => none }
def LinkTellsWrongFalsely : Prop := linkTellsRow.holds Try.pinned (OpenSpec.ofChange linkTellsWrong)

/- THE SECOND FORM. 'bulk': how many values and letters a reading holds, each counted each time it is reached (what is shared counts as often as it is met; a slice's spare places count too). A statement '..UptoSaid' is the law's where the arguments, and the package variables that the reading takes, are together of bulk at most 1048576: NARROWER than '..Said'. Prove '..Said' where nothing that the law and all that it calls make is longer than what came in: it says more and counts as full. Else prove '..UptoSaid'. A law counts once. -/
mutual
def uptoBulk {H : Type} : DataW H → Nat
  | .lit (.string bytes) => bytes.length + 1
  | .lit _ => 1
  | .nil => 1
  | .ptr d => uptoBulk d + 1
  | .slice elems spare => uptoBulkAll elems + uptoBulkAll spare + 1
  | .agg parts => uptoBulkAll parts + 1
  | .iface _ d => uptoBulk d + 1
  | .map entries => uptoBulkEntries entries + 1
  | .held _ => 1
def uptoBulkAll {H : Type} : List (DataW H) → Nat
  | [] => 0
  | d :: r => uptoBulk d + uptoBulkAll r
def uptoBulkEntries {H : Type} : List (Lit × DataW H) → Nat
  | [] => 0
  | x :: r => uptoBulkEntry x + uptoBulkEntries r
def uptoBulkEntry {H : Type} : Lit × DataW H → Nat
  | (.string bytes, d) => bytes.length + uptoBulk d + 1
  | (_, d) => uptoBulk d + 1
 end
def uptoSmall : (H : Type) → List (DataW H) → Bool := fun _ ds => decide (uptoBulkAll ds ≤ 1048576)
def OpenSpec.upto (s : _root_.Go.ChangeSpec) : _root_.Go.OpenSpec := { _root_.Go.OpenSpec.ofChange s with cond := some uptoSmall }

/-- 'roadlaw2.TalkSays', WHERE WHAT IT READS IS OF BULK AT MOST 1048576: true; the input reads as it did. -/
def talkSaysUptoRow : OpenClaim := { program := "ytklobcelbpjjcac", sum := "ea2bb21c040ad346ab1cc5ab7777c503baafc576d25416241d7310693c3193d2", func := "roadstead/roadlaw2.TalkSays", spec := "talkSays", unfollowed := true, recurses := true, apart := false, narrowed := true }
def TalkSaysUptoSaid : Prop := talkSaysUptoRow.holds Try.pinned (OpenSpec.upto talkSaysSpec)

/-- 'roadlaw3.YoungCopies', WHERE WHAT IT READS IS OF BULK AT MOST 1048576: true; the input reads as it did. -/
def youngCopiesUptoRow : OpenClaim := { program := "ytklobcelbpjjcac", sum := "ea2bb21c040ad346ab1cc5ab7777c503baafc576d25416241d7310693c3193d2", func := "roadstead/roadlaw3.YoungCopies", spec := "youngCopies", unfollowed := true, recurses := true, apart := false, narrowed := true }
def YoungCopiesUptoSaid : Prop := youngCopiesUptoRow.holds Try.pinned (OpenSpec.upto youngCopiesSpec)

/-- 'roadlaw3.TimerTells', WHERE WHAT IT READS IS OF BULK AT MOST 1048576: true; the input reads as it did. -/
def timerTellsUptoRow : OpenClaim := { program := "ytklobcelbpjjcac", sum := "ea2bb21c040ad346ab1cc5ab7777c503baafc576d25416241d7310693c3193d2", func := "roadstead/roadlaw3.TimerTells", spec := "timerTells", inPlace := ["slices.overlaps[roadstead/timer.Due]"], unfollowed := true, recurses := true, apart := false, narrowed := true }
def TimerTellsUptoSaid : Prop := timerTellsUptoRow.holds Try.pinned (OpenSpec.upto timerTellsSpec)

/-- 'roadlaw4.GossipPlays', WHERE WHAT IT READS IS OF BULK AT MOST 1048576: true; the input reads as it did. -/
def gossipPlaysUptoRow : OpenClaim := { program := "ytklobcelbpjjcac", sum := "ea2bb21c040ad346ab1cc5ab7777c503baafc576d25416241d7310693c3193d2", func := "roadstead/roadlaw4.GossipPlays", spec := "gossipPlays", inPlace := ["slices.overlaps[roadstead/gossip.Row]"], unfollowed := true, recurses := true, apart := false, narrowed := true }
def GossipPlaysUptoSaid : Prop := gossipPlaysUptoRow.holds Try.pinned (OpenSpec.upto gossipPlaysSpec)

/-- 'roadlaw3.LimitTells', WHERE WHAT IT READS IS OF BULK AT MOST 1048576: true; the input reads as it did. -/
def limitTellsUptoRow : OpenClaim := { program := "ytklobcelbpjjcac", sum := "ea2bb21c040ad346ab1cc5ab7777c503baafc576d25416241d7310693c3193d2", func := "roadstead/roadlaw3.LimitTells", spec := "limitTells", inPlace := ["slices.overlaps[roadstead/limit.Row]"], unfollowed := true, recurses := true, loops := true, apart := false, narrowed := true }
def LimitTellsUptoSaid : Prop := limitTellsUptoRow.holds Try.pinned (OpenSpec.upto limitTellsSpec)

/-- 'roadlaw3.LinkTells', WHERE WHAT IT READS IS OF BULK AT MOST 1048576: true; the input reads as it did. -/
def linkTellsUptoRow : OpenClaim := { program := "ytklobcelbpjjcac", sum := "ea2bb21c040ad346ab1cc5ab7777c503baafc576d25416241d7310693c3193d2", func := "roadstead/roadlaw3.LinkTells", spec := "linkTells", inPlace := ["slices.overlaps[roadstead/link.Row]"], unfollowed := true, recurses := true, loops := true, apart := false, narrowed := true }
def LinkTellsUptoSaid : Prop := linkTellsUptoRow.holds Try.pinned (OpenSpec.upto linkTellsSpec)

end Rows
end Go.Proofs.Ytklobcelbpjjcac
