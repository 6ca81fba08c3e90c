/-
  NARROWER THAN 'FOR EVERY INPUT', by the rows' own cells (each row's printed sentence says how): LinkTells: loops · ScopeSays: loops.
  DERIVED. THE GIVEN ROWS OF THIS SEAT. 5 by the template 'for every input the law returns true; each argument reads behind the call as it read before'; 0 by the template 'total and deterministic' (their statements: YtmcfmmoaofileaaTotals.lean).
  GIVEN WITH THE SEED: the statements are not yours to turn. If you find one false, say at which input.
  Laid BY PROGRAM, IN A SANDBOX (cutbox-rows.mjs): the forced cells as the released guide's own fill.sh prints them over the translation 27bb0a2b7e771b41… (all of the seat's roots in one cut). By AI agents, Wed Nov 11 2026. No macro, syntax, notation, axiom, sorry.
-/
import Derived.Test.YtmcfmmoaofileaaChecked
import GoSem.Claim
import GoSem.ClaimJoined
import GoSem.ClaimMapViews
import Derived.JoinedTies
import Derived.KernelRfl
namespace Go.Proofs.Ytmcfmmoaofileaa
/- THE CELL 'sum', in the pinned program and in every row, IS THE sha256 OF THE DUMP (.gsa) THAT YtmcfmmoaofileaaProg.lean LOADS. Nothing in Lean hashes anything: it is a label: what it is worth is what the hold of that sum in a sandbox is worth. -/
noncomputable def Try.pinned : Pinned := { name := "ytmcfmmoaofileaa", sum := "27bb0a2b7e771b41d4f9efc113195a80a072a9751511a3269606bfb11706dcfd", checked := Try.checked }
namespace Rows
def none {H : Type} : Left H := { results := [], args := [] }

/-- 'roadlaw3.YoungCopies': WHATEVER THE INPUT: true; the input reads as it did. -/
def youngCopiesSpec : ChangeSpec := { name := "youngCopies", fn := fun _ => fun
  | [d1, d2] => { results := [.lit (.bool true)], args := [d1, d2] }
  | _ => none }
def youngCopiesRow : OpenClaim := { program := "ytmcfmmoaofileaa", sum := "27bb0a2b7e771b41d4f9efc113195a80a072a9751511a3269606bfb11706dcfd", func := "roadstead/roadlaw3.YoungCopies", spec := "youngCopies", unfollowed := true, recurses := true, plainKeys := false, apart := false }
def YoungCopiesSaid : Prop := youngCopiesRow.holds Try.pinned (OpenSpec.ofChange youngCopiesSpec)

/-- ITS FALSE NEIGHBOUR: 'it returns false'. Refute it at one input. -/
def youngCopiesWrong : ChangeSpec := { name := "youngCopies", fn := fun _ => fun
  | [d1, d2] => { results := [.lit (.bool false)], args := [d1, d2] }
  | _ => none }
def YoungCopiesWrongFalsely : Prop := youngCopiesRow.holds Try.pinned (OpenSpec.ofChange youngCopiesWrong)

/-- 'roadlaw3.TimerTells': WHATEVER THE INPUT: true; the input reads as it did. -/
def timerTellsSpec : ChangeSpec := { name := "timerTells", fn := fun _ => fun
  | [d1, d2, d3] => { results := [.lit (.bool true)], args := [d1, d2, d3] }
  | _ => none }
def timerTellsRow : OpenClaim := { program := "ytmcfmmoaofileaa", sum := "27bb0a2b7e771b41d4f9efc113195a80a072a9751511a3269606bfb11706dcfd", func := "roadstead/roadlaw3.TimerTells", spec := "timerTells", inPlace := ["slices.overlaps[roadstead/timer.Due]"], unfollowed := true, recurses := true, plainKeys := false, apart := false }
def TimerTellsSaid : Prop := timerTellsRow.holds Try.pinned (OpenSpec.ofChange timerTellsSpec)

/-- ITS FALSE NEIGHBOUR: 'it returns false'. Refute it at one input. -/
def timerTellsWrong : ChangeSpec := { name := "timerTells", fn := fun _ => fun
  | [d1, d2, d3] => { results := [.lit (.bool false)], args := [d1, d2, d3] }
  | _ => none }
def TimerTellsWrongFalsely : Prop := timerTellsRow.holds Try.pinned (OpenSpec.ofChange timerTellsWrong)

/-- 'roadlaw3.LinkTells': WHATEVER THE INPUT: true; the input reads as it did. -/
def linkTellsSpec : ChangeSpec := { name := "linkTells", fn := fun _ => fun
  | [d1, d2, d3, d4, d5, d6] => { results := [.lit (.bool true)], args := [d1, d2, d3, d4, d5, d6] }
  | _ => none }
def linkTellsRow : OpenClaim := { program := "ytmcfmmoaofileaa", sum := "27bb0a2b7e771b41d4f9efc113195a80a072a9751511a3269606bfb11706dcfd", func := "roadstead/roadlaw3.LinkTells", spec := "linkTells", inPlace := ["slices.overlaps[roadstead/link.Row]"], unfollowed := true, recurses := true, loops := true, plainKeys := false, apart := false }
def LinkTellsSaid : Prop := linkTellsRow.holds Try.pinned (OpenSpec.ofChange linkTellsSpec)

/-- ITS FALSE NEIGHBOUR: 'it returns false'. Refute it at one input. -/
def linkTellsWrong : ChangeSpec := { name := "linkTells", fn := fun _ => fun
  | [d1, d2, d3, d4, d5, d6] => { results := [.lit (.bool false)], args := [d1, d2, d3, d4, d5, d6] }
  | _ => none }
def LinkTellsWrongFalsely : Prop := linkTellsRow.holds Try.pinned (OpenSpec.ofChange linkTellsWrong)

/-- 'roadlaw4.ExploreEnds': WHATEVER THE INPUT: true; the input reads as it did. -/
def exploreEndsSpec : ChangeSpec := { name := "exploreEnds", fn := fun _ => fun
  | [d] => { results := [.lit (.bool true)], args := [d] }
  | _ => none }
def exploreEndsRow : OpenClaim := { program := "ytmcfmmoaofileaa", sum := "27bb0a2b7e771b41d4f9efc113195a80a072a9751511a3269606bfb11706dcfd", func := "roadstead/roadlaw4.ExploreEnds", spec := "exploreEnds", unfollowed := true, recurses := true, plainKeys := false, apart := false }
def ExploreEndsSaid : Prop := exploreEndsRow.holds Try.pinned (OpenSpec.ofChange exploreEndsSpec)

/-- ITS FALSE NEIGHBOUR: 'it returns false'. Refute it at one input. -/
def exploreEndsWrong : ChangeSpec := { name := "exploreEnds", fn := fun _ => fun
  | [d] => { results := [.lit (.bool false)], args := [d] }
  | _ => none }
def ExploreEndsWrongFalsely : Prop := exploreEndsRow.holds Try.pinned (OpenSpec.ofChange exploreEndsWrong)

/-- 'roadlaw2.ScopeSays': WHATEVER THE INPUT: true; the input reads as it did. -/
def scopeSaysSpec : ChangeSpec := { name := "scopeSays", fn := fun _ => fun
  | [d1, d2] => { results := [.lit (.bool true)], args := [d1, d2] }
  | _ => none }
def scopeSaysRow : OpenClaim := { program := "ytmcfmmoaofileaa", sum := "27bb0a2b7e771b41d4f9efc113195a80a072a9751511a3269606bfb11706dcfd", func := "roadstead/roadlaw2.ScopeSays", spec := "scopeSays", unfollowed := true, recurses := true, loops := true, plainKeys := false, apart := false }
def ScopeSaysSaid : Prop := scopeSaysRow.holds Try.pinned (OpenSpec.ofChange scopeSaysSpec)

/-- ITS FALSE NEIGHBOUR: 'it returns false'. Refute it at one input. -/
def scopeSaysWrong : ChangeSpec := { name := "scopeSays", fn := fun _ => fun
  | [d1, d2] => { results := [.lit (.bool false)], args := [d1, d2] }
  | _ => none }
def ScopeSaysWrongFalsely : Prop := scopeSaysRow.holds Try.pinned (OpenSpec.ofChange scopeSaysWrong)

/- THE SECOND FORM. 'bulk': how many values and letters a reading holds, each counted each time it is reached (what is shared counts as often as it is met; a slice's spare places count too). A statement '..UptoSaid' is the law's where the arguments, and the package variables that the reading takes, are together of bulk at most 1048576: NARROWER than '..Said'. Prove '..Said' where nothing that the law and all that it calls make is longer than what came in: it says more and counts as full. Else prove '..UptoSaid'. A law counts once. -/
mutual
def uptoBulk {H : Type} : DataW H → Nat
  | .lit (.string bytes) => bytes.length + 1
  | .lit _ => 1
  | .nil => 1
  | .ptr d => uptoBulk d + 1
  | .slice elems spare => uptoBulkAll elems + uptoBulkAll spare + 1
  | .agg parts => uptoBulkAll parts + 1
  | .iface _ d => uptoBulk d + 1
  | .map entries => uptoBulkEntries entries + 1
  | .held _ => 1
def uptoBulkAll {H : Type} : List (DataW H) → Nat
  | [] => 0
  | d :: r => uptoBulk d + uptoBulkAll r
def uptoBulkEntries {H : Type} : List (Lit × DataW H) → Nat
  | [] => 0
  | x :: r => uptoBulkEntry x + uptoBulkEntries r
def uptoBulkEntry {H : Type} : Lit × DataW H → Nat
  | (.string bytes, d) => bytes.length + uptoBulk d + 1
  | (_, d) => uptoBulk d + 1
 end
def uptoSmall : (H : Type) → List (DataW H) → Bool := fun _ ds => decide (uptoBulkAll ds ≤ 1048576)
def OpenSpec.upto (s : _root_.Go.ChangeSpec) : _root_.Go.OpenSpec := { _root_.Go.OpenSpec.ofChange s with cond := some uptoSmall }

/-- 'roadlaw3.YoungCopies', WHERE WHAT IT READS IS OF BULK AT MOST 1048576: true; the input reads as it did. -/
def youngCopiesUptoRow : OpenClaim := { program := "ytmcfmmoaofileaa", sum := "27bb0a2b7e771b41d4f9efc113195a80a072a9751511a3269606bfb11706dcfd", func := "roadstead/roadlaw3.YoungCopies", spec := "youngCopies", unfollowed := true, recurses := true, plainKeys := false, apart := false, narrowed := true }
def YoungCopiesUptoSaid : Prop := youngCopiesUptoRow.holds Try.pinned (OpenSpec.upto youngCopiesSpec)

/-- 'roadlaw3.TimerTells', WHERE WHAT IT READS IS OF BULK AT MOST 1048576: true; the input reads as it did. -/
def timerTellsUptoRow : OpenClaim := { program := "ytmcfmmoaofileaa", sum := "27bb0a2b7e771b41d4f9efc113195a80a072a9751511a3269606bfb11706dcfd", func := "roadstead/roadlaw3.TimerTells", spec := "timerTells", inPlace := ["slices.overlaps[roadstead/timer.Due]"], unfollowed := true, recurses := true, plainKeys := false, apart := false, narrowed := true }
def TimerTellsUptoSaid : Prop := timerTellsUptoRow.holds Try.pinned (OpenSpec.upto timerTellsSpec)

/-- 'roadlaw3.LinkTells', WHERE WHAT IT READS IS OF BULK AT MOST 1048576: true; the input reads as it did. -/
def linkTellsUptoRow : OpenClaim := { program := "ytmcfmmoaofileaa", sum := "27bb0a2b7e771b41d4f9efc113195a80a072a9751511a3269606bfb11706dcfd", func := "roadstead/roadlaw3.LinkTells", spec := "linkTells", inPlace := ["slices.overlaps[roadstead/link.Row]"], unfollowed := true, recurses := true, loops := true, plainKeys := false, apart := false, narrowed := true }
def LinkTellsUptoSaid : Prop := linkTellsUptoRow.holds Try.pinned (OpenSpec.upto linkTellsSpec)

/-- 'roadlaw4.ExploreEnds', WHERE WHAT IT READS IS OF BULK AT MOST 1048576: true; the input reads as it did. -/
def exploreEndsUptoRow : OpenClaim := { program := "ytmcfmmoaofileaa", sum := "27bb0a2b7e771b41d4f9efc113195a80a072a9751511a3269606bfb11706dcfd", func := "roadstead/roadlaw4.ExploreEnds", spec := "exploreEnds", unfollowed := true, recurses := true, plainKeys := false, apart := false, narrowed := true }
def ExploreEndsUptoSaid : Prop := exploreEndsUptoRow.holds Try.pinned (OpenSpec.upto exploreEndsSpec)

/-- 'roadlaw2.ScopeSays', WHERE WHAT IT READS IS OF BULK AT MOST 1048576: true; the input reads as it did. -/
def scopeSaysUptoRow : OpenClaim := { program := "ytmcfmmoaofileaa", sum := "27bb0a2b7e771b41d4f9efc113195a80a072a9751511a3269606bfb11706dcfd", func := "roadstead/roadlaw2.ScopeSays", spec := "scopeSays", unfollowed := true, recurses := true, loops := true, plainKeys := false, apart := false, narrowed := true }
def ScopeSaysUptoSaid : Prop := scopeSaysUptoRow.holds Try.pinned (OpenSpec.upto scopeSaysSpec)

end Rows
end Go.Proofs.Ytmcfmmoaofileaa
