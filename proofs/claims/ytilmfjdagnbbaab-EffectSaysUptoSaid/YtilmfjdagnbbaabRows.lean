/-
  NARROWER THAN 'FOR EVERY INPUT', by the rows' own cells (each row's printed sentence says how): EffectSays: loops · HeapBuilds: loops.
  DERIVED. THE GIVEN ROWS OF THIS SEAT. 7 by the template 'for every input the law returns true; each argument reads behind the call as it read before'; 0 by the template 'total and deterministic' (their statements: YtilmfjdagnbbaabTotals.lean).
  GIVEN WITH THE SEED: the statements are not yours to turn. If you find one false, say at which input.
  Laid BY PROGRAM, IN A SANDBOX (cutbox-rows.mjs): the forced cells as the released guide's own fill.sh prints them over the translation f5f5a260912e2daf… (all of the seat's roots in one cut). By AI agents, Wed Nov 11 2026. No macro, syntax, notation, axiom, sorry.
-/
import Derived.Test.YtilmfjdagnbbaabChecked
import GoSem.Claim
import GoSem.ClaimJoined
import GoSem.ClaimMapViews
import Derived.JoinedTies
import Derived.KernelRfl
namespace Go.Proofs.Ytilmfjdagnbbaab
/- THE CELL 'sum', in the pinned program and in every row, IS THE sha256 OF THE DUMP (.gsa) THAT YtilmfjdagnbbaabProg.lean LOADS. Nothing in Lean hashes anything: it is a label: what it is worth is what the hold of that sum in a sandbox is worth. -/
noncomputable def Try.pinned : Pinned := { name := "ytilmfjdagnbbaab", sum := "f5f5a260912e2dafd451cc0981aff94001823790ac8340c585d117e61af94c5d", checked := Try.checked }
namespace Rows
def none {H : Type} : Left H := { results := [], args := [] }

/-- 'roadlaw3.StealTells': WHATEVER THE INPUT: true; the input reads as it did. -/
def stealTellsSpec : ChangeSpec := { name := "stealTells", fn := fun _ => fun
  | [d1, d2, d3, d4] => { results := [.lit (.bool true)], args := [d1, d2, d3, d4] }
  | _ => none }
def stealTellsRow : OpenClaim := { program := "ytilmfjdagnbbaab", sum := "f5f5a260912e2dafd451cc0981aff94001823790ac8340c585d117e61af94c5d", func := "roadstead/roadlaw3.StealTells", spec := "stealTells", apart := false }
def StealTellsSaid : Prop := stealTellsRow.holds Try.pinned (OpenSpec.ofChange stealTellsSpec)

/-- ITS FALSE NEIGHBOUR: 'it returns false'. Refute it at one input. -/
def stealTellsWrong : ChangeSpec := { name := "stealTells", fn := fun _ => fun
  | [d1, d2, d3, d4] => { results := [.lit (.bool false)], args := [d1, d2, d3, d4] }
  | _ => none }
def StealTellsWrongFalsely : Prop := stealTellsRow.holds Try.pinned (OpenSpec.ofChange stealTellsWrong)

/-- 'roadlaw2.EffectSays': WHATEVER THE INPUT: true; the input reads as it did. -/
def effectSaysSpec : ChangeSpec := { name := "effectSays", fn := fun _ => fun
  | [d] => { results := [.lit (.bool true)], args := [d] }
  | _ => none }
def effectSaysRow : OpenClaim := { program := "ytilmfjdagnbbaab", sum := "f5f5a260912e2dafd451cc0981aff94001823790ac8340c585d117e61af94c5d", func := "roadstead/roadlaw2.EffectSays", spec := "effectSays", unfollowed := true, recurses := true, loops := true, apart := false }
def EffectSaysSaid : Prop := effectSaysRow.holds Try.pinned (OpenSpec.ofChange effectSaysSpec)

/-- ITS FALSE NEIGHBOUR: 'it returns false'. Refute it at one input. -/
def effectSaysWrong : ChangeSpec := { name := "effectSays", fn := fun _ => fun
  | [d] => { results := [.lit (.bool false)], args := [d] }
  | _ => none }
def EffectSaysWrongFalsely : Prop := effectSaysRow.holds Try.pinned (OpenSpec.ofChange effectSaysWrong)

/-- 'roadlaw4.TraceTells': WHATEVER THE INPUT: true; the input reads as it did. -/
def traceTellsSpec : ChangeSpec := { name := "traceTells", fn := fun _ => fun
  | [d1, d2, d3, d4] => { results := [.lit (.bool true)], args := [d1, d2, d3, d4] }
  | _ => none }
def traceTellsRow : OpenClaim := { program := "ytilmfjdagnbbaab", sum := "f5f5a260912e2dafd451cc0981aff94001823790ac8340c585d117e61af94c5d", func := "roadstead/roadlaw4.TraceTells", spec := "traceTells", unfollowed := true, recurses := true, apart := false }
def TraceTellsSaid : Prop := traceTellsRow.holds Try.pinned (OpenSpec.ofChange traceTellsSpec)

/-- ITS FALSE NEIGHBOUR: 'it returns false'. Refute it at one input. -/
def traceTellsWrong : ChangeSpec := { name := "traceTells", fn := fun _ => fun
  | [d1, d2, d3, d4] => { results := [.lit (.bool false)], args := [d1, d2, d3, d4] }
  | _ => none }
def TraceTellsWrongFalsely : Prop := traceTellsRow.holds Try.pinned (OpenSpec.ofChange traceTellsWrong)

/-- 'roadlaw3.CarryTells': WHATEVER THE INPUT: true; the input reads as it did. -/
def carryTellsSpec : ChangeSpec := { name := "carryTells", fn := fun _ => fun
  | [d1, d2, d3] => { results := [.lit (.bool true)], args := [d1, d2, d3] }
  | _ => none }
def carryTellsRow : OpenClaim := { program := "ytilmfjdagnbbaab", sum := "f5f5a260912e2dafd451cc0981aff94001823790ac8340c585d117e61af94c5d", func := "roadstead/roadlaw3.CarryTells", spec := "carryTells", recurses := true, apart := false }
def CarryTellsSaid : Prop := carryTellsRow.holds Try.pinned (OpenSpec.ofChange carryTellsSpec)

/-- ITS FALSE NEIGHBOUR: 'it returns false'. Refute it at one input. -/
def carryTellsWrong : ChangeSpec := { name := "carryTells", fn := fun _ => fun
  | [d1, d2, d3] => { results := [.lit (.bool false)], args := [d1, d2, d3] }
  | _ => none }
def CarryTellsWrongFalsely : Prop := carryTellsRow.holds Try.pinned (OpenSpec.ofChange carryTellsWrong)

/-- 'roadlaw3.WardTells': WHATEVER THE INPUT: true; the input reads as it did. -/
def wardTellsSpec : ChangeSpec := { name := "wardTells", fn := fun _ => fun
  | [d1, d2, d3, d4, d5] => { results := [.lit (.bool true)], args := [d1, d2, d3, d4, d5] }
  | _ => none }
def wardTellsRow : OpenClaim := { program := "ytilmfjdagnbbaab", sum := "f5f5a260912e2dafd451cc0981aff94001823790ac8340c585d117e61af94c5d", func := "roadstead/roadlaw3.WardTells", spec := "wardTells", unfollowed := true, recurses := true, apart := false }
def WardTellsSaid : Prop := wardTellsRow.holds Try.pinned (OpenSpec.ofChange wardTellsSpec)

/-- ITS FALSE NEIGHBOUR: 'it returns false'. Refute it at one input. -/
def wardTellsWrong : ChangeSpec := { name := "wardTells", fn := fun _ => fun
  | [d1, d2, d3, d4, d5] => { results := [.lit (.bool false)], args := [d1, d2, d3, d4, d5] }
  | _ => none }
def WardTellsWrongFalsely : Prop := wardTellsRow.holds Try.pinned (OpenSpec.ofChange wardTellsWrong)

/-- 'roadlaw3.HeapBuilds': WHATEVER THE INPUT: true; the input reads as it did. -/
def heapBuildsSpec : ChangeSpec := { name := "heapBuilds", fn := fun _ => fun
  | [d1, d2, d3] => { results := [.lit (.bool true)], args := [d1, d2, d3] }
  | _ => none }
def heapBuildsRow : OpenClaim := { program := "ytilmfjdagnbbaab", sum := "f5f5a260912e2dafd451cc0981aff94001823790ac8340c585d117e61af94c5d", func := "roadstead/roadlaw3.HeapBuilds", spec := "heapBuilds", recurses := true, loops := true, apart := false }
def HeapBuildsSaid : Prop := heapBuildsRow.holds Try.pinned (OpenSpec.ofChange heapBuildsSpec)

/-- ITS FALSE NEIGHBOUR: 'it returns false'. Refute it at one input. -/
def heapBuildsWrong : ChangeSpec := { name := "heapBuilds", fn := fun _ => fun
  | [d1, d2, d3] => { results := [.lit (.bool false)], args := [d1, d2, d3] }
  | _ => none }
def HeapBuildsWrongFalsely : Prop := heapBuildsRow.holds Try.pinned (OpenSpec.ofChange heapBuildsWrong)

/-- 'roadlaw2.TalkSays': WHATEVER THE INPUT: true; the input reads as it did. -/
def talkSaysSpec : ChangeSpec := { name := "talkSays", fn := fun _ => fun
  | [d1, d2, d3] => { results := [.lit (.bool true)], args := [d1, d2, d3] }
  | _ => none }
def talkSaysRow : OpenClaim := { program := "ytilmfjdagnbbaab", sum := "f5f5a260912e2dafd451cc0981aff94001823790ac8340c585d117e61af94c5d", func := "roadstead/roadlaw2.TalkSays", spec := "talkSays", unfollowed := true, recurses := true, apart := false }
def TalkSaysSaid : Prop := talkSaysRow.holds Try.pinned (OpenSpec.ofChange talkSaysSpec)

/-- ITS FALSE NEIGHBOUR: 'it returns false'. Refute it at one input. -/
def talkSaysWrong : ChangeSpec := { name := "talkSays", fn := fun _ => fun
  | [d1, d2, d3] => { results := [.lit (.bool false)], args := [d1, d2, d3] }
  | _ => none }
def TalkSaysWrongFalsely : Prop := talkSaysRow.holds Try.pinned (OpenSpec.ofChange talkSaysWrong)

/- THE SECOND FORM. 'bulk': how many values and letters a reading holds, each counted each time it is reached (what is shared counts as often as it is met; a slice's spare places count too). A statement '..UptoSaid' is the law's where the arguments, and the package variables that the reading takes, are together of bulk at most 1048576: NARROWER than '..Said'. Prove '..Said' where nothing that the law and all that it calls make is longer than what came in: it says more and counts as full. Else prove '..UptoSaid'. A law counts once. -/
mutual
def uptoBulk {H : Type} : DataW H → Nat
  | .lit (.string bytes) => bytes.length + 1
  | .lit _ => 1
  | .nil => 1
  | .ptr d => uptoBulk d + 1
  | .slice elems spare => uptoBulkAll elems + uptoBulkAll spare + 1
  | .agg parts => uptoBulkAll parts + 1
  | .iface _ d => uptoBulk d + 1
  | .map entries => uptoBulkEntries entries + 1
  | .held _ => 1
def uptoBulkAll {H : Type} : List (DataW H) → Nat
  | [] => 0
  | d :: r => uptoBulk d + uptoBulkAll r
def uptoBulkEntries {H : Type} : List (Lit × DataW H) → Nat
  | [] => 0
  | x :: r => uptoBulkEntry x + uptoBulkEntries r
def uptoBulkEntry {H : Type} : Lit × DataW H → Nat
  | (.string bytes, d) => bytes.length + uptoBulk d + 1
  | (_, d) => uptoBulk d + 1
 end
def uptoSmall : (H : Type) → List (DataW H) → Bool := fun _ ds => decide (uptoBulkAll ds ≤ 1048576)
def OpenSpec.upto (s : _root_.Go.ChangeSpec) : _root_.Go.OpenSpec := { _root_.Go.OpenSpec.ofChange s with cond := some uptoSmall }

/-- 'roadlaw3.StealTells', WHERE WHAT IT READS IS OF BULK AT MOST 1048576: true; the input reads as it did. -/
def stealTellsUptoRow : OpenClaim := { program := "ytilmfjdagnbbaab", sum := "f5f5a260912e2dafd451cc0981aff94001823790ac8340c585d117e61af94c5d", func := "roadstead/roadlaw3.StealTells", spec := "stealTells", apart := false, narrowed := true }
def StealTellsUptoSaid : Prop := stealTellsUptoRow.holds Try.pinned (OpenSpec.upto stealTellsSpec)

/-- 'roadlaw2.EffectSays', WHERE WHAT IT READS IS OF BULK AT MOST 1048576: true; the input reads as it did. -/
def effectSaysUptoRow : OpenClaim := { program := "ytilmfjdagnbbaab", sum := "f5f5a260912e2dafd451cc0981aff94001823790ac8340c585d117e61af94c5d", func := "roadstead/roadlaw2.EffectSays", spec := "effectSays", unfollowed := true, recurses := true, loops := true, apart := false, narrowed := true }
def EffectSaysUptoSaid : Prop := effectSaysUptoRow.holds Try.pinned (OpenSpec.upto effectSaysSpec)

/-- 'roadlaw4.TraceTells', WHERE WHAT IT READS IS OF BULK AT MOST 1048576: true; the input reads as it did. -/
def traceTellsUptoRow : OpenClaim := { program := "ytilmfjdagnbbaab", sum := "f5f5a260912e2dafd451cc0981aff94001823790ac8340c585d117e61af94c5d", func := "roadstead/roadlaw4.TraceTells", spec := "traceTells", unfollowed := true, recurses := true, apart := false, narrowed := true }
def TraceTellsUptoSaid : Prop := traceTellsUptoRow.holds Try.pinned (OpenSpec.upto traceTellsSpec)

/-- 'roadlaw3.CarryTells', WHERE WHAT IT READS IS OF BULK AT MOST 1048576: true; the input reads as it did. -/
def carryTellsUptoRow : OpenClaim := { program := "ytilmfjdagnbbaab", sum := "f5f5a260912e2dafd451cc0981aff94001823790ac8340c585d117e61af94c5d", func := "roadstead/roadlaw3.CarryTells", spec := "carryTells", recurses := true, apart := false, narrowed := true }
def CarryTellsUptoSaid : Prop := carryTellsUptoRow.holds Try.pinned (OpenSpec.upto carryTellsSpec)

/-- 'roadlaw3.WardTells', WHERE WHAT IT READS IS OF BULK AT MOST 1048576: true; the input reads as it did. -/
def wardTellsUptoRow : OpenClaim := { program := "ytilmfjdagnbbaab", sum := "f5f5a260912e2dafd451cc0981aff94001823790ac8340c585d117e61af94c5d", func := "roadstead/roadlaw3.WardTells", spec := "wardTells", unfollowed := true, recurses := true, apart := false, narrowed := true }
def WardTellsUptoSaid : Prop := wardTellsUptoRow.holds Try.pinned (OpenSpec.upto wardTellsSpec)

/-- 'roadlaw3.HeapBuilds', WHERE WHAT IT READS IS OF BULK AT MOST 1048576: true; the input reads as it did. -/
def heapBuildsUptoRow : OpenClaim := { program := "ytilmfjdagnbbaab", sum := "f5f5a260912e2dafd451cc0981aff94001823790ac8340c585d117e61af94c5d", func := "roadstead/roadlaw3.HeapBuilds", spec := "heapBuilds", recurses := true, loops := true, apart := false, narrowed := true }
def HeapBuildsUptoSaid : Prop := heapBuildsUptoRow.holds Try.pinned (OpenSpec.upto heapBuildsSpec)

/-- 'roadlaw2.TalkSays', WHERE WHAT IT READS IS OF BULK AT MOST 1048576: true; the input reads as it did. -/
def talkSaysUptoRow : OpenClaim := { program := "ytilmfjdagnbbaab", sum := "f5f5a260912e2dafd451cc0981aff94001823790ac8340c585d117e61af94c5d", func := "roadstead/roadlaw2.TalkSays", spec := "talkSays", unfollowed := true, recurses := true, apart := false, narrowed := true }
def TalkSaysUptoSaid : Prop := talkSaysUptoRow.holds Try.pinned (OpenSpec.upto talkSaysSpec)

end Rows
end Go.Proofs.Ytilmfjdagnbbaab
