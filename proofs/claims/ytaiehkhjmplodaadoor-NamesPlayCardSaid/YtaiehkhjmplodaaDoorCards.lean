/-
  DERIVED. GIVEN WITH THE SEED: THE CARDS: each row of YtaiehkhjmplodaaDoorRows.lean that lists a variable, with what it lists TIED to the program's text (the seventh form; the later family's looks); each row that meets fmt, with fmt's text TOLD by the authors' own Lean function (tested against real Go, not proved from fmt's source: count such statements apart). THE CARD IS WHAT COUNTS. Prove the row's statement (the work); the ties are given (YtaiehkhjmplodaaDoorTie.lean); close each card by the builder's one call (the guide's Derived/Test/ToyasCard.lean, 'card_holds'). Laid BY PROGRAM, IN A SANDBOX (cutbox-door.mjs). By AI agents, Wed Nov 11 2026. No macro, syntax, notation, axiom, sorry.
-/
import Derived.Test.YtaiehkhjmplodaaDoorRows
import GoSem.ClaimSeven
namespace Go.Proofs.YtaiehkhjmplodaaDoor
namespace Rows

/-- THE TIED CARD OF 'roadlaw4.NamesPlay'. -/
def namesPlayCard : Claim7 := { stood := { row := namesPlayRow, standIns := [], harness := (true, "d8ac081d846cc8279a99d765c52ee68967d1d0209a18ac6b5ab88855ffedeade"), looks := false }, kinds := [], alts := [], laidByText := true, laidKinds := [.data, .pinned], laidTests := true, laidLooks := .later }
def NamesPlayCardSaid : Prop := Claim7.holds Tryd.pinned (.plain (OpenSpec.ofChange namesPlaySpec)) namesPlayCard

/-- THE SECOND FORM's CARD OF 'roadlaw4.NamesPlay'. -/
def namesPlayUptoCard : Claim7 := { stood := { row := namesPlayUptoRow, standIns := [], harness := (true, "d8ac081d846cc8279a99d765c52ee68967d1d0209a18ac6b5ab88855ffedeade"), looks := false }, kinds := [], alts := [], laidByText := true, laidKinds := [.data, .pinned], laidTests := true, laidLooks := .later }
def NamesPlayUptoCardSaid : Prop := Claim7.holds Tryd.pinned (.plain (OpenSpec.upto namesPlaySpec)) namesPlayUptoCard
end Rows
end Go.Proofs.YtaiehkhjmplodaaDoor
