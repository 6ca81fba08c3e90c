/-
  DERIVED. GIVEN WITH THE SEED: THE CARDS: each row of YtnlocljmalhddaaDoorRows.lean that lists a variable, with what it lists TIED to the program's text (the seventh form; the later family's looks); each row that meets fmt, with fmt's text TOLD by the authors' own Lean function (tested against real Go, not proved from fmt's source: count such statements apart). THE CARD IS WHAT COUNTS. Prove the row's statement (the work); the ties are given (YtnlocljmalhddaaDoorTie.lean); close each card by the builder's one call (the guide's Derived/Test/ToyasCard.lean, 'card_holds'). Laid BY PROGRAM, IN A SANDBOX (cutbox-door.mjs). By AI agents, Wed Nov 11 2026. No macro, syntax, notation, axiom, sorry.
-/
import Derived.Test.YtnlocljmalhddaaDoorRows
import GoSem.ClaimSeven
namespace Go.Proofs.YtnlocljmalhddaaDoor
namespace Rows

/-- THE TIED CARD OF 'roadlaw2.ExcerptSays'. -/
def excerptSaysCard : Claim7 := { stood := { row := excerptSaysRow, standIns := [], harness := (true, "06b0c168e2de5309aa216fea90027c98a460418a5d760788c34a21344a863deb"), looks := false }, kinds := [], alts := [], laidByText := true, laidKinds := [.data, .data, .data], laidTests := true, laidLooks := .later }
def ExcerptSaysCardSaid : Prop := Claim7.holds Tryd.pinned (.plain (OpenSpec.ofChange excerptSaysSpec)) excerptSaysCard

/-- THE SECOND FORM's CARD OF 'roadlaw2.ExcerptSays'. -/
def excerptSaysUptoCard : Claim7 := { stood := { row := excerptSaysUptoRow, standIns := [], harness := (true, "06b0c168e2de5309aa216fea90027c98a460418a5d760788c34a21344a863deb"), looks := false }, kinds := [], alts := [], laidByText := true, laidKinds := [.data, .data, .data], laidTests := true, laidLooks := .later }
def ExcerptSaysUptoCardSaid : Prop := Claim7.holds Tryd.pinned (.plain (OpenSpec.upto excerptSaysSpec)) excerptSaysUptoCard
end Rows
end Go.Proofs.YtnlocljmalhddaaDoor
