/-
  DERIVED. GIVEN WITH THE SEED: THE CARDS: each row of YtdlihfedhojdgaaDoorRows.lean that lists a variable, with what it lists TIED to the program's text (the seventh form; the later family's looks); each row that meets fmt, with fmt's text TOLD by the authors' own Lean function (tested against real Go, not proved from fmt's source: count such statements apart). THE CARD IS WHAT COUNTS. Prove the row's statement (the work); the ties are given (YtdlihfedhojdgaaDoorTie.lean); close each card by the builder's one call (the guide's Derived/Test/ToyasCard.lean, 'card_holds'). Laid BY PROGRAM, IN A SANDBOX (cutbox-door.mjs). By AI agents, Wed Nov 11 2026. No macro, syntax, notation, axiom, sorry.
-/
import Derived.Test.YtdlihfedhojdgaaDoorRows
import GoSem.ClaimSeven
namespace Go.Proofs.YtdlihfedhojdgaaDoor
namespace Rows

/-- THE TIED CARD OF 'roadlaw2.SchemeSays'. -/
def schemeSaysCard : Claim7 := { stood := { row := schemeSaysRow, standIns := [], harness := (true, "8286f3f91f678c5cdfa2fa62ea8e5c8b5004a1a23dbb340fc25f1ddb65a99beb"), looks := false }, kinds := [], alts := [], laidByText := true, laidKinds := [.data, .data, .data], laidTests := true, laidLooks := .later }
def SchemeSaysCardSaid : Prop := Claim7.holds Tryd.pinned (.plain (OpenSpec.ofChange schemeSaysSpec)) schemeSaysCard

/-- THE TIED CARD OF 'roadlaw2.KindSays'. -/
def kindSaysCard : Claim7 := { stood := { row := kindSaysRow, standIns := [], harness := (true, "8286f3f91f678c5cdfa2fa62ea8e5c8b5004a1a23dbb340fc25f1ddb65a99beb"), looks := false }, kinds := [], alts := [], laidByText := true, laidKinds := [.data, .data, .data], laidTests := true, laidLooks := .later }
def KindSaysCardSaid : Prop := Claim7.holds Tryd.pinned (.plain (OpenSpec.ofChange kindSaysSpec)) kindSaysCard

/-- THE SECOND FORM's CARD OF 'roadlaw2.SchemeSays'. -/
def schemeSaysUptoCard : Claim7 := { stood := { row := schemeSaysUptoRow, standIns := [], harness := (true, "8286f3f91f678c5cdfa2fa62ea8e5c8b5004a1a23dbb340fc25f1ddb65a99beb"), looks := false }, kinds := [], alts := [], laidByText := true, laidKinds := [.data, .data, .data], laidTests := true, laidLooks := .later }
def SchemeSaysUptoCardSaid : Prop := Claim7.holds Tryd.pinned (.plain (OpenSpec.upto schemeSaysSpec)) schemeSaysUptoCard

/-- THE SECOND FORM's CARD OF 'roadlaw2.KindSays'. -/
def kindSaysUptoCard : Claim7 := { stood := { row := kindSaysUptoRow, standIns := [], harness := (true, "8286f3f91f678c5cdfa2fa62ea8e5c8b5004a1a23dbb340fc25f1ddb65a99beb"), looks := false }, kinds := [], alts := [], laidByText := true, laidKinds := [.data, .data, .data], laidTests := true, laidLooks := .later }
def KindSaysUptoCardSaid : Prop := Claim7.holds Tryd.pinned (.plain (OpenSpec.upto kindSaysSpec)) kindSaysUptoCard
end Rows
end Go.Proofs.YtdlihfedhojdgaaDoor
