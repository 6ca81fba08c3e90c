/-
  DERIVED. GIVEN WITH THE SEED: THE CARDS: each row of YtkbhpagogmmgnaaDoorRows.lean that lists a variable, with what it lists TIED to the program's text (the seventh form; the later family's looks); each row that meets fmt, with fmt's text TOLD by the authors' own Lean function (tested against real Go, not proved from fmt's source: count such statements apart). THE CARD IS WHAT COUNTS. Prove the row's statement (the work); the ties are given (YtkbhpagogmmgnaaDoorTie.lean); close each card by the builder's one call (the guide's Derived/Test/ToyasCard.lean, 'card_holds'). Laid BY PROGRAM, IN A SANDBOX (cutbox-door.mjs). By AI agents, Wed Nov 11 2026. No macro, syntax, notation, axiom, sorry.
-/
import Derived.Test.YtkbhpagogmmgnaaDoorRows
import GoSem.ClaimSeven
namespace Go.Proofs.YtkbhpagogmmgnaaDoor
namespace Rows

/-- THE TIED CARD OF 'roadlaw2.TraitSays'. -/
def traitSaysCard : Claim7 := { stood := { row := traitSaysRow, standIns := [], harness := (true, "e695ab39e7d677c57d8549ea7dc37478b74e612ebef96df9ccb3cb40ca5312e8"), looks := true }, kinds := [], alts := [], laidByText := true, laidKinds := [.data, .data, .data, .listed, .data], laidTests := true, laidLooks := .later }
def TraitSaysCardSaid : Prop := Claim7.holds Tryd.pinned (.plain (OpenSpec.ofChange traitSaysSpec)) traitSaysCard

/-- THE TIED CARD OF 'roadlaw2.TokenShows'. -/
def tokenShowsCard : Claim7 := { stood := { row := tokenShowsRow, standIns := [], harness := (true, "e695ab39e7d677c57d8549ea7dc37478b74e612ebef96df9ccb3cb40ca5312e8"), looks := true }, kinds := [], alts := [], laidByText := true, laidKinds := [.data, .data, .data, .data, .sentinel, .sentinel, .listed, .data, .pinned], laidTests := true, laidLooks := .later }
def TokenShowsCardSaid : Prop := Claim7.holds Tryd.pinned (.plain (OpenSpec.ofChange tokenShowsSpec)) tokenShowsCard

/-- THE TIED CARD OF 'roadlaw2.TokenReads'. -/
def tokenReadsCard : Claim7 := { stood := { row := tokenReadsRow, standIns := [], harness := (true, "e695ab39e7d677c57d8549ea7dc37478b74e612ebef96df9ccb3cb40ca5312e8"), looks := true }, kinds := [], alts := [], laidByText := true, laidKinds := [.data, .data, .data, .data, .sentinel, .sentinel, .listed, .data, .pinned], laidTests := true, laidLooks := .later }
def TokenReadsCardSaid : Prop := Claim7.holds Tryd.pinned (.plain (OpenSpec.ofChange tokenReadsSpec)) tokenReadsCard

/-- THE SECOND FORM's CARD OF 'roadlaw2.TraitSays'. -/
def traitSaysUptoCard : Claim7 := { stood := { row := traitSaysUptoRow, standIns := [], harness := (true, "e695ab39e7d677c57d8549ea7dc37478b74e612ebef96df9ccb3cb40ca5312e8"), looks := true }, kinds := [], alts := [], laidByText := true, laidKinds := [.data, .data, .data, .listed, .data], laidTests := true, laidLooks := .later }
def TraitSaysUptoCardSaid : Prop := Claim7.holds Tryd.pinned (.plain (OpenSpec.upto traitSaysSpec)) traitSaysUptoCard

/-- THE SECOND FORM's CARD OF 'roadlaw2.TokenShows'. -/
def tokenShowsUptoCard : Claim7 := { stood := { row := tokenShowsUptoRow, standIns := [], harness := (true, "e695ab39e7d677c57d8549ea7dc37478b74e612ebef96df9ccb3cb40ca5312e8"), looks := true }, kinds := [], alts := [], laidByText := true, laidKinds := [.data, .data, .data, .data, .sentinel, .sentinel, .listed, .data, .pinned], laidTests := true, laidLooks := .later }
def TokenShowsUptoCardSaid : Prop := Claim7.holds Tryd.pinned (.plain (OpenSpec.upto tokenShowsSpec)) tokenShowsUptoCard

/-- THE SECOND FORM's CARD OF 'roadlaw2.TokenReads'. -/
def tokenReadsUptoCard : Claim7 := { stood := { row := tokenReadsUptoRow, standIns := [], harness := (true, "e695ab39e7d677c57d8549ea7dc37478b74e612ebef96df9ccb3cb40ca5312e8"), looks := true }, kinds := [], alts := [], laidByText := true, laidKinds := [.data, .data, .data, .data, .sentinel, .sentinel, .listed, .data, .pinned], laidTests := true, laidLooks := .later }
def TokenReadsUptoCardSaid : Prop := Claim7.holds Tryd.pinned (.plain (OpenSpec.upto tokenReadsSpec)) tokenReadsUptoCard
end Rows
end Go.Proofs.YtkbhpagogmmgnaaDoor
