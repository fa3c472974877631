/-
  DERIVED. GIVEN WITH THE SEED: THE CARDS: each row of YtbogljpafpkikaaGreatDoorRows.lean that lists a variable, with what it lists TIED to the program's text (the seventh form; the later family's looks); each row that meets fmt, with fmt's text TOLD by the authors' own Lean function (tested against real Go, not proved from fmt's source: count such statements apart). THE CARD IS WHAT COUNTS. Prove the row's statement (the work); the ties are given (YtbogljpafpkikaaGreatDoorTie.lean); close each card by the builder's one call (the guide's Derived/Test/ToyasCard.lean, 'card_holds'). Laid BY PROGRAM, IN A SANDBOX (cutbox-door.mjs). By AI agents, Wed Nov 11 2026. No macro, syntax, notation, axiom, sorry.
-/
import Derived.Test.YtbogljpafpkikaaGreatDoorRows
import GoSem.ClaimSeven
namespace Go.Proofs.YtbogljpafpkikaaGreatDoor
namespace Rows

/-- THE TIED CARD OF 'dialtonelaw10.JournalOpensAnything'. -/
def journalOpensAnythingCard : Claim7 := { stood := { row := journalOpensAnythingRow, standIns := [], harness := (true, "de028fef31d9fa20e0a42b8d09f480a8c807d142c997a5aee7ed9deaac2ed2f3"), looks := true }, kinds := [], alts := [], laidByText := true, laidKinds := [.data, .data, .sentinel, .pinned], laidTests := true, laidLooks := .later }
def JournalOpensAnythingCardSaid : Prop := Claim7.holds Tryz.pinned (.plain (OpenSpec.ofChange journalOpensAnythingSpec)) journalOpensAnythingCard

/-- THE TIED CARD OF 'dialtonelaw10.JournalDamaged'. -/
def journalDamagedCard : Claim7 := { stood := { row := journalDamagedRow, standIns := [], harness := (true, "de028fef31d9fa20e0a42b8d09f480a8c807d142c997a5aee7ed9deaac2ed2f3"), looks := true }, kinds := [], alts := [], laidByText := true, laidKinds := [.data, .data, .sentinel, .pinned], laidTests := true, laidLooks := .later }
def JournalDamagedCardSaid : Prop := Claim7.holds Tryz.pinned (.plain (OpenSpec.ofChange journalDamagedSpec)) journalDamagedCard

/-- THE TIED CARD OF 'dialtonelaw10.JournalMatchesReference'. -/
def journalMatchesReferenceCard : Claim7 := { stood := { row := journalMatchesReferenceRow, standIns := [], harness := (true, "de028fef31d9fa20e0a42b8d09f480a8c807d142c997a5aee7ed9deaac2ed2f3"), looks := true }, kinds := [], alts := [], laidByText := true, laidKinds := [.data, .data, .sentinel, .pinned], laidTests := true, laidLooks := .later }
def JournalMatchesReferenceCardSaid : Prop := Claim7.holds Tryz.pinned (.plain (OpenSpec.ofChange journalMatchesReferenceSpec)) journalMatchesReferenceCard

/-- THE SECOND FORM's CARD OF 'dialtonelaw10.JournalOpensAnything'. -/
def journalOpensAnythingUptoCard : Claim7 := { stood := { row := journalOpensAnythingUptoRow, standIns := [], harness := (true, "de028fef31d9fa20e0a42b8d09f480a8c807d142c997a5aee7ed9deaac2ed2f3"), looks := true }, kinds := [], alts := [], laidByText := true, laidKinds := [.data, .data, .sentinel, .pinned], laidTests := true, laidLooks := .later }
def JournalOpensAnythingUptoCardSaid : Prop := Claim7.holds Tryz.pinned (.plain (OpenSpec.upto journalOpensAnythingSpec)) journalOpensAnythingUptoCard

/-- THE SECOND FORM's CARD OF 'dialtonelaw10.JournalDamaged'. -/
def journalDamagedUptoCard : Claim7 := { stood := { row := journalDamagedUptoRow, standIns := [], harness := (true, "de028fef31d9fa20e0a42b8d09f480a8c807d142c997a5aee7ed9deaac2ed2f3"), looks := true }, kinds := [], alts := [], laidByText := true, laidKinds := [.data, .data, .sentinel, .pinned], laidTests := true, laidLooks := .later }
def JournalDamagedUptoCardSaid : Prop := Claim7.holds Tryz.pinned (.plain (OpenSpec.upto journalDamagedSpec)) journalDamagedUptoCard

/-- THE SECOND FORM's CARD OF 'dialtonelaw10.JournalMatchesReference'. -/
def journalMatchesReferenceUptoCard : Claim7 := { stood := { row := journalMatchesReferenceUptoRow, standIns := [], harness := (true, "de028fef31d9fa20e0a42b8d09f480a8c807d142c997a5aee7ed9deaac2ed2f3"), looks := true }, kinds := [], alts := [], laidByText := true, laidKinds := [.data, .data, .sentinel, .pinned], laidTests := true, laidLooks := .later }
def JournalMatchesReferenceUptoCardSaid : Prop := Claim7.holds Tryz.pinned (.plain (OpenSpec.upto journalMatchesReferenceSpec)) journalMatchesReferenceUptoCard
end Rows
end Go.Proofs.YtbogljpafpkikaaGreatDoor
