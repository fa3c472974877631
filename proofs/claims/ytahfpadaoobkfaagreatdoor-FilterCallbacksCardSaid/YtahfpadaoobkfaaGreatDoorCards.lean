/-
  DERIVED. GIVEN WITH THE SEED: THE CARDS: each row of YtahfpadaoobkfaaGreatDoorRows.lean that lists a variable, with what it lists TIED to the program's text (the seventh form; the later family's looks); each row that meets fmt, with fmt's text TOLD by the authors' own Lean function (tested against real Go, not proved from fmt's source: count such statements apart). THE CARD IS WHAT COUNTS. Prove the row's statement (the work); the ties are given (YtahfpadaoobkfaaGreatDoorTie.lean); close each card by the builder's one call (the guide's Derived/Test/ToyasCard.lean, 'card_holds'). Laid BY PROGRAM, IN A SANDBOX (cutbox-door.mjs). By AI agents, Wed Nov 11 2026. No macro, syntax, notation, axiom, sorry.
-/
import Derived.Test.YtahfpadaoobkfaaGreatDoorRows
import GoSem.ClaimSeven
namespace Go.Proofs.YtahfpadaoobkfaaGreatDoor
namespace Rows

/-- THE TIED CARD OF 'dialtonelaw26.FilterTrusts'. -/
def filterTrustsCard : Claim7 := { stood := { row := filterTrustsRow, standIns := [], harness := (true, "1f1f04ad250cf3b906d03d64cfa285c72a2efe709722fefb16fea8005fc96a2c"), looks := false }, kinds := [], alts := [], laidByText := true, laidKinds := [.data], laidTests := true, laidLooks := .later }
def FilterTrustsCardSaid : Prop := Claim7.holds Tryz.pinned (.plain (OpenSpec.ofChange filterTrustsSpec)) filterTrustsCard

/-- THE TIED CARD OF 'dialtonelaw26.FilterCallbacks'. -/
def filterCallbacksCard : Claim7 := { stood := { row := filterCallbacksRow, standIns := [], harness := (true, "1f1f04ad250cf3b906d03d64cfa285c72a2efe709722fefb16fea8005fc96a2c"), looks := false }, kinds := [], alts := [], laidByText := true, laidKinds := [.data], laidTests := true, laidLooks := .later }
def FilterCallbacksCardSaid : Prop := Claim7.holds Tryz.pinned (.plain (OpenSpec.ofChange filterCallbacksSpec)) filterCallbacksCard

/-- THE SECOND FORM's CARD OF 'dialtonelaw26.FilterTrusts'. -/
def filterTrustsUptoCard : Claim7 := { stood := { row := filterTrustsUptoRow, standIns := [], harness := (true, "1f1f04ad250cf3b906d03d64cfa285c72a2efe709722fefb16fea8005fc96a2c"), looks := false }, kinds := [], alts := [], laidByText := true, laidKinds := [.data], laidTests := true, laidLooks := .later }
def FilterTrustsUptoCardSaid : Prop := Claim7.holds Tryz.pinned (.plain (OpenSpec.upto filterTrustsSpec)) filterTrustsUptoCard

/-- THE SECOND FORM's CARD OF 'dialtonelaw26.FilterCallbacks'. -/
def filterCallbacksUptoCard : Claim7 := { stood := { row := filterCallbacksUptoRow, standIns := [], harness := (true, "1f1f04ad250cf3b906d03d64cfa285c72a2efe709722fefb16fea8005fc96a2c"), looks := false }, kinds := [], alts := [], laidByText := true, laidKinds := [.data], laidTests := true, laidLooks := .later }
def FilterCallbacksUptoCardSaid : Prop := Claim7.holds Tryz.pinned (.plain (OpenSpec.upto filterCallbacksSpec)) filterCallbacksUptoCard
end Rows
end Go.Proofs.YtahfpadaoobkfaaGreatDoor
