/-
  DERIVED. GIVEN WITH THE SEED: THE CARDS: each row of YtledkokhghjfmaaGreatDoorRows.lean that lists a variable, with what it lists TIED to the program's text (the seventh form; the later family's looks); each row that meets fmt, with fmt's text TOLD by the authors' own Lean function (tested against real Go, not proved from fmt's source: count such statements apart). THE CARD IS WHAT COUNTS. Prove the row's statement (the work); the ties are given (YtledkokhghjfmaaGreatDoorTie.lean); close each card by the builder's one call (the guide's Derived/Test/ToyasCard.lean, 'card_holds'). Laid BY PROGRAM, IN A SANDBOX (cutbox-door.mjs). By AI agents, Wed Nov 11 2026. No macro, syntax, notation, axiom, sorry.
-/
import Derived.Test.YtledkokhghjfmaaGreatDoorRows
import GoSem.ClaimSeven
namespace Go.Proofs.YtledkokhghjfmaaGreatDoor
namespace Rows

/-- THE TIED CARD OF 'dialtonelaw43.CarrierReads'. -/
def carrierReadsCard : Claim7 := { stood := { row := carrierReadsRow, standIns := [], harness := (true, "4794b220b1255e9515723a24ab3fa55862553cbdf4b863185b63ee2cbb9f0298"), looks := true }, kinds := [], alts := [], laidByText := true, laidKinds := [.data, .data, .sentinel, .pinned], laidTests := true, laidLooks := .later }
def CarrierReadsCardSaid : Prop := Claim7.holds Tryz.pinned (.plain (OpenSpec.ofChange carrierReadsSpec)) carrierReadsCard

/-- THE TIED CARD OF 'dialtonelaw43.CarrierReopens'. -/
def carrierReopensCard : Claim7 := { stood := { row := carrierReopensRow, standIns := [], harness := (true, "4794b220b1255e9515723a24ab3fa55862553cbdf4b863185b63ee2cbb9f0298"), looks := true }, kinds := [], alts := [], laidByText := true, laidKinds := [.data, .data, .sentinel, .pinned], laidTests := true, laidLooks := .later }
def CarrierReopensCardSaid : Prop := Claim7.holds Tryz.pinned (.plain (OpenSpec.ofChange carrierReopensSpec)) carrierReopensCard

/-- THE SECOND FORM's CARD OF 'dialtonelaw43.CarrierReads'. -/
def carrierReadsUptoCard : Claim7 := { stood := { row := carrierReadsUptoRow, standIns := [], harness := (true, "4794b220b1255e9515723a24ab3fa55862553cbdf4b863185b63ee2cbb9f0298"), looks := true }, kinds := [], alts := [], laidByText := true, laidKinds := [.data, .data, .sentinel, .pinned], laidTests := true, laidLooks := .later }
def CarrierReadsUptoCardSaid : Prop := Claim7.holds Tryz.pinned (.plain (OpenSpec.upto carrierReadsSpec)) carrierReadsUptoCard

/-- THE SECOND FORM's CARD OF 'dialtonelaw43.CarrierReopens'. -/
def carrierReopensUptoCard : Claim7 := { stood := { row := carrierReopensUptoRow, standIns := [], harness := (true, "4794b220b1255e9515723a24ab3fa55862553cbdf4b863185b63ee2cbb9f0298"), looks := true }, kinds := [], alts := [], laidByText := true, laidKinds := [.data, .data, .sentinel, .pinned], laidTests := true, laidLooks := .later }
def CarrierReopensUptoCardSaid : Prop := Claim7.holds Tryz.pinned (.plain (OpenSpec.upto carrierReopensSpec)) carrierReopensUptoCard
end Rows
end Go.Proofs.YtledkokhghjfmaaGreatDoor
