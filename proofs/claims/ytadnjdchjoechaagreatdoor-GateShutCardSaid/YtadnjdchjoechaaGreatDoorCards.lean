/-
  DERIVED. GIVEN WITH THE SEED: THE CARDS: each row of YtadnjdchjoechaaGreatDoorRows.lean that lists a variable, with what it lists TIED to the program's text (the seventh form; the later family's looks); each row that meets fmt, with fmt's text TOLD by the authors' own Lean function (tested against real Go, not proved from fmt's source: count such statements apart). THE CARD IS WHAT COUNTS. Prove the row's statement (the work); the ties are given (YtadnjdchjoechaaGreatDoorTie.lean); close each card by the builder's one call (the guide's Derived/Test/ToyasCard.lean, 'card_holds'). Laid BY PROGRAM, IN A SANDBOX (cutbox-door.mjs). By AI agents, Wed Nov 11 2026. No macro, syntax, notation, axiom, sorry.
-/
import Derived.Test.YtadnjdchjoechaaGreatDoorRows
import GoSem.ClaimSeven
namespace Go.Proofs.YtadnjdchjoechaaGreatDoor
namespace Rows

/-- THE TIED CARD OF 'keyholderlaw3.GateShut'. -/
def gateShutCard : Claim7 := { stood := { row := gateShutRow, standIns := [], harness := (true, "6c84bdf4bf93ac642b6d118ae72e76c30aa782de966fc9615c2b54db78a247d7"), looks := true }, kinds := [], alts := [], laidByText := true, laidKinds := [.data, .data, .data, .data, .handle, .sentinel, .sentinel, .sentinel, .sentinel, .sentinel, .sentinel, .sentinel, .sentinel, .sentinel, .sentinel, .sentinel, .sentinel, .sentinel, .sentinel, .sentinel, .sentinel, .sentinel, .sentinel, .pinned], laidTests := true, laidLooks := .later }
def GateShutCardSaid : Prop := Claim7.holds Tryz.pinned (.plain (OpenSpec.ofChange gateShutSpec)) gateShutCard

/-- THE TIED CARD OF 'keyholderlaw3.GateActs'. -/
def gateActsCard : Claim7 := { stood := { row := gateActsRow, standIns := [], harness := (true, "6c84bdf4bf93ac642b6d118ae72e76c30aa782de966fc9615c2b54db78a247d7"), looks := true }, kinds := [], alts := [], laidByText := true, laidKinds := [.data, .data, .data, .data, .handle, .sentinel, .sentinel, .sentinel, .sentinel, .sentinel, .sentinel, .sentinel, .sentinel, .sentinel, .sentinel, .sentinel, .sentinel, .sentinel, .sentinel, .sentinel, .sentinel, .sentinel, .sentinel, .pinned], laidTests := true, laidLooks := .later }
def GateActsCardSaid : Prop := Claim7.holds Tryz.pinned (.plain (OpenSpec.ofChange gateActsSpec)) gateActsCard

/-- THE SECOND FORM's CARD OF 'keyholderlaw3.GateShut'. -/
def gateShutUptoCard : Claim7 := { stood := { row := gateShutUptoRow, standIns := [], harness := (true, "6c84bdf4bf93ac642b6d118ae72e76c30aa782de966fc9615c2b54db78a247d7"), looks := true }, kinds := [], alts := [], laidByText := true, laidKinds := [.data, .data, .data, .data, .handle, .sentinel, .sentinel, .sentinel, .sentinel, .sentinel, .sentinel, .sentinel, .sentinel, .sentinel, .sentinel, .sentinel, .sentinel, .sentinel, .sentinel, .sentinel, .sentinel, .sentinel, .sentinel, .pinned], laidTests := true, laidLooks := .later }
def GateShutUptoCardSaid : Prop := Claim7.holds Tryz.pinned (.plain (OpenSpec.upto gateShutSpec)) gateShutUptoCard

/-- THE SECOND FORM's CARD OF 'keyholderlaw3.GateActs'. -/
def gateActsUptoCard : Claim7 := { stood := { row := gateActsUptoRow, standIns := [], harness := (true, "6c84bdf4bf93ac642b6d118ae72e76c30aa782de966fc9615c2b54db78a247d7"), looks := true }, kinds := [], alts := [], laidByText := true, laidKinds := [.data, .data, .data, .data, .handle, .sentinel, .sentinel, .sentinel, .sentinel, .sentinel, .sentinel, .sentinel, .sentinel, .sentinel, .sentinel, .sentinel, .sentinel, .sentinel, .sentinel, .sentinel, .sentinel, .sentinel, .sentinel, .pinned], laidTests := true, laidLooks := .later }
def GateActsUptoCardSaid : Prop := Claim7.holds Tryz.pinned (.plain (OpenSpec.upto gateActsSpec)) gateActsUptoCard
end Rows
end Go.Proofs.YtadnjdchjoechaaGreatDoor
