/-
  DERIVED. GIVEN WITH THE SEED: THE CARDS: each row of YtcnadjdijolboaaGreatDoorRows.lean that lists a variable, with what it lists TIED to the program's text (the seventh form; the later family's looks); each row that meets fmt, with fmt's text TOLD by the authors' own Lean function (tested against real Go, not proved from fmt's source: count such statements apart). THE CARD IS WHAT COUNTS. Prove the row's statement (the work); the ties are given (YtcnadjdijolboaaGreatDoorTie.lean); close each card by the builder's one call (the guide's Derived/Test/ToyasCard.lean, 'card_holds'). Laid BY PROGRAM, IN A SANDBOX (cutbox-door.mjs). By AI agents, Wed Nov 11 2026. No macro, syntax, notation, axiom, sorry.
-/
import Derived.Test.YtcnadjdijolboaaGreatDoorRows
import GoSem.ClaimSeven
namespace Go.Proofs.YtcnadjdijolboaaGreatDoor
namespace Rows

/-- THE TIED CARD OF 'keyholderlaw2.FloorJoins'. -/
def floorJoinsCard : Claim7 := { stood := { row := floorJoinsRow, standIns := [], harness := (true, "cfe1f8ef36b878c122f05fba7c1be7fb1c87197af9e160158225c745720a0788"), looks := true }, kinds := [], alts := [], laidByText := true, laidKinds := [.data, .data, .data, .data, .sentinel, .sentinel, .sentinel, .sentinel, .sentinel, .sentinel, .sentinel, .sentinel, .pinned], laidTests := true, laidLooks := .later }
def FloorJoinsCardSaid : Prop := Claim7.holds Tryz.pinned (.plain (OpenSpec.ofChange floorJoinsSpec)) floorJoinsCard

/-- THE TIED CARD OF 'keyholderlaw2.FloorTells'. -/
def floorTellsCard : Claim7 := { stood := { row := floorTellsRow, standIns := [], harness := (true, "cfe1f8ef36b878c122f05fba7c1be7fb1c87197af9e160158225c745720a0788"), looks := true }, kinds := [], alts := [], laidByText := true, laidKinds := [.data, .data, .data, .data, .handle, .sentinel, .sentinel, .sentinel, .sentinel, .sentinel, .sentinel, .sentinel, .sentinel, .sentinel, .sentinel, .sentinel, .sentinel, .sentinel, .sentinel, .sentinel, .sentinel, .sentinel, .sentinel, .pinned], laidTests := true, laidLooks := .later }
def FloorTellsCardSaid : Prop := Claim7.holds Tryz.pinned (.plain (OpenSpec.ofChange floorTellsSpec)) floorTellsCard

/-- THE SECOND FORM's CARD OF 'keyholderlaw2.FloorJoins'. -/
def floorJoinsUptoCard : Claim7 := { stood := { row := floorJoinsUptoRow, standIns := [], harness := (true, "cfe1f8ef36b878c122f05fba7c1be7fb1c87197af9e160158225c745720a0788"), looks := true }, kinds := [], alts := [], laidByText := true, laidKinds := [.data, .data, .data, .data, .sentinel, .sentinel, .sentinel, .sentinel, .sentinel, .sentinel, .sentinel, .sentinel, .pinned], laidTests := true, laidLooks := .later }
def FloorJoinsUptoCardSaid : Prop := Claim7.holds Tryz.pinned (.plain (OpenSpec.upto floorJoinsSpec)) floorJoinsUptoCard

/-- THE SECOND FORM's CARD OF 'keyholderlaw2.FloorTells'. -/
def floorTellsUptoCard : Claim7 := { stood := { row := floorTellsUptoRow, standIns := [], harness := (true, "cfe1f8ef36b878c122f05fba7c1be7fb1c87197af9e160158225c745720a0788"), looks := true }, kinds := [], alts := [], laidByText := true, laidKinds := [.data, .data, .data, .data, .handle, .sentinel, .sentinel, .sentinel, .sentinel, .sentinel, .sentinel, .sentinel, .sentinel, .sentinel, .sentinel, .sentinel, .sentinel, .sentinel, .sentinel, .sentinel, .sentinel, .sentinel, .sentinel, .pinned], laidTests := true, laidLooks := .later }
def FloorTellsUptoCardSaid : Prop := Claim7.holds Tryz.pinned (.plain (OpenSpec.upto floorTellsSpec)) floorTellsUptoCard
end Rows
end Go.Proofs.YtcnadjdijolboaaGreatDoor
