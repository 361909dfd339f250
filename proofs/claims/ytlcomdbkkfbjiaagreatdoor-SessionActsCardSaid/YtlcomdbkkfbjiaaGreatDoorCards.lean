/-
  DERIVED. GIVEN WITH THE SEED: THE CARDS: each row of YtlcomdbkkfbjiaaGreatDoorRows.lean that lists a variable, with what it lists TIED to the program's text (the seventh form; the later family's looks); each row that meets fmt, with fmt's text TOLD by the authors' own Lean function (tested against real Go, not proved from fmt's source: count such statements apart). THE CARD IS WHAT COUNTS. Prove the row's statement (the work); the ties are given (YtlcomdbkkfbjiaaGreatDoorTie.lean); close each card by the builder's one call (the guide's Derived/Test/ToyasCard.lean, 'card_holds'). Laid BY PROGRAM, IN A SANDBOX (cutbox-door.mjs). By AI agents, Wed Nov 11 2026. No macro, syntax, notation, axiom, sorry.
-/
import Derived.Test.YtlcomdbkkfbjiaaGreatDoorRows
import GoSem.ClaimSeven
namespace Go.Proofs.YtlcomdbkkfbjiaaGreatDoor
namespace Rows

/-- THE TIED CARD OF 'keyholderlaw3.SessionActs'. -/
def sessionActsCard : Claim7 := { stood := { row := sessionActsRow, standIns := [], harness := (true, "711e9037cabe8dbab38461719e8bacf2725c8ab5e409f4c6cccf4588a75fdce4"), looks := true }, kinds := [], alts := [], laidByText := true, laidKinds := [.data, .handle, .sentinel, .sentinel, .sentinel, .sentinel, .sentinel, .sentinel, .sentinel, .sentinel, .sentinel, .sentinel, .sentinel, .sentinel, .sentinel, .sentinel, .sentinel, .sentinel, .pinned], laidTests := true, laidLooks := .later }
def SessionActsCardSaid : Prop := Claim7.holds Tryz.pinned (.plain (OpenSpec.ofChange sessionActsSpec)) sessionActsCard

/-- THE SECOND FORM's CARD OF 'keyholderlaw3.SessionActs'. -/
def sessionActsUptoCard : Claim7 := { stood := { row := sessionActsUptoRow, standIns := [], harness := (true, "711e9037cabe8dbab38461719e8bacf2725c8ab5e409f4c6cccf4588a75fdce4"), looks := true }, kinds := [], alts := [], laidByText := true, laidKinds := [.data, .handle, .sentinel, .sentinel, .sentinel, .sentinel, .sentinel, .sentinel, .sentinel, .sentinel, .sentinel, .sentinel, .sentinel, .sentinel, .sentinel, .sentinel, .sentinel, .sentinel, .pinned], laidTests := true, laidLooks := .later }
def SessionActsUptoCardSaid : Prop := Claim7.holds Tryz.pinned (.plain (OpenSpec.upto sessionActsSpec)) sessionActsUptoCard
end Rows
end Go.Proofs.YtlcomdbkkfbjiaaGreatDoor
