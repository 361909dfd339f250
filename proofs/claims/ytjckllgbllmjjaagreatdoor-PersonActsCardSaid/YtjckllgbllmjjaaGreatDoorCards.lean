/-
  DERIVED. GIVEN WITH THE SEED: THE CARDS: each row of YtjckllgbllmjjaaGreatDoorRows.lean that lists a variable, with what it lists TIED to the program's text (the seventh form; the later family's looks); each row that meets fmt, with fmt's text TOLD by the authors' own Lean function (tested against real Go, not proved from fmt's source: count such statements apart). THE CARD IS WHAT COUNTS. Prove the row's statement (the work); the ties are given (YtjckllgbllmjjaaGreatDoorTie.lean); close each card by the builder's one call (the guide's Derived/Test/ToyasCard.lean, 'card_holds'). Laid BY PROGRAM, IN A SANDBOX (cutbox-door.mjs). By AI agents, Wed Nov 11 2026. No macro, syntax, notation, axiom, sorry.
-/
import Derived.Test.YtjckllgbllmjjaaGreatDoorRows
import GoSem.ClaimSeven
namespace Go.Proofs.YtjckllgbllmjjaaGreatDoor
namespace Rows

/-- THE TIED CARD OF 'keyholderlaw1.PersonActs'. -/
def personActsCard : Claim7 := { stood := { row := personActsRow, standIns := [], harness := (true, "de87f387c607962bdd5470a7cb31efbf9b0ea53545a9483615bbaa680221a2cf"), looks := true }, kinds := [], alts := [], laidByText := true, laidKinds := [.data, .handle, .sentinel, .sentinel, .sentinel, .sentinel, .sentinel, .sentinel, .sentinel, .sentinel, .sentinel, .sentinel, .sentinel, .sentinel, .sentinel, .sentinel, .sentinel, .sentinel, .pinned], laidTests := true, laidLooks := .later }
def PersonActsCardSaid : Prop := Claim7.holds Tryz.pinned (.plain (OpenSpec.ofChange personActsSpec)) personActsCard

/-- THE SECOND FORM's CARD OF 'keyholderlaw1.PersonActs'. -/
def personActsUptoCard : Claim7 := { stood := { row := personActsUptoRow, standIns := [], harness := (true, "de87f387c607962bdd5470a7cb31efbf9b0ea53545a9483615bbaa680221a2cf"), looks := true }, kinds := [], alts := [], laidByText := true, laidKinds := [.data, .handle, .sentinel, .sentinel, .sentinel, .sentinel, .sentinel, .sentinel, .sentinel, .sentinel, .sentinel, .sentinel, .sentinel, .sentinel, .sentinel, .sentinel, .sentinel, .sentinel, .pinned], laidTests := true, laidLooks := .later }
def PersonActsUptoCardSaid : Prop := Claim7.holds Tryz.pinned (.plain (OpenSpec.upto personActsSpec)) personActsUptoCard
end Rows
end Go.Proofs.YtjckllgbllmjjaaGreatDoor
