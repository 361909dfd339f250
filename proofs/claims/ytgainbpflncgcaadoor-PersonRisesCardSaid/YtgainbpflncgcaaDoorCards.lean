/-
  DERIVED. GIVEN WITH THE SEED: THE CARDS: each row of YtgainbpflncgcaaDoorRows.lean that lists a variable, with what it lists TIED to the program's text (the seventh form; the later family's looks); each row that meets fmt, with fmt's text TOLD by the authors' own Lean function (tested against real Go, not proved from fmt's source: count such statements apart). THE CARD IS WHAT COUNTS. Prove the row's statement (the work); the ties are given (YtgainbpflncgcaaDoorTie.lean); close each card by the builder's one call (the guide's Derived/Test/ToyasCard.lean, 'card_holds'). Laid BY PROGRAM, IN A SANDBOX (cutbox-door.mjs). By AI agents, Wed Nov 11 2026. No macro, syntax, notation, axiom, sorry.
-/
import Derived.Test.YtgainbpflncgcaaDoorRows
import GoSem.ClaimSeven
namespace Go.Proofs.YtgainbpflncgcaaDoor
namespace Rows

/-- THE TIED CARD OF 'keyholderlaw1.Names'. -/
def namesCard : Claim7 := { stood := { row := namesRow, standIns := [], harness := (true, "c388295c4de80c74ec8459e458071f1bd3066b9ae5edf653c267f2d89f8a282d"), looks := true }, kinds := [], alts := [], laidByText := true, laidKinds := [.handle, .sentinel, .sentinel, .sentinel, .sentinel, .sentinel, .sentinel, .sentinel, .sentinel, .sentinel, .sentinel, .sentinel, .sentinel, .sentinel, .sentinel, .sentinel, .sentinel], laidTests := true, laidLooks := .later }
def NamesCardSaid : Prop := Claim7.holds Tryd.pinned (.plain (OpenSpec.ofChange namesSpec)) namesCard

/-- THE TIED CARD OF 'keyholderlaw1.MarkParts'. -/
def markPartsCard : Claim7 := { stood := { row := markPartsRow, standIns := [], harness := (true, "c388295c4de80c74ec8459e458071f1bd3066b9ae5edf653c267f2d89f8a282d"), looks := true }, kinds := [], alts := [], laidByText := true, laidKinds := [.handle, .sentinel, .sentinel, .sentinel, .sentinel, .sentinel, .sentinel, .sentinel, .sentinel, .sentinel, .sentinel, .sentinel, .sentinel, .sentinel, .sentinel, .sentinel, .sentinel], laidTests := true, laidLooks := .later }
def MarkPartsCardSaid : Prop := Claim7.holds Tryd.pinned (.plain (OpenSpec.ofChange markPartsSpec)) markPartsCard

/-- THE TIED CARD OF 'keyholderlaw1.MarkTells'. -/
def markTellsCard : Claim7 := { stood := { row := markTellsRow, standIns := [], harness := (true, "c388295c4de80c74ec8459e458071f1bd3066b9ae5edf653c267f2d89f8a282d"), looks := true }, kinds := [], alts := [], laidByText := true, laidKinds := [.handle, .sentinel, .sentinel, .sentinel, .sentinel, .sentinel, .sentinel, .sentinel, .sentinel, .sentinel, .sentinel, .sentinel, .sentinel, .sentinel, .sentinel, .sentinel, .sentinel], laidTests := true, laidLooks := .later }
def MarkTellsCardSaid : Prop := Claim7.holds Tryd.pinned (.plain (OpenSpec.ofChange markTellsSpec)) markTellsCard

/-- THE TIED CARD OF 'keyholderlaw1.PersonRises'. -/
def personRisesCard : Claim7 := { stood := { row := personRisesRow, standIns := [], harness := (true, "c388295c4de80c74ec8459e458071f1bd3066b9ae5edf653c267f2d89f8a282d"), looks := true }, kinds := [], alts := [], laidByText := true, laidKinds := [.data, .sentinel, .sentinel, .sentinel, .sentinel, .sentinel, .sentinel, .pinned], laidTests := true, laidLooks := .later }
def PersonRisesCardSaid : Prop := Claim7.holds Tryd.pinned (.plain (OpenSpec.ofChange personRisesSpec)) personRisesCard

/-- THE SECOND FORM's CARD OF 'keyholderlaw1.Names'. -/
def namesUptoCard : Claim7 := { stood := { row := namesUptoRow, standIns := [], harness := (true, "c388295c4de80c74ec8459e458071f1bd3066b9ae5edf653c267f2d89f8a282d"), looks := true }, kinds := [], alts := [], laidByText := true, laidKinds := [.handle, .sentinel, .sentinel, .sentinel, .sentinel, .sentinel, .sentinel, .sentinel, .sentinel, .sentinel, .sentinel, .sentinel, .sentinel, .sentinel, .sentinel, .sentinel, .sentinel], laidTests := true, laidLooks := .later }
def NamesUptoCardSaid : Prop := Claim7.holds Tryd.pinned (.plain (OpenSpec.upto namesSpec)) namesUptoCard

/-- THE SECOND FORM's CARD OF 'keyholderlaw1.MarkParts'. -/
def markPartsUptoCard : Claim7 := { stood := { row := markPartsUptoRow, standIns := [], harness := (true, "c388295c4de80c74ec8459e458071f1bd3066b9ae5edf653c267f2d89f8a282d"), looks := true }, kinds := [], alts := [], laidByText := true, laidKinds := [.handle, .sentinel, .sentinel, .sentinel, .sentinel, .sentinel, .sentinel, .sentinel, .sentinel, .sentinel, .sentinel, .sentinel, .sentinel, .sentinel, .sentinel, .sentinel, .sentinel], laidTests := true, laidLooks := .later }
def MarkPartsUptoCardSaid : Prop := Claim7.holds Tryd.pinned (.plain (OpenSpec.upto markPartsSpec)) markPartsUptoCard

/-- THE SECOND FORM's CARD OF 'keyholderlaw1.MarkTells'. -/
def markTellsUptoCard : Claim7 := { stood := { row := markTellsUptoRow, standIns := [], harness := (true, "c388295c4de80c74ec8459e458071f1bd3066b9ae5edf653c267f2d89f8a282d"), looks := true }, kinds := [], alts := [], laidByText := true, laidKinds := [.handle, .sentinel, .sentinel, .sentinel, .sentinel, .sentinel, .sentinel, .sentinel, .sentinel, .sentinel, .sentinel, .sentinel, .sentinel, .sentinel, .sentinel, .sentinel, .sentinel], laidTests := true, laidLooks := .later }
def MarkTellsUptoCardSaid : Prop := Claim7.holds Tryd.pinned (.plain (OpenSpec.upto markTellsSpec)) markTellsUptoCard

/-- THE SECOND FORM's CARD OF 'keyholderlaw1.PersonRises'. -/
def personRisesUptoCard : Claim7 := { stood := { row := personRisesUptoRow, standIns := [], harness := (true, "c388295c4de80c74ec8459e458071f1bd3066b9ae5edf653c267f2d89f8a282d"), looks := true }, kinds := [], alts := [], laidByText := true, laidKinds := [.data, .sentinel, .sentinel, .sentinel, .sentinel, .sentinel, .sentinel, .pinned], laidTests := true, laidLooks := .later }
def PersonRisesUptoCardSaid : Prop := Claim7.holds Tryd.pinned (.plain (OpenSpec.upto personRisesSpec)) personRisesUptoCard
end Rows
end Go.Proofs.YtgainbpflncgcaaDoor
