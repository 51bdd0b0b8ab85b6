/-
  DERIVED. GIVEN WITH THE SEED: THE CARDS: each row of YtallnibjmffahaaGreatDoorRows.lean that lists a variable, with what it lists TIED to the program's text (the seventh form; the later family's looks); each row that meets fmt, with fmt's text TOLD by the authors' own Lean function (tested against real Go, not proved from fmt's source: count such statements apart). THE CARD IS WHAT COUNTS. Prove the row's statement (the work); the ties are given (YtallnibjmffahaaGreatDoorTie.lean); close each card by the builder's one call (the guide's Derived/Test/ToyasCard.lean, 'card_holds'). Laid BY PROGRAM, IN A SANDBOX (cutbox-door.mjs). By AI agents, Wed Nov 11 2026. No macro, syntax, notation, axiom, sorry.
-/
import Derived.Test.YtallnibjmffahaaGreatDoorRows
import GoSem.ClaimSeven
namespace Go.Proofs.YtallnibjmffahaaGreatDoor
namespace Rows

/-- THE TIED CARD OF 'skylarktop.TopClient'. -/
def topClientCard : Claim7 := { stood := { row := topClientRow, standIns := [], harness := (true, "682065a2672abf7aa46c8ecb4e36ec0792a34c497a5c54f17f7d1a2b14435c53"), looks := false }, kinds := [], alts := [], laidByText := true, laidKinds := [.data, .data, .data], laidTests := true, laidLooks := .later }
def TopClientCardSaid : Prop := Claim7.holds Tryz.pinned (.plain (OpenSpec.ofChange topClientSpec)) topClientCard

/-- THE SECOND FORM's CARD OF 'skylarktop.TopClient'. -/
def topClientUptoCard : Claim7 := { stood := { row := topClientUptoRow, standIns := [], harness := (true, "682065a2672abf7aa46c8ecb4e36ec0792a34c497a5c54f17f7d1a2b14435c53"), looks := false }, kinds := [], alts := [], laidByText := true, laidKinds := [.data, .data, .data], laidTests := true, laidLooks := .later }
def TopClientUptoCardSaid : Prop := Claim7.holds Tryz.pinned (.plain (OpenSpec.upto topClientSpec)) topClientUptoCard
end Rows
end Go.Proofs.YtallnibjmffahaaGreatDoor
