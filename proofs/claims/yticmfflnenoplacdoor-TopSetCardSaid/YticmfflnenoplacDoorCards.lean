/-
  DERIVED. GIVEN WITH THE SEED: THE CARDS: each row of YticmfflnenoplacDoorRows.lean that lists a variable, with what it lists TIED to the program's text (the seventh form; the later family's looks); each row that meets fmt, with fmt's text TOLD by the authors' own Lean function (tested against real Go, not proved from fmt's source: count such statements apart). THE CARD IS WHAT COUNTS. Prove the row's statement (the work); the ties are given (YticmfflnenoplacDoorTie.lean); close each card by the builder's one call (the guide's Derived/Test/ToyasCard.lean, 'card_holds'). Laid BY PROGRAM, IN A SANDBOX (cutbox-door.mjs). By AI agents, Wed Nov 11 2026. No macro, syntax, notation, axiom, sorry.
-/
import Derived.Test.YticmfflnenoplacDoorRows
import GoSem.ClaimSeven
namespace Go.Proofs.YticmfflnenoplacDoor
namespace Rows

/-- THE TIED CARD OF 'ostlerytop.TopSet'. -/
def topSetCard : Claim7 := { stood := { row := topSetRow, standIns := [], harness := (true, "a24941b67f865581a178fd0422ec56f3910f3a4543587220255402a59ae81bdc"), looks := true }, kinds := [], alts := [], laidByText := true, laidKinds := [.data, .data, .data, .data, .sentinel, .sentinel, .pinned], laidTests := true, laidLooks := .later }
def TopSetCardSaid : Prop := Claim7.holds Tryd.pinned (.plain (OpenSpec.ofChange topSetSpec)) topSetCard

/-- THE SECOND FORM's CARD OF 'ostlerytop.TopSet'. -/
def topSetUptoCard : Claim7 := { stood := { row := topSetUptoRow, standIns := [], harness := (true, "a24941b67f865581a178fd0422ec56f3910f3a4543587220255402a59ae81bdc"), looks := true }, kinds := [], alts := [], laidByText := true, laidKinds := [.data, .data, .data, .data, .sentinel, .sentinel, .pinned], laidTests := true, laidLooks := .later }
def TopSetUptoCardSaid : Prop := Claim7.holds Tryd.pinned (.plain (OpenSpec.upto topSetSpec)) topSetUptoCard
end Rows
end Go.Proofs.YticmfflnenoplacDoor
