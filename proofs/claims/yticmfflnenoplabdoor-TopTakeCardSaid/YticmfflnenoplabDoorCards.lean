/-
  DERIVED. GIVEN WITH THE SEED: THE CARDS: each row of YticmfflnenoplabDoorRows.lean that lists a variable, with what it lists TIED to the program's text (the seventh form; the later family's looks); each row that meets fmt, with fmt's text TOLD by the authors' own Lean function (tested against real Go, not proved from fmt's source: count such statements apart). THE CARD IS WHAT COUNTS. Prove the row's statement (the work); the ties are given (YticmfflnenoplabDoorTie.lean); close each card by the builder's one call (the guide's Derived/Test/ToyasCard.lean, 'card_holds'). Laid BY PROGRAM, IN A SANDBOX (cutbox-door.mjs). By AI agents, Wed Nov 11 2026. No macro, syntax, notation, axiom, sorry.
-/
import Derived.Test.YticmfflnenoplabDoorRows
import GoSem.ClaimSeven
namespace Go.Proofs.YticmfflnenoplabDoor
namespace Rows

/-- THE TIED CARD OF 'ostlerylaw.SetSays'. -/
def setSaysCard : Claim7 := { stood := { row := setSaysRow, standIns := [], harness := (true, "1334b3c6256ed108abb26a5a8bb141f29385446d8bccacc202871aae5228ede3"), looks := true }, kinds := [], alts := [], laidByText := true, laidKinds := [.data, .data, .data, .data, .sentinel, .sentinel, .pinned], laidTests := true, laidLooks := .later }
def SetSaysCardSaid : Prop := Claim7.holds Tryd.pinned (.plain (OpenSpec.ofChange setSaysSpec)) setSaysCard

/-- THE TIED CARD OF 'ostlerytop.TopTake'. -/
def topTakeCard : Claim7 := { stood := { row := topTakeRow, standIns := [], harness := (true, "1334b3c6256ed108abb26a5a8bb141f29385446d8bccacc202871aae5228ede3"), looks := true }, kinds := [], alts := [], laidByText := true, laidKinds := [.data], laidTests := true, laidLooks := .later }
def TopTakeCardSaid : Prop := Claim7.holds Tryd.pinned (.plain (OpenSpec.ofChange topTakeSpec)) topTakeCard

/-- THE TIED CARD OF 'ostlerytop.TopAmount'. -/
def topAmountCard : Claim7 := { stood := { row := topAmountRow, standIns := [], harness := (true, "1334b3c6256ed108abb26a5a8bb141f29385446d8bccacc202871aae5228ede3"), looks := true }, kinds := [], alts := [], laidByText := true, laidKinds := [.data, .data, .data], laidTests := true, laidLooks := .later }
def TopAmountCardSaid : Prop := Claim7.holds Tryd.pinned (.plain (OpenSpec.ofChange topAmountSpec)) topAmountCard

/-- THE SECOND FORM's CARD OF 'ostlerylaw.SetSays'. -/
def setSaysUptoCard : Claim7 := { stood := { row := setSaysUptoRow, standIns := [], harness := (true, "1334b3c6256ed108abb26a5a8bb141f29385446d8bccacc202871aae5228ede3"), looks := true }, kinds := [], alts := [], laidByText := true, laidKinds := [.data, .data, .data, .data, .sentinel, .sentinel, .pinned], laidTests := true, laidLooks := .later }
def SetSaysUptoCardSaid : Prop := Claim7.holds Tryd.pinned (.plain (OpenSpec.upto setSaysSpec)) setSaysUptoCard

/-- THE SECOND FORM's CARD OF 'ostlerytop.TopTake'. -/
def topTakeUptoCard : Claim7 := { stood := { row := topTakeUptoRow, standIns := [], harness := (true, "1334b3c6256ed108abb26a5a8bb141f29385446d8bccacc202871aae5228ede3"), looks := true }, kinds := [], alts := [], laidByText := true, laidKinds := [.data], laidTests := true, laidLooks := .later }
def TopTakeUptoCardSaid : Prop := Claim7.holds Tryd.pinned (.plain (OpenSpec.upto topTakeSpec)) topTakeUptoCard

/-- THE SECOND FORM's CARD OF 'ostlerytop.TopAmount'. -/
def topAmountUptoCard : Claim7 := { stood := { row := topAmountUptoRow, standIns := [], harness := (true, "1334b3c6256ed108abb26a5a8bb141f29385446d8bccacc202871aae5228ede3"), looks := true }, kinds := [], alts := [], laidByText := true, laidKinds := [.data, .data, .data], laidTests := true, laidLooks := .later }
def TopAmountUptoCardSaid : Prop := Claim7.holds Tryd.pinned (.plain (OpenSpec.upto topAmountSpec)) topAmountUptoCard
end Rows
end Go.Proofs.YticmfflnenoplabDoor
