/-
  DERIVED. GIVEN WITH THE SEED: THE CARDS: each row of YticmfflnenoplacGreatDoorRows.lean that lists a variable, with what it lists TIED to the program's text (the seventh form; the later family's looks); each row that meets fmt, with fmt's text TOLD by the authors' own Lean function (tested against real Go, not proved from fmt's source: count such statements apart). THE CARD IS WHAT COUNTS. Prove the row's statement (the work); the ties are given (YticmfflnenoplacGreatDoorTie.lean); close each card by the builder's one call (the guide's Derived/Test/ToyasCard.lean, 'card_holds'). Laid BY PROGRAM, IN A SANDBOX (cutbox-door.mjs). By AI agents, Wed Nov 11 2026. No macro, syntax, notation, axiom, sorry.
-/
import Derived.Test.YticmfflnenoplacGreatDoorRows
import GoSem.ClaimSeven
namespace Go.Proofs.YticmfflnenoplacGreatDoor
namespace Rows

/-- THE TIED CARD OF 'ostlerytop.TopFile'. -/
def topFileCard : Claim7 := { stood := { row := topFileRow, standIns := [], harness := (true, "b0f9dcb00626948cb5516f6100d3b10acddd48251e68cfa541439e12ef692ab4"), looks := true }, kinds := [], alts := [], laidByText := true, laidKinds := [.data, .data, .data, .data, .sentinel, .sentinel, .pinned], laidTests := true, laidLooks := .later }
def TopFileCardSaid : Prop := Claim7.holds Tryz.pinned (.plain (OpenSpec.ofChange topFileSpec)) topFileCard

/-- THE TIED CARD OF 'ostlerytop.TopGone'. -/
def topGoneCard : Claim7 := { stood := { row := topGoneRow, standIns := [], harness := (true, "b0f9dcb00626948cb5516f6100d3b10acddd48251e68cfa541439e12ef692ab4"), looks := true }, kinds := [], alts := [], laidByText := true, laidKinds := [.data, .data, .data, .data, .sentinel, .sentinel, .pinned], laidTests := true, laidLooks := .later }
def TopGoneCardSaid : Prop := Claim7.holds Tryz.pinned (.plain (OpenSpec.ofChange topGoneSpec)) topGoneCard

/-- THE TIED CARD OF 'ostlerytop.TopRoom'. -/
def topRoomCard : Claim7 := { stood := { row := topRoomRow, standIns := [], harness := (true, "b0f9dcb00626948cb5516f6100d3b10acddd48251e68cfa541439e12ef692ab4"), looks := true }, kinds := [], alts := [], laidByText := true, laidKinds := [.data, .data, .data, .data, .sentinel, .sentinel, .pinned], laidTests := true, laidLooks := .later }
def TopRoomCardSaid : Prop := Claim7.holds Tryz.pinned (.plain (OpenSpec.ofChange topRoomSpec)) topRoomCard

/-- THE TIED CARD OF 'ostlerytop.TopPolicy'. -/
def topPolicyCard : Claim7 := { stood := { row := topPolicyRow, standIns := [], harness := (true, "b0f9dcb00626948cb5516f6100d3b10acddd48251e68cfa541439e12ef692ab4"), looks := true }, kinds := [], alts := [], laidByText := true, laidKinds := [.data, .data, .data, .data, .sentinel, .sentinel, .pinned], laidTests := true, laidLooks := .later }
def TopPolicyCardSaid : Prop := Claim7.holds Tryz.pinned (.plain (OpenSpec.ofChange topPolicySpec)) topPolicyCard

/-- THE TIED CARD OF 'ostlerytop.TopOrder'. -/
def topOrderCard : Claim7 := { stood := { row := topOrderRow, standIns := [], harness := (true, "b0f9dcb00626948cb5516f6100d3b10acddd48251e68cfa541439e12ef692ab4"), looks := true }, kinds := [], alts := [], laidByText := true, laidKinds := [.data, .data, .data, .data, .sentinel, .sentinel, .pinned], laidTests := true, laidLooks := .later }
def TopOrderCardSaid : Prop := Claim7.holds Tryz.pinned (.plain (OpenSpec.ofChange topOrderSpec)) topOrderCard

/-- THE TIED CARD OF 'ostlerytop.TopPlace'. -/
def topPlaceCard : Claim7 := { stood := { row := topPlaceRow, standIns := [], harness := (true, "b0f9dcb00626948cb5516f6100d3b10acddd48251e68cfa541439e12ef692ab4"), looks := true }, kinds := [], alts := [], laidByText := true, laidKinds := [.data, .data, .data, .data, .sentinel, .sentinel, .pinned], laidTests := true, laidLooks := .later }
def TopPlaceCardSaid : Prop := Claim7.holds Tryz.pinned (.plain (OpenSpec.ofChange topPlaceSpec)) topPlaceCard

/-- THE TIED CARD OF 'ostlerytop.TopSpoil'. -/
def topSpoilCard : Claim7 := { stood := { row := topSpoilRow, standIns := [], harness := (true, "b0f9dcb00626948cb5516f6100d3b10acddd48251e68cfa541439e12ef692ab4"), looks := true }, kinds := [], alts := [], laidByText := true, laidKinds := [.data, .data, .data, .data, .sentinel, .sentinel, .pinned], laidTests := true, laidLooks := .later }
def TopSpoilCardSaid : Prop := Claim7.holds Tryz.pinned (.plain (OpenSpec.ofChange topSpoilSpec)) topSpoilCard

/-- THE TIED CARD OF 'ostlerytop.TopPress'. -/
def topPressCard : Claim7 := { stood := { row := topPressRow, standIns := [], harness := (true, "b0f9dcb00626948cb5516f6100d3b10acddd48251e68cfa541439e12ef692ab4"), looks := true }, kinds := [], alts := [], laidByText := true, laidKinds := [.data, .data, .data, .data, .sentinel, .sentinel, .pinned], laidTests := true, laidLooks := .later }
def TopPressCardSaid : Prop := Claim7.holds Tryz.pinned (.plain (OpenSpec.ofChange topPressSpec)) topPressCard

/-- THE TIED CARD OF 'ostlerytop.TopAgain'. -/
def topAgainCard : Claim7 := { stood := { row := topAgainRow, standIns := [], harness := (true, "b0f9dcb00626948cb5516f6100d3b10acddd48251e68cfa541439e12ef692ab4"), looks := true }, kinds := [], alts := [], laidByText := true, laidKinds := [.data, .data, .data, .data, .sentinel, .sentinel, .pinned], laidTests := true, laidLooks := .later }
def TopAgainCardSaid : Prop := Claim7.holds Tryz.pinned (.plain (OpenSpec.ofChange topAgainSpec)) topAgainCard

/-- THE SECOND FORM's CARD OF 'ostlerytop.TopFile'. -/
def topFileUptoCard : Claim7 := { stood := { row := topFileUptoRow, standIns := [], harness := (true, "b0f9dcb00626948cb5516f6100d3b10acddd48251e68cfa541439e12ef692ab4"), looks := true }, kinds := [], alts := [], laidByText := true, laidKinds := [.data, .data, .data, .data, .sentinel, .sentinel, .pinned], laidTests := true, laidLooks := .later }
def TopFileUptoCardSaid : Prop := Claim7.holds Tryz.pinned (.plain (OpenSpec.upto topFileSpec)) topFileUptoCard

/-- THE SECOND FORM's CARD OF 'ostlerytop.TopGone'. -/
def topGoneUptoCard : Claim7 := { stood := { row := topGoneUptoRow, standIns := [], harness := (true, "b0f9dcb00626948cb5516f6100d3b10acddd48251e68cfa541439e12ef692ab4"), looks := true }, kinds := [], alts := [], laidByText := true, laidKinds := [.data, .data, .data, .data, .sentinel, .sentinel, .pinned], laidTests := true, laidLooks := .later }
def TopGoneUptoCardSaid : Prop := Claim7.holds Tryz.pinned (.plain (OpenSpec.upto topGoneSpec)) topGoneUptoCard

/-- THE SECOND FORM's CARD OF 'ostlerytop.TopRoom'. -/
def topRoomUptoCard : Claim7 := { stood := { row := topRoomUptoRow, standIns := [], harness := (true, "b0f9dcb00626948cb5516f6100d3b10acddd48251e68cfa541439e12ef692ab4"), looks := true }, kinds := [], alts := [], laidByText := true, laidKinds := [.data, .data, .data, .data, .sentinel, .sentinel, .pinned], laidTests := true, laidLooks := .later }
def TopRoomUptoCardSaid : Prop := Claim7.holds Tryz.pinned (.plain (OpenSpec.upto topRoomSpec)) topRoomUptoCard

/-- THE SECOND FORM's CARD OF 'ostlerytop.TopPolicy'. -/
def topPolicyUptoCard : Claim7 := { stood := { row := topPolicyUptoRow, standIns := [], harness := (true, "b0f9dcb00626948cb5516f6100d3b10acddd48251e68cfa541439e12ef692ab4"), looks := true }, kinds := [], alts := [], laidByText := true, laidKinds := [.data, .data, .data, .data, .sentinel, .sentinel, .pinned], laidTests := true, laidLooks := .later }
def TopPolicyUptoCardSaid : Prop := Claim7.holds Tryz.pinned (.plain (OpenSpec.upto topPolicySpec)) topPolicyUptoCard

/-- THE SECOND FORM's CARD OF 'ostlerytop.TopOrder'. -/
def topOrderUptoCard : Claim7 := { stood := { row := topOrderUptoRow, standIns := [], harness := (true, "b0f9dcb00626948cb5516f6100d3b10acddd48251e68cfa541439e12ef692ab4"), looks := true }, kinds := [], alts := [], laidByText := true, laidKinds := [.data, .data, .data, .data, .sentinel, .sentinel, .pinned], laidTests := true, laidLooks := .later }
def TopOrderUptoCardSaid : Prop := Claim7.holds Tryz.pinned (.plain (OpenSpec.upto topOrderSpec)) topOrderUptoCard

/-- THE SECOND FORM's CARD OF 'ostlerytop.TopPlace'. -/
def topPlaceUptoCard : Claim7 := { stood := { row := topPlaceUptoRow, standIns := [], harness := (true, "b0f9dcb00626948cb5516f6100d3b10acddd48251e68cfa541439e12ef692ab4"), looks := true }, kinds := [], alts := [], laidByText := true, laidKinds := [.data, .data, .data, .data, .sentinel, .sentinel, .pinned], laidTests := true, laidLooks := .later }
def TopPlaceUptoCardSaid : Prop := Claim7.holds Tryz.pinned (.plain (OpenSpec.upto topPlaceSpec)) topPlaceUptoCard

/-- THE SECOND FORM's CARD OF 'ostlerytop.TopSpoil'. -/
def topSpoilUptoCard : Claim7 := { stood := { row := topSpoilUptoRow, standIns := [], harness := (true, "b0f9dcb00626948cb5516f6100d3b10acddd48251e68cfa541439e12ef692ab4"), looks := true }, kinds := [], alts := [], laidByText := true, laidKinds := [.data, .data, .data, .data, .sentinel, .sentinel, .pinned], laidTests := true, laidLooks := .later }
def TopSpoilUptoCardSaid : Prop := Claim7.holds Tryz.pinned (.plain (OpenSpec.upto topSpoilSpec)) topSpoilUptoCard

/-- THE SECOND FORM's CARD OF 'ostlerytop.TopPress'. -/
def topPressUptoCard : Claim7 := { stood := { row := topPressUptoRow, standIns := [], harness := (true, "b0f9dcb00626948cb5516f6100d3b10acddd48251e68cfa541439e12ef692ab4"), looks := true }, kinds := [], alts := [], laidByText := true, laidKinds := [.data, .data, .data, .data, .sentinel, .sentinel, .pinned], laidTests := true, laidLooks := .later }
def TopPressUptoCardSaid : Prop := Claim7.holds Tryz.pinned (.plain (OpenSpec.upto topPressSpec)) topPressUptoCard

/-- THE SECOND FORM's CARD OF 'ostlerytop.TopAgain'. -/
def topAgainUptoCard : Claim7 := { stood := { row := topAgainUptoRow, standIns := [], harness := (true, "b0f9dcb00626948cb5516f6100d3b10acddd48251e68cfa541439e12ef692ab4"), looks := true }, kinds := [], alts := [], laidByText := true, laidKinds := [.data, .data, .data, .data, .sentinel, .sentinel, .pinned], laidTests := true, laidLooks := .later }
def TopAgainUptoCardSaid : Prop := Claim7.holds Tryz.pinned (.plain (OpenSpec.upto topAgainSpec)) topAgainUptoCard
end Rows
end Go.Proofs.YticmfflnenoplacGreatDoor
