/-
  DERIVED. GIVEN WITH THE SEED: THE CARDS: each row of YticmfflnenoplaaDoorRows.lean that lists a variable, with what it lists TIED to the program's text (the seventh form; the later family's looks); each row that meets fmt, with fmt's text TOLD by the authors' own Lean function (tested against real Go, not proved from fmt's source: count such statements apart). THE CARD IS WHAT COUNTS. Prove the row's statement (the work); the ties are given (YticmfflnenoplaaDoorTie.lean); close each card by the builder's one call (the guide's Derived/Test/ToyasCard.lean, 'card_holds'). Laid BY PROGRAM, IN A SANDBOX (cutbox-door.mjs). By AI agents, Wed Nov 11 2026. No macro, syntax, notation, axiom, sorry.
-/
import Derived.Test.YticmfflnenoplaaDoorRows
import GoSem.ClaimSeven
namespace Go.Proofs.YticmfflnenoplaaDoor
namespace Rows

/-- THE TIED CARD OF 'ostlerylaw.Names'. -/
def namesCard : Claim7 := { stood := { row := namesRow, standIns := [], harness := (true, "072284f4957f0fe051397a6cc014c4e8f3a8c153e79f64f7d0c53192bda4e0bf"), looks := true }, kinds := [], alts := [], laidByText := true, laidKinds := [.data, .data, .data], laidTests := true, laidLooks := .later }
def NamesCardSaid : Prop := Claim7.holds Tryd.pinned (.plain (OpenSpec.ofChange namesSpec)) namesCard

/-- THE TIED CARD OF 'ostlerylaw.PickSays'. -/
def pickSaysCard : Claim7 := { stood := { row := pickSaysRow, standIns := [], harness := (true, "072284f4957f0fe051397a6cc014c4e8f3a8c153e79f64f7d0c53192bda4e0bf"), looks := true }, kinds := [], alts := [], laidByText := true, laidKinds := [.data], laidTests := true, laidLooks := .later }
def PickSaysCardSaid : Prop := Claim7.holds Tryd.pinned (.plain (OpenSpec.ofChange pickSaysSpec)) pickSaysCard

/-- THE TIED CARD OF 'ostlerylaw.AmountSays'. -/
def amountSaysCard : Claim7 := { stood := { row := amountSaysRow, standIns := [], harness := (true, "072284f4957f0fe051397a6cc014c4e8f3a8c153e79f64f7d0c53192bda4e0bf"), looks := true }, kinds := [], alts := [], laidByText := true, laidKinds := [.data, .data, .data], laidTests := true, laidLooks := .later }
def AmountSaysCardSaid : Prop := Claim7.holds Tryd.pinned (.plain (OpenSpec.ofChange amountSaysSpec)) amountSaysCard

/-- THE SECOND FORM's CARD OF 'ostlerylaw.Names'. -/
def namesUptoCard : Claim7 := { stood := { row := namesUptoRow, standIns := [], harness := (true, "072284f4957f0fe051397a6cc014c4e8f3a8c153e79f64f7d0c53192bda4e0bf"), looks := true }, kinds := [], alts := [], laidByText := true, laidKinds := [.data, .data, .data], laidTests := true, laidLooks := .later }
def NamesUptoCardSaid : Prop := Claim7.holds Tryd.pinned (.plain (OpenSpec.upto namesSpec)) namesUptoCard

/-- THE SECOND FORM's CARD OF 'ostlerylaw.PickSays'. -/
def pickSaysUptoCard : Claim7 := { stood := { row := pickSaysUptoRow, standIns := [], harness := (true, "072284f4957f0fe051397a6cc014c4e8f3a8c153e79f64f7d0c53192bda4e0bf"), looks := true }, kinds := [], alts := [], laidByText := true, laidKinds := [.data], laidTests := true, laidLooks := .later }
def PickSaysUptoCardSaid : Prop := Claim7.holds Tryd.pinned (.plain (OpenSpec.upto pickSaysSpec)) pickSaysUptoCard

/-- THE SECOND FORM's CARD OF 'ostlerylaw.AmountSays'. -/
def amountSaysUptoCard : Claim7 := { stood := { row := amountSaysUptoRow, standIns := [], harness := (true, "072284f4957f0fe051397a6cc014c4e8f3a8c153e79f64f7d0c53192bda4e0bf"), looks := true }, kinds := [], alts := [], laidByText := true, laidKinds := [.data, .data, .data], laidTests := true, laidLooks := .later }
def AmountSaysUptoCardSaid : Prop := Claim7.holds Tryd.pinned (.plain (OpenSpec.upto amountSaysSpec)) amountSaysUptoCard
end Rows
end Go.Proofs.YticmfflnenoplaaDoor
