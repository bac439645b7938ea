/-
  DERIVED. GIVEN WITH THE SEED: THE CARDS: each row of YtmbdldnldcgdjaaDoorRows.lean that lists a variable, with what it lists TIED to the program's text (the seventh form; the later family's looks); each row that meets fmt, with fmt's text TOLD by the authors' own Lean function (tested against real Go, not proved from fmt's source: count such statements apart). THE CARD IS WHAT COUNTS. Prove the row's statement (the work); the ties are given (YtmbdldnldcgdjaaDoorTie.lean); close each card by the builder's one call (the guide's Derived/Test/ToyasCard.lean, 'card_holds'). Laid BY PROGRAM, IN A SANDBOX (cutbox-door.mjs). By AI agents, Wed Nov 11 2026. No macro, syntax, notation, axiom, sorry.
-/
import Derived.Test.YtmbdldnldcgdjaaDoorRows
import GoSem.ClaimSeven
namespace Go.Proofs.YtmbdldnldcgdjaaDoor
namespace Rows

/-- THE TIED CARD OF 'courierlaw18.ProofLong'. -/
def proofLongCard : Claim7 := { stood := { row := proofLongRow, standIns := [], harness := (true, "3f33170bb845055748e0711c87c029a96d3946b86f78fb2b23ffcc2a61045ae3"), looks := true }, kinds := [], alts := [], laidByText := true, laidKinds := [.sentinel, .sentinel, .sentinel, .sentinel, .sentinel, .sentinel, .sentinel, .sentinel, .sentinel, .sentinel, .sentinel, .sentinel, .sentinel, .sentinel, .sentinel, .sentinel, .sentinel, .sentinel, .sentinel], laidTests := true, laidLooks := .later }
def ProofLongCardSaid : Prop := Claim7.holds Tryd.pinned (.plain (OpenSpec.ofChange proofLongSpec)) proofLongCard

/-- THE TIED CARD OF 'courierlaw18.ProofSays'. -/
def proofSaysCard : Claim7 := { stood := { row := proofSaysRow, standIns := [], harness := (true, "3f33170bb845055748e0711c87c029a96d3946b86f78fb2b23ffcc2a61045ae3"), looks := true }, kinds := [], alts := [], laidByText := true, laidKinds := [.sentinel, .sentinel, .sentinel, .sentinel, .sentinel, .sentinel, .sentinel, .sentinel, .sentinel, .sentinel, .sentinel, .sentinel, .sentinel, .sentinel, .sentinel, .sentinel, .sentinel, .sentinel, .sentinel], laidTests := true, laidLooks := .later }
def ProofSaysCardSaid : Prop := Claim7.holds Tryd.pinned (.plain (OpenSpec.ofChange proofSaysSpec)) proofSaysCard

/-- THE TIED CARD OF 'courierlaw18.ProofGoes'. -/
def proofGoesCard : Claim7 := { stood := { row := proofGoesRow, standIns := [], harness := (true, "3f33170bb845055748e0711c87c029a96d3946b86f78fb2b23ffcc2a61045ae3"), looks := true }, kinds := [], alts := [], laidByText := true, laidKinds := [.sentinel, .sentinel, .sentinel, .sentinel, .sentinel, .sentinel, .sentinel, .sentinel, .sentinel, .sentinel, .sentinel, .sentinel, .sentinel, .sentinel, .sentinel, .sentinel, .sentinel, .sentinel, .sentinel], laidTests := true, laidLooks := .later }
def ProofGoesCardSaid : Prop := Claim7.holds Tryd.pinned (.plain (OpenSpec.ofChange proofGoesSpec)) proofGoesCard

/-- THE TIED CARD OF 'courierlaw18.ProofErrors'. -/
def proofErrorsCard : Claim7 := { stood := { row := proofErrorsRow, standIns := [], harness := (true, "3f33170bb845055748e0711c87c029a96d3946b86f78fb2b23ffcc2a61045ae3"), looks := true }, kinds := [], alts := [], laidByText := true, laidKinds := [.sentinel, .sentinel, .sentinel, .sentinel, .sentinel, .sentinel, .sentinel, .sentinel, .sentinel, .sentinel, .sentinel, .sentinel, .sentinel, .sentinel, .sentinel, .sentinel, .sentinel, .sentinel, .sentinel], laidTests := true, laidLooks := .later }
def ProofErrorsCardSaid : Prop := Claim7.holds Tryd.pinned (.plain (OpenSpec.ofChange proofErrorsSpec)) proofErrorsCard

/-- THE SECOND FORM's CARD OF 'courierlaw18.ProofLong'. -/
def proofLongUptoCard : Claim7 := { stood := { row := proofLongUptoRow, standIns := [], harness := (true, "3f33170bb845055748e0711c87c029a96d3946b86f78fb2b23ffcc2a61045ae3"), looks := true }, kinds := [], alts := [], laidByText := true, laidKinds := [.sentinel, .sentinel, .sentinel, .sentinel, .sentinel, .sentinel, .sentinel, .sentinel, .sentinel, .sentinel, .sentinel, .sentinel, .sentinel, .sentinel, .sentinel, .sentinel, .sentinel, .sentinel, .sentinel], laidTests := true, laidLooks := .later }
def ProofLongUptoCardSaid : Prop := Claim7.holds Tryd.pinned (.plain (OpenSpec.upto proofLongSpec)) proofLongUptoCard

/-- THE SECOND FORM's CARD OF 'courierlaw18.ProofSays'. -/
def proofSaysUptoCard : Claim7 := { stood := { row := proofSaysUptoRow, standIns := [], harness := (true, "3f33170bb845055748e0711c87c029a96d3946b86f78fb2b23ffcc2a61045ae3"), looks := true }, kinds := [], alts := [], laidByText := true, laidKinds := [.sentinel, .sentinel, .sentinel, .sentinel, .sentinel, .sentinel, .sentinel, .sentinel, .sentinel, .sentinel, .sentinel, .sentinel, .sentinel, .sentinel, .sentinel, .sentinel, .sentinel, .sentinel, .sentinel], laidTests := true, laidLooks := .later }
def ProofSaysUptoCardSaid : Prop := Claim7.holds Tryd.pinned (.plain (OpenSpec.upto proofSaysSpec)) proofSaysUptoCard

/-- THE SECOND FORM's CARD OF 'courierlaw18.ProofGoes'. -/
def proofGoesUptoCard : Claim7 := { stood := { row := proofGoesUptoRow, standIns := [], harness := (true, "3f33170bb845055748e0711c87c029a96d3946b86f78fb2b23ffcc2a61045ae3"), looks := true }, kinds := [], alts := [], laidByText := true, laidKinds := [.sentinel, .sentinel, .sentinel, .sentinel, .sentinel, .sentinel, .sentinel, .sentinel, .sentinel, .sentinel, .sentinel, .sentinel, .sentinel, .sentinel, .sentinel, .sentinel, .sentinel, .sentinel, .sentinel], laidTests := true, laidLooks := .later }
def ProofGoesUptoCardSaid : Prop := Claim7.holds Tryd.pinned (.plain (OpenSpec.upto proofGoesSpec)) proofGoesUptoCard

/-- THE SECOND FORM's CARD OF 'courierlaw18.ProofErrors'. -/
def proofErrorsUptoCard : Claim7 := { stood := { row := proofErrorsUptoRow, standIns := [], harness := (true, "3f33170bb845055748e0711c87c029a96d3946b86f78fb2b23ffcc2a61045ae3"), looks := true }, kinds := [], alts := [], laidByText := true, laidKinds := [.sentinel, .sentinel, .sentinel, .sentinel, .sentinel, .sentinel, .sentinel, .sentinel, .sentinel, .sentinel, .sentinel, .sentinel, .sentinel, .sentinel, .sentinel, .sentinel, .sentinel, .sentinel, .sentinel], laidTests := true, laidLooks := .later }
def ProofErrorsUptoCardSaid : Prop := Claim7.holds Tryd.pinned (.plain (OpenSpec.upto proofErrorsSpec)) proofErrorsUptoCard
end Rows
end Go.Proofs.YtmbdldnldcgdjaaDoor
