/-
  DERIVED. GIVEN WITH THE SEED: THE CARDS: each row of YtmlfekcnpmlfkaaDoorRows.lean that lists a variable, with what it lists TIED to the program's text (the seventh form; the later family's looks); each row that meets fmt, with fmt's text TOLD by the authors' own Lean function (tested against real Go, not proved from fmt's source: count such statements apart). THE CARD IS WHAT COUNTS. Prove the row's statement (the work); the ties are given (YtmlfekcnpmlfkaaDoorTie.lean); close each card by the builder's one call (the guide's Derived/Test/ToyasCard.lean, 'card_holds'). Laid BY PROGRAM, IN A SANDBOX (cutbox-door.mjs). By AI agents, Wed Nov 11 2026. No macro, syntax, notation, axiom, sorry.
-/
import Derived.Test.YtmlfekcnpmlfkaaDoorRows
import GoSem.ClaimSeven
namespace Go.Proofs.YtmlfekcnpmlfkaaDoor
namespace Rows

/-- THE TIED CARD OF 'courierlaw1.MeterTicks'. -/
def meterTicksCard : Claim7 := { stood := { row := meterTicksRow, standIns := [], harness := (true, "f51b08692a9e4cae3ac19550fd37f3696518061e118701b4888a56cfdeda7331"), looks := false }, kinds := [], alts := [], laidByText := true, laidKinds := [.data, .data, .data, .data, .pinned, .pinned], laidTests := true, laidLooks := .later }
def MeterTicksCardSaid : Prop := Claim7.holds Tryd.pinned (.plain (OpenSpec.ofChange meterTicksSpec)) meterTicksCard

/-- THE TIED CARD OF 'courierlaw1.MeterMeans'. -/
def meterMeansCard : Claim7 := { stood := { row := meterMeansRow, standIns := [], harness := (true, "f51b08692a9e4cae3ac19550fd37f3696518061e118701b4888a56cfdeda7331"), looks := false }, kinds := [], alts := [], laidByText := true, laidKinds := [.data, .data, .data, .data, .pinned, .pinned], laidTests := true, laidLooks := .later }
def MeterMeansCardSaid : Prop := Claim7.holds Tryd.pinned (.plain (OpenSpec.ofChange meterMeansSpec)) meterMeansCard

/-- THE TIED CARD OF 'courierlaw1.MeterEdges'. -/
def meterEdgesCard : Claim7 := { stood := { row := meterEdgesRow, standIns := [], harness := (true, "f51b08692a9e4cae3ac19550fd37f3696518061e118701b4888a56cfdeda7331"), looks := false }, kinds := [], alts := [], laidByText := true, laidKinds := [.data, .data, .data, .data, .pinned, .pinned], laidTests := true, laidLooks := .later }
def MeterEdgesCardSaid : Prop := Claim7.holds Tryd.pinned (.plain (OpenSpec.ofChange meterEdgesSpec)) meterEdgesCard

/-- THE TIED CARD OF 'courierlaw1.MeterClamps'. -/
def meterClampsCard : Claim7 := { stood := { row := meterClampsRow, standIns := [], harness := (true, "f51b08692a9e4cae3ac19550fd37f3696518061e118701b4888a56cfdeda7331"), looks := false }, kinds := [], alts := [], laidByText := true, laidKinds := [.data, .data, .data, .data, .pinned, .pinned], laidTests := true, laidLooks := .later }
def MeterClampsCardSaid : Prop := Claim7.holds Tryd.pinned (.plain (OpenSpec.ofChange meterClampsSpec)) meterClampsCard

/-- THE TIED CARD OF 'courierlaw1.MeterOrder'. -/
def meterOrderCard : Claim7 := { stood := { row := meterOrderRow, standIns := [], harness := (true, "f51b08692a9e4cae3ac19550fd37f3696518061e118701b4888a56cfdeda7331"), looks := false }, kinds := [], alts := [], laidByText := true, laidKinds := [.data, .data, .data, .data, .pinned, .pinned], laidTests := true, laidLooks := .later }
def MeterOrderCardSaid : Prop := Claim7.holds Tryd.pinned (.plain (OpenSpec.ofChange meterOrderSpec)) meterOrderCard

/-- THE TIED CARD OF 'courierlaw1.MeterSays'. -/
def meterSaysCard : Claim7 := { stood := { row := meterSaysRow, standIns := [], harness := (true, "f51b08692a9e4cae3ac19550fd37f3696518061e118701b4888a56cfdeda7331"), looks := false }, kinds := [], alts := [], laidByText := true, laidKinds := [.data, .data, .data, .data, .pinned, .pinned], laidTests := true, laidLooks := .later }
def MeterSaysCardSaid : Prop := Claim7.holds Tryd.pinned (.plain (OpenSpec.ofChange meterSaysSpec)) meterSaysCard

/-- THE SECOND FORM's CARD OF 'courierlaw1.MeterTicks'. -/
def meterTicksUptoCard : Claim7 := { stood := { row := meterTicksUptoRow, standIns := [], harness := (true, "f51b08692a9e4cae3ac19550fd37f3696518061e118701b4888a56cfdeda7331"), looks := false }, kinds := [], alts := [], laidByText := true, laidKinds := [.data, .data, .data, .data, .pinned, .pinned], laidTests := true, laidLooks := .later }
def MeterTicksUptoCardSaid : Prop := Claim7.holds Tryd.pinned (.plain (OpenSpec.upto meterTicksSpec)) meterTicksUptoCard

/-- THE SECOND FORM's CARD OF 'courierlaw1.MeterMeans'. -/
def meterMeansUptoCard : Claim7 := { stood := { row := meterMeansUptoRow, standIns := [], harness := (true, "f51b08692a9e4cae3ac19550fd37f3696518061e118701b4888a56cfdeda7331"), looks := false }, kinds := [], alts := [], laidByText := true, laidKinds := [.data, .data, .data, .data, .pinned, .pinned], laidTests := true, laidLooks := .later }
def MeterMeansUptoCardSaid : Prop := Claim7.holds Tryd.pinned (.plain (OpenSpec.upto meterMeansSpec)) meterMeansUptoCard

/-- THE SECOND FORM's CARD OF 'courierlaw1.MeterEdges'. -/
def meterEdgesUptoCard : Claim7 := { stood := { row := meterEdgesUptoRow, standIns := [], harness := (true, "f51b08692a9e4cae3ac19550fd37f3696518061e118701b4888a56cfdeda7331"), looks := false }, kinds := [], alts := [], laidByText := true, laidKinds := [.data, .data, .data, .data, .pinned, .pinned], laidTests := true, laidLooks := .later }
def MeterEdgesUptoCardSaid : Prop := Claim7.holds Tryd.pinned (.plain (OpenSpec.upto meterEdgesSpec)) meterEdgesUptoCard

/-- THE SECOND FORM's CARD OF 'courierlaw1.MeterClamps'. -/
def meterClampsUptoCard : Claim7 := { stood := { row := meterClampsUptoRow, standIns := [], harness := (true, "f51b08692a9e4cae3ac19550fd37f3696518061e118701b4888a56cfdeda7331"), looks := false }, kinds := [], alts := [], laidByText := true, laidKinds := [.data, .data, .data, .data, .pinned, .pinned], laidTests := true, laidLooks := .later }
def MeterClampsUptoCardSaid : Prop := Claim7.holds Tryd.pinned (.plain (OpenSpec.upto meterClampsSpec)) meterClampsUptoCard

/-- THE SECOND FORM's CARD OF 'courierlaw1.MeterOrder'. -/
def meterOrderUptoCard : Claim7 := { stood := { row := meterOrderUptoRow, standIns := [], harness := (true, "f51b08692a9e4cae3ac19550fd37f3696518061e118701b4888a56cfdeda7331"), looks := false }, kinds := [], alts := [], laidByText := true, laidKinds := [.data, .data, .data, .data, .pinned, .pinned], laidTests := true, laidLooks := .later }
def MeterOrderUptoCardSaid : Prop := Claim7.holds Tryd.pinned (.plain (OpenSpec.upto meterOrderSpec)) meterOrderUptoCard

/-- THE SECOND FORM's CARD OF 'courierlaw1.MeterSays'. -/
def meterSaysUptoCard : Claim7 := { stood := { row := meterSaysUptoRow, standIns := [], harness := (true, "f51b08692a9e4cae3ac19550fd37f3696518061e118701b4888a56cfdeda7331"), looks := false }, kinds := [], alts := [], laidByText := true, laidKinds := [.data, .data, .data, .data, .pinned, .pinned], laidTests := true, laidLooks := .later }
def MeterSaysUptoCardSaid : Prop := Claim7.holds Tryd.pinned (.plain (OpenSpec.upto meterSaysSpec)) meterSaysUptoCard
end Rows
end Go.Proofs.YtmlfekcnpmlfkaaDoor
