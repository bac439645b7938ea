/-
  DERIVED. GIVEN WITH THE SEED: THE CARDS: each row of YtnkahfpinkgimaaDoorRows.lean that lists a variable, with what it lists TIED to the program's text (the seventh form; the later family's looks); each row that meets fmt, with fmt's text TOLD by the authors' own Lean function (tested against real Go, not proved from fmt's source: count such statements apart). THE CARD IS WHAT COUNTS. Prove the row's statement (the work); the ties are given (YtnkahfpinkgimaaDoorTie.lean); close each card by the builder's one call (the guide's Derived/Test/ToyasCard.lean, 'card_holds'). Laid BY PROGRAM, IN A SANDBOX (cutbox-door.mjs). By AI agents, Wed Nov 11 2026. No macro, syntax, notation, axiom, sorry.
-/
import Derived.Test.YtnkahfpinkgimaaDoorRows
import GoSem.ClaimSeven
namespace Go.Proofs.YtnkahfpinkgimaaDoor
namespace Rows

/-- THE TIED CARD OF 'courierlaw12.ChainRoots'. -/
def chainRootsCard : Claim7 := { stood := { row := chainRootsRow, standIns := [], harness := (true, "f735a3e2b9e8d820ea405a601a173903ac1727083c3e39f785a18ed9956e6943"), looks := true }, kinds := [], alts := [], laidByText := true, laidKinds := [.sentinel], laidTests := true, laidLooks := .later }
def ChainRootsCardSaid : Prop := Claim7.holds Tryd.pinned (.plain (OpenSpec.ofChange chainRootsSpec)) chainRootsCard

/-- THE TIED CARD OF 'courierlaw4.MacSays'. -/
def macSaysCard : Claim7 := { stood := { row := macSaysRow, standIns := [], harness := (true, "f735a3e2b9e8d820ea405a601a173903ac1727083c3e39f785a18ed9956e6943"), looks := true }, kinds := [], alts := [], laidByText := true, laidKinds := [.sentinel, .sentinel, .sentinel, .sentinel, .sentinel, .sentinel, .sentinel, .sentinel, .sentinel, .sentinel, .sentinel, .sentinel, .sentinel, .sentinel, .sentinel, .sentinel, .sentinel, .sentinel, .sentinel], laidTests := true, laidLooks := .later }
def MacSaysCardSaid : Prop := Claim7.holds Tryd.pinned (.plain (OpenSpec.ofChange macSaysSpec)) macSaysCard

/-- THE TIED CARD OF 'courierlaw4.MacVectors'. -/
def macVectorsCard : Claim7 := { stood := { row := macVectorsRow, standIns := [], harness := (true, "f735a3e2b9e8d820ea405a601a173903ac1727083c3e39f785a18ed9956e6943"), looks := true }, kinds := [], alts := [], laidByText := true, laidKinds := [.sentinel], laidTests := true, laidLooks := .later }
def MacVectorsCardSaid : Prop := Claim7.holds Tryd.pinned (.plain (OpenSpec.ofChange macVectorsSpec)) macVectorsCard

/-- THE TIED CARD OF 'courierlaw4.MacPrefixes'. -/
def macPrefixesCard : Claim7 := { stood := { row := macPrefixesRow, standIns := [], harness := (true, "f735a3e2b9e8d820ea405a601a173903ac1727083c3e39f785a18ed9956e6943"), looks := true }, kinds := [], alts := [], laidByText := true, laidKinds := [.sentinel], laidTests := true, laidLooks := .later }
def MacPrefixesCardSaid : Prop := Claim7.holds Tryd.pinned (.plain (OpenSpec.ofChange macPrefixesSpec)) macPrefixesCard

/-- THE TIED CARD OF 'courierlaw4.MacKeys'. -/
def macKeysCard : Claim7 := { stood := { row := macKeysRow, standIns := [], harness := (true, "f735a3e2b9e8d820ea405a601a173903ac1727083c3e39f785a18ed9956e6943"), looks := true }, kinds := [], alts := [], laidByText := true, laidKinds := [.sentinel], laidTests := true, laidLooks := .later }
def MacKeysCardSaid : Prop := Claim7.holds Tryd.pinned (.plain (OpenSpec.ofChange macKeysSpec)) macKeysCard

/-- THE TIED CARD OF 'courierlaw4.MacEqual'. -/
def macEqualCard : Claim7 := { stood := { row := macEqualRow, standIns := [], harness := (true, "f735a3e2b9e8d820ea405a601a173903ac1727083c3e39f785a18ed9956e6943"), looks := true }, kinds := [], alts := [], laidByText := true, laidKinds := [.sentinel], laidTests := true, laidLooks := .later }
def MacEqualCardSaid : Prop := Claim7.holds Tryd.pinned (.plain (OpenSpec.ofChange macEqualSpec)) macEqualCard

/-- THE TIED CARD OF 'courierlaw4.MacWipes'. -/
def macWipesCard : Claim7 := { stood := { row := macWipesRow, standIns := [], harness := (true, "f735a3e2b9e8d820ea405a601a173903ac1727083c3e39f785a18ed9956e6943"), looks := true }, kinds := [], alts := [], laidByText := true, laidKinds := [.sentinel], laidTests := true, laidLooks := .later }
def MacWipesCardSaid : Prop := Claim7.holds Tryd.pinned (.plain (OpenSpec.ofChange macWipesSpec)) macWipesCard

/-- THE TIED CARD OF 'courierlaw12.ChainSays'. -/
def chainSaysCard : Claim7 := { stood := { row := chainSaysRow, standIns := [], harness := (true, "f735a3e2b9e8d820ea405a601a173903ac1727083c3e39f785a18ed9956e6943"), looks := true }, kinds := [], alts := [], laidByText := true, laidKinds := [.sentinel], laidTests := true, laidLooks := .later }
def ChainSaysCardSaid : Prop := Claim7.holds Tryd.pinned (.plain (OpenSpec.ofChange chainSaysSpec)) chainSaysCard

/-- THE TIED CARD OF 'courierlaw12.ChainRows'. -/
def chainRowsCard : Claim7 := { stood := { row := chainRowsRow, standIns := [], harness := (true, "f735a3e2b9e8d820ea405a601a173903ac1727083c3e39f785a18ed9956e6943"), looks := true }, kinds := [], alts := [], laidByText := true, laidKinds := [.sentinel], laidTests := true, laidLooks := .later }
def ChainRowsCardSaid : Prop := Claim7.holds Tryd.pinned (.plain (OpenSpec.ofChange chainRowsSpec)) chainRowsCard

/-- THE SECOND FORM's CARD OF 'courierlaw12.ChainRoots'. -/
def chainRootsUptoCard : Claim7 := { stood := { row := chainRootsUptoRow, standIns := [], harness := (true, "f735a3e2b9e8d820ea405a601a173903ac1727083c3e39f785a18ed9956e6943"), looks := true }, kinds := [], alts := [], laidByText := true, laidKinds := [.sentinel], laidTests := true, laidLooks := .later }
def ChainRootsUptoCardSaid : Prop := Claim7.holds Tryd.pinned (.plain (OpenSpec.upto chainRootsSpec)) chainRootsUptoCard

/-- THE SECOND FORM's CARD OF 'courierlaw4.MacSays'. -/
def macSaysUptoCard : Claim7 := { stood := { row := macSaysUptoRow, standIns := [], harness := (true, "f735a3e2b9e8d820ea405a601a173903ac1727083c3e39f785a18ed9956e6943"), looks := true }, kinds := [], alts := [], laidByText := true, laidKinds := [.sentinel, .sentinel, .sentinel, .sentinel, .sentinel, .sentinel, .sentinel, .sentinel, .sentinel, .sentinel, .sentinel, .sentinel, .sentinel, .sentinel, .sentinel, .sentinel, .sentinel, .sentinel, .sentinel], laidTests := true, laidLooks := .later }
def MacSaysUptoCardSaid : Prop := Claim7.holds Tryd.pinned (.plain (OpenSpec.upto macSaysSpec)) macSaysUptoCard

/-- THE SECOND FORM's CARD OF 'courierlaw4.MacVectors'. -/
def macVectorsUptoCard : Claim7 := { stood := { row := macVectorsUptoRow, standIns := [], harness := (true, "f735a3e2b9e8d820ea405a601a173903ac1727083c3e39f785a18ed9956e6943"), looks := true }, kinds := [], alts := [], laidByText := true, laidKinds := [.sentinel], laidTests := true, laidLooks := .later }
def MacVectorsUptoCardSaid : Prop := Claim7.holds Tryd.pinned (.plain (OpenSpec.upto macVectorsSpec)) macVectorsUptoCard

/-- THE SECOND FORM's CARD OF 'courierlaw4.MacPrefixes'. -/
def macPrefixesUptoCard : Claim7 := { stood := { row := macPrefixesUptoRow, standIns := [], harness := (true, "f735a3e2b9e8d820ea405a601a173903ac1727083c3e39f785a18ed9956e6943"), looks := true }, kinds := [], alts := [], laidByText := true, laidKinds := [.sentinel], laidTests := true, laidLooks := .later }
def MacPrefixesUptoCardSaid : Prop := Claim7.holds Tryd.pinned (.plain (OpenSpec.upto macPrefixesSpec)) macPrefixesUptoCard

/-- THE SECOND FORM's CARD OF 'courierlaw4.MacKeys'. -/
def macKeysUptoCard : Claim7 := { stood := { row := macKeysUptoRow, standIns := [], harness := (true, "f735a3e2b9e8d820ea405a601a173903ac1727083c3e39f785a18ed9956e6943"), looks := true }, kinds := [], alts := [], laidByText := true, laidKinds := [.sentinel], laidTests := true, laidLooks := .later }
def MacKeysUptoCardSaid : Prop := Claim7.holds Tryd.pinned (.plain (OpenSpec.upto macKeysSpec)) macKeysUptoCard

/-- THE SECOND FORM's CARD OF 'courierlaw4.MacEqual'. -/
def macEqualUptoCard : Claim7 := { stood := { row := macEqualUptoRow, standIns := [], harness := (true, "f735a3e2b9e8d820ea405a601a173903ac1727083c3e39f785a18ed9956e6943"), looks := true }, kinds := [], alts := [], laidByText := true, laidKinds := [.sentinel], laidTests := true, laidLooks := .later }
def MacEqualUptoCardSaid : Prop := Claim7.holds Tryd.pinned (.plain (OpenSpec.upto macEqualSpec)) macEqualUptoCard

/-- THE SECOND FORM's CARD OF 'courierlaw4.MacWipes'. -/
def macWipesUptoCard : Claim7 := { stood := { row := macWipesUptoRow, standIns := [], harness := (true, "f735a3e2b9e8d820ea405a601a173903ac1727083c3e39f785a18ed9956e6943"), looks := true }, kinds := [], alts := [], laidByText := true, laidKinds := [.sentinel], laidTests := true, laidLooks := .later }
def MacWipesUptoCardSaid : Prop := Claim7.holds Tryd.pinned (.plain (OpenSpec.upto macWipesSpec)) macWipesUptoCard

/-- THE SECOND FORM's CARD OF 'courierlaw12.ChainSays'. -/
def chainSaysUptoCard : Claim7 := { stood := { row := chainSaysUptoRow, standIns := [], harness := (true, "f735a3e2b9e8d820ea405a601a173903ac1727083c3e39f785a18ed9956e6943"), looks := true }, kinds := [], alts := [], laidByText := true, laidKinds := [.sentinel], laidTests := true, laidLooks := .later }
def ChainSaysUptoCardSaid : Prop := Claim7.holds Tryd.pinned (.plain (OpenSpec.upto chainSaysSpec)) chainSaysUptoCard

/-- THE SECOND FORM's CARD OF 'courierlaw12.ChainRows'. -/
def chainRowsUptoCard : Claim7 := { stood := { row := chainRowsUptoRow, standIns := [], harness := (true, "f735a3e2b9e8d820ea405a601a173903ac1727083c3e39f785a18ed9956e6943"), looks := true }, kinds := [], alts := [], laidByText := true, laidKinds := [.sentinel], laidTests := true, laidLooks := .later }
def ChainRowsUptoCardSaid : Prop := Claim7.holds Tryd.pinned (.plain (OpenSpec.upto chainRowsSpec)) chainRowsUptoCard
end Rows
end Go.Proofs.YtnkahfpinkgimaaDoor
