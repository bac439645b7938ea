/-
  DERIVED. GIVEN WITH THE SEED: THE CARDS: each row of YtkefbgkdkmkghaaDoorRows.lean that lists a variable, with what it lists TIED to the program's text (the seventh form; the later family's looks); each row that meets fmt, with fmt's text TOLD by the authors' own Lean function (tested against real Go, not proved from fmt's source: count such statements apart). THE CARD IS WHAT COUNTS. Prove the row's statement (the work); the ties are given (YtkefbgkdkmkghaaDoorTie.lean); close each card by the builder's one call (the guide's Derived/Test/ToyasCard.lean, 'card_holds'). Laid BY PROGRAM, IN A SANDBOX (cutbox-door.mjs). By AI agents, Wed Nov 11 2026. No macro, syntax, notation, axiom, sorry.
-/
import Derived.Test.YtkefbgkdkmkghaaDoorRows
import GoSem.ClaimSeven
namespace Go.Proofs.YtkefbgkdkmkghaaDoor
namespace Rows

/-- THE TIED CARD OF 'courierlaw9.DiskOwn'. -/
def diskOwnCard : Claim7 := { stood := { row := diskOwnRow, standIns := [], harness := (true, "5c3f4eb9a63015f73f55e25bcd2caa997aabaee20c7225a173b555d6de4ce9b3"), looks := true }, kinds := [], alts := [], laidByText := true, laidKinds := [.sentinel, .sentinel, .sentinel, .sentinel, .sentinel, .sentinel, .sentinel, .sentinel, .sentinel, .sentinel, .sentinel, .sentinel, .sentinel, .sentinel, .sentinel, .sentinel, .sentinel, .sentinel, .sentinel], laidTests := true, laidLooks := .later }
def DiskOwnCardSaid : Prop := Claim7.holds Tryd.pinned (.plain (OpenSpec.ofChange diskOwnSpec)) diskOwnCard

/-- THE TIED CARD OF 'courierlaw9.DiskKeeps'. -/
def diskKeepsCard : Claim7 := { stood := { row := diskKeepsRow, standIns := [], harness := (true, "5c3f4eb9a63015f73f55e25bcd2caa997aabaee20c7225a173b555d6de4ce9b3"), looks := true }, kinds := [], alts := [], laidByText := true, laidKinds := [.sentinel, .sentinel], laidTests := true, laidLooks := .later }
def DiskKeepsCardSaid : Prop := Claim7.holds Tryd.pinned (.plain (OpenSpec.ofChange diskKeepsSpec)) diskKeepsCard

/-- THE TIED CARD OF 'courierlaw9.DiskPlays'. -/
def diskPlaysCard : Claim7 := { stood := { row := diskPlaysRow, standIns := [], harness := (true, "5c3f4eb9a63015f73f55e25bcd2caa997aabaee20c7225a173b555d6de4ce9b3"), looks := true }, kinds := [], alts := [], laidByText := true, laidKinds := [.sentinel, .sentinel, .sentinel, .sentinel, .sentinel, .sentinel, .sentinel, .sentinel, .sentinel, .sentinel, .sentinel, .sentinel, .sentinel, .sentinel, .sentinel, .sentinel, .sentinel, .sentinel, .sentinel], laidTests := true, laidLooks := .later }
def DiskPlaysCardSaid : Prop := Claim7.holds Tryd.pinned (.plain (OpenSpec.ofChange diskPlaysSpec)) diskPlaysCard

/-- THE TIED CARD OF 'courierlaw9.DiskFuses'. -/
def diskFusesCard : Claim7 := { stood := { row := diskFusesRow, standIns := [], harness := (true, "5c3f4eb9a63015f73f55e25bcd2caa997aabaee20c7225a173b555d6de4ce9b3"), looks := true }, kinds := [], alts := [], laidByText := true, laidKinds := [.sentinel, .sentinel, .sentinel, .sentinel, .sentinel, .sentinel, .sentinel, .sentinel, .sentinel, .sentinel, .sentinel, .sentinel, .sentinel, .sentinel, .sentinel, .sentinel, .sentinel, .sentinel, .sentinel], laidTests := true, laidLooks := .later }
def DiskFusesCardSaid : Prop := Claim7.holds Tryd.pinned (.plain (OpenSpec.ofChange diskFusesSpec)) diskFusesCard

/-- THE TIED CARD OF 'courierlaw10.SlotsHeads'. -/
def slotsHeadsCard : Claim7 := { stood := { row := slotsHeadsRow, standIns := [], harness := (true, "5c3f4eb9a63015f73f55e25bcd2caa997aabaee20c7225a173b555d6de4ce9b3"), looks := true }, kinds := [], alts := [], laidByText := true, laidKinds := [.sentinel, .sentinel, .sentinel, .sentinel, .sentinel, .sentinel, .sentinel, .sentinel, .sentinel, .sentinel, .sentinel, .sentinel, .sentinel, .sentinel, .sentinel, .sentinel, .sentinel, .sentinel, .sentinel], laidTests := true, laidLooks := .later }
def SlotsHeadsCardSaid : Prop := Claim7.holds Tryd.pinned (.plain (OpenSpec.ofChange slotsHeadsSpec)) slotsHeadsCard

/-- THE TIED CARD OF 'courierlaw10.SlotsRoom'. -/
def slotsRoomCard : Claim7 := { stood := { row := slotsRoomRow, standIns := [], harness := (true, "5c3f4eb9a63015f73f55e25bcd2caa997aabaee20c7225a173b555d6de4ce9b3"), looks := true }, kinds := [], alts := [], laidByText := true, laidKinds := [.sentinel, .sentinel, .sentinel, .sentinel, .sentinel, .sentinel, .sentinel, .sentinel, .sentinel, .sentinel, .sentinel, .sentinel, .sentinel, .sentinel, .sentinel, .sentinel, .sentinel, .sentinel, .sentinel], laidTests := true, laidLooks := .later }
def SlotsRoomCardSaid : Prop := Claim7.holds Tryd.pinned (.plain (OpenSpec.ofChange slotsRoomSpec)) slotsRoomCard

/-- THE TIED CARD OF 'courierlaw10.SlotsScrub'. -/
def slotsScrubCard : Claim7 := { stood := { row := slotsScrubRow, standIns := [], harness := (true, "5c3f4eb9a63015f73f55e25bcd2caa997aabaee20c7225a173b555d6de4ce9b3"), looks := true }, kinds := [], alts := [], laidByText := true, laidKinds := [.sentinel, .sentinel, .sentinel, .sentinel], laidTests := true, laidLooks := .later }
def SlotsScrubCardSaid : Prop := Claim7.holds Tryd.pinned (.plain (OpenSpec.ofChange slotsScrubSpec)) slotsScrubCard

/-- THE TIED CARD OF 'courierlaw10.SlotsWhole'. -/
def slotsWholeCard : Claim7 := { stood := { row := slotsWholeRow, standIns := [], harness := (true, "5c3f4eb9a63015f73f55e25bcd2caa997aabaee20c7225a173b555d6de4ce9b3"), looks := true }, kinds := [], alts := [], laidByText := true, laidKinds := [.sentinel, .sentinel, .sentinel, .sentinel, .sentinel, .sentinel, .sentinel, .sentinel, .sentinel, .sentinel, .sentinel, .sentinel, .sentinel, .sentinel, .sentinel, .sentinel, .sentinel, .sentinel, .sentinel], laidTests := true, laidLooks := .later }
def SlotsWholeCardSaid : Prop := Claim7.holds Tryd.pinned (.plain (OpenSpec.ofChange slotsWholeSpec)) slotsWholeCard

/-- THE TIED CARD OF 'courierlaw10.SlotsForget'. -/
def slotsForgetCard : Claim7 := { stood := { row := slotsForgetRow, standIns := [], harness := (true, "5c3f4eb9a63015f73f55e25bcd2caa997aabaee20c7225a173b555d6de4ce9b3"), looks := true }, kinds := [], alts := [], laidByText := true, laidKinds := [.sentinel, .sentinel, .sentinel, .sentinel], laidTests := true, laidLooks := .later }
def SlotsForgetCardSaid : Prop := Claim7.holds Tryd.pinned (.plain (OpenSpec.ofChange slotsForgetSpec)) slotsForgetCard

/-- THE TIED CARD OF 'courierlaw10.SlotsPlay'. -/
def slotsPlayCard : Claim7 := { stood := { row := slotsPlayRow, standIns := [], harness := (true, "5c3f4eb9a63015f73f55e25bcd2caa997aabaee20c7225a173b555d6de4ce9b3"), looks := true }, kinds := [], alts := [], laidByText := true, laidKinds := [.sentinel, .sentinel, .sentinel, .sentinel, .sentinel, .sentinel, .sentinel, .sentinel, .sentinel, .sentinel, .sentinel, .sentinel, .sentinel, .sentinel, .sentinel, .sentinel, .sentinel, .sentinel, .sentinel], laidTests := true, laidLooks := .later }
def SlotsPlayCardSaid : Prop := Claim7.holds Tryd.pinned (.plain (OpenSpec.ofChange slotsPlaySpec)) slotsPlayCard

/-- THE SECOND FORM's CARD OF 'courierlaw9.DiskOwn'. -/
def diskOwnUptoCard : Claim7 := { stood := { row := diskOwnUptoRow, standIns := [], harness := (true, "5c3f4eb9a63015f73f55e25bcd2caa997aabaee20c7225a173b555d6de4ce9b3"), looks := true }, kinds := [], alts := [], laidByText := true, laidKinds := [.sentinel, .sentinel, .sentinel, .sentinel, .sentinel, .sentinel, .sentinel, .sentinel, .sentinel, .sentinel, .sentinel, .sentinel, .sentinel, .sentinel, .sentinel, .sentinel, .sentinel, .sentinel, .sentinel], laidTests := true, laidLooks := .later }
def DiskOwnUptoCardSaid : Prop := Claim7.holds Tryd.pinned (.plain (OpenSpec.upto diskOwnSpec)) diskOwnUptoCard

/-- THE SECOND FORM's CARD OF 'courierlaw9.DiskKeeps'. -/
def diskKeepsUptoCard : Claim7 := { stood := { row := diskKeepsUptoRow, standIns := [], harness := (true, "5c3f4eb9a63015f73f55e25bcd2caa997aabaee20c7225a173b555d6de4ce9b3"), looks := true }, kinds := [], alts := [], laidByText := true, laidKinds := [.sentinel, .sentinel], laidTests := true, laidLooks := .later }
def DiskKeepsUptoCardSaid : Prop := Claim7.holds Tryd.pinned (.plain (OpenSpec.upto diskKeepsSpec)) diskKeepsUptoCard

/-- THE SECOND FORM's CARD OF 'courierlaw9.DiskPlays'. -/
def diskPlaysUptoCard : Claim7 := { stood := { row := diskPlaysUptoRow, standIns := [], harness := (true, "5c3f4eb9a63015f73f55e25bcd2caa997aabaee20c7225a173b555d6de4ce9b3"), looks := true }, kinds := [], alts := [], laidByText := true, laidKinds := [.sentinel, .sentinel, .sentinel, .sentinel, .sentinel, .sentinel, .sentinel, .sentinel, .sentinel, .sentinel, .sentinel, .sentinel, .sentinel, .sentinel, .sentinel, .sentinel, .sentinel, .sentinel, .sentinel], laidTests := true, laidLooks := .later }
def DiskPlaysUptoCardSaid : Prop := Claim7.holds Tryd.pinned (.plain (OpenSpec.upto diskPlaysSpec)) diskPlaysUptoCard

/-- THE SECOND FORM's CARD OF 'courierlaw9.DiskFuses'. -/
def diskFusesUptoCard : Claim7 := { stood := { row := diskFusesUptoRow, standIns := [], harness := (true, "5c3f4eb9a63015f73f55e25bcd2caa997aabaee20c7225a173b555d6de4ce9b3"), looks := true }, kinds := [], alts := [], laidByText := true, laidKinds := [.sentinel, .sentinel, .sentinel, .sentinel, .sentinel, .sentinel, .sentinel, .sentinel, .sentinel, .sentinel, .sentinel, .sentinel, .sentinel, .sentinel, .sentinel, .sentinel, .sentinel, .sentinel, .sentinel], laidTests := true, laidLooks := .later }
def DiskFusesUptoCardSaid : Prop := Claim7.holds Tryd.pinned (.plain (OpenSpec.upto diskFusesSpec)) diskFusesUptoCard

/-- THE SECOND FORM's CARD OF 'courierlaw10.SlotsHeads'. -/
def slotsHeadsUptoCard : Claim7 := { stood := { row := slotsHeadsUptoRow, standIns := [], harness := (true, "5c3f4eb9a63015f73f55e25bcd2caa997aabaee20c7225a173b555d6de4ce9b3"), looks := true }, kinds := [], alts := [], laidByText := true, laidKinds := [.sentinel, .sentinel, .sentinel, .sentinel, .sentinel, .sentinel, .sentinel, .sentinel, .sentinel, .sentinel, .sentinel, .sentinel, .sentinel, .sentinel, .sentinel, .sentinel, .sentinel, .sentinel, .sentinel], laidTests := true, laidLooks := .later }
def SlotsHeadsUptoCardSaid : Prop := Claim7.holds Tryd.pinned (.plain (OpenSpec.upto slotsHeadsSpec)) slotsHeadsUptoCard

/-- THE SECOND FORM's CARD OF 'courierlaw10.SlotsRoom'. -/
def slotsRoomUptoCard : Claim7 := { stood := { row := slotsRoomUptoRow, standIns := [], harness := (true, "5c3f4eb9a63015f73f55e25bcd2caa997aabaee20c7225a173b555d6de4ce9b3"), looks := true }, kinds := [], alts := [], laidByText := true, laidKinds := [.sentinel, .sentinel, .sentinel, .sentinel, .sentinel, .sentinel, .sentinel, .sentinel, .sentinel, .sentinel, .sentinel, .sentinel, .sentinel, .sentinel, .sentinel, .sentinel, .sentinel, .sentinel, .sentinel], laidTests := true, laidLooks := .later }
def SlotsRoomUptoCardSaid : Prop := Claim7.holds Tryd.pinned (.plain (OpenSpec.upto slotsRoomSpec)) slotsRoomUptoCard

/-- THE SECOND FORM's CARD OF 'courierlaw10.SlotsScrub'. -/
def slotsScrubUptoCard : Claim7 := { stood := { row := slotsScrubUptoRow, standIns := [], harness := (true, "5c3f4eb9a63015f73f55e25bcd2caa997aabaee20c7225a173b555d6de4ce9b3"), looks := true }, kinds := [], alts := [], laidByText := true, laidKinds := [.sentinel, .sentinel, .sentinel, .sentinel], laidTests := true, laidLooks := .later }
def SlotsScrubUptoCardSaid : Prop := Claim7.holds Tryd.pinned (.plain (OpenSpec.upto slotsScrubSpec)) slotsScrubUptoCard

/-- THE SECOND FORM's CARD OF 'courierlaw10.SlotsWhole'. -/
def slotsWholeUptoCard : Claim7 := { stood := { row := slotsWholeUptoRow, standIns := [], harness := (true, "5c3f4eb9a63015f73f55e25bcd2caa997aabaee20c7225a173b555d6de4ce9b3"), looks := true }, kinds := [], alts := [], laidByText := true, laidKinds := [.sentinel, .sentinel, .sentinel, .sentinel, .sentinel, .sentinel, .sentinel, .sentinel, .sentinel, .sentinel, .sentinel, .sentinel, .sentinel, .sentinel, .sentinel, .sentinel, .sentinel, .sentinel, .sentinel], laidTests := true, laidLooks := .later }
def SlotsWholeUptoCardSaid : Prop := Claim7.holds Tryd.pinned (.plain (OpenSpec.upto slotsWholeSpec)) slotsWholeUptoCard

/-- THE SECOND FORM's CARD OF 'courierlaw10.SlotsForget'. -/
def slotsForgetUptoCard : Claim7 := { stood := { row := slotsForgetUptoRow, standIns := [], harness := (true, "5c3f4eb9a63015f73f55e25bcd2caa997aabaee20c7225a173b555d6de4ce9b3"), looks := true }, kinds := [], alts := [], laidByText := true, laidKinds := [.sentinel, .sentinel, .sentinel, .sentinel], laidTests := true, laidLooks := .later }
def SlotsForgetUptoCardSaid : Prop := Claim7.holds Tryd.pinned (.plain (OpenSpec.upto slotsForgetSpec)) slotsForgetUptoCard

/-- THE SECOND FORM's CARD OF 'courierlaw10.SlotsPlay'. -/
def slotsPlayUptoCard : Claim7 := { stood := { row := slotsPlayUptoRow, standIns := [], harness := (true, "5c3f4eb9a63015f73f55e25bcd2caa997aabaee20c7225a173b555d6de4ce9b3"), looks := true }, kinds := [], alts := [], laidByText := true, laidKinds := [.sentinel, .sentinel, .sentinel, .sentinel, .sentinel, .sentinel, .sentinel, .sentinel, .sentinel, .sentinel, .sentinel, .sentinel, .sentinel, .sentinel, .sentinel, .sentinel, .sentinel, .sentinel, .sentinel], laidTests := true, laidLooks := .later }
def SlotsPlayUptoCardSaid : Prop := Claim7.holds Tryd.pinned (.plain (OpenSpec.upto slotsPlaySpec)) slotsPlayUptoCard
end Rows
end Go.Proofs.YtkefbgkdkmkghaaDoor
