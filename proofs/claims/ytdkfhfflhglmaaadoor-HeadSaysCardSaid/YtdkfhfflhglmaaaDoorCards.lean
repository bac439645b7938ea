/-
  DERIVED. GIVEN WITH THE SEED: THE CARDS: each row of YtdkfhfflhglmaaaDoorRows.lean that lists a variable, with what it lists TIED to the program's text (the seventh form; the later family's looks); each row that meets fmt, with fmt's text TOLD by the authors' own Lean function (tested against real Go, not proved from fmt's source: count such statements apart). THE CARD IS WHAT COUNTS. Prove the row's statement (the work); the ties are given (YtdkfhfflhglmaaaDoorTie.lean); close each card by the builder's one call (the guide's Derived/Test/ToyasCard.lean, 'card_holds'). Laid BY PROGRAM, IN A SANDBOX (cutbox-door.mjs). By AI agents, Wed Nov 11 2026. No macro, syntax, notation, axiom, sorry.
-/
import Derived.Test.YtdkfhfflhglmaaaDoorRows
import GoSem.ClaimSeven
namespace Go.Proofs.YtdkfhfflhglmaaaDoor
namespace Rows

/-- THE TIED CARD OF 'courierlaw2.TrapCalls'. -/
def trapCallsCard : Claim7 := { stood := { row := trapCallsRow, standIns := [], harness := (true, "98cacdbd58402a3d0251b7e66fa409ddaeb4b5f45635156d72a1d70c14a81c17"), looks := true }, kinds := [], alts := [], laidByText := true, laidKinds := [.sentinel, .sentinel, .sentinel, .sentinel, .sentinel, .sentinel, .sentinel, .sentinel, .sentinel, .sentinel, .sentinel, .sentinel, .sentinel, .sentinel, .sentinel, .sentinel, .sentinel, .sentinel, .sentinel], laidTests := true, laidLooks := .later }
def TrapCallsCardSaid : Prop := Claim7.holds Tryd.pinned (.plain (OpenSpec.ofChange trapCallsSpec)) trapCallsCard

/-- THE TIED CARD OF 'courierlaw2.TrapCatches'. -/
def trapCatchesCard : Claim7 := { stood := { row := trapCatchesRow, standIns := [], harness := (true, "98cacdbd58402a3d0251b7e66fa409ddaeb4b5f45635156d72a1d70c14a81c17"), looks := true }, kinds := [], alts := [], laidByText := true, laidKinds := [.sentinel, .sentinel, .sentinel, .sentinel, .sentinel, .sentinel, .sentinel, .sentinel, .sentinel, .sentinel, .sentinel, .sentinel, .sentinel, .sentinel, .sentinel, .sentinel, .sentinel, .sentinel, .sentinel], laidTests := true, laidLooks := .later }
def TrapCatchesCardSaid : Prop := Claim7.holds Tryd.pinned (.plain (OpenSpec.ofChange trapCatchesSpec)) trapCatchesCard

/-- THE TIED CARD OF 'courierlaw2.TrapDeep'. -/
def trapDeepCard : Claim7 := { stood := { row := trapDeepRow, standIns := [], harness := (true, "98cacdbd58402a3d0251b7e66fa409ddaeb4b5f45635156d72a1d70c14a81c17"), looks := true }, kinds := [], alts := [], laidByText := true, laidKinds := [.sentinel, .sentinel, .sentinel, .sentinel, .sentinel, .sentinel, .sentinel, .sentinel, .sentinel, .sentinel, .sentinel, .sentinel, .sentinel, .sentinel, .sentinel, .sentinel, .sentinel, .sentinel, .sentinel], laidTests := true, laidLooks := .later }
def TrapDeepCardSaid : Prop := Claim7.holds Tryd.pinned (.plain (OpenSpec.ofChange trapDeepSpec)) trapDeepCard

/-- THE TIED CARD OF 'courierlaw11.CodeWrites'. -/
def codeWritesCard : Claim7 := { stood := { row := codeWritesRow, standIns := [], harness := (true, "98cacdbd58402a3d0251b7e66fa409ddaeb4b5f45635156d72a1d70c14a81c17"), looks := true }, kinds := [], alts := [], laidByText := true, laidKinds := [.sentinel, .sentinel, .sentinel], laidTests := true, laidLooks := .later }
def CodeWritesCardSaid : Prop := Claim7.holds Tryd.pinned (.plain (OpenSpec.ofChange codeWritesSpec)) codeWritesCard

/-- THE TIED CARD OF 'courierlaw11.CodeFalls'. -/
def codeFallsCard : Claim7 := { stood := { row := codeFallsRow, standIns := [], harness := (true, "98cacdbd58402a3d0251b7e66fa409ddaeb4b5f45635156d72a1d70c14a81c17"), looks := true }, kinds := [], alts := [], laidByText := true, laidKinds := [.sentinel, .sentinel, .sentinel, .sentinel, .sentinel, .sentinel, .sentinel, .sentinel, .sentinel, .sentinel, .sentinel, .sentinel, .sentinel, .sentinel, .sentinel, .sentinel, .sentinel, .sentinel, .sentinel], laidTests := true, laidLooks := .later }
def CodeFallsCardSaid : Prop := Claim7.holds Tryd.pinned (.plain (OpenSpec.ofChange codeFallsSpec)) codeFallsCard

/-- THE TIED CARD OF 'courierlaw11.CodeBools'. -/
def codeBoolsCard : Claim7 := { stood := { row := codeBoolsRow, standIns := [], harness := (true, "98cacdbd58402a3d0251b7e66fa409ddaeb4b5f45635156d72a1d70c14a81c17"), looks := true }, kinds := [], alts := [], laidByText := true, laidKinds := [.sentinel, .sentinel, .sentinel, .sentinel, .sentinel, .sentinel, .sentinel, .sentinel, .sentinel, .sentinel, .sentinel, .sentinel, .sentinel, .sentinel, .sentinel, .sentinel, .sentinel, .sentinel, .sentinel], laidTests := true, laidLooks := .later }
def CodeBoolsCardSaid : Prop := Claim7.holds Tryd.pinned (.plain (OpenSpec.ofChange codeBoolsSpec)) codeBoolsCard

/-- THE TIED CARD OF 'courierlaw11.CodeLists'. -/
def codeListsCard : Claim7 := { stood := { row := codeListsRow, standIns := [], harness := (true, "98cacdbd58402a3d0251b7e66fa409ddaeb4b5f45635156d72a1d70c14a81c17"), looks := true }, kinds := [], alts := [], laidByText := true, laidKinds := [.sentinel, .sentinel, .sentinel, .sentinel, .sentinel, .sentinel, .sentinel, .sentinel, .sentinel, .sentinel, .sentinel, .sentinel, .sentinel, .sentinel, .sentinel, .sentinel, .sentinel, .sentinel, .sentinel], laidTests := true, laidLooks := .later }
def CodeListsCardSaid : Prop := Claim7.holds Tryd.pinned (.plain (OpenSpec.ofChange codeListsSpec)) codeListsCard

/-- THE TIED CARD OF 'courierlaw11.CodeBack'. -/
def codeBackCard : Claim7 := { stood := { row := codeBackRow, standIns := [], harness := (true, "98cacdbd58402a3d0251b7e66fa409ddaeb4b5f45635156d72a1d70c14a81c17"), looks := true }, kinds := [], alts := [], laidByText := true, laidKinds := [.sentinel, .sentinel, .sentinel, .sentinel, .sentinel, .sentinel, .sentinel, .sentinel, .sentinel, .sentinel, .sentinel, .sentinel, .sentinel, .sentinel, .sentinel, .sentinel, .sentinel, .sentinel, .sentinel], laidTests := true, laidLooks := .later }
def CodeBackCardSaid : Prop := Claim7.holds Tryd.pinned (.plain (OpenSpec.ofChange codeBackSpec)) codeBackCard

/-- THE TIED CARD OF 'courierlaw11.CodeReads'. -/
def codeReadsCard : Claim7 := { stood := { row := codeReadsRow, standIns := [], harness := (true, "98cacdbd58402a3d0251b7e66fa409ddaeb4b5f45635156d72a1d70c14a81c17"), looks := true }, kinds := [], alts := [], laidByText := true, laidKinds := [.sentinel, .sentinel, .sentinel, .sentinel, .sentinel, .sentinel, .sentinel, .sentinel, .sentinel, .sentinel, .sentinel, .sentinel, .sentinel, .sentinel, .sentinel, .sentinel, .sentinel, .sentinel, .sentinel], laidTests := true, laidLooks := .later }
def CodeReadsCardSaid : Prop := Claim7.holds Tryd.pinned (.plain (OpenSpec.ofChange codeReadsSpec)) codeReadsCard

/-- THE TIED CARD OF 'courierlaw13.HeadSays'. -/
def headSaysCard : Claim7 := { stood := { row := headSaysRow, standIns := [], harness := (true, "98cacdbd58402a3d0251b7e66fa409ddaeb4b5f45635156d72a1d70c14a81c17"), looks := true }, kinds := [], alts := [], laidByText := true, laidKinds := [.sentinel, .sentinel, .sentinel, .sentinel, .sentinel, .sentinel, .sentinel, .sentinel, .sentinel, .sentinel, .sentinel, .sentinel, .sentinel, .sentinel, .sentinel, .sentinel, .sentinel, .sentinel, .sentinel], laidTests := true, laidLooks := .later }
def HeadSaysCardSaid : Prop := Claim7.holds Tryd.pinned (.plain (OpenSpec.ofChange headSaysSpec)) headSaysCard

/-- THE TIED CARD OF 'courierlaw13.HeadBack'. -/
def headBackCard : Claim7 := { stood := { row := headBackRow, standIns := [], harness := (true, "98cacdbd58402a3d0251b7e66fa409ddaeb4b5f45635156d72a1d70c14a81c17"), looks := true }, kinds := [], alts := [], laidByText := true, laidKinds := [.sentinel, .sentinel, .sentinel, .sentinel, .sentinel, .sentinel, .sentinel, .sentinel, .sentinel, .sentinel, .sentinel, .sentinel, .sentinel, .sentinel, .sentinel, .sentinel, .sentinel, .sentinel, .sentinel], laidTests := true, laidLooks := .later }
def HeadBackCardSaid : Prop := Claim7.holds Tryd.pinned (.plain (OpenSpec.ofChange headBackSpec)) headBackCard

/-- THE TIED CARD OF 'courierlaw13.HeadLays'. -/
def headLaysCard : Claim7 := { stood := { row := headLaysRow, standIns := [], harness := (true, "98cacdbd58402a3d0251b7e66fa409ddaeb4b5f45635156d72a1d70c14a81c17"), looks := true }, kinds := [], alts := [], laidByText := true, laidKinds := [.sentinel, .sentinel, .sentinel, .sentinel, .sentinel, .sentinel, .sentinel, .sentinel, .sentinel, .sentinel, .sentinel, .sentinel, .sentinel, .sentinel, .sentinel, .sentinel, .sentinel, .sentinel, .sentinel], laidTests := true, laidLooks := .later }
def HeadLaysCardSaid : Prop := Claim7.holds Tryd.pinned (.plain (OpenSpec.ofChange headLaysSpec)) headLaysCard

/-- THE SECOND FORM's CARD OF 'courierlaw2.TrapCalls'. -/
def trapCallsUptoCard : Claim7 := { stood := { row := trapCallsUptoRow, standIns := [], harness := (true, "98cacdbd58402a3d0251b7e66fa409ddaeb4b5f45635156d72a1d70c14a81c17"), looks := true }, kinds := [], alts := [], laidByText := true, laidKinds := [.sentinel, .sentinel, .sentinel, .sentinel, .sentinel, .sentinel, .sentinel, .sentinel, .sentinel, .sentinel, .sentinel, .sentinel, .sentinel, .sentinel, .sentinel, .sentinel, .sentinel, .sentinel, .sentinel], laidTests := true, laidLooks := .later }
def TrapCallsUptoCardSaid : Prop := Claim7.holds Tryd.pinned (.plain (OpenSpec.upto trapCallsSpec)) trapCallsUptoCard

/-- THE SECOND FORM's CARD OF 'courierlaw2.TrapCatches'. -/
def trapCatchesUptoCard : Claim7 := { stood := { row := trapCatchesUptoRow, standIns := [], harness := (true, "98cacdbd58402a3d0251b7e66fa409ddaeb4b5f45635156d72a1d70c14a81c17"), looks := true }, kinds := [], alts := [], laidByText := true, laidKinds := [.sentinel, .sentinel, .sentinel, .sentinel, .sentinel, .sentinel, .sentinel, .sentinel, .sentinel, .sentinel, .sentinel, .sentinel, .sentinel, .sentinel, .sentinel, .sentinel, .sentinel, .sentinel, .sentinel], laidTests := true, laidLooks := .later }
def TrapCatchesUptoCardSaid : Prop := Claim7.holds Tryd.pinned (.plain (OpenSpec.upto trapCatchesSpec)) trapCatchesUptoCard

/-- THE SECOND FORM's CARD OF 'courierlaw2.TrapDeep'. -/
def trapDeepUptoCard : Claim7 := { stood := { row := trapDeepUptoRow, standIns := [], harness := (true, "98cacdbd58402a3d0251b7e66fa409ddaeb4b5f45635156d72a1d70c14a81c17"), looks := true }, kinds := [], alts := [], laidByText := true, laidKinds := [.sentinel, .sentinel, .sentinel, .sentinel, .sentinel, .sentinel, .sentinel, .sentinel, .sentinel, .sentinel, .sentinel, .sentinel, .sentinel, .sentinel, .sentinel, .sentinel, .sentinel, .sentinel, .sentinel], laidTests := true, laidLooks := .later }
def TrapDeepUptoCardSaid : Prop := Claim7.holds Tryd.pinned (.plain (OpenSpec.upto trapDeepSpec)) trapDeepUptoCard

/-- THE SECOND FORM's CARD OF 'courierlaw11.CodeWrites'. -/
def codeWritesUptoCard : Claim7 := { stood := { row := codeWritesUptoRow, standIns := [], harness := (true, "98cacdbd58402a3d0251b7e66fa409ddaeb4b5f45635156d72a1d70c14a81c17"), looks := true }, kinds := [], alts := [], laidByText := true, laidKinds := [.sentinel, .sentinel, .sentinel], laidTests := true, laidLooks := .later }
def CodeWritesUptoCardSaid : Prop := Claim7.holds Tryd.pinned (.plain (OpenSpec.upto codeWritesSpec)) codeWritesUptoCard

/-- THE SECOND FORM's CARD OF 'courierlaw11.CodeFalls'. -/
def codeFallsUptoCard : Claim7 := { stood := { row := codeFallsUptoRow, standIns := [], harness := (true, "98cacdbd58402a3d0251b7e66fa409ddaeb4b5f45635156d72a1d70c14a81c17"), looks := true }, kinds := [], alts := [], laidByText := true, laidKinds := [.sentinel, .sentinel, .sentinel, .sentinel, .sentinel, .sentinel, .sentinel, .sentinel, .sentinel, .sentinel, .sentinel, .sentinel, .sentinel, .sentinel, .sentinel, .sentinel, .sentinel, .sentinel, .sentinel], laidTests := true, laidLooks := .later }
def CodeFallsUptoCardSaid : Prop := Claim7.holds Tryd.pinned (.plain (OpenSpec.upto codeFallsSpec)) codeFallsUptoCard

/-- THE SECOND FORM's CARD OF 'courierlaw11.CodeBools'. -/
def codeBoolsUptoCard : Claim7 := { stood := { row := codeBoolsUptoRow, standIns := [], harness := (true, "98cacdbd58402a3d0251b7e66fa409ddaeb4b5f45635156d72a1d70c14a81c17"), looks := true }, kinds := [], alts := [], laidByText := true, laidKinds := [.sentinel, .sentinel, .sentinel, .sentinel, .sentinel, .sentinel, .sentinel, .sentinel, .sentinel, .sentinel, .sentinel, .sentinel, .sentinel, .sentinel, .sentinel, .sentinel, .sentinel, .sentinel, .sentinel], laidTests := true, laidLooks := .later }
def CodeBoolsUptoCardSaid : Prop := Claim7.holds Tryd.pinned (.plain (OpenSpec.upto codeBoolsSpec)) codeBoolsUptoCard

/-- THE SECOND FORM's CARD OF 'courierlaw11.CodeLists'. -/
def codeListsUptoCard : Claim7 := { stood := { row := codeListsUptoRow, standIns := [], harness := (true, "98cacdbd58402a3d0251b7e66fa409ddaeb4b5f45635156d72a1d70c14a81c17"), looks := true }, kinds := [], alts := [], laidByText := true, laidKinds := [.sentinel, .sentinel, .sentinel, .sentinel, .sentinel, .sentinel, .sentinel, .sentinel, .sentinel, .sentinel, .sentinel, .sentinel, .sentinel, .sentinel, .sentinel, .sentinel, .sentinel, .sentinel, .sentinel], laidTests := true, laidLooks := .later }
def CodeListsUptoCardSaid : Prop := Claim7.holds Tryd.pinned (.plain (OpenSpec.upto codeListsSpec)) codeListsUptoCard

/-- THE SECOND FORM's CARD OF 'courierlaw11.CodeBack'. -/
def codeBackUptoCard : Claim7 := { stood := { row := codeBackUptoRow, standIns := [], harness := (true, "98cacdbd58402a3d0251b7e66fa409ddaeb4b5f45635156d72a1d70c14a81c17"), looks := true }, kinds := [], alts := [], laidByText := true, laidKinds := [.sentinel, .sentinel, .sentinel, .sentinel, .sentinel, .sentinel, .sentinel, .sentinel, .sentinel, .sentinel, .sentinel, .sentinel, .sentinel, .sentinel, .sentinel, .sentinel, .sentinel, .sentinel, .sentinel], laidTests := true, laidLooks := .later }
def CodeBackUptoCardSaid : Prop := Claim7.holds Tryd.pinned (.plain (OpenSpec.upto codeBackSpec)) codeBackUptoCard

/-- THE SECOND FORM's CARD OF 'courierlaw11.CodeReads'. -/
def codeReadsUptoCard : Claim7 := { stood := { row := codeReadsUptoRow, standIns := [], harness := (true, "98cacdbd58402a3d0251b7e66fa409ddaeb4b5f45635156d72a1d70c14a81c17"), looks := true }, kinds := [], alts := [], laidByText := true, laidKinds := [.sentinel, .sentinel, .sentinel, .sentinel, .sentinel, .sentinel, .sentinel, .sentinel, .sentinel, .sentinel, .sentinel, .sentinel, .sentinel, .sentinel, .sentinel, .sentinel, .sentinel, .sentinel, .sentinel], laidTests := true, laidLooks := .later }
def CodeReadsUptoCardSaid : Prop := Claim7.holds Tryd.pinned (.plain (OpenSpec.upto codeReadsSpec)) codeReadsUptoCard

/-- THE SECOND FORM's CARD OF 'courierlaw13.HeadSays'. -/
def headSaysUptoCard : Claim7 := { stood := { row := headSaysUptoRow, standIns := [], harness := (true, "98cacdbd58402a3d0251b7e66fa409ddaeb4b5f45635156d72a1d70c14a81c17"), looks := true }, kinds := [], alts := [], laidByText := true, laidKinds := [.sentinel, .sentinel, .sentinel, .sentinel, .sentinel, .sentinel, .sentinel, .sentinel, .sentinel, .sentinel, .sentinel, .sentinel, .sentinel, .sentinel, .sentinel, .sentinel, .sentinel, .sentinel, .sentinel], laidTests := true, laidLooks := .later }
def HeadSaysUptoCardSaid : Prop := Claim7.holds Tryd.pinned (.plain (OpenSpec.upto headSaysSpec)) headSaysUptoCard

/-- THE SECOND FORM's CARD OF 'courierlaw13.HeadBack'. -/
def headBackUptoCard : Claim7 := { stood := { row := headBackUptoRow, standIns := [], harness := (true, "98cacdbd58402a3d0251b7e66fa409ddaeb4b5f45635156d72a1d70c14a81c17"), looks := true }, kinds := [], alts := [], laidByText := true, laidKinds := [.sentinel, .sentinel, .sentinel, .sentinel, .sentinel, .sentinel, .sentinel, .sentinel, .sentinel, .sentinel, .sentinel, .sentinel, .sentinel, .sentinel, .sentinel, .sentinel, .sentinel, .sentinel, .sentinel], laidTests := true, laidLooks := .later }
def HeadBackUptoCardSaid : Prop := Claim7.holds Tryd.pinned (.plain (OpenSpec.upto headBackSpec)) headBackUptoCard

/-- THE SECOND FORM's CARD OF 'courierlaw13.HeadLays'. -/
def headLaysUptoCard : Claim7 := { stood := { row := headLaysUptoRow, standIns := [], harness := (true, "98cacdbd58402a3d0251b7e66fa409ddaeb4b5f45635156d72a1d70c14a81c17"), looks := true }, kinds := [], alts := [], laidByText := true, laidKinds := [.sentinel, .sentinel, .sentinel, .sentinel, .sentinel, .sentinel, .sentinel, .sentinel, .sentinel, .sentinel, .sentinel, .sentinel, .sentinel, .sentinel, .sentinel, .sentinel, .sentinel, .sentinel, .sentinel], laidTests := true, laidLooks := .later }
def HeadLaysUptoCardSaid : Prop := Claim7.holds Tryd.pinned (.plain (OpenSpec.upto headLaysSpec)) headLaysUptoCard
end Rows
end Go.Proofs.YtdkfhfflhglmaaaDoor
