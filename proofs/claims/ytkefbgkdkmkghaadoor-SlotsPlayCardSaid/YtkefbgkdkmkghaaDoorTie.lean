/-
  DERIVED. GIVEN WITH THE SEED: THE PROGRAM's TIES (one call each: nine closed facts by the kernel) AND EACH ROW's TIE, after the 31st guide's Derived/Test/Toyas{Tie, Card}.lean. No idea stands in it: it is a product of the set-up. Laid BY PROGRAM, IN A SANDBOX (cutbox-door.mjs). By AI agents, Wed Nov 11 2026. No macro, syntax, notation, axiom, sorry.
-/
import Derived.Test.YtkefbgkdkmkghaaDoorRows
import Derived.LaidByTextLater
import Derived.SevenTiedAt
import Derived.LaidSub
import Derived.LaidOnce
namespace Go.Proofs.YtkefbgkdkmkghaaDoor
open Go
set_option maxRecDepth 100000
theorem seatTie1 : Tryd.prog.laidByTextLater [("courier/api.ErrOff", Rows.laid_courier_api_ErrOff), ("courier/api.ErrRange", Rows.laid_courier_api_ErrRange), ("courier/api.ErrShort", Rows.laid_courier_api_ErrShort), ("courier/api.ErrTrail", Rows.laid_courier_api_ErrTrail), ("courier/api.ErrForm", Rows.laid_courier_api_ErrForm), ("courier/api.ErrPanic", Rows.laid_courier_api_ErrPanic), ("courier/api.ErrFull", Rows.laid_courier_api_ErrFull), ("courier/api.ErrStore", Rows.laid_courier_api_ErrStore), ("courier/api.ErrTag", Rows.laid_courier_api_ErrTag), ("courier/api.ErrGap", Rows.laid_courier_api_ErrGap), ("courier/api.ErrOld", Rows.laid_courier_api_ErrOld), ("courier/api.ErrKey", Rows.laid_courier_api_ErrKey), ("courier/api.ErrRoot", Rows.laid_courier_api_ErrRoot), ("courier/api.ErrNone", Rows.laid_courier_api_ErrNone), ("courier/api.ErrOpen", Rows.laid_courier_api_ErrOpen), ("courier/api.ErrDigest", Rows.laid_courier_api_ErrDigest), ("courier/api.ErrState", Rows.laid_courier_api_ErrState), ("courier/api.ErrLimit", Rows.laid_courier_api_ErrLimit), ("courier/api.ErrClosed", Rows.laid_courier_api_ErrClosed)] [.sentinel, .sentinel, .sentinel, .sentinel, .sentinel, .sentinel, .sentinel, .sentinel, .sentinel, .sentinel, .sentinel, .sentinel, .sentinel, .sentinel, .sentinel, .sentinel, .sentinel, .sentinel, .sentinel] true :=
  Program.laidByTextLater_by_one 370 8 2 (by kernel_rfl) (by kernel_rfl) (by kernel_rfl) (by kernel_rfl) (by kernel_rfl) (by kernel_rfl) (fun _ _ => by kernel_rfl)
theorem noOwnUnsafe : Tryd.pinned.checked.prog.headLifts.contains "ownunsafe" = false := by kernel_rfl
theorem tie : Tryd.prog.laidByTextLater [("courier/api.ErrOff", Rows.laid_courier_api_ErrOff), ("courier/api.ErrRange", Rows.laid_courier_api_ErrRange), ("courier/api.ErrShort", Rows.laid_courier_api_ErrShort), ("courier/api.ErrTrail", Rows.laid_courier_api_ErrTrail), ("courier/api.ErrForm", Rows.laid_courier_api_ErrForm), ("courier/api.ErrPanic", Rows.laid_courier_api_ErrPanic), ("courier/api.ErrFull", Rows.laid_courier_api_ErrFull), ("courier/api.ErrStore", Rows.laid_courier_api_ErrStore), ("courier/api.ErrTag", Rows.laid_courier_api_ErrTag), ("courier/api.ErrGap", Rows.laid_courier_api_ErrGap), ("courier/api.ErrOld", Rows.laid_courier_api_ErrOld), ("courier/api.ErrKey", Rows.laid_courier_api_ErrKey), ("courier/api.ErrRoot", Rows.laid_courier_api_ErrRoot), ("courier/api.ErrNone", Rows.laid_courier_api_ErrNone), ("courier/api.ErrOpen", Rows.laid_courier_api_ErrOpen), ("courier/api.ErrDigest", Rows.laid_courier_api_ErrDigest), ("courier/api.ErrState", Rows.laid_courier_api_ErrState), ("courier/api.ErrLimit", Rows.laid_courier_api_ErrLimit), ("courier/api.ErrClosed", Rows.laid_courier_api_ErrClosed)] [.sentinel, .sentinel, .sentinel, .sentinel, .sentinel, .sentinel, .sentinel, .sentinel, .sentinel, .sentinel, .sentinel, .sentinel, .sentinel, .sentinel, .sentinel, .sentinel, .sentinel, .sentinel, .sentinel] true :=
  Program.laidByTextLater.sub seatTie1 ["courier/api.ErrOff", "courier/api.ErrRange", "courier/api.ErrShort", "courier/api.ErrTrail", "courier/api.ErrForm", "courier/api.ErrPanic", "courier/api.ErrFull", "courier/api.ErrStore", "courier/api.ErrTag", "courier/api.ErrGap", "courier/api.ErrOld", "courier/api.ErrKey", "courier/api.ErrRoot", "courier/api.ErrNone", "courier/api.ErrOpen", "courier/api.ErrDigest", "courier/api.ErrState", "courier/api.ErrLimit", "courier/api.ErrClosed"] (by kernel_rfl) (by kernel_rfl)
theorem diskOwn_row_tie : Rows.diskOwnRow.laidByTextAt .later Tryd.pinned [.sentinel, .sentinel, .sentinel, .sentinel, .sentinel, .sentinel, .sentinel, .sentinel, .sentinel, .sentinel, .sentinel, .sentinel, .sentinel, .sentinel, .sentinel, .sentinel, .sentinel, .sentinel, .sentinel] true :=
  OpenClaim.laidByTextAt_later rfl rfl tie noOwnUnsafe
theorem diskPlays_row_tie : Rows.diskPlaysRow.laidByTextAt .later Tryd.pinned [.sentinel, .sentinel, .sentinel, .sentinel, .sentinel, .sentinel, .sentinel, .sentinel, .sentinel, .sentinel, .sentinel, .sentinel, .sentinel, .sentinel, .sentinel, .sentinel, .sentinel, .sentinel, .sentinel] true :=
  OpenClaim.laidByTextAt_later rfl rfl tie noOwnUnsafe
theorem diskFuses_row_tie : Rows.diskFusesRow.laidByTextAt .later Tryd.pinned [.sentinel, .sentinel, .sentinel, .sentinel, .sentinel, .sentinel, .sentinel, .sentinel, .sentinel, .sentinel, .sentinel, .sentinel, .sentinel, .sentinel, .sentinel, .sentinel, .sentinel, .sentinel, .sentinel] true :=
  OpenClaim.laidByTextAt_later rfl rfl tie noOwnUnsafe
theorem slotsHeads_row_tie : Rows.slotsHeadsRow.laidByTextAt .later Tryd.pinned [.sentinel, .sentinel, .sentinel, .sentinel, .sentinel, .sentinel, .sentinel, .sentinel, .sentinel, .sentinel, .sentinel, .sentinel, .sentinel, .sentinel, .sentinel, .sentinel, .sentinel, .sentinel, .sentinel] true :=
  OpenClaim.laidByTextAt_later rfl rfl tie noOwnUnsafe
theorem slotsRoom_row_tie : Rows.slotsRoomRow.laidByTextAt .later Tryd.pinned [.sentinel, .sentinel, .sentinel, .sentinel, .sentinel, .sentinel, .sentinel, .sentinel, .sentinel, .sentinel, .sentinel, .sentinel, .sentinel, .sentinel, .sentinel, .sentinel, .sentinel, .sentinel, .sentinel] true :=
  OpenClaim.laidByTextAt_later rfl rfl tie noOwnUnsafe
theorem slotsWhole_row_tie : Rows.slotsWholeRow.laidByTextAt .later Tryd.pinned [.sentinel, .sentinel, .sentinel, .sentinel, .sentinel, .sentinel, .sentinel, .sentinel, .sentinel, .sentinel, .sentinel, .sentinel, .sentinel, .sentinel, .sentinel, .sentinel, .sentinel, .sentinel, .sentinel] true :=
  OpenClaim.laidByTextAt_later rfl rfl tie noOwnUnsafe
theorem slotsPlay_row_tie : Rows.slotsPlayRow.laidByTextAt .later Tryd.pinned [.sentinel, .sentinel, .sentinel, .sentinel, .sentinel, .sentinel, .sentinel, .sentinel, .sentinel, .sentinel, .sentinel, .sentinel, .sentinel, .sentinel, .sentinel, .sentinel, .sentinel, .sentinel, .sentinel] true :=
  OpenClaim.laidByTextAt_later rfl rfl tie noOwnUnsafe
theorem tie2 : Tryd.prog.laidByTextLater [("courier/api.ErrOff", Rows.laid_courier_api_ErrOff), ("courier/api.ErrRange", Rows.laid_courier_api_ErrRange)] [.sentinel, .sentinel] true :=
  Program.laidByTextLater.sub seatTie1 ["courier/api.ErrOff", "courier/api.ErrRange"] (by kernel_rfl) (by kernel_rfl)
theorem diskKeeps_row_tie : Rows.diskKeepsRow.laidByTextAt .later Tryd.pinned [.sentinel, .sentinel] true :=
  OpenClaim.laidByTextAt_later rfl rfl tie2 noOwnUnsafe
theorem tie3 : Tryd.prog.laidByTextLater [("courier/api.ErrOff", Rows.laid_courier_api_ErrOff), ("courier/api.ErrRange", Rows.laid_courier_api_ErrRange), ("courier/api.ErrFull", Rows.laid_courier_api_ErrFull), ("courier/api.ErrStore", Rows.laid_courier_api_ErrStore)] [.sentinel, .sentinel, .sentinel, .sentinel] true :=
  Program.laidByTextLater.sub seatTie1 ["courier/api.ErrOff", "courier/api.ErrRange", "courier/api.ErrFull", "courier/api.ErrStore"] (by kernel_rfl) (by kernel_rfl)
theorem slotsScrub_row_tie : Rows.slotsScrubRow.laidByTextAt .later Tryd.pinned [.sentinel, .sentinel, .sentinel, .sentinel] true :=
  OpenClaim.laidByTextAt_later rfl rfl tie3 noOwnUnsafe
theorem slotsForget_row_tie : Rows.slotsForgetRow.laidByTextAt .later Tryd.pinned [.sentinel, .sentinel, .sentinel, .sentinel] true :=
  OpenClaim.laidByTextAt_later rfl rfl tie3 noOwnUnsafe
theorem diskOwnUpto_row_tie : Rows.diskOwnUptoRow.laidByTextAt .later Tryd.pinned [.sentinel, .sentinel, .sentinel, .sentinel, .sentinel, .sentinel, .sentinel, .sentinel, .sentinel, .sentinel, .sentinel, .sentinel, .sentinel, .sentinel, .sentinel, .sentinel, .sentinel, .sentinel, .sentinel] true :=
  OpenClaim.laidByTextAt_later rfl rfl tie noOwnUnsafe
theorem diskKeepsUpto_row_tie : Rows.diskKeepsUptoRow.laidByTextAt .later Tryd.pinned [.sentinel, .sentinel] true :=
  OpenClaim.laidByTextAt_later rfl rfl tie2 noOwnUnsafe
theorem diskPlaysUpto_row_tie : Rows.diskPlaysUptoRow.laidByTextAt .later Tryd.pinned [.sentinel, .sentinel, .sentinel, .sentinel, .sentinel, .sentinel, .sentinel, .sentinel, .sentinel, .sentinel, .sentinel, .sentinel, .sentinel, .sentinel, .sentinel, .sentinel, .sentinel, .sentinel, .sentinel] true :=
  OpenClaim.laidByTextAt_later rfl rfl tie noOwnUnsafe
theorem diskFusesUpto_row_tie : Rows.diskFusesUptoRow.laidByTextAt .later Tryd.pinned [.sentinel, .sentinel, .sentinel, .sentinel, .sentinel, .sentinel, .sentinel, .sentinel, .sentinel, .sentinel, .sentinel, .sentinel, .sentinel, .sentinel, .sentinel, .sentinel, .sentinel, .sentinel, .sentinel] true :=
  OpenClaim.laidByTextAt_later rfl rfl tie noOwnUnsafe
theorem slotsHeadsUpto_row_tie : Rows.slotsHeadsUptoRow.laidByTextAt .later Tryd.pinned [.sentinel, .sentinel, .sentinel, .sentinel, .sentinel, .sentinel, .sentinel, .sentinel, .sentinel, .sentinel, .sentinel, .sentinel, .sentinel, .sentinel, .sentinel, .sentinel, .sentinel, .sentinel, .sentinel] true :=
  OpenClaim.laidByTextAt_later rfl rfl tie noOwnUnsafe
theorem slotsRoomUpto_row_tie : Rows.slotsRoomUptoRow.laidByTextAt .later Tryd.pinned [.sentinel, .sentinel, .sentinel, .sentinel, .sentinel, .sentinel, .sentinel, .sentinel, .sentinel, .sentinel, .sentinel, .sentinel, .sentinel, .sentinel, .sentinel, .sentinel, .sentinel, .sentinel, .sentinel] true :=
  OpenClaim.laidByTextAt_later rfl rfl tie noOwnUnsafe
theorem slotsScrubUpto_row_tie : Rows.slotsScrubUptoRow.laidByTextAt .later Tryd.pinned [.sentinel, .sentinel, .sentinel, .sentinel] true :=
  OpenClaim.laidByTextAt_later rfl rfl tie3 noOwnUnsafe
theorem slotsWholeUpto_row_tie : Rows.slotsWholeUptoRow.laidByTextAt .later Tryd.pinned [.sentinel, .sentinel, .sentinel, .sentinel, .sentinel, .sentinel, .sentinel, .sentinel, .sentinel, .sentinel, .sentinel, .sentinel, .sentinel, .sentinel, .sentinel, .sentinel, .sentinel, .sentinel, .sentinel] true :=
  OpenClaim.laidByTextAt_later rfl rfl tie noOwnUnsafe
theorem slotsForgetUpto_row_tie : Rows.slotsForgetUptoRow.laidByTextAt .later Tryd.pinned [.sentinel, .sentinel, .sentinel, .sentinel] true :=
  OpenClaim.laidByTextAt_later rfl rfl tie3 noOwnUnsafe
theorem slotsPlayUpto_row_tie : Rows.slotsPlayUptoRow.laidByTextAt .later Tryd.pinned [.sentinel, .sentinel, .sentinel, .sentinel, .sentinel, .sentinel, .sentinel, .sentinel, .sentinel, .sentinel, .sentinel, .sentinel, .sentinel, .sentinel, .sentinel, .sentinel, .sentinel, .sentinel, .sentinel] true :=
  OpenClaim.laidByTextAt_later rfl rfl tie noOwnUnsafe
end Go.Proofs.YtkefbgkdkmkghaaDoor
