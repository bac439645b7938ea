/-
  DERIVED. GIVEN WITH THE SEED: THE PROGRAM's TIES (one call each: nine closed facts by the kernel) AND EACH ROW's TIE, after the 31st guide's Derived/Test/Toyas{Tie, Card}.lean. No idea stands in it: it is a product of the set-up. Laid BY PROGRAM, IN A SANDBOX (cutbox-door.mjs). By AI agents, Wed Nov 11 2026. No macro, syntax, notation, axiom, sorry.
-/
import Derived.Test.YtnkahfpinkgimaaDoorRows
import Derived.LaidByTextLater
import Derived.SevenTiedAt
import Derived.LaidSub
import Derived.LaidOnce
namespace Go.Proofs.YtnkahfpinkgimaaDoor
open Go
set_option maxRecDepth 100000
theorem seatTie1 : Tryd.prog.laidByTextLater [("courier/api.ErrOff", Rows.laid_courier_api_ErrOff), ("courier/api.ErrRange", Rows.laid_courier_api_ErrRange), ("courier/api.ErrShort", Rows.laid_courier_api_ErrShort), ("courier/api.ErrTrail", Rows.laid_courier_api_ErrTrail), ("courier/api.ErrForm", Rows.laid_courier_api_ErrForm), ("courier/api.ErrPanic", Rows.laid_courier_api_ErrPanic), ("courier/api.ErrFull", Rows.laid_courier_api_ErrFull), ("courier/api.ErrStore", Rows.laid_courier_api_ErrStore), ("courier/api.ErrTag", Rows.laid_courier_api_ErrTag), ("courier/api.ErrGap", Rows.laid_courier_api_ErrGap), ("courier/api.ErrOld", Rows.laid_courier_api_ErrOld), ("courier/api.ErrKey", Rows.laid_courier_api_ErrKey), ("courier/api.ErrRoot", Rows.laid_courier_api_ErrRoot), ("courier/api.ErrNone", Rows.laid_courier_api_ErrNone), ("courier/api.ErrOpen", Rows.laid_courier_api_ErrOpen), ("courier/api.ErrDigest", Rows.laid_courier_api_ErrDigest), ("courier/api.ErrState", Rows.laid_courier_api_ErrState), ("courier/api.ErrLimit", Rows.laid_courier_api_ErrLimit), ("courier/api.ErrClosed", Rows.laid_courier_api_ErrClosed)] [.sentinel, .sentinel, .sentinel, .sentinel, .sentinel, .sentinel, .sentinel, .sentinel, .sentinel, .sentinel, .sentinel, .sentinel, .sentinel, .sentinel, .sentinel, .sentinel, .sentinel, .sentinel, .sentinel] true :=
  Program.laidByTextLater_by_one 370 8 2 (by kernel_rfl) (by kernel_rfl) (by kernel_rfl) (by kernel_rfl) (by kernel_rfl) (by kernel_rfl) (fun _ _ => by kernel_rfl)
theorem noOwnUnsafe : Tryd.pinned.checked.prog.headLifts.contains "ownunsafe" = false := by kernel_rfl
theorem tie : Tryd.prog.laidByTextLater [("courier/api.ErrRange", Rows.laid_courier_api_ErrRange)] [.sentinel] true :=
  Program.laidByTextLater.sub seatTie1 ["courier/api.ErrRange"] (by kernel_rfl) (by kernel_rfl)
theorem chainRoots_row_tie : Rows.chainRootsRow.laidByTextAt .later Tryd.pinned [.sentinel] true :=
  OpenClaim.laidByTextAt_later rfl rfl tie noOwnUnsafe
theorem macVectors_row_tie : Rows.macVectorsRow.laidByTextAt .later Tryd.pinned [.sentinel] true :=
  OpenClaim.laidByTextAt_later rfl rfl tie noOwnUnsafe
theorem macPrefixes_row_tie : Rows.macPrefixesRow.laidByTextAt .later Tryd.pinned [.sentinel] true :=
  OpenClaim.laidByTextAt_later rfl rfl tie noOwnUnsafe
theorem macKeys_row_tie : Rows.macKeysRow.laidByTextAt .later Tryd.pinned [.sentinel] true :=
  OpenClaim.laidByTextAt_later rfl rfl tie noOwnUnsafe
theorem macEqual_row_tie : Rows.macEqualRow.laidByTextAt .later Tryd.pinned [.sentinel] true :=
  OpenClaim.laidByTextAt_later rfl rfl tie noOwnUnsafe
theorem macWipes_row_tie : Rows.macWipesRow.laidByTextAt .later Tryd.pinned [.sentinel] true :=
  OpenClaim.laidByTextAt_later rfl rfl tie noOwnUnsafe
theorem chainSays_row_tie : Rows.chainSaysRow.laidByTextAt .later Tryd.pinned [.sentinel] true :=
  OpenClaim.laidByTextAt_later rfl rfl tie noOwnUnsafe
theorem chainRows_row_tie : Rows.chainRowsRow.laidByTextAt .later Tryd.pinned [.sentinel] true :=
  OpenClaim.laidByTextAt_later rfl rfl tie noOwnUnsafe
theorem tie2 : Tryd.prog.laidByTextLater [("courier/api.ErrOff", Rows.laid_courier_api_ErrOff), ("courier/api.ErrRange", Rows.laid_courier_api_ErrRange), ("courier/api.ErrShort", Rows.laid_courier_api_ErrShort), ("courier/api.ErrTrail", Rows.laid_courier_api_ErrTrail), ("courier/api.ErrForm", Rows.laid_courier_api_ErrForm), ("courier/api.ErrPanic", Rows.laid_courier_api_ErrPanic), ("courier/api.ErrFull", Rows.laid_courier_api_ErrFull), ("courier/api.ErrStore", Rows.laid_courier_api_ErrStore), ("courier/api.ErrTag", Rows.laid_courier_api_ErrTag), ("courier/api.ErrGap", Rows.laid_courier_api_ErrGap), ("courier/api.ErrOld", Rows.laid_courier_api_ErrOld), ("courier/api.ErrKey", Rows.laid_courier_api_ErrKey), ("courier/api.ErrRoot", Rows.laid_courier_api_ErrRoot), ("courier/api.ErrNone", Rows.laid_courier_api_ErrNone), ("courier/api.ErrOpen", Rows.laid_courier_api_ErrOpen), ("courier/api.ErrDigest", Rows.laid_courier_api_ErrDigest), ("courier/api.ErrState", Rows.laid_courier_api_ErrState), ("courier/api.ErrLimit", Rows.laid_courier_api_ErrLimit), ("courier/api.ErrClosed", Rows.laid_courier_api_ErrClosed)] [.sentinel, .sentinel, .sentinel, .sentinel, .sentinel, .sentinel, .sentinel, .sentinel, .sentinel, .sentinel, .sentinel, .sentinel, .sentinel, .sentinel, .sentinel, .sentinel, .sentinel, .sentinel, .sentinel] true :=
  Program.laidByTextLater.sub seatTie1 ["courier/api.ErrOff", "courier/api.ErrRange", "courier/api.ErrShort", "courier/api.ErrTrail", "courier/api.ErrForm", "courier/api.ErrPanic", "courier/api.ErrFull", "courier/api.ErrStore", "courier/api.ErrTag", "courier/api.ErrGap", "courier/api.ErrOld", "courier/api.ErrKey", "courier/api.ErrRoot", "courier/api.ErrNone", "courier/api.ErrOpen", "courier/api.ErrDigest", "courier/api.ErrState", "courier/api.ErrLimit", "courier/api.ErrClosed"] (by kernel_rfl) (by kernel_rfl)
theorem macSays_row_tie : Rows.macSaysRow.laidByTextAt .later Tryd.pinned [.sentinel, .sentinel, .sentinel, .sentinel, .sentinel, .sentinel, .sentinel, .sentinel, .sentinel, .sentinel, .sentinel, .sentinel, .sentinel, .sentinel, .sentinel, .sentinel, .sentinel, .sentinel, .sentinel] true :=
  OpenClaim.laidByTextAt_later rfl rfl tie2 noOwnUnsafe
theorem chainRootsUpto_row_tie : Rows.chainRootsUptoRow.laidByTextAt .later Tryd.pinned [.sentinel] true :=
  OpenClaim.laidByTextAt_later rfl rfl tie noOwnUnsafe
theorem macSaysUpto_row_tie : Rows.macSaysUptoRow.laidByTextAt .later Tryd.pinned [.sentinel, .sentinel, .sentinel, .sentinel, .sentinel, .sentinel, .sentinel, .sentinel, .sentinel, .sentinel, .sentinel, .sentinel, .sentinel, .sentinel, .sentinel, .sentinel, .sentinel, .sentinel, .sentinel] true :=
  OpenClaim.laidByTextAt_later rfl rfl tie2 noOwnUnsafe
theorem macVectorsUpto_row_tie : Rows.macVectorsUptoRow.laidByTextAt .later Tryd.pinned [.sentinel] true :=
  OpenClaim.laidByTextAt_later rfl rfl tie noOwnUnsafe
theorem macPrefixesUpto_row_tie : Rows.macPrefixesUptoRow.laidByTextAt .later Tryd.pinned [.sentinel] true :=
  OpenClaim.laidByTextAt_later rfl rfl tie noOwnUnsafe
theorem macKeysUpto_row_tie : Rows.macKeysUptoRow.laidByTextAt .later Tryd.pinned [.sentinel] true :=
  OpenClaim.laidByTextAt_later rfl rfl tie noOwnUnsafe
theorem macEqualUpto_row_tie : Rows.macEqualUptoRow.laidByTextAt .later Tryd.pinned [.sentinel] true :=
  OpenClaim.laidByTextAt_later rfl rfl tie noOwnUnsafe
theorem macWipesUpto_row_tie : Rows.macWipesUptoRow.laidByTextAt .later Tryd.pinned [.sentinel] true :=
  OpenClaim.laidByTextAt_later rfl rfl tie noOwnUnsafe
theorem chainSaysUpto_row_tie : Rows.chainSaysUptoRow.laidByTextAt .later Tryd.pinned [.sentinel] true :=
  OpenClaim.laidByTextAt_later rfl rfl tie noOwnUnsafe
theorem chainRowsUpto_row_tie : Rows.chainRowsUptoRow.laidByTextAt .later Tryd.pinned [.sentinel] true :=
  OpenClaim.laidByTextAt_later rfl rfl tie noOwnUnsafe
end Go.Proofs.YtnkahfpinkgimaaDoor
