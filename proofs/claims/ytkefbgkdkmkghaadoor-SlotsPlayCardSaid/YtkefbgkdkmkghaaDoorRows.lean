/-
  NARROWER THAN 'FOR EVERY INPUT', by the rows' own cells (each row's printed sentence says how): DiskOwn: laid · DiskKeeps: laid · DiskPlays: laid · DiskFuses: laid · SlotsHeads: laid · SlotsRoom: laid · SlotsScrub: laid · SlotsWhole: laid · SlotsForget: laid · SlotsPlay: laid.
  DERIVED. THE GIVEN ROWS OF THIS SEAT. 10 by the template 'for every input the law returns true; each argument reads behind the call as it read before'; 0 by the template 'total and deterministic' (their statements: YtkefbgkdkmkghaaDoorTotals.lean).
  GIVEN WITH THE SEED: the statements are not yours to turn. If you find one false, say at which input.
  Laid BY PROGRAM, IN A SANDBOX (cutbox-rows.mjs): the forced cells as the released guide's own fill.sh prints them over the translation 02be5f2eb0d34d39… (all of the seat's roots in one cut). By AI agents, Wed Nov 11 2026. No macro, syntax, notation, axiom, sorry.
-/
import Derived.Test.YtkefbgkdkmkghaaDoorChecked
import GoSem.Claim
import GoSem.ClaimJoined
import GoSem.ClaimMapViews
import Derived.JoinedTies
import Derived.KernelRfl
namespace Go.Proofs.YtkefbgkdkmkghaaDoor
/- THE CELL 'sum', in the pinned program and in every row, IS THE sha256 OF THE DUMP (.gsa) THAT YtkefbgkdkmkghaaDoorProg.lean LOADS. Nothing in Lean hashes anything: it is a label: what it is worth is what the hold of that sum in a sandbox is worth. -/
noncomputable def Tryd.pinned : Pinned := { name := "ytkefbgkdkmkghaadoor", sum := "02be5f2eb0d34d39d31756c6efd479bec8eea7b52d150b53b6d3039a87afec91", checked := Tryd.checked }
namespace Rows
def none {H : Type} : Left H := { results := [], args := [] }

/- WHAT THE LISTED PACKAGE-LEVEL VARIABLES READ AS WHEN THE CALL BEGINS. Each datum BY PROGRAM (the guide's laid-datum.mjs) off the statement by which the dump's own 'gosem.cut.vars' lays the variable. In a bare row this is a premise. The card (YtkefbgkdkmkghaaDoorCards.lean) ties it to the program's text. -/
def laid_courier_api_ErrOff {H : Type} : DataW H := .iface "*errors.errorString" (.ptr (.agg [.lit (.string [116, 104, 101, 114, 101, 32, 105, 115, 32, 110, 111, 32, 112, 111, 119, 101, 114])]))
def laid_courier_api_ErrRange {H : Type} : DataW H := .iface "*errors.errorString" (.ptr (.agg [.lit (.string [97, 32, 110, 117, 109, 98, 101, 114, 32, 111, 117, 116, 32, 111, 102, 32, 105, 116, 115, 32, 114, 97, 110, 103, 101])]))
def laid_courier_api_ErrShort {H : Type} : DataW H := .iface "*errors.errorString" (.ptr (.agg [.lit (.string [98, 121, 116, 101, 115, 32, 116, 104, 97, 116, 32, 101, 110, 100, 32, 116, 111, 111, 32, 101, 97, 114, 108, 121])]))
def laid_courier_api_ErrTrail {H : Type} : DataW H := .iface "*errors.errorString" (.ptr (.agg [.lit (.string [98, 121, 116, 101, 115, 32, 98, 101, 104, 105, 110, 100, 32, 116, 104, 101, 32, 101, 110, 100])]))
def laid_courier_api_ErrForm {H : Type} : DataW H := .iface "*errors.errorString" (.ptr (.agg [.lit (.string [110, 111, 116, 32, 97, 115, 32, 105, 116, 32, 115, 104, 111, 117, 108, 100, 32, 98, 101])]))
def laid_courier_api_ErrPanic {H : Type} : DataW H := .iface "*errors.errorString" (.ptr (.agg [.lit (.string [115, 111, 109, 101, 116, 104, 105, 110, 103, 32, 119, 101, 110, 116, 32, 119, 114, 111, 110, 103])]))
def laid_courier_api_ErrFull {H : Type} : DataW H := .iface "*errors.errorString" (.ptr (.agg [.lit (.string [116, 104, 101, 114, 101, 32, 105, 115, 32, 110, 111, 32, 114, 111, 111, 109])]))
def laid_courier_api_ErrStore {H : Type} : DataW H := .iface "*errors.errorString" (.ptr (.agg [.lit (.string [97, 32, 115, 116, 111, 114, 101, 32, 116, 104, 97, 116, 32, 99, 97, 110, 39, 116, 32, 98, 101])]))
def laid_courier_api_ErrTag {H : Type} : DataW H := .iface "*errors.errorString" (.ptr (.agg [.lit (.string [110, 111, 116, 32, 115, 101, 97, 108, 101, 100, 32, 98, 121, 32, 116, 104, 97, 116, 32, 107, 101, 121])]))
def laid_courier_api_ErrGap {H : Type} : DataW H := .iface "*errors.errorString" (.ptr (.agg [.lit (.string [116, 111, 111, 32, 109, 97, 110, 121, 32, 97, 114, 101, 32, 109, 105, 115, 115, 105, 110, 103])]))
def laid_courier_api_ErrOld {H : Type} : DataW H := .iface "*errors.errorString" (.ptr (.agg [.lit (.string [116, 104, 97, 116, 32, 119, 97, 115, 32, 116, 104, 101, 114, 101, 32, 97, 108, 114, 101, 97, 100, 121])]))
def laid_courier_api_ErrKey {H : Type} : DataW H := .iface "*errors.errorString" (.ptr (.agg [.lit (.string [110, 111, 32, 107, 101, 121, 32, 121, 101, 116])]))
def laid_courier_api_ErrRoot {H : Type} : DataW H := .iface "*errors.errorString" (.ptr (.agg [.lit (.string [97, 110, 111, 116, 104, 101, 114, 32, 114, 111, 111, 116])]))
def laid_courier_api_ErrNone {H : Type} : DataW H := .iface "*errors.errorString" (.ptr (.agg [.lit (.string [116, 104, 101, 114, 101, 32, 105, 115, 32, 110, 111, 110, 101])]))
def laid_courier_api_ErrOpen {H : Type} : DataW H := .iface "*errors.errorString" (.ptr (.agg [.lit (.string [105, 116, 32, 105, 115, 32, 116, 104, 101, 114, 101, 32, 97, 108, 114, 101, 97, 100, 121])]))
def laid_courier_api_ErrDigest {H : Type} : DataW H := .iface "*errors.errorString" (.ptr (.agg [.lit (.string [97, 110, 111, 116, 104, 101, 114, 32, 100, 105, 103, 101, 115, 116])]))
def laid_courier_api_ErrState {H : Type} : DataW H := .iface "*errors.errorString" (.ptr (.agg [.lit (.string [110, 111, 116, 32, 110, 111, 119])]))
def laid_courier_api_ErrLimit {H : Type} : DataW H := .iface "*errors.errorString" (.ptr (.agg [.lit (.string [109, 111, 114, 101, 32, 116, 104, 97, 110, 32, 109, 97, 121, 32, 98, 101])]))
def laid_courier_api_ErrClosed {H : Type} : DataW H := .iface "*errors.errorString" (.ptr (.agg [.lit (.string [99, 108, 111, 115, 101, 100])]))

/-- 'courierlaw9.DiskOwn': WHATEVER THE INPUT: true; the input reads as it did. -/
def diskOwnSpec : ChangeSpec := { name := "diskOwn", fn := fun _ => fun
  | [d1, d2] => { results := [.lit (.bool true)], args := [d1, d2] }
  | _ => none }
def diskOwnRow : OpenClaim := { program := "ytkefbgkdkmkghaadoor", sum := "02be5f2eb0d34d39d31756c6efd479bec8eea7b52d150b53b6d3039a87afec91", func := "courier/courierlaw9.DiskOwn", spec := "diskOwn", named := ["courier/api.ErrOff", "courier/api.ErrRange", "courier/api.ErrShort", "courier/api.ErrTrail", "courier/api.ErrForm", "courier/api.ErrPanic", "courier/api.ErrFull", "courier/api.ErrStore", "courier/api.ErrTag", "courier/api.ErrGap", "courier/api.ErrOld", "courier/api.ErrKey", "courier/api.ErrRoot", "courier/api.ErrNone", "courier/api.ErrOpen", "courier/api.ErrDigest", "courier/api.ErrState", "courier/api.ErrLimit", "courier/api.ErrClosed"], apart := false, laid := [("courier/api.ErrOff", laid_courier_api_ErrOff), ("courier/api.ErrRange", laid_courier_api_ErrRange), ("courier/api.ErrShort", laid_courier_api_ErrShort), ("courier/api.ErrTrail", laid_courier_api_ErrTrail), ("courier/api.ErrForm", laid_courier_api_ErrForm), ("courier/api.ErrPanic", laid_courier_api_ErrPanic), ("courier/api.ErrFull", laid_courier_api_ErrFull), ("courier/api.ErrStore", laid_courier_api_ErrStore), ("courier/api.ErrTag", laid_courier_api_ErrTag), ("courier/api.ErrGap", laid_courier_api_ErrGap), ("courier/api.ErrOld", laid_courier_api_ErrOld), ("courier/api.ErrKey", laid_courier_api_ErrKey), ("courier/api.ErrRoot", laid_courier_api_ErrRoot), ("courier/api.ErrNone", laid_courier_api_ErrNone), ("courier/api.ErrOpen", laid_courier_api_ErrOpen), ("courier/api.ErrDigest", laid_courier_api_ErrDigest), ("courier/api.ErrState", laid_courier_api_ErrState), ("courier/api.ErrLimit", laid_courier_api_ErrLimit), ("courier/api.ErrClosed", laid_courier_api_ErrClosed)] }
def DiskOwnSaid : Prop := diskOwnRow.holds Tryd.pinned (OpenSpec.ofChange diskOwnSpec)

/-- ITS FALSE NEIGHBOUR: 'it returns false'. Refute it at one input. -/
def diskOwnWrong : ChangeSpec := { name := "diskOwn", fn := fun _ => fun
  | [d1, d2] => { results := [.lit (.bool false)], args := [d1, d2] }
  | _ => none }
def DiskOwnWrongFalsely : Prop := diskOwnRow.holds Tryd.pinned (OpenSpec.ofChange diskOwnWrong)

/-- 'courierlaw9.DiskKeeps': WHATEVER THE INPUT: true; the input reads as it did. -/
def diskKeepsSpec : ChangeSpec := { name := "diskKeeps", fn := fun _ => fun
  | [d1, d2, d3] => { results := [.lit (.bool true)], args := [d1, d2, d3] }
  | _ => none }
def diskKeepsRow : OpenClaim := { program := "ytkefbgkdkmkghaadoor", sum := "02be5f2eb0d34d39d31756c6efd479bec8eea7b52d150b53b6d3039a87afec91", func := "courier/courierlaw9.DiskKeeps", spec := "diskKeeps", named := ["courier/api.ErrOff", "courier/api.ErrRange"], apart := false, laid := [("courier/api.ErrOff", laid_courier_api_ErrOff), ("courier/api.ErrRange", laid_courier_api_ErrRange)] }
def DiskKeepsSaid : Prop := diskKeepsRow.holds Tryd.pinned (OpenSpec.ofChange diskKeepsSpec)

/-- ITS FALSE NEIGHBOUR: 'it returns false'. Refute it at one input. -/
def diskKeepsWrong : ChangeSpec := { name := "diskKeeps", fn := fun _ => fun
  | [d1, d2, d3] => { results := [.lit (.bool false)], args := [d1, d2, d3] }
  | _ => none }
def DiskKeepsWrongFalsely : Prop := diskKeepsRow.holds Tryd.pinned (OpenSpec.ofChange diskKeepsWrong)

/-- 'courierlaw9.DiskPlays': WHATEVER THE INPUT: true; the input reads as it did. -/
def diskPlaysSpec : ChangeSpec := { name := "diskPlays", fn := fun _ => fun
  | [d1, d2] => { results := [.lit (.bool true)], args := [d1, d2] }
  | _ => none }
def diskPlaysRow : OpenClaim := { program := "ytkefbgkdkmkghaadoor", sum := "02be5f2eb0d34d39d31756c6efd479bec8eea7b52d150b53b6d3039a87afec91", func := "courier/courierlaw9.DiskPlays", spec := "diskPlays", named := ["courier/api.ErrOff", "courier/api.ErrRange", "courier/api.ErrShort", "courier/api.ErrTrail", "courier/api.ErrForm", "courier/api.ErrPanic", "courier/api.ErrFull", "courier/api.ErrStore", "courier/api.ErrTag", "courier/api.ErrGap", "courier/api.ErrOld", "courier/api.ErrKey", "courier/api.ErrRoot", "courier/api.ErrNone", "courier/api.ErrOpen", "courier/api.ErrDigest", "courier/api.ErrState", "courier/api.ErrLimit", "courier/api.ErrClosed"], apart := false, laid := [("courier/api.ErrOff", laid_courier_api_ErrOff), ("courier/api.ErrRange", laid_courier_api_ErrRange), ("courier/api.ErrShort", laid_courier_api_ErrShort), ("courier/api.ErrTrail", laid_courier_api_ErrTrail), ("courier/api.ErrForm", laid_courier_api_ErrForm), ("courier/api.ErrPanic", laid_courier_api_ErrPanic), ("courier/api.ErrFull", laid_courier_api_ErrFull), ("courier/api.ErrStore", laid_courier_api_ErrStore), ("courier/api.ErrTag", laid_courier_api_ErrTag), ("courier/api.ErrGap", laid_courier_api_ErrGap), ("courier/api.ErrOld", laid_courier_api_ErrOld), ("courier/api.ErrKey", laid_courier_api_ErrKey), ("courier/api.ErrRoot", laid_courier_api_ErrRoot), ("courier/api.ErrNone", laid_courier_api_ErrNone), ("courier/api.ErrOpen", laid_courier_api_ErrOpen), ("courier/api.ErrDigest", laid_courier_api_ErrDigest), ("courier/api.ErrState", laid_courier_api_ErrState), ("courier/api.ErrLimit", laid_courier_api_ErrLimit), ("courier/api.ErrClosed", laid_courier_api_ErrClosed)] }
def DiskPlaysSaid : Prop := diskPlaysRow.holds Tryd.pinned (OpenSpec.ofChange diskPlaysSpec)

/-- ITS FALSE NEIGHBOUR: 'it returns false'. Refute it at one input. -/
def diskPlaysWrong : ChangeSpec := { name := "diskPlays", fn := fun _ => fun
  | [d1, d2] => { results := [.lit (.bool false)], args := [d1, d2] }
  | _ => none }
def DiskPlaysWrongFalsely : Prop := diskPlaysRow.holds Tryd.pinned (OpenSpec.ofChange diskPlaysWrong)

/-- 'courierlaw9.DiskFuses': WHATEVER THE INPUT: true; the input reads as it did. -/
def diskFusesSpec : ChangeSpec := { name := "diskFuses", fn := fun _ => fun
  | [d1, d2, d3] => { results := [.lit (.bool true)], args := [d1, d2, d3] }
  | _ => none }
def diskFusesRow : OpenClaim := { program := "ytkefbgkdkmkghaadoor", sum := "02be5f2eb0d34d39d31756c6efd479bec8eea7b52d150b53b6d3039a87afec91", func := "courier/courierlaw9.DiskFuses", spec := "diskFuses", named := ["courier/api.ErrOff", "courier/api.ErrRange", "courier/api.ErrShort", "courier/api.ErrTrail", "courier/api.ErrForm", "courier/api.ErrPanic", "courier/api.ErrFull", "courier/api.ErrStore", "courier/api.ErrTag", "courier/api.ErrGap", "courier/api.ErrOld", "courier/api.ErrKey", "courier/api.ErrRoot", "courier/api.ErrNone", "courier/api.ErrOpen", "courier/api.ErrDigest", "courier/api.ErrState", "courier/api.ErrLimit", "courier/api.ErrClosed"], apart := false, laid := [("courier/api.ErrOff", laid_courier_api_ErrOff), ("courier/api.ErrRange", laid_courier_api_ErrRange), ("courier/api.ErrShort", laid_courier_api_ErrShort), ("courier/api.ErrTrail", laid_courier_api_ErrTrail), ("courier/api.ErrForm", laid_courier_api_ErrForm), ("courier/api.ErrPanic", laid_courier_api_ErrPanic), ("courier/api.ErrFull", laid_courier_api_ErrFull), ("courier/api.ErrStore", laid_courier_api_ErrStore), ("courier/api.ErrTag", laid_courier_api_ErrTag), ("courier/api.ErrGap", laid_courier_api_ErrGap), ("courier/api.ErrOld", laid_courier_api_ErrOld), ("courier/api.ErrKey", laid_courier_api_ErrKey), ("courier/api.ErrRoot", laid_courier_api_ErrRoot), ("courier/api.ErrNone", laid_courier_api_ErrNone), ("courier/api.ErrOpen", laid_courier_api_ErrOpen), ("courier/api.ErrDigest", laid_courier_api_ErrDigest), ("courier/api.ErrState", laid_courier_api_ErrState), ("courier/api.ErrLimit", laid_courier_api_ErrLimit), ("courier/api.ErrClosed", laid_courier_api_ErrClosed)] }
def DiskFusesSaid : Prop := diskFusesRow.holds Tryd.pinned (OpenSpec.ofChange diskFusesSpec)

/-- ITS FALSE NEIGHBOUR: 'it returns false'. Refute it at one input. -/
def diskFusesWrong : ChangeSpec := { name := "diskFuses", fn := fun _ => fun
  | [d1, d2, d3] => { results := [.lit (.bool false)], args := [d1, d2, d3] }
  | _ => none }
def DiskFusesWrongFalsely : Prop := diskFusesRow.holds Tryd.pinned (OpenSpec.ofChange diskFusesWrong)

/-- 'courierlaw10.SlotsHeads': WHATEVER THE INPUT: true; the input reads as it did. -/
def slotsHeadsSpec : ChangeSpec := { name := "slotsHeads", fn := fun _ => fun
  | [d1, d2] => { results := [.lit (.bool true)], args := [d1, d2] }
  | _ => none }
def slotsHeadsRow : OpenClaim := { program := "ytkefbgkdkmkghaadoor", sum := "02be5f2eb0d34d39d31756c6efd479bec8eea7b52d150b53b6d3039a87afec91", func := "courier/courierlaw10.SlotsHeads", spec := "slotsHeads", named := ["courier/api.ErrStore", "courier/api.ErrOff", "courier/api.ErrRange", "courier/api.ErrFull", "courier/api.ErrShort", "courier/api.ErrTrail", "courier/api.ErrForm", "courier/api.ErrPanic", "courier/api.ErrTag", "courier/api.ErrGap", "courier/api.ErrOld", "courier/api.ErrKey", "courier/api.ErrRoot", "courier/api.ErrNone", "courier/api.ErrOpen", "courier/api.ErrDigest", "courier/api.ErrState", "courier/api.ErrLimit", "courier/api.ErrClosed"], apart := false, laid := [("courier/api.ErrOff", laid_courier_api_ErrOff), ("courier/api.ErrRange", laid_courier_api_ErrRange), ("courier/api.ErrShort", laid_courier_api_ErrShort), ("courier/api.ErrTrail", laid_courier_api_ErrTrail), ("courier/api.ErrForm", laid_courier_api_ErrForm), ("courier/api.ErrPanic", laid_courier_api_ErrPanic), ("courier/api.ErrFull", laid_courier_api_ErrFull), ("courier/api.ErrStore", laid_courier_api_ErrStore), ("courier/api.ErrTag", laid_courier_api_ErrTag), ("courier/api.ErrGap", laid_courier_api_ErrGap), ("courier/api.ErrOld", laid_courier_api_ErrOld), ("courier/api.ErrKey", laid_courier_api_ErrKey), ("courier/api.ErrRoot", laid_courier_api_ErrRoot), ("courier/api.ErrNone", laid_courier_api_ErrNone), ("courier/api.ErrOpen", laid_courier_api_ErrOpen), ("courier/api.ErrDigest", laid_courier_api_ErrDigest), ("courier/api.ErrState", laid_courier_api_ErrState), ("courier/api.ErrLimit", laid_courier_api_ErrLimit), ("courier/api.ErrClosed", laid_courier_api_ErrClosed)] }
def SlotsHeadsSaid : Prop := slotsHeadsRow.holds Tryd.pinned (OpenSpec.ofChange slotsHeadsSpec)

/-- ITS FALSE NEIGHBOUR: 'it returns false'. Refute it at one input. -/
def slotsHeadsWrong : ChangeSpec := { name := "slotsHeads", fn := fun _ => fun
  | [d1, d2] => { results := [.lit (.bool false)], args := [d1, d2] }
  | _ => none }
def SlotsHeadsWrongFalsely : Prop := slotsHeadsRow.holds Tryd.pinned (OpenSpec.ofChange slotsHeadsWrong)

/-- 'courierlaw10.SlotsRoom': WHATEVER THE INPUT: true; the input reads as it did. -/
def slotsRoomSpec : ChangeSpec := { name := "slotsRoom", fn := fun _ => fun
  | [d1, d2] => { results := [.lit (.bool true)], args := [d1, d2] }
  | _ => none }
def slotsRoomRow : OpenClaim := { program := "ytkefbgkdkmkghaadoor", sum := "02be5f2eb0d34d39d31756c6efd479bec8eea7b52d150b53b6d3039a87afec91", func := "courier/courierlaw10.SlotsRoom", spec := "slotsRoom", named := ["courier/api.ErrStore", "courier/api.ErrOff", "courier/api.ErrRange", "courier/api.ErrFull", "courier/api.ErrShort", "courier/api.ErrTrail", "courier/api.ErrForm", "courier/api.ErrPanic", "courier/api.ErrTag", "courier/api.ErrGap", "courier/api.ErrOld", "courier/api.ErrKey", "courier/api.ErrRoot", "courier/api.ErrNone", "courier/api.ErrOpen", "courier/api.ErrDigest", "courier/api.ErrState", "courier/api.ErrLimit", "courier/api.ErrClosed"], apart := false, laid := [("courier/api.ErrOff", laid_courier_api_ErrOff), ("courier/api.ErrRange", laid_courier_api_ErrRange), ("courier/api.ErrShort", laid_courier_api_ErrShort), ("courier/api.ErrTrail", laid_courier_api_ErrTrail), ("courier/api.ErrForm", laid_courier_api_ErrForm), ("courier/api.ErrPanic", laid_courier_api_ErrPanic), ("courier/api.ErrFull", laid_courier_api_ErrFull), ("courier/api.ErrStore", laid_courier_api_ErrStore), ("courier/api.ErrTag", laid_courier_api_ErrTag), ("courier/api.ErrGap", laid_courier_api_ErrGap), ("courier/api.ErrOld", laid_courier_api_ErrOld), ("courier/api.ErrKey", laid_courier_api_ErrKey), ("courier/api.ErrRoot", laid_courier_api_ErrRoot), ("courier/api.ErrNone", laid_courier_api_ErrNone), ("courier/api.ErrOpen", laid_courier_api_ErrOpen), ("courier/api.ErrDigest", laid_courier_api_ErrDigest), ("courier/api.ErrState", laid_courier_api_ErrState), ("courier/api.ErrLimit", laid_courier_api_ErrLimit), ("courier/api.ErrClosed", laid_courier_api_ErrClosed)] }
def SlotsRoomSaid : Prop := slotsRoomRow.holds Tryd.pinned (OpenSpec.ofChange slotsRoomSpec)

/-- ITS FALSE NEIGHBOUR: 'it returns false'. Refute it at one input. -/
def slotsRoomWrong : ChangeSpec := { name := "slotsRoom", fn := fun _ => fun
  | [d1, d2] => { results := [.lit (.bool false)], args := [d1, d2] }
  | _ => none }
def SlotsRoomWrongFalsely : Prop := slotsRoomRow.holds Tryd.pinned (OpenSpec.ofChange slotsRoomWrong)

/-- 'courierlaw10.SlotsScrub': WHATEVER THE INPUT: true; the input reads as it did. -/
def slotsScrubSpec : ChangeSpec := { name := "slotsScrub", fn := fun _ => fun
  | [d1, d2] => { results := [.lit (.bool true)], args := [d1, d2] }
  | _ => none }
def slotsScrubRow : OpenClaim := { program := "ytkefbgkdkmkghaadoor", sum := "02be5f2eb0d34d39d31756c6efd479bec8eea7b52d150b53b6d3039a87afec91", func := "courier/courierlaw10.SlotsScrub", spec := "slotsScrub", named := ["courier/api.ErrStore", "courier/api.ErrOff", "courier/api.ErrRange", "courier/api.ErrFull"], apart := false, laid := [("courier/api.ErrOff", laid_courier_api_ErrOff), ("courier/api.ErrRange", laid_courier_api_ErrRange), ("courier/api.ErrFull", laid_courier_api_ErrFull), ("courier/api.ErrStore", laid_courier_api_ErrStore)] }
def SlotsScrubSaid : Prop := slotsScrubRow.holds Tryd.pinned (OpenSpec.ofChange slotsScrubSpec)

/-- ITS FALSE NEIGHBOUR: 'it returns false'. Refute it at one input. -/
def slotsScrubWrong : ChangeSpec := { name := "slotsScrub", fn := fun _ => fun
  | [d1, d2] => { results := [.lit (.bool false)], args := [d1, d2] }
  | _ => none }
def SlotsScrubWrongFalsely : Prop := slotsScrubRow.holds Tryd.pinned (OpenSpec.ofChange slotsScrubWrong)

/-- 'courierlaw10.SlotsWhole': WHATEVER THE INPUT: true; the input reads as it did. -/
def slotsWholeSpec : ChangeSpec := { name := "slotsWhole", fn := fun _ => fun
  | [d1, d2, d3] => { results := [.lit (.bool true)], args := [d1, d2, d3] }
  | _ => none }
def slotsWholeRow : OpenClaim := { program := "ytkefbgkdkmkghaadoor", sum := "02be5f2eb0d34d39d31756c6efd479bec8eea7b52d150b53b6d3039a87afec91", func := "courier/courierlaw10.SlotsWhole", spec := "slotsWhole", named := ["courier/api.ErrStore", "courier/api.ErrOff", "courier/api.ErrRange", "courier/api.ErrFull", "courier/api.ErrShort", "courier/api.ErrTrail", "courier/api.ErrForm", "courier/api.ErrPanic", "courier/api.ErrTag", "courier/api.ErrGap", "courier/api.ErrOld", "courier/api.ErrKey", "courier/api.ErrRoot", "courier/api.ErrNone", "courier/api.ErrOpen", "courier/api.ErrDigest", "courier/api.ErrState", "courier/api.ErrLimit", "courier/api.ErrClosed"], apart := false, laid := [("courier/api.ErrOff", laid_courier_api_ErrOff), ("courier/api.ErrRange", laid_courier_api_ErrRange), ("courier/api.ErrShort", laid_courier_api_ErrShort), ("courier/api.ErrTrail", laid_courier_api_ErrTrail), ("courier/api.ErrForm", laid_courier_api_ErrForm), ("courier/api.ErrPanic", laid_courier_api_ErrPanic), ("courier/api.ErrFull", laid_courier_api_ErrFull), ("courier/api.ErrStore", laid_courier_api_ErrStore), ("courier/api.ErrTag", laid_courier_api_ErrTag), ("courier/api.ErrGap", laid_courier_api_ErrGap), ("courier/api.ErrOld", laid_courier_api_ErrOld), ("courier/api.ErrKey", laid_courier_api_ErrKey), ("courier/api.ErrRoot", laid_courier_api_ErrRoot), ("courier/api.ErrNone", laid_courier_api_ErrNone), ("courier/api.ErrOpen", laid_courier_api_ErrOpen), ("courier/api.ErrDigest", laid_courier_api_ErrDigest), ("courier/api.ErrState", laid_courier_api_ErrState), ("courier/api.ErrLimit", laid_courier_api_ErrLimit), ("courier/api.ErrClosed", laid_courier_api_ErrClosed)] }
def SlotsWholeSaid : Prop := slotsWholeRow.holds Tryd.pinned (OpenSpec.ofChange slotsWholeSpec)

/-- ITS FALSE NEIGHBOUR: 'it returns false'. Refute it at one input. -/
def slotsWholeWrong : ChangeSpec := { name := "slotsWhole", fn := fun _ => fun
  | [d1, d2, d3] => { results := [.lit (.bool false)], args := [d1, d2, d3] }
  | _ => none }
def SlotsWholeWrongFalsely : Prop := slotsWholeRow.holds Tryd.pinned (OpenSpec.ofChange slotsWholeWrong)

/-- 'courierlaw10.SlotsForget': WHATEVER THE INPUT: true; the input reads as it did. -/
def slotsForgetSpec : ChangeSpec := { name := "slotsForget", fn := fun _ => fun
  | [d1, d2, d3, d4, d5, d6] => { results := [.lit (.bool true)], args := [d1, d2, d3, d4, d5, d6] }
  | _ => none }
def slotsForgetRow : OpenClaim := { program := "ytkefbgkdkmkghaadoor", sum := "02be5f2eb0d34d39d31756c6efd479bec8eea7b52d150b53b6d3039a87afec91", func := "courier/courierlaw10.SlotsForget", spec := "slotsForget", named := ["courier/api.ErrStore", "courier/api.ErrOff", "courier/api.ErrRange", "courier/api.ErrFull"], apart := false, laid := [("courier/api.ErrOff", laid_courier_api_ErrOff), ("courier/api.ErrRange", laid_courier_api_ErrRange), ("courier/api.ErrFull", laid_courier_api_ErrFull), ("courier/api.ErrStore", laid_courier_api_ErrStore)] }
def SlotsForgetSaid : Prop := slotsForgetRow.holds Tryd.pinned (OpenSpec.ofChange slotsForgetSpec)

/-- ITS FALSE NEIGHBOUR: 'it returns false'. Refute it at one input. -/
def slotsForgetWrong : ChangeSpec := { name := "slotsForget", fn := fun _ => fun
  | [d1, d2, d3, d4, d5, d6] => { results := [.lit (.bool false)], args := [d1, d2, d3, d4, d5, d6] }
  | _ => none }
def SlotsForgetWrongFalsely : Prop := slotsForgetRow.holds Tryd.pinned (OpenSpec.ofChange slotsForgetWrong)

/-- 'courierlaw10.SlotsPlay': WHATEVER THE INPUT: true; the input reads as it did. -/
def slotsPlaySpec : ChangeSpec := { name := "slotsPlay", fn := fun _ => fun
  | [d1, d2] => { results := [.lit (.bool true)], args := [d1, d2] }
  | _ => none }
def slotsPlayRow : OpenClaim := { program := "ytkefbgkdkmkghaadoor", sum := "02be5f2eb0d34d39d31756c6efd479bec8eea7b52d150b53b6d3039a87afec91", func := "courier/courierlaw10.SlotsPlay", spec := "slotsPlay", named := ["courier/api.ErrStore", "courier/api.ErrOff", "courier/api.ErrRange", "courier/api.ErrFull", "courier/api.ErrShort", "courier/api.ErrTrail", "courier/api.ErrForm", "courier/api.ErrPanic", "courier/api.ErrTag", "courier/api.ErrGap", "courier/api.ErrOld", "courier/api.ErrKey", "courier/api.ErrRoot", "courier/api.ErrNone", "courier/api.ErrOpen", "courier/api.ErrDigest", "courier/api.ErrState", "courier/api.ErrLimit", "courier/api.ErrClosed"], apart := false, laid := [("courier/api.ErrOff", laid_courier_api_ErrOff), ("courier/api.ErrRange", laid_courier_api_ErrRange), ("courier/api.ErrShort", laid_courier_api_ErrShort), ("courier/api.ErrTrail", laid_courier_api_ErrTrail), ("courier/api.ErrForm", laid_courier_api_ErrForm), ("courier/api.ErrPanic", laid_courier_api_ErrPanic), ("courier/api.ErrFull", laid_courier_api_ErrFull), ("courier/api.ErrStore", laid_courier_api_ErrStore), ("courier/api.ErrTag", laid_courier_api_ErrTag), ("courier/api.ErrGap", laid_courier_api_ErrGap), ("courier/api.ErrOld", laid_courier_api_ErrOld), ("courier/api.ErrKey", laid_courier_api_ErrKey), ("courier/api.ErrRoot", laid_courier_api_ErrRoot), ("courier/api.ErrNone", laid_courier_api_ErrNone), ("courier/api.ErrOpen", laid_courier_api_ErrOpen), ("courier/api.ErrDigest", laid_courier_api_ErrDigest), ("courier/api.ErrState", laid_courier_api_ErrState), ("courier/api.ErrLimit", laid_courier_api_ErrLimit), ("courier/api.ErrClosed", laid_courier_api_ErrClosed)] }
def SlotsPlaySaid : Prop := slotsPlayRow.holds Tryd.pinned (OpenSpec.ofChange slotsPlaySpec)

/-- ITS FALSE NEIGHBOUR: 'it returns false'. Refute it at one input. -/
def slotsPlayWrong : ChangeSpec := { name := "slotsPlay", fn := fun _ => fun
  | [d1, d2] => { results := [.lit (.bool false)], args := [d1, d2] }
  | _ => none }
def SlotsPlayWrongFalsely : Prop := slotsPlayRow.holds Tryd.pinned (OpenSpec.ofChange slotsPlayWrong)

/- THE SECOND FORM. 'bulk': how many values and letters a reading holds, each counted each time it is reached (what is shared counts as often as it is met; a slice's spare places count too). A statement '..UptoSaid' is the law's where the arguments, and the package variables that the reading takes, are together of bulk at most 1048576: NARROWER than '..Said'. Prove '..Said' where nothing that the law and all that it calls make is longer than what came in: it says more and counts as full. Else prove '..UptoSaid'. A law counts once. -/
mutual
def uptoBulk {H : Type} : DataW H → Nat
  | .lit (.string bytes) => bytes.length + 1
  | .lit _ => 1
  | .nil => 1
  | .ptr d => uptoBulk d + 1
  | .slice elems spare => uptoBulkAll elems + uptoBulkAll spare + 1
  | .agg parts => uptoBulkAll parts + 1
  | .iface _ d => uptoBulk d + 1
  | .map entries => uptoBulkEntries entries + 1
  | .held _ => 1
def uptoBulkAll {H : Type} : List (DataW H) → Nat
  | [] => 0
  | d :: r => uptoBulk d + uptoBulkAll r
def uptoBulkEntries {H : Type} : List (Lit × DataW H) → Nat
  | [] => 0
  | x :: r => uptoBulkEntry x + uptoBulkEntries r
def uptoBulkEntry {H : Type} : Lit × DataW H → Nat
  | (.string bytes, d) => bytes.length + uptoBulk d + 1
  | (_, d) => uptoBulk d + 1
 end
def uptoSmall : (H : Type) → List (DataW H) → Bool := fun _ ds => decide (uptoBulkAll ds ≤ 1048576)
def OpenSpec.upto (s : _root_.Go.ChangeSpec) : _root_.Go.OpenSpec := { _root_.Go.OpenSpec.ofChange s with cond := some uptoSmall }

/-- 'courierlaw9.DiskOwn', WHERE WHAT IT READS IS OF BULK AT MOST 1048576: true; the input reads as it did. -/
def diskOwnUptoRow : OpenClaim := { program := "ytkefbgkdkmkghaadoor", sum := "02be5f2eb0d34d39d31756c6efd479bec8eea7b52d150b53b6d3039a87afec91", func := "courier/courierlaw9.DiskOwn", spec := "diskOwn", named := ["courier/api.ErrOff", "courier/api.ErrRange", "courier/api.ErrShort", "courier/api.ErrTrail", "courier/api.ErrForm", "courier/api.ErrPanic", "courier/api.ErrFull", "courier/api.ErrStore", "courier/api.ErrTag", "courier/api.ErrGap", "courier/api.ErrOld", "courier/api.ErrKey", "courier/api.ErrRoot", "courier/api.ErrNone", "courier/api.ErrOpen", "courier/api.ErrDigest", "courier/api.ErrState", "courier/api.ErrLimit", "courier/api.ErrClosed"], apart := false, laid := [("courier/api.ErrOff", laid_courier_api_ErrOff), ("courier/api.ErrRange", laid_courier_api_ErrRange), ("courier/api.ErrShort", laid_courier_api_ErrShort), ("courier/api.ErrTrail", laid_courier_api_ErrTrail), ("courier/api.ErrForm", laid_courier_api_ErrForm), ("courier/api.ErrPanic", laid_courier_api_ErrPanic), ("courier/api.ErrFull", laid_courier_api_ErrFull), ("courier/api.ErrStore", laid_courier_api_ErrStore), ("courier/api.ErrTag", laid_courier_api_ErrTag), ("courier/api.ErrGap", laid_courier_api_ErrGap), ("courier/api.ErrOld", laid_courier_api_ErrOld), ("courier/api.ErrKey", laid_courier_api_ErrKey), ("courier/api.ErrRoot", laid_courier_api_ErrRoot), ("courier/api.ErrNone", laid_courier_api_ErrNone), ("courier/api.ErrOpen", laid_courier_api_ErrOpen), ("courier/api.ErrDigest", laid_courier_api_ErrDigest), ("courier/api.ErrState", laid_courier_api_ErrState), ("courier/api.ErrLimit", laid_courier_api_ErrLimit), ("courier/api.ErrClosed", laid_courier_api_ErrClosed)], narrowed := true }
def DiskOwnUptoSaid : Prop := diskOwnUptoRow.holds Tryd.pinned (OpenSpec.upto diskOwnSpec)

/-- 'courierlaw9.DiskKeeps', WHERE WHAT IT READS IS OF BULK AT MOST 1048576: true; the input reads as it did. -/
def diskKeepsUptoRow : OpenClaim := { program := "ytkefbgkdkmkghaadoor", sum := "02be5f2eb0d34d39d31756c6efd479bec8eea7b52d150b53b6d3039a87afec91", func := "courier/courierlaw9.DiskKeeps", spec := "diskKeeps", named := ["courier/api.ErrOff", "courier/api.ErrRange"], apart := false, laid := [("courier/api.ErrOff", laid_courier_api_ErrOff), ("courier/api.ErrRange", laid_courier_api_ErrRange)], narrowed := true }
def DiskKeepsUptoSaid : Prop := diskKeepsUptoRow.holds Tryd.pinned (OpenSpec.upto diskKeepsSpec)

/-- 'courierlaw9.DiskPlays', WHERE WHAT IT READS IS OF BULK AT MOST 1048576: true; the input reads as it did. -/
def diskPlaysUptoRow : OpenClaim := { program := "ytkefbgkdkmkghaadoor", sum := "02be5f2eb0d34d39d31756c6efd479bec8eea7b52d150b53b6d3039a87afec91", func := "courier/courierlaw9.DiskPlays", spec := "diskPlays", named := ["courier/api.ErrOff", "courier/api.ErrRange", "courier/api.ErrShort", "courier/api.ErrTrail", "courier/api.ErrForm", "courier/api.ErrPanic", "courier/api.ErrFull", "courier/api.ErrStore", "courier/api.ErrTag", "courier/api.ErrGap", "courier/api.ErrOld", "courier/api.ErrKey", "courier/api.ErrRoot", "courier/api.ErrNone", "courier/api.ErrOpen", "courier/api.ErrDigest", "courier/api.ErrState", "courier/api.ErrLimit", "courier/api.ErrClosed"], apart := false, laid := [("courier/api.ErrOff", laid_courier_api_ErrOff), ("courier/api.ErrRange", laid_courier_api_ErrRange), ("courier/api.ErrShort", laid_courier_api_ErrShort), ("courier/api.ErrTrail", laid_courier_api_ErrTrail), ("courier/api.ErrForm", laid_courier_api_ErrForm), ("courier/api.ErrPanic", laid_courier_api_ErrPanic), ("courier/api.ErrFull", laid_courier_api_ErrFull), ("courier/api.ErrStore", laid_courier_api_ErrStore), ("courier/api.ErrTag", laid_courier_api_ErrTag), ("courier/api.ErrGap", laid_courier_api_ErrGap), ("courier/api.ErrOld", laid_courier_api_ErrOld), ("courier/api.ErrKey", laid_courier_api_ErrKey), ("courier/api.ErrRoot", laid_courier_api_ErrRoot), ("courier/api.ErrNone", laid_courier_api_ErrNone), ("courier/api.ErrOpen", laid_courier_api_ErrOpen), ("courier/api.ErrDigest", laid_courier_api_ErrDigest), ("courier/api.ErrState", laid_courier_api_ErrState), ("courier/api.ErrLimit", laid_courier_api_ErrLimit), ("courier/api.ErrClosed", laid_courier_api_ErrClosed)], narrowed := true }
def DiskPlaysUptoSaid : Prop := diskPlaysUptoRow.holds Tryd.pinned (OpenSpec.upto diskPlaysSpec)

/-- 'courierlaw9.DiskFuses', WHERE WHAT IT READS IS OF BULK AT MOST 1048576: true; the input reads as it did. -/
def diskFusesUptoRow : OpenClaim := { program := "ytkefbgkdkmkghaadoor", sum := "02be5f2eb0d34d39d31756c6efd479bec8eea7b52d150b53b6d3039a87afec91", func := "courier/courierlaw9.DiskFuses", spec := "diskFuses", named := ["courier/api.ErrOff", "courier/api.ErrRange", "courier/api.ErrShort", "courier/api.ErrTrail", "courier/api.ErrForm", "courier/api.ErrPanic", "courier/api.ErrFull", "courier/api.ErrStore", "courier/api.ErrTag", "courier/api.ErrGap", "courier/api.ErrOld", "courier/api.ErrKey", "courier/api.ErrRoot", "courier/api.ErrNone", "courier/api.ErrOpen", "courier/api.ErrDigest", "courier/api.ErrState", "courier/api.ErrLimit", "courier/api.ErrClosed"], apart := false, laid := [("courier/api.ErrOff", laid_courier_api_ErrOff), ("courier/api.ErrRange", laid_courier_api_ErrRange), ("courier/api.ErrShort", laid_courier_api_ErrShort), ("courier/api.ErrTrail", laid_courier_api_ErrTrail), ("courier/api.ErrForm", laid_courier_api_ErrForm), ("courier/api.ErrPanic", laid_courier_api_ErrPanic), ("courier/api.ErrFull", laid_courier_api_ErrFull), ("courier/api.ErrStore", laid_courier_api_ErrStore), ("courier/api.ErrTag", laid_courier_api_ErrTag), ("courier/api.ErrGap", laid_courier_api_ErrGap), ("courier/api.ErrOld", laid_courier_api_ErrOld), ("courier/api.ErrKey", laid_courier_api_ErrKey), ("courier/api.ErrRoot", laid_courier_api_ErrRoot), ("courier/api.ErrNone", laid_courier_api_ErrNone), ("courier/api.ErrOpen", laid_courier_api_ErrOpen), ("courier/api.ErrDigest", laid_courier_api_ErrDigest), ("courier/api.ErrState", laid_courier_api_ErrState), ("courier/api.ErrLimit", laid_courier_api_ErrLimit), ("courier/api.ErrClosed", laid_courier_api_ErrClosed)], narrowed := true }
def DiskFusesUptoSaid : Prop := diskFusesUptoRow.holds Tryd.pinned (OpenSpec.upto diskFusesSpec)

/-- 'courierlaw10.SlotsHeads', WHERE WHAT IT READS IS OF BULK AT MOST 1048576: true; the input reads as it did. -/
def slotsHeadsUptoRow : OpenClaim := { program := "ytkefbgkdkmkghaadoor", sum := "02be5f2eb0d34d39d31756c6efd479bec8eea7b52d150b53b6d3039a87afec91", func := "courier/courierlaw10.SlotsHeads", spec := "slotsHeads", named := ["courier/api.ErrStore", "courier/api.ErrOff", "courier/api.ErrRange", "courier/api.ErrFull", "courier/api.ErrShort", "courier/api.ErrTrail", "courier/api.ErrForm", "courier/api.ErrPanic", "courier/api.ErrTag", "courier/api.ErrGap", "courier/api.ErrOld", "courier/api.ErrKey", "courier/api.ErrRoot", "courier/api.ErrNone", "courier/api.ErrOpen", "courier/api.ErrDigest", "courier/api.ErrState", "courier/api.ErrLimit", "courier/api.ErrClosed"], apart := false, laid := [("courier/api.ErrOff", laid_courier_api_ErrOff), ("courier/api.ErrRange", laid_courier_api_ErrRange), ("courier/api.ErrShort", laid_courier_api_ErrShort), ("courier/api.ErrTrail", laid_courier_api_ErrTrail), ("courier/api.ErrForm", laid_courier_api_ErrForm), ("courier/api.ErrPanic", laid_courier_api_ErrPanic), ("courier/api.ErrFull", laid_courier_api_ErrFull), ("courier/api.ErrStore", laid_courier_api_ErrStore), ("courier/api.ErrTag", laid_courier_api_ErrTag), ("courier/api.ErrGap", laid_courier_api_ErrGap), ("courier/api.ErrOld", laid_courier_api_ErrOld), ("courier/api.ErrKey", laid_courier_api_ErrKey), ("courier/api.ErrRoot", laid_courier_api_ErrRoot), ("courier/api.ErrNone", laid_courier_api_ErrNone), ("courier/api.ErrOpen", laid_courier_api_ErrOpen), ("courier/api.ErrDigest", laid_courier_api_ErrDigest), ("courier/api.ErrState", laid_courier_api_ErrState), ("courier/api.ErrLimit", laid_courier_api_ErrLimit), ("courier/api.ErrClosed", laid_courier_api_ErrClosed)], narrowed := true }
def SlotsHeadsUptoSaid : Prop := slotsHeadsUptoRow.holds Tryd.pinned (OpenSpec.upto slotsHeadsSpec)

/-- 'courierlaw10.SlotsRoom', WHERE WHAT IT READS IS OF BULK AT MOST 1048576: true; the input reads as it did. -/
def slotsRoomUptoRow : OpenClaim := { program := "ytkefbgkdkmkghaadoor", sum := "02be5f2eb0d34d39d31756c6efd479bec8eea7b52d150b53b6d3039a87afec91", func := "courier/courierlaw10.SlotsRoom", spec := "slotsRoom", named := ["courier/api.ErrStore", "courier/api.ErrOff", "courier/api.ErrRange", "courier/api.ErrFull", "courier/api.ErrShort", "courier/api.ErrTrail", "courier/api.ErrForm", "courier/api.ErrPanic", "courier/api.ErrTag", "courier/api.ErrGap", "courier/api.ErrOld", "courier/api.ErrKey", "courier/api.ErrRoot", "courier/api.ErrNone", "courier/api.ErrOpen", "courier/api.ErrDigest", "courier/api.ErrState", "courier/api.ErrLimit", "courier/api.ErrClosed"], apart := false, laid := [("courier/api.ErrOff", laid_courier_api_ErrOff), ("courier/api.ErrRange", laid_courier_api_ErrRange), ("courier/api.ErrShort", laid_courier_api_ErrShort), ("courier/api.ErrTrail", laid_courier_api_ErrTrail), ("courier/api.ErrForm", laid_courier_api_ErrForm), ("courier/api.ErrPanic", laid_courier_api_ErrPanic), ("courier/api.ErrFull", laid_courier_api_ErrFull), ("courier/api.ErrStore", laid_courier_api_ErrStore), ("courier/api.ErrTag", laid_courier_api_ErrTag), ("courier/api.ErrGap", laid_courier_api_ErrGap), ("courier/api.ErrOld", laid_courier_api_ErrOld), ("courier/api.ErrKey", laid_courier_api_ErrKey), ("courier/api.ErrRoot", laid_courier_api_ErrRoot), ("courier/api.ErrNone", laid_courier_api_ErrNone), ("courier/api.ErrOpen", laid_courier_api_ErrOpen), ("courier/api.ErrDigest", laid_courier_api_ErrDigest), ("courier/api.ErrState", laid_courier_api_ErrState), ("courier/api.ErrLimit", laid_courier_api_ErrLimit), ("courier/api.ErrClosed", laid_courier_api_ErrClosed)], narrowed := true }
def SlotsRoomUptoSaid : Prop := slotsRoomUptoRow.holds Tryd.pinned (OpenSpec.upto slotsRoomSpec)

/-- 'courierlaw10.SlotsScrub', WHERE WHAT IT READS IS OF BULK AT MOST 1048576: true; the input reads as it did. -/
def slotsScrubUptoRow : OpenClaim := { program := "ytkefbgkdkmkghaadoor", sum := "02be5f2eb0d34d39d31756c6efd479bec8eea7b52d150b53b6d3039a87afec91", func := "courier/courierlaw10.SlotsScrub", spec := "slotsScrub", named := ["courier/api.ErrStore", "courier/api.ErrOff", "courier/api.ErrRange", "courier/api.ErrFull"], apart := false, laid := [("courier/api.ErrOff", laid_courier_api_ErrOff), ("courier/api.ErrRange", laid_courier_api_ErrRange), ("courier/api.ErrFull", laid_courier_api_ErrFull), ("courier/api.ErrStore", laid_courier_api_ErrStore)], narrowed := true }
def SlotsScrubUptoSaid : Prop := slotsScrubUptoRow.holds Tryd.pinned (OpenSpec.upto slotsScrubSpec)

/-- 'courierlaw10.SlotsWhole', WHERE WHAT IT READS IS OF BULK AT MOST 1048576: true; the input reads as it did. -/
def slotsWholeUptoRow : OpenClaim := { program := "ytkefbgkdkmkghaadoor", sum := "02be5f2eb0d34d39d31756c6efd479bec8eea7b52d150b53b6d3039a87afec91", func := "courier/courierlaw10.SlotsWhole", spec := "slotsWhole", named := ["courier/api.ErrStore", "courier/api.ErrOff", "courier/api.ErrRange", "courier/api.ErrFull", "courier/api.ErrShort", "courier/api.ErrTrail", "courier/api.ErrForm", "courier/api.ErrPanic", "courier/api.ErrTag", "courier/api.ErrGap", "courier/api.ErrOld", "courier/api.ErrKey", "courier/api.ErrRoot", "courier/api.ErrNone", "courier/api.ErrOpen", "courier/api.ErrDigest", "courier/api.ErrState", "courier/api.ErrLimit", "courier/api.ErrClosed"], apart := false, laid := [("courier/api.ErrOff", laid_courier_api_ErrOff), ("courier/api.ErrRange", laid_courier_api_ErrRange), ("courier/api.ErrShort", laid_courier_api_ErrShort), ("courier/api.ErrTrail", laid_courier_api_ErrTrail), ("courier/api.ErrForm", laid_courier_api_ErrForm), ("courier/api.ErrPanic", laid_courier_api_ErrPanic), ("courier/api.ErrFull", laid_courier_api_ErrFull), ("courier/api.ErrStore", laid_courier_api_ErrStore), ("courier/api.ErrTag", laid_courier_api_ErrTag), ("courier/api.ErrGap", laid_courier_api_ErrGap), ("courier/api.ErrOld", laid_courier_api_ErrOld), ("courier/api.ErrKey", laid_courier_api_ErrKey), ("courier/api.ErrRoot", laid_courier_api_ErrRoot), ("courier/api.ErrNone", laid_courier_api_ErrNone), ("courier/api.ErrOpen", laid_courier_api_ErrOpen), ("courier/api.ErrDigest", laid_courier_api_ErrDigest), ("courier/api.ErrState", laid_courier_api_ErrState), ("courier/api.ErrLimit", laid_courier_api_ErrLimit), ("courier/api.ErrClosed", laid_courier_api_ErrClosed)], narrowed := true }
def SlotsWholeUptoSaid : Prop := slotsWholeUptoRow.holds Tryd.pinned (OpenSpec.upto slotsWholeSpec)

/-- 'courierlaw10.SlotsForget', WHERE WHAT IT READS IS OF BULK AT MOST 1048576: true; the input reads as it did. -/
def slotsForgetUptoRow : OpenClaim := { program := "ytkefbgkdkmkghaadoor", sum := "02be5f2eb0d34d39d31756c6efd479bec8eea7b52d150b53b6d3039a87afec91", func := "courier/courierlaw10.SlotsForget", spec := "slotsForget", named := ["courier/api.ErrStore", "courier/api.ErrOff", "courier/api.ErrRange", "courier/api.ErrFull"], apart := false, laid := [("courier/api.ErrOff", laid_courier_api_ErrOff), ("courier/api.ErrRange", laid_courier_api_ErrRange), ("courier/api.ErrFull", laid_courier_api_ErrFull), ("courier/api.ErrStore", laid_courier_api_ErrStore)], narrowed := true }
def SlotsForgetUptoSaid : Prop := slotsForgetUptoRow.holds Tryd.pinned (OpenSpec.upto slotsForgetSpec)

/-- 'courierlaw10.SlotsPlay', WHERE WHAT IT READS IS OF BULK AT MOST 1048576: true; the input reads as it did. -/
def slotsPlayUptoRow : OpenClaim := { program := "ytkefbgkdkmkghaadoor", sum := "02be5f2eb0d34d39d31756c6efd479bec8eea7b52d150b53b6d3039a87afec91", func := "courier/courierlaw10.SlotsPlay", spec := "slotsPlay", named := ["courier/api.ErrStore", "courier/api.ErrOff", "courier/api.ErrRange", "courier/api.ErrFull", "courier/api.ErrShort", "courier/api.ErrTrail", "courier/api.ErrForm", "courier/api.ErrPanic", "courier/api.ErrTag", "courier/api.ErrGap", "courier/api.ErrOld", "courier/api.ErrKey", "courier/api.ErrRoot", "courier/api.ErrNone", "courier/api.ErrOpen", "courier/api.ErrDigest", "courier/api.ErrState", "courier/api.ErrLimit", "courier/api.ErrClosed"], apart := false, laid := [("courier/api.ErrOff", laid_courier_api_ErrOff), ("courier/api.ErrRange", laid_courier_api_ErrRange), ("courier/api.ErrShort", laid_courier_api_ErrShort), ("courier/api.ErrTrail", laid_courier_api_ErrTrail), ("courier/api.ErrForm", laid_courier_api_ErrForm), ("courier/api.ErrPanic", laid_courier_api_ErrPanic), ("courier/api.ErrFull", laid_courier_api_ErrFull), ("courier/api.ErrStore", laid_courier_api_ErrStore), ("courier/api.ErrTag", laid_courier_api_ErrTag), ("courier/api.ErrGap", laid_courier_api_ErrGap), ("courier/api.ErrOld", laid_courier_api_ErrOld), ("courier/api.ErrKey", laid_courier_api_ErrKey), ("courier/api.ErrRoot", laid_courier_api_ErrRoot), ("courier/api.ErrNone", laid_courier_api_ErrNone), ("courier/api.ErrOpen", laid_courier_api_ErrOpen), ("courier/api.ErrDigest", laid_courier_api_ErrDigest), ("courier/api.ErrState", laid_courier_api_ErrState), ("courier/api.ErrLimit", laid_courier_api_ErrLimit), ("courier/api.ErrClosed", laid_courier_api_ErrClosed)], narrowed := true }
def SlotsPlayUptoSaid : Prop := slotsPlayUptoRow.holds Tryd.pinned (OpenSpec.upto slotsPlaySpec)

end Rows
end Go.Proofs.YtkefbgkdkmkghaaDoor
