/-
  NARROWER THAN 'FOR EVERY INPUT', by the rows' own cells (each row's printed sentence says how): ChainRoots: laid · MacSays: laid · MacVectors: laid · MacPrefixes: laid · MacKeys: laid · MacEqual: laid · MacWipes: laid · ChainSays: laid · ChainRows: laid.
  DERIVED. THE GIVEN ROWS OF THIS SEAT. 9 by the template 'for every input the law returns true; each argument reads behind the call as it read before'; 0 by the template 'total and deterministic' (their statements: YtnkahfpinkgimaaDoorTotals.lean).
  GIVEN WITH THE SEED: the statements are not yours to turn. If you find one false, say at which input.
  Laid BY PROGRAM, IN A SANDBOX (cutbox-rows.mjs): the forced cells as the released guide's own fill.sh prints them over the translation 42ce840c219b93fa… (all of the seat's roots in one cut). By AI agents, Wed Nov 11 2026. No macro, syntax, notation, axiom, sorry.
-/
import Derived.Test.YtnkahfpinkgimaaDoorChecked
import GoSem.Claim
import GoSem.ClaimJoined
import GoSem.ClaimMapViews
import Derived.JoinedTies
import Derived.KernelRfl
namespace Go.Proofs.YtnkahfpinkgimaaDoor
/- THE CELL 'sum', in the pinned program and in every row, IS THE sha256 OF THE DUMP (.gsa) THAT YtnkahfpinkgimaaDoorProg.lean LOADS. Nothing in Lean hashes anything: it is a label: what it is worth is what the hold of that sum in a sandbox is worth. -/
noncomputable def Tryd.pinned : Pinned := { name := "ytnkahfpinkgimaadoor", sum := "42ce840c219b93faa880fbfbb94e21f74ae2801c74f0892ad59a21283d4a323b", checked := Tryd.checked }
namespace Rows
def none {H : Type} : Left H := { results := [], args := [] }

/- WHAT THE LISTED PACKAGE-LEVEL VARIABLES READ AS WHEN THE CALL BEGINS. Each datum BY PROGRAM (the guide's laid-datum.mjs) off the statement by which the dump's own 'gosem.cut.vars' lays the variable. In a bare row this is a premise. The card (YtnkahfpinkgimaaDoorCards.lean) ties it to the program's text. -/
def laid_courier_api_ErrRange {H : Type} : DataW H := .iface "*errors.errorString" (.ptr (.agg [.lit (.string [97, 32, 110, 117, 109, 98, 101, 114, 32, 111, 117, 116, 32, 111, 102, 32, 105, 116, 115, 32, 114, 97, 110, 103, 101])]))
def laid_courier_api_ErrOff {H : Type} : DataW H := .iface "*errors.errorString" (.ptr (.agg [.lit (.string [116, 104, 101, 114, 101, 32, 105, 115, 32, 110, 111, 32, 112, 111, 119, 101, 114])]))
def laid_courier_api_ErrShort {H : Type} : DataW H := .iface "*errors.errorString" (.ptr (.agg [.lit (.string [98, 121, 116, 101, 115, 32, 116, 104, 97, 116, 32, 101, 110, 100, 32, 116, 111, 111, 32, 101, 97, 114, 108, 121])]))
def laid_courier_api_ErrTrail {H : Type} : DataW H := .iface "*errors.errorString" (.ptr (.agg [.lit (.string [98, 121, 116, 101, 115, 32, 98, 101, 104, 105, 110, 100, 32, 116, 104, 101, 32, 101, 110, 100])]))
def laid_courier_api_ErrForm {H : Type} : DataW H := .iface "*errors.errorString" (.ptr (.agg [.lit (.string [110, 111, 116, 32, 97, 115, 32, 105, 116, 32, 115, 104, 111, 117, 108, 100, 32, 98, 101])]))
def laid_courier_api_ErrPanic {H : Type} : DataW H := .iface "*errors.errorString" (.ptr (.agg [.lit (.string [115, 111, 109, 101, 116, 104, 105, 110, 103, 32, 119, 101, 110, 116, 32, 119, 114, 111, 110, 103])]))
def laid_courier_api_ErrFull {H : Type} : DataW H := .iface "*errors.errorString" (.ptr (.agg [.lit (.string [116, 104, 101, 114, 101, 32, 105, 115, 32, 110, 111, 32, 114, 111, 111, 109])]))
def laid_courier_api_ErrStore {H : Type} : DataW H := .iface "*errors.errorString" (.ptr (.agg [.lit (.string [97, 32, 115, 116, 111, 114, 101, 32, 116, 104, 97, 116, 32, 99, 97, 110, 39, 116, 32, 98, 101])]))
def laid_courier_api_ErrTag {H : Type} : DataW H := .iface "*errors.errorString" (.ptr (.agg [.lit (.string [110, 111, 116, 32, 115, 101, 97, 108, 101, 100, 32, 98, 121, 32, 116, 104, 97, 116, 32, 107, 101, 121])]))
def laid_courier_api_ErrGap {H : Type} : DataW H := .iface "*errors.errorString" (.ptr (.agg [.lit (.string [116, 111, 111, 32, 109, 97, 110, 121, 32, 97, 114, 101, 32, 109, 105, 115, 115, 105, 110, 103])]))
def laid_courier_api_ErrOld {H : Type} : DataW H := .iface "*errors.errorString" (.ptr (.agg [.lit (.string [116, 104, 97, 116, 32, 119, 97, 115, 32, 116, 104, 101, 114, 101, 32, 97, 108, 114, 101, 97, 100, 121])]))
def laid_courier_api_ErrKey {H : Type} : DataW H := .iface "*errors.errorString" (.ptr (.agg [.lit (.string [110, 111, 32, 107, 101, 121, 32, 121, 101, 116])]))
def laid_courier_api_ErrRoot {H : Type} : DataW H := .iface "*errors.errorString" (.ptr (.agg [.lit (.string [97, 110, 111, 116, 104, 101, 114, 32, 114, 111, 111, 116])]))
def laid_courier_api_ErrNone {H : Type} : DataW H := .iface "*errors.errorString" (.ptr (.agg [.lit (.string [116, 104, 101, 114, 101, 32, 105, 115, 32, 110, 111, 110, 101])]))
def laid_courier_api_ErrOpen {H : Type} : DataW H := .iface "*errors.errorString" (.ptr (.agg [.lit (.string [105, 116, 32, 105, 115, 32, 116, 104, 101, 114, 101, 32, 97, 108, 114, 101, 97, 100, 121])]))
def laid_courier_api_ErrDigest {H : Type} : DataW H := .iface "*errors.errorString" (.ptr (.agg [.lit (.string [97, 110, 111, 116, 104, 101, 114, 32, 100, 105, 103, 101, 115, 116])]))
def laid_courier_api_ErrState {H : Type} : DataW H := .iface "*errors.errorString" (.ptr (.agg [.lit (.string [110, 111, 116, 32, 110, 111, 119])]))
def laid_courier_api_ErrLimit {H : Type} : DataW H := .iface "*errors.errorString" (.ptr (.agg [.lit (.string [109, 111, 114, 101, 32, 116, 104, 97, 110, 32, 109, 97, 121, 32, 98, 101])]))
def laid_courier_api_ErrClosed {H : Type} : DataW H := .iface "*errors.errorString" (.ptr (.agg [.lit (.string [99, 108, 111, 115, 101, 100])]))

/-- 'courierlaw12.ChainRoots': WHATEVER THE INPUT: true; the input reads as it did. -/
def chainRootsSpec : ChangeSpec := { name := "chainRoots", fn := fun _ => fun
  | [d1, d2] => { results := [.lit (.bool true)], args := [d1, d2] }
  | _ => none }
def chainRootsRow : OpenClaim := { program := "ytnkahfpinkgimaadoor", sum := "42ce840c219b93faa880fbfbb94e21f74ae2801c74f0892ad59a21283d4a323b", func := "courier/courierlaw12.ChainRoots", spec := "chainRoots", named := ["courier/api.ErrRange"], apart := false, laid := [("courier/api.ErrRange", laid_courier_api_ErrRange)] }
def ChainRootsSaid : Prop := chainRootsRow.holds Tryd.pinned (OpenSpec.ofChange chainRootsSpec)

/-- ITS FALSE NEIGHBOUR: 'it returns false'. Refute it at one input. -/
def chainRootsWrong : ChangeSpec := { name := "chainRoots", fn := fun _ => fun
  | [d1, d2] => { results := [.lit (.bool false)], args := [d1, d2] }
  | _ => none }
def ChainRootsWrongFalsely : Prop := chainRootsRow.holds Tryd.pinned (OpenSpec.ofChange chainRootsWrong)

/-- 'courierlaw4.MacSays': WHATEVER THE INPUT: true; the input reads as it did. -/
def macSaysSpec : ChangeSpec := { name := "macSays", fn := fun _ => fun
  | [d1, d2, d3, d4, d5] => { results := [.lit (.bool true)], args := [d1, d2, d3, d4, d5] }
  | _ => none }
def macSaysRow : OpenClaim := { program := "ytnkahfpinkgimaadoor", sum := "42ce840c219b93faa880fbfbb94e21f74ae2801c74f0892ad59a21283d4a323b", func := "courier/courierlaw4.MacSays", spec := "macSays", named := ["courier/api.ErrRange", "courier/api.ErrOff", "courier/api.ErrShort", "courier/api.ErrTrail", "courier/api.ErrForm", "courier/api.ErrPanic", "courier/api.ErrFull", "courier/api.ErrStore", "courier/api.ErrTag", "courier/api.ErrGap", "courier/api.ErrOld", "courier/api.ErrKey", "courier/api.ErrRoot", "courier/api.ErrNone", "courier/api.ErrOpen", "courier/api.ErrDigest", "courier/api.ErrState", "courier/api.ErrLimit", "courier/api.ErrClosed"], apart := false, laid := [("courier/api.ErrOff", laid_courier_api_ErrOff), ("courier/api.ErrRange", laid_courier_api_ErrRange), ("courier/api.ErrShort", laid_courier_api_ErrShort), ("courier/api.ErrTrail", laid_courier_api_ErrTrail), ("courier/api.ErrForm", laid_courier_api_ErrForm), ("courier/api.ErrPanic", laid_courier_api_ErrPanic), ("courier/api.ErrFull", laid_courier_api_ErrFull), ("courier/api.ErrStore", laid_courier_api_ErrStore), ("courier/api.ErrTag", laid_courier_api_ErrTag), ("courier/api.ErrGap", laid_courier_api_ErrGap), ("courier/api.ErrOld", laid_courier_api_ErrOld), ("courier/api.ErrKey", laid_courier_api_ErrKey), ("courier/api.ErrRoot", laid_courier_api_ErrRoot), ("courier/api.ErrNone", laid_courier_api_ErrNone), ("courier/api.ErrOpen", laid_courier_api_ErrOpen), ("courier/api.ErrDigest", laid_courier_api_ErrDigest), ("courier/api.ErrState", laid_courier_api_ErrState), ("courier/api.ErrLimit", laid_courier_api_ErrLimit), ("courier/api.ErrClosed", laid_courier_api_ErrClosed)] }
def MacSaysSaid : Prop := macSaysRow.holds Tryd.pinned (OpenSpec.ofChange macSaysSpec)

/-- ITS FALSE NEIGHBOUR: 'it returns false'. Refute it at one input. -/
def macSaysWrong : ChangeSpec := { name := "macSays", fn := fun _ => fun
  | [d1, d2, d3, d4, d5] => { results := [.lit (.bool false)], args := [d1, d2, d3, d4, d5] }
  | _ => none }
def MacSaysWrongFalsely : Prop := macSaysRow.holds Tryd.pinned (OpenSpec.ofChange macSaysWrong)

/-- 'courierlaw4.MacVectors': WHATEVER THE INPUT: true; the input reads as it did. -/
def macVectorsSpec : ChangeSpec := { name := "macVectors", fn := fun _ => fun
  | [d] => { results := [.lit (.bool true)], args := [d] }
  | _ => none }
def macVectorsRow : OpenClaim := { program := "ytnkahfpinkgimaadoor", sum := "42ce840c219b93faa880fbfbb94e21f74ae2801c74f0892ad59a21283d4a323b", func := "courier/courierlaw4.MacVectors", spec := "macVectors", named := ["courier/api.ErrRange"], apart := false, laid := [("courier/api.ErrRange", laid_courier_api_ErrRange)] }
def MacVectorsSaid : Prop := macVectorsRow.holds Tryd.pinned (OpenSpec.ofChange macVectorsSpec)

/-- ITS FALSE NEIGHBOUR: 'it returns false'. Refute it at one input. -/
def macVectorsWrong : ChangeSpec := { name := "macVectors", fn := fun _ => fun
  | [d] => { results := [.lit (.bool false)], args := [d] }
  | _ => none }
def MacVectorsWrongFalsely : Prop := macVectorsRow.holds Tryd.pinned (OpenSpec.ofChange macVectorsWrong)

/-- 'courierlaw4.MacPrefixes': WHATEVER THE INPUT: true; the input reads as it did. -/
def macPrefixesSpec : ChangeSpec := { name := "macPrefixes", fn := fun _ => fun
  | [d1, d2, d3, d4, d5] => { results := [.lit (.bool true)], args := [d1, d2, d3, d4, d5] }
  | _ => none }
def macPrefixesRow : OpenClaim := { program := "ytnkahfpinkgimaadoor", sum := "42ce840c219b93faa880fbfbb94e21f74ae2801c74f0892ad59a21283d4a323b", func := "courier/courierlaw4.MacPrefixes", spec := "macPrefixes", named := ["courier/api.ErrRange"], apart := false, laid := [("courier/api.ErrRange", laid_courier_api_ErrRange)] }
def MacPrefixesSaid : Prop := macPrefixesRow.holds Tryd.pinned (OpenSpec.ofChange macPrefixesSpec)

/-- ITS FALSE NEIGHBOUR: 'it returns false'. Refute it at one input. -/
def macPrefixesWrong : ChangeSpec := { name := "macPrefixes", fn := fun _ => fun
  | [d1, d2, d3, d4, d5] => { results := [.lit (.bool false)], args := [d1, d2, d3, d4, d5] }
  | _ => none }
def MacPrefixesWrongFalsely : Prop := macPrefixesRow.holds Tryd.pinned (OpenSpec.ofChange macPrefixesWrong)

/-- 'courierlaw4.MacKeys': WHATEVER THE INPUT: true; the input reads as it did. -/
def macKeysSpec : ChangeSpec := { name := "macKeys", fn := fun _ => fun
  | [d1, d2, d3] => { results := [.lit (.bool true)], args := [d1, d2, d3] }
  | _ => none }
def macKeysRow : OpenClaim := { program := "ytnkahfpinkgimaadoor", sum := "42ce840c219b93faa880fbfbb94e21f74ae2801c74f0892ad59a21283d4a323b", func := "courier/courierlaw4.MacKeys", spec := "macKeys", named := ["courier/api.ErrRange"], apart := false, laid := [("courier/api.ErrRange", laid_courier_api_ErrRange)] }
def MacKeysSaid : Prop := macKeysRow.holds Tryd.pinned (OpenSpec.ofChange macKeysSpec)

/-- ITS FALSE NEIGHBOUR: 'it returns false'. Refute it at one input. -/
def macKeysWrong : ChangeSpec := { name := "macKeys", fn := fun _ => fun
  | [d1, d2, d3] => { results := [.lit (.bool false)], args := [d1, d2, d3] }
  | _ => none }
def MacKeysWrongFalsely : Prop := macKeysRow.holds Tryd.pinned (OpenSpec.ofChange macKeysWrong)

/-- 'courierlaw4.MacEqual': WHATEVER THE INPUT: true; the input reads as it did. -/
def macEqualSpec : ChangeSpec := { name := "macEqual", fn := fun _ => fun
  | [d1, d2, d3] => { results := [.lit (.bool true)], args := [d1, d2, d3] }
  | _ => none }
def macEqualRow : OpenClaim := { program := "ytnkahfpinkgimaadoor", sum := "42ce840c219b93faa880fbfbb94e21f74ae2801c74f0892ad59a21283d4a323b", func := "courier/courierlaw4.MacEqual", spec := "macEqual", named := ["courier/api.ErrRange"], apart := false, laid := [("courier/api.ErrRange", laid_courier_api_ErrRange)] }
def MacEqualSaid : Prop := macEqualRow.holds Tryd.pinned (OpenSpec.ofChange macEqualSpec)

/-- ITS FALSE NEIGHBOUR: 'it returns false'. Refute it at one input. -/
def macEqualWrong : ChangeSpec := { name := "macEqual", fn := fun _ => fun
  | [d1, d2, d3] => { results := [.lit (.bool false)], args := [d1, d2, d3] }
  | _ => none }
def MacEqualWrongFalsely : Prop := macEqualRow.holds Tryd.pinned (OpenSpec.ofChange macEqualWrong)

/-- 'courierlaw4.MacWipes': WHATEVER THE INPUT: true; the input reads as it did. -/
def macWipesSpec : ChangeSpec := { name := "macWipes", fn := fun _ => fun
  | [d1, d2, d3] => { results := [.lit (.bool true)], args := [d1, d2, d3] }
  | _ => none }
def macWipesRow : OpenClaim := { program := "ytnkahfpinkgimaadoor", sum := "42ce840c219b93faa880fbfbb94e21f74ae2801c74f0892ad59a21283d4a323b", func := "courier/courierlaw4.MacWipes", spec := "macWipes", named := ["courier/api.ErrRange"], apart := false, laid := [("courier/api.ErrRange", laid_courier_api_ErrRange)] }
def MacWipesSaid : Prop := macWipesRow.holds Tryd.pinned (OpenSpec.ofChange macWipesSpec)

/-- ITS FALSE NEIGHBOUR: 'it returns false'. Refute it at one input. -/
def macWipesWrong : ChangeSpec := { name := "macWipes", fn := fun _ => fun
  | [d1, d2, d3] => { results := [.lit (.bool false)], args := [d1, d2, d3] }
  | _ => none }
def MacWipesWrongFalsely : Prop := macWipesRow.holds Tryd.pinned (OpenSpec.ofChange macWipesWrong)

/-- 'courierlaw12.ChainSays': WHATEVER THE INPUT: true; the input reads as it did. -/
def chainSaysSpec : ChangeSpec := { name := "chainSays", fn := fun _ => fun
  | [d1, d2, d3, d4] => { results := [.lit (.bool true)], args := [d1, d2, d3, d4] }
  | _ => none }
def chainSaysRow : OpenClaim := { program := "ytnkahfpinkgimaadoor", sum := "42ce840c219b93faa880fbfbb94e21f74ae2801c74f0892ad59a21283d4a323b", func := "courier/courierlaw12.ChainSays", spec := "chainSays", named := ["courier/api.ErrRange"], apart := false, laid := [("courier/api.ErrRange", laid_courier_api_ErrRange)] }
def ChainSaysSaid : Prop := chainSaysRow.holds Tryd.pinned (OpenSpec.ofChange chainSaysSpec)

/-- ITS FALSE NEIGHBOUR: 'it returns false'. Refute it at one input. -/
def chainSaysWrong : ChangeSpec := { name := "chainSays", fn := fun _ => fun
  | [d1, d2, d3, d4] => { results := [.lit (.bool false)], args := [d1, d2, d3, d4] }
  | _ => none }
def ChainSaysWrongFalsely : Prop := chainSaysRow.holds Tryd.pinned (OpenSpec.ofChange chainSaysWrong)

/-- 'courierlaw12.ChainRows': WHATEVER THE INPUT: true; the input reads as it did. -/
def chainRowsSpec : ChangeSpec := { name := "chainRows", fn := fun _ => fun
  | [d1, d2] => { results := [.lit (.bool true)], args := [d1, d2] }
  | _ => none }
def chainRowsRow : OpenClaim := { program := "ytnkahfpinkgimaadoor", sum := "42ce840c219b93faa880fbfbb94e21f74ae2801c74f0892ad59a21283d4a323b", func := "courier/courierlaw12.ChainRows", spec := "chainRows", named := ["courier/api.ErrRange"], apart := false, laid := [("courier/api.ErrRange", laid_courier_api_ErrRange)] }
def ChainRowsSaid : Prop := chainRowsRow.holds Tryd.pinned (OpenSpec.ofChange chainRowsSpec)

/-- ITS FALSE NEIGHBOUR: 'it returns false'. Refute it at one input. -/
def chainRowsWrong : ChangeSpec := { name := "chainRows", fn := fun _ => fun
  | [d1, d2] => { results := [.lit (.bool false)], args := [d1, d2] }
  | _ => none }
def ChainRowsWrongFalsely : Prop := chainRowsRow.holds Tryd.pinned (OpenSpec.ofChange chainRowsWrong)

/- THE SECOND FORM. 'bulk': how many values and letters a reading holds, each counted each time it is reached (what is shared counts as often as it is met; a slice's spare places count too). A statement '..UptoSaid' is the law's where the arguments, and the package variables that the reading takes, are together of bulk at most 1048576: NARROWER than '..Said'. Prove '..Said' where nothing that the law and all that it calls make is longer than what came in: it says more and counts as full. Else prove '..UptoSaid'. A law counts once. -/
mutual
def uptoBulk {H : Type} : DataW H → Nat
  | .lit (.string bytes) => bytes.length + 1
  | .lit _ => 1
  | .nil => 1
  | .ptr d => uptoBulk d + 1
  | .slice elems spare => uptoBulkAll elems + uptoBulkAll spare + 1
  | .agg parts => uptoBulkAll parts + 1
  | .iface _ d => uptoBulk d + 1
  | .map entries => uptoBulkEntries entries + 1
  | .held _ => 1
def uptoBulkAll {H : Type} : List (DataW H) → Nat
  | [] => 0
  | d :: r => uptoBulk d + uptoBulkAll r
def uptoBulkEntries {H : Type} : List (Lit × DataW H) → Nat
  | [] => 0
  | x :: r => uptoBulkEntry x + uptoBulkEntries r
def uptoBulkEntry {H : Type} : Lit × DataW H → Nat
  | (.string bytes, d) => bytes.length + uptoBulk d + 1
  | (_, d) => uptoBulk d + 1
 end
def uptoSmall : (H : Type) → List (DataW H) → Bool := fun _ ds => decide (uptoBulkAll ds ≤ 1048576)
def OpenSpec.upto (s : _root_.Go.ChangeSpec) : _root_.Go.OpenSpec := { _root_.Go.OpenSpec.ofChange s with cond := some uptoSmall }

/-- 'courierlaw12.ChainRoots', WHERE WHAT IT READS IS OF BULK AT MOST 1048576: true; the input reads as it did. -/
def chainRootsUptoRow : OpenClaim := { program := "ytnkahfpinkgimaadoor", sum := "42ce840c219b93faa880fbfbb94e21f74ae2801c74f0892ad59a21283d4a323b", func := "courier/courierlaw12.ChainRoots", spec := "chainRoots", named := ["courier/api.ErrRange"], apart := false, laid := [("courier/api.ErrRange", laid_courier_api_ErrRange)], narrowed := true }
def ChainRootsUptoSaid : Prop := chainRootsUptoRow.holds Tryd.pinned (OpenSpec.upto chainRootsSpec)

/-- 'courierlaw4.MacSays', WHERE WHAT IT READS IS OF BULK AT MOST 1048576: true; the input reads as it did. -/
def macSaysUptoRow : OpenClaim := { program := "ytnkahfpinkgimaadoor", sum := "42ce840c219b93faa880fbfbb94e21f74ae2801c74f0892ad59a21283d4a323b", func := "courier/courierlaw4.MacSays", spec := "macSays", named := ["courier/api.ErrRange", "courier/api.ErrOff", "courier/api.ErrShort", "courier/api.ErrTrail", "courier/api.ErrForm", "courier/api.ErrPanic", "courier/api.ErrFull", "courier/api.ErrStore", "courier/api.ErrTag", "courier/api.ErrGap", "courier/api.ErrOld", "courier/api.ErrKey", "courier/api.ErrRoot", "courier/api.ErrNone", "courier/api.ErrOpen", "courier/api.ErrDigest", "courier/api.ErrState", "courier/api.ErrLimit", "courier/api.ErrClosed"], apart := false, laid := [("courier/api.ErrOff", laid_courier_api_ErrOff), ("courier/api.ErrRange", laid_courier_api_ErrRange), ("courier/api.ErrShort", laid_courier_api_ErrShort), ("courier/api.ErrTrail", laid_courier_api_ErrTrail), ("courier/api.ErrForm", laid_courier_api_ErrForm), ("courier/api.ErrPanic", laid_courier_api_ErrPanic), ("courier/api.ErrFull", laid_courier_api_ErrFull), ("courier/api.ErrStore", laid_courier_api_ErrStore), ("courier/api.ErrTag", laid_courier_api_ErrTag), ("courier/api.ErrGap", laid_courier_api_ErrGap), ("courier/api.ErrOld", laid_courier_api_ErrOld), ("courier/api.ErrKey", laid_courier_api_ErrKey), ("courier/api.ErrRoot", laid_courier_api_ErrRoot), ("courier/api.ErrNone", laid_courier_api_ErrNone), ("courier/api.ErrOpen", laid_courier_api_ErrOpen), ("courier/api.ErrDigest", laid_courier_api_ErrDigest), ("courier/api.ErrState", laid_courier_api_ErrState), ("courier/api.ErrLimit", laid_courier_api_ErrLimit), ("courier/api.ErrClosed", laid_courier_api_ErrClosed)], narrowed := true }
def MacSaysUptoSaid : Prop := macSaysUptoRow.holds Tryd.pinned (OpenSpec.upto macSaysSpec)

/-- 'courierlaw4.MacVectors', WHERE WHAT IT READS IS OF BULK AT MOST 1048576: true; the input reads as it did. -/
def macVectorsUptoRow : OpenClaim := { program := "ytnkahfpinkgimaadoor", sum := "42ce840c219b93faa880fbfbb94e21f74ae2801c74f0892ad59a21283d4a323b", func := "courier/courierlaw4.MacVectors", spec := "macVectors", named := ["courier/api.ErrRange"], apart := false, laid := [("courier/api.ErrRange", laid_courier_api_ErrRange)], narrowed := true }
def MacVectorsUptoSaid : Prop := macVectorsUptoRow.holds Tryd.pinned (OpenSpec.upto macVectorsSpec)

/-- 'courierlaw4.MacPrefixes', WHERE WHAT IT READS IS OF BULK AT MOST 1048576: true; the input reads as it did. -/
def macPrefixesUptoRow : OpenClaim := { program := "ytnkahfpinkgimaadoor", sum := "42ce840c219b93faa880fbfbb94e21f74ae2801c74f0892ad59a21283d4a323b", func := "courier/courierlaw4.MacPrefixes", spec := "macPrefixes", named := ["courier/api.ErrRange"], apart := false, laid := [("courier/api.ErrRange", laid_courier_api_ErrRange)], narrowed := true }
def MacPrefixesUptoSaid : Prop := macPrefixesUptoRow.holds Tryd.pinned (OpenSpec.upto macPrefixesSpec)

/-- 'courierlaw4.MacKeys', WHERE WHAT IT READS IS OF BULK AT MOST 1048576: true; the input reads as it did. -/
def macKeysUptoRow : OpenClaim := { program := "ytnkahfpinkgimaadoor", sum := "42ce840c219b93faa880fbfbb94e21f74ae2801c74f0892ad59a21283d4a323b", func := "courier/courierlaw4.MacKeys", spec := "macKeys", named := ["courier/api.ErrRange"], apart := false, laid := [("courier/api.ErrRange", laid_courier_api_ErrRange)], narrowed := true }
def MacKeysUptoSaid : Prop := macKeysUptoRow.holds Tryd.pinned (OpenSpec.upto macKeysSpec)

/-- 'courierlaw4.MacEqual', WHERE WHAT IT READS IS OF BULK AT MOST 1048576: true; the input reads as it did. -/
def macEqualUptoRow : OpenClaim := { program := "ytnkahfpinkgimaadoor", sum := "42ce840c219b93faa880fbfbb94e21f74ae2801c74f0892ad59a21283d4a323b", func := "courier/courierlaw4.MacEqual", spec := "macEqual", named := ["courier/api.ErrRange"], apart := false, laid := [("courier/api.ErrRange", laid_courier_api_ErrRange)], narrowed := true }
def MacEqualUptoSaid : Prop := macEqualUptoRow.holds Tryd.pinned (OpenSpec.upto macEqualSpec)

/-- 'courierlaw4.MacWipes', WHERE WHAT IT READS IS OF BULK AT MOST 1048576: true; the input reads as it did. -/
def macWipesUptoRow : OpenClaim := { program := "ytnkahfpinkgimaadoor", sum := "42ce840c219b93faa880fbfbb94e21f74ae2801c74f0892ad59a21283d4a323b", func := "courier/courierlaw4.MacWipes", spec := "macWipes", named := ["courier/api.ErrRange"], apart := false, laid := [("courier/api.ErrRange", laid_courier_api_ErrRange)], narrowed := true }
def MacWipesUptoSaid : Prop := macWipesUptoRow.holds Tryd.pinned (OpenSpec.upto macWipesSpec)

/-- 'courierlaw12.ChainSays', WHERE WHAT IT READS IS OF BULK AT MOST 1048576: true; the input reads as it did. -/
def chainSaysUptoRow : OpenClaim := { program := "ytnkahfpinkgimaadoor", sum := "42ce840c219b93faa880fbfbb94e21f74ae2801c74f0892ad59a21283d4a323b", func := "courier/courierlaw12.ChainSays", spec := "chainSays", named := ["courier/api.ErrRange"], apart := false, laid := [("courier/api.ErrRange", laid_courier_api_ErrRange)], narrowed := true }
def ChainSaysUptoSaid : Prop := chainSaysUptoRow.holds Tryd.pinned (OpenSpec.upto chainSaysSpec)

/-- 'courierlaw12.ChainRows', WHERE WHAT IT READS IS OF BULK AT MOST 1048576: true; the input reads as it did. -/
def chainRowsUptoRow : OpenClaim := { program := "ytnkahfpinkgimaadoor", sum := "42ce840c219b93faa880fbfbb94e21f74ae2801c74f0892ad59a21283d4a323b", func := "courier/courierlaw12.ChainRows", spec := "chainRows", named := ["courier/api.ErrRange"], apart := false, laid := [("courier/api.ErrRange", laid_courier_api_ErrRange)], narrowed := true }
def ChainRowsUptoSaid : Prop := chainRowsUptoRow.holds Tryd.pinned (OpenSpec.upto chainRowsSpec)

end Rows
end Go.Proofs.YtnkahfpinkgimaaDoor
