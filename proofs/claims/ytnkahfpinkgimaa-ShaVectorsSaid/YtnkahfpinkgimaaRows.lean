/-
  No cell of these rows narrows 'for every input' (looked for: loops, veiled, ifaces, maps, wideKeys, modest, calm, conditions, laid).
  DERIVED. THE GIVEN ROWS OF THIS SEAT. 4 by the template 'for every input the law returns true; each argument reads behind the call as it read before'; 0 by the template 'total and deterministic' (their statements: YtnkahfpinkgimaaTotals.lean).
  GIVEN WITH THE SEED: the statements are not yours to turn. If you find one false, say at which input.
  Laid BY PROGRAM, IN A SANDBOX (cutbox-rows.mjs): the forced cells as the released guide's own fill.sh prints them over the translation ae57f67c01e021fc… (all of the seat's roots in one cut). By AI agents, Wed Nov 11 2026. No macro, syntax, notation, axiom, sorry.
-/
import Derived.Test.YtnkahfpinkgimaaChecked
import GoSem.Claim
import GoSem.ClaimJoined
import GoSem.ClaimMapViews
import Derived.JoinedTies
import Derived.KernelRfl
namespace Go.Proofs.Ytnkahfpinkgimaa
/- THE CELL 'sum', in the pinned program and in every row, IS THE sha256 OF THE DUMP (.gsa) THAT YtnkahfpinkgimaaProg.lean LOADS. Nothing in Lean hashes anything: it is a label: what it is worth is what the hold of that sum in a sandbox is worth. -/
noncomputable def Try.pinned : Pinned := { name := "ytnkahfpinkgimaa", sum := "ae57f67c01e021fcc24f8841d1a3faa361b6f5581c64b97ddf6651cebd6dc57e", checked := Try.checked }
namespace Rows
def none {H : Type} : Left H := { results := [], args := [] }

/-- 'courierlaw3.ShaSays': WHATEVER THE INPUT: true; the input reads as it did. -/
def shaSaysSpec : ChangeSpec := { name := "shaSays", fn := fun _ => fun
  | [d1, d2] => { results := [.lit (.bool true)], args := [d1, d2] }
  | _ => none }
def shaSaysRow : OpenClaim := { program := "ytnkahfpinkgimaa", sum := "ae57f67c01e021fcc24f8841d1a3faa361b6f5581c64b97ddf6651cebd6dc57e", func := "courier/courierlaw3.ShaSays", spec := "shaSays", apart := false }
def ShaSaysSaid : Prop := shaSaysRow.holds Try.pinned (OpenSpec.ofChange shaSaysSpec)

/-- ITS FALSE NEIGHBOUR: 'it returns false'. Refute it at one input. -/
def shaSaysWrong : ChangeSpec := { name := "shaSays", fn := fun _ => fun
  | [d1, d2] => { results := [.lit (.bool false)], args := [d1, d2] }
  | _ => none }
def ShaSaysWrongFalsely : Prop := shaSaysRow.holds Try.pinned (OpenSpec.ofChange shaSaysWrong)

/-- 'courierlaw3.ShaVectors': WHATEVER THE INPUT: true; the input reads as it did. -/
def shaVectorsSpec : ChangeSpec := { name := "shaVectors", fn := fun _ => fun
  | [d] => { results := [.lit (.bool true)], args := [d] }
  | _ => none }
def shaVectorsRow : OpenClaim := { program := "ytnkahfpinkgimaa", sum := "ae57f67c01e021fcc24f8841d1a3faa361b6f5581c64b97ddf6651cebd6dc57e", func := "courier/courierlaw3.ShaVectors", spec := "shaVectors", apart := false }
def ShaVectorsSaid : Prop := shaVectorsRow.holds Try.pinned (OpenSpec.ofChange shaVectorsSpec)

/-- ITS FALSE NEIGHBOUR: 'it returns false'. Refute it at one input. -/
def shaVectorsWrong : ChangeSpec := { name := "shaVectors", fn := fun _ => fun
  | [d] => { results := [.lit (.bool false)], args := [d] }
  | _ => none }
def ShaVectorsWrongFalsely : Prop := shaVectorsRow.holds Try.pinned (OpenSpec.ofChange shaVectorsWrong)

/-- 'courierlaw3.ShaOwn': WHATEVER THE INPUT: true; the input reads as it did. -/
def shaOwnSpec : ChangeSpec := { name := "shaOwn", fn := fun _ => fun
  | [d1, d2] => { results := [.lit (.bool true)], args := [d1, d2] }
  | _ => none }
def shaOwnRow : OpenClaim := { program := "ytnkahfpinkgimaa", sum := "ae57f67c01e021fcc24f8841d1a3faa361b6f5581c64b97ddf6651cebd6dc57e", func := "courier/courierlaw3.ShaOwn", spec := "shaOwn", apart := false }
def ShaOwnSaid : Prop := shaOwnRow.holds Try.pinned (OpenSpec.ofChange shaOwnSpec)

/-- ITS FALSE NEIGHBOUR: 'it returns false'. Refute it at one input. -/
def shaOwnWrong : ChangeSpec := { name := "shaOwn", fn := fun _ => fun
  | [d1, d2] => { results := [.lit (.bool false)], args := [d1, d2] }
  | _ => none }
def ShaOwnWrongFalsely : Prop := shaOwnRow.holds Try.pinned (OpenSpec.ofChange shaOwnWrong)

/-- 'courierlaw3.ShaLengths': WHATEVER THE INPUT: true; the input reads as it did. -/
def shaLengthsSpec : ChangeSpec := { name := "shaLengths", fn := fun _ => fun
  | [d1, d2] => { results := [.lit (.bool true)], args := [d1, d2] }
  | _ => none }
def shaLengthsRow : OpenClaim := { program := "ytnkahfpinkgimaa", sum := "ae57f67c01e021fcc24f8841d1a3faa361b6f5581c64b97ddf6651cebd6dc57e", func := "courier/courierlaw3.ShaLengths", spec := "shaLengths", apart := false }
def ShaLengthsSaid : Prop := shaLengthsRow.holds Try.pinned (OpenSpec.ofChange shaLengthsSpec)

/-- ITS FALSE NEIGHBOUR: 'it returns false'. Refute it at one input. -/
def shaLengthsWrong : ChangeSpec := { name := "shaLengths", fn := fun _ => fun
  | [d1, d2] => { results := [.lit (.bool false)], args := [d1, d2] }
  | _ => none }
def ShaLengthsWrongFalsely : Prop := shaLengthsRow.holds Try.pinned (OpenSpec.ofChange shaLengthsWrong)

/- THE SECOND FORM. 'bulk': how many values and letters a reading holds, each counted each time it is reached (what is shared counts as often as it is met; a slice's spare places count too). A statement '..UptoSaid' is the law's where the arguments, and the package variables that the reading takes, are together of bulk at most 1048576: NARROWER than '..Said'. Prove '..Said' where nothing that the law and all that it calls make is longer than what came in: it says more and counts as full. Else prove '..UptoSaid'. A law counts once. -/
mutual
def uptoBulk {H : Type} : DataW H → Nat
  | .lit (.string bytes) => bytes.length + 1
  | .lit _ => 1
  | .nil => 1
  | .ptr d => uptoBulk d + 1
  | .slice elems spare => uptoBulkAll elems + uptoBulkAll spare + 1
  | .agg parts => uptoBulkAll parts + 1
  | .iface _ d => uptoBulk d + 1
  | .map entries => uptoBulkEntries entries + 1
  | .held _ => 1
def uptoBulkAll {H : Type} : List (DataW H) → Nat
  | [] => 0
  | d :: r => uptoBulk d + uptoBulkAll r
def uptoBulkEntries {H : Type} : List (Lit × DataW H) → Nat
  | [] => 0
  | x :: r => uptoBulkEntry x + uptoBulkEntries r
def uptoBulkEntry {H : Type} : Lit × DataW H → Nat
  | (.string bytes, d) => bytes.length + uptoBulk d + 1
  | (_, d) => uptoBulk d + 1
 end
def uptoSmall : (H : Type) → List (DataW H) → Bool := fun _ ds => decide (uptoBulkAll ds ≤ 1048576)
def OpenSpec.upto (s : _root_.Go.ChangeSpec) : _root_.Go.OpenSpec := { _root_.Go.OpenSpec.ofChange s with cond := some uptoSmall }

/-- 'courierlaw3.ShaSays', WHERE WHAT IT READS IS OF BULK AT MOST 1048576: true; the input reads as it did. -/
def shaSaysUptoRow : OpenClaim := { program := "ytnkahfpinkgimaa", sum := "ae57f67c01e021fcc24f8841d1a3faa361b6f5581c64b97ddf6651cebd6dc57e", func := "courier/courierlaw3.ShaSays", spec := "shaSays", apart := false, narrowed := true }
def ShaSaysUptoSaid : Prop := shaSaysUptoRow.holds Try.pinned (OpenSpec.upto shaSaysSpec)

/-- 'courierlaw3.ShaVectors', WHERE WHAT IT READS IS OF BULK AT MOST 1048576: true; the input reads as it did. -/
def shaVectorsUptoRow : OpenClaim := { program := "ytnkahfpinkgimaa", sum := "ae57f67c01e021fcc24f8841d1a3faa361b6f5581c64b97ddf6651cebd6dc57e", func := "courier/courierlaw3.ShaVectors", spec := "shaVectors", apart := false, narrowed := true }
def ShaVectorsUptoSaid : Prop := shaVectorsUptoRow.holds Try.pinned (OpenSpec.upto shaVectorsSpec)

/-- 'courierlaw3.ShaOwn', WHERE WHAT IT READS IS OF BULK AT MOST 1048576: true; the input reads as it did. -/
def shaOwnUptoRow : OpenClaim := { program := "ytnkahfpinkgimaa", sum := "ae57f67c01e021fcc24f8841d1a3faa361b6f5581c64b97ddf6651cebd6dc57e", func := "courier/courierlaw3.ShaOwn", spec := "shaOwn", apart := false, narrowed := true }
def ShaOwnUptoSaid : Prop := shaOwnUptoRow.holds Try.pinned (OpenSpec.upto shaOwnSpec)

/-- 'courierlaw3.ShaLengths', WHERE WHAT IT READS IS OF BULK AT MOST 1048576: true; the input reads as it did. -/
def shaLengthsUptoRow : OpenClaim := { program := "ytnkahfpinkgimaa", sum := "ae57f67c01e021fcc24f8841d1a3faa361b6f5581c64b97ddf6651cebd6dc57e", func := "courier/courierlaw3.ShaLengths", spec := "shaLengths", apart := false, narrowed := true }
def ShaLengthsUptoSaid : Prop := shaLengthsUptoRow.holds Try.pinned (OpenSpec.upto shaLengthsSpec)

end Rows
end Go.Proofs.Ytnkahfpinkgimaa
